/- Lists of Torsion that are our own. No condition. -/
import Derived.Test.YtbjohihngoghlaaFnH2
set_option linter.unusedVariables false
set_option linter.unusedSimpArgs false
namespace Go.Gl
open Go.Proofs Go.Proofs.Ytbjohihngoghlaa Go.Pl

def EO (n : Nat) (h : AH) (us : List Value) (t : STor × List Nat) : Prop := ∃ v, us = [.int .i64 t.1.free, v] ∧ OI n h v t.1.parts t.2
theorem EO.le {n : Nat} : ∀ h h' v x, Le h h' → EO n h v x → EO n h' v x := fun _ _ _ _ hl ⟨v, e, hr⟩ => ⟨v, e, OI.fr.le hr hl⟩
structure TO (n : Nat) (h : AH) (cells : List Value) (xs : List STor) (ps : List (STor × List Nat)) : Prop where
  fst : ps.map (·.1) = xs
  tell : TellN 2 (EO n) h cells ps
  nd : (ps.map (·.2)).flatten.Nodup
theorem TO.nil (n : Nat) (h : AH) : TO n h [] [] [] := ⟨rfl, TellN.nil h, by simp⟩
theorem TO.le {n : Nat} {h h' : AH} {cells : List Value} {xs : List STor} {ps : List (STor × List Nat)} (t : TO n h cells xs ps) (hl : Le h h') : TO n h' cells xs ps := ⟨t.fst, t.tell.le EO.le hl, t.nd⟩
theorem TO.known {n : Nat} {h : AH} {cells : List Value} {xs : List STor} {ps : List (STor × List Nat)} (t : TO n h cells xs ps) : ∀ i ∈ (ps.map (·.2)).flatten, n ≤ i ∧ look h i ≠ none := by
  intro i hi
  obtain ⟨m, hm, him⟩ := List.mem_flatten.1 hi
  obtain ⟨q, hq, rfl⟩ := List.mem_map.1 hm
  obtain ⟨k, hk⟩ := List.getElem?_of_mem hq
  obtain ⟨us, _, _, v, _, ho⟩ := t.tell.el k q hk
  obtain ⟨h1, blk, s, h2, _⟩ := OI.fr.leaf _ _ _ _ _ ho i him
  exact ⟨h1, by rw [h2]; simp⟩
theorem TO.snoc {n : Nat} {h h' : AH} {cells us : List Value} {xs : List STor} {ps : List (STor × List Nat)} {x : STor} {m : List Nat} (t : TO n h cells xs ps) (hl : Le h h') (hu : us.length = 2) (he : EO n h' us (x, m)) (hm : ∀ i ∈ m, look h i = none) : TO n h' (cells ++ us) (xs ++ [x]) (ps ++ [(x, m)]) := by
  refine ⟨by rw [List.map_append, t.fst]; rfl, (t.tell.le EO.le hl).snoc hu he, ?_⟩
  rw [List.map_append, List.flatten_append, List.nodup_append]
  obtain ⟨v, _, ho⟩ := he
  refine ⟨t.nd, by simpa using OI.fr.nd _ _ _ _ _ ho, fun a ha b hb e => ?_⟩
  subst e
  exact (t.known a ha).2 (hm a (by simpa using hb))
section
variable {M : Nat → Prop} {n : Nat} {hb h : AH} {Rs : List Res}
theorem SepM.rdO (S : SepM M n hb h Rs) (j : Nat) {v : Value} {k : Nat} {xs : List Int} (hj : gt Rs j = some (.rc tI 1 n v k (xs.map (.int .i64)))) (hm : k ≤ 9223372036854775807) : ∃ m, OI n h v xs m ∧ ∀ i ∈ m, look hb i = none := by
  obtain ⟨F, ⟨b, h1, h2⟩, _, hle, _, _⟩ := S.step hj
  rcases h1 with ⟨rfl, g1, g2⟩ | ⟨rfl, rfl, hx⟩
  · obtain ⟨hF, g1⟩ := only_some.1 g1
    have hk : k = xs.length := by simpa using g2.symm
    subst hk
    refine ⟨[b], Leaf.of g1 h2 hm 1, fun i hi => ?_⟩
    simp at hi
    subst hi
    cases e : look hb i with
    | none => rfl
    | some bb => exact absurd hF (hide_some.1 (hle.at_ _ _ e)).1
  · have : xs = [] := by simpa using hx
    subst this
    exact ⟨[], ⟨by simp, .inl ⟨rfl, rfl, Wk.nil _⟩⟩, fun i hi => by simp at hi⟩
end
/-- a list of Torsion of our own: l are the row's block and the blocks of the parts -/
def OTors (n : Nat) (h : AH) (v : Value) (xs : List STor) (l : List Nat) : Prop :=
  xs.length ≤ 9223372036854775807 ∧ ((xs = [] ∧ l = [] ∧ Wk v (.slice (some ⟨0, 0, none⟩) 0 0)) ∨
    ∃ b o blk ps, Wk v (.slice (some ⟨b, o, none⟩) xs.length 0) ∧ n ≤ b ∧ look h b = some blk ∧ blk.own = some (114, 2) ∧ o + xs.length * 2 ≤ blk.cells.length ∧ TO n h ((blk.cells.drop o).take (xs.length * 2)) xs ps ∧ l = b :: (ps.map (·.2)).flatten ∧ b ∉ (ps.map (·.2)).flatten)
section
variable {M : Nat → Prop} {n : Nat} {hb h : AH} {Rs : List Res}
theorem SepM.rdTO (S : SepM M n hb h Rs) (j : Nat) {v : Value} {k : Nat} {cells : List Value} {xs : List STor} {ps : List (STor × List Nat)} (hj : gt Rs j = some (.rc 114 2 n v k cells)) (ht : TO n hb cells xs ps) (hm : k ≤ 9223372036854775807) : ∃ l, OTors n h v xs l := by
  obtain ⟨F, ⟨b, h1, h2⟩, _, hle, _, _⟩ := S.step hj
  have hps : ps.length = xs.length := by rw [← ht.fst, List.length_map]
  have hcl := ht.tell.len
  rcases h1 with ⟨rfl, g1, g2⟩ | ⟨rfl, rfl, hx⟩
  · obtain ⟨hF, g1⟩ := only_some.1 g1
    have g2 : cells.length = k * 2 := g2
    have hk : xs.length = k := by omega
    refine ⟨_, by omega, .inr ⟨b, 0, _, ps, by rw [hk]; exact Wk.weak _ _ _ _, h2, g1, rfl, by show 0 + xs.length * 2 ≤ cells.length; omega, ?_, rfl, fun hi => ?_⟩⟩
    · rw [List.drop_zero, List.take_of_length_le (by show cells.length ≤ _; omega)]
      exact ht.le S.le
    · have := (ht.known b hi).2
      cases e : look hb b with
      | none => exact this e
      | some bb => exact (hide_some.1 (hle.at_ _ _ e)).1 hF
  · subst hx
    have hcl : 0 = ps.length * 2 := hcl
    have : xs = [] := List.length_eq_zero_iff.1 (by omega)
    subst this
    exact ⟨[], by simp, .inl ⟨rfl, rfl, Wk.nil _⟩⟩
end

theorem homologyIO_c (h : AH) (v : Value) (x : SWhole) (hx : RWhole h v x) (hk : wholeOk x = true) : ACalls Try.prog 75 [v] h (fun r h' => ∃ l, OTors h.length h' r (homol x) l ∧ Le h h') := by
  obtain ⟨b1, o1, b2, o2, kx, qx⟩ := hx.can
  refine (ACalls.wk (args' := [.agg #[.slice (some ⟨b1, o1, none⟩) x.dims.length 0, .slice (some ⟨b2, o2, none⟩) x.maps.length 0]]) ?_ (.cons kx .nil))
  refine ACalls.of Tt.tab Try.func75 rfl (by kernel_rfl) Try.ntmps75 _ rfl rfl (fun hw => ?_)
  have S := Sep.start h
  have c1 := RS.cells qx.1 rfl
  have hh := wholeOk_head hk
  have hlo := hh.lo
  have hhi := hh.hi
  have hlen := hh.len
  refine S.new fun b3 g S => ?_
  have hb := S.at_ 0 rfl
  have hg := S.le
  have hnl := S.nl
  have T := S.freeze
  clear S
  refine T.new fun b4 g2 T => ?_
  have T := T.bx_rc 0 (k := 0) rfl rfl
  refine LoadX.same (v := .slice (some ⟨b1, o1, none⟩) x.dims.length 0) (T.le.at_ _ _ hb) rfl ?_
  refine ⟨⟨[1, 2, 3, 12, 13, 14], fun n' vs g3 => ∃ (i b4 : Nat) (cells : List Value) (M : Nat → Prop) (hb' : AH) (ps : List (STor × List Nat)), n' = x.dims.length - i ∧ i ≤ x.dims.length ∧ Le g hb' ∧ SepM M h.length hb' g3 [.rc 114 2 h.length (.slice (some ⟨b4, 0, none⟩) i 1) i cells] ∧ TO h.length hb' cells (homN x i) ps ∧
    vs = [.pointer (some ⟨b3, 0, none⟩), .slice none 0 0, .slice (some ⟨b4, 0, none⟩) i 1, .slice (some ⟨b1, o1, none⟩) x.dims.length 0, .int .i64 x.dims.length, .int .i64 i], _, ⟨0, b4, [], _, _, [], rfl, Nat.zero_le _, Le.refl _, T, TO.nil _ _, rfl⟩, ?_⟩⟩
  rintro n' vs g3 ⟨i, b5, cells, M, hb', ps, rfl, hi, L, S, ht, rfl⟩
  have L3 := (hg.trans L).trans S.le
  refine BIf.mk (fun h2 => ?_) (fun h2 => ?_)
  · have hlt : i < x.dims.length := by simpa using h2
    refine IdxX.mk (by omega) (by omega) ?_
    refine c1.ith L3 hlt ?_
    have fd := hh.dims i
    have l1 := smAt_len hk i
    have l2 := fromAt_len hk i
    have e1 : fromAt x (i + 1) = smAt x i := by unfold fromAt; rw [if_neg (by omega), Nat.add_sub_cancel]
    refine LoadX.same (v := .agg #[.slice (some ⟨b1, o1, none⟩) x.dims.length 0, .slice (some ⟨b2, o2, none⟩) x.maps.length 0]) ((L.trans S.le).at_ _ _ hb) rfl ?_
    refine WR.as (r := ((i + 1 : Nat) : Int)) (by omega) ?_
    refine S.made OI.fr (smithOf_c _ _ x ⟨_, _, rfl, qx.le L3⟩ hk (i + 1) (by omega)) fun b6 o6 g S => ?_
    rw [e1]
    have L4 := (hg.trans L).trans S.le
    refine LoadX.same (v := .agg #[.slice (some ⟨b1, o1, none⟩) x.dims.length 0, .slice (some ⟨b2, o2, none⟩) x.maps.length 0]) ((L.trans S.le).at_ _ _ hb) rfl ?_
    refine S.made OI.fr (smithOf_c _ _ x ⟨_, _, rfl, qx.le L4⟩ hk i (by omega)) fun b7 o7 g S => ?_
    refine CallX.same (sizeI_c _ _ _ _ _) ?_
    rintro r g' ⟨rfl, rfl⟩
    refine WR.i64 ?_
    refine CallX.same (sizeI_c _ _ _ _ _) ?_
    rintro r g' ⟨rfl, rfl⟩
    refine WR.i64 ?_
    refine S.new fun b8 g S => ?_
    refine S.put 0 rfl fun g S => ?_
    have S := S.nilrc tI 1
    refine ⟨⟨[1, 2, 3, 7, 12, 13, 14, 33, 34, 35], fun n' vs g3 => ∃ (j k : Nat) (A : Option Addr) (c : Nat), n' = (smAt x i).length - j ∧ j ≤ (smAt x i).length ∧ k ≤ j ∧ SepM M h.length hb' g3 [.rc tI 1 h.length (.slice A k c) k ((((smAt x i).take j).filter big1).map (.int .i64)), .bx b8 114 2 [.int .i64 (ith x.dims i - (fromAt x i).length - (smAt x i).length), .slice A k c], .tr OI.fr h.length (.slice (some ⟨b7, o7, none⟩) (fromAt x i).length 0) (fromAt x i), .tr OI.fr h.length (.slice (some ⟨b6, o6, none⟩) (smAt x i).length 0) (smAt x i), .rc 114 2 h.length (.slice (some ⟨b5, 0, none⟩) i 1) i cells] ∧
      vs = [.pointer (some ⟨b3, 0, none⟩), .slice none 0 0, .slice (some ⟨b5, 0, none⟩) i 1, .pointer (some ⟨b8, 0, none⟩), .slice (some ⟨b1, o1, none⟩) x.dims.length 0, .int .i64 x.dims.length, .int .i64 i, .slice (some ⟨b6, o6, none⟩) (smAt x i).length 0, .int .i64 (smAt x i).length, .int .i64 j], _, ⟨0, 0, none, 0, rfl, Nat.zero_le _, Nat.le_refl _, S, rfl⟩, ?_⟩⟩
    rintro n' vs g3 ⟨j, k, A, c, rfl, hj, hkj, S, rfl⟩
    have cI : CS EI g3 b6 o6 (smAt x i) := S.cellsI 3 rfl
    refine BIf.mk (fun h3 => ?_) (fun h3 => ?_)
    · have h3 : j < (smAt x i).length := by simpa using h3
      have hf := filter_take (p := big1) h3
      refine IdxX.mk (by omega) (by omega) ?_
      refine cI.ith (Le.refl _) h3 ?_
      refine BIf.mk (fun h4 => ?_) (fun h4 => ?_)
      · have h4 : ith (smAt x i) j > 1 := by simpa using h4
        rw [show big1 (ith (smAt x i) j) = true from decide_eq_true h4, if_pos rfl] at hf
        refine LoadX.same (v := .slice A k c) (S.at_ 1 rfl) rfl ?_
        refine S.new fun b9 g S => ?_
        refine S.app 0 rfl rfl rfl (by omega) fun b10 g S => ?_
        refine S.put 1 rfl fun g S => ?_
        refine WR.i64 ?_
        exact ⟨(smAt x i).length - (j + 1), by omega, j + 1, k + 1, some ⟨b10, 0, none⟩, 1, rfl, h3, by omega, by rw [hf, List.map_append]; exact S, rfl⟩
      · have h4 : ¬ ith (smAt x i) j > 1 := by simpa using h4
        rw [show big1 (ith (smAt x i) j) = false from decide_eq_false h4, if_neg (by simp), List.append_nil] at hf
        refine WR.i64 ?_
        exact ⟨(smAt x i).length - (j + 1), by omega, j + 1, k, A, c, rfl, h3, by omega, by rw [hf]; exact S, rfl⟩
    · have hj2 : j = (smAt x i).length := by simp at h3; omega
      subst hj2
      rw [List.take_length] at S
      refine LoadX.same (v := .agg #[.int .i64 (ith x.dims i - (fromAt x i).length - (smAt x i).length), .slice A k c]) (S.at_ 1 rfl) rfl ?_
      refine S.new fun b9 g S => ?_
      refine S.app 4 rfl rfl rfl (by omega) fun b10 g S => ?_
      refine WR.i64 ?_
      obtain ⟨F, L1, S1, S2⟩ := S.alone 4 rfl
      obtain ⟨m, r1, r2⟩ := S1.rdO (xs := ((smAt x i).filter big1)) 0 rfl (by omega)
      refine ⟨x.dims.length - (i + 1), by omega, i + 1, b10, _, F, hide F g, ps ++ [(torAt x i, m)], rfl, hlt, L.trans L1, S2, ?_, rfl⟩
      rw [homN_succ]
      exact ht.snoc (x := torAt x i) L1 rfl ⟨_, rfl, r1⟩ r2
  · have hi2 : i = x.dims.length := by simp at h2; omega
    subst hi2
    obtain ⟨l, R⟩ := S.rdTO 0 rfl ht (by omega)
    exact FinX.here L3.len ⟨l, R, L3⟩

theorem l07HomologyO_c (h : AH) (v : Value) (x : SWhole) (hx : RWhole h v x) (hk : wholeOk x = true) : ACalls Try.prog 71 [v] h (fun r h' => ∃ l, OTors h.length h' r (homol x) l ∧ Le h h') := by
  obtain ⟨b1, o1, b2, o2, kx, qx⟩ := hx.can
  refine (ACalls.wk (args' := [.agg #[.slice (some ⟨b1, o1, none⟩) x.dims.length 0, .slice (some ⟨b2, o2, none⟩) x.maps.length 0]]) ?_ (.cons kx .nil))
  refine ACalls.of Tt.tab Try.func71 rfl (by kernel_rfl) Try.ntmps71 _ rfl rfl (fun hw => ?_)
  have S := Sep.start h
  have c1 := RS.cells qx.1 rfl
  have c2 := RS.cells qx.2 rfl
  have hh := wholeOk_head hk
  have hlo := hh.lo
  have hhi := hh.hi
  have hlen := hh.len
  refine S.new fun b3 g S => ?_
  have hb := S.at_ 0 rfl
  have hg := S.le
  have hnl := S.nl
  have T := S.freeze
  clear S
  refine T.new fun b4 g2 T => ?_
  have T := T.bx_rc 0 (k := 0) rfl rfl
  refine ⟨⟨[1, 2, 3, 4, 5], fun n' vs g3 => ∃ (i b4 : Nat) (cells : List Value) (M : Nat → Prop) (hb' : AH) (ps : List (STor × List Nat)), n' = x.dims.length - i ∧ i ≤ x.dims.length ∧ Le g hb' ∧ SepM M h.length hb' g3 [.rc 114 2 h.length (.slice (some ⟨b4, 0, none⟩) i 1) i cells] ∧ TO h.length hb' cells (homN x i) ps ∧
    vs = [.pointer (some ⟨b3, 0, none⟩), .slice none 0 0, .slice (some ⟨b4, 0, none⟩) i 1, .int .i64 (fromAt x i).length, .int .i64 i], _, ⟨0, b4, [], _, _, [], rfl, Nat.zero_le _, Le.refl _, T, TO.nil _ _, rfl⟩, ?_⟩⟩
  rintro n' vs g3 ⟨i, b5, cells, M, hb', ps, rfl, hi, L, S, ht, rfl⟩
  have L3 := (hg.trans L).trans S.le
  have d3 := (L.trans S.le).at_ _ _ hb
  refine LoadX.same (v := .slice (some ⟨b1, o1, none⟩) x.dims.length 0) d3 rfl ?_
  refine BIf.mk (fun h2 => ?_) (fun h2 => ?_)
  · have hlt : i < x.dims.length := by simpa using h2
    have fd := hh.dims i
    have l1 := smAt_len hk i
    have l2 := fromAt_len hk i
    have e1 : fromAt x (i + 1) = smAt x i := by unfold fromAt; rw [if_neg (by omega), Nat.add_sub_cancel]
    refine LoadX.same (v := .slice (some ⟨b1, o1, none⟩) x.dims.length 0) d3 rfl ?_
    refine IdxX.mk (by omega) (by omega) ?_
    refine c1.ith L3 hlt ?_
    refine WR.i64 ?_
    refine S.new fun b6 g S => ?_
    refine S.new fun b7 g S => ?_
    refine S.new fun b8 g S => ?_
    refine S.put 0 rfl fun g S => ?_
    have S := S.bx_rc 2 (k := 0) rfl rfl
    have L4 := (hg.trans L).trans S.le
    have d4 := (L.trans S.le).at_ _ _ hb
    refine WR.i64 ?_
    refine LoadX.same (v := .slice (some ⟨b1, o1, none⟩) x.dims.length 0) d4 rfl ?_
    refine BIf.mk (fun h3 => ?_) (fun h3 => ?_)
    · have h3 : i < x.maps.length := by simp at h3; omega
      have e2 : smAt x i = smith (mat x.maps i) := if_pos h3
      refine LoadX.same (v := .slice (some ⟨b2, o2, none⟩) x.maps.length 0) d4 rfl ?_
      refine IdxX.mk (by omega) (by omega) ?_
      refine c2.mat L4 h3 fun b9 o9 h9 => ?_
      refine S.made OI.fr (l07Smith_c _ _ (mat x.maps i) (RII.le _ _ _ _ L4 h9) (wmatOf hk h3)) fun b9 o9 g S => ?_
      rw [← e2] at S ⊢
      refine LoadX.same (v := .int .i64 (ith x.dims i - (fromAt x i).length)) (S.at_ 1 rfl) rfl ?_
      refine WR.i64 ?_
      refine S.put 1 rfl fun g S => ?_
      have S := S.drop 2
      refine ⟨⟨[1, 2, 3, 4, 5, 6, 7, 8], fun n' vs g3 => ∃ (j k b6 : Nat), n' = (smAt x i).length - j ∧ j ≤ (smAt x i).length ∧ k ≤ j ∧ SepM M h.length hb' g3 [.tr OI.fr h.length (.slice (some ⟨b9, o9, none⟩) (smAt x i).length 0) (smAt x i), .bx b8 114 2 [.int .i64 (ith x.dims i - (fromAt x i).length - (smAt x i).length), .slice (some ⟨b6, 0, none⟩) k 1], .rc tI 1 h.length (.slice (some ⟨b6, 0, none⟩) k 1) k ((((smAt x i).take j).filter big1).map (.int .i64)), .rc 114 2 h.length (.slice (some ⟨b5, 0, none⟩) i 1) i cells] ∧
        vs = [.pointer (some ⟨b3, 0, none⟩), .slice none 0 0, .slice (some ⟨b5, 0, none⟩) i 1, .int .i64 (smAt x i).length, .int .i64 i, .pointer (some ⟨b8, 0, none⟩), .slice (some ⟨b9, o9, none⟩) (smAt x i).length 0, .int .i64 j], _, ⟨0, 0, b6, rfl, Nat.zero_le _, Nat.le_refl _, S, rfl⟩, ?_⟩⟩
      rintro n' vs g3 ⟨j, k, b6, rfl, hj, hkj, S, rfl⟩
      have cI : CS EI g3 b9 o9 (smAt x i) := S.cellsI 0 rfl
      refine BIf.mk (fun h3 => ?_) (fun h3 => ?_)
      · have h3 : j < (smAt x i).length := by simpa using h3
        have hf := filter_take (p := big1) h3
        refine IdxX.mk (by omega) (by omega) ?_
        refine cI.ith (Le.refl _) h3 ?_
        refine BIf.mk (fun h4 => ?_) (fun h4 => ?_)
        · have h4 : ith (smAt x i) j > 1 := by simpa using h4
          rw [show big1 (ith (smAt x i) j) = true from decide_eq_true h4, if_pos rfl] at hf
          refine DrawX.of Tt.tab follows_any [6] [7, 9] [0, 1, 2, 3, 4, 5, 6, 7, 8, 9] rfl (by kernel_rfl) (by kernel_rfl) ?_
          refine LoadX.same (v := .slice (some ⟨b6, 0, none⟩) k 1) (S.at_ 1 rfl) rfl ?_
          refine IdxX.mk (by omega) (by omega) ?_
          refine cI.ith (Le.refl _) h3 ?_
          refine S.newL fun b10 g L S => ?_
          refine ⟨L, ?_⟩
          refine S.app 2 rfl rfl rfl (by omega) fun b11 g S => ?_
          refine S.put 1 rfl fun g S => ?_
          refine WR.i64 ?_
          exact ⟨(smAt x i).length - (j + 1), by omega, j + 1, k + 1, b11, rfl, h3, by omega, by rw [hf, List.map_append]; exact S, rfl⟩
        · have h4 : ¬ ith (smAt x i) j > 1 := by simpa using h4
          rw [show big1 (ith (smAt x i) j) = false from decide_eq_false h4, if_neg (by simp), List.append_nil] at hf
          refine WR.i64 ?_
          exact ⟨(smAt x i).length - (j + 1), by omega, j + 1, k, b6, rfl, h3, by omega, by rw [hf]; exact S, rfl⟩
      · have hj2 : j = (smAt x i).length := by simp at h3; omega
        subst hj2
        rw [List.take_length] at S
        refine LoadX.same (v := .agg #[.int .i64 (ith x.dims i - (fromAt x i).length - (smAt x i).length), .slice (some ⟨b6, 0, none⟩) k 1]) (S.at_ 1 rfl) rfl ?_
        refine S.new fun b9 g S => ?_
        refine S.app 3 rfl rfl rfl (by omega) fun b10 g S => ?_
        refine WR.i64 ?_
        obtain ⟨F, L1, S1, S2⟩ := S.alone 3 rfl
        obtain ⟨m, r1, r2⟩ := S1.rdO (xs := ((smAt x i).filter big1)) 2 rfl (by omega)
        refine ⟨x.dims.length - (i + 1), by omega, i + 1, b10, _, F, hide F g, ps ++ [(torAt x i, m)], rfl, hlt, L.trans L1, S2, ?_, by rw [e1]; rfl⟩
        rw [homN_succ]
        exact ht.snoc (x := torAt x i) L1 rfl ⟨_, rfl, r1⟩ r2
    · have h3 : ¬ i < x.maps.length := by simp at h3; omega
      have e2 : smAt x i = [] := if_neg h3
      refine LoadX.same (v := .int .i64 (ith x.dims i - (fromAt x i).length)) (S.at_ 0 rfl) rfl ?_
      refine WR.as (r := ith x.dims i - (fromAt x i).length) (by simp) ?_
      refine S.put 0 rfl fun g S => ?_
      refine ⟨⟨[1, 2, 3, 4, 5, 6, 7, 8], fun n' vs g4 => n' = 0 ∧ g4 = g ∧
        vs = [.pointer (some ⟨b3, 0, none⟩), .slice none 0 0, .slice (some ⟨b5, 0, none⟩) i 1, .int .i64 0, .int .i64 i, .pointer (some ⟨b8, 0, none⟩), .slice (some ⟨b7, 0, none⟩) 0 1, .int .i64 0], _, ⟨rfl, rfl, rfl⟩, ?_⟩⟩
      rintro n' vs g4 ⟨rfl, rfl, rfl⟩
      refine BIf.no rfl ?_
      refine LoadX.same (v := .agg #[.int .i64 (ith x.dims i - (fromAt x i).length), .slice (some ⟨b6, 0, none⟩) 0 1]) (S.at_ 0 rfl) rfl ?_
      refine S.new fun b9 g S => ?_
      refine S.app 3 rfl rfl rfl (by omega) fun b10 g S => ?_
      refine WR.i64 ?_
      obtain ⟨F, L1, S1, S2⟩ := S.alone 3 rfl
      obtain ⟨m, r1, r2⟩ := S1.rdO (xs := []) 2 rfl (by omega)
      refine ⟨x.dims.length - (i + 1), by omega, i + 1, b10, _, F, hide F g, ps ++ [(torAt x i, m)], rfl, hlt, L.trans L1, S2, ?_, by rw [e1, e2]; rfl⟩
      rw [homN_succ]
      have eT : EO h.length (hide F g) [.int .i64 (ith x.dims i - (fromAt x i).length), .slice (some ⟨b6, 0, none⟩) 0 1] (torAt x i, m) := by
        refine ⟨.slice (some ⟨b6, 0, none⟩) 0 1, ?_, ?_⟩
        · simp only [torAt, e2]; simp
        · simp only [torAt, e2]; exact r1
      exact ht.snoc (us := [.int .i64 (ith x.dims i - (fromAt x i).length), .slice (some ⟨b6, 0, none⟩) 0 1]) L1 rfl eT r2
  · have hi2 : i = x.dims.length := by simp at h2; omega
    subst hi2
    obtain ⟨l, R⟩ := S.rdTO 0 rfl ht (by omega)
    exact FinX.here L3.len ⟨l, R, L3⟩

end Go.Gl

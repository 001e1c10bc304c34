/- Chapter 7: homology of whole complexes. No condition. -/
import Derived.Test.YtbjohihngoghlaaFnD6
import Derived.Test.YtbjohihngoghlaaFnW3
import Derived.Test.YtbjohihngoghlaaPlT
import Derived.Test.YtbjohihngoghlaaGlX
set_option linter.unusedVariables false
set_option linter.unusedSimpArgs false
namespace Go.Gl
open Go.Proofs Go.Proofs.Ytbjohihngoghlaa Go.Pl

structure STor where
  free : Int
  parts : List Int
deriving DecidableEq
def ET (h : AH) (us : List Value) (t : STor) : Prop := ∃ v, us = [.int .i64 t.free, v] ∧ RI h v t.parts
abbrev RT := RN 2 ET
theorem ET.le : ∀ h h' v x, Le h h' → ET h v x → ET h' v x := fun _ _ _ _ hl ⟨v, e, hr⟩ => ⟨v, e, RI.le _ _ _ _ hl hr⟩
theorem RT.le : ∀ h h' v xs, Le h h' → RT h v xs → RT h' v xs := RN.le ET.le
def tor (xs : List STor) (i : Nat) : STor := xs.getD i ⟨0, []⟩
theorem tor_get {xs : List STor} {i : Nat} (h : i < xs.length) : xs[i]? = some (tor xs i) := by simp [tor, h]

/-- the Smith numbers of the matrix from the degree above n -/
def smAt (x : SWhole) (n : Nat) : List Int := if n < x.maps.length then smith (mat x.maps n) else []
def fromAt (x : SWhole) (n : Nat) : List Int := if n = 0 then [] else smAt x (n - 1)
def big1 (s : Int) : Bool := decide (s > 1)
def torAt (x : SWhole) (n : Nat) : STor := ⟨ith x.dims n - (fromAt x n).length - (smAt x n).length, (smAt x n).filter big1⟩
def homN (x : SWhole) (n : Nat) : List STor := (List.range n).map (torAt x)
def homol (x : SWhole) : List STor := homN x x.dims.length
theorem homN_succ (x : SWhole) (n : Nat) : homN x (n + 1) = homN x n ++ [torAt x n] := by simp [homN, List.range_succ]
theorem homN_length (x : SWhole) (n : Nat) : (homN x n).length = n := by simp [homN]
theorem homol_tor {x : SWhole} {n : Nat} (h : n < x.dims.length) : tor (homol x) n = torAt x n := by simp [tor, homol, homN, h]
theorem wid_of {m : Int} {rows : List (List Int)} (h : wmat m rows = true) (h0 : rows ≠ []) : (wid rows : Int) = m := by
  have h1 : 0 < rows.length := List.length_pos_iff.2 h0
  exact (wmat_row h h1).1
theorem wmatOf {x : SWhole} (hx : wholeOk x = true) {k : Nat} (hk : k < x.maps.length) : WMat (mat x.maps k) := by
  simp only [wholeOk, Bool.and_eq_true] at hx
  obtain ⟨⟨h1, h2⟩, _⟩ := hx
  obtain ⟨w1, w2⟩ := wShape_mk (allN_at h2 hk)
  have hh := wHead_mk h1
  have f1 := hh.dims (k + 1)
  have f2 := hh.dims k
  by_cases h0 : mat x.maps k = []
  · rw [h0]; exact ⟨by simp, by simp [wid, row], by simp [wmat]⟩
  · have hw := wid_of w2 h0
    exact ⟨by omega, by omega, by rw [hw]; exact w2⟩
theorem smAt_len {x : SWhole} (hx : wholeOk x = true) (n : Nat) : (smAt x n).length ≤ 6 := by
  unfold smAt
  split
  · rename_i h
    have h1 := (wmatOf hx h).few
    have h2 := smithF_len (mat x.maps n) (min (mat x.maps n).length (wid (mat x.maps n))) 1
    unfold smith
    omega
  · simp
theorem fromAt_len {x : SWhole} (hx : wholeOk x = true) (n : Nat) : (fromAt x n).length ≤ 6 := by
  unfold fromAt
  split
  · simp
  · exact smAt_len hx _
theorem gmin_le {rows : List (List Int)} (hm : WMat rows) (k : Nat) : gmin rows k ≤ 24794911296 :=
  gTab_le (by omega) fun l hl c hc => by
    obtain ⟨a1, a2⟩ := (mem_chI _ _ _).1 hl
    obtain ⟨b1, b2⟩ := (mem_chI _ _ _).1 hc
    have f1 := hm.few
    have f2 := hm.wide
    have g1 : k ≤ rows.length := by
      rcases Nat.lt_or_ge rows.length k with z | z
      · rw [chI_few z] at hl; cases hl
      · exact z
    exact minor_abs hm a2 b2 (by omega) (by omega)
theorem smAt_ok {x : SWhole} (hx : wholeOk x = true) (n : Nat) : (∀ s ∈ smAt x n, 1 ≤ s) ∧ prd (smAt x n) ≤ 24794911296 := by
  unfold smAt
  split
  · rename_i h
    exact smith_ok _ (gmin_le (wmatOf hx h))
  · exact ⟨fun s hs => (by cases hs), by simp [prd]⟩
/-- the head of a whole complex -/
theorem wholeOk_head {x : SWhole} (h : wholeOk x = true) : WHead x := by
  simp only [wholeOk, Bool.and_eq_true] at h
  exact wHead_mk h.1.1
theorem filter_take {p : Int → Bool} {xs : List Int} {i : Nat} (h : i < xs.length) : (xs.take (i + 1)).filter p = (xs.take i).filter p ++ (if p (ith xs i) then [ith xs i] else []) := by
  rw [List.take_succ_eq_append_getElem h, List.filter_append, ith_get h]
  congr 1
  by_cases hp : p (ith xs i) = true <;> simp [List.filter_cons, hp]

theorem smithOf_c (h : AH) (v : Value) (x : SWhole) (hx : RWhole h v x) (hk : wholeOk x = true) (n : Nat) (hn : n ≤ 100) : ACalls Try.prog 158 [v, .int .i64 n] h (Made OI h (fromAt x n)) := by
  obtain ⟨b1, o1, b2, o2, kx, qx⟩ := hx.can
  refine ACalls.madeI (ACalls.wk (args' := [.agg #[.slice (some ⟨b1, o1, none⟩) x.dims.length 0, .slice (some ⟨b2, o2, none⟩) x.maps.length 0], .int .i64 n]) ?_ (.cons kx (.cons (Wk.refl _) .nil)))
  refine ACalls.of Tt.tab Try.func158 rfl (by kernel_rfl) Try.ntmps158 _ rfl rfl (fun hw => ?_)
  have S := Sep.start h
  have c2 := RS.cells qx.2 rfl
  have hh := wholeOk_head hk
  have hlo := hh.lo
  have hhi := hh.hi
  have hlen := hh.len
  refine S.new fun b3 g S => ?_
  refine LoadX.same (v := .agg #[.slice (some ⟨b1, o1, none⟩) x.dims.length 0, .slice (some ⟨b2, o2, none⟩) x.maps.length 0]) (S.at_ 0 rfl) rfl ?_
  refine CallX.same (topW_c _ _ x ⟨_, _, rfl, qx.le S.le⟩) ?_
  rintro r g' ⟨rfl, rfl⟩
  refine CallX.same (between_c _ n 1 _) ?_
  rintro r g' ⟨rfl, rfl⟩
  refine BIf.mk (fun h1 => ?_) (fun h1 => ?_)
  · have h1 : decide (1 ≤ (n : Int) ∧ (n : Int) ≤ (x.dims.length : Int) - 1) = false := by simpa only [Bool.not_eq_true'] using h1
    have h1 := of_decide_eq_false h1
    have e : fromAt x n = [] := by
      unfold fromAt smAt
      split
      · rfl
      · rw [if_neg (by omega)]
    rw [e]
    exact FinX.here S.le.len ⟨[], ⟨by simp, .inl ⟨rfl, rfl, Wk.nil _⟩⟩, S.le⟩
  · have h1 : decide (1 ≤ (n : Int) ∧ (n : Int) ≤ (x.dims.length : Int) - 1) = true := by simpa only [Bool.not_eq_false'] using h1
    have h1 := of_decide_eq_true h1
    obtain ⟨m, rfl⟩ : ∃ m : Nat, n = m + 1 := ⟨n - 1, by omega⟩
    have hm : m < x.maps.length := by omega
    have e : fromAt x (m + 1) = smith (mat x.maps m) := by
      unfold fromAt smAt
      rw [if_neg (by omega), Nat.add_sub_cancel, if_pos hm]
    rw [e]
    refine LoadX.same (v := .slice (some ⟨b2, o2, none⟩) x.maps.length 0) (S.at_ 0 rfl) rfl ?_
    refine WR.as (r := (m : Int)) (by omega) ?_
    refine IdxX.mk (by omega) (by omega) ?_
    refine c2.mat S.le hm fun b4 o4 h4 => ?_
    refine S.made OI.fr (smith_c _ _ (mat x.maps m) (RII.le _ _ _ _ S.le h4) (wmatOf hk hm)) fun b5 o5 g S => ?_
    exact S.fin 0 rfl

theorem homologyI_c (h : AH) (v : Value) (x : SWhole) (hx : RWhole h v x) (hk : wholeOk x = true) : ACalls Try.prog 75 [v] h (ShownN 2 ET h (homol x)) := by
  obtain ⟨b1, o1, b2, o2, kx, qx⟩ := hx.can
  refine ACalls.shownN (ACalls.wk (args' := [.agg #[.slice (some ⟨b1, o1, none⟩) x.dims.length 0, .slice (some ⟨b2, o2, none⟩) x.maps.length 0]]) ?_ (.cons kx .nil))
  refine ACalls.of Tt.tab Try.func75 rfl (by kernel_rfl) Try.ntmps75 _ rfl rfl (fun hw => ?_)
  have S := Sep.start h
  have c1 := RS.cells qx.1 rfl
  have hh := wholeOk_head hk
  have hlo := hh.lo
  have hhi := hh.hi
  have hlen := hh.len
  refine S.new fun b3 g S => ?_
  have hb := S.at_ 0 rfl
  have hg := S.le
  have hnl := S.nl
  have T := S.freeze
  clear S
  refine T.new fun b4 g2 T => ?_
  have T := T.bx_rc 0 (k := 0) rfl rfl
  refine LoadX.same (v := .slice (some ⟨b1, o1, none⟩) x.dims.length 0) (T.le.at_ _ _ hb) rfl ?_
  refine ⟨⟨[1, 2, 3, 12, 13, 14], fun n' vs g3 => ∃ (i b4 : Nat) (cells : List Value) (M : Nat → Prop) (hb' : AH), n' = x.dims.length - i ∧ i ≤ x.dims.length ∧ Le g hb' ∧ SepM M h.length hb' g3 [.rc 114 2 h.length (.slice (some ⟨b4, 0, none⟩) i 1) i cells] ∧ TellN 2 ET (fresh h.length hb') cells (homN x i) ∧
    vs = [.pointer (some ⟨b3, 0, none⟩), .slice none 0 0, .slice (some ⟨b4, 0, none⟩) i 1, .slice (some ⟨b1, o1, none⟩) x.dims.length 0, .int .i64 x.dims.length, .int .i64 i], _, ⟨0, b4, [], _, _, rfl, Nat.zero_le _, Le.refl _, T, TellN.nil _, rfl⟩, ?_⟩⟩
  rintro n' vs g3 ⟨i, b5, cells, M, hb', rfl, hi, L, S, ht, rfl⟩
  have L3 := (hg.trans L).trans S.le
  refine BIf.mk (fun h2 => ?_) (fun h2 => ?_)
  · have hlt : i < x.dims.length := by simpa using h2
    refine IdxX.mk (by omega) (by omega) ?_
    refine c1.ith L3 hlt ?_
    have fd := hh.dims i
    have l1 := smAt_len hk i
    have l2 := fromAt_len hk i
    have e1 : fromAt x (i + 1) = smAt x i := by unfold fromAt; rw [if_neg (by omega), Nat.add_sub_cancel]
    refine LoadX.same (v := .agg #[.slice (some ⟨b1, o1, none⟩) x.dims.length 0, .slice (some ⟨b2, o2, none⟩) x.maps.length 0]) ((L.trans S.le).at_ _ _ hb) rfl ?_
    refine WR.as (r := ((i + 1 : Nat) : Int)) (by omega) ?_
    refine S.made OI.fr (smithOf_c _ _ x ⟨_, _, rfl, qx.le L3⟩ hk (i + 1) (by omega)) fun b6 o6 g S => ?_
    rw [e1]
    have L4 := (hg.trans L).trans S.le
    refine LoadX.same (v := .agg #[.slice (some ⟨b1, o1, none⟩) x.dims.length 0, .slice (some ⟨b2, o2, none⟩) x.maps.length 0]) ((L.trans S.le).at_ _ _ hb) rfl ?_
    refine S.made OI.fr (smithOf_c _ _ x ⟨_, _, rfl, qx.le L4⟩ hk i (by omega)) fun b7 o7 g S => ?_
    refine CallX.same (sizeI_c _ _ _ _ _) ?_
    rintro r g' ⟨rfl, rfl⟩
    refine WR.i64 ?_
    refine CallX.same (sizeI_c _ _ _ _ _) ?_
    rintro r g' ⟨rfl, rfl⟩
    refine WR.i64 ?_
    refine S.new fun b8 g S => ?_
    refine S.put 0 rfl fun g S => ?_
    have S := S.nilrc tI 1
    refine ⟨⟨[1, 2, 3, 7, 12, 13, 14, 33, 34, 35], fun n' vs g3 => ∃ (j k : Nat) (A : Option Addr) (c : Nat), n' = (smAt x i).length - j ∧ j ≤ (smAt x i).length ∧ k ≤ j ∧ SepM M h.length hb' g3 [.rc tI 1 h.length (.slice A k c) k ((((smAt x i).take j).filter big1).map (.int .i64)), .bx b8 114 2 [.int .i64 (ith x.dims i - (fromAt x i).length - (smAt x i).length), .slice A k c], .tr OI.fr h.length (.slice (some ⟨b7, o7, none⟩) (fromAt x i).length 0) (fromAt x i), .tr OI.fr h.length (.slice (some ⟨b6, o6, none⟩) (smAt x i).length 0) (smAt x i), .rc 114 2 h.length (.slice (some ⟨b5, 0, none⟩) i 1) i cells] ∧
      vs = [.pointer (some ⟨b3, 0, none⟩), .slice none 0 0, .slice (some ⟨b5, 0, none⟩) i 1, .pointer (some ⟨b8, 0, none⟩), .slice (some ⟨b1, o1, none⟩) x.dims.length 0, .int .i64 x.dims.length, .int .i64 i, .slice (some ⟨b6, o6, none⟩) (smAt x i).length 0, .int .i64 (smAt x i).length, .int .i64 j], _, ⟨0, 0, none, 0, rfl, Nat.zero_le _, Nat.le_refl _, S, rfl⟩, ?_⟩⟩
    rintro n' vs g3 ⟨j, k, A, c, rfl, hj, hkj, S, rfl⟩
    have cI : CS EI g3 b6 o6 (smAt x i) := S.cellsI 3 rfl
    refine BIf.mk (fun h3 => ?_) (fun h3 => ?_)
    · have h3 : j < (smAt x i).length := by simpa using h3
      have hf := filter_take (p := big1) h3
      refine IdxX.mk (by omega) (by omega) ?_
      refine cI.ith (Le.refl _) h3 ?_
      refine BIf.mk (fun h4 => ?_) (fun h4 => ?_)
      · have h4 : ith (smAt x i) j > 1 := by simpa using h4
        rw [show big1 (ith (smAt x i) j) = true from decide_eq_true h4, if_pos rfl] at hf
        refine LoadX.same (v := .slice A k c) (S.at_ 1 rfl) rfl ?_
        refine S.new fun b9 g S => ?_
        refine S.app 0 rfl rfl rfl (by omega) fun b10 g S => ?_
        refine S.put 1 rfl fun g S => ?_
        refine WR.i64 ?_
        exact ⟨(smAt x i).length - (j + 1), by omega, j + 1, k + 1, some ⟨b10, 0, none⟩, 1, rfl, h3, by omega, by rw [hf, List.map_append]; exact S, rfl⟩
      · have h4 : ¬ ith (smAt x i) j > 1 := by simpa using h4
        rw [show big1 (ith (smAt x i) j) = false from decide_eq_false h4, if_neg (by simp), List.append_nil] at hf
        refine WR.i64 ?_
        exact ⟨(smAt x i).length - (j + 1), by omega, j + 1, k, A, c, rfl, h3, by omega, by rw [hf]; exact S, rfl⟩
    · have hj2 : j = (smAt x i).length := by simp at h3; omega
      subst hj2
      rw [List.take_length] at S
      refine LoadX.same (v := .agg #[.int .i64 (ith x.dims i - (fromAt x i).length - (smAt x i).length), .slice A k c]) (S.at_ 1 rfl) rfl ?_
      refine S.new fun b9 g S => ?_
      refine S.app 4 rfl rfl rfl (by omega) fun b10 g S => ?_
      refine WR.i64 ?_
      obtain ⟨F, L1, S1, S2⟩ := S.alone 4 rfl
      have r1 : RI (fresh h.length (hide F g)) (.slice A k c) ((smAt x i).filter big1) := S1.rdcF 0 rfl (by omega)
      refine ⟨x.dims.length - (i + 1), by omega, i + 1, b10, _, F, hide F g, rfl, hlt, L.trans L1, S2, ?_, rfl⟩
      rw [homN_succ]
      exact (ht.le ET.le (fresh_le L1)).snoc rfl ⟨_, rfl, r1⟩
  · have hi2 : i = x.dims.length := by simp at h2; omega
    subst hi2
    have R := S.rdNF (E := ET) 0 rfl (ht.le ET.le (fresh_le S.le)) (by omega)
    exact FinX.here L3.len ⟨R, L3⟩

end Go.Gl

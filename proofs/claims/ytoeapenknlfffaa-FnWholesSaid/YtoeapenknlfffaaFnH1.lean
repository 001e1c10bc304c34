/- Chapter 7: homology of whole complexes. No condition. Chapter 7: torsion and Bockstein numbers. No condition. Lists of Torsion that are our own. No condition. WholeHomology: both sides; the law's helpers that read. No condition. -/
import Derived.Test.YtoeapenknlfffaaFnD1
import Derived.Test.YtoeapenknlfffaaFnW1
import Derived.Test.YtoeapenknlfffaaPlT
import Derived.Test.YtoeapenknlfffaaGlX
import Derived.Test.YtoeapenknlfffaaPlB
set_option linter.unusedVariables false
set_option linter.unusedSimpArgs false
namespace Go.Gl
open Go.Proofs Go.Proofs.Ytoeapenknlfffaa Go.Pl

structure STor where
  free : Int
  parts : List Int
deriving DecidableEq
def ET (h : AH) (us : List Value) (t : STor) : Prop := ∃ v, us = [.int .i64 t.free, v] ∧ RI h v t.parts
abbrev RT := RN 2 ET
theorem ET.le : ∀ h h' v x, Le h h' → ET h v x → ET h' v x := fun _ _ _ _ hl ⟨v, e, hr⟩ => ⟨v, e, RI.le _ _ _ _ hl hr⟩
theorem RT.le : ∀ h h' v xs, Le h h' → RT h v xs → RT h' v xs := RN.le ET.le
def tor (xs : List STor) (i : Nat) : STor := xs.getD i ⟨0, []⟩
theorem tor_get {xs : List STor} {i : Nat} (h : i < xs.length) : xs[i]? = some (tor xs i) := by simp [tor, h]

/-- the Smith numbers of the matrix from the degree above n -/
def smAt (x : SWhole) (n : Nat) : List Int := if n < x.maps.length then smith (mat x.maps n) else []
def fromAt (x : SWhole) (n : Nat) : List Int := if n = 0 then [] else smAt x (n - 1)
def big1 (s : Int) : Bool := decide (s > 1)
def torAt (x : SWhole) (n : Nat) : STor := ⟨ith x.dims n - (fromAt x n).length - (smAt x n).length, (smAt x n).filter big1⟩
def homN (x : SWhole) (n : Nat) : List STor := (List.range n).map (torAt x)
def homol (x : SWhole) : List STor := homN x x.dims.length
theorem homN_succ (x : SWhole) (n : Nat) : homN x (n + 1) = homN x n ++ [torAt x n] := by simp [homN, List.range_succ]
theorem homN_length (x : SWhole) (n : Nat) : (homN x n).length = n := by simp [homN]
theorem homol_tor {x : SWhole} {n : Nat} (h : n < x.dims.length) : tor (homol x) n = torAt x n := by simp [tor, homol, homN, h]
theorem wid_of {m : Int} {rows : List (List Int)} (h : wmat m rows = true) (h0 : rows ≠ []) : (wid rows : Int) = m := by
  have h1 : 0 < rows.length := List.length_pos_iff.2 h0
  exact (wmat_row h h1).1
theorem wmatOf {x : SWhole} (hx : wholeOk x = true) {k : Nat} (hk : k < x.maps.length) : WMat (mat x.maps k) := by
  simp only [wholeOk, Bool.and_eq_true] at hx
  obtain ⟨⟨h1, h2⟩, _⟩ := hx
  obtain ⟨w1, w2⟩ := wShape_mk (allN_at h2 hk)
  have hh := wHead_mk h1
  have f1 := hh.dims (k + 1)
  have f2 := hh.dims k
  by_cases h0 : mat x.maps k = []
  · rw [h0]; exact ⟨by simp, by simp [wid, row], by simp [wmat]⟩
  · have hw := wid_of w2 h0
    exact ⟨by omega, by omega, by rw [hw]; exact w2⟩
theorem smAt_len {x : SWhole} (hx : wholeOk x = true) (n : Nat) : (smAt x n).length ≤ 6 := by
  unfold smAt
  split
  · rename_i h
    have h1 := (wmatOf hx h).few
    have h2 := smithF_len (mat x.maps n) (min (mat x.maps n).length (wid (mat x.maps n))) 1
    unfold smith
    omega
  · simp
theorem fromAt_len {x : SWhole} (hx : wholeOk x = true) (n : Nat) : (fromAt x n).length ≤ 6 := by
  unfold fromAt
  split
  · simp
  · exact smAt_len hx _
theorem gmin_le {rows : List (List Int)} (hm : WMat rows) (k : Nat) : gmin rows k ≤ 24794911296 :=
  gTab_le (by omega) fun l hl c hc => by
    obtain ⟨a1, a2⟩ := (mem_chI _ _ _).1 hl
    obtain ⟨b1, b2⟩ := (mem_chI _ _ _).1 hc
    have f1 := hm.few
    have f2 := hm.wide
    have g1 : k ≤ rows.length := by
      rcases Nat.lt_or_ge rows.length k with z | z
      · rw [chI_few z] at hl; cases hl
      · exact z
    exact minor_abs hm a2 b2 (by omega) (by omega)
theorem smAt_ok {x : SWhole} (hx : wholeOk x = true) (n : Nat) : (∀ s ∈ smAt x n, 1 ≤ s) ∧ prd (smAt x n) ≤ 24794911296 := by
  unfold smAt
  split
  · rename_i h
    exact smith_ok _ (gmin_le (wmatOf hx h))
  · exact ⟨fun s hs => (by cases hs), by simp [prd]⟩
/-- the head of a whole complex -/
theorem wholeOk_head {x : SWhole} (h : wholeOk x = true) : WHead x := by
  simp only [wholeOk, Bool.and_eq_true] at h
  exact wHead_mk h.1.1
theorem filter_take {p : Int → Bool} {xs : List Int} {i : Nat} (h : i < xs.length) : (xs.take (i + 1)).filter p = (xs.take i).filter p ++ (if p (ith xs i) then [ith xs i] else []) := by
  rw [List.take_succ_eq_append_getElem h, List.filter_append, ith_get h]
  congr 1
  by_cases hp : p (ith xs i) = true <;> simp [List.filter_cons, hp]

theorem smithOf_c (h : AH) (v : Value) (x : SWhole) (hx : RWhole h v x) (hk : wholeOk x = true) (n : Nat) (hn : n ≤ 100) : ACalls Try.prog 106 [v, .int .i64 n] h (Made OI h (fromAt x n)) := by
  obtain ⟨b1, o1, b2, o2, kx, qx⟩ := hx.can
  refine ACalls.madeI (ACalls.wk (args' := [.agg #[.slice (some ⟨b1, o1, none⟩) x.dims.length 0, .slice (some ⟨b2, o2, none⟩) x.maps.length 0], .int .i64 n]) ?_ (.cons kx (.cons (Wk.refl _) .nil)))
  refine ACalls.of Tt.tab Try.func106 rfl (by kernel_rfl) Try.ntmps106 _ rfl rfl (fun hw => ?_)
  have S := Sep.start h
  have c2 := RS.cells qx.2 rfl
  have hh := wholeOk_head hk
  have hlo := hh.lo
  have hhi := hh.hi
  have hlen := hh.len
  refine S.new fun b3 g S => ?_
  refine LoadX.same (v := .agg #[.slice (some ⟨b1, o1, none⟩) x.dims.length 0, .slice (some ⟨b2, o2, none⟩) x.maps.length 0]) (S.at_ 0 rfl) rfl ?_
  refine CallX.same (topW_c _ _ x ⟨_, _, rfl, qx.le S.le⟩) ?_
  rintro r g' ⟨rfl, rfl⟩
  refine CallX.same (between_c _ n 1 _) ?_
  rintro r g' ⟨rfl, rfl⟩
  refine BIf.mk (fun h1 => ?_) (fun h1 => ?_)
  · have h1 : decide (1 ≤ (n : Int) ∧ (n : Int) ≤ (x.dims.length : Int) - 1) = false := by simpa only [Bool.not_eq_true'] using h1
    have h1 := of_decide_eq_false h1
    have e : fromAt x n = [] := by
      unfold fromAt smAt
      split
      · rfl
      · rw [if_neg (by omega)]
    rw [e]
    exact FinX.here S.le.len ⟨[], ⟨by simp, .inl ⟨rfl, rfl, Wk.nil _⟩⟩, S.le⟩
  · have h1 : decide (1 ≤ (n : Int) ∧ (n : Int) ≤ (x.dims.length : Int) - 1) = true := by simpa only [Bool.not_eq_false'] using h1
    have h1 := of_decide_eq_true h1
    obtain ⟨m, rfl⟩ : ∃ m : Nat, n = m + 1 := ⟨n - 1, by omega⟩
    have hm : m < x.maps.length := by omega
    have e : fromAt x (m + 1) = smith (mat x.maps m) := by
      unfold fromAt smAt
      rw [if_neg (by omega), Nat.add_sub_cancel, if_pos hm]
    rw [e]
    refine LoadX.same (v := .slice (some ⟨b2, o2, none⟩) x.maps.length 0) (S.at_ 0 rfl) rfl ?_
    refine WR.as (r := (m : Int)) (by omega) ?_
    refine IdxX.mk (by omega) (by omega) ?_
    refine c2.mat S.le hm fun b4 o4 h4 => ?_
    refine S.made OI.fr (smith_c _ _ (mat x.maps m) (RII.le _ _ _ _ S.le h4) (wmatOf hk hm)) fun b5 o5 g S => ?_
    exact S.fin 0 rfl

theorem homologyI_c (h : AH) (v : Value) (x : SWhole) (hx : RWhole h v x) (hk : wholeOk x = true) : ACalls Try.prog 68 [v] h (ShownN 2 ET h (homol x)) := by
  obtain ⟨b1, o1, b2, o2, kx, qx⟩ := hx.can
  refine ACalls.shownN (ACalls.wk (args' := [.agg #[.slice (some ⟨b1, o1, none⟩) x.dims.length 0, .slice (some ⟨b2, o2, none⟩) x.maps.length 0]]) ?_ (.cons kx .nil))
  refine ACalls.of Tt.tab Try.func68 rfl (by kernel_rfl) Try.ntmps68 _ rfl rfl (fun hw => ?_)
  have S := Sep.start h
  have c1 := RS.cells qx.1 rfl
  have hh := wholeOk_head hk
  have hlo := hh.lo
  have hhi := hh.hi
  have hlen := hh.len
  refine S.new fun b3 g S => ?_
  have hb := S.at_ 0 rfl
  have hg := S.le
  have hnl := S.nl
  have T := S.freeze
  clear S
  refine T.new fun b4 g2 T => ?_
  have T := T.bx_rc 0 (k := 0) rfl rfl
  refine LoadX.same (v := .slice (some ⟨b1, o1, none⟩) x.dims.length 0) (T.le.at_ _ _ hb) rfl ?_
  refine ⟨⟨[1, 2, 3, 12, 13, 14], fun n' vs g3 => ∃ (i b4 : Nat) (cells : List Value) (M : Nat → Prop) (hb' : AH), n' = x.dims.length - i ∧ i ≤ x.dims.length ∧ Le g hb' ∧ SepM M h.length hb' g3 [.rc 44 2 h.length (.slice (some ⟨b4, 0, none⟩) i 1) i cells] ∧ TellN 2 ET (fresh h.length hb') cells (homN x i) ∧
    vs = [.pointer (some ⟨b3, 0, none⟩), .slice none 0 0, .slice (some ⟨b4, 0, none⟩) i 1, .slice (some ⟨b1, o1, none⟩) x.dims.length 0, .int .i64 x.dims.length, .int .i64 i], _, ⟨0, b4, [], _, _, rfl, Nat.zero_le _, Le.refl _, T, TellN.nil _, rfl⟩, ?_⟩⟩
  rintro n' vs g3 ⟨i, b5, cells, M, hb', rfl, hi, L, S, ht, rfl⟩
  have L3 := (hg.trans L).trans S.le
  refine BIf.mk (fun h2 => ?_) (fun h2 => ?_)
  · have hlt : i < x.dims.length := by simpa using h2
    refine IdxX.mk (by omega) (by omega) ?_
    refine c1.ith L3 hlt ?_
    have fd := hh.dims i
    have l1 := smAt_len hk i
    have l2 := fromAt_len hk i
    have e1 : fromAt x (i + 1) = smAt x i := by unfold fromAt; rw [if_neg (by omega), Nat.add_sub_cancel]
    refine LoadX.same (v := .agg #[.slice (some ⟨b1, o1, none⟩) x.dims.length 0, .slice (some ⟨b2, o2, none⟩) x.maps.length 0]) ((L.trans S.le).at_ _ _ hb) rfl ?_
    refine WR.as (r := ((i + 1 : Nat) : Int)) (by omega) ?_
    refine S.made OI.fr (smithOf_c _ _ x ⟨_, _, rfl, qx.le L3⟩ hk (i + 1) (by omega)) fun b6 o6 g S => ?_
    rw [e1]
    have L4 := (hg.trans L).trans S.le
    refine LoadX.same (v := .agg #[.slice (some ⟨b1, o1, none⟩) x.dims.length 0, .slice (some ⟨b2, o2, none⟩) x.maps.length 0]) ((L.trans S.le).at_ _ _ hb) rfl ?_
    refine S.made OI.fr (smithOf_c _ _ x ⟨_, _, rfl, qx.le L4⟩ hk i (by omega)) fun b7 o7 g S => ?_
    refine CallX.same (sizeI_c _ _ _ _ _) ?_
    rintro r g' ⟨rfl, rfl⟩
    refine WR.i64 ?_
    refine CallX.same (sizeI_c _ _ _ _ _) ?_
    rintro r g' ⟨rfl, rfl⟩
    refine WR.i64 ?_
    refine S.new fun b8 g S => ?_
    refine S.put 0 rfl fun g S => ?_
    have S := S.nilrc tI 1
    refine ⟨⟨[1, 2, 3, 7, 12, 13, 14, 33, 34, 35], fun n' vs g3 => ∃ (j k : Nat) (A : Option Addr) (c : Nat), n' = (smAt x i).length - j ∧ j ≤ (smAt x i).length ∧ k ≤ j ∧ SepM M h.length hb' g3 [.rc tI 1 h.length (.slice A k c) k ((((smAt x i).take j).filter big1).map (.int .i64)), .bx b8 44 2 [.int .i64 (ith x.dims i - (fromAt x i).length - (smAt x i).length), .slice A k c], .tr OI.fr h.length (.slice (some ⟨b7, o7, none⟩) (fromAt x i).length 0) (fromAt x i), .tr OI.fr h.length (.slice (some ⟨b6, o6, none⟩) (smAt x i).length 0) (smAt x i), .rc 44 2 h.length (.slice (some ⟨b5, 0, none⟩) i 1) i cells] ∧
      vs = [.pointer (some ⟨b3, 0, none⟩), .slice none 0 0, .slice (some ⟨b5, 0, none⟩) i 1, .pointer (some ⟨b8, 0, none⟩), .slice (some ⟨b1, o1, none⟩) x.dims.length 0, .int .i64 x.dims.length, .int .i64 i, .slice (some ⟨b6, o6, none⟩) (smAt x i).length 0, .int .i64 (smAt x i).length, .int .i64 j], _, ⟨0, 0, none, 0, rfl, Nat.zero_le _, Nat.le_refl _, S, rfl⟩, ?_⟩⟩
    rintro n' vs g3 ⟨j, k, A, c, rfl, hj, hkj, S, rfl⟩
    have cI : CS EI g3 b6 o6 (smAt x i) := S.cellsI 3 rfl
    refine BIf.mk (fun h3 => ?_) (fun h3 => ?_)
    · have h3 : j < (smAt x i).length := by simpa using h3
      have hf := filter_take (p := big1) h3
      refine IdxX.mk (by omega) (by omega) ?_
      refine cI.ith (Le.refl _) h3 ?_
      refine BIf.mk (fun h4 => ?_) (fun h4 => ?_)
      · have h4 : ith (smAt x i) j > 1 := by simpa using h4
        rw [show big1 (ith (smAt x i) j) = true from decide_eq_true h4, if_pos rfl] at hf
        refine LoadX.same (v := .slice A k c) (S.at_ 1 rfl) rfl ?_
        refine S.new fun b9 g S => ?_
        refine S.app 0 rfl rfl rfl (by omega) fun b10 g S => ?_
        refine S.put 1 rfl fun g S => ?_
        refine WR.i64 ?_
        exact ⟨(smAt x i).length - (j + 1), by omega, j + 1, k + 1, some ⟨b10, 0, none⟩, 1, rfl, h3, by omega, by rw [hf, List.map_append]; exact S, rfl⟩
      · have h4 : ¬ ith (smAt x i) j > 1 := by simpa using h4
        rw [show big1 (ith (smAt x i) j) = false from decide_eq_false h4, if_neg (by simp), List.append_nil] at hf
        refine WR.i64 ?_
        exact ⟨(smAt x i).length - (j + 1), by omega, j + 1, k, A, c, rfl, h3, by omega, by rw [hf]; exact S, rfl⟩
    · have hj2 : j = (smAt x i).length := by simp at h3; omega
      subst hj2
      rw [List.take_length] at S
      refine LoadX.same (v := .agg #[.int .i64 (ith x.dims i - (fromAt x i).length - (smAt x i).length), .slice A k c]) (S.at_ 1 rfl) rfl ?_
      refine S.new fun b9 g S => ?_
      refine S.app 4 rfl rfl rfl (by omega) fun b10 g S => ?_
      refine WR.i64 ?_
      obtain ⟨F, L1, S1, S2⟩ := S.alone 4 rfl
      have r1 : RI (fresh h.length (hide F g)) (.slice A k c) ((smAt x i).filter big1) := S1.rdcF 0 rfl (by omega)
      refine ⟨x.dims.length - (i + 1), by omega, i + 1, b10, _, F, hide F g, rfl, hlt, L.trans L1, S2, ?_, rfl⟩
      rw [homN_succ]
      exact (ht.le ET.le (fresh_le L1)).snoc rfl ⟨_, rfl, r1⟩
  · have hi2 : i = x.dims.length := by simp at h2; omega
    subst hi2
    have R := S.rdNF (E := ET) 0 rfl (ht.le ET.le (fresh_le S.le)) (by omega)
    exact FinX.here L3.len ⟨R, L3⟩

end Go.Gl

set_option linter.unusedVariables false
set_option linter.unusedSimpArgs false
namespace Go.Gl
open Go.Proofs Go.Proofs.Ytoeapenknlfffaa Go.Pl

/-! ### reading a list of Torsion -/
theorem CT.load {h g : AH} {b o : Nat} {xs : List STor} (hc : CN 2 ET h b o xs) (hl : Le h g) {i : TI} {k a : Nat} (hk : k < xs.length) {K : Value → Prop}
    (hK : ∀ b' o', RI h (.slice (some ⟨b', o', none⟩) (tor xs k).parts.length 0) (tor xs k).parts → K (.agg #[.int .i64 (tor xs k).free, .slice (some ⟨b', o', none⟩) (tor xs k).parts.length 0])) (ha : a = o + mulE k 2 := by rfl) (hi : i.agg = true := by rfl) (hs : i.size = 2 := by rfl) : LoadX g i b a K := by
  obtain ⟨blk, us, h1, h2, h3, v, rfl, h4⟩ := hc k _ (tor_get hk)
  obtain ⟨b', o', k1, h5⟩ := h4.can
  subst ha
  refine LoadX.one (hl.at_ _ _ h1) ?_ (Wk.agg (.cons (Wk.refl _) (.cons k1 .nil))) (hK b' o' h5)
  unfold ldv
  rw [hi, hs, h3]
  simp
theorem CT.free {h g : AH} {b o : Nat} {xs : List STor} (hc : CN 2 ET h b o xs) (hl : Le h g) {i : TI} {k a : Nat} (hk : k < xs.length) {K : Value → Prop} (hK : K (.int .i64 (tor xs k).free)) (ha : a = o + mulE k 2 + 0 := by rfl) (hi : i.agg = false := by rfl) : LoadX g i b a K :=
  hc.field hl (tor_get hk) (by omega) (fun us _ ⟨v, e, _⟩ => by subst e; rfl) hK ha hi
theorem CT.parts {h g : AH} {b o : Nat} {xs : List STor} (hc : CN 2 ET h b o xs) (hl : Le h g) {i : TI} {k a : Nat} (hk : k < xs.length) {K : Value → Prop}
    (hK : ∀ b' o', RI h (.slice (some ⟨b', o', none⟩) (tor xs k).parts.length 0) (tor xs k).parts → K (.slice (some ⟨b', o', none⟩) (tor xs k).parts.length 0)) (ha : a = o + mulE k 2 + 1 := by rfl) (hi : i.agg = false := by rfl) : LoadX g i b a K := by
  obtain ⟨blk, us, h1, h2, h3, v, rfl, h4⟩ := hc k _ (tor_get hk)
  obtain ⟨b', o', k1, h5⟩ := h4.can
  subst ha
  refine LoadX.one (hl.at_ _ _ h1) ?_ k1 (hK b' o' h5)
  unfold ldv
  rw [hi]
  have : ((blk.cells.drop (o + mulE k 2)).take 2)[1]? = some v := by rw [h3]; rfl
  rw [List.getElem?_take, if_pos (by omega), List.getElem?_drop] at this
  exact this

/-! ### plain law -/
structure TorOk (t : STor) : Prop where
  few : t.parts.length ≤ 6
  free : -100 ≤ t.free ∧ t.free ≤ 100
  pos : ∀ s ∈ t.parts, 1 ≤ s
  prod : prd t.parts ≤ 24794911296
structure TorsOk (xs : List STor) : Prop where
  len : xs.length ≤ 6
  el : ∀ i, TorOk (tor xs i)
theorem homol_ok {x : SWhole} (hx : wholeOk x = true) : TorsOk (homol x) := by
  have hh := wholeOk_head hx
  refine ⟨by unfold homol; rw [homN_length]; exact hh.hi, fun i => ?_⟩
  by_cases hi : i < x.dims.length
  · rw [homol_tor hi]
    have l1 := smAt_len hx i
    have l2 := fromAt_len hx i
    have fd := hh.dims i
    obtain ⟨o1, o2⟩ := smAt_ok hx i
    refine ⟨Nat.le_trans (List.length_filter_le _ _) l1, ?_, fun s hs => o1 s ((List.mem_filter.1 hs).1), Int.le_trans (prd_filter o1) o2⟩
    simp only [torAt]
    omega
  · have : tor (homol x) i = ⟨0, []⟩ := by simp [tor, homol, homN, hi]
    rw [this]
    exact ⟨by simp, by simp, fun s hs => (by cases hs), by simp [prd]⟩
def pwi (p : Int) : Nat → Int
  | 0 => 1
  | n + 1 => pwi p n * p
theorem pwi_mono {p : Int} (hp : 2 ≤ p ∧ p ≤ 7) : ∀ n, 1 ≤ pwi p n ∧ pwi p n ≤ pwi 7 n
  | 0 => by simp [pwi]
  | n + 1 => by
    have := pwi_mono hp n
    have h1 : 1 * 1 ≤ pwi p n * p := Int.mul_le_mul this.1 (by omega) (by omega) (by omega)
    have h2 : pwi p n * p ≤ pwi 7 n * 7 := Int.mul_le_mul this.2 hp.2 (by omega) (by omega)
    exact ⟨by simpa [pwi] using h1, by simpa [pwi] using h2⟩
theorem pwi_rng {p : Int} (hp : IsP p) {n : Nat} (hn : n ≤ 10) : 1 ≤ pwi p n ∧ pwi p n ≤ 282475249 := by
  have h1 := pwi_mono hp.rng n
  have h2 : ∀ k : Fin 11, pwi 7 k ≤ 282475249 := by decide
  have := h2 ⟨n, by omega⟩
  exact ⟨h1.1, Int.le_trans h1.2 this⟩
def dvq (q s : Int) : Bool := decide (s % q = 0)
def divN (parts : List Int) (q : Int) : Nat := (parts.filter (dvq q)).length
theorem divN_le (parts : List Int) (q : Int) : divN parts q ≤ parts.length := List.length_filter_le _ _
def bsOwn (xs : List STor) (q : Int) (n : Nat) : Int := (tor xs n).free + divN (tor xs n).parts q + (if n = 0 then 0 else (divN (tor xs (n - 1)).parts q : Int))
def bsPage (xs : List STor) (q : Int) : List Int := tab xs.length (bsOwn xs q)
def frees (xs : List STor) : List Int := tab xs.length fun n => (tor xs n).free
def noDiv (xs : List STor) (q : Int) (n : Nat) : Bool := allN (fun i => decide (divN (tor xs i).parts q = 0)) n
theorem page_frees (xs : List STor) (q : Int) : decide (bsPage xs q = frees xs) = noDiv xs q xs.length := by
  rw [Bool.eq_iff_iff, decide_eq_true_eq]
  constructor
  · intro h
    refine allN_mk fun i hi => ?_
    have := congrArg (fun l => ith l i) h
    simp only [bsPage, frees, tab_ith hi, bsOwn] at this
    have h2 : (0 : Int) ≤ (if i = 0 then 0 else (divN (tor xs (i - 1)).parts q : Int)) := by split <;> omega
    rw [decide_eq_true_eq]
    omega
  · intro h
    refine tab_congr fun i hi => ?_
    have h1 := of_decide_eq_true (allN_at h hi)
    unfold bsOwn
    rw [h1]
    split
    · simp
    · have h2 := of_decide_eq_true (allN_at h (show i - 1 < xs.length by omega))
      rw [h2]; simp
def lastOk (xs : List STor) (p : Int) (k : Nat) : Bool := noDiv xs (pwi p (k + 1)) xs.length
def lastB (x : SWhole) (p : Int) : Int × Int :=
  if wholeOk x then if prime p then match (List.range 10).find? (lastOk (homol x) p) with
    | some k => (((k + 1 : Nat) : Int), 0)
    | none => (0, 3) else (0, 2) else (0, 1)
theorem find_some {f : Nat → Bool} {n k : Nat} (hk : k < n) (h1 : allN (fun i => !f i) k = true) (h2 : f k = true) : (List.range n).find? f = some k :=
  List.find?_range_eq_some.2 ⟨h2, List.mem_range.2 hk, fun j hj => allN_at h1 hj⟩
theorem find_none {f : Nat → Bool} {n : Nat} (h1 : allN (fun i => !f i) n = true) : (List.range n).find? f = none :=
  List.find?_range_eq_none.2 fun j hj => allN_at h1 hj
def bockN (x : SWhole) (p r : Int) : List Int × Int := if wholeOk x then if prime p && decide (1 ≤ r ∧ r ≤ 10) then (bsPage (homol x) (pwi p r.toNat), 0) else ([], 2) else ([], 1)
def lastP (parts : List Int) : Int := if parts = [] then 1 else ith parts (parts.length - 1)
def torsOf (φ : List Int → Int) (x : SWhole) : List Int × Int := if wholeOk x then (tab (homol x).length fun i => φ (tor (homol x) i).parts, 0) else ([], 1)
theorem torsOf_cn (φ : List Int → Int) (x : SWhole) : cnI (torsOf φ x).1 ≤ 100 := by
  unfold torsOf
  split
  · rename_i h
    have := (homol_ok h).len
    simp only [cnI, tab_length]; omega
  · simp [cnI]
theorem bockN_cn (x : SWhole) (p r : Int) : cnI (bockN x p r).1 ≤ 100 := by
  unfold bockN
  split
  · rename_i h
    have := (homol_ok h).len
    split
    · simp only [cnI, bsPage, tab_length]; omega
    · simp [cnI]
  · simp [cnI]


theorem l07Homology_c (h : AH) (v : Value) (x : SWhole) (hx : RWhole h v x) (hk : wholeOk x = true) : ACalls Try.prog 69 [v] h (ShownN 2 ET h (homol x)) := by
  obtain ⟨b1, o1, b2, o2, kx, qx⟩ := hx.can
  refine ACalls.shownN (ACalls.wk (args' := [.agg #[.slice (some ⟨b1, o1, none⟩) x.dims.length 0, .slice (some ⟨b2, o2, none⟩) x.maps.length 0]]) ?_ (.cons kx .nil))
  refine ACalls.of Tt.tab Try.func69 rfl (by kernel_rfl) Try.ntmps69 _ rfl rfl (fun hw => ?_)
  have S := Sep.start h
  have c1 := RS.cells qx.1 rfl
  have c2 := RS.cells qx.2 rfl
  have hh := wholeOk_head hk
  have hlo := hh.lo
  have hhi := hh.hi
  have hlen := hh.len
  refine S.new fun b3 g S => ?_
  have hb := S.at_ 0 rfl
  have hg := S.le
  have hnl := S.nl
  have T := S.freeze
  clear S
  refine T.new fun b4 g2 T => ?_
  have T := T.bx_rc 0 (k := 0) rfl rfl
  refine ⟨⟨[1, 2, 3, 4, 5], fun n' vs g3 => ∃ (i b4 : Nat) (cells : List Value) (M : Nat → Prop) (hb' : AH), n' = x.dims.length - i ∧ i ≤ x.dims.length ∧ Le g hb' ∧ SepM M h.length hb' g3 [.rc 44 2 h.length (.slice (some ⟨b4, 0, none⟩) i 1) i cells] ∧ TellN 2 ET (fresh h.length hb') cells (homN x i) ∧
    vs = [.pointer (some ⟨b3, 0, none⟩), .slice none 0 0, .slice (some ⟨b4, 0, none⟩) i 1, .int .i64 (fromAt x i).length, .int .i64 i], _, ⟨0, b4, [], _, _, rfl, Nat.zero_le _, Le.refl _, T, TellN.nil _, rfl⟩, ?_⟩⟩
  rintro n' vs g3 ⟨i, b5, cells, M, hb', rfl, hi, L, S, ht, rfl⟩
  have L3 := (hg.trans L).trans S.le
  have d3 := (L.trans S.le).at_ _ _ hb
  refine LoadX.same (v := .slice (some ⟨b1, o1, none⟩) x.dims.length 0) d3 rfl ?_
  refine BIf.mk (fun h2 => ?_) (fun h2 => ?_)
  · have hlt : i < x.dims.length := by simpa using h2
    have fd := hh.dims i
    have l1 := smAt_len hk i
    have l2 := fromAt_len hk i
    have e1 : fromAt x (i + 1) = smAt x i := by unfold fromAt; rw [if_neg (by omega), Nat.add_sub_cancel]
    refine LoadX.same (v := .slice (some ⟨b1, o1, none⟩) x.dims.length 0) d3 rfl ?_
    refine IdxX.mk (by omega) (by omega) ?_
    refine c1.ith L3 hlt ?_
    refine WR.i64 ?_
    refine S.new fun b6 g S => ?_
    refine S.new fun b7 g S => ?_
    refine S.new fun b8 g S => ?_
    refine S.put 0 rfl fun g S => ?_
    have S := S.bx_rc 2 (k := 0) rfl rfl
    have L4 := (hg.trans L).trans S.le
    have d4 := (L.trans S.le).at_ _ _ hb
    refine WR.i64 ?_
    refine LoadX.same (v := .slice (some ⟨b1, o1, none⟩) x.dims.length 0) d4 rfl ?_
    refine BIf.mk (fun h3 => ?_) (fun h3 => ?_)
    · have h3 : i < x.maps.length := by simp at h3; omega
      have e2 : smAt x i = smith (mat x.maps i) := if_pos h3
      refine LoadX.same (v := .slice (some ⟨b2, o2, none⟩) x.maps.length 0) d4 rfl ?_
      refine IdxX.mk (by omega) (by omega) ?_
      refine c2.mat L4 h3 fun b9 o9 h9 => ?_
      refine S.made OI.fr (l07Smith_c _ _ (mat x.maps i) (RII.le _ _ _ _ L4 h9) (wmatOf hk h3)) fun b9 o9 g S => ?_
      rw [← e2] at S ⊢
      refine LoadX.same (v := .int .i64 (ith x.dims i - (fromAt x i).length)) (S.at_ 1 rfl) rfl ?_
      refine WR.i64 ?_
      refine S.put 1 rfl fun g S => ?_
      have S := S.drop 2
      refine ⟨⟨[1, 2, 3, 4, 5, 6, 7, 8], fun n' vs g3 => ∃ (j k b6 : Nat), n' = (smAt x i).length - j ∧ j ≤ (smAt x i).length ∧ k ≤ j ∧ SepM M h.length hb' g3 [.tr OI.fr h.length (.slice (some ⟨b9, o9, none⟩) (smAt x i).length 0) (smAt x i), .bx b8 44 2 [.int .i64 (ith x.dims i - (fromAt x i).length - (smAt x i).length), .slice (some ⟨b6, 0, none⟩) k 1], .rc tI 1 h.length (.slice (some ⟨b6, 0, none⟩) k 1) k ((((smAt x i).take j).filter big1).map (.int .i64)), .rc 44 2 h.length (.slice (some ⟨b5, 0, none⟩) i 1) i cells] ∧
        vs = [.pointer (some ⟨b3, 0, none⟩), .slice none 0 0, .slice (some ⟨b5, 0, none⟩) i 1, .int .i64 (smAt x i).length, .int .i64 i, .pointer (some ⟨b8, 0, none⟩), .slice (some ⟨b9, o9, none⟩) (smAt x i).length 0, .int .i64 j], _, ⟨0, 0, b6, rfl, Nat.zero_le _, Nat.le_refl _, S, rfl⟩, ?_⟩⟩
      rintro n' vs g3 ⟨j, k, b6, rfl, hj, hkj, S, rfl⟩
      have cI : CS EI g3 b9 o9 (smAt x i) := S.cellsI 0 rfl
      refine BIf.mk (fun h3 => ?_) (fun h3 => ?_)
      · have h3 : j < (smAt x i).length := by simpa using h3
        have hf := filter_take (p := big1) h3
        refine IdxX.mk (by omega) (by omega) ?_
        refine cI.ith (Le.refl _) h3 ?_
        refine BIf.mk (fun h4 => ?_) (fun h4 => ?_)
        · have h4 : ith (smAt x i) j > 1 := by simpa using h4
          rw [show big1 (ith (smAt x i) j) = true from decide_eq_true h4, if_pos rfl] at hf
          refine DrawX.of Tt.tab follows_any [6] [7, 9] [0, 1, 2, 3, 4, 5, 6, 7, 8, 9] rfl (by kernel_rfl) (by kernel_rfl) ?_
          refine LoadX.same (v := .slice (some ⟨b6, 0, none⟩) k 1) (S.at_ 1 rfl) rfl ?_
          refine IdxX.mk (by omega) (by omega) ?_
          refine cI.ith (Le.refl _) h3 ?_
          refine S.newL fun b10 g L S => ?_
          refine ⟨L, ?_⟩
          refine S.app 2 rfl rfl rfl (by omega) fun b11 g S => ?_
          refine S.put 1 rfl fun g S => ?_
          refine WR.i64 ?_
          exact ⟨(smAt x i).length - (j + 1), by omega, j + 1, k + 1, b11, rfl, h3, by omega, by rw [hf, List.map_append]; exact S, rfl⟩
        · have h4 : ¬ ith (smAt x i) j > 1 := by simpa using h4
          rw [show big1 (ith (smAt x i) j) = false from decide_eq_false h4, if_neg (by simp), List.append_nil] at hf
          refine WR.i64 ?_
          exact ⟨(smAt x i).length - (j + 1), by omega, j + 1, k, b6, rfl, h3, by omega, by rw [hf]; exact S, rfl⟩
      · have hj2 : j = (smAt x i).length := by simp at h3; omega
        subst hj2
        rw [List.take_length] at S
        refine LoadX.same (v := .agg #[.int .i64 (ith x.dims i - (fromAt x i).length - (smAt x i).length), .slice (some ⟨b6, 0, none⟩) k 1]) (S.at_ 1 rfl) rfl ?_
        refine S.new fun b9 g S => ?_
        refine S.app 3 rfl rfl rfl (by omega) fun b10 g S => ?_
        refine WR.i64 ?_
        obtain ⟨F, L1, S1, S2⟩ := S.alone 3 rfl
        have r1 : RI (fresh h.length (hide F g)) (.slice (some ⟨b6, 0, none⟩) k 1) ((smAt x i).filter big1) := S1.rdcF 2 rfl (by omega)
        refine ⟨x.dims.length - (i + 1), by omega, i + 1, b10, _, F, hide F g, rfl, hlt, L.trans L1, S2, ?_, by rw [e1]; rfl⟩
        rw [homN_succ]
        exact (ht.le ET.le (fresh_le L1)).snoc rfl ⟨_, rfl, r1⟩
    · have h3 : ¬ i < x.maps.length := by simp at h3; omega
      have e2 : smAt x i = [] := if_neg h3
      refine LoadX.same (v := .int .i64 (ith x.dims i - (fromAt x i).length)) (S.at_ 0 rfl) rfl ?_
      refine WR.as (r := ith x.dims i - (fromAt x i).length) (by simp) ?_
      refine S.put 0 rfl fun g S => ?_
      refine ⟨⟨[1, 2, 3, 4, 5, 6, 7, 8], fun n' vs g4 => n' = 0 ∧ g4 = g ∧
        vs = [.pointer (some ⟨b3, 0, none⟩), .slice none 0 0, .slice (some ⟨b5, 0, none⟩) i 1, .int .i64 0, .int .i64 i, .pointer (some ⟨b8, 0, none⟩), .slice (some ⟨b7, 0, none⟩) 0 1, .int .i64 0], _, ⟨rfl, rfl, rfl⟩, ?_⟩⟩
      rintro n' vs g4 ⟨rfl, rfl, rfl⟩
      refine BIf.no rfl ?_
      refine LoadX.same (v := .agg #[.int .i64 (ith x.dims i - (fromAt x i).length), .slice (some ⟨b6, 0, none⟩) 0 1]) (S.at_ 0 rfl) rfl ?_
      refine S.new fun b9 g S => ?_
      refine S.app 3 rfl rfl rfl (by omega) fun b10 g S => ?_
      refine WR.i64 ?_
      obtain ⟨F, L1, S1, S2⟩ := S.alone 3 rfl
      have r1 : RI (fresh h.length (hide F g)) (.slice (some ⟨b6, 0, none⟩) 0 1) [] := S1.rdcF 2 rfl (by omega)
      refine ⟨x.dims.length - (i + 1), by omega, i + 1, b10, _, F, hide F g, rfl, hlt, L.trans L1, S2, ?_, by rw [e1, e2]; rfl⟩
      rw [homN_succ]
      have eT : ET (fresh h.length (hide F g)) [.int .i64 (ith x.dims i - (fromAt x i).length), .slice (some ⟨b6, 0, none⟩) 0 1] (torAt x i) := by
        refine ⟨.slice (some ⟨b6, 0, none⟩) 0 1, ?_, ?_⟩
        · simp only [torAt, e2]; simp
        · simp only [torAt, e2]; exact r1
      exact (ht.le ET.le (fresh_le L1)).snoc (us := [.int .i64 (ith x.dims i - (fromAt x i).length), .slice (some ⟨b6, 0, none⟩) 0 1]) rfl eT
  · have hi2 : i = x.dims.length := by simp at h2; omega
    subst hi2
    have R := S.rdNF (E := ET) 0 rfl (ht.le ET.le (fresh_le S.le)) (by omega)
    exact FinX.here L3.len ⟨R, L3⟩

end Go.Gl

set_option linter.unusedVariables false
set_option linter.unusedSimpArgs false
namespace Go.Gl
open Go.Proofs Go.Proofs.Ytoeapenknlfffaa Go.Pl

def EO (n : Nat) (h : AH) (us : List Value) (t : STor × List Nat) : Prop := ∃ v, us = [.int .i64 t.1.free, v] ∧ OI n h v t.1.parts t.2
theorem EO.le {n : Nat} : ∀ h h' v x, Le h h' → EO n h v x → EO n h' v x := fun _ _ _ _ hl ⟨v, e, hr⟩ => ⟨v, e, OI.fr.le hr hl⟩
structure TO (n : Nat) (h : AH) (cells : List Value) (xs : List STor) (ps : List (STor × List Nat)) : Prop where
  fst : ps.map (·.1) = xs
  tell : TellN 2 (EO n) h cells ps
  nd : (ps.map (·.2)).flatten.Nodup
theorem TO.nil (n : Nat) (h : AH) : TO n h [] [] [] := ⟨rfl, TellN.nil h, by simp⟩
theorem TO.le {n : Nat} {h h' : AH} {cells : List Value} {xs : List STor} {ps : List (STor × List Nat)} (t : TO n h cells xs ps) (hl : Le h h') : TO n h' cells xs ps := ⟨t.fst, t.tell.le EO.le hl, t.nd⟩
theorem TO.known {n : Nat} {h : AH} {cells : List Value} {xs : List STor} {ps : List (STor × List Nat)} (t : TO n h cells xs ps) : ∀ i ∈ (ps.map (·.2)).flatten, n ≤ i ∧ look h i ≠ none := by
  intro i hi
  obtain ⟨m, hm, him⟩ := List.mem_flatten.1 hi
  obtain ⟨q, hq, rfl⟩ := List.mem_map.1 hm
  obtain ⟨k, hk⟩ := List.getElem?_of_mem hq
  obtain ⟨us, _, _, v, _, ho⟩ := t.tell.el k q hk
  obtain ⟨h1, blk, s, h2, _⟩ := OI.fr.leaf _ _ _ _ _ ho i him
  exact ⟨h1, by rw [h2]; simp⟩
theorem TO.snoc {n : Nat} {h h' : AH} {cells us : List Value} {xs : List STor} {ps : List (STor × List Nat)} {x : STor} {m : List Nat} (t : TO n h cells xs ps) (hl : Le h h') (hu : us.length = 2) (he : EO n h' us (x, m)) (hm : ∀ i ∈ m, look h i = none) : TO n h' (cells ++ us) (xs ++ [x]) (ps ++ [(x, m)]) := by
  refine ⟨by rw [List.map_append, t.fst]; rfl, (t.tell.le EO.le hl).snoc hu he, ?_⟩
  rw [List.map_append, List.flatten_append, List.nodup_append]
  obtain ⟨v, _, ho⟩ := he
  refine ⟨t.nd, by simpa using OI.fr.nd _ _ _ _ _ ho, fun a ha b hb e => ?_⟩
  subst e
  exact (t.known a ha).2 (hm a (by simpa using hb))
section
variable {M : Nat → Prop} {n : Nat} {hb h : AH} {Rs : List Res}
theorem SepM.rdO (S : SepM M n hb h Rs) (j : Nat) {v : Value} {k : Nat} {xs : List Int} (hj : gt Rs j = some (.rc tI 1 n v k (xs.map (.int .i64)))) (hm : k ≤ 9223372036854775807) : ∃ m, OI n h v xs m ∧ ∀ i ∈ m, look hb i = none := by
  obtain ⟨F, ⟨b, h1, h2⟩, _, hle, _, _⟩ := S.step hj
  rcases h1 with ⟨rfl, g1, g2⟩ | ⟨rfl, rfl, hx⟩
  · obtain ⟨hF, g1⟩ := only_some.1 g1
    have hk : k = xs.length := by simpa using g2.symm
    subst hk
    refine ⟨[b], Leaf.of g1 h2 hm 1, fun i hi => ?_⟩
    simp at hi
    subst hi
    cases e : look hb i with
    | none => rfl
    | some bb => exact absurd hF (hide_some.1 (hle.at_ _ _ e)).1
  · have : xs = [] := by simpa using hx
    subst this
    exact ⟨[], ⟨by simp, .inl ⟨rfl, rfl, Wk.nil _⟩⟩, fun i hi => by simp at hi⟩
end
/-- a list of Torsion of our own: l are the row's block and the blocks of the parts -/
def OTors (n : Nat) (h : AH) (v : Value) (xs : List STor) (l : List Nat) : Prop :=
  xs.length ≤ 9223372036854775807 ∧ ((xs = [] ∧ l = [] ∧ Wk v (.slice (some ⟨0, 0, none⟩) 0 0)) ∨
    ∃ b o blk ps, Wk v (.slice (some ⟨b, o, none⟩) xs.length 0) ∧ n ≤ b ∧ look h b = some blk ∧ blk.own = some (44, 2) ∧ o + xs.length * 2 ≤ blk.cells.length ∧ TO n h ((blk.cells.drop o).take (xs.length * 2)) xs ps ∧ l = b :: (ps.map (·.2)).flatten ∧ b ∉ (ps.map (·.2)).flatten)
section
variable {M : Nat → Prop} {n : Nat} {hb h : AH} {Rs : List Res}
theorem SepM.rdTO (S : SepM M n hb h Rs) (j : Nat) {v : Value} {k : Nat} {cells : List Value} {xs : List STor} {ps : List (STor × List Nat)} (hj : gt Rs j = some (.rc 44 2 n v k cells)) (ht : TO n hb cells xs ps) (hm : k ≤ 9223372036854775807) : ∃ l, OTors n h v xs l := by
  obtain ⟨F, ⟨b, h1, h2⟩, _, hle, _, _⟩ := S.step hj
  have hps : ps.length = xs.length := by rw [← ht.fst, List.length_map]
  have hcl := ht.tell.len
  rcases h1 with ⟨rfl, g1, g2⟩ | ⟨rfl, rfl, hx⟩
  · obtain ⟨hF, g1⟩ := only_some.1 g1
    have g2 : cells.length = k * 2 := g2
    have hk : xs.length = k := by omega
    refine ⟨_, by omega, .inr ⟨b, 0, _, ps, by rw [hk]; exact Wk.weak _ _ _ _, h2, g1, rfl, by show 0 + xs.length * 2 ≤ cells.length; omega, ?_, rfl, fun hi => ?_⟩⟩
    · rw [List.drop_zero, List.take_of_length_le (by show cells.length ≤ _; omega)]
      exact ht.le S.le
    · have := (ht.known b hi).2
      cases e : look hb b with
      | none => exact this e
      | some bb => exact (hide_some.1 (hle.at_ _ _ e)).1 hF
  · subst hx
    have hcl : 0 = ps.length * 2 := hcl
    have : xs = [] := List.length_eq_zero_iff.1 (by omega)
    subst this
    exact ⟨[], by simp, .inl ⟨rfl, rfl, Wk.nil _⟩⟩
end

theorem homologyIO_c (h : AH) (v : Value) (x : SWhole) (hx : RWhole h v x) (hk : wholeOk x = true) : ACalls Try.prog 68 [v] h (fun r h' => ∃ l, OTors h.length h' r (homol x) l ∧ Le h h') := by
  obtain ⟨b1, o1, b2, o2, kx, qx⟩ := hx.can
  refine (ACalls.wk (args' := [.agg #[.slice (some ⟨b1, o1, none⟩) x.dims.length 0, .slice (some ⟨b2, o2, none⟩) x.maps.length 0]]) ?_ (.cons kx .nil))
  refine ACalls.of Tt.tab Try.func68 rfl (by kernel_rfl) Try.ntmps68 _ rfl rfl (fun hw => ?_)
  have S := Sep.start h
  have c1 := RS.cells qx.1 rfl
  have hh := wholeOk_head hk
  have hlo := hh.lo
  have hhi := hh.hi
  have hlen := hh.len
  refine S.new fun b3 g S => ?_
  have hb := S.at_ 0 rfl
  have hg := S.le
  have hnl := S.nl
  have T := S.freeze
  clear S
  refine T.new fun b4 g2 T => ?_
  have T := T.bx_rc 0 (k := 0) rfl rfl
  refine LoadX.same (v := .slice (some ⟨b1, o1, none⟩) x.dims.length 0) (T.le.at_ _ _ hb) rfl ?_
  refine ⟨⟨[1, 2, 3, 12, 13, 14], fun n' vs g3 => ∃ (i b4 : Nat) (cells : List Value) (M : Nat → Prop) (hb' : AH) (ps : List (STor × List Nat)), n' = x.dims.length - i ∧ i ≤ x.dims.length ∧ Le g hb' ∧ SepM M h.length hb' g3 [.rc 44 2 h.length (.slice (some ⟨b4, 0, none⟩) i 1) i cells] ∧ TO h.length hb' cells (homN x i) ps ∧
    vs = [.pointer (some ⟨b3, 0, none⟩), .slice none 0 0, .slice (some ⟨b4, 0, none⟩) i 1, .slice (some ⟨b1, o1, none⟩) x.dims.length 0, .int .i64 x.dims.length, .int .i64 i], _, ⟨0, b4, [], _, _, [], rfl, Nat.zero_le _, Le.refl _, T, TO.nil _ _, rfl⟩, ?_⟩⟩
  rintro n' vs g3 ⟨i, b5, cells, M, hb', ps, rfl, hi, L, S, ht, rfl⟩
  have L3 := (hg.trans L).trans S.le
  refine BIf.mk (fun h2 => ?_) (fun h2 => ?_)
  · have hlt : i < x.dims.length := by simpa using h2
    refine IdxX.mk (by omega) (by omega) ?_
    refine c1.ith L3 hlt ?_
    have fd := hh.dims i
    have l1 := smAt_len hk i
    have l2 := fromAt_len hk i
    have e1 : fromAt x (i + 1) = smAt x i := by unfold fromAt; rw [if_neg (by omega), Nat.add_sub_cancel]
    refine LoadX.same (v := .agg #[.slice (some ⟨b1, o1, none⟩) x.dims.length 0, .slice (some ⟨b2, o2, none⟩) x.maps.length 0]) ((L.trans S.le).at_ _ _ hb) rfl ?_
    refine WR.as (r := ((i + 1 : Nat) : Int)) (by omega) ?_
    refine S.made OI.fr (smithOf_c _ _ x ⟨_, _, rfl, qx.le L3⟩ hk (i + 1) (by omega)) fun b6 o6 g S => ?_
    rw [e1]
    have L4 := (hg.trans L).trans S.le
    refine LoadX.same (v := .agg #[.slice (some ⟨b1, o1, none⟩) x.dims.length 0, .slice (some ⟨b2, o2, none⟩) x.maps.length 0]) ((L.trans S.le).at_ _ _ hb) rfl ?_
    refine S.made OI.fr (smithOf_c _ _ x ⟨_, _, rfl, qx.le L4⟩ hk i (by omega)) fun b7 o7 g S => ?_
    refine CallX.same (sizeI_c _ _ _ _ _) ?_
    rintro r g' ⟨rfl, rfl⟩
    refine WR.i64 ?_
    refine CallX.same (sizeI_c _ _ _ _ _) ?_
    rintro r g' ⟨rfl, rfl⟩
    refine WR.i64 ?_
    refine S.new fun b8 g S => ?_
    refine S.put 0 rfl fun g S => ?_
    have S := S.nilrc tI 1
    refine ⟨⟨[1, 2, 3, 7, 12, 13, 14, 33, 34, 35], fun n' vs g3 => ∃ (j k : Nat) (A : Option Addr) (c : Nat), n' = (smAt x i).length - j ∧ j ≤ (smAt x i).length ∧ k ≤ j ∧ SepM M h.length hb' g3 [.rc tI 1 h.length (.slice A k c) k ((((smAt x i).take j).filter big1).map (.int .i64)), .bx b8 44 2 [.int .i64 (ith x.dims i - (fromAt x i).length - (smAt x i).length), .slice A k c], .tr OI.fr h.length (.slice (some ⟨b7, o7, none⟩) (fromAt x i).length 0) (fromAt x i), .tr OI.fr h.length (.slice (some ⟨b6, o6, none⟩) (smAt x i).length 0) (smAt x i), .rc 44 2 h.length (.slice (some ⟨b5, 0, none⟩) i 1) i cells] ∧
      vs = [.pointer (some ⟨b3, 0, none⟩), .slice none 0 0, .slice (some ⟨b5, 0, none⟩) i 1, .pointer (some ⟨b8, 0, none⟩), .slice (some ⟨b1, o1, none⟩) x.dims.length 0, .int .i64 x.dims.length, .int .i64 i, .slice (some ⟨b6, o6, none⟩) (smAt x i).length 0, .int .i64 (smAt x i).length, .int .i64 j], _, ⟨0, 0, none, 0, rfl, Nat.zero_le _, Nat.le_refl _, S, rfl⟩, ?_⟩⟩
    rintro n' vs g3 ⟨j, k, A, c, rfl, hj, hkj, S, rfl⟩
    have cI : CS EI g3 b6 o6 (smAt x i) := S.cellsI 3 rfl
    refine BIf.mk (fun h3 => ?_) (fun h3 => ?_)
    · have h3 : j < (smAt x i).length := by simpa using h3
      have hf := filter_take (p := big1) h3
      refine IdxX.mk (by omega) (by omega) ?_
      refine cI.ith (Le.refl _) h3 ?_
      refine BIf.mk (fun h4 => ?_) (fun h4 => ?_)
      · have h4 : ith (smAt x i) j > 1 := by simpa using h4
        rw [show big1 (ith (smAt x i) j) = true from decide_eq_true h4, if_pos rfl] at hf
        refine LoadX.same (v := .slice A k c) (S.at_ 1 rfl) rfl ?_
        refine S.new fun b9 g S => ?_
        refine S.app 0 rfl rfl rfl (by omega) fun b10 g S => ?_
        refine S.put 1 rfl fun g S => ?_
        refine WR.i64 ?_
        exact ⟨(smAt x i).length - (j + 1), by omega, j + 1, k + 1, some ⟨b10, 0, none⟩, 1, rfl, h3, by omega, by rw [hf, List.map_append]; exact S, rfl⟩
      · have h4 : ¬ ith (smAt x i) j > 1 := by simpa using h4
        rw [show big1 (ith (smAt x i) j) = false from decide_eq_false h4, if_neg (by simp), List.append_nil] at hf
        refine WR.i64 ?_
        exact ⟨(smAt x i).length - (j + 1), by omega, j + 1, k, A, c, rfl, h3, by omega, by rw [hf]; exact S, rfl⟩
    · have hj2 : j = (smAt x i).length := by simp at h3; omega
      subst hj2
      rw [List.take_length] at S
      refine LoadX.same (v := .agg #[.int .i64 (ith x.dims i - (fromAt x i).length - (smAt x i).length), .slice A k c]) (S.at_ 1 rfl) rfl ?_
      refine S.new fun b9 g S => ?_
      refine S.app 4 rfl rfl rfl (by omega) fun b10 g S => ?_
      refine WR.i64 ?_
      obtain ⟨F, L1, S1, S2⟩ := S.alone 4 rfl
      obtain ⟨m, r1, r2⟩ := S1.rdO (xs := ((smAt x i).filter big1)) 0 rfl (by omega)
      refine ⟨x.dims.length - (i + 1), by omega, i + 1, b10, _, F, hide F g, ps ++ [(torAt x i, m)], rfl, hlt, L.trans L1, S2, ?_, rfl⟩
      rw [homN_succ]
      exact ht.snoc (x := torAt x i) L1 rfl ⟨_, rfl, r1⟩ r2
  · have hi2 : i = x.dims.length := by simp at h2; omega
    subst hi2
    obtain ⟨l, R⟩ := S.rdTO 0 rfl ht (by omega)
    exact FinX.here L3.len ⟨l, R, L3⟩

theorem l07HomologyO_c (h : AH) (v : Value) (x : SWhole) (hx : RWhole h v x) (hk : wholeOk x = true) : ACalls Try.prog 69 [v] h (fun r h' => ∃ l, OTors h.length h' r (homol x) l ∧ Le h h') := by
  obtain ⟨b1, o1, b2, o2, kx, qx⟩ := hx.can
  refine (ACalls.wk (args' := [.agg #[.slice (some ⟨b1, o1, none⟩) x.dims.length 0, .slice (some ⟨b2, o2, none⟩) x.maps.length 0]]) ?_ (.cons kx .nil))
  refine ACalls.of Tt.tab Try.func69 rfl (by kernel_rfl) Try.ntmps69 _ rfl rfl (fun hw => ?_)
  have S := Sep.start h
  have c1 := RS.cells qx.1 rfl
  have c2 := RS.cells qx.2 rfl
  have hh := wholeOk_head hk
  have hlo := hh.lo
  have hhi := hh.hi
  have hlen := hh.len
  refine S.new fun b3 g S => ?_
  have hb := S.at_ 0 rfl
  have hg := S.le
  have hnl := S.nl
  have T := S.freeze
  clear S
  refine T.new fun b4 g2 T => ?_
  have T := T.bx_rc 0 (k := 0) rfl rfl
  refine ⟨⟨[1, 2, 3, 4, 5], fun n' vs g3 => ∃ (i b4 : Nat) (cells : List Value) (M : Nat → Prop) (hb' : AH) (ps : List (STor × List Nat)), n' = x.dims.length - i ∧ i ≤ x.dims.length ∧ Le g hb' ∧ SepM M h.length hb' g3 [.rc 44 2 h.length (.slice (some ⟨b4, 0, none⟩) i 1) i cells] ∧ TO h.length hb' cells (homN x i) ps ∧
    vs = [.pointer (some ⟨b3, 0, none⟩), .slice none 0 0, .slice (some ⟨b4, 0, none⟩) i 1, .int .i64 (fromAt x i).length, .int .i64 i], _, ⟨0, b4, [], _, _, [], rfl, Nat.zero_le _, Le.refl _, T, TO.nil _ _, rfl⟩, ?_⟩⟩
  rintro n' vs g3 ⟨i, b5, cells, M, hb', ps, rfl, hi, L, S, ht, rfl⟩
  have L3 := (hg.trans L).trans S.le
  have d3 := (L.trans S.le).at_ _ _ hb
  refine LoadX.same (v := .slice (some ⟨b1, o1, none⟩) x.dims.length 0) d3 rfl ?_
  refine BIf.mk (fun h2 => ?_) (fun h2 => ?_)
  · have hlt : i < x.dims.length := by simpa using h2
    have fd := hh.dims i
    have l1 := smAt_len hk i
    have l2 := fromAt_len hk i
    have e1 : fromAt x (i + 1) = smAt x i := by unfold fromAt; rw [if_neg (by omega), Nat.add_sub_cancel]
    refine LoadX.same (v := .slice (some ⟨b1, o1, none⟩) x.dims.length 0) d3 rfl ?_
    refine IdxX.mk (by omega) (by omega) ?_
    refine c1.ith L3 hlt ?_
    refine WR.i64 ?_
    refine S.new fun b6 g S => ?_
    refine S.new fun b7 g S => ?_
    refine S.new fun b8 g S => ?_
    refine S.put 0 rfl fun g S => ?_
    have S := S.bx_rc 2 (k := 0) rfl rfl
    have L4 := (hg.trans L).trans S.le
    have d4 := (L.trans S.le).at_ _ _ hb
    refine WR.i64 ?_
    refine LoadX.same (v := .slice (some ⟨b1, o1, none⟩) x.dims.length 0) d4 rfl ?_
    refine BIf.mk (fun h3 => ?_) (fun h3 => ?_)
    · have h3 : i < x.maps.length := by simp at h3; omega
      have e2 : smAt x i = smith (mat x.maps i) := if_pos h3
      refine LoadX.same (v := .slice (some ⟨b2, o2, none⟩) x.maps.length 0) d4 rfl ?_
      refine IdxX.mk (by omega) (by omega) ?_
      refine c2.mat L4 h3 fun b9 o9 h9 => ?_
      refine S.made OI.fr (l07Smith_c _ _ (mat x.maps i) (RII.le _ _ _ _ L4 h9) (wmatOf hk h3)) fun b9 o9 g S => ?_
      rw [← e2] at S ⊢
      refine LoadX.same (v := .int .i64 (ith x.dims i - (fromAt x i).length)) (S.at_ 1 rfl) rfl ?_
      refine WR.i64 ?_
      refine S.put 1 rfl fun g S => ?_
      have S := S.drop 2
      refine ⟨⟨[1, 2, 3, 4, 5, 6, 7, 8], fun n' vs g3 => ∃ (j k b6 : Nat), n' = (smAt x i).length - j ∧ j ≤ (smAt x i).length ∧ k ≤ j ∧ SepM M h.length hb' g3 [.tr OI.fr h.length (.slice (some ⟨b9, o9, none⟩) (smAt x i).length 0) (smAt x i), .bx b8 44 2 [.int .i64 (ith x.dims i - (fromAt x i).length - (smAt x i).length), .slice (some ⟨b6, 0, none⟩) k 1], .rc tI 1 h.length (.slice (some ⟨b6, 0, none⟩) k 1) k ((((smAt x i).take j).filter big1).map (.int .i64)), .rc 44 2 h.length (.slice (some ⟨b5, 0, none⟩) i 1) i cells] ∧
        vs = [.pointer (some ⟨b3, 0, none⟩), .slice none 0 0, .slice (some ⟨b5, 0, none⟩) i 1, .int .i64 (smAt x i).length, .int .i64 i, .pointer (some ⟨b8, 0, none⟩), .slice (some ⟨b9, o9, none⟩) (smAt x i).length 0, .int .i64 j], _, ⟨0, 0, b6, rfl, Nat.zero_le _, Nat.le_refl _, S, rfl⟩, ?_⟩⟩
      rintro n' vs g3 ⟨j, k, b6, rfl, hj, hkj, S, rfl⟩
      have cI : CS EI g3 b9 o9 (smAt x i) := S.cellsI 0 rfl
      refine BIf.mk (fun h3 => ?_) (fun h3 => ?_)
      · have h3 : j < (smAt x i).length := by simpa using h3
        have hf := filter_take (p := big1) h3
        refine IdxX.mk (by omega) (by omega) ?_
        refine cI.ith (Le.refl _) h3 ?_
        refine BIf.mk (fun h4 => ?_) (fun h4 => ?_)
        · have h4 : ith (smAt x i) j > 1 := by simpa using h4
          rw [show big1 (ith (smAt x i) j) = true from decide_eq_true h4, if_pos rfl] at hf
          refine DrawX.of Tt.tab follows_any [6] [7, 9] [0, 1, 2, 3, 4, 5, 6, 7, 8, 9] rfl (by kernel_rfl) (by kernel_rfl) ?_
          refine LoadX.same (v := .slice (some ⟨b6, 0, none⟩) k 1) (S.at_ 1 rfl) rfl ?_
          refine IdxX.mk (by omega) (by omega) ?_
          refine cI.ith (Le.refl _) h3 ?_
          refine S.newL fun b10 g L S => ?_
          refine ⟨L, ?_⟩
          refine S.app 2 rfl rfl rfl (by omega) fun b11 g S => ?_
          refine S.put 1 rfl fun g S => ?_
          refine WR.i64 ?_
          exact ⟨(smAt x i).length - (j + 1), by omega, j + 1, k + 1, b11, rfl, h3, by omega, by rw [hf, List.map_append]; exact S, rfl⟩
        · have h4 : ¬ ith (smAt x i) j > 1 := by simpa using h4
          rw [show big1 (ith (smAt x i) j) = false from decide_eq_false h4, if_neg (by simp), List.append_nil] at hf
          refine WR.i64 ?_
          exact ⟨(smAt x i).length - (j + 1), by omega, j + 1, k, b6, rfl, h3, by omega, by rw [hf]; exact S, rfl⟩
      · have hj2 : j = (smAt x i).length := by simp at h3; omega
        subst hj2
        rw [List.take_length] at S
        refine LoadX.same (v := .agg #[.int .i64 (ith x.dims i - (fromAt x i).length - (smAt x i).length), .slice (some ⟨b6, 0, none⟩) k 1]) (S.at_ 1 rfl) rfl ?_
        refine S.new fun b9 g S => ?_
        refine S.app 3 rfl rfl rfl (by omega) fun b10 g S => ?_
        refine WR.i64 ?_
        obtain ⟨F, L1, S1, S2⟩ := S.alone 3 rfl
        obtain ⟨m, r1, r2⟩ := S1.rdO (xs := ((smAt x i).filter big1)) 2 rfl (by omega)
        refine ⟨x.dims.length - (i + 1), by omega, i + 1, b10, _, F, hide F g, ps ++ [(torAt x i, m)], rfl, hlt, L.trans L1, S2, ?_, by rw [e1]; rfl⟩
        rw [homN_succ]
        exact ht.snoc (x := torAt x i) L1 rfl ⟨_, rfl, r1⟩ r2
    · have h3 : ¬ i < x.maps.length := by simp at h3; omega
      have e2 : smAt x i = [] := if_neg h3
      refine LoadX.same (v := .int .i64 (ith x.dims i - (fromAt x i).length)) (S.at_ 0 rfl) rfl ?_
      refine WR.as (r := ith x.dims i - (fromAt x i).length) (by simp) ?_
      refine S.put 0 rfl fun g S => ?_
      refine ⟨⟨[1, 2, 3, 4, 5, 6, 7, 8], fun n' vs g4 => n' = 0 ∧ g4 = g ∧
        vs = [.pointer (some ⟨b3, 0, none⟩), .slice none 0 0, .slice (some ⟨b5, 0, none⟩) i 1, .int .i64 0, .int .i64 i, .pointer (some ⟨b8, 0, none⟩), .slice (some ⟨b7, 0, none⟩) 0 1, .int .i64 0], _, ⟨rfl, rfl, rfl⟩, ?_⟩⟩
      rintro n' vs g4 ⟨rfl, rfl, rfl⟩
      refine BIf.no rfl ?_
      refine LoadX.same (v := .agg #[.int .i64 (ith x.dims i - (fromAt x i).length), .slice (some ⟨b6, 0, none⟩) 0 1]) (S.at_ 0 rfl) rfl ?_
      refine S.new fun b9 g S => ?_
      refine S.app 3 rfl rfl rfl (by omega) fun b10 g S => ?_
      refine WR.i64 ?_
      obtain ⟨F, L1, S1, S2⟩ := S.alone 3 rfl
      obtain ⟨m, r1, r2⟩ := S1.rdO (xs := []) 2 rfl (by omega)
      refine ⟨x.dims.length - (i + 1), by omega, i + 1, b10, _, F, hide F g, ps ++ [(torAt x i, m)], rfl, hlt, L.trans L1, S2, ?_, by rw [e1, e2]; rfl⟩
      rw [homN_succ]
      have eT : EO h.length (hide F g) [.int .i64 (ith x.dims i - (fromAt x i).length), .slice (some ⟨b6, 0, none⟩) 0 1] (torAt x i, m) := by
        refine ⟨.slice (some ⟨b6, 0, none⟩) 0 1, ?_, ?_⟩
        · simp only [torAt, e2]; simp
        · simp only [torAt, e2]; exact r1
      exact ht.snoc (us := [.int .i64 (ith x.dims i - (fromAt x i).length), .slice (some ⟨b6, 0, none⟩) 0 1]) L1 rfl eT r2
  · have hi2 : i = x.dims.length := by simp at h2; omega
    subst hi2
    obtain ⟨l, R⟩ := S.rdTO 0 rfl ht (by omega)
    exact FinX.here L3.len ⟨l, R, L3⟩

end Go.Gl

set_option linter.unusedVariables false
set_option linter.unusedSimpArgs false
namespace Go.Gl
open Go.Proofs Go.Proofs.Ytoeapenknlfffaa Go.Pl

theorem OTors.can {n : Nat} {h : AH} {v : Value} {xs : List STor} {l : List Nat} (o : OTors n h v xs l) : ∃ b c, Wk v (.slice (some ⟨b, c, none⟩) xs.length 0) ∧ OTors n h (.slice (some ⟨b, c, none⟩) xs.length 0) xs l := by
  obtain ⟨hm, ⟨rfl, h1, h2⟩ | ⟨b, c, blk, ps, h1, h2⟩⟩ := o
  · exact ⟨0, 0, h2, hm, .inl ⟨rfl, h1, Wk.refl _⟩⟩
  · exact ⟨b, c, h1, hm, .inr ⟨b, c, blk, ps, Wk.refl _, h2⟩⟩
theorem OTors.low {n m : Nat} {h : AH} {v : Value} {xs : List STor} {l : List Nat} (o : OTors n h v xs l) (hl : m ≤ n) : OTors m h v xs l := by
  obtain ⟨hm, h1 | ⟨b, c, blk, ps, h1, h2, h3, h4, h5, h6, h7⟩⟩ := o
  · exact ⟨hm, .inl h1⟩
  · refine ⟨hm, .inr ⟨b, c, blk, ps, h1, by omega, h3, h4, h5, ⟨h6.fst, ⟨h6.tell.len, fun k x hk => ?_⟩, h6.nd⟩, h7⟩⟩
    obtain ⟨us, a1, a2, w, a3, a4⟩ := h6.tell.el k x hk
    exact ⟨us, a1, a2, w, a3, OI.fr.low _ _ _ _ _ _ a4 hl⟩
/-- what stands from n on is enough -/
theorem OTors.far {n : Nat} {h h' : AH} {v : Value} {xs : List STor} {l : List Nat} (o : OTors n h v xs l) (hk : ∀ i b, n ≤ i → look h i = some b → look h' i = some b) : OTors n h' v xs l := by
  obtain ⟨hm, h1 | ⟨b, c, blk, ps, h1, h2, h3, h4, h5, h6, h7⟩⟩ := o
  · exact ⟨hm, .inl h1⟩
  · refine ⟨hm, .inr ⟨b, c, blk, ps, h1, h2, hk b blk h2 h3, h4, h5, ⟨h6.fst, ⟨h6.tell.len, fun k x hx => ?_⟩, h6.nd⟩, h7⟩⟩
    obtain ⟨us, a1, a2, w, a3, a4⟩ := h6.tell.el k x hx
    exact ⟨us, a1, a2, w, a3, OI.fr.keep _ _ _ _ _ _ a4 fun i bb e1 e2 _ => hk i bb e2 e1⟩
theorem OTors.le {n : Nat} {h h' : AH} {v : Value} {xs : List STor} {l : List Nat} (o : OTors n h v xs l) (hl : Le h h') : OTors n h' v xs l := o.far fun i b _ e => hl.at_ _ _ e
theorem part_cells {cs : List Value} {o N k : Nat} (h : k * 2 + 2 ≤ N) : (((cs.drop o).take N).drop (k * 2)).take 2 = (cs.drop (o + k * 2)).take 2 := by
  rw [List.drop_take, List.take_take, List.drop_drop, Nat.min_eq_left (by omega)]
theorem TO.len {n : Nat} {h : AH} {cells : List Value} {xs : List STor} {ps : List (STor × List Nat)} (t : TO n h cells xs ps) : ps.length = xs.length := by rw [← t.fst, List.length_map]
theorem OTors.reads {n : Nat} {h : AH} {v : Value} {xs : List STor} {l : List Nat} (o : OTors n h v xs l) : RT h v xs := by
  obtain ⟨hm, ⟨rfl, h1, h2⟩ | ⟨b, c, blk, ps, h1, h2, h3, h4, h5, h6, h7⟩⟩ := o
  · exact ⟨hm, 0, 0, h2, fun k x hk => by simp at hk⟩
  · refine ⟨hm, b, c, h1, fun k x hk => ?_⟩
    have hkl := (List.getElem?_eq_some_iff.1 hk).1
    have hp := h6.len
    obtain ⟨q, hq⟩ : ∃ q, ps[k]? = some q := ⟨ps[k]'(by omega), List.getElem?_eq_getElem _⟩
    have hx : q.1 = x := by
      have := h6.fst
      rw [← this, List.getElem?_map, hq] at hk
      simpa using hk
    obtain ⟨us, a1, a2, w, a3, a4⟩ := h6.tell.el k q hq
    rw [part_cells (by omega)] at a2
    exact ⟨blk, us, h3, a1, by rw [mulE_eq]; exact a2, w, by rw [← hx]; exact a3, by rw [← hx]; exact OI.reads _ _ _ _ _ a4⟩
def wholeH (x : SWhole) : List STor × Int := if wholeOk x then (homol x, 0) else ([], 1)

theorem wholeHI_c (h : AH) (v : Value) (x : SWhole) (hx : RWhole h v x) : ACalls Try.prog 22 [v] h (fun r h' => ∃ v l, r = .tuple #[v, .int .i64 (wholeH x).2] ∧ OTors h.length h' v (wholeH x).1 l ∧ Le h h') := by
  obtain ⟨b1, o1, b2, o2, kx, qx⟩ := hx.can
  refine ACalls.wk (args' := [.agg #[.slice (some ⟨b1, o1, none⟩) x.dims.length 0, .slice (some ⟨b2, o2, none⟩) x.maps.length 0]]) ?_ (.cons kx .nil)
  refine ACalls.of Tt.tab Try.func22 rfl (by kernel_rfl) Try.ntmps22 _ rfl rfl (fun hw => ?_)
  have S := Sep.start h
  refine S.new fun b3 g S => ?_
  refine LoadX.same (v := .agg #[.slice (some ⟨b1, o1, none⟩) x.dims.length 0, .slice (some ⟨b2, o2, none⟩) x.maps.length 0]) (S.at_ 0 rfl) rfl ?_
  refine CallX.same (isWholeI_c _ _ x ⟨_, _, rfl, qx.le S.le⟩) ?_
  rintro r g' ⟨rfl, rfl⟩
  unfold wholeH
  refine BIf.mk (fun e1 => ?_) (fun e1 => ?_)
  · have e1 : wholeOk x = false := by simpa using e1
    rw [e1]
    exact FinX.here S.le.len ⟨_, [], rfl, ⟨by simp, .inl ⟨rfl, rfl, Wk.nil _⟩⟩, S.le⟩
  have e1 : wholeOk x = true := by simpa using e1
  rw [if_pos e1]
  refine LoadX.same (v := .agg #[.slice (some ⟨b1, o1, none⟩) x.dims.length 0, .slice (some ⟨b2, o2, none⟩) x.maps.length 0]) (S.at_ 0 rfl) rfl ?_
  refine CallX.canon (homologyIO_c _ _ x ⟨_, _, rfl, qx.le S.le⟩ e1) ?_
  rintro r g' ⟨l, o, L⟩
  obtain ⟨b4, o4, k4, o⟩ := o.can
  refine ⟨_, k4, ?_⟩
  exact FinX.here (S.le.trans L).len ⟨_, l, rfl, o.low S.le.len, S.le.trans L⟩

theorem wholeHS_c (h : AH) (v : Value) (x : SWhole) (hx : RWhole h v x) : ACalls Try.prog 24 [v] h (fun r h' => ∃ v l, r = .tuple #[v, .int .i64 (wholeH x).2] ∧ OTors h.length h' v (wholeH x).1 l ∧ Le h h') := by
  obtain ⟨b1, o1, b2, o2, kx, qx⟩ := hx.can
  refine ACalls.wk (args' := [.agg #[.slice (some ⟨b1, o1, none⟩) x.dims.length 0, .slice (some ⟨b2, o2, none⟩) x.maps.length 0]]) ?_ (.cons kx .nil)
  refine ACalls.of Tt.tab Try.func24 rfl (by kernel_rfl) Try.ntmps24 _ rfl rfl (fun hw => ?_)
  have S := Sep.start h
  refine S.new fun b3 g S => ?_
  refine LoadX.same (v := .agg #[.slice (some ⟨b1, o1, none⟩) x.dims.length 0, .slice (some ⟨b2, o2, none⟩) x.maps.length 0]) (S.at_ 0 rfl) rfl ?_
  refine CallX.same (l07Is_c _ _ x ⟨_, _, rfl, qx.le S.le⟩) ?_
  rintro r g' ⟨rfl, rfl⟩
  unfold wholeH
  refine BIf.mk (fun e1 => ?_) (fun e1 => ?_)
  · have e1 : wholeOk x = false := by simpa using e1
    rw [e1]
    exact FinX.here S.le.len ⟨_, [], rfl, ⟨by simp, .inl ⟨rfl, rfl, Wk.nil _⟩⟩, S.le⟩
  have e1 : wholeOk x = true := by simpa using e1
  rw [if_pos e1]
  refine LoadX.same (v := .agg #[.slice (some ⟨b1, o1, none⟩) x.dims.length 0, .slice (some ⟨b2, o2, none⟩) x.maps.length 0]) (S.at_ 0 rfl) rfl ?_
  refine CallX.canon (l07HomologyO_c _ _ x ⟨_, _, rfl, qx.le S.le⟩ e1) ?_
  rintro r g' ⟨l, o, L⟩
  obtain ⟨b4, o4, k4, o⟩ := o.can
  refine ⟨_, k4, ?_⟩
  exact FinX.here (S.le.trans L).len ⟨_, l, rfl, o.low S.le.len, S.le.trans L⟩

end Go.Gl

/- Plain double complexes. No condition. Chapter 3: cells, their dimensions and differentials, and a call for each cell. No condition. Chapter 3: IsDouble, the program's side. No condition. Chapter 3: IsDouble, the program's side: all cells. No condition. -/
import Derived.Test.YtionapmdibdfpaaFnA2
import Derived.Test.YtionapmdibdfpaaFnStruct
import Derived.Test.YtionapmdibdfpaaPlK
import Derived.Test.YtionapmdibdfpaaGlQ
set_option linter.unusedVariables false
set_option linter.unusedSimpArgs false
namespace Go.Gl
open Go.Proofs Go.Proofs.Ytionapmdibdfpaa Go.Pl

/-- the column at a place -/
def ten (t : List (List (List (List Int)))) (i : Nat) : List (List (List Int)) := t.getD i []
theorem ten_get {t : List (List (List (List Int)))} {i : Nat} (h : i < t.length) : t[i] = ten t i := by simp [ten, h]
theorem ten_getq {t : List (List (List (List Int)))} {i : Nat} (h : i < t.length) : t[i]? = some (ten t i) := by simp [ten, h]
theorem ten_out {t : List (List (List (List Int)))} {i : Nat} (h : t.length ≤ i) : ten t i = [] := by simp [ten, List.getElem?_eq_none h]
theorem mat_out {t : List (List (List Int))} {i : Nat} (h : t.length ≤ i) : mat t i = [] := by simp [mat, List.getElem?_eq_none h]
/-- the rows of a cell -/
def cel (t : List (List (List (List Int)))) (i j : Nat) : List (List Int) := mat (ten t i) j
/-- a row of rows of rows of rows, read where it was first told -/
theorem CS.ten {h g : AH} {b o : Nat} {xs : List (List (List (List Int)))} (hc : CS RIII h b o xs) (hl : Le h g) {i : TI} {k a : Nat} {K : Value → Prop} (hk : k < xs.length)
    (hK : ∀ b' o', RIII h (.slice (some ⟨b', o', none⟩) (ten xs k).length 0) (ten xs k) → K (.slice (some ⟨b', o', none⟩) (ten xs k).length 0)) (ha : a = o + k := by rfl) (hi : i.agg = false := by rfl) : LoadX g i b a K := by
  subst ha
  obtain ⟨blk, u, h1, h2, hm, b', o', h3, h4⟩ := hc k xs[k] (List.getElem?_eq_getElem hk)
  rw [ten_get hk] at hm h3 h4
  refine LoadX.one (hl.at_ _ _ h1) ?_ h3 (hK b' o' ⟨hm, b', o', Wk.refl _, h4⟩)
  unfold ldv
  rw [hi]
  exact h2

def dW (x : SDouble) : Nat := x.dims.length
def dH (x : SDouble) : Nat := (row x.dims 0).length
/-- the dimension of a cell, 0 outside -/
def dimZ (x : SDouble) (i j : Int) : Int := if (0 ≤ i ∧ i ≤ (dW x : Int) - 1) ∧ (0 ≤ j ∧ j ≤ (dH x : Int) - 1) then ent x.dims i.toNat j.toNat else 0
/-- the rows of a cell, none outside -/
def celZ (x : SDouble) (t : List (List (List (List Int)))) (i j : Int) : List (List Int) := if (0 ≤ i ∧ i ≤ (dW x : Int) - 1) ∧ (0 ≤ j ∧ j ≤ (dH x : Int) - 1) then cel t i.toNat j.toNat else []
def acr (x : SDouble) (i j : Int) (v : List Int) : List Int := comb x.prime (dimZ x (i - 1) j).toNat v (celZ x x.across i j)
def dwn (x : SDouble) (i j : Int) (v : List Int) : List Int := comb x.prime (dimZ x i (j - 1)).toNat v (celZ x x.down i j)
/-- the differentials of the differentials of a basis vector are as told -/
def sqAcr (x : SDouble) (i j : Int) (k : Nat) : Bool := zeroV (acr x (i - 1) j (row (celZ x x.across i j) k))
def sqDwn (x : SDouble) (i j : Int) (k : Nat) : Bool := zeroV (dwn x i (j - 1) (row (celZ x x.down i j) k))
def sqBoth (x : SDouble) (i j : Int) (k : Nat) : Bool := zeroV (less x.prime (dwn x (i - 1) j (row (celZ x x.across i j) k)) (acr x i (j - 1) (row (celZ x x.down i j) k)) (-1))
def sqCell (x : SDouble) (i j : Int) (k : Nat) : Bool := sqAcr x i j k && sqDwn x i j k && sqBoth x i j k
def TabOk (x : SDouble) (t : List (List (List (List Int)))) (w : Int → Int → Int) : Prop :=
  t.length = dW x ∧ (∀ i, i < dW x → (ten t i).length = dH x) ∧ ∀ i j, i < dW x → j < dH x → ((cel t i j).length : Int) = dimZ x i j ∧ rowsOk x.prime (w i j) (cel t i j) = true
structure DHead (x : SDouble) : Prop where
  p : prime x.prime = true
  w : 1 ≤ dW x ∧ dW x ≤ 4
  h : 1 ≤ dH x ∧ dH x ≤ 4
  col : ∀ i, i < dW x → (row x.dims i).length = dH x
  num : ∀ i, i < dW x → ∀ j, j < dH x → 0 ≤ ent x.dims i j ∧ ent x.dims i j ≤ 4
structure DShape (x : SDouble) : Prop extends DHead x where
  acr : TabOk x x.across fun i j => dimZ x (i - 1) j
  dwn : TabOk x x.down fun i j => dimZ x i (j - 1)
structure DOk (x : SDouble) : Prop extends DShape x where
  sq : ∀ i j k : Nat, i < dW x → j < dH x → (k : Int) < dimZ x i j → sqCell x i j k = true
noncomputable def dOk (x : SDouble) : Bool := @decide (DOk x) (Classical.propDecidable _)
theorem dOk_t {x : SDouble} (h : DOk x) : dOk x = true := @decide_eq_true _ (Classical.propDecidable _) h
theorem dOk_f {x : SDouble} (h : ¬ DOk x) : dOk x = false := @decide_eq_false _ (Classical.propDecidable _) h
theorem dOk_mk {x : SDouble} (h : dOk x = true) : DOk x := @of_decide_eq_true _ (Classical.propDecidable _) h
theorem dimZ_in {x : SDouble} {i j : Nat} (hi : i < dW x) (hj : j < dH x) : dimZ x i j = ent x.dims i j := by
  unfold dimZ
  rw [if_pos ⟨⟨by omega, by omega⟩, by omega, by omega⟩]
  rfl
theorem celZ_in {x : SDouble} {t : List (List (List (List Int)))} {i j : Nat} (hi : i < dW x) (hj : j < dH x) : celZ x t i j = cel t i j := by
  unfold celZ
  rw [if_pos ⟨⟨by omega, by omega⟩, by omega, by omega⟩]
  rfl
theorem dimZ_out {x : SDouble} {i j : Int} (h : ¬ ((0 ≤ i ∧ i ≤ (dW x : Int) - 1) ∧ (0 ≤ j ∧ j ≤ (dH x : Int) - 1))) : dimZ x i j = 0 := if_neg h
theorem celZ_out {x : SDouble} {t : List (List (List (List Int)))} {i j : Int} (h : ¬ ((0 ≤ i ∧ i ≤ (dW x : Int) - 1) ∧ (0 ≤ j ∧ j ≤ (dH x : Int) - 1))) : celZ x t i j = [] := if_neg h
theorem in_nat {x : SDouble} {i j : Int} (h : (0 ≤ i ∧ i ≤ (dW x : Int) - 1) ∧ (0 ≤ j ∧ j ≤ (dH x : Int) - 1)) : ∃ a b : Nat, i = a ∧ j = b ∧ a < dW x ∧ b < dH x := ⟨i.toNat, j.toNat, by omega, by omega, by omega, by omega⟩
theorem DHead.dim {x : SDouble} (h : DHead x) (i j : Int) : 0 ≤ dimZ x i j ∧ dimZ x i j ≤ 4 := by
  by_cases hh : (0 ≤ i ∧ i ≤ (dW x : Int) - 1) ∧ (0 ≤ j ∧ j ≤ (dH x : Int) - 1)
  · obtain ⟨a, b, rfl, rfl, ha, hb⟩ := in_nat hh
    rw [dimZ_in ha hb]
    exact h.num a ha b hb
  · rw [dimZ_out hh]; omega
/-- what stands in a cell of a table in order -/
theorem TabOk.cell {x : SDouble} {t : List (List (List (List Int)))} {w : Int → Int → Int} (h : TabOk x t w) (i j : Int) : ((celZ x t i j).length : Int) = dimZ x i j ∧ Mat x.prime (w i j).toNat (celZ x t i j) := by
  by_cases hh : (0 ≤ i ∧ i ≤ (dW x : Int) - 1) ∧ (0 ≤ j ∧ j ≤ (dH x : Int) - 1)
  · obtain ⟨a, b, rfl, rfl, ha, hb⟩ := in_nat hh
    obtain ⟨h1, h2⟩ := h.2.2 a b ha hb
    rw [celZ_in ha hb]
    exact ⟨h1, rowsOk_mat h2⟩
  · rw [celZ_out hh, dimZ_out hh]
    exact ⟨rfl, Mat.nil _ _⟩
theorem comb_nil {p : Int} {n : Nat} {v : List Int} : comb p n v [] = tab n fun _ => 0 := by
  unfold comb
  refine tab_congr fun k _ => ?_
  have : ∀ m, sm m (fun i => ith v i * ent [] i k) = 0 := fun m => by
    induction m with
    | zero => rfl
    | succ m ih => simp only [sm]; rw [ih]; simp [ent, row, ith]
  rw [this]; rfl
theorem Vec.combN {p : Int} (hp : 0 < p) {n : Nat} {v : List Int} {rows : List (List Int)} : Vec p n (comb p n v rows) := Vec.tab fun i _ => ⟨Int.emod_nonneg _ (by omega), Int.emod_lt_of_pos _ hp⟩
/-- a basis vector picks its row -/
theorem comb_unit {p : Int} (hp : 1 < p) {n m k : Nat} {rows : List (List Int)} (hr : Mat p n rows) (hk : k < rows.length) (hm : m = rows.length) : comb p n (unitv m k) rows = row rows k := by
  obtain ⟨h1, h2⟩ := hr.row hk
  refine ext_ith (by rw [comb, tab_length, h1]) fun c hc => ?_
  rw [comb, tab_length] at hc
  rw [comb, tab_ith hc]
  have e : ∀ q, q ≤ m → sm q (fun i => ith (unitv m k) i * ent rows i c) = if k < q then ent rows k c else 0 := fun q => by
    induction q with
    | zero => intro _; rfl
    | succ q ih =>
      intro hq
      simp only [sm]
      rw [ih (by omega), show ith (unitv m k) q = if q = k then 1 else 0 from tab_ith (by omega)]
      by_cases h3 : k < q
      · rw [if_pos h3, if_neg (by omega), if_pos (by omega)]; omega
      · rw [if_neg h3]
        by_cases h4 : q = k
        · subst h4; rw [if_pos rfl, if_pos (by omega)]; omega
        · rw [if_neg h4, if_neg (by omega)]; omega
  rw [show (unitv m k).length = m from tab_length _ _, e m (Nat.le_refl _), if_pos (by omega)]
  have := h2.ith (by omega) c
  exact Int.emod_eq_of_lt this.1 this.2
end Go.Gl

set_option linter.unusedVariables false
set_option linter.unusedSimpArgs false
namespace Go.Gl
open Go.Proofs Go.Proofs.Ytionapmdibdfpaa Go.Pl

/-- where the tables of a double complex lie -/
structure DP where
  b1 : Nat
  o1 : Nat
  b2 : Nat
  o2 : Nat
  b3 : Nat
  o3 : Nat
abbrev vD1 (x : SDouble) (P : DP) : Value := .slice (some ⟨P.b1, P.o1, none⟩) x.dims.length 0
abbrev vD2 (x : SDouble) (P : DP) : Value := .slice (some ⟨P.b2, P.o2, none⟩) x.across.length 0
abbrev vD3 (x : SDouble) (P : DP) : Value := .slice (some ⟨P.b3, P.o3, none⟩) x.down.length 0
abbrev cD (x : SDouble) (P : DP) : List Value := [.int .i64 x.prime, vD1 x P, vD2 x P, vD3 x P]
abbrev vD (x : SDouble) (P : DP) : Value := .agg #[.int .i64 x.prime, vD1 x P, vD2 x P, vD3 x P]
abbrev QD (h : AH) (x : SDouble) (P : DP) : Prop := QDouble h (vD1 x P) (vD2 x P) (vD3 x P) x
theorem RDouble.at_ {h : AH} {v : Value} {x : SDouble} (hr : RDouble h v x) : ∃ P : DP, Wk v (vD x P) ∧ QD h x P := by
  obtain ⟨b1, o1, b2, o2, b3, o3, k, q⟩ := hr.can
  exact ⟨⟨b1, o1, b2, o2, b3, o3⟩, k, q⟩
theorem QD.reads {h g : AH} {x : SDouble} {P : DP} (q : QD h x P) (l : Le h g) : RDouble g (vD x P) x := ⟨_, _, _, rfl, QDouble.le l q⟩


theorem wide_c (h : AH) (v : Value) (x : SDouble) (hx : RDouble h v x) : ACalls Try.prog 49 [v] h (fun r h' => r = .int .i64 (dW x) ∧ h' = h) := by
  obtain ⟨P, kx, qx⟩ := hx.at_
  refine ACalls.wk (args' := [vD x P]) ?_ (.cons kx .nil)
  refine ACalls.of Tt.tab Try.func49 rfl (by kernel_rfl) Try.ntmps49 _ rfl rfl (fun hw => ?_)
  have S := Sep.start h
  refine S.new fun b g S => ?_
  refine LoadX.same (v := vD1 x P) (S.at_ 0 rfl) rfl ?_
  refine CallX.same (sizeII_c _ _ _ _ _) ?_
  rintro r g' ⟨rfl, rfl⟩
  exact FinX.keep hw S.le rfl ⟨rfl, rfl⟩
theorem high_c (h : AH) (v : Value) (x : SDouble) (hx : RDouble h v x) (h1 : 1 ≤ dW x) : ACalls Try.prog 50 [v] h (fun r h' => r = .int .i64 (dH x) ∧ h' = h) := by
  obtain ⟨P, kx, qx⟩ := hx.at_
  refine ACalls.wk (args' := [vD x P]) ?_ (.cons kx .nil)
  refine ACalls.of Tt.tab Try.func50 rfl (by kernel_rfl) Try.ntmps50 _ rfl rfl (fun hw => ?_)
  have S := Sep.start h
  have c1 := RS.cells qx.1 rfl
  have h1 : 1 ≤ x.dims.length := h1
  refine S.new fun b g S => ?_
  refine LoadX.same (v := vD1 x P) (S.at_ 0 rfl) rfl ?_
  refine IdxX.mk (by omega) (by omega) ?_
  refine c1.row S.le (show 0 < x.dims.length by omega) fun b4 o4 c4 => ?_
  refine CallX.same (sizeI_c _ _ _ _ _) ?_
  rintro r g' ⟨rfl, rfl⟩
  exact FinX.keep hw S.le rfl ⟨rfl, rfl⟩

theorem dim_c (h : AH) (v : Value) (x : SDouble) (i j : Int) (hx : RDouble h v x) (hd : DHead x) : ACalls Try.prog 55 [v, .int .i64 i, .int .i64 j] h (fun r h' => r = .int .i64 (dimZ x i j) ∧ h' = h) := by
  obtain ⟨P, kx, qx⟩ := hx.at_
  refine ACalls.wk (args' := [vD x P, .int .i64 i, .int .i64 j]) ?_ (.cons kx (.cons (Wk.refl _) (.cons (Wk.refl _) .nil)))
  refine ACalls.of Tt.tab Try.func55 rfl (by kernel_rfl) Try.ntmps55 _ rfl rfl (fun hw => ?_)
  have S := Sep.start h
  have c1 := RS.cells qx.1 rfl
  have hW := hd.w
  have hH := hd.h
  refine S.new fun b g S => ?_
  refine LoadX.same (v := vD x P) (S.at_ 0 rfl) rfl ?_
  refine CallX.same (wide_c _ _ x (qx.reads S.le)) ?_
  rintro r g' ⟨rfl, rfl⟩
  refine WR.i64 ?_
  refine CallX.same (between_c _ i 0 _) ?_
  rintro r g' ⟨rfl, rfl⟩
  refine BIf.mk (fun e1 => ?_) (fun e1 => ?_)
  · have e1 : ¬ (0 ≤ i ∧ i ≤ (dW x : Int) - 1) := by simp at e1; omega
    refine BIf.yes rfl ?_
    exact FinX.keep hw S.le rfl ⟨by rw [dimZ_out fun hh => e1 hh.1], rfl⟩
  have e1 : 0 ≤ i ∧ i ≤ (dW x : Int) - 1 := by simpa using e1
  refine LoadX.same (v := vD x P) (S.at_ 0 rfl) rfl ?_
  refine CallX.same (high_c _ _ x (qx.reads S.le) hW.1) ?_
  rintro r g' ⟨rfl, rfl⟩
  refine WR.i64 ?_
  refine CallX.same (between_c _ j 0 _) ?_
  rintro r g' ⟨rfl, rfl⟩
  refine BIf.mk (fun e2 => ?_) (fun e2 => ?_)
  · have e2 : ¬ (0 ≤ j ∧ j ≤ (dH x : Int) - 1) := by simp at e2; omega
    exact FinX.keep hw S.le rfl ⟨by rw [dimZ_out fun hh => e2 hh.2], rfl⟩
  have e2 : 0 ≤ j ∧ j ≤ (dH x : Int) - 1 := by simpa using e2
  obtain ⟨a, c, rfl, rfl, ha, hc⟩ := in_nat ⟨e1, e2⟩
  have hcol := hd.col a ha
  refine LoadX.same (v := vD1 x P) (S.at_ 0 rfl) rfl ?_
  refine IdxX.mk (by omega) (by show (a : Int) < (x.dims.length : Int); unfold dW at ha; omega) ?_
  refine c1.row S.le ha fun b4 o4 c4 => ?_
  refine IdxX.mk (by omega) (by omega) ?_
  refine c4.ith S.le (show c < (row x.dims a).length by omega) ?_
  exact FinX.keep hw S.le rfl ⟨by rw [dimZ_in ha hc]; rfl, rfl⟩

theorem across_c (h : AH) (v wv : Value) (x : SDouble) (i j : Int) (w : List Int) (hx : RDouble h v x) (hw' : RI h wv w) (hd : DHead x) (ht : TabOk x x.across fun i j => dimZ x (i - 1) j) (hi : -10 ≤ i ∧ i ≤ 10) (bw : Rng x.prime w) (hl : (w.length : Int) ≤ dimZ x i j) :
    ACalls Try.prog 61 [v, .int .i64 i, .int .i64 j, wv] h (Made OI h (acr x i j w)) := by
  obtain ⟨P, kx, qx⟩ := hx.at_
  obtain ⟨b4, o4, kw, hw'⟩ := hw'.can
  refine ACalls.madeI (ACalls.wk (args' := [vD x P, .int .i64 i, .int .i64 j, .slice (some ⟨b4, o4, none⟩) w.length 0]) ?_ (.cons kx (.cons (Wk.refl _) (.cons (Wk.refl _) (.cons kw .nil)))))
  refine ACalls.of Tt.tab Try.func61 rfl (by kernel_rfl) Try.ntmps61 _ rfl rfl (fun hw => ?_)
  have S := Sep.start h
  have c2 := RS.cells qx.2.1 rfl
  have hd1 := hd.dim (i - 1) j
  obtain ⟨t1, t2⟩ := ht.cell i j
  obtain ⟨nn, hnn⟩ : ∃ m : Nat, dimZ x (i - 1) j = m := ⟨(dimZ x (i - 1) j).toNat, by omega⟩
  refine S.new fun b g S => ?_
  refine LoadX.same (v := vD x P) (S.at_ 0 rfl) rfl ?_
  refine CallX.same (dim_c _ _ x i j (qx.reads S.le) hd) ?_
  rintro r g' ⟨rfl, rfl⟩
  refine BIf.mk (fun e1 => ?_) (fun e1 => ?_)
  · have e1 : dimZ x i j = 0 := by simpa using e1
    refine LoadX.same (v := vD x P) (S.at_ 0 rfl) rfl ?_
    refine WR.i64 ?_
    refine CallX.same (dim_c _ _ x (i - 1) j (qx.reads S.le) hd) ?_
    rintro r g' ⟨rfl, rfl⟩
    rw [hnn]
    refine ⟨by omega, rfl, by omega, by show (nn : Int) * (8 : Nat) ≤ _; omega, ?_⟩
    refine S.new fun b5 g S => ?_
    have S := S.recast 0 rfl (zeros_tab _)
    have e2 : celZ x x.across i j = [] := List.length_eq_zero_iff.1 (by omega)
    have e3 : acr x i j w = tab nn fun _ => 0 := by unfold acr; rw [e2, comb_nil, hnn]; rfl
    have S := S.bx_tr (xs := acr x i j w) 0 (by rw [e3]; rfl) (by rw [e3, tab_length]; omega) 1
    rw [e3, tab_length] at S
    rw [e3]
    exact S.fin 0 rfl
  · have e1 : dimZ x i j ≠ 0 := by simpa using e1
    have hin : (0 ≤ i ∧ i ≤ (dW x : Int) - 1) ∧ (0 ≤ j ∧ j ≤ (dH x : Int) - 1) := Classical.byContradiction fun hh => e1 (dimZ_out hh)
    obtain ⟨a, c, rfl, rfl, ha, hc⟩ := in_nat hin
    have hla : x.across.length = dW x := ht.1
    have hlc := ht.2.1 a ha
    refine DrawX.of Tt.tab follows_any [16] [] [0, 1, 2, 3, 4, 5, 6, 7, 8, 9, 10, 11, 12, 13, 14, 15, 16, 17] rfl (by kernel_rfl) (by kernel_rfl) ?_
    refine LoadX.same (v := .int .i64 x.prime) (S.at_ 0 rfl) rfl ?_
    refine LoadX.same (v := vD x P) (S.at_ 0 rfl) rfl ?_
    refine WR.i64 ?_
    refine QCall.of (fun g2 hl => dim_c g2 _ x _ _ (qx.reads (S.le.trans hl)) hd) rfl ?_
    refine LoadX.same (v := vD2 x P) (S.at_ 0 rfl) rfl ?_
    refine IdxX.mk (by omega) (by omega) ?_
    refine c2.ten S.le (show a < x.across.length by omega) fun b5 o5 h5 => ?_
    have c5 := h5.cells rfl
    refine IdxX.mk (by omega) (by omega) ?_
    refine c5.mat S.le (show c < (ten x.across a).length by omega) fun b6 o6 h6 => ?_
    rw [hnn]
    have e4 : celZ x x.across a c = mat (ten x.across a) c := celZ_in ha hc
    rw [e4] at t1 t2
    rw [hnn] at t2
    have e5 : acr x a c w = comb x.prime nn w (mat (ten x.across a) c) := by unfold acr; rw [e4, hnn]; rfl
    rw [e5]
    refine S.madeL OI.fr (combine_c _ x.prime nn _ _ w (mat (ten x.across a) c) (prime_rng hd.p) (by omega) (RI.le _ _ _ _ S.le hw') (RII.le _ _ _ _ S.le h6) bw t2 (by omega)) fun b7 o7 g L S => ?_
    refine ⟨L, ?_⟩
    exact S.fin 0 rfl
theorem down_c (h : AH) (v wv : Value) (x : SDouble) (i j : Int) (w : List Int) (hx : RDouble h v x) (hw' : RI h wv w) (hd : DHead x) (ht : TabOk x x.down fun i j => dimZ x i (j - 1)) (hi : -10 ≤ j ∧ j ≤ 10) (bw : Rng x.prime w) (hl : (w.length : Int) ≤ dimZ x i j) :
    ACalls Try.prog 62 [v, .int .i64 i, .int .i64 j, wv] h (Made OI h (dwn x i j w)) := by
  obtain ⟨P, kx, qx⟩ := hx.at_
  obtain ⟨b4, o4, kw, hw'⟩ := hw'.can
  refine ACalls.madeI (ACalls.wk (args' := [vD x P, .int .i64 i, .int .i64 j, .slice (some ⟨b4, o4, none⟩) w.length 0]) ?_ (.cons kx (.cons (Wk.refl _) (.cons (Wk.refl _) (.cons kw .nil)))))
  refine ACalls.of Tt.tab Try.func62 rfl (by kernel_rfl) Try.ntmps62 _ rfl rfl (fun hw => ?_)
  have S := Sep.start h
  have c2 := RS.cells qx.2.2 rfl
  have hd1 := hd.dim i (j - 1)
  obtain ⟨t1, t2⟩ := ht.cell i j
  obtain ⟨nn, hnn⟩ : ∃ m : Nat, dimZ x i (j - 1) = m := ⟨(dimZ x i (j - 1)).toNat, by omega⟩
  refine S.new fun b g S => ?_
  refine LoadX.same (v := vD x P) (S.at_ 0 rfl) rfl ?_
  refine CallX.same (dim_c _ _ x i j (qx.reads S.le) hd) ?_
  rintro r g' ⟨rfl, rfl⟩
  refine BIf.mk (fun e1 => ?_) (fun e1 => ?_)
  · have e1 : dimZ x i j = 0 := by simpa using e1
    refine LoadX.same (v := vD x P) (S.at_ 0 rfl) rfl ?_
    refine WR.i64 ?_
    refine CallX.same (dim_c _ _ x i (j - 1) (qx.reads S.le) hd) ?_
    rintro r g' ⟨rfl, rfl⟩
    rw [hnn]
    refine ⟨by omega, rfl, by omega, by show (nn : Int) * (8 : Nat) ≤ _; omega, ?_⟩
    refine S.new fun b5 g S => ?_
    have S := S.recast 0 rfl (zeros_tab _)
    have e2 : celZ x x.down i j = [] := List.length_eq_zero_iff.1 (by omega)
    have e3 : dwn x i j w = tab nn fun _ => 0 := by unfold dwn; rw [e2, comb_nil, hnn]; rfl
    have S := S.bx_tr (xs := dwn x i j w) 0 (by rw [e3]; rfl) (by rw [e3, tab_length]; omega) 1
    rw [e3, tab_length] at S
    rw [e3]
    exact S.fin 0 rfl
  · have e1 : dimZ x i j ≠ 0 := by simpa using e1
    have hin : (0 ≤ i ∧ i ≤ (dW x : Int) - 1) ∧ (0 ≤ j ∧ j ≤ (dH x : Int) - 1) := Classical.byContradiction fun hh => e1 (dimZ_out hh)
    obtain ⟨a, c, rfl, rfl, ha, hc⟩ := in_nat hin
    have hla : x.down.length = dW x := ht.1
    have hlc := ht.2.1 a ha
    refine DrawX.of Tt.tab follows_any [16] [] [0, 1, 2, 3, 4, 5, 6, 7, 8, 9, 10, 11, 12, 13, 14, 15, 16, 17] rfl (by kernel_rfl) (by kernel_rfl) ?_
    refine LoadX.same (v := .int .i64 x.prime) (S.at_ 0 rfl) rfl ?_
    refine LoadX.same (v := vD x P) (S.at_ 0 rfl) rfl ?_
    refine WR.i64 ?_
    refine QCall.of (fun g2 hl => dim_c g2 _ x _ _ (qx.reads (S.le.trans hl)) hd) rfl ?_
    refine LoadX.same (v := vD3 x P) (S.at_ 0 rfl) rfl ?_
    refine IdxX.mk (by omega) (by omega) ?_
    refine c2.ten S.le (show a < x.down.length by omega) fun b5 o5 h5 => ?_
    have c5 := h5.cells rfl
    refine IdxX.mk (by omega) (by omega) ?_
    refine c5.mat S.le (show c < (ten x.down a).length by omega) fun b6 o6 h6 => ?_
    rw [hnn]
    have e4 : celZ x x.down a c = mat (ten x.down a) c := celZ_in ha hc
    rw [e4] at t1 t2
    rw [hnn] at t2
    have e5 : dwn x a c w = comb x.prime nn w (mat (ten x.down a) c) := by unfold dwn; rw [e4, hnn]; rfl
    rw [e5]
    refine S.madeL OI.fr (combine_c _ x.prime nn _ _ w (mat (ten x.down a) c) (prime_rng hd.p) (by omega) (RI.le _ _ _ _ S.le hw') (RII.le _ _ _ _ S.le h6) bw t2 (by omega)) fun b7 o7 g L S => ?_
    refine ⟨L, ?_⟩
    exact S.fin 0 rfl

/-- a call for each cell, column by column -/
theorem eachCell_c (n : Nat) (h0 : AH) (v : Value) (x : SDouble) (hx : RDouble h0 v x) (hd : 1 ≤ dW x ∧ dW x ≤ 4 ∧ dH x ≤ 4) (f : Nat) (cap : Array Value) (St : Nat → Nat → List Res → Prop)
    (hc : ∀ i j : Nat, i < dW x → j < dH x → Does Try.prog f (.int .i64 i :: .int .i64 j :: cap.toList) n h0 (St i j) (St i (j + 1)))
    (hn : ∀ i Rs, i < dW x → St i (dH x) Rs → St (i + 1) 0 Rs) :
    Does Try.prog 58 [v, .func (.func f) #[] cap] n h0 (St 0 0) (St (dW x) 0) := by
  intro M hb h Rs hle hs S
  obtain ⟨P, kx, qx⟩ := hx.at_
  refine ACalls.wk (args' := [vD x P, .func (.func f) #[] cap]) ?_ (.cons kx (.cons (Wk.refl _) .nil))
  refine ACalls.of Tt.tab Try.func58 rfl (by kernel_rfl) Try.ntmps58 _ rfl rfl (fun hw => ?_)
  refine S.newL fun b g gl S => ?_
  refine LoadX.same (v := vD x P) (S.at_ 0 rfl) rfl ?_
  refine CallX.same (wide_c _ _ x (qx.reads (hle.trans S.le))) ?_
  rintro r g' ⟨rfl, rfl⟩
  refine ⟨⟨[1, 2, 7, 8], fun n' vs g => ∃ (i : Nat) (Rs : List Res), n' = dW x - i ∧ i ≤ dW x ∧ h.length ≤ g.length ∧ St i 0 Rs ∧ SepM M n hb g (.bx b 33 4 (cD x P) :: Rs) ∧
    vs = [.func (.func f) #[] cap, .pointer (some ⟨b, 0, none⟩), .int .i64 (dW x), .int .i64 i], _, ⟨0, Rs, rfl, Nat.zero_le _, gl.len, hs, S, rfl⟩, ?_⟩⟩
  clear hs
  rintro n' vs g ⟨i, Rs, rfl, hi, gl, hs, S, rfl⟩
  refine BIf.mk (fun h2 => ?_) (fun h2 => ?_)
  · have hlt : i < dW x := by simpa using h2
    refine LoadX.same (v := vD x P) (S.at_ 0 rfl) rfl ?_
    refine CallX.same (high_c _ _ x (qx.reads (hle.trans S.le)) hd.1) ?_
    rintro r g' ⟨rfl, rfl⟩
    refine ⟨⟨[1, 2, 4, 7, 8, 12, 13], fun n' vs g => ∃ (j : Nat) (Rs : List Res), n' = dH x - j ∧ j ≤ dH x ∧ h.length ≤ g.length ∧ St i j Rs ∧ SepM M n hb g (.bx b 33 4 (cD x P) :: Rs) ∧
      vs = [.func (.func f) #[] cap, .pointer (some ⟨b, 0, none⟩), .int .i64 i, .int .i64 (dW x), .int .i64 i, .int .i64 (dH x), .int .i64 j], _, ⟨0, Rs, rfl, Nat.zero_le _, gl, hs, S, rfl⟩, ?_⟩⟩
    rintro n' vs g ⟨j, Rs, rfl, hj, gl, hs, S, rfl⟩
    refine BIf.mk (fun h3 => ?_) (fun h3 => ?_)
    · have h3 : j < dH x := by simpa using h3
      refine SepM.does [.bx b 33 4 (cD x P)] S (hc i j hlt h3) hle hs fun g' Rs' gl' hs' S => ?_
      refine WR.i64 ?_
      exact ⟨dH x - (j + 1), by omega, j + 1, Rs', rfl, h3, Nat.le_trans gl gl', hs', S, rfl⟩
    · have hj2 : j = dH x := by simp at h3; omega
      subst hj2
      refine WR.i64 ?_
      exact ⟨dW x - (i + 1), by omega, i + 1, Rs, rfl, hlt, gl, hn i Rs hlt hs, S, rfl⟩
  · have hi2 : i = dW x := by simp at h2; omega
    subst hi2
    exact FinX.here gl ⟨rfl, gl, Rs, hs, S.tail⟩

end Go.Gl

set_option linter.unusedVariables false
set_option linter.unusedSimpArgs false
namespace Go.Gl
open Go.Proofs Go.Proofs.Ytionapmdibdfpaa Go.Pl

def unitsL (n : Nat) : List (List Int) := tabR n (unitv n)
theorem unitsL_mat {p : Int} (hp : 1 < p) (n : Nat) : Mat p n (unitsL n) := Mat.tab fun i _ => unitv_vec hp n i

theorem unit_c (h : AH) (n i : Nat) (hn : n ≤ 1000) (hi : i < n) : ACalls Try.prog 76 [.int .i64 n, .int .i64 i] h (Made OI h (unitv n i)) := by
  refine ACalls.madeI ?_
  refine ACalls.of Tt.tab Try.func76 rfl (by kernel_rfl) Try.ntmps76 _ rfl rfl (fun hw => ?_)
  have S := Sep.start h
  refine ⟨by omega, rfl, by omega, by show (n : Int) * (8 : Nat) ≤ _; omega, ?_⟩
  refine S.new fun b5 g S => ?_
  have S := S.recast 0 rfl (zeros_tab _)
  refine IdxX.mk (by omega) (by omega) ?_
  refine S.storeT 0 rfl (by show i < (n : Int).toNat; omega) fun g S => ?_
  have e : (n : Int).toNat = n := by omega
  rw [e] at S
  have S := S.bx_tr (xs := unitv n i) 0 rfl (by rw [unitv, tab_length]; omega) 1
  rw [show (unitv n i).length = n from tab_length _ _] at S
  exact S.fin 0 rfl
theorem units_c (h : AH) (n : Nat) (hn : n ≤ 1000) : ACalls Try.prog 60 [.int .i64 n] h (Made OII h (unitsL n)) := by
  refine ACalls.madeN ?_
  refine ACalls.of Tt.tab Try.func60 rfl (by kernel_rfl) Try.ntmps60 _ rfl rfl (fun hw => ?_)
  have S := Sep.start h
  refine S.new fun b4 g S => ?_
  have S := S.bx_rw 0 OI.fr rfl
  refine ⟨⟨[0, 3, 6, 7], fun n' vs g => ∃ (j b4 : Nat), n' = n - j ∧ j ≤ n ∧ Sep h.length h g [.rw OI.fr 27 h.length (.slice (some ⟨b4, 0, none⟩) j 1) j (tabR j (unitv n))] ∧
    vs = [.int .i64 n, .slice (some ⟨b4, 0, none⟩) j 1, .int .i64 n, .int .i64 j], _, ⟨0, b4, rfl, Nat.zero_le _, S, rfl⟩, ?_⟩⟩
  rintro n' vs g ⟨j, b4, rfl, hj, S, rfl⟩
  refine BIf.mk (fun h3 => ?_) (fun h3 => ?_)
  · have h3 : j < n := by simpa using h3
    refine S.made OI.fr (unit_c _ n j hn h3) fun b5 o5 g S => ?_
    refine S.new fun b6 g S => ?_
    refine S.appT 0 rfl rfl (by omega) fun b7 g S => ?_
    refine WR.i64 ?_
    exact ⟨n - (j + 1), by omega, j + 1, b7, rfl, h3, by rw [tabR_succ]; exact S, rfl⟩
  · have hj2 : j = n := by simp at h3; omega
    subst hj2
    have S := S.rw_tr 0 rfl (by omega)
    exact S.fin 0 rfl

def CellOk (x : SDouble) (t : List (List (List (List Int)))) (w : Int → Int → Int) (i j : Nat) : Prop := ((cel t i j).length : Int) = dimZ x i j ∧ rowsOk x.prime (w i j) (cel t i j) = true
noncomputable def tabB (x : SDouble) (t : List (List (List (List Int)))) (w : Int → Int → Int) : Bool := @decide (TabOk x t w) (Classical.propDecidable _)
theorem tabB_t {x : SDouble} {t : List (List (List (List Int)))} {w : Int → Int → Int} (h : TabOk x t w) : tabB x t w = true := @decide_eq_true _ (Classical.propDecidable _) h
theorem tabB_f {x : SDouble} {t : List (List (List (List Int)))} {w : Int → Int → Int} (h : ¬ TabOk x t w) : tabB x t w = false := @decide_eq_false _ (Classical.propDecidable _) h
theorem tabB_mk {x : SDouble} {t : List (List (List (List Int)))} {w : Int → Int → Int} (h : tabB x t w = true) : TabOk x t w := @of_decide_eq_true _ (Classical.propDecidable _) h
theorem tabB_no {x : SDouble} {t : List (List (List (List Int)))} {w : Int → Int → Int} (h : tabB x t w = false) : ¬ TabOk x t w := @of_decide_eq_false _ (Classical.propDecidable _) h
theorem areTables_c (h : AH) (v tv : Value) (x : SDouble) (t : List (List (List (List Int)))) (hx : RDouble h v x) (ht : RIIII h tv t) (hd : DHead x) (w : Int → Int → Int) (f : Nat) (cap : Array Value)
    (hf : ∀ g2, Le h g2 → ∀ i j : Nat, i < dW x → j < dH x → ACalls Try.prog f (.int .i64 i :: .int .i64 j :: cap.toList) g2 (fun r h' => r = .int .i64 (w i j) ∧ h' = g2)) :
    ACalls Try.prog 57 [v, tv, .func (.func f) #[] cap] h (fun r h' => r = .bool (tabB x t w) ∧ h' = h) := by
  obtain ⟨P, kx, qx⟩ := hx.at_
  obtain ⟨b4, o4, kt, ht⟩ := ht.can
  refine ACalls.wk (args' := [vD x P, .slice (some ⟨b4, o4, none⟩) t.length 0, .func (.func f) #[] cap]) ?_ (.cons kx (.cons kt (.cons (Wk.refl _) .nil)))
  refine ACalls.of Tt.tab Try.func57 rfl (by kernel_rfl) Try.ntmps57 _ rfl rfl (fun hw => ?_)
  have S := Sep.start h
  have c1 := RS.cells qx.1 rfl
  have c4 := ht.cells rfl
  have hW := hd.w
  have hH := hd.h
  refine S.new fun b g S => ?_
  have hb : look g b = some ⟨cD x P, some (33, 4)⟩ := S.at_ 0 rfl
  refine LoadX.same (v := vD1 x P) hb rfl ?_
  refine BIf.mk (fun e1 => ?_) (fun e1 => ?_)
  · have e1 : t.length ≠ dW x := by have e1 : ¬ (t.length : Int) = x.dims.length := by simpa using e1
                                    unfold dW; omega
    exact FinX.keep hw S.le rfl ⟨by rw [tabB_f fun hh => e1 hh.1], rfl⟩
  have e1 : t.length = dW x := by have e1 : (t.length : Int) = x.dims.length := by simpa using e1
                                  unfold dW; omega
  refine ⟨⟨[2, 3, 17, 18, 19], fun n' vs g2 => ∃ i : Nat, n' = t.length - i ∧ i ≤ t.length ∧ g2 = g ∧ (∀ i', i' < i → (ten t i').length = dH x ∧ ∀ j, j < dH x → CellOk x t w i' j) ∧
    vs = [.func (.func f) #[] cap, .pointer (some ⟨b, 0, none⟩), .slice (some ⟨b4, o4, none⟩) t.length 0, .int .i64 t.length, .int .i64 i], _, ⟨0, rfl, Nat.zero_le _, rfl, fun i' hi' => by omega, rfl⟩, ?_⟩⟩
  rintro n' vs g2 ⟨i, rfl, hi, rfl, hs, rfl⟩
  refine BIf.mk (fun h2 => ?_) (fun h2 => ?_)
  · have hlt : i < t.length := by simpa using h2
    have hlt' : i < dW x := by omega
    refine IdxX.mk (by omega) (by omega) ?_
    refine c4.ten S.le hlt fun b5 o5 h5 => ?_
    have c5 := h5.cells rfl
    refine LoadX.same (v := vD1 x P) hb rfl ?_
    have h1 : 0 < x.dims.length := hW.1
    refine IdxX.mk (by omega) (by omega) ?_
    refine c1.row S.le h1 fun b6 o6 c6 => ?_
    refine BIf.mk (fun e2 => ?_) (fun e2 => ?_)
    · have e2 : (ten t i).length ≠ dH x := by have e2 : ¬ ((ten t i).length : Int) = (row x.dims 0).length := by simpa using e2
                                              unfold dH; omega
      exact FinX.keep hw S.le rfl ⟨by rw [tabB_f fun hh => e2 (hh.2.1 i hlt')], rfl⟩
    have e2 : (ten t i).length = dH x := by have e2 : ((ten t i).length : Int) = (row x.dims 0).length := by simpa using e2
                                            unfold dH; omega
    refine ⟨⟨[2, 3, 7, 17, 18, 19, 32, 33, 34], fun n' vs g3 => ∃ j : Nat, n' = dH x - j ∧ j ≤ dH x ∧ g3 = g2 ∧ (∀ j', j' < j → CellOk x t w i j') ∧
      vs = [.func (.func f) #[] cap, .pointer (some ⟨b, 0, none⟩), .int .i64 i, .slice (some ⟨b4, o4, none⟩) t.length 0, .int .i64 t.length, .int .i64 i, .slice (some ⟨b5, o5, none⟩) (ten t i).length 0, .int .i64 (ten t i).length, .int .i64 j], _, ⟨0, rfl, Nat.zero_le _, rfl, fun j' hj' => by omega, rfl⟩, ?_⟩⟩
    rintro n' vs g3 ⟨j, rfl, hj, rfl, hr, rfl⟩
    refine BIf.mk (fun h3 => ?_) (fun h3 => ?_)
    · have h3 : j < (ten t i).length := by simpa using h3
      have hj1 : j < dH x := by omega
      have hcol := hd.col i hlt'
      have hdim := dimZ_in hlt' hj1
      refine IdxX.mk (by omega) (by omega) ?_
      refine c5.mat S.le h3 fun b7 o7 h7 => ?_
      refine DrawX.of Tt.tab follows_any [] [] [0, 1, 2, 3, 4, 5, 6, 7, 8, 9, 10, 11, 12, 13, 14, 15, 16, 17, 18, 19, 20, 21] rfl (by kernel_rfl) (by kernel_rfl) ?_
      refine QCall.of (fun g2 hl => sizeII_c g2 _ _ _ _) rfl ?_
      refine LoadX.same (v := vD1 x P) hb rfl ?_
      refine IdxX.mk (by omega) (by show (i : Int) < (x.dims.length : Int); unfold dW at hlt'; omega) ?_
      refine c1.row S.le hlt' fun b8 o8 c8 => ?_
      refine IdxX.mk (by omega) (by omega) ?_
      refine c8.ith S.le (show j < (row x.dims i).length by omega) ?_
      refine BIf.mk (fun e3 => ?_) (fun e3 => ?_)
      · have e3 : ¬ ((mat (ten t i) j).length : Int) = ith (row x.dims i) j := by simpa using e3
        refine BIf.yes rfl ?_
        exact FinX.keep hw S.le rfl ⟨by rw [tabB_f fun hh => e3 (by have := (hh.2.2 i j hlt' hj1).1; rw [hdim] at this; exact this)], rfl⟩
      have e3 : ((mat (ten t i) j).length : Int) = ith (row x.dims i) j := by simpa using e3
      refine LoadX.same (v := .int .i64 x.prime) hb rfl ?_
      refine QCall.of (fun g2 hl => hf g2 (S.le.trans hl) i j hlt' hj1) rfl ?_
      refine QCall.of (fun g2 hl => areRows_c g2 x.prime (w i j) _ (mat (ten t i) j) (prime_rng hd.p) (RII.le _ _ _ _ (S.le.trans hl) h7)) rfl ?_
      refine BIf.mk (fun h5 => ?_) (fun h5 => ?_)
      · have h5 : rowsOk x.prime (w i j) (mat (ten t i) j) = false := by simpa using h5
        exact FinX.keep hw S.le rfl ⟨by rw [tabB_f fun hh => by have := (hh.2.2 i j hlt' hj1).2; unfold cel at this; rw [h5] at this; cases this], rfl⟩
      have h5 : rowsOk x.prime (w i j) (mat (ten t i) j) = true := by simpa using h5
      refine WR.i64 ?_
      refine ⟨dH x - (j + 1), by omega, j + 1, rfl, by omega, rfl, fun j' hj' => ?_, rfl⟩
      by_cases hjj : j' = j
      · subst hjj; exact ⟨by rw [hdim]; exact e3, h5⟩
      · exact hr j' (by omega)
    · have hj2 : j = dH x := by simp at h3; omega
      subst hj2
      refine WR.i64 ?_
      refine ⟨t.length - (i + 1), by omega, i + 1, rfl, hlt, rfl, fun i' hi' => ?_, rfl⟩
      by_cases hii : i' = i
      · subst hii; exact ⟨e2, hr⟩
      · exact hs i' (by omega)
  · have hi2 : i = t.length := by simp at h2; omega
    subst hi2
    exact FinX.keep hw S.le rfl ⟨by rw [tabB_t ⟨e1, fun i hi => (hs i (by omega)).1, fun i j hi hj => (hs i (by omega)).2 j hj⟩], rfl⟩

theorem isDouble1_c (h : AH) (x : Int) : ACalls Try.prog 53 [.int .i64 x] h (fun r h' => r = .bool (!decide (0 ≤ x ∧ x ≤ 4)) ∧ h' = h) := by
  refine ACalls.of Tt.tab Try.func53 rfl (by kernel_rfl) Try.ntmps53 _ rfl rfl (fun hw => ?_)
  refine CallX.same (between_c _ x 0 4) ?_
  rintro r g ⟨rfl, rfl⟩
  exact FinX.keep hw (Le.refl _) rfl ⟨rfl, rfl⟩
theorem isDouble2_c (h : AH) (x : SDouble) (P : DP) (q : QD h x P) (hd : DHead x) (b : Nat) (hb : look h b = some ⟨cD x P, some (33, 4)⟩) (i j : Int) (hi : -100 ≤ i ∧ i ≤ 100) : ACalls Try.prog 54 [.int .i64 i, .int .i64 j, .pointer (some ⟨b, 0, none⟩)] h (fun r h' => r = .int .i64 (dimZ x (i - 1) j) ∧ h' = h) := by
  refine ACalls.of Tt.tab Try.func54 rfl (by kernel_rfl) Try.ntmps54 _ rfl rfl (fun hw => ?_)
  refine LoadX.same (v := vD x P) hb rfl ?_
  refine WR.i64 ?_
  refine CallX.same (dim_c _ _ x (i - 1) j (q.reads (Le.refl _)) hd) ?_
  rintro r g ⟨rfl, rfl⟩
  exact FinX.keep hw (Le.refl _) rfl ⟨rfl, rfl⟩
theorem isDouble3_c (h : AH) (x : SDouble) (P : DP) (q : QD h x P) (hd : DHead x) (b : Nat) (hb : look h b = some ⟨cD x P, some (33, 4)⟩) (i j : Int) (hi : -100 ≤ j ∧ j ≤ 100) : ACalls Try.prog 56 [.int .i64 i, .int .i64 j, .pointer (some ⟨b, 0, none⟩)] h (fun r h' => r = .int .i64 (dimZ x i (j - 1)) ∧ h' = h) := by
  refine ACalls.of Tt.tab Try.func56 rfl (by kernel_rfl) Try.ntmps56 _ rfl rfl (fun hw => ?_)
  refine LoadX.same (v := vD x P) hb rfl ?_
  refine WR.i64 ?_
  refine CallX.same (dim_c _ _ x i (j - 1) (q.reads (Le.refl _)) hd) ?_
  rintro r g ⟨rfl, rfl⟩
  exact FinX.keep hw (Le.refl _) rfl ⟨rfl, rfl⟩

end Go.Gl

set_option linter.unusedVariables false
set_option linter.unusedSimpArgs false
namespace Go.Gl
open Go.Proofs Go.Proofs.Ytionapmdibdfpaa Go.Pl

/-- all is as told before a vector of a cell -/
def FineP (x : SDouble) (i j k : Nat) : Prop := ∀ i' j' k' : Nat, i' < dW x → j' < dH x → (k' : Int) < dimZ x i' j' → (i' < i ∨ i' = i ∧ (j' < j ∨ j' = j ∧ k' < k)) → sqCell x i' j' k' = true
noncomputable def fine (x : SDouble) (i j k : Nat) : Bool := @decide (FineP x i j k) (Classical.propDecidable _)
theorem fine_iff {x : SDouble} {i j k : Nat} : fine x i j k = true ↔ FineP x i j k := @decide_eq_true_iff _ (Classical.propDecidable _)
theorem fine_zero (x : SDouble) : fine x 0 0 0 = true := fine_iff.2 fun i' j' k' _ _ _ h => by omega
theorem fine_next {x : SDouble} {i j k : Nat} (hi : i < dW x) (hj : j < dH x) (hk : (k : Int) < dimZ x i j) : fine x i j (k + 1) = (fine x i j k && sqCell x i j k) := by
  rw [Bool.eq_iff_iff, Bool.and_eq_true, fine_iff, fine_iff]
  constructor
  · exact fun h => ⟨fun i' j' k' a b c d => h i' j' k' a b c (by omega), h i j k hi hj hk (by omega)⟩
  · rintro ⟨h1, h2⟩ i' j' k' a b c d
    by_cases e : i' = i ∧ j' = j ∧ k' = k
    · obtain ⟨rfl, rfl, rfl⟩ := e; exact h2
    · exact h1 i' j' k' a b c (by omega)
theorem fine_cell {x : SDouble} {i j k : Nat} (hk : dimZ x i j ≤ k) : fine x i j k = fine x i (j + 1) 0 := by
  rw [Bool.eq_iff_iff, fine_iff, fine_iff]
  constructor
  · intro h i' j' k' a b c d
    refine h i' j' k' a b c ?_
    by_cases e : i' = i ∧ j' = j
    · obtain ⟨rfl, rfl⟩ := e; omega
    · omega
  · exact fun h i' j' k' a b c d => h i' j' k' a b c (by omega)
theorem fine_col {x : SDouble} {i : Nat} : fine x i (dH x) 0 = fine x (i + 1) 0 0 := by
  rw [Bool.eq_iff_iff, fine_iff, fine_iff]
  exact ⟨fun h i' j' k' a b c d => h i' j' k' a b c (by omega), fun h i' j' k' a b c d => h i' j' k' a b c (by omega)⟩
theorem fine_all {x : SDouble} (h : DShape x) : fine x (dW x) 0 0 = dOk x := by
  rw [Bool.eq_iff_iff, fine_iff]
  constructor
  · exact fun hf => dOk_t ⟨h, fun i j k hi hj hk => hf i j k hi hj hk (.inl hi)⟩
  · exact fun hk i' j' k' a b c d => (dOk_mk hk).sq i' j' k' a b c
theorem acr_unit {x : SDouble} (h : DShape x) {i j k : Nat} (hk : (k : Int) < dimZ x i j) : acr x i j (unitv (dimZ x i j).toNat k) = row (celZ x x.across i j) k := by
  obtain ⟨t1, t2⟩ := h.acr.cell i j
  have := prime_rng h.p
  exact comb_unit (by omega) t2 (by omega) (by omega)
theorem dwn_unit {x : SDouble} (h : DShape x) {i j k : Nat} (hk : (k : Int) < dimZ x i j) : dwn x i j (unitv (dimZ x i j).toNat k) = row (celZ x x.down i j) k := by
  obtain ⟨t1, t2⟩ := h.dwn.cell i j
  have := prime_rng h.p
  exact comb_unit (by omega) t2 (by omega) (by omega)
theorem acr_vec {x : SDouble} (h : DHead x) (i j : Int) (v : List Int) : Vec x.prime (dimZ x (i - 1) j).toNat (acr x i j v) := Vec.combN (by have := prime_rng h.p; omega)
theorem dwn_vec {x : SDouble} (h : DHead x) (i j : Int) (v : List Int) : Vec x.prime (dimZ x i (j - 1)).toNat (dwn x i j v) := Vec.combN (by have := prime_rng h.p; omega)
theorem less_neg {p : Int} {u v : List Int} : less p u v (-1) = tab u.length fun k => (ith u k + ith v k) % p := by
  unfold less
  exact tab_congr fun i _ => by congr 1; omega
/-- what the box of the result says -/
def StFine (x : SDouble) (P : DP) (b7 b : Nat) (i j : Nat) (Rs : List Res) : Prop := Rs = [.bx b7 4 1 [.bool (fine x i j 0)], .bx b 33 4 (cD x P)]

theorem isDouble4_c (n : Nat) (h0 : AH) (x : SDouble) (P : DP) (q : QD h0 x P) (hd : DShape x) (b7 b : Nat) (i j : Nat) (hi : i < dW x) (hj : j < dH x) :
    Does Try.prog 59 [.int .i64 i, .int .i64 j, .pointer (some ⟨b, 0, none⟩), .pointer (some ⟨b7, 0, none⟩)] n h0 (StFine x P b7 b i j) (StFine x P b7 b i (j + 1)) := by
  refine Does.of fun M hb h Rs hlen hle hs S => ?_
  subst hs
  refine ACalls.of Tt.tab Try.func59 rfl (by kernel_rfl) Try.ntmps59 _ rfl rfl (fun hw => ?_)
  have hpr := prime_rng hd.p
  have hW := hd.w
  have hH := hd.h
  have hdm := hd.dim i j
  have hdm2 := hd.dim (i - 1) (j - 1)
  obtain ⟨m, hm⟩ : ∃ m : Nat, dimZ x i j = m := ⟨(dimZ x i j).toNat, by omega⟩
  refine LoadX.same (v := vD x P) (S.at_ 1 rfl) rfl ?_
  refine CallX.same (dim_c _ _ x i j (q.reads (hle.trans S.le)) hd.toDHead) ?_
  rintro r g' ⟨rfl, rfl⟩
  rw [hm]
  refine S.madeL OII.fr (units_c _ m (by omega)) fun b1 o1 g L S => ?_
  have eu : (unitsL m).length = m := tabR_length _ _
  rw [eu] at S ⊢
  refine ⟨⟨[0, 1, 2, 3, 17, 18, 19], fun n' vs g => ∃ k : Nat, n' = m - k ∧ k ≤ m ∧ SepM M n hb g [.tr OII.fr n (.slice (some ⟨b1, o1, none⟩) m 0) (unitsL m), .bx b7 4 1 [.bool (fine x i j k)], .bx b 33 4 (cD x P)] ∧
    vs = [.int .i64 i, .int .i64 j, .pointer (some ⟨b, 0, none⟩), .pointer (some ⟨b7, 0, none⟩), .slice (some ⟨b1, o1, none⟩) m 0, .int .i64 m, .int .i64 k], _, ⟨0, rfl, Nat.zero_le _, S, rfl⟩, ?_⟩⟩
  clear S L
  rintro n' vs g ⟨k, rfl, hk, S, rfl⟩
  refine BIf.mk (fun h2 => ?_) (fun h2 => ?_)
  · have hlt : k < m := by simpa using h2
    have hkd : (k : Int) < dimZ x i j := by omega
    have eu2 : row (unitsL m) k = unitv m k := tabR_row hlt
    have hul : (unitv m k).length = m := tab_length _ _
    have ea := acr_unit hd hkd
    have ed := dwn_unit hd hkd
    rw [hm, Int.toNat_natCast] at ea ed
    refine IdxX.mk (by omega) (by omega) ?_
    have S0 : SepM M n hb g [.tr OII.fr n (.slice (some ⟨b1, o1, none⟩) (unitsL m).length 0) (unitsL m), .bx b7 4 1 [.bool (fine x i j k)], .bx b 33 4 (cD x P)] := by rw [eu]; exact S
    have cu := S0.cellsII 0 rfl
    refine cu.rowY (Le.refl _) (show k < (unitsL m).length by omega) fun b2 o2 hr => ?_
    rw [eu2] at hr ⊢
    have hv := unitv_vec (p := x.prime) (by omega) m k
    refine DrawX.of Tt.tab follows_any [4, 9] [] [0, 1, 2, 3, 5, 6, 7, 8, 4, 9, 10, 11] rfl (by kernel_rfl) (by kernel_rfl) ?_
    refine LoadX.same (v := vD x P) (S.at_ 2 rfl) rfl ?_
    refine LoadX.same (v := vD x P) (S.at_ 2 rfl) rfl ?_
    refine S.madeL OI.fr (across_c _ _ _ x i j (unitv m k) (q.reads (hle.trans S.le)) hr hd.toDHead hd.acr (by omega) hv.2 (by omega)) fun b3 o3 g2 L S => ?_
    refine ⟨L, ?_⟩
    refine S.madeL OI.fr (down_c _ _ _ x i j (unitv m k) (q.reads (hle.trans S.le)) (RI.le _ _ _ _ L hr) hd.toDHead hd.dwn (by omega) hv.2 (by omega)) fun b4 o4 g3 L S => ?_
    refine ⟨L, ?_⟩
    clear hr cu S0
    rw [ea, ed] at S ⊢
    generalize eA : row (celZ x x.across i j) k = A at S ⊢ ea
    generalize eD : row (celZ x x.down i j) k = D at S ⊢ ed
    have vA : Vec x.prime (dimZ x (i - 1) j).toNat A := by rw [← ea]; exact acr_vec hd.toDHead _ _ _
    have vD' : Vec x.prime (dimZ x i (j - 1)).toNat D := by rw [← ed]; exact dwn_vec hd.toDHead _ _ _
    have dA := hd.dim (i - 1) j
    have dD := hd.dim i (j - 1)
    refine LoadX.same (v := vD x P) (S.at_ 4 rfl) rfl ?_
    refine WR.i64 ?_
    refine S.madeL OI.fr (down_c _ _ _ x (i - 1) j A (q.reads (hle.trans S.le)) (S.rd OI.reads 1 rfl) hd.toDHead hd.dwn (by omega) vA.2 (by have := vA.1; omega)) fun b5 o5 g4 L S => ?_
    refine LoadX.same (v := vD x P) (S.at_ 5 rfl) rfl ?_
    refine WR.i64 ?_
    refine S.madeL OI.fr (across_c _ _ _ x i (j - 1) D (q.reads (hle.trans S.le)) (S.rd OI.reads 1 rfl) hd.toDHead hd.acr (by omega) vD'.2 (by have := vD'.1; omega)) fun b6 o6 g5 L S => ?_
    generalize eO : dwn x (i - 1) j A = one at S ⊢
    generalize eT : acr x i (j - 1) D = two at S ⊢
    have v1 : Vec x.prime (dimZ x (i - 1) (j - 1)).toNat one := by rw [← eO]; exact dwn_vec hd.toDHead _ _ _
    have v2 : Vec x.prime (dimZ x (i - 1) (j - 1)).toNat two := by rw [← eT]; exact acr_vec hd.toDHead _ _ _
    have hl2 : two.length = one.length := by rw [v1.1, v2.1]
    have hl3 := v2.1
    refine ⟨⟨[0, 1, 2, 3, 8, 9, 10, 17, 18, 19, 44, 45, 46], fun n' vs g => ∃ t : Nat, n' = two.length - t ∧ t ≤ two.length ∧ SepM M n hb g [.tr OI.fr n (.slice (some ⟨b6, o6, none⟩) two.length 0) two, .tr OI.fr n (.slice (some ⟨b5, o5, none⟩) one.length 0) (tab one.length fun c => if c < t then (ith one c + ith two c) % x.prime else ith one c), .tr OI.fr n (.slice (some ⟨b4, o4, none⟩) D.length 0) D, .tr OI.fr n (.slice (some ⟨b3, o3, none⟩) A.length 0) A, .tr OII.fr n (.slice (some ⟨b1, o1, none⟩) m 0) (unitsL m), .bx b7 4 1 [.bool (fine x i j k)], .bx b 33 4 (cD x P)] ∧
      vs = [.int .i64 i, .int .i64 j, .pointer (some ⟨b, 0, none⟩), .pointer (some ⟨b7, 0, none⟩), .slice (some ⟨b3, o3, none⟩) A.length 0, .slice (some ⟨b4, o4, none⟩) D.length 0, .slice (some ⟨b5, o5, none⟩) one.length 0, .slice (some ⟨b1, o1, none⟩) m 0, .int .i64 m, .int .i64 k, .slice (some ⟨b6, o6, none⟩) two.length 0, .int .i64 two.length, .int .i64 t], _, ⟨0, rfl, Nat.zero_le _, S.retell 1 rfl (tab_eq.trans tab_none), rfl⟩, ?_⟩⟩
    clear S L
    rintro n' vs g ⟨t, rfl, ht, S, rfl⟩
    refine BIf.mk (fun h4 => ?_) (fun h4 => ?_)
    · have h4 : t < two.length := by simpa using h4
      have h5 : t < one.length := by omega
      refine IdxX.mk (by omega) (by omega) ?_
      refine (S.cellsI 0 rfl).ith (Le.refl _) h4 ?_
      have k1 := v1.2.ith (by omega) t
      have k2 := v2.2.ith (by omega) t
      refine DrawX.of Tt.tab follows_any [] [12] [0, 1, 2, 3, 4, 5, 6, 7, 8, 9, 10, 11, 12] rfl (by kernel_rfl) (by kernel_rfl) ?_
      refine IdxX.mk (by omega) (by omega) ?_
      have e0 : ith (tab one.length fun c => if c < t then (ith one c + ith two c) % x.prime else ith one c) t = ith one t := by rw [tab_ith h5, if_neg (by omega)]
      have S1 : SepM M n hb g [.tr OI.fr n (.slice (some ⟨b6, o6, none⟩) two.length 0) two, .tr OI.fr n (.slice (some ⟨b5, o5, none⟩) (tab one.length fun c => if c < t then (ith one c + ith two c) % x.prime else ith one c).length 0) (tab one.length fun c => if c < t then (ith one c + ith two c) % x.prime else ith one c), .tr OI.fr n (.slice (some ⟨b4, o4, none⟩) D.length 0) D, .tr OI.fr n (.slice (some ⟨b3, o3, none⟩) A.length 0) A, .tr OII.fr n (.slice (some ⟨b1, o1, none⟩) m 0) (unitsL m), .bx b7 4 1 [.bool (fine x i j k)], .bx b 33 4 (cD x P)] := by rw [tab_length]; exact S
      refine (S1.cellsI 1 rfl).ith (Le.refl _) (show t < (tab one.length _).length by rw [tab_length]; exact h5) ?_
      rw [e0]
      refine WR.i64 ?_
      refine LoadX.same (v := .int .i64 x.prime) (S.at_ 6 rfl) rfl ?_
      refine TM.pos ?_
      refine IdxX.mk (by omega) (by omega) ?_
      refine S.storeL 1 rfl (tab_length _ _) h5 fun g' S => ?_
      refine WR.i64 ?_
      refine ⟨two.length - (t + 1), by omega, t + 1, rfl, h4, S.retell 1 rfl ?_, rfl⟩
      rw [tab_set]
      exact tab_step rfl
    · have ht2 : t = two.length := by simp at h4; omega
      subst ht2
      have S := S.retell 1 rfl (show _ = less x.prime one two (-1) by rw [less_neg]; exact tab_all (by omega))
      have eF : fine x i j (k + 1) = (fine x i j k && sqCell x i j k) := fine_next hi hj hkd
      have eq1 : sqAcr x i j k = zeroV (acr x (i - 1) j A) := by unfold sqAcr; rw [eA]
      have eq2 : sqDwn x i j k = zeroV (dwn x i (j - 1) D) := by unfold sqDwn; rw [eD]
      have eq3 : sqBoth x i j k = zeroV (less x.prime one two (-1)) := by unfold sqBoth; rw [eA, eD, eO, eT]
      refine LoadX.same (v := .bool (fine x i j k)) (S.at_ 5 rfl) rfl ?_
      have done : ∀ (c : Bool) (g : AH), fine x i j (k + 1) = c → SepM M n hb g [.tr OI.fr n (.slice (some ⟨b6, o6, none⟩) two.length 0) two, .tr OI.fr n (.slice (some ⟨b5, o5, none⟩) one.length 0) (less x.prime one two (-1)), .tr OI.fr n (.slice (some ⟨b4, o4, none⟩) D.length 0) D, .tr OI.fr n (.slice (some ⟨b3, o3, none⟩) A.length 0) A, .tr OII.fr n (.slice (some ⟨b1, o1, none⟩) m 0) (unitsL m), .bx b7 4 1 [.bool c], .bx b 33 4 (cD x P)] → ∃ n', n' < m - k ∧ ∃ k2 : Nat, n' = m - k2 ∧ k2 ≤ m ∧ SepM M n hb g [.tr OII.fr n (.slice (some ⟨b1, o1, none⟩) m 0) (unitsL m), .bx b7 4 1 [.bool (fine x i j k2)], .bx b 33 4 (cD x P)] ∧
        ([.int .i64 i, .int .i64 j, .pointer (some ⟨b, 0, none⟩), .pointer (some ⟨b7, 0, none⟩), .slice (some ⟨b1, o1, none⟩) m 0, .int .i64 m, .int .i64 ((k : Int) + 1)] : List Value) = [.int .i64 i, .int .i64 j, .pointer (some ⟨b, 0, none⟩), .pointer (some ⟨b7, 0, none⟩), .slice (some ⟨b1, o1, none⟩) m 0, .int .i64 m, .int .i64 k2] := fun c g ec S =>
        ⟨m - (k + 1), by omega, k + 1, rfl, hlt, by rw [ec]; exact S.tail.tail.tail.tail, rfl⟩
      refine BIf.mk (fun f1 => ?_) (fun f1 => ?_)
      · refine LoadX.same (v := vD x P) (S.at_ 6 rfl) rfl ?_
        refine WR.i64 ?_
        refine S.madeL OI.fr (across_c _ _ _ x (i - 1) j A (q.reads (hle.trans S.le)) (S.rd OI.reads 3 rfl) hd.toDHead hd.acr (by omega) vA.2 (by have := vA.1; omega)) fun b8 o8 g6 L S => ?_
        refine CallX.same (isZero_c _ _ _ (S.rd OI.reads 0 rfl)) ?_
        rintro r g' ⟨rfl, rfl⟩
        refine BIf.mk (fun f2 => ?_) (fun f2 => ?_)
        · refine LoadX.same (v := vD x P) (S.at_ 7 rfl) rfl ?_
          refine WR.i64 ?_
          refine S.madeL OI.fr (down_c _ _ _ x i (j - 1) D (q.reads (hle.trans S.le)) (S.rd OI.reads 3 rfl) hd.toDHead hd.dwn (by omega) vD'.2 (by have := vD'.1; omega)) fun b9 o9 g7 L S => ?_
          refine CallX.same (isZero_c _ _ _ (S.rd OI.reads 0 rfl)) ?_
          rintro r g' ⟨rfl, rfl⟩
          refine BIf.mk (fun f3 => ?_) (fun f3 => ?_)
          · refine CallX.same (isZero_c _ _ _ (S.rd OI.reads 3 rfl)) ?_
            rintro r g' ⟨rfl, rfl⟩
            refine S.put 7 rfl fun g S => ?_
            refine WR.i64 ?_
            exact done _ _ (by rw [eF, f1, sqCell, eq1, eq2, eq3, f2, f3]; simp) S.tail.tail
          · refine S.put 7 rfl fun g S => ?_
            refine WR.i64 ?_
            exact done _ _ (by rw [eF, f1, sqCell, eq1, eq2, eq3, f2, f3]; simp) S.tail.tail
        · refine BIf.no rfl ?_
          refine S.put 6 rfl fun g S => ?_
          refine WR.i64 ?_
          exact done _ _ (by rw [eF, f1, sqCell, eq1, eq2, eq3, f2]; simp) S.tail
      · refine BIf.no rfl (BIf.no rfl ?_)
        refine S.put 5 rfl fun g S => ?_
        refine WR.i64 ?_
        exact done _ _ (by rw [eF, f1]; simp) S
  · have hk2 : k = m := by simp at h2; omega
    subst hk2
    rw [fine_cell (by omega)] at S
    exact FinX.here (by have := S.le.len; omega) ⟨rfl, _, rfl, S.tail⟩
theorem isDoubleI_c (h : AH) (v : Value) (x : SDouble) (hx : RDouble h v x) : ACalls Try.prog 35 [v] h (fun r h' => r = .bool (dOk x) ∧ h' = h) := by
  obtain ⟨P, kx, qx⟩ := hx.at_
  refine ACalls.wk (args' := [vD x P]) ?_ (.cons kx .nil)
  refine ACalls.of Tt.tab Try.func35 rfl (by kernel_rfl) Try.ntmps35 _ rfl rfl (fun hw => ?_)
  have S := Sep.start h
  have c1 := RS.cells qx.1 rfl
  refine S.new fun b g S => ?_
  have hb : look g b = some ⟨cD x P, some (33, 4)⟩ := S.at_ 0 rfl
  have no : ∀ g2, Le h g2 → ¬ DOk x → FinX h (fun r h' => r = .bool (dOk x) ∧ h' = h) (.bool false) g2 := fun g2 l hn => FinX.keep hw l rfl ⟨by rw [dOk_f hn], rfl⟩
  refine LoadX.same (v := .int .i64 x.prime) hb rfl ?_
  refine CallX.same (isPrime_c g x.prime) ?_
  rintro r g' ⟨rfl, rfl⟩
  refine BIf.mk (fun e1 => ?_) (fun e1 => ?_)
  · have e1 : prime x.prime = false := by simpa using e1
    refine BIf.yes rfl (BIf.yes rfl ?_)
    exact no _ S.le fun hh => by have := hh.p; rw [e1] at this; cases this
  have e1 : prime x.prime = true := by simpa using e1
  refine LoadX.same (v := vD x P) hb rfl ?_
  refine CallX.same (wide_c _ _ x (qx.reads S.le)) ?_
  rintro r g' ⟨rfl, rfl⟩
  refine CallX.same (between_c _ _ 1 4) ?_
  rintro r g' ⟨rfl, rfl⟩
  refine BIf.mk (fun e2 => ?_) (fun e2 => ?_)
  · have e2 : ¬ (1 ≤ dW x ∧ dW x ≤ 4) := by simp at e2; omega
    refine BIf.yes rfl ?_
    exact no _ S.le fun hh => e2 hh.w
  have e2 : 1 ≤ dW x ∧ dW x ≤ 4 := by simp at e2; omega
  refine LoadX.same (v := vD x P) hb rfl ?_
  refine CallX.same (high_c _ _ x (qx.reads S.le) e2.1) ?_
  rintro r g' ⟨rfl, rfl⟩
  refine CallX.same (between_c _ _ 1 4) ?_
  rintro r g' ⟨rfl, rfl⟩
  refine BIf.mk (fun e3 => ?_) (fun e3 => ?_)
  · have e3 : ¬ (1 ≤ dH x ∧ dH x ≤ 4) := by simp at e3; omega
    exact no _ S.le fun hh => e3 hh.h
  have e3 : 1 ≤ dH x ∧ dH x ≤ 4 := by simp at e3; omega
  refine LoadX.same (v := vD1 x P) hb rfl ?_
  rename AH => g
  refine ⟨⟨[1, 25, 26, 27], fun n' vs g2 => ∃ k : Nat, n' = dW x - k ∧ k ≤ dW x ∧ g2 = g ∧ (∀ i, i < k → (row x.dims i).length = dH x ∧ ∀ j, j < dH x → 0 ≤ ent x.dims i j ∧ ent x.dims i j ≤ 4) ∧ vs = [.pointer (some ⟨b, 0, none⟩), vD1 x P, .int .i64 (dW x), .int .i64 k], _, ⟨0, rfl, Nat.zero_le _, rfl, fun i hi => by omega, rfl⟩, ?_⟩⟩
  rintro n' vs g2 ⟨k, rfl, hk, rfl, hs, rfl⟩
  refine BIf.mk (fun h2 => ?_) (fun h2 => ?_)
  · have hlt : k < dW x := by simpa using h2
    refine IdxX.mk (by omega) (by show (k : Int) < (x.dims.length : Int); unfold dW at hlt; omega) ?_
    refine c1.rowY S.le (show k < x.dims.length from hlt) fun b4 o4 h4 => ?_
    refine DrawX.of Tt.tab follows_any [] [] [0, 1, 2, 3, 4, 5, 6, 7, 8] rfl (by kernel_rfl) (by kernel_rfl) ?_
    refine QCall.of (fun g2 hl => sizeI_c g2 _ _ _ _) rfl ?_
    refine LoadX.same (v := vD x P) hb rfl ?_
    refine QCall.of (fun g2 hl => high_c g2 _ x (qx.reads (S.le.trans hl)) e2.1) rfl ?_
    refine BIf.mk (fun e4 => ?_) (fun e4 => ?_)
    · have e4 : (row x.dims k).length ≠ dH x := by have e4 : ¬ ((row x.dims k).length : Int) = dH x := by simpa using e4
                                                   omega
      refine BIf.yes rfl ?_
      exact no _ S.le fun hh => e4 (hh.col k hlt)
    have e4 : (row x.dims k).length = dH x := by have e4 : ((row x.dims k).length : Int) = dH x := by simpa using e4
                                                 omega
    refine QCall.of (fun g2 hl => containsFuncI_c g2 _ (row x.dims k) _ _ (fun n => !decide (0 ≤ n ∧ n ≤ 4)) (RI.le _ _ _ _ (S.le.trans hl) h4) (fun n _ u hu => by subst hu; exact isDouble1_c _ n)) rfl ?_
    refine BIf.mk (fun e5 => ?_) (fun e5 => ?_)
    · refine no _ S.le fun hh => ?_
      obtain ⟨z, hz1, hz2⟩ := List.any_eq_true.1 e5
      obtain ⟨j, hj, rfl⟩ := List.getElem_of_mem hz1
      rw [ith_get hj] at hz2
      have := hh.num k hlt j (by omega)
      unfold ent at this
      simp at hz2
      omega
    refine WR.i64 ?_
    refine ⟨dW x - (k + 1), by omega, k + 1, rfl, hlt, rfl, fun i hi => ?_, rfl⟩
    by_cases hik : i = k
    · subst hik
      refine ⟨e4, fun j hj => ?_⟩
      have e5 := List.any_eq_false.1 e5 _ (ith_mem (show j < (row x.dims i).length by omega))
      unfold ent
      simp at e5
      omega
    · exact hs i (by omega)
  have hk2 : k = dW x := by simp at h2; omega
  subst hk2
  have hd : DHead x := ⟨e1, e2, e3, fun i hi => (hs i hi).1, fun i hi => (hs i hi).2⟩
  refine LoadX.same (v := vD x P) hb rfl ?_
  refine LoadX.same (v := vD2 x P) hb rfl ?_
  refine CallX.same (areTables_c _ _ _ x x.across (qx.reads S.le) (RIIII.le _ _ _ _ S.le qx.2.1) hd (fun i j => dimZ x (i - 1) j) _ _ fun g2 l i j hi hj => isDouble2_c g2 x P (QDouble.le (S.le.trans l) qx) hd b (l.at_ _ _ hb) i j (by omega)) ?_
  rintro r g' ⟨rfl, rfl⟩
  refine BIf.mk (fun e4 => ?_) (fun e4 => ?_)
  · have e4 : tabB x x.across (fun i j => dimZ x (i - 1) j) = false := by simpa using e4
    refine BIf.yes rfl ?_
    exact no _ S.le fun hh => tabB_no e4 hh.acr
  have e4 : tabB x x.across (fun i j => dimZ x (i - 1) j) = true := by simpa using e4
  refine LoadX.same (v := vD x P) hb rfl ?_
  refine LoadX.same (v := vD3 x P) hb rfl ?_
  refine CallX.same (areTables_c _ _ _ x x.down (qx.reads S.le) (RIIII.le _ _ _ _ S.le qx.2.2) hd (fun i j => dimZ x i (j - 1)) _ _ fun g2 l i j hi hj => isDouble3_c g2 x P (QDouble.le (S.le.trans l) qx) hd b (l.at_ _ _ hb) i j (by omega)) ?_
  rintro r g' ⟨rfl, rfl⟩
  refine BIf.mk (fun e5 => ?_) (fun e5 => ?_)
  · have e5 : tabB x x.down (fun i j => dimZ x i (j - 1)) = false := by simpa using e5
    exact no _ S.le fun hh => tabB_no e5 hh.dwn
  have e5 : tabB x x.down (fun i j => dimZ x i (j - 1)) = true := by simpa using e5
  have hd : DShape x := ⟨hd, tabB_mk e4, tabB_mk e5⟩
  refine S.new fun b7 g S => ?_
  refine S.put 0 rfl fun g S => ?_
  refine LoadX.same (v := vD x P) (S.at_ 1 rfl) rfl ?_
  refine SepM.does [] S (eachCell_c h.length h _ x (qx.reads (Le.refl _)) ⟨e2.1, e2.2, e3.2⟩ _ _ (StFine x P b7 b) (fun i j hi hj => isDouble4_c h.length h x P qx hd b7 b i j hi hj) (fun i Rs hi hs => by unfold StFine at hs ⊢; rw [hs, fine_col])) (Le.refl _) (by show _ = _; rw [fine_zero]; rfl) fun g' Rs' gl hs' S => ?_
  unfold StFine at hs'
  rw [fine_all hd] at hs'
  subst hs'
  refine LoadX.same (v := .bool (dOk x)) (S.at_ 0 rfl) rfl ?_
  exact FinX.keep hw S.le rfl ⟨rfl, rfl⟩

end Go.Gl

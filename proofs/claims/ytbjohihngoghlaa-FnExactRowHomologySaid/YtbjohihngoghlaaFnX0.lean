/- Plain double complexes. No condition. -/
import Derived.Test.YtbjohihngoghlaaFnA2
import Derived.Test.YtbjohihngoghlaaFnStruct
import Derived.Test.YtbjohihngoghlaaPlK
set_option linter.unusedVariables false
set_option linter.unusedSimpArgs false
namespace Go.Gl
open Go.Proofs Go.Proofs.Ytbjohihngoghlaa Go.Pl

/-- the column at a place -/
def ten (t : List (List (List (List Int)))) (i : Nat) : List (List (List Int)) := t.getD i []
theorem ten_get {t : List (List (List (List Int)))} {i : Nat} (h : i < t.length) : t[i] = ten t i := by simp [ten, h]
theorem ten_getq {t : List (List (List (List Int)))} {i : Nat} (h : i < t.length) : t[i]? = some (ten t i) := by simp [ten, h]
theorem ten_out {t : List (List (List (List Int)))} {i : Nat} (h : t.length ≤ i) : ten t i = [] := by simp [ten, List.getElem?_eq_none h]
theorem mat_out {t : List (List (List Int))} {i : Nat} (h : t.length ≤ i) : mat t i = [] := by simp [mat, List.getElem?_eq_none h]
/-- the rows of a cell -/
def cel (t : List (List (List (List Int)))) (i j : Nat) : List (List Int) := mat (ten t i) j
/-- a row of rows of rows of rows, read where it was first told -/
theorem CS.ten {h g : AH} {b o : Nat} {xs : List (List (List (List Int)))} (hc : CS RIII h b o xs) (hl : Le h g) {i : TI} {k a : Nat} {K : Value → Prop} (hk : k < xs.length)
    (hK : ∀ b' o', RIII h (.slice (some ⟨b', o', none⟩) (ten xs k).length 0) (ten xs k) → K (.slice (some ⟨b', o', none⟩) (ten xs k).length 0)) (ha : a = o + k := by rfl) (hi : i.agg = false := by rfl) : LoadX g i b a K := by
  subst ha
  obtain ⟨blk, u, h1, h2, hm, b', o', h3, h4⟩ := hc k xs[k] (List.getElem?_eq_getElem hk)
  rw [ten_get hk] at hm h3 h4
  refine LoadX.one (hl.at_ _ _ h1) ?_ h3 (hK b' o' ⟨hm, b', o', Wk.refl _, h4⟩)
  unfold ldv
  rw [hi]
  exact h2

def dW (x : SDouble) : Nat := x.dims.length
def dH (x : SDouble) : Nat := (row x.dims 0).length
/-- the dimension of a cell, 0 outside -/
def dimZ (x : SDouble) (i j : Int) : Int := if (0 ≤ i ∧ i ≤ (dW x : Int) - 1) ∧ (0 ≤ j ∧ j ≤ (dH x : Int) - 1) then ent x.dims i.toNat j.toNat else 0
/-- the rows of a cell, none outside -/
def celZ (x : SDouble) (t : List (List (List (List Int)))) (i j : Int) : List (List Int) := if (0 ≤ i ∧ i ≤ (dW x : Int) - 1) ∧ (0 ≤ j ∧ j ≤ (dH x : Int) - 1) then cel t i.toNat j.toNat else []
def acr (x : SDouble) (i j : Int) (v : List Int) : List Int := comb x.prime (dimZ x (i - 1) j).toNat v (celZ x x.across i j)
def dwn (x : SDouble) (i j : Int) (v : List Int) : List Int := comb x.prime (dimZ x i (j - 1)).toNat v (celZ x x.down i j)
/-- the differentials of the differentials of a basis vector are as told -/
def sqAcr (x : SDouble) (i j : Int) (k : Nat) : Bool := zeroV (acr x (i - 1) j (row (celZ x x.across i j) k))
def sqDwn (x : SDouble) (i j : Int) (k : Nat) : Bool := zeroV (dwn x i (j - 1) (row (celZ x x.down i j) k))
def sqBoth (x : SDouble) (i j : Int) (k : Nat) : Bool := zeroV (less x.prime (dwn x (i - 1) j (row (celZ x x.across i j) k)) (acr x i (j - 1) (row (celZ x x.down i j) k)) (-1))
def sqCell (x : SDouble) (i j : Int) (k : Nat) : Bool := sqAcr x i j k && sqDwn x i j k && sqBoth x i j k
def TabOk (x : SDouble) (t : List (List (List (List Int)))) (w : Int → Int → Int) : Prop :=
  t.length = dW x ∧ (∀ i, i < dW x → (ten t i).length = dH x) ∧ ∀ i j, i < dW x → j < dH x → ((cel t i j).length : Int) = dimZ x i j ∧ rowsOk x.prime (w i j) (cel t i j) = true
structure DHead (x : SDouble) : Prop where
  p : prime x.prime = true
  w : 1 ≤ dW x ∧ dW x ≤ 4
  h : 1 ≤ dH x ∧ dH x ≤ 4
  col : ∀ i, i < dW x → (row x.dims i).length = dH x
  num : ∀ i, i < dW x → ∀ j, j < dH x → 0 ≤ ent x.dims i j ∧ ent x.dims i j ≤ 4
structure DShape (x : SDouble) : Prop extends DHead x where
  acr : TabOk x x.across fun i j => dimZ x (i - 1) j
  dwn : TabOk x x.down fun i j => dimZ x i (j - 1)
structure DOk (x : SDouble) : Prop extends DShape x where
  sq : ∀ i j k : Nat, i < dW x → j < dH x → (k : Int) < dimZ x i j → sqCell x i j k = true
noncomputable def dOk (x : SDouble) : Bool := @decide (DOk x) (Classical.propDecidable _)
theorem dOk_t {x : SDouble} (h : DOk x) : dOk x = true := @decide_eq_true _ (Classical.propDecidable _) h
theorem dOk_f {x : SDouble} (h : ¬ DOk x) : dOk x = false := @decide_eq_false _ (Classical.propDecidable _) h
theorem dOk_mk {x : SDouble} (h : dOk x = true) : DOk x := @of_decide_eq_true _ (Classical.propDecidable _) h
theorem dimZ_in {x : SDouble} {i j : Nat} (hi : i < dW x) (hj : j < dH x) : dimZ x i j = ent x.dims i j := by
  unfold dimZ
  rw [if_pos ⟨⟨by omega, by omega⟩, by omega, by omega⟩]
  rfl
theorem celZ_in {x : SDouble} {t : List (List (List (List Int)))} {i j : Nat} (hi : i < dW x) (hj : j < dH x) : celZ x t i j = cel t i j := by
  unfold celZ
  rw [if_pos ⟨⟨by omega, by omega⟩, by omega, by omega⟩]
  rfl
theorem dimZ_out {x : SDouble} {i j : Int} (h : ¬ ((0 ≤ i ∧ i ≤ (dW x : Int) - 1) ∧ (0 ≤ j ∧ j ≤ (dH x : Int) - 1))) : dimZ x i j = 0 := if_neg h
theorem celZ_out {x : SDouble} {t : List (List (List (List Int)))} {i j : Int} (h : ¬ ((0 ≤ i ∧ i ≤ (dW x : Int) - 1) ∧ (0 ≤ j ∧ j ≤ (dH x : Int) - 1))) : celZ x t i j = [] := if_neg h
theorem in_nat {x : SDouble} {i j : Int} (h : (0 ≤ i ∧ i ≤ (dW x : Int) - 1) ∧ (0 ≤ j ∧ j ≤ (dH x : Int) - 1)) : ∃ a b : Nat, i = a ∧ j = b ∧ a < dW x ∧ b < dH x := ⟨i.toNat, j.toNat, by omega, by omega, by omega, by omega⟩
theorem DHead.dim {x : SDouble} (h : DHead x) (i j : Int) : 0 ≤ dimZ x i j ∧ dimZ x i j ≤ 4 := by
  by_cases hh : (0 ≤ i ∧ i ≤ (dW x : Int) - 1) ∧ (0 ≤ j ∧ j ≤ (dH x : Int) - 1)
  · obtain ⟨a, b, rfl, rfl, ha, hb⟩ := in_nat hh
    rw [dimZ_in ha hb]
    exact h.num a ha b hb
  · rw [dimZ_out hh]; omega
/-- what stands in a cell of a table in order -/
theorem TabOk.cell {x : SDouble} {t : List (List (List (List Int)))} {w : Int → Int → Int} (h : TabOk x t w) (i j : Int) : ((celZ x t i j).length : Int) = dimZ x i j ∧ Mat x.prime (w i j).toNat (celZ x t i j) := by
  by_cases hh : (0 ≤ i ∧ i ≤ (dW x : Int) - 1) ∧ (0 ≤ j ∧ j ≤ (dH x : Int) - 1)
  · obtain ⟨a, b, rfl, rfl, ha, hb⟩ := in_nat hh
    obtain ⟨h1, h2⟩ := h.2.2 a b ha hb
    rw [celZ_in ha hb]
    exact ⟨h1, rowsOk_mat h2⟩
  · rw [celZ_out hh, dimZ_out hh]
    exact ⟨rfl, Mat.nil _ _⟩
theorem comb_nil {p : Int} {n : Nat} {v : List Int} : comb p n v [] = tab n fun _ => 0 := by
  unfold comb
  refine tab_congr fun k _ => ?_
  have : ∀ m, sm m (fun i => ith v i * ent [] i k) = 0 := fun m => by
    induction m with
    | zero => rfl
    | succ m ih => simp only [sm]; rw [ih]; simp [ent, row, ith]
  rw [this]; rfl
theorem Vec.combN {p : Int} (hp : 0 < p) {n : Nat} {v : List Int} {rows : List (List Int)} : Vec p n (comb p n v rows) := Vec.tab fun i _ => ⟨Int.emod_nonneg _ (by omega), Int.emod_lt_of_pos _ hp⟩
/-- a basis vector picks its row -/
theorem comb_unit {p : Int} (hp : 1 < p) {n m k : Nat} {rows : List (List Int)} (hr : Mat p n rows) (hk : k < rows.length) (hm : m = rows.length) : comb p n (unitv m k) rows = row rows k := by
  obtain ⟨h1, h2⟩ := hr.row hk
  refine ext_ith (by rw [comb, tab_length, h1]) fun c hc => ?_
  rw [comb, tab_length] at hc
  rw [comb, tab_ith hc]
  have e : ∀ q, q ≤ m → sm q (fun i => ith (unitv m k) i * ent rows i c) = if k < q then ent rows k c else 0 := fun q => by
    induction q with
    | zero => intro _; rfl
    | succ q ih =>
      intro hq
      simp only [sm]
      rw [ih (by omega), show ith (unitv m k) q = if q = k then 1 else 0 from tab_ith (by omega)]
      by_cases h3 : k < q
      · rw [if_pos h3, if_neg (by omega), if_pos (by omega)]; omega
      · rw [if_neg h3]
        by_cases h4 : q = k
        · subst h4; rw [if_pos rfl, if_pos (by omega)]; omega
        · rw [if_neg h4, if_neg (by omega)]; omega
  rw [show (unitv m k).length = m from tab_length _ _, e m (Nat.le_refl _), if_pos (by omega)]
  have := h2.ith (by omega) c
  exact Int.emod_eq_of_lt this.1 this.2
end Go.Gl

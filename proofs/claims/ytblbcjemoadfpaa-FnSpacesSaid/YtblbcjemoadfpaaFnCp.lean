/- Chapter 5: CoupleDifferential. No condition. -/
import Derived.Test.YtblbcjemoadfpaaFnA2
import Derived.Test.YtblbcjemoadfpaaFn5a
set_option linter.unusedVariables false
set_option linter.unusedSimpArgs false
namespace Go.Gl
open Go.Proofs Go.Proofs.Ytblbcjemoadfpaa Go.Pl

def diffN (c : SCouple) (k : Nat) : List (List Int) := tabR k (fun i => comb c.prime c.e.toNat (row c.k i) c.j)
def coupleDiff (c : SCouple) : List (List Int) × Int := if coupleOk c then (diffN c c.k.length, 0) else ([], 1)
structure CoupleOk (c : SCouple) : Prop where
  p : prime c.prime = true
  d : 0 ≤ c.d ∧ c.d ≤ 24
  e : 0 ≤ c.e ∧ c.e ≤ 24
  li : (c.i.length : Int) = c.d
  lj : (c.j.length : Int) = c.d
  lk : (c.k.length : Int) = c.e
  mI : Mat c.prime c.d.toNat c.i
  mJ : Mat c.prime c.e.toNat c.j
  mK : Mat c.prime c.d.toNat c.k
theorem coupleOk_mk {c : SCouple} (h : coupleOk c = true) : CoupleOk c := by
  simp only [coupleOk, Bool.and_eq_true, decide_eq_true_eq] at h
  obtain ⟨⟨⟨⟨⟨⟨⟨⟨h1, h2⟩, h3⟩, h4⟩, h5⟩, h6⟩, h7⟩, h8⟩, h9⟩ := h
  exact ⟨h1, h2, h3, h4, h5, h6, rowsOk_mat h7, rowsOk_mat h8, rowsOk_mat h9⟩
/-- the numbers of a list of rows are few -/
theorem cnII_tabR {n m : Nat} {f : Nat → List Int} (h : ∀ i, i < n → (f i).length ≤ m) : cnII (tabR n f) ≤ n * m := by
  induction n with
  | zero => simp [tabR, cnL]
  | succ n ih =>
    rw [tabR_succ]
    have h1 := ih (fun i hi => h i (by omega))
    have h2 := h n (by omega)
    unfold cnII cnL at h1 ⊢
    rw [List.map_append, List.sum_append, Nat.succ_mul]
    simp [cnI]
    omega
theorem coupleDiff_cn (c : SCouple) : cnII (coupleDiff c).1 ≤ 1000 := by
  unfold coupleDiff
  split
  · rename_i h
    have hc := coupleOk_mk h
    have := hc.e
    have := hc.lk
    refine Nat.le_trans (cnII_tabR (m := 24) fun i hi => ?_) ?_
    · rw [show (comb c.prime c.e.toNat (row c.k i) c.j).length = c.e.toNat from tab_length _ _]; omega
    · have : c.k.length ≤ 24 := by omega
      calc c.k.length * 24 ≤ 24 * 24 := Nat.mul_le_mul_right _ this
        _ ≤ 1000 := by decide
  · simp [cnL]


end Go.Gl

/- Plain complexes: when all is in order. No condition. -/
import Derived.Test.YtionapmdibdfpaaPlA
set_option linter.unusedVariables false
set_option linter.unusedSimpArgs false
namespace Go.Pl

def allN (f : Nat → Bool) (k : Nat) : Bool := (List.range k).all f
theorem allN_succ (f : Nat → Bool) (k : Nat) : allN f (k + 1) = (allN f k && f k) := by simp [allN, List.range_succ]
theorem allN_false {f : Nat → Bool} {k i : Nat} (hi : i < k) (h : f i = false) : allN f k = false := by
  unfold allN
  rw [List.all_eq_false]
  exact ⟨i, by simpa using hi, by simp [h]⟩
theorem allN_at {f : Nat → Bool} {k i : Nat} (h : allN f k = true) (hi : i < k) : f i = true := List.all_eq_true.1 h i (by simpa using hi)
theorem allN_mk {f : Nat → Bool} {k : Nat} (h : ∀ i, i < k → f i = true) : allN f k = true := List.all_eq_true.2 fun i hi => h i (by simpa using hi)

def zeroV (v : List Int) : Bool := decide (lead v < 0)
theorem zeroV_any (v : List Int) : (!v.any fun x => decide (x ≠ 0)) = zeroV v := by
  unfold zeroV
  rcases lead_cases v with ⟨h1, h2⟩ | ⟨k, h1, h2, h3, h4⟩
  · rw [h1]
    have : v.any (fun x => decide (x ≠ 0)) = false := by
      rw [List.any_eq_false]
      intro x hx
      obtain ⟨i, hi, rfl⟩ := List.getElem_of_mem hx
      simp [ith_get hi, h2 i hi]
    rw [this]; rfl
  · rw [h1]
    have : v.any (fun x => decide (x ≠ 0)) = true := List.any_eq_true.2 ⟨_, ith_mem h2, by simpa using h4⟩
    rw [this]; simp

/-- the rows at a place -/
def mat (maps : List (List (List Int))) (i : Nat) : List (List Int) := maps.getD i []
theorem mat_get {maps : List (List (List Int))} {i : Nat} (h : i < maps.length) : maps[i] = mat maps i := by simp [mat, h]
theorem mat_getq {maps : List (List (List Int))} {i : Nat} (h : i < maps.length) : maps[i]? = some (mat maps i) := by simp [mat, h]
end Go.Pl

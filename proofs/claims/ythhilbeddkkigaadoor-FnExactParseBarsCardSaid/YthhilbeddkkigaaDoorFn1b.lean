/- Library functions over slices with function values; rows of numbers. No condition. -/
import Derived.Test.YthhilbeddkkigaaDoorFn1
set_option linter.unusedVariables false
set_option linter.unusedSimpArgs false
namespace Go.Gl
open Go.Proofs Go.Proofs.YthhilbeddkkigaaDoor

/-- the first place, or -1 -/
def idx {α : Type} (p : α → Bool) : List α → Int
  | [] => -1
  | x :: xs => if p x then 0 else if idx p xs < 0 then -1 else idx p xs + 1
theorem idx_any {α : Type} (p : α → Bool) (xs : List α) : (decide (idx p xs ≥ 0)) = xs.any p ∧ -1 ≤ idx p xs := by
  induction xs with
  | nil => exact ⟨rfl, by simp [idx]⟩
  | cons x xs ih =>
    obtain ⟨h1, h2⟩ := ih
    unfold idx
    cases hp : p x with
    | true => simp [hp]
    | false =>
      simp only [Bool.false_eq_true, if_false, List.any_cons, hp, Bool.false_or, ← h1]
      split
      · rename_i h3
        exact ⟨by simp; omega, by omega⟩
      · rename_i h3
        exact ⟨by simp; omega, by omega⟩
theorem idx_stop {α : Type} (p : α → Bool) (xs : List α) (k : Nat) (hk : k < xs.length) (h1 : (xs.take k).any p = false) (h2 : p xs[k] = true) : idx p xs = k := by
  induction xs generalizing k with
  | nil => simp at hk
  | cons x xs ih =>
    unfold idx
    cases k with
    | zero => simp at h2; simp [h2]
    | succ k =>
      simp only [List.take_succ_cons, List.any_cons, Bool.or_eq_false_iff] at h1
      have := ih k (by simpa using hk) h1.2 (by simpa using h2)
      rw [this, h1.1]
      simp
      omega
theorem idx_none {α : Type} (p : α → Bool) (xs : List α) (h1 : xs.any p = false) : idx p xs = -1 := by
  have := (idx_any p xs).1
  rw [h1] at this
  have := (idx_any p xs).2
  simp at *
  omega


/-- a row of numbers modulo p -/
def vecOk (p n : Int) (v : List Int) : Bool := decide ((v.length : Int) = n) && v.all fun x => decide (0 ≤ x ∧ x ≤ p - 1)
def rowsOk (p n : Int) (rows : List (List Int)) : Bool := rows.all (vecOk p n)

end Go.Gl

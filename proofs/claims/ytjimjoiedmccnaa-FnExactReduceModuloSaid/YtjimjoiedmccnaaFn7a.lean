/- Chapter 7: LensComplex. No condition. -/
import Derived.Test.YtjimjoiedmccnaaFn1
set_option linter.unusedVariables false
set_option linter.unusedSimpArgs false
namespace Go.Gl
open Go.Proofs Go.Proofs.Ytjimjoiedmccnaa

def lensMaps (n : Int) (k : Nat) : List (List (List Int)) := (List.range k).map fun (i : Nat) => [[n * ((i : Int) % 2)]]
def lens (n k : Int) : SWhole × Int := if (0 ≤ n ∧ n ≤ 9) ∧ (0 ≤ k ∧ k ≤ 5) then (⟨List.replicate (k.toNat + 1) 1, lensMaps n k.toNat⟩, 0) else (⟨[], []⟩, 2)

theorem lens_bad {n k : Int} (h : ¬ ((0 ≤ n ∧ n ≤ 9) ∧ (0 ≤ k ∧ k ≤ 5))) : lens n k = (⟨[], []⟩, 2) := if_neg h
theorem lens_good {n k : Int} (h : (0 ≤ n ∧ n ≤ 9) ∧ (0 ≤ k ∧ k ≤ 5)) : lens n k = (⟨List.replicate (k.toNat + 1) 1, lensMaps n k.toNat⟩, 0) := if_pos h
theorem lensMaps_succ (n : Int) (k : Nat) : lensMaps n (k + 1) = lensMaps n k ++ [[[n * ((k : Int) % 2)]]] := by simp [lensMaps, List.range_succ]
theorem lensMaps_length (n : Int) (k : Nat) : (lensMaps n k).length = k := by simp [lensMaps]
theorem lens_cn (n k : Int) : cnWhole (lens n k).1 ≤ 100 := by
  by_cases hb : (0 ≤ n ∧ n ≤ 9) ∧ (0 ≤ k ∧ k ≤ 5)
  · rw [lens_good hb]
    obtain ⟨kn, rfl⟩ : ∃ kn : Nat, k = kn := ⟨k.toNat, by omega⟩
    have : kn ≤ 5 := by omega
    have h1 : ∀ j : Nat, cnIII (lensMaps n j) = j := by
      intro j
      induction j with
      | zero => rfl
      | succ j ih => rw [lensMaps_succ]; unfold cnIII cnL at ih ⊢; rw [List.map_append, List.sum_append, ih]; rfl
    show cnI (List.replicate (kn + 1) 1) + cnIII (lensMaps n kn) ≤ 100
    rw [h1]
    simp [cnI]
    omega
  · rw [lens_bad hb]
    decide

/-- the empty structure -/
theorem OWhole.zero (n : Nat) (h : AH) : OWhole n h (.agg #[.slice none 0 0, .slice none 0 0]) ⟨[], []⟩ [] :=
  ⟨_, _, rfl, [], [], ⟨by simp, .inl ⟨rfl, rfl, Wk.nil _⟩⟩, ⟨by simp, 0, 0, [], [], Wk.nil _, Row.nil _ _ _, rfl, .inl rfl⟩, rfl, by simp⟩


/- Chapter 6: SphereComplex, UnitComplex. No condition. -/
import Derived.Test.YtjimjoiedmccnaaFn6a
set_option linter.unusedVariables false
set_option linter.unusedSimpArgs false
namespace Go.Gl
open Go.Proofs Go.Proofs.Ytjimjoiedmccnaa

def sphereDims (n : Nat) : List Int := List.replicate n 0 ++ [1]
theorem sphereDims_length (n : Nat) : (sphereDims n).length = n + 1 := by simp [sphereDims]
theorem sphereDims_low {n i : Nat} (h : i < n) : nth (sphereDims n) i = 0 := by
  rw [← nth_get (by rw [sphereDims_length]; omega)]
  simp [sphereDims, List.getElem_append_left, h]
theorem sphereDims_high (n : Nat) : nth (sphereDims n) n = 1 := by
  rw [← nth_get (by rw [sphereDims_length]; omega)]
  simp [sphereDims]
def noComplex : SComplex := ⟨0, [], []⟩
def sphere (p n : Int) : SComplex × Int := if prime p = true ∧ (0 ≤ n ∧ n ≤ 5) then (blank p (sphereDims n.toNat), 0) else (noComplex, 2)
theorem sphere_bad {p n : Int} (h : ¬ (prime p = true ∧ (0 ≤ n ∧ n ≤ 5))) : sphere p n = (noComplex, 2) := if_neg h
theorem sphere_good {p n : Int} (h : prime p = true ∧ (0 ≤ n ∧ n ≤ 5)) : sphere p n = (blank p (sphereDims n.toNat), 0) := if_pos h
theorem OComplex.zero (n : Nat) (h : AH) : OComplex n h (.agg #[.int .i64 0, .slice none 0 0, .slice none 0 0]) noComplex [] :=
  ⟨_, _, rfl, [], [], ⟨by simp [noComplex], .inl ⟨rfl, rfl, Wk.nil _⟩⟩, ⟨by simp [noComplex], 0, 0, [], [], Wk.nil _, Row.nil _ _ _, rfl, .inl rfl⟩, rfl, by simp⟩
theorem sphereDims_cells (n : Nat) : setCells (List.replicate (n + 1) (Value.int .i64 0)) n [.int .i64 1] = (sphereDims n).map (Value.int .i64) := by
  simp [setCells, sphereDims]


theorem sphere_cn (p n : Int) : cnComplex (sphere p n).1 ≤ 100 := by
  by_cases hb : prime p = true ∧ (0 ≤ n ∧ n ≤ 5)
  · rw [sphere_good hb]
    obtain ⟨kn, rfl⟩ : ∃ kn : Nat, n = kn := ⟨n.toNat, by omega⟩
    have : kn ≤ 5 := by omega
    show cnI (sphereDims kn) + cnIII (blankMaps (sphereDims kn) ((sphereDims kn).length - 1)) ≤ 100
    clear hb
    revert this
    revert kn
    decide
  · rw [sphere_bad hb]
    decide


end Go.Gl

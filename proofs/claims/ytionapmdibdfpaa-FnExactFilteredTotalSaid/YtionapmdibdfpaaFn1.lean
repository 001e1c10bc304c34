/- Functions of chapter 1: the small ones. No condition. -/
import Derived.Test.YtionapmdibdfpaaGlL
import Derived.Test.YtionapmdibdfpaaFnStruct
set_option linter.unusedVariables false
set_option linter.unusedSimpArgs false
namespace Go.Gl
open Go.Proofs Go.Proofs.Ytionapmdibdfpaa


theorem between_c (h : AH) (n lo hi : Int) : ACalls Try.prog 48 [.int .i64 n, .int .i64 lo, .int .i64 hi] h (fun r h' => r = .bool (decide (lo ≤ n ∧ n ≤ hi)) ∧ h' = h) := by
  refine ACalls.of Tt.tab Try.func48 rfl (by kernel_rfl) Try.ntmps48 _ rfl rfl (fun hw => ?_)
  refine BIf.mk (fun h1 => ?_) (fun h1 => ?_)
  · refine FinX.keep hw (Le.refl _) rfl ⟨?_, rfl⟩
    simp at h1
    simp [h1]
  · refine FinX.keep hw (Le.refl _) rfl ⟨?_, rfl⟩
    simp at h1
    rw [decide_eq_false (by omega)]

theorem l01In_c (h : AH) (n lo hi : Int) : ACalls Try.prog 41 [.int .i64 n, .int .i64 lo, .int .i64 hi] h (fun r h' => r = .bool (decide (lo ≤ n ∧ n ≤ hi)) ∧ h' = h) := by
  refine ACalls.of Tt.tab Try.func41 rfl (by kernel_rfl) Try.ntmps41 _ rfl rfl (fun hw => ?_)
  refine BIf.mk (fun h1 => ?_) (fun h1 => ?_)
  · refine FinX.keep hw (Le.refl _) rfl ⟨?_, rfl⟩
    simp at h1
    simp [h1]
  · refine FinX.keep hw (Le.refl _) rfl ⟨?_, rfl⟩
    simp at h1
    rw [decide_eq_false (by omega)]
def prime (p : Int) : Bool := decide (p = 2 ∨ p = 3 ∨ p = 5 ∨ p = 7)

theorem isPrime_c (h : AH) (p : Int) : ACalls Try.prog 47 [.int .i64 p] h (fun r h' => r = .bool (prime p) ∧ h' = h) := by
  unfold prime
  refine ACalls.of Tt.tab Try.func47 rfl (by kernel_rfl) Try.ntmps47 _ rfl rfl (fun hw => ?_)
  refine BIf.mk (fun h1 => ?_) (fun h1 => ?_)
  · refine BIf.yes rfl (BIf.yes rfl (FinX.keep hw (Le.refl _) rfl ⟨?_, rfl⟩))
    simp at h1
    simp [h1]
  · refine BIf.mk (fun h2 => ?_) (fun h2 => ?_)
    · refine BIf.yes rfl (FinX.keep hw (Le.refl _) rfl ⟨?_, rfl⟩)
      simp at h2
      simp [h2]
    · refine BIf.mk (fun h3 => ?_) (fun h3 => ?_)
      · refine FinX.keep hw (Le.refl _) rfl ⟨?_, rfl⟩
        simp at h3
        simp [h3]
      · refine FinX.keep hw (Le.refl _) rfl ⟨?_, rfl⟩
        simp at h1 h2 h3
        simp [h1, h2, h3]
        rfl

theorem l01Prime_c (h : AH) (p : Int) : ACalls Try.prog 40 [.int .i64 p] h (fun r h' => r = .bool (prime p) ∧ h' = h) := by
  unfold prime
  refine ACalls.of Tt.tab Try.func40 rfl (by kernel_rfl) Try.ntmps40 _ rfl rfl (fun hw => ?_)
  refine BIf.mk (fun h1 => ?_) (fun h1 => ?_)
  · refine BIf.yes rfl (BIf.yes rfl (FinX.keep hw (Le.refl _) rfl ⟨?_, rfl⟩))
    simp at h1
    simp [h1]
  · refine BIf.mk (fun h2 => ?_) (fun h2 => ?_)
    · refine BIf.yes rfl (FinX.keep hw (Le.refl _) rfl ⟨?_, rfl⟩)
      simp at h2
      simp [h2]
    · refine BIf.mk (fun h3 => ?_) (fun h3 => ?_)
      · refine FinX.keep hw (Le.refl _) rfl ⟨?_, rfl⟩
        simp at h3
        simp [h3]
      · refine FinX.keep hw (Le.refl _) rfl ⟨?_, rfl⟩
        simp at h1 h2 h3
        simp [h1, h2, h3]
        rfl


theorem sizeI_c (h : AH) (b o n c : Nat) : ACalls Try.prog 51 [.slice (some ⟨b, o, none⟩) n c] h (fun r h' => r = .int .i64 n ∧ h' = h) := by
  refine ACalls.of Tt.tab Try.func51 rfl (by kernel_rfl) Try.ntmps51 _ rfl rfl (fun hw => ?_)
  exact FinX.keep hw (Le.refl _) rfl ⟨rfl, rfl⟩

theorem sizeII_c (h : AH) (b o n c : Nat) : ACalls Try.prog 73 [.slice (some ⟨b, o, none⟩) n c] h (fun r h' => r = .int .i64 n ∧ h' = h) := by
  refine ACalls.of Tt.tab Try.func73 rfl (by kernel_rfl) Try.ntmps73 _ rfl rfl (fun hw => ?_)
  exact FinX.keep hw (Le.refl _) rfl ⟨rfl, rfl⟩

end Go.Gl

/- Functions of chapter 1: the small ones. No condition. -/
import Derived.Test.YtghmdhlpoedidaaGlL
import Derived.Test.YtghmdhlpoedidaaFnStruct
set_option linter.unusedVariables false
set_option linter.unusedSimpArgs false
namespace Go.Gl
open Go.Proofs Go.Proofs.Ytghmdhlpoedidaa


theorem between_c (h : AH) (n lo hi : Int) : ACalls Try.prog 56 [.int .i64 n, .int .i64 lo, .int .i64 hi] h (fun r h' => r = .bool (decide (lo ≤ n ∧ n ≤ hi)) ∧ h' = h) := by
  refine ACalls.of Tt.tab Try.func56 rfl (by kernel_rfl) Try.ntmps56 _ rfl rfl (fun hw => ?_)
  refine BIf.mk (fun h1 => ?_) (fun h1 => ?_)
  · refine FinX.keep hw (Le.refl _) rfl ⟨?_, rfl⟩
    simp at h1
    simp [h1]
  · refine FinX.keep hw (Le.refl _) rfl ⟨?_, rfl⟩
    simp at h1
    rw [decide_eq_false (by omega)]

theorem l01In_c (h : AH) (n lo hi : Int) : ACalls Try.prog 55 [.int .i64 n, .int .i64 lo, .int .i64 hi] h (fun r h' => r = .bool (decide (lo ≤ n ∧ n ≤ hi)) ∧ h' = h) := by
  refine ACalls.of Tt.tab Try.func55 rfl (by kernel_rfl) Try.ntmps55 _ rfl rfl (fun hw => ?_)
  refine BIf.mk (fun h1 => ?_) (fun h1 => ?_)
  · refine FinX.keep hw (Le.refl _) rfl ⟨?_, rfl⟩
    simp at h1
    simp [h1]
  · refine FinX.keep hw (Le.refl _) rfl ⟨?_, rfl⟩
    simp at h1
    rw [decide_eq_false (by omega)]

end Go.Gl

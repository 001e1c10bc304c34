/- Functions of chapter 1: the small ones. No condition. -/
import Derived.Test.YthhilbeddkkigaaDoorGlL
import Derived.Test.YthhilbeddkkigaaDoorFnStruct
set_option linter.unusedVariables false
set_option linter.unusedSimpArgs false
namespace Go.Gl
open Go.Proofs Go.Proofs.YthhilbeddkkigaaDoor


theorem between_c (h : AH) (n lo hi : Int) : ACalls Tryd.prog 53 [.int .i64 n, .int .i64 lo, .int .i64 hi] h (fun r h' => r = .bool (decide (lo ≤ n ∧ n ≤ hi)) ∧ h' = h) := by
  refine ACalls.of Tt.tab Tryd.func53 rfl (by kernel_rfl) Tryd.ntmps53 _ rfl rfl (fun hw => ?_)
  refine BIf.mk (fun h1 => ?_) (fun h1 => ?_)
  · refine FinX.keep hw (Le.refl _) rfl ⟨?_, rfl⟩
    simp at h1
    simp [h1]
  · refine FinX.keep hw (Le.refl _) rfl ⟨?_, rfl⟩
    simp at h1
    rw [decide_eq_false (by omega)]

theorem l01In_c (h : AH) (n lo hi : Int) : ACalls Tryd.prog 37 [.int .i64 n, .int .i64 lo, .int .i64 hi] h (fun r h' => r = .bool (decide (lo ≤ n ∧ n ≤ hi)) ∧ h' = h) := by
  refine ACalls.of Tt.tab Tryd.func37 rfl (by kernel_rfl) Tryd.ntmps37 _ rfl rfl (fun hw => ?_)
  refine BIf.mk (fun h1 => ?_) (fun h1 => ?_)
  · refine FinX.keep hw (Le.refl _) rfl ⟨?_, rfl⟩
    simp at h1
    simp [h1]
  · refine FinX.keep hw (Le.refl _) rfl ⟨?_, rfl⟩
    simp at h1
    rw [decide_eq_false (by omega)]
def prime (p : Int) : Bool := decide (p = 2 ∨ p = 3 ∨ p = 5 ∨ p = 7)

end Go.Gl

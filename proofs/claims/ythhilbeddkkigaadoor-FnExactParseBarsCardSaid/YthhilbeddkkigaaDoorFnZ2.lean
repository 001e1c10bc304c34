/- Chapter 9: rows of bars are merged and sorted in their place. Printed by mk_z2.py. No condition. -/
import Derived.Test.YthhilbeddkkigaaDoorFnZ1
set_option linter.unusedVariables false
set_option linter.unusedSimpArgs false
namespace Go.Gl
open Go.Proofs Go.Proofs.YthhilbeddkkigaaDoor Go.Pl

theorem WR.u64 {x : Int} {f : Int → Prop} (h : f x) (h1 : 0 ≤ x := by omega) (h2 : x ≤ 9223372036854775807 := by omega) : WR .u64 x f :=
  ⟨by rw [show IntKind.u64.wrap x = x by simp [IntKind.wrap, IntKind.bits, IntKind.signed]; omega]; exact h⟩
theorem half_eq (x : Nat) : (x : Int).fdiv (2 ^ min (1 : Int).toNat IntKind.u64.bits) = ((x / 2 : Nat) : Int) := by
  rw [show (2 : Int) ^ min (1 : Int).toNat IntKind.u64.bits = 2 by decide, Int.fdiv_eq_ediv_of_nonneg _ (by decide)]
  omega
theorem shR_zero {f : Nat → SBar} {a t : Nat} : f t = shR f a a t := by
  unfold shR
  rw [if_neg (by omega)]
  split
  · rename_i e; rw [e]
  · rfl
theorem shR_step {D : List SBar} {f : Nat → SBar} {a k t : Nat} (ha : a ≤ k) (hk : k + 1 < D.length) (e : ∀ t, bar D t = shR f a k t) : bar (sw D k (k + 1)) t = shR f a (k + 1) t := by
  rw [bar_sw (by omega) hk, e, e, e]
  unfold shR
  repeat' split
  all_goals first | (exfalso; omega) | rfl | (congr 1; omega)
theorem shL_zero {f : Nat → SBar} {m t : Nat} : f t = shL f m m t := by
  unfold shL
  rw [if_neg (by omega)]
  split
  · rename_i e; rw [e]
  · rfl
theorem shL_step {D : List SBar} {f : Nat → SBar} {m k t : Nat} (h0 : 0 < k) (ha : k ≤ m) (hk : m < D.length) (e : ∀ t, bar D t = shL f m k t) : bar (sw D k (k - 1)) t = shL f m (k - 1) t := by
  rw [bar_sw (by omega) (by omega), e, e, e]
  unfold shL
  repeat' split
  all_goals first | (exfalso; omega) | rfl | (congr 1; omega)

end Go.Gl

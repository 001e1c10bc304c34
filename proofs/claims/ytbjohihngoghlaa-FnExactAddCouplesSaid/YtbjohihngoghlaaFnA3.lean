/- Chapter 1: EulerNumber. No condition. -/
import Derived.Test.YtbjohihngoghlaaFnA2
set_option linter.unusedVariables false
set_option linter.unusedSimpArgs false
namespace Go.Gl
open Go.Proofs Go.Proofs.Ytbjohihngoghlaa Go.Pl

def eulerN (dims : List Int) (k : Nat) : Int := sm k (fun i => ith dims i * (1 - 2 * ((i : Int) % 2)))
def euler (x : SComplex) : Int × Int := if complexOk x then (eulerN x.dims x.dims.length, 0) else (0, 1)
theorem eulerN_rng {x : SComplex} (hh : HeadOk x) : ∀ k : Nat, -(8 * (k : Int)) ≤ eulerN x.dims k ∧ eulerN x.dims k ≤ 8 * k
  | 0 => by simp [eulerN, sm]
  | k + 1 => by
    have h1 := eulerN_rng hh k
    have h2 := hh.dims k
    have h3 : eulerN x.dims (k + 1) = eulerN x.dims k + ith x.dims k * (1 - 2 * ((k : Int) % 2)) := rfl
    rw [h3]
    rcases (by omega : (k : Int) % 2 = 0 ∨ (k : Int) % 2 = 1) with e | e <;> rw [e] <;> omega
theorem complexOk_head {x : SComplex} (h : complexOk x = true) : HeadOk x := by
  simp only [complexOk, Bool.and_eq_true] at h
  exact headOk_mk h.1.1


end Go.Gl

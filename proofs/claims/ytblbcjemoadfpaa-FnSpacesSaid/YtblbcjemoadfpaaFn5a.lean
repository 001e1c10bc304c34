/- Chapter 5: IsCouple. No condition. -/
import Derived.Test.YtblbcjemoadfpaaFn1b
set_option linter.unusedVariables false
set_option linter.unusedSimpArgs false
namespace Go.Gl
open Go.Proofs Go.Proofs.Ytblbcjemoadfpaa

def coupleOk (c : SCouple) : Bool := prime c.prime && decide (0 ≤ c.d ∧ c.d ≤ 24) && decide (0 ≤ c.e ∧ c.e ≤ 24) && decide ((c.i.length : Int) = c.d) && decide ((c.j.length : Int) = c.d) && decide ((c.k.length : Int) = c.e) && rowsOk c.prime c.d c.i && rowsOk c.prime c.e c.j && rowsOk c.prime c.d c.k
theorem prime_le {p : Int} (h : prime p = true) : 2 ≤ p ∧ p ≤ 7 := by
  unfold prime at h
  simp at h
  omega


end Go.Gl

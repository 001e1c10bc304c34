/- Rows of bytes are taken into the view. No condition. -/
import Derived.Test.YtoeapenknlfffaaFnV4
import Derived.Test.YtoeapenknlfffaaGlJ
set_option linter.unusedVariables false
set_option linter.unusedSimpArgs false
namespace Go.Gl
open Go Go.ChangeShapes Go.WideShapes
theorem ImpT.byte {H : Type} {enc : TypeId × Value → H} {P : Program} {w : World} {base : Nat} {spare : Nat → Bool} {held : Bool} {t : TypeId} (ht : P.underlying t = some (.int .u8)) : ImpT enc P w base spare held t (One E8) := by
  intro fuel cs x h
  obtain ⟨n, rfl, _, hw⟩ := DataW.trod_int ht h
  have hb : 0 ≤ n ∧ n ≤ 255 := by
    have h1 : (decide ((0 : Int) ≤ n) && decide (n ≤ 255)) = true := hw
    simpa using h1
  exact ⟨n, fun ι h hr hi => ⟨ι, h, [.int .u8 n], Le.refl _, fun _ _ => rfl, hr, hi, ⟨rfl, fun k v hk => ⟨v, hk, by
    cases k with
    | zero => simp at hk; subst hk; exact .int _ _
    | succ k => simp at hk⟩⟩, _, rfl, rfl, hb⟩⟩
end Go.Gl

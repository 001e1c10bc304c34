/- Copies of rows with strong results. No condition. -/
import Derived.Test.YthhilbeddkkigaaDoorFnA1
import Derived.Test.YthhilbeddkkigaaDoorGlU
set_option linter.unusedVariables false
set_option linter.unusedSimpArgs false
namespace Go.Gl
open Go.Proofs Go.Proofs.YthhilbeddkkigaaDoor Go.Pl

theorem SepM.finR {h h0 : AH} {Rs : List Res} (S : Sep h0.length h0 h Rs) (j : Nat) {e : TypeId} {s k : Nat} {v : Value} {cells : List Value} (hj : gt Rs j = some (.rc e s h0.length v k cells)) : FinX h0 (MadeR e s h0 k cells) v h :=
  FinX.here S.le.len (by
    obtain ⟨F, b, h1, h2⟩ := S.get hj
    exact ⟨b, h1.only, h2, S.le⟩)

end Go.Gl

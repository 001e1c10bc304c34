/- Functions of chapter 1: combinations, remainders, first places. No condition. -/
import Derived.Test.YthhilbeddkkigaaDoorGlT
import Derived.Test.YthhilbeddkkigaaDoorFn1b
set_option linter.unusedVariables false
set_option linter.unusedSimpArgs false
namespace Go.Gl
open Go.Proofs Go.Proofs.YthhilbeddkkigaaDoor Go.Pl


end Go.Gl

/-
  No cell of these rows narrows 'for every input' (looked for: loops, veiled, ifaces, maps, wideKeys, modest, calm, conditions, laid).
  DERIVED. THE GIVEN ROWS OF THIS SEAT. 11 by the template 'for every input the law returns true; each argument reads behind the call as it read before'; 0 by the template 'total and deterministic' (their statements: YtghmdhlpoedidaaTotals.lean).
  GIVEN WITH THE SEED: the statements are not yours to turn. If you find one false, say at which input.
  Laid BY PROGRAM, IN A SANDBOX (cutbox-rows.mjs): the forced cells as the released guide's own fill.sh prints them over the translation f93e60db0169b720… (all of the seat's roots in one cut). By AI agents, Wed Nov 11 2026. No macro, syntax, notation, axiom, sorry.
-/
import Derived.Test.YtghmdhlpoedidaaChecked
import GoSem.Claim
import GoSem.ClaimJoined
import GoSem.ClaimMapViews
import Derived.JoinedTies
import Derived.KernelRfl
namespace Go.Proofs.Ytghmdhlpoedidaa
/- THE CELL 'sum', in the pinned program and in every row, IS THE sha256 OF THE DUMP (.gsa) THAT YtghmdhlpoedidaaProg.lean LOADS. Nothing in Lean hashes anything: it is a label: what it is worth is what the hold of that sum in a sandbox is worth. -/
noncomputable def Try.pinned : Pinned := { name := "ytghmdhlpoedidaa", sum := "f93e60db0169b720cb565c7b0a0746e941ddf0ecfdebf242aacad411ad0cdb4b", checked := Try.checked }
namespace Rows
def none {H : Type} : Left H := { results := [], args := [] }

/-- 'laws.FnExactConstants': WHATEVER THE INPUT: true; the input reads as it did. -/
def fnExactConstantsSpec : ChangeSpec := { name := "fnExactConstants", fn := fun _ => fun
  | [] => { results := [.lit (.bool true)], args := [] }
  | _ => none }
def fnExactConstantsRow : OpenClaim := { program := "ytghmdhlpoedidaa", sum := "f93e60db0169b720cb565c7b0a0746e941ddf0ecfdebf242aacad411ad0cdb4b", func := "loop.example/g01273/laws.FnExactConstants", spec := "fnExactConstants", apart := false }
def FnExactConstantsSaid : Prop := fnExactConstantsRow.holds Try.pinned (OpenSpec.ofChange fnExactConstantsSpec)

/-- ITS FALSE NEIGHBOUR: 'it returns false'. Refute it at one input. -/
def fnExactConstantsWrong : ChangeSpec := { name := "fnExactConstants", fn := fun _ => fun
  | [] => { results := [.lit (.bool false)], args := [] }
  | _ => none }
def FnExactConstantsWrongFalsely : Prop := fnExactConstantsRow.holds Try.pinned (OpenSpec.ofChange fnExactConstantsWrong)

/-- 'laws.FnExactLensComplex': WHATEVER THE INPUT: true; the input reads as it did. -/
def fnExactLensComplexSpec : ChangeSpec := { name := "fnExactLensComplex", fn := fun _ => fun
  | [d1, d2] => { results := [.lit (.bool true)], args := [d1, d2] }
  | _ => none }
def fnExactLensComplexRow : OpenClaim := { program := "ytghmdhlpoedidaa", sum := "f93e60db0169b720cb565c7b0a0746e941ddf0ecfdebf242aacad411ad0cdb4b", func := "loop.example/g01273/laws.FnExactLensComplex", spec := "fnExactLensComplex", apart := false }
def FnExactLensComplexSaid : Prop := fnExactLensComplexRow.holds Try.pinned (OpenSpec.ofChange fnExactLensComplexSpec)

/-- ITS FALSE NEIGHBOUR: 'it returns false'. Refute it at one input. -/
def fnExactLensComplexWrong : ChangeSpec := { name := "fnExactLensComplex", fn := fun _ => fun
  | [d1, d2] => { results := [.lit (.bool false)], args := [d1, d2] }
  | _ => none }
def FnExactLensComplexWrongFalsely : Prop := fnExactLensComplexRow.holds Try.pinned (OpenSpec.ofChange fnExactLensComplexWrong)

/-- 'laws.FnExactAreBars': WHATEVER THE INPUT: true; the input reads as it did. -/
def fnExactAreBarsSpec : ChangeSpec := { name := "fnExactAreBars", fn := fun _ => fun
  | [d] => { results := [.lit (.bool true)], args := [d] }
  | _ => none }
def fnExactAreBarsRow : OpenClaim := { program := "ytghmdhlpoedidaa", sum := "f93e60db0169b720cb565c7b0a0746e941ddf0ecfdebf242aacad411ad0cdb4b", func := "loop.example/g01273/laws.FnExactAreBars", spec := "fnExactAreBars", unfollowed := true, recurses := true, apart := false }
def FnExactAreBarsSaid : Prop := fnExactAreBarsRow.holds Try.pinned (OpenSpec.ofChange fnExactAreBarsSpec)

/-- ITS FALSE NEIGHBOUR: 'it returns false'. Refute it at one input. -/
def fnExactAreBarsWrong : ChangeSpec := { name := "fnExactAreBars", fn := fun _ => fun
  | [d] => { results := [.lit (.bool false)], args := [d] }
  | _ => none }
def FnExactAreBarsWrongFalsely : Prop := fnExactAreBarsRow.holds Try.pinned (OpenSpec.ofChange fnExactAreBarsWrong)

/-- 'laws.FnExactNamedDga': WHATEVER THE INPUT: true; the input reads as it did. -/
def fnExactNamedDgaSpec : ChangeSpec := { name := "fnExactNamedDga", fn := fun _ => fun
  | [d1, d2] => { results := [.lit (.bool true)], args := [d1, d2] }
  | _ => none }
def fnExactNamedDgaRow : OpenClaim := { program := "ytghmdhlpoedidaa", sum := "f93e60db0169b720cb565c7b0a0746e941ddf0ecfdebf242aacad411ad0cdb4b", func := "loop.example/g01273/laws.FnExactNamedDga", spec := "fnExactNamedDga", apart := false }
def FnExactNamedDgaSaid : Prop := fnExactNamedDgaRow.holds Try.pinned (OpenSpec.ofChange fnExactNamedDgaSpec)

/-- ITS FALSE NEIGHBOUR: 'it returns false'. Refute it at one input. -/
def fnExactNamedDgaWrong : ChangeSpec := { name := "fnExactNamedDga", fn := fun _ => fun
  | [d1, d2] => { results := [.lit (.bool false)], args := [d1, d2] }
  | _ => none }
def FnExactNamedDgaWrongFalsely : Prop := fnExactNamedDgaRow.holds Try.pinned (OpenSpec.ofChange fnExactNamedDgaWrong)

/-- 'laws.FnExactIsCouple': WHATEVER THE INPUT: true; the input reads as it did. -/
def fnExactIsCoupleSpec : ChangeSpec := { name := "fnExactIsCouple", fn := fun _ => fun
  | [d] => { results := [.lit (.bool true)], args := [d] }
  | _ => none }
def fnExactIsCoupleRow : OpenClaim := { program := "ytghmdhlpoedidaa", sum := "f93e60db0169b720cb565c7b0a0746e941ddf0ecfdebf242aacad411ad0cdb4b", func := "loop.example/g01273/laws.FnExactIsCouple", spec := "fnExactIsCouple", unfollowed := true, recurses := true, apart := false }
def FnExactIsCoupleSaid : Prop := fnExactIsCoupleRow.holds Try.pinned (OpenSpec.ofChange fnExactIsCoupleSpec)

/-- ITS FALSE NEIGHBOUR: 'it returns false'. Refute it at one input. -/
def fnExactIsCoupleWrong : ChangeSpec := { name := "fnExactIsCouple", fn := fun _ => fun
  | [d] => { results := [.lit (.bool false)], args := [d] }
  | _ => none }
def FnExactIsCoupleWrongFalsely : Prop := fnExactIsCoupleRow.holds Try.pinned (OpenSpec.ofChange fnExactIsCoupleWrong)

/-- 'laws.FnExactRowHomology': WHATEVER THE INPUT: true; the input reads as it did. -/
def fnExactRowHomologySpec : ChangeSpec := { name := "fnExactRowHomology", fn := fun _ => fun
  | [d] => { results := [.lit (.bool true)], args := [d] }
  | _ => none }
def fnExactRowHomologyRow : OpenClaim := { program := "ytghmdhlpoedidaa", sum := "f93e60db0169b720cb565c7b0a0746e941ddf0ecfdebf242aacad411ad0cdb4b", func := "loop.example/g01273/laws.FnExactRowHomology", spec := "fnExactRowHomology", unfollowed := true, recurses := true, apart := false }
def FnExactRowHomologySaid : Prop := fnExactRowHomologyRow.holds Try.pinned (OpenSpec.ofChange fnExactRowHomologySpec)

/-- ITS FALSE NEIGHBOUR: 'it returns false'. Refute it at one input. -/
def fnExactRowHomologyWrong : ChangeSpec := { name := "fnExactRowHomology", fn := fun _ => fun
  | [d] => { results := [.lit (.bool false)], args := [d] }
  | _ => none }
def FnExactRowHomologyWrongFalsely : Prop := fnExactRowHomologyRow.holds Try.pinned (OpenSpec.ofChange fnExactRowHomologyWrong)

/-- 'laws.FnExactUnitComplex': WHATEVER THE INPUT: true; the input reads as it did. -/
def fnExactUnitComplexSpec : ChangeSpec := { name := "fnExactUnitComplex", fn := fun _ => fun
  | [d] => { results := [.lit (.bool true)], args := [d] }
  | _ => none }
def fnExactUnitComplexRow : OpenClaim := { program := "ytghmdhlpoedidaa", sum := "f93e60db0169b720cb565c7b0a0746e941ddf0ecfdebf242aacad411ad0cdb4b", func := "loop.example/g01273/laws.FnExactUnitComplex", spec := "fnExactUnitComplex", apart := false }
def FnExactUnitComplexSaid : Prop := fnExactUnitComplexRow.holds Try.pinned (OpenSpec.ofChange fnExactUnitComplexSpec)

/-- ITS FALSE NEIGHBOUR: 'it returns false'. Refute it at one input. -/
def fnExactUnitComplexWrong : ChangeSpec := { name := "fnExactUnitComplex", fn := fun _ => fun
  | [d] => { results := [.lit (.bool false)], args := [d] }
  | _ => none }
def FnExactUnitComplexWrongFalsely : Prop := fnExactUnitComplexRow.holds Try.pinned (OpenSpec.ofChange fnExactUnitComplexWrong)

/-- 'laws.FnExactSphereComplex': WHATEVER THE INPUT: true; the input reads as it did. -/
def fnExactSphereComplexSpec : ChangeSpec := { name := "fnExactSphereComplex", fn := fun _ => fun
  | [d1, d2] => { results := [.lit (.bool true)], args := [d1, d2] }
  | _ => none }
def fnExactSphereComplexRow : OpenClaim := { program := "ytghmdhlpoedidaa", sum := "f93e60db0169b720cb565c7b0a0746e941ddf0ecfdebf242aacad411ad0cdb4b", func := "loop.example/g01273/laws.FnExactSphereComplex", spec := "fnExactSphereComplex", apart := false }
def FnExactSphereComplexSaid : Prop := fnExactSphereComplexRow.holds Try.pinned (OpenSpec.ofChange fnExactSphereComplexSpec)

/-- ITS FALSE NEIGHBOUR: 'it returns false'. Refute it at one input. -/
def fnExactSphereComplexWrong : ChangeSpec := { name := "fnExactSphereComplex", fn := fun _ => fun
  | [d1, d2] => { results := [.lit (.bool false)], args := [d1, d2] }
  | _ => none }
def FnExactSphereComplexWrongFalsely : Prop := fnExactSphereComplexRow.holds Try.pinned (OpenSpec.ofChange fnExactSphereComplexWrong)

/-- 'laws.FnExactTotalLength': WHATEVER THE INPUT: true; the input reads as it did. -/
def fnExactTotalLengthSpec : ChangeSpec := { name := "fnExactTotalLength", fn := fun _ => fun
  | [d] => { results := [.lit (.bool true)], args := [d] }
  | _ => none }
def fnExactTotalLengthRow : OpenClaim := { program := "ytghmdhlpoedidaa", sum := "f93e60db0169b720cb565c7b0a0746e941ddf0ecfdebf242aacad411ad0cdb4b", func := "loop.example/g01273/laws.FnExactTotalLength", spec := "fnExactTotalLength", unfollowed := true, recurses := true, apart := false }
def FnExactTotalLengthSaid : Prop := fnExactTotalLengthRow.holds Try.pinned (OpenSpec.ofChange fnExactTotalLengthSpec)

/-- ITS FALSE NEIGHBOUR: 'it returns false'. Refute it at one input. -/
def fnExactTotalLengthWrong : ChangeSpec := { name := "fnExactTotalLength", fn := fun _ => fun
  | [d] => { results := [.lit (.bool false)], args := [d] }
  | _ => none }
def FnExactTotalLengthWrongFalsely : Prop := fnExactTotalLengthRow.holds Try.pinned (OpenSpec.ofChange fnExactTotalLengthWrong)

/-- 'laws.FnExactCountLasting': WHATEVER THE INPUT: true; the input reads as it did. -/
def fnExactCountLastingSpec : ChangeSpec := { name := "fnExactCountLasting", fn := fun _ => fun
  | [d1, d2] => { results := [.lit (.bool true)], args := [d1, d2] }
  | _ => none }
def fnExactCountLastingRow : OpenClaim := { program := "ytghmdhlpoedidaa", sum := "f93e60db0169b720cb565c7b0a0746e941ddf0ecfdebf242aacad411ad0cdb4b", func := "loop.example/g01273/laws.FnExactCountLasting", spec := "fnExactCountLasting", unfollowed := true, recurses := true, apart := false }
def FnExactCountLastingSaid : Prop := fnExactCountLastingRow.holds Try.pinned (OpenSpec.ofChange fnExactCountLastingSpec)

/-- ITS FALSE NEIGHBOUR: 'it returns false'. Refute it at one input. -/
def fnExactCountLastingWrong : ChangeSpec := { name := "fnExactCountLasting", fn := fun _ => fun
  | [d1, d2] => { results := [.lit (.bool false)], args := [d1, d2] }
  | _ => none }
def FnExactCountLastingWrongFalsely : Prop := fnExactCountLastingRow.holds Try.pinned (OpenSpec.ofChange fnExactCountLastingWrong)

/-- 'laws.FnExactLongestBar': WHATEVER THE INPUT: true; the input reads as it did. -/
def fnExactLongestBarSpec : ChangeSpec := { name := "fnExactLongestBar", fn := fun _ => fun
  | [d] => { results := [.lit (.bool true)], args := [d] }
  | _ => none }
def fnExactLongestBarRow : OpenClaim := { program := "ytghmdhlpoedidaa", sum := "f93e60db0169b720cb565c7b0a0746e941ddf0ecfdebf242aacad411ad0cdb4b", func := "loop.example/g01273/laws.FnExactLongestBar", spec := "fnExactLongestBar", unfollowed := true, recurses := true, apart := false }
def FnExactLongestBarSaid : Prop := fnExactLongestBarRow.holds Try.pinned (OpenSpec.ofChange fnExactLongestBarSpec)

/-- ITS FALSE NEIGHBOUR: 'it returns false'. Refute it at one input. -/
def fnExactLongestBarWrong : ChangeSpec := { name := "fnExactLongestBar", fn := fun _ => fun
  | [d] => { results := [.lit (.bool false)], args := [d] }
  | _ => none }
def FnExactLongestBarWrongFalsely : Prop := fnExactLongestBarRow.holds Try.pinned (OpenSpec.ofChange fnExactLongestBarWrong)

/- THE SECOND FORM. 'bulk': how many values and letters a reading holds, each counted each time it is reached (what is shared counts as often as it is met; a slice's spare places count too). A statement '..UptoSaid' is the law's where the arguments, and the package variables that the reading takes, are together of bulk at most 1048576: NARROWER than '..Said'. Prove '..Said' where nothing that the law and all that it calls make is longer than what came in: it says more and counts as full. Else prove '..UptoSaid'. A law counts once. -/
mutual
def uptoBulk {H : Type} : DataW H → Nat
  | .lit (.string bytes) => bytes.length + 1
  | .lit _ => 1
  | .nil => 1
  | .ptr d => uptoBulk d + 1
  | .slice elems spare => uptoBulkAll elems + uptoBulkAll spare + 1
  | .agg parts => uptoBulkAll parts + 1
  | .iface _ d => uptoBulk d + 1
  | .map entries => uptoBulkEntries entries + 1
  | .held _ => 1
def uptoBulkAll {H : Type} : List (DataW H) → Nat
  | [] => 0
  | d :: r => uptoBulk d + uptoBulkAll r
def uptoBulkEntries {H : Type} : List (Lit × DataW H) → Nat
  | [] => 0
  | x :: r => uptoBulkEntry x + uptoBulkEntries r
def uptoBulkEntry {H : Type} : Lit × DataW H → Nat
  | (.string bytes, d) => bytes.length + uptoBulk d + 1
  | (_, d) => uptoBulk d + 1
 end
def uptoSmall : (H : Type) → List (DataW H) → Bool := fun _ ds => decide (uptoBulkAll ds ≤ 1048576)
def OpenSpec.upto (s : _root_.Go.ChangeSpec) : _root_.Go.OpenSpec := { _root_.Go.OpenSpec.ofChange s with cond := some uptoSmall }

/-- 'laws.FnExactConstants', WHERE WHAT IT READS IS OF BULK AT MOST 1048576: true; the input reads as it did. -/
def fnExactConstantsUptoRow : OpenClaim := { program := "ytghmdhlpoedidaa", sum := "f93e60db0169b720cb565c7b0a0746e941ddf0ecfdebf242aacad411ad0cdb4b", func := "loop.example/g01273/laws.FnExactConstants", spec := "fnExactConstants", apart := false, narrowed := true }
def FnExactConstantsUptoSaid : Prop := fnExactConstantsUptoRow.holds Try.pinned (OpenSpec.upto fnExactConstantsSpec)

/-- 'laws.FnExactLensComplex', WHERE WHAT IT READS IS OF BULK AT MOST 1048576: true; the input reads as it did. -/
def fnExactLensComplexUptoRow : OpenClaim := { program := "ytghmdhlpoedidaa", sum := "f93e60db0169b720cb565c7b0a0746e941ddf0ecfdebf242aacad411ad0cdb4b", func := "loop.example/g01273/laws.FnExactLensComplex", spec := "fnExactLensComplex", apart := false, narrowed := true }
def FnExactLensComplexUptoSaid : Prop := fnExactLensComplexUptoRow.holds Try.pinned (OpenSpec.upto fnExactLensComplexSpec)

/-- 'laws.FnExactAreBars', WHERE WHAT IT READS IS OF BULK AT MOST 1048576: true; the input reads as it did. -/
def fnExactAreBarsUptoRow : OpenClaim := { program := "ytghmdhlpoedidaa", sum := "f93e60db0169b720cb565c7b0a0746e941ddf0ecfdebf242aacad411ad0cdb4b", func := "loop.example/g01273/laws.FnExactAreBars", spec := "fnExactAreBars", unfollowed := true, recurses := true, apart := false, narrowed := true }
def FnExactAreBarsUptoSaid : Prop := fnExactAreBarsUptoRow.holds Try.pinned (OpenSpec.upto fnExactAreBarsSpec)

/-- 'laws.FnExactNamedDga', WHERE WHAT IT READS IS OF BULK AT MOST 1048576: true; the input reads as it did. -/
def fnExactNamedDgaUptoRow : OpenClaim := { program := "ytghmdhlpoedidaa", sum := "f93e60db0169b720cb565c7b0a0746e941ddf0ecfdebf242aacad411ad0cdb4b", func := "loop.example/g01273/laws.FnExactNamedDga", spec := "fnExactNamedDga", apart := false, narrowed := true }
def FnExactNamedDgaUptoSaid : Prop := fnExactNamedDgaUptoRow.holds Try.pinned (OpenSpec.upto fnExactNamedDgaSpec)

/-- 'laws.FnExactIsCouple', WHERE WHAT IT READS IS OF BULK AT MOST 1048576: true; the input reads as it did. -/
def fnExactIsCoupleUptoRow : OpenClaim := { program := "ytghmdhlpoedidaa", sum := "f93e60db0169b720cb565c7b0a0746e941ddf0ecfdebf242aacad411ad0cdb4b", func := "loop.example/g01273/laws.FnExactIsCouple", spec := "fnExactIsCouple", unfollowed := true, recurses := true, apart := false, narrowed := true }
def FnExactIsCoupleUptoSaid : Prop := fnExactIsCoupleUptoRow.holds Try.pinned (OpenSpec.upto fnExactIsCoupleSpec)

/-- 'laws.FnExactRowHomology', WHERE WHAT IT READS IS OF BULK AT MOST 1048576: true; the input reads as it did. -/
def fnExactRowHomologyUptoRow : OpenClaim := { program := "ytghmdhlpoedidaa", sum := "f93e60db0169b720cb565c7b0a0746e941ddf0ecfdebf242aacad411ad0cdb4b", func := "loop.example/g01273/laws.FnExactRowHomology", spec := "fnExactRowHomology", unfollowed := true, recurses := true, apart := false, narrowed := true }
def FnExactRowHomologyUptoSaid : Prop := fnExactRowHomologyUptoRow.holds Try.pinned (OpenSpec.upto fnExactRowHomologySpec)

/-- 'laws.FnExactUnitComplex', WHERE WHAT IT READS IS OF BULK AT MOST 1048576: true; the input reads as it did. -/
def fnExactUnitComplexUptoRow : OpenClaim := { program := "ytghmdhlpoedidaa", sum := "f93e60db0169b720cb565c7b0a0746e941ddf0ecfdebf242aacad411ad0cdb4b", func := "loop.example/g01273/laws.FnExactUnitComplex", spec := "fnExactUnitComplex", apart := false, narrowed := true }
def FnExactUnitComplexUptoSaid : Prop := fnExactUnitComplexUptoRow.holds Try.pinned (OpenSpec.upto fnExactUnitComplexSpec)

/-- 'laws.FnExactSphereComplex', WHERE WHAT IT READS IS OF BULK AT MOST 1048576: true; the input reads as it did. -/
def fnExactSphereComplexUptoRow : OpenClaim := { program := "ytghmdhlpoedidaa", sum := "f93e60db0169b720cb565c7b0a0746e941ddf0ecfdebf242aacad411ad0cdb4b", func := "loop.example/g01273/laws.FnExactSphereComplex", spec := "fnExactSphereComplex", apart := false, narrowed := true }
def FnExactSphereComplexUptoSaid : Prop := fnExactSphereComplexUptoRow.holds Try.pinned (OpenSpec.upto fnExactSphereComplexSpec)

/-- 'laws.FnExactTotalLength', WHERE WHAT IT READS IS OF BULK AT MOST 1048576: true; the input reads as it did. -/
def fnExactTotalLengthUptoRow : OpenClaim := { program := "ytghmdhlpoedidaa", sum := "f93e60db0169b720cb565c7b0a0746e941ddf0ecfdebf242aacad411ad0cdb4b", func := "loop.example/g01273/laws.FnExactTotalLength", spec := "fnExactTotalLength", unfollowed := true, recurses := true, apart := false, narrowed := true }
def FnExactTotalLengthUptoSaid : Prop := fnExactTotalLengthUptoRow.holds Try.pinned (OpenSpec.upto fnExactTotalLengthSpec)

/-- 'laws.FnExactCountLasting', WHERE WHAT IT READS IS OF BULK AT MOST 1048576: true; the input reads as it did. -/
def fnExactCountLastingUptoRow : OpenClaim := { program := "ytghmdhlpoedidaa", sum := "f93e60db0169b720cb565c7b0a0746e941ddf0ecfdebf242aacad411ad0cdb4b", func := "loop.example/g01273/laws.FnExactCountLasting", spec := "fnExactCountLasting", unfollowed := true, recurses := true, apart := false, narrowed := true }
def FnExactCountLastingUptoSaid : Prop := fnExactCountLastingUptoRow.holds Try.pinned (OpenSpec.upto fnExactCountLastingSpec)

/-- 'laws.FnExactLongestBar', WHERE WHAT IT READS IS OF BULK AT MOST 1048576: true; the input reads as it did. -/
def fnExactLongestBarUptoRow : OpenClaim := { program := "ytghmdhlpoedidaa", sum := "f93e60db0169b720cb565c7b0a0746e941ddf0ecfdebf242aacad411ad0cdb4b", func := "loop.example/g01273/laws.FnExactLongestBar", spec := "fnExactLongestBar", unfollowed := true, recurses := true, apart := false, narrowed := true }
def FnExactLongestBarUptoSaid : Prop := fnExactLongestBarUptoRow.holds Try.pinned (OpenSpec.upto fnExactLongestBarSpec)

end Rows
end Go.Proofs.Ytghmdhlpoedidaa

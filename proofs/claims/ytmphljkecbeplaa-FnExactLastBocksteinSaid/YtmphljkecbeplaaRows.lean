/-
  No cell of these rows narrows 'for every input' (looked for: loops, veiled, ifaces, maps, wideKeys, modest, calm, conditions, laid).
  DERIVED. THE GIVEN ROWS OF THIS SEAT. 11 by the template 'for every input the law returns true; each argument reads behind the call as it read before'; 0 by the template 'total and deterministic' (their statements: YtmphljkecbeplaaTotals.lean).
  GIVEN WITH THE SEED: the statements are not yours to turn. If you find one false, say at which input.
  Laid BY PROGRAM, IN A SANDBOX (cutbox-rows.mjs): the forced cells as the released guide's own fill.sh prints them over the translation f36cc1273d6bd00d… (all of the seat's roots in one cut). By AI agents, Wed Nov 11 2026. No macro, syntax, notation, axiom, sorry.
-/
import Derived.Test.YtmphljkecbeplaaChecked
import GoSem.Claim
import GoSem.ClaimJoined
import GoSem.ClaimMapViews
import Derived.JoinedTies
import Derived.KernelRfl
namespace Go.Proofs.Ytmphljkecbeplaa
/- THE CELL 'sum', in the pinned program and in every row, IS THE sha256 OF THE DUMP (.gsa) THAT YtmphljkecbeplaaProg.lean LOADS. Nothing in Lean hashes anything: it is a label: what it is worth is what the hold of that sum in a sandbox is worth. -/
noncomputable def Try.pinned : Pinned := { name := "ytmphljkecbeplaa", sum := "f36cc1273d6bd00daf035f1cf8fb52829491d2fc8d94bfc45edf071f485cf28d", checked := Try.checked }
namespace Rows
def none {H : Type} : Left H := { results := [], args := [] }

/-- 'laws.FnExactNamedDga': WHATEVER THE INPUT: true; the input reads as it did. -/
def fnExactNamedDgaSpec : ChangeSpec := { name := "fnExactNamedDga", fn := fun _ => fun
  | [d1, d2] => { results := [.lit (.bool true)], args := [d1, d2] }
  | _ => none }
def fnExactNamedDgaRow : OpenClaim := { program := "ytmphljkecbeplaa", sum := "f36cc1273d6bd00daf035f1cf8fb52829491d2fc8d94bfc45edf071f485cf28d", func := "loop.example/g01273/laws.FnExactNamedDga", spec := "fnExactNamedDga", apart := false }
def FnExactNamedDgaSaid : Prop := fnExactNamedDgaRow.holds Try.pinned (OpenSpec.ofChange fnExactNamedDgaSpec)

/-- ITS FALSE NEIGHBOUR: 'it returns false'. Refute it at one input. -/
def fnExactNamedDgaWrong : ChangeSpec := { name := "fnExactNamedDga", fn := fun _ => fun
  | [d1, d2] => { results := [.lit (.bool false)], args := [d1, d2] }
  | _ => none }
def FnExactNamedDgaWrongFalsely : Prop := fnExactNamedDgaRow.holds Try.pinned (OpenSpec.ofChange fnExactNamedDgaWrong)

/-- 'laws.FnExactRowHomology': WHATEVER THE INPUT: true; the input reads as it did. -/
def fnExactRowHomologySpec : ChangeSpec := { name := "fnExactRowHomology", fn := fun _ => fun
  | [d] => { results := [.lit (.bool true)], args := [d] }
  | _ => none }
def fnExactRowHomologyRow : OpenClaim := { program := "ytmphljkecbeplaa", sum := "f36cc1273d6bd00daf035f1cf8fb52829491d2fc8d94bfc45edf071f485cf28d", func := "loop.example/g01273/laws.FnExactRowHomology", spec := "fnExactRowHomology", unfollowed := true, recurses := true, apart := false }
def FnExactRowHomologySaid : Prop := fnExactRowHomologyRow.holds Try.pinned (OpenSpec.ofChange fnExactRowHomologySpec)

/-- ITS FALSE NEIGHBOUR: 'it returns false'. Refute it at one input. -/
def fnExactRowHomologyWrong : ChangeSpec := { name := "fnExactRowHomology", fn := fun _ => fun
  | [d] => { results := [.lit (.bool false)], args := [d] }
  | _ => none }
def FnExactRowHomologyWrongFalsely : Prop := fnExactRowHomologyRow.holds Try.pinned (OpenSpec.ofChange fnExactRowHomologyWrong)

/-- 'laws.FnExactSmithNumbers': WHATEVER THE INPUT: true; the input reads as it did. -/
def fnExactSmithNumbersSpec : ChangeSpec := { name := "fnExactSmithNumbers", fn := fun _ => fun
  | [d] => { results := [.lit (.bool true)], args := [d] }
  | _ => none }
def fnExactSmithNumbersRow : OpenClaim := { program := "ytmphljkecbeplaa", sum := "f36cc1273d6bd00daf035f1cf8fb52829491d2fc8d94bfc45edf071f485cf28d", func := "loop.example/g01273/laws.FnExactSmithNumbers", spec := "fnExactSmithNumbers", unfollowed := true, recurses := true, apart := false }
def FnExactSmithNumbersSaid : Prop := fnExactSmithNumbersRow.holds Try.pinned (OpenSpec.ofChange fnExactSmithNumbersSpec)

/-- ITS FALSE NEIGHBOUR: 'it returns false'. Refute it at one input. -/
def fnExactSmithNumbersWrong : ChangeSpec := { name := "fnExactSmithNumbers", fn := fun _ => fun
  | [d] => { results := [.lit (.bool false)], args := [d] }
  | _ => none }
def FnExactSmithNumbersWrongFalsely : Prop := fnExactSmithNumbersRow.holds Try.pinned (OpenSpec.ofChange fnExactSmithNumbersWrong)

/-- 'laws.FnExactTorsionExponents': WHATEVER THE INPUT: true; the input reads as it did. -/
def fnExactTorsionExponentsSpec : ChangeSpec := { name := "fnExactTorsionExponents", fn := fun _ => fun
  | [d] => { results := [.lit (.bool true)], args := [d] }
  | _ => none }
def fnExactTorsionExponentsRow : OpenClaim := { program := "ytmphljkecbeplaa", sum := "f36cc1273d6bd00daf035f1cf8fb52829491d2fc8d94bfc45edf071f485cf28d", func := "loop.example/g01273/laws.FnExactTorsionExponents", spec := "fnExactTorsionExponents", unfollowed := true, recurses := true, apart := false }
def FnExactTorsionExponentsSaid : Prop := fnExactTorsionExponentsRow.holds Try.pinned (OpenSpec.ofChange fnExactTorsionExponentsSpec)

/-- ITS FALSE NEIGHBOUR: 'it returns false'. Refute it at one input. -/
def fnExactTorsionExponentsWrong : ChangeSpec := { name := "fnExactTorsionExponents", fn := fun _ => fun
  | [d] => { results := [.lit (.bool false)], args := [d] }
  | _ => none }
def FnExactTorsionExponentsWrongFalsely : Prop := fnExactTorsionExponentsRow.holds Try.pinned (OpenSpec.ofChange fnExactTorsionExponentsWrong)

/-- 'laws.FnExactTorsionOrders': WHATEVER THE INPUT: true; the input reads as it did. -/
def fnExactTorsionOrdersSpec : ChangeSpec := { name := "fnExactTorsionOrders", fn := fun _ => fun
  | [d] => { results := [.lit (.bool true)], args := [d] }
  | _ => none }
def fnExactTorsionOrdersRow : OpenClaim := { program := "ytmphljkecbeplaa", sum := "f36cc1273d6bd00daf035f1cf8fb52829491d2fc8d94bfc45edf071f485cf28d", func := "loop.example/g01273/laws.FnExactTorsionOrders", spec := "fnExactTorsionOrders", unfollowed := true, recurses := true, apart := false }
def FnExactTorsionOrdersSaid : Prop := fnExactTorsionOrdersRow.holds Try.pinned (OpenSpec.ofChange fnExactTorsionOrdersSpec)

/-- ITS FALSE NEIGHBOUR: 'it returns false'. Refute it at one input. -/
def fnExactTorsionOrdersWrong : ChangeSpec := { name := "fnExactTorsionOrders", fn := fun _ => fun
  | [d] => { results := [.lit (.bool false)], args := [d] }
  | _ => none }
def FnExactTorsionOrdersWrongFalsely : Prop := fnExactTorsionOrdersRow.holds Try.pinned (OpenSpec.ofChange fnExactTorsionOrdersWrong)

/-- 'laws.FnExactWholeHomology': WHATEVER THE INPUT: true; the input reads as it did. -/
def fnExactWholeHomologySpec : ChangeSpec := { name := "fnExactWholeHomology", fn := fun _ => fun
  | [d] => { results := [.lit (.bool true)], args := [d] }
  | _ => none }
def fnExactWholeHomologyRow : OpenClaim := { program := "ytmphljkecbeplaa", sum := "f36cc1273d6bd00daf035f1cf8fb52829491d2fc8d94bfc45edf071f485cf28d", func := "loop.example/g01273/laws.FnExactWholeHomology", spec := "fnExactWholeHomology", unfollowed := true, recurses := true, apart := false }
def FnExactWholeHomologySaid : Prop := fnExactWholeHomologyRow.holds Try.pinned (OpenSpec.ofChange fnExactWholeHomologySpec)

/-- ITS FALSE NEIGHBOUR: 'it returns false'. Refute it at one input. -/
def fnExactWholeHomologyWrong : ChangeSpec := { name := "fnExactWholeHomology", fn := fun _ => fun
  | [d] => { results := [.lit (.bool false)], args := [d] }
  | _ => none }
def FnExactWholeHomologyWrongFalsely : Prop := fnExactWholeHomologyRow.holds Try.pinned (OpenSpec.ofChange fnExactWholeHomologyWrong)

/-- 'laws.FnExactLastBockstein': WHATEVER THE INPUT: true; the input reads as it did. -/
def fnExactLastBocksteinSpec : ChangeSpec := { name := "fnExactLastBockstein", fn := fun _ => fun
  | [d1, d2] => { results := [.lit (.bool true)], args := [d1, d2] }
  | _ => none }
def fnExactLastBocksteinRow : OpenClaim := { program := "ytmphljkecbeplaa", sum := "f36cc1273d6bd00daf035f1cf8fb52829491d2fc8d94bfc45edf071f485cf28d", func := "loop.example/g01273/laws.FnExactLastBockstein", spec := "fnExactLastBockstein", unfollowed := true, recurses := true, apart := false }
def FnExactLastBocksteinSaid : Prop := fnExactLastBocksteinRow.holds Try.pinned (OpenSpec.ofChange fnExactLastBocksteinSpec)

/-- ITS FALSE NEIGHBOUR: 'it returns false'. Refute it at one input. -/
def fnExactLastBocksteinWrong : ChangeSpec := { name := "fnExactLastBockstein", fn := fun _ => fun
  | [d1, d2] => { results := [.lit (.bool false)], args := [d1, d2] }
  | _ => none }
def FnExactLastBocksteinWrongFalsely : Prop := fnExactLastBocksteinRow.holds Try.pinned (OpenSpec.ofChange fnExactLastBocksteinWrong)

/-- 'laws.FnExactBocksteinNumbers': WHATEVER THE INPUT: true; the input reads as it did. -/
def fnExactBocksteinNumbersSpec : ChangeSpec := { name := "fnExactBocksteinNumbers", fn := fun _ => fun
  | [d1, d2, d3] => { results := [.lit (.bool true)], args := [d1, d2, d3] }
  | _ => none }
def fnExactBocksteinNumbersRow : OpenClaim := { program := "ytmphljkecbeplaa", sum := "f36cc1273d6bd00daf035f1cf8fb52829491d2fc8d94bfc45edf071f485cf28d", func := "loop.example/g01273/laws.FnExactBocksteinNumbers", spec := "fnExactBocksteinNumbers", unfollowed := true, recurses := true, apart := false }
def FnExactBocksteinNumbersSaid : Prop := fnExactBocksteinNumbersRow.holds Try.pinned (OpenSpec.ofChange fnExactBocksteinNumbersSpec)

/-- ITS FALSE NEIGHBOUR: 'it returns false'. Refute it at one input. -/
def fnExactBocksteinNumbersWrong : ChangeSpec := { name := "fnExactBocksteinNumbers", fn := fun _ => fun
  | [d1, d2, d3] => { results := [.lit (.bool false)], args := [d1, d2, d3] }
  | _ => none }
def FnExactBocksteinNumbersWrongFalsely : Prop := fnExactBocksteinNumbersRow.holds Try.pinned (OpenSpec.ofChange fnExactBocksteinNumbersWrong)

/-- 'laws.FnExactTransposeDouble': WHATEVER THE INPUT: true; the input reads as it did. -/
def fnExactTransposeDoubleSpec : ChangeSpec := { name := "fnExactTransposeDouble", fn := fun _ => fun
  | [d] => { results := [.lit (.bool true)], args := [d] }
  | _ => none }
def fnExactTransposeDoubleRow : OpenClaim := { program := "ytmphljkecbeplaa", sum := "f36cc1273d6bd00daf035f1cf8fb52829491d2fc8d94bfc45edf071f485cf28d", func := "loop.example/g01273/laws.FnExactTransposeDouble", spec := "fnExactTransposeDouble", unfollowed := true, recurses := true, apart := false }
def FnExactTransposeDoubleSaid : Prop := fnExactTransposeDoubleRow.holds Try.pinned (OpenSpec.ofChange fnExactTransposeDoubleSpec)

/-- ITS FALSE NEIGHBOUR: 'it returns false'. Refute it at one input. -/
def fnExactTransposeDoubleWrong : ChangeSpec := { name := "fnExactTransposeDouble", fn := fun _ => fun
  | [d] => { results := [.lit (.bool false)], args := [d] }
  | _ => none }
def FnExactTransposeDoubleWrongFalsely : Prop := fnExactTransposeDoubleRow.holds Try.pinned (OpenSpec.ofChange fnExactTransposeDoubleWrong)

/-- 'laws.FnExactColumnHomology': WHATEVER THE INPUT: true; the input reads as it did. -/
def fnExactColumnHomologySpec : ChangeSpec := { name := "fnExactColumnHomology", fn := fun _ => fun
  | [d] => { results := [.lit (.bool true)], args := [d] }
  | _ => none }
def fnExactColumnHomologyRow : OpenClaim := { program := "ytmphljkecbeplaa", sum := "f36cc1273d6bd00daf035f1cf8fb52829491d2fc8d94bfc45edf071f485cf28d", func := "loop.example/g01273/laws.FnExactColumnHomology", spec := "fnExactColumnHomology", unfollowed := true, recurses := true, apart := false }
def FnExactColumnHomologySaid : Prop := fnExactColumnHomologyRow.holds Try.pinned (OpenSpec.ofChange fnExactColumnHomologySpec)

/-- ITS FALSE NEIGHBOUR: 'it returns false'. Refute it at one input. -/
def fnExactColumnHomologyWrong : ChangeSpec := { name := "fnExactColumnHomology", fn := fun _ => fun
  | [d] => { results := [.lit (.bool false)], args := [d] }
  | _ => none }
def FnExactColumnHomologyWrongFalsely : Prop := fnExactColumnHomologyRow.holds Try.pinned (OpenSpec.ofChange fnExactColumnHomologyWrong)

/-- 'laws.FnSpaces': WHATEVER THE INPUT: true; the input reads as it did. -/
def fnSpacesSpec : ChangeSpec := { name := "fnSpaces", fn := fun _ => fun
  | [d] => { results := [.lit (.bool true)], args := [d] }
  | _ => none }
def fnSpacesRow : OpenClaim := { program := "ytmphljkecbeplaa", sum := "f36cc1273d6bd00daf035f1cf8fb52829491d2fc8d94bfc45edf071f485cf28d", func := "loop.example/g01273/laws.FnSpaces", spec := "fnSpaces", unfollowed := true, recurses := true, apart := false }
def FnSpacesSaid : Prop := fnSpacesRow.holds Try.pinned (OpenSpec.ofChange fnSpacesSpec)

/-- ITS FALSE NEIGHBOUR: 'it returns false'. Refute it at one input. -/
def fnSpacesWrong : ChangeSpec := { name := "fnSpaces", fn := fun _ => fun
  | [d] => { results := [.lit (.bool false)], args := [d] }
  | _ => none }
def FnSpacesWrongFalsely : Prop := fnSpacesRow.holds Try.pinned (OpenSpec.ofChange fnSpacesWrong)

/- THE SECOND FORM. 'bulk': how many values and letters a reading holds, each counted each time it is reached (what is shared counts as often as it is met; a slice's spare places count too). A statement '..UptoSaid' is the law's where the arguments, and the package variables that the reading takes, are together of bulk at most 1048576: NARROWER than '..Said'. Prove '..Said' where nothing that the law and all that it calls make is longer than what came in: it says more and counts as full. Else prove '..UptoSaid'. A law counts once. -/
mutual
def uptoBulk {H : Type} : DataW H → Nat
  | .lit (.string bytes) => bytes.length + 1
  | .lit _ => 1
  | .nil => 1
  | .ptr d => uptoBulk d + 1
  | .slice elems spare => uptoBulkAll elems + uptoBulkAll spare + 1
  | .agg parts => uptoBulkAll parts + 1
  | .iface _ d => uptoBulk d + 1
  | .map entries => uptoBulkEntries entries + 1
  | .held _ => 1
def uptoBulkAll {H : Type} : List (DataW H) → Nat
  | [] => 0
  | d :: r => uptoBulk d + uptoBulkAll r
def uptoBulkEntries {H : Type} : List (Lit × DataW H) → Nat
  | [] => 0
  | x :: r => uptoBulkEntry x + uptoBulkEntries r
def uptoBulkEntry {H : Type} : Lit × DataW H → Nat
  | (.string bytes, d) => bytes.length + uptoBulk d + 1
  | (_, d) => uptoBulk d + 1
 end
def uptoSmall : (H : Type) → List (DataW H) → Bool := fun _ ds => decide (uptoBulkAll ds ≤ 1048576)
def OpenSpec.upto (s : _root_.Go.ChangeSpec) : _root_.Go.OpenSpec := { _root_.Go.OpenSpec.ofChange s with cond := some uptoSmall }

/-- 'laws.FnExactNamedDga', WHERE WHAT IT READS IS OF BULK AT MOST 1048576: true; the input reads as it did. -/
def fnExactNamedDgaUptoRow : OpenClaim := { program := "ytmphljkecbeplaa", sum := "f36cc1273d6bd00daf035f1cf8fb52829491d2fc8d94bfc45edf071f485cf28d", func := "loop.example/g01273/laws.FnExactNamedDga", spec := "fnExactNamedDga", apart := false, narrowed := true }
def FnExactNamedDgaUptoSaid : Prop := fnExactNamedDgaUptoRow.holds Try.pinned (OpenSpec.upto fnExactNamedDgaSpec)

/-- 'laws.FnExactRowHomology', WHERE WHAT IT READS IS OF BULK AT MOST 1048576: true; the input reads as it did. -/
def fnExactRowHomologyUptoRow : OpenClaim := { program := "ytmphljkecbeplaa", sum := "f36cc1273d6bd00daf035f1cf8fb52829491d2fc8d94bfc45edf071f485cf28d", func := "loop.example/g01273/laws.FnExactRowHomology", spec := "fnExactRowHomology", unfollowed := true, recurses := true, apart := false, narrowed := true }
def FnExactRowHomologyUptoSaid : Prop := fnExactRowHomologyUptoRow.holds Try.pinned (OpenSpec.upto fnExactRowHomologySpec)

/-- 'laws.FnExactSmithNumbers', WHERE WHAT IT READS IS OF BULK AT MOST 1048576: true; the input reads as it did. -/
def fnExactSmithNumbersUptoRow : OpenClaim := { program := "ytmphljkecbeplaa", sum := "f36cc1273d6bd00daf035f1cf8fb52829491d2fc8d94bfc45edf071f485cf28d", func := "loop.example/g01273/laws.FnExactSmithNumbers", spec := "fnExactSmithNumbers", unfollowed := true, recurses := true, apart := false, narrowed := true }
def FnExactSmithNumbersUptoSaid : Prop := fnExactSmithNumbersUptoRow.holds Try.pinned (OpenSpec.upto fnExactSmithNumbersSpec)

/-- 'laws.FnExactTorsionExponents', WHERE WHAT IT READS IS OF BULK AT MOST 1048576: true; the input reads as it did. -/
def fnExactTorsionExponentsUptoRow : OpenClaim := { program := "ytmphljkecbeplaa", sum := "f36cc1273d6bd00daf035f1cf8fb52829491d2fc8d94bfc45edf071f485cf28d", func := "loop.example/g01273/laws.FnExactTorsionExponents", spec := "fnExactTorsionExponents", unfollowed := true, recurses := true, apart := false, narrowed := true }
def FnExactTorsionExponentsUptoSaid : Prop := fnExactTorsionExponentsUptoRow.holds Try.pinned (OpenSpec.upto fnExactTorsionExponentsSpec)

/-- 'laws.FnExactTorsionOrders', WHERE WHAT IT READS IS OF BULK AT MOST 1048576: true; the input reads as it did. -/
def fnExactTorsionOrdersUptoRow : OpenClaim := { program := "ytmphljkecbeplaa", sum := "f36cc1273d6bd00daf035f1cf8fb52829491d2fc8d94bfc45edf071f485cf28d", func := "loop.example/g01273/laws.FnExactTorsionOrders", spec := "fnExactTorsionOrders", unfollowed := true, recurses := true, apart := false, narrowed := true }
def FnExactTorsionOrdersUptoSaid : Prop := fnExactTorsionOrdersUptoRow.holds Try.pinned (OpenSpec.upto fnExactTorsionOrdersSpec)

/-- 'laws.FnExactWholeHomology', WHERE WHAT IT READS IS OF BULK AT MOST 1048576: true; the input reads as it did. -/
def fnExactWholeHomologyUptoRow : OpenClaim := { program := "ytmphljkecbeplaa", sum := "f36cc1273d6bd00daf035f1cf8fb52829491d2fc8d94bfc45edf071f485cf28d", func := "loop.example/g01273/laws.FnExactWholeHomology", spec := "fnExactWholeHomology", unfollowed := true, recurses := true, apart := false, narrowed := true }
def FnExactWholeHomologyUptoSaid : Prop := fnExactWholeHomologyUptoRow.holds Try.pinned (OpenSpec.upto fnExactWholeHomologySpec)

/-- 'laws.FnExactLastBockstein', WHERE WHAT IT READS IS OF BULK AT MOST 1048576: true; the input reads as it did. -/
def fnExactLastBocksteinUptoRow : OpenClaim := { program := "ytmphljkecbeplaa", sum := "f36cc1273d6bd00daf035f1cf8fb52829491d2fc8d94bfc45edf071f485cf28d", func := "loop.example/g01273/laws.FnExactLastBockstein", spec := "fnExactLastBockstein", unfollowed := true, recurses := true, apart := false, narrowed := true }
def FnExactLastBocksteinUptoSaid : Prop := fnExactLastBocksteinUptoRow.holds Try.pinned (OpenSpec.upto fnExactLastBocksteinSpec)

/-- 'laws.FnExactBocksteinNumbers', WHERE WHAT IT READS IS OF BULK AT MOST 1048576: true; the input reads as it did. -/
def fnExactBocksteinNumbersUptoRow : OpenClaim := { program := "ytmphljkecbeplaa", sum := "f36cc1273d6bd00daf035f1cf8fb52829491d2fc8d94bfc45edf071f485cf28d", func := "loop.example/g01273/laws.FnExactBocksteinNumbers", spec := "fnExactBocksteinNumbers", unfollowed := true, recurses := true, apart := false, narrowed := true }
def FnExactBocksteinNumbersUptoSaid : Prop := fnExactBocksteinNumbersUptoRow.holds Try.pinned (OpenSpec.upto fnExactBocksteinNumbersSpec)

/-- 'laws.FnExactTransposeDouble', WHERE WHAT IT READS IS OF BULK AT MOST 1048576: true; the input reads as it did. -/
def fnExactTransposeDoubleUptoRow : OpenClaim := { program := "ytmphljkecbeplaa", sum := "f36cc1273d6bd00daf035f1cf8fb52829491d2fc8d94bfc45edf071f485cf28d", func := "loop.example/g01273/laws.FnExactTransposeDouble", spec := "fnExactTransposeDouble", unfollowed := true, recurses := true, apart := false, narrowed := true }
def FnExactTransposeDoubleUptoSaid : Prop := fnExactTransposeDoubleUptoRow.holds Try.pinned (OpenSpec.upto fnExactTransposeDoubleSpec)

/-- 'laws.FnExactColumnHomology', WHERE WHAT IT READS IS OF BULK AT MOST 1048576: true; the input reads as it did. -/
def fnExactColumnHomologyUptoRow : OpenClaim := { program := "ytmphljkecbeplaa", sum := "f36cc1273d6bd00daf035f1cf8fb52829491d2fc8d94bfc45edf071f485cf28d", func := "loop.example/g01273/laws.FnExactColumnHomology", spec := "fnExactColumnHomology", unfollowed := true, recurses := true, apart := false, narrowed := true }
def FnExactColumnHomologyUptoSaid : Prop := fnExactColumnHomologyUptoRow.holds Try.pinned (OpenSpec.upto fnExactColumnHomologySpec)

/-- 'laws.FnSpaces', WHERE WHAT IT READS IS OF BULK AT MOST 1048576: true; the input reads as it did. -/
def fnSpacesUptoRow : OpenClaim := { program := "ytmphljkecbeplaa", sum := "f36cc1273d6bd00daf035f1cf8fb52829491d2fc8d94bfc45edf071f485cf28d", func := "loop.example/g01273/laws.FnSpaces", spec := "fnSpaces", unfollowed := true, recurses := true, apart := false, narrowed := true }
def FnSpacesUptoSaid : Prop := fnSpacesUptoRow.holds Try.pinned (OpenSpec.upto fnSpacesSpec)

end Rows
end Go.Proofs.Ytmphljkecbeplaa

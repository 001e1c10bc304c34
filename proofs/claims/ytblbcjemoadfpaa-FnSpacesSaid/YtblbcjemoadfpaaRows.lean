/-
  No cell of these rows narrows 'for every input' (looked for: loops, veiled, ifaces, maps, wideKeys, modest, calm, conditions, laid).
  DERIVED. THE GIVEN ROWS OF THIS SEAT. 6 by the template 'for every input the law returns true; each argument reads behind the call as it read before'; 0 by the template 'total and deterministic' (their statements: YtblbcjemoadfpaaTotals.lean).
  GIVEN WITH THE SEED: the statements are not yours to turn. If you find one false, say at which input.
  Laid BY PROGRAM, IN A SANDBOX (cutbox-rows.mjs): the forced cells as the released guide's own fill.sh prints them over the translation 4bbd792c993730fe… (all of the seat's roots in one cut). By AI agents, Wed Nov 11 2026. No macro, syntax, notation, axiom, sorry.
-/
import Derived.Test.YtblbcjemoadfpaaChecked
import GoSem.Claim
import GoSem.ClaimJoined
import GoSem.ClaimMapViews
import Derived.JoinedTies
import Derived.KernelRfl
namespace Go.Proofs.Ytblbcjemoadfpaa
/- THE CELL 'sum', in the pinned program and in every row, IS THE sha256 OF THE DUMP (.gsa) THAT YtblbcjemoadfpaaProg.lean LOADS. Nothing in Lean hashes anything: it is a label: what it is worth is what the hold of that sum in a sandbox is worth. -/
noncomputable def Try.pinned : Pinned := { name := "ytblbcjemoadfpaa", sum := "4bbd792c993730feaa94dfc99baee57ed8f730446d83e5b71ac30b01ca45cb89", checked := Try.checked }
namespace Rows
def none {H : Type} : Left H := { results := [], args := [] }

/-- 'laws.FnExactNamedDga': WHATEVER THE INPUT: true; the input reads as it did. -/
def fnExactNamedDgaSpec : ChangeSpec := { name := "fnExactNamedDga", fn := fun _ => fun
  | [d1, d2] => { results := [.lit (.bool true)], args := [d1, d2] }
  | _ => none }
def fnExactNamedDgaRow : OpenClaim := { program := "ytblbcjemoadfpaa", sum := "4bbd792c993730feaa94dfc99baee57ed8f730446d83e5b71ac30b01ca45cb89", func := "loop.example/g01273/laws.FnExactNamedDga", spec := "fnExactNamedDga", apart := false }
def FnExactNamedDgaSaid : Prop := fnExactNamedDgaRow.holds Try.pinned (OpenSpec.ofChange fnExactNamedDgaSpec)

/-- ITS FALSE NEIGHBOUR: 'it returns false'. Refute it at one input. -/
def fnExactNamedDgaWrong : ChangeSpec := { name := "fnExactNamedDga", fn := fun _ => fun
  | [d1, d2] => { results := [.lit (.bool false)], args := [d1, d2] }
  | _ => none }
def FnExactNamedDgaWrongFalsely : Prop := fnExactNamedDgaRow.holds Try.pinned (OpenSpec.ofChange fnExactNamedDgaWrong)

/-- 'laws.FnExactIsDga': WHATEVER THE INPUT: true; the input reads as it did. -/
def fnExactIsDgaSpec : ChangeSpec := { name := "fnExactIsDga", fn := fun _ => fun
  | [d] => { results := [.lit (.bool true)], args := [d] }
  | _ => none }
def fnExactIsDgaRow : OpenClaim := { program := "ytblbcjemoadfpaa", sum := "4bbd792c993730feaa94dfc99baee57ed8f730446d83e5b71ac30b01ca45cb89", func := "loop.example/g01273/laws.FnExactIsDga", spec := "fnExactIsDga", apart := false }
def FnExactIsDgaSaid : Prop := fnExactIsDgaRow.holds Try.pinned (OpenSpec.ofChange fnExactIsDgaSpec)

/-- ITS FALSE NEIGHBOUR: 'it returns false'. Refute it at one input. -/
def fnExactIsDgaWrong : ChangeSpec := { name := "fnExactIsDga", fn := fun _ => fun
  | [d] => { results := [.lit (.bool false)], args := [d] }
  | _ => none }
def FnExactIsDgaWrongFalsely : Prop := fnExactIsDgaRow.holds Try.pinned (OpenSpec.ofChange fnExactIsDgaWrong)

/-- 'laws.FnExactDifferentialIn': WHATEVER THE INPUT: true; the input reads as it did. -/
def fnExactDifferentialInSpec : ChangeSpec := { name := "fnExactDifferentialIn", fn := fun _ => fun
  | [d1, d2] => { results := [.lit (.bool true)], args := [d1, d2] }
  | _ => none }
def fnExactDifferentialInRow : OpenClaim := { program := "ytblbcjemoadfpaa", sum := "4bbd792c993730feaa94dfc99baee57ed8f730446d83e5b71ac30b01ca45cb89", func := "loop.example/g01273/laws.FnExactDifferentialIn", spec := "fnExactDifferentialIn", apart := false }
def FnExactDifferentialInSaid : Prop := fnExactDifferentialInRow.holds Try.pinned (OpenSpec.ofChange fnExactDifferentialInSpec)

/-- ITS FALSE NEIGHBOUR: 'it returns false'. Refute it at one input. -/
def fnExactDifferentialInWrong : ChangeSpec := { name := "fnExactDifferentialIn", fn := fun _ => fun
  | [d1, d2] => { results := [.lit (.bool false)], args := [d1, d2] }
  | _ => none }
def FnExactDifferentialInWrongFalsely : Prop := fnExactDifferentialInRow.holds Try.pinned (OpenSpec.ofChange fnExactDifferentialInWrong)

/-- 'laws.FnExactMultiplyElements': WHATEVER THE INPUT: true; the input reads as it did. -/
def fnExactMultiplyElementsSpec : ChangeSpec := { name := "fnExactMultiplyElements", fn := fun _ => fun
  | [d1, d2, d3] => { results := [.lit (.bool true)], args := [d1, d2, d3] }
  | _ => none }
def fnExactMultiplyElementsRow : OpenClaim := { program := "ytblbcjemoadfpaa", sum := "4bbd792c993730feaa94dfc99baee57ed8f730446d83e5b71ac30b01ca45cb89", func := "loop.example/g01273/laws.FnExactMultiplyElements", spec := "fnExactMultiplyElements", apart := false }
def FnExactMultiplyElementsSaid : Prop := fnExactMultiplyElementsRow.holds Try.pinned (OpenSpec.ofChange fnExactMultiplyElementsSpec)

/-- ITS FALSE NEIGHBOUR: 'it returns false'. Refute it at one input. -/
def fnExactMultiplyElementsWrong : ChangeSpec := { name := "fnExactMultiplyElements", fn := fun _ => fun
  | [d1, d2, d3] => { results := [.lit (.bool false)], args := [d1, d2, d3] }
  | _ => none }
def FnExactMultiplyElementsWrongFalsely : Prop := fnExactMultiplyElementsRow.holds Try.pinned (OpenSpec.ofChange fnExactMultiplyElementsWrong)

/-- 'laws.FnExactJoinBars': WHATEVER THE INPUT: true; the input reads as it did. -/
def fnExactJoinBarsSpec : ChangeSpec := { name := "fnExactJoinBars", fn := fun _ => fun
  | [d1, d2] => { results := [.lit (.bool true)], args := [d1, d2] }
  | _ => none }
def fnExactJoinBarsRow : OpenClaim := { program := "ytblbcjemoadfpaa", sum := "4bbd792c993730feaa94dfc99baee57ed8f730446d83e5b71ac30b01ca45cb89", func := "loop.example/g01273/laws.FnExactJoinBars", spec := "fnExactJoinBars", unfollowed := true, recurses := true, apart := false }
def FnExactJoinBarsSaid : Prop := fnExactJoinBarsRow.holds Try.pinned (OpenSpec.ofChange fnExactJoinBarsSpec)

/-- ITS FALSE NEIGHBOUR: 'it returns false'. Refute it at one input. -/
def fnExactJoinBarsWrong : ChangeSpec := { name := "fnExactJoinBars", fn := fun _ => fun
  | [d1, d2] => { results := [.lit (.bool false)], args := [d1, d2] }
  | _ => none }
def FnExactJoinBarsWrongFalsely : Prop := fnExactJoinBarsRow.holds Try.pinned (OpenSpec.ofChange fnExactJoinBarsWrong)

/-- 'laws.FnSpaces': WHATEVER THE INPUT: true; the input reads as it did. -/
def fnSpacesSpec : ChangeSpec := { name := "fnSpaces", fn := fun _ => fun
  | [d] => { results := [.lit (.bool true)], args := [d] }
  | _ => none }
def fnSpacesRow : OpenClaim := { program := "ytblbcjemoadfpaa", sum := "4bbd792c993730feaa94dfc99baee57ed8f730446d83e5b71ac30b01ca45cb89", func := "loop.example/g01273/laws.FnSpaces", spec := "fnSpaces", unfollowed := true, recurses := true, apart := false }
def FnSpacesSaid : Prop := fnSpacesRow.holds Try.pinned (OpenSpec.ofChange fnSpacesSpec)

/-- ITS FALSE NEIGHBOUR: 'it returns false'. Refute it at one input. -/
def fnSpacesWrong : ChangeSpec := { name := "fnSpaces", fn := fun _ => fun
  | [d] => { results := [.lit (.bool false)], args := [d] }
  | _ => none }
def FnSpacesWrongFalsely : Prop := fnSpacesRow.holds Try.pinned (OpenSpec.ofChange fnSpacesWrong)

/- THE SECOND FORM. 'bulk': how many values and letters a reading holds, each counted each time it is reached (what is shared counts as often as it is met; a slice's spare places count too). A statement '..UptoSaid' is the law's where the arguments, and the package variables that the reading takes, are together of bulk at most 1048576: NARROWER than '..Said'. Prove '..Said' where nothing that the law and all that it calls make is longer than what came in: it says more and counts as full. Else prove '..UptoSaid'. A law counts once. -/
mutual
def uptoBulk {H : Type} : DataW H → Nat
  | .lit (.string bytes) => bytes.length + 1
  | .lit _ => 1
  | .nil => 1
  | .ptr d => uptoBulk d + 1
  | .slice elems spare => uptoBulkAll elems + uptoBulkAll spare + 1
  | .agg parts => uptoBulkAll parts + 1
  | .iface _ d => uptoBulk d + 1
  | .map entries => uptoBulkEntries entries + 1
  | .held _ => 1
def uptoBulkAll {H : Type} : List (DataW H) → Nat
  | [] => 0
  | d :: r => uptoBulk d + uptoBulkAll r
def uptoBulkEntries {H : Type} : List (Lit × DataW H) → Nat
  | [] => 0
  | x :: r => uptoBulkEntry x + uptoBulkEntries r
def uptoBulkEntry {H : Type} : Lit × DataW H → Nat
  | (.string bytes, d) => bytes.length + uptoBulk d + 1
  | (_, d) => uptoBulk d + 1
 end
def uptoSmall : (H : Type) → List (DataW H) → Bool := fun _ ds => decide (uptoBulkAll ds ≤ 1048576)
def OpenSpec.upto (s : _root_.Go.ChangeSpec) : _root_.Go.OpenSpec := { _root_.Go.OpenSpec.ofChange s with cond := some uptoSmall }

/-- 'laws.FnExactNamedDga', WHERE WHAT IT READS IS OF BULK AT MOST 1048576: true; the input reads as it did. -/
def fnExactNamedDgaUptoRow : OpenClaim := { program := "ytblbcjemoadfpaa", sum := "4bbd792c993730feaa94dfc99baee57ed8f730446d83e5b71ac30b01ca45cb89", func := "loop.example/g01273/laws.FnExactNamedDga", spec := "fnExactNamedDga", apart := false, narrowed := true }
def FnExactNamedDgaUptoSaid : Prop := fnExactNamedDgaUptoRow.holds Try.pinned (OpenSpec.upto fnExactNamedDgaSpec)

/-- 'laws.FnExactIsDga', WHERE WHAT IT READS IS OF BULK AT MOST 1048576: true; the input reads as it did. -/
def fnExactIsDgaUptoRow : OpenClaim := { program := "ytblbcjemoadfpaa", sum := "4bbd792c993730feaa94dfc99baee57ed8f730446d83e5b71ac30b01ca45cb89", func := "loop.example/g01273/laws.FnExactIsDga", spec := "fnExactIsDga", apart := false, narrowed := true }
def FnExactIsDgaUptoSaid : Prop := fnExactIsDgaUptoRow.holds Try.pinned (OpenSpec.upto fnExactIsDgaSpec)

/-- 'laws.FnExactDifferentialIn', WHERE WHAT IT READS IS OF BULK AT MOST 1048576: true; the input reads as it did. -/
def fnExactDifferentialInUptoRow : OpenClaim := { program := "ytblbcjemoadfpaa", sum := "4bbd792c993730feaa94dfc99baee57ed8f730446d83e5b71ac30b01ca45cb89", func := "loop.example/g01273/laws.FnExactDifferentialIn", spec := "fnExactDifferentialIn", apart := false, narrowed := true }
def FnExactDifferentialInUptoSaid : Prop := fnExactDifferentialInUptoRow.holds Try.pinned (OpenSpec.upto fnExactDifferentialInSpec)

/-- 'laws.FnExactMultiplyElements', WHERE WHAT IT READS IS OF BULK AT MOST 1048576: true; the input reads as it did. -/
def fnExactMultiplyElementsUptoRow : OpenClaim := { program := "ytblbcjemoadfpaa", sum := "4bbd792c993730feaa94dfc99baee57ed8f730446d83e5b71ac30b01ca45cb89", func := "loop.example/g01273/laws.FnExactMultiplyElements", spec := "fnExactMultiplyElements", apart := false, narrowed := true }
def FnExactMultiplyElementsUptoSaid : Prop := fnExactMultiplyElementsUptoRow.holds Try.pinned (OpenSpec.upto fnExactMultiplyElementsSpec)

/-- 'laws.FnExactJoinBars', WHERE WHAT IT READS IS OF BULK AT MOST 1048576: true; the input reads as it did. -/
def fnExactJoinBarsUptoRow : OpenClaim := { program := "ytblbcjemoadfpaa", sum := "4bbd792c993730feaa94dfc99baee57ed8f730446d83e5b71ac30b01ca45cb89", func := "loop.example/g01273/laws.FnExactJoinBars", spec := "fnExactJoinBars", unfollowed := true, recurses := true, apart := false, narrowed := true }
def FnExactJoinBarsUptoSaid : Prop := fnExactJoinBarsUptoRow.holds Try.pinned (OpenSpec.upto fnExactJoinBarsSpec)

/-- 'laws.FnSpaces', WHERE WHAT IT READS IS OF BULK AT MOST 1048576: true; the input reads as it did. -/
def fnSpacesUptoRow : OpenClaim := { program := "ytblbcjemoadfpaa", sum := "4bbd792c993730feaa94dfc99baee57ed8f730446d83e5b71ac30b01ca45cb89", func := "loop.example/g01273/laws.FnSpaces", spec := "fnSpaces", unfollowed := true, recurses := true, apart := false, narrowed := true }
def FnSpacesUptoSaid : Prop := fnSpacesUptoRow.holds Try.pinned (OpenSpec.upto fnSpacesSpec)

end Rows
end Go.Proofs.Ytblbcjemoadfpaa

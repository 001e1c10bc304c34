/-
  No cell of these rows narrows 'for every input' (looked for: loops, veiled, ifaces, maps, wideKeys, modest, calm, conditions, laid).
  DERIVED. THE GIVEN ROWS OF THIS SEAT. 12 by the template 'for every input the law returns true; each argument reads behind the call as it read before'; 0 by the template 'total and deterministic' (their statements: YthpnepfjgljkkaaTotals.lean).
  GIVEN WITH THE SEED: the statements are not yours to turn. If you find one false, say at which input.
  Laid BY PROGRAM, IN A SANDBOX (cutbox-rows.mjs): the forced cells as the released guide's own fill.sh prints them over the translation 89c100eb2bf09ab8… (all of the seat's roots in one cut). By AI agents, Wed Nov 11 2026. No macro, syntax, notation, axiom, sorry.
-/
import Derived.Test.YthpnepfjgljkkaaChecked
import GoSem.Claim
import GoSem.ClaimJoined
import GoSem.ClaimMapViews
import Derived.JoinedTies
import Derived.KernelRfl
namespace Go.Proofs.Ythpnepfjgljkkaa
/- THE CELL 'sum', in the pinned program and in every row, IS THE sha256 OF THE DUMP (.gsa) THAT YthpnepfjgljkkaaProg.lean LOADS. Nothing in Lean hashes anything: it is a label: what it is worth is what the hold of that sum in a sandbox is worth. -/
noncomputable def Try.pinned : Pinned := { name := "ythpnepfjgljkkaa", sum := "89c100eb2bf09ab82a5eba68cf273c25522d975689e5b66d52cd844cda55a08d", checked := Try.checked }
namespace Rows
def none {H : Type} : Left H := { results := [], args := [] }

/-- 'laws.FnExactBarPage': WHATEVER THE INPUT: true; the input reads as it did. -/
def fnExactBarPageSpec : ChangeSpec := { name := "fnExactBarPage", fn := fun _ => fun
  | [d1, d2, d3, d4] => { results := [.lit (.bool true)], args := [d1, d2, d3, d4] }
  | _ => none }
def fnExactBarPageRow : OpenClaim := { program := "ythpnepfjgljkkaa", sum := "89c100eb2bf09ab82a5eba68cf273c25522d975689e5b66d52cd844cda55a08d", func := "loop.example/g01273/laws.FnExactBarPage", spec := "fnExactBarPage", unfollowed := true, recurses := true, apart := false }
def FnExactBarPageSaid : Prop := fnExactBarPageRow.holds Try.pinned (OpenSpec.ofChange fnExactBarPageSpec)

/-- ITS FALSE NEIGHBOUR: 'it returns false'. Refute it at one input. -/
def fnExactBarPageWrong : ChangeSpec := { name := "fnExactBarPage", fn := fun _ => fun
  | [d1, d2, d3, d4] => { results := [.lit (.bool false)], args := [d1, d2, d3, d4] }
  | _ => none }
def FnExactBarPageWrongFalsely : Prop := fnExactBarPageRow.holds Try.pinned (OpenSpec.ofChange fnExactBarPageWrong)

/-- 'laws.FnExactJoinBars': WHATEVER THE INPUT: true; the input reads as it did. -/
def fnExactJoinBarsSpec : ChangeSpec := { name := "fnExactJoinBars", fn := fun _ => fun
  | [d1, d2] => { results := [.lit (.bool true)], args := [d1, d2] }
  | _ => none }
def fnExactJoinBarsRow : OpenClaim := { program := "ythpnepfjgljkkaa", sum := "89c100eb2bf09ab82a5eba68cf273c25522d975689e5b66d52cd844cda55a08d", func := "loop.example/g01273/laws.FnExactJoinBars", spec := "fnExactJoinBars", unfollowed := true, recurses := true, apart := false }
def FnExactJoinBarsSaid : Prop := fnExactJoinBarsRow.holds Try.pinned (OpenSpec.ofChange fnExactJoinBarsSpec)

/-- ITS FALSE NEIGHBOUR: 'it returns false'. Refute it at one input. -/
def fnExactJoinBarsWrong : ChangeSpec := { name := "fnExactJoinBars", fn := fun _ => fun
  | [d1, d2] => { results := [.lit (.bool false)], args := [d1, d2] }
  | _ => none }
def FnExactJoinBarsWrongFalsely : Prop := fnExactJoinBarsRow.holds Try.pinned (OpenSpec.ofChange fnExactJoinBarsWrong)

/-- 'laws.FnExactComplexOfBars': WHATEVER THE INPUT: true; the input reads as it did. -/
def fnExactComplexOfBarsSpec : ChangeSpec := { name := "fnExactComplexOfBars", fn := fun _ => fun
  | [d1, d2, d3] => { results := [.lit (.bool true)], args := [d1, d2, d3] }
  | _ => none }
def fnExactComplexOfBarsRow : OpenClaim := { program := "ythpnepfjgljkkaa", sum := "89c100eb2bf09ab82a5eba68cf273c25522d975689e5b66d52cd844cda55a08d", func := "loop.example/g01273/laws.FnExactComplexOfBars", spec := "fnExactComplexOfBars", unfollowed := true, recurses := true, apart := false }
def FnExactComplexOfBarsSaid : Prop := fnExactComplexOfBarsRow.holds Try.pinned (OpenSpec.ofChange fnExactComplexOfBarsSpec)

/-- ITS FALSE NEIGHBOUR: 'it returns false'. Refute it at one input. -/
def fnExactComplexOfBarsWrong : ChangeSpec := { name := "fnExactComplexOfBars", fn := fun _ => fun
  | [d1, d2, d3] => { results := [.lit (.bool false)], args := [d1, d2, d3] }
  | _ => none }
def FnExactComplexOfBarsWrongFalsely : Prop := fnExactComplexOfBarsRow.holds Try.pinned (OpenSpec.ofChange fnExactComplexOfBarsWrong)

/-- 'laws.FnExactDeterminantOf': WHATEVER THE INPUT: true; the input reads as it did. -/
def fnExactDeterminantOfSpec : ChangeSpec := { name := "fnExactDeterminantOf", fn := fun _ => fun
  | [d] => { results := [.lit (.bool true)], args := [d] }
  | _ => none }
def fnExactDeterminantOfRow : OpenClaim := { program := "ythpnepfjgljkkaa", sum := "89c100eb2bf09ab82a5eba68cf273c25522d975689e5b66d52cd844cda55a08d", func := "loop.example/g01273/laws.FnExactDeterminantOf", spec := "fnExactDeterminantOf", unfollowed := true, recurses := true, apart := false }
def FnExactDeterminantOfSaid : Prop := fnExactDeterminantOfRow.holds Try.pinned (OpenSpec.ofChange fnExactDeterminantOfSpec)

/-- ITS FALSE NEIGHBOUR: 'it returns false'. Refute it at one input. -/
def fnExactDeterminantOfWrong : ChangeSpec := { name := "fnExactDeterminantOf", fn := fun _ => fun
  | [d] => { results := [.lit (.bool false)], args := [d] }
  | _ => none }
def FnExactDeterminantOfWrongFalsely : Prop := fnExactDeterminantOfRow.holds Try.pinned (OpenSpec.ofChange fnExactDeterminantOfWrong)

/-- 'laws.FnExactIsWhole': WHATEVER THE INPUT: true; the input reads as it did. -/
def fnExactIsWholeSpec : ChangeSpec := { name := "fnExactIsWhole", fn := fun _ => fun
  | [d] => { results := [.lit (.bool true)], args := [d] }
  | _ => none }
def fnExactIsWholeRow : OpenClaim := { program := "ythpnepfjgljkkaa", sum := "89c100eb2bf09ab82a5eba68cf273c25522d975689e5b66d52cd844cda55a08d", func := "loop.example/g01273/laws.FnExactIsWhole", spec := "fnExactIsWhole", unfollowed := true, recurses := true, apart := false }
def FnExactIsWholeSaid : Prop := fnExactIsWholeRow.holds Try.pinned (OpenSpec.ofChange fnExactIsWholeSpec)

/-- ITS FALSE NEIGHBOUR: 'it returns false'. Refute it at one input. -/
def fnExactIsWholeWrong : ChangeSpec := { name := "fnExactIsWhole", fn := fun _ => fun
  | [d] => { results := [.lit (.bool false)], args := [d] }
  | _ => none }
def FnExactIsWholeWrongFalsely : Prop := fnExactIsWholeRow.holds Try.pinned (OpenSpec.ofChange fnExactIsWholeWrong)

/-- 'laws.FnExactRankOfWhole': WHATEVER THE INPUT: true; the input reads as it did. -/
def fnExactRankOfWholeSpec : ChangeSpec := { name := "fnExactRankOfWhole", fn := fun _ => fun
  | [d] => { results := [.lit (.bool true)], args := [d] }
  | _ => none }
def fnExactRankOfWholeRow : OpenClaim := { program := "ythpnepfjgljkkaa", sum := "89c100eb2bf09ab82a5eba68cf273c25522d975689e5b66d52cd844cda55a08d", func := "loop.example/g01273/laws.FnExactRankOfWhole", spec := "fnExactRankOfWhole", unfollowed := true, recurses := true, apart := false }
def FnExactRankOfWholeSaid : Prop := fnExactRankOfWholeRow.holds Try.pinned (OpenSpec.ofChange fnExactRankOfWholeSpec)

/-- ITS FALSE NEIGHBOUR: 'it returns false'. Refute it at one input. -/
def fnExactRankOfWholeWrong : ChangeSpec := { name := "fnExactRankOfWhole", fn := fun _ => fun
  | [d] => { results := [.lit (.bool false)], args := [d] }
  | _ => none }
def FnExactRankOfWholeWrongFalsely : Prop := fnExactRankOfWholeRow.holds Try.pinned (OpenSpec.ofChange fnExactRankOfWholeWrong)

/-- 'laws.FnExactSmithNumbers': WHATEVER THE INPUT: true; the input reads as it did. -/
def fnExactSmithNumbersSpec : ChangeSpec := { name := "fnExactSmithNumbers", fn := fun _ => fun
  | [d] => { results := [.lit (.bool true)], args := [d] }
  | _ => none }
def fnExactSmithNumbersRow : OpenClaim := { program := "ythpnepfjgljkkaa", sum := "89c100eb2bf09ab82a5eba68cf273c25522d975689e5b66d52cd844cda55a08d", func := "loop.example/g01273/laws.FnExactSmithNumbers", spec := "fnExactSmithNumbers", unfollowed := true, recurses := true, apart := false }
def FnExactSmithNumbersSaid : Prop := fnExactSmithNumbersRow.holds Try.pinned (OpenSpec.ofChange fnExactSmithNumbersSpec)

/-- ITS FALSE NEIGHBOUR: 'it returns false'. Refute it at one input. -/
def fnExactSmithNumbersWrong : ChangeSpec := { name := "fnExactSmithNumbers", fn := fun _ => fun
  | [d] => { results := [.lit (.bool false)], args := [d] }
  | _ => none }
def FnExactSmithNumbersWrongFalsely : Prop := fnExactSmithNumbersRow.holds Try.pinned (OpenSpec.ofChange fnExactSmithNumbersWrong)

/-- 'laws.FnExactDualWhole': WHATEVER THE INPUT: true; the input reads as it did. -/
def fnExactDualWholeSpec : ChangeSpec := { name := "fnExactDualWhole", fn := fun _ => fun
  | [d] => { results := [.lit (.bool true)], args := [d] }
  | _ => none }
def fnExactDualWholeRow : OpenClaim := { program := "ythpnepfjgljkkaa", sum := "89c100eb2bf09ab82a5eba68cf273c25522d975689e5b66d52cd844cda55a08d", func := "loop.example/g01273/laws.FnExactDualWhole", spec := "fnExactDualWhole", unfollowed := true, recurses := true, apart := false }
def FnExactDualWholeSaid : Prop := fnExactDualWholeRow.holds Try.pinned (OpenSpec.ofChange fnExactDualWholeSpec)

/-- ITS FALSE NEIGHBOUR: 'it returns false'. Refute it at one input. -/
def fnExactDualWholeWrong : ChangeSpec := { name := "fnExactDualWhole", fn := fun _ => fun
  | [d] => { results := [.lit (.bool false)], args := [d] }
  | _ => none }
def FnExactDualWholeWrongFalsely : Prop := fnExactDualWholeRow.holds Try.pinned (OpenSpec.ofChange fnExactDualWholeWrong)

/-- 'laws.FnExactReduceModulo': WHATEVER THE INPUT: true; the input reads as it did. -/
def fnExactReduceModuloSpec : ChangeSpec := { name := "fnExactReduceModulo", fn := fun _ => fun
  | [d1, d2] => { results := [.lit (.bool true)], args := [d1, d2] }
  | _ => none }
def fnExactReduceModuloRow : OpenClaim := { program := "ythpnepfjgljkkaa", sum := "89c100eb2bf09ab82a5eba68cf273c25522d975689e5b66d52cd844cda55a08d", func := "loop.example/g01273/laws.FnExactReduceModulo", spec := "fnExactReduceModulo", unfollowed := true, recurses := true, apart := false }
def FnExactReduceModuloSaid : Prop := fnExactReduceModuloRow.holds Try.pinned (OpenSpec.ofChange fnExactReduceModuloSpec)

/-- ITS FALSE NEIGHBOUR: 'it returns false'. Refute it at one input. -/
def fnExactReduceModuloWrong : ChangeSpec := { name := "fnExactReduceModulo", fn := fun _ => fun
  | [d1, d2] => { results := [.lit (.bool false)], args := [d1, d2] }
  | _ => none }
def FnExactReduceModuloWrongFalsely : Prop := fnExactReduceModuloRow.holds Try.pinned (OpenSpec.ofChange fnExactReduceModuloWrong)

/-- 'laws.FnExactTorsionExponents': WHATEVER THE INPUT: true; the input reads as it did. -/
def fnExactTorsionExponentsSpec : ChangeSpec := { name := "fnExactTorsionExponents", fn := fun _ => fun
  | [d] => { results := [.lit (.bool true)], args := [d] }
  | _ => none }
def fnExactTorsionExponentsRow : OpenClaim := { program := "ythpnepfjgljkkaa", sum := "89c100eb2bf09ab82a5eba68cf273c25522d975689e5b66d52cd844cda55a08d", func := "loop.example/g01273/laws.FnExactTorsionExponents", spec := "fnExactTorsionExponents", unfollowed := true, recurses := true, apart := false }
def FnExactTorsionExponentsSaid : Prop := fnExactTorsionExponentsRow.holds Try.pinned (OpenSpec.ofChange fnExactTorsionExponentsSpec)

/-- ITS FALSE NEIGHBOUR: 'it returns false'. Refute it at one input. -/
def fnExactTorsionExponentsWrong : ChangeSpec := { name := "fnExactTorsionExponents", fn := fun _ => fun
  | [d] => { results := [.lit (.bool false)], args := [d] }
  | _ => none }
def FnExactTorsionExponentsWrongFalsely : Prop := fnExactTorsionExponentsRow.holds Try.pinned (OpenSpec.ofChange fnExactTorsionExponentsWrong)

/-- 'laws.FnExactTorsionOrders': WHATEVER THE INPUT: true; the input reads as it did. -/
def fnExactTorsionOrdersSpec : ChangeSpec := { name := "fnExactTorsionOrders", fn := fun _ => fun
  | [d] => { results := [.lit (.bool true)], args := [d] }
  | _ => none }
def fnExactTorsionOrdersRow : OpenClaim := { program := "ythpnepfjgljkkaa", sum := "89c100eb2bf09ab82a5eba68cf273c25522d975689e5b66d52cd844cda55a08d", func := "loop.example/g01273/laws.FnExactTorsionOrders", spec := "fnExactTorsionOrders", unfollowed := true, recurses := true, apart := false }
def FnExactTorsionOrdersSaid : Prop := fnExactTorsionOrdersRow.holds Try.pinned (OpenSpec.ofChange fnExactTorsionOrdersSpec)

/-- ITS FALSE NEIGHBOUR: 'it returns false'. Refute it at one input. -/
def fnExactTorsionOrdersWrong : ChangeSpec := { name := "fnExactTorsionOrders", fn := fun _ => fun
  | [d] => { results := [.lit (.bool false)], args := [d] }
  | _ => none }
def FnExactTorsionOrdersWrongFalsely : Prop := fnExactTorsionOrdersRow.holds Try.pinned (OpenSpec.ofChange fnExactTorsionOrdersWrong)

/-- 'laws.FnExactWholeHomology': WHATEVER THE INPUT: true; the input reads as it did. -/
def fnExactWholeHomologySpec : ChangeSpec := { name := "fnExactWholeHomology", fn := fun _ => fun
  | [d] => { results := [.lit (.bool true)], args := [d] }
  | _ => none }
def fnExactWholeHomologyRow : OpenClaim := { program := "ythpnepfjgljkkaa", sum := "89c100eb2bf09ab82a5eba68cf273c25522d975689e5b66d52cd844cda55a08d", func := "loop.example/g01273/laws.FnExactWholeHomology", spec := "fnExactWholeHomology", unfollowed := true, recurses := true, apart := false }
def FnExactWholeHomologySaid : Prop := fnExactWholeHomologyRow.holds Try.pinned (OpenSpec.ofChange fnExactWholeHomologySpec)

/-- ITS FALSE NEIGHBOUR: 'it returns false'. Refute it at one input. -/
def fnExactWholeHomologyWrong : ChangeSpec := { name := "fnExactWholeHomology", fn := fun _ => fun
  | [d] => { results := [.lit (.bool false)], args := [d] }
  | _ => none }
def FnExactWholeHomologyWrongFalsely : Prop := fnExactWholeHomologyRow.holds Try.pinned (OpenSpec.ofChange fnExactWholeHomologyWrong)

/- THE SECOND FORM. 'bulk': how many values and letters a reading holds, each counted each time it is reached (what is shared counts as often as it is met; a slice's spare places count too). A statement '..UptoSaid' is the law's where the arguments, and the package variables that the reading takes, are together of bulk at most 1048576: NARROWER than '..Said'. Prove '..Said' where nothing that the law and all that it calls make is longer than what came in: it says more and counts as full. Else prove '..UptoSaid'. A law counts once. -/
mutual
def uptoBulk {H : Type} : DataW H → Nat
  | .lit (.string bytes) => bytes.length + 1
  | .lit _ => 1
  | .nil => 1
  | .ptr d => uptoBulk d + 1
  | .slice elems spare => uptoBulkAll elems + uptoBulkAll spare + 1
  | .agg parts => uptoBulkAll parts + 1
  | .iface _ d => uptoBulk d + 1
  | .map entries => uptoBulkEntries entries + 1
  | .held _ => 1
def uptoBulkAll {H : Type} : List (DataW H) → Nat
  | [] => 0
  | d :: r => uptoBulk d + uptoBulkAll r
def uptoBulkEntries {H : Type} : List (Lit × DataW H) → Nat
  | [] => 0
  | x :: r => uptoBulkEntry x + uptoBulkEntries r
def uptoBulkEntry {H : Type} : Lit × DataW H → Nat
  | (.string bytes, d) => bytes.length + uptoBulk d + 1
  | (_, d) => uptoBulk d + 1
 end
def uptoSmall : (H : Type) → List (DataW H) → Bool := fun _ ds => decide (uptoBulkAll ds ≤ 1048576)
def OpenSpec.upto (s : _root_.Go.ChangeSpec) : _root_.Go.OpenSpec := { _root_.Go.OpenSpec.ofChange s with cond := some uptoSmall }

/-- 'laws.FnExactBarPage', WHERE WHAT IT READS IS OF BULK AT MOST 1048576: true; the input reads as it did. -/
def fnExactBarPageUptoRow : OpenClaim := { program := "ythpnepfjgljkkaa", sum := "89c100eb2bf09ab82a5eba68cf273c25522d975689e5b66d52cd844cda55a08d", func := "loop.example/g01273/laws.FnExactBarPage", spec := "fnExactBarPage", unfollowed := true, recurses := true, apart := false, narrowed := true }
def FnExactBarPageUptoSaid : Prop := fnExactBarPageUptoRow.holds Try.pinned (OpenSpec.upto fnExactBarPageSpec)

/-- 'laws.FnExactJoinBars', WHERE WHAT IT READS IS OF BULK AT MOST 1048576: true; the input reads as it did. -/
def fnExactJoinBarsUptoRow : OpenClaim := { program := "ythpnepfjgljkkaa", sum := "89c100eb2bf09ab82a5eba68cf273c25522d975689e5b66d52cd844cda55a08d", func := "loop.example/g01273/laws.FnExactJoinBars", spec := "fnExactJoinBars", unfollowed := true, recurses := true, apart := false, narrowed := true }
def FnExactJoinBarsUptoSaid : Prop := fnExactJoinBarsUptoRow.holds Try.pinned (OpenSpec.upto fnExactJoinBarsSpec)

/-- 'laws.FnExactComplexOfBars', WHERE WHAT IT READS IS OF BULK AT MOST 1048576: true; the input reads as it did. -/
def fnExactComplexOfBarsUptoRow : OpenClaim := { program := "ythpnepfjgljkkaa", sum := "89c100eb2bf09ab82a5eba68cf273c25522d975689e5b66d52cd844cda55a08d", func := "loop.example/g01273/laws.FnExactComplexOfBars", spec := "fnExactComplexOfBars", unfollowed := true, recurses := true, apart := false, narrowed := true }
def FnExactComplexOfBarsUptoSaid : Prop := fnExactComplexOfBarsUptoRow.holds Try.pinned (OpenSpec.upto fnExactComplexOfBarsSpec)

/-- 'laws.FnExactDeterminantOf', WHERE WHAT IT READS IS OF BULK AT MOST 1048576: true; the input reads as it did. -/
def fnExactDeterminantOfUptoRow : OpenClaim := { program := "ythpnepfjgljkkaa", sum := "89c100eb2bf09ab82a5eba68cf273c25522d975689e5b66d52cd844cda55a08d", func := "loop.example/g01273/laws.FnExactDeterminantOf", spec := "fnExactDeterminantOf", unfollowed := true, recurses := true, apart := false, narrowed := true }
def FnExactDeterminantOfUptoSaid : Prop := fnExactDeterminantOfUptoRow.holds Try.pinned (OpenSpec.upto fnExactDeterminantOfSpec)

/-- 'laws.FnExactIsWhole', WHERE WHAT IT READS IS OF BULK AT MOST 1048576: true; the input reads as it did. -/
def fnExactIsWholeUptoRow : OpenClaim := { program := "ythpnepfjgljkkaa", sum := "89c100eb2bf09ab82a5eba68cf273c25522d975689e5b66d52cd844cda55a08d", func := "loop.example/g01273/laws.FnExactIsWhole", spec := "fnExactIsWhole", unfollowed := true, recurses := true, apart := false, narrowed := true }
def FnExactIsWholeUptoSaid : Prop := fnExactIsWholeUptoRow.holds Try.pinned (OpenSpec.upto fnExactIsWholeSpec)

/-- 'laws.FnExactRankOfWhole', WHERE WHAT IT READS IS OF BULK AT MOST 1048576: true; the input reads as it did. -/
def fnExactRankOfWholeUptoRow : OpenClaim := { program := "ythpnepfjgljkkaa", sum := "89c100eb2bf09ab82a5eba68cf273c25522d975689e5b66d52cd844cda55a08d", func := "loop.example/g01273/laws.FnExactRankOfWhole", spec := "fnExactRankOfWhole", unfollowed := true, recurses := true, apart := false, narrowed := true }
def FnExactRankOfWholeUptoSaid : Prop := fnExactRankOfWholeUptoRow.holds Try.pinned (OpenSpec.upto fnExactRankOfWholeSpec)

/-- 'laws.FnExactSmithNumbers', WHERE WHAT IT READS IS OF BULK AT MOST 1048576: true; the input reads as it did. -/
def fnExactSmithNumbersUptoRow : OpenClaim := { program := "ythpnepfjgljkkaa", sum := "89c100eb2bf09ab82a5eba68cf273c25522d975689e5b66d52cd844cda55a08d", func := "loop.example/g01273/laws.FnExactSmithNumbers", spec := "fnExactSmithNumbers", unfollowed := true, recurses := true, apart := false, narrowed := true }
def FnExactSmithNumbersUptoSaid : Prop := fnExactSmithNumbersUptoRow.holds Try.pinned (OpenSpec.upto fnExactSmithNumbersSpec)

/-- 'laws.FnExactDualWhole', WHERE WHAT IT READS IS OF BULK AT MOST 1048576: true; the input reads as it did. -/
def fnExactDualWholeUptoRow : OpenClaim := { program := "ythpnepfjgljkkaa", sum := "89c100eb2bf09ab82a5eba68cf273c25522d975689e5b66d52cd844cda55a08d", func := "loop.example/g01273/laws.FnExactDualWhole", spec := "fnExactDualWhole", unfollowed := true, recurses := true, apart := false, narrowed := true }
def FnExactDualWholeUptoSaid : Prop := fnExactDualWholeUptoRow.holds Try.pinned (OpenSpec.upto fnExactDualWholeSpec)

/-- 'laws.FnExactReduceModulo', WHERE WHAT IT READS IS OF BULK AT MOST 1048576: true; the input reads as it did. -/
def fnExactReduceModuloUptoRow : OpenClaim := { program := "ythpnepfjgljkkaa", sum := "89c100eb2bf09ab82a5eba68cf273c25522d975689e5b66d52cd844cda55a08d", func := "loop.example/g01273/laws.FnExactReduceModulo", spec := "fnExactReduceModulo", unfollowed := true, recurses := true, apart := false, narrowed := true }
def FnExactReduceModuloUptoSaid : Prop := fnExactReduceModuloUptoRow.holds Try.pinned (OpenSpec.upto fnExactReduceModuloSpec)

/-- 'laws.FnExactTorsionExponents', WHERE WHAT IT READS IS OF BULK AT MOST 1048576: true; the input reads as it did. -/
def fnExactTorsionExponentsUptoRow : OpenClaim := { program := "ythpnepfjgljkkaa", sum := "89c100eb2bf09ab82a5eba68cf273c25522d975689e5b66d52cd844cda55a08d", func := "loop.example/g01273/laws.FnExactTorsionExponents", spec := "fnExactTorsionExponents", unfollowed := true, recurses := true, apart := false, narrowed := true }
def FnExactTorsionExponentsUptoSaid : Prop := fnExactTorsionExponentsUptoRow.holds Try.pinned (OpenSpec.upto fnExactTorsionExponentsSpec)

/-- 'laws.FnExactTorsionOrders', WHERE WHAT IT READS IS OF BULK AT MOST 1048576: true; the input reads as it did. -/
def fnExactTorsionOrdersUptoRow : OpenClaim := { program := "ythpnepfjgljkkaa", sum := "89c100eb2bf09ab82a5eba68cf273c25522d975689e5b66d52cd844cda55a08d", func := "loop.example/g01273/laws.FnExactTorsionOrders", spec := "fnExactTorsionOrders", unfollowed := true, recurses := true, apart := false, narrowed := true }
def FnExactTorsionOrdersUptoSaid : Prop := fnExactTorsionOrdersUptoRow.holds Try.pinned (OpenSpec.upto fnExactTorsionOrdersSpec)

/-- 'laws.FnExactWholeHomology', WHERE WHAT IT READS IS OF BULK AT MOST 1048576: true; the input reads as it did. -/
def fnExactWholeHomologyUptoRow : OpenClaim := { program := "ythpnepfjgljkkaa", sum := "89c100eb2bf09ab82a5eba68cf273c25522d975689e5b66d52cd844cda55a08d", func := "loop.example/g01273/laws.FnExactWholeHomology", spec := "fnExactWholeHomology", unfollowed := true, recurses := true, apart := false, narrowed := true }
def FnExactWholeHomologyUptoSaid : Prop := fnExactWholeHomologyUptoRow.holds Try.pinned (OpenSpec.upto fnExactWholeHomologySpec)

end Rows
end Go.Proofs.Ythpnepfjgljkkaa

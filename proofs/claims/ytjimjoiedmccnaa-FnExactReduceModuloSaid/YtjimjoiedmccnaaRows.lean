/-
  No cell of these rows narrows 'for every input' (looked for: loops, veiled, ifaces, maps, wideKeys, modest, calm, conditions, laid).
  DERIVED. THE GIVEN ROWS OF THIS SEAT. 12 by the template 'for every input the law returns true; each argument reads behind the call as it read before'; 0 by the template 'total and deterministic' (their statements: YtjimjoiedmccnaaTotals.lean).
  GIVEN WITH THE SEED: the statements are not yours to turn. If you find one false, say at which input.
  Laid BY PROGRAM, IN A SANDBOX (cutbox-rows.mjs): the forced cells as the released guide's own fill.sh prints them over the translation 15edb4d28237b2e6… (all of the seat's roots in one cut). By AI agents, Wed Nov 11 2026. No macro, syntax, notation, axiom, sorry.
-/
import Derived.Test.YtjimjoiedmccnaaChecked
import GoSem.Claim
import GoSem.ClaimJoined
import GoSem.ClaimMapViews
import Derived.JoinedTies
import Derived.KernelRfl
namespace Go.Proofs.Ytjimjoiedmccnaa
/- THE CELL 'sum', in the pinned program and in every row, IS THE sha256 OF THE DUMP (.gsa) THAT YtjimjoiedmccnaaProg.lean LOADS. Nothing in Lean hashes anything: it is a label: what it is worth is what the hold of that sum in a sandbox is worth. -/
noncomputable def Try.pinned : Pinned := { name := "ytjimjoiedmccnaa", sum := "15edb4d28237b2e67711c4c4946791a4dc663861743652464a8ad6a3ee0c95ad", checked := Try.checked }
namespace Rows
def none {H : Type} : Left H := { results := [], args := [] }

/-- 'laws.FnExactDeterminantOf': WHATEVER THE INPUT: true; the input reads as it did. -/
def fnExactDeterminantOfSpec : ChangeSpec := { name := "fnExactDeterminantOf", fn := fun _ => fun
  | [d] => { results := [.lit (.bool true)], args := [d] }
  | _ => none }
def fnExactDeterminantOfRow : OpenClaim := { program := "ytjimjoiedmccnaa", sum := "15edb4d28237b2e67711c4c4946791a4dc663861743652464a8ad6a3ee0c95ad", func := "loop.example/g01273/laws.FnExactDeterminantOf", spec := "fnExactDeterminantOf", unfollowed := true, recurses := true, apart := false }
def FnExactDeterminantOfSaid : Prop := fnExactDeterminantOfRow.holds Try.pinned (OpenSpec.ofChange fnExactDeterminantOfSpec)

/-- ITS FALSE NEIGHBOUR: 'it returns false'. Refute it at one input. -/
def fnExactDeterminantOfWrong : ChangeSpec := { name := "fnExactDeterminantOf", fn := fun _ => fun
  | [d] => { results := [.lit (.bool false)], args := [d] }
  | _ => none }
def FnExactDeterminantOfWrongFalsely : Prop := fnExactDeterminantOfRow.holds Try.pinned (OpenSpec.ofChange fnExactDeterminantOfWrong)

/-- 'laws.FnExactAddCouples': WHATEVER THE INPUT: true; the input reads as it did. -/
def fnExactAddCouplesSpec : ChangeSpec := { name := "fnExactAddCouples", fn := fun _ => fun
  | [d1, d2] => { results := [.lit (.bool true)], args := [d1, d2] }
  | _ => none }
def fnExactAddCouplesRow : OpenClaim := { program := "ytjimjoiedmccnaa", sum := "15edb4d28237b2e67711c4c4946791a4dc663861743652464a8ad6a3ee0c95ad", func := "loop.example/g01273/laws.FnExactAddCouples", spec := "fnExactAddCouples", unfollowed := true, recurses := true, apart := false }
def FnExactAddCouplesSaid : Prop := fnExactAddCouplesRow.holds Try.pinned (OpenSpec.ofChange fnExactAddCouplesSpec)

/-- ITS FALSE NEIGHBOUR: 'it returns false'. Refute it at one input. -/
def fnExactAddCouplesWrong : ChangeSpec := { name := "fnExactAddCouples", fn := fun _ => fun
  | [d1, d2] => { results := [.lit (.bool false)], args := [d1, d2] }
  | _ => none }
def FnExactAddCouplesWrongFalsely : Prop := fnExactAddCouplesRow.holds Try.pinned (OpenSpec.ofChange fnExactAddCouplesWrong)

/-- 'laws.FnExactRankOfWhole': WHATEVER THE INPUT: true; the input reads as it did. -/
def fnExactRankOfWholeSpec : ChangeSpec := { name := "fnExactRankOfWhole", fn := fun _ => fun
  | [d] => { results := [.lit (.bool true)], args := [d] }
  | _ => none }
def fnExactRankOfWholeRow : OpenClaim := { program := "ytjimjoiedmccnaa", sum := "15edb4d28237b2e67711c4c4946791a4dc663861743652464a8ad6a3ee0c95ad", func := "loop.example/g01273/laws.FnExactRankOfWhole", spec := "fnExactRankOfWhole", unfollowed := true, recurses := true, apart := false }
def FnExactRankOfWholeSaid : Prop := fnExactRankOfWholeRow.holds Try.pinned (OpenSpec.ofChange fnExactRankOfWholeSpec)

/-- ITS FALSE NEIGHBOUR: 'it returns false'. Refute it at one input. -/
def fnExactRankOfWholeWrong : ChangeSpec := { name := "fnExactRankOfWhole", fn := fun _ => fun
  | [d] => { results := [.lit (.bool false)], args := [d] }
  | _ => none }
def FnExactRankOfWholeWrongFalsely : Prop := fnExactRankOfWholeRow.holds Try.pinned (OpenSpec.ofChange fnExactRankOfWholeWrong)

/-- 'laws.FnExactSumOfSpaces': WHATEVER THE INPUT: true; the input reads as it did. -/
def fnExactSumOfSpacesSpec : ChangeSpec := { name := "fnExactSumOfSpaces", fn := fun _ => fun
  | [d1, d2, d3, d4] => { results := [.lit (.bool true)], args := [d1, d2, d3, d4] }
  | _ => none }
def fnExactSumOfSpacesRow : OpenClaim := { program := "ytjimjoiedmccnaa", sum := "15edb4d28237b2e67711c4c4946791a4dc663861743652464a8ad6a3ee0c95ad", func := "loop.example/g01273/laws.FnExactSumOfSpaces", spec := "fnExactSumOfSpaces", unfollowed := true, recurses := true, apart := false }
def FnExactSumOfSpacesSaid : Prop := fnExactSumOfSpacesRow.holds Try.pinned (OpenSpec.ofChange fnExactSumOfSpacesSpec)

/-- ITS FALSE NEIGHBOUR: 'it returns false'. Refute it at one input. -/
def fnExactSumOfSpacesWrong : ChangeSpec := { name := "fnExactSumOfSpaces", fn := fun _ => fun
  | [d1, d2, d3, d4] => { results := [.lit (.bool false)], args := [d1, d2, d3, d4] }
  | _ => none }
def FnExactSumOfSpacesWrongFalsely : Prop := fnExactSumOfSpacesRow.holds Try.pinned (OpenSpec.ofChange fnExactSumOfSpacesWrong)

/-- 'laws.FnExactDualWhole': WHATEVER THE INPUT: true; the input reads as it did. -/
def fnExactDualWholeSpec : ChangeSpec := { name := "fnExactDualWhole", fn := fun _ => fun
  | [d] => { results := [.lit (.bool true)], args := [d] }
  | _ => none }
def fnExactDualWholeRow : OpenClaim := { program := "ytjimjoiedmccnaa", sum := "15edb4d28237b2e67711c4c4946791a4dc663861743652464a8ad6a3ee0c95ad", func := "loop.example/g01273/laws.FnExactDualWhole", spec := "fnExactDualWhole", unfollowed := true, recurses := true, apart := false }
def FnExactDualWholeSaid : Prop := fnExactDualWholeRow.holds Try.pinned (OpenSpec.ofChange fnExactDualWholeSpec)

/-- ITS FALSE NEIGHBOUR: 'it returns false'. Refute it at one input. -/
def fnExactDualWholeWrong : ChangeSpec := { name := "fnExactDualWhole", fn := fun _ => fun
  | [d] => { results := [.lit (.bool false)], args := [d] }
  | _ => none }
def FnExactDualWholeWrongFalsely : Prop := fnExactDualWholeRow.holds Try.pinned (OpenSpec.ofChange fnExactDualWholeWrong)

/-- 'laws.FnExactIsExact': WHATEVER THE INPUT: true; the input reads as it did. -/
def fnExactIsExactSpec : ChangeSpec := { name := "fnExactIsExact", fn := fun _ => fun
  | [d] => { results := [.lit (.bool true)], args := [d] }
  | _ => none }
def fnExactIsExactRow : OpenClaim := { program := "ytjimjoiedmccnaa", sum := "15edb4d28237b2e67711c4c4946791a4dc663861743652464a8ad6a3ee0c95ad", func := "loop.example/g01273/laws.FnExactIsExact", spec := "fnExactIsExact", unfollowed := true, recurses := true, apart := false }
def FnExactIsExactSaid : Prop := fnExactIsExactRow.holds Try.pinned (OpenSpec.ofChange fnExactIsExactSpec)

/-- ITS FALSE NEIGHBOUR: 'it returns false'. Refute it at one input. -/
def fnExactIsExactWrong : ChangeSpec := { name := "fnExactIsExact", fn := fun _ => fun
  | [d] => { results := [.lit (.bool false)], args := [d] }
  | _ => none }
def FnExactIsExactWrongFalsely : Prop := fnExactIsExactRow.holds Try.pinned (OpenSpec.ofChange fnExactIsExactWrong)

/-- 'laws.FnExactJoinBars': WHATEVER THE INPUT: true; the input reads as it did. -/
def fnExactJoinBarsSpec : ChangeSpec := { name := "fnExactJoinBars", fn := fun _ => fun
  | [d1, d2] => { results := [.lit (.bool true)], args := [d1, d2] }
  | _ => none }
def fnExactJoinBarsRow : OpenClaim := { program := "ytjimjoiedmccnaa", sum := "15edb4d28237b2e67711c4c4946791a4dc663861743652464a8ad6a3ee0c95ad", func := "loop.example/g01273/laws.FnExactJoinBars", spec := "fnExactJoinBars", unfollowed := true, recurses := true, apart := false }
def FnExactJoinBarsSaid : Prop := fnExactJoinBarsRow.holds Try.pinned (OpenSpec.ofChange fnExactJoinBarsSpec)

/-- ITS FALSE NEIGHBOUR: 'it returns false'. Refute it at one input. -/
def fnExactJoinBarsWrong : ChangeSpec := { name := "fnExactJoinBars", fn := fun _ => fun
  | [d1, d2] => { results := [.lit (.bool false)], args := [d1, d2] }
  | _ => none }
def FnExactJoinBarsWrongFalsely : Prop := fnExactJoinBarsRow.holds Try.pinned (OpenSpec.ofChange fnExactJoinBarsWrong)

/-- 'laws.FnExactReduceModulo': WHATEVER THE INPUT: true; the input reads as it did. -/
def fnExactReduceModuloSpec : ChangeSpec := { name := "fnExactReduceModulo", fn := fun _ => fun
  | [d1, d2] => { results := [.lit (.bool true)], args := [d1, d2] }
  | _ => none }
def fnExactReduceModuloRow : OpenClaim := { program := "ytjimjoiedmccnaa", sum := "15edb4d28237b2e67711c4c4946791a4dc663861743652464a8ad6a3ee0c95ad", func := "loop.example/g01273/laws.FnExactReduceModulo", spec := "fnExactReduceModulo", unfollowed := true, recurses := true, apart := false }
def FnExactReduceModuloSaid : Prop := fnExactReduceModuloRow.holds Try.pinned (OpenSpec.ofChange fnExactReduceModuloSpec)

/-- ITS FALSE NEIGHBOUR: 'it returns false'. Refute it at one input. -/
def fnExactReduceModuloWrong : ChangeSpec := { name := "fnExactReduceModulo", fn := fun _ => fun
  | [d1, d2] => { results := [.lit (.bool false)], args := [d1, d2] }
  | _ => none }
def FnExactReduceModuloWrongFalsely : Prop := fnExactReduceModuloRow.holds Try.pinned (OpenSpec.ofChange fnExactReduceModuloWrong)

/-- 'laws.FnExactMeetOfSpaces': WHATEVER THE INPUT: true; the input reads as it did. -/
def fnExactMeetOfSpacesSpec : ChangeSpec := { name := "fnExactMeetOfSpaces", fn := fun _ => fun
  | [d1, d2, d3, d4] => { results := [.lit (.bool true)], args := [d1, d2, d3, d4] }
  | _ => none }
def fnExactMeetOfSpacesRow : OpenClaim := { program := "ytjimjoiedmccnaa", sum := "15edb4d28237b2e67711c4c4946791a4dc663861743652464a8ad6a3ee0c95ad", func := "loop.example/g01273/laws.FnExactMeetOfSpaces", spec := "fnExactMeetOfSpaces", unfollowed := true, recurses := true, apart := false }
def FnExactMeetOfSpacesSaid : Prop := fnExactMeetOfSpacesRow.holds Try.pinned (OpenSpec.ofChange fnExactMeetOfSpacesSpec)

/-- ITS FALSE NEIGHBOUR: 'it returns false'. Refute it at one input. -/
def fnExactMeetOfSpacesWrong : ChangeSpec := { name := "fnExactMeetOfSpaces", fn := fun _ => fun
  | [d1, d2, d3, d4] => { results := [.lit (.bool false)], args := [d1, d2, d3, d4] }
  | _ => none }
def FnExactMeetOfSpacesWrongFalsely : Prop := fnExactMeetOfSpacesRow.holds Try.pinned (OpenSpec.ofChange fnExactMeetOfSpacesWrong)

/-- 'laws.FnExactIsDouble': WHATEVER THE INPUT: true; the input reads as it did. -/
def fnExactIsDoubleSpec : ChangeSpec := { name := "fnExactIsDouble", fn := fun _ => fun
  | [d] => { results := [.lit (.bool true)], args := [d] }
  | _ => none }
def fnExactIsDoubleRow : OpenClaim := { program := "ytjimjoiedmccnaa", sum := "15edb4d28237b2e67711c4c4946791a4dc663861743652464a8ad6a3ee0c95ad", func := "loop.example/g01273/laws.FnExactIsDouble", spec := "fnExactIsDouble", unfollowed := true, recurses := true, apart := false }
def FnExactIsDoubleSaid : Prop := fnExactIsDoubleRow.holds Try.pinned (OpenSpec.ofChange fnExactIsDoubleSpec)

/-- ITS FALSE NEIGHBOUR: 'it returns false'. Refute it at one input. -/
def fnExactIsDoubleWrong : ChangeSpec := { name := "fnExactIsDouble", fn := fun _ => fun
  | [d] => { results := [.lit (.bool false)], args := [d] }
  | _ => none }
def FnExactIsDoubleWrongFalsely : Prop := fnExactIsDoubleRow.holds Try.pinned (OpenSpec.ofChange fnExactIsDoubleWrong)

/-- 'laws.FnExactComplexOfBars': WHATEVER THE INPUT: true; the input reads as it did. -/
def fnExactComplexOfBarsSpec : ChangeSpec := { name := "fnExactComplexOfBars", fn := fun _ => fun
  | [d1, d2, d3] => { results := [.lit (.bool true)], args := [d1, d2, d3] }
  | _ => none }
def fnExactComplexOfBarsRow : OpenClaim := { program := "ytjimjoiedmccnaa", sum := "15edb4d28237b2e67711c4c4946791a4dc663861743652464a8ad6a3ee0c95ad", func := "loop.example/g01273/laws.FnExactComplexOfBars", spec := "fnExactComplexOfBars", unfollowed := true, recurses := true, apart := false }
def FnExactComplexOfBarsSaid : Prop := fnExactComplexOfBarsRow.holds Try.pinned (OpenSpec.ofChange fnExactComplexOfBarsSpec)

/-- ITS FALSE NEIGHBOUR: 'it returns false'. Refute it at one input. -/
def fnExactComplexOfBarsWrong : ChangeSpec := { name := "fnExactComplexOfBars", fn := fun _ => fun
  | [d1, d2, d3] => { results := [.lit (.bool false)], args := [d1, d2, d3] }
  | _ => none }
def FnExactComplexOfBarsWrongFalsely : Prop := fnExactComplexOfBarsRow.holds Try.pinned (OpenSpec.ofChange fnExactComplexOfBarsWrong)

/-- 'laws.FnExactDoubleEuler': WHATEVER THE INPUT: true; the input reads as it did. -/
def fnExactDoubleEulerSpec : ChangeSpec := { name := "fnExactDoubleEuler", fn := fun _ => fun
  | [d] => { results := [.lit (.bool true)], args := [d] }
  | _ => none }
def fnExactDoubleEulerRow : OpenClaim := { program := "ytjimjoiedmccnaa", sum := "15edb4d28237b2e67711c4c4946791a4dc663861743652464a8ad6a3ee0c95ad", func := "loop.example/g01273/laws.FnExactDoubleEuler", spec := "fnExactDoubleEuler", unfollowed := true, recurses := true, apart := false }
def FnExactDoubleEulerSaid : Prop := fnExactDoubleEulerRow.holds Try.pinned (OpenSpec.ofChange fnExactDoubleEulerSpec)

/-- ITS FALSE NEIGHBOUR: 'it returns false'. Refute it at one input. -/
def fnExactDoubleEulerWrong : ChangeSpec := { name := "fnExactDoubleEuler", fn := fun _ => fun
  | [d] => { results := [.lit (.bool false)], args := [d] }
  | _ => none }
def FnExactDoubleEulerWrongFalsely : Prop := fnExactDoubleEulerRow.holds Try.pinned (OpenSpec.ofChange fnExactDoubleEulerWrong)

/- THE SECOND FORM. 'bulk': how many values and letters a reading holds, each counted each time it is reached (what is shared counts as often as it is met; a slice's spare places count too). A statement '..UptoSaid' is the law's where the arguments, and the package variables that the reading takes, are together of bulk at most 1048576: NARROWER than '..Said'. Prove '..Said' where nothing that the law and all that it calls make is longer than what came in: it says more and counts as full. Else prove '..UptoSaid'. A law counts once. -/
mutual
def uptoBulk {H : Type} : DataW H → Nat
  | .lit (.string bytes) => bytes.length + 1
  | .lit _ => 1
  | .nil => 1
  | .ptr d => uptoBulk d + 1
  | .slice elems spare => uptoBulkAll elems + uptoBulkAll spare + 1
  | .agg parts => uptoBulkAll parts + 1
  | .iface _ d => uptoBulk d + 1
  | .map entries => uptoBulkEntries entries + 1
  | .held _ => 1
def uptoBulkAll {H : Type} : List (DataW H) → Nat
  | [] => 0
  | d :: r => uptoBulk d + uptoBulkAll r
def uptoBulkEntries {H : Type} : List (Lit × DataW H) → Nat
  | [] => 0
  | x :: r => uptoBulkEntry x + uptoBulkEntries r
def uptoBulkEntry {H : Type} : Lit × DataW H → Nat
  | (.string bytes, d) => bytes.length + uptoBulk d + 1
  | (_, d) => uptoBulk d + 1
 end
def uptoSmall : (H : Type) → List (DataW H) → Bool := fun _ ds => decide (uptoBulkAll ds ≤ 1048576)
def OpenSpec.upto (s : _root_.Go.ChangeSpec) : _root_.Go.OpenSpec := { _root_.Go.OpenSpec.ofChange s with cond := some uptoSmall }

/-- 'laws.FnExactDeterminantOf', WHERE WHAT IT READS IS OF BULK AT MOST 1048576: true; the input reads as it did. -/
def fnExactDeterminantOfUptoRow : OpenClaim := { program := "ytjimjoiedmccnaa", sum := "15edb4d28237b2e67711c4c4946791a4dc663861743652464a8ad6a3ee0c95ad", func := "loop.example/g01273/laws.FnExactDeterminantOf", spec := "fnExactDeterminantOf", unfollowed := true, recurses := true, apart := false, narrowed := true }
def FnExactDeterminantOfUptoSaid : Prop := fnExactDeterminantOfUptoRow.holds Try.pinned (OpenSpec.upto fnExactDeterminantOfSpec)

/-- 'laws.FnExactAddCouples', WHERE WHAT IT READS IS OF BULK AT MOST 1048576: true; the input reads as it did. -/
def fnExactAddCouplesUptoRow : OpenClaim := { program := "ytjimjoiedmccnaa", sum := "15edb4d28237b2e67711c4c4946791a4dc663861743652464a8ad6a3ee0c95ad", func := "loop.example/g01273/laws.FnExactAddCouples", spec := "fnExactAddCouples", unfollowed := true, recurses := true, apart := false, narrowed := true }
def FnExactAddCouplesUptoSaid : Prop := fnExactAddCouplesUptoRow.holds Try.pinned (OpenSpec.upto fnExactAddCouplesSpec)

/-- 'laws.FnExactRankOfWhole', WHERE WHAT IT READS IS OF BULK AT MOST 1048576: true; the input reads as it did. -/
def fnExactRankOfWholeUptoRow : OpenClaim := { program := "ytjimjoiedmccnaa", sum := "15edb4d28237b2e67711c4c4946791a4dc663861743652464a8ad6a3ee0c95ad", func := "loop.example/g01273/laws.FnExactRankOfWhole", spec := "fnExactRankOfWhole", unfollowed := true, recurses := true, apart := false, narrowed := true }
def FnExactRankOfWholeUptoSaid : Prop := fnExactRankOfWholeUptoRow.holds Try.pinned (OpenSpec.upto fnExactRankOfWholeSpec)

/-- 'laws.FnExactSumOfSpaces', WHERE WHAT IT READS IS OF BULK AT MOST 1048576: true; the input reads as it did. -/
def fnExactSumOfSpacesUptoRow : OpenClaim := { program := "ytjimjoiedmccnaa", sum := "15edb4d28237b2e67711c4c4946791a4dc663861743652464a8ad6a3ee0c95ad", func := "loop.example/g01273/laws.FnExactSumOfSpaces", spec := "fnExactSumOfSpaces", unfollowed := true, recurses := true, apart := false, narrowed := true }
def FnExactSumOfSpacesUptoSaid : Prop := fnExactSumOfSpacesUptoRow.holds Try.pinned (OpenSpec.upto fnExactSumOfSpacesSpec)

/-- 'laws.FnExactDualWhole', WHERE WHAT IT READS IS OF BULK AT MOST 1048576: true; the input reads as it did. -/
def fnExactDualWholeUptoRow : OpenClaim := { program := "ytjimjoiedmccnaa", sum := "15edb4d28237b2e67711c4c4946791a4dc663861743652464a8ad6a3ee0c95ad", func := "loop.example/g01273/laws.FnExactDualWhole", spec := "fnExactDualWhole", unfollowed := true, recurses := true, apart := false, narrowed := true }
def FnExactDualWholeUptoSaid : Prop := fnExactDualWholeUptoRow.holds Try.pinned (OpenSpec.upto fnExactDualWholeSpec)

/-- 'laws.FnExactIsExact', WHERE WHAT IT READS IS OF BULK AT MOST 1048576: true; the input reads as it did. -/
def fnExactIsExactUptoRow : OpenClaim := { program := "ytjimjoiedmccnaa", sum := "15edb4d28237b2e67711c4c4946791a4dc663861743652464a8ad6a3ee0c95ad", func := "loop.example/g01273/laws.FnExactIsExact", spec := "fnExactIsExact", unfollowed := true, recurses := true, apart := false, narrowed := true }
def FnExactIsExactUptoSaid : Prop := fnExactIsExactUptoRow.holds Try.pinned (OpenSpec.upto fnExactIsExactSpec)

/-- 'laws.FnExactJoinBars', WHERE WHAT IT READS IS OF BULK AT MOST 1048576: true; the input reads as it did. -/
def fnExactJoinBarsUptoRow : OpenClaim := { program := "ytjimjoiedmccnaa", sum := "15edb4d28237b2e67711c4c4946791a4dc663861743652464a8ad6a3ee0c95ad", func := "loop.example/g01273/laws.FnExactJoinBars", spec := "fnExactJoinBars", unfollowed := true, recurses := true, apart := false, narrowed := true }
def FnExactJoinBarsUptoSaid : Prop := fnExactJoinBarsUptoRow.holds Try.pinned (OpenSpec.upto fnExactJoinBarsSpec)

/-- 'laws.FnExactReduceModulo', WHERE WHAT IT READS IS OF BULK AT MOST 1048576: true; the input reads as it did. -/
def fnExactReduceModuloUptoRow : OpenClaim := { program := "ytjimjoiedmccnaa", sum := "15edb4d28237b2e67711c4c4946791a4dc663861743652464a8ad6a3ee0c95ad", func := "loop.example/g01273/laws.FnExactReduceModulo", spec := "fnExactReduceModulo", unfollowed := true, recurses := true, apart := false, narrowed := true }
def FnExactReduceModuloUptoSaid : Prop := fnExactReduceModuloUptoRow.holds Try.pinned (OpenSpec.upto fnExactReduceModuloSpec)

/-- 'laws.FnExactMeetOfSpaces', WHERE WHAT IT READS IS OF BULK AT MOST 1048576: true; the input reads as it did. -/
def fnExactMeetOfSpacesUptoRow : OpenClaim := { program := "ytjimjoiedmccnaa", sum := "15edb4d28237b2e67711c4c4946791a4dc663861743652464a8ad6a3ee0c95ad", func := "loop.example/g01273/laws.FnExactMeetOfSpaces", spec := "fnExactMeetOfSpaces", unfollowed := true, recurses := true, apart := false, narrowed := true }
def FnExactMeetOfSpacesUptoSaid : Prop := fnExactMeetOfSpacesUptoRow.holds Try.pinned (OpenSpec.upto fnExactMeetOfSpacesSpec)

/-- 'laws.FnExactIsDouble', WHERE WHAT IT READS IS OF BULK AT MOST 1048576: true; the input reads as it did. -/
def fnExactIsDoubleUptoRow : OpenClaim := { program := "ytjimjoiedmccnaa", sum := "15edb4d28237b2e67711c4c4946791a4dc663861743652464a8ad6a3ee0c95ad", func := "loop.example/g01273/laws.FnExactIsDouble", spec := "fnExactIsDouble", unfollowed := true, recurses := true, apart := false, narrowed := true }
def FnExactIsDoubleUptoSaid : Prop := fnExactIsDoubleUptoRow.holds Try.pinned (OpenSpec.upto fnExactIsDoubleSpec)

/-- 'laws.FnExactComplexOfBars', WHERE WHAT IT READS IS OF BULK AT MOST 1048576: true; the input reads as it did. -/
def fnExactComplexOfBarsUptoRow : OpenClaim := { program := "ytjimjoiedmccnaa", sum := "15edb4d28237b2e67711c4c4946791a4dc663861743652464a8ad6a3ee0c95ad", func := "loop.example/g01273/laws.FnExactComplexOfBars", spec := "fnExactComplexOfBars", unfollowed := true, recurses := true, apart := false, narrowed := true }
def FnExactComplexOfBarsUptoSaid : Prop := fnExactComplexOfBarsUptoRow.holds Try.pinned (OpenSpec.upto fnExactComplexOfBarsSpec)

/-- 'laws.FnExactDoubleEuler', WHERE WHAT IT READS IS OF BULK AT MOST 1048576: true; the input reads as it did. -/
def fnExactDoubleEulerUptoRow : OpenClaim := { program := "ytjimjoiedmccnaa", sum := "15edb4d28237b2e67711c4c4946791a4dc663861743652464a8ad6a3ee0c95ad", func := "loop.example/g01273/laws.FnExactDoubleEuler", spec := "fnExactDoubleEuler", unfollowed := true, recurses := true, apart := false, narrowed := true }
def FnExactDoubleEulerUptoSaid : Prop := fnExactDoubleEulerUptoRow.holds Try.pinned (OpenSpec.upto fnExactDoubleEulerSpec)

end Rows
end Go.Proofs.Ytjimjoiedmccnaa

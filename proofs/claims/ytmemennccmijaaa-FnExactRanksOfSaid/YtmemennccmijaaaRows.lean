/-
  No cell of these rows narrows 'for every input' (looked for: loops, veiled, ifaces, maps, wideKeys, modest, calm, conditions, laid).
  DERIVED. THE GIVEN ROWS OF THIS SEAT. 12 by the template 'for every input the law returns true; each argument reads behind the call as it read before'; 0 by the template 'total and deterministic' (their statements: YtmemennccmijaaaTotals.lean).
  GIVEN WITH THE SEED: the statements are not yours to turn. If you find one false, say at which input.
  Laid BY PROGRAM, IN A SANDBOX (cutbox-rows.mjs): the forced cells as the released guide's own fill.sh prints them over the translation 610d0b024602ca60… (all of the seat's roots in one cut). By AI agents, Wed Nov 11 2026. No macro, syntax, notation, axiom, sorry.
-/
import Derived.Test.YtmemennccmijaaaChecked
import GoSem.Claim
import GoSem.ClaimJoined
import GoSem.ClaimMapViews
import Derived.JoinedTies
import Derived.KernelRfl
namespace Go.Proofs.Ytmemennccmijaaa
/- THE CELL 'sum', in the pinned program and in every row, IS THE sha256 OF THE DUMP (.gsa) THAT YtmemennccmijaaaProg.lean LOADS. Nothing in Lean hashes anything: it is a label: what it is worth is what the hold of that sum in a sandbox is worth. -/
noncomputable def Try.pinned : Pinned := { name := "ytmemennccmijaaa", sum := "610d0b024602ca60b31904bb33f8e6675c0417e80b2ced9423816c52806be8c6", checked := Try.checked }
namespace Rows
def none {H : Type} : Left H := { results := [], args := [] }

/-- 'laws.FnExactIsComplex': WHATEVER THE INPUT: true; the input reads as it did. -/
def fnExactIsComplexSpec : ChangeSpec := { name := "fnExactIsComplex", fn := fun _ => fun
  | [d] => { results := [.lit (.bool true)], args := [d] }
  | _ => none }
def fnExactIsComplexRow : OpenClaim := { program := "ytmemennccmijaaa", sum := "610d0b024602ca60b31904bb33f8e6675c0417e80b2ced9423816c52806be8c6", func := "loop.example/g01273/laws.FnExactIsComplex", spec := "fnExactIsComplex", unfollowed := true, recurses := true, apart := false }
def FnExactIsComplexSaid : Prop := fnExactIsComplexRow.holds Try.pinned (OpenSpec.ofChange fnExactIsComplexSpec)

/-- ITS FALSE NEIGHBOUR: 'it returns false'. Refute it at one input. -/
def fnExactIsComplexWrong : ChangeSpec := { name := "fnExactIsComplex", fn := fun _ => fun
  | [d] => { results := [.lit (.bool false)], args := [d] }
  | _ => none }
def FnExactIsComplexWrongFalsely : Prop := fnExactIsComplexRow.holds Try.pinned (OpenSpec.ofChange fnExactIsComplexWrong)

/-- 'laws.FnExactEulerNumber': WHATEVER THE INPUT: true; the input reads as it did. -/
def fnExactEulerNumberSpec : ChangeSpec := { name := "fnExactEulerNumber", fn := fun _ => fun
  | [d] => { results := [.lit (.bool true)], args := [d] }
  | _ => none }
def fnExactEulerNumberRow : OpenClaim := { program := "ytmemennccmijaaa", sum := "610d0b024602ca60b31904bb33f8e6675c0417e80b2ced9423816c52806be8c6", func := "loop.example/g01273/laws.FnExactEulerNumber", spec := "fnExactEulerNumber", unfollowed := true, recurses := true, apart := false }
def FnExactEulerNumberSaid : Prop := fnExactEulerNumberRow.holds Try.pinned (OpenSpec.ofChange fnExactEulerNumberSpec)

/-- ITS FALSE NEIGHBOUR: 'it returns false'. Refute it at one input. -/
def fnExactEulerNumberWrong : ChangeSpec := { name := "fnExactEulerNumber", fn := fun _ => fun
  | [d] => { results := [.lit (.bool false)], args := [d] }
  | _ => none }
def FnExactEulerNumberWrongFalsely : Prop := fnExactEulerNumberRow.holds Try.pinned (OpenSpec.ofChange fnExactEulerNumberWrong)

/-- 'laws.FnExactCoupleDifferential': WHATEVER THE INPUT: true; the input reads as it did. -/
def fnExactCoupleDifferentialSpec : ChangeSpec := { name := "fnExactCoupleDifferential", fn := fun _ => fun
  | [d] => { results := [.lit (.bool true)], args := [d] }
  | _ => none }
def fnExactCoupleDifferentialRow : OpenClaim := { program := "ytmemennccmijaaa", sum := "610d0b024602ca60b31904bb33f8e6675c0417e80b2ced9423816c52806be8c6", func := "loop.example/g01273/laws.FnExactCoupleDifferential", spec := "fnExactCoupleDifferential", unfollowed := true, recurses := true, apart := false }
def FnExactCoupleDifferentialSaid : Prop := fnExactCoupleDifferentialRow.holds Try.pinned (OpenSpec.ofChange fnExactCoupleDifferentialSpec)

/-- ITS FALSE NEIGHBOUR: 'it returns false'. Refute it at one input. -/
def fnExactCoupleDifferentialWrong : ChangeSpec := { name := "fnExactCoupleDifferential", fn := fun _ => fun
  | [d] => { results := [.lit (.bool false)], args := [d] }
  | _ => none }
def FnExactCoupleDifferentialWrongFalsely : Prop := fnExactCoupleDifferentialRow.holds Try.pinned (OpenSpec.ofChange fnExactCoupleDifferentialWrong)

/-- 'laws.FnExactAddCouples': WHATEVER THE INPUT: true; the input reads as it did. -/
def fnExactAddCouplesSpec : ChangeSpec := { name := "fnExactAddCouples", fn := fun _ => fun
  | [d1, d2] => { results := [.lit (.bool true)], args := [d1, d2] }
  | _ => none }
def fnExactAddCouplesRow : OpenClaim := { program := "ytmemennccmijaaa", sum := "610d0b024602ca60b31904bb33f8e6675c0417e80b2ced9423816c52806be8c6", func := "loop.example/g01273/laws.FnExactAddCouples", spec := "fnExactAddCouples", unfollowed := true, recurses := true, apart := false }
def FnExactAddCouplesSaid : Prop := fnExactAddCouplesRow.holds Try.pinned (OpenSpec.ofChange fnExactAddCouplesSpec)

/-- ITS FALSE NEIGHBOUR: 'it returns false'. Refute it at one input. -/
def fnExactAddCouplesWrong : ChangeSpec := { name := "fnExactAddCouples", fn := fun _ => fun
  | [d1, d2] => { results := [.lit (.bool false)], args := [d1, d2] }
  | _ => none }
def FnExactAddCouplesWrongFalsely : Prop := fnExactAddCouplesRow.holds Try.pinned (OpenSpec.ofChange fnExactAddCouplesWrong)

/-- 'laws.FnExactReduceRows': WHATEVER THE INPUT: true; the input reads as it did. -/
def fnExactReduceRowsSpec : ChangeSpec := { name := "fnExactReduceRows", fn := fun _ => fun
  | [d1, d2, d3] => { results := [.lit (.bool true)], args := [d1, d2, d3] }
  | _ => none }
def fnExactReduceRowsRow : OpenClaim := { program := "ytmemennccmijaaa", sum := "610d0b024602ca60b31904bb33f8e6675c0417e80b2ced9423816c52806be8c6", func := "loop.example/g01273/laws.FnExactReduceRows", spec := "fnExactReduceRows", unfollowed := true, recurses := true, apart := false }
def FnExactReduceRowsSaid : Prop := fnExactReduceRowsRow.holds Try.pinned (OpenSpec.ofChange fnExactReduceRowsSpec)

/-- ITS FALSE NEIGHBOUR: 'it returns false'. Refute it at one input. -/
def fnExactReduceRowsWrong : ChangeSpec := { name := "fnExactReduceRows", fn := fun _ => fun
  | [d1, d2, d3] => { results := [.lit (.bool false)], args := [d1, d2, d3] }
  | _ => none }
def FnExactReduceRowsWrongFalsely : Prop := fnExactReduceRowsRow.holds Try.pinned (OpenSpec.ofChange fnExactReduceRowsWrong)

/-- 'laws.FnExactSumOfSpaces': WHATEVER THE INPUT: true; the input reads as it did. -/
def fnExactSumOfSpacesSpec : ChangeSpec := { name := "fnExactSumOfSpaces", fn := fun _ => fun
  | [d1, d2, d3, d4] => { results := [.lit (.bool true)], args := [d1, d2, d3, d4] }
  | _ => none }
def fnExactSumOfSpacesRow : OpenClaim := { program := "ytmemennccmijaaa", sum := "610d0b024602ca60b31904bb33f8e6675c0417e80b2ced9423816c52806be8c6", func := "loop.example/g01273/laws.FnExactSumOfSpaces", spec := "fnExactSumOfSpaces", unfollowed := true, recurses := true, apart := false }
def FnExactSumOfSpacesSaid : Prop := fnExactSumOfSpacesRow.holds Try.pinned (OpenSpec.ofChange fnExactSumOfSpacesSpec)

/-- ITS FALSE NEIGHBOUR: 'it returns false'. Refute it at one input. -/
def fnExactSumOfSpacesWrong : ChangeSpec := { name := "fnExactSumOfSpaces", fn := fun _ => fun
  | [d1, d2, d3, d4] => { results := [.lit (.bool false)], args := [d1, d2, d3, d4] }
  | _ => none }
def FnExactSumOfSpacesWrongFalsely : Prop := fnExactSumOfSpacesRow.holds Try.pinned (OpenSpec.ofChange fnExactSumOfSpacesWrong)

/-- 'laws.FnExactRanksOf': WHATEVER THE INPUT: true; the input reads as it did. -/
def fnExactRanksOfSpec : ChangeSpec := { name := "fnExactRanksOf", fn := fun _ => fun
  | [d] => { results := [.lit (.bool true)], args := [d] }
  | _ => none }
def fnExactRanksOfRow : OpenClaim := { program := "ytmemennccmijaaa", sum := "610d0b024602ca60b31904bb33f8e6675c0417e80b2ced9423816c52806be8c6", func := "loop.example/g01273/laws.FnExactRanksOf", spec := "fnExactRanksOf", unfollowed := true, recurses := true, apart := false }
def FnExactRanksOfSaid : Prop := fnExactRanksOfRow.holds Try.pinned (OpenSpec.ofChange fnExactRanksOfSpec)

/-- ITS FALSE NEIGHBOUR: 'it returns false'. Refute it at one input. -/
def fnExactRanksOfWrong : ChangeSpec := { name := "fnExactRanksOf", fn := fun _ => fun
  | [d] => { results := [.lit (.bool false)], args := [d] }
  | _ => none }
def FnExactRanksOfWrongFalsely : Prop := fnExactRanksOfRow.holds Try.pinned (OpenSpec.ofChange fnExactRanksOfWrong)

/-- 'laws.FnExactIsExact': WHATEVER THE INPUT: true; the input reads as it did. -/
def fnExactIsExactSpec : ChangeSpec := { name := "fnExactIsExact", fn := fun _ => fun
  | [d] => { results := [.lit (.bool true)], args := [d] }
  | _ => none }
def fnExactIsExactRow : OpenClaim := { program := "ytmemennccmijaaa", sum := "610d0b024602ca60b31904bb33f8e6675c0417e80b2ced9423816c52806be8c6", func := "loop.example/g01273/laws.FnExactIsExact", spec := "fnExactIsExact", unfollowed := true, recurses := true, apart := false }
def FnExactIsExactSaid : Prop := fnExactIsExactRow.holds Try.pinned (OpenSpec.ofChange fnExactIsExactSpec)

/-- ITS FALSE NEIGHBOUR: 'it returns false'. Refute it at one input. -/
def fnExactIsExactWrong : ChangeSpec := { name := "fnExactIsExact", fn := fun _ => fun
  | [d] => { results := [.lit (.bool false)], args := [d] }
  | _ => none }
def FnExactIsExactWrongFalsely : Prop := fnExactIsExactRow.holds Try.pinned (OpenSpec.ofChange fnExactIsExactWrong)

/-- 'laws.FnExactMeetOfSpaces': WHATEVER THE INPUT: true; the input reads as it did. -/
def fnExactMeetOfSpacesSpec : ChangeSpec := { name := "fnExactMeetOfSpaces", fn := fun _ => fun
  | [d1, d2, d3, d4] => { results := [.lit (.bool true)], args := [d1, d2, d3, d4] }
  | _ => none }
def fnExactMeetOfSpacesRow : OpenClaim := { program := "ytmemennccmijaaa", sum := "610d0b024602ca60b31904bb33f8e6675c0417e80b2ced9423816c52806be8c6", func := "loop.example/g01273/laws.FnExactMeetOfSpaces", spec := "fnExactMeetOfSpaces", unfollowed := true, recurses := true, apart := false }
def FnExactMeetOfSpacesSaid : Prop := fnExactMeetOfSpacesRow.holds Try.pinned (OpenSpec.ofChange fnExactMeetOfSpacesSpec)

/-- ITS FALSE NEIGHBOUR: 'it returns false'. Refute it at one input. -/
def fnExactMeetOfSpacesWrong : ChangeSpec := { name := "fnExactMeetOfSpaces", fn := fun _ => fun
  | [d1, d2, d3, d4] => { results := [.lit (.bool false)], args := [d1, d2, d3, d4] }
  | _ => none }
def FnExactMeetOfSpacesWrongFalsely : Prop := fnExactMeetOfSpacesRow.holds Try.pinned (OpenSpec.ofChange fnExactMeetOfSpacesWrong)

/-- 'laws.FnSpaces': WHATEVER THE INPUT: true; the input reads as it did. -/
def fnSpacesSpec : ChangeSpec := { name := "fnSpaces", fn := fun _ => fun
  | [d] => { results := [.lit (.bool true)], args := [d] }
  | _ => none }
def fnSpacesRow : OpenClaim := { program := "ytmemennccmijaaa", sum := "610d0b024602ca60b31904bb33f8e6675c0417e80b2ced9423816c52806be8c6", func := "loop.example/g01273/laws.FnSpaces", spec := "fnSpaces", unfollowed := true, recurses := true, apart := false }
def FnSpacesSaid : Prop := fnSpacesRow.holds Try.pinned (OpenSpec.ofChange fnSpacesSpec)

/-- ITS FALSE NEIGHBOUR: 'it returns false'. Refute it at one input. -/
def fnSpacesWrong : ChangeSpec := { name := "fnSpaces", fn := fun _ => fun
  | [d] => { results := [.lit (.bool false)], args := [d] }
  | _ => none }
def FnSpacesWrongFalsely : Prop := fnSpacesRow.holds Try.pinned (OpenSpec.ofChange fnSpacesWrong)

/-- 'laws.FnExactIsDouble': WHATEVER THE INPUT: true; the input reads as it did. -/
def fnExactIsDoubleSpec : ChangeSpec := { name := "fnExactIsDouble", fn := fun _ => fun
  | [d] => { results := [.lit (.bool true)], args := [d] }
  | _ => none }
def fnExactIsDoubleRow : OpenClaim := { program := "ytmemennccmijaaa", sum := "610d0b024602ca60b31904bb33f8e6675c0417e80b2ced9423816c52806be8c6", func := "loop.example/g01273/laws.FnExactIsDouble", spec := "fnExactIsDouble", unfollowed := true, recurses := true, apart := false }
def FnExactIsDoubleSaid : Prop := fnExactIsDoubleRow.holds Try.pinned (OpenSpec.ofChange fnExactIsDoubleSpec)

/-- ITS FALSE NEIGHBOUR: 'it returns false'. Refute it at one input. -/
def fnExactIsDoubleWrong : ChangeSpec := { name := "fnExactIsDouble", fn := fun _ => fun
  | [d] => { results := [.lit (.bool false)], args := [d] }
  | _ => none }
def FnExactIsDoubleWrongFalsely : Prop := fnExactIsDoubleRow.holds Try.pinned (OpenSpec.ofChange fnExactIsDoubleWrong)

/-- 'laws.FnExactDoubleEuler': WHATEVER THE INPUT: true; the input reads as it did. -/
def fnExactDoubleEulerSpec : ChangeSpec := { name := "fnExactDoubleEuler", fn := fun _ => fun
  | [d] => { results := [.lit (.bool true)], args := [d] }
  | _ => none }
def fnExactDoubleEulerRow : OpenClaim := { program := "ytmemennccmijaaa", sum := "610d0b024602ca60b31904bb33f8e6675c0417e80b2ced9423816c52806be8c6", func := "loop.example/g01273/laws.FnExactDoubleEuler", spec := "fnExactDoubleEuler", unfollowed := true, recurses := true, apart := false }
def FnExactDoubleEulerSaid : Prop := fnExactDoubleEulerRow.holds Try.pinned (OpenSpec.ofChange fnExactDoubleEulerSpec)

/-- ITS FALSE NEIGHBOUR: 'it returns false'. Refute it at one input. -/
def fnExactDoubleEulerWrong : ChangeSpec := { name := "fnExactDoubleEuler", fn := fun _ => fun
  | [d] => { results := [.lit (.bool false)], args := [d] }
  | _ => none }
def FnExactDoubleEulerWrongFalsely : Prop := fnExactDoubleEulerRow.holds Try.pinned (OpenSpec.ofChange fnExactDoubleEulerWrong)

/- THE SECOND FORM. 'bulk': how many values and letters a reading holds, each counted each time it is reached (what is shared counts as often as it is met; a slice's spare places count too). A statement '..UptoSaid' is the law's where the arguments, and the package variables that the reading takes, are together of bulk at most 1048576: NARROWER than '..Said'. Prove '..Said' where nothing that the law and all that it calls make is longer than what came in: it says more and counts as full. Else prove '..UptoSaid'. A law counts once. -/
mutual
def uptoBulk {H : Type} : DataW H → Nat
  | .lit (.string bytes) => bytes.length + 1
  | .lit _ => 1
  | .nil => 1
  | .ptr d => uptoBulk d + 1
  | .slice elems spare => uptoBulkAll elems + uptoBulkAll spare + 1
  | .agg parts => uptoBulkAll parts + 1
  | .iface _ d => uptoBulk d + 1
  | .map entries => uptoBulkEntries entries + 1
  | .held _ => 1
def uptoBulkAll {H : Type} : List (DataW H) → Nat
  | [] => 0
  | d :: r => uptoBulk d + uptoBulkAll r
def uptoBulkEntries {H : Type} : List (Lit × DataW H) → Nat
  | [] => 0
  | x :: r => uptoBulkEntry x + uptoBulkEntries r
def uptoBulkEntry {H : Type} : Lit × DataW H → Nat
  | (.string bytes, d) => bytes.length + uptoBulk d + 1
  | (_, d) => uptoBulk d + 1
 end
def uptoSmall : (H : Type) → List (DataW H) → Bool := fun _ ds => decide (uptoBulkAll ds ≤ 1048576)
def OpenSpec.upto (s : _root_.Go.ChangeSpec) : _root_.Go.OpenSpec := { _root_.Go.OpenSpec.ofChange s with cond := some uptoSmall }

/-- 'laws.FnExactIsComplex', WHERE WHAT IT READS IS OF BULK AT MOST 1048576: true; the input reads as it did. -/
def fnExactIsComplexUptoRow : OpenClaim := { program := "ytmemennccmijaaa", sum := "610d0b024602ca60b31904bb33f8e6675c0417e80b2ced9423816c52806be8c6", func := "loop.example/g01273/laws.FnExactIsComplex", spec := "fnExactIsComplex", unfollowed := true, recurses := true, apart := false, narrowed := true }
def FnExactIsComplexUptoSaid : Prop := fnExactIsComplexUptoRow.holds Try.pinned (OpenSpec.upto fnExactIsComplexSpec)

/-- 'laws.FnExactEulerNumber', WHERE WHAT IT READS IS OF BULK AT MOST 1048576: true; the input reads as it did. -/
def fnExactEulerNumberUptoRow : OpenClaim := { program := "ytmemennccmijaaa", sum := "610d0b024602ca60b31904bb33f8e6675c0417e80b2ced9423816c52806be8c6", func := "loop.example/g01273/laws.FnExactEulerNumber", spec := "fnExactEulerNumber", unfollowed := true, recurses := true, apart := false, narrowed := true }
def FnExactEulerNumberUptoSaid : Prop := fnExactEulerNumberUptoRow.holds Try.pinned (OpenSpec.upto fnExactEulerNumberSpec)

/-- 'laws.FnExactCoupleDifferential', WHERE WHAT IT READS IS OF BULK AT MOST 1048576: true; the input reads as it did. -/
def fnExactCoupleDifferentialUptoRow : OpenClaim := { program := "ytmemennccmijaaa", sum := "610d0b024602ca60b31904bb33f8e6675c0417e80b2ced9423816c52806be8c6", func := "loop.example/g01273/laws.FnExactCoupleDifferential", spec := "fnExactCoupleDifferential", unfollowed := true, recurses := true, apart := false, narrowed := true }
def FnExactCoupleDifferentialUptoSaid : Prop := fnExactCoupleDifferentialUptoRow.holds Try.pinned (OpenSpec.upto fnExactCoupleDifferentialSpec)

/-- 'laws.FnExactAddCouples', WHERE WHAT IT READS IS OF BULK AT MOST 1048576: true; the input reads as it did. -/
def fnExactAddCouplesUptoRow : OpenClaim := { program := "ytmemennccmijaaa", sum := "610d0b024602ca60b31904bb33f8e6675c0417e80b2ced9423816c52806be8c6", func := "loop.example/g01273/laws.FnExactAddCouples", spec := "fnExactAddCouples", unfollowed := true, recurses := true, apart := false, narrowed := true }
def FnExactAddCouplesUptoSaid : Prop := fnExactAddCouplesUptoRow.holds Try.pinned (OpenSpec.upto fnExactAddCouplesSpec)

/-- 'laws.FnExactReduceRows', WHERE WHAT IT READS IS OF BULK AT MOST 1048576: true; the input reads as it did. -/
def fnExactReduceRowsUptoRow : OpenClaim := { program := "ytmemennccmijaaa", sum := "610d0b024602ca60b31904bb33f8e6675c0417e80b2ced9423816c52806be8c6", func := "loop.example/g01273/laws.FnExactReduceRows", spec := "fnExactReduceRows", unfollowed := true, recurses := true, apart := false, narrowed := true }
def FnExactReduceRowsUptoSaid : Prop := fnExactReduceRowsUptoRow.holds Try.pinned (OpenSpec.upto fnExactReduceRowsSpec)

/-- 'laws.FnExactSumOfSpaces', WHERE WHAT IT READS IS OF BULK AT MOST 1048576: true; the input reads as it did. -/
def fnExactSumOfSpacesUptoRow : OpenClaim := { program := "ytmemennccmijaaa", sum := "610d0b024602ca60b31904bb33f8e6675c0417e80b2ced9423816c52806be8c6", func := "loop.example/g01273/laws.FnExactSumOfSpaces", spec := "fnExactSumOfSpaces", unfollowed := true, recurses := true, apart := false, narrowed := true }
def FnExactSumOfSpacesUptoSaid : Prop := fnExactSumOfSpacesUptoRow.holds Try.pinned (OpenSpec.upto fnExactSumOfSpacesSpec)

/-- 'laws.FnExactRanksOf', WHERE WHAT IT READS IS OF BULK AT MOST 1048576: true; the input reads as it did. -/
def fnExactRanksOfUptoRow : OpenClaim := { program := "ytmemennccmijaaa", sum := "610d0b024602ca60b31904bb33f8e6675c0417e80b2ced9423816c52806be8c6", func := "loop.example/g01273/laws.FnExactRanksOf", spec := "fnExactRanksOf", unfollowed := true, recurses := true, apart := false, narrowed := true }
def FnExactRanksOfUptoSaid : Prop := fnExactRanksOfUptoRow.holds Try.pinned (OpenSpec.upto fnExactRanksOfSpec)

/-- 'laws.FnExactIsExact', WHERE WHAT IT READS IS OF BULK AT MOST 1048576: true; the input reads as it did. -/
def fnExactIsExactUptoRow : OpenClaim := { program := "ytmemennccmijaaa", sum := "610d0b024602ca60b31904bb33f8e6675c0417e80b2ced9423816c52806be8c6", func := "loop.example/g01273/laws.FnExactIsExact", spec := "fnExactIsExact", unfollowed := true, recurses := true, apart := false, narrowed := true }
def FnExactIsExactUptoSaid : Prop := fnExactIsExactUptoRow.holds Try.pinned (OpenSpec.upto fnExactIsExactSpec)

/-- 'laws.FnExactMeetOfSpaces', WHERE WHAT IT READS IS OF BULK AT MOST 1048576: true; the input reads as it did. -/
def fnExactMeetOfSpacesUptoRow : OpenClaim := { program := "ytmemennccmijaaa", sum := "610d0b024602ca60b31904bb33f8e6675c0417e80b2ced9423816c52806be8c6", func := "loop.example/g01273/laws.FnExactMeetOfSpaces", spec := "fnExactMeetOfSpaces", unfollowed := true, recurses := true, apart := false, narrowed := true }
def FnExactMeetOfSpacesUptoSaid : Prop := fnExactMeetOfSpacesUptoRow.holds Try.pinned (OpenSpec.upto fnExactMeetOfSpacesSpec)

/-- 'laws.FnSpaces', WHERE WHAT IT READS IS OF BULK AT MOST 1048576: true; the input reads as it did. -/
def fnSpacesUptoRow : OpenClaim := { program := "ytmemennccmijaaa", sum := "610d0b024602ca60b31904bb33f8e6675c0417e80b2ced9423816c52806be8c6", func := "loop.example/g01273/laws.FnSpaces", spec := "fnSpaces", unfollowed := true, recurses := true, apart := false, narrowed := true }
def FnSpacesUptoSaid : Prop := fnSpacesUptoRow.holds Try.pinned (OpenSpec.upto fnSpacesSpec)

/-- 'laws.FnExactIsDouble', WHERE WHAT IT READS IS OF BULK AT MOST 1048576: true; the input reads as it did. -/
def fnExactIsDoubleUptoRow : OpenClaim := { program := "ytmemennccmijaaa", sum := "610d0b024602ca60b31904bb33f8e6675c0417e80b2ced9423816c52806be8c6", func := "loop.example/g01273/laws.FnExactIsDouble", spec := "fnExactIsDouble", unfollowed := true, recurses := true, apart := false, narrowed := true }
def FnExactIsDoubleUptoSaid : Prop := fnExactIsDoubleUptoRow.holds Try.pinned (OpenSpec.upto fnExactIsDoubleSpec)

/-- 'laws.FnExactDoubleEuler', WHERE WHAT IT READS IS OF BULK AT MOST 1048576: true; the input reads as it did. -/
def fnExactDoubleEulerUptoRow : OpenClaim := { program := "ytmemennccmijaaa", sum := "610d0b024602ca60b31904bb33f8e6675c0417e80b2ced9423816c52806be8c6", func := "loop.example/g01273/laws.FnExactDoubleEuler", spec := "fnExactDoubleEuler", unfollowed := true, recurses := true, apart := false, narrowed := true }
def FnExactDoubleEulerUptoSaid : Prop := fnExactDoubleEulerUptoRow.holds Try.pinned (OpenSpec.upto fnExactDoubleEulerSpec)

end Rows
end Go.Proofs.Ytmemennccmijaaa

/-
  No cell of these rows narrows 'for every input' (looked for: loops, veiled, ifaces, maps, wideKeys, modest, calm, conditions, laid).
  DERIVED. THE GIVEN ROWS OF THIS SEAT. 11 by the template 'for every input the law returns true; each argument reads behind the call as it read before'; 0 by the template 'total and deterministic' (their statements: YtbjohihngoghlaaTotals.lean).
  GIVEN WITH THE SEED: the statements are not yours to turn. If you find one false, say at which input.
  Laid BY PROGRAM, IN A SANDBOX (cutbox-rows.mjs): the forced cells as the released guide's own fill.sh prints them over the translation 2317cdd078687be0… (all of the seat's roots in one cut). By AI agents, Wed Nov 11 2026. No macro, syntax, notation, axiom, sorry.
-/
import Derived.Test.YtbjohihngoghlaaChecked
import GoSem.Claim
import GoSem.ClaimJoined
import GoSem.ClaimMapViews
import Derived.JoinedTies
import Derived.KernelRfl
namespace Go.Proofs.Ytbjohihngoghlaa
/- THE CELL 'sum', in the pinned program and in every row, IS THE sha256 OF THE DUMP (.gsa) THAT YtbjohihngoghlaaProg.lean LOADS. Nothing in Lean hashes anything: it is a label: what it is worth is what the hold of that sum in a sandbox is worth. -/
noncomputable def Try.pinned : Pinned := { name := "ytbjohihngoghlaa", sum := "2317cdd078687be00e34ea0d5d40764952587797f637c377efc1a351c52d9018", checked := Try.checked }
namespace Rows
def none {H : Type} : Left H := { results := [], args := [] }

/-- 'laws.FnExactWholeHomology': WHATEVER THE INPUT: true; the input reads as it did. -/
def fnExactWholeHomologySpec : ChangeSpec := { name := "fnExactWholeHomology", fn := fun _ => fun
  | [d] => { results := [.lit (.bool true)], args := [d] }
  | _ => none }
def fnExactWholeHomologyRow : OpenClaim := { program := "ytbjohihngoghlaa", sum := "2317cdd078687be00e34ea0d5d40764952587797f637c377efc1a351c52d9018", func := "loop.example/g01273/laws.FnExactWholeHomology", spec := "fnExactWholeHomology", unfollowed := true, recurses := true, apart := false }
def FnExactWholeHomologySaid : Prop := fnExactWholeHomologyRow.holds Try.pinned (OpenSpec.ofChange fnExactWholeHomologySpec)

/-- ITS FALSE NEIGHBOUR: 'it returns false'. Refute it at one input. -/
def fnExactWholeHomologyWrong : ChangeSpec := { name := "fnExactWholeHomology", fn := fun _ => fun
  | [d] => { results := [.lit (.bool false)], args := [d] }
  | _ => none }
def FnExactWholeHomologyWrongFalsely : Prop := fnExactWholeHomologyRow.holds Try.pinned (OpenSpec.ofChange fnExactWholeHomologyWrong)

/-- 'laws.FnExactComplexOfBars': WHATEVER THE INPUT: true; the input reads as it did. -/
def fnExactComplexOfBarsSpec : ChangeSpec := { name := "fnExactComplexOfBars", fn := fun _ => fun
  | [d1, d2, d3] => { results := [.lit (.bool true)], args := [d1, d2, d3] }
  | _ => none }
def fnExactComplexOfBarsRow : OpenClaim := { program := "ytbjohihngoghlaa", sum := "2317cdd078687be00e34ea0d5d40764952587797f637c377efc1a351c52d9018", func := "loop.example/g01273/laws.FnExactComplexOfBars", spec := "fnExactComplexOfBars", unfollowed := true, recurses := true, apart := false }
def FnExactComplexOfBarsSaid : Prop := fnExactComplexOfBarsRow.holds Try.pinned (OpenSpec.ofChange fnExactComplexOfBarsSpec)

/-- ITS FALSE NEIGHBOUR: 'it returns false'. Refute it at one input. -/
def fnExactComplexOfBarsWrong : ChangeSpec := { name := "fnExactComplexOfBars", fn := fun _ => fun
  | [d1, d2, d3] => { results := [.lit (.bool false)], args := [d1, d2, d3] }
  | _ => none }
def FnExactComplexOfBarsWrongFalsely : Prop := fnExactComplexOfBarsRow.holds Try.pinned (OpenSpec.ofChange fnExactComplexOfBarsWrong)

/-- 'laws.FnExactJoinBars': WHATEVER THE INPUT: true; the input reads as it did. -/
def fnExactJoinBarsSpec : ChangeSpec := { name := "fnExactJoinBars", fn := fun _ => fun
  | [d1, d2] => { results := [.lit (.bool true)], args := [d1, d2] }
  | _ => none }
def fnExactJoinBarsRow : OpenClaim := { program := "ytbjohihngoghlaa", sum := "2317cdd078687be00e34ea0d5d40764952587797f637c377efc1a351c52d9018", func := "loop.example/g01273/laws.FnExactJoinBars", spec := "fnExactJoinBars", unfollowed := true, recurses := true, apart := false }
def FnExactJoinBarsSaid : Prop := fnExactJoinBarsRow.holds Try.pinned (OpenSpec.ofChange fnExactJoinBarsSpec)

/-- ITS FALSE NEIGHBOUR: 'it returns false'. Refute it at one input. -/
def fnExactJoinBarsWrong : ChangeSpec := { name := "fnExactJoinBars", fn := fun _ => fun
  | [d1, d2] => { results := [.lit (.bool false)], args := [d1, d2] }
  | _ => none }
def FnExactJoinBarsWrongFalsely : Prop := fnExactJoinBarsRow.holds Try.pinned (OpenSpec.ofChange fnExactJoinBarsWrong)

/-- 'laws.FnExactAddCouples': WHATEVER THE INPUT: true; the input reads as it did. -/
def fnExactAddCouplesSpec : ChangeSpec := { name := "fnExactAddCouples", fn := fun _ => fun
  | [d1, d2] => { results := [.lit (.bool true)], args := [d1, d2] }
  | _ => none }
def fnExactAddCouplesRow : OpenClaim := { program := "ytbjohihngoghlaa", sum := "2317cdd078687be00e34ea0d5d40764952587797f637c377efc1a351c52d9018", func := "loop.example/g01273/laws.FnExactAddCouples", spec := "fnExactAddCouples", unfollowed := true, recurses := true, apart := false }
def FnExactAddCouplesSaid : Prop := fnExactAddCouplesRow.holds Try.pinned (OpenSpec.ofChange fnExactAddCouplesSpec)

/-- ITS FALSE NEIGHBOUR: 'it returns false'. Refute it at one input. -/
def fnExactAddCouplesWrong : ChangeSpec := { name := "fnExactAddCouples", fn := fun _ => fun
  | [d1, d2] => { results := [.lit (.bool false)], args := [d1, d2] }
  | _ => none }
def FnExactAddCouplesWrongFalsely : Prop := fnExactAddCouplesRow.holds Try.pinned (OpenSpec.ofChange fnExactAddCouplesWrong)

/-- 'laws.FnExactIsDouble': WHATEVER THE INPUT: true; the input reads as it did. -/
def fnExactIsDoubleSpec : ChangeSpec := { name := "fnExactIsDouble", fn := fun _ => fun
  | [d] => { results := [.lit (.bool true)], args := [d] }
  | _ => none }
def fnExactIsDoubleRow : OpenClaim := { program := "ytbjohihngoghlaa", sum := "2317cdd078687be00e34ea0d5d40764952587797f637c377efc1a351c52d9018", func := "loop.example/g01273/laws.FnExactIsDouble", spec := "fnExactIsDouble", unfollowed := true, recurses := true, apart := false }
def FnExactIsDoubleSaid : Prop := fnExactIsDoubleRow.holds Try.pinned (OpenSpec.ofChange fnExactIsDoubleSpec)

/-- ITS FALSE NEIGHBOUR: 'it returns false'. Refute it at one input. -/
def fnExactIsDoubleWrong : ChangeSpec := { name := "fnExactIsDouble", fn := fun _ => fun
  | [d] => { results := [.lit (.bool false)], args := [d] }
  | _ => none }
def FnExactIsDoubleWrongFalsely : Prop := fnExactIsDoubleRow.holds Try.pinned (OpenSpec.ofChange fnExactIsDoubleWrong)

/-- 'laws.FnExactDoubleEuler': WHATEVER THE INPUT: true; the input reads as it did. -/
def fnExactDoubleEulerSpec : ChangeSpec := { name := "fnExactDoubleEuler", fn := fun _ => fun
  | [d] => { results := [.lit (.bool true)], args := [d] }
  | _ => none }
def fnExactDoubleEulerRow : OpenClaim := { program := "ytbjohihngoghlaa", sum := "2317cdd078687be00e34ea0d5d40764952587797f637c377efc1a351c52d9018", func := "loop.example/g01273/laws.FnExactDoubleEuler", spec := "fnExactDoubleEuler", unfollowed := true, recurses := true, apart := false }
def FnExactDoubleEulerSaid : Prop := fnExactDoubleEulerRow.holds Try.pinned (OpenSpec.ofChange fnExactDoubleEulerSpec)

/-- ITS FALSE NEIGHBOUR: 'it returns false'. Refute it at one input. -/
def fnExactDoubleEulerWrong : ChangeSpec := { name := "fnExactDoubleEuler", fn := fun _ => fun
  | [d] => { results := [.lit (.bool false)], args := [d] }
  | _ => none }
def FnExactDoubleEulerWrongFalsely : Prop := fnExactDoubleEulerRow.holds Try.pinned (OpenSpec.ofChange fnExactDoubleEulerWrong)

/-- 'laws.FnExactTransposeDouble': WHATEVER THE INPUT: true; the input reads as it did. -/
def fnExactTransposeDoubleSpec : ChangeSpec := { name := "fnExactTransposeDouble", fn := fun _ => fun
  | [d] => { results := [.lit (.bool true)], args := [d] }
  | _ => none }
def fnExactTransposeDoubleRow : OpenClaim := { program := "ytbjohihngoghlaa", sum := "2317cdd078687be00e34ea0d5d40764952587797f637c377efc1a351c52d9018", func := "loop.example/g01273/laws.FnExactTransposeDouble", spec := "fnExactTransposeDouble", unfollowed := true, recurses := true, apart := false }
def FnExactTransposeDoubleSaid : Prop := fnExactTransposeDoubleRow.holds Try.pinned (OpenSpec.ofChange fnExactTransposeDoubleSpec)

/-- ITS FALSE NEIGHBOUR: 'it returns false'. Refute it at one input. -/
def fnExactTransposeDoubleWrong : ChangeSpec := { name := "fnExactTransposeDouble", fn := fun _ => fun
  | [d] => { results := [.lit (.bool false)], args := [d] }
  | _ => none }
def FnExactTransposeDoubleWrongFalsely : Prop := fnExactTransposeDoubleRow.holds Try.pinned (OpenSpec.ofChange fnExactTransposeDoubleWrong)

/-- 'laws.FnExactRowHomology': WHATEVER THE INPUT: true; the input reads as it did. -/
def fnExactRowHomologySpec : ChangeSpec := { name := "fnExactRowHomology", fn := fun _ => fun
  | [d] => { results := [.lit (.bool true)], args := [d] }
  | _ => none }
def fnExactRowHomologyRow : OpenClaim := { program := "ytbjohihngoghlaa", sum := "2317cdd078687be00e34ea0d5d40764952587797f637c377efc1a351c52d9018", func := "loop.example/g01273/laws.FnExactRowHomology", spec := "fnExactRowHomology", unfollowed := true, recurses := true, apart := false }
def FnExactRowHomologySaid : Prop := fnExactRowHomologyRow.holds Try.pinned (OpenSpec.ofChange fnExactRowHomologySpec)

/-- ITS FALSE NEIGHBOUR: 'it returns false'. Refute it at one input. -/
def fnExactRowHomologyWrong : ChangeSpec := { name := "fnExactRowHomology", fn := fun _ => fun
  | [d] => { results := [.lit (.bool false)], args := [d] }
  | _ => none }
def FnExactRowHomologyWrongFalsely : Prop := fnExactRowHomologyRow.holds Try.pinned (OpenSpec.ofChange fnExactRowHomologyWrong)

/-- 'laws.FnExactColumnHomology': WHATEVER THE INPUT: true; the input reads as it did. -/
def fnExactColumnHomologySpec : ChangeSpec := { name := "fnExactColumnHomology", fn := fun _ => fun
  | [d] => { results := [.lit (.bool true)], args := [d] }
  | _ => none }
def fnExactColumnHomologyRow : OpenClaim := { program := "ytbjohihngoghlaa", sum := "2317cdd078687be00e34ea0d5d40764952587797f637c377efc1a351c52d9018", func := "loop.example/g01273/laws.FnExactColumnHomology", spec := "fnExactColumnHomology", unfollowed := true, recurses := true, apart := false }
def FnExactColumnHomologySaid : Prop := fnExactColumnHomologyRow.holds Try.pinned (OpenSpec.ofChange fnExactColumnHomologySpec)

/-- ITS FALSE NEIGHBOUR: 'it returns false'. Refute it at one input. -/
def fnExactColumnHomologyWrong : ChangeSpec := { name := "fnExactColumnHomology", fn := fun _ => fun
  | [d] => { results := [.lit (.bool false)], args := [d] }
  | _ => none }
def FnExactColumnHomologyWrongFalsely : Prop := fnExactColumnHomologyRow.holds Try.pinned (OpenSpec.ofChange fnExactColumnHomologyWrong)

/-- 'laws.FnExactDifferentialIn': WHATEVER THE INPUT: true; the input reads as it did. -/
def fnExactDifferentialInSpec : ChangeSpec := { name := "fnExactDifferentialIn", fn := fun _ => fun
  | [d1, d2] => { results := [.lit (.bool true)], args := [d1, d2] }
  | _ => none }
def fnExactDifferentialInRow : OpenClaim := { program := "ytbjohihngoghlaa", sum := "2317cdd078687be00e34ea0d5d40764952587797f637c377efc1a351c52d9018", func := "loop.example/g01273/laws.FnExactDifferentialIn", spec := "fnExactDifferentialIn", apart := false }
def FnExactDifferentialInSaid : Prop := fnExactDifferentialInRow.holds Try.pinned (OpenSpec.ofChange fnExactDifferentialInSpec)

/-- ITS FALSE NEIGHBOUR: 'it returns false'. Refute it at one input. -/
def fnExactDifferentialInWrong : ChangeSpec := { name := "fnExactDifferentialIn", fn := fun _ => fun
  | [d1, d2] => { results := [.lit (.bool false)], args := [d1, d2] }
  | _ => none }
def FnExactDifferentialInWrongFalsely : Prop := fnExactDifferentialInRow.holds Try.pinned (OpenSpec.ofChange fnExactDifferentialInWrong)

/-- 'laws.FnExactNamedDga': WHATEVER THE INPUT: true; the input reads as it did. -/
def fnExactNamedDgaSpec : ChangeSpec := { name := "fnExactNamedDga", fn := fun _ => fun
  | [d1, d2] => { results := [.lit (.bool true)], args := [d1, d2] }
  | _ => none }
def fnExactNamedDgaRow : OpenClaim := { program := "ytbjohihngoghlaa", sum := "2317cdd078687be00e34ea0d5d40764952587797f637c377efc1a351c52d9018", func := "loop.example/g01273/laws.FnExactNamedDga", spec := "fnExactNamedDga", apart := false }
def FnExactNamedDgaSaid : Prop := fnExactNamedDgaRow.holds Try.pinned (OpenSpec.ofChange fnExactNamedDgaSpec)

/-- ITS FALSE NEIGHBOUR: 'it returns false'. Refute it at one input. -/
def fnExactNamedDgaWrong : ChangeSpec := { name := "fnExactNamedDga", fn := fun _ => fun
  | [d1, d2] => { results := [.lit (.bool false)], args := [d1, d2] }
  | _ => none }
def FnExactNamedDgaWrongFalsely : Prop := fnExactNamedDgaRow.holds Try.pinned (OpenSpec.ofChange fnExactNamedDgaWrong)

/- THE SECOND FORM. 'bulk': how many values and letters a reading holds, each counted each time it is reached (what is shared counts as often as it is met; a slice's spare places count too). A statement '..UptoSaid' is the law's where the arguments, and the package variables that the reading takes, are together of bulk at most 1048576: NARROWER than '..Said'. Prove '..Said' where nothing that the law and all that it calls make is longer than what came in: it says more and counts as full. Else prove '..UptoSaid'. A law counts once. -/
mutual
def uptoBulk {H : Type} : DataW H → Nat
  | .lit (.string bytes) => bytes.length + 1
  | .lit _ => 1
  | .nil => 1
  | .ptr d => uptoBulk d + 1
  | .slice elems spare => uptoBulkAll elems + uptoBulkAll spare + 1
  | .agg parts => uptoBulkAll parts + 1
  | .iface _ d => uptoBulk d + 1
  | .map entries => uptoBulkEntries entries + 1
  | .held _ => 1
def uptoBulkAll {H : Type} : List (DataW H) → Nat
  | [] => 0
  | d :: r => uptoBulk d + uptoBulkAll r
def uptoBulkEntries {H : Type} : List (Lit × DataW H) → Nat
  | [] => 0
  | x :: r => uptoBulkEntry x + uptoBulkEntries r
def uptoBulkEntry {H : Type} : Lit × DataW H → Nat
  | (.string bytes, d) => bytes.length + uptoBulk d + 1
  | (_, d) => uptoBulk d + 1
 end
def uptoSmall : (H : Type) → List (DataW H) → Bool := fun _ ds => decide (uptoBulkAll ds ≤ 1048576)
def OpenSpec.upto (s : _root_.Go.ChangeSpec) : _root_.Go.OpenSpec := { _root_.Go.OpenSpec.ofChange s with cond := some uptoSmall }

/-- 'laws.FnExactWholeHomology', WHERE WHAT IT READS IS OF BULK AT MOST 1048576: true; the input reads as it did. -/
def fnExactWholeHomologyUptoRow : OpenClaim := { program := "ytbjohihngoghlaa", sum := "2317cdd078687be00e34ea0d5d40764952587797f637c377efc1a351c52d9018", func := "loop.example/g01273/laws.FnExactWholeHomology", spec := "fnExactWholeHomology", unfollowed := true, recurses := true, apart := false, narrowed := true }
def FnExactWholeHomologyUptoSaid : Prop := fnExactWholeHomologyUptoRow.holds Try.pinned (OpenSpec.upto fnExactWholeHomologySpec)

/-- 'laws.FnExactComplexOfBars', WHERE WHAT IT READS IS OF BULK AT MOST 1048576: true; the input reads as it did. -/
def fnExactComplexOfBarsUptoRow : OpenClaim := { program := "ytbjohihngoghlaa", sum := "2317cdd078687be00e34ea0d5d40764952587797f637c377efc1a351c52d9018", func := "loop.example/g01273/laws.FnExactComplexOfBars", spec := "fnExactComplexOfBars", unfollowed := true, recurses := true, apart := false, narrowed := true }
def FnExactComplexOfBarsUptoSaid : Prop := fnExactComplexOfBarsUptoRow.holds Try.pinned (OpenSpec.upto fnExactComplexOfBarsSpec)

/-- 'laws.FnExactJoinBars', WHERE WHAT IT READS IS OF BULK AT MOST 1048576: true; the input reads as it did. -/
def fnExactJoinBarsUptoRow : OpenClaim := { program := "ytbjohihngoghlaa", sum := "2317cdd078687be00e34ea0d5d40764952587797f637c377efc1a351c52d9018", func := "loop.example/g01273/laws.FnExactJoinBars", spec := "fnExactJoinBars", unfollowed := true, recurses := true, apart := false, narrowed := true }
def FnExactJoinBarsUptoSaid : Prop := fnExactJoinBarsUptoRow.holds Try.pinned (OpenSpec.upto fnExactJoinBarsSpec)

/-- 'laws.FnExactAddCouples', WHERE WHAT IT READS IS OF BULK AT MOST 1048576: true; the input reads as it did. -/
def fnExactAddCouplesUptoRow : OpenClaim := { program := "ytbjohihngoghlaa", sum := "2317cdd078687be00e34ea0d5d40764952587797f637c377efc1a351c52d9018", func := "loop.example/g01273/laws.FnExactAddCouples", spec := "fnExactAddCouples", unfollowed := true, recurses := true, apart := false, narrowed := true }
def FnExactAddCouplesUptoSaid : Prop := fnExactAddCouplesUptoRow.holds Try.pinned (OpenSpec.upto fnExactAddCouplesSpec)

/-- 'laws.FnExactIsDouble', WHERE WHAT IT READS IS OF BULK AT MOST 1048576: true; the input reads as it did. -/
def fnExactIsDoubleUptoRow : OpenClaim := { program := "ytbjohihngoghlaa", sum := "2317cdd078687be00e34ea0d5d40764952587797f637c377efc1a351c52d9018", func := "loop.example/g01273/laws.FnExactIsDouble", spec := "fnExactIsDouble", unfollowed := true, recurses := true, apart := false, narrowed := true }
def FnExactIsDoubleUptoSaid : Prop := fnExactIsDoubleUptoRow.holds Try.pinned (OpenSpec.upto fnExactIsDoubleSpec)

/-- 'laws.FnExactDoubleEuler', WHERE WHAT IT READS IS OF BULK AT MOST 1048576: true; the input reads as it did. -/
def fnExactDoubleEulerUptoRow : OpenClaim := { program := "ytbjohihngoghlaa", sum := "2317cdd078687be00e34ea0d5d40764952587797f637c377efc1a351c52d9018", func := "loop.example/g01273/laws.FnExactDoubleEuler", spec := "fnExactDoubleEuler", unfollowed := true, recurses := true, apart := false, narrowed := true }
def FnExactDoubleEulerUptoSaid : Prop := fnExactDoubleEulerUptoRow.holds Try.pinned (OpenSpec.upto fnExactDoubleEulerSpec)

/-- 'laws.FnExactTransposeDouble', WHERE WHAT IT READS IS OF BULK AT MOST 1048576: true; the input reads as it did. -/
def fnExactTransposeDoubleUptoRow : OpenClaim := { program := "ytbjohihngoghlaa", sum := "2317cdd078687be00e34ea0d5d40764952587797f637c377efc1a351c52d9018", func := "loop.example/g01273/laws.FnExactTransposeDouble", spec := "fnExactTransposeDouble", unfollowed := true, recurses := true, apart := false, narrowed := true }
def FnExactTransposeDoubleUptoSaid : Prop := fnExactTransposeDoubleUptoRow.holds Try.pinned (OpenSpec.upto fnExactTransposeDoubleSpec)

/-- 'laws.FnExactRowHomology', WHERE WHAT IT READS IS OF BULK AT MOST 1048576: true; the input reads as it did. -/
def fnExactRowHomologyUptoRow : OpenClaim := { program := "ytbjohihngoghlaa", sum := "2317cdd078687be00e34ea0d5d40764952587797f637c377efc1a351c52d9018", func := "loop.example/g01273/laws.FnExactRowHomology", spec := "fnExactRowHomology", unfollowed := true, recurses := true, apart := false, narrowed := true }
def FnExactRowHomologyUptoSaid : Prop := fnExactRowHomologyUptoRow.holds Try.pinned (OpenSpec.upto fnExactRowHomologySpec)

/-- 'laws.FnExactColumnHomology', WHERE WHAT IT READS IS OF BULK AT MOST 1048576: true; the input reads as it did. -/
def fnExactColumnHomologyUptoRow : OpenClaim := { program := "ytbjohihngoghlaa", sum := "2317cdd078687be00e34ea0d5d40764952587797f637c377efc1a351c52d9018", func := "loop.example/g01273/laws.FnExactColumnHomology", spec := "fnExactColumnHomology", unfollowed := true, recurses := true, apart := false, narrowed := true }
def FnExactColumnHomologyUptoSaid : Prop := fnExactColumnHomologyUptoRow.holds Try.pinned (OpenSpec.upto fnExactColumnHomologySpec)

/-- 'laws.FnExactDifferentialIn', WHERE WHAT IT READS IS OF BULK AT MOST 1048576: true; the input reads as it did. -/
def fnExactDifferentialInUptoRow : OpenClaim := { program := "ytbjohihngoghlaa", sum := "2317cdd078687be00e34ea0d5d40764952587797f637c377efc1a351c52d9018", func := "loop.example/g01273/laws.FnExactDifferentialIn", spec := "fnExactDifferentialIn", apart := false, narrowed := true }
def FnExactDifferentialInUptoSaid : Prop := fnExactDifferentialInUptoRow.holds Try.pinned (OpenSpec.upto fnExactDifferentialInSpec)

/-- 'laws.FnExactNamedDga', WHERE WHAT IT READS IS OF BULK AT MOST 1048576: true; the input reads as it did. -/
def fnExactNamedDgaUptoRow : OpenClaim := { program := "ytbjohihngoghlaa", sum := "2317cdd078687be00e34ea0d5d40764952587797f637c377efc1a351c52d9018", func := "loop.example/g01273/laws.FnExactNamedDga", spec := "fnExactNamedDga", apart := false, narrowed := true }
def FnExactNamedDgaUptoSaid : Prop := fnExactNamedDgaUptoRow.holds Try.pinned (OpenSpec.upto fnExactNamedDgaSpec)

end Rows
end Go.Proofs.Ytbjohihngoghlaa

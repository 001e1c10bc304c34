/- The tied card of FnExactBarsText: the law returns true for every input, where the listed variables of the library hold what the text of the program lays (the card ties that). Conditions: those of the card. -/
import Derived.Test.YthhilbeddkkigaaDoorRows
import Derived.Test.YthhilbeddkkigaaDoorCards
import Derived.Test.YthhilbeddkkigaaDoorTie
import Derived.SevenTiedAt
import Derived.ProofKit
import Derived.LaidMore
import Derived.LaidLaws
import Derived.LaidHandle
import Derived.Test.YthhilbeddkkigaaDoorGlM
import Derived.Test.YthhilbeddkkigaaDoorGlN
import Derived.Test.YthhilbeddkkigaaDoorFnG2
set_option linter.unusedVariables false
set_option linter.unusedSimpArgs false
namespace Go.Proofs.YthhilbeddkkigaaDoor.LawBarsText
open Go Go.Gl Go.Proofs Go.Proofs.YthhilbeddkkigaaDoor
open Go.ChangeShapes Go.WideShapes Go.ChangeAt Go.RowKit

section
variable {H : Type} {enc : TypeId × Value → H} {W : World} {sp : Nat → Bool} {held : Bool}
theorem impInt : ImpT enc Tryd.prog W 0 sp held 2 (One EI) := ImpT.int Tryd.underlying2
theorem impBar : ImpT enc Tryd.prog W 0 sp held 50 EB := by
  intro fuel cs y h
  obtain ⟨hl, hf⟩ := struct_cells Tryd.underlying50 3 (by kernel_rfl) (by kernel_rfl) h
  match cs, hl, hf with
  | [c0, c1, c2], _, hf =>
    obtain ⟨k0, y0, e0⟩ := hf 0 _ c0 rfl rfl
    have i0 := impInt (held := held) (sp := sp) (enc := enc) k0 [c0] y0 e0
    obtain ⟨k1, y1, e1⟩ := hf 1 _ c1 rfl rfl
    have i1 := impInt (held := held) (sp := sp) (enc := enc) k1 [c1] y1 e1
    obtain ⟨k2, y2, e2⟩ := hf 2 _ c2 rfl rfl
    have i2 := impInt (held := held) (sp := sp) (enc := enc) k2 [c2] y2 e2
    obtain ⟨z, hz⟩ := (ImpC.two (One.le EI.le) i0 (ImpC.two (One.le EI.le) i1 i2))
    refine ⟨⟨z.1, z.2.1, z.2.2⟩, fun ι h hr hi => ?_⟩
    obtain ⟨ι', h', vs, h1, h2, h3, h4, h5, ⟨_, _, rfl, ⟨u0, rfl, r0⟩, ⟨_, _, rfl, ⟨u1, rfl, r1⟩, ⟨u2, rfl, r2⟩⟩⟩⟩ := hz ι h hr hi
    have r0 : u0 = _ := r0
    have r1 : u1 = _ := r1
    have r2 : u2 = _ := r2
    subst r0 r1 r2
    exact ⟨ι', h', _, h1, h2, h3, h4, h5, rfl⟩
theorem impB : ImpT enc Tryd.prog W 0 sp held 28 (One RB) := ImpT.sliceN (by decide) Tryd.underlying28 (by kernel_rfl) EB.le impBar
end

theorem own : ownKnob Tryd.prog.godebug = none := by kernel_rfl
theorem laid : laidOutB Tryd.prog = true := by kernel_rfl
set_option maxRecDepth 100000 in
theorem doorMet (os : Os) (args : Array Value) : laidMetH Tryd.prog Rows.fnExactBarsTextRow.laid ((World.doorLaid Tryd.prog 400 os).forCall (fun _ _ => 0) ⟨#[], args, []⟩).memory :=
  laidMetH_of_parts3 (fuel := 8) (laidMet_of_run' 8 (by kernel_rfl) (by kernel_rfl)) (by kernel_rfl) (by kernel_rfl)
set_option maxRecDepth 100000 in
theorem lifted (os : Os) (started : os.Started) (H : Type) (enc : TypeId × Value → H) :
    ReturnsInHanded {} Tryd.checked os 4 .any (fun w args => (Rows.fnExactBarsTextSpec.pre enc Tryd.prog Tryd.f4 [] false w args ∧ laidMetH Tryd.prog Rows.fnExactBarsTextRow.laid w) ∧ sizedMet enc Tryd.prog Tryd.f4 (OpenSpec.ofChange Rows.fnExactBarsTextSpec) false w args) (Rows.fnExactBarsTextSpec.post enc Tryd.prog Tryd.f4 false true false false) := by
  refine returnsInHanded_of_change_and (C := Tryd.checked) (X := fun w _ => laidMetH Tryd.prog Rows.fnExactBarsTextRow.laid w) (fun _ _ _ hh h => h.of_heap hh) own started (by kernel_rfl) Tryd.func4
    (ChangeSpec.witness_shaped (enc := enc) (C := Tryd.checked) (os := os) (X := fun w _ => laidMetH Tryd.prog Rows.fnExactBarsTextRow.laid w) false (World.doorLaid Tryd.prog 400 os) #[.slice none 0 0] 8 rfl (World.shaped_of_RefB (by kernel_rfl) (by kernel_rfl)) (by kernel_rfl) (by kernel_rfl) (by kernel_rfl) (doorMet os _)) ?_
  intro W base args ds gs before hval hW hcnd hsz0 hlaid _
  have hW' := hW
  have hlt0 := hW.lt
  obtain ⟨p, q, hA0, hV, rfl, hfz, hnd⟩ := hW
  have hA : DataW.TrodAll enc Tryd.prog W 0 (fun _ => true) true Tryd.f4.params.toList args.toList ds p := hA0
  rw [Tryd.params4] at hA
  obtain ⟨rfl, rfl⟩ := trodVars_none hV
  have hlt : ∀ x ∈ p, x.block < W.heap.size := fun x hx => DataW.TrodAll.lt hA x hx
  have hA1 := hA
  obtain ⟨a0, d0, rfl, rfl, t0⟩ := trodAll_one hA
  have o0 : Value.okWide Tryd.prog W .any base 28 a0 := hval 0 28 a0 (by rw [Tryd.params4]; rfl) rfl
  have hlaw : Calls Tryd.prog 4 #[a0] W (fun e w' => e = .returned (.bool true) ∧ Below W.heap.size W w') := by
    obtain ⟨x0, i0⟩ := ImpV.slice Tryd.underlying28 o0 t0 impB
    obtain ⟨ι0, h0, b0, l0, e0, hr0, im0, v0, r0⟩ := i0 _ _ (HR.empty W) Imm.empty
    exact law_meets hr0 im0 (VRL.cons v0 (VRL.nil _ _)) (FnExactBarsText_law _ b0 x0 r0)
  refine hlaw.mono fun e W' ⟨he, bel⟩ => ?_
  subst he
  have hargs := below_trodAll laid bel (ts := [28]) (by intro t ht; revert t; exact of_decide_eq_true (by kernel_rfl)) hA1 hlt
  exact ⟨_, rfl, _, _, _, [], _, [], hW', trodAll_mk1 (shut_bool Tryd.underlying4 _), (by rw [Tryd.params4]; exact hargs), rfl, bel.frame _, fun h => by cases h⟩
theorem enters : Tryd.pinned.checked.prog.mayEnter = true := by kernel_rfl
set_option maxRecDepth 100000 in
theorem closed : joinedFacts Tryd.pinned.checked.prog 4 Tryd.f4 (Rows.fnExactBarsTextSpec) Rows.fnExactBarsTextRow = true := by
  unfold joinedFacts
  rw [enters]
  kernel_rfl
set_option maxRecDepth 100000 in
theorem over : Rows.fnExactBarsTextRow.holds Tryd.pinned (OpenSpec.ofChange Rows.fnExactBarsTextSpec) :=
  OpenClaim.holds_of_wide 4 Tryd.f4 rfl rfl rfl rfl rfl rfl rfl ⟨rfl, rfl, rfl, rfl, rfl⟩ rfl rfl rfl rfl rfl (by kernel_rfl) Tryd.func4 closed
    (of_decide_eq_true (by kernel_rfl)) (by unfold Func.isWrapper; first | (rw [if_pos (by decide +kernel)]; kernel_rfl) | (rw [if_neg (by decide +kernel)]; exact ⟨rfl, rfl⟩))
    (fun os started H enc _ => lifted os started H enc)
end Go.Proofs.YthhilbeddkkigaaDoor.LawBarsText
namespace Go.Proofs.YthhilbeddkkigaaDoor
open Go
theorem fnExactBarsTextCard_holds : Rows.FnExactBarsTextCardSaid :=
  Claim7.holds_tied_plain_at .later [] [.data, .data, .data] true (true, "981667a1090e5eb94a60874b024a4d5302b2354099a05a011a9bdd0072debb15") true
    LawBarsText.over (fun _ h => by cases h) (by kernel_rfl) (fun _ h => by cases h) fnExactBarsText_row_tie rfl ⟨rfl, rfl⟩ (by kernel_rfl) rfl
    (fun f fn hf hfn => by
      obtain rfl : f = 4 := Option.some.inj ((show Tryd.prog.funcNamed Rows.fnExactBarsTextRow.func = some 4 by kernel_rfl).symm.trans hf) |>.symm
      obtain rfl : fn = Tryd.f4 := (Option.some.inj (Tryd.func4.symm.trans hfn)).symm
      exact ⟨by kernel_rfl, fun j t ht => by
        rw [Tryd.params4] at ht
        have hm : t ∈ [28] := by simpa using Array.mem_of_getElem? ht
        have hall : ([28].all fun u => !Tryd.prog.wantsStandIn u) = true := by kernel_rfl
        exact (show Tryd.prog.wantsStandIn t = false by simpa using List.all_eq_true.1 hall t hm)⟩)
    (by kernel_rfl)
end Go.Proofs.YthhilbeddkkigaaDoor

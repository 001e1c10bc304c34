/- The statement of FnExactJoinBars, out of the walk of the law. No condition. -/
import Derived.Test.YtblbcjemoadfpaaRows
import Derived.Test.YtblbcjemoadfpaaGlM
import Derived.Test.YtblbcjemoadfpaaGlN
import Derived.Test.YtblbcjemoadfpaaFnZ5
set_option linter.unusedVariables false
set_option linter.unusedSimpArgs false
namespace Go.Proofs.Ytblbcjemoadfpaa.LawJoinBars
open Go Go.Gl Go.Proofs Go.Proofs.Ytblbcjemoadfpaa
open Go.ChangeShapes Go.WideShapes Go.ChangeAt Go.RowKit

section
variable {H : Type} {enc : TypeId × Value → H} {W : World} {sp : Nat → Bool} {held : Bool}
theorem impInt : ImpT enc Try.prog W 0 sp held 2 (One EI) := ImpT.int Try.underlying2
theorem impBar : ImpT enc Try.prog W 0 sp held 93 EB := by
  intro fuel cs y h
  obtain ⟨hl, hf⟩ := struct_cells Try.underlying93 3 (by kernel_rfl) (by kernel_rfl) h
  match cs, hl, hf with
  | [c0, c1, c2], _, hf =>
    obtain ⟨k0, y0, e0⟩ := hf 0 _ c0 rfl rfl
    have i0 := impInt (held := held) (sp := sp) (enc := enc) k0 [c0] y0 e0
    obtain ⟨k1, y1, e1⟩ := hf 1 _ c1 rfl rfl
    have i1 := impInt (held := held) (sp := sp) (enc := enc) k1 [c1] y1 e1
    obtain ⟨k2, y2, e2⟩ := hf 2 _ c2 rfl rfl
    have i2 := impInt (held := held) (sp := sp) (enc := enc) k2 [c2] y2 e2
    obtain ⟨z, hz⟩ := (ImpC.two (One.le EI.le) i0 (ImpC.two (One.le EI.le) i1 i2))
    refine ⟨⟨z.1, z.2.1, z.2.2⟩, fun ι h hr hi => ?_⟩
    obtain ⟨ι', h', vs, h1, h2, h3, h4, h5, ⟨_, _, rfl, ⟨u0, rfl, r0⟩, ⟨_, _, rfl, ⟨u1, rfl, r1⟩, ⟨u2, rfl, r2⟩⟩⟩⟩ := hz ι h hr hi
    have r0 : u0 = _ := r0
    have r1 : u1 = _ := r1
    have r2 : u2 = _ := r2
    subst r0 r1 r2
    exact ⟨ι', h', _, h1, h2, h3, h4, h5, rfl⟩
theorem impB : ImpT enc Try.prog W 0 sp held 47 (One RB) := ImpT.sliceN (by decide) Try.underlying47 (by kernel_rfl) EB.le impBar
end

theorem own : ownKnob Try.prog.godebug = none := by kernel_rfl
theorem laid : laidOutB Try.prog = true := by kernel_rfl
set_option maxRecDepth 100000 in
theorem lifted (os : Os) (started : os.Started) (H : Type) (enc : TypeId × Value → H) :
    ReturnsInHanded {} Try.checked os 7 .any (Rows.fnExactJoinBarsSpec.pre6 enc Try.prog Try.f7 Rows.fnExactJoinBarsRow.domain false) (Rows.fnExactJoinBarsSpec.post enc Try.prog Try.f7 false true false false) := by
  refine returnsInHanded_of_change_sized (C := Try.checked) own started (by kernel_rfl) Try.func7
    (ChangeSpec.witness6 (enc := enc) (C := Try.checked) false ⟨#[], #[.slice none 0 0, .slice none 0 0], []⟩ 8 (by kernel_rfl) (by kernel_rfl) (by kernel_rfl) (by kernel_rfl)) ?_
  intro W base args ds gs before hval hW hcnd hsz0 _
  have hW' := hW
  have hlt0 := hW.lt
  obtain ⟨p, q, hA0, hV, rfl, hfz, hnd⟩ := hW
  have hA : DataW.TrodAll enc Try.prog W 0 (fun _ => true) true Try.f7.params.toList args.toList ds p := hA0
  rw [Try.params7] at hA
  obtain ⟨rfl, rfl⟩ := trodVars_none hV
  have hlt : ∀ x ∈ p, x.block < W.heap.size := fun x hx => DataW.TrodAll.lt hA x hx
  have hA1 := hA
  obtain ⟨a0, a1, d0, d1, p0, p1, rfl, rfl, rfl, t0, t1⟩ := trodAll_two hA
  have o0 : Value.okWide Try.prog W .any base 47 a0 := hval 0 47 a0 (by rw [Try.params7]; rfl) rfl
  have o1 : Value.okWide Try.prog W .any base 47 a1 := hval 1 47 a1 (by rw [Try.params7]; rfl) rfl
  have hlaw : Calls Try.prog 7 #[a0, a1] W (fun e w' => e = .returned (.bool true) ∧ Below W.heap.size W w') := by
    obtain ⟨x0, i0⟩ := ImpV.slice Try.underlying47 o0 t0 impB
    obtain ⟨x1, i1⟩ := ImpV.slice Try.underlying47 o1 t1 impB
    obtain ⟨ι0, h0, b0, l0, e0, hr0, im0, v0, r0⟩ := i0 _ _ (HR.empty W) Imm.empty
    obtain ⟨ι1, h1, b1, l1, e1, hr1, im1, v1, r1⟩ := i1 _ _ hr0 im0
    have v0 := v0.ext l1.len e1
    have r0 := RB.le _ _ _ _ l1 r0
    exact law_meets hr1 im1 (VRL.cons v0 (VRL.cons v1 (VRL.nil _ _))) (FnExactJoinBars_law _ b0 x0 r0 b1 x1 r1)
  refine hlaw.mono fun e W' ⟨he, bel⟩ => ?_
  subst he
  have hargs := below_trodAll laid bel (ts := [47, 47]) (by intro t ht; revert t; exact of_decide_eq_true (by kernel_rfl)) hA1 hlt
  exact ⟨_, rfl, _, _, _, [], _, [], hW', trodAll_mk1 (shut_bool Try.underlying4 _), (by rw [Try.params7]; exact hargs), rfl, bel.frame _, fun h => by cases h⟩
theorem enters : Try.pinned.checked.prog.mayEnter = true := by kernel_rfl
set_option maxRecDepth 100000 in
theorem closed : joinedFacts Try.pinned.checked.prog 7 Try.f7 (Rows.fnExactJoinBarsSpec) Rows.fnExactJoinBarsRow = true := by
  unfold joinedFacts
  rw [enters]
  kernel_rfl
set_option maxRecDepth 100000 in
theorem over : Rows.fnExactJoinBarsRow.holds Try.pinned (OpenSpec.ofChange Rows.fnExactJoinBarsSpec) :=
  OpenClaim.holds_of_wide 7 Try.f7 rfl rfl rfl rfl rfl rfl rfl ⟨rfl, rfl, rfl, rfl, rfl⟩ rfl rfl rfl rfl rfl (by kernel_rfl) Try.func7 closed
    (of_decide_eq_true (by kernel_rfl)) (by unfold Func.isWrapper; first | (rw [if_pos (by decide +kernel)]; kernel_rfl) | (rw [if_neg (by decide +kernel)]; exact ⟨rfl, rfl⟩))
    (fun os started H enc _ => lifted os started H enc)
end Go.Proofs.Ytblbcjemoadfpaa.LawJoinBars
namespace Go.Proofs.Ytblbcjemoadfpaa
theorem fnExactJoinBars_holds : Rows.FnExactJoinBarsSaid := LawJoinBars.over
end Go.Proofs.Ytblbcjemoadfpaa

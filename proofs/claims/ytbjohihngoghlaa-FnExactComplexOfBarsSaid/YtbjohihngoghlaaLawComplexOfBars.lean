/- The statement of FnExactComplexOfBars, out of the walk of the law. No condition. -/
import Derived.Test.YtbjohihngoghlaaRows
import Derived.Test.YtbjohihngoghlaaGlM
import Derived.Test.YtbjohihngoghlaaGlN
import Derived.Test.YtbjohihngoghlaaFnLawC2
set_option linter.unusedVariables false
set_option linter.unusedSimpArgs false
namespace Go.Proofs.Ytbjohihngoghlaa.LawComplexOfBars
open Go Go.Gl Go.Proofs Go.Proofs.Ytbjohihngoghlaa
open Go.ChangeShapes Go.WideShapes Go.ChangeAt Go.RowKit

section
variable {H : Type} {enc : TypeId × Value → H} {W : World} {sp : Nat → Bool} {held : Bool}
theorem impInt : ImpT enc Try.prog W 0 sp held 2 (One EI) := ImpT.int Try.underlying2
theorem impBar : ImpT enc Try.prog W 0 sp held 123 EB := by
  intro fuel cs y h
  obtain ⟨hl, hf⟩ := struct_cells Try.underlying123 3 (by kernel_rfl) (by kernel_rfl) h
  match cs, hl, hf with
  | [c0, c1, c2], _, hf =>
    obtain ⟨k0, y0, e0⟩ := hf 0 _ c0 rfl rfl
    have i0 := impInt (held := held) (sp := sp) (enc := enc) k0 [c0] y0 e0
    obtain ⟨k1, y1, e1⟩ := hf 1 _ c1 rfl rfl
    have i1 := impInt (held := held) (sp := sp) (enc := enc) k1 [c1] y1 e1
    obtain ⟨k2, y2, e2⟩ := hf 2 _ c2 rfl rfl
    have i2 := impInt (held := held) (sp := sp) (enc := enc) k2 [c2] y2 e2
    obtain ⟨z, hz⟩ := (ImpC.two (One.le EI.le) i0 (ImpC.two (One.le EI.le) i1 i2))
    refine ⟨⟨z.1, z.2.1, z.2.2⟩, fun ι h hr hi => ?_⟩
    obtain ⟨ι', h', vs, h1, h2, h3, h4, h5, ⟨_, _, rfl, ⟨u0, rfl, r0⟩, ⟨_, _, rfl, ⟨u1, rfl, r1⟩, ⟨u2, rfl, r2⟩⟩⟩⟩ := hz ι h hr hi
    have r0 : u0 = _ := r0
    have r1 : u1 = _ := r1
    have r2 : u2 = _ := r2
    subst r0 r1 r2
    exact ⟨ι', h', _, h1, h2, h3, h4, h5, rfl⟩
theorem impB : ImpT enc Try.prog W 0 sp held 37 (One RB) := ImpT.sliceN (by decide) Try.underlying37 (by kernel_rfl) EB.le impBar
end

theorem own : ownKnob Try.prog.godebug = none := by kernel_rfl
theorem laid : laidOutB Try.prog = true := by kernel_rfl
set_option maxRecDepth 100000 in
theorem lifted (os : Os) (started : os.Started) (H : Type) (enc : TypeId × Value → H) :
    ReturnsInHanded {} Try.checked os 4 .any (Rows.fnExactComplexOfBarsSpec.pre6 enc Try.prog Try.f4 Rows.fnExactComplexOfBarsRow.domain false) (Rows.fnExactComplexOfBarsSpec.post enc Try.prog Try.f4 false true false false) := by
  refine returnsInHanded_of_change_sized (C := Try.checked) own started (by kernel_rfl) Try.func4
    (ChangeSpec.witness6 (enc := enc) (C := Try.checked) false ⟨#[], #[.int .i64 0, .int .i64 0, .slice none 0 0], []⟩ 8 (by kernel_rfl) (by kernel_rfl) (by kernel_rfl) (by kernel_rfl)) ?_
  intro W base args ds gs before hval hW hcnd hsz0 _
  have hW' := hW
  have hlt0 := hW.lt
  obtain ⟨p, q, hA0, hV, rfl, hfz, hnd⟩ := hW
  have hA : DataW.TrodAll enc Try.prog W 0 (fun _ => true) true Try.f4.params.toList args.toList ds p := hA0
  rw [Try.params4] at hA
  obtain ⟨rfl, rfl⟩ := trodVars_none hV
  have hlt : ∀ x ∈ p, x.block < W.heap.size := fun x hx => DataW.TrodAll.lt hA x hx
  have hA1 := hA
  obtain ⟨a0, a1, a2, d0, d1, d2, p0, p1, p2, rfl, rfl, rfl, t0, t1, t2⟩ := trodAll_three hA
  have o0 : Value.okWide Try.prog W .any base 2 a0 := hval 0 2 a0 (by rw [Try.params4]; rfl) rfl
  have o1 : Value.okWide Try.prog W .any base 2 a1 := hval 1 2 a1 (by rw [Try.params4]; rfl) rfl
  have o2 : Value.okWide Try.prog W .any base 37 a2 := hval 2 37 a2 (by rw [Try.params4]; rfl) rfl
  have hlaw : Calls Try.prog 4 #[a0, a1, a2] W (fun e w' => e = .returned (.bool true) ∧ Below W.heap.size W w') := by
    obtain ⟨n0, e0⟩ := okWide_int Try.underlying2 o0
    subst e0
    obtain ⟨n1, e1⟩ := okWide_int Try.underlying2 o1
    subst e1
    obtain ⟨x2, i2⟩ := ImpV.slice Try.underlying37 o2 t2 impB
    obtain ⟨ι2, h2, b2, l2, e2, hr2, im2, v2, r2⟩ := i2 _ _ (HR.empty W) Imm.empty
    exact law_meets hr2 im2 (VRL.cons (.int _ _) (VRL.cons (.int _ _) (VRL.cons v2 (VRL.nil _ _)))) (FnExactComplexOfBars_law _ n0 n1 b2 x2 r2)
  refine hlaw.mono fun e W' ⟨he, bel⟩ => ?_
  subst he
  have hargs := below_trodAll laid bel (ts := [2, 2, 37]) (by intro t ht; revert t; exact of_decide_eq_true (by kernel_rfl)) hA1 hlt
  exact ⟨_, rfl, _, _, _, [], _, [], hW', trodAll_mk1 (shut_bool Try.underlying4 _), (by rw [Try.params4]; exact hargs), rfl, bel.frame _, fun h => by cases h⟩
theorem enters : Try.pinned.checked.prog.mayEnter = true := by kernel_rfl
set_option maxRecDepth 100000 in
theorem closed : joinedFacts Try.pinned.checked.prog 4 Try.f4 (Rows.fnExactComplexOfBarsSpec) Rows.fnExactComplexOfBarsRow = true := by
  unfold joinedFacts
  rw [enters]
  kernel_rfl
set_option maxRecDepth 100000 in
theorem over : Rows.fnExactComplexOfBarsRow.holds Try.pinned (OpenSpec.ofChange Rows.fnExactComplexOfBarsSpec) :=
  OpenClaim.holds_of_wide 4 Try.f4 rfl rfl rfl rfl rfl rfl rfl ⟨rfl, rfl, rfl, rfl, rfl⟩ rfl rfl rfl rfl rfl (by kernel_rfl) Try.func4 closed
    (of_decide_eq_true (by kernel_rfl)) (by unfold Func.isWrapper; first | (rw [if_pos (by decide +kernel)]; kernel_rfl) | (rw [if_neg (by decide +kernel)]; exact ⟨rfl, rfl⟩))
    (fun os started H enc _ => lifted os started H enc)
end Go.Proofs.Ytbjohihngoghlaa.LawComplexOfBars
namespace Go.Proofs.Ytbjohihngoghlaa
theorem fnExactComplexOfBars_holds : Rows.FnExactComplexOfBarsSaid := LawComplexOfBars.over
end Go.Proofs.Ytbjohihngoghlaa

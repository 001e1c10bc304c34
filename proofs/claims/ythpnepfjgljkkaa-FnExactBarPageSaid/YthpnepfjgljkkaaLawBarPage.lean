/- The statement of FnExactBarPage, out of the walk of the law. No condition. -/
import Derived.Test.YthpnepfjgljkkaaRows
import Derived.Test.YthpnepfjgljkkaaGlM
import Derived.Test.YthpnepfjgljkkaaGlN
import Derived.Test.YthpnepfjgljkkaaFnLawBar4
set_option linter.unusedVariables false
set_option linter.unusedSimpArgs false
namespace Go.Proofs.Ythpnepfjgljkkaa.LawBarPage
open Go Go.Gl Go.Proofs Go.Proofs.Ythpnepfjgljkkaa
open Go.ChangeShapes Go.WideShapes Go.ChangeAt Go.RowKit

section
variable {H : Type} {enc : TypeId × Value → H} {W : World} {sp : Nat → Bool} {held : Bool}
theorem impInt : ImpT enc Try.prog W 0 sp held 2 (One EI) := ImpT.int Try.underlying2
theorem impBar : ImpT enc Try.prog W 0 sp held 82 EB := by
  intro fuel cs y h
  obtain ⟨hl, hf⟩ := struct_cells Try.underlying82 3 (by kernel_rfl) (by kernel_rfl) h
  match cs, hl, hf with
  | [c0, c1, c2], _, hf =>
    obtain ⟨k0, y0, e0⟩ := hf 0 _ c0 rfl rfl
    have i0 := impInt (held := held) (sp := sp) (enc := enc) k0 [c0] y0 e0
    obtain ⟨k1, y1, e1⟩ := hf 1 _ c1 rfl rfl
    have i1 := impInt (held := held) (sp := sp) (enc := enc) k1 [c1] y1 e1
    obtain ⟨k2, y2, e2⟩ := hf 2 _ c2 rfl rfl
    have i2 := impInt (held := held) (sp := sp) (enc := enc) k2 [c2] y2 e2
    obtain ⟨z, hz⟩ := (ImpC.two (One.le EI.le) i0 (ImpC.two (One.le EI.le) i1 i2))
    refine ⟨⟨z.1, z.2.1, z.2.2⟩, fun ι h hr hi => ?_⟩
    obtain ⟨ι', h', vs, h1, h2, h3, h4, h5, ⟨_, _, rfl, ⟨u0, rfl, r0⟩, ⟨_, _, rfl, ⟨u1, rfl, r1⟩, ⟨u2, rfl, r2⟩⟩⟩⟩ := hz ι h hr hi
    have r0 : u0 = _ := r0
    have r1 : u1 = _ := r1
    have r2 : u2 = _ := r2
    subst r0 r1 r2
    exact ⟨ι', h', _, h1, h2, h3, h4, h5, rfl⟩
theorem impB : ImpT enc Try.prog W 0 sp held 22 (One RB) := ImpT.sliceN (by decide) Try.underlying22 (by kernel_rfl) EB.le impBar
end

theorem own : ownKnob Try.prog.godebug = none := by kernel_rfl
theorem laid : laidOutB Try.prog = true := by kernel_rfl
set_option maxRecDepth 100000 in
theorem lifted (os : Os) (started : os.Started) (H : Type) (enc : TypeId × Value → H) :
    ReturnsInHanded {} Try.checked os 3 .any (Rows.fnExactBarPageSpec.pre6 enc Try.prog Try.f3 Rows.fnExactBarPageRow.domain false) (Rows.fnExactBarPageSpec.post enc Try.prog Try.f3 false true false false) := by
  refine returnsInHanded_of_change_sized (C := Try.checked) own started (by kernel_rfl) Try.func3
    (ChangeSpec.witness6 (enc := enc) (C := Try.checked) false ⟨#[], #[.slice none 0 0, .int .i64 0, .int .i64 0, .int .i64 0], []⟩ 8 (by kernel_rfl) (by kernel_rfl) (by kernel_rfl) (by kernel_rfl)) ?_
  intro W base args ds gs before hval hW hcnd hsz0 _
  have hW' := hW
  have hlt0 := hW.lt
  obtain ⟨p, q, hA0, hV, rfl, hfz, hnd⟩ := hW
  have hA : DataW.TrodAll enc Try.prog W 0 (fun _ => true) true Try.f3.params.toList args.toList ds p := hA0
  rw [Try.params3] at hA
  obtain ⟨rfl, rfl⟩ := trodVars_none hV
  have hlt : ∀ x ∈ p, x.block < W.heap.size := fun x hx => DataW.TrodAll.lt hA x hx
  have hA1 := hA
  obtain ⟨a0, a1, a2, a3, d0, d1, d2, d3, p0, p1, p2, p3, rfl, rfl, rfl, t0, t1, t2, t3⟩ := trodAll_four hA
  have o0 : Value.okWide Try.prog W .any base 22 a0 := hval 0 22 a0 (by rw [Try.params3]; rfl) rfl
  have o1 : Value.okWide Try.prog W .any base 2 a1 := hval 1 2 a1 (by rw [Try.params3]; rfl) rfl
  have o2 : Value.okWide Try.prog W .any base 2 a2 := hval 2 2 a2 (by rw [Try.params3]; rfl) rfl
  have o3 : Value.okWide Try.prog W .any base 2 a3 := hval 3 2 a3 (by rw [Try.params3]; rfl) rfl
  have hlaw : Calls Try.prog 3 #[a0, a1, a2, a3] W (fun e w' => e = .returned (.bool true) ∧ Below W.heap.size W w') := by
    obtain ⟨x0, i0⟩ := ImpV.slice Try.underlying22 o0 t0 impB
    obtain ⟨n1, e1⟩ := okWide_int Try.underlying2 o1
    subst e1
    obtain ⟨n2, e2⟩ := okWide_int Try.underlying2 o2
    subst e2
    obtain ⟨n3, e3⟩ := okWide_int Try.underlying2 o3
    subst e3
    obtain ⟨ι0, h0, b0, l0, e0, hr0, im0, v0, r0⟩ := i0 _ _ (HR.empty W) Imm.empty
    exact law_meets hr0 im0 (VRL.cons v0 (VRL.cons (.int _ _) (VRL.cons (.int _ _) (VRL.cons (.int _ _) (VRL.nil _ _))))) (FnExactBarPage_law _ b0 x0 r0 n1 n2 n3)
  refine hlaw.mono fun e W' ⟨he, bel⟩ => ?_
  subst he
  have hargs := below_trodAll laid bel (ts := [22, 2, 2, 2]) (by intro t ht; revert t; exact of_decide_eq_true (by kernel_rfl)) hA1 hlt
  exact ⟨_, rfl, _, _, _, [], _, [], hW', trodAll_mk1 (shut_bool Try.underlying4 _), (by rw [Try.params3]; exact hargs), rfl, bel.frame _, fun h => by cases h⟩
set_option maxRecDepth 100000 in
theorem over : Rows.fnExactBarPageRow.holds Try.pinned (OpenSpec.ofChange Rows.fnExactBarPageSpec) :=
  OpenClaim.holds_of_wide 3 Try.f3 rfl rfl rfl rfl rfl rfl rfl ⟨rfl, rfl, rfl, rfl, rfl⟩ rfl rfl rfl rfl rfl (by kernel_rfl) Try.func3 (by kernel_rfl)
    (of_decide_eq_true (by kernel_rfl)) (by unfold Func.isWrapper; first | (rw [if_pos (by decide +kernel)]; kernel_rfl) | (rw [if_neg (by decide +kernel)]; exact ⟨rfl, rfl⟩))
    (fun os started H enc _ => lifted os started H enc)
end Go.Proofs.Ythpnepfjgljkkaa.LawBarPage
namespace Go.Proofs.Ythpnepfjgljkkaa
theorem fnExactBarPage_holds : Rows.FnExactBarPageSaid := LawBarPage.over
end Go.Proofs.Ythpnepfjgljkkaa

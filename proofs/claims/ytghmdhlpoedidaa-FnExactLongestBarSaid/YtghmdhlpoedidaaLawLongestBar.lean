/- The statement of FnExactLongestBar, out of the walk of the law. No condition. -/
import Derived.Test.YtghmdhlpoedidaaRows
import Derived.Test.YtghmdhlpoedidaaGlM
import Derived.Test.YtghmdhlpoedidaaGlN
import Derived.Test.YtghmdhlpoedidaaFnLawBar3
set_option linter.unusedVariables false
set_option linter.unusedSimpArgs false
namespace Go.Proofs.Ytghmdhlpoedidaa.LawLongestBar
open Go Go.Gl Go.Proofs Go.Proofs.Ytghmdhlpoedidaa
open Go.ChangeShapes Go.WideShapes Go.ChangeAt Go.RowKit

section
variable {H : Type} {enc : TypeId × Value → H} {W : World} {sp : Nat → Bool} {held : Bool}
theorem impInt : ImpT enc Try.prog W 0 sp held 2 (One EI) := ImpT.int Try.underlying2
theorem impBar : ImpT enc Try.prog W 0 sp held 95 EB := by
  intro fuel cs y h
  obtain ⟨hl, hf⟩ := struct_cells Try.underlying95 3 (by kernel_rfl) (by kernel_rfl) h
  match cs, hl, hf with
  | [c0, c1, c2], _, hf =>
    obtain ⟨k0, y0, e0⟩ := hf 0 _ c0 rfl rfl
    have i0 := impInt (held := held) (sp := sp) (enc := enc) k0 [c0] y0 e0
    obtain ⟨k1, y1, e1⟩ := hf 1 _ c1 rfl rfl
    have i1 := impInt (held := held) (sp := sp) (enc := enc) k1 [c1] y1 e1
    obtain ⟨k2, y2, e2⟩ := hf 2 _ c2 rfl rfl
    have i2 := impInt (held := held) (sp := sp) (enc := enc) k2 [c2] y2 e2
    obtain ⟨z, hz⟩ := (ImpC.two (One.le EI.le) i0 (ImpC.two (One.le EI.le) i1 i2))
    refine ⟨⟨z.1, z.2.1, z.2.2⟩, fun ι h hr hi => ?_⟩
    obtain ⟨ι', h', vs, h1, h2, h3, h4, h5, ⟨_, _, rfl, ⟨u0, rfl, r0⟩, ⟨_, _, rfl, ⟨u1, rfl, r1⟩, ⟨u2, rfl, r2⟩⟩⟩⟩ := hz ι h hr hi
    have r0 : u0 = _ := r0
    have r1 : u1 = _ := r1
    have r2 : u2 = _ := r2
    subst r0 r1 r2
    exact ⟨ι', h', _, h1, h2, h3, h4, h5, rfl⟩
theorem impB : ImpT enc Try.prog W 0 sp held 32 (One RB) := ImpT.sliceN (by decide) Try.underlying32 (by kernel_rfl) EB.le impBar
end

theorem own : ownKnob Try.prog.godebug = none := by kernel_rfl
theorem laid : laidOutB Try.prog = true := by kernel_rfl
set_option maxRecDepth 100000 in
theorem lifted (os : Os) (started : os.Started) (H : Type) (enc : TypeId × Value → H) :
    ReturnsInHanded {} Try.checked os 13 .any (Rows.fnExactLongestBarSpec.pre6 enc Try.prog Try.f13 Rows.fnExactLongestBarRow.domain false) (Rows.fnExactLongestBarSpec.post enc Try.prog Try.f13 false true false false) := by
  refine returnsInHanded_of_change_sized (C := Try.checked) own started (by kernel_rfl) Try.func13
    (ChangeSpec.witness6 (enc := enc) (C := Try.checked) false ⟨#[], #[.slice none 0 0], []⟩ 8 (by kernel_rfl) (by kernel_rfl) (by kernel_rfl) (by kernel_rfl)) ?_
  intro W base args ds gs before hval hW hcnd hsz0 _
  have hW' := hW
  have hlt0 := hW.lt
  obtain ⟨p, q, hA0, hV, rfl, hfz, hnd⟩ := hW
  have hA : DataW.TrodAll enc Try.prog W 0 (fun _ => true) true Try.f13.params.toList args.toList ds p := hA0
  rw [Try.params13] at hA
  obtain ⟨rfl, rfl⟩ := trodVars_none hV
  have hlt : ∀ x ∈ p, x.block < W.heap.size := fun x hx => DataW.TrodAll.lt hA x hx
  have hA1 := hA
  obtain ⟨a0, d0, rfl, rfl, t0⟩ := trodAll_one hA
  have o0 : Value.okWide Try.prog W .any base 32 a0 := hval 0 32 a0 (by rw [Try.params13]; rfl) rfl
  have hlaw : Calls Try.prog 13 #[a0] W (fun e w' => e = .returned (.bool true) ∧ Below W.heap.size W w') := by
    obtain ⟨x0, i0⟩ := ImpV.slice Try.underlying32 o0 t0 impB
    obtain ⟨ι0, h0, b0, l0, e0, hr0, im0, v0, r0⟩ := i0 _ _ (HR.empty W) Imm.empty
    exact law_meets hr0 im0 (VRL.cons v0 (VRL.nil _ _)) (FnExactLongestBar_law _ b0 x0 r0)
  refine hlaw.mono fun e W' ⟨he, bel⟩ => ?_
  subst he
  have hargs := below_trodAll laid bel (ts := [32]) (by intro t ht; revert t; exact of_decide_eq_true (by kernel_rfl)) hA1 hlt
  exact ⟨_, rfl, _, _, _, [], _, [], hW', trodAll_mk1 (shut_bool Try.underlying4 _), (by rw [Try.params13]; exact hargs), rfl, bel.frame _, fun h => by cases h⟩
set_option maxRecDepth 100000 in
theorem over : Rows.fnExactLongestBarRow.holds Try.pinned (OpenSpec.ofChange Rows.fnExactLongestBarSpec) :=
  OpenClaim.holds_of_wide 13 Try.f13 rfl rfl rfl rfl rfl rfl rfl ⟨rfl, rfl, rfl, rfl, rfl⟩ rfl rfl rfl rfl rfl (by kernel_rfl) Try.func13 (by kernel_rfl)
    (of_decide_eq_true (by kernel_rfl)) (by unfold Func.isWrapper; first | (rw [if_pos (by decide +kernel)]; kernel_rfl) | (rw [if_neg (by decide +kernel)]; exact ⟨rfl, rfl⟩))
    (fun os started H enc _ => lifted os started H enc)
end Go.Proofs.Ytghmdhlpoedidaa.LawLongestBar
namespace Go.Proofs.Ytghmdhlpoedidaa
theorem fnExactLongestBar_holds : Rows.FnExactLongestBarSaid := LawLongestBar.over
end Go.Proofs.Ytghmdhlpoedidaa

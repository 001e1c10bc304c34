/- The statement of FnExactAddCouples, out of the walk of the law. No condition. -/
import Derived.Test.YtbjohihngoghlaaRows
import Derived.Test.YtbjohihngoghlaaGlM
import Derived.Test.YtbjohihngoghlaaFnLawB2
set_option linter.unusedVariables false
set_option linter.unusedSimpArgs false
namespace Go.Proofs.Ytbjohihngoghlaa.LawAddCouples
open Go Go.Gl Go.Proofs Go.Proofs.Ytbjohihngoghlaa
open Go.ChangeShapes Go.WideShapes Go.ChangeAt Go.RowKit

section
variable {H : Type} {enc : TypeId × Value → H} {W : World} {sp : Nat → Bool} {held : Bool}
theorem impInt : ImpT enc Try.prog W 0 sp held 2 (One EI) := ImpT.int Try.underlying2
theorem impI : ImpT enc Try.prog W 0 sp held 22 (One RI) := ImpT.slice Try.underlying22 (by kernel_rfl) EI.le impInt
theorem impII : ImpT enc Try.prog W 0 sp held 41 (One RII) := ImpT.slice Try.underlying41 (by kernel_rfl) RI.le impI
theorem impCouple : ImpT enc Try.prog W 0 sp held 57 (fun h vs (x : SCouple) => ∃ v0 v1 v2 v3 v4 v5, vs = [v0, v1, v2, v3, v4, v5] ∧ EI h v0 x.prime ∧ EI h v1 x.d ∧ EI h v2 x.e ∧ RII h v3 x.i ∧ RII h v4 x.j ∧ RII h v5 x.k) := by
  intro fuel cs y h
  obtain ⟨hl, hf⟩ := struct_cells Try.underlying57 6 (by kernel_rfl) (by kernel_rfl) h
  match cs, hl, hf with
  | [c0, c1, c2, c3, c4, c5], _, hf =>
    obtain ⟨k0, y0, e0⟩ := hf 0 _ c0 rfl rfl
    have i0 := impInt (held := held) (sp := sp) (enc := enc) k0 [c0] y0 e0
    obtain ⟨k1, y1, e1⟩ := hf 1 _ c1 rfl rfl
    have i1 := impInt (held := held) (sp := sp) (enc := enc) k1 [c1] y1 e1
    obtain ⟨k2, y2, e2⟩ := hf 2 _ c2 rfl rfl
    have i2 := impInt (held := held) (sp := sp) (enc := enc) k2 [c2] y2 e2
    obtain ⟨k3, y3, e3⟩ := hf 3 _ c3 rfl rfl
    have i3 := impII (held := held) (sp := sp) (enc := enc) k3 [c3] y3 e3
    obtain ⟨k4, y4, e4⟩ := hf 4 _ c4 rfl rfl
    have i4 := impII (held := held) (sp := sp) (enc := enc) k4 [c4] y4 e4
    obtain ⟨k5, y5, e5⟩ := hf 5 _ c5 rfl rfl
    have i5 := impII (held := held) (sp := sp) (enc := enc) k5 [c5] y5 e5
    obtain ⟨z, hz⟩ := (ImpC.two (One.le EI.le) i0 (ImpC.two (One.le EI.le) i1 (ImpC.two (One.le EI.le) i2 (ImpC.two (One.le RII.le) i3 (ImpC.two (One.le RII.le) i4 i5)))))
    refine ⟨⟨z.1, z.2.1, z.2.2.1, z.2.2.2.1, z.2.2.2.2.1, z.2.2.2.2.2⟩, fun ι h hr hi => ?_⟩
    obtain ⟨ι', h', vs, h1, h2, h3, h4, h5, ⟨_, _, rfl, ⟨u0, rfl, r0⟩, ⟨_, _, rfl, ⟨u1, rfl, r1⟩, ⟨_, _, rfl, ⟨u2, rfl, r2⟩, ⟨_, _, rfl, ⟨u3, rfl, r3⟩, ⟨_, _, rfl, ⟨u4, rfl, r4⟩, ⟨u5, rfl, r5⟩⟩⟩⟩⟩⟩⟩ := hz ι h hr hi
    exact ⟨ι', h', _, h1, h2, h3, h4, h5, u0, u1, u2, u3, u4, u5, rfl, r0, r1, r2, r3, r4, r5⟩

end

theorem own : ownKnob Try.prog.godebug = none := by kernel_rfl
theorem laid : laidOutB Try.prog = true := by kernel_rfl
set_option maxRecDepth 100000 in
theorem lifted (os : Os) (started : os.Started) (H : Type) (enc : TypeId × Value → H) :
    ReturnsInHanded {} Try.checked os 6 .any (Rows.fnExactAddCouplesSpec.pre6 enc Try.prog Try.f6 Rows.fnExactAddCouplesRow.domain false) (Rows.fnExactAddCouplesSpec.post enc Try.prog Try.f6 false true false false) := by
  refine returnsInHanded_of_change_sized (C := Try.checked) own started (by kernel_rfl) Try.func6
    (ChangeSpec.witness6 (enc := enc) (C := Try.checked) false ⟨#[], #[.agg #[.int .i64 0, .int .i64 0, .int .i64 0, .slice none 0 0, .slice none 0 0, .slice none 0 0], .agg #[.int .i64 0, .int .i64 0, .int .i64 0, .slice none 0 0, .slice none 0 0, .slice none 0 0]], []⟩ 8 (by kernel_rfl) (by kernel_rfl) (by kernel_rfl) (by kernel_rfl)) ?_
  intro W base args ds gs before hval hW hcnd hsz0 _
  have hW' := hW
  have hlt0 := hW.lt
  obtain ⟨p, q, hA0, hV, rfl, hfz, hnd⟩ := hW
  have hA : DataW.TrodAll enc Try.prog W 0 (fun _ => true) true Try.f6.params.toList args.toList ds p := hA0
  rw [Try.params6] at hA
  obtain ⟨rfl, rfl⟩ := trodVars_none hV
  have hlt : ∀ x ∈ p, x.block < W.heap.size := fun x hx => DataW.TrodAll.lt hA x hx
  have hA1 := hA
  obtain ⟨a0, a1, d0, d1, p0, p1, rfl, rfl, rfl, t0, t1⟩ := trodAll_two hA
  have o0 : Value.okWide Try.prog W .any base 57 a0 := hval 0 57 a0 (by rw [Try.params6]; rfl) rfl
  have o1 : Value.okWide Try.prog W .any base 57 a1 := hval 1 57 a1 (by rw [Try.params6]; rfl) rfl
  have hlaw : Calls Try.prog 6 #[a0, a1] W (fun e w' => e = .returned (.bool true) ∧ Below W.heap.size W w') := by
    obtain ⟨x0, i0⟩ := (ImpV.struct Try.underlying57 o0 t0 impCouple)
    obtain ⟨x1, i1⟩ := (ImpV.struct Try.underlying57 o1 t1 impCouple)
    obtain ⟨ι0, h0, b0, l0, e0, hr0, im0, v0, r0⟩ := i0 _ _ (HR.empty W) Imm.empty
    have r0 : RCouple h0 b0 x0 := by
      obtain ⟨vs, rfl, u0, u1, u2, u3, u4, u5, rfl, z0, z1, z2, z3, z4, z5⟩ := r0
      have z0 : u0 = .int .i64 x0.prime := z0
      subst z0
      have z1 : u1 = .int .i64 x0.d := z1
      subst z1
      have z2 : u2 = .int .i64 x0.e := z2
      subst z2
      exact ⟨u3, u4, u5, rfl, z3, z4, z5⟩
    obtain ⟨ι1, h1, b1, l1, e1, hr1, im1, v1, r1⟩ := i1 _ _ hr0 im0
    have r1 : RCouple h1 b1 x1 := by
      obtain ⟨vs, rfl, u0, u1, u2, u3, u4, u5, rfl, z0, z1, z2, z3, z4, z5⟩ := r1
      have z0 : u0 = .int .i64 x1.prime := z0
      subst z0
      have z1 : u1 = .int .i64 x1.d := z1
      subst z1
      have z2 : u2 = .int .i64 x1.e := z2
      subst z2
      exact ⟨u3, u4, u5, rfl, z3, z4, z5⟩
    have v0 := v0.ext l1.len e1
    have r0 := RCouple.le _ _ _ _ l1 r0
    exact law_meets hr1 im1 (VRL.cons v0 (VRL.cons v1 (VRL.nil _ _))) (FnExactAddCouples_law _ b0 x0 r0 b1 x1 r1)
  refine hlaw.mono fun e W' ⟨he, bel⟩ => ?_
  subst he
  have hargs := below_trodAll laid bel (ts := [57, 57]) (by intro t ht; revert t; exact of_decide_eq_true (by kernel_rfl)) hA1 hlt
  exact ⟨_, rfl, _, _, _, [], _, [], hW', trodAll_mk1 (shut_bool Try.underlying4 _), (by rw [Try.params6]; exact hargs), rfl, bel.frame _, fun h => by cases h⟩
theorem enters : Try.pinned.checked.prog.mayEnter = true := by kernel_rfl
set_option maxRecDepth 100000 in
theorem closed : joinedFacts Try.pinned.checked.prog 6 Try.f6 (Rows.fnExactAddCouplesSpec) Rows.fnExactAddCouplesRow = true := by
  unfold joinedFacts
  rw [enters]
  kernel_rfl
set_option maxRecDepth 100000 in
theorem over : Rows.fnExactAddCouplesRow.holds Try.pinned (OpenSpec.ofChange Rows.fnExactAddCouplesSpec) :=
  OpenClaim.holds_of_wide 6 Try.f6 rfl rfl rfl rfl rfl rfl rfl ⟨rfl, rfl, rfl, rfl, rfl⟩ rfl rfl rfl rfl rfl (by kernel_rfl) Try.func6 closed
    (of_decide_eq_true (by kernel_rfl)) (by unfold Func.isWrapper; first | (rw [if_pos (by decide +kernel)]; kernel_rfl) | (rw [if_neg (by decide +kernel)]; exact ⟨rfl, rfl⟩))
    (fun os started H enc _ => lifted os started H enc)
end Go.Proofs.Ytbjohihngoghlaa.LawAddCouples
namespace Go.Proofs.Ytbjohihngoghlaa
theorem fnExactAddCouples_holds : Rows.FnExactAddCouplesSaid := LawAddCouples.over
end Go.Proofs.Ytbjohihngoghlaa

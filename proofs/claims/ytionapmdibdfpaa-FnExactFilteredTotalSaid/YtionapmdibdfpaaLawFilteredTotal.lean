/- The statement of FnExactFilteredTotal, out of the walk of the law. No condition. -/
import Derived.Test.YtionapmdibdfpaaRows
import Derived.Test.YtionapmdibdfpaaGlM
import Derived.Test.YtionapmdibdfpaaFnLawTo
set_option linter.unusedVariables false
set_option linter.unusedSimpArgs false
namespace Go.Proofs.Ytionapmdibdfpaa.LawFilteredTotal
open Go Go.Gl Go.Proofs Go.Proofs.Ytionapmdibdfpaa
open Go.ChangeShapes Go.WideShapes Go.ChangeAt Go.RowKit

section
variable {H : Type} {enc : TypeId × Value → H} {W : World} {sp : Nat → Bool} {held : Bool}
theorem impInt : ImpT enc Try.prog W 0 sp held 2 (One EI) := ImpT.int Try.underlying2
theorem impI : ImpT enc Try.prog W 0 sp held 27 (One RI) := ImpT.slice Try.underlying27 (by kernel_rfl) EI.le impInt
theorem impII : ImpT enc Try.prog W 0 sp held 22 (One RII) := ImpT.slice Try.underlying22 (by kernel_rfl) RI.le impI
theorem impIII : ImpT enc Try.prog W 0 sp held 28 (One RIII) := ImpT.slice Try.underlying28 (by kernel_rfl) RII.le impII
theorem impIIII : ImpT enc Try.prog W 0 sp held 23 (One RIIII) := ImpT.slice Try.underlying23 (by kernel_rfl) RIII.le impIII
theorem impDouble : ImpT enc Try.prog W 0 sp held 25 (fun h vs (x : SDouble) => ∃ v0 v1 v2 v3, vs = [v0, v1, v2, v3] ∧ EI h v0 x.prime ∧ RII h v1 x.dims ∧ RIIII h v2 x.across ∧ RIIII h v3 x.down) := by
  intro fuel cs y h
  obtain ⟨hl, hf⟩ := struct_cells Try.underlying25 4 (by kernel_rfl) (by kernel_rfl) h
  match cs, hl, hf with
  | [c0, c1, c2, c3], _, hf =>
    obtain ⟨k0, y0, e0⟩ := hf 0 _ c0 rfl rfl
    have i0 := impInt (held := held) (sp := sp) (enc := enc) k0 [c0] y0 e0
    obtain ⟨k1, y1, e1⟩ := hf 1 _ c1 rfl rfl
    have i1 := impII (held := held) (sp := sp) (enc := enc) k1 [c1] y1 e1
    obtain ⟨k2, y2, e2⟩ := hf 2 _ c2 rfl rfl
    have i2 := impIIII (held := held) (sp := sp) (enc := enc) k2 [c2] y2 e2
    obtain ⟨k3, y3, e3⟩ := hf 3 _ c3 rfl rfl
    have i3 := impIIII (held := held) (sp := sp) (enc := enc) k3 [c3] y3 e3
    obtain ⟨z, hz⟩ := (ImpC.two (One.le EI.le) i0 (ImpC.two (One.le RII.le) i1 (ImpC.two (One.le RIIII.le) i2 i3)))
    refine ⟨⟨z.1, z.2.1, z.2.2.1, z.2.2.2⟩, fun ι h hr hi => ?_⟩
    obtain ⟨ι', h', vs, h1, h2, h3, h4, h5, ⟨_, _, rfl, ⟨u0, rfl, r0⟩, ⟨_, _, rfl, ⟨u1, rfl, r1⟩, ⟨_, _, rfl, ⟨u2, rfl, r2⟩, ⟨u3, rfl, r3⟩⟩⟩⟩⟩ := hz ι h hr hi
    exact ⟨ι', h', _, h1, h2, h3, h4, h5, u0, u1, u2, u3, rfl, r0, r1, r2, r3⟩

end

theorem own : ownKnob Try.prog.godebug = none := by kernel_rfl
theorem laid : laidOutB Try.prog = true := by kernel_rfl
set_option maxRecDepth 100000 in
theorem lifted (os : Os) (started : os.Started) (H : Type) (enc : TypeId × Value → H) :
    ReturnsInHanded {} Try.checked os 4 .any (Rows.fnExactFilteredTotalSpec.pre6 enc Try.prog Try.f4 Rows.fnExactFilteredTotalRow.domain false) (Rows.fnExactFilteredTotalSpec.post enc Try.prog Try.f4 false true false false) := by
  refine returnsInHanded_of_change_sized (C := Try.checked) own started (by kernel_rfl) Try.func4
    (ChangeSpec.witness6 (enc := enc) (C := Try.checked) false ⟨#[], #[.agg #[.int .i64 0, .slice none 0 0, .slice none 0 0, .slice none 0 0], .bool false], []⟩ 8 (by kernel_rfl) (by kernel_rfl) (by kernel_rfl) (by kernel_rfl)) ?_
  intro W base args ds gs before hval hW hcnd hsz0 _
  have hW' := hW
  have hlt0 := hW.lt
  obtain ⟨p, q, hA0, hV, rfl, hfz, hnd⟩ := hW
  have hA : DataW.TrodAll enc Try.prog W 0 (fun _ => true) true Try.f4.params.toList args.toList ds p := hA0
  rw [Try.params4] at hA
  obtain ⟨rfl, rfl⟩ := trodVars_none hV
  have hlt : ∀ x ∈ p, x.block < W.heap.size := fun x hx => DataW.TrodAll.lt hA x hx
  have hA1 := hA
  obtain ⟨a0, a1, d0, d1, p0, p1, rfl, rfl, rfl, t0, t1⟩ := trodAll_two hA
  have o0 : Value.okWide Try.prog W .any base 25 a0 := hval 0 25 a0 (by rw [Try.params4]; rfl) rfl
  have o1 : Value.okWide Try.prog W .any base 4 a1 := hval 1 4 a1 (by rw [Try.params4]; rfl) rfl
  have hlaw : Calls Try.prog 4 #[a0, a1] W (fun e w' => e = .returned (.bool true) ∧ Below W.heap.size W w') := by
    obtain ⟨x0, i0⟩ := (ImpV.struct Try.underlying25 o0 t0 impDouble)
    obtain ⟨n1, e1⟩ := okWide_bool Try.underlying4 o1
    subst e1
    obtain ⟨ι0, h0, b0, l0, e0, hr0, im0, v0, r0⟩ := i0 _ _ (HR.empty W) Imm.empty
    have r0 : RDouble h0 b0 x0 := by
      obtain ⟨vs, rfl, u0, u1, u2, u3, rfl, z0, z1, z2, z3⟩ := r0
      have z0 : u0 = .int .i64 x0.prime := z0
      subst z0
      exact ⟨u1, u2, u3, rfl, z1, z2, z3⟩
    exact law_meets hr0 im0 (VRL.cons v0 (VRL.cons (.bool _) (VRL.nil _ _))) (FnExactFilteredTotal_law _ b0 x0 r0 n1)
  refine hlaw.mono fun e W' ⟨he, bel⟩ => ?_
  subst he
  have hargs := below_trodAll laid bel (ts := [25, 4]) (by intro t ht; revert t; exact of_decide_eq_true (by kernel_rfl)) hA1 hlt
  exact ⟨_, rfl, _, _, _, [], _, [], hW', trodAll_mk1 (shut_bool Try.underlying4 _), (by rw [Try.params4]; exact hargs), rfl, bel.frame _, fun h => by cases h⟩
theorem enters : Try.pinned.checked.prog.mayEnter = true := by kernel_rfl
set_option maxRecDepth 100000 in
theorem closed : joinedFacts Try.pinned.checked.prog 4 Try.f4 (Rows.fnExactFilteredTotalSpec) Rows.fnExactFilteredTotalRow = true := by
  unfold joinedFacts
  rw [enters]
  kernel_rfl
set_option maxRecDepth 100000 in
theorem over : Rows.fnExactFilteredTotalRow.holds Try.pinned (OpenSpec.ofChange Rows.fnExactFilteredTotalSpec) :=
  OpenClaim.holds_of_wide 4 Try.f4 rfl rfl rfl rfl rfl rfl rfl ⟨rfl, rfl, rfl, rfl, rfl⟩ rfl rfl rfl rfl rfl (by kernel_rfl) Try.func4 closed
    (of_decide_eq_true (by kernel_rfl)) (by unfold Func.isWrapper; first | (rw [if_pos (by decide +kernel)]; kernel_rfl) | (rw [if_neg (by decide +kernel)]; exact ⟨rfl, rfl⟩))
    (fun os started H enc _ => lifted os started H enc)
end Go.Proofs.Ytionapmdibdfpaa.LawFilteredTotal
namespace Go.Proofs.Ytionapmdibdfpaa
theorem fnExactFilteredTotal_holds : Rows.FnExactFilteredTotalSaid := LawFilteredTotal.over
end Go.Proofs.Ytionapmdibdfpaa

/- The statement of FnExactSumOfSpaces, out of the walk of the law. No condition. -/
import Derived.Test.YtjimjoiedmccnaaRows
import Derived.Test.YtjimjoiedmccnaaGlM
import Derived.Test.YtjimjoiedmccnaaFnLawK3
set_option linter.unusedVariables false
set_option linter.unusedSimpArgs false
namespace Go.Proofs.Ytjimjoiedmccnaa.LawSumOfSpaces
open Go Go.Gl Go.Proofs Go.Proofs.Ytjimjoiedmccnaa
open Go.ChangeShapes Go.WideShapes Go.ChangeAt Go.RowKit

section
variable {H : Type} {enc : TypeId × Value → H} {W : World} {sp : Nat → Bool} {held : Bool}
theorem impInt : ImpT enc Try.prog W 0 sp held 2 (One EI) := ImpT.int Try.underlying2
theorem impI : ImpT enc Try.prog W 0 sp held 42 (One RI) := ImpT.slice Try.underlying42 (by kernel_rfl) EI.le impInt
theorem impII : ImpT enc Try.prog W 0 sp held 22 (One RII) := ImpT.slice Try.underlying22 (by kernel_rfl) RI.le impI
end

theorem own : ownKnob Try.prog.godebug = none := by kernel_rfl
theorem laid : laidOutB Try.prog = true := by kernel_rfl
set_option maxRecDepth 100000 in
theorem lifted (os : Os) (started : os.Started) (H : Type) (enc : TypeId × Value → H) :
    ReturnsInHanded {} Try.checked os 6 .any (Rows.fnExactSumOfSpacesSpec.pre6 enc Try.prog Try.f6 Rows.fnExactSumOfSpacesRow.domain false) (Rows.fnExactSumOfSpacesSpec.post enc Try.prog Try.f6 false true false false) := by
  refine returnsInHanded_of_change_sized (C := Try.checked) own started (by kernel_rfl) Try.func6
    (ChangeSpec.witness6 (enc := enc) (C := Try.checked) false ⟨#[], #[.int .i64 0, .int .i64 0, .slice none 0 0, .slice none 0 0], []⟩ 8 (by kernel_rfl) (by kernel_rfl) (by kernel_rfl) (by kernel_rfl)) ?_
  intro W base args ds gs before hval hW hcnd hsz0 _
  have hW' := hW
  have hlt0 := hW.lt
  obtain ⟨p, q, hA0, hV, rfl, hfz, hnd⟩ := hW
  have hA : DataW.TrodAll enc Try.prog W 0 (fun _ => true) true Try.f6.params.toList args.toList ds p := hA0
  rw [Try.params6] at hA
  obtain ⟨rfl, rfl⟩ := trodVars_none hV
  have hlt : ∀ x ∈ p, x.block < W.heap.size := fun x hx => DataW.TrodAll.lt hA x hx
  have hA1 := hA
  obtain ⟨a0, a1, a2, a3, d0, d1, d2, d3, p0, p1, p2, p3, rfl, rfl, rfl, t0, t1, t2, t3⟩ := trodAll_four hA
  have o0 : Value.okWide Try.prog W .any base 2 a0 := hval 0 2 a0 (by rw [Try.params6]; rfl) rfl
  have o1 : Value.okWide Try.prog W .any base 2 a1 := hval 1 2 a1 (by rw [Try.params6]; rfl) rfl
  have o2 : Value.okWide Try.prog W .any base 22 a2 := hval 2 22 a2 (by rw [Try.params6]; rfl) rfl
  have o3 : Value.okWide Try.prog W .any base 22 a3 := hval 3 22 a3 (by rw [Try.params6]; rfl) rfl
  have hlaw : Calls Try.prog 6 #[a0, a1, a2, a3] W (fun e w' => e = .returned (.bool true) ∧ Below W.heap.size W w') := by
    obtain ⟨n0, e0⟩ := okWide_int Try.underlying2 o0
    subst e0
    obtain ⟨n1, e1⟩ := okWide_int Try.underlying2 o1
    subst e1
    obtain ⟨x2, i2⟩ := ImpV.slice Try.underlying22 o2 t2 impII
    obtain ⟨x3, i3⟩ := ImpV.slice Try.underlying22 o3 t3 impII
    obtain ⟨ι2, h2, b2, l2, e2, hr2, im2, v2, r2⟩ := i2 _ _ (HR.empty W) Imm.empty
    obtain ⟨ι3, h3, b3, l3, e3, hr3, im3, v3, r3⟩ := i3 _ _ hr2 im2
    have v2 := v2.ext l3.len e3
    have r2 := RII.le _ _ _ _ l3 r2
    exact law_meets hr3 im3 (VRL.cons (.int _ _) (VRL.cons (.int _ _) (VRL.cons v2 (VRL.cons v3 (VRL.nil _ _))))) (FnExactSumOfSpaces_law _ n0 n1 b2 x2 r2 b3 x3 r3)
  refine hlaw.mono fun e W' ⟨he, bel⟩ => ?_
  subst he
  have hargs := below_trodAll laid bel (ts := [2, 2, 22, 22]) (by intro t ht; revert t; exact of_decide_eq_true (by kernel_rfl)) hA1 hlt
  exact ⟨_, rfl, _, _, _, [], _, [], hW', trodAll_mk1 (shut_bool Try.underlying4 _), (by rw [Try.params6]; exact hargs), rfl, bel.frame _, fun h => by cases h⟩
set_option maxRecDepth 100000 in
theorem over : Rows.fnExactSumOfSpacesRow.holds Try.pinned (OpenSpec.ofChange Rows.fnExactSumOfSpacesSpec) :=
  OpenClaim.holds_of_wide 6 Try.f6 rfl rfl rfl rfl rfl rfl rfl ⟨rfl, rfl, rfl, rfl, rfl⟩ rfl rfl rfl rfl rfl (by kernel_rfl) Try.func6 (by kernel_rfl)
    (of_decide_eq_true (by kernel_rfl)) (by unfold Func.isWrapper; first | (rw [if_pos (by decide +kernel)]; kernel_rfl) | (rw [if_neg (by decide +kernel)]; exact ⟨rfl, rfl⟩))
    (fun os started H enc _ => lifted os started H enc)
end Go.Proofs.Ytjimjoiedmccnaa.LawSumOfSpaces
namespace Go.Proofs.Ytjimjoiedmccnaa
theorem fnExactSumOfSpaces_holds : Rows.FnExactSumOfSpacesSaid := LawSumOfSpaces.over
end Go.Proofs.Ytjimjoiedmccnaa

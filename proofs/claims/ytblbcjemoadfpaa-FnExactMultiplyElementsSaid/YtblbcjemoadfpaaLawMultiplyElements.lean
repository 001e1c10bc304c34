/- The statement of FnExactMultiplyElements, out of the walk of the law. No condition. -/
import Derived.Test.YtblbcjemoadfpaaRows
import Derived.Test.YtblbcjemoadfpaaGlM
import Derived.Test.YtblbcjemoadfpaaFnQ9
set_option linter.unusedVariables false
set_option linter.unusedSimpArgs false
namespace Go.Proofs.Ytblbcjemoadfpaa.LawMultiplyElements
open Go Go.Gl Go.Proofs Go.Proofs.Ytblbcjemoadfpaa
open Go.ChangeShapes Go.WideShapes Go.ChangeAt Go.RowKit

section
variable {H : Type} {enc : TypeId × Value → H} {W : World} {sp : Nat → Bool} {held : Bool}
theorem impInt : ImpT enc Try.prog W 0 sp held 2 (One EI) := ImpT.int Try.underlying2
end

theorem own : ownKnob Try.prog.godebug = none := by kernel_rfl
theorem laid : laidOutB Try.prog = true := by kernel_rfl
set_option maxRecDepth 100000 in
theorem lifted (os : Os) (started : os.Started) (H : Type) (enc : TypeId × Value → H) :
    ReturnsInHanded {} Try.checked os 6 .any (Rows.fnExactMultiplyElementsSpec.pre6 enc Try.prog Try.f6 Rows.fnExactMultiplyElementsRow.domain false) (Rows.fnExactMultiplyElementsSpec.post enc Try.prog Try.f6 false true false false) := by
  refine returnsInHanded_of_change_sized (C := Try.checked) own started (by kernel_rfl) Try.func6
    (ChangeSpec.witness6 (enc := enc) (C := Try.checked) false ⟨#[], #[(vG (2 :: List.replicate 17 0) (List.replicate 576 0)), (vA .u8 (List.replicate 8 0)), (vA .u8 (List.replicate 8 0))], []⟩ 8 (by kernel_rfl) (by kernel_rfl) (by kernel_rfl) (by kernel_rfl)) ?_
  intro W base args ds gs before hval hW hcnd hsz0 _
  have hW' := hW
  have hlt0 := hW.lt
  obtain ⟨p, q, hA0, hV, rfl, hfz, hnd⟩ := hW
  have hA : DataW.TrodAll enc Try.prog W 0 (fun _ => true) true Try.f6.params.toList args.toList ds p := hA0
  rw [Try.params6] at hA
  obtain ⟨rfl, rfl⟩ := trodVars_none hV
  have hlt : ∀ x ∈ p, x.block < W.heap.size := fun x hx => DataW.TrodAll.lt hA x hx
  have hA1 := hA
  obtain ⟨a0, a1, a2, d0, d1, d2, p0, p1, p2, rfl, rfl, rfl, t0, t1, t2⟩ := trodAll_three hA
  have o0 : Value.okWide Try.prog W .any base 36 a0 := hval 0 36 a0 (by rw [Try.params6]; rfl) rfl
  have o1 : Value.okWide Try.prog W .any base 23 a1 := hval 1 23 a1 (by rw [Try.params6]; rfl) rfl
  have o2 : Value.okWide Try.prog W .any base 23 a2 := hval 2 23 a2 (by rw [Try.params6]; rfl) rfl
  have hlaw : Calls Try.prog 6 #[a0, a1, a2] W (fun e w' => e = .returned (.bool true) ∧ Below W.heap.size W w') := by
    obtain ⟨I0, B0, e0, g0, bb0⟩ := ok_dga o0
    subst e0
    obtain ⟨u1, e1, y1⟩ := ok_el o1
    subst e1
    obtain ⟨u2, e2, y2⟩ := ok_el o2
    subst e2
    exact law_meets (HR.empty W) Imm.empty (VRL.cons (VR.vG _ _) (VRL.cons (VR.vA _ _) (VRL.cons (VR.vA _ _) (VRL.nil _ _)))) (FnExactMultiplyElements_law _ I0 B0 u1 u2 g0 bb0 y1 y2)
  refine hlaw.mono fun e W' ⟨he, bel⟩ => ?_
  subst he
  have hargs := below_trodAll laid bel (ts := [36, 23, 23]) (by intro t ht; revert t; exact of_decide_eq_true (by kernel_rfl)) hA1 hlt
  exact ⟨_, rfl, _, _, _, [], _, [], hW', trodAll_mk1 (shut_bool Try.underlying4 _), (by rw [Try.params6]; exact hargs), rfl, bel.frame _, fun h => by cases h⟩
theorem enters : Try.pinned.checked.prog.mayEnter = true := by kernel_rfl
set_option maxRecDepth 100000 in
theorem closed : joinedFacts Try.pinned.checked.prog 6 Try.f6 (Rows.fnExactMultiplyElementsSpec) Rows.fnExactMultiplyElementsRow = true := by
  unfold joinedFacts
  rw [enters]
  kernel_rfl
set_option maxRecDepth 100000 in
theorem over : Rows.fnExactMultiplyElementsRow.holds Try.pinned (OpenSpec.ofChange Rows.fnExactMultiplyElementsSpec) :=
  OpenClaim.holds_of_wide 6 Try.f6 rfl rfl rfl rfl rfl rfl rfl ⟨rfl, rfl, rfl, rfl, rfl⟩ rfl rfl rfl rfl rfl (by kernel_rfl) Try.func6 closed
    (of_decide_eq_true (by kernel_rfl)) (by unfold Func.isWrapper; first | (rw [if_pos (by decide +kernel)]; kernel_rfl) | (rw [if_neg (by decide +kernel)]; exact ⟨rfl, rfl⟩))
    (fun os started H enc _ => lifted os started H enc)
end Go.Proofs.Ytblbcjemoadfpaa.LawMultiplyElements
namespace Go.Proofs.Ytblbcjemoadfpaa
theorem fnExactMultiplyElements_holds : Rows.FnExactMultiplyElementsSaid := LawMultiplyElements.over
end Go.Proofs.Ytblbcjemoadfpaa

/- The statement of FnWholes, out of the walk of the law. No condition. -/
import Derived.Test.YtoeapenknlfffaaRows
import Derived.Test.YtoeapenknlfffaaGlM
import Derived.Test.YtoeapenknlfffaaGlN
import Derived.Test.YtoeapenknlfffaaFnO7
import Derived.Test.YtoeapenknlfffaaFnV6
set_option linter.unusedVariables false
set_option linter.unusedSimpArgs false
namespace Go.Proofs.Ytoeapenknlfffaa.LawFnWholes
open Go Go.Gl Go.Proofs Go.Proofs.Ytoeapenknlfffaa
open Go.ChangeShapes Go.WideShapes Go.ChangeAt Go.RowKit

section
variable {H : Type} {enc : TypeId × Value → H} {W : World} {sp : Nat → Bool} {held : Bool}
theorem impInt : ImpT enc Try.prog W 0 sp held 2 (One EI) := ImpT.int Try.underlying2
theorem imp8 : ImpT enc Try.prog W 0 sp held 22 (One R8) := ImpT.slice Try.underlying22 (by kernel_rfl) E8.le (ImpT.byte Try.underlying5)
end

theorem own : ownKnob Try.prog.godebug = none := by kernel_rfl
theorem laid : laidOutB Try.prog = true := by kernel_rfl
set_option maxRecDepth 100000 in
theorem lifted (os : Os) (started : os.Started) (H : Type) (enc : TypeId × Value → H) :
    ReturnsInHanded {} Try.checked os 3 .any (Rows.fnWholesSpec.pre6 enc Try.prog Try.f3 Rows.fnWholesRow.domain false) (Rows.fnWholesSpec.post enc Try.prog Try.f3 false true false false) := by
  refine returnsInHanded_of_change_sized (C := Try.checked) own started (by kernel_rfl) Try.func3
    (ChangeSpec.witness6 (enc := enc) (C := Try.checked) false ⟨#[], #[.slice none 0 0], []⟩ 8 (by kernel_rfl) (by kernel_rfl) (by kernel_rfl) (by kernel_rfl)) ?_
  intro W base args ds gs before hval hW hcnd hsz0 _
  have hW' := hW
  have hlt0 := hW.lt
  obtain ⟨p, q, hA0, hV, rfl, hfz, hnd⟩ := hW
  have hA : DataW.TrodAll enc Try.prog W 0 (fun _ => true) true Try.f3.params.toList args.toList ds p := hA0
  rw [Try.params3] at hA
  obtain ⟨rfl, rfl⟩ := trodVars_none hV
  have hlt : ∀ x ∈ p, x.block < W.heap.size := fun x hx => DataW.TrodAll.lt hA x hx
  have hA1 := hA
  obtain ⟨a0, d0, rfl, rfl, t0⟩ := trodAll_one hA
  have o0 : Value.okWide Try.prog W .any base 22 a0 := hval 0 22 a0 (by rw [Try.params3]; rfl) rfl
  have hlaw : Calls Try.prog 3 #[a0] W (fun e w' => e = .returned (.bool true) ∧ Below W.heap.size W w') := by
    obtain ⟨x0, i0⟩ := ImpV.slice Try.underlying22 o0 t0 imp8
    obtain ⟨ι0, h0, b0, l0, e0, hr0, im0, v0, r0⟩ := i0 _ _ (HR.empty W) Imm.empty
    exact law_meets hr0 im0 (VRL.cons v0 (VRL.nil _ _)) (FnWholes_law _ b0 x0 r0)
  refine hlaw.mono fun e W' ⟨he, bel⟩ => ?_
  subst he
  have hargs := below_trodAll laid bel (ts := [22]) (by intro t ht; revert t; exact of_decide_eq_true (by kernel_rfl)) hA1 hlt
  exact ⟨_, rfl, _, _, _, [], _, [], hW', trodAll_mk1 (shut_bool Try.underlying4 _), (by rw [Try.params3]; exact hargs), rfl, bel.frame _, fun h => by cases h⟩
theorem enters : Try.pinned.checked.prog.mayEnter = true := by kernel_rfl
set_option maxRecDepth 100000 in
theorem closed : joinedFacts Try.pinned.checked.prog 3 Try.f3 (Rows.fnWholesSpec) Rows.fnWholesRow = true := by
  unfold joinedFacts
  rw [enters]
  kernel_rfl
set_option maxRecDepth 100000 in
theorem over : Rows.fnWholesRow.holds Try.pinned (OpenSpec.ofChange Rows.fnWholesSpec) :=
  OpenClaim.holds_of_wide 3 Try.f3 rfl rfl rfl rfl rfl rfl rfl ⟨rfl, rfl, rfl, rfl, rfl⟩ rfl rfl rfl rfl rfl (by kernel_rfl) Try.func3 closed
    (of_decide_eq_true (by kernel_rfl)) (by unfold Func.isWrapper; first | (rw [if_pos (by decide +kernel)]; kernel_rfl) | (rw [if_neg (by decide +kernel)]; exact ⟨rfl, rfl⟩))
    (fun os started H enc _ => lifted os started H enc)
end Go.Proofs.Ytoeapenknlfffaa.LawFnWholes
namespace Go.Proofs.Ytoeapenknlfffaa
theorem fnWholes_holds : Rows.FnWholesSaid := LawFnWholes.over
end Go.Proofs.Ytoeapenknlfffaa

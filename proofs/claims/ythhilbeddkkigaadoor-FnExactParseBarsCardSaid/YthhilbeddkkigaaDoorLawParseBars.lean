/- The tied card of FnExactParseBars: the law returns true for every input, where the listed variables of the library hold what the text of the program lays (the card ties that). Conditions: those of the card. -/
import Derived.Test.YthhilbeddkkigaaDoorRows
import Derived.Test.YthhilbeddkkigaaDoorCards
import Derived.Test.YthhilbeddkkigaaDoorTie
import Derived.SevenTiedAt
import Derived.ProofKit
import Derived.LaidMore
import Derived.LaidLaws
import Derived.LaidHandle
import Derived.LaidOnce
import Derived.Lay
import Derived.Test.YthhilbeddkkigaaDoorGlM
import Derived.Test.YthhilbeddkkigaaDoorFnJ1
set_option linter.unusedVariables false
set_option linter.unusedSimpArgs false
namespace Go.Proofs.YthhilbeddkkigaaDoor.LawParseBars
open Go Go.Gl Go.Proofs Go.Proofs.YthhilbeddkkigaaDoor
open Go.ChangeShapes Go.WideShapes Go.ChangeAt Go.RowKit

section
variable {H : Type} {enc : TypeId × Value → H} {W : World} {sp : Nat → Bool} {held : Bool}
theorem impInt : ImpT enc Tryd.prog W 0 sp held 2 (One EI) := ImpT.int Tryd.underlying2
end

theorem own : ownKnob Tryd.prog.godebug = none := by kernel_rfl
theorem laid : laidOutB Tryd.prog = true := by kernel_rfl
theorem star : "*" ++ "errors.errorString" = "*errors.errorString" := by decide
theorem rowErr (u : TypeId) (h : Tryd.prog.typeName? 3 u = some "*errors.errorString") : u = 103 :=
  typeName_ptr_named (nm := "errors.errorString") (by rw [star]; kernel_rfl) (by kernel_rfl) (by decide) u (by rw [star]; exact h)
theorem noHandles : (Rows.fnExactParseBarsRow.laid.filter fun x => x.2.handleName?.isSome) = [] := by kernel_rfl
theorem laid_errs {W : World} (h : laidMetH Tryd.prog Rows.fnExactParseBarsRow.laid W) : (∃ u, W.cell? ⟨1, 0, none⟩ = some u ∧ GK 1 u) ∧ ∃ u, W.cell? ⟨2, 0, none⟩ = some u ∧ GK 1 u := by
  unfold laidMetH at h
  rw [noHandles] at h
  obtain ⟨ps, ⟨_, _, _, _, _, _, _, _, _, _, ⟨_, _, _, _, _, _, _, _, _, _, ⟨_, _, _, _, _, _, _, _, _, _, ⟨_, _, _, _, _, _, _, _, _, _, ⟨g4, t4, cs4, f4, p4, q4, hg4, ht4, hv4, hd4, ⟨g5, t5, cs5, f5, p5, q5, hg5, ht5, hv5, hd5, _, _⟩, _⟩, _⟩, _⟩, _⟩, _⟩, _, _⟩ := h
  obtain rfl := Option.some.inj ((show Tryd.prog.globalNamed "strconv.ErrRange" = some 2 by kernel_rfl).symm.trans hg4)
  obtain rfl := Option.some.inj ((show Tryd.prog.globalNamed "strconv.ErrSyntax" = some 1 by kernel_rfl).symm.trans hg5)
  obtain rfl := Option.some.inj ((show (Tryd.prog.globals[2]?).map (·.type) = some 41 by kernel_rfl).symm.trans ht4)
  obtain rfl := Option.some.inj ((show (Tryd.prog.globals[1]?).map (·.type) = some 41 by kernel_rfl).symm.trans ht5)
  exact ⟨laid_err hg5 hv5 Tryd.underlying41 rowErr Tryd.underlying103 hd5, laid_err hg4 hv4 Tryd.underlying41 rowErr Tryd.underlying103 hd4⟩
set_option maxRecDepth 100000 in
theorem lifted (os : Os) (started : os.Started) (H : Type) (enc : TypeId × Value → H) :
    ReturnsInHanded {} Tryd.checked os 3 .any (fun w args => (Rows.fnExactParseBarsSpec.pre enc Tryd.prog Tryd.f3 [] false w args ∧ laidMetH Tryd.prog Rows.fnExactParseBarsRow.laid w) ∧ sizedMet enc Tryd.prog Tryd.f3 (OpenSpec.ofChange Rows.fnExactParseBarsSpec) false w args) (Rows.fnExactParseBarsSpec.post enc Tryd.prog Tryd.f3 false true false false) := by
  refine handed_and_shaped (C := Tryd.checked) (X := fun w _ => laidMetH Tryd.prog Rows.fnExactParseBarsRow.laid w) (fun _ _ _ hh h => h.of_heap hh) own started (by kernel_rfl) Tryd.func3
    (ChangeSpec.witness_shaped (enc := enc) (C := Tryd.checked) (os := os) (X := fun w _ => laidMetH Tryd.prog Rows.fnExactParseBarsRow.laid w) false (World.laidAll Tryd.prog os Rows.fnExactParseBarsRow.laid) #[.string ⟨#[]⟩] 8 (World.laidAll_os _ _ _) (World.shaped_of_ZipB (by kernel_rfl) (by kernel_rfl)) (by kernel_rfl) (by kernel_rfl) (by kernel_rfl) (by rw [MakeChecks.laidMetH_plain _ _ _ (by kernel_rfl)]; exact laidMet_laidAll _ (by kernel_rfl) (by kernel_rfl))) ?_
  intro W base args ds gs before hval hW hlaid hsh
  have hW' := hW
  have hlt0 := hW.lt
  obtain ⟨p, q, hA0, hV, rfl, hfz, hnd⟩ := hW
  have hA : DataW.TrodAll enc Tryd.prog W 0 (fun _ => true) true Tryd.f3.params.toList args.toList ds p := hA0
  rw [Tryd.params3] at hA
  obtain ⟨rfl, rfl⟩ := trodVars_none hV
  have hlt : ∀ x ∈ p, x.block < W.heap.size := fun x hx => DataW.TrodAll.lt hA x hx
  have hA1 := hA
  obtain ⟨a0, d0, rfl, rfl, t0⟩ := trodAll_one hA
  have o0 : Value.okWide Tryd.prog W .any base 9 a0 := hval 0 9 a0 (by rw [Tryd.params3]; rfl) rfl
  have hlaw : Calls Tryd.prog 3 #[a0] W (fun e w' => e = .returned (.bool true) ∧ Below W.heap.size W w') := by
    obtain ⟨n0, e0⟩ := okWide_string Tryd.underlying9 o0
    subst e0
    obtain ⟨m, hm⟩ := cell_of_shapedOpen_int hsh (k := .i64) (g := 0) (t := 3) (zero := #[.int .i64 0]) (of_decide_eq_true (by kernel_rfl)) (by kernel_rfl) rfl (by kernel_rfl) (by kernel_rfl) Tryd.underlying3
    obtain ⟨⟨u1, k1, g1⟩, ⟨u2, k2, g2⟩⟩ := laid_errs hlaid
    obtain ⟨ι0, h0, hr0, im0, G⟩ := start_glob hm (.inl ⟨rfl, m, rfl⟩) k1 g1 k2 g2
    exact law_meets hr0 im0 (VRL.cons (.string _) (VRL.nil _ _)) (FnExactParseBars_law _ 0 1 2 G n0)
  refine hlaw.mono fun e W' ⟨he, bel⟩ => ?_
  subst he
  have hargs := below_trodAll laid bel (ts := [9]) (by intro t ht; revert t; exact of_decide_eq_true (by kernel_rfl)) hA1 hlt
  exact ⟨_, rfl, _, _, _, [], _, [], hW', trodAll_mk1 (shut_bool Tryd.underlying4 _), (by rw [Tryd.params3]; exact hargs), rfl, bel.frame _, fun h => by cases h⟩
theorem enters : Tryd.pinned.checked.prog.mayEnter = true := by kernel_rfl
set_option maxRecDepth 100000 in
theorem closed : joinedFacts Tryd.pinned.checked.prog 3 Tryd.f3 (Rows.fnExactParseBarsSpec) Rows.fnExactParseBarsRow = true := by
  unfold joinedFacts
  rw [enters]
  kernel_rfl
set_option maxRecDepth 100000 in
theorem over : Rows.fnExactParseBarsRow.holds Tryd.pinned (OpenSpec.ofChange Rows.fnExactParseBarsSpec) :=
  OpenClaim.holds_of_wide 3 Tryd.f3 rfl rfl rfl rfl rfl rfl rfl ⟨rfl, rfl, rfl, rfl, rfl⟩ rfl rfl rfl rfl rfl (by kernel_rfl) Tryd.func3 closed
    (of_decide_eq_true (by kernel_rfl)) (by unfold Func.isWrapper; first | (rw [if_pos (by decide +kernel)]; kernel_rfl) | (rw [if_neg (by decide +kernel)]; exact ⟨rfl, rfl⟩))
    (fun os started H enc _ => lifted os started H enc)
end Go.Proofs.YthhilbeddkkigaaDoor.LawParseBars
namespace Go.Proofs.YthhilbeddkkigaaDoor
open Go
theorem fnExactParseBarsCard_holds : Rows.FnExactParseBarsCardSaid :=
  Claim7.holds_tied_plain_at .later [] [.data, .data, .data, .data, .sentinel, .sentinel, .pinned] true (true, "981667a1090e5eb94a60874b024a4d5302b2354099a05a011a9bdd0072debb15") true
    LawParseBars.over (fun _ h => by cases h) (by kernel_rfl) (fun _ h => by cases h) fnExactParseBars_row_tie rfl ⟨rfl, rfl⟩ (by kernel_rfl) rfl
    (fun f fn hf hfn => by
      obtain rfl : f = 3 := Option.some.inj ((show Tryd.prog.funcNamed Rows.fnExactParseBarsRow.func = some 3 by kernel_rfl).symm.trans hf) |>.symm
      obtain rfl : fn = Tryd.f3 := (Option.some.inj (Tryd.func3.symm.trans hfn)).symm
      exact ⟨by kernel_rfl, fun j t ht => by
        rw [Tryd.params3] at ht
        have hm : t ∈ [9] := by simpa using Array.mem_of_getElem? ht
        have hall : ([9].all fun u => !Tryd.prog.wantsStandIn u) = true := by kernel_rfl
        exact (show Tryd.prog.wantsStandIn t = false by simpa using List.all_eq_true.1 hall t hm)⟩)
    (by kernel_rfl)
end Go.Proofs.YthhilbeddkkigaaDoor

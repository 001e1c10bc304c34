/- Laws on bars, walked: written by mk_lawb.py. No condition. -/
import Derived.Test.YthpnepfjgljkkaaFnBar4
set_option linter.unusedVariables false
set_option linter.unusedSimpArgs false
namespace Go.Gl
open Go.Proofs Go.Proofs.Ythpnepfjgljkkaa Go.Pl


theorem FnExactBarPage_law (h : AH) (v : Value) (xs : List SBar) (hx : RB h v xs) (a1 a2 a3 : Int) : ACalls Try.prog 3 [v, .int .i64 a1, .int .i64 a2, .int .i64 a3] h (fun r h' => r = .bool true ∧ h' = h) := by
  obtain ⟨b, o, k1, hx⟩ := hx.can
  refine ACalls.wk (args' := [.slice (some ⟨b, o, none⟩) xs.length 0, .int .i64 a1, .int .i64 a2, .int .i64 a3]) ?_ (.cons k1 (.cons (Wk.refl _) (.cons (Wk.refl _) (.cons (Wk.refl _) .nil))))
  refine ACalls.of Tt.tab Try.func3 rfl (by kernel_rfl) Try.ntmps3 _ rfl rfl (fun hw => ?_)
  have S := Sep.start h
  refine CallX.same (szBarS_c _ _ xs 1048576 hx (by omega) (by omega)) ?_
  rintro r g ⟨rfl, rfl⟩
  refine BIf.mk (fun h1 => ?_) (fun h1 => ?_)
  · exact FinX.keep hw S.le rfl ⟨rfl, rfl⟩
  have hct : xs.length ≤ 1048576 := by
    refine Classical.byContradiction fun hn => ?_
    rw [if_neg (by omega)] at h1
    simp at h1
  refine CallX.same (toBarS_c _ _ xs (RB.le _ _ _ _ S.le hx) hct) ?_
  rintro r g ⟨bb, rfl, ll, ee, gg⟩
  have S := S.box gg ll ee
  refine CallX.same (barPageS_c _ _ xs a1 a2 a3 (RB.bx (S.at_ 0 rfl) (by omega) 1)) ?_
  rintro r g ⟨rfl, gg⟩
  have S := S.grow gg
  refine CallX.same (toBarS_c _ _ xs (RB.le _ _ _ _ S.le hx) hct) ?_
  rintro r g ⟨bb, rfl, ll, ee, gg⟩
  have S := S.box gg ll ee
  refine CallX.same (barPageI_c _ _ xs a1 a2 a3 (RB.bx (S.at_ 0 rfl) (by omega) 1)) ?_
  rintro r g ⟨rfl, gg⟩
  have S := S.grow gg
  refine BIf.no (by simp) ?_
  refine BIf.no (by simp) ?_
  refine CallX.same (toBarS_c _ _ xs (RB.le _ _ _ _ S.le hx) hct) ?_
  rintro r g ⟨bb, rfl, ll, ee, gg⟩
  have S := S.box gg ll ee
  refine CallX.same (eqBarS_c _ _ _ xs xs (RB.bx (S.at_ 1 rfl) (by omega) 1) (RB.bx (S.at_ 0 rfl) (by omega) 1)) ?_
  rintro r g ⟨rfl, rfl⟩
  refine BIf.no (by simp) ?_
  exact FinX.keep hw S.le rfl ⟨rfl, rfl⟩

end Go.Gl

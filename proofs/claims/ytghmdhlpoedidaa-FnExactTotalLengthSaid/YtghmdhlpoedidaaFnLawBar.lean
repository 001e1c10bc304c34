/- Laws on bars, walked: written by mk_lawb.py. No condition. -/
import Derived.Test.YtghmdhlpoedidaaFnBar2
set_option linter.unusedVariables false
set_option linter.unusedSimpArgs false
namespace Go.Gl
open Go.Proofs Go.Proofs.Ytghmdhlpoedidaa Go.Pl


theorem FnExactAreBars_law (h : AH) (v : Value) (xs : List SBar) (hx : RB h v xs) : ACalls Try.prog 5 [v] h (fun r h' => r = .bool true ∧ h' = h) := by
  obtain ⟨b, o, k1, hx⟩ := hx.can
  refine ACalls.wk (args' := [.slice (some ⟨b, o, none⟩) xs.length 0]) ?_ (.cons k1 .nil)
  refine ACalls.of Tt.tab Try.func5 rfl (by kernel_rfl) Try.ntmps5 _ rfl rfl (fun hw => ?_)
  have S := Sep.start h
  refine CallX.same (szBarS_c _ _ xs 1048576 hx (by omega) (by omega)) ?_
  rintro r g ⟨rfl, rfl⟩
  refine BIf.mk (fun h1 => ?_) (fun h1 => ?_)
  · exact FinX.keep hw S.le rfl ⟨rfl, rfl⟩
  have hct : xs.length ≤ 1048576 := by
    refine Classical.byContradiction fun hn => ?_
    rw [if_neg (by omega)] at h1
    simp at h1
  refine CallX.same (toBarS_c _ _ xs (RB.le _ _ _ _ S.le hx) hct) ?_
  rintro r g ⟨bb, rfl, ll, ee, gg⟩
  have S := S.box gg ll ee
  refine CallX.same (areBarsS_c _ _ xs (RB.bx (S.at_ 0 rfl) (by omega) 1)) ?_
  rintro r g ⟨rfl, rfl⟩
  refine CallX.same (toBarS_c _ _ xs (RB.le _ _ _ _ S.le hx) hct) ?_
  rintro r g ⟨bb, rfl, ll, ee, gg⟩
  have S := S.box gg ll ee
  refine CallX.same (areBarsI_c _ _ xs (RB.bx (S.at_ 0 rfl) (by omega) 1)) ?_
  rintro r g ⟨rfl, rfl⟩
  refine BIf.no (by simp) ?_
  refine CallX.same (toBarS_c _ _ xs (RB.le _ _ _ _ S.le hx) hct) ?_
  rintro r g ⟨bb, rfl, ll, ee, gg⟩
  have S := S.box gg ll ee
  refine CallX.same (eqBarS_c _ _ _ xs xs (RB.bx (S.at_ 1 rfl) (by omega) 1) (RB.bx (S.at_ 0 rfl) (by omega) 1)) ?_
  rintro r g ⟨rfl, rfl⟩
  refine BIf.no (by simp) ?_
  exact FinX.keep hw S.le rfl ⟨rfl, rfl⟩


theorem FnExactTotalLength_law (h : AH) (v : Value) (xs : List SBar) (hx : RB h v xs) : ACalls Try.prog 11 [v] h (fun r h' => r = .bool true ∧ h' = h) := by
  obtain ⟨b, o, k1, hx⟩ := hx.can
  refine ACalls.wk (args' := [.slice (some ⟨b, o, none⟩) xs.length 0]) ?_ (.cons k1 .nil)
  refine ACalls.of Tt.tab Try.func11 rfl (by kernel_rfl) Try.ntmps11 _ rfl rfl (fun hw => ?_)
  have S := Sep.start h
  refine CallX.same (szBarS_c _ _ xs 1048576 hx (by omega) (by omega)) ?_
  rintro r g ⟨rfl, rfl⟩
  refine BIf.mk (fun h1 => ?_) (fun h1 => ?_)
  · exact FinX.keep hw S.le rfl ⟨rfl, rfl⟩
  have hct : xs.length ≤ 1048576 := by
    refine Classical.byContradiction fun hn => ?_
    rw [if_neg (by omega)] at h1
    simp at h1
  refine CallX.same (toBarS_c _ _ xs (RB.le _ _ _ _ S.le hx) hct) ?_
  rintro r g ⟨bb, rfl, ll, ee, gg⟩
  have S := S.box gg ll ee
  refine CallX.same (totalS_c _ _ xs (RB.bx (S.at_ 0 rfl) (by omega) 1)) ?_
  rintro r g ⟨rfl, gg⟩
  have S := S.grow gg
  refine CallX.same (toBarS_c _ _ xs (RB.le _ _ _ _ S.le hx) hct) ?_
  rintro r g ⟨bb, rfl, ll, ee, gg⟩
  have S := S.box gg ll ee
  refine CallX.same (totalI_c _ _ xs (RB.bx (S.at_ 0 rfl) (by omega) 1)) ?_
  rintro r g ⟨rfl, gg⟩
  have S := S.grow gg
  refine BIf.no (by simp) ?_
  refine BIf.no (by simp) ?_
  refine CallX.same (toBarS_c _ _ xs (RB.le _ _ _ _ S.le hx) hct) ?_
  rintro r g ⟨bb, rfl, ll, ee, gg⟩
  have S := S.box gg ll ee
  refine CallX.same (eqBarS_c _ _ _ xs xs (RB.bx (S.at_ 1 rfl) (by omega) 1) (RB.bx (S.at_ 0 rfl) (by omega) 1)) ?_
  rintro r g ⟨rfl, rfl⟩
  refine BIf.no (by simp) ?_
  exact FinX.keep hw S.le rfl ⟨rfl, rfl⟩

end Go.Gl

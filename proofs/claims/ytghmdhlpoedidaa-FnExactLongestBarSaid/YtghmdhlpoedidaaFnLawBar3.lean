/- Laws on bars, walked: written by mk_lawb.py. No condition. -/
import Derived.Test.YtghmdhlpoedidaaFnBar3
set_option linter.unusedVariables false
set_option linter.unusedSimpArgs false
namespace Go.Gl
open Go.Proofs Go.Proofs.Ytghmdhlpoedidaa Go.Pl


theorem FnExactCountLasting_law (h : AH) (v : Value) (xs : List SBar) (hx : RB h v xs) (n : Int) : ACalls Try.prog 12 [v, .int .i64 n] h (fun r h' => r = .bool true ∧ h' = h) := by
  obtain ⟨b, o, k1, hx⟩ := hx.can
  refine ACalls.wk (args' := [.slice (some ⟨b, o, none⟩) xs.length 0, .int .i64 n]) ?_ (.cons k1 (.cons (Wk.refl _) .nil))
  refine ACalls.of Tt.tab Try.func12 rfl (by kernel_rfl) Try.ntmps12 _ rfl rfl (fun hw => ?_)
  have S := Sep.start h
  refine CallX.same (szBarS_c _ _ xs 1048576 hx (by omega) (by omega)) ?_
  rintro r g ⟨rfl, rfl⟩
  refine BIf.mk (fun h1 => ?_) (fun h1 => ?_)
  · exact FinX.keep hw S.le rfl ⟨rfl, rfl⟩
  have hct : xs.length ≤ 1048576 := by
    refine Classical.byContradiction fun hn => ?_
    rw [if_neg (by omega)] at h1
    simp at h1
  refine CallX.same (toBarS_c _ _ xs (RB.le _ _ _ _ S.le hx) hct) ?_
  rintro r g ⟨bb, rfl, ll, ee, gg⟩
  have S := S.box gg ll ee
  refine CallX.same (lastingS_c _ _ xs n (RB.bx (S.at_ 0 rfl) (by omega) 1)) ?_
  rintro r g ⟨rfl, gg⟩
  have S := S.grow gg
  refine CallX.same (toBarS_c _ _ xs (RB.le _ _ _ _ S.le hx) hct) ?_
  rintro r g ⟨bb, rfl, ll, ee, gg⟩
  have S := S.box gg ll ee
  refine CallX.same (lastingI_c _ _ xs n (RB.bx (S.at_ 0 rfl) (by omega) 1)) ?_
  rintro r g ⟨rfl, gg⟩
  have S := S.grow gg
  refine BIf.no (by simp) ?_
  refine BIf.no (by simp) ?_
  refine CallX.same (toBarS_c _ _ xs (RB.le _ _ _ _ S.le hx) hct) ?_
  rintro r g ⟨bb, rfl, ll, ee, gg⟩
  have S := S.box gg ll ee
  refine CallX.same (eqBarS_c _ _ _ xs xs (RB.bx (S.at_ 1 rfl) (by omega) 1) (RB.bx (S.at_ 0 rfl) (by omega) 1)) ?_
  rintro r g ⟨rfl, rfl⟩
  refine BIf.no (by simp) ?_
  exact FinX.keep hw S.le rfl ⟨rfl, rfl⟩


theorem FnExactLongestBar_law (h : AH) (v : Value) (xs : List SBar) (hx : RB h v xs) : ACalls Try.prog 13 [v] h (fun r h' => r = .bool true ∧ h' = h) := by
  obtain ⟨b, o, k1, hx⟩ := hx.can
  refine ACalls.wk (args' := [.slice (some ⟨b, o, none⟩) xs.length 0]) ?_ (.cons k1 .nil)
  refine ACalls.of Tt.tab Try.func13 rfl (by kernel_rfl) Try.ntmps13 _ rfl rfl (fun hw => ?_)
  have S := Sep.start h
  refine CallX.same (szBarS_c _ _ xs 1048576 hx (by omega) (by omega)) ?_
  rintro r g ⟨rfl, rfl⟩
  refine BIf.mk (fun h1 => ?_) (fun h1 => ?_)
  · exact FinX.keep hw S.le rfl ⟨rfl, rfl⟩
  have hct : xs.length ≤ 1048576 := by
    refine Classical.byContradiction fun hn => ?_
    rw [if_neg (by omega)] at h1
    simp at h1
  refine CallX.same (toBarS_c _ _ xs (RB.le _ _ _ _ S.le hx) hct) ?_
  rintro r g ⟨bb, rfl, ll, ee, gg⟩
  have S := S.box gg ll ee
  refine CallX.same (longestS_c _ _ xs (RB.bx (S.at_ 0 rfl) (by omega) 1)) ?_
  rintro r g ⟨rfl, gg⟩
  have S := S.grow gg
  refine S.new fun bb g S => ?_
  refine S.put 0 rfl fun g S => ?_
  refine CallX.same (toBarS_c _ _ xs (RB.le _ _ _ _ S.le hx) hct) ?_
  rintro r g ⟨bb, rfl, ll, ee, gg⟩
  have S := S.box gg ll ee
  refine CallX.same (longestI_c _ _ xs (RB.bx (S.at_ 0 rfl) (by omega) 1)) ?_
  rintro r g ⟨rfl, gg⟩
  have S := S.grow gg
  refine S.new fun bb g S => ?_
  refine S.put 0 rfl fun g S => ?_
  refine LoadX.same (v := vB (longest xs).1) (S.at_ 0 rfl) rfl ?_
  refine LoadX.same (v := vB (longest xs).1) (S.at_ 2 rfl) rfl ?_
  refine CallX.same (eqBar_c _ _ _) ?_
  rintro r g ⟨rfl, rfl⟩
  refine BIf.no (by simp) ?_
  refine BIf.no (by simp) ?_
  refine CallX.same (toBarS_c _ _ xs (RB.le _ _ _ _ S.le hx) hct) ?_
  rintro r g ⟨bb, rfl, ll, ee, gg⟩
  have S := S.box gg ll ee
  refine CallX.same (eqBarS_c _ _ _ xs xs (RB.bx (S.at_ 2 rfl) (by omega) 1) (RB.bx (S.at_ 0 rfl) (by omega) 1)) ?_
  rintro r g ⟨rfl, rfl⟩
  refine BIf.no (by simp) ?_
  exact FinX.keep hw S.le rfl ⟨rfl, rfl⟩

end Go.Gl

/- Laws, walked: written by mk_law.py. No condition. -/
import Derived.Test.YtjimjoiedmccnaaFnD2
set_option linter.unusedVariables false
set_option linter.unusedSimpArgs false
namespace Go.Gl
open Go.Proofs Go.Proofs.Ytjimjoiedmccnaa


theorem FnExactDeterminantOf_law (h : AH) (v_a0 : Value) (a0 : List (List Int)) (r_a0 : RII h v_a0 a0) : ACalls Try.prog 3 [v_a0] h (fun r h' => r = .bool true ∧ h' = h) := by
  obtain ⟨b_a01, b_a0o1, k_a0, q_a0⟩ := r_a0.can
  refine ACalls.wk (args' := [.slice (some ⟨b_a01, b_a0o1, none⟩) a0.length 0]) ?_ (.cons k_a0 .nil)
  refine ACalls.of Tt.tab Try.func3 rfl (by kernel_rfl) Try.ntmps3 _ rfl rfl (fun hw => ?_)
  have L_h := Le.refl h
  refine CallX.same (szII_c _ _ a0 _ (RII.le _ _ _ _ L_h q_a0) (by omega) (by omega)) ?_
  rintro r h1 ⟨rfl, rfl⟩
  by_cases s_a0 : (ctII a0 : Int) ≤ 1048576
  case neg =>
    rw [if_neg s_a0]
    refine BIf.yes rfl ?_
    exact FinX.keep hw L_h rfl ⟨rfl, rfl⟩
  rw [if_pos s_a0]
  refine BIf.no (by simp; omega) ?_
  have n_a0 := cnII_le a0
  refine CallX.same (toII_c _ _ a0 (RII.le _ _ _ _ L_h q_a0) (by omega)) ?_
  rintro r h2 ⟨d_sa01, l_sa0, rfl, o_sa0, gg⟩
  have N_sa0_h := L_h.len
  have L_h := L_h.trans gg
  have L_h2 := Le.refl h2
  refine CallX.canon (detOfS_c _ _ a0 (RII.le _ _ _ _ L_h2 (OII.reads _ _ _ _ _ o_sa0))) ?_
  rintro r h3 ⟨rfl, rfl⟩
  refine ⟨_, Wk.refl _, ?_⟩
  refine CallX.same (toII_c _ _ a0 (RII.le _ _ _ _ L_h q_a0) (by omega)) ?_
  rintro r h4 ⟨d_xa01, l_xa0, rfl, o_xa0, gg⟩
  have N_xa0_h := L_h.len
  have N_xa0_h2 := L_h2.len
  have L_h := L_h.trans gg
  have L_h2 := L_h2.trans gg
  have L_h4 := Le.refl h4
  refine CallX.canon (detOfI_c _ _ a0 (RII.le _ _ _ _ L_h4 (OII.reads _ _ _ _ _ o_xa0))) ?_
  rintro r h5 ⟨rfl, rfl⟩
  refine ⟨_, Wk.refl _, ?_⟩
  refine BIf.no (by simp) ?_
  refine BIf.no (by simp) ?_
  refine CallX.same (toII_c _ _ a0 (RII.le _ _ _ _ L_h q_a0) (by omega)) ?_
  rintro r h6 ⟨d_ya01, l_ya0, rfl, o_ya0, gg⟩
  have N_ya0_h := L_h.len
  have N_ya0_h2 := L_h2.len
  have N_ya0_h4 := L_h4.len
  have L_h := L_h.trans gg
  have L_h2 := L_h2.trans gg
  have L_h4 := L_h4.trans gg
  have L_h6 := Le.refl h6
  refine CallX.same (eqII_c _ _ _ a0 a0 (RII.le _ _ _ _ L_h4 (OII.reads _ _ _ _ _ o_xa0)) (RII.le _ _ _ _ L_h6 (OII.reads _ _ _ _ _ o_ya0))) ?_
  rintro r h7 ⟨rfl, rfl⟩
  refine BIf.no (by simp) ?_
  exact FinX.keep hw L_h rfl ⟨rfl, rfl⟩


end Go.Gl

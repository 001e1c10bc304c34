/- Laws, walked: written by mk_law.py. No condition. -/
import Derived.Test.YtbjohihngoghlaaFnX5
set_option linter.unusedVariables false
set_option linter.unusedSimpArgs false
namespace Go.Gl
open Go.Proofs Go.Proofs.Ytbjohihngoghlaa


theorem FnExactIsDouble_law (h : AH) (v_a0 : Value) (a0 : SDouble) (r_a0 : RDouble h v_a0 a0) : ACalls Try.prog 7 [v_a0] h (fun r h' => r = .bool true ∧ h' = h) := by
  obtain ⟨b_a01, b_a0o1, b_a02, b_a0o2, b_a03, b_a0o3, k_a0, q_a0⟩ := r_a0.can
  refine ACalls.wk (args' := [.agg #[.int .i64 a0.prime, .slice (some ⟨b_a01, b_a0o1, none⟩) a0.dims.length 0, .slice (some ⟨b_a02, b_a0o2, none⟩) a0.across.length 0, .slice (some ⟨b_a03, b_a0o3, none⟩) a0.down.length 0]]) ?_ (.cons k_a0 .nil)
  refine ACalls.of Tt.tab Try.func7 rfl (by kernel_rfl) Try.ntmps7 _ rfl rfl (fun hw => ?_)
  have L_h := Le.refl h
  refine NewX.intro fun p_a0 h1 gg (e_a0 : look h1 p_a0 = some ⟨[.int .i64 a0.prime, .slice (some ⟨b_a01, b_a0o1, none⟩) a0.dims.length 0, .slice (some ⟨b_a02, b_a0o2, none⟩) a0.across.length 0, .slice (some ⟨b_a03, b_a0o3, none⟩) a0.down.length 0], some (68, 4)⟩) nn => ?_
  have L_h := L_h.trans gg
  have L_h1 := Le.refl h1
  refine LoadX.same (v := .agg #[.int .i64 a0.prime, .slice (some ⟨b_a01, b_a0o1, none⟩) a0.dims.length 0, .slice (some ⟨b_a02, b_a0o2, none⟩) a0.across.length 0, .slice (some ⟨b_a03, b_a0o3, none⟩) a0.down.length 0]) (L_h1.at_ _ _ e_a0) rfl ?_
  refine CallX.same (szDouble_c _ _ a0 _ ⟨_, _, _, rfl, q_a0.le L_h⟩ (by omega) (by omega)) ?_
  rintro r h2 ⟨rfl, rfl⟩
  by_cases s_a0 : (ctDouble a0 : Int) ≤ 1048576
  case neg =>
    rw [if_neg s_a0]
    refine BIf.yes rfl ?_
    exact FinX.keep hw L_h rfl ⟨rfl, rfl⟩
  rw [if_pos s_a0]
  refine BIf.no (by simp; omega) ?_
  have n_a0 := cnDouble_le a0
  refine LoadX.same (v := .agg #[.int .i64 a0.prime, .slice (some ⟨b_a01, b_a0o1, none⟩) a0.dims.length 0, .slice (some ⟨b_a02, b_a0o2, none⟩) a0.across.length 0, .slice (some ⟨b_a03, b_a0o3, none⟩) a0.down.length 0]) (L_h1.at_ _ _ e_a0) rfl ?_
  refine CallX.same (toDouble_c _ _ a0 ⟨_, _, _, rfl, q_a0.le L_h⟩ (by omega)) ?_
  rintro r h3 ⟨d_sa01, d_sa02, d_sa03, l_sa0, rfl, o_sa0, gg⟩
  have N_sa0_h := L_h.len
  have N_sa0_h1 := L_h1.len
  have L_h := L_h.trans gg
  have L_h1 := L_h1.trans gg
  have L_h3 := Le.refl h3
  refine CallX.canon (isDoubleS_c _ _ a0 ⟨_, _, _, rfl, o_sa0.reads.le L_h3⟩) ?_
  rintro r h4 ⟨rfl, rfl⟩
  refine ⟨_, Wk.refl _, ?_⟩
  refine LoadX.same (v := .agg #[.int .i64 a0.prime, .slice (some ⟨b_a01, b_a0o1, none⟩) a0.dims.length 0, .slice (some ⟨b_a02, b_a0o2, none⟩) a0.across.length 0, .slice (some ⟨b_a03, b_a0o3, none⟩) a0.down.length 0]) (L_h1.at_ _ _ e_a0) rfl ?_
  refine CallX.same (toDouble_c _ _ a0 ⟨_, _, _, rfl, q_a0.le L_h⟩ (by omega)) ?_
  rintro r h5 ⟨d_xa01, d_xa02, d_xa03, l_xa0, rfl, o_xa0, gg⟩
  have N_xa0_h := L_h.len
  have N_xa0_h1 := L_h1.len
  have N_xa0_h3 := L_h3.len
  have L_h := L_h.trans gg
  have L_h1 := L_h1.trans gg
  have L_h3 := L_h3.trans gg
  have L_h5 := Le.refl h5
  have B_xa0_h := L_h.len
  have B_xa0_h1 := L_h1.len
  have B_xa0_h3 := L_h3.len
  have B_xa0_h5 := L_h5.len
  refine NewX.intro fun p_xa0 h6 gg z_xa0 m_xa0 => ?_
  have L_h := L_h.trans gg
  have L_h1 := L_h1.trans gg
  have L_h3 := L_h3.trans gg
  have L_h5 := L_h5.trans gg
  refine StoreX.intro z_xa0 rfl (show (0 + 4 : Nat) ≤ 4 by decide) fun h7 ee (e_xa0 : look h7 p_xa0 = some ⟨[.int .i64 a0.prime, .slice (some ⟨d_xa01, 0, none⟩) a0.dims.length 1, .slice (some ⟨d_xa02, 0, none⟩) a0.across.length 1, .slice (some ⟨d_xa03, 0, none⟩) a0.down.length 1], some (71, 4)⟩) ao gl => ?_
  have L_h := gl _ L_h (Nat.le_trans B_xa0_h m_xa0)
  have L_h1 := gl _ L_h1 (Nat.le_trans B_xa0_h1 m_xa0)
  have L_h3 := gl _ L_h3 (Nat.le_trans B_xa0_h3 m_xa0)
  have L_h5 := gl _ L_h5 (Nat.le_trans B_xa0_h5 m_xa0)
  have L_h7 := Le.refl h7
  refine LoadX.same (v := .agg #[.int .i64 a0.prime, .slice (some ⟨d_xa01, 0, none⟩) a0.dims.length 1, .slice (some ⟨d_xa02, 0, none⟩) a0.across.length 1, .slice (some ⟨d_xa03, 0, none⟩) a0.down.length 1]) (L_h7.at_ _ _ e_xa0) rfl ?_
  refine CallX.canon (isDoubleI_c _ _ a0 ⟨_, _, _, rfl, o_xa0.reads.le L_h5⟩) ?_
  rintro r h8 ⟨rfl, rfl⟩
  refine ⟨_, Wk.refl _, ?_⟩
  refine BIf.no (by simp) ?_
  refine DrawX.of Tt.tab follows_any [2] [] [0, 1, 2, 3, 4] rfl (by kernel_rfl) (by kernel_rfl) ?_
  refine LoadX.same (v := .agg #[.int .i64 a0.prime, .slice (some ⟨d_xa01, 0, none⟩) a0.dims.length 1, .slice (some ⟨d_xa02, 0, none⟩) a0.across.length 1, .slice (some ⟨d_xa03, 0, none⟩) a0.down.length 1]) (L_h7.at_ _ _ e_xa0) rfl ?_
  refine LoadX.same (v := .agg #[.int .i64 a0.prime, .slice (some ⟨b_a01, b_a0o1, none⟩) a0.dims.length 0, .slice (some ⟨b_a02, b_a0o2, none⟩) a0.across.length 0, .slice (some ⟨b_a03, b_a0o3, none⟩) a0.down.length 0]) (L_h1.at_ _ _ e_a0) rfl ?_
  refine CallX.same (toDouble_c _ _ a0 ⟨_, _, _, rfl, q_a0.le L_h⟩ (by omega)) ?_
  rintro r h9 ⟨d_ya01, d_ya02, d_ya03, l_ya0, rfl, o_ya0, gg⟩
  refine ⟨gg, ?_⟩
  have N_ya0_h := L_h.len
  have N_ya0_h1 := L_h1.len
  have N_ya0_h3 := L_h3.len
  have N_ya0_h5 := L_h5.len
  have N_ya0_h7 := L_h7.len
  have L_h := L_h.trans gg
  have L_h1 := L_h1.trans gg
  have L_h3 := L_h3.trans gg
  have L_h5 := L_h5.trans gg
  have L_h7 := L_h7.trans gg
  have L_h9 := Le.refl h9
  refine QCall.of (fun h2 hl => eqDouble_c h2 _ _ a0 a0 (RDouble.le _ _ _ _ hl ⟨_, _, _, rfl, o_xa0.reads.le L_h5⟩) (RDouble.le _ _ _ _ hl ⟨_, _, _, rfl, o_ya0.reads.le L_h9⟩)) rfl ?_
  refine BIf.no (by simp) ?_
  exact FinX.keep hw L_h rfl ⟨rfl, rfl⟩


end Go.Gl

/- Laws, walked: written by mk_law.py. No condition. -/
import Derived.Test.YtmphljkecbeplaaFnH6
set_option linter.unusedVariables false
set_option linter.unusedSimpArgs false
namespace Go.Gl
open Go.Proofs Go.Proofs.Ytmphljkecbeplaa


theorem FnExactLastBockstein_law (h : AH) (v_a0 : Value) (a0 : SWhole) (r_a0 : RWhole h v_a0 a0) (a1 : Int) : ACalls Try.prog 9 [v_a0, .int .i64 a1] h (fun r h' => r = .bool true ∧ h' = h) := by
  obtain ⟨b_a01, b_a0o1, b_a02, b_a0o2, k_a0, q_a0⟩ := r_a0.can
  refine ACalls.wk (args' := [.agg #[.slice (some ⟨b_a01, b_a0o1, none⟩) a0.dims.length 0, .slice (some ⟨b_a02, b_a0o2, none⟩) a0.maps.length 0], .int .i64 a1]) ?_ (.cons k_a0 (.cons (Wk.refl _) .nil))
  refine ACalls.of Tt.tab Try.func9 rfl (by kernel_rfl) Try.ntmps9 _ rfl rfl (fun hw => ?_)
  have L_h := Le.refl h
  refine NewX.intro fun p_a0 h1 gg (e_a0 : look h1 p_a0 = some ⟨[.slice (some ⟨b_a01, b_a0o1, none⟩) a0.dims.length 0, .slice (some ⟨b_a02, b_a0o2, none⟩) a0.maps.length 0], some (56, 2)⟩) nn => ?_
  have L_h := L_h.trans gg
  have L_h1 := Le.refl h1
  refine LoadX.same (v := .agg #[.slice (some ⟨b_a01, b_a0o1, none⟩) a0.dims.length 0, .slice (some ⟨b_a02, b_a0o2, none⟩) a0.maps.length 0]) (L_h1.at_ _ _ e_a0) rfl ?_
  refine CallX.same (szWhole_c _ _ a0 _ ⟨_, _, rfl, q_a0.le L_h⟩ (by omega) (by omega)) ?_
  rintro r h2 ⟨rfl, rfl⟩
  by_cases s_a0 : (ctWhole a0 : Int) ≤ 1048576
  case neg =>
    rw [if_neg s_a0]
    refine BIf.yes rfl ?_
    exact FinX.keep hw L_h rfl ⟨rfl, rfl⟩
  rw [if_pos s_a0]
  refine BIf.no (by simp; omega) ?_
  have n_a0 := cnWhole_le a0
  refine LoadX.same (v := .agg #[.slice (some ⟨b_a01, b_a0o1, none⟩) a0.dims.length 0, .slice (some ⟨b_a02, b_a0o2, none⟩) a0.maps.length 0]) (L_h1.at_ _ _ e_a0) rfl ?_
  refine CallX.same (toWhole_c _ _ a0 ⟨_, _, rfl, q_a0.le L_h⟩ (by omega)) ?_
  rintro r h3 ⟨d_sa01, d_sa02, l_sa0, rfl, o_sa0, gg⟩
  have N_sa0_h := L_h.len
  have N_sa0_h1 := L_h1.len
  have L_h := L_h.trans gg
  have L_h1 := L_h1.trans gg
  have L_h3 := Le.refl h3
  refine CallX.canon (lastBS_c _ _ a0 ⟨_, _, rfl, o_sa0.reads.le L_h3⟩ a1) ?_
  rintro r h4 ⟨rfl, rfl⟩
  refine ⟨_, Wk.refl _, ?_⟩
  refine LoadX.same (v := .agg #[.slice (some ⟨b_a01, b_a0o1, none⟩) a0.dims.length 0, .slice (some ⟨b_a02, b_a0o2, none⟩) a0.maps.length 0]) (L_h1.at_ _ _ e_a0) rfl ?_
  refine CallX.same (toWhole_c _ _ a0 ⟨_, _, rfl, q_a0.le L_h⟩ (by omega)) ?_
  rintro r h5 ⟨d_xa01, d_xa02, l_xa0, rfl, o_xa0, gg⟩
  have N_xa0_h := L_h.len
  have N_xa0_h1 := L_h1.len
  have N_xa0_h3 := L_h3.len
  have L_h := L_h.trans gg
  have L_h1 := L_h1.trans gg
  have L_h3 := L_h3.trans gg
  have L_h5 := Le.refl h5
  have B_xa0_h := L_h.len
  have B_xa0_h1 := L_h1.len
  have B_xa0_h3 := L_h3.len
  have B_xa0_h5 := L_h5.len
  refine NewX.intro fun p_xa0 h6 gg z_xa0 m_xa0 => ?_
  have L_h := L_h.trans gg
  have L_h1 := L_h1.trans gg
  have L_h3 := L_h3.trans gg
  have L_h5 := L_h5.trans gg
  refine StoreX.intro z_xa0 rfl (show (0 + 2 : Nat) ≤ 2 by decide) fun h7 ee (e_xa0 : look h7 p_xa0 = some ⟨[.slice (some ⟨d_xa01, 0, none⟩) a0.dims.length 1, .slice (some ⟨d_xa02, 0, none⟩) a0.maps.length 1], some (59, 2)⟩) ao gl => ?_
  have L_h := gl _ L_h (Nat.le_trans B_xa0_h m_xa0)
  have L_h1 := gl _ L_h1 (Nat.le_trans B_xa0_h1 m_xa0)
  have L_h3 := gl _ L_h3 (Nat.le_trans B_xa0_h3 m_xa0)
  have L_h5 := gl _ L_h5 (Nat.le_trans B_xa0_h5 m_xa0)
  have L_h7 := Le.refl h7
  refine LoadX.same (v := .agg #[.slice (some ⟨d_xa01, 0, none⟩) a0.dims.length 1, .slice (some ⟨d_xa02, 0, none⟩) a0.maps.length 1]) (L_h7.at_ _ _ e_xa0) rfl ?_
  refine CallX.canon (lastBI_c _ _ a0 ⟨_, _, rfl, o_xa0.reads.le L_h5⟩ a1) ?_
  rintro r h8 ⟨rfl, rfl⟩
  refine ⟨_, Wk.refl _, ?_⟩
  refine BIf.no (by simp) ?_
  refine BIf.no (by simp) ?_
  refine DrawX.of Tt.tab follows_any [2] [] [0, 1, 2, 3, 4] rfl (by kernel_rfl) (by kernel_rfl) ?_
  refine LoadX.same (v := .agg #[.slice (some ⟨d_xa01, 0, none⟩) a0.dims.length 1, .slice (some ⟨d_xa02, 0, none⟩) a0.maps.length 1]) (L_h7.at_ _ _ e_xa0) rfl ?_
  refine LoadX.same (v := .agg #[.slice (some ⟨b_a01, b_a0o1, none⟩) a0.dims.length 0, .slice (some ⟨b_a02, b_a0o2, none⟩) a0.maps.length 0]) (L_h1.at_ _ _ e_a0) rfl ?_
  refine CallX.same (toWhole_c _ _ a0 ⟨_, _, rfl, q_a0.le L_h⟩ (by omega)) ?_
  rintro r h9 ⟨d_ya01, d_ya02, l_ya0, rfl, o_ya0, gg⟩
  refine ⟨gg, ?_⟩
  have N_ya0_h := L_h.len
  have N_ya0_h1 := L_h1.len
  have N_ya0_h3 := L_h3.len
  have N_ya0_h5 := L_h5.len
  have N_ya0_h7 := L_h7.len
  have L_h := L_h.trans gg
  have L_h1 := L_h1.trans gg
  have L_h3 := L_h3.trans gg
  have L_h5 := L_h5.trans gg
  have L_h7 := L_h7.trans gg
  have L_h9 := Le.refl h9
  refine QCall.of (fun h2 hl => eqWhole_c h2 _ _ a0 a0 (RWhole.le _ _ _ _ hl ⟨_, _, rfl, o_xa0.reads.le L_h5⟩) (RWhole.le _ _ _ _ hl ⟨_, _, rfl, o_ya0.reads.le L_h9⟩)) rfl ?_
  refine BIf.no (by simp) ?_
  exact FinX.keep hw L_h rfl ⟨rfl, rfl⟩


end Go.Gl

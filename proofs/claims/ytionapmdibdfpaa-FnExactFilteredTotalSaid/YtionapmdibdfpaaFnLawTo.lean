/- Laws, walked: written by mk_law.py. No condition. -/
import Derived.Test.YtionapmdibdfpaaFnTo10
set_option linter.unusedVariables false
set_option linter.unusedSimpArgs false
namespace Go.Gl
open Go.Proofs Go.Proofs.Ytionapmdibdfpaa


theorem FnExactTotalOf_law (h : AH) (v_a0 : Value) (a0 : SDouble) (r_a0 : RDouble h v_a0 a0) : ACalls Try.prog 3 [v_a0] h (fun r h' => r = .bool true ∧ h' = h) := by
  obtain ⟨b_a01, b_a0o1, b_a02, b_a0o2, b_a03, b_a0o3, k_a0, q_a0⟩ := r_a0.can
  refine ACalls.wk (args' := [.agg #[.int .i64 a0.prime, .slice (some ⟨b_a01, b_a0o1, none⟩) a0.dims.length 0, .slice (some ⟨b_a02, b_a0o2, none⟩) a0.across.length 0, .slice (some ⟨b_a03, b_a0o3, none⟩) a0.down.length 0]]) ?_ (.cons k_a0 .nil)
  refine ACalls.of Tt.tab Try.func3 rfl (by kernel_rfl) Try.ntmps3 _ rfl rfl (fun hw => ?_)
  have L_h := Le.refl h
  refine NewX.intro fun p_a0 h1 gg (e_a0 : look h1 p_a0 = some ⟨[.int .i64 a0.prime, .slice (some ⟨b_a01, b_a0o1, none⟩) a0.dims.length 0, .slice (some ⟨b_a02, b_a0o2, none⟩) a0.across.length 0, .slice (some ⟨b_a03, b_a0o3, none⟩) a0.down.length 0], some (25, 4)⟩) nn => ?_
  have L_h := L_h.trans gg
  have L_h1 := Le.refl h1
  refine LoadX.same (v := .agg #[.int .i64 a0.prime, .slice (some ⟨b_a01, b_a0o1, none⟩) a0.dims.length 0, .slice (some ⟨b_a02, b_a0o2, none⟩) a0.across.length 0, .slice (some ⟨b_a03, b_a0o3, none⟩) a0.down.length 0]) (L_h1.at_ _ _ e_a0) rfl ?_
  refine CallX.same (szDouble_c _ _ a0 _ ⟨_, _, _, rfl, q_a0.le L_h⟩ (by omega) (by omega)) ?_
  rintro r h2 ⟨rfl, rfl⟩
  by_cases s_a0 : (ctDouble a0 : Int) ≤ 1048576
  case neg =>
    rw [if_neg s_a0]
    refine BIf.yes rfl ?_
    exact FinX.keep hw L_h rfl ⟨rfl, rfl⟩
  rw [if_pos s_a0]
  refine BIf.no (by simp; omega) ?_
  have n_a0 := cnDouble_le a0
  have n_res := to_cn a0
  refine LoadX.same (v := .agg #[.int .i64 a0.prime, .slice (some ⟨b_a01, b_a0o1, none⟩) a0.dims.length 0, .slice (some ⟨b_a02, b_a0o2, none⟩) a0.across.length 0, .slice (some ⟨b_a03, b_a0o3, none⟩) a0.down.length 0]) (L_h1.at_ _ _ e_a0) rfl ?_
  refine CallX.same (toDouble_c _ _ a0 ⟨_, _, _, rfl, q_a0.le L_h⟩ (by omega)) ?_
  rintro r h3 ⟨d_sa01, d_sa02, d_sa03, l_sa0, rfl, o_sa0, gg⟩
  have N_sa0_h := L_h.len
  have N_sa0_h1 := L_h1.len
  have L_h := L_h.trans gg
  have L_h1 := L_h1.trans gg
  have L_h3 := Le.refl h3
  refine CallX.canon (totS_c _ _ a0 ⟨_, _, _, rfl, o_sa0.reads.le L_h3⟩) ?_
  have N_w_h := L_h.len
  have N_w_h1 := L_h1.len
  have N_w_h3 := L_h3.len
  rintro r h4 ⟨v, l_w, rfl, ⟨u_w1, u_w2, rfl, o_w⟩, gg⟩
  obtain ⟨c_w1, c_wo1, c_w2, c_wo2, k_w1, k_w2, o_w⟩ := o_w.can
  refine ⟨_, (Wk.tuple (.cons (Wk.agg (.cons (Wk.refl _) (.cons k_w1 (.cons k_w2 .nil)))) (.cons (Wk.refl _) .nil))), ?_⟩
  have L_h := L_h.trans gg
  have L_h1 := L_h1.trans gg
  have L_h3 := L_h3.trans gg
  have L_h4 := Le.refl h4
  have B_w_h := L_h.len
  have B_w_h1 := L_h1.len
  have B_w_h3 := L_h3.len
  have B_w_h4 := L_h4.len
  refine NewX.intro fun p_w h5 gg z_w m_w => ?_
  have L_h := L_h.trans gg
  have L_h1 := L_h1.trans gg
  have L_h3 := L_h3.trans gg
  have L_h4 := L_h4.trans gg
  refine StoreX.intro z_w rfl (show (0 + 3 : Nat) ≤ 3 by decide) fun h6 ee (e_w : look h6 p_w = some ⟨[.int .i64 (toR a0).1.prime, .slice (some ⟨c_w1, c_wo1, none⟩) (toR a0).1.dims.length 0, .slice (some ⟨c_w2, c_wo2, none⟩) (toR a0).1.maps.length 0], some (30, 3)⟩) ao gl => ?_
  have L_h := gl _ L_h (Nat.le_trans B_w_h m_w)
  have L_h1 := gl _ L_h1 (Nat.le_trans B_w_h1 m_w)
  have L_h3 := gl _ L_h3 (Nat.le_trans B_w_h3 m_w)
  have L_h4 := gl _ L_h4 (Nat.le_trans B_w_h4 m_w)
  have L_h6 := Le.refl h6
  refine LoadX.same (v := .agg #[.int .i64 a0.prime, .slice (some ⟨b_a01, b_a0o1, none⟩) a0.dims.length 0, .slice (some ⟨b_a02, b_a0o2, none⟩) a0.across.length 0, .slice (some ⟨b_a03, b_a0o3, none⟩) a0.down.length 0]) (L_h1.at_ _ _ e_a0) rfl ?_
  refine CallX.same (toDouble_c _ _ a0 ⟨_, _, _, rfl, q_a0.le L_h⟩ (by omega)) ?_
  rintro r h7 ⟨d_xa01, d_xa02, d_xa03, l_xa0, rfl, o_xa0, gg⟩
  have N_xa0_h := L_h.len
  have N_xa0_h1 := L_h1.len
  have N_xa0_h3 := L_h3.len
  have N_xa0_h4 := L_h4.len
  have N_xa0_h6 := L_h6.len
  have L_h := L_h.trans gg
  have L_h1 := L_h1.trans gg
  have L_h3 := L_h3.trans gg
  have L_h4 := L_h4.trans gg
  have L_h6 := L_h6.trans gg
  have L_h7 := Le.refl h7
  have B_xa0_h := L_h.len
  have B_xa0_h1 := L_h1.len
  have B_xa0_h3 := L_h3.len
  have B_xa0_h4 := L_h4.len
  have B_xa0_h6 := L_h6.len
  have B_xa0_h7 := L_h7.len
  refine NewX.intro fun p_xa0 h8 gg z_xa0 m_xa0 => ?_
  have L_h := L_h.trans gg
  have L_h1 := L_h1.trans gg
  have L_h3 := L_h3.trans gg
  have L_h4 := L_h4.trans gg
  have L_h6 := L_h6.trans gg
  have L_h7 := L_h7.trans gg
  refine StoreX.intro z_xa0 rfl (show (0 + 4 : Nat) ≤ 4 by decide) fun h9 ee (e_xa0 : look h9 p_xa0 = some ⟨[.int .i64 a0.prime, .slice (some ⟨d_xa01, 0, none⟩) a0.dims.length 1, .slice (some ⟨d_xa02, 0, none⟩) a0.across.length 1, .slice (some ⟨d_xa03, 0, none⟩) a0.down.length 1], some (33, 4)⟩) ao gl => ?_
  have L_h := gl _ L_h (Nat.le_trans B_xa0_h m_xa0)
  have L_h1 := gl _ L_h1 (Nat.le_trans B_xa0_h1 m_xa0)
  have L_h3 := gl _ L_h3 (Nat.le_trans B_xa0_h3 m_xa0)
  have L_h4 := gl _ L_h4 (Nat.le_trans B_xa0_h4 m_xa0)
  have L_h6 := gl _ L_h6 (Nat.le_trans B_xa0_h6 m_xa0)
  have L_h7 := gl _ L_h7 (Nat.le_trans B_xa0_h7 m_xa0)
  have L_h9 := Le.refl h9
  refine LoadX.same (v := .agg #[.int .i64 a0.prime, .slice (some ⟨d_xa01, 0, none⟩) a0.dims.length 1, .slice (some ⟨d_xa02, 0, none⟩) a0.across.length 1, .slice (some ⟨d_xa03, 0, none⟩) a0.down.length 1]) (L_h9.at_ _ _ e_xa0) rfl ?_
  refine CallX.canon (totI_c _ _ a0 ⟨_, _, _, rfl, o_xa0.reads.le L_h7⟩) ?_
  have N_g_h := L_h.len
  have N_g_h1 := L_h1.len
  have N_g_h3 := L_h3.len
  have N_g_h4 := L_h4.len
  have N_g_h6 := L_h6.len
  have N_g_h7 := L_h7.len
  have N_g_h9 := L_h9.len
  rintro r h10 ⟨v, l_g, rfl, ⟨u_g1, u_g2, rfl, o_g⟩, gg⟩
  obtain ⟨c_g1, c_go1, c_g2, c_go2, k_g1, k_g2, o_g⟩ := o_g.can
  refine ⟨_, (Wk.tuple (.cons (Wk.agg (.cons (Wk.refl _) (.cons k_g1 (.cons k_g2 .nil)))) (.cons (Wk.refl _) .nil))), ?_⟩
  have L_h := L_h.trans gg
  have L_h1 := L_h1.trans gg
  have L_h3 := L_h3.trans gg
  have L_h4 := L_h4.trans gg
  have L_h6 := L_h6.trans gg
  have L_h7 := L_h7.trans gg
  have L_h9 := L_h9.trans gg
  have L_h10 := Le.refl h10
  have B_g_h := L_h.len
  have B_g_h1 := L_h1.len
  have B_g_h3 := L_h3.len
  have B_g_h4 := L_h4.len
  have B_g_h6 := L_h6.len
  have B_g_h7 := L_h7.len
  have B_g_h9 := L_h9.len
  have B_g_h10 := L_h10.len
  refine NewX.intro fun p_g h11 gg z_g m_g => ?_
  have L_h := L_h.trans gg
  have L_h1 := L_h1.trans gg
  have L_h3 := L_h3.trans gg
  have L_h4 := L_h4.trans gg
  have L_h6 := L_h6.trans gg
  have L_h7 := L_h7.trans gg
  have L_h9 := L_h9.trans gg
  have L_h10 := L_h10.trans gg
  refine StoreX.intro z_g rfl (show (0 + 3 : Nat) ≤ 3 by decide) fun h12 ee (e_g : look h12 p_g = some ⟨[.int .i64 (toR a0).1.prime, .slice (some ⟨c_g1, c_go1, none⟩) (toR a0).1.dims.length 0, .slice (some ⟨c_g2, c_go2, none⟩) (toR a0).1.maps.length 0], some (30, 3)⟩) ao gl => ?_
  have L_h := gl _ L_h (Nat.le_trans B_g_h m_g)
  have L_h1 := gl _ L_h1 (Nat.le_trans B_g_h1 m_g)
  have L_h3 := gl _ L_h3 (Nat.le_trans B_g_h3 m_g)
  have L_h4 := gl _ L_h4 (Nat.le_trans B_g_h4 m_g)
  have L_h6 := gl _ L_h6 (Nat.le_trans B_g_h6 m_g)
  have L_h7 := gl _ L_h7 (Nat.le_trans B_g_h7 m_g)
  have L_h9 := gl _ L_h9 (Nat.le_trans B_g_h9 m_g)
  have L_h10 := gl _ L_h10 (Nat.le_trans B_g_h10 m_g)
  have L_h12 := Le.refl h12
  refine LoadX.same (v := .agg #[.int .i64 (toR a0).1.prime, .slice (some ⟨c_g1, c_go1, none⟩) (toR a0).1.dims.length 0, .slice (some ⟨c_g2, c_go2, none⟩) (toR a0).1.maps.length 0]) (L_h12.at_ _ _ e_g) rfl ?_
  refine LoadX.same (v := .agg #[.int .i64 (toR a0).1.prime, .slice (some ⟨c_w1, c_wo1, none⟩) (toR a0).1.dims.length 0, .slice (some ⟨c_w2, c_wo2, none⟩) (toR a0).1.maps.length 0]) (L_h6.at_ _ _ e_w) rfl ?_
  refine CallX.same (eqComplex_c _ _ _ ((toR a0).1) ((toR a0).1) ⟨_, _, rfl, o_g.reads.le L_h10⟩ ⟨_, _, rfl, o_w.reads.le L_h4⟩) ?_
  rintro r h13 ⟨rfl, rfl⟩
  refine BIf.no (by simp) ?_
  refine BIf.no (by simp) ?_
  refine DrawX.of Tt.tab follows_any [2] [] [0, 1, 2, 3, 4] rfl (by kernel_rfl) (by kernel_rfl) ?_
  refine LoadX.same (v := .agg #[.int .i64 a0.prime, .slice (some ⟨d_xa01, 0, none⟩) a0.dims.length 1, .slice (some ⟨d_xa02, 0, none⟩) a0.across.length 1, .slice (some ⟨d_xa03, 0, none⟩) a0.down.length 1]) (L_h9.at_ _ _ e_xa0) rfl ?_
  refine LoadX.same (v := .agg #[.int .i64 a0.prime, .slice (some ⟨b_a01, b_a0o1, none⟩) a0.dims.length 0, .slice (some ⟨b_a02, b_a0o2, none⟩) a0.across.length 0, .slice (some ⟨b_a03, b_a0o3, none⟩) a0.down.length 0]) (L_h1.at_ _ _ e_a0) rfl ?_
  refine CallX.same (toDouble_c _ _ a0 ⟨_, _, _, rfl, q_a0.le L_h⟩ (by omega)) ?_
  rintro r h14 ⟨d_ya01, d_ya02, d_ya03, l_ya0, rfl, o_ya0, gg⟩
  refine ⟨gg, ?_⟩
  have N_ya0_h := L_h.len
  have N_ya0_h1 := L_h1.len
  have N_ya0_h3 := L_h3.len
  have N_ya0_h4 := L_h4.len
  have N_ya0_h6 := L_h6.len
  have N_ya0_h7 := L_h7.len
  have N_ya0_h9 := L_h9.len
  have N_ya0_h10 := L_h10.len
  have N_ya0_h12 := L_h12.len
  have L_h := L_h.trans gg
  have L_h1 := L_h1.trans gg
  have L_h3 := L_h3.trans gg
  have L_h4 := L_h4.trans gg
  have L_h6 := L_h6.trans gg
  have L_h7 := L_h7.trans gg
  have L_h9 := L_h9.trans gg
  have L_h10 := L_h10.trans gg
  have L_h12 := L_h12.trans gg
  have L_h14 := Le.refl h14
  refine QCall.of (fun h2 hl => eqDouble_c h2 _ _ a0 a0 (RDouble.le _ _ _ _ hl ⟨_, _, _, rfl, o_xa0.reads.le L_h7⟩) (RDouble.le _ _ _ _ hl ⟨_, _, _, rfl, o_ya0.reads.le L_h14⟩)) rfl ?_
  refine BIf.no (by simp) ?_
  have lt_xa0 := ODouble.fr.lt (show ODouble _ h7 (.agg #[.int .i64 a0.prime, .slice (some ⟨d_xa01, 0, none⟩) a0.dims.length 1, .slice (some ⟨d_xa02, 0, none⟩) a0.across.length 1, .slice (some ⟨d_xa03, 0, none⟩) a0.down.length 1]) (a0) l_xa0 from ⟨_, _, _, rfl, o_xa0⟩)
  have lt_g := OComplex.fr.lt (show OComplex _ h10 (.agg #[.int .i64 (toR a0).1.prime, .slice (some ⟨c_g1, c_go1, none⟩) (toR a0).1.dims.length 0, .slice (some ⟨c_g2, c_go2, none⟩) (toR a0).1.maps.length 0]) ((toR a0).1) l_g from ⟨_, _, rfl, o_g⟩)
  have dj_xa0_g := ODouble.fr.dj (show ODouble _ h7 (.agg #[.int .i64 a0.prime, .slice (some ⟨d_xa01, 0, none⟩) a0.dims.length 1, .slice (some ⟨d_xa02, 0, none⟩) a0.across.length 1, .slice (some ⟨d_xa03, 0, none⟩) a0.down.length 1]) (a0) l_xa0 from ⟨_, _, _, rfl, o_xa0⟩) OComplex.fr (show OComplex _ h10 (.agg #[.int .i64 (toR a0).1.prime, .slice (some ⟨c_g1, c_go1, none⟩) (toR a0).1.dims.length 0, .slice (some ⟨c_g2, c_go2, none⟩) (toR a0).1.maps.length 0]) ((toR a0).1) l_g from ⟨_, _, rfl, o_g⟩) (by omega)
  refine LoadX.same (v := .agg #[.int .i64 a0.prime, .slice (some ⟨d_xa01, 0, none⟩) a0.dims.length 1, .slice (some ⟨d_xa02, 0, none⟩) a0.across.length 1, .slice (some ⟨d_xa03, 0, none⟩) a0.down.length 1]) (L_h9.at_ _ _ e_xa0) rfl ?_
  have oc := (ODouble.fr.le (show ODouble _ h7 (.agg #[.int .i64 a0.prime, .slice (some ⟨d_xa01, 0, none⟩) a0.dims.length 1, .slice (some ⟨d_xa02, 0, none⟩) a0.across.length 1, .slice (some ⟨d_xa03, 0, none⟩) a0.down.length 1]) (a0) l_xa0 from ⟨_, _, _, rfl, o_xa0⟩) L_h7)
  have ot := fun i hi => (ODouble.fr.leaf _ _ _ _ _ oc i hi).2
  have og := fun i hi => (ODouble.fr.leaf _ _ _ _ _ oc i hi).1
  have ol := lt_xa0
  refine CallX.same (markDouble_c _ _ _ (a0) _ _ oc (by omega) (by omega)) ?_
  rintro r h15 ⟨rfl, mk, om⟩
  have o_g := OComplex.fr.mark rfl mk (OComplex.fr.le (show OComplex _ h10 (.agg #[.int .i64 (toR a0).1.prime, .slice (some ⟨c_g1, c_go1, none⟩) (toR a0).1.dims.length 0, .slice (some ⟨c_g2, c_go2, none⟩) (toR a0).1.maps.length 0]) ((toR a0).1) l_g from ⟨_, _, rfl, o_g⟩) L_h10) dj_xa0_g ot
  have e_g := mk.stay (L_h12.at_ _ _ e_g) (fun i hi => Nat.lt_of_lt_of_le (ol i hi) (by omega))
  have L_h := mk.le L_h (fun i hi => Nat.le_trans N_xa0_h (og i hi))
  have L_h1 := mk.le L_h1 (fun i hi => Nat.le_trans N_xa0_h1 (og i hi))
  have L_h3 := mk.le L_h3 (fun i hi => Nat.le_trans N_xa0_h3 (og i hi))
  have L_h4 := mk.le L_h4 (fun i hi => Nat.le_trans N_xa0_h4 (og i hi))
  have L_h6 := mk.le L_h6 (fun i hi => Nat.le_trans N_xa0_h6 (og i hi))
  have L_h15 := Le.refl h15
  obtain ⟨j_1, j_2, ee, o_g⟩ := o_g
  cases ee
  refine BIf.no (by simp; omega) ?_
  refine LoadX.same (v := .agg #[.int .i64 (toR a0).1.prime, .slice (some ⟨c_g1, c_go1, none⟩) (toR a0).1.dims.length 0, .slice (some ⟨c_g2, c_go2, none⟩) (toR a0).1.maps.length 0]) (L_h15.at_ _ _ e_g) rfl ?_
  refine LoadX.same (v := .agg #[.int .i64 (toR a0).1.prime, .slice (some ⟨c_w1, c_wo1, none⟩) (toR a0).1.dims.length 0, .slice (some ⟨c_w2, c_wo2, none⟩) (toR a0).1.maps.length 0]) (L_h6.at_ _ _ e_w) rfl ?_
  refine CallX.same (eqComplex_c _ _ _ ((toR a0).1) ((toR a0).1) ⟨_, _, rfl, o_g.reads.le L_h15⟩ ⟨_, _, rfl, o_w.reads.le L_h4⟩) ?_
  rintro r h16 ⟨rfl, rfl⟩
  refine BIf.no (by simp) ?_
  refine BIf.no (by simp) ?_
  refine LoadX.same (v := .agg #[.int .i64 (toR a0).1.prime, .slice (some ⟨c_g1, c_go1, none⟩) (toR a0).1.dims.length 0, .slice (some ⟨c_g2, c_go2, none⟩) (toR a0).1.maps.length 0]) (L_h15.at_ _ _ e_g) rfl ?_
  have oc := (OComplex.fr.le (show OComplex _ h16 (.agg #[.int .i64 (toR a0).1.prime, .slice (some ⟨c_g1, c_go1, none⟩) (toR a0).1.dims.length 0, .slice (some ⟨c_g2, c_go2, none⟩) (toR a0).1.maps.length 0]) ((toR a0).1) l_g from ⟨_, _, rfl, o_g⟩) L_h15)
  have ot := fun i hi => (OComplex.fr.leaf _ _ _ _ _ oc i hi).2
  have og := fun i hi => (OComplex.fr.leaf _ _ _ _ _ oc i hi).1
  have ol := lt_g
  refine CallX.same (markComplex_c _ _ _ ((toR a0).1) _ _ oc (by omega) (by omega)) ?_
  rintro r h17 ⟨rfl, mk, om⟩
  have e_g := mk.stay (L_h15.at_ _ _ e_g) (fun i hi => Nat.lt_of_lt_of_le (ol i hi) (by omega))
  have L_h := mk.le L_h (fun i hi => Nat.le_trans N_g_h (og i hi))
  have L_h1 := mk.le L_h1 (fun i hi => Nat.le_trans N_g_h1 (og i hi))
  have L_h3 := mk.le L_h3 (fun i hi => Nat.le_trans N_g_h3 (og i hi))
  have L_h4 := mk.le L_h4 (fun i hi => Nat.le_trans N_g_h4 (og i hi))
  have L_h6 := mk.le L_h6 (fun i hi => Nat.le_trans N_g_h6 (og i hi))
  have L_h17 := Le.refl h17
  have o_m := OComplex.reads _ _ _ _ _ om
  refine LoadX.same (v := .agg #[.int .i64 (toR a0).1.prime, .slice (some ⟨c_g1, c_go1, none⟩) (toR a0).1.dims.length 0, .slice (some ⟨c_g2, c_go2, none⟩) (toR a0).1.maps.length 0]) (L_h17.at_ _ _ e_g) rfl ?_
  refine CallX.same (heldComplex_c _ _ ((toR a0).1) _ (RComplex.le _ _ _ _ L_h17 o_m) (by omega) (by omega)) ?_
  rintro r h18 ⟨rfl, rfl⟩
  refine BIf.no (by simp; omega) ?_
  refine BIf.no (by simp) ?_
  refine LoadX.same (v := .agg #[.int .i64 a0.prime, .slice (some ⟨b_a01, b_a0o1, none⟩) a0.dims.length 0, .slice (some ⟨b_a02, b_a0o2, none⟩) a0.across.length 0, .slice (some ⟨b_a03, b_a0o3, none⟩) a0.down.length 0]) (L_h1.at_ _ _ e_a0) rfl ?_
  refine CallX.same (toDouble_c _ _ a0 ⟨_, _, _, rfl, q_a0.le L_h⟩ (by omega)) ?_
  rintro r h19 ⟨d_ta01, d_ta02, d_ta03, l_ta0, rfl, o_ta0, gg⟩
  have N_ta0_h := L_h.len
  have N_ta0_h1 := L_h1.len
  have N_ta0_h3 := L_h3.len
  have N_ta0_h4 := L_h4.len
  have N_ta0_h6 := L_h6.len
  have N_ta0_h17 := L_h17.len
  have L_h := L_h.trans gg
  have L_h1 := L_h1.trans gg
  have L_h3 := L_h3.trans gg
  have L_h4 := L_h4.trans gg
  have L_h6 := L_h6.trans gg
  have L_h17 := L_h17.trans gg
  have L_h19 := Le.refl h19
  refine CallX.canon (totI_c _ _ a0 ⟨_, _, _, rfl, o_ta0.reads.le L_h19⟩) ?_
  have N_f_h := L_h.len
  have N_f_h1 := L_h1.len
  have N_f_h3 := L_h3.len
  have N_f_h4 := L_h4.len
  have N_f_h6 := L_h6.len
  have N_f_h17 := L_h17.len
  have N_f_h19 := L_h19.len
  rintro r h20 ⟨v, l_f, rfl, ⟨u_f1, u_f2, rfl, o_f⟩, gg⟩
  obtain ⟨c_f1, c_fo1, c_f2, c_fo2, k_f1, k_f2, o_f⟩ := o_f.can
  refine ⟨_, (Wk.tuple (.cons (Wk.agg (.cons (Wk.refl _) (.cons k_f1 (.cons k_f2 .nil)))) (.cons (Wk.refl _) .nil))), ?_⟩
  have L_h := L_h.trans gg
  have L_h1 := L_h1.trans gg
  have L_h3 := L_h3.trans gg
  have L_h4 := L_h4.trans gg
  have L_h6 := L_h6.trans gg
  have L_h17 := L_h17.trans gg
  have L_h19 := L_h19.trans gg
  have L_h20 := Le.refl h20
  have B_f_h := L_h.len
  have B_f_h1 := L_h1.len
  have B_f_h3 := L_h3.len
  have B_f_h4 := L_h4.len
  have B_f_h6 := L_h6.len
  have B_f_h17 := L_h17.len
  have B_f_h19 := L_h19.len
  have B_f_h20 := L_h20.len
  refine NewX.intro fun p_f h21 gg z_f m_f => ?_
  have L_h := L_h.trans gg
  have L_h1 := L_h1.trans gg
  have L_h3 := L_h3.trans gg
  have L_h4 := L_h4.trans gg
  have L_h6 := L_h6.trans gg
  have L_h17 := L_h17.trans gg
  have L_h19 := L_h19.trans gg
  have L_h20 := L_h20.trans gg
  refine StoreX.intro z_f rfl (show (0 + 3 : Nat) ≤ 3 by decide) fun h22 ee (e_f : look h22 p_f = some ⟨[.int .i64 (toR a0).1.prime, .slice (some ⟨c_f1, c_fo1, none⟩) (toR a0).1.dims.length 0, .slice (some ⟨c_f2, c_fo2, none⟩) (toR a0).1.maps.length 0], some (30, 3)⟩) ao gl => ?_
  have L_h := gl _ L_h (Nat.le_trans B_f_h m_f)
  have L_h1 := gl _ L_h1 (Nat.le_trans B_f_h1 m_f)
  have L_h3 := gl _ L_h3 (Nat.le_trans B_f_h3 m_f)
  have L_h4 := gl _ L_h4 (Nat.le_trans B_f_h4 m_f)
  have L_h6 := gl _ L_h6 (Nat.le_trans B_f_h6 m_f)
  have L_h17 := gl _ L_h17 (Nat.le_trans B_f_h17 m_f)
  have L_h19 := gl _ L_h19 (Nat.le_trans B_f_h19 m_f)
  have L_h20 := gl _ L_h20 (Nat.le_trans B_f_h20 m_f)
  have L_h22 := Le.refl h22
  refine LoadX.same (v := .agg #[.int .i64 (toR a0).1.prime, .slice (some ⟨c_f1, c_fo1, none⟩) (toR a0).1.dims.length 0, .slice (some ⟨c_f2, c_fo2, none⟩) (toR a0).1.maps.length 0]) (L_h22.at_ _ _ e_f) rfl ?_
  refine LoadX.same (v := .agg #[.int .i64 (toR a0).1.prime, .slice (some ⟨c_w1, c_wo1, none⟩) (toR a0).1.dims.length 0, .slice (some ⟨c_w2, c_wo2, none⟩) (toR a0).1.maps.length 0]) (L_h6.at_ _ _ e_w) rfl ?_
  refine CallX.same (eqComplex_c _ _ _ ((toR a0).1) ((toR a0).1) ⟨_, _, rfl, o_f.reads.le L_h20⟩ ⟨_, _, rfl, o_w.reads.le L_h4⟩) ?_
  rintro r h23 ⟨rfl, rfl⟩
  refine BIf.no (by simp) ?_
  refine BIf.no (by simp) ?_
  refine LoadX.same (v := .agg #[.int .i64 (toR a0).1.prime, .slice (some ⟨c_g1, c_go1, none⟩) (toR a0).1.dims.length 0, .slice (some ⟨c_g2, c_go2, none⟩) (toR a0).1.maps.length 0]) (L_h17.at_ _ _ e_g) rfl ?_
  refine CallX.same (heldComplex_c _ _ ((toR a0).1) _ (RComplex.le _ _ _ _ L_h17 o_m) (by omega) (by omega)) ?_
  rintro r h24 ⟨rfl, rfl⟩
  refine BIf.no (by simp; omega) ?_
  refine BIf.no (by simp) ?_
  exact FinX.keep hw L_h rfl ⟨rfl, rfl⟩


theorem FnExactFilteredTotal_law (h : AH) (v_a0 : Value) (a0 : SDouble) (r_a0 : RDouble h v_a0 a0) (a1 : Bool) : ACalls Try.prog 4 [v_a0, .bool a1] h (fun r h' => r = .bool true ∧ h' = h) := by
  obtain ⟨b_a01, b_a0o1, b_a02, b_a0o2, b_a03, b_a0o3, k_a0, q_a0⟩ := r_a0.can
  refine ACalls.wk (args' := [.agg #[.int .i64 a0.prime, .slice (some ⟨b_a01, b_a0o1, none⟩) a0.dims.length 0, .slice (some ⟨b_a02, b_a0o2, none⟩) a0.across.length 0, .slice (some ⟨b_a03, b_a0o3, none⟩) a0.down.length 0], .bool a1]) ?_ (.cons k_a0 (.cons (Wk.refl _) .nil))
  refine ACalls.of Tt.tab Try.func4 rfl (by kernel_rfl) Try.ntmps4 _ rfl rfl (fun hw => ?_)
  have L_h := Le.refl h
  refine NewX.intro fun p_a0 h1 gg (e_a0 : look h1 p_a0 = some ⟨[.int .i64 a0.prime, .slice (some ⟨b_a01, b_a0o1, none⟩) a0.dims.length 0, .slice (some ⟨b_a02, b_a0o2, none⟩) a0.across.length 0, .slice (some ⟨b_a03, b_a0o3, none⟩) a0.down.length 0], some (25, 4)⟩) nn => ?_
  have L_h := L_h.trans gg
  have L_h1 := Le.refl h1
  refine LoadX.same (v := .agg #[.int .i64 a0.prime, .slice (some ⟨b_a01, b_a0o1, none⟩) a0.dims.length 0, .slice (some ⟨b_a02, b_a0o2, none⟩) a0.across.length 0, .slice (some ⟨b_a03, b_a0o3, none⟩) a0.down.length 0]) (L_h1.at_ _ _ e_a0) rfl ?_
  refine CallX.same (szDouble_c _ _ a0 _ ⟨_, _, _, rfl, q_a0.le L_h⟩ (by omega) (by omega)) ?_
  rintro r h2 ⟨rfl, rfl⟩
  by_cases s_a0 : (ctDouble a0 : Int) ≤ 1048576
  case neg =>
    rw [if_neg s_a0]
    refine BIf.yes rfl ?_
    exact FinX.keep hw L_h rfl ⟨rfl, rfl⟩
  rw [if_pos s_a0]
  refine BIf.no (by simp; omega) ?_
  have n_a0 := cnDouble_le a0
  have n_res := ft_cn a0 a1
  refine LoadX.same (v := .agg #[.int .i64 a0.prime, .slice (some ⟨b_a01, b_a0o1, none⟩) a0.dims.length 0, .slice (some ⟨b_a02, b_a0o2, none⟩) a0.across.length 0, .slice (some ⟨b_a03, b_a0o3, none⟩) a0.down.length 0]) (L_h1.at_ _ _ e_a0) rfl ?_
  refine CallX.same (toDouble_c _ _ a0 ⟨_, _, _, rfl, q_a0.le L_h⟩ (by omega)) ?_
  rintro r h3 ⟨d_sa01, d_sa02, d_sa03, l_sa0, rfl, o_sa0, gg⟩
  have N_sa0_h := L_h.len
  have N_sa0_h1 := L_h1.len
  have L_h := L_h.trans gg
  have L_h1 := L_h1.trans gg
  have L_h3 := Le.refl h3
  refine CallX.canon (filtS_c _ _ a0 ⟨_, _, _, rfl, o_sa0.reads.le L_h3⟩ a1) ?_
  have N_w_h := L_h.len
  have N_w_h1 := L_h1.len
  have N_w_h3 := L_h3.len
  rintro r h4 ⟨v, l_w, rfl, ⟨u_w1, u_w2, u_w3, rfl, o_w⟩, gg⟩
  obtain ⟨c_w1, c_wo1, c_w2, c_wo2, c_w3, c_wo3, k_w1, k_w2, k_w3, o_w⟩ := o_w.can
  refine ⟨_, (Wk.tuple (.cons (Wk.agg (.cons (Wk.refl _) (.cons k_w1 (.cons k_w2 (.cons k_w3 .nil))))) (.cons (Wk.refl _) .nil))), ?_⟩
  have L_h := L_h.trans gg
  have L_h1 := L_h1.trans gg
  have L_h3 := L_h3.trans gg
  have L_h4 := Le.refl h4
  have B_w_h := L_h.len
  have B_w_h1 := L_h1.len
  have B_w_h3 := L_h3.len
  have B_w_h4 := L_h4.len
  refine NewX.intro fun p_w h5 gg z_w m_w => ?_
  have L_h := L_h.trans gg
  have L_h1 := L_h1.trans gg
  have L_h3 := L_h3.trans gg
  have L_h4 := L_h4.trans gg
  refine StoreX.intro z_w rfl (show (0 + 4 : Nat) ≤ 4 by decide) fun h6 ee (e_w : look h6 p_w = some ⟨[.int .i64 (ftR a0 a1).1.complex.prime, .slice (some ⟨c_w1, c_wo1, none⟩) (ftR a0 a1).1.complex.dims.length 0, .slice (some ⟨c_w2, c_wo2, none⟩) (ftR a0 a1).1.complex.maps.length 0, .slice (some ⟨c_w3, c_wo3, none⟩) (ftR a0 a1).1.levels.length 0], some (41, 4)⟩) ao gl => ?_
  have L_h := gl _ L_h (Nat.le_trans B_w_h m_w)
  have L_h1 := gl _ L_h1 (Nat.le_trans B_w_h1 m_w)
  have L_h3 := gl _ L_h3 (Nat.le_trans B_w_h3 m_w)
  have L_h4 := gl _ L_h4 (Nat.le_trans B_w_h4 m_w)
  have L_h6 := Le.refl h6
  refine LoadX.same (v := .agg #[.int .i64 a0.prime, .slice (some ⟨b_a01, b_a0o1, none⟩) a0.dims.length 0, .slice (some ⟨b_a02, b_a0o2, none⟩) a0.across.length 0, .slice (some ⟨b_a03, b_a0o3, none⟩) a0.down.length 0]) (L_h1.at_ _ _ e_a0) rfl ?_
  refine CallX.same (toDouble_c _ _ a0 ⟨_, _, _, rfl, q_a0.le L_h⟩ (by omega)) ?_
  rintro r h7 ⟨d_xa01, d_xa02, d_xa03, l_xa0, rfl, o_xa0, gg⟩
  have N_xa0_h := L_h.len
  have N_xa0_h1 := L_h1.len
  have N_xa0_h3 := L_h3.len
  have N_xa0_h4 := L_h4.len
  have N_xa0_h6 := L_h6.len
  have L_h := L_h.trans gg
  have L_h1 := L_h1.trans gg
  have L_h3 := L_h3.trans gg
  have L_h4 := L_h4.trans gg
  have L_h6 := L_h6.trans gg
  have L_h7 := Le.refl h7
  have B_xa0_h := L_h.len
  have B_xa0_h1 := L_h1.len
  have B_xa0_h3 := L_h3.len
  have B_xa0_h4 := L_h4.len
  have B_xa0_h6 := L_h6.len
  have B_xa0_h7 := L_h7.len
  refine NewX.intro fun p_xa0 h8 gg z_xa0 m_xa0 => ?_
  have L_h := L_h.trans gg
  have L_h1 := L_h1.trans gg
  have L_h3 := L_h3.trans gg
  have L_h4 := L_h4.trans gg
  have L_h6 := L_h6.trans gg
  have L_h7 := L_h7.trans gg
  refine StoreX.intro z_xa0 rfl (show (0 + 4 : Nat) ≤ 4 by decide) fun h9 ee (e_xa0 : look h9 p_xa0 = some ⟨[.int .i64 a0.prime, .slice (some ⟨d_xa01, 0, none⟩) a0.dims.length 1, .slice (some ⟨d_xa02, 0, none⟩) a0.across.length 1, .slice (some ⟨d_xa03, 0, none⟩) a0.down.length 1], some (33, 4)⟩) ao gl => ?_
  have L_h := gl _ L_h (Nat.le_trans B_xa0_h m_xa0)
  have L_h1 := gl _ L_h1 (Nat.le_trans B_xa0_h1 m_xa0)
  have L_h3 := gl _ L_h3 (Nat.le_trans B_xa0_h3 m_xa0)
  have L_h4 := gl _ L_h4 (Nat.le_trans B_xa0_h4 m_xa0)
  have L_h6 := gl _ L_h6 (Nat.le_trans B_xa0_h6 m_xa0)
  have L_h7 := gl _ L_h7 (Nat.le_trans B_xa0_h7 m_xa0)
  have L_h9 := Le.refl h9
  refine LoadX.same (v := .agg #[.int .i64 a0.prime, .slice (some ⟨d_xa01, 0, none⟩) a0.dims.length 1, .slice (some ⟨d_xa02, 0, none⟩) a0.across.length 1, .slice (some ⟨d_xa03, 0, none⟩) a0.down.length 1]) (L_h9.at_ _ _ e_xa0) rfl ?_
  refine CallX.canon (filtI_c _ _ a0 ⟨_, _, _, rfl, o_xa0.reads.le L_h7⟩ a1) ?_
  have N_g_h := L_h.len
  have N_g_h1 := L_h1.len
  have N_g_h3 := L_h3.len
  have N_g_h4 := L_h4.len
  have N_g_h6 := L_h6.len
  have N_g_h7 := L_h7.len
  have N_g_h9 := L_h9.len
  rintro r h10 ⟨v, l_g, rfl, ⟨u_g1, u_g2, u_g3, rfl, o_g⟩, gg⟩
  obtain ⟨c_g1, c_go1, c_g2, c_go2, c_g3, c_go3, k_g1, k_g2, k_g3, o_g⟩ := o_g.can
  refine ⟨_, (Wk.tuple (.cons (Wk.agg (.cons (Wk.refl _) (.cons k_g1 (.cons k_g2 (.cons k_g3 .nil))))) (.cons (Wk.refl _) .nil))), ?_⟩
  have L_h := L_h.trans gg
  have L_h1 := L_h1.trans gg
  have L_h3 := L_h3.trans gg
  have L_h4 := L_h4.trans gg
  have L_h6 := L_h6.trans gg
  have L_h7 := L_h7.trans gg
  have L_h9 := L_h9.trans gg
  have L_h10 := Le.refl h10
  have B_g_h := L_h.len
  have B_g_h1 := L_h1.len
  have B_g_h3 := L_h3.len
  have B_g_h4 := L_h4.len
  have B_g_h6 := L_h6.len
  have B_g_h7 := L_h7.len
  have B_g_h9 := L_h9.len
  have B_g_h10 := L_h10.len
  refine NewX.intro fun p_g h11 gg z_g m_g => ?_
  have L_h := L_h.trans gg
  have L_h1 := L_h1.trans gg
  have L_h3 := L_h3.trans gg
  have L_h4 := L_h4.trans gg
  have L_h6 := L_h6.trans gg
  have L_h7 := L_h7.trans gg
  have L_h9 := L_h9.trans gg
  have L_h10 := L_h10.trans gg
  refine StoreX.intro z_g rfl (show (0 + 4 : Nat) ≤ 4 by decide) fun h12 ee (e_g : look h12 p_g = some ⟨[.int .i64 (ftR a0 a1).1.complex.prime, .slice (some ⟨c_g1, c_go1, none⟩) (ftR a0 a1).1.complex.dims.length 0, .slice (some ⟨c_g2, c_go2, none⟩) (ftR a0 a1).1.complex.maps.length 0, .slice (some ⟨c_g3, c_go3, none⟩) (ftR a0 a1).1.levels.length 0], some (41, 4)⟩) ao gl => ?_
  have L_h := gl _ L_h (Nat.le_trans B_g_h m_g)
  have L_h1 := gl _ L_h1 (Nat.le_trans B_g_h1 m_g)
  have L_h3 := gl _ L_h3 (Nat.le_trans B_g_h3 m_g)
  have L_h4 := gl _ L_h4 (Nat.le_trans B_g_h4 m_g)
  have L_h6 := gl _ L_h6 (Nat.le_trans B_g_h6 m_g)
  have L_h7 := gl _ L_h7 (Nat.le_trans B_g_h7 m_g)
  have L_h9 := gl _ L_h9 (Nat.le_trans B_g_h9 m_g)
  have L_h10 := gl _ L_h10 (Nat.le_trans B_g_h10 m_g)
  have L_h12 := Le.refl h12
  refine LoadX.same (v := .agg #[.int .i64 (ftR a0 a1).1.complex.prime, .slice (some ⟨c_g1, c_go1, none⟩) (ftR a0 a1).1.complex.dims.length 0, .slice (some ⟨c_g2, c_go2, none⟩) (ftR a0 a1).1.complex.maps.length 0, .slice (some ⟨c_g3, c_go3, none⟩) (ftR a0 a1).1.levels.length 0]) (L_h12.at_ _ _ e_g) rfl ?_
  refine LoadX.same (v := .agg #[.int .i64 (ftR a0 a1).1.complex.prime, .slice (some ⟨c_w1, c_wo1, none⟩) (ftR a0 a1).1.complex.dims.length 0, .slice (some ⟨c_w2, c_wo2, none⟩) (ftR a0 a1).1.complex.maps.length 0, .slice (some ⟨c_w3, c_wo3, none⟩) (ftR a0 a1).1.levels.length 0]) (L_h6.at_ _ _ e_w) rfl ?_
  refine CallX.same (eqFiltered_c _ _ _ ((ftR a0 a1).1) ((ftR a0 a1).1) ⟨_, _, _, rfl, o_g.reads.le L_h10⟩ ⟨_, _, _, rfl, o_w.reads.le L_h4⟩) ?_
  rintro r h13 ⟨rfl, rfl⟩
  refine BIf.no (by simp) ?_
  refine BIf.no (by simp) ?_
  refine DrawX.of Tt.tab follows_any [2] [] [0, 1, 2, 3, 4] rfl (by kernel_rfl) (by kernel_rfl) ?_
  refine LoadX.same (v := .agg #[.int .i64 a0.prime, .slice (some ⟨d_xa01, 0, none⟩) a0.dims.length 1, .slice (some ⟨d_xa02, 0, none⟩) a0.across.length 1, .slice (some ⟨d_xa03, 0, none⟩) a0.down.length 1]) (L_h9.at_ _ _ e_xa0) rfl ?_
  refine LoadX.same (v := .agg #[.int .i64 a0.prime, .slice (some ⟨b_a01, b_a0o1, none⟩) a0.dims.length 0, .slice (some ⟨b_a02, b_a0o2, none⟩) a0.across.length 0, .slice (some ⟨b_a03, b_a0o3, none⟩) a0.down.length 0]) (L_h1.at_ _ _ e_a0) rfl ?_
  refine CallX.same (toDouble_c _ _ a0 ⟨_, _, _, rfl, q_a0.le L_h⟩ (by omega)) ?_
  rintro r h14 ⟨d_ya01, d_ya02, d_ya03, l_ya0, rfl, o_ya0, gg⟩
  refine ⟨gg, ?_⟩
  have N_ya0_h := L_h.len
  have N_ya0_h1 := L_h1.len
  have N_ya0_h3 := L_h3.len
  have N_ya0_h4 := L_h4.len
  have N_ya0_h6 := L_h6.len
  have N_ya0_h7 := L_h7.len
  have N_ya0_h9 := L_h9.len
  have N_ya0_h10 := L_h10.len
  have N_ya0_h12 := L_h12.len
  have L_h := L_h.trans gg
  have L_h1 := L_h1.trans gg
  have L_h3 := L_h3.trans gg
  have L_h4 := L_h4.trans gg
  have L_h6 := L_h6.trans gg
  have L_h7 := L_h7.trans gg
  have L_h9 := L_h9.trans gg
  have L_h10 := L_h10.trans gg
  have L_h12 := L_h12.trans gg
  have L_h14 := Le.refl h14
  refine QCall.of (fun h2 hl => eqDouble_c h2 _ _ a0 a0 (RDouble.le _ _ _ _ hl ⟨_, _, _, rfl, o_xa0.reads.le L_h7⟩) (RDouble.le _ _ _ _ hl ⟨_, _, _, rfl, o_ya0.reads.le L_h14⟩)) rfl ?_
  refine BIf.no (by simp) ?_
  have lt_xa0 := ODouble.fr.lt (show ODouble _ h7 (.agg #[.int .i64 a0.prime, .slice (some ⟨d_xa01, 0, none⟩) a0.dims.length 1, .slice (some ⟨d_xa02, 0, none⟩) a0.across.length 1, .slice (some ⟨d_xa03, 0, none⟩) a0.down.length 1]) (a0) l_xa0 from ⟨_, _, _, rfl, o_xa0⟩)
  have lt_g := OFiltered.fr.lt (show OFiltered _ h10 (.agg #[.int .i64 (ftR a0 a1).1.complex.prime, .slice (some ⟨c_g1, c_go1, none⟩) (ftR a0 a1).1.complex.dims.length 0, .slice (some ⟨c_g2, c_go2, none⟩) (ftR a0 a1).1.complex.maps.length 0, .slice (some ⟨c_g3, c_go3, none⟩) (ftR a0 a1).1.levels.length 0]) ((ftR a0 a1).1) l_g from ⟨_, _, _, rfl, o_g⟩)
  have dj_xa0_g := ODouble.fr.dj (show ODouble _ h7 (.agg #[.int .i64 a0.prime, .slice (some ⟨d_xa01, 0, none⟩) a0.dims.length 1, .slice (some ⟨d_xa02, 0, none⟩) a0.across.length 1, .slice (some ⟨d_xa03, 0, none⟩) a0.down.length 1]) (a0) l_xa0 from ⟨_, _, _, rfl, o_xa0⟩) OFiltered.fr (show OFiltered _ h10 (.agg #[.int .i64 (ftR a0 a1).1.complex.prime, .slice (some ⟨c_g1, c_go1, none⟩) (ftR a0 a1).1.complex.dims.length 0, .slice (some ⟨c_g2, c_go2, none⟩) (ftR a0 a1).1.complex.maps.length 0, .slice (some ⟨c_g3, c_go3, none⟩) (ftR a0 a1).1.levels.length 0]) ((ftR a0 a1).1) l_g from ⟨_, _, _, rfl, o_g⟩) (by omega)
  refine LoadX.same (v := .agg #[.int .i64 a0.prime, .slice (some ⟨d_xa01, 0, none⟩) a0.dims.length 1, .slice (some ⟨d_xa02, 0, none⟩) a0.across.length 1, .slice (some ⟨d_xa03, 0, none⟩) a0.down.length 1]) (L_h9.at_ _ _ e_xa0) rfl ?_
  have oc := (ODouble.fr.le (show ODouble _ h7 (.agg #[.int .i64 a0.prime, .slice (some ⟨d_xa01, 0, none⟩) a0.dims.length 1, .slice (some ⟨d_xa02, 0, none⟩) a0.across.length 1, .slice (some ⟨d_xa03, 0, none⟩) a0.down.length 1]) (a0) l_xa0 from ⟨_, _, _, rfl, o_xa0⟩) L_h7)
  have ot := fun i hi => (ODouble.fr.leaf _ _ _ _ _ oc i hi).2
  have og := fun i hi => (ODouble.fr.leaf _ _ _ _ _ oc i hi).1
  have ol := lt_xa0
  refine CallX.same (markDouble_c _ _ _ (a0) _ _ oc (by omega) (by omega)) ?_
  rintro r h15 ⟨rfl, mk, om⟩
  have o_g := OFiltered.fr.mark rfl mk (OFiltered.fr.le (show OFiltered _ h10 (.agg #[.int .i64 (ftR a0 a1).1.complex.prime, .slice (some ⟨c_g1, c_go1, none⟩) (ftR a0 a1).1.complex.dims.length 0, .slice (some ⟨c_g2, c_go2, none⟩) (ftR a0 a1).1.complex.maps.length 0, .slice (some ⟨c_g3, c_go3, none⟩) (ftR a0 a1).1.levels.length 0]) ((ftR a0 a1).1) l_g from ⟨_, _, _, rfl, o_g⟩) L_h10) dj_xa0_g ot
  have e_g := mk.stay (L_h12.at_ _ _ e_g) (fun i hi => Nat.lt_of_lt_of_le (ol i hi) (by omega))
  have L_h := mk.le L_h (fun i hi => Nat.le_trans N_xa0_h (og i hi))
  have L_h1 := mk.le L_h1 (fun i hi => Nat.le_trans N_xa0_h1 (og i hi))
  have L_h3 := mk.le L_h3 (fun i hi => Nat.le_trans N_xa0_h3 (og i hi))
  have L_h4 := mk.le L_h4 (fun i hi => Nat.le_trans N_xa0_h4 (og i hi))
  have L_h6 := mk.le L_h6 (fun i hi => Nat.le_trans N_xa0_h6 (og i hi))
  have L_h15 := Le.refl h15
  obtain ⟨j_1, j_2, j_3, ee, o_g⟩ := o_g
  cases ee
  refine BIf.no (by simp; omega) ?_
  refine LoadX.same (v := .agg #[.int .i64 (ftR a0 a1).1.complex.prime, .slice (some ⟨c_g1, c_go1, none⟩) (ftR a0 a1).1.complex.dims.length 0, .slice (some ⟨c_g2, c_go2, none⟩) (ftR a0 a1).1.complex.maps.length 0, .slice (some ⟨c_g3, c_go3, none⟩) (ftR a0 a1).1.levels.length 0]) (L_h15.at_ _ _ e_g) rfl ?_
  refine LoadX.same (v := .agg #[.int .i64 (ftR a0 a1).1.complex.prime, .slice (some ⟨c_w1, c_wo1, none⟩) (ftR a0 a1).1.complex.dims.length 0, .slice (some ⟨c_w2, c_wo2, none⟩) (ftR a0 a1).1.complex.maps.length 0, .slice (some ⟨c_w3, c_wo3, none⟩) (ftR a0 a1).1.levels.length 0]) (L_h6.at_ _ _ e_w) rfl ?_
  refine CallX.same (eqFiltered_c _ _ _ ((ftR a0 a1).1) ((ftR a0 a1).1) ⟨_, _, _, rfl, o_g.reads.le L_h15⟩ ⟨_, _, _, rfl, o_w.reads.le L_h4⟩) ?_
  rintro r h16 ⟨rfl, rfl⟩
  refine BIf.no (by simp) ?_
  refine BIf.no (by simp) ?_
  refine LoadX.same (v := .agg #[.int .i64 (ftR a0 a1).1.complex.prime, .slice (some ⟨c_g1, c_go1, none⟩) (ftR a0 a1).1.complex.dims.length 0, .slice (some ⟨c_g2, c_go2, none⟩) (ftR a0 a1).1.complex.maps.length 0, .slice (some ⟨c_g3, c_go3, none⟩) (ftR a0 a1).1.levels.length 0]) (L_h15.at_ _ _ e_g) rfl ?_
  have oc := (OFiltered.fr.le (show OFiltered _ h16 (.agg #[.int .i64 (ftR a0 a1).1.complex.prime, .slice (some ⟨c_g1, c_go1, none⟩) (ftR a0 a1).1.complex.dims.length 0, .slice (some ⟨c_g2, c_go2, none⟩) (ftR a0 a1).1.complex.maps.length 0, .slice (some ⟨c_g3, c_go3, none⟩) (ftR a0 a1).1.levels.length 0]) ((ftR a0 a1).1) l_g from ⟨_, _, _, rfl, o_g⟩) L_h15)
  have ot := fun i hi => (OFiltered.fr.leaf _ _ _ _ _ oc i hi).2
  have og := fun i hi => (OFiltered.fr.leaf _ _ _ _ _ oc i hi).1
  have ol := lt_g
  refine CallX.same (markFiltered_c _ _ _ ((ftR a0 a1).1) _ _ oc (by omega) (by omega)) ?_
  rintro r h17 ⟨rfl, mk, om⟩
  have e_g := mk.stay (L_h15.at_ _ _ e_g) (fun i hi => Nat.lt_of_lt_of_le (ol i hi) (by omega))
  have L_h := mk.le L_h (fun i hi => Nat.le_trans N_g_h (og i hi))
  have L_h1 := mk.le L_h1 (fun i hi => Nat.le_trans N_g_h1 (og i hi))
  have L_h3 := mk.le L_h3 (fun i hi => Nat.le_trans N_g_h3 (og i hi))
  have L_h4 := mk.le L_h4 (fun i hi => Nat.le_trans N_g_h4 (og i hi))
  have L_h6 := mk.le L_h6 (fun i hi => Nat.le_trans N_g_h6 (og i hi))
  have L_h17 := Le.refl h17
  have o_m := OFiltered.reads _ _ _ _ _ om
  refine LoadX.same (v := .agg #[.int .i64 (ftR a0 a1).1.complex.prime, .slice (some ⟨c_g1, c_go1, none⟩) (ftR a0 a1).1.complex.dims.length 0, .slice (some ⟨c_g2, c_go2, none⟩) (ftR a0 a1).1.complex.maps.length 0, .slice (some ⟨c_g3, c_go3, none⟩) (ftR a0 a1).1.levels.length 0]) (L_h17.at_ _ _ e_g) rfl ?_
  refine CallX.same (heldFiltered_c _ _ ((ftR a0 a1).1) _ (RFiltered.le _ _ _ _ L_h17 o_m) (by omega) (by omega)) ?_
  rintro r h18 ⟨rfl, rfl⟩
  refine BIf.no (by simp; omega) ?_
  refine BIf.no (by simp) ?_
  refine LoadX.same (v := .agg #[.int .i64 a0.prime, .slice (some ⟨b_a01, b_a0o1, none⟩) a0.dims.length 0, .slice (some ⟨b_a02, b_a0o2, none⟩) a0.across.length 0, .slice (some ⟨b_a03, b_a0o3, none⟩) a0.down.length 0]) (L_h1.at_ _ _ e_a0) rfl ?_
  refine CallX.same (toDouble_c _ _ a0 ⟨_, _, _, rfl, q_a0.le L_h⟩ (by omega)) ?_
  rintro r h19 ⟨d_ta01, d_ta02, d_ta03, l_ta0, rfl, o_ta0, gg⟩
  have N_ta0_h := L_h.len
  have N_ta0_h1 := L_h1.len
  have N_ta0_h3 := L_h3.len
  have N_ta0_h4 := L_h4.len
  have N_ta0_h6 := L_h6.len
  have N_ta0_h17 := L_h17.len
  have L_h := L_h.trans gg
  have L_h1 := L_h1.trans gg
  have L_h3 := L_h3.trans gg
  have L_h4 := L_h4.trans gg
  have L_h6 := L_h6.trans gg
  have L_h17 := L_h17.trans gg
  have L_h19 := Le.refl h19
  refine CallX.canon (filtI_c _ _ a0 ⟨_, _, _, rfl, o_ta0.reads.le L_h19⟩ a1) ?_
  have N_f_h := L_h.len
  have N_f_h1 := L_h1.len
  have N_f_h3 := L_h3.len
  have N_f_h4 := L_h4.len
  have N_f_h6 := L_h6.len
  have N_f_h17 := L_h17.len
  have N_f_h19 := L_h19.len
  rintro r h20 ⟨v, l_f, rfl, ⟨u_f1, u_f2, u_f3, rfl, o_f⟩, gg⟩
  obtain ⟨c_f1, c_fo1, c_f2, c_fo2, c_f3, c_fo3, k_f1, k_f2, k_f3, o_f⟩ := o_f.can
  refine ⟨_, (Wk.tuple (.cons (Wk.agg (.cons (Wk.refl _) (.cons k_f1 (.cons k_f2 (.cons k_f3 .nil))))) (.cons (Wk.refl _) .nil))), ?_⟩
  have L_h := L_h.trans gg
  have L_h1 := L_h1.trans gg
  have L_h3 := L_h3.trans gg
  have L_h4 := L_h4.trans gg
  have L_h6 := L_h6.trans gg
  have L_h17 := L_h17.trans gg
  have L_h19 := L_h19.trans gg
  have L_h20 := Le.refl h20
  have B_f_h := L_h.len
  have B_f_h1 := L_h1.len
  have B_f_h3 := L_h3.len
  have B_f_h4 := L_h4.len
  have B_f_h6 := L_h6.len
  have B_f_h17 := L_h17.len
  have B_f_h19 := L_h19.len
  have B_f_h20 := L_h20.len
  refine NewX.intro fun p_f h21 gg z_f m_f => ?_
  have L_h := L_h.trans gg
  have L_h1 := L_h1.trans gg
  have L_h3 := L_h3.trans gg
  have L_h4 := L_h4.trans gg
  have L_h6 := L_h6.trans gg
  have L_h17 := L_h17.trans gg
  have L_h19 := L_h19.trans gg
  have L_h20 := L_h20.trans gg
  refine StoreX.intro z_f rfl (show (0 + 4 : Nat) ≤ 4 by decide) fun h22 ee (e_f : look h22 p_f = some ⟨[.int .i64 (ftR a0 a1).1.complex.prime, .slice (some ⟨c_f1, c_fo1, none⟩) (ftR a0 a1).1.complex.dims.length 0, .slice (some ⟨c_f2, c_fo2, none⟩) (ftR a0 a1).1.complex.maps.length 0, .slice (some ⟨c_f3, c_fo3, none⟩) (ftR a0 a1).1.levels.length 0], some (41, 4)⟩) ao gl => ?_
  have L_h := gl _ L_h (Nat.le_trans B_f_h m_f)
  have L_h1 := gl _ L_h1 (Nat.le_trans B_f_h1 m_f)
  have L_h3 := gl _ L_h3 (Nat.le_trans B_f_h3 m_f)
  have L_h4 := gl _ L_h4 (Nat.le_trans B_f_h4 m_f)
  have L_h6 := gl _ L_h6 (Nat.le_trans B_f_h6 m_f)
  have L_h17 := gl _ L_h17 (Nat.le_trans B_f_h17 m_f)
  have L_h19 := gl _ L_h19 (Nat.le_trans B_f_h19 m_f)
  have L_h20 := gl _ L_h20 (Nat.le_trans B_f_h20 m_f)
  have L_h22 := Le.refl h22
  refine LoadX.same (v := .agg #[.int .i64 (ftR a0 a1).1.complex.prime, .slice (some ⟨c_f1, c_fo1, none⟩) (ftR a0 a1).1.complex.dims.length 0, .slice (some ⟨c_f2, c_fo2, none⟩) (ftR a0 a1).1.complex.maps.length 0, .slice (some ⟨c_f3, c_fo3, none⟩) (ftR a0 a1).1.levels.length 0]) (L_h22.at_ _ _ e_f) rfl ?_
  refine LoadX.same (v := .agg #[.int .i64 (ftR a0 a1).1.complex.prime, .slice (some ⟨c_w1, c_wo1, none⟩) (ftR a0 a1).1.complex.dims.length 0, .slice (some ⟨c_w2, c_wo2, none⟩) (ftR a0 a1).1.complex.maps.length 0, .slice (some ⟨c_w3, c_wo3, none⟩) (ftR a0 a1).1.levels.length 0]) (L_h6.at_ _ _ e_w) rfl ?_
  refine CallX.same (eqFiltered_c _ _ _ ((ftR a0 a1).1) ((ftR a0 a1).1) ⟨_, _, _, rfl, o_f.reads.le L_h20⟩ ⟨_, _, _, rfl, o_w.reads.le L_h4⟩) ?_
  rintro r h23 ⟨rfl, rfl⟩
  refine BIf.no (by simp) ?_
  refine BIf.no (by simp) ?_
  refine LoadX.same (v := .agg #[.int .i64 (ftR a0 a1).1.complex.prime, .slice (some ⟨c_g1, c_go1, none⟩) (ftR a0 a1).1.complex.dims.length 0, .slice (some ⟨c_g2, c_go2, none⟩) (ftR a0 a1).1.complex.maps.length 0, .slice (some ⟨c_g3, c_go3, none⟩) (ftR a0 a1).1.levels.length 0]) (L_h17.at_ _ _ e_g) rfl ?_
  refine CallX.same (heldFiltered_c _ _ ((ftR a0 a1).1) _ (RFiltered.le _ _ _ _ L_h17 o_m) (by omega) (by omega)) ?_
  rintro r h24 ⟨rfl, rfl⟩
  refine BIf.no (by simp; omega) ?_
  refine BIf.no (by simp) ?_
  exact FinX.keep hw L_h rfl ⟨rfl, rfl⟩


end Go.Gl

/- Laws, walked: written by mk_law.py. No condition. -/
import Derived.Test.YtbjohihngoghlaaGreatFnY6
set_option linter.unusedVariables false
set_option linter.unusedSimpArgs false
namespace Go.Gl
open Go.Proofs Go.Proofs.YtbjohihngoghlaaGreat


theorem FnExactSecondNumbers_law (h : AH) (v_a0 : Value) (a0 : SDouble) (r_a0 : RDouble h v_a0 a0) (a1 : Bool) : ACalls Tryz.prog 3 [v_a0, .bool a1] h (fun r h' => r = .bool true ∧ h' = h) := by
  obtain ⟨b_a01, b_a0o1, b_a02, b_a0o2, b_a03, b_a0o3, k_a0, q_a0⟩ := r_a0.can
  refine ACalls.wk (args' := [.agg #[.int .i64 a0.prime, .slice (some ⟨b_a01, b_a0o1, none⟩) a0.dims.length 0, .slice (some ⟨b_a02, b_a0o2, none⟩) a0.across.length 0, .slice (some ⟨b_a03, b_a0o3, none⟩) a0.down.length 0], .bool a1]) ?_ (.cons k_a0 (.cons (Wk.refl _) .nil))
  refine ACalls.of Tt.tab Tryz.func3 rfl (by kernel_rfl) Tryz.ntmps3 _ rfl rfl (fun hw => ?_)
  have L_h := Le.refl h
  refine NewX.intro fun p_a0 h1 gg (e_a0 : look h1 p_a0 = some ⟨[.int .i64 a0.prime, .slice (some ⟨b_a01, b_a0o1, none⟩) a0.dims.length 0, .slice (some ⟨b_a02, b_a0o2, none⟩) a0.across.length 0, .slice (some ⟨b_a03, b_a0o3, none⟩) a0.down.length 0], some (25, 4)⟩) nn => ?_
  have L_h := L_h.trans gg
  have L_h1 := Le.refl h1
  refine LoadX.same (v := .agg #[.int .i64 a0.prime, .slice (some ⟨b_a01, b_a0o1, none⟩) a0.dims.length 0, .slice (some ⟨b_a02, b_a0o2, none⟩) a0.across.length 0, .slice (some ⟨b_a03, b_a0o3, none⟩) a0.down.length 0]) (L_h1.at_ _ _ e_a0) rfl ?_
  refine CallX.same (szDouble_c _ _ a0 _ ⟨_, _, _, rfl, q_a0.le L_h⟩ (by omega) (by omega)) ?_
  rintro r h2 ⟨rfl, rfl⟩
  by_cases s_a0 : (ctDouble a0 : Int) ≤ 1048576
  case neg =>
    rw [if_neg s_a0]
    refine BIf.yes rfl ?_
    exact FinX.keep hw L_h rfl ⟨rfl, rfl⟩
  rw [if_pos s_a0]
  refine BIf.no (by simp; omega) ?_
  have n_a0 := cnDouble_le a0
  have n_res := secH_cn a0 a1
  refine LoadX.same (v := .agg #[.int .i64 a0.prime, .slice (some ⟨b_a01, b_a0o1, none⟩) a0.dims.length 0, .slice (some ⟨b_a02, b_a0o2, none⟩) a0.across.length 0, .slice (some ⟨b_a03, b_a0o3, none⟩) a0.down.length 0]) (L_h1.at_ _ _ e_a0) rfl ?_
  refine CallX.same (toDouble_c _ _ a0 ⟨_, _, _, rfl, q_a0.le L_h⟩ (by omega)) ?_
  rintro r h3 ⟨d_sa01, d_sa02, d_sa03, l_sa0, rfl, o_sa0, gg⟩
  have N_sa0_h := L_h.len
  have N_sa0_h1 := L_h1.len
  have L_h := L_h.trans gg
  have L_h1 := L_h1.trans gg
  have L_h3 := Le.refl h3
  refine CallX.canon (secHS_c _ _ a0 ⟨_, _, _, rfl, o_sa0.reads.le L_h3⟩ a1) ?_
  have N_w_h := L_h.len
  have N_w_h1 := L_h1.len
  have N_w_h3 := L_h3.len
  rintro r h4 ⟨v, l_w, rfl, o_w, gg⟩
  obtain ⟨c_w1, c_wo1, k_w1, o_w⟩ := Node.can o_w
  refine ⟨_, (Wk.tuple (.cons k_w1 (.cons (Wk.refl _) .nil))), ?_⟩
  have L_h := L_h.trans gg
  have L_h1 := L_h1.trans gg
  have L_h3 := L_h3.trans gg
  have L_h4 := Le.refl h4
  refine LoadX.same (v := .agg #[.int .i64 a0.prime, .slice (some ⟨b_a01, b_a0o1, none⟩) a0.dims.length 0, .slice (some ⟨b_a02, b_a0o2, none⟩) a0.across.length 0, .slice (some ⟨b_a03, b_a0o3, none⟩) a0.down.length 0]) (L_h1.at_ _ _ e_a0) rfl ?_
  refine CallX.same (toDouble_c _ _ a0 ⟨_, _, _, rfl, q_a0.le L_h⟩ (by omega)) ?_
  rintro r h5 ⟨d_xa01, d_xa02, d_xa03, l_xa0, rfl, o_xa0, gg⟩
  have N_xa0_h := L_h.len
  have N_xa0_h1 := L_h1.len
  have N_xa0_h3 := L_h3.len
  have N_xa0_h4 := L_h4.len
  have L_h := L_h.trans gg
  have L_h1 := L_h1.trans gg
  have L_h3 := L_h3.trans gg
  have L_h4 := L_h4.trans gg
  have L_h5 := Le.refl h5
  have B_xa0_h := L_h.len
  have B_xa0_h1 := L_h1.len
  have B_xa0_h3 := L_h3.len
  have B_xa0_h4 := L_h4.len
  have B_xa0_h5 := L_h5.len
  refine NewX.intro fun p_xa0 h6 gg z_xa0 m_xa0 => ?_
  have L_h := L_h.trans gg
  have L_h1 := L_h1.trans gg
  have L_h3 := L_h3.trans gg
  have L_h4 := L_h4.trans gg
  have L_h5 := L_h5.trans gg
  refine StoreX.intro z_xa0 rfl (show (0 + 4 : Nat) ≤ 4 by decide) fun h7 ee (e_xa0 : look h7 p_xa0 = some ⟨[.int .i64 a0.prime, .slice (some ⟨d_xa01, 0, none⟩) a0.dims.length 1, .slice (some ⟨d_xa02, 0, none⟩) a0.across.length 1, .slice (some ⟨d_xa03, 0, none⟩) a0.down.length 1], some (29, 4)⟩) ao gl => ?_
  have L_h := gl _ L_h (Nat.le_trans B_xa0_h m_xa0)
  have L_h1 := gl _ L_h1 (Nat.le_trans B_xa0_h1 m_xa0)
  have L_h3 := gl _ L_h3 (Nat.le_trans B_xa0_h3 m_xa0)
  have L_h4 := gl _ L_h4 (Nat.le_trans B_xa0_h4 m_xa0)
  have L_h5 := gl _ L_h5 (Nat.le_trans B_xa0_h5 m_xa0)
  have L_h7 := Le.refl h7
  refine LoadX.same (v := .agg #[.int .i64 a0.prime, .slice (some ⟨d_xa01, 0, none⟩) a0.dims.length 1, .slice (some ⟨d_xa02, 0, none⟩) a0.across.length 1, .slice (some ⟨d_xa03, 0, none⟩) a0.down.length 1]) (L_h7.at_ _ _ e_xa0) rfl ?_
  refine CallX.canon (secHI_c _ _ a0 ⟨_, _, _, rfl, o_xa0.reads.le L_h5⟩ a1) ?_
  have N_g_h := L_h.len
  have N_g_h1 := L_h1.len
  have N_g_h3 := L_h3.len
  have N_g_h4 := L_h4.len
  have N_g_h5 := L_h5.len
  have N_g_h7 := L_h7.len
  rintro r h8 ⟨v, l_g, rfl, o_g, gg⟩
  obtain ⟨c_g1, c_go1, k_g1, o_g⟩ := Node.can o_g
  refine ⟨_, (Wk.tuple (.cons k_g1 (.cons (Wk.refl _) .nil))), ?_⟩
  have L_h := L_h.trans gg
  have L_h1 := L_h1.trans gg
  have L_h3 := L_h3.trans gg
  have L_h4 := L_h4.trans gg
  have L_h5 := L_h5.trans gg
  have L_h7 := L_h7.trans gg
  have L_h8 := Le.refl h8
  refine CallX.same (eqII_c _ _ _ ((secH a0 a1).1) ((secH a0 a1).1) (RII.le _ _ _ _ L_h8 (OII.reads _ _ _ _ _ o_g)) (RII.le _ _ _ _ L_h4 (OII.reads _ _ _ _ _ o_w))) ?_
  rintro r h9 ⟨rfl, rfl⟩
  refine BIf.no (by simp) ?_
  refine BIf.no (by simp) ?_
  refine DrawX.of Tt.tab follows_any [2] [] [0, 1, 2, 3, 4] rfl (by kernel_rfl) (by kernel_rfl) ?_
  refine LoadX.same (v := .agg #[.int .i64 a0.prime, .slice (some ⟨d_xa01, 0, none⟩) a0.dims.length 1, .slice (some ⟨d_xa02, 0, none⟩) a0.across.length 1, .slice (some ⟨d_xa03, 0, none⟩) a0.down.length 1]) (L_h7.at_ _ _ e_xa0) rfl ?_
  refine LoadX.same (v := .agg #[.int .i64 a0.prime, .slice (some ⟨b_a01, b_a0o1, none⟩) a0.dims.length 0, .slice (some ⟨b_a02, b_a0o2, none⟩) a0.across.length 0, .slice (some ⟨b_a03, b_a0o3, none⟩) a0.down.length 0]) (L_h1.at_ _ _ e_a0) rfl ?_
  refine CallX.same (toDouble_c _ _ a0 ⟨_, _, _, rfl, q_a0.le L_h⟩ (by omega)) ?_
  rintro r h10 ⟨d_ya01, d_ya02, d_ya03, l_ya0, rfl, o_ya0, gg⟩
  refine ⟨gg, ?_⟩
  have N_ya0_h := L_h.len
  have N_ya0_h1 := L_h1.len
  have N_ya0_h3 := L_h3.len
  have N_ya0_h4 := L_h4.len
  have N_ya0_h5 := L_h5.len
  have N_ya0_h7 := L_h7.len
  have N_ya0_h8 := L_h8.len
  have L_h := L_h.trans gg
  have L_h1 := L_h1.trans gg
  have L_h3 := L_h3.trans gg
  have L_h4 := L_h4.trans gg
  have L_h5 := L_h5.trans gg
  have L_h7 := L_h7.trans gg
  have L_h8 := L_h8.trans gg
  have L_h10 := Le.refl h10
  refine QCall.of (fun h2 hl => eqDouble_c h2 _ _ a0 a0 (RDouble.le _ _ _ _ hl ⟨_, _, _, rfl, o_xa0.reads.le L_h5⟩) (RDouble.le _ _ _ _ hl ⟨_, _, _, rfl, o_ya0.reads.le L_h10⟩)) rfl ?_
  refine BIf.no (by simp) ?_
  have lt_xa0 := ODouble.fr.lt (show ODouble _ h5 (.agg #[.int .i64 a0.prime, .slice (some ⟨d_xa01, 0, none⟩) a0.dims.length 1, .slice (some ⟨d_xa02, 0, none⟩) a0.across.length 1, .slice (some ⟨d_xa03, 0, none⟩) a0.down.length 1]) (a0) l_xa0 from ⟨_, _, _, rfl, o_xa0⟩)
  have lt_g := OII.fr.lt o_g
  have dj_xa0_g := ODouble.fr.dj (show ODouble _ h5 (.agg #[.int .i64 a0.prime, .slice (some ⟨d_xa01, 0, none⟩) a0.dims.length 1, .slice (some ⟨d_xa02, 0, none⟩) a0.across.length 1, .slice (some ⟨d_xa03, 0, none⟩) a0.down.length 1]) (a0) l_xa0 from ⟨_, _, _, rfl, o_xa0⟩) OII.fr o_g (by omega)
  refine LoadX.same (v := .agg #[.int .i64 a0.prime, .slice (some ⟨d_xa01, 0, none⟩) a0.dims.length 1, .slice (some ⟨d_xa02, 0, none⟩) a0.across.length 1, .slice (some ⟨d_xa03, 0, none⟩) a0.down.length 1]) (L_h7.at_ _ _ e_xa0) rfl ?_
  have oc := (ODouble.fr.le (show ODouble _ h5 (.agg #[.int .i64 a0.prime, .slice (some ⟨d_xa01, 0, none⟩) a0.dims.length 1, .slice (some ⟨d_xa02, 0, none⟩) a0.across.length 1, .slice (some ⟨d_xa03, 0, none⟩) a0.down.length 1]) (a0) l_xa0 from ⟨_, _, _, rfl, o_xa0⟩) L_h5)
  have ot := fun i hi => (ODouble.fr.leaf _ _ _ _ _ oc i hi).2
  have og := fun i hi => (ODouble.fr.leaf _ _ _ _ _ oc i hi).1
  have ol := lt_xa0
  refine CallX.same (markDouble_c _ _ _ (a0) _ _ oc (by omega) (by omega)) ?_
  rintro r h11 ⟨rfl, mk, om⟩
  have o_g := OII.fr.mark rfl mk (OII.fr.le o_g L_h8) dj_xa0_g ot
  have L_h := mk.le L_h (fun i hi => Nat.le_trans N_xa0_h (og i hi))
  have L_h1 := mk.le L_h1 (fun i hi => Nat.le_trans N_xa0_h1 (og i hi))
  have L_h3 := mk.le L_h3 (fun i hi => Nat.le_trans N_xa0_h3 (og i hi))
  have L_h4 := mk.le L_h4 (fun i hi => Nat.le_trans N_xa0_h4 (og i hi))
  have L_h11 := Le.refl h11
  refine BIf.no (by simp; omega) ?_
  refine CallX.same (eqII_c _ _ _ ((secH a0 a1).1) ((secH a0 a1).1) (RII.le _ _ _ _ L_h11 (OII.reads _ _ _ _ _ o_g)) (RII.le _ _ _ _ L_h4 (OII.reads _ _ _ _ _ o_w))) ?_
  rintro r h12 ⟨rfl, rfl⟩
  refine BIf.no (by simp) ?_
  refine BIf.no (by simp) ?_
  have oc := (OII.fr.le o_g L_h11)
  have ot := fun i hi => (OII.fr.leaf _ _ _ _ _ oc i hi).2
  have og := fun i hi => (OII.fr.leaf _ _ _ _ _ oc i hi).1
  have ol := lt_g
  refine CallX.same (markII_c _ _ _ ((secH a0 a1).1) _ _ oc (by omega) (by omega)) ?_
  rintro r h13 ⟨rfl, mk, om⟩
  have L_h := mk.le L_h (fun i hi => Nat.le_trans N_g_h (og i hi))
  have L_h1 := mk.le L_h1 (fun i hi => Nat.le_trans N_g_h1 (og i hi))
  have L_h3 := mk.le L_h3 (fun i hi => Nat.le_trans N_g_h3 (og i hi))
  have L_h4 := mk.le L_h4 (fun i hi => Nat.le_trans N_g_h4 (og i hi))
  have L_h13 := Le.refl h13
  have o_m := OII.reads _ _ _ _ _ om
  refine CallX.same (heldII_c _ _ ((secH a0 a1).1) _ (RII.le _ _ _ _ L_h13 o_m) (by omega) (by omega)) ?_
  rintro r h14 ⟨rfl, rfl⟩
  refine BIf.no (by simp; omega) ?_
  refine BIf.no (by simp) ?_
  refine LoadX.same (v := .agg #[.int .i64 a0.prime, .slice (some ⟨b_a01, b_a0o1, none⟩) a0.dims.length 0, .slice (some ⟨b_a02, b_a0o2, none⟩) a0.across.length 0, .slice (some ⟨b_a03, b_a0o3, none⟩) a0.down.length 0]) (L_h1.at_ _ _ e_a0) rfl ?_
  refine CallX.same (toDouble_c _ _ a0 ⟨_, _, _, rfl, q_a0.le L_h⟩ (by omega)) ?_
  rintro r h15 ⟨d_ta01, d_ta02, d_ta03, l_ta0, rfl, o_ta0, gg⟩
  have N_ta0_h := L_h.len
  have N_ta0_h1 := L_h1.len
  have N_ta0_h3 := L_h3.len
  have N_ta0_h4 := L_h4.len
  have N_ta0_h13 := L_h13.len
  have L_h := L_h.trans gg
  have L_h1 := L_h1.trans gg
  have L_h3 := L_h3.trans gg
  have L_h4 := L_h4.trans gg
  have L_h13 := L_h13.trans gg
  have L_h15 := Le.refl h15
  refine CallX.canon (secHI_c _ _ a0 ⟨_, _, _, rfl, o_ta0.reads.le L_h15⟩ a1) ?_
  have N_f_h := L_h.len
  have N_f_h1 := L_h1.len
  have N_f_h3 := L_h3.len
  have N_f_h4 := L_h4.len
  have N_f_h13 := L_h13.len
  have N_f_h15 := L_h15.len
  rintro r h16 ⟨v, l_f, rfl, o_f, gg⟩
  obtain ⟨c_f1, c_fo1, k_f1, o_f⟩ := Node.can o_f
  refine ⟨_, (Wk.tuple (.cons k_f1 (.cons (Wk.refl _) .nil))), ?_⟩
  have L_h := L_h.trans gg
  have L_h1 := L_h1.trans gg
  have L_h3 := L_h3.trans gg
  have L_h4 := L_h4.trans gg
  have L_h13 := L_h13.trans gg
  have L_h15 := L_h15.trans gg
  have L_h16 := Le.refl h16
  refine CallX.same (eqII_c _ _ _ ((secH a0 a1).1) ((secH a0 a1).1) (RII.le _ _ _ _ L_h16 (OII.reads _ _ _ _ _ o_f)) (RII.le _ _ _ _ L_h4 (OII.reads _ _ _ _ _ o_w))) ?_
  rintro r h17 ⟨rfl, rfl⟩
  refine BIf.no (by simp) ?_
  refine BIf.no (by simp) ?_
  refine CallX.same (heldII_c _ _ ((secH a0 a1).1) _ (RII.le _ _ _ _ L_h13 o_m) (by omega) (by omega)) ?_
  rintro r h18 ⟨rfl, rfl⟩
  refine BIf.no (by simp; omega) ?_
  refine BIf.no (by simp) ?_
  exact FinX.keep hw L_h rfl ⟨rfl, rfl⟩


end Go.Gl

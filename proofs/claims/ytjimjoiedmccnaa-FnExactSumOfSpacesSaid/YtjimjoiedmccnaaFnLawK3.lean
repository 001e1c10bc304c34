/- Laws, walked: written by mk_law.py. No condition. -/
import Derived.Test.YtjimjoiedmccnaaFnK3
set_option linter.unusedVariables false
set_option linter.unusedSimpArgs false
namespace Go.Gl
open Go.Proofs Go.Proofs.Ytjimjoiedmccnaa


theorem FnExactSumOfSpaces_law (h : AH) (a0 : Int) (a1 : Int) (v_a2 : Value) (a2 : List (List Int)) (r_a2 : RII h v_a2 a2) (v_a3 : Value) (a3 : List (List Int)) (r_a3 : RII h v_a3 a3) : ACalls Try.prog 6 [.int .i64 a0, .int .i64 a1, v_a2, v_a3] h (fun r h' => r = .bool true ∧ h' = h) := by
  obtain ⟨b_a21, b_a2o1, k_a2, q_a2⟩ := r_a2.can
  obtain ⟨b_a31, b_a3o1, k_a3, q_a3⟩ := r_a3.can
  refine ACalls.wk (args' := [.int .i64 a0, .int .i64 a1, .slice (some ⟨b_a21, b_a2o1, none⟩) a2.length 0, .slice (some ⟨b_a31, b_a3o1, none⟩) a3.length 0]) ?_ (.cons (Wk.refl _) (.cons (Wk.refl _) (.cons k_a2 (.cons k_a3 .nil))))
  refine ACalls.of Tt.tab Try.func6 rfl (by kernel_rfl) Try.ntmps6 _ rfl rfl (fun hw => ?_)
  have L_h := Le.refl h
  refine CallX.same (szII_c _ _ a2 _ (RII.le _ _ _ _ L_h q_a2) (by omega) (by omega)) ?_
  rintro r h1 ⟨rfl, rfl⟩
  by_cases s_a2 : (ctII a2 : Int) ≤ 1048576
  case neg =>
    rw [if_neg s_a2]
    refine BIf.yes rfl ?_
    exact FinX.keep hw L_h rfl ⟨rfl, rfl⟩
  rw [if_pos s_a2]
  refine BIf.no (by simp; omega) ?_
  refine CallX.same (szII_c _ _ a3 _ (RII.le _ _ _ _ L_h q_a3) (by omega) (by omega)) ?_
  rintro r h2 ⟨rfl, rfl⟩
  by_cases s_a3 : (ctII a3 : Int) ≤ 1048576 - ctII a2
  case neg =>
    rw [if_neg s_a3]
    refine BIf.yes rfl ?_
    exact FinX.keep hw L_h rfl ⟨rfl, rfl⟩
  rw [if_pos s_a3]
  refine BIf.no (by simp; omega) ?_
  have n_a2 := cnII_le a2
  have n_a3 := cnII_le a3
  have n_res := sumSp_cn a0 a1 a2 a3
  refine CallX.same (toII_c _ _ a2 (RII.le _ _ _ _ L_h q_a2) (by omega)) ?_
  rintro r h3 ⟨d_sa21, l_sa2, rfl, o_sa2, gg⟩
  have N_sa2_h := L_h.len
  have L_h := L_h.trans gg
  have L_h3 := Le.refl h3
  refine CallX.same (toII_c _ _ a3 (RII.le _ _ _ _ L_h q_a3) (by omega)) ?_
  rintro r h4 ⟨d_sa31, l_sa3, rfl, o_sa3, gg⟩
  have N_sa3_h := L_h.len
  have N_sa3_h3 := L_h3.len
  have L_h := L_h.trans gg
  have L_h3 := L_h3.trans gg
  have L_h4 := Le.refl h4
  refine CallX.canon (sumSpS_c _ a0 a1 _ a2 (RII.le _ _ _ _ L_h3 (OII.reads _ _ _ _ _ o_sa2)) _ a3 (RII.le _ _ _ _ L_h4 (OII.reads _ _ _ _ _ o_sa3))) ?_
  have N_w_h := L_h.len
  have N_w_h3 := L_h3.len
  have N_w_h4 := L_h4.len
  rintro r h5 ⟨v, l_w, rfl, o_w, gg⟩
  obtain ⟨c_w1, c_wo1, k_w1, o_w⟩ := Node.can o_w
  refine ⟨_, (Wk.tuple (.cons k_w1 (.cons (Wk.refl _) .nil))), ?_⟩
  have L_h := L_h.trans gg
  have L_h3 := L_h3.trans gg
  have L_h4 := L_h4.trans gg
  have L_h5 := Le.refl h5
  refine CallX.same (toII_c _ _ a2 (RII.le _ _ _ _ L_h q_a2) (by omega)) ?_
  rintro r h6 ⟨d_xa21, l_xa2, rfl, o_xa2, gg⟩
  have N_xa2_h := L_h.len
  have N_xa2_h3 := L_h3.len
  have N_xa2_h4 := L_h4.len
  have N_xa2_h5 := L_h5.len
  have L_h := L_h.trans gg
  have L_h3 := L_h3.trans gg
  have L_h4 := L_h4.trans gg
  have L_h5 := L_h5.trans gg
  have L_h6 := Le.refl h6
  refine CallX.same (toII_c _ _ a3 (RII.le _ _ _ _ L_h q_a3) (by omega)) ?_
  rintro r h7 ⟨d_xa31, l_xa3, rfl, o_xa3, gg⟩
  have N_xa3_h := L_h.len
  have N_xa3_h3 := L_h3.len
  have N_xa3_h4 := L_h4.len
  have N_xa3_h5 := L_h5.len
  have N_xa3_h6 := L_h6.len
  have L_h := L_h.trans gg
  have L_h3 := L_h3.trans gg
  have L_h4 := L_h4.trans gg
  have L_h5 := L_h5.trans gg
  have L_h6 := L_h6.trans gg
  have L_h7 := Le.refl h7
  refine CallX.canon (sumSpI_c _ a0 a1 _ a2 (RII.le _ _ _ _ L_h6 (OII.reads _ _ _ _ _ o_xa2)) _ a3 (RII.le _ _ _ _ L_h7 (OII.reads _ _ _ _ _ o_xa3))) ?_
  have N_g_h := L_h.len
  have N_g_h3 := L_h3.len
  have N_g_h4 := L_h4.len
  have N_g_h5 := L_h5.len
  have N_g_h6 := L_h6.len
  have N_g_h7 := L_h7.len
  rintro r h8 ⟨v, l_g, rfl, o_g, gg⟩
  obtain ⟨c_g1, c_go1, k_g1, o_g⟩ := Node.can o_g
  refine ⟨_, (Wk.tuple (.cons k_g1 (.cons (Wk.refl _) .nil))), ?_⟩
  have L_h := L_h.trans gg
  have L_h3 := L_h3.trans gg
  have L_h4 := L_h4.trans gg
  have L_h5 := L_h5.trans gg
  have L_h6 := L_h6.trans gg
  have L_h7 := L_h7.trans gg
  have L_h8 := Le.refl h8
  refine CallX.same (eqII_c _ _ _ ((sumSp a0 a1 a2 a3).1) ((sumSp a0 a1 a2 a3).1) (RII.le _ _ _ _ L_h8 (OII.reads _ _ _ _ _ o_g)) (RII.le _ _ _ _ L_h5 (OII.reads _ _ _ _ _ o_w))) ?_
  rintro r h9 ⟨rfl, rfl⟩
  refine BIf.no (by simp) ?_
  refine BIf.no (by simp) ?_
  refine CallX.same (toII_c _ _ a2 (RII.le _ _ _ _ L_h q_a2) (by omega)) ?_
  rintro r h10 ⟨d_ya21, l_ya2, rfl, o_ya2, gg⟩
  have N_ya2_h := L_h.len
  have N_ya2_h3 := L_h3.len
  have N_ya2_h4 := L_h4.len
  have N_ya2_h5 := L_h5.len
  have N_ya2_h6 := L_h6.len
  have N_ya2_h7 := L_h7.len
  have N_ya2_h8 := L_h8.len
  have L_h := L_h.trans gg
  have L_h3 := L_h3.trans gg
  have L_h4 := L_h4.trans gg
  have L_h5 := L_h5.trans gg
  have L_h6 := L_h6.trans gg
  have L_h7 := L_h7.trans gg
  have L_h8 := L_h8.trans gg
  have L_h10 := Le.refl h10
  refine CallX.same (eqII_c _ _ _ a2 a2 (RII.le _ _ _ _ L_h6 (OII.reads _ _ _ _ _ o_xa2)) (RII.le _ _ _ _ L_h10 (OII.reads _ _ _ _ _ o_ya2))) ?_
  rintro r h11 ⟨rfl, rfl⟩
  refine BIf.no (by simp) ?_
  refine CallX.same (toII_c _ _ a3 (RII.le _ _ _ _ L_h q_a3) (by omega)) ?_
  rintro r h12 ⟨d_ya31, l_ya3, rfl, o_ya3, gg⟩
  have N_ya3_h := L_h.len
  have N_ya3_h3 := L_h3.len
  have N_ya3_h4 := L_h4.len
  have N_ya3_h5 := L_h5.len
  have N_ya3_h6 := L_h6.len
  have N_ya3_h7 := L_h7.len
  have N_ya3_h8 := L_h8.len
  have N_ya3_h10 := L_h10.len
  have L_h := L_h.trans gg
  have L_h3 := L_h3.trans gg
  have L_h4 := L_h4.trans gg
  have L_h5 := L_h5.trans gg
  have L_h6 := L_h6.trans gg
  have L_h7 := L_h7.trans gg
  have L_h8 := L_h8.trans gg
  have L_h10 := L_h10.trans gg
  have L_h12 := Le.refl h12
  refine CallX.same (eqII_c _ _ _ a3 a3 (RII.le _ _ _ _ L_h7 (OII.reads _ _ _ _ _ o_xa3)) (RII.le _ _ _ _ L_h12 (OII.reads _ _ _ _ _ o_ya3))) ?_
  rintro r h13 ⟨rfl, rfl⟩
  refine BIf.no (by simp) ?_
  have dj_xa2_xa3 := OII.fr.dj o_xa2 OII.fr o_xa3 (by omega)
  have dj_xa2_g := OII.fr.dj o_xa2 OII.fr o_g (by omega)
  have dj_xa3_g := OII.fr.dj o_xa3 OII.fr o_g (by omega)
  have oc := (OII.fr.le o_xa2 L_h6)
  have ot := fun i hi => (OII.fr.leaf _ _ _ _ _ oc i hi).2
  have og := fun i hi => (OII.fr.leaf _ _ _ _ _ oc i hi).1
  have ol := OII.fr.lt o_xa2
  refine CallX.same (markII_c _ _ _ (a2) _ _ oc (by omega) (by omega)) ?_
  rintro r h14 ⟨rfl, mk, om⟩
  have o_xa3 := OII.fr.mark rfl mk (OII.fr.le o_xa3 L_h7) dj_xa2_xa3 ot
  have o_g := OII.fr.mark rfl mk (OII.fr.le o_g L_h8) dj_xa2_g ot
  have L_h := mk.le L_h (fun i hi => Nat.le_trans N_xa2_h (og i hi))
  have L_h3 := mk.le L_h3 (fun i hi => Nat.le_trans N_xa2_h3 (og i hi))
  have L_h4 := mk.le L_h4 (fun i hi => Nat.le_trans N_xa2_h4 (og i hi))
  have L_h5 := mk.le L_h5 (fun i hi => Nat.le_trans N_xa2_h5 (og i hi))
  have L_h14 := Le.refl h14
  have oc := (OII.fr.le o_xa3 L_h14)
  have ot := fun i hi => (OII.fr.leaf _ _ _ _ _ oc i hi).2
  have og := fun i hi => (OII.fr.leaf _ _ _ _ _ oc i hi).1
  have ol := OII.fr.lt o_xa3
  refine CallX.same (markII_c _ _ _ (a3) _ _ oc (by omega) (by omega)) ?_
  rintro r h15 ⟨rfl, mk, om⟩
  have o_g := OII.fr.mark rfl mk (OII.fr.le o_g L_h14) dj_xa3_g ot
  have L_h := mk.le L_h (fun i hi => Nat.le_trans N_xa3_h (og i hi))
  have L_h3 := mk.le L_h3 (fun i hi => Nat.le_trans N_xa3_h3 (og i hi))
  have L_h4 := mk.le L_h4 (fun i hi => Nat.le_trans N_xa3_h4 (og i hi))
  have L_h5 := mk.le L_h5 (fun i hi => Nat.le_trans N_xa3_h5 (og i hi))
  have L_h15 := Le.refl h15
  refine BIf.no (by simp; omega) ?_
  refine CallX.same (eqII_c _ _ _ ((sumSp a0 a1 a2 a3).1) ((sumSp a0 a1 a2 a3).1) (RII.le _ _ _ _ L_h15 (OII.reads _ _ _ _ _ o_g)) (RII.le _ _ _ _ L_h5 (OII.reads _ _ _ _ _ o_w))) ?_
  rintro r h16 ⟨rfl, rfl⟩
  refine BIf.no (by simp) ?_
  refine BIf.no (by simp) ?_
  have oc := (OII.fr.le o_g L_h15)
  have ot := fun i hi => (OII.fr.leaf _ _ _ _ _ oc i hi).2
  have og := fun i hi => (OII.fr.leaf _ _ _ _ _ oc i hi).1
  have ol := OII.fr.lt o_g
  refine CallX.same (markII_c _ _ _ ((sumSp a0 a1 a2 a3).1) _ _ oc (by omega) (by omega)) ?_
  rintro r h17 ⟨rfl, mk, om⟩
  have L_h := mk.le L_h (fun i hi => Nat.le_trans N_g_h (og i hi))
  have L_h3 := mk.le L_h3 (fun i hi => Nat.le_trans N_g_h3 (og i hi))
  have L_h4 := mk.le L_h4 (fun i hi => Nat.le_trans N_g_h4 (og i hi))
  have L_h5 := mk.le L_h5 (fun i hi => Nat.le_trans N_g_h5 (og i hi))
  have L_h17 := Le.refl h17
  have o_m := OII.reads _ _ _ _ _ om
  refine CallX.same (heldII_c _ _ ((sumSp a0 a1 a2 a3).1) _ (RII.le _ _ _ _ L_h17 o_m) (by omega) (by omega)) ?_
  rintro r h18 ⟨rfl, rfl⟩
  refine BIf.no (by simp; omega) ?_
  refine BIf.no (by simp) ?_
  refine CallX.same (toII_c _ _ a2 (RII.le _ _ _ _ L_h q_a2) (by omega)) ?_
  rintro r h19 ⟨d_ta21, l_ta2, rfl, o_ta2, gg⟩
  have N_ta2_h := L_h.len
  have N_ta2_h3 := L_h3.len
  have N_ta2_h4 := L_h4.len
  have N_ta2_h5 := L_h5.len
  have N_ta2_h17 := L_h17.len
  have L_h := L_h.trans gg
  have L_h3 := L_h3.trans gg
  have L_h4 := L_h4.trans gg
  have L_h5 := L_h5.trans gg
  have L_h17 := L_h17.trans gg
  have L_h19 := Le.refl h19
  refine CallX.same (toII_c _ _ a3 (RII.le _ _ _ _ L_h q_a3) (by omega)) ?_
  rintro r h20 ⟨d_ta31, l_ta3, rfl, o_ta3, gg⟩
  have N_ta3_h := L_h.len
  have N_ta3_h3 := L_h3.len
  have N_ta3_h4 := L_h4.len
  have N_ta3_h5 := L_h5.len
  have N_ta3_h17 := L_h17.len
  have N_ta3_h19 := L_h19.len
  have L_h := L_h.trans gg
  have L_h3 := L_h3.trans gg
  have L_h4 := L_h4.trans gg
  have L_h5 := L_h5.trans gg
  have L_h17 := L_h17.trans gg
  have L_h19 := L_h19.trans gg
  have L_h20 := Le.refl h20
  refine CallX.canon (sumSpI_c _ a0 a1 _ a2 (RII.le _ _ _ _ L_h19 (OII.reads _ _ _ _ _ o_ta2)) _ a3 (RII.le _ _ _ _ L_h20 (OII.reads _ _ _ _ _ o_ta3))) ?_
  have N_f_h := L_h.len
  have N_f_h3 := L_h3.len
  have N_f_h4 := L_h4.len
  have N_f_h5 := L_h5.len
  have N_f_h17 := L_h17.len
  have N_f_h19 := L_h19.len
  have N_f_h20 := L_h20.len
  rintro r h21 ⟨v, l_f, rfl, o_f, gg⟩
  obtain ⟨c_f1, c_fo1, k_f1, o_f⟩ := Node.can o_f
  refine ⟨_, (Wk.tuple (.cons k_f1 (.cons (Wk.refl _) .nil))), ?_⟩
  have L_h := L_h.trans gg
  have L_h3 := L_h3.trans gg
  have L_h4 := L_h4.trans gg
  have L_h5 := L_h5.trans gg
  have L_h17 := L_h17.trans gg
  have L_h19 := L_h19.trans gg
  have L_h20 := L_h20.trans gg
  have L_h21 := Le.refl h21
  refine CallX.same (eqII_c _ _ _ ((sumSp a0 a1 a2 a3).1) ((sumSp a0 a1 a2 a3).1) (RII.le _ _ _ _ L_h21 (OII.reads _ _ _ _ _ o_f)) (RII.le _ _ _ _ L_h5 (OII.reads _ _ _ _ _ o_w))) ?_
  rintro r h22 ⟨rfl, rfl⟩
  refine BIf.no (by simp) ?_
  refine BIf.no (by simp) ?_
  refine CallX.same (heldII_c _ _ ((sumSp a0 a1 a2 a3).1) _ (RII.le _ _ _ _ L_h17 o_m) (by omega) (by omega)) ?_
  rintro r h23 ⟨rfl, rfl⟩
  refine BIf.no (by simp; omega) ?_
  refine BIf.no (by simp) ?_
  exact FinX.keep hw L_h rfl ⟨rfl, rfl⟩


theorem FnExactMeetOfSpaces_law (h : AH) (a0 : Int) (a1 : Int) (v_a2 : Value) (a2 : List (List Int)) (r_a2 : RII h v_a2 a2) (v_a3 : Value) (a3 : List (List Int)) (r_a3 : RII h v_a3 a3) : ACalls Try.prog 11 [.int .i64 a0, .int .i64 a1, v_a2, v_a3] h (fun r h' => r = .bool true ∧ h' = h) := by
  obtain ⟨b_a21, b_a2o1, k_a2, q_a2⟩ := r_a2.can
  obtain ⟨b_a31, b_a3o1, k_a3, q_a3⟩ := r_a3.can
  refine ACalls.wk (args' := [.int .i64 a0, .int .i64 a1, .slice (some ⟨b_a21, b_a2o1, none⟩) a2.length 0, .slice (some ⟨b_a31, b_a3o1, none⟩) a3.length 0]) ?_ (.cons (Wk.refl _) (.cons (Wk.refl _) (.cons k_a2 (.cons k_a3 .nil))))
  refine ACalls.of Tt.tab Try.func11 rfl (by kernel_rfl) Try.ntmps11 _ rfl rfl (fun hw => ?_)
  have L_h := Le.refl h
  refine CallX.same (szII_c _ _ a2 _ (RII.le _ _ _ _ L_h q_a2) (by omega) (by omega)) ?_
  rintro r h1 ⟨rfl, rfl⟩
  by_cases s_a2 : (ctII a2 : Int) ≤ 1048576
  case neg =>
    rw [if_neg s_a2]
    refine BIf.yes rfl ?_
    exact FinX.keep hw L_h rfl ⟨rfl, rfl⟩
  rw [if_pos s_a2]
  refine BIf.no (by simp; omega) ?_
  refine CallX.same (szII_c _ _ a3 _ (RII.le _ _ _ _ L_h q_a3) (by omega) (by omega)) ?_
  rintro r h2 ⟨rfl, rfl⟩
  by_cases s_a3 : (ctII a3 : Int) ≤ 1048576 - ctII a2
  case neg =>
    rw [if_neg s_a3]
    refine BIf.yes rfl ?_
    exact FinX.keep hw L_h rfl ⟨rfl, rfl⟩
  rw [if_pos s_a3]
  refine BIf.no (by simp; omega) ?_
  have n_a2 := cnII_le a2
  have n_a3 := cnII_le a3
  have n_res := meetOf_cn a0 a1 a2 a3
  refine CallX.same (toII_c _ _ a2 (RII.le _ _ _ _ L_h q_a2) (by omega)) ?_
  rintro r h3 ⟨d_sa21, l_sa2, rfl, o_sa2, gg⟩
  have N_sa2_h := L_h.len
  have L_h := L_h.trans gg
  have L_h3 := Le.refl h3
  refine CallX.same (toII_c _ _ a3 (RII.le _ _ _ _ L_h q_a3) (by omega)) ?_
  rintro r h4 ⟨d_sa31, l_sa3, rfl, o_sa3, gg⟩
  have N_sa3_h := L_h.len
  have N_sa3_h3 := L_h3.len
  have L_h := L_h.trans gg
  have L_h3 := L_h3.trans gg
  have L_h4 := Le.refl h4
  refine CallX.canon (meetOfS_c _ a0 a1 _ a2 (RII.le _ _ _ _ L_h3 (OII.reads _ _ _ _ _ o_sa2)) _ a3 (RII.le _ _ _ _ L_h4 (OII.reads _ _ _ _ _ o_sa3))) ?_
  have N_w_h := L_h.len
  have N_w_h3 := L_h3.len
  have N_w_h4 := L_h4.len
  rintro r h5 ⟨v, l_w, rfl, o_w, gg⟩
  obtain ⟨c_w1, c_wo1, k_w1, o_w⟩ := Node.can o_w
  refine ⟨_, (Wk.tuple (.cons k_w1 (.cons (Wk.refl _) .nil))), ?_⟩
  have L_h := L_h.trans gg
  have L_h3 := L_h3.trans gg
  have L_h4 := L_h4.trans gg
  have L_h5 := Le.refl h5
  refine CallX.same (toII_c _ _ a2 (RII.le _ _ _ _ L_h q_a2) (by omega)) ?_
  rintro r h6 ⟨d_xa21, l_xa2, rfl, o_xa2, gg⟩
  have N_xa2_h := L_h.len
  have N_xa2_h3 := L_h3.len
  have N_xa2_h4 := L_h4.len
  have N_xa2_h5 := L_h5.len
  have L_h := L_h.trans gg
  have L_h3 := L_h3.trans gg
  have L_h4 := L_h4.trans gg
  have L_h5 := L_h5.trans gg
  have L_h6 := Le.refl h6
  refine CallX.same (toII_c _ _ a3 (RII.le _ _ _ _ L_h q_a3) (by omega)) ?_
  rintro r h7 ⟨d_xa31, l_xa3, rfl, o_xa3, gg⟩
  have N_xa3_h := L_h.len
  have N_xa3_h3 := L_h3.len
  have N_xa3_h4 := L_h4.len
  have N_xa3_h5 := L_h5.len
  have N_xa3_h6 := L_h6.len
  have L_h := L_h.trans gg
  have L_h3 := L_h3.trans gg
  have L_h4 := L_h4.trans gg
  have L_h5 := L_h5.trans gg
  have L_h6 := L_h6.trans gg
  have L_h7 := Le.refl h7
  refine CallX.canon (meetOfI_c _ a0 a1 _ a2 (RII.le _ _ _ _ L_h6 (OII.reads _ _ _ _ _ o_xa2)) _ a3 (RII.le _ _ _ _ L_h7 (OII.reads _ _ _ _ _ o_xa3))) ?_
  have N_g_h := L_h.len
  have N_g_h3 := L_h3.len
  have N_g_h4 := L_h4.len
  have N_g_h5 := L_h5.len
  have N_g_h6 := L_h6.len
  have N_g_h7 := L_h7.len
  rintro r h8 ⟨v, l_g, rfl, o_g, gg⟩
  obtain ⟨c_g1, c_go1, k_g1, o_g⟩ := Node.can o_g
  refine ⟨_, (Wk.tuple (.cons k_g1 (.cons (Wk.refl _) .nil))), ?_⟩
  have L_h := L_h.trans gg
  have L_h3 := L_h3.trans gg
  have L_h4 := L_h4.trans gg
  have L_h5 := L_h5.trans gg
  have L_h6 := L_h6.trans gg
  have L_h7 := L_h7.trans gg
  have L_h8 := Le.refl h8
  refine CallX.same (eqII_c _ _ _ ((meetOf a0 a1 a2 a3).1) ((meetOf a0 a1 a2 a3).1) (RII.le _ _ _ _ L_h8 (OII.reads _ _ _ _ _ o_g)) (RII.le _ _ _ _ L_h5 (OII.reads _ _ _ _ _ o_w))) ?_
  rintro r h9 ⟨rfl, rfl⟩
  refine BIf.no (by simp) ?_
  refine BIf.no (by simp) ?_
  refine CallX.same (toII_c _ _ a2 (RII.le _ _ _ _ L_h q_a2) (by omega)) ?_
  rintro r h10 ⟨d_ya21, l_ya2, rfl, o_ya2, gg⟩
  have N_ya2_h := L_h.len
  have N_ya2_h3 := L_h3.len
  have N_ya2_h4 := L_h4.len
  have N_ya2_h5 := L_h5.len
  have N_ya2_h6 := L_h6.len
  have N_ya2_h7 := L_h7.len
  have N_ya2_h8 := L_h8.len
  have L_h := L_h.trans gg
  have L_h3 := L_h3.trans gg
  have L_h4 := L_h4.trans gg
  have L_h5 := L_h5.trans gg
  have L_h6 := L_h6.trans gg
  have L_h7 := L_h7.trans gg
  have L_h8 := L_h8.trans gg
  have L_h10 := Le.refl h10
  refine CallX.same (eqII_c _ _ _ a2 a2 (RII.le _ _ _ _ L_h6 (OII.reads _ _ _ _ _ o_xa2)) (RII.le _ _ _ _ L_h10 (OII.reads _ _ _ _ _ o_ya2))) ?_
  rintro r h11 ⟨rfl, rfl⟩
  refine BIf.no (by simp) ?_
  refine CallX.same (toII_c _ _ a3 (RII.le _ _ _ _ L_h q_a3) (by omega)) ?_
  rintro r h12 ⟨d_ya31, l_ya3, rfl, o_ya3, gg⟩
  have N_ya3_h := L_h.len
  have N_ya3_h3 := L_h3.len
  have N_ya3_h4 := L_h4.len
  have N_ya3_h5 := L_h5.len
  have N_ya3_h6 := L_h6.len
  have N_ya3_h7 := L_h7.len
  have N_ya3_h8 := L_h8.len
  have N_ya3_h10 := L_h10.len
  have L_h := L_h.trans gg
  have L_h3 := L_h3.trans gg
  have L_h4 := L_h4.trans gg
  have L_h5 := L_h5.trans gg
  have L_h6 := L_h6.trans gg
  have L_h7 := L_h7.trans gg
  have L_h8 := L_h8.trans gg
  have L_h10 := L_h10.trans gg
  have L_h12 := Le.refl h12
  refine CallX.same (eqII_c _ _ _ a3 a3 (RII.le _ _ _ _ L_h7 (OII.reads _ _ _ _ _ o_xa3)) (RII.le _ _ _ _ L_h12 (OII.reads _ _ _ _ _ o_ya3))) ?_
  rintro r h13 ⟨rfl, rfl⟩
  refine BIf.no (by simp) ?_
  have dj_xa2_xa3 := OII.fr.dj o_xa2 OII.fr o_xa3 (by omega)
  have dj_xa2_g := OII.fr.dj o_xa2 OII.fr o_g (by omega)
  have dj_xa3_g := OII.fr.dj o_xa3 OII.fr o_g (by omega)
  have oc := (OII.fr.le o_xa2 L_h6)
  have ot := fun i hi => (OII.fr.leaf _ _ _ _ _ oc i hi).2
  have og := fun i hi => (OII.fr.leaf _ _ _ _ _ oc i hi).1
  have ol := OII.fr.lt o_xa2
  refine CallX.same (markII_c _ _ _ (a2) _ _ oc (by omega) (by omega)) ?_
  rintro r h14 ⟨rfl, mk, om⟩
  have o_xa3 := OII.fr.mark rfl mk (OII.fr.le o_xa3 L_h7) dj_xa2_xa3 ot
  have o_g := OII.fr.mark rfl mk (OII.fr.le o_g L_h8) dj_xa2_g ot
  have L_h := mk.le L_h (fun i hi => Nat.le_trans N_xa2_h (og i hi))
  have L_h3 := mk.le L_h3 (fun i hi => Nat.le_trans N_xa2_h3 (og i hi))
  have L_h4 := mk.le L_h4 (fun i hi => Nat.le_trans N_xa2_h4 (og i hi))
  have L_h5 := mk.le L_h5 (fun i hi => Nat.le_trans N_xa2_h5 (og i hi))
  have L_h14 := Le.refl h14
  have oc := (OII.fr.le o_xa3 L_h14)
  have ot := fun i hi => (OII.fr.leaf _ _ _ _ _ oc i hi).2
  have og := fun i hi => (OII.fr.leaf _ _ _ _ _ oc i hi).1
  have ol := OII.fr.lt o_xa3
  refine CallX.same (markII_c _ _ _ (a3) _ _ oc (by omega) (by omega)) ?_
  rintro r h15 ⟨rfl, mk, om⟩
  have o_g := OII.fr.mark rfl mk (OII.fr.le o_g L_h14) dj_xa3_g ot
  have L_h := mk.le L_h (fun i hi => Nat.le_trans N_xa3_h (og i hi))
  have L_h3 := mk.le L_h3 (fun i hi => Nat.le_trans N_xa3_h3 (og i hi))
  have L_h4 := mk.le L_h4 (fun i hi => Nat.le_trans N_xa3_h4 (og i hi))
  have L_h5 := mk.le L_h5 (fun i hi => Nat.le_trans N_xa3_h5 (og i hi))
  have L_h15 := Le.refl h15
  refine BIf.no (by simp; omega) ?_
  refine CallX.same (eqII_c _ _ _ ((meetOf a0 a1 a2 a3).1) ((meetOf a0 a1 a2 a3).1) (RII.le _ _ _ _ L_h15 (OII.reads _ _ _ _ _ o_g)) (RII.le _ _ _ _ L_h5 (OII.reads _ _ _ _ _ o_w))) ?_
  rintro r h16 ⟨rfl, rfl⟩
  refine BIf.no (by simp) ?_
  refine BIf.no (by simp) ?_
  have oc := (OII.fr.le o_g L_h15)
  have ot := fun i hi => (OII.fr.leaf _ _ _ _ _ oc i hi).2
  have og := fun i hi => (OII.fr.leaf _ _ _ _ _ oc i hi).1
  have ol := OII.fr.lt o_g
  refine CallX.same (markII_c _ _ _ ((meetOf a0 a1 a2 a3).1) _ _ oc (by omega) (by omega)) ?_
  rintro r h17 ⟨rfl, mk, om⟩
  have L_h := mk.le L_h (fun i hi => Nat.le_trans N_g_h (og i hi))
  have L_h3 := mk.le L_h3 (fun i hi => Nat.le_trans N_g_h3 (og i hi))
  have L_h4 := mk.le L_h4 (fun i hi => Nat.le_trans N_g_h4 (og i hi))
  have L_h5 := mk.le L_h5 (fun i hi => Nat.le_trans N_g_h5 (og i hi))
  have L_h17 := Le.refl h17
  have o_m := OII.reads _ _ _ _ _ om
  refine CallX.same (heldII_c _ _ ((meetOf a0 a1 a2 a3).1) _ (RII.le _ _ _ _ L_h17 o_m) (by omega) (by omega)) ?_
  rintro r h18 ⟨rfl, rfl⟩
  refine BIf.no (by simp; omega) ?_
  refine BIf.no (by simp) ?_
  refine CallX.same (toII_c _ _ a2 (RII.le _ _ _ _ L_h q_a2) (by omega)) ?_
  rintro r h19 ⟨d_ta21, l_ta2, rfl, o_ta2, gg⟩
  have N_ta2_h := L_h.len
  have N_ta2_h3 := L_h3.len
  have N_ta2_h4 := L_h4.len
  have N_ta2_h5 := L_h5.len
  have N_ta2_h17 := L_h17.len
  have L_h := L_h.trans gg
  have L_h3 := L_h3.trans gg
  have L_h4 := L_h4.trans gg
  have L_h5 := L_h5.trans gg
  have L_h17 := L_h17.trans gg
  have L_h19 := Le.refl h19
  refine CallX.same (toII_c _ _ a3 (RII.le _ _ _ _ L_h q_a3) (by omega)) ?_
  rintro r h20 ⟨d_ta31, l_ta3, rfl, o_ta3, gg⟩
  have N_ta3_h := L_h.len
  have N_ta3_h3 := L_h3.len
  have N_ta3_h4 := L_h4.len
  have N_ta3_h5 := L_h5.len
  have N_ta3_h17 := L_h17.len
  have N_ta3_h19 := L_h19.len
  have L_h := L_h.trans gg
  have L_h3 := L_h3.trans gg
  have L_h4 := L_h4.trans gg
  have L_h5 := L_h5.trans gg
  have L_h17 := L_h17.trans gg
  have L_h19 := L_h19.trans gg
  have L_h20 := Le.refl h20
  refine CallX.canon (meetOfI_c _ a0 a1 _ a2 (RII.le _ _ _ _ L_h19 (OII.reads _ _ _ _ _ o_ta2)) _ a3 (RII.le _ _ _ _ L_h20 (OII.reads _ _ _ _ _ o_ta3))) ?_
  have N_f_h := L_h.len
  have N_f_h3 := L_h3.len
  have N_f_h4 := L_h4.len
  have N_f_h5 := L_h5.len
  have N_f_h17 := L_h17.len
  have N_f_h19 := L_h19.len
  have N_f_h20 := L_h20.len
  rintro r h21 ⟨v, l_f, rfl, o_f, gg⟩
  obtain ⟨c_f1, c_fo1, k_f1, o_f⟩ := Node.can o_f
  refine ⟨_, (Wk.tuple (.cons k_f1 (.cons (Wk.refl _) .nil))), ?_⟩
  have L_h := L_h.trans gg
  have L_h3 := L_h3.trans gg
  have L_h4 := L_h4.trans gg
  have L_h5 := L_h5.trans gg
  have L_h17 := L_h17.trans gg
  have L_h19 := L_h19.trans gg
  have L_h20 := L_h20.trans gg
  have L_h21 := Le.refl h21
  refine CallX.same (eqII_c _ _ _ ((meetOf a0 a1 a2 a3).1) ((meetOf a0 a1 a2 a3).1) (RII.le _ _ _ _ L_h21 (OII.reads _ _ _ _ _ o_f)) (RII.le _ _ _ _ L_h5 (OII.reads _ _ _ _ _ o_w))) ?_
  rintro r h22 ⟨rfl, rfl⟩
  refine BIf.no (by simp) ?_
  refine BIf.no (by simp) ?_
  refine CallX.same (heldII_c _ _ ((meetOf a0 a1 a2 a3).1) _ (RII.le _ _ _ _ L_h17 o_m) (by omega) (by omega)) ?_
  rintro r h23 ⟨rfl, rfl⟩
  refine BIf.no (by simp; omega) ?_
  refine BIf.no (by simp) ?_
  exact FinX.keep hw L_h rfl ⟨rfl, rfl⟩


end Go.Gl

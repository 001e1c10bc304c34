/- Laws, walked: written by mk_law.py. No condition. -/
import Derived.Test.YtmphljkecbeplaaFnD6
set_option linter.unusedVariables false
set_option linter.unusedSimpArgs false
namespace Go.Gl
open Go.Proofs Go.Proofs.Ytmphljkecbeplaa


theorem FnExactSmithNumbers_law (h : AH) (v_a0 : Value) (a0 : List (List Int)) (r_a0 : RII h v_a0 a0) : ACalls Try.prog 5 [v_a0] h (fun r h' => r = .bool true ∧ h' = h) := by
  obtain ⟨b_a01, b_a0o1, k_a0, q_a0⟩ := r_a0.can
  refine ACalls.wk (args' := [.slice (some ⟨b_a01, b_a0o1, none⟩) a0.length 0]) ?_ (.cons k_a0 .nil)
  refine ACalls.of Tt.tab Try.func5 rfl (by kernel_rfl) Try.ntmps5 _ rfl rfl (fun hw => ?_)
  have L_h := Le.refl h
  refine CallX.same (szII_c _ _ a0 _ (RII.le _ _ _ _ L_h q_a0) (by omega) (by omega)) ?_
  rintro r h1 ⟨rfl, rfl⟩
  by_cases s_a0 : (ctII a0 : Int) ≤ 1048576
  case neg =>
    rw [if_neg s_a0]
    refine BIf.yes rfl ?_
    exact FinX.keep hw L_h rfl ⟨rfl, rfl⟩
  rw [if_pos s_a0]
  refine BIf.no (by simp; omega) ?_
  have n_a0 := cnII_le a0
  have n_res := smithNum_cn a0
  refine CallX.same (toII_c _ _ a0 (RII.le _ _ _ _ L_h q_a0) (by omega)) ?_
  rintro r h2 ⟨d_sa01, l_sa0, rfl, o_sa0, gg⟩
  have N_sa0_h := L_h.len
  have L_h := L_h.trans gg
  have L_h2 := Le.refl h2
  refine CallX.canon (smithNumS_c _ _ a0 (RII.le _ _ _ _ L_h2 (OII.reads _ _ _ _ _ o_sa0))) ?_
  have N_w_h := L_h.len
  have N_w_h2 := L_h2.len
  rintro r h3 ⟨v, l_w, rfl, o_w, gg⟩
  obtain ⟨c_w1, c_wo1, k_w1, o_w⟩ := Leaf.can o_w
  refine ⟨_, (Wk.tuple (.cons k_w1 (.cons (Wk.refl _) .nil))), ?_⟩
  have L_h := L_h.trans gg
  have L_h2 := L_h2.trans gg
  have L_h3 := Le.refl h3
  refine CallX.same (toII_c _ _ a0 (RII.le _ _ _ _ L_h q_a0) (by omega)) ?_
  rintro r h4 ⟨d_xa01, l_xa0, rfl, o_xa0, gg⟩
  have N_xa0_h := L_h.len
  have N_xa0_h2 := L_h2.len
  have N_xa0_h3 := L_h3.len
  have L_h := L_h.trans gg
  have L_h2 := L_h2.trans gg
  have L_h3 := L_h3.trans gg
  have L_h4 := Le.refl h4
  refine CallX.canon (smithNumI_c _ _ a0 (RII.le _ _ _ _ L_h4 (OII.reads _ _ _ _ _ o_xa0))) ?_
  have N_g_h := L_h.len
  have N_g_h2 := L_h2.len
  have N_g_h3 := L_h3.len
  have N_g_h4 := L_h4.len
  rintro r h5 ⟨v, l_g, rfl, o_g, gg⟩
  obtain ⟨c_g1, c_go1, k_g1, o_g⟩ := Leaf.can o_g
  refine ⟨_, (Wk.tuple (.cons k_g1 (.cons (Wk.refl _) .nil))), ?_⟩
  have L_h := L_h.trans gg
  have L_h2 := L_h2.trans gg
  have L_h3 := L_h3.trans gg
  have L_h4 := L_h4.trans gg
  have L_h5 := Le.refl h5
  refine CallX.same (eqI_c _ _ _ ((smithNum a0).1) ((smithNum a0).1) (RI.le _ _ _ _ L_h5 (OI.reads _ _ _ _ _ o_g)) (RI.le _ _ _ _ L_h3 (OI.reads _ _ _ _ _ o_w))) ?_
  rintro r h6 ⟨rfl, rfl⟩
  refine BIf.no (by simp) ?_
  refine BIf.no (by simp) ?_
  refine CallX.same (toII_c _ _ a0 (RII.le _ _ _ _ L_h q_a0) (by omega)) ?_
  rintro r h7 ⟨d_ya01, l_ya0, rfl, o_ya0, gg⟩
  have N_ya0_h := L_h.len
  have N_ya0_h2 := L_h2.len
  have N_ya0_h3 := L_h3.len
  have N_ya0_h4 := L_h4.len
  have N_ya0_h5 := L_h5.len
  have L_h := L_h.trans gg
  have L_h2 := L_h2.trans gg
  have L_h3 := L_h3.trans gg
  have L_h4 := L_h4.trans gg
  have L_h5 := L_h5.trans gg
  have L_h7 := Le.refl h7
  refine CallX.same (eqII_c _ _ _ a0 a0 (RII.le _ _ _ _ L_h4 (OII.reads _ _ _ _ _ o_xa0)) (RII.le _ _ _ _ L_h7 (OII.reads _ _ _ _ _ o_ya0))) ?_
  rintro r h8 ⟨rfl, rfl⟩
  refine BIf.no (by simp) ?_
  have lt_xa0 := OII.fr.lt o_xa0
  have lt_g := OI.fr.lt o_g
  have dj_xa0_g := OII.fr.dj o_xa0 OI.fr o_g (by omega)
  have oc := (OII.fr.le o_xa0 L_h4)
  have ot := fun i hi => (OII.fr.leaf _ _ _ _ _ oc i hi).2
  have og := fun i hi => (OII.fr.leaf _ _ _ _ _ oc i hi).1
  have ol := lt_xa0
  refine CallX.same (markII_c _ _ _ (a0) _ _ oc (by omega) (by omega)) ?_
  rintro r h9 ⟨rfl, mk, om⟩
  have o_g := OI.fr.mark rfl mk (OI.fr.le o_g L_h5) dj_xa0_g ot
  have L_h := mk.le L_h (fun i hi => Nat.le_trans N_xa0_h (og i hi))
  have L_h2 := mk.le L_h2 (fun i hi => Nat.le_trans N_xa0_h2 (og i hi))
  have L_h3 := mk.le L_h3 (fun i hi => Nat.le_trans N_xa0_h3 (og i hi))
  have L_h9 := Le.refl h9
  refine BIf.no (by simp; omega) ?_
  refine CallX.same (eqI_c _ _ _ ((smithNum a0).1) ((smithNum a0).1) (RI.le _ _ _ _ L_h9 (OI.reads _ _ _ _ _ o_g)) (RI.le _ _ _ _ L_h3 (OI.reads _ _ _ _ _ o_w))) ?_
  rintro r h10 ⟨rfl, rfl⟩
  refine BIf.no (by simp) ?_
  refine BIf.no (by simp) ?_
  have oc := (OI.fr.le o_g L_h9)
  have ot := fun i hi => (OI.fr.leaf _ _ _ _ _ oc i hi).2
  have og := fun i hi => (OI.fr.leaf _ _ _ _ _ oc i hi).1
  have ol := lt_g
  refine CallX.same (markI_c _ _ _ ((smithNum a0).1) _ _ oc (by omega) (by omega)) ?_
  rintro r h11 ⟨rfl, mk, om⟩
  have L_h := mk.le L_h (fun i hi => Nat.le_trans N_g_h (og i hi))
  have L_h2 := mk.le L_h2 (fun i hi => Nat.le_trans N_g_h2 (og i hi))
  have L_h3 := mk.le L_h3 (fun i hi => Nat.le_trans N_g_h3 (og i hi))
  have L_h11 := Le.refl h11
  have o_m := OI.reads _ _ _ _ _ om
  refine CallX.same (heldI_c _ _ ((smithNum a0).1) _ (RI.le _ _ _ _ L_h11 o_m) (by omega) (by omega)) ?_
  rintro r h12 ⟨rfl, rfl⟩
  refine BIf.no (by simp; omega) ?_
  refine BIf.no (by simp) ?_
  refine CallX.same (toII_c _ _ a0 (RII.le _ _ _ _ L_h q_a0) (by omega)) ?_
  rintro r h13 ⟨d_ta01, l_ta0, rfl, o_ta0, gg⟩
  have N_ta0_h := L_h.len
  have N_ta0_h2 := L_h2.len
  have N_ta0_h3 := L_h3.len
  have N_ta0_h11 := L_h11.len
  have L_h := L_h.trans gg
  have L_h2 := L_h2.trans gg
  have L_h3 := L_h3.trans gg
  have L_h11 := L_h11.trans gg
  have L_h13 := Le.refl h13
  refine CallX.canon (smithNumI_c _ _ a0 (RII.le _ _ _ _ L_h13 (OII.reads _ _ _ _ _ o_ta0))) ?_
  have N_f_h := L_h.len
  have N_f_h2 := L_h2.len
  have N_f_h3 := L_h3.len
  have N_f_h11 := L_h11.len
  have N_f_h13 := L_h13.len
  rintro r h14 ⟨v, l_f, rfl, o_f, gg⟩
  obtain ⟨c_f1, c_fo1, k_f1, o_f⟩ := Leaf.can o_f
  refine ⟨_, (Wk.tuple (.cons k_f1 (.cons (Wk.refl _) .nil))), ?_⟩
  have L_h := L_h.trans gg
  have L_h2 := L_h2.trans gg
  have L_h3 := L_h3.trans gg
  have L_h11 := L_h11.trans gg
  have L_h13 := L_h13.trans gg
  have L_h14 := Le.refl h14
  refine CallX.same (eqI_c _ _ _ ((smithNum a0).1) ((smithNum a0).1) (RI.le _ _ _ _ L_h14 (OI.reads _ _ _ _ _ o_f)) (RI.le _ _ _ _ L_h3 (OI.reads _ _ _ _ _ o_w))) ?_
  rintro r h15 ⟨rfl, rfl⟩
  refine BIf.no (by simp) ?_
  refine BIf.no (by simp) ?_
  refine CallX.same (heldI_c _ _ ((smithNum a0).1) _ (RI.le _ _ _ _ L_h11 o_m) (by omega) (by omega)) ?_
  rintro r h16 ⟨rfl, rfl⟩
  refine BIf.no (by simp; omega) ?_
  refine BIf.no (by simp) ?_
  exact FinX.keep hw L_h rfl ⟨rfl, rfl⟩


end Go.Gl

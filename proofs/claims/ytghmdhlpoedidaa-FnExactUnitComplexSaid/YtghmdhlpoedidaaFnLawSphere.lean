/- Laws, walked: written by mk_law.py. No condition. -/
import Derived.Test.YtghmdhlpoedidaaFn6b
set_option linter.unusedVariables false
set_option linter.unusedSimpArgs false
namespace Go.Gl
open Go.Proofs Go.Proofs.Ytghmdhlpoedidaa


theorem FnExactSphereComplex_law (h : AH) (a0 : Int) (a1 : Int) : ACalls Try.prog 10 [.int .i64 a0, .int .i64 a1] h (fun r h' => r = .bool true ∧ h' = h) := by
  refine ACalls.of Tt.tab Try.func10 rfl (by kernel_rfl) Try.ntmps10 _ rfl rfl (fun hw => ?_)
  have L_h := Le.refl h
  have n_res := sphere_cn a0 a1
  refine CallX.canon (sphereS_c _ a0 a1) ?_
  have N_w_h := L_h.len
  rintro r h1 ⟨v, l_w, rfl, ⟨u_w1, u_w2, rfl, o_w⟩, gg⟩
  obtain ⟨c_w1, c_wo1, c_w2, c_wo2, k_w1, k_w2, o_w⟩ := o_w.can
  refine ⟨_, (Wk.tuple (.cons (Wk.agg (.cons (Wk.refl _) (.cons k_w1 (.cons k_w2 .nil)))) (.cons (Wk.refl _) .nil))), ?_⟩
  have L_h := L_h.trans gg
  have L_h1 := Le.refl h1
  have B_w_h := L_h.len
  have B_w_h1 := L_h1.len
  refine NewX.intro fun p_w h2 gg z_w m_w => ?_
  have L_h := L_h.trans gg
  have L_h1 := L_h1.trans gg
  refine StoreX.intro z_w rfl (show (0 + 3 : Nat) ≤ 3 by decide) fun h3 ee (e_w : look h3 p_w = some ⟨[.int .i64 (sphere a0 a1).1.prime, .slice (some ⟨c_w1, c_wo1, none⟩) (sphere a0 a1).1.dims.length 0, .slice (some ⟨c_w2, c_wo2, none⟩) (sphere a0 a1).1.maps.length 0], some (73, 3)⟩) ao gl => ?_
  have L_h := gl _ L_h (Nat.le_trans B_w_h m_w)
  have L_h1 := gl _ L_h1 (Nat.le_trans B_w_h1 m_w)
  have L_h3 := Le.refl h3
  refine CallX.canon (sphereI_c _ a0 a1) ?_
  have N_g_h := L_h.len
  have N_g_h1 := L_h1.len
  have N_g_h3 := L_h3.len
  rintro r h4 ⟨v, l_g, rfl, ⟨u_g1, u_g2, rfl, o_g⟩, gg⟩
  obtain ⟨c_g1, c_go1, c_g2, c_go2, k_g1, k_g2, o_g⟩ := o_g.can
  refine ⟨_, (Wk.tuple (.cons (Wk.agg (.cons (Wk.refl _) (.cons k_g1 (.cons k_g2 .nil)))) (.cons (Wk.refl _) .nil))), ?_⟩
  have L_h := L_h.trans gg
  have L_h1 := L_h1.trans gg
  have L_h3 := L_h3.trans gg
  have L_h4 := Le.refl h4
  have B_g_h := L_h.len
  have B_g_h1 := L_h1.len
  have B_g_h3 := L_h3.len
  have B_g_h4 := L_h4.len
  refine NewX.intro fun p_g h5 gg z_g m_g => ?_
  have L_h := L_h.trans gg
  have L_h1 := L_h1.trans gg
  have L_h3 := L_h3.trans gg
  have L_h4 := L_h4.trans gg
  refine StoreX.intro z_g rfl (show (0 + 3 : Nat) ≤ 3 by decide) fun h6 ee (e_g : look h6 p_g = some ⟨[.int .i64 (sphere a0 a1).1.prime, .slice (some ⟨c_g1, c_go1, none⟩) (sphere a0 a1).1.dims.length 0, .slice (some ⟨c_g2, c_go2, none⟩) (sphere a0 a1).1.maps.length 0], some (73, 3)⟩) ao gl => ?_
  have L_h := gl _ L_h (Nat.le_trans B_g_h m_g)
  have L_h1 := gl _ L_h1 (Nat.le_trans B_g_h1 m_g)
  have L_h3 := gl _ L_h3 (Nat.le_trans B_g_h3 m_g)
  have L_h4 := gl _ L_h4 (Nat.le_trans B_g_h4 m_g)
  have L_h6 := Le.refl h6
  refine LoadX.same (v := .agg #[.int .i64 (sphere a0 a1).1.prime, .slice (some ⟨c_g1, c_go1, none⟩) (sphere a0 a1).1.dims.length 0, .slice (some ⟨c_g2, c_go2, none⟩) (sphere a0 a1).1.maps.length 0]) (L_h6.at_ _ _ e_g) rfl ?_
  refine LoadX.same (v := .agg #[.int .i64 (sphere a0 a1).1.prime, .slice (some ⟨c_w1, c_wo1, none⟩) (sphere a0 a1).1.dims.length 0, .slice (some ⟨c_w2, c_wo2, none⟩) (sphere a0 a1).1.maps.length 0]) (L_h3.at_ _ _ e_w) rfl ?_
  refine CallX.same (eqComplex_c _ _ _ ((sphere a0 a1).1) ((sphere a0 a1).1) ⟨_, _, rfl, o_g.reads.le L_h4⟩ ⟨_, _, rfl, o_w.reads.le L_h1⟩) ?_
  rintro r h7 ⟨rfl, rfl⟩
  refine BIf.no (by simp) ?_
  refine BIf.no (by simp) ?_
  refine LoadX.same (v := .agg #[.int .i64 (sphere a0 a1).1.prime, .slice (some ⟨c_g1, c_go1, none⟩) (sphere a0 a1).1.dims.length 0, .slice (some ⟨c_g2, c_go2, none⟩) (sphere a0 a1).1.maps.length 0]) (L_h6.at_ _ _ e_g) rfl ?_
  have oc := (OComplex.fr.le (show OComplex _ h4 (.agg #[.int .i64 (sphere a0 a1).1.prime, .slice (some ⟨c_g1, c_go1, none⟩) (sphere a0 a1).1.dims.length 0, .slice (some ⟨c_g2, c_go2, none⟩) (sphere a0 a1).1.maps.length 0]) ((sphere a0 a1).1) l_g from ⟨_, _, rfl, o_g⟩) L_h4)
  have ot := fun i hi => (OComplex.fr.leaf _ _ _ _ _ oc i hi).2
  have og := fun i hi => (OComplex.fr.leaf _ _ _ _ _ oc i hi).1
  have ol := OComplex.fr.lt (show OComplex _ h4 (.agg #[.int .i64 (sphere a0 a1).1.prime, .slice (some ⟨c_g1, c_go1, none⟩) (sphere a0 a1).1.dims.length 0, .slice (some ⟨c_g2, c_go2, none⟩) (sphere a0 a1).1.maps.length 0]) ((sphere a0 a1).1) l_g from ⟨_, _, rfl, o_g⟩)
  refine CallX.same (markComplex_c _ _ _ ((sphere a0 a1).1) _ _ oc (by omega) (by omega)) ?_
  rintro r h8 ⟨rfl, mk, om⟩
  have e_g := mk.stay (L_h6.at_ _ _ e_g) (fun i hi => Nat.lt_of_lt_of_le (ol i hi) (by omega))
  have L_h := mk.le L_h (fun i hi => Nat.le_trans N_g_h (og i hi))
  have L_h1 := mk.le L_h1 (fun i hi => Nat.le_trans N_g_h1 (og i hi))
  have L_h3 := mk.le L_h3 (fun i hi => Nat.le_trans N_g_h3 (og i hi))
  have L_h8 := Le.refl h8
  have o_m := OComplex.reads _ _ _ _ _ om
  refine LoadX.same (v := .agg #[.int .i64 (sphere a0 a1).1.prime, .slice (some ⟨c_g1, c_go1, none⟩) (sphere a0 a1).1.dims.length 0, .slice (some ⟨c_g2, c_go2, none⟩) (sphere a0 a1).1.maps.length 0]) (L_h8.at_ _ _ e_g) rfl ?_
  refine CallX.same (heldComplex_c _ _ ((sphere a0 a1).1) _ (RComplex.le _ _ _ _ L_h8 o_m) (by omega) (by omega)) ?_
  rintro r h9 ⟨rfl, rfl⟩
  refine BIf.no (by simp; omega) ?_
  refine BIf.no (by simp) ?_
  refine CallX.canon (sphereI_c _ a0 a1) ?_
  have N_f_h := L_h.len
  have N_f_h1 := L_h1.len
  have N_f_h3 := L_h3.len
  have N_f_h8 := L_h8.len
  rintro r h10 ⟨v, l_f, rfl, ⟨u_f1, u_f2, rfl, o_f⟩, gg⟩
  obtain ⟨c_f1, c_fo1, c_f2, c_fo2, k_f1, k_f2, o_f⟩ := o_f.can
  refine ⟨_, (Wk.tuple (.cons (Wk.agg (.cons (Wk.refl _) (.cons k_f1 (.cons k_f2 .nil)))) (.cons (Wk.refl _) .nil))), ?_⟩
  have L_h := L_h.trans gg
  have L_h1 := L_h1.trans gg
  have L_h3 := L_h3.trans gg
  have L_h8 := L_h8.trans gg
  have L_h10 := Le.refl h10
  have B_f_h := L_h.len
  have B_f_h1 := L_h1.len
  have B_f_h3 := L_h3.len
  have B_f_h8 := L_h8.len
  have B_f_h10 := L_h10.len
  refine NewX.intro fun p_f h11 gg z_f m_f => ?_
  have L_h := L_h.trans gg
  have L_h1 := L_h1.trans gg
  have L_h3 := L_h3.trans gg
  have L_h8 := L_h8.trans gg
  have L_h10 := L_h10.trans gg
  refine StoreX.intro z_f rfl (show (0 + 3 : Nat) ≤ 3 by decide) fun h12 ee (e_f : look h12 p_f = some ⟨[.int .i64 (sphere a0 a1).1.prime, .slice (some ⟨c_f1, c_fo1, none⟩) (sphere a0 a1).1.dims.length 0, .slice (some ⟨c_f2, c_fo2, none⟩) (sphere a0 a1).1.maps.length 0], some (73, 3)⟩) ao gl => ?_
  have L_h := gl _ L_h (Nat.le_trans B_f_h m_f)
  have L_h1 := gl _ L_h1 (Nat.le_trans B_f_h1 m_f)
  have L_h3 := gl _ L_h3 (Nat.le_trans B_f_h3 m_f)
  have L_h8 := gl _ L_h8 (Nat.le_trans B_f_h8 m_f)
  have L_h10 := gl _ L_h10 (Nat.le_trans B_f_h10 m_f)
  have L_h12 := Le.refl h12
  refine LoadX.same (v := .agg #[.int .i64 (sphere a0 a1).1.prime, .slice (some ⟨c_f1, c_fo1, none⟩) (sphere a0 a1).1.dims.length 0, .slice (some ⟨c_f2, c_fo2, none⟩) (sphere a0 a1).1.maps.length 0]) (L_h12.at_ _ _ e_f) rfl ?_
  refine LoadX.same (v := .agg #[.int .i64 (sphere a0 a1).1.prime, .slice (some ⟨c_w1, c_wo1, none⟩) (sphere a0 a1).1.dims.length 0, .slice (some ⟨c_w2, c_wo2, none⟩) (sphere a0 a1).1.maps.length 0]) (L_h3.at_ _ _ e_w) rfl ?_
  refine CallX.same (eqComplex_c _ _ _ ((sphere a0 a1).1) ((sphere a0 a1).1) ⟨_, _, rfl, o_f.reads.le L_h10⟩ ⟨_, _, rfl, o_w.reads.le L_h1⟩) ?_
  rintro r h13 ⟨rfl, rfl⟩
  refine BIf.no (by simp) ?_
  refine BIf.no (by simp) ?_
  refine LoadX.same (v := .agg #[.int .i64 (sphere a0 a1).1.prime, .slice (some ⟨c_g1, c_go1, none⟩) (sphere a0 a1).1.dims.length 0, .slice (some ⟨c_g2, c_go2, none⟩) (sphere a0 a1).1.maps.length 0]) (L_h8.at_ _ _ e_g) rfl ?_
  refine CallX.same (heldComplex_c _ _ ((sphere a0 a1).1) _ (RComplex.le _ _ _ _ L_h8 o_m) (by omega) (by omega)) ?_
  rintro r h14 ⟨rfl, rfl⟩
  refine BIf.no (by simp; omega) ?_
  refine BIf.no (by simp) ?_
  exact FinX.keep hw L_h rfl ⟨rfl, rfl⟩


theorem FnExactUnitComplex_law (h : AH) (a0 : Int) : ACalls Try.prog 9 [.int .i64 a0] h (fun r h' => r = .bool true ∧ h' = h) := by
  refine ACalls.of Tt.tab Try.func9 rfl (by kernel_rfl) Try.ntmps9 _ rfl rfl (fun hw => ?_)
  have L_h := Le.refl h
  have n_res := sphere_cn a0 0
  refine CallX.canon (unitS_c _ a0) ?_
  have N_w_h := L_h.len
  rintro r h1 ⟨v, l_w, rfl, ⟨u_w1, u_w2, rfl, o_w⟩, gg⟩
  obtain ⟨c_w1, c_wo1, c_w2, c_wo2, k_w1, k_w2, o_w⟩ := o_w.can
  refine ⟨_, (Wk.tuple (.cons (Wk.agg (.cons (Wk.refl _) (.cons k_w1 (.cons k_w2 .nil)))) (.cons (Wk.refl _) .nil))), ?_⟩
  have L_h := L_h.trans gg
  have L_h1 := Le.refl h1
  have B_w_h := L_h.len
  have B_w_h1 := L_h1.len
  refine NewX.intro fun p_w h2 gg z_w m_w => ?_
  have L_h := L_h.trans gg
  have L_h1 := L_h1.trans gg
  refine StoreX.intro z_w rfl (show (0 + 3 : Nat) ≤ 3 by decide) fun h3 ee (e_w : look h3 p_w = some ⟨[.int .i64 (sphere a0 0).1.prime, .slice (some ⟨c_w1, c_wo1, none⟩) (sphere a0 0).1.dims.length 0, .slice (some ⟨c_w2, c_wo2, none⟩) (sphere a0 0).1.maps.length 0], some (73, 3)⟩) ao gl => ?_
  have L_h := gl _ L_h (Nat.le_trans B_w_h m_w)
  have L_h1 := gl _ L_h1 (Nat.le_trans B_w_h1 m_w)
  have L_h3 := Le.refl h3
  refine CallX.canon (unitI_c _ a0) ?_
  have N_g_h := L_h.len
  have N_g_h1 := L_h1.len
  have N_g_h3 := L_h3.len
  rintro r h4 ⟨v, l_g, rfl, ⟨u_g1, u_g2, rfl, o_g⟩, gg⟩
  obtain ⟨c_g1, c_go1, c_g2, c_go2, k_g1, k_g2, o_g⟩ := o_g.can
  refine ⟨_, (Wk.tuple (.cons (Wk.agg (.cons (Wk.refl _) (.cons k_g1 (.cons k_g2 .nil)))) (.cons (Wk.refl _) .nil))), ?_⟩
  have L_h := L_h.trans gg
  have L_h1 := L_h1.trans gg
  have L_h3 := L_h3.trans gg
  have L_h4 := Le.refl h4
  have B_g_h := L_h.len
  have B_g_h1 := L_h1.len
  have B_g_h3 := L_h3.len
  have B_g_h4 := L_h4.len
  refine NewX.intro fun p_g h5 gg z_g m_g => ?_
  have L_h := L_h.trans gg
  have L_h1 := L_h1.trans gg
  have L_h3 := L_h3.trans gg
  have L_h4 := L_h4.trans gg
  refine StoreX.intro z_g rfl (show (0 + 3 : Nat) ≤ 3 by decide) fun h6 ee (e_g : look h6 p_g = some ⟨[.int .i64 (sphere a0 0).1.prime, .slice (some ⟨c_g1, c_go1, none⟩) (sphere a0 0).1.dims.length 0, .slice (some ⟨c_g2, c_go2, none⟩) (sphere a0 0).1.maps.length 0], some (73, 3)⟩) ao gl => ?_
  have L_h := gl _ L_h (Nat.le_trans B_g_h m_g)
  have L_h1 := gl _ L_h1 (Nat.le_trans B_g_h1 m_g)
  have L_h3 := gl _ L_h3 (Nat.le_trans B_g_h3 m_g)
  have L_h4 := gl _ L_h4 (Nat.le_trans B_g_h4 m_g)
  have L_h6 := Le.refl h6
  refine LoadX.same (v := .agg #[.int .i64 (sphere a0 0).1.prime, .slice (some ⟨c_g1, c_go1, none⟩) (sphere a0 0).1.dims.length 0, .slice (some ⟨c_g2, c_go2, none⟩) (sphere a0 0).1.maps.length 0]) (L_h6.at_ _ _ e_g) rfl ?_
  refine LoadX.same (v := .agg #[.int .i64 (sphere a0 0).1.prime, .slice (some ⟨c_w1, c_wo1, none⟩) (sphere a0 0).1.dims.length 0, .slice (some ⟨c_w2, c_wo2, none⟩) (sphere a0 0).1.maps.length 0]) (L_h3.at_ _ _ e_w) rfl ?_
  refine CallX.same (eqComplex_c _ _ _ ((sphere a0 0).1) ((sphere a0 0).1) ⟨_, _, rfl, o_g.reads.le L_h4⟩ ⟨_, _, rfl, o_w.reads.le L_h1⟩) ?_
  rintro r h7 ⟨rfl, rfl⟩
  refine BIf.no (by simp) ?_
  refine BIf.no (by simp) ?_
  refine LoadX.same (v := .agg #[.int .i64 (sphere a0 0).1.prime, .slice (some ⟨c_g1, c_go1, none⟩) (sphere a0 0).1.dims.length 0, .slice (some ⟨c_g2, c_go2, none⟩) (sphere a0 0).1.maps.length 0]) (L_h6.at_ _ _ e_g) rfl ?_
  have oc := (OComplex.fr.le (show OComplex _ h4 (.agg #[.int .i64 (sphere a0 0).1.prime, .slice (some ⟨c_g1, c_go1, none⟩) (sphere a0 0).1.dims.length 0, .slice (some ⟨c_g2, c_go2, none⟩) (sphere a0 0).1.maps.length 0]) ((sphere a0 0).1) l_g from ⟨_, _, rfl, o_g⟩) L_h4)
  have ot := fun i hi => (OComplex.fr.leaf _ _ _ _ _ oc i hi).2
  have og := fun i hi => (OComplex.fr.leaf _ _ _ _ _ oc i hi).1
  have ol := OComplex.fr.lt (show OComplex _ h4 (.agg #[.int .i64 (sphere a0 0).1.prime, .slice (some ⟨c_g1, c_go1, none⟩) (sphere a0 0).1.dims.length 0, .slice (some ⟨c_g2, c_go2, none⟩) (sphere a0 0).1.maps.length 0]) ((sphere a0 0).1) l_g from ⟨_, _, rfl, o_g⟩)
  refine CallX.same (markComplex_c _ _ _ ((sphere a0 0).1) _ _ oc (by omega) (by omega)) ?_
  rintro r h8 ⟨rfl, mk, om⟩
  have e_g := mk.stay (L_h6.at_ _ _ e_g) (fun i hi => Nat.lt_of_lt_of_le (ol i hi) (by omega))
  have L_h := mk.le L_h (fun i hi => Nat.le_trans N_g_h (og i hi))
  have L_h1 := mk.le L_h1 (fun i hi => Nat.le_trans N_g_h1 (og i hi))
  have L_h3 := mk.le L_h3 (fun i hi => Nat.le_trans N_g_h3 (og i hi))
  have L_h8 := Le.refl h8
  have o_m := OComplex.reads _ _ _ _ _ om
  refine LoadX.same (v := .agg #[.int .i64 (sphere a0 0).1.prime, .slice (some ⟨c_g1, c_go1, none⟩) (sphere a0 0).1.dims.length 0, .slice (some ⟨c_g2, c_go2, none⟩) (sphere a0 0).1.maps.length 0]) (L_h8.at_ _ _ e_g) rfl ?_
  refine CallX.same (heldComplex_c _ _ ((sphere a0 0).1) _ (RComplex.le _ _ _ _ L_h8 o_m) (by omega) (by omega)) ?_
  rintro r h9 ⟨rfl, rfl⟩
  refine BIf.no (by simp; omega) ?_
  refine BIf.no (by simp) ?_
  refine CallX.canon (unitI_c _ a0) ?_
  have N_f_h := L_h.len
  have N_f_h1 := L_h1.len
  have N_f_h3 := L_h3.len
  have N_f_h8 := L_h8.len
  rintro r h10 ⟨v, l_f, rfl, ⟨u_f1, u_f2, rfl, o_f⟩, gg⟩
  obtain ⟨c_f1, c_fo1, c_f2, c_fo2, k_f1, k_f2, o_f⟩ := o_f.can
  refine ⟨_, (Wk.tuple (.cons (Wk.agg (.cons (Wk.refl _) (.cons k_f1 (.cons k_f2 .nil)))) (.cons (Wk.refl _) .nil))), ?_⟩
  have L_h := L_h.trans gg
  have L_h1 := L_h1.trans gg
  have L_h3 := L_h3.trans gg
  have L_h8 := L_h8.trans gg
  have L_h10 := Le.refl h10
  have B_f_h := L_h.len
  have B_f_h1 := L_h1.len
  have B_f_h3 := L_h3.len
  have B_f_h8 := L_h8.len
  have B_f_h10 := L_h10.len
  refine NewX.intro fun p_f h11 gg z_f m_f => ?_
  have L_h := L_h.trans gg
  have L_h1 := L_h1.trans gg
  have L_h3 := L_h3.trans gg
  have L_h8 := L_h8.trans gg
  have L_h10 := L_h10.trans gg
  refine StoreX.intro z_f rfl (show (0 + 3 : Nat) ≤ 3 by decide) fun h12 ee (e_f : look h12 p_f = some ⟨[.int .i64 (sphere a0 0).1.prime, .slice (some ⟨c_f1, c_fo1, none⟩) (sphere a0 0).1.dims.length 0, .slice (some ⟨c_f2, c_fo2, none⟩) (sphere a0 0).1.maps.length 0], some (73, 3)⟩) ao gl => ?_
  have L_h := gl _ L_h (Nat.le_trans B_f_h m_f)
  have L_h1 := gl _ L_h1 (Nat.le_trans B_f_h1 m_f)
  have L_h3 := gl _ L_h3 (Nat.le_trans B_f_h3 m_f)
  have L_h8 := gl _ L_h8 (Nat.le_trans B_f_h8 m_f)
  have L_h10 := gl _ L_h10 (Nat.le_trans B_f_h10 m_f)
  have L_h12 := Le.refl h12
  refine LoadX.same (v := .agg #[.int .i64 (sphere a0 0).1.prime, .slice (some ⟨c_f1, c_fo1, none⟩) (sphere a0 0).1.dims.length 0, .slice (some ⟨c_f2, c_fo2, none⟩) (sphere a0 0).1.maps.length 0]) (L_h12.at_ _ _ e_f) rfl ?_
  refine LoadX.same (v := .agg #[.int .i64 (sphere a0 0).1.prime, .slice (some ⟨c_w1, c_wo1, none⟩) (sphere a0 0).1.dims.length 0, .slice (some ⟨c_w2, c_wo2, none⟩) (sphere a0 0).1.maps.length 0]) (L_h3.at_ _ _ e_w) rfl ?_
  refine CallX.same (eqComplex_c _ _ _ ((sphere a0 0).1) ((sphere a0 0).1) ⟨_, _, rfl, o_f.reads.le L_h10⟩ ⟨_, _, rfl, o_w.reads.le L_h1⟩) ?_
  rintro r h13 ⟨rfl, rfl⟩
  refine BIf.no (by simp) ?_
  refine BIf.no (by simp) ?_
  refine LoadX.same (v := .agg #[.int .i64 (sphere a0 0).1.prime, .slice (some ⟨c_g1, c_go1, none⟩) (sphere a0 0).1.dims.length 0, .slice (some ⟨c_g2, c_go2, none⟩) (sphere a0 0).1.maps.length 0]) (L_h8.at_ _ _ e_g) rfl ?_
  refine CallX.same (heldComplex_c _ _ ((sphere a0 0).1) _ (RComplex.le _ _ _ _ L_h8 o_m) (by omega) (by omega)) ?_
  rintro r h14 ⟨rfl, rfl⟩
  refine BIf.no (by simp; omega) ?_
  refine BIf.no (by simp) ?_
  exact FinX.keep hw L_h rfl ⟨rfl, rfl⟩


end Go.Gl

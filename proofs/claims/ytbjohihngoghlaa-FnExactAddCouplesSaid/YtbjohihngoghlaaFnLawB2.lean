/- Laws, walked: written by mk_law.py. No condition. -/
import Derived.Test.YtbjohihngoghlaaFnB2
import Derived.Test.YtbjohihngoghlaaGlR
set_option linter.unusedVariables false
set_option linter.unusedSimpArgs false
namespace Go.Gl
open Go.Proofs Go.Proofs.Ytbjohihngoghlaa

theorem PCouple.leX {n : Nat} {h h' : AH} {v1 v2 v3 : Value} {x : SCouple} {l : List Nat} (o : PCouple n h v1 v2 v3 x l) (L : Le h h') : PCouple n h' v1 v2 v3 x l := by
  obtain ⟨l1, l2, l3, a1, a2, a3, e, hd⟩ := o
  exact ⟨l1, l2, l3, OII.fr.le a1 L, OII.fr.le a2 L, OII.fr.le a3 L, e, hd⟩
theorem PCouple.asideX {n : Nat} {h h' : AH} {v1 v2 v3 : Value} {x : SCouple} {l : List Nat} (o : PCouple n h v1 v2 v3 x l) {b : Nat} {cs : List Value} {tr : TypeId} {s : Nat} (hb : look h b = some ⟨cs, some (tr, s)⟩) (h1 : (!Nat.beq tr tI) = true) (h2 : sII.all (fun t => !Nat.beq t tr) = true) (ho : ∀ i, i ≠ b → look h' i = look h i) : PCouple n h' v1 v2 v3 x l := by
  obtain ⟨l1, l2, l3, a1, a2, a3, e, hd⟩ := o
  exact ⟨l1, l2, l3, OII.fr.aside a1 hb h1 h2 ho, OII.fr.aside a2 hb h1 h2 ho, OII.fr.aside a3 hb h1 h2 ho, e, hd⟩

theorem FnExactAddCouples_law (h : AH) (v_a0 : Value) (a0 : SCouple) (r_a0 : RCouple h v_a0 a0) (v_a1 : Value) (a1 : SCouple) (r_a1 : RCouple h v_a1 a1) : ACalls Try.prog 6 [v_a0, v_a1] h (fun r h' => r = .bool true ∧ h' = h) := by
  obtain ⟨b_a01, b_a0o1, b_a02, b_a0o2, b_a03, b_a0o3, k_a0, q_a0⟩ := r_a0.can
  obtain ⟨b_a11, b_a1o1, b_a12, b_a1o2, b_a13, b_a1o3, k_a1, q_a1⟩ := r_a1.can
  refine ACalls.wk (args' := [.agg #[.int .i64 a0.prime, .int .i64 a0.d, .int .i64 a0.e, .slice (some ⟨b_a01, b_a0o1, none⟩) a0.i.length 0, .slice (some ⟨b_a02, b_a0o2, none⟩) a0.j.length 0, .slice (some ⟨b_a03, b_a0o3, none⟩) a0.k.length 0], .agg #[.int .i64 a1.prime, .int .i64 a1.d, .int .i64 a1.e, .slice (some ⟨b_a11, b_a1o1, none⟩) a1.i.length 0, .slice (some ⟨b_a12, b_a1o2, none⟩) a1.j.length 0, .slice (some ⟨b_a13, b_a1o3, none⟩) a1.k.length 0]]) ?_ (.cons k_a0 (.cons k_a1 .nil))
  refine ACalls.of Tt.tab Try.func6 rfl (by kernel_rfl) Try.ntmps6 _ rfl rfl (fun hw => ?_)
  have L_h := Le.refl h
  refine NewX.intro fun p_a0 h1 gg (e_a0 : look h1 p_a0 = some ⟨[.int .i64 a0.prime, .int .i64 a0.d, .int .i64 a0.e, .slice (some ⟨b_a01, b_a0o1, none⟩) a0.i.length 0, .slice (some ⟨b_a02, b_a0o2, none⟩) a0.j.length 0, .slice (some ⟨b_a03, b_a0o3, none⟩) a0.k.length 0], some (57, 6)⟩) nn => ?_
  have L_h := L_h.trans gg
  have L_h1 := Le.refl h1
  refine NewX.intro fun p_a1 h2 gg (e_a1 : look h2 p_a1 = some ⟨[.int .i64 a1.prime, .int .i64 a1.d, .int .i64 a1.e, .slice (some ⟨b_a11, b_a1o1, none⟩) a1.i.length 0, .slice (some ⟨b_a12, b_a1o2, none⟩) a1.j.length 0, .slice (some ⟨b_a13, b_a1o3, none⟩) a1.k.length 0], some (57, 6)⟩) nn => ?_
  have L_h := L_h.trans gg
  have L_h1 := L_h1.trans gg
  have L_h2 := Le.refl h2
  refine LoadX.same (v := .agg #[.int .i64 a0.prime, .int .i64 a0.d, .int .i64 a0.e, .slice (some ⟨b_a01, b_a0o1, none⟩) a0.i.length 0, .slice (some ⟨b_a02, b_a0o2, none⟩) a0.j.length 0, .slice (some ⟨b_a03, b_a0o3, none⟩) a0.k.length 0]) (L_h1.at_ _ _ e_a0) rfl ?_
  refine CallX.same (szCouple_c _ _ a0 _ ⟨_, _, _, rfl, q_a0.le L_h⟩ (by omega) (by omega)) ?_
  rintro r h3 ⟨rfl, rfl⟩
  by_cases s_a0 : (ctCouple a0 : Int) ≤ 1048576
  case neg =>
    rw [if_neg s_a0]
    refine BIf.yes rfl ?_
    exact FinX.keep hw L_h rfl ⟨rfl, rfl⟩
  rw [if_pos s_a0]
  refine BIf.no (by simp; omega) ?_
  refine LoadX.same (v := .agg #[.int .i64 a1.prime, .int .i64 a1.d, .int .i64 a1.e, .slice (some ⟨b_a11, b_a1o1, none⟩) a1.i.length 0, .slice (some ⟨b_a12, b_a1o2, none⟩) a1.j.length 0, .slice (some ⟨b_a13, b_a1o3, none⟩) a1.k.length 0]) (L_h2.at_ _ _ e_a1) rfl ?_
  refine CallX.same (szCouple_c _ _ a1 _ ⟨_, _, _, rfl, q_a1.le L_h⟩ (by omega) (by omega)) ?_
  rintro r h4 ⟨rfl, rfl⟩
  by_cases s_a1 : (ctCouple a1 : Int) ≤ 1048576 - ctCouple a0
  case neg =>
    rw [if_neg s_a1]
    refine BIf.yes rfl ?_
    exact FinX.keep hw L_h rfl ⟨rfl, rfl⟩
  rw [if_pos s_a1]
  refine BIf.no (by simp; omega) ?_
  have n_a0 := cnCouple_le a0
  have n_a1 := cnCouple_le a1
  have n_res := addC_cn a0 a1
  refine DrawX.tree Tt.tab follows_any [1, 3, 4, 8] [9] (.op 0 (.op 2 (.alt (.op 1 (.alt (.op 3 (.alt (.op 4 (.op 5 (.op 6 (.op 7 (.op 8 (.op 9 (.op 10 (.nil)))))))) (.op 8 (.op 4 (.op 5 (.op 6 (.op 7 (.op 9 (.op 10 (.nil)))))))))) (.op 8 (.op 3 (.op 4 (.op 5 (.op 6 (.op 7 (.op 9 (.op 10 (.nil))))))))))) (.op 8 (.op 1 (.op 3 (.op 4 (.op 5 (.op 6 (.op 7 (.op 9 (.op 10 (.nil))))))))))))) [2, 3, 6, 7] (fun vs g => ∃ (p_w c_w1 c_wo1 c_w2 c_wo2 c_w3 c_wo3 : Nat) (l_w : List Nat) (nw : Nat), vs = [.pointer (some ⟨p_a0, 0, none⟩), .pointer (some ⟨p_a1, 0, none⟩), .pointer (some ⟨p_w, 0, none⟩), .int .i64 (addC a0 a1).2] ∧ Le h4 g ∧ look g p_w = some ⟨[.int .i64 (addC a0 a1).1.prime, .int .i64 (addC a0 a1).1.d, .int .i64 (addC a0 a1).1.e, .slice (some ⟨c_w1, c_wo1, none⟩) (addC a0 a1).1.i.length 0, .slice (some ⟨c_w2, c_wo2, none⟩) (addC a0 a1).1.j.length 0, .slice (some ⟨c_w3, c_wo3, none⟩) (addC a0 a1).1.k.length 0], some (59, 6)⟩ ∧ PCouple nw g (.slice (some ⟨c_w1, c_wo1, none⟩) (addC a0 a1).1.i.length 0) (.slice (some ⟨c_w2, c_wo2, none⟩) (addC a0 a1).1.j.length 0) (.slice (some ⟨c_w3, c_wo3, none⟩) (addC a0 a1).1.k.length 0) ((addC a0 a1).1) l_w) (by kernel_rfl) (by kernel_rfl) ?_ ?_
  · have L2 := Le.refl h4
    refine LoadX.same (v := .agg #[.int .i64 a0.prime, .int .i64 a0.d, .int .i64 a0.e, .slice (some ⟨b_a01, b_a0o1, none⟩) a0.i.length 0, .slice (some ⟨b_a02, b_a0o2, none⟩) a0.j.length 0, .slice (some ⟨b_a03, b_a0o3, none⟩) a0.k.length 0]) (L_h1.at_ _ _ e_a0) rfl ?_
    refine LoadX.same (v := .agg #[.int .i64 a1.prime, .int .i64 a1.d, .int .i64 a1.e, .slice (some ⟨b_a11, b_a1o1, none⟩) a1.i.length 0, .slice (some ⟨b_a12, b_a1o2, none⟩) a1.j.length 0, .slice (some ⟨b_a13, b_a1o3, none⟩) a1.k.length 0]) (L_h2.at_ _ _ e_a1) rfl ?_
    refine ⟨?_, ?_⟩
    · refine CallX.same (toCouple_c _ _ a0 ⟨_, _, _, rfl, q_a0.le (L_h.trans L2)⟩ (by omega)) ?_
      rintro r g ⟨_, _, _, _, rfl, oA, gg⟩
      refine ⟨gg, ?_⟩
      have qA := oA.reads
      have L2 := L2.trans gg
      refine ⟨?_, ?_⟩
      · refine CallX.same (toCouple_c _ _ a1 ⟨_, _, _, rfl, q_a1.le (L_h.trans L2)⟩ (by omega)) ?_
        rintro r g ⟨_, _, _, _, rfl, oB, gg⟩
        refine ⟨gg, ?_⟩
        have qB := oB.reads
        have L2 := L2.trans gg
        have qA := qA.le gg
        refine ⟨?_, ?_⟩
        · refine CallX.canon (addCS_c _ _ a0 ⟨_, _, _, rfl, qA⟩ _ a1 ⟨_, _, _, rfl, qB⟩) ?_
          rintro r g ⟨v, l_w, rfl, ⟨u_w1, u_w2, u_w3, rfl, oW⟩, gg⟩
          obtain ⟨c_w1, c_wo1, c_w2, c_wo2, c_w3, c_wo3, k_w1, k_w2, k_w3, oW⟩ := oW.can
          refine ⟨_, (Wk.tuple (.cons (Wk.agg (.cons (Wk.refl _) (.cons (Wk.refl _) (.cons (Wk.refl _) (.cons k_w1 (.cons k_w2 (.cons k_w3 .nil))))))) (.cons (Wk.refl _) .nil))), gg, ?_⟩
          have L2 := L2.trans gg
          have qA := qA.le gg
          have qB := qB.le gg
          refine NewX.intro fun p_w g gg z_w m_w => ⟨gg, ?_⟩
          have m_w := Nat.le_trans L2.len m_w
          have L2 := L2.trans gg
          have qA := qA.le gg
          have qB := qB.le gg
          have oW := oW.leX gg
          refine StoreX.intro z_w rfl (show (0 + 6 : Nat) ≤ 6 by decide) fun g ee (e_w : look g p_w = some ⟨[.int .i64 (addC a0 a1).1.prime, .int .i64 (addC a0 a1).1.d, .int .i64 (addC a0 a1).1.e, .slice (some ⟨c_w1, c_wo1, none⟩) (addC a0 a1).1.i.length 0, .slice (some ⟨c_w2, c_wo2, none⟩) (addC a0 a1).1.j.length 0, .slice (some ⟨c_w3, c_wo3, none⟩) (addC a0 a1).1.k.length 0], some (59, 6)⟩) ao gl => ?_
          have L2 := gl _ L2 m_w
          have oW := oW.asideX z_w rfl rfl ao
          exact ⟨_, _, _, _, _, _, _, _, _, rfl, L2, e_w, oW⟩
        · refine NewX.intro fun p_w g gg z_w m_w => ⟨gg, ?_⟩
          have m_w := Nat.le_trans L2.len m_w
          have L2 := L2.trans gg
          have qA := qA.le gg
          have qB := qB.le gg
          refine CallX.canon (addCS_c _ _ a0 ⟨_, _, _, rfl, qA⟩ _ a1 ⟨_, _, _, rfl, qB⟩) ?_
          rintro r g ⟨v, l_w, rfl, ⟨u_w1, u_w2, u_w3, rfl, oW⟩, gg⟩
          obtain ⟨c_w1, c_wo1, c_w2, c_wo2, c_w3, c_wo3, k_w1, k_w2, k_w3, oW⟩ := oW.can
          refine ⟨_, (Wk.tuple (.cons (Wk.agg (.cons (Wk.refl _) (.cons (Wk.refl _) (.cons (Wk.refl _) (.cons k_w1 (.cons k_w2 (.cons k_w3 .nil))))))) (.cons (Wk.refl _) .nil))), gg, ?_⟩
          have L2 := L2.trans gg
          have qA := qA.le gg
          have qB := qB.le gg
          have z_w := gg.at_ _ _ z_w
          refine StoreX.intro z_w rfl (show (0 + 6 : Nat) ≤ 6 by decide) fun g ee (e_w : look g p_w = some ⟨[.int .i64 (addC a0 a1).1.prime, .int .i64 (addC a0 a1).1.d, .int .i64 (addC a0 a1).1.e, .slice (some ⟨c_w1, c_wo1, none⟩) (addC a0 a1).1.i.length 0, .slice (some ⟨c_w2, c_wo2, none⟩) (addC a0 a1).1.j.length 0, .slice (some ⟨c_w3, c_wo3, none⟩) (addC a0 a1).1.k.length 0], some (59, 6)⟩) ao gl => ?_
          have L2 := gl _ L2 m_w
          have oW := oW.asideX z_w rfl rfl ao
          exact ⟨_, _, _, _, _, _, _, _, _, rfl, L2, e_w, oW⟩
      · refine NewX.intro fun p_w g gg z_w m_w => ⟨gg, ?_⟩
        have m_w := Nat.le_trans L2.len m_w
        have L2 := L2.trans gg
        have qA := qA.le gg
        refine CallX.same (toCouple_c _ _ a1 ⟨_, _, _, rfl, q_a1.le (L_h.trans L2)⟩ (by omega)) ?_
        rintro r g ⟨_, _, _, _, rfl, oB, gg⟩
        refine ⟨gg, ?_⟩
        have qB := oB.reads
        have L2 := L2.trans gg
        have qA := qA.le gg
        have z_w := gg.at_ _ _ z_w
        refine CallX.canon (addCS_c _ _ a0 ⟨_, _, _, rfl, qA⟩ _ a1 ⟨_, _, _, rfl, qB⟩) ?_
        rintro r g ⟨v, l_w, rfl, ⟨u_w1, u_w2, u_w3, rfl, oW⟩, gg⟩
        obtain ⟨c_w1, c_wo1, c_w2, c_wo2, c_w3, c_wo3, k_w1, k_w2, k_w3, oW⟩ := oW.can
        refine ⟨_, (Wk.tuple (.cons (Wk.agg (.cons (Wk.refl _) (.cons (Wk.refl _) (.cons (Wk.refl _) (.cons k_w1 (.cons k_w2 (.cons k_w3 .nil))))))) (.cons (Wk.refl _) .nil))), gg, ?_⟩
        have L2 := L2.trans gg
        have qA := qA.le gg
        have qB := qB.le gg
        have z_w := gg.at_ _ _ z_w
        refine StoreX.intro z_w rfl (show (0 + 6 : Nat) ≤ 6 by decide) fun g ee (e_w : look g p_w = some ⟨[.int .i64 (addC a0 a1).1.prime, .int .i64 (addC a0 a1).1.d, .int .i64 (addC a0 a1).1.e, .slice (some ⟨c_w1, c_wo1, none⟩) (addC a0 a1).1.i.length 0, .slice (some ⟨c_w2, c_wo2, none⟩) (addC a0 a1).1.j.length 0, .slice (some ⟨c_w3, c_wo3, none⟩) (addC a0 a1).1.k.length 0], some (59, 6)⟩) ao gl => ?_
        have L2 := gl _ L2 m_w
        have oW := oW.asideX z_w rfl rfl ao
        exact ⟨_, _, _, _, _, _, _, _, _, rfl, L2, e_w, oW⟩
    · refine NewX.intro fun p_w g gg z_w m_w => ⟨gg, ?_⟩
      have m_w := Nat.le_trans L2.len m_w
      have L2 := L2.trans gg
      refine CallX.same (toCouple_c _ _ a0 ⟨_, _, _, rfl, q_a0.le (L_h.trans L2)⟩ (by omega)) ?_
      rintro r g ⟨_, _, _, _, rfl, oA, gg⟩
      refine ⟨gg, ?_⟩
      have qA := oA.reads
      have L2 := L2.trans gg
      have z_w := gg.at_ _ _ z_w
      refine CallX.same (toCouple_c _ _ a1 ⟨_, _, _, rfl, q_a1.le (L_h.trans L2)⟩ (by omega)) ?_
      rintro r g ⟨_, _, _, _, rfl, oB, gg⟩
      refine ⟨gg, ?_⟩
      have qB := oB.reads
      have L2 := L2.trans gg
      have qA := qA.le gg
      have z_w := gg.at_ _ _ z_w
      refine CallX.canon (addCS_c _ _ a0 ⟨_, _, _, rfl, qA⟩ _ a1 ⟨_, _, _, rfl, qB⟩) ?_
      rintro r g ⟨v, l_w, rfl, ⟨u_w1, u_w2, u_w3, rfl, oW⟩, gg⟩
      obtain ⟨c_w1, c_wo1, c_w2, c_wo2, c_w3, c_wo3, k_w1, k_w2, k_w3, oW⟩ := oW.can
      refine ⟨_, (Wk.tuple (.cons (Wk.agg (.cons (Wk.refl _) (.cons (Wk.refl _) (.cons (Wk.refl _) (.cons k_w1 (.cons k_w2 (.cons k_w3 .nil))))))) (.cons (Wk.refl _) .nil))), gg, ?_⟩
      have L2 := L2.trans gg
      have qA := qA.le gg
      have qB := qB.le gg
      have z_w := gg.at_ _ _ z_w
      refine StoreX.intro z_w rfl (show (0 + 6 : Nat) ≤ 6 by decide) fun g ee (e_w : look g p_w = some ⟨[.int .i64 (addC a0 a1).1.prime, .int .i64 (addC a0 a1).1.d, .int .i64 (addC a0 a1).1.e, .slice (some ⟨c_w1, c_wo1, none⟩) (addC a0 a1).1.i.length 0, .slice (some ⟨c_w2, c_wo2, none⟩) (addC a0 a1).1.j.length 0, .slice (some ⟨c_w3, c_wo3, none⟩) (addC a0 a1).1.k.length 0], some (59, 6)⟩) ao gl => ?_
      have L2 := gl _ L2 m_w
      have oW := oW.asideX z_w rfl rfl ao
      exact ⟨_, _, _, _, _, _, _, _, _, rfl, L2, e_w, oW⟩
  rintro vs h5 ⟨p_w, c_w1, c_wo1, c_w2, c_wo2, c_w3, c_wo3, l_w, nw_w, rfl, gg, e_w, o_w⟩
  have L_h := L_h.trans gg
  have L_h1 := L_h1.trans gg
  have L_h2 := L_h2.trans gg
  have L_h5 := Le.refl h5
  refine LoadX.same (v := .agg #[.int .i64 a0.prime, .int .i64 a0.d, .int .i64 a0.e, .slice (some ⟨b_a01, b_a0o1, none⟩) a0.i.length 0, .slice (some ⟨b_a02, b_a0o2, none⟩) a0.j.length 0, .slice (some ⟨b_a03, b_a0o3, none⟩) a0.k.length 0]) (L_h1.at_ _ _ e_a0) rfl ?_
  refine CallX.same (toCouple_c _ _ a0 ⟨_, _, _, rfl, q_a0.le L_h⟩ (by omega)) ?_
  rintro r h6 ⟨d_xa01, d_xa02, d_xa03, l_xa0, rfl, o_xa0, gg⟩
  have N_xa0_h := L_h.len
  have N_xa0_h1 := L_h1.len
  have N_xa0_h2 := L_h2.len
  have N_xa0_h5 := L_h5.len
  have L_h := L_h.trans gg
  have L_h1 := L_h1.trans gg
  have L_h2 := L_h2.trans gg
  have L_h5 := L_h5.trans gg
  have L_h6 := Le.refl h6
  have B_xa0_h := L_h.len
  have B_xa0_h1 := L_h1.len
  have B_xa0_h2 := L_h2.len
  have B_xa0_h5 := L_h5.len
  have B_xa0_h6 := L_h6.len
  refine NewX.intro fun p_xa0 h7 gg z_xa0 m_xa0 => ?_
  have L_h := L_h.trans gg
  have L_h1 := L_h1.trans gg
  have L_h2 := L_h2.trans gg
  have L_h5 := L_h5.trans gg
  have L_h6 := L_h6.trans gg
  refine StoreX.intro z_xa0 rfl (show (0 + 6 : Nat) ≤ 6 by decide) fun h8 ee (e_xa0 : look h8 p_xa0 = some ⟨[.int .i64 a0.prime, .int .i64 a0.d, .int .i64 a0.e, .slice (some ⟨d_xa01, 0, none⟩) a0.i.length 1, .slice (some ⟨d_xa02, 0, none⟩) a0.j.length 1, .slice (some ⟨d_xa03, 0, none⟩) a0.k.length 1], some (59, 6)⟩) ao gl => ?_
  have L_h := gl _ L_h (Nat.le_trans B_xa0_h m_xa0)
  have L_h1 := gl _ L_h1 (Nat.le_trans B_xa0_h1 m_xa0)
  have L_h2 := gl _ L_h2 (Nat.le_trans B_xa0_h2 m_xa0)
  have L_h5 := gl _ L_h5 (Nat.le_trans B_xa0_h5 m_xa0)
  have L_h6 := gl _ L_h6 (Nat.le_trans B_xa0_h6 m_xa0)
  have L_h8 := Le.refl h8
  refine LoadX.same (v := .agg #[.int .i64 a1.prime, .int .i64 a1.d, .int .i64 a1.e, .slice (some ⟨b_a11, b_a1o1, none⟩) a1.i.length 0, .slice (some ⟨b_a12, b_a1o2, none⟩) a1.j.length 0, .slice (some ⟨b_a13, b_a1o3, none⟩) a1.k.length 0]) (L_h2.at_ _ _ e_a1) rfl ?_
  refine CallX.same (toCouple_c _ _ a1 ⟨_, _, _, rfl, q_a1.le L_h⟩ (by omega)) ?_
  rintro r h9 ⟨d_xa11, d_xa12, d_xa13, l_xa1, rfl, o_xa1, gg⟩
  have N_xa1_h := L_h.len
  have N_xa1_h1 := L_h1.len
  have N_xa1_h2 := L_h2.len
  have N_xa1_h5 := L_h5.len
  have N_xa1_h6 := L_h6.len
  have N_xa1_h8 := L_h8.len
  have L_h := L_h.trans gg
  have L_h1 := L_h1.trans gg
  have L_h2 := L_h2.trans gg
  have L_h5 := L_h5.trans gg
  have L_h6 := L_h6.trans gg
  have L_h8 := L_h8.trans gg
  have L_h9 := Le.refl h9
  have B_xa1_h := L_h.len
  have B_xa1_h1 := L_h1.len
  have B_xa1_h2 := L_h2.len
  have B_xa1_h5 := L_h5.len
  have B_xa1_h6 := L_h6.len
  have B_xa1_h8 := L_h8.len
  have B_xa1_h9 := L_h9.len
  refine NewX.intro fun p_xa1 h10 gg z_xa1 m_xa1 => ?_
  have L_h := L_h.trans gg
  have L_h1 := L_h1.trans gg
  have L_h2 := L_h2.trans gg
  have L_h5 := L_h5.trans gg
  have L_h6 := L_h6.trans gg
  have L_h8 := L_h8.trans gg
  have L_h9 := L_h9.trans gg
  refine StoreX.intro z_xa1 rfl (show (0 + 6 : Nat) ≤ 6 by decide) fun h11 ee (e_xa1 : look h11 p_xa1 = some ⟨[.int .i64 a1.prime, .int .i64 a1.d, .int .i64 a1.e, .slice (some ⟨d_xa11, 0, none⟩) a1.i.length 1, .slice (some ⟨d_xa12, 0, none⟩) a1.j.length 1, .slice (some ⟨d_xa13, 0, none⟩) a1.k.length 1], some (59, 6)⟩) ao gl => ?_
  have L_h := gl _ L_h (Nat.le_trans B_xa1_h m_xa1)
  have L_h1 := gl _ L_h1 (Nat.le_trans B_xa1_h1 m_xa1)
  have L_h2 := gl _ L_h2 (Nat.le_trans B_xa1_h2 m_xa1)
  have L_h5 := gl _ L_h5 (Nat.le_trans B_xa1_h5 m_xa1)
  have L_h6 := gl _ L_h6 (Nat.le_trans B_xa1_h6 m_xa1)
  have L_h8 := gl _ L_h8 (Nat.le_trans B_xa1_h8 m_xa1)
  have L_h9 := gl _ L_h9 (Nat.le_trans B_xa1_h9 m_xa1)
  have L_h11 := Le.refl h11
  refine LoadX.same (v := .agg #[.int .i64 a0.prime, .int .i64 a0.d, .int .i64 a0.e, .slice (some ⟨d_xa01, 0, none⟩) a0.i.length 1, .slice (some ⟨d_xa02, 0, none⟩) a0.j.length 1, .slice (some ⟨d_xa03, 0, none⟩) a0.k.length 1]) (L_h8.at_ _ _ e_xa0) rfl ?_
  refine LoadX.same (v := .agg #[.int .i64 a1.prime, .int .i64 a1.d, .int .i64 a1.e, .slice (some ⟨d_xa11, 0, none⟩) a1.i.length 1, .slice (some ⟨d_xa12, 0, none⟩) a1.j.length 1, .slice (some ⟨d_xa13, 0, none⟩) a1.k.length 1]) (L_h11.at_ _ _ e_xa1) rfl ?_
  refine CallX.canon (addCI_c _ _ a0 ⟨_, _, _, rfl, o_xa0.reads.le L_h6⟩ _ a1 ⟨_, _, _, rfl, o_xa1.reads.le L_h9⟩) ?_
  have N_g_h := L_h.len
  have N_g_h1 := L_h1.len
  have N_g_h2 := L_h2.len
  have N_g_h5 := L_h5.len
  have N_g_h6 := L_h6.len
  have N_g_h8 := L_h8.len
  have N_g_h9 := L_h9.len
  have N_g_h11 := L_h11.len
  rintro r h12 ⟨v, l_g, rfl, ⟨u_g1, u_g2, u_g3, rfl, o_g⟩, gg⟩
  obtain ⟨c_g1, c_go1, c_g2, c_go2, c_g3, c_go3, k_g1, k_g2, k_g3, o_g⟩ := o_g.can
  refine ⟨_, (Wk.tuple (.cons (Wk.agg (.cons (Wk.refl _) (.cons (Wk.refl _) (.cons (Wk.refl _) (.cons k_g1 (.cons k_g2 (.cons k_g3 .nil))))))) (.cons (Wk.refl _) .nil))), ?_⟩
  have L_h := L_h.trans gg
  have L_h1 := L_h1.trans gg
  have L_h2 := L_h2.trans gg
  have L_h5 := L_h5.trans gg
  have L_h6 := L_h6.trans gg
  have L_h8 := L_h8.trans gg
  have L_h9 := L_h9.trans gg
  have L_h11 := L_h11.trans gg
  have L_h12 := Le.refl h12
  have B_g_h := L_h.len
  have B_g_h1 := L_h1.len
  have B_g_h2 := L_h2.len
  have B_g_h5 := L_h5.len
  have B_g_h6 := L_h6.len
  have B_g_h8 := L_h8.len
  have B_g_h9 := L_h9.len
  have B_g_h11 := L_h11.len
  have B_g_h12 := L_h12.len
  refine NewX.intro fun p_g h13 gg z_g m_g => ?_
  have L_h := L_h.trans gg
  have L_h1 := L_h1.trans gg
  have L_h2 := L_h2.trans gg
  have L_h5 := L_h5.trans gg
  have L_h6 := L_h6.trans gg
  have L_h8 := L_h8.trans gg
  have L_h9 := L_h9.trans gg
  have L_h11 := L_h11.trans gg
  have L_h12 := L_h12.trans gg
  refine StoreX.intro z_g rfl (show (0 + 6 : Nat) ≤ 6 by decide) fun h14 ee (e_g : look h14 p_g = some ⟨[.int .i64 (addC a0 a1).1.prime, .int .i64 (addC a0 a1).1.d, .int .i64 (addC a0 a1).1.e, .slice (some ⟨c_g1, c_go1, none⟩) (addC a0 a1).1.i.length 0, .slice (some ⟨c_g2, c_go2, none⟩) (addC a0 a1).1.j.length 0, .slice (some ⟨c_g3, c_go3, none⟩) (addC a0 a1).1.k.length 0], some (59, 6)⟩) ao gl => ?_
  have L_h := gl _ L_h (Nat.le_trans B_g_h m_g)
  have L_h1 := gl _ L_h1 (Nat.le_trans B_g_h1 m_g)
  have L_h2 := gl _ L_h2 (Nat.le_trans B_g_h2 m_g)
  have L_h5 := gl _ L_h5 (Nat.le_trans B_g_h5 m_g)
  have L_h6 := gl _ L_h6 (Nat.le_trans B_g_h6 m_g)
  have L_h8 := gl _ L_h8 (Nat.le_trans B_g_h8 m_g)
  have L_h9 := gl _ L_h9 (Nat.le_trans B_g_h9 m_g)
  have L_h11 := gl _ L_h11 (Nat.le_trans B_g_h11 m_g)
  have L_h12 := gl _ L_h12 (Nat.le_trans B_g_h12 m_g)
  have L_h14 := Le.refl h14
  refine LoadX.same (v := .agg #[.int .i64 (addC a0 a1).1.prime, .int .i64 (addC a0 a1).1.d, .int .i64 (addC a0 a1).1.e, .slice (some ⟨c_g1, c_go1, none⟩) (addC a0 a1).1.i.length 0, .slice (some ⟨c_g2, c_go2, none⟩) (addC a0 a1).1.j.length 0, .slice (some ⟨c_g3, c_go3, none⟩) (addC a0 a1).1.k.length 0]) (L_h14.at_ _ _ e_g) rfl ?_
  refine LoadX.same (v := .agg #[.int .i64 (addC a0 a1).1.prime, .int .i64 (addC a0 a1).1.d, .int .i64 (addC a0 a1).1.e, .slice (some ⟨c_w1, c_wo1, none⟩) (addC a0 a1).1.i.length 0, .slice (some ⟨c_w2, c_wo2, none⟩) (addC a0 a1).1.j.length 0, .slice (some ⟨c_w3, c_wo3, none⟩) (addC a0 a1).1.k.length 0]) (L_h5.at_ _ _ e_w) rfl ?_
  refine CallX.same (eqCouple_c _ _ _ ((addC a0 a1).1) ((addC a0 a1).1) ⟨_, _, _, rfl, o_g.reads.le L_h12⟩ ⟨_, _, _, rfl, o_w.reads.le L_h5⟩) ?_
  rintro r h15 ⟨rfl, rfl⟩
  refine BIf.no (by simp) ?_
  refine BIf.no (by simp) ?_
  refine DrawX.of Tt.tab follows_any [2] [] [0, 1, 2, 3, 4] rfl (by kernel_rfl) (by kernel_rfl) ?_
  refine LoadX.same (v := .agg #[.int .i64 a0.prime, .int .i64 a0.d, .int .i64 a0.e, .slice (some ⟨d_xa01, 0, none⟩) a0.i.length 1, .slice (some ⟨d_xa02, 0, none⟩) a0.j.length 1, .slice (some ⟨d_xa03, 0, none⟩) a0.k.length 1]) (L_h8.at_ _ _ e_xa0) rfl ?_
  refine LoadX.same (v := .agg #[.int .i64 a0.prime, .int .i64 a0.d, .int .i64 a0.e, .slice (some ⟨b_a01, b_a0o1, none⟩) a0.i.length 0, .slice (some ⟨b_a02, b_a0o2, none⟩) a0.j.length 0, .slice (some ⟨b_a03, b_a0o3, none⟩) a0.k.length 0]) (L_h1.at_ _ _ e_a0) rfl ?_
  refine CallX.same (toCouple_c _ _ a0 ⟨_, _, _, rfl, q_a0.le L_h⟩ (by omega)) ?_
  rintro r h16 ⟨d_ya01, d_ya02, d_ya03, l_ya0, rfl, o_ya0, gg⟩
  refine ⟨gg, ?_⟩
  have N_ya0_h := L_h.len
  have N_ya0_h1 := L_h1.len
  have N_ya0_h2 := L_h2.len
  have N_ya0_h5 := L_h5.len
  have N_ya0_h6 := L_h6.len
  have N_ya0_h8 := L_h8.len
  have N_ya0_h9 := L_h9.len
  have N_ya0_h11 := L_h11.len
  have N_ya0_h12 := L_h12.len
  have N_ya0_h14 := L_h14.len
  have L_h := L_h.trans gg
  have L_h1 := L_h1.trans gg
  have L_h2 := L_h2.trans gg
  have L_h5 := L_h5.trans gg
  have L_h6 := L_h6.trans gg
  have L_h8 := L_h8.trans gg
  have L_h9 := L_h9.trans gg
  have L_h11 := L_h11.trans gg
  have L_h12 := L_h12.trans gg
  have L_h14 := L_h14.trans gg
  have L_h16 := Le.refl h16
  refine QCall.of (fun h4 hl => eqCouple_c h4 _ _ a0 a0 (RCouple.le _ _ _ _ hl ⟨_, _, _, rfl, o_xa0.reads.le L_h6⟩) (RCouple.le _ _ _ _ hl ⟨_, _, _, rfl, o_ya0.reads.le L_h16⟩)) rfl ?_
  refine BIf.no (by simp) ?_
  refine DrawX.of Tt.tab follows_any [2] [] [0, 1, 2, 3, 4] rfl (by kernel_rfl) (by kernel_rfl) ?_
  refine LoadX.same (v := .agg #[.int .i64 a1.prime, .int .i64 a1.d, .int .i64 a1.e, .slice (some ⟨d_xa11, 0, none⟩) a1.i.length 1, .slice (some ⟨d_xa12, 0, none⟩) a1.j.length 1, .slice (some ⟨d_xa13, 0, none⟩) a1.k.length 1]) (L_h11.at_ _ _ e_xa1) rfl ?_
  refine LoadX.same (v := .agg #[.int .i64 a1.prime, .int .i64 a1.d, .int .i64 a1.e, .slice (some ⟨b_a11, b_a1o1, none⟩) a1.i.length 0, .slice (some ⟨b_a12, b_a1o2, none⟩) a1.j.length 0, .slice (some ⟨b_a13, b_a1o3, none⟩) a1.k.length 0]) (L_h2.at_ _ _ e_a1) rfl ?_
  refine CallX.same (toCouple_c _ _ a1 ⟨_, _, _, rfl, q_a1.le L_h⟩ (by omega)) ?_
  rintro r h17 ⟨d_ya11, d_ya12, d_ya13, l_ya1, rfl, o_ya1, gg⟩
  refine ⟨gg, ?_⟩
  have N_ya1_h := L_h.len
  have N_ya1_h1 := L_h1.len
  have N_ya1_h2 := L_h2.len
  have N_ya1_h5 := L_h5.len
  have N_ya1_h6 := L_h6.len
  have N_ya1_h8 := L_h8.len
  have N_ya1_h9 := L_h9.len
  have N_ya1_h11 := L_h11.len
  have N_ya1_h12 := L_h12.len
  have N_ya1_h14 := L_h14.len
  have N_ya1_h16 := L_h16.len
  have L_h := L_h.trans gg
  have L_h1 := L_h1.trans gg
  have L_h2 := L_h2.trans gg
  have L_h5 := L_h5.trans gg
  have L_h6 := L_h6.trans gg
  have L_h8 := L_h8.trans gg
  have L_h9 := L_h9.trans gg
  have L_h11 := L_h11.trans gg
  have L_h12 := L_h12.trans gg
  have L_h14 := L_h14.trans gg
  have L_h16 := L_h16.trans gg
  have L_h17 := Le.refl h17
  refine QCall.of (fun h4 hl => eqCouple_c h4 _ _ a1 a1 (RCouple.le _ _ _ _ hl ⟨_, _, _, rfl, o_xa1.reads.le L_h9⟩) (RCouple.le _ _ _ _ hl ⟨_, _, _, rfl, o_ya1.reads.le L_h17⟩)) rfl ?_
  refine BIf.no (by simp) ?_
  have lt_xa0 := OCouple.fr.lt (show OCouple _ h6 (.agg #[.int .i64 a0.prime, .int .i64 a0.d, .int .i64 a0.e, .slice (some ⟨d_xa01, 0, none⟩) a0.i.length 1, .slice (some ⟨d_xa02, 0, none⟩) a0.j.length 1, .slice (some ⟨d_xa03, 0, none⟩) a0.k.length 1]) (a0) l_xa0 from ⟨_, _, _, rfl, o_xa0⟩)
  have lt_xa1 := OCouple.fr.lt (show OCouple _ h9 (.agg #[.int .i64 a1.prime, .int .i64 a1.d, .int .i64 a1.e, .slice (some ⟨d_xa11, 0, none⟩) a1.i.length 1, .slice (some ⟨d_xa12, 0, none⟩) a1.j.length 1, .slice (some ⟨d_xa13, 0, none⟩) a1.k.length 1]) (a1) l_xa1 from ⟨_, _, _, rfl, o_xa1⟩)
  have lt_g := OCouple.fr.lt (show OCouple _ h12 (.agg #[.int .i64 (addC a0 a1).1.prime, .int .i64 (addC a0 a1).1.d, .int .i64 (addC a0 a1).1.e, .slice (some ⟨c_g1, c_go1, none⟩) (addC a0 a1).1.i.length 0, .slice (some ⟨c_g2, c_go2, none⟩) (addC a0 a1).1.j.length 0, .slice (some ⟨c_g3, c_go3, none⟩) (addC a0 a1).1.k.length 0]) ((addC a0 a1).1) l_g from ⟨_, _, _, rfl, o_g⟩)
  have dj_xa0_xa1 := OCouple.fr.dj (show OCouple _ h6 (.agg #[.int .i64 a0.prime, .int .i64 a0.d, .int .i64 a0.e, .slice (some ⟨d_xa01, 0, none⟩) a0.i.length 1, .slice (some ⟨d_xa02, 0, none⟩) a0.j.length 1, .slice (some ⟨d_xa03, 0, none⟩) a0.k.length 1]) (a0) l_xa0 from ⟨_, _, _, rfl, o_xa0⟩) OCouple.fr (show OCouple _ h9 (.agg #[.int .i64 a1.prime, .int .i64 a1.d, .int .i64 a1.e, .slice (some ⟨d_xa11, 0, none⟩) a1.i.length 1, .slice (some ⟨d_xa12, 0, none⟩) a1.j.length 1, .slice (some ⟨d_xa13, 0, none⟩) a1.k.length 1]) (a1) l_xa1 from ⟨_, _, _, rfl, o_xa1⟩) (by omega)
  have dj_xa0_g := OCouple.fr.dj (show OCouple _ h6 (.agg #[.int .i64 a0.prime, .int .i64 a0.d, .int .i64 a0.e, .slice (some ⟨d_xa01, 0, none⟩) a0.i.length 1, .slice (some ⟨d_xa02, 0, none⟩) a0.j.length 1, .slice (some ⟨d_xa03, 0, none⟩) a0.k.length 1]) (a0) l_xa0 from ⟨_, _, _, rfl, o_xa0⟩) OCouple.fr (show OCouple _ h12 (.agg #[.int .i64 (addC a0 a1).1.prime, .int .i64 (addC a0 a1).1.d, .int .i64 (addC a0 a1).1.e, .slice (some ⟨c_g1, c_go1, none⟩) (addC a0 a1).1.i.length 0, .slice (some ⟨c_g2, c_go2, none⟩) (addC a0 a1).1.j.length 0, .slice (some ⟨c_g3, c_go3, none⟩) (addC a0 a1).1.k.length 0]) ((addC a0 a1).1) l_g from ⟨_, _, _, rfl, o_g⟩) (by omega)
  have dj_xa1_g := OCouple.fr.dj (show OCouple _ h9 (.agg #[.int .i64 a1.prime, .int .i64 a1.d, .int .i64 a1.e, .slice (some ⟨d_xa11, 0, none⟩) a1.i.length 1, .slice (some ⟨d_xa12, 0, none⟩) a1.j.length 1, .slice (some ⟨d_xa13, 0, none⟩) a1.k.length 1]) (a1) l_xa1 from ⟨_, _, _, rfl, o_xa1⟩) OCouple.fr (show OCouple _ h12 (.agg #[.int .i64 (addC a0 a1).1.prime, .int .i64 (addC a0 a1).1.d, .int .i64 (addC a0 a1).1.e, .slice (some ⟨c_g1, c_go1, none⟩) (addC a0 a1).1.i.length 0, .slice (some ⟨c_g2, c_go2, none⟩) (addC a0 a1).1.j.length 0, .slice (some ⟨c_g3, c_go3, none⟩) (addC a0 a1).1.k.length 0]) ((addC a0 a1).1) l_g from ⟨_, _, _, rfl, o_g⟩) (by omega)
  refine LoadX.same (v := .agg #[.int .i64 a0.prime, .int .i64 a0.d, .int .i64 a0.e, .slice (some ⟨d_xa01, 0, none⟩) a0.i.length 1, .slice (some ⟨d_xa02, 0, none⟩) a0.j.length 1, .slice (some ⟨d_xa03, 0, none⟩) a0.k.length 1]) (L_h8.at_ _ _ e_xa0) rfl ?_
  have oc := (OCouple.fr.le (show OCouple _ h6 (.agg #[.int .i64 a0.prime, .int .i64 a0.d, .int .i64 a0.e, .slice (some ⟨d_xa01, 0, none⟩) a0.i.length 1, .slice (some ⟨d_xa02, 0, none⟩) a0.j.length 1, .slice (some ⟨d_xa03, 0, none⟩) a0.k.length 1]) (a0) l_xa0 from ⟨_, _, _, rfl, o_xa0⟩) L_h6)
  have ot := fun i hi => (OCouple.fr.leaf _ _ _ _ _ oc i hi).2
  have og := fun i hi => (OCouple.fr.leaf _ _ _ _ _ oc i hi).1
  have ol := lt_xa0
  refine CallX.same (markCouple_c _ _ _ (a0) _ _ oc (by omega) (by omega)) ?_
  rintro r h18 ⟨rfl, mk, om⟩
  have o_xa1 := OCouple.fr.mark rfl mk (OCouple.fr.le (show OCouple _ h9 (.agg #[.int .i64 a1.prime, .int .i64 a1.d, .int .i64 a1.e, .slice (some ⟨d_xa11, 0, none⟩) a1.i.length 1, .slice (some ⟨d_xa12, 0, none⟩) a1.j.length 1, .slice (some ⟨d_xa13, 0, none⟩) a1.k.length 1]) (a1) l_xa1 from ⟨_, _, _, rfl, o_xa1⟩) L_h9) dj_xa0_xa1 ot
  have e_xa1 := mk.stay (L_h11.at_ _ _ e_xa1) (fun i hi => Nat.lt_of_lt_of_le (ol i hi) (by omega))
  have o_g := OCouple.fr.mark rfl mk (OCouple.fr.le (show OCouple _ h12 (.agg #[.int .i64 (addC a0 a1).1.prime, .int .i64 (addC a0 a1).1.d, .int .i64 (addC a0 a1).1.e, .slice (some ⟨c_g1, c_go1, none⟩) (addC a0 a1).1.i.length 0, .slice (some ⟨c_g2, c_go2, none⟩) (addC a0 a1).1.j.length 0, .slice (some ⟨c_g3, c_go3, none⟩) (addC a0 a1).1.k.length 0]) ((addC a0 a1).1) l_g from ⟨_, _, _, rfl, o_g⟩) L_h12) dj_xa0_g ot
  have e_g := mk.stay (L_h14.at_ _ _ e_g) (fun i hi => Nat.lt_of_lt_of_le (ol i hi) (by omega))
  have L_h := mk.le L_h (fun i hi => Nat.le_trans N_xa0_h (og i hi))
  have L_h1 := mk.le L_h1 (fun i hi => Nat.le_trans N_xa0_h1 (og i hi))
  have L_h2 := mk.le L_h2 (fun i hi => Nat.le_trans N_xa0_h2 (og i hi))
  have L_h5 := mk.le L_h5 (fun i hi => Nat.le_trans N_xa0_h5 (og i hi))
  have L_h18 := Le.refl h18
  obtain ⟨j_1, j_2, j_3, ee, o_xa1⟩ := o_xa1
  cases ee
  obtain ⟨j_1, j_2, j_3, ee, o_g⟩ := o_g
  cases ee
  refine LoadX.same (v := .agg #[.int .i64 a1.prime, .int .i64 a1.d, .int .i64 a1.e, .slice (some ⟨d_xa11, 0, none⟩) a1.i.length 1, .slice (some ⟨d_xa12, 0, none⟩) a1.j.length 1, .slice (some ⟨d_xa13, 0, none⟩) a1.k.length 1]) (L_h18.at_ _ _ e_xa1) rfl ?_
  have oc := (OCouple.fr.le (show OCouple _ h18 (.agg #[.int .i64 a1.prime, .int .i64 a1.d, .int .i64 a1.e, .slice (some ⟨d_xa11, 0, none⟩) a1.i.length 1, .slice (some ⟨d_xa12, 0, none⟩) a1.j.length 1, .slice (some ⟨d_xa13, 0, none⟩) a1.k.length 1]) (a1) l_xa1 from ⟨_, _, _, rfl, o_xa1⟩) L_h18)
  have ot := fun i hi => (OCouple.fr.leaf _ _ _ _ _ oc i hi).2
  have og := fun i hi => (OCouple.fr.leaf _ _ _ _ _ oc i hi).1
  have ol := lt_xa1
  refine CallX.same (markCouple_c _ _ _ (a1) _ _ oc (by omega) (by omega)) ?_
  rintro r h19 ⟨rfl, mk, om⟩
  have o_g := OCouple.fr.mark rfl mk (OCouple.fr.le (show OCouple _ h18 (.agg #[.int .i64 (addC a0 a1).1.prime, .int .i64 (addC a0 a1).1.d, .int .i64 (addC a0 a1).1.e, .slice (some ⟨c_g1, c_go1, none⟩) (addC a0 a1).1.i.length 0, .slice (some ⟨c_g2, c_go2, none⟩) (addC a0 a1).1.j.length 0, .slice (some ⟨c_g3, c_go3, none⟩) (addC a0 a1).1.k.length 0]) ((addC a0 a1).1) l_g from ⟨_, _, _, rfl, o_g⟩) L_h18) dj_xa1_g ot
  have e_g := mk.stay (L_h18.at_ _ _ e_g) (fun i hi => Nat.lt_of_lt_of_le (ol i hi) (by omega))
  have L_h := mk.le L_h (fun i hi => Nat.le_trans N_xa1_h (og i hi))
  have L_h1 := mk.le L_h1 (fun i hi => Nat.le_trans N_xa1_h1 (og i hi))
  have L_h2 := mk.le L_h2 (fun i hi => Nat.le_trans N_xa1_h2 (og i hi))
  have L_h5 := mk.le L_h5 (fun i hi => Nat.le_trans N_xa1_h5 (og i hi))
  have L_h19 := Le.refl h19
  obtain ⟨j_1, j_2, j_3, ee, o_g⟩ := o_g
  cases ee
  refine BIf.no (by simp; omega) ?_
  refine LoadX.same (v := .agg #[.int .i64 (addC a0 a1).1.prime, .int .i64 (addC a0 a1).1.d, .int .i64 (addC a0 a1).1.e, .slice (some ⟨c_g1, c_go1, none⟩) (addC a0 a1).1.i.length 0, .slice (some ⟨c_g2, c_go2, none⟩) (addC a0 a1).1.j.length 0, .slice (some ⟨c_g3, c_go3, none⟩) (addC a0 a1).1.k.length 0]) (L_h19.at_ _ _ e_g) rfl ?_
  refine LoadX.same (v := .agg #[.int .i64 (addC a0 a1).1.prime, .int .i64 (addC a0 a1).1.d, .int .i64 (addC a0 a1).1.e, .slice (some ⟨c_w1, c_wo1, none⟩) (addC a0 a1).1.i.length 0, .slice (some ⟨c_w2, c_wo2, none⟩) (addC a0 a1).1.j.length 0, .slice (some ⟨c_w3, c_wo3, none⟩) (addC a0 a1).1.k.length 0]) (L_h5.at_ _ _ e_w) rfl ?_
  refine CallX.same (eqCouple_c _ _ _ ((addC a0 a1).1) ((addC a0 a1).1) ⟨_, _, _, rfl, o_g.reads.le L_h19⟩ ⟨_, _, _, rfl, o_w.reads.le L_h5⟩) ?_
  rintro r h20 ⟨rfl, rfl⟩
  refine BIf.no (by simp) ?_
  refine BIf.no (by simp) ?_
  refine LoadX.same (v := .agg #[.int .i64 (addC a0 a1).1.prime, .int .i64 (addC a0 a1).1.d, .int .i64 (addC a0 a1).1.e, .slice (some ⟨c_g1, c_go1, none⟩) (addC a0 a1).1.i.length 0, .slice (some ⟨c_g2, c_go2, none⟩) (addC a0 a1).1.j.length 0, .slice (some ⟨c_g3, c_go3, none⟩) (addC a0 a1).1.k.length 0]) (L_h19.at_ _ _ e_g) rfl ?_
  have oc := (OCouple.fr.le (show OCouple _ h20 (.agg #[.int .i64 (addC a0 a1).1.prime, .int .i64 (addC a0 a1).1.d, .int .i64 (addC a0 a1).1.e, .slice (some ⟨c_g1, c_go1, none⟩) (addC a0 a1).1.i.length 0, .slice (some ⟨c_g2, c_go2, none⟩) (addC a0 a1).1.j.length 0, .slice (some ⟨c_g3, c_go3, none⟩) (addC a0 a1).1.k.length 0]) ((addC a0 a1).1) l_g from ⟨_, _, _, rfl, o_g⟩) L_h19)
  have ot := fun i hi => (OCouple.fr.leaf _ _ _ _ _ oc i hi).2
  have og := fun i hi => (OCouple.fr.leaf _ _ _ _ _ oc i hi).1
  have ol := lt_g
  refine CallX.same (markCouple_c _ _ _ ((addC a0 a1).1) _ _ oc (by omega) (by omega)) ?_
  rintro r h21 ⟨rfl, mk, om⟩
  have e_g := mk.stay (L_h19.at_ _ _ e_g) (fun i hi => Nat.lt_of_lt_of_le (ol i hi) (by omega))
  have L_h := mk.le L_h (fun i hi => Nat.le_trans N_g_h (og i hi))
  have L_h1 := mk.le L_h1 (fun i hi => Nat.le_trans N_g_h1 (og i hi))
  have L_h2 := mk.le L_h2 (fun i hi => Nat.le_trans N_g_h2 (og i hi))
  have L_h5 := mk.le L_h5 (fun i hi => Nat.le_trans N_g_h5 (og i hi))
  have L_h21 := Le.refl h21
  have o_m := OCouple.reads _ _ _ _ _ om
  refine LoadX.same (v := .agg #[.int .i64 (addC a0 a1).1.prime, .int .i64 (addC a0 a1).1.d, .int .i64 (addC a0 a1).1.e, .slice (some ⟨c_g1, c_go1, none⟩) (addC a0 a1).1.i.length 0, .slice (some ⟨c_g2, c_go2, none⟩) (addC a0 a1).1.j.length 0, .slice (some ⟨c_g3, c_go3, none⟩) (addC a0 a1).1.k.length 0]) (L_h21.at_ _ _ e_g) rfl ?_
  refine CallX.same (heldCouple_c _ _ ((addC a0 a1).1) _ (RCouple.le _ _ _ _ L_h21 o_m) (by omega) (by omega)) ?_
  rintro r h22 ⟨rfl, rfl⟩
  refine BIf.no (by simp; omega) ?_
  refine BIf.no (by simp) ?_
  refine DrawX.tree Tt.tab follows_any [1, 3, 4, 8] [9] (.op 0 (.op 2 (.alt (.op 1 (.alt (.op 3 (.alt (.op 4 (.op 5 (.op 6 (.op 7 (.op 8 (.op 9 (.op 10 (.nil)))))))) (.op 8 (.op 4 (.op 5 (.op 6 (.op 7 (.op 9 (.op 10 (.nil)))))))))) (.op 8 (.op 3 (.op 4 (.op 5 (.op 6 (.op 7 (.op 9 (.op 10 (.nil))))))))))) (.op 8 (.op 1 (.op 3 (.op 4 (.op 5 (.op 6 (.op 7 (.op 9 (.op 10 (.nil))))))))))))) [6, 7, 10, 13, 15, 16] (fun vs g => ∃ (p_f c_f1 c_fo1 c_f2 c_fo2 c_f3 c_fo3 : Nat) (l_f : List Nat) (nw : Nat), vs = [.pointer (some ⟨p_w, 0, none⟩), .int .i64 (addC a0 a1).2, .pointer (some ⟨p_g, 0, none⟩), .int .i64 (1 + cnCouple (addC a0 a1).1), .pointer (some ⟨p_f, 0, none⟩), .int .i64 (addC a0 a1).2] ∧ Le h22 g ∧ look g p_f = some ⟨[.int .i64 (addC a0 a1).1.prime, .int .i64 (addC a0 a1).1.d, .int .i64 (addC a0 a1).1.e, .slice (some ⟨c_f1, c_fo1, none⟩) (addC a0 a1).1.i.length 0, .slice (some ⟨c_f2, c_fo2, none⟩) (addC a0 a1).1.j.length 0, .slice (some ⟨c_f3, c_fo3, none⟩) (addC a0 a1).1.k.length 0], some (59, 6)⟩ ∧ PCouple nw g (.slice (some ⟨c_f1, c_fo1, none⟩) (addC a0 a1).1.i.length 0) (.slice (some ⟨c_f2, c_fo2, none⟩) (addC a0 a1).1.j.length 0) (.slice (some ⟨c_f3, c_fo3, none⟩) (addC a0 a1).1.k.length 0) ((addC a0 a1).1) l_f) (by kernel_rfl) (by kernel_rfl) ?_ ?_
  · have L2 := Le.refl h22
    refine LoadX.same (v := .agg #[.int .i64 a0.prime, .int .i64 a0.d, .int .i64 a0.e, .slice (some ⟨b_a01, b_a0o1, none⟩) a0.i.length 0, .slice (some ⟨b_a02, b_a0o2, none⟩) a0.j.length 0, .slice (some ⟨b_a03, b_a0o3, none⟩) a0.k.length 0]) (L_h1.at_ _ _ e_a0) rfl ?_
    refine LoadX.same (v := .agg #[.int .i64 a1.prime, .int .i64 a1.d, .int .i64 a1.e, .slice (some ⟨b_a11, b_a1o1, none⟩) a1.i.length 0, .slice (some ⟨b_a12, b_a1o2, none⟩) a1.j.length 0, .slice (some ⟨b_a13, b_a1o3, none⟩) a1.k.length 0]) (L_h2.at_ _ _ e_a1) rfl ?_
    refine ⟨?_, ?_⟩
    · refine CallX.same (toCouple_c _ _ a0 ⟨_, _, _, rfl, q_a0.le (L_h.trans L2)⟩ (by omega)) ?_
      rintro r g ⟨_, _, _, _, rfl, oA, gg⟩
      refine ⟨gg, ?_⟩
      have qA := oA.reads
      have L2 := L2.trans gg
      refine ⟨?_, ?_⟩
      · refine CallX.same (toCouple_c _ _ a1 ⟨_, _, _, rfl, q_a1.le (L_h.trans L2)⟩ (by omega)) ?_
        rintro r g ⟨_, _, _, _, rfl, oB, gg⟩
        refine ⟨gg, ?_⟩
        have qB := oB.reads
        have L2 := L2.trans gg
        have qA := qA.le gg
        refine ⟨?_, ?_⟩
        · refine CallX.canon (addCI_c _ _ a0 ⟨_, _, _, rfl, qA⟩ _ a1 ⟨_, _, _, rfl, qB⟩) ?_
          rintro r g ⟨v, l_f, rfl, ⟨u_f1, u_f2, u_f3, rfl, oW⟩, gg⟩
          obtain ⟨c_f1, c_fo1, c_f2, c_fo2, c_f3, c_fo3, k_f1, k_f2, k_f3, oW⟩ := oW.can
          refine ⟨_, (Wk.tuple (.cons (Wk.agg (.cons (Wk.refl _) (.cons (Wk.refl _) (.cons (Wk.refl _) (.cons k_f1 (.cons k_f2 (.cons k_f3 .nil))))))) (.cons (Wk.refl _) .nil))), gg, ?_⟩
          have L2 := L2.trans gg
          have qA := qA.le gg
          have qB := qB.le gg
          refine NewX.intro fun p_f g gg z_w m_w => ⟨gg, ?_⟩
          have m_w := Nat.le_trans L2.len m_w
          have L2 := L2.trans gg
          have qA := qA.le gg
          have qB := qB.le gg
          have oW := oW.leX gg
          refine StoreX.intro z_w rfl (show (0 + 6 : Nat) ≤ 6 by decide) fun g ee (e_w : look g p_f = some ⟨[.int .i64 (addC a0 a1).1.prime, .int .i64 (addC a0 a1).1.d, .int .i64 (addC a0 a1).1.e, .slice (some ⟨c_f1, c_fo1, none⟩) (addC a0 a1).1.i.length 0, .slice (some ⟨c_f2, c_fo2, none⟩) (addC a0 a1).1.j.length 0, .slice (some ⟨c_f3, c_fo3, none⟩) (addC a0 a1).1.k.length 0], some (59, 6)⟩) ao gl => ?_
          have L2 := gl _ L2 m_w
          have oW := oW.asideX z_w rfl rfl ao
          exact ⟨_, _, _, _, _, _, _, _, _, rfl, L2, e_w, oW⟩
        · refine NewX.intro fun p_f g gg z_w m_w => ⟨gg, ?_⟩
          have m_w := Nat.le_trans L2.len m_w
          have L2 := L2.trans gg
          have qA := qA.le gg
          have qB := qB.le gg
          refine CallX.canon (addCI_c _ _ a0 ⟨_, _, _, rfl, qA⟩ _ a1 ⟨_, _, _, rfl, qB⟩) ?_
          rintro r g ⟨v, l_f, rfl, ⟨u_f1, u_f2, u_f3, rfl, oW⟩, gg⟩
          obtain ⟨c_f1, c_fo1, c_f2, c_fo2, c_f3, c_fo3, k_f1, k_f2, k_f3, oW⟩ := oW.can
          refine ⟨_, (Wk.tuple (.cons (Wk.agg (.cons (Wk.refl _) (.cons (Wk.refl _) (.cons (Wk.refl _) (.cons k_f1 (.cons k_f2 (.cons k_f3 .nil))))))) (.cons (Wk.refl _) .nil))), gg, ?_⟩
          have L2 := L2.trans gg
          have qA := qA.le gg
          have qB := qB.le gg
          have z_w := gg.at_ _ _ z_w
          refine StoreX.intro z_w rfl (show (0 + 6 : Nat) ≤ 6 by decide) fun g ee (e_w : look g p_f = some ⟨[.int .i64 (addC a0 a1).1.prime, .int .i64 (addC a0 a1).1.d, .int .i64 (addC a0 a1).1.e, .slice (some ⟨c_f1, c_fo1, none⟩) (addC a0 a1).1.i.length 0, .slice (some ⟨c_f2, c_fo2, none⟩) (addC a0 a1).1.j.length 0, .slice (some ⟨c_f3, c_fo3, none⟩) (addC a0 a1).1.k.length 0], some (59, 6)⟩) ao gl => ?_
          have L2 := gl _ L2 m_w
          have oW := oW.asideX z_w rfl rfl ao
          exact ⟨_, _, _, _, _, _, _, _, _, rfl, L2, e_w, oW⟩
      · refine NewX.intro fun p_f g gg z_w m_w => ⟨gg, ?_⟩
        have m_w := Nat.le_trans L2.len m_w
        have L2 := L2.trans gg
        have qA := qA.le gg
        refine CallX.same (toCouple_c _ _ a1 ⟨_, _, _, rfl, q_a1.le (L_h.trans L2)⟩ (by omega)) ?_
        rintro r g ⟨_, _, _, _, rfl, oB, gg⟩
        refine ⟨gg, ?_⟩
        have qB := oB.reads
        have L2 := L2.trans gg
        have qA := qA.le gg
        have z_w := gg.at_ _ _ z_w
        refine CallX.canon (addCI_c _ _ a0 ⟨_, _, _, rfl, qA⟩ _ a1 ⟨_, _, _, rfl, qB⟩) ?_
        rintro r g ⟨v, l_f, rfl, ⟨u_f1, u_f2, u_f3, rfl, oW⟩, gg⟩
        obtain ⟨c_f1, c_fo1, c_f2, c_fo2, c_f3, c_fo3, k_f1, k_f2, k_f3, oW⟩ := oW.can
        refine ⟨_, (Wk.tuple (.cons (Wk.agg (.cons (Wk.refl _) (.cons (Wk.refl _) (.cons (Wk.refl _) (.cons k_f1 (.cons k_f2 (.cons k_f3 .nil))))))) (.cons (Wk.refl _) .nil))), gg, ?_⟩
        have L2 := L2.trans gg
        have qA := qA.le gg
        have qB := qB.le gg
        have z_w := gg.at_ _ _ z_w
        refine StoreX.intro z_w rfl (show (0 + 6 : Nat) ≤ 6 by decide) fun g ee (e_w : look g p_f = some ⟨[.int .i64 (addC a0 a1).1.prime, .int .i64 (addC a0 a1).1.d, .int .i64 (addC a0 a1).1.e, .slice (some ⟨c_f1, c_fo1, none⟩) (addC a0 a1).1.i.length 0, .slice (some ⟨c_f2, c_fo2, none⟩) (addC a0 a1).1.j.length 0, .slice (some ⟨c_f3, c_fo3, none⟩) (addC a0 a1).1.k.length 0], some (59, 6)⟩) ao gl => ?_
        have L2 := gl _ L2 m_w
        have oW := oW.asideX z_w rfl rfl ao
        exact ⟨_, _, _, _, _, _, _, _, _, rfl, L2, e_w, oW⟩
    · refine NewX.intro fun p_f g gg z_w m_w => ⟨gg, ?_⟩
      have m_w := Nat.le_trans L2.len m_w
      have L2 := L2.trans gg
      refine CallX.same (toCouple_c _ _ a0 ⟨_, _, _, rfl, q_a0.le (L_h.trans L2)⟩ (by omega)) ?_
      rintro r g ⟨_, _, _, _, rfl, oA, gg⟩
      refine ⟨gg, ?_⟩
      have qA := oA.reads
      have L2 := L2.trans gg
      have z_w := gg.at_ _ _ z_w
      refine CallX.same (toCouple_c _ _ a1 ⟨_, _, _, rfl, q_a1.le (L_h.trans L2)⟩ (by omega)) ?_
      rintro r g ⟨_, _, _, _, rfl, oB, gg⟩
      refine ⟨gg, ?_⟩
      have qB := oB.reads
      have L2 := L2.trans gg
      have qA := qA.le gg
      have z_w := gg.at_ _ _ z_w
      refine CallX.canon (addCI_c _ _ a0 ⟨_, _, _, rfl, qA⟩ _ a1 ⟨_, _, _, rfl, qB⟩) ?_
      rintro r g ⟨v, l_f, rfl, ⟨u_f1, u_f2, u_f3, rfl, oW⟩, gg⟩
      obtain ⟨c_f1, c_fo1, c_f2, c_fo2, c_f3, c_fo3, k_f1, k_f2, k_f3, oW⟩ := oW.can
      refine ⟨_, (Wk.tuple (.cons (Wk.agg (.cons (Wk.refl _) (.cons (Wk.refl _) (.cons (Wk.refl _) (.cons k_f1 (.cons k_f2 (.cons k_f3 .nil))))))) (.cons (Wk.refl _) .nil))), gg, ?_⟩
      have L2 := L2.trans gg
      have qA := qA.le gg
      have qB := qB.le gg
      have z_w := gg.at_ _ _ z_w
      refine StoreX.intro z_w rfl (show (0 + 6 : Nat) ≤ 6 by decide) fun g ee (e_w : look g p_f = some ⟨[.int .i64 (addC a0 a1).1.prime, .int .i64 (addC a0 a1).1.d, .int .i64 (addC a0 a1).1.e, .slice (some ⟨c_f1, c_fo1, none⟩) (addC a0 a1).1.i.length 0, .slice (some ⟨c_f2, c_fo2, none⟩) (addC a0 a1).1.j.length 0, .slice (some ⟨c_f3, c_fo3, none⟩) (addC a0 a1).1.k.length 0], some (59, 6)⟩) ao gl => ?_
      have L2 := gl _ L2 m_w
      have oW := oW.asideX z_w rfl rfl ao
      exact ⟨_, _, _, _, _, _, _, _, _, rfl, L2, e_w, oW⟩
  rintro vs h23 ⟨p_f, c_f1, c_fo1, c_f2, c_fo2, c_f3, c_fo3, l_f, nw_f, rfl, gg, e_f, o_f⟩
  have L_h := L_h.trans gg
  have L_h1 := L_h1.trans gg
  have L_h2 := L_h2.trans gg
  have L_h5 := L_h5.trans gg
  have L_h21 := L_h21.trans gg
  have L_h23 := Le.refl h23
  refine LoadX.same (v := .agg #[.int .i64 (addC a0 a1).1.prime, .int .i64 (addC a0 a1).1.d, .int .i64 (addC a0 a1).1.e, .slice (some ⟨c_f1, c_fo1, none⟩) (addC a0 a1).1.i.length 0, .slice (some ⟨c_f2, c_fo2, none⟩) (addC a0 a1).1.j.length 0, .slice (some ⟨c_f3, c_fo3, none⟩) (addC a0 a1).1.k.length 0]) (L_h23.at_ _ _ e_f) rfl ?_
  refine LoadX.same (v := .agg #[.int .i64 (addC a0 a1).1.prime, .int .i64 (addC a0 a1).1.d, .int .i64 (addC a0 a1).1.e, .slice (some ⟨c_w1, c_wo1, none⟩) (addC a0 a1).1.i.length 0, .slice (some ⟨c_w2, c_wo2, none⟩) (addC a0 a1).1.j.length 0, .slice (some ⟨c_w3, c_wo3, none⟩) (addC a0 a1).1.k.length 0]) (L_h5.at_ _ _ e_w) rfl ?_
  refine CallX.same (eqCouple_c _ _ _ ((addC a0 a1).1) ((addC a0 a1).1) ⟨_, _, _, rfl, o_f.reads.le L_h23⟩ ⟨_, _, _, rfl, o_w.reads.le L_h5⟩) ?_
  rintro r h24 ⟨rfl, rfl⟩
  refine BIf.no (by simp) ?_
  refine BIf.no (by simp) ?_
  refine LoadX.same (v := .agg #[.int .i64 (addC a0 a1).1.prime, .int .i64 (addC a0 a1).1.d, .int .i64 (addC a0 a1).1.e, .slice (some ⟨c_g1, c_go1, none⟩) (addC a0 a1).1.i.length 0, .slice (some ⟨c_g2, c_go2, none⟩) (addC a0 a1).1.j.length 0, .slice (some ⟨c_g3, c_go3, none⟩) (addC a0 a1).1.k.length 0]) (L_h21.at_ _ _ e_g) rfl ?_
  refine CallX.same (heldCouple_c _ _ ((addC a0 a1).1) _ (RCouple.le _ _ _ _ L_h21 o_m) (by omega) (by omega)) ?_
  rintro r h25 ⟨rfl, rfl⟩
  refine BIf.no (by simp; omega) ?_
  refine BIf.no (by simp) ?_
  exact FinX.keep hw L_h rfl ⟨rfl, rfl⟩


end Go.Gl

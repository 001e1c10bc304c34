/- FnSpaces: the law, walked; written by mk_v5.py. No condition. -/
import Derived.Test.YtblbcjemoadfpaaFnV4
import Derived.Test.YtblbcjemoadfpaaFnK3
import Derived.Test.YtblbcjemoadfpaaPlV
set_option linter.unusedVariables false
set_option linter.unusedSimpArgs false
namespace Go.Gl
open Go.Proofs Go.Proofs.Ytblbcjemoadfpaa Go.Pl

theorem spaceOk_mk {p n : Int} {ls0 ls : List (List (List Int))} (h0 : spaceOk p n ls0 = true) (h : ∀ rows ∈ ls, rows.length ≤ 40 ∧ Mat p n.toNat rows) : spaceOk p n ls = true := by
  simp only [spaceOk, Bool.and_eq_true, decide_eq_true_eq] at h0 ⊢
  obtain ⟨⟨h1, h2⟩, _⟩ := h0
  refine ⟨⟨h1, h2⟩, List.all_eq_true.2 fun rows hr => ?_⟩
  obtain ⟨h3, h4⟩ := h rows hr
  simp only [Bool.and_eq_true, decide_eq_true_eq]
  refine ⟨h3, List.all_eq_true.2 fun v hv => ?_⟩
  obtain ⟨h5, h6⟩ := h4 v hv
  simp only [vecOk, Bool.and_eq_true, decide_eq_true_eq]
  refine ⟨by omega, List.all_eq_true.2 fun x hx => ?_⟩
  have := h6 x hx
  simp only [decide_eq_true_eq]
  omega
theorem meetN_eq (p : Int) (n : Nat) (a b : List (List Int)) : meetP p n a b = ech p (meetL p n (ech p a) (ech p b)) := rfl
/-- what the law asks, in plain words -/
theorem spaces_plain {p n : Int} {a b : List (List Int)} (hs : spaceOk p n [a, b] = true) : meetOf p n a b = (meetP p n.toNat a b, 0) ∧ sumSp p n a b = (ech p (a ++ b), 0) ∧ reduceRows p n a = (ech p a, 0) ∧ reduceRows p n b = (ech p b, 0) ∧ reduceRows p n (ech p a) = (ech p a, 0) ∧
    meetOf p n b a = (meetP p n.toNat a b, 0) ∧ sumSp p n (meetP p n.toNat a b) a = (ech p a, 0) ∧ (meetP p n.toNat a b).length + (ech p (a ++ b)).length = (ech p a).length + (ech p b).length ∧ (ech p a).length ≤ 40 ∧ (ech p b).length ≤ 40 := by
  obtain ⟨h1, h2, h3, h4⟩ := spaceOk_one hs (rows := a) (by simp)
  obtain ⟨_, _, h5, h6⟩ := spaceOk_one hs (rows := b) (by simp)
  have hpp := h1.rng
  obtain ⟨a1, a2, a3⟩ := ech_spec h1 h4
  obtain ⟨b1, b2, b3⟩ := ech_spec h1 h6
  obtain ⟨m1, m2, m3⟩ := ech_spec h1 (meetL_mat (p := p) (n := n.toNat) (a := ech p a) (b := ech p b) (by omega))
  have la := a1.len
  have lb := b1.len
  have lm := m1.len
  have hm := meetN_eq p n.toNat a b
  have hm2 := meetN_eq p n.toNat b a
  rw [meetL_sym h1 a1.mat b1.mat] at hm2
  have k1 := spaceOk_mk hs (ls := [a]) (by simp; exact ⟨h3, h4⟩)
  have k2 := spaceOk_mk hs (ls := [b]) (by simp; exact ⟨h5, h6⟩)
  have k3 := spaceOk_mk hs (ls := [ech p a]) (by simp; exact ⟨by omega, a1.mat⟩)
  have k4 := spaceOk_mk hs (ls := [b, a]) (by simp; exact ⟨⟨h5, h6⟩, ⟨h3, h4⟩⟩)
  have k5 := spaceOk_mk hs (ls := [meetP p n.toNat a b, a]) (by rw [hm]; simp; exact ⟨⟨by omega, m1.mat⟩, ⟨h3, h4⟩⟩)
  unfold meetOf sumSp reduceRows
  rw [if_pos hs, if_pos hs, if_pos k1, if_pos k2, if_pos k3, if_pos k4, if_pos k5]
  refine ⟨rfl, rfl, rfl, rfl, by rw [ech_red h1 a1], by rw [hm, hm2], by rw [hm, meet_in h1 h4 h6], by rw [hm]; exact sum_meet h1 h4 h6, by omega, by omega⟩
theorem CallX.madeC {P : Program} {f : FuncId} {args : List Value} {h : AH} {x : List (List Int)} {c : Int} {K : Value → AH → Prop} (hc : ACalls P f args h (MadeC OII h x c)) (hk : ∀ b o h', Le h h' → RII h' (.slice (some ⟨b, o, none⟩) x.length 0) x → K (.tuple #[.slice (some ⟨b, o, none⟩) x.length 0, .int .i64 c]) h') : CallX P f args h K := by
  refine CallX.canon hc ?_
  rintro r h' ⟨v, l, rfl, ho, L⟩
  obtain ⟨b, o, k, ho⟩ := Node.can ho
  exact ⟨_, Wk.tuple (.cons k (.cons (Wk.refl _) .nil)), hk b o h' L (OII.reads _ _ _ _ _ ho)⟩

set_option maxHeartbeats 8000000 in
theorem FnSpaces_law (h : AH) (v : Value) (xs : List Int) (hx : R8 h v xs) : ACalls Try.prog 8 [v] h (fun r h' => r = .bool true ∧ h' = h) := by
  obtain ⟨bc, oc, kc, hx⟩ := hx.can
  refine ACalls.wk (args' := [.slice (some ⟨bc, oc, none⟩) xs.length 0]) ?_ (.cons kc .nil)
  refine ACalls.of Tt.tab Try.func8 rfl (by kernel_rfl) Try.ntmps8 _ rfl rfl (fun hw => ?_)
  have Lh := Le.refl h
  have hxx := hx
  refine CallX.same (big_c _ _ xs hxx) ?_
  rintro r g0 ⟨rfl, rfl⟩
  refine BIf.mk (fun hb => ?_) (fun hb => ?_)
  · exact FinX.keep hw Lh rfl ⟨rfl, rfl⟩
  have hb : xs.length ≤ 1000000 := by simp at hb; omega
  refine CallX.same (drawMeet_c _ _ xs hxx hb) ?_
  rintro r g ⟨p, n, b1, k1, b2, k2, a, b, rfl, ra, rb, L⟩
  replace hxx := R8.le _ _ _ _ L hxx
  replace Lh := Lh.trans L
  refine CallX.madeC (meetOfI_c _ p n _ a ra _ b rb) fun b1 o1 g L r1 => ?_
  replace hxx := R8.le _ _ _ _ L hxx
  replace ra := RII.le _ _ _ _ L ra
  replace rb := RII.le _ _ _ _ L rb
  replace Lh := Lh.trans L
  refine CallX.madeC (meetOfS_c _ p n _ a ra _ b rb) fun b2 o2 g L r2 => ?_
  replace hxx := R8.le _ _ _ _ L hxx
  replace ra := RII.le _ _ _ _ L ra
  replace rb := RII.le _ _ _ _ L rb
  replace r1 := RII.le _ _ _ _ L r1
  replace Lh := Lh.trans L
  refine CallX.madeC (sumSpI_c _ p n _ a ra _ b rb) fun b3 o3 g L r3 => ?_
  replace hxx := R8.le _ _ _ _ L hxx
  replace ra := RII.le _ _ _ _ L ra
  replace rb := RII.le _ _ _ _ L rb
  replace r1 := RII.le _ _ _ _ L r1
  replace r2 := RII.le _ _ _ _ L r2
  replace Lh := Lh.trans L
  refine CallX.madeC (sumSpS_c _ p n _ a ra _ b rb) fun b4 o4 g L r4 => ?_
  replace hxx := R8.le _ _ _ _ L hxx
  replace ra := RII.le _ _ _ _ L ra
  replace rb := RII.le _ _ _ _ L rb
  replace r1 := RII.le _ _ _ _ L r1
  replace r2 := RII.le _ _ _ _ L r2
  replace r3 := RII.le _ _ _ _ L r3
  replace Lh := Lh.trans L
  refine BIf.no (by simp) ?_
  refine CallX.same (rows5_c _ _ _ _ _ r1 r2 rfl) ?_
  rintro r g' ⟨rfl, rfl⟩
  refine BIf.no rfl ?_
  refine BIf.no (by simp) ?_
  refine CallX.same (rows5_c _ _ _ _ _ r3 r4 rfl) ?_
  rintro r g' ⟨rfl, rfl⟩
  refine BIf.no rfl ?_
  cases hs : spaceOk p n [a, b] with
  | false =>
    have e1 : (meetOf p n a b).2 = 2 := by unfold meetOf; rw [if_neg (by rw [hs]; simp)]
    refine BIf.no (by rw [e1]; rfl) ?_
    refine CallX.same (drawReduce_c _ _ xs hxx hb) ?_
    rintro r g ⟨q, m, b9, k9, c, rfl, rc, L⟩
    replace hxx := R8.le _ _ _ _ L hxx
    replace ra := RII.le _ _ _ _ L ra
    replace rb := RII.le _ _ _ _ L rb
    replace r1 := RII.le _ _ _ _ L r1
    replace r2 := RII.le _ _ _ _ L r2
    replace r3 := RII.le _ _ _ _ L r3
    replace r4 := RII.le _ _ _ _ L r4
    replace Lh := Lh.trans L
    refine CallX.madeC (reduceRowsI_c _ q m _ c rc) fun b7 o7 g L r7 => ?_
    replace hxx := R8.le _ _ _ _ L hxx
    replace ra := RII.le _ _ _ _ L ra
    replace rb := RII.le _ _ _ _ L rb
    replace r1 := RII.le _ _ _ _ L r1
    replace r2 := RII.le _ _ _ _ L r2
    replace r3 := RII.le _ _ _ _ L r3
    replace r4 := RII.le _ _ _ _ L r4
    replace rc := RII.le _ _ _ _ L rc
    replace Lh := Lh.trans L
    refine CallX.madeC (reduceRowsS_c _ q m _ c rc) fun b8 o8 g L r8 => ?_
    replace hxx := R8.le _ _ _ _ L hxx
    replace ra := RII.le _ _ _ _ L ra
    replace rb := RII.le _ _ _ _ L rb
    replace r1 := RII.le _ _ _ _ L r1
    replace r2 := RII.le _ _ _ _ L r2
    replace r3 := RII.le _ _ _ _ L r3
    replace r4 := RII.le _ _ _ _ L r4
    replace rc := RII.le _ _ _ _ L rc
    replace r7 := RII.le _ _ _ _ L r7
    replace Lh := Lh.trans L
    refine BIf.yes (by simp) ?_
    refine CallX.same (rows5_c _ _ _ _ _ r7 r8 rfl) ?_
    rintro r g' ⟨rfl, rfl⟩
    exact FinX.keep hw Lh rfl ⟨rfl, rfl⟩
  | true =>
    obtain ⟨e1, e2, e3, e4, e5, e6, e7, e8, e9, e10⟩ := spaces_plain hs
    refine BIf.yes (by rw [e1]; rfl) ?_
    refine CallX.madeC (reduceRowsI_c _ p n _ a ra) fun bf of g L rf => ?_
    replace hxx := R8.le _ _ _ _ L hxx
    replace ra := RII.le _ _ _ _ L ra
    replace rb := RII.le _ _ _ _ L rb
    replace r1 := RII.le _ _ _ _ L r1
    replace r2 := RII.le _ _ _ _ L r2
    replace r3 := RII.le _ _ _ _ L r3
    replace r4 := RII.le _ _ _ _ L r4
    replace Lh := Lh.trans L
    refine CallX.madeC (reduceRowsI_c _ p n _ b rb) fun bs os g L rs => ?_
    replace hxx := R8.le _ _ _ _ L hxx
    replace ra := RII.le _ _ _ _ L ra
    replace rb := RII.le _ _ _ _ L rb
    replace r1 := RII.le _ _ _ _ L r1
    replace r2 := RII.le _ _ _ _ L r2
    replace r3 := RII.le _ _ _ _ L r3
    replace r4 := RII.le _ _ _ _ L r4
    replace rf := RII.le _ _ _ _ L rf
    replace Lh := Lh.trans L
    refine CallX.madeC (reduceRowsI_c _ p n _ _ rf) fun bt ot g L rt => ?_
    replace hxx := R8.le _ _ _ _ L hxx
    replace ra := RII.le _ _ _ _ L ra
    replace rb := RII.le _ _ _ _ L rb
    replace r1 := RII.le _ _ _ _ L r1
    replace r2 := RII.le _ _ _ _ L r2
    replace r3 := RII.le _ _ _ _ L r3
    replace r4 := RII.le _ _ _ _ L r4
    replace rf := RII.le _ _ _ _ L rf
    replace rs := RII.le _ _ _ _ L rs
    replace Lh := Lh.trans L
    refine CallX.madeC (meetOfI_c _ p n _ b rb _ a ra) fun bu ou g L ru => ?_
    replace hxx := R8.le _ _ _ _ L hxx
    replace ra := RII.le _ _ _ _ L ra
    replace rb := RII.le _ _ _ _ L rb
    replace r1 := RII.le _ _ _ _ L r1
    replace r2 := RII.le _ _ _ _ L r2
    replace r3 := RII.le _ _ _ _ L r3
    replace r4 := RII.le _ _ _ _ L r4
    replace rf := RII.le _ _ _ _ L rf
    replace rs := RII.le _ _ _ _ L rs
    replace rt := RII.le _ _ _ _ L rt
    replace Lh := Lh.trans L
    refine CallX.madeC (sumSpI_c _ p n _ _ r1 _ a ra) fun bx ox g L rx => ?_
    replace hxx := R8.le _ _ _ _ L hxx
    replace ra := RII.le _ _ _ _ L ra
    replace rb := RII.le _ _ _ _ L rb
    replace r1 := RII.le _ _ _ _ L r1
    replace r2 := RII.le _ _ _ _ L r2
    replace r3 := RII.le _ _ _ _ L r3
    replace r4 := RII.le _ _ _ _ L r4
    replace rf := RII.le _ _ _ _ L rf
    replace rs := RII.le _ _ _ _ L rs
    replace rt := RII.le _ _ _ _ L rt
    replace ru := RII.le _ _ _ _ L ru
    replace Lh := Lh.trans L
    have l1 : (meetOf p n a b).1.length = (meetP p n.toNat a b).length := by rw [e1]
    have l2 : (sumSp p n a b).1.length = (ech p (a ++ b)).length := by rw [e2]
    have l3 : (reduceRows p n a).1.length = (ech p a).length := by rw [e3]
    have l4 : (reduceRows p n b).1.length = (ech p b).length := by rw [e4]
    refine BIf.no (by simp [e2]) ?_
    refine BIf.no (by simp [e3]) ?_
    refine BIf.no (by simp [e4]) ?_
    refine BIf.no (by simp [e3, e5]) ?_
    refine BIf.no (by simp [e6]) ?_
    refine BIf.no (by simp [e1, e7]) ?_
    refine WR.i64 ?_
    refine WR.i64 ?_
    refine BIf.no (by simp; omega) ?_
    refine CallX.same (rows5_c _ _ _ _ _ rt rf (by simp [e3, e5])) ?_
    rintro r g' ⟨rfl, rfl⟩
    refine BIf.no rfl ?_
    refine CallX.same (rows5_c _ _ _ _ _ ru r1 (by simp [e6, e1])) ?_
    rintro r g' ⟨rfl, rfl⟩
    refine BIf.no rfl ?_
    refine CallX.same (rows5_c _ _ _ _ _ rx rf (by simp [e1, e7, e3])) ?_
    rintro r g' ⟨rfl, rfl⟩
    refine BIf.no rfl ?_
    refine CallX.same (drawReduce_c _ _ xs hxx hb) ?_
    rintro r g ⟨q, m, b9, k9, c, rfl, rc, L⟩
    replace hxx := R8.le _ _ _ _ L hxx
    replace ra := RII.le _ _ _ _ L ra
    replace rb := RII.le _ _ _ _ L rb
    replace r1 := RII.le _ _ _ _ L r1
    replace r2 := RII.le _ _ _ _ L r2
    replace r3 := RII.le _ _ _ _ L r3
    replace r4 := RII.le _ _ _ _ L r4
    replace rf := RII.le _ _ _ _ L rf
    replace rs := RII.le _ _ _ _ L rs
    replace rt := RII.le _ _ _ _ L rt
    replace ru := RII.le _ _ _ _ L ru
    replace rx := RII.le _ _ _ _ L rx
    replace Lh := Lh.trans L
    refine CallX.madeC (reduceRowsI_c _ q m _ c rc) fun b7 o7 g L r7 => ?_
    replace hxx := R8.le _ _ _ _ L hxx
    replace ra := RII.le _ _ _ _ L ra
    replace rb := RII.le _ _ _ _ L rb
    replace r1 := RII.le _ _ _ _ L r1
    replace r2 := RII.le _ _ _ _ L r2
    replace r3 := RII.le _ _ _ _ L r3
    replace r4 := RII.le _ _ _ _ L r4
    replace rf := RII.le _ _ _ _ L rf
    replace rs := RII.le _ _ _ _ L rs
    replace rt := RII.le _ _ _ _ L rt
    replace ru := RII.le _ _ _ _ L ru
    replace rx := RII.le _ _ _ _ L rx
    replace rc := RII.le _ _ _ _ L rc
    replace Lh := Lh.trans L
    refine CallX.madeC (reduceRowsS_c _ q m _ c rc) fun b8 o8 g L r8 => ?_
    replace hxx := R8.le _ _ _ _ L hxx
    replace ra := RII.le _ _ _ _ L ra
    replace rb := RII.le _ _ _ _ L rb
    replace r1 := RII.le _ _ _ _ L r1
    replace r2 := RII.le _ _ _ _ L r2
    replace r3 := RII.le _ _ _ _ L r3
    replace r4 := RII.le _ _ _ _ L r4
    replace rf := RII.le _ _ _ _ L rf
    replace rs := RII.le _ _ _ _ L rs
    replace rt := RII.le _ _ _ _ L rt
    replace ru := RII.le _ _ _ _ L ru
    replace rx := RII.le _ _ _ _ L rx
    replace rc := RII.le _ _ _ _ L rc
    replace r7 := RII.le _ _ _ _ L r7
    replace Lh := Lh.trans L
    refine BIf.yes (by simp) ?_
    refine CallX.same (rows5_c _ _ _ _ _ r7 r8 rfl) ?_
    rintro r g' ⟨rfl, rfl⟩
    exact FinX.keep hw Lh rfl ⟨rfl, rfl⟩

end Go.Gl

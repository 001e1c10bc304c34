/- Chapter 3: second numbers, both sides. No condition. Chapter 3: second numbers, the reference's side and the tables. No condition. -/
import Derived.Test.YtbjohihngoghlaaGreatFnY4
import Derived.Test.YtbjohihngoghlaaGreatFnK3
import Derived.Test.YtbjohihngoghlaaGreatPlF
set_option linter.unusedVariables false
set_option linter.unusedSimpArgs false
namespace Go.Gl
open Go.Proofs Go.Proofs.YtbjohihngoghlaaGreat Go.Pl

/-- cycles and boundaries of a cell -/
def cycZ (x : SDouble) (i j : Int) : List (List Int) := kern x.prime (dimZ x i (j - 1)).toNat (celZ x x.down i j)
def bdZ (x : SDouble) (i j : Int) : List (List Int) := ech x.prime (celZ x x.down i (j + 1))
def goodZ (x : SDouble) (i j : Int) : List (List Int) := kern x.prime (dimZ x (i - 1) j).toNat (tabR (cycZ x i j).length fun k => rest x.prime (bdZ x (i - 1) j) (acr x i j (row (cycZ x i j) k)))
def botZ (x : SDouble) (i j : Int) : List (List Int) := bdZ x i j ++ imgs (cycZ x (i + 1) j) (acr x (i + 1) j)
def secN (x : SDouble) (i j : Nat) : Int := ((goodZ x i j).length : Int) - (ech x.prime (botZ x i j)).length
noncomputable def secH (x : SDouble) (rows : Bool) : List (List Int) × Int := if dOk x then (if rows then tabC (dW x) (dH x) fun i j => secN (flipD x) j i else tabC (dW x) (dH x) (secN x), 0) else ([], 1)
theorem secH_cn (x : SDouble) (rows : Bool) : cnII (secH x rows).1 ≤ 1000 := by
  unfold secH
  split
  · rename_i h
    have hd := (dOk_mk h).toDHead
    cases rows
    · exact Nat.le_trans (cnII_tabC hd.w.2 hd.h.2) (by omega)
    · exact Nat.le_trans (cnII_tabC hd.w.2 hd.h.2) (by omega)
  · decide
theorem cycZ_red {x : SDouble} (hd : DShape x) (i j : Int) : RedL x.prime (dimZ x i j).toNat (cycZ x i j) := by
  obtain ⟨t1, t2⟩ := hd.dwn.cell i j
  have := kern_red (IsP.of hd.p) t2
  rw [show (celZ x x.down i j).length = (dimZ x i j).toNat by omega] at this
  exact this
theorem bdZ_red {x : SDouble} (hd : DShape x) (i j : Int) : RedL x.prime (dimZ x i j).toNat (bdZ x i j) := by
  obtain ⟨t1, t2⟩ := hd.dwn.cell i (j + 1)
  rw [show j + 1 - 1 = j by omega] at t2
  exact (ech_spec (IsP.of hd.p) t2).1
theorem goodZ_mat {x : SDouble} (hd : DShape x) (i j : Int) : Mat x.prime (dimZ x (i - 1) j).toNat (tabR (cycZ x i j).length fun k => rest x.prime (bdZ x (i - 1) j) (acr x i j (row (cycZ x i j) k))) := by
  have hp := prime_rng hd.p
  exact Mat.tab fun k hk => (rest_spec (by omega) (bdZ_red hd (i - 1) j) (acr_vec hd.toDHead i j _)).1
theorem frZ_mat {x : SDouble} (hd : DShape x) (i j : Int) : Mat x.prime (dimZ x i j).toNat (imgs (cycZ x (i + 1) j) (acr x (i + 1) j)) := Mat.tab fun k hk => by
  have := acr_vec hd.toDHead (i + 1) j (row (cycZ x (i + 1) j) k)
  rw [show i + 1 - 1 = i by omega] at this
  exact this
/-- the two counts of what is killed -/
theorem above_eq {x : SDouble} (hd : DShape x) (i j : Int) {m : Nat} (hm : dimZ x i j = m) : (meetP x.prime m (cycZ x i j) (kern x.prime (dimZ x (i - 1) j).toNat (killR x.prime m (bdZ x (i - 1) j) (acr x i j)))).length = (goodZ x i j).length := by
  have hp := IsP.of hd.p
  have hpr := prime_rng hd.p
  obtain ⟨t1, t2⟩ := hd.acr.cell i j
  have hlen : (celZ x x.across i j).length = m := by omega
  have eK : killR x.prime m (bdZ x (i - 1) j) (acr x i j) = tabR m fun q => rest x.prime (bdZ x (i - 1) j) (row (celZ x x.across i j) q) := tabR_congr fun q hq => by
    have := acr_unitZ hd (i := i) (j := j) (k := q) (by omega)
    rw [hm, Int.toNat_natCast] at this
    rw [this]
  have hZ := cycZ_red hd i j
  rw [hm, Int.toNat_natCast] at hZ
  have hB := bdZ_red hd (i - 1) j
  have h := killed_dim hp hZ t2 hlen hB
  rw [← eK] at h
  have hR : Mat x.prime (dimZ x (i - 1) j).toNat (killR x.prime m (bdZ x (i - 1) j) (acr x i j)) := Mat.tab fun k hk => (rest_spec (by omega) hB (acr_vec hd.toDHead i j _)).1
  have hF := kern_red hp hR
  unfold meetP meetN
  rw [ech_red hp hZ, ech_red hp hF]
  exact h
theorem ech_two {p : Int} (hp : IsP p) {n : Nat} {A F : List (List Int)} (hA : Mat p n A) (hF : Mat p n F) : ech p (A ++ ech p F) = ech p (A ++ F) := by
  obtain ⟨a1, a2, a3⟩ := ech_spec hp hF
  obtain ⟨b1, b2, b3⟩ := ech_spec hp (hA.append hF)
  refine ech_eq hp (hA.append a1.mat) b1 (b3.trans ?_) (Sub.trans ?_ b2)
  · exact (Sub.left p _ _).append (a2.trans (Sub.right p _ _))
  · exact (Sub.left p _ _).append (a3.trans (Sub.right p _ _))

theorem sec11_c (h : AH) (x : SDouble) (P : DP) (q : QD h x P) (hd : DShape x) (b3 b4 b5 : Nat) (i j : Int) (hi : -9 ≤ i ∧ i ≤ 9) (hj : -9 ≤ j ∧ j ≤ 9) (l3 : look h b3 = some ⟨cD x P, some (29, 4)⟩) (l4 : look h b4 = some ⟨[.int .i64 i], some (2, 1)⟩) (l5 : look h b5 = some ⟨[.int .i64 j], some (2, 1)⟩)
    (wv : Value) (w : List Int) (hw' : RI h wv w) (bw : Rng x.prime w) (hl : (w.length : Int) ≤ dimZ x i j) :
    ACalls Tryz.prog 63 [wv, .pointer (some ⟨b3, 0, none⟩), .pointer (some ⟨b4, 0, none⟩), .pointer (some ⟨b5, 0, none⟩)] h (Made OI h (dwn x i j w)) := by
  obtain ⟨b, o, kw, hw'⟩ := hw'.can
  refine ACalls.madeI (ACalls.wk (args' := [.slice (some ⟨b, o, none⟩) w.length 0, .pointer (some ⟨b3, 0, none⟩), .pointer (some ⟨b4, 0, none⟩), .pointer (some ⟨b5, 0, none⟩)]) ?_ (.cons kw (.cons (Wk.refl _) (.cons (Wk.refl _) (.cons (Wk.refl _) .nil)))))
  refine ACalls.of Tt.tab Tryz.func63 rfl (by kernel_rfl) Tryz.ntmps63 _ rfl rfl (fun hw => ?_)
  have S := Sep.start h
  refine LoadX.same (v := vD x P) l3 rfl ?_
  refine LoadX.same (v := .int .i64 i) l4 rfl ?_
  refine LoadX.same (v := .int .i64 j) l5 rfl ?_
  refine S.made OI.fr (down_c _ _ _ x i j w (q.reads S.le) hw' hd.toDHead hd.dwn (by omega) bw hl) fun b6 o6 g S => ?_
  exact S.fin 0 rfl
theorem sec2_c (h : AH) (x : SDouble) (P : DP) (q : QD h x P) (hd : DShape x) (b3 b4 b5 : Nat) (i j : Int) (hi : -9 ≤ i ∧ i ≤ 9) (hj : -9 ≤ j ∧ j ≤ 9) (l3 : look h b3 = some ⟨cD x P, some (29, 4)⟩) (l4 : look h b4 = some ⟨[.int .i64 i], some (2, 1)⟩) (l5 : look h b5 = some ⟨[.int .i64 j], some (2, 1)⟩)
    (wv : Value) (w : List Int) (hw' : RI h wv w) (bw : Rng x.prime w) (hl : (w.length : Int) ≤ dimZ x i j) :
    ACalls Tryz.prog 65 [wv, .pointer (some ⟨b3, 0, none⟩), .pointer (some ⟨b4, 0, none⟩), .pointer (some ⟨b5, 0, none⟩)] h (Made OI h (acr x i j w)) := by
  obtain ⟨b, o, kw, hw'⟩ := hw'.can
  refine ACalls.madeI (ACalls.wk (args' := [.slice (some ⟨b, o, none⟩) w.length 0, .pointer (some ⟨b3, 0, none⟩), .pointer (some ⟨b4, 0, none⟩), .pointer (some ⟨b5, 0, none⟩)]) ?_ (.cons kw (.cons (Wk.refl _) (.cons (Wk.refl _) (.cons (Wk.refl _) .nil)))))
  refine ACalls.of Tt.tab Tryz.func65 rfl (by kernel_rfl) Tryz.ntmps65 _ rfl rfl (fun hw => ?_)
  have S := Sep.start h
  refine LoadX.same (v := vD x P) l3 rfl ?_
  refine LoadX.same (v := .int .i64 i) l4 rfl ?_
  refine LoadX.same (v := .int .i64 j) l5 rfl ?_
  refine S.made OI.fr (across_c _ _ _ x i j w (q.reads S.le) hw' hd.toDHead hd.acr (by omega) bw hl) fun b6 o6 g S => ?_
  exact S.fin 0 rfl
theorem sec3_c (h : AH) (x : SDouble) (P : DP) (q : QD h x P) (hd : DShape x) (b3 b4 b5 : Nat) (i j : Int) (hi : -9 ≤ i ∧ i ≤ 9) (hj : -9 ≤ j ∧ j ≤ 9) (l3 : look h b3 = some ⟨cD x P, some (29, 4)⟩) (l4 : look h b4 = some ⟨[.int .i64 i], some (2, 1)⟩) (l5 : look h b5 = some ⟨[.int .i64 j], some (2, 1)⟩)
    (wv : Value) (w : List Int) (hw' : RI h wv w) (bw : Rng x.prime w) (hl : (w.length : Int) ≤ dimZ x (i + 1) j) :
    ACalls Tryz.prog 69 [wv, .pointer (some ⟨b3, 0, none⟩), .pointer (some ⟨b4, 0, none⟩), .pointer (some ⟨b5, 0, none⟩)] h (Made OI h (acr x (i + 1) j w)) := by
  obtain ⟨b, o, kw, hw'⟩ := hw'.can
  refine ACalls.madeI (ACalls.wk (args' := [.slice (some ⟨b, o, none⟩) w.length 0, .pointer (some ⟨b3, 0, none⟩), .pointer (some ⟨b4, 0, none⟩), .pointer (some ⟨b5, 0, none⟩)]) ?_ (.cons kw (.cons (Wk.refl _) (.cons (Wk.refl _) (.cons (Wk.refl _) .nil)))))
  refine ACalls.of Tt.tab Tryz.func69 rfl (by kernel_rfl) Tryz.ntmps69 _ rfl rfl (fun hw => ?_)
  have S := Sep.start h
  refine LoadX.same (v := vD x P) l3 rfl ?_
  refine LoadX.same (v := .int .i64 i) l4 rfl ?_
  refine WR.i64 ?_
  refine LoadX.same (v := .int .i64 j) l5 rfl ?_
  refine S.made OI.fr (across_c _ _ _ x (i + 1) j w (q.reads S.le) hw' hd.toDHead hd.acr (by omega) bw hl) fun b6 o6 g S => ?_
  exact S.fin 0 rfl
theorem sec1_c (h : AH) (x : SDouble) (P : DP) (q : QD h x P) (hd : DShape x) (b7 b3 : Nat) (i j : Int) (hi : -8 ≤ i ∧ i ≤ 8) (hj : -8 ≤ j ∧ j ≤ 8) (l7 : look h b7 = some ⟨[.int .i64 x.prime], some (2, 1)⟩) (l3 : look h b3 = some ⟨cD x P, some (29, 4)⟩) :
    ACalls Tryz.prog 61 [.int .i64 i, .int .i64 j, .pointer (some ⟨b7, 0, none⟩), .pointer (some ⟨b3, 0, none⟩)] h (Made OII h (cycZ x i j)) := by
  refine ACalls.madeN ?_
  refine ACalls.of Tt.tab Tryz.func61 rfl (by kernel_rfl) Tryz.ntmps61 _ rfl rfl (fun hw => ?_)
  have S := Sep.start h
  have hpr := prime_rng hd.p
  have hdm := hd.dim i j
  have hdm2 := hd.dim i (j - 1)
  obtain ⟨m, hm⟩ : ∃ m : Nat, dimZ x i j = m := ⟨(dimZ x i j).toNat, by omega⟩
  refine S.new fun b4 g S => ?_
  refine S.new fun b5 g S => ?_
  refine DrawX.of Tt.tab follows_any [6] [] [0, 1, 2, 3, 4, 5, 6, 7] rfl (by kernel_rfl) (by kernel_rfl) ?_
  refine LoadX.same (v := .int .i64 x.prime) (S.le.at_ _ _ l7) rfl ?_
  refine LoadX.same (v := vD x P) (S.le.at_ _ _ l3) rfl ?_
  refine LoadX.same (v := .int .i64 i) (S.at_ 1 rfl) rfl ?_
  refine LoadX.same (v := .int .i64 j) (S.at_ 0 rfl) rfl ?_
  refine QCall.of (fun g2 hl => dim_c g2 _ x i j (q.reads (S.le.trans hl)) hd.toDHead) rfl ?_
  rw [hm]
  refine S.madeL OII.fr (killed_c _ x.prime m (dimZ x i (j - 1)).toNat _ [] _ _ (dwn x i j) (IsP.of hd.p) (by omega) (by omega) (RII.nilX _) (by simp) (RedL.nil _ _) (fun k hk => dwn_vec hd.toDHead i j _) fun g2 b8 o8 k L2 hk hr => sec11_c g2 x P (QDouble.le (S.le.trans L2) q) hd b3 b4 b5 i j (by omega) (by omega) ((S.le.trans L2).at_ _ _ l3) (L2.at_ _ _ (S.at_ 1 rfl)) (L2.at_ _ _ (S.at_ 0 rfl)) _ _ hr ((unitv_vec (p := x.prime) (by omega) m k).2) (by rw [show (unitv m k).length = m from tab_length _ _]; omega)) fun b6 o6 g L S => ?_
  refine ⟨L, ?_⟩
  rw [killR_down hd hm] at S ⊢
  exact S.fin 0 rfl
theorem second_c (h : AH) (v : Value) (x : SDouble) (i j : Nat) (hx : RDouble h v x) (hd : DShape x) (hi : i ≤ 6) (hj : j ≤ 6) :
    ACalls Tryz.prog 23 [v, .int .i64 i, .int .i64 j] h (fun r h' => r = .int .i64 (secN x i j) ∧ h' = h) := by
  obtain ⟨P, kx, qx⟩ := hx.at_
  refine ACalls.wk (args' := [vD x P, .int .i64 i, .int .i64 j]) ?_ (.cons kx (.cons (Wk.refl _) (.cons (Wk.refl _) .nil)))
  refine ACalls.of Tt.tab Tryz.func23 rfl (by kernel_rfl) Tryz.ntmps23 _ rfl rfl (fun hw => ?_)
  have S := Sep.start h
  have hpr := prime_rng hd.p
  have hp := IsP.of hd.p
  have hdm := hd.dim i j
  have hdw := hd.dim ((i : Int) - 1) j
  have hdr := hd.dim ((i : Int) + 1) j
  obtain ⟨m, hm⟩ : ∃ m : Nat, dimZ x i j = m := ⟨(dimZ x i j).toNat, by omega⟩
  have hZ := cycZ_red hd i j
  have hZr := cycZ_red hd ((i : Int) + 1) j
  have hB := bdZ_red hd ((i : Int) - 1) j
  have hB0 := bdZ_red hd i j
  have hFr := frZ_mat hd i j
  have lZ := hZ.len
  have lZr := hZr.len
  have lB := hB.len
  have lB0 := hB0.len
  have hKm := goodZ_mat hd i j
  have lK : (goodZ x i j).length ≤ (cycZ x i j).length := by have := (kern_red hp hKm).len; rw [tabR_length] at this; exact this
  have lE := (ech_spec hp (hB0.mat.append hFr)).1.len
  have eab := above_eq hd i j hm
  have hR : Mat x.prime (dimZ x ((i : Int) - 1) j).toNat (killR x.prime m (bdZ x ((i : Int) - 1) j) (acr x i j)) := Mat.tab fun k hk => (rest_spec (by omega) hB (acr_vec hd.toDHead i j _)).1
  have hF := kern_red hp hR
  rw [show (killR x.prime m (bdZ x ((i : Int) - 1) j) (acr x i j)).length = m from tabR_length _ _] at hF
  have lF := hF.len
  have hZm := hZ
  rw [hm, Int.toNat_natCast] at hZm
  refine S.new fun b3 g S => ?_
  refine S.new fun b4 g S => ?_
  refine S.new fun b5 g S => ?_
  refine LoadX.same (v := .int .i64 x.prime) (S.at_ 2 rfl) rfl ?_
  refine S.new fun b7 g S => ?_
  refine S.put 0 rfl fun g S => ?_
  refine DrawX.of Tt.tab follows_any [9, 11] [] [0, 1, 2, 3, 4, 5, 6, 7, 8, 10, 9, 11, 12] rfl (by kernel_rfl) (by kernel_rfl) ?_
  refine LoadX.same (v := .int .i64 x.prime) (S.at_ 0 rfl) rfl ?_
  refine LoadX.same (v := vD x P) (S.at_ 3 rfl) rfl ?_
  refine LoadX.same (v := .int .i64 i) (S.at_ 2 rfl) rfl ?_
  refine LoadX.same (v := .int .i64 j) (S.at_ 1 rfl) rfl ?_
  refine QCall.of (fun g2 hl => dim_c g2 _ x i j (qx.reads (S.le.trans hl)) hd.toDHead) rfl ?_
  rw [hm]
  refine LoadX.same (v := vD x P) (S.at_ 3 rfl) rfl ?_
  refine LoadX.same (v := .int .i64 i) (S.at_ 2 rfl) rfl ?_
  refine WR.i64 ?_
  refine LoadX.same (v := .int .i64 j) (S.at_ 1 rfl) rfl ?_
  refine S.madeL OII.fr (fromAbove_c _ _ x ((i : Int) - 1) j (qx.reads S.le) hd (by omega)) fun b8 o8 g L S => ?_
  refine ⟨L, ?_⟩
  rw [show ech x.prime (celZ x x.down ((i : Int) - 1) ((j : Int) + 1)) = bdZ x ((i : Int) - 1) j from rfl] at S ⊢
  refine S.madeL OII.fr (killed_c _ x.prime m (dimZ x ((i : Int) - 1) j).toNat _ (bdZ x ((i : Int) - 1) j) _ _ (acr x i j) hp (by omega) (by omega) (S.rd OII.reads 0 rfl) (by omega) hB (fun k hk => acr_vec hd.toDHead i j _) fun g2 b9 o9 k L2 hk hr => sec2_c g2 x P (QDouble.le (S.le.trans L2) qx) hd b3 b4 b5 i j (by omega) (by omega) (L2.at_ _ _ (S.at_ 4 rfl)) (L2.at_ _ _ (S.at_ 3 rfl)) (L2.at_ _ _ (S.at_ 2 rfl)) _ _ hr ((unitv_vec (p := x.prime) (by omega) m k).2) (by rw [show (unitv m k).length = m from tab_length _ _]; omega)) fun b10 o10 g L S => ?_
  refine ⟨L, ?_⟩
  generalize kern x.prime (dimZ x ((i : Int) - 1) j).toNat (killR x.prime m (bdZ x ((i : Int) - 1) j) (acr x i j)) = fits at *
  refine LoadX.same (v := .int .i64 i) (S.at_ 4 rfl) rfl ?_
  refine LoadX.same (v := .int .i64 j) (S.at_ 3 rfl) rfl ?_
  refine S.made OII.fr (sec1_c _ x P (QDouble.le S.le qx) hd b7 b3 i j (by omega) (by omega) (S.at_ 2 rfl) (S.at_ 5 rfl)) fun b11 o11 g S => ?_
  refine CallX.same (sizeII_c _ _ _ _ _) ?_
  rintro r g' ⟨rfl, rfl⟩
  have el : ech x.prime (cycZ x i j) = cycZ x i j := ech_red hp hZ
  have ef : ech x.prime fits = fits := ech_red hp hF
  refine BIf.mk (fun e1 => ?_) (fun e1 => ?_)
  · have e1 : 0 < (cycZ x i j).length := by simp at e1; omega
    refine BIf.mk (fun e2 => ?_) (fun e2 => ?_)
    · refine DrawX.of Tt.tab follows_any [4, 6] [] [0, 1, 2, 3, 5, 4, 6, 7, 8] rfl (by kernel_rfl) (by kernel_rfl) ?_
      refine LoadX.same (v := .int .i64 x.prime) (S.at_ 3 rfl) rfl ?_
      refine LoadX.same (v := .int .i64 i) (S.at_ 5 rfl) rfl ?_
      refine LoadX.same (v := .int .i64 j) (S.at_ 4 rfl) rfl ?_
      refine S.madeL OII.fr (sec1_c _ x P (QDouble.le S.le qx) hd b7 b3 i j (by omega) (by omega) (S.at_ 3 rfl) (S.at_ 6 rfl)) fun b12 o12 g L S => ?_
      refine ⟨L, ?_⟩
      refine S.madeL OII.fr (meet_c _ x.prime m _ _ (cycZ x i j) fits hp (by omega) (S.rd OII.reads 0 rfl) (S.rd OII.reads 2 rfl) hZm.mat hF.mat (by omega) (by omega) (by rw [el]; exact e1)) fun b13 o13 g L S => ?_
      refine ⟨L, ?_⟩
      refine QCall.of (fun g2 hl => sizeII_c g2 _ _ _ _) rfl ?_
      refine DrawX.of Tt.tab follows_any [5, 7] [] [0, 1, 2, 3, 4, 6, 5, 7, 8] rfl (by kernel_rfl) (by kernel_rfl) ?_
      refine LoadX.same (v := .int .i64 x.prime) (S.at_ 5 rfl) rfl ?_
      refine LoadX.same (v := .int .i64 i) (S.at_ 7 rfl) rfl ?_
      refine WR.i64 ?_
      refine LoadX.same (v := .int .i64 j) (S.at_ 6 rfl) rfl ?_
      refine S.madeL OII.fr (sec1_c _ x P (QDouble.le S.le qx) hd b7 b3 ((i : Int) + 1) j (by omega) (by omega) (S.at_ 5 rfl) (S.at_ 8 rfl)) fun b14 o14 g L S => ?_
      refine ⟨L, ?_⟩
      refine S.madeL OII.fr (images_c _ x.prime (dimZ x i j).toNat _ (cycZ x ((i : Int) + 1) j) _ _ (acr x ((i : Int) + 1) j) hp (by omega) (S.rd OII.reads 0 rfl) (by omega) (fun k hk => by
        have := acr_vec hd.toDHead ((i : Int) + 1) j (row (cycZ x ((i : Int) + 1) j) k)
        rw [show (i : Int) + 1 - 1 = i by omega] at this
        exact this) fun g2 b9 o9 k L2 hk hr => sec3_c g2 x P (QDouble.le (S.le.trans L2) qx) hd b3 b4 b5 i j (by omega) (by omega) (L2.at_ _ _ (S.at_ 9 rfl)) (L2.at_ _ _ (S.at_ 8 rfl)) (L2.at_ _ _ (S.at_ 7 rfl)) _ _ hr (hZr.mat.row hk).2 (by rw [(hZr.mat.row hk).1]; omega)) fun b15 o15 g L S => ?_
      refine ⟨L, ?_⟩
      refine DrawX.of Tt.tab follows_any [5, 7, 8, 9] [] [0, 1, 2, 3, 4, 6, 5, 7, 8, 9, 10, 11, 12] rfl (by kernel_rfl) (by kernel_rfl) ?_
      refine LoadX.same (v := .int .i64 x.prime) (S.at_ 7 rfl) rfl ?_
      refine LoadX.same (v := vD x P) (S.at_ 10 rfl) rfl ?_
      refine LoadX.same (v := .int .i64 i) (S.at_ 9 rfl) rfl ?_
      refine LoadX.same (v := .int .i64 j) (S.at_ 8 rfl) rfl ?_
      refine S.madeL OII.fr (fromAbove_c _ _ x i j (qx.reads S.le) hd (by omega)) fun b16 o16 g L S => ?_
      refine ⟨L, ?_⟩
      rw [show ech x.prime (celZ x x.down i ((j : Int) + 1)) = bdZ x i j from rfl] at S ⊢
      have lI := (ech_few hp hFr).1
      rw [show (imgs (cycZ x ((i : Int) + 1) j) (acr x ((i : Int) + 1) j)).length = (cycZ x ((i : Int) + 1) j).length from tabR_length _ _] at lI
      refine S.newL fun b17 g L S => ?_
      refine ⟨L, ?_⟩
      refine CallX.same (concatII_c _ _ [bdZ x i j, ech x.prime (imgs (cycZ x ((i : Int) + 1) j) (acr x ((i : Int) + 1) j))] (RIII.two (S.at_ 0 rfl) (S.rd OII.reads 1 rfl) (S.rd OII.reads 2 rfl) 1) (by simp; omega)) ?_
      rintro r g3 ⟨b18, o18, rfl, hr, L⟩
      refine ⟨L, ?_⟩
      have S := S.grow L
      rw [show [bdZ x i j, ech x.prime (imgs (cycZ x ((i : Int) + 1) j) (acr x ((i : Int) + 1) j))].flatten = bdZ x i j ++ ech x.prime (imgs (cycZ x ((i : Int) + 1) j) (acr x ((i : Int) + 1) j)) by simp] at hr ⊢
      refine S.madeL OII.fr (reduce_c _ x.prime (dimZ x i j).toNat _ (bdZ x i j ++ ech x.prime (imgs (cycZ x ((i : Int) + 1) j) (acr x ((i : Int) + 1) j))) hp (by omega) hr (hB0.mat.append (ech_spec hp hFr).1.mat) (by rw [List.length_append]; omega)) fun b19 o19 g L S => ?_
      refine ⟨L, ?_⟩
      rw [ech_two hp hB0.mat hFr]
      refine QCall.of (fun g2 hl => sizeII_c g2 _ _ _ _) rfl ?_
      refine WR.as (r := secN x i j) (by unfold secN; rw [eab]; rfl) ?_ (by unfold secN botZ; omega) (by unfold secN botZ; omega)
      exact FinX.keep hw S.le rfl ⟨rfl, rfl⟩
    · have e2 : fits = [] := by simpa using e2
      have e0 : (goodZ x i j).length = 0 := by rw [← eab, meetP_nil hp hZm.mat hF.mat (.inr (by rw [ef]; exact e2))]; rfl
      refine DrawX.of Tt.tab follows_any [5, 7] [] [0, 1, 2, 3, 4, 6, 5, 7, 8] rfl (by kernel_rfl) (by kernel_rfl) ?_
      refine LoadX.same (v := .int .i64 x.prime) (S.at_ 3 rfl) rfl ?_
      refine LoadX.same (v := .int .i64 i) (S.at_ 5 rfl) rfl ?_
      refine WR.i64 ?_
      refine LoadX.same (v := .int .i64 j) (S.at_ 4 rfl) rfl ?_
      refine S.madeL OII.fr (sec1_c _ x P (QDouble.le S.le qx) hd b7 b3 ((i : Int) + 1) j (by omega) (by omega) (S.at_ 3 rfl) (S.at_ 6 rfl)) fun b14 o14 g L S => ?_
      refine ⟨L, ?_⟩
      refine S.madeL OII.fr (images_c _ x.prime (dimZ x i j).toNat _ (cycZ x ((i : Int) + 1) j) _ _ (acr x ((i : Int) + 1) j) hp (by omega) (S.rd OII.reads 0 rfl) (by omega) (fun k hk => by
        have := acr_vec hd.toDHead ((i : Int) + 1) j (row (cycZ x ((i : Int) + 1) j) k)
        rw [show (i : Int) + 1 - 1 = i by omega] at this
        exact this) fun g2 b9 o9 k L2 hk hr => sec3_c g2 x P (QDouble.le (S.le.trans L2) qx) hd b3 b4 b5 i j (by omega) (by omega) (L2.at_ _ _ (S.at_ 7 rfl)) (L2.at_ _ _ (S.at_ 6 rfl)) (L2.at_ _ _ (S.at_ 5 rfl)) _ _ hr (hZr.mat.row hk).2 (by rw [(hZr.mat.row hk).1]; omega)) fun b15 o15 g L S => ?_
      refine ⟨L, ?_⟩
      refine DrawX.of Tt.tab follows_any [5, 7, 8, 9] [] [0, 1, 2, 3, 4, 6, 5, 7, 8, 9, 10, 11, 12] rfl (by kernel_rfl) (by kernel_rfl) ?_
      refine LoadX.same (v := .int .i64 x.prime) (S.at_ 5 rfl) rfl ?_
      refine LoadX.same (v := vD x P) (S.at_ 8 rfl) rfl ?_
      refine LoadX.same (v := .int .i64 i) (S.at_ 7 rfl) rfl ?_
      refine LoadX.same (v := .int .i64 j) (S.at_ 6 rfl) rfl ?_
      refine S.madeL OII.fr (fromAbove_c _ _ x i j (qx.reads S.le) hd (by omega)) fun b16 o16 g L S => ?_
      refine ⟨L, ?_⟩
      rw [show ech x.prime (celZ x x.down i ((j : Int) + 1)) = bdZ x i j from rfl] at S ⊢
      have lI := (ech_few hp hFr).1
      rw [show (imgs (cycZ x ((i : Int) + 1) j) (acr x ((i : Int) + 1) j)).length = (cycZ x ((i : Int) + 1) j).length from tabR_length _ _] at lI
      refine S.newL fun b17 g L S => ?_
      refine ⟨L, ?_⟩
      refine CallX.same (concatII_c _ _ [bdZ x i j, ech x.prime (imgs (cycZ x ((i : Int) + 1) j) (acr x ((i : Int) + 1) j))] (RIII.two (S.at_ 0 rfl) (S.rd OII.reads 1 rfl) (S.rd OII.reads 2 rfl) 1) (by simp; omega)) ?_
      rintro r g3 ⟨b18, o18, rfl, hr, L⟩
      refine ⟨L, ?_⟩
      have S := S.grow L
      rw [show [bdZ x i j, ech x.prime (imgs (cycZ x ((i : Int) + 1) j) (acr x ((i : Int) + 1) j))].flatten = bdZ x i j ++ ech x.prime (imgs (cycZ x ((i : Int) + 1) j) (acr x ((i : Int) + 1) j)) by simp] at hr ⊢
      refine S.madeL OII.fr (reduce_c _ x.prime (dimZ x i j).toNat _ (bdZ x i j ++ ech x.prime (imgs (cycZ x ((i : Int) + 1) j) (acr x ((i : Int) + 1) j))) hp (by omega) hr (hB0.mat.append (ech_spec hp hFr).1.mat) (by rw [List.length_append]; omega)) fun b19 o19 g L S => ?_
      refine ⟨L, ?_⟩
      rw [ech_two hp hB0.mat hFr]
      refine QCall.of (fun g2 hl => sizeII_c g2 _ _ _ _) rfl ?_
      refine WR.as (r := secN x i j) (by unfold secN; rw [e0]; rfl) ?_ (by unfold secN botZ; omega) (by unfold secN botZ; omega)
      exact FinX.keep hw S.le rfl ⟨rfl, rfl⟩
  · have e1 : cycZ x i j = [] := by simpa using e1
    have e0 : (goodZ x i j).length = 0 := by rw [← eab, meetP_nil hp hZm.mat hF.mat (.inl (by rw [el]; exact e1))]; rfl
    refine BIf.no rfl ?_
    refine DrawX.of Tt.tab follows_any [5, 7] [] [0, 1, 2, 3, 4, 6, 5, 7, 8] rfl (by kernel_rfl) (by kernel_rfl) ?_
    refine LoadX.same (v := .int .i64 x.prime) (S.at_ 3 rfl) rfl ?_
    refine LoadX.same (v := .int .i64 i) (S.at_ 5 rfl) rfl ?_
    refine WR.i64 ?_
    refine LoadX.same (v := .int .i64 j) (S.at_ 4 rfl) rfl ?_
    refine S.madeL OII.fr (sec1_c _ x P (QDouble.le S.le qx) hd b7 b3 ((i : Int) + 1) j (by omega) (by omega) (S.at_ 3 rfl) (S.at_ 6 rfl)) fun b14 o14 g L S => ?_
    refine ⟨L, ?_⟩
    refine S.madeL OII.fr (images_c _ x.prime (dimZ x i j).toNat _ (cycZ x ((i : Int) + 1) j) _ _ (acr x ((i : Int) + 1) j) hp (by omega) (S.rd OII.reads 0 rfl) (by omega) (fun k hk => by
      have := acr_vec hd.toDHead ((i : Int) + 1) j (row (cycZ x ((i : Int) + 1) j) k)
      rw [show (i : Int) + 1 - 1 = i by omega] at this
      exact this) fun g2 b9 o9 k L2 hk hr => sec3_c g2 x P (QDouble.le (S.le.trans L2) qx) hd b3 b4 b5 i j (by omega) (by omega) (L2.at_ _ _ (S.at_ 7 rfl)) (L2.at_ _ _ (S.at_ 6 rfl)) (L2.at_ _ _ (S.at_ 5 rfl)) _ _ hr (hZr.mat.row hk).2 (by rw [(hZr.mat.row hk).1]; omega)) fun b15 o15 g L S => ?_
    refine ⟨L, ?_⟩
    refine DrawX.of Tt.tab follows_any [5, 7, 8, 9] [] [0, 1, 2, 3, 4, 6, 5, 7, 8, 9, 10, 11, 12] rfl (by kernel_rfl) (by kernel_rfl) ?_
    refine LoadX.same (v := .int .i64 x.prime) (S.at_ 5 rfl) rfl ?_
    refine LoadX.same (v := vD x P) (S.at_ 8 rfl) rfl ?_
    refine LoadX.same (v := .int .i64 i) (S.at_ 7 rfl) rfl ?_
    refine LoadX.same (v := .int .i64 j) (S.at_ 6 rfl) rfl ?_
    refine S.madeL OII.fr (fromAbove_c _ _ x i j (qx.reads S.le) hd (by omega)) fun b16 o16 g L S => ?_
    refine ⟨L, ?_⟩
    rw [show ech x.prime (celZ x x.down i ((j : Int) + 1)) = bdZ x i j from rfl] at S ⊢
    have lI := (ech_few hp hFr).1
    rw [show (imgs (cycZ x ((i : Int) + 1) j) (acr x ((i : Int) + 1) j)).length = (cycZ x ((i : Int) + 1) j).length from tabR_length _ _] at lI
    refine S.newL fun b17 g L S => ?_
    refine ⟨L, ?_⟩
    refine CallX.same (concatII_c _ _ [bdZ x i j, ech x.prime (imgs (cycZ x ((i : Int) + 1) j) (acr x ((i : Int) + 1) j))] (RIII.two (S.at_ 0 rfl) (S.rd OII.reads 1 rfl) (S.rd OII.reads 2 rfl) 1) (by simp; omega)) ?_
    rintro r g3 ⟨b18, o18, rfl, hr, L⟩
    refine ⟨L, ?_⟩
    have S := S.grow L
    rw [show [bdZ x i j, ech x.prime (imgs (cycZ x ((i : Int) + 1) j) (acr x ((i : Int) + 1) j))].flatten = bdZ x i j ++ ech x.prime (imgs (cycZ x ((i : Int) + 1) j) (acr x ((i : Int) + 1) j)) by simp] at hr ⊢
    refine S.madeL OII.fr (reduce_c _ x.prime (dimZ x i j).toNat _ (bdZ x i j ++ ech x.prime (imgs (cycZ x ((i : Int) + 1) j) (acr x ((i : Int) + 1) j))) hp (by omega) hr (hB0.mat.append (ech_spec hp hFr).1.mat) (by rw [List.length_append]; omega)) fun b19 o19 g L S => ?_
    refine ⟨L, ?_⟩
    rw [ech_two hp hB0.mat hFr]
    refine QCall.of (fun g2 hl => sizeII_c g2 _ _ _ _) rfl ?_
    refine WR.as (r := secN x i j) (by unfold secN; rw [e0]; rfl) ?_ (by unfold secN botZ; omega) (by unfold secN botZ; omega)
    exact FinX.keep hw S.le rfl ⟨rfl, rfl⟩

end Go.Gl

set_option linter.unusedVariables false
set_option linter.unusedSimpArgs false
namespace Go.Gl
open Go.Proofs Go.Proofs.YtbjohihngoghlaaGreat Go.Pl


theorem l03BoundsW_c (h : AH) (v : Value) (x : SDouble) (i j : Int) (hx : RDouble h v x) (hd : DShape x) (hi : -10 ≤ i ∧ i ≤ 10) (hj : -10 ≤ j ∧ j ≤ 10) :
    ACalls Tryz.prog 40 [v, .int .i64 i, .int .i64 j] h (MadeW OI.fr 46 h (ech x.prime (celZ x x.down i (j + 1)))) := by
  obtain ⟨P, kx, qx⟩ := hx.at_
  refine ACalls.wk (args' := [vD x P, .int .i64 i, .int .i64 j]) ?_ (.cons kx (.cons (Wk.refl _) (.cons (Wk.refl _) .nil)))
  refine ACalls.of Tt.tab Tryz.func40 rfl (by kernel_rfl) Tryz.ntmps40 _ rfl rfl (fun hw => ?_)
  have S := Sep.start h
  have c3 := RS.cells qx.2.2 rfl
  have hp := IsP.of hd.p
  have hdm := hd.dim i (j + 1)
  have hdm2 := hd.dim i (j + 1 - 1)
  obtain ⟨t1, t2⟩ := hd.dwn.cell i (j + 1)
  refine S.new fun b g S => ?_
  refine LoadX.same (v := vD x P) (S.at_ 0 rfl) rfl ?_
  refine WR.i64 ?_
  refine CallX.same (l03Dim_c _ _ x i (j + 1) (qx.reads S.le) hd.w.1 hd.col) ?_
  rintro r g' ⟨rfl, rfl⟩
  refine BIf.mk (fun e1 => ?_) (fun e1 => ?_)
  · have e1 : dimZ x i (j + 1) = 0 := by simpa using e1
    have e2 : celZ x x.down i (j + 1) = [] := List.length_eq_zero_iff.1 (by omega)
    rw [e2, show ech x.prime [] = [] from rfl]
    refine S.new fun b2 g S => ?_
    have S := S.bx_rw 0 OI.fr rfl
    exact S.finW 0 rfl
  have e1 : dimZ x i (j + 1) ≠ 0 := by simpa using e1
  have hin : (0 ≤ i ∧ i ≤ (dW x : Int) - 1) ∧ (0 ≤ j + 1 ∧ j + 1 ≤ (dH x : Int) - 1) := Classical.byContradiction fun hh => e1 (dimZ_out hh)
  obtain ⟨a, c, rfl, hc0, ha, hc⟩ := in_nat hin
  have hla : x.down.length = dW x := hd.dwn.1
  have hlc := hd.dwn.2.1 a ha
  refine DrawX.of Tt.tab follows_any [11] [] [0, 1, 2, 3, 4, 5, 6, 7, 8, 9, 10, 11, 12] rfl (by kernel_rfl) (by kernel_rfl) ?_
  refine LoadX.same (v := .int .i64 x.prime) (S.at_ 0 rfl) rfl ?_
  refine LoadX.same (v := vD3 x P) (S.at_ 0 rfl) rfl ?_
  refine IdxX.mk (by omega) (by omega) ?_
  refine c3.ten S.le (show a < x.down.length by omega) fun b5 o5 h5 => ?_
  have c5 := h5.cells rfl
  refine WR.as (r := (c : Int)) hc0 ?_
  refine IdxX.mk (by omega) (by omega) ?_
  refine c5.mat S.le (show c < (ten x.down a).length by omega) fun b6 o6 h6 => ?_
  have e4 : celZ x x.down a (j + 1) = mat (ten x.down a) c := by rw [hc0]; exact celZ_in ha hc
  rw [e4] at t1 t2 ⊢
  refine S.madeW (l01EchelonW_c _ x.prime (dimZ x a (j + 1 - 1)).toNat _ _ hp (by omega) (RII.le _ _ _ _ S.le h6) t2 (by omega)) fun A c0 g L S => ?_
  refine ⟨L, ?_⟩
  exact S.finW 0 rfl

theorem l03Second_c (h : AH) (v : Value) (x : SDouble) (i j : Nat) (hx : RDouble h v x) (hd : DShape x) (hi : i ≤ 6) (hj : j ≤ 6) :
    ACalls Tryz.prog 38 [v, .int .i64 i, .int .i64 j] h (fun r h' => r = .int .i64 (secN x i j) ∧ h' = h) := by
  obtain ⟨P, kx, qx⟩ := hx.at_
  refine ACalls.wk (args' := [vD x P, .int .i64 i, .int .i64 j]) ?_ (.cons kx (.cons (Wk.refl _) (.cons (Wk.refl _) .nil)))
  refine ACalls.of Tt.tab Tryz.func38 rfl (by kernel_rfl) Tryz.ntmps38 _ rfl rfl (fun hw => ?_)
  have S := Sep.start h
  have hpr := prime_rng hd.p
  have hp := IsP.of hd.p
  have hdm := hd.dim i j
  have hdw := hd.dim ((i : Int) - 1) j
  have hdr := hd.dim ((i : Int) + 1) j
  have hZ := cycZ_red hd i j
  have hZr := cycZ_red hd ((i : Int) + 1) j
  have hB := bdZ_red hd ((i : Int) - 1) j
  have hB0 := bdZ_red hd i j
  have hFr := frZ_mat hd i j
  have lZ := hZ.len
  have lZr := hZr.len
  have lB := hB.len
  have lB0 := hB0.len
  have hKm := goodZ_mat hd i j
  have lK : (goodZ x i j).length ≤ (cycZ x i j).length := by have := (kern_red hp hKm).len; rw [tabR_length] at this; exact this
  have lE := (ech_spec hp (hB0.mat.append hFr)).1.len
  refine S.new fun b3 g S => ?_
  refine DrawX.of Tt.tab follows_any [3, 8] [] [0, 1, 2, 4, 5, 6, 7, 3, 8, 9, 10] rfl (by kernel_rfl) (by kernel_rfl) ?_
  refine LoadX.same (v := vD x P) (S.at_ 0 rfl) rfl ?_
  refine LoadX.same (v := vD x P) (S.at_ 0 rfl) rfl ?_
  refine WR.i64 ?_
  refine S.madeL OII.fr (l03Cycles_c _ _ x i j (qx.reads S.le) hd (by omega) (by omega)) fun b7 o7 g L S => ?_
  refine ⟨L, ?_⟩
  refine S.madeL OII.fr (l03Bounds_c _ _ x ((i : Int) - 1) j (qx.reads S.le) hd (by omega) (by omega)) fun b8 o8 g L S => ?_
  refine ⟨L, ?_⟩
  rw [show ech x.prime (celZ x x.down ((i : Int) - 1) ((j : Int) + 1)) = bdZ x ((i : Int) - 1) j from rfl, show kern x.prime (dimZ x i ((j : Int) - 1)).toNat (celZ x x.down i j) = cycZ x i j from rfl] at S ⊢
  refine S.new fun b9 g S => ?_
  have S := S.bx_rw 0 OI.fr rfl
  refine ⟨⟨[1, 2, 3, 7, 8, 9, 10], fun n' vs g => ∃ (k b9 : Nat), n' = (cycZ x i j).length - k ∧ k ≤ (cycZ x i j).length ∧ Sep h.length h g [.rw OI.fr 46 h.length (.slice (some ⟨b9, 0, none⟩) k 1) k (tabR k fun k => rest x.prime (bdZ x ((i : Int) - 1) j) (acr x i j (row (cycZ x i j) k))), .tr OII.fr h.length (.slice (some ⟨b8, o8, none⟩) (bdZ x ((i : Int) - 1) j).length 0) (bdZ x ((i : Int) - 1) j), .tr OII.fr h.length (.slice (some ⟨b7, o7, none⟩) (cycZ x i j).length 0) (cycZ x i j), .bx b3 29 4 (cD x P)] ∧
    vs = [.int .i64 i, .int .i64 j, .pointer (some ⟨b3, 0, none⟩), .slice (some ⟨b7, o7, none⟩) (cycZ x i j).length 0, .slice (some ⟨b8, o8, none⟩) (bdZ x ((i : Int) - 1) j).length 0, .slice (some ⟨b9, 0, none⟩) k 1, .int .i64 k], _, ⟨0, b9, rfl, Nat.zero_le _, S, rfl⟩, ?_⟩⟩
  clear S
  rintro n' vs g ⟨k, b9, rfl, hk, S, rfl⟩
  refine BIf.mk (fun h2 => ?_) (fun h2 => ?_)
  · have hlt : k < (cycZ x i j).length := by simpa using h2
    have vZ := hZ.mat.row hlt
    refine DrawX.of Tt.tab follows_any [11, 12, 13] [14] [0, 1, 2, 3, 4, 5, 6, 7, 8, 9, 10, 11, 12, 13, 14, 15] rfl (by kernel_rfl) (by kernel_rfl) ?_
    refine LoadX.same (v := .int .i64 x.prime) (S.at_ 3 rfl) rfl ?_
    refine LoadX.same (v := vD x P) (S.at_ 3 rfl) rfl ?_
    refine IdxX.mk (by omega) (by omega) ?_
    refine (S.cellsII 2 rfl).rowY (Le.refl _) hlt fun b10 o10 h10 => ?_
    refine S.madeL OI.fr (l03Step_c _ _ _ x i j (row (cycZ x i j) k) true (qx.reads S.le) h10 hd (by omega) (by omega) vZ.2 (by rw [vZ.1]; omega)) fun b11 o11 g L S => ?_
    refine ⟨L, ?_⟩
    rw [show stepZ x i j (row (cycZ x i j) k) true = acr x i j (row (cycZ x i j) k) from rfl] at S ⊢
    refine S.madeL OI.fr (l01Rest_c _ x.prime (dimZ x ((i : Int) - 1) j).toNat _ _ (bdZ x ((i : Int) - 1) j) (acr x i j (row (cycZ x i j) k)) hpr (S.rd OII.reads 2 rfl) (S.rd OI.reads 0 rfl) (by omega) (acr_vec hd.toDHead i j _) hB.mat (fun t ht => by have := (hB.lead ht).1; omega)) fun b12 o12 g L S => ?_
    refine ⟨L, ?_⟩
    refine S.newL fun b13 g L S => ?_
    refine ⟨L, ?_⟩
    refine S.appT 1 rfl rfl (by omega) fun b14 g S => ?_
    refine WR.i64 ?_
    exact ⟨(cycZ x i j).length - (k + 1), by omega, k + 1, b14, rfl, hlt, by rw [tabR_succ]; exact S.tail, rfl⟩
  have hk2 : k = (cycZ x i j).length := by simp at h2; omega
  subst hk2
  have S := S.rw_tr 0 rfl (by omega)
  refine LoadX.same (v := .int .i64 x.prime) (S.at_ 3 rfl) rfl ?_
  have hkl := l01Kernel_c g x.prime (dimZ x ((i : Int) - 1) j).toNat _ _ hp (by omega) (S.rd OII.reads 0 rfl) hKm (by rw [tabR_length]; omega)
  rw [tabR_length] at hkl
  refine S.made OII.fr hkl fun b15 o15 g S => ?_
  rw [show kern x.prime (dimZ x ((i : Int) - 1) j).toNat (tabR (cycZ x i j).length fun k => rest x.prime (bdZ x ((i : Int) - 1) j) (acr x i j (row (cycZ x i j) k))) = goodZ x i j from rfl] at S ⊢
  refine DrawX.of Tt.tab follows_any [3, 8] [] [0, 1, 2, 4, 5, 6, 7, 3, 8, 9, 10] rfl (by kernel_rfl) (by kernel_rfl) ?_
  refine LoadX.same (v := vD x P) (S.at_ 4 rfl) rfl ?_
  refine LoadX.same (v := vD x P) (S.at_ 4 rfl) rfl ?_
  refine WR.i64 ?_
  refine S.madeW (l03BoundsW_c _ _ x i j (qx.reads S.le) hd (by omega) (by omega)) fun A c0 g L S => ?_
  refine ⟨L, ?_⟩
  refine S.madeL OII.fr (l03Cycles_c _ _ x ((i : Int) + 1) j (qx.reads S.le) hd (by omega) (by omega)) fun b16 o16 g L S => ?_
  refine ⟨L, ?_⟩
  rw [show ech x.prime (celZ x x.down i ((j : Int) + 1)) = bdZ x i j from rfl, show kern x.prime (dimZ x ((i : Int) + 1) ((j : Int) - 1)).toNat (celZ x x.down ((i : Int) + 1) j) = cycZ x ((i : Int) + 1) j from rfl] at S ⊢
  have S := ((S.drop 5).drop 4).drop 3 |>.drop 2
  refine ⟨⟨[1, 2, 3, 11, 12, 13, 14], fun n' vs g => ∃ (k : Nat) (A : Option Addr) (c : Nat), n' = (cycZ x ((i : Int) + 1) j).length - k ∧ k ≤ (cycZ x ((i : Int) + 1) j).length ∧ Sep h.length h g [.tr OII.fr h.length (.slice (some ⟨b16, o16, none⟩) (cycZ x ((i : Int) + 1) j).length 0) (cycZ x ((i : Int) + 1) j), .rw OI.fr 46 h.length (.slice A ((bdZ x i j).length + k) c) ((bdZ x i j).length + k) (bdZ x i j ++ tabR k fun k => acr x ((i : Int) + 1) j (row (cycZ x ((i : Int) + 1) j) k)), .bx b3 29 4 (cD x P)] ∧
    vs = [.int .i64 i, .int .i64 j, .pointer (some ⟨b3, 0, none⟩), .int .i64 (goodZ x i j).length, .slice A ((bdZ x i j).length + k) c, .slice (some ⟨b16, o16, none⟩) (cycZ x ((i : Int) + 1) j).length 0, .int .i64 k], _, ⟨0, A, c0, rfl, Nat.zero_le _, by rw [Nat.add_zero, show (tabR 0 fun k => acr x ((i : Int) + 1) j (row (cycZ x ((i : Int) + 1) j) k)) = [] from rfl, List.append_nil]; exact S, rfl⟩, ?_⟩⟩
  clear S
  rintro n' vs g ⟨k, A, c, rfl, hk, S, rfl⟩
  refine BIf.mk (fun h3 => ?_) (fun h3 => ?_)
  · have hlt : k < (cycZ x ((i : Int) + 1) j).length := by simpa using h3
    have vZ := hZr.mat.row hlt
    refine DrawX.of Tt.tab follows_any [9, 10] [11] [0, 1, 2, 3, 4, 5, 6, 7, 8, 9, 10, 11, 12] rfl (by kernel_rfl) (by kernel_rfl) ?_
    refine LoadX.same (v := vD x P) (S.at_ 2 rfl) rfl ?_
    refine WR.i64 ?_
    refine IdxX.mk (by omega) (by omega) ?_
    refine (S.cellsII 0 rfl).rowY (Le.refl _) hlt fun b17 o17 h17 => ?_
    refine S.madeL OI.fr (l03Step_c _ _ _ x ((i : Int) + 1) j (row (cycZ x ((i : Int) + 1) j) k) true (qx.reads S.le) h17 hd (by omega) (by omega) vZ.2 (by rw [vZ.1]; omega)) fun b18 o18 g L S => ?_
    refine ⟨L, ?_⟩
    refine S.newL fun b19 g L S => ?_
    refine ⟨L, ?_⟩
    refine S.appT 1 rfl rfl (by omega) fun b20 g S => ?_
    refine WR.i64 ?_
    refine ⟨(cycZ x ((i : Int) + 1) j).length - (k + 1), by omega, k + 1, _, _, rfl, hlt, ?_, rfl⟩
    rw [tabR_succ, ← List.append_assoc]
    exact S
  have hk2 : k = (cycZ x ((i : Int) + 1) j).length := by simp at h3; omega
  subst hk2
  have S := S.rw_tr 1 rfl (by omega)
  refine LoadX.same (v := .int .i64 x.prime) (S.at_ 2 rfl) rfl ?_
  refine CallX.same (l01Rank_c _ x.prime (dimZ x i j).toNat _ (botZ x i j) hp (by omega) (S.rd OII.reads 1 rfl) (hB0.mat.append hFr) (by unfold botZ; rw [List.length_append]; unfold imgs; rw [tabR_length]; omega)) ?_
  rintro r g' ⟨rfl, rfl⟩
  refine WR.as (r := secN x i j) rfl ?_ (by unfold secN botZ; omega) (by unfold secN botZ; omega)
  exact FinX.keep hw S.le rfl ⟨rfl, rfl⟩

theorem secNum1_c (h : AH) (y : SDouble) (P' : DP) (hy : RDouble h (vD y P') y) (hd : DShape y) (b4 : Nat) (l4 : look h b4 = some ⟨cD y P', some (29, 4)⟩) (i j : Nat) (hi : i ≤ 6) (hj : j ≤ 6) :
    ACalls Tryz.prog 25 [.int .i64 i, .int .i64 j, .pointer (some ⟨b4, 0, none⟩)] h (fun r h' => r = .int .i64 (secN y j i) ∧ h' = h) := by
  refine ACalls.of Tt.tab Tryz.func25 rfl (by kernel_rfl) Tryz.ntmps25 _ rfl rfl (fun hw => ?_)
  refine LoadX.same (v := vD y P') l4 rfl ?_
  refine CallX.same (second_c _ _ y j i hy hd hj hi) ?_
  rintro r g ⟨rfl, rfl⟩
  exact FinX.keep hw (Le.refl _) rfl ⟨rfl, rfl⟩
theorem secHI_c (h : AH) (v : Value) (x : SDouble) (hx : RDouble h v x) (rows : Bool) : ACalls Tryz.prog 7 [v, .bool rows] h (MadeC OII h (secH x rows).1 (secH x rows).2) := by
  obtain ⟨P, kx, qx⟩ := hx.at_
  refine ACalls.wk (args' := [vD x P, .bool rows]) ?_ (.cons kx (.cons (Wk.refl _) .nil))
  refine ACalls.of Tt.tab Tryz.func7 rfl (by kernel_rfl) Tryz.ntmps7 _ rfl rfl (fun hw => ?_)
  have S := Sep.start h
  refine S.new fun b g S => ?_
  refine LoadX.same (v := vD x P) (S.at_ 0 rfl) rfl ?_
  refine CallX.same (isDoubleI_c _ _ x (qx.reads S.le)) ?_
  rintro r g ⟨rfl, rfl⟩
  unfold secH
  refine BIf.mk (fun h1 => ?_) (fun h1 => ?_)
  · have h1 : dOk x = false := by simpa using h1
    rw [h1]
    exact S.nilC
  have h1 : dOk x = true := by simpa using h1
  rw [if_pos h1]
  have hd := (dOk_mk h1).toDShape
  have hW := hd.w
  have hH := hd.h
  refine BIf.mk (fun h2 => ?_) (fun h2 => ?_)
  · have h2 : rows = false := by simpa using h2
    subst h2
    refine LoadX.same (v := vD x P) (S.at_ 0 rfl) rfl ?_
    refine LoadX.same (v := vD x P) (S.at_ 0 rfl) rfl ?_
    refine S.made OII.fr (cellTable_c _ _ x (qx.reads S.le) ⟨hW.1, hW.2, hH.2⟩ _ _ _ (secN x) fun g2 i j L hi hj => second_c g2 _ x i j (qx.reads (S.le.trans L)) hd (by omega) (by omega)) fun b2 o2 g S => ?_
    exact S.finC 0 rfl
  have h2 : rows = true := by simpa using h2
  subst h2
  refine LoadX.same (v := vD x P) (S.at_ 0 rfl) rfl ?_
  refine CallX.same (transposedN_c _ _ x (qx.reads S.le) hd) ?_
  rintro r g' ⟨P', l, rfl, ho, L⟩
  have S := S.tree ODouble.fr ho L
  clear ho
  refine S.new fun b4 g S => ?_
  refine S.put 0 rfl fun g S => ?_
  refine LoadX.same (v := vD x P) (S.at_ 2 rfl) rfl ?_
  refine S.made OII.fr (cellTable_c _ _ x (qx.reads S.le) ⟨hW.1, hW.2, hH.2⟩ _ _ _ (fun i j => secN (flipD x) j i) fun g2 i j L hi hj => secNum1_c g2 (flipD x) P' (RDouble.le _ _ _ _ L (S.rd ODouble.reads 1 rfl)) (flip_shape hd) b4 (L.at_ _ _ (S.at_ 0 rfl)) i j (by omega) (by omega)) fun b2 o2 g S => ?_
  exact S.finC 0 rfl

theorem secHS_c (h : AH) (v : Value) (x : SDouble) (hx : RDouble h v x) (rows : Bool) : ACalls Tryz.prog 5 [v, .bool rows] h (MadeC OII h (secH x rows).1 (secH x rows).2) := by
  obtain ⟨P, kx, qx⟩ := hx.at_
  refine ACalls.wk (args' := [vD x P, .bool rows]) ?_ (.cons kx (.cons (Wk.refl _) .nil))
  refine ACalls.of Tt.tab Tryz.func5 rfl (by kernel_rfl) Tryz.ntmps5 _ rfl rfl (fun hw => ?_)
  have S := Sep.start h
  refine S.new fun b g S => ?_
  refine LoadX.same (v := vD x P) (S.at_ 0 rfl) rfl ?_
  refine CallX.same (l03Is_c _ _ x (qx.reads S.le)) ?_
  rintro r g ⟨rfl, rfl⟩
  unfold secH
  refine BIf.mk (fun h1 => ?_) (fun h1 => ?_)
  · have h1 : dOk x = false := by simpa using h1
    rw [h1]
    exact S.nilC
  have h1 : dOk x = true := by simpa using h1
  rw [if_pos h1]
  have hd := (dOk_mk h1).toDShape
  have hW := hd.w
  have hH := hd.h
  refine BIf.mk (fun h2 => ?_) (fun h2 => ?_)
  · have h2 : rows = true := h2
    subst h2
    refine LoadX.same (v := vD x P) (S.at_ 0 rfl) rfl ?_
    refine CallX.same (l03Flip_c _ _ x (qx.reads S.le) hd) ?_
    rintro r g' ⟨P', l, rfl, ho, L⟩
    have S := S.tree ODouble.fr ho L
    clear ho
    have eW : dW (flipD x) = dH x := flip_W
    have eH : dH (flipD x) = dW x := flip_H hd.toDHead
    refine S.made OII.fr (l03Numbers_c _ _ (flipD x) true (secN (flipD x)) (S.rd ODouble.reads 0 rfl) (flip_shape hd) (fun hh => by cases hh) fun _ g2 i j L u hu hi hj => l03Second_c g2 u (flipD x) i j hu (flip_shape hd) (by omega) (by omega)) fun b2 o2 g S => ?_
    rw [eW, eH] at S ⊢
    refine S.made OII.fr (l03Turned_c _ _ (dH x) (dW x) (secN (flipD x)) (S.rd OII.reads 0 rfl) ⟨hH.1, by omega⟩ (by omega)) fun b3 o3 g S => ?_
    exact S.finC 0 rfl
  have h2 : rows = false := h2
  subst h2
  refine LoadX.same (v := vD x P) (S.at_ 0 rfl) rfl ?_
  refine S.made OII.fr (l03Numbers_c _ _ x true (secN x) (qx.reads S.le) hd (fun hh => by cases hh) fun _ g2 i j L u hu hi hj => l03Second_c g2 u x i j hu hd (by omega) (by omega)) fun b2 o2 g S => ?_
  exact S.finC 0 rfl

end Go.Gl

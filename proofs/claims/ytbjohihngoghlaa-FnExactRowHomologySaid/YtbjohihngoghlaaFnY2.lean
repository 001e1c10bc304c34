/- Chapter 3: column homology and row homology, the program's side. No condition. -/
import Derived.Test.YtbjohihngoghlaaFnY1
import Derived.Test.YtbjohihngoghlaaFnK1
import Derived.Test.YtbjohihngoghlaaFnX8
set_option linter.unusedVariables false
set_option linter.unusedSimpArgs false
namespace Go.Gl
open Go.Proofs Go.Proofs.Ytbjohihngoghlaa Go.Pl

theorem IsP.of {p : Int} (h : prime p = true) : IsP p := by
  unfold prime at h
  unfold IsP
  simp at h
  omega
theorem RII.nilX (h : AH) : RII h (.slice none 0 0) [] := ⟨by simp, 0, 0, Wk.nil _, fun k x e => by simp at e⟩
theorem dwn_unitZ {x : SDouble} (h : DShape x) {i j : Int} {k : Nat} (hk : (k : Int) < dimZ x i j) : dwn x i j (unitv (dimZ x i j).toNat k) = row (celZ x x.down i j) k := by
  obtain ⟨t1, t2⟩ := h.dwn.cell i j
  have := prime_rng h.p
  exact comb_unit (by omega) t2 (by omega) (by omega)
theorem acr_unitZ {x : SDouble} (h : DShape x) {i j : Int} {k : Nat} (hk : (k : Int) < dimZ x i j) : acr x i j (unitv (dimZ x i j).toNat k) = row (celZ x x.across i j) k := by
  obtain ⟨t1, t2⟩ := h.acr.cell i j
  have := prime_rng h.p
  exact comb_unit (by omega) t2 (by omega) (by omega)
/-- what a function makes of a list -/
def imgs (list : List (List Int)) (φ : List Int → List Int) : List (List Int) := tabR list.length fun k => φ (row list k)

theorem images_c (h : AH) (p : Int) (n : Nat) (lv : Value) (list : List (List Int)) (f : Nat) (cap : Array Value) (φ : List Int → List Int) (hp : IsP p) (hn : n ≤ 1000) (hl : RII h lv list) (hll : list.length ≤ 1000)
    (hφ : ∀ k, k < list.length → Vec p n (φ (row list k)))
    (hf : ∀ g2 (b o k : Nat), Le h g2 → k < list.length → RI g2 (.slice (some ⟨b, o, none⟩) (row list k).length 0) (row list k) → ACalls Try.prog f (.slice (some ⟨b, o, none⟩) (row list k).length 0 :: cap.toList) g2 (Made OI g2 (φ (row list k)))) :
    ACalls Try.prog 219 [.int .i64 p, lv, .func (.func f) #[] cap] h (Made OII h (ech p (imgs list φ))) := by
  obtain ⟨b1, o1, k1, hl⟩ := hl.can
  have c1 := hl.cells rfl
  refine ACalls.madeN (ACalls.wk (args' := [.int .i64 p, .slice (some ⟨b1, o1, none⟩) list.length 0, .func (.func f) #[] cap]) ?_ (.cons (Wk.refl _) (.cons k1 (.cons (Wk.refl _) .nil))))
  refine ACalls.of Tt.tab Try.func219 rfl (by kernel_rfl) Try.ntmps219 _ rfl rfl (fun hw => ?_)
  have S := Sep.start h
  refine S.new fun b4 g S => ?_
  have S := S.bx_rw 0 OI.fr rfl
  refine ⟨⟨[0, 2, 7, 11, 12, 13], fun n' vs g => ∃ (j b4 : Nat), n' = list.length - j ∧ j ≤ list.length ∧ Sep h.length h g [.rw OI.fr 22 h.length (.slice (some ⟨b4, 0, none⟩) j 1) j (tabR j fun k => φ (row list k))] ∧
    vs = [.int .i64 p, .func (.func f) #[] cap, .slice (some ⟨b4, 0, none⟩) j 1, .slice (some ⟨b1, o1, none⟩) list.length 0, .int .i64 list.length, .int .i64 j], _, ⟨0, b4, rfl, Nat.zero_le _, S, rfl⟩, ?_⟩⟩
  rintro n' vs g ⟨j, b4, rfl, hj, S, rfl⟩
  refine BIf.mk (fun h3 => ?_) (fun h3 => ?_)
  · have h3 : j < list.length := by simpa using h3
    refine IdxX.mk (by omega) (by omega) ?_
    refine c1.rowY S.le h3 fun b5 o5 h5 => ?_
    refine S.made OI.fr (hf _ b5 o5 j S.le h3 (RI.le _ _ _ _ S.le h5)) fun b6 o6 g S => ?_
    refine S.new fun b7 g S => ?_
    refine S.appT 0 rfl rfl (by omega) fun b8 g S => ?_
    refine WR.i64 ?_
    exact ⟨list.length - (j + 1), by omega, j + 1, b8, rfl, h3, by rw [tabR_succ]; exact S, rfl⟩
  · have hj2 : j = list.length := by simp at h3; omega
    subst hj2
    have S := S.rw_tr 0 rfl (by omega)
    have hm : Mat p n (imgs list φ) := Mat.tab hφ
    refine S.made OII.fr (reduce_c _ p n _ (imgs list φ) hp (by omega) (S.rd OII.reads 0 rfl) hm (by rw [imgs, tabR_length]; omega)) fun b9 o9 g S => ?_
    exact S.fin 0 rfl

def killR (p : Int) (m : Nat) (part : List (List Int)) (φ : List Int → List Int) : List (List Int) := tabR m fun k => rest p part (φ (unitv m k))
theorem killed_c (h : AH) (p : Int) (m n : Nat) (pv : Value) (part : List (List Int)) (f : Nat) (cap : Array Value) (φ : List Int → List Int) (hp : IsP p) (hm : m ≤ 1000) (hn : n ≤ 1000) (hl : RII h pv part) (hll : part.length ≤ 1000) (hr : RedL p n part)
    (hφ : ∀ k, k < m → Vec p n (φ (unitv m k)))
    (hf : ∀ g2 (b o k : Nat), Le h g2 → k < m → RI g2 (.slice (some ⟨b, o, none⟩) m 0) (unitv m k) → ACalls Try.prog f (.slice (some ⟨b, o, none⟩) m 0 :: cap.toList) g2 (Made OI g2 (φ (unitv m k)))) :
    ACalls Try.prog 187 [.int .i64 p, .int .i64 m, pv, .func (.func f) #[] cap] h (Made OII h (kern p n (killR p m part φ))) := by
  have hpp := hp.rng
  obtain ⟨b1, o1, k1, hl⟩ := hl.can
  refine ACalls.madeN (ACalls.wk (args' := [.int .i64 p, .int .i64 m, .slice (some ⟨b1, o1, none⟩) part.length 0, .func (.func f) #[] cap]) ?_ (.cons (Wk.refl _) (.cons (Wk.refl _) (.cons k1 (.cons (Wk.refl _) .nil)))))
  refine ACalls.of Tt.tab Try.func187 rfl (by kernel_rfl) Try.ntmps187 _ rfl rfl (fun hw => ?_)
  have S := Sep.start h
  refine S.new fun b4 g S => ?_
  have S := S.bx_rw 0 OI.fr rfl
  refine S.made OII.fr (units_c _ m hm) fun b2 o2 g S => ?_
  have eu : (unitsL m).length = m := tabR_length _ _
  refine ⟨⟨[0, 2, 3, 9, 14, 15, 16], fun n' vs g => ∃ (j b4 : Nat), n' = m - j ∧ j ≤ m ∧ Sep h.length h g [.tr OII.fr h.length (.slice (some ⟨b2, o2, none⟩) (unitsL m).length 0) (unitsL m), .rw OI.fr 22 h.length (.slice (some ⟨b4, 0, none⟩) j 1) j (tabR j fun k => rest p part (φ (unitv m k)))] ∧
    vs = [.int .i64 p, .slice (some ⟨b1, o1, none⟩) part.length 0, .func (.func f) #[] cap, .slice (some ⟨b4, 0, none⟩) j 1, .slice (some ⟨b2, o2, none⟩) (unitsL m).length 0, .int .i64 (unitsL m).length, .int .i64 j], _, ⟨0, b4, rfl, Nat.zero_le _, S, rfl⟩, ?_⟩⟩
  clear S
  rintro n' vs g ⟨j, b4, rfl, hj, S, rfl⟩
  refine BIf.mk (fun h3 => ?_) (fun h3 => ?_)
  · have h3 : j < m := by simp at h3; omega
    have e1 : row (unitsL m) j = unitv m j := tabR_row h3
    refine IdxX.mk (by omega) (by omega) ?_
    refine (S.cellsII 0 rfl).rowY (Le.refl _) (show j < (unitsL m).length by omega) fun b5 o5 h5 => ?_
    rw [e1, show (unitv m j).length = m from tab_length _ _] at h5 ⊢
    refine S.made OI.fr (hf _ b5 o5 j S.le h3 h5) fun b6 o6 g S => ?_
    refine S.made OI.fr (modulo_c _ p n _ _ (φ (unitv m j)) part hp (S.rd OI.reads 0 rfl) (RII.le _ _ _ _ S.le hl) (by omega) (hφ j h3) hr (by omega)) fun b7 o7 g S => ?_
    refine S.new fun b8 g S => ?_
    refine S.appT 2 rfl rfl (by omega) fun b9 g S => ?_
    refine WR.i64 ?_
    exact ⟨m - (j + 1), by omega, j + 1, b9, rfl, h3, by rw [tabR_succ]; exact S.tail, rfl⟩
  · have hj2 : j = m := by simp at h3; omega
    subst hj2
    have S := S.rw_tr 1 rfl (by omega)
    have hmm : Mat p n (killR p j part φ) := Mat.tab fun k hk => restN_vec (by omega) (hφ k hk) _
    have hlen : (killR p j part φ).length = j := tabR_length _ _
    refine S.made OII.fr (kernel_c _ p n _ (killR p j part φ) hp (by omega) (S.rd OII.reads 1 rfl) hmm (by omega)) fun b9 o9 g S => ?_
    exact S.fin 0 rfl

theorem fromAbove1_c (h : AH) (x : SDouble) (P : DP) (q : QD h x P) (hd : DShape x) (b3 b4 b5 : Nat) (i j : Int) (hj : -9 ≤ j ∧ j ≤ 9) (l3 : look h b3 = some ⟨cD x P, some (71, 4)⟩) (l4 : look h b4 = some ⟨[.int .i64 i], some (2, 1)⟩) (l5 : look h b5 = some ⟨[.int .i64 j], some (2, 1)⟩)
    (wv : Value) (w : List Int) (hw' : RI h wv w) (bw : Rng x.prime w) (hl : (w.length : Int) ≤ dimZ x i (j + 1)) :
    ACalls Try.prog 220 [wv, .pointer (some ⟨b3, 0, none⟩), .pointer (some ⟨b4, 0, none⟩), .pointer (some ⟨b5, 0, none⟩)] h (Made OI h (dwn x i (j + 1) w)) := by
  obtain ⟨b, o, kw, hw'⟩ := hw'.can
  refine ACalls.madeI (ACalls.wk (args' := [.slice (some ⟨b, o, none⟩) w.length 0, .pointer (some ⟨b3, 0, none⟩), .pointer (some ⟨b4, 0, none⟩), .pointer (some ⟨b5, 0, none⟩)]) ?_ (.cons kw (.cons (Wk.refl _) (.cons (Wk.refl _) (.cons (Wk.refl _) .nil)))))
  refine ACalls.of Tt.tab Try.func220 rfl (by kernel_rfl) Try.ntmps220 _ rfl rfl (fun hw => ?_)
  have S := Sep.start h
  refine LoadX.same (v := vD x P) l3 rfl ?_
  refine LoadX.same (v := .int .i64 i) l4 rfl ?_
  refine LoadX.same (v := .int .i64 j) l5 rfl ?_
  refine WR.i64 ?_
  refine S.made OI.fr (down_c _ _ _ x i (j + 1) w (q.reads S.le) hw' hd.toDHead hd.dwn (by omega) bw hl) fun b6 o6 g S => ?_
  exact S.fin 0 rfl
theorem fromAbove_c (h : AH) (v : Value) (x : SDouble) (i j : Int) (hx : RDouble h v x) (hd : DShape x) (hj : -8 ≤ j ∧ j ≤ 8) :
    ACalls Try.prog 189 [v, .int .i64 i, .int .i64 j] h (Made OII h (ech x.prime (celZ x x.down i (j + 1)))) := by
  obtain ⟨P, kx, qx⟩ := hx.at_
  refine ACalls.madeN (ACalls.wk (args' := [vD x P, .int .i64 i, .int .i64 j]) ?_ (.cons kx (.cons (Wk.refl _) (.cons (Wk.refl _) .nil))))
  refine ACalls.of Tt.tab Try.func189 rfl (by kernel_rfl) Try.ntmps189 _ rfl rfl (fun hw => ?_)
  have S := Sep.start h
  have hpr := prime_rng hd.p
  have hdm := hd.dim i (j + 1)
  have hdm2 := hd.dim i j
  obtain ⟨m, hm⟩ : ∃ m : Nat, dimZ x i (j + 1) = m := ⟨(dimZ x i (j + 1)).toNat, by omega⟩
  obtain ⟨t1, t2⟩ := hd.dwn.cell i (j + 1)
  have e1 : celZ x x.down i (j + 1) = imgs (unitsL m) (dwn x i (j + 1)) := by
    have eu : (unitsL m).length = m := tabR_length _ _
    unfold imgs
    rw [eu]
    refine (tabR_eq (xs := celZ x x.down i (j + 1))).trans ?_
    rw [show (celZ x x.down i (j + 1)).length = m by omega]
    refine tabR_congr fun k hk => ?_
    have := dwn_unitZ hd (i := i) (j := j + 1) (k := k) (by omega)
    rw [hm, Int.toNat_natCast] at this
    rw [show row (unitsL m) k = unitv m k from tabR_row hk, this]
  refine S.new fun b3 g S => ?_
  refine S.new fun b4 g S => ?_
  refine S.new fun b5 g S => ?_
  refine DrawX.of Tt.tab follows_any [7, 9] [] [0, 1, 2, 3, 4, 5, 6, 8, 7, 9, 10] rfl (by kernel_rfl) (by kernel_rfl) ?_
  refine LoadX.same (v := .int .i64 x.prime) (S.at_ 2 rfl) rfl ?_
  refine LoadX.same (v := vD x P) (S.at_ 2 rfl) rfl ?_
  refine LoadX.same (v := .int .i64 i) (S.at_ 1 rfl) rfl ?_
  refine LoadX.same (v := .int .i64 j) (S.at_ 0 rfl) rfl ?_
  refine WR.i64 ?_
  refine QCall.of (fun g2 hl => dim_c g2 _ x i (j + 1) (qx.reads (S.le.trans hl)) hd.toDHead) rfl ?_
  rw [hm]
  refine S.madeL OII.fr (units_c _ m (by omega)) fun b6 o6 g L S => ?_
  refine ⟨L, ?_⟩
  have eu : (unitsL m).length = m := tabR_length _ _
  refine S.madeL OII.fr (images_c _ x.prime (dimZ x i j).toNat _ (unitsL m) _ _ (dwn x i (j + 1)) (IsP.of hd.p) (by omega) (S.rd OII.reads 0 rfl) (by omega) (fun k hk => by
    have := dwn_vec hd.toDHead i (j + 1) (row (unitsL m) k)
    rw [show j + 1 - 1 = j by omega] at this
    exact this) fun g2 b7 o7 k L2 hk hr => fromAbove1_c g2 x P (QDouble.le (S.le.trans L2) qx) hd b3 b4 b5 i j (by omega) (L2.at_ _ _ (S.at_ 3 rfl)) (L2.at_ _ _ (S.at_ 2 rfl)) (L2.at_ _ _ (S.at_ 1 rfl)) _ _ hr (((unitsL_mat (p := x.prime) (by omega) m).row hk).2) (by
    rw [((unitsL_mat (p := x.prime) (by omega) m).row hk).1]; omega)) fun b8 o8 g L S => ?_
  refine ⟨L, ?_⟩
  rw [← e1] at S ⊢
  exact S.fin 0 rfl

noncomputable def colN (x : SDouble) (i j : Nat) : Int := ((kern x.prime (dimZ x i ((j : Int) - 1)).toNat (celZ x x.down i j)).length : Int) - (ech x.prime (celZ x x.down i ((j : Int) + 1))).length
theorem columnH1_c (h : AH) (x : SDouble) (P : DP) (q : QD h x P) (hd : DShape x) (b3 b4 b5 : Nat) (i j : Int) (hj : -9 ≤ j ∧ j ≤ 9) (l3 : look h b3 = some ⟨cD x P, some (71, 4)⟩) (l4 : look h b4 = some ⟨[.int .i64 i], some (2, 1)⟩) (l5 : look h b5 = some ⟨[.int .i64 j], some (2, 1)⟩)
    (wv : Value) (w : List Int) (hw' : RI h wv w) (bw : Rng x.prime w) (hl : (w.length : Int) ≤ dimZ x i j) :
    ACalls Try.prog 188 [wv, .pointer (some ⟨b3, 0, none⟩), .pointer (some ⟨b4, 0, none⟩), .pointer (some ⟨b5, 0, none⟩)] h (Made OI h (dwn x i j w)) := by
  obtain ⟨b, o, kw, hw'⟩ := hw'.can
  refine ACalls.madeI (ACalls.wk (args' := [.slice (some ⟨b, o, none⟩) w.length 0, .pointer (some ⟨b3, 0, none⟩), .pointer (some ⟨b4, 0, none⟩), .pointer (some ⟨b5, 0, none⟩)]) ?_ (.cons kw (.cons (Wk.refl _) (.cons (Wk.refl _) (.cons (Wk.refl _) .nil)))))
  refine ACalls.of Tt.tab Try.func188 rfl (by kernel_rfl) Try.ntmps188 _ rfl rfl (fun hw => ?_)
  have S := Sep.start h
  refine LoadX.same (v := vD x P) l3 rfl ?_
  refine LoadX.same (v := .int .i64 i) l4 rfl ?_
  refine LoadX.same (v := .int .i64 j) l5 rfl ?_
  refine S.made OI.fr (down_c _ _ _ x i j w (q.reads S.le) hw' hd.toDHead hd.dwn (by omega) bw hl) fun b6 o6 g S => ?_
  exact S.fin 0 rfl
theorem killR_down {x : SDouble} (hd : DShape x) {i j : Int} {m : Nat} (hm : dimZ x i j = m) : killR x.prime m [] (dwn x i j) = celZ x x.down i j := by
  obtain ⟨t1, t2⟩ := hd.dwn.cell i j
  unfold killR
  refine Eq.trans ?_ (tabR_eq (xs := celZ x x.down i j)).symm
  rw [show (celZ x x.down i j).length = m by omega]
  refine tabR_congr fun k hk => ?_
  have := dwn_unitZ hd (i := i) (j := j) (k := k) (by omega)
  rw [hm, Int.toNat_natCast] at this
  rw [this]
  rfl
theorem columnH_c (h : AH) (v : Value) (x : SDouble) (i j : Nat) (hx : RDouble h v x) (hd : DShape x) (hi : i ≤ 8) (hj : j ≤ 8) :
    ACalls Try.prog 135 [v, .int .i64 i, .int .i64 j] h (fun r h' => r = .int .i64 (colN x i j) ∧ h' = h) := by
  obtain ⟨P, kx, qx⟩ := hx.at_
  refine ACalls.wk (args' := [vD x P, .int .i64 i, .int .i64 j]) ?_ (.cons kx (.cons (Wk.refl _) (.cons (Wk.refl _) .nil)))
  refine ACalls.of Tt.tab Try.func135 rfl (by kernel_rfl) Try.ntmps135 _ rfl rfl (fun hw => ?_)
  have S := Sep.start h
  have hpr := prime_rng hd.p
  have hp := IsP.of hd.p
  have hdm := hd.dim i j
  have hdm2 := hd.dim i ((j : Int) - 1)
  obtain ⟨m, hm⟩ : ∃ m : Nat, dimZ x i j = m := ⟨(dimZ x i j).toNat, by omega⟩
  obtain ⟨t1, t2⟩ := hd.dwn.cell i j
  obtain ⟨t3, t4⟩ := hd.dwn.cell i ((j : Int) + 1)
  have hdm3 := hd.dim i ((j : Int) + 1)
  have r1 := (kern_red hp t2).len
  have r2 := (ech_spec hp t4).1.len
  have hdm4 := hd.dim i ((j : Int) + 1 - 1)
  refine S.new fun b3 g S => ?_
  refine S.new fun b4 g S => ?_
  refine S.new fun b5 g S => ?_
  refine DrawX.of Tt.tab follows_any [7] [] [0, 1, 2, 3, 4, 5, 6, 7, 8] rfl (by kernel_rfl) (by kernel_rfl) ?_
  refine LoadX.same (v := .int .i64 x.prime) (S.at_ 2 rfl) rfl ?_
  refine LoadX.same (v := vD x P) (S.at_ 2 rfl) rfl ?_
  refine LoadX.same (v := .int .i64 i) (S.at_ 1 rfl) rfl ?_
  refine LoadX.same (v := .int .i64 j) (S.at_ 0 rfl) rfl ?_
  refine QCall.of (fun g2 hl => dim_c g2 _ x i j (qx.reads (S.le.trans hl)) hd.toDHead) rfl ?_
  rw [hm]
  refine S.madeL OII.fr (killed_c _ x.prime m (dimZ x i ((j : Int) - 1)).toNat _ [] _ _ (dwn x i j) hp (by omega) (by omega) (RII.nilX _) (by simp) (RedL.nil _ _) (fun k hk => dwn_vec hd.toDHead i j _) fun g2 b7 o7 k L2 hk hr => columnH1_c g2 x P (QDouble.le (S.le.trans L2) qx) hd b3 b4 b5 i j (by omega) (L2.at_ _ _ (S.at_ 2 rfl)) (L2.at_ _ _ (S.at_ 1 rfl)) (L2.at_ _ _ (S.at_ 0 rfl)) _ _ hr ((unitv_vec (p := x.prime) (by omega) m k).2) (by rw [show (unitv m k).length = m from tab_length _ _]; omega)) fun b6 o6 g L S => ?_
  refine ⟨L, ?_⟩
  rw [killR_down hd hm] at S ⊢
  refine DrawX.of Tt.tab follows_any [5] [] [0, 1, 2, 3, 4, 5, 6, 7, 8] rfl (by kernel_rfl) (by kernel_rfl) ?_
  refine QCall.of (fun g2 hl => sizeII_c g2 _ _ _ _) rfl ?_
  refine LoadX.same (v := vD x P) (S.at_ 3 rfl) rfl ?_
  refine LoadX.same (v := .int .i64 i) (S.at_ 2 rfl) rfl ?_
  refine LoadX.same (v := .int .i64 j) (S.at_ 1 rfl) rfl ?_
  refine S.madeL OII.fr (fromAbove_c _ _ x i j (qx.reads S.le) hd (by omega)) fun b8 o8 g L S => ?_
  refine ⟨L, ?_⟩
  refine QCall.of (fun g2 hl => sizeII_c g2 _ _ _ _) rfl ?_
  refine WR.i64 ?_
  exact FinX.keep hw S.le rfl ⟨rfl, rfl⟩

end Go.Gl

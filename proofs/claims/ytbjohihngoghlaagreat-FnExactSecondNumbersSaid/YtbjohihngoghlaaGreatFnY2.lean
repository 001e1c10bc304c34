/- Chapter 1: what is left of a vector by a reduced list, the program's side. No condition. Chapter 3: column homology and row homology, the program's side. No condition. -/
import Derived.Test.YtbjohihngoghlaaGreatFnE2
import Derived.Test.YtbjohihngoghlaaGreatFnK1
import Derived.Test.YtbjohihngoghlaaGreatFnX9
set_option linter.unusedVariables false
set_option linter.unusedSimpArgs false
namespace Go.Gl
open Go.Proofs Go.Proofs.YtbjohihngoghlaaGreat Go.Pl

theorem idx_lead (xs : List Int) : idx (fun x => decide (x ≠ 0)) xs = lead xs := by
  induction xs with
  | nil => rfl
  | cons x xs ih => unfold idx lead; rw [ih]; by_cases h : x = 0 <;> simp [h]

theorem leads1_c (h : AH) (x : Int) : ACalls Tryz.prog 106 [.int .i64 x] h (fun r h' => r = .bool (decide (x ≠ 0)) ∧ h' = h) := by
  refine ACalls.of Tt.tab Tryz.func106 rfl (by kernel_rfl) Tryz.ntmps106 _ rfl rfl (fun hw => ?_)
  refine FinX.keep hw (Le.refl _) rfl ⟨?_, rfl⟩
  congr 1
  by_cases hx : x = 0
  · subst hx; rfl
  · simp [hx]
theorem leads_c (h : AH) (rv : Value) (rows : List (List Int)) (hr : RII h rv rows) (hl : rows.length ≤ 100000) :
    ACalls Tryz.prog 104 [rv] h (fun r h' => ∃ b, r = .slice (some ⟨b, 0, none⟩) rows.length 1 ∧ look h' b = some ⟨(tab rows.length fun k => lead (row rows k)).map (.int .i64), some (3, 1)⟩ ∧ h.length ≤ b ∧ Le h h') := by
  obtain ⟨_, b1, o1, k1, c1⟩ := hr
  refine ACalls.wk (args' := [.slice (some ⟨b1, o1, none⟩) rows.length 0]) ?_ (.cons k1 .nil)
  refine ACalls.of Tt.tab Tryz.func104 rfl (by kernel_rfl) Tryz.ntmps104 _ rfl rfl (fun hw => ?_)
  have S := Sep.start h
  refine S.new fun b2 g S => ?_
  have S := S.bx_rc 0 (k := 0) rfl rfl
  refine ⟨⟨[3, 7, 8, 9], fun n' vs g => ∃ (i b2 : Nat), n' = rows.length - i ∧ i ≤ rows.length ∧ Sep h.length h g [.rc 3 1 h.length (.slice (some ⟨b2, 0, none⟩) i 1) i ((tab i fun k => lead (row rows k)).map (.int .i64))] ∧
    vs = [.slice (some ⟨b2, 0, none⟩) i 1, .slice (some ⟨b1, o1, none⟩) rows.length 0, .int .i64 rows.length, .int .i64 i], _, ⟨0, b2, rfl, Nat.zero_le _, S, rfl⟩, ?_⟩⟩
  rintro n' vs g ⟨i, b2, rfl, hi, S, rfl⟩
  refine BIf.mk (fun h2 => ?_) (fun h2 => ?_)
  · have hlt : i < rows.length := by simpa using h2
    refine IdxX.mk (by omega) (by omega) ?_
    refine c1.rowY S.le hlt fun b3 o3 h3 => ?_
    refine CallX.same (indexFuncI_c _ _ (row rows i) _ _ (fun x => decide (x ≠ 0)) (RI.le _ _ _ _ S.le h3) (fun x _ u hu => by subst hu; exact leads1_c _ x)) ?_
    rintro r g' ⟨rfl, rfl⟩
    rw [idx_lead]
    refine S.new fun b4 g S => ?_
    refine S.app 0 rfl rfl rfl (by omega) fun b5 g S => ?_
    refine WR.i64 ?_
    exact ⟨rows.length - (i + 1), by omega, i + 1, b5, rfl, hlt, by rw [tab_succ, List.map_append]; exact S, rfl⟩
  · have hi2 : i = rows.length := by simp at h2; omega
    subst hi2
    have S := S.rc_bx 0 rfl
    exact FinX.here S.le.len ⟨b2, rfl, S.at_ 0 rfl, S.ge 0 rfl, S.le⟩

theorem restN_vec {p : Int} (hp : 0 < p) {n : Nat} {list : List (List Int)} {v : List Int} (hv : Vec p n v) : ∀ i, Vec p n (restN p list v i)
  | 0 => hv
  | i + 1 => (restN_vec hp hv i).less hp
theorem modulo_c (h : AH) (p : Int) (n : Nat) (vv rv : Value) (v : List Int) (rows : List (List Int)) (hp : IsP p) (hv : RI h vv v) (hr : RII h rv rows) (hn : n ≤ 100000) (bv : Vec p n v) (br : RedL p n rows) (hl : rows.length ≤ 100000) :
    ACalls Tryz.prog 89 [.int .i64 p, vv, rv] h (Made OI h (rest p rows v)) := by
  have hpp := hp.rng
  obtain ⟨b0, o0, k0, hv⟩ := hv.can
  obtain ⟨b1, o1, k1, hr⟩ := hr.can
  have c1 := hr.cells rfl
  refine ACalls.madeI (ACalls.wk (args' := [.int .i64 p, .slice (some ⟨b0, o0, none⟩) v.length 0, .slice (some ⟨b1, o1, none⟩) rows.length 0]) ?_ (.cons (Wk.refl _) (.cons k0 (.cons k1 .nil))))
  refine ACalls.of Tt.tab Tryz.func89 rfl (by kernel_rfl) Tryz.ntmps89 _ rfl rfl (fun hw => ?_)
  have S := Sep.start h
  refine S.made OI.fr (ACalls.madeI (cloneI_c _ _ v hv (by have := bv.1; omega))) fun b2 o2 g S => ?_
  rw [bv.1] at S ⊢
  refine CallX.same (leads_c _ _ rows (RII.le _ _ _ _ S.le hr) hl) ?_
  rintro r g' ⟨b3, rfl, l3, e3, L⟩
  have S := S.box L l3 e3
  clear l3 e3 L
  refine ⟨⟨[0, 2, 7, 13, 14, 15], fun n' vs g => ∃ i : Nat, n' = rows.length - i ∧ i ≤ rows.length ∧ Sep h.length h g [.bx b3 3 1 ((tab rows.length fun k => lead (row rows k)).map (.int .i64)), .tr OI.fr h.length (.slice (some ⟨b2, o2, none⟩) n 0) (restN p rows v i)] ∧
    vs = [.int .i64 p, .slice (some ⟨b1, o1, none⟩) rows.length 0, .slice (some ⟨b2, o2, none⟩) n 0, .slice (some ⟨b3, 0, none⟩) rows.length 1, .int .i64 rows.length, .int .i64 i], _, ⟨0, rfl, Nat.zero_le _, S, rfl⟩, ?_⟩⟩
  clear S
  rintro n' vs g ⟨i, rfl, hi, S, rfl⟩
  have hvi := restN_vec (list := rows) (show 0 < p by omega) bv i
  refine BIf.mk (fun h2 => ?_) (fun h2 => ?_)
  · have hlt : i < rows.length := by simpa using h2
    obtain ⟨q1, q2⟩ := br.lead hlt
    refine IdxX.mk (by omega) (by omega) ?_
    refine S.loadT 0 rfl hlt q1 ?_
    refine DrawX.of Tt.tab follows_any [] [10] [0, 1, 2, 3, 4, 5, 6, 7, 8, 9, 10] rfl (by kernel_rfl) (by kernel_rfl) ?_
    refine IdxX.mk (by omega) (by omega) ?_
    refine c1.rowY S.le hlt fun b4 o4 h4 => ?_
    refine IdxX.mk (by omega) (by omega) ?_
    have e0 := hvi.2.ith (by omega) (ldN rows i)
    refine ((S.rd OI.reads 1 rfl).cells hvi.1.symm).ith (Le.refl _) (show ldN rows i < (restN p rows v i).length by rw [hvi.1]; exact q2) ?_
    obtain ⟨F, f1, S2, f3⟩ := S.lend 1 rfl
    refine CallX.same (clear_c _ F _ b2 o2 n (restN p rows v i) (row rows i) _ p (ith (restN p rows v i) (ldN rows i)) f1 (RI.le _ _ _ _ S2.le h4) hvi (br.mat.row hlt) hpp e0 (by omega)) ?_
    rintro r g' ⟨rfl, u⟩
    have S := f3 _ _ u
    refine WR.i64 ?_
    exact ⟨rows.length - (i + 1), by omega, i + 1, rfl, hlt, S, rfl⟩
  · have hi2 : i = rows.length := by simp at h2; omega
    subst hi2
    have hr2 : (rest p rows v).length = n := hvi.1
    have S := S.retell 1 (x' := rest p rows v) rfl rfl
    exact S.fin 1 rfl

end Go.Gl

set_option linter.unusedVariables false
set_option linter.unusedSimpArgs false
namespace Go.Gl
open Go.Proofs Go.Proofs.YtbjohihngoghlaaGreat Go.Pl

theorem IsP.of {p : Int} (h : prime p = true) : IsP p := by
  unfold prime at h
  unfold IsP
  simp at h
  omega
theorem RII.nilX (h : AH) : RII h (.slice none 0 0) [] := ⟨by simp, 0, 0, Wk.nil _, fun k x e => by simp at e⟩
theorem dwn_unitZ {x : SDouble} (h : DShape x) {i j : Int} {k : Nat} (hk : (k : Int) < dimZ x i j) : dwn x i j (unitv (dimZ x i j).toNat k) = row (celZ x x.down i j) k := by
  obtain ⟨t1, t2⟩ := h.dwn.cell i j
  have := prime_rng h.p
  exact comb_unit (by omega) t2 (by omega) (by omega)
theorem acr_unitZ {x : SDouble} (h : DShape x) {i j : Int} {k : Nat} (hk : (k : Int) < dimZ x i j) : acr x i j (unitv (dimZ x i j).toNat k) = row (celZ x x.across i j) k := by
  obtain ⟨t1, t2⟩ := h.acr.cell i j
  have := prime_rng h.p
  exact comb_unit (by omega) t2 (by omega) (by omega)
/-- what a function makes of a list -/
def imgs (list : List (List Int)) (φ : List Int → List Int) : List (List Int) := tabR list.length fun k => φ (row list k)

theorem images_c (h : AH) (p : Int) (n : Nat) (lv : Value) (list : List (List Int)) (f : Nat) (cap : Array Value) (φ : List Int → List Int) (hp : IsP p) (hn : n ≤ 1000) (hl : RII h lv list) (hll : list.length ≤ 1000)
    (hφ : ∀ k, k < list.length → Vec p n (φ (row list k)))
    (hf : ∀ g2 (b o k : Nat), Le h g2 → k < list.length → RI g2 (.slice (some ⟨b, o, none⟩) (row list k).length 0) (row list k) → ACalls Tryz.prog f (.slice (some ⟨b, o, none⟩) (row list k).length 0 :: cap.toList) g2 (Made OI g2 (φ (row list k)))) :
    ACalls Tryz.prog 68 [.int .i64 p, lv, .func (.func f) #[] cap] h (Made OII h (ech p (imgs list φ))) := by
  obtain ⟨b1, o1, k1, hl⟩ := hl.can
  have c1 := hl.cells rfl
  refine ACalls.madeN (ACalls.wk (args' := [.int .i64 p, .slice (some ⟨b1, o1, none⟩) list.length 0, .func (.func f) #[] cap]) ?_ (.cons (Wk.refl _) (.cons k1 (.cons (Wk.refl _) .nil))))
  refine ACalls.of Tt.tab Tryz.func68 rfl (by kernel_rfl) Tryz.ntmps68 _ rfl rfl (fun hw => ?_)
  have S := Sep.start h
  refine S.new fun b4 g S => ?_
  have S := S.bx_rw 0 OI.fr rfl
  refine ⟨⟨[0, 2, 7, 11, 12, 13], fun n' vs g => ∃ (j b4 : Nat), n' = list.length - j ∧ j ≤ list.length ∧ Sep h.length h g [.rw OI.fr 46 h.length (.slice (some ⟨b4, 0, none⟩) j 1) j (tabR j fun k => φ (row list k))] ∧
    vs = [.int .i64 p, .func (.func f) #[] cap, .slice (some ⟨b4, 0, none⟩) j 1, .slice (some ⟨b1, o1, none⟩) list.length 0, .int .i64 list.length, .int .i64 j], _, ⟨0, b4, rfl, Nat.zero_le _, S, rfl⟩, ?_⟩⟩
  rintro n' vs g ⟨j, b4, rfl, hj, S, rfl⟩
  refine BIf.mk (fun h3 => ?_) (fun h3 => ?_)
  · have h3 : j < list.length := by simpa using h3
    refine IdxX.mk (by omega) (by omega) ?_
    refine c1.rowY S.le h3 fun b5 o5 h5 => ?_
    refine S.made OI.fr (hf _ b5 o5 j S.le h3 (RI.le _ _ _ _ S.le h5)) fun b6 o6 g S => ?_
    refine S.new fun b7 g S => ?_
    refine S.appT 0 rfl rfl (by omega) fun b8 g S => ?_
    refine WR.i64 ?_
    exact ⟨list.length - (j + 1), by omega, j + 1, b8, rfl, h3, by rw [tabR_succ]; exact S, rfl⟩
  · have hj2 : j = list.length := by simp at h3; omega
    subst hj2
    have S := S.rw_tr 0 rfl (by omega)
    have hm : Mat p n (imgs list φ) := Mat.tab hφ
    refine S.made OII.fr (reduce_c _ p n _ (imgs list φ) hp (by omega) (S.rd OII.reads 0 rfl) hm (by rw [imgs, tabR_length]; omega)) fun b9 o9 g S => ?_
    exact S.fin 0 rfl

def killR (p : Int) (m : Nat) (part : List (List Int)) (φ : List Int → List Int) : List (List Int) := tabR m fun k => rest p part (φ (unitv m k))
theorem killed_c (h : AH) (p : Int) (m n : Nat) (pv : Value) (part : List (List Int)) (f : Nat) (cap : Array Value) (φ : List Int → List Int) (hp : IsP p) (hm : m ≤ 1000) (hn : n ≤ 1000) (hl : RII h pv part) (hll : part.length ≤ 1000) (hr : RedL p n part)
    (hφ : ∀ k, k < m → Vec p n (φ (unitv m k)))
    (hf : ∀ g2 (b o k : Nat), Le h g2 → k < m → RI g2 (.slice (some ⟨b, o, none⟩) m 0) (unitv m k) → ACalls Tryz.prog f (.slice (some ⟨b, o, none⟩) m 0 :: cap.toList) g2 (Made OI g2 (φ (unitv m k)))) :
    ACalls Tryz.prog 62 [.int .i64 p, .int .i64 m, pv, .func (.func f) #[] cap] h (Made OII h (kern p n (killR p m part φ))) := by
  have hpp := hp.rng
  obtain ⟨b1, o1, k1, hl⟩ := hl.can
  refine ACalls.madeN (ACalls.wk (args' := [.int .i64 p, .int .i64 m, .slice (some ⟨b1, o1, none⟩) part.length 0, .func (.func f) #[] cap]) ?_ (.cons (Wk.refl _) (.cons (Wk.refl _) (.cons k1 (.cons (Wk.refl _) .nil)))))
  refine ACalls.of Tt.tab Tryz.func62 rfl (by kernel_rfl) Tryz.ntmps62 _ rfl rfl (fun hw => ?_)
  have S := Sep.start h
  refine S.new fun b4 g S => ?_
  have S := S.bx_rw 0 OI.fr rfl
  refine S.made OII.fr (units_c _ m hm) fun b2 o2 g S => ?_
  have eu : (unitsL m).length = m := tabR_length _ _
  refine ⟨⟨[0, 2, 3, 9, 14, 15, 16], fun n' vs g => ∃ (j b4 : Nat), n' = m - j ∧ j ≤ m ∧ Sep h.length h g [.tr OII.fr h.length (.slice (some ⟨b2, o2, none⟩) (unitsL m).length 0) (unitsL m), .rw OI.fr 46 h.length (.slice (some ⟨b4, 0, none⟩) j 1) j (tabR j fun k => rest p part (φ (unitv m k)))] ∧
    vs = [.int .i64 p, .slice (some ⟨b1, o1, none⟩) part.length 0, .func (.func f) #[] cap, .slice (some ⟨b4, 0, none⟩) j 1, .slice (some ⟨b2, o2, none⟩) (unitsL m).length 0, .int .i64 (unitsL m).length, .int .i64 j], _, ⟨0, b4, rfl, Nat.zero_le _, S, rfl⟩, ?_⟩⟩
  clear S
  rintro n' vs g ⟨j, b4, rfl, hj, S, rfl⟩
  refine BIf.mk (fun h3 => ?_) (fun h3 => ?_)
  · have h3 : j < m := by simp at h3; omega
    have e1 : row (unitsL m) j = unitv m j := tabR_row h3
    refine IdxX.mk (by omega) (by omega) ?_
    refine (S.cellsII 0 rfl).rowY (Le.refl _) (show j < (unitsL m).length by omega) fun b5 o5 h5 => ?_
    rw [e1, show (unitv m j).length = m from tab_length _ _] at h5 ⊢
    refine S.made OI.fr (hf _ b5 o5 j S.le h3 h5) fun b6 o6 g S => ?_
    refine S.made OI.fr (modulo_c _ p n _ _ (φ (unitv m j)) part hp (S.rd OI.reads 0 rfl) (RII.le _ _ _ _ S.le hl) (by omega) (hφ j h3) hr (by omega)) fun b7 o7 g S => ?_
    refine S.new fun b8 g S => ?_
    refine S.appT 2 rfl rfl (by omega) fun b9 g S => ?_
    refine WR.i64 ?_
    exact ⟨m - (j + 1), by omega, j + 1, b9, rfl, h3, by rw [tabR_succ]; exact S.tail, rfl⟩
  · have hj2 : j = m := by simp at h3; omega
    subst hj2
    have S := S.rw_tr 1 rfl (by omega)
    have hmm : Mat p n (killR p j part φ) := Mat.tab fun k hk => restN_vec (by omega) (hφ k hk) _
    have hlen : (killR p j part φ).length = j := tabR_length _ _
    refine S.made OII.fr (kernel_c _ p n _ (killR p j part φ) hp (by omega) (S.rd OII.reads 1 rfl) hmm (by omega)) fun b9 o9 g S => ?_
    exact S.fin 0 rfl

theorem fromAbove1_c (h : AH) (x : SDouble) (P : DP) (q : QD h x P) (hd : DShape x) (b3 b4 b5 : Nat) (i j : Int) (hj : -9 ≤ j ∧ j ≤ 9) (l3 : look h b3 = some ⟨cD x P, some (29, 4)⟩) (l4 : look h b4 = some ⟨[.int .i64 i], some (2, 1)⟩) (l5 : look h b5 = some ⟨[.int .i64 j], some (2, 1)⟩)
    (wv : Value) (w : List Int) (hw' : RI h wv w) (bw : Rng x.prime w) (hl : (w.length : Int) ≤ dimZ x i (j + 1)) :
    ACalls Tryz.prog 91 [wv, .pointer (some ⟨b3, 0, none⟩), .pointer (some ⟨b4, 0, none⟩), .pointer (some ⟨b5, 0, none⟩)] h (Made OI h (dwn x i (j + 1) w)) := by
  obtain ⟨b, o, kw, hw'⟩ := hw'.can
  refine ACalls.madeI (ACalls.wk (args' := [.slice (some ⟨b, o, none⟩) w.length 0, .pointer (some ⟨b3, 0, none⟩), .pointer (some ⟨b4, 0, none⟩), .pointer (some ⟨b5, 0, none⟩)]) ?_ (.cons kw (.cons (Wk.refl _) (.cons (Wk.refl _) (.cons (Wk.refl _) .nil)))))
  refine ACalls.of Tt.tab Tryz.func91 rfl (by kernel_rfl) Tryz.ntmps91 _ rfl rfl (fun hw => ?_)
  have S := Sep.start h
  refine LoadX.same (v := vD x P) l3 rfl ?_
  refine LoadX.same (v := .int .i64 i) l4 rfl ?_
  refine LoadX.same (v := .int .i64 j) l5 rfl ?_
  refine WR.i64 ?_
  refine S.made OI.fr (down_c _ _ _ x i (j + 1) w (q.reads S.le) hw' hd.toDHead hd.dwn (by omega) bw hl) fun b6 o6 g S => ?_
  exact S.fin 0 rfl
theorem fromAbove_c (h : AH) (v : Value) (x : SDouble) (i j : Int) (hx : RDouble h v x) (hd : DShape x) (hj : -8 ≤ j ∧ j ≤ 8) :
    ACalls Tryz.prog 64 [v, .int .i64 i, .int .i64 j] h (Made OII h (ech x.prime (celZ x x.down i (j + 1)))) := by
  obtain ⟨P, kx, qx⟩ := hx.at_
  refine ACalls.madeN (ACalls.wk (args' := [vD x P, .int .i64 i, .int .i64 j]) ?_ (.cons kx (.cons (Wk.refl _) (.cons (Wk.refl _) .nil))))
  refine ACalls.of Tt.tab Tryz.func64 rfl (by kernel_rfl) Tryz.ntmps64 _ rfl rfl (fun hw => ?_)
  have S := Sep.start h
  have hpr := prime_rng hd.p
  have hdm := hd.dim i (j + 1)
  have hdm2 := hd.dim i j
  obtain ⟨m, hm⟩ : ∃ m : Nat, dimZ x i (j + 1) = m := ⟨(dimZ x i (j + 1)).toNat, by omega⟩
  obtain ⟨t1, t2⟩ := hd.dwn.cell i (j + 1)
  have e1 : celZ x x.down i (j + 1) = imgs (unitsL m) (dwn x i (j + 1)) := by
    have eu : (unitsL m).length = m := tabR_length _ _
    unfold imgs
    rw [eu]
    refine (tabR_eq (xs := celZ x x.down i (j + 1))).trans ?_
    rw [show (celZ x x.down i (j + 1)).length = m by omega]
    refine tabR_congr fun k hk => ?_
    have := dwn_unitZ hd (i := i) (j := j + 1) (k := k) (by omega)
    rw [hm, Int.toNat_natCast] at this
    rw [show row (unitsL m) k = unitv m k from tabR_row hk, this]
  refine S.new fun b3 g S => ?_
  refine S.new fun b4 g S => ?_
  refine S.new fun b5 g S => ?_
  refine DrawX.of Tt.tab follows_any [7, 9] [] [0, 1, 2, 3, 4, 5, 6, 8, 7, 9, 10] rfl (by kernel_rfl) (by kernel_rfl) ?_
  refine LoadX.same (v := .int .i64 x.prime) (S.at_ 2 rfl) rfl ?_
  refine LoadX.same (v := vD x P) (S.at_ 2 rfl) rfl ?_
  refine LoadX.same (v := .int .i64 i) (S.at_ 1 rfl) rfl ?_
  refine LoadX.same (v := .int .i64 j) (S.at_ 0 rfl) rfl ?_
  refine WR.i64 ?_
  refine QCall.of (fun g2 hl => dim_c g2 _ x i (j + 1) (qx.reads (S.le.trans hl)) hd.toDHead) rfl ?_
  rw [hm]
  refine S.madeL OII.fr (units_c _ m (by omega)) fun b6 o6 g L S => ?_
  refine ⟨L, ?_⟩
  have eu : (unitsL m).length = m := tabR_length _ _
  refine S.madeL OII.fr (images_c _ x.prime (dimZ x i j).toNat _ (unitsL m) _ _ (dwn x i (j + 1)) (IsP.of hd.p) (by omega) (S.rd OII.reads 0 rfl) (by omega) (fun k hk => by
    have := dwn_vec hd.toDHead i (j + 1) (row (unitsL m) k)
    rw [show j + 1 - 1 = j by omega] at this
    exact this) fun g2 b7 o7 k L2 hk hr => fromAbove1_c g2 x P (QDouble.le (S.le.trans L2) qx) hd b3 b4 b5 i j (by omega) (L2.at_ _ _ (S.at_ 3 rfl)) (L2.at_ _ _ (S.at_ 2 rfl)) (L2.at_ _ _ (S.at_ 1 rfl)) _ _ hr (((unitsL_mat (p := x.prime) (by omega) m).row hk).2) (by
    rw [((unitsL_mat (p := x.prime) (by omega) m).row hk).1]; omega)) fun b8 o8 g L S => ?_
  refine ⟨L, ?_⟩
  rw [← e1] at S ⊢
  exact S.fin 0 rfl

noncomputable def colN (x : SDouble) (i j : Nat) : Int := ((kern x.prime (dimZ x i ((j : Int) - 1)).toNat (celZ x x.down i j)).length : Int) - (ech x.prime (celZ x x.down i ((j : Int) + 1))).length
theorem killR_down {x : SDouble} (hd : DShape x) {i j : Int} {m : Nat} (hm : dimZ x i j = m) : killR x.prime m [] (dwn x i j) = celZ x x.down i j := by
  obtain ⟨t1, t2⟩ := hd.dwn.cell i j
  unfold killR
  refine Eq.trans ?_ (tabR_eq (xs := celZ x x.down i j)).symm
  rw [show (celZ x x.down i j).length = m by omega]
  refine tabR_congr fun k hk => ?_
  have := dwn_unitZ hd (i := i) (j := j) (k := k) (by omega)
  rw [hm, Int.toNat_natCast] at this
  rw [this]
  rfl

end Go.Gl

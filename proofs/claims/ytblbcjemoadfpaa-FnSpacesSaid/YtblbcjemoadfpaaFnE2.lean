/- The program's reduced list. No condition. -/
import Derived.Test.YtblbcjemoadfpaaFnE1
import Derived.Test.YtblbcjemoadfpaaGlV
set_option linter.unusedVariables false
set_option linter.unusedSimpArgs false
namespace Go.Gl
open Go.Proofs Go.Proofs.Ytblbcjemoadfpaa Go.Pl


theorem clear_c (h : AH) (F : Nat → Prop) (m b o n : Nat) (xs ys : List Int) (ov : Value) (p by' : Int) (hx : Held OI m h F (.slice (some ⟨b, o, none⟩) n 0) xs) (ho : RI (hide F h) ov ys) (bx : Vec p n xs) (bY : Vec p n ys) (hp : 2 ≤ p ∧ p ≤ 7) (hby : 0 ≤ by' ∧ by' < p) (hn : n ≤ 1000000) :
    ACalls Try.prog 107 [.slice (some ⟨b, o, none⟩) n 0, ov, .int .i64 p, .int .i64 by'] h (fun r h' => r = .tuple #[] ∧ Upd OI m h F (.slice (some ⟨b, o, none⟩) n 0) (less p xs ys by') h') := by
  obtain ⟨b2, o2, k2, hy⟩ := ho.can
  have cy := hy.cells rfl
  refine ACalls.wk (args' := [.slice (some ⟨b, o, none⟩) n 0, .slice (some ⟨b2, o2, none⟩) ys.length 0, .int .i64 p, .int .i64 by']) ?_ (.cons (Wk.refl _) (.cons k2 (.cons (Wk.refl _) (.cons (Wk.refl _) .nil))))
  refine ACalls.of Tt.tab Try.func107 rfl (by kernel_rfl) Try.ntmps107 _ rfl rfl (fun hw => ?_)
  have S := SepM.lent OI.fr hx
  have hyl := bY.1
  have S := S.retell 0 (x' := tab n (fun k => if k < 0 then (ith xs k - by' * ith ys k) % p else ith xs k)) rfl (by rw [← tab_none, ← bx.1]; exact tab_eq)
  refine ⟨⟨[0, 2, 3, 10, 11, 12], fun n' vs g => ∃ j : Nat, n' = n - j ∧ j ≤ n ∧ SepM F 0 (hide F h) g [.tr OI.fr m (.slice (some ⟨b, o, none⟩) n 0) (tab n (fun k => if k < j then (ith xs k - by' * ith ys k) % p else ith xs k))] ∧
    vs = [.slice (some ⟨b, o, none⟩) n 0, .int .i64 p, .int .i64 by', .slice (some ⟨b2, o2, none⟩) ys.length 0, .int .i64 ys.length, .int .i64 j], _, ⟨0, rfl, Nat.zero_le _, S, rfl⟩, ?_⟩⟩
  rintro n' vs g ⟨j, rfl, hj, S, rfl⟩
  refine BIf.mk (fun h5 => ?_) (fun h5 => ?_)
  · have h5 : j < n := by simp at h5; omega
    have e1 := bx.2.ith (by omega) j
    have e2 := bY.2.ith (by omega) j
    refine IdxX.mk (by omega) (by omega) ?_
    refine cy.ith S.le (show j < ys.length by omega) ?_
    refine IdxX.mk (by omega) (by omega) ?_
    refine (((S.rd OI.reads 0 rfl).cells (tab_length _ _).symm)).ith (Le.refl _) (show j < (tab n _).length by rw [tab_length]; exact h5) ?_
    rw [tab_ith h5, if_neg (Nat.lt_irrefl j)]
    refine WR.i64 ?_
    have e3 := mul_abs (x := p - by') (y := ith ys j) (a := 7) (b := 7) (by omega) (by omega)
    have e4 : 0 ≤ (p - by') * ith ys j := Int.mul_nonneg (by omega) e2.1
    refine WR.i64 ?_
    refine WR.i64 ?_
    refine TM.pos ?_
    refine IdxX.mk (by omega) (by omega) ?_
    refine S.storeL 0 rfl (tab_length _ _) h5 fun g S => ?_
    refine WR.i64 ?_
    refine ⟨n - (j + 1), by omega, j + 1, rfl, h5, S.retell 0 rfl ?_, rfl⟩
    rw [tab_set]
    refine tab_step ?_
    rw [show ith xs j + (p - by') * ith ys j = (ith xs j - by' * ith ys j) + p * ith ys j by rw [Int.sub_mul]; omega, Int.add_mul_emod_self_left]
  · have hj2 : j = n := by simp at h5; omega
    subst hj2
    have S := S.retell 0 (x' := less p xs ys by') rfl (by unfold less; rw [bx.1, tab_all (Nat.le_refl _)])
    exact FinX.here (by have := S.le.len; rwa [show (hide F h).length = h.length from only_length _ _] at this) ⟨rfl, S.updated 0 rfl⟩

theorem inverse_c (h : AH) (p x : Int) (hp : IsP p) (hx : 0 < x ∧ x < p) : ACalls Try.prog 106 [.int .i64 p, .int .i64 x] h (fun r h' => r = .int .i64 (invp p x) ∧ h' = h) := by
  have hpp := hp.rng
  refine ACalls.of Tt.tab Try.func106 rfl (by kernel_rfl) Try.ntmps106 _ rfl rfl (fun hw => ?_)
  obtain ⟨i1, i2, i3⟩ := invp_spec hp hx
  refine ⟨⟨[0, 1, 5], fun n' vs g => ∃ k : Int, n' = (p - k).toNat ∧ 1 ≤ k ∧ k ≤ invp p x ∧ g = h ∧ (∀ j, 1 ≤ j → j < k → j * x % p ≠ 1) ∧ vs = [.int .i64 p, .int .i64 x, .int .i64 k], _, ⟨1, rfl, by omega, by omega, rfl, fun j h1 h2 => by omega, rfl⟩, ?_⟩⟩
  rintro n' vs g ⟨k, rfl, hk1, hk2, rfl, hz, rfl⟩
  have e1 := mul_small (p := p) (x := k) (y := x) (by omega) (by omega) hpp.2
  refine WR.i64 ?_
  refine TM.pos ?_
  refine BIf.mk (fun h2 => ?_) (fun h2 => ?_)
  · have h2 : ¬ k * x % p = 1 := by simpa using h2
    refine WR.i64 ?_
    have hlt : k < invp p x := by
      rcases (by omega : k < invp p x ∨ k = invp p x) with h3 | h3
      · exact h3
      · rw [h3] at h2; exact absurd i3 h2
    refine ⟨(p - (k + 1)).toNat, by omega, k + 1, rfl, by omega, by omega, rfl, fun j h3 h4 => ?_, rfl⟩
    rcases (by omega : j < k ∨ j = k) with h5 | h5
    · exact hz j h3 h5
    · rw [h5]; exact h2
  · have h2 : k * x % p = 1 := by simpa using h2
    exact FinX.keep hw (Le.refl _) rfl ⟨by rw [invp_eq (by omega) h2 hz], rfl⟩
theorem idx_fidx {α : Type} (p : α → Bool) (xs : List α) : idx p xs = fidx p xs := by
  induction xs with
  | nil => rfl
  | cons x xs ih => simp only [idx, fidx, ih]
theorem RII.drop {h : AH} {b m : Nat} {L : List (List Int)} (hc : CS RI h b 0 L) (hm : L.length = m) (hl : m ≤ 1000000) {d : Nat} (hd : d ≤ m) {a q : Nat} (ha : a = d) (hq : q = m - d) : RII h (.slice (some ⟨b, a, none⟩) q 0) (L.drop d) := by
  subst ha hq
  refine ⟨by simp; omega, b, a, ?_, fun k x hk => ?_⟩
  · rw [List.length_drop, hm]; exact Wk.refl _
  · rw [List.getElem?_drop] at hk
    obtain ⟨blk, u, h1, h2, h3⟩ := hc (a + k) x hk
    exact ⟨blk, u, h1, by rw [Nat.zero_add] at h2; exact h2, h3⟩

theorem reduce1_c (h : AH) (b o c : Nat) (x : List Int) (bc : Nat) (hx : RI h (.slice (some ⟨b, o, none⟩) x.length 0) x) (hb : look h bc = some ⟨[.int .i64 c], some (3, 1)⟩) (hc : c < x.length) :
    ACalls Try.prog 105 [.slice (some ⟨b, o, none⟩) x.length 0, .pointer (some ⟨bc, 0, none⟩)] h (fun r h' => r = .bool (decide (ith x c ≠ 0)) ∧ h' = h) := by
  refine ACalls.of Tt.tab Try.func105 rfl (by kernel_rfl) Try.ntmps105 _ rfl rfl (fun hw => ?_)
  refine LoadX.same hb rfl ?_
  refine IdxX.mk (by omega) (by omega) ?_
  refine (hx.cells rfl).ith (Le.refl _) hc ?_
  refine FinX.keep hw (Le.refl _) rfl ⟨?_, rfl⟩
  congr 1
  by_cases h0 : ith x c = 0
  · rw [h0]; rfl
  · simp [h0]
theorem reduce_c (h : AH) (p : Int) (n : Nat) (rv : Value) (rows : List (List Int)) (hp : IsP p) (hn : n ≤ 100000) (hr : RII h rv rows) (br : Mat p n rows) (hl : rows.length ≤ 100000) :
    ACalls Try.prog 69 [.int .i64 p, rv] h (Made OII h (ech p rows)) := by
  have hpp := hp.rng
  obtain ⟨_, b1, o1, k1, c1⟩ := hr
  rw [← gauss_eq hp br]
  refine ACalls.madeN (ACalls.wk (args' := [.int .i64 p, .slice (some ⟨b1, o1, none⟩) rows.length 0]) ?_ (.cons (Wk.refl _) (.cons k1 .nil)))
  refine ACalls.of Tt.tab Try.func69 rfl (by kernel_rfl) Try.ntmps69 _ rfl rfl (fun hw => ?_)
  have S := Sep.start h
  refine S.new fun b g S => ?_
  have S := S.bx_rw 0 OI.fr rfl
  refine ⟨⟨[0, 5, 15, 16, 17], fun n' vs g => ∃ (i b : Nat), n' = rows.length - i ∧ i ≤ rows.length ∧ Sep h.length h g [.rw OI.fr 71 h.length (.slice (some ⟨b, 0, none⟩) i 1) i (rows.take i)] ∧
    vs = [.int .i64 p, .slice (some ⟨b, 0, none⟩) i 1, .slice (some ⟨b1, o1, none⟩) rows.length 0, .int .i64 rows.length, .int .i64 i], _, ⟨0, b, rfl, Nat.zero_le _, S, rfl⟩, ?_⟩⟩
  rintro n' vs g ⟨i, b, rfl, hi, S, rfl⟩
  refine BIf.mk (fun hlt => ?_) (fun hlt => ?_)
  · have hlt : i < rows.length := by simpa using hlt
    refine IdxX.mk (by omega) (by omega) ?_
    refine c1.rowY S.le hlt fun b2 o2 h2 => ?_
    refine S.made OI.fr (ACalls.madeI (cloneI_c _ _ (row rows i) (RI.le _ _ _ _ S.le h2) (by rw [(br.row hlt).1]; omega))) fun b3 o3 g S => ?_
    refine S.new fun b4 g S => ?_
    refine S.appT 0 rfl rfl (by omega) fun b5 g S => ?_
    refine WR.i64 ?_
    exact ⟨rows.length - (i + 1), by omega, i + 1, b5, rfl, hlt, by rw [take_succ_row hlt]; exact S, rfl⟩
  have hi2 : i = rows.length := by simp at hlt; omega
  subst hi2
  rw [List.take_length] at S
  clear hlt hi
  generalize hm : rows.length = m at S hl ⊢
  refine BIf.mk (fun h1 => ?_) (fun h1 => ?_)
  · have h1 : m = 0 := by simpa using h1
    have hr0 : rows = [] := List.length_eq_zero_iff.1 (by omega)
    have S := S.rw_tr 0 rfl (by omega)
    unfold gauss
    rw [if_pos (by omega)]
    rw [hr0] at S
    exact S.fin 0 rfl
  have h1 : 0 < m := by simp at h1; omega
  have hga : gauss p rows = (gN p rows n).1.take (gN p rows n).2 := by
    unfold gauss
    rw [if_neg (by omega), (br.row (show 0 < rows.length by omega)).1]
  rw [hga]
  obtain ⟨us, S⟩ := S.rw_rv 0 rfl
  refine IdxX.mk (by omega) (by omega) ?_
  refine ((S.rdv OI.reads 0 rfl (by omega)).cells1 hm.symm).row (Le.refl _) (show 0 < rows.length by omega) fun b0 o0 c0 => ?_
  rw [(br.row (show 0 < rows.length by omega)).1]
  have inv : ∀ c, c ≤ n → ∃ l, GInv p n rows c (gN p rows c).1 (gN p rows c).2 l := fun c hc => gN_inv hp br c hc
  refine ⟨⟨[0, 5, 8, 34, 35], fun n' vs g => ∃ (c : Nat) (us : List Value), n' = n - c ∧ c ≤ n ∧ Sep h.length h g [.rv OI.fr 71 h.length (.slice (some ⟨b, 0, none⟩) m 1) m us (gN p rows c).1] ∧
    vs = [.int .i64 p, .slice (some ⟨b, 0, none⟩) m 1, .int .i64 (gN p rows c).2, .int .i64 n, .int .i64 c], _, ⟨0, us, rfl, Nat.zero_le _, S, rfl⟩, ?_⟩⟩
  rintro n' vs g ⟨c, us, rfl, hc, S, rfl⟩
  refine BIf.mk (fun h2 => ?_) (fun h2 => ?_)
  · have h2 : c < n := by simpa using h2
    obtain ⟨l, G⟩ := inv c hc
    have hnext : gN p rows (c + 1) = gstep p c (gN p rows c) := rfl
    have hstop : (gN p rows (c + 1)).1.length ≤ (gN p rows (c + 1)).2 → gN p rows n = gN p rows (c + 1) := fun hh => by
      have := gN_stop hh (n - (c + 1))
      rwa [show c + 1 + (n - (c + 1)) = n by omega] at this
    generalize hs : gN p rows c = s at S G hnext ⊢
    obtain ⟨L, d⟩ := s
    simp only at S G ⊢
    have hL : L.length = m := by rw [G.len, hm]
    have hdm : d ≤ m := by have := G.dle; omega
    refine S.new fun bc g S => ?_
    refine S.put 0 rfl fun g S => ?_
    have cL : CS RI g b 0 L := (S.rdv OI.reads 1 rfl (by omega)).cells1 hL.symm
    refine ⟨by omega, by omega, by omega, ?_⟩
    refine CallX.same (indexFuncII_c g _ (L.drop d) _ _ (fun r => decide (ith r c ≠ 0)) (RII.drop cL hL (by omega) hdm (by rw [Nat.zero_add]; rfl) rfl) (fun x hx b' o' hr' => reduce1_c g b' o' c x bc hr' (S.at_ 0 rfl) (by
      have := G.mat x (List.mem_of_mem_drop hx)
      rw [this.1]; exact h2))) ?_
    rintro r g' ⟨rfl, rfl⟩
    rw [idx_fidx]
    rcases fidx_cases (fun r => decide (ith r c ≠ 0)) (L.drop d) with ⟨f1, f2⟩ | ⟨k, f1, x, f2, f3⟩
    · rw [gstep_none (s := (L, d)) (by simp only; omega)] at hnext
      rw [f1]
      refine BIf.yes rfl ?_
      refine WR.i64 ?_
      exact ⟨n - (c + 1), by omega, c + 1, us, rfl, h2, by rw [hnext]; exact S.tail, by rw [hnext]; rfl⟩
    rw [gstep_some (s := (L, d)) (k := k) f1] at hnext
    rw [f1]
    simp only at hnext
    rw [List.getElem?_drop] at f2
    have hj := (List.getElem?_eq_some_iff.1 f2).1
    have hx : x = row L (d + k) := by simp [row, f2]
    subst hx
    refine BIf.no (by simp) ?_
    have hjr := G.mat.ent (by omega) (d + k) c
    have hnz : ent L (d + k) c ≠ 0 := by simpa [ent] using f3
    obtain ⟨i1, i2, i3⟩ := invp_spec hp (x := ent L (d + k) c) (by omega)
    generalize hjj : d + k = j at *
    have hd : d < m := by omega
    obtain ⟨u1, hu1⟩ : ∃ u, us[d]? = some u := ⟨us[d]'(by rw [(S.rv_len 1 rfl).1]; exact hd), List.getElem?_eq_getElem _⟩
    obtain ⟨u2, hu2⟩ : ∃ u, us[j]? = some u := ⟨us[j]'(by rw [(S.rv_len 1 rfl).1]; omega), List.getElem?_eq_getElem _⟩
    have husl := (S.rv_len 1 rfl).1
    obtain ⟨ba, oa, bb, ob, wa, wb, hsw⟩ := S.swapC 1 rfl hu1 hu2 (row_getq (show d < L.length by omega)) (row_getq (show j < L.length by omega))
    have hblk := S.blkV 1 rfl
    -- the rows change places
    refine DrawX.of Tt.tab follows_any [] [17, 19] [0, 1, 2, 3, 4, 5, 6, 7, 8, 9, 10, 11, 12, 13, 14, 15, 16, 17, 18, 19] rfl (by kernel_rfl) (by kernel_rfl) ?_
    refine WR.as (r := (j : Int)) (by omega) ?_
    refine WR.as (r := (j : Int)) (by omega) ?_
    refine IdxX.mk (by omega) (by omega) ?_
    refine S.loadW 1 rfl hu2 wb ?_
    refine IdxX.mk (by omega) (by omega) ?_
    refine S.loadW 1 rfl hu1 wa ?_
    refine IdxX.mk (by omega) (by omega) ?_
    refine StoreX.intro hblk rfl (show (0 + d : Nat) + 1 ≤ us.length by omega) fun g1 q1 q2 q3 _ => ?_
    refine IdxX.mk (by omega) (by omega) ?_
    refine StoreX.intro q2 rfl (show (0 + j : Nat) + 1 ≤ (setCells us (0 + d) [.slice (some ⟨bb, ob, none⟩) (row L j).length 0]).length by rw [Nat.zero_add, Nat.zero_add, setCells_one (show d < us.length by omega), List.length_set]; omega) fun g2 q4 q5 q6 _ => ?_
    obtain ⟨us2, S⟩ := hsw g2 (tabR m (fun i => row L (swp d j i))) (by
        refine q5.trans ?_
        show some (Blk.mk (setCells (setCells us (0 + d) [.slice (some ⟨bb, ob, none⟩) (row L j).length 0]) (0 + j) [.slice (some ⟨ba, oa, none⟩) (row L d).length 0]) (some (71, 1))) = _
        rw [Nat.zero_add, Nat.zero_add, setCells_one (show d < us.length by omega), setCells_one (show j < (us.set d (.slice (some ⟨bb, ob, none⟩) (row L j).length 0)).length by rw [List.length_set]; omega)]) (by omega) (fun i hi => by rw [q6 i hi, q3 i hi]) (by
        refine ext_row (by simp [tabR_length, hL]) fun i hi => ?_
        rw [tabR_length] at hi
        rw [tabR_row hi]
        rw [row_set (by rw [List.length_set]; omega), row_set (by omega)]
        by_cases z1 : i = j
        · by_cases z2 : i = d
          · have e : j = d := by omega
            subst e; subst z2; simp [swp]
          · subst z1; simp [swp, z2]
        · by_cases z2 : i = d
          · subst z2; simp [swp, z1]
          · simp [swp, z1, z2])
    have hrj := G.mat.row hj
    have hs1 : ∀ i, i < m → swp d j i < m := fun i hi => by unfold swp; split; omega; split; exact hd; exact hi
    have husl2 := (S.rv_len 1 rfl).1
    obtain ⟨w1, hw1⟩ : ∃ u, us2[d]? = some u := ⟨us2[d]'(by omega), List.getElem?_eq_getElem _⟩
    have hswd : swp d j d = j := if_pos rfl
    -- the inverse
    refine DrawX.of Tt.tab follows_any [] [] [0, 1, 2, 3, 4, 5, 6, 7, 8, 9] rfl (by kernel_rfl) (by kernel_rfl) ?_
    refine IdxX.mk (by omega) (by omega) ?_
    refine ((S.rdv OI.reads 1 rfl (by omega)).cells1 (tabR_length _ _).symm).row (Le.refl _) (show d < (tabR m _).length by rw [tabR_length]; exact hd) fun b4 o4 c4 => ?_
    rw [tabR_row hd, hswd] at c4 ⊢
    refine LoadX.same (v := .int .i64 c) (S.at_ 0 rfl) rfl ?_
    refine IdxX.mk (by omega) (by rw [hrj.1]; omega) ?_
    refine c4.ith (Le.refl _) (show c < (row L j).length by rw [hrj.1]; exact h2) ?_
    refine QCall.of (fun g4 hl => inverse_c g4 p _ hp (by unfold ent at hjr hnz; omega)) rfl ?_
    rw [show ith (row L j) c = ent L j c from rfl]
    generalize hby : invp p (ent L j c) = by' at *
    refine IdxX.mk (by omega) (by omega) ?_
    refine ((S.rdv OI.reads 1 rfl (by omega)).cells1 (tabR_length _ _).symm).row (Le.refl _) (show d < (tabR m _).length by rw [tabR_length]; exact hd) fun b5 o5 c5 => ?_
    rw [tabR_row hd, hswd, hrj.1]
    -- the row is scaled in place
    refine ⟨⟨[0, 5, 8, 9, 11, 34, 35, 76, 77], fun n' vs g => ∃ q : Nat, n' = n - q ∧ q ≤ n ∧ Sep h.length h g [.bx bc 3 1 [.int .i64 c], .rv OI.fr 71 h.length (.slice (some ⟨b, 0, none⟩) m 1) m us2 (tabR m (fun i => if i = d then tab n (fun k => if k < q then ith (row L j) k * by' % p else ith (row L j) k) else row L (swp d j i)))] ∧
      vs = [.int .i64 p, .slice (some ⟨b, 0, none⟩) m 1, .int .i64 d, .pointer (some ⟨bc, 0, none⟩), .int .i64 by', .int .i64 n, .int .i64 c, .int .i64 n, .int .i64 q], _, ⟨0, rfl, Nat.zero_le _, ?_, rfl⟩, ?_⟩⟩
    · have : tabR m (fun i => row L (swp d j i)) = tabR m (fun i => if i = d then tab n (fun k => if k < 0 then ith (row L j) k * by' % p else ith (row L j) k) else row L (swp d j i)) := tabR_congr fun i hi => by
        by_cases z : i = d
        · subst z; rw [if_pos rfl, hswd, ← tab_none, ← hrj.1]; exact tab_eq
        · rw [if_neg z]
      rw [← this]; exact S
    rintro n' vs g ⟨q, rfl, hq, S, rfl⟩
    refine BIf.mk (fun h6 => ?_) (fun h6 => ?_)
    · have h6 : q < n := by simp at h6; omega
      have hy := hrj.2.ith (by omega) q
      have e5 := mul_small (p := p) (x := ith (row L j) q) (y := by') hy (by omega) hpp.2
      obtain ⟨bi, oi, hwi, hci, hst⟩ := S.leafV 1 rfl rfl hw1 (tabR_getq hd)
      rw [if_pos rfl] at hwi hci hst
      rw [tab_length] at hwi
      refine DrawX.of Tt.tab follows_any [] [17] [0, 1, 2, 3, 4, 5, 6, 7, 8, 9, 10, 11, 12, 13, 14, 15, 16, 17] rfl (by kernel_rfl) (by kernel_rfl) ?_
      refine IdxX.mk (by omega) (by omega) ?_
      refine S.loadW 1 rfl hw1 hwi ?_
      refine IdxX.mk (by omega) (by omega) ?_
      refine S.loadW 1 rfl hw1 hwi ?_
      refine IdxX.mk (by omega) (by omega) ?_
      refine hci.ith (Le.refl _) (show q < (tab n _).length by rw [tab_length]; exact h6) ?_
      rw [tab_ith h6, if_neg (Nat.lt_irrefl q)]
      refine WR.i64 ?_
      refine TM.pos ?_
      refine IdxX.mk (by omega) (by omega) ?_
      refine hst q _ _ _ (by rw [tab_length]; exact h6) rfl fun g S => ?_
      refine WR.i64 ?_
      refine ⟨n - (q + 1), by omega, q + 1, rfl, h6, ?_, rfl⟩
      have : (tabR m (fun i => if i = d then tab n (fun k => if k < q then ith (row L j) k * by' % p else ith (row L j) k) else row L (swp d j i))).set d ((tab n (fun k => if k < q then ith (row L j) k * by' % p else ith (row L j) k)).set q (ith (row L j) q * by' % p)) = tabR m (fun i => if i = d then tab n (fun k => if k < q + 1 then ith (row L j) k * by' % p else ith (row L j) k) else row L (swp d j i)) := by
        rw [tabR_set]
        refine tabR_congr fun i hi => ?_
        by_cases z : i = d
        · rw [if_pos z, if_pos z, tab_set]; exact tab_step rfl
        · rw [if_neg z, if_neg z, if_neg z]
      rw [← this]; exact S
    have hq2 : q = n := by simp at h6; omega
    subst hq2
    have hsc : tab q (fun k => if k < q then ith (row L j) k * by' % p else ith (row L j) k) = scale p (row L j) by' := by unfold scale; rw [hrj.1, tab_all (Nat.le_refl _)]
    rw [hsc] at S
    have sR : Vec p q (scale p (row L j) by') := Vec.scale (by omega) hrj
    generalize hR : scale p (row L j) by' = R at S sR hnext
    -- the other rows are cleared
    refine ⟨⟨[0, 5, 8, 9, 34, 35, 99, 100], fun n' vs g => ∃ i : Nat, n' = m - i ∧ i ≤ m ∧ Sep h.length h g [.bx bc 3 1 [.int .i64 c], .rv OI.fr 71 h.length (.slice (some ⟨b, 0, none⟩) m 1) m us2 (tabR m (fun t => if t = d then R else if t < i then less p (row L (swp d j t)) R (ent L (swp d j t) c) else row L (swp d j t)))] ∧
      vs = [.int .i64 p, .slice (some ⟨b, 0, none⟩) m 1, .int .i64 d, .pointer (some ⟨bc, 0, none⟩), .int .i64 q, .int .i64 c, .int .i64 m, .int .i64 i], _, ⟨0, rfl, Nat.zero_le _, ?_, rfl⟩, ?_⟩⟩
    · have : tabR m (fun t => if t = d then R else row L (swp d j t)) = tabR m (fun t => if t = d then R else if t < 0 then less p (row L (swp d j t)) R (ent L (swp d j t) c) else row L (swp d j t)) := tabR_congr fun i hi => by simp
      rw [← this]; exact S
    rintro n' vs g ⟨i, rfl, hi, S, rfl⟩
    refine BIf.mk (fun h6 => ?_) (fun h6 => ?_)
    · have h6 : i < m := by simp at h6; omega
      refine BIf.mk (fun h7 => ?_) (fun h7 => ?_)
      · have h7 : i ≠ d := by simp at h7; omega
        obtain ⟨ui, hui⟩ : ∃ u, us2[i]? = some u := ⟨us2[i]'(by omega), List.getElem?_eq_getElem _⟩
        have hxi : (tabR m (fun t => if t = d then R else if t < i then less p (row L (swp d j t)) R (ent L (swp d j t) c) else row L (swp d j t)))[i]? = some (row L (swp d j i)) := by rw [tabR_getq h6, if_neg h7, if_neg (Nat.lt_irrefl i)]
        have hxd : (tabR m (fun t => if t = d then R else if t < i then less p (row L (swp d j t)) R (ent L (swp d j t) c) else row L (swp d j t)))[d]? = some R := by rw [tabR_getq hd, if_pos rfl]
        have hri := G.mat.row (show swp d j i < L.length by rw [hL]; exact hs1 i h6)
        obtain ⟨F, bi, oi, hwi, hheld, hle, hread, hbx, hupd⟩ := S.lendV 1 rfl hui hxi
        obtain ⟨bd, od, hwd, hrd⟩ := (hread d w1 R (Ne.symm h7) hw1 hxd).can
        have hei := hri.2.ith (by omega) c
        obtain ⟨li, hli⟩ := hheld
        rw [hri.1] at hwi
        refine DrawX.of Tt.tab follows_any [] [16] [0, 1, 2, 3, 4, 5, 6, 7, 8, 9, 10, 11, 12, 13, 14, 15, 16] rfl (by kernel_rfl) (by kernel_rfl) ?_
        refine IdxX.mk (by omega) (by omega) ?_
        refine S.loadW 1 rfl hui hwi ?_
        refine IdxX.mk (by omega) (by omega) ?_
        refine S.loadW 1 rfl hw1 hwd ?_
        refine IdxX.mk (by omega) (by omega) ?_
        refine S.loadW 1 rfl hui hwi ?_
        refine LoadX.same (v := .int .i64 c) (S.at_ 0 rfl) rfl ?_
        refine IdxX.mk (by omega) (by omega) ?_
        refine ((RI.le _ _ _ _ (only_le F g) (OI.reads _ _ _ _ _ hli)).cells rfl).ith (Le.refl _) (show c < (row L (swp d j i)).length by rw [hri.1]; exact h2) ?_
        rw [hri.1] at hli hupd
        refine CallX.same (clear_c g F h.length bi oi q (row L (swp d j i)) R _ p _ ⟨li, hli⟩ hrd hri sR hpp hei (by omega)) ?_
        rintro r g' ⟨rfl, U⟩
        have S := hupd g' _ U (by rw [show (less p (row L (swp d j i)) R (ith (row L (swp d j i)) c)).length = (row L (swp d j i)).length from tab_length _ _, hri.1])
        refine WR.i64 ?_
        refine ⟨m - (i + 1), by omega, i + 1, rfl, h6, ?_, rfl⟩
        have : (tabR m (fun t => if t = d then R else if t < i then less p (row L (swp d j t)) R (ent L (swp d j t) c) else row L (swp d j t))).set i (less p (row L (swp d j i)) R (ith (row L (swp d j i)) c)) = tabR m (fun t => if t = d then R else if t < i + 1 then less p (row L (swp d j t)) R (ent L (swp d j t) c) else row L (swp d j t)) := by
          rw [tabR_set]
          refine tabR_congr fun t ht => ?_
          by_cases z : t = i
          · subst z; rw [if_pos rfl, if_neg h7, if_pos (by omega)]; rfl
          · rw [if_neg z]
            by_cases z2 : t = d
            · rw [if_pos z2, if_pos z2]
            · rw [if_neg z2, if_neg z2]
              by_cases z3 : t < i
              · rw [if_pos z3, if_pos (by omega)]
              · rw [if_neg z3, if_neg (by omega)]
        rw [← this]; exact S
      · have h7 : i = d := by simp at h7; omega
        refine WR.i64 ?_
        refine ⟨m - (i + 1), by omega, i + 1, rfl, h6, ?_, rfl⟩
        have : tabR m (fun t => if t = d then R else if t < i then less p (row L (swp d j t)) R (ent L (swp d j t) c) else row L (swp d j t)) = tabR m (fun t => if t = d then R else if t < i + 1 then less p (row L (swp d j t)) R (ent L (swp d j t) c) else row L (swp d j t)) := tabR_congr fun t ht => by
          by_cases z2 : t = d
          · rw [if_pos z2, if_pos z2]
          · rw [if_neg z2, if_neg z2]
            by_cases z3 : t < i
            · rw [if_pos z3, if_pos (by omega)]
            · rw [if_neg z3, if_neg (by omega)]
        rw [← this]; exact S
    have hi2 : i = m := by simp at h6; omega
    subst hi2
    have hS : tabR i (fun t => if t = d then R else if t < i then less p (row L (swp d j t)) R (ent L (swp d j t) c) else row L (swp d j t)) = (gN p rows (c + 1)).1 := by
      rw [hnext]
      simp only
      rw [hL]
      refine tabR_congr fun t ht => ?_
      by_cases z2 : t = d
      · rw [if_pos z2, if_pos z2]
      · rw [if_neg z2, if_neg z2, if_pos ht]
    rw [hS] at S
    have hd2 : (gN p rows (c + 1)).2 = d + 1 := by rw [hnext]
    have hl2 : (gN p rows (c + 1)).1.length = i := by rw [hnext]; simp only; rw [tabR_length, hL]
    refine WR.i64 ?_
    refine BIf.mk (fun h7 => ?_) (fun h7 => ?_)
    · have h7 : d + 1 = i := by simp at h7; omega
      have hst := hstop (by rw [hd2, hl2]; omega)
      refine ⟨by omega, by omega, by omega, ?_⟩
      have S := S.prefixV 1 rfl (d := d + 1) (by omega) (by omega)
      rw [hst, hd2]
      exact S.fin 1 rfl
    · refine WR.i64 ?_
      exact ⟨q - (c + 1), by omega, c + 1, us2, rfl, h2, S.tail, by rw [hd2]; rfl⟩
  · have hc2 : c = n := by simp at h2; omega
    subst hc2
    obtain ⟨l, G⟩ := inv c (Nat.le_refl _)
    have hd := G.dle
    have hL := G.len
    refine ⟨by omega, by omega, by omega, ?_⟩
    have S := S.prefixV 0 rfl (d := (gN p rows c).2) (by omega) (by omega)
    exact S.fin 0 rfl

end Go.Gl

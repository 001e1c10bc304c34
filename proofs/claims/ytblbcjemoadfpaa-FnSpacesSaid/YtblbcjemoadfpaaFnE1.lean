/- The reference's reduced list. No condition. -/
import Derived.Test.YtblbcjemoadfpaaFnA2
import Derived.Test.YtblbcjemoadfpaaPlB
set_option linter.unusedVariables false
set_option linter.unusedSimpArgs false
namespace Go.Gl
open Go.Proofs Go.Proofs.Ytblbcjemoadfpaa Go.Pl

theorem prime_isP {p : Int} (h : prime p = true) : IsP p := by
  unfold prime at h
  unfold IsP
  simpa using h
theorem get_end {α : Type} {l : List α} {a : α} {d : Nat} (h : l.length = d) : (l ++ [a])[d]? = some a := by subst h; simp
theorem get_mid {α : Type} {l : List α} {a b : α} {d : Nat} (h : l.length = d) : ((l ++ [a]) ++ [b])[d]? = some a := by subst h; simp
theorem get_keep {α : Type} {l : List α} {a x : α} {t : Nat} (h : l[t]? = some x) : (l ++ [a])[t]? = some x := by rw [List.getElem?_append_left (List.getElem?_eq_some_iff.1 h).1]; exact h

theorem l01Inverse_c (h : AH) (p x : Int) (hp : IsP p) (hx : 0 < x ∧ x < p) : ACalls Try.prog 117 [.int .i64 p, .int .i64 x] h (fun r h' => r = .int .i64 (invp p x) ∧ h' = h) := by
  have hpp := hp.rng
  refine ACalls.of Tt.tab Try.func117 rfl (by kernel_rfl) Try.ntmps117 _ rfl rfl (fun hw => ?_)
  obtain ⟨i1, i2, i3⟩ := invp_spec hp hx
  refine ⟨⟨[0, 1, 5], fun n' vs g => ∃ k : Int, n' = (p - k).toNat ∧ 1 ≤ k ∧ k ≤ invp p x ∧ g = h ∧ (∀ j, 1 ≤ j → j < k → j * x % p ≠ 1) ∧ vs = [.int .i64 p, .int .i64 x, .int .i64 k], _, ⟨1, rfl, by omega, by omega, rfl, fun j h1 h2 => by omega, rfl⟩, ?_⟩⟩
  rintro n' vs g ⟨k, rfl, hk1, hk2, rfl, hz, rfl⟩
  refine BIf.mk (fun h1 => ?_) (fun h1 => ?_)
  · refine CallX.same (l01Mod_c _ p x hpp (by omega)) ?_
    rintro r g2 ⟨rfl, rfl⟩
    rw [Int.emod_eq_of_lt (by omega) hx.2]
    have e1 := mul_small (p := p) (x := k) (y := x) (by omega) (by omega) hpp.2
    refine WR.i64 ?_
    refine TM.pos ?_
    refine BIf.mk (fun h2 => ?_) (fun h2 => ?_)
    · have h2 : k * x % p = 1 := by simpa using h2
      exact FinX.keep hw (Le.refl _) rfl ⟨by rw [invp_eq (by omega) h2 hz], rfl⟩
    · have h2 : ¬ k * x % p = 1 := by simpa using h2
      refine WR.i64 ?_
      have hlt : k < invp p x := by
        rcases (by omega : k < invp p x ∨ k = invp p x) with h3 | h3
        · exact h3
        · rw [h3] at h2; exact absurd i3 h2
      refine ⟨(p - (k + 1)).toNat, by omega, k + 1, rfl, by omega, by omega, rfl, fun j h3 h4 => ?_, rfl⟩
      rcases (by omega : j < k ∨ j = k) with h5 | h5
      · exact hz j h3 h5
      · rw [h5]; exact h2
  · simp at h1; omega

theorem l01EchelonW_c (h : AH) (p : Int) (n : Nat) (rv : Value) (rows : List (List Int)) (hp : IsP p) (hn : n ≤ 100000) (hr : RII h rv rows) (br : Mat p n rows) (hl : rows.length ≤ 100000) :
    ACalls Try.prog 79 [.int .i64 p, rv] h (MadeW OI.fr 71 h (ech p rows)) := by
  have hpp := hp.rng
  obtain ⟨_, b1, o1, k1, c1⟩ := hr
  refine ACalls.wk (args' := [.int .i64 p, .slice (some ⟨b1, o1, none⟩) rows.length 0]) ?_ (.cons (Wk.refl _) (.cons k1 .nil))
  refine ACalls.of Tt.tab Try.func79 rfl (by kernel_rfl) Try.ntmps79 _ rfl rfl (fun hw => ?_)
  have S := Sep.start h
  refine S.new fun b g S => ?_
  have S := S.bx_rw 0 OI.fr rfl
  have hel : ∀ i, i ≤ rows.length → (echN p rows i).length ≤ i := by
    intro i
    induction i with
    | zero => intro _; exact Nat.le_refl _
    | succ i ih =>
      intro hi
      have := ih (by omega)
      unfold echN
      simp only
      split
      · omega
      · obtain ⟨a1, _, _⟩ := echN_spec hp br i (by omega)
        have hq := ins_len (p := p) (B := echN p rows i) (own := scale p (rest p (echN p rows i) (row rows i)) (invp p (ith (rest p (echN p rows i) (row rows i)) (lead (rest p (echN p rows i) (row rows i))).toNat))) (q := (lead (rest p (echN p rows i) (row rows i))).toNat)
        omega
  refine ⟨⟨[0, 1, 5, 6], fun n' vs g => ∃ (i b c : Nat), n' = rows.length - i ∧ i ≤ rows.length ∧ Sep h.length h g [.rw OI.fr 71 h.length (.slice (some ⟨b, 0, none⟩) c 1) c (echN p rows i)] ∧
    vs = [.int .i64 p, .slice (some ⟨b1, o1, none⟩) rows.length 0, .slice (some ⟨b, 0, none⟩) c 1, .int .i64 i], _, ⟨0, b, 0, rfl, Nat.zero_le _, S, rfl⟩, ?_⟩⟩
  rintro n' vs g ⟨i, b, c, rfl, hi, S, rfl⟩
  have hc : (echN p rows i).length = c := S.rw_len 0 rfl
  have hil := hel i hi
  refine BIf.mk (fun hlt => ?_) (fun hlt => ?_)
  · have hlt : i < rows.length := by simpa using hlt
    obtain ⟨a1, a2, a3⟩ := echN_spec hp br i (by omega)
    have hv := br.row hlt
    obtain ⟨r1, r2, r3, r4⟩ := rest_spec (by omega) a1 hv
    have hE : ∀ own, own = rest p (echN p rows i) (row rows i) → echN p rows (i + 1) = if lead own < 0 then echN p rows i else ins p (echN p rows i) (scale p own (invp p (ith own (lead own).toNat))) (lead own).toNat := fun own e => by subst e; rfl
    refine IdxX.mk (by omega) (by omega) ?_
    refine c1.rowY S.le hlt fun b2 o2 h2 => ?_
    refine S.made OI.fr (l01Rest_c _ p n _ _ (echN p rows i) (row rows i) hpp (S.rdw OI.reads 0 rfl (by omega)) (RI.le _ _ _ _ S.le h2) (by omega) hv a1.mat (fun j hj => by have := (a1.lead hj).1; omega)) fun b3 o3 g S => ?_
    generalize hown : rest p (echN p rows i) (row rows i) = own at r1 r2 r3 r4 S ⊢
    have hE := hE own hown.symm
    refine CallX.same (l01Lead_c _ _ own (S.rd OI.reads 0 rfl)) ?_
    rintro r g' ⟨rfl, rfl⟩
    refine BIf.mk (fun h3 => ?_) (fun h3 => ?_)
    · have h3 : lead own < 0 := by simpa using h3
      rw [if_pos h3] at hE
      refine WR.i64 ?_
      exact ⟨rows.length - (i + 1), by omega, i + 1, b, c, rfl, hlt, by rw [hE]; exact S.tail, rfl⟩
    have h3 : ¬ lead own < 0 := by simpa using h3
    rw [if_neg h3] at hE
    obtain ⟨q, e1, e2, e3, e4⟩ : ∃ k : Nat, lead own = k ∧ k < own.length ∧ (∀ i, i < k → ith own i = 0) ∧ ith own k ≠ 0 := by
      rcases lead_cases own with ⟨h1, _⟩ | h1
      · omega
      · exact h1
    rw [e1, show ((q : Int)).toNat = q from rfl] at hE
    rw [e1]
    have hq : q < n := by rw [← r1.1]; exact e2
    have hx := r1.2.ith (by omega) q
    refine IdxX.mk (by omega) (by omega) ?_
    refine (S.cellsI 0 rfl).ith (Le.refl _) e2 ?_
    refine CallX.same (l01Inverse_c _ p _ hp (by omega)) ?_
    rintro r g' ⟨rfl, rfl⟩
    obtain ⟨i1, i2, i3⟩ := invp_spec hp (x := ith own q) (by omega)
    generalize hk : invp p (ith own q) = inv at hE i1 i2 i3 ⊢
    rw [r1.1] at S ⊢
    have S := S.retell 0 (x' := tab n (fun k => if k < 0 then ith own k * inv % p else ith own k)) rfl (by rw [← tab_none, ← r1.1]; exact tab_eq)
    -- the row is scaled in place
    refine ⟨⟨[0, 1, 5, 6, 7, 8, 9, 10], fun n' vs g => ∃ j : Nat, n' = n - j ∧ j ≤ n ∧ Sep h.length h g [.tr OI.fr h.length (.slice (some ⟨b3, o3, none⟩) n 0) (tab n (fun k => if k < j then ith own k * inv % p else ith own k)), .rw OI.fr 71 h.length (.slice (some ⟨b, 0, none⟩) c 1) c (echN p rows i)] ∧
      vs = [.int .i64 p, .slice (some ⟨b1, o1, none⟩) rows.length 0, .slice (some ⟨b, 0, none⟩) c 1, .int .i64 i, .slice (some ⟨b3, o3, none⟩) n 0, .int .i64 q, .int .i64 inv, .int .i64 j], _, ⟨0, rfl, Nat.zero_le _, S, rfl⟩, ?_⟩⟩
    rintro n' vs g ⟨j, rfl, hj, S, rfl⟩
    refine BIf.mk (fun h5 => ?_) (fun h5 => ?_)
    · have h5 : j < n := by simpa using h5
      have hy := r1.2.ith (by omega) j
      have e5 := mul_small (p := p) (x := ith own j) (y := inv) hy (by omega) hpp.2
      refine IdxX.mk (by omega) (by omega) ?_
      refine (((S.rd OI.reads 0 rfl).cells (tab_length _ _).symm)).ith (Le.refl _) (show j < (tab n _).length by rw [tab_length]; exact h5) ?_
      rw [tab_ith h5, if_neg (Nat.lt_irrefl j)]
      refine WR.i64 ?_
      refine TM.pos ?_
      refine IdxX.mk (by omega) (by omega) ?_
      refine S.storeL 0 rfl (tab_length _ _) h5 fun g S => ?_
      refine WR.i64 ?_
      exact ⟨n - (j + 1), by omega, j + 1, rfl, h5, S.retell 0 rfl (by rw [tab_set]; exact tab_step rfl), rfl⟩
    have hj2 : j = n := by simp at h5; omega
    subst hj2
    have hsc : (tab j (fun k => if k < j then ith own k * inv % p else ith own k)) = scale p own inv := by unfold scale; rw [r1.1, tab_all (Nat.le_refl _)]
    rw [hsc] at S
    have so : Vec p j (scale p own inv) := Vec.scale (by omega) r1
    generalize hsco : scale p own inv = sown at S hE so
    generalize hB : echN p rows i = B at S hE a1 hc hil
    refine S.new fun b5 g S => ?_
    have S := S.bx_rv 0 OI.fr rfl
    refine ⟨⟨[0, 1, 5, 6, 7, 8, 11, 12, 13], fun n' vs g => ∃ (k b5 d : Nat) (us : List Value), n' = B.length - k ∧ k ≤ B.length ∧
      (((insN p B sown q k).2 = false ∧ Sep h.length h g [.rv OI.fr 71 h.length (.slice (some ⟨b5, 0, none⟩) d 1) d us (insN p B sown q k).1, .tr OI.fr h.length (.slice (some ⟨b3, o3, none⟩) j 0) sown, .rw OI.fr 71 h.length (.slice (some ⟨b, 0, none⟩) c 1) c B]) ∨
       ((insN p B sown q k).2 = true ∧ (∃ t : Nat, us[t]? = some (.slice (some ⟨b3, o3, none⟩) j 0) ∧ (insN p B sown q k).1[t]? = some sown) ∧ Sep h.length h g [.rv OI.fr 71 h.length (.slice (some ⟨b5, 0, none⟩) d 1) d us (insN p B sown q k).1, .rw OI.fr 71 h.length (.slice (some ⟨b, 0, none⟩) c 1) c B])) ∧
      vs = [.int .i64 p, .slice (some ⟨b1, o1, none⟩) rows.length 0, .slice (some ⟨b, 0, none⟩) c 1, .int .i64 i, .slice (some ⟨b3, o3, none⟩) j 0, .int .i64 q, .slice (some ⟨b5, 0, none⟩) d 1, .bool (insN p B sown q k).2, .int .i64 k], _, ⟨0, b5, 0, [], rfl, Nat.zero_le _, .inl ⟨rfl, S⟩, rfl⟩, ?_⟩⟩
    rintro n' vs g ⟨k, b5, d, us, rfl, hk, hcase, rfl⟩
    have hlen := insN_len (p := p) (B := B) (own := sown) (q := q) k
    have hso : sown.length = j := so.1
    have sob : ∀ x, -1000 ≤ ith sown x ∧ ith sown x ≤ 1000 := fun x => by have := so.2.ith (by omega) x; omega
    rcases hcase with ⟨hp0, S⟩ | ⟨hp1, ⟨t, ht1, ht2⟩, S⟩
    · rw [hp0] at hlen ⊢
      have hd := (S.rv_len 0 rfl).2
      have hus := (S.rv_len 0 rfl).1
      simp only [Bool.false_eq_true, if_false] at hlen
      refine BIf.mk (fun h6 => ?_) (fun h6 => ?_)
      · have h6 : k < B.length := by simp at h6; omega
        have hrow := a1.mat.row h6
        have hql : q < (row B k).length := by rw [hrow.1]; exact hq
        have rb : ∀ x, -1000 ≤ ith (row B k) x ∧ ith (row B k) x ≤ 1000 := fun x => by have := hrow.2.ith (by omega) x; omega
        refine BIf.yes rfl ?_
        refine IdxX.mk (by omega) (by omega) ?_
        refine ((S.rdw OI.reads 2 rfl (by omega)).cells1 hc.symm).rowY (Le.refl _) h6 fun b6 o6 h7 => ?_
        refine CallX.same (l01Lead_c _ _ _ h7) ?_
        rintro r g' ⟨rfl, rfl⟩
        refine BIf.mk (fun h8 => ?_) (fun h8 => ?_)
        · have hin : insN p B sown q (k + 1) = ((insN p B sown q k).1 ++ [sown] ++ [less p (row B k) sown (ith (row B k) q)], true) := by
            simp only [insN, hp0, Bool.not_false, Bool.true_and, Bool.false_or]
            rw [show decide (lead (row B k) > (q : Int)) = true from h8]
            rfl
          refine S.new fun b8 g S => ?_
          have S := (S.front 2 rfl).front 1 rfl
          refine S.appV 0 rfl rfl (by omega) fun b9 g S => ?_
          refine DrawX.of Tt.tab follows_any [14, 15] [16] [0, 1, 2, 3, 4, 5, 6, 7, 8, 9, 10, 11, 12, 13, 14, 15, 16, 17] rfl (by kernel_rfl) (by kernel_rfl) ?_
          refine IdxX.mk (by omega) (by omega) ?_
          refine ((S.rdw OI.reads 1 rfl (by omega)).cells1 hc.symm).rowY (Le.refl _) h6 fun b10 o10 h10 => ?_
          refine IdxX.mk (by omega) (by omega) ?_
          refine ((S.rdw OI.reads 1 rfl (by omega)).cells1 hc.symm).rowY (Le.refl _) h6 fun b11 o11 h11 => ?_
          refine IdxX.mk (by omega) (by omega) ?_
          refine (h11.cells rfl).ith (Le.refl _) (show q < (row B k).length by rw [hrow.1]; exact hq) ?_
          refine S.madeL OI.fr (l01Less_c _ p _ _ _ (row B k) sown hpp h10 (S.rdE OI.reads 0 rfl (i := d) (get_end hus) (get_end hd)) (by rw [hrow.1]; omega) (by rw [hrow.1]; omega) (rb q) rb sob) fun b13 o13 g L S => ?_
          refine ⟨L, ?_⟩
          refine S.newL fun b14 g L S => ?_
          refine ⟨L, ?_⟩
          refine S.appV 0 rfl rfl (by omega) fun b12 g S => ?_
          refine WR.i64 ?_
          exact ⟨B.length - (k + 1), by omega, k + 1, b12, d + 1 + 1, _, rfl, h6, .inr ⟨by rw [hin], ⟨d, get_mid hus, by rw [hin]; exact get_mid hd⟩, by rw [hin]; exact S⟩, by rw [hin]; rfl⟩
        · have hin : insN p B sown q (k + 1) = ((insN p B sown q k).1 ++ [less p (row B k) sown (ith (row B k) q)], false) := by
            simp only [insN, hp0, Bool.not_false, Bool.true_and, Bool.false_or]
            rw [show decide (lead (row B k) > (q : Int)) = false from h8]
            rfl
          refine DrawX.of Tt.tab follows_any [14, 15] [16] [0, 1, 2, 3, 4, 5, 6, 7, 8, 9, 10, 11, 12, 13, 14, 15, 16, 17] rfl (by kernel_rfl) (by kernel_rfl) ?_
          refine IdxX.mk (by omega) (by omega) ?_
          refine ((S.rdw OI.reads 2 rfl (by omega)).cells1 hc.symm).rowY (Le.refl _) h6 fun b10 o10 h10 => ?_
          refine IdxX.mk (by omega) (by omega) ?_
          refine ((S.rdw OI.reads 2 rfl (by omega)).cells1 hc.symm).rowY (Le.refl _) h6 fun b11 o11 h11 => ?_
          refine IdxX.mk (by omega) (by omega) ?_
          refine (h11.cells rfl).ith (Le.refl _) (show q < (row B k).length by rw [hrow.1]; exact hq) ?_
          refine S.madeL OI.fr (l01Less_c _ p _ _ _ (row B k) sown hpp h10 (S.rd OI.reads 1 rfl) (by rw [hrow.1]; omega) (by rw [hrow.1]; omega) (rb q) rb sob) fun b13 o13 g L S => ?_
          refine ⟨L, ?_⟩
          refine S.newL fun b14 g L S => ?_
          refine ⟨L, ?_⟩
          refine S.appV 0 rfl rfl (by omega) fun b12 g S => ?_
          refine WR.i64 ?_
          exact ⟨B.length - (k + 1), by omega, k + 1, b12, d + 1, _, rfl, h6, .inl ⟨by rw [hin], by rw [hin]; exact S⟩, by rw [hin]; rfl⟩
      · have hk2 : k = B.length := by simp at h6; omega
        subst hk2
        have hin : ins p B sown q = (insN p B sown q B.length).1 ++ [sown] := by unfold ins; rw [hp0]; rfl
        refine BIf.yes rfl ?_
        refine S.new fun b8 g S => ?_
        have S := (S.front 2 rfl).front 1 rfl
        refine S.appV 0 rfl rfl (by omega) fun b9 g S => ?_
        have S := (S.rv_rw 0 rfl).drop 1
        refine WR.i64 ?_
        exact ⟨rows.length - (i + 1), by omega, i + 1, b9, d + 1, rfl, hlt, by rw [hE, hin]; exact S, rfl⟩
    · rw [hp1] at hlen ⊢
      have hd := (S.rv_len 0 rfl).2
      have hus := (S.rv_len 0 rfl).1
      simp only [if_true] at hlen
      refine BIf.mk (fun h6 => ?_) (fun h6 => ?_)
      · have h6 : k < B.length := by simp at h6; omega
        have hrow := a1.mat.row h6
        have hql : q < (row B k).length := by rw [hrow.1]; exact hq
        have rb : ∀ x, -1000 ≤ ith (row B k) x ∧ ith (row B k) x ≤ 1000 := fun x => by have := hrow.2.ith (by omega) x; omega
        refine BIf.no rfl ?_
        refine BIf.no rfl ?_
        have hin : insN p B sown q (k + 1) = ((insN p B sown q k).1 ++ [less p (row B k) sown (ith (row B k) q)], true) := by
          simp only [insN, hp1, Bool.not_true, Bool.false_and, Bool.or_false]
          rfl
        refine DrawX.of Tt.tab follows_any [14, 15] [16] [0, 1, 2, 3, 4, 5, 6, 7, 8, 9, 10, 11, 12, 13, 14, 15, 16, 17] rfl (by kernel_rfl) (by kernel_rfl) ?_
        refine IdxX.mk (by omega) (by omega) ?_
        refine ((S.rdw OI.reads 1 rfl (by omega)).cells1 hc.symm).rowY (Le.refl _) h6 fun b10 o10 h10 => ?_
        refine IdxX.mk (by omega) (by omega) ?_
        refine ((S.rdw OI.reads 1 rfl (by omega)).cells1 hc.symm).rowY (Le.refl _) h6 fun b11 o11 h11 => ?_
        refine IdxX.mk (by omega) (by omega) ?_
        refine (h11.cells rfl).ith (Le.refl _) (show q < (row B k).length by rw [hrow.1]; exact hq) ?_
        refine S.madeL OI.fr (l01Less_c _ p _ _ _ (row B k) sown hpp h10 (S.rdE OI.reads 0 rfl ht1 ht2) (by rw [hrow.1]; omega) (by rw [hrow.1]; omega) (rb q) rb sob) fun b13 o13 g L S => ?_
        refine ⟨L, ?_⟩
        refine S.newL fun b14 g L S => ?_
        refine ⟨L, ?_⟩
        refine S.appV 0 rfl rfl (by omega) fun b12 g S => ?_
        refine WR.i64 ?_
        exact ⟨B.length - (k + 1), by omega, k + 1, b12, d + 1, _, rfl, h6, .inr ⟨by rw [hin], ⟨t, get_keep ht1, by rw [hin]; exact get_keep ht2⟩, by rw [hin]; exact S⟩, by rw [hin]; rfl⟩
      · have hk2 : k = B.length := by simp at h6; omega
        subst hk2
        have hin : ins p B sown q = (insN p B sown q B.length).1 := by unfold ins; rw [hp1]; rfl
        refine BIf.no rfl ?_
        have S := (S.rv_rw 0 rfl).drop 1
        refine WR.i64 ?_
        exact ⟨rows.length - (i + 1), by omega, i + 1, b5, d, rfl, hlt, by rw [hE, hin]; exact S, rfl⟩
  · have hi2 : i = rows.length := by simp at hlt; omega
    subst hi2
    exact S.finW 0 rfl
theorem l01Echelon_c (h : AH) (p : Int) (n : Nat) (rv : Value) (rows : List (List Int)) (hp : IsP p) (hn : n ≤ 100000) (hr : RII h rv rows) (br : Mat p n rows) (hl : rows.length ≤ 100000) :
    ACalls Try.prog 79 [.int .i64 p, rv] h (Made OII h (ech p rows)) :=
  (l01EchelonW_c h p n rv rows hp hn hr br hl).ofW (by
    have hel : ∀ i, i ≤ rows.length → (echN p rows i).length ≤ i := by
      intro i
      induction i with
      | zero => intro _; exact Nat.le_refl _
      | succ i ih =>
        intro hi
        have := ih (by omega)
        unfold echN
        simp only
        split
        · omega
        · rw [ins_len]; omega
    have := hel rows.length (Nat.le_refl _)
    unfold ech
    omega)

end Go.Gl

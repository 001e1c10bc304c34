/- FnWholes, the plain law: duals of whole complexes and their homology; Smith numbers and determinants. No condition. FnWholes: results of calls in a plain form; lists of tables and of torsion alike; what the law asks. No condition. FnWholes: the law, walked; written by mk_o7.py. No condition. -/
import Derived.Test.YtoeapenknlfffaaPlM
import Derived.Test.YtoeapenknlfffaaFnF1
import Derived.Test.YtoeapenknlfffaaFnH1
import Derived.Test.YtoeapenknlfffaaFnD1
import Derived.Test.YtoeapenknlfffaaFnO1
import Derived.Test.YtoeapenknlfffaaFn7a
set_option linter.unusedVariables false
set_option linter.unusedSimpArgs false
namespace Go.Gl
open Go.Proofs Go.Proofs.Ytoeapenknlfffaa Go.Pl

theorem revI_len (xs : List Int) : (revI xs).length = xs.length := tab_length _ _
theorem revI_ith {xs : List Int} {k : Nat} (h : k < xs.length) : ith (revI xs) k = ith xs (xs.length - 1 - k) := by
  unfold revI
  exact tab_ith h
theorem dualMaps_len (x : SWhole) (n : Nat) : (dualMaps x n).length = n := by simp [dualMaps]
theorem dualMaps_mat {x : SWhole} {n k : Nat} (h : k < n) : mat (dualMaps x n) k = dualMap x k := by simp [mat, dualMaps, h]
theorem colsN_len (M : List (List Int)) (m : Nat) : (colsN M m).length = m := by simp [colsN, tabR]
theorem colsN_row {M : List (List Int)} {m i : Nat} (h : i < m) : row (colsN M m) i = tab M.length fun j => ent M j i := by simp [colsN, tabR, row, h]
theorem colsN_ent {M : List (List Int)} {m i j : Nat} (h : i < m) (hj : j < M.length) : ent (colsN M m) i j = ent M j i := by
  unfold ent
  rw [colsN_row h, tab_ith hj]
  rfl
theorem wmat_mk {m : Int} {rows : List (List Int)} (h : ∀ i, i < rows.length → ((row rows i).length : Int) = m ∧ ∀ j, -9 ≤ ith (row rows i) j ∧ ith (row rows i) j ≤ 9) : wmat m rows = true := by
  refine List.all_eq_true.2 fun r hr => ?_
  obtain ⟨i, hi, e⟩ := List.getElem_of_mem hr
  have e : row rows i = r := by rw [← e]; simp [row, hi]
  obtain ⟨h1, h2⟩ := h i hi
  rw [e] at h1 h2
  simp only [wrow, Bool.and_eq_true, decide_eq_true_eq]
  refine ⟨h1, List.all_eq_true.2 fun x hx => ?_⟩
  obtain ⟨j, hj, e2⟩ := List.getElem_of_mem hx
  have := h2 j
  rw [← ith_get hj, e2] at this
  simpa using this
theorem wid_wmat {m : Int} {rows : List (List Int)} (h : wmat m rows = true) (h0 : 0 < rows.length) : (wid rows : Int) = m := (wmat_row h h0).1
/-- the dual is a whole complex -/
theorem dual_ok {x : SWhole} (h : wholeOk x = true) : wholeOk ⟨revI x.dims, dualMaps x x.maps.length⟩ = true := by
  obtain ⟨hd, hm⟩ := wholeOk_mk h
  have hlo := hd.lo
  have hhi := hd.hi
  have hlen := hd.len
  have hz : ∀ k, k < x.maps.length → k ≠ 0 → ∀ i c, i < (mat x.maps k).length → c < (ith x.dims (k - 1)).toNat → dot (row (mat x.maps k) i) (mat x.maps (k - 1)) c (ith x.dims k).toNat = 0 := by
    intro k hk h0 i c hi hc
    simp only [wholeOk, Bool.and_eq_true] at h
    have h3 := allN_at h.2 hk
    simp only [Bool.or_eq_true, decide_eq_true_eq, h0, false_or] at h3
    have h4 := allN_at h3 hi
    have h5 := allN_at h4 hc
    simpa using h5
  have hdm : ∀ i, 0 ≤ ith (revI x.dims) i ∧ ith (revI x.dims) i ≤ 6 := fun i => by
    rcases Nat.lt_or_ge i x.dims.length with hi | hi
    · rw [revI_ith hi]; exact hd.dims _
    · rw [ith_out (by rw [revI_len]; exact hi)]; omega
  simp only [wholeOk, Bool.and_eq_true]
  refine ⟨⟨?_, allN_mk fun k hk => ?_⟩, allN_mk fun k hk => ?_⟩
  · simp only [wHead, Bool.and_eq_true, decide_eq_true_eq]
    refine ⟨⟨?_, ?_⟩, List.all_eq_true.2 fun n hn => ?_⟩
    · rw [revI_len]; omega
    · rw [revI_len, dualMaps_len]; omega
    · obtain ⟨i, hi, e⟩ := List.getElem_of_mem hn
      have := hdm i
      rw [← ith_get hi, e] at this
      simpa using this
  · rw [dualMaps_len] at hk
    obtain ⟨m1, m2⟩ := hm (x.maps.length - 1 - k) (by omega)
    have r1 := hd.dims (x.maps.length - 1 - k)
    simp only [wShape, Bool.and_eq_true, decide_eq_true_eq]
    rw [dualMaps_mat hk, revI_ith (by omega), revI_ith (by omega)]
    rw [show x.dims.length - 1 - (k + 1) = x.maps.length - 1 - k by omega, show x.dims.length - 1 - k = x.maps.length - 1 - k + 1 by omega]
    unfold dualMap
    rw [colsN_len]
    refine ⟨by omega, wmat_mk fun i hi => ?_⟩
    rw [colsN_len] at hi
    rw [colsN_row hi, tab_length]
    refine ⟨m1, fun j => ?_⟩
    rcases Nat.lt_or_ge j (mat x.maps (x.maps.length - 1 - k)).length with hj | hj
    · rw [tab_ith hj]; exact (wmat_row m2 hj).2 i
    · rw [ith_out (by rw [tab_length]; exact hj)]; omega
  · rw [dualMaps_len] at hk
    simp only [Bool.or_eq_true, decide_eq_true_eq]
    by_cases h0 : k = 0
    · exact .inl h0
    · refine .inr (allN_mk fun i hi => allN_mk fun c hc => ?_)
      have hi : i < (mat (dualMaps x x.maps.length) k).length := hi
      have hc : c < (ith (revI x.dims) (k - 1)).toNat := hc
      rw [dualMaps_mat hk] at hi
      unfold dualMap at hi
      rw [colsN_len] at hi
      rw [revI_ith (by omega)] at hc
      obtain ⟨m1, m2⟩ := hm (x.maps.length - 1 - k) (by omega)
      obtain ⟨n1, n2⟩ := hm (x.maps.length - 1 - (k - 1)) (by omega)
      have e1 : x.dims.length - 1 - (k - 1) = x.maps.length - 1 - (k - 1) + 1 := by omega
      rw [e1] at hc
      have hz2 := hz (x.maps.length - 1 - (k - 1)) (by omega) (by omega) c i (by omega) (by rw [show x.maps.length - 1 - (k - 1) - 1 = x.maps.length - 1 - k by omega]; exact hi)
      rw [show x.maps.length - 1 - (k - 1) - 1 = x.maps.length - 1 - k by omega] at hz2
      have key : dot (row (mat (dualMaps x x.maps.length) k) i) (mat (dualMaps x x.maps.length) (k - 1)) c (ith (revI x.dims) k).toNat = 0 := by
        rw [dualMaps_mat hk, dualMaps_mat (show k - 1 < x.maps.length by omega), revI_ith (by omega)]
        rw [show x.dims.length - 1 - k = x.maps.length - 1 - (k - 1) by omega]
        rw [← hz2]
        unfold dot dualMap
        refine sm_same fun j hj => ?_
        have e2 : x.maps.length - 1 - (k - 1) = x.maps.length - 1 - k + 1 := by omega
        rw [colsN_row hi, tab_ith (by rw [e2] at hj; omega)]
        have e3 := colsN_ent (M := mat x.maps (x.maps.length - 1 - (k - 1))) (m := (ith x.dims (x.maps.length - 1 - (k - 1))).toNat) (i := j) (j := c) hj (by omega)
        rw [e3, Int.mul_comm]
        rfl
      simpa using key
theorem dual_smith {x : SWhole} (h : wholeOk x = true) {k : Nat} (hk : k < x.maps.length) : smith (mat (dualMaps x x.maps.length) k) = smith (mat x.maps (x.maps.length - 1 - k)) := by
  obtain ⟨hd, hm⟩ := wholeOk_mk h
  obtain ⟨m1, m2⟩ := hm (x.maps.length - 1 - k) (by omega)
  have r1 := hd.dims (x.maps.length - 1 - k)
  rw [dualMaps_mat hk]
  unfold dualMap
  refine smith_flip (n := (ith x.dims (x.maps.length - 1 - k)).toNat) (m := (mat x.maps (x.maps.length - 1 - k)).length) (colsN_len _ _) rfl (fun h0 => ?_) (fun h0 => ?_) fun i j hi hj => colsN_ent hi hj
  · unfold wid
    rw [colsN_row h0, tab_length]
  · have := wid_wmat m2 h0
    omega
/-- homology of the dual: free parts in the reverse order, torsion moved by one degree -/
theorem dual_tor {x : SWhole} (h : wholeOk x = true) {n : Nat} (hn : n < x.dims.length) :
    (torAt ⟨revI x.dims, dualMaps x x.maps.length⟩ (x.dims.length - 1 - n)).free = (torAt x n).free ∧ (n + 1 < x.dims.length → (torAt ⟨revI x.dims, dualMaps x x.maps.length⟩ (x.dims.length - 1 - 1 - n)).parts = (torAt x n).parts) := by
  obtain ⟨hd, hm⟩ := wholeOk_mk h
  have hlen := hd.len
  have hs : ∀ k, k < x.maps.length → smAt ⟨revI x.dims, dualMaps x x.maps.length⟩ k = smith (mat x.maps (x.maps.length - 1 - k)) := fun k hk => by
    unfold smAt
    rw [if_pos (by show k < (dualMaps x x.maps.length).length; rw [dualMaps_len]; exact hk)]
    exact dual_smith h hk
  have hs2 : ∀ k, k < x.maps.length → smAt x k = smith (mat x.maps k) := fun k hk => if_pos hk
  have hs0 : smAt ⟨revI x.dims, dualMaps x x.maps.length⟩ x.maps.length = [] := if_neg (by show ¬ x.maps.length < (dualMaps x x.maps.length).length; rw [dualMaps_len]; omega)
  have hs3 : smAt x x.maps.length = [] := if_neg (by omega)
  have l1 : fromAt ⟨revI x.dims, dualMaps x x.maps.length⟩ (x.dims.length - 1 - n) = smAt x n := by
    unfold fromAt
    rcases Nat.lt_or_ge n x.maps.length with h1 | h1
    · rw [if_neg (by omega), hs _ (by omega), hs2 n h1, show x.maps.length - 1 - (x.dims.length - 1 - n - 1) = n by omega]
    · rw [if_pos (by omega), show n = x.maps.length by omega, hs3]
  have l2 : smAt ⟨revI x.dims, dualMaps x x.maps.length⟩ (x.dims.length - 1 - n) = fromAt x n := by
    unfold fromAt
    rcases Nat.eq_zero_or_pos n with h0 | h0
    · rw [if_pos h0, show x.dims.length - 1 - n = x.maps.length by omega, hs0]
    · rw [if_neg (by omega), hs _ (by omega), hs2 _ (by omega), show x.maps.length - 1 - (x.dims.length - 1 - n) = n - 1 by omega]
  constructor
  · show ith (revI x.dims) (x.dims.length - 1 - n) - ((fromAt _ (x.dims.length - 1 - n)).length : Int) - ((smAt _ (x.dims.length - 1 - n)).length : Int) = ith x.dims n - ((fromAt x n).length : Int) - ((smAt x n).length : Int)
    rw [l1, l2, revI_ith (by omega), show x.dims.length - 1 - (x.dims.length - 1 - n) = n by omega]
    omega
  · intro h1
    unfold torAt
    show (smAt _ (x.dims.length - 1 - 1 - n)).filter big1 = _
    rw [hs _ (by omega), hs2 n (by omega), show x.maps.length - 1 - (x.dims.length - 1 - 1 - n) = n by omega]
end Go.Gl

set_option linter.unusedVariables false
set_option linter.unusedSimpArgs false
namespace Go.Gl
open Go.Proofs Go.Proofs.Ytoeapenknlfffaa Go.Pl

theorem CallX.madeCI {P : Program} {f : FuncId} {args : List Value} {h : AH} {x : List Int} {c : Int} {K : Value → AH → Prop} (hc : ACalls P f args h (MadeC OI h x c)) (hk : ∀ b o h', Le h h' → RI h' (.slice (some ⟨b, o, none⟩) x.length 0) x → K (.tuple #[.slice (some ⟨b, o, none⟩) x.length 0, .int .i64 c]) h') : CallX P f args h K := by
  refine CallX.canon hc ?_
  rintro r h' ⟨v, l, rfl, ho, L⟩
  obtain ⟨b, o, k, ho⟩ := Leaf.can ho
  exact ⟨_, Wk.tuple (.cons k (.cons (Wk.refl _) .nil)), hk b o h' L (OI.reads _ _ _ _ _ ho)⟩
theorem CallX.madeCW {P : Program} {f : FuncId} {args : List Value} {h : AH} {x : SWhole} {c : Int} {K : Value → AH → Prop} (hc : ACalls P f args h (fun r h' => ∃ v l, r = .tuple #[v, .int .i64 c] ∧ OWhole h.length h' v x l ∧ Le h h'))
    (hk : ∀ b1 o1 b2 o2 h', Le h h' → QWhole h' (.slice (some ⟨b1, o1, none⟩) x.dims.length 0) (.slice (some ⟨b2, o2, none⟩) x.maps.length 0) x → K (.tuple #[.agg #[.slice (some ⟨b1, o1, none⟩) x.dims.length 0, .slice (some ⟨b2, o2, none⟩) x.maps.length 0], .int .i64 c]) h') : CallX P f args h K := by
  refine CallX.canon hc ?_
  rintro r h' ⟨v, l, rfl, ho, L⟩
  obtain ⟨b1, o1, b2, o2, k, hq⟩ := (OWhole.reads _ _ _ _ _ ho).can
  exact ⟨_, Wk.tuple (.cons k (.cons (Wk.refl _) .nil)), hk b1 o1 b2 o2 h' L hq⟩
theorem CallX.drawnW {P : Program} {f : FuncId} {args : List Value} {h : AH} {K : Value → AH → Prop} (hc : ACalls P f args h (DrawnWh h))
    (hk : ∀ x b1 o1 b2 o2 h', Le h h' → QWhole h' (.slice (some ⟨b1, o1, none⟩) x.dims.length 0) (.slice (some ⟨b2, o2, none⟩) x.maps.length 0) x → K (.agg #[.slice (some ⟨b1, o1, none⟩) x.dims.length 0, .slice (some ⟨b2, o2, none⟩) x.maps.length 0]) h') : CallX P f args h K := by
  refine CallX.canon hc ?_
  rintro r h' ⟨v1, v2, x, rfl, hx, L⟩
  obtain ⟨b1, o1, b2, o2, k, hq⟩ := hx.can
  exact ⟨_, k, hk x b1 o1 b2 o2 h' L hq⟩
theorem CallX.madeCT {P : Program} {f : FuncId} {args : List Value} {h : AH} {x : List STor} {c : Int} {K : Value → AH → Prop} (hc : ACalls P f args h (fun r h' => ∃ v l, r = .tuple #[v, .int .i64 c] ∧ OTors h.length h' v x l ∧ Le h h'))
    (hk : ∀ b o h', Le h h' → RT h' (.slice (some ⟨b, o, none⟩) x.length 0) x → K (.tuple #[.slice (some ⟨b, o, none⟩) x.length 0, .int .i64 c]) h') : CallX P f args h K := by
  refine CallX.canon hc ?_
  rintro r h' ⟨v, l, rfl, ho, L⟩
  obtain ⟨b, o, k, ho⟩ := OTors.can ho
  exact ⟨_, Wk.tuple (.cons k (.cons (Wk.refl _) .nil)), hk b o h' L ho.reads⟩

theorem maps5_c (h : AH) (va vb : Value) (a b : List (List (List Int))) (ha : RIII h va a) (hb : RIII h vb b) (e : a = b) : ACalls Try.prog 19 [va, vb] h (fun r h' => r = .bool true ∧ h' = h) := by
  subst e
  obtain ⟨b1, o1, k1, ha⟩ := RS.can ha
  obtain ⟨b2, o2, k2, hb⟩ := RS.can hb
  refine ACalls.wk (args' := [.slice (some ⟨b1, o1, none⟩) a.length 0, .slice (some ⟨b2, o2, none⟩) a.length 0]) ?_ (.cons k1 (.cons k2 .nil))
  have c1 := RS.cells ha rfl
  have hm := ha.1
  have c2 := RS.cells hb rfl
  refine ACalls.of Tt.tab Try.func19 rfl (by kernel_rfl) Try.ntmps19 _ rfl rfl (fun hw => ?_)
  refine BIf.no (by simp) ?_
  refine ⟨⟨[0, 1, 4, 5], fun n' vs g => ∃ i : Nat, n' = a.length - i ∧ i ≤ a.length ∧ g = h ∧ vs = [.slice (some ⟨b1, o1, none⟩) a.length 0, .slice (some ⟨b2, o2, none⟩) a.length 0, .bool false, .int .i64 i], _, ⟨0, rfl, Nat.zero_le _, rfl, rfl⟩, ?_⟩⟩
  rintro n' vs g ⟨i, rfl, hi, rfl, rfl⟩
  refine BIf.mk (fun h2 => ?_) (fun h2 => ?_)
  · have hlt : i < a.length := by simpa using h2
    have e3 : a[i]? = some (mat a i) := by rw [List.getElem?_eq_getElem hlt, mat_get hlt]
    refine DrawX.of Tt.tab follows_any [] [] [0, 1, 2, 3, 4, 5, 6, 7, 8, 9] rfl (by kernel_rfl) (by kernel_rfl) ?_
    refine IdxX.mk (by omega) (by omega) ?_
    obtain ⟨blk1, u1, x1, x2, x3⟩ := c1 i _ e3
    obtain ⟨b3, o3, k3, r3⟩ := RS.can x3
    refine LoadX.one x1 (by unfold ldv; exact x2) k3 ?_
    refine IdxX.mk (by omega) (by omega) ?_
    obtain ⟨blk2, u2, y1, y2, y3⟩ := c2 i _ e3
    obtain ⟨b4, o4, k4, r4⟩ := RS.can y3
    refine LoadX.one y1 (by unfold ldv; exact y2) k4 ?_
    refine QCall.of (fun g2 hl => rows5_c g2 _ _ _ _ (RII.le _ _ _ _ hl r3) (RII.le _ _ _ _ hl r4) rfl) rfl ?_
    refine BIf.no (by simp) ?_
    refine WR.as (r := ((i + 1 : Nat) : Int)) (by omega) ?_
    exact ⟨a.length - (i + 1), by omega, i + 1, rfl, hlt, rfl, rfl⟩
  exact FinX.keep hw (Le.refl _) rfl ⟨rfl, rfl⟩

theorem torsions5_c (h : AH) (va vb : Value) (a b : List STor) (ha : RT h va a) (hb : RT h vb b) (e : a = b) : ACalls Try.prog 28 [va, vb] h (fun r h' => r = .bool true ∧ h' = h) := by
  subst e
  obtain ⟨b1, o1, k1, ha⟩ := RN.can ha
  obtain ⟨b2, o2, k2, hb⟩ := RN.can hb
  refine ACalls.wk (args' := [.slice (some ⟨b1, o1, none⟩) a.length 0, .slice (some ⟨b2, o2, none⟩) a.length 0]) ?_ (.cons k1 (.cons k2 .nil))
  have c1 := RN.cells ha rfl
  have hm := ha.1
  have c2 := RN.cells hb rfl
  refine ACalls.of Tt.tab Try.func28 rfl (by kernel_rfl) Try.ntmps28 _ rfl rfl (fun hw => ?_)
  refine BIf.no (by simp) ?_
  refine ⟨⟨[0, 1, 4, 5], fun n' vs g => ∃ i : Nat, n' = a.length - i ∧ i ≤ a.length ∧ g = h ∧ vs = [.slice (some ⟨b1, o1, none⟩) a.length 0, .slice (some ⟨b2, o2, none⟩) a.length 0, .bool false, .int .i64 i], _, ⟨0, rfl, Nat.zero_le _, rfl, rfl⟩, ?_⟩⟩
  rintro n' vs g ⟨i, rfl, hi, rfl, rfl⟩
  refine BIf.mk (fun h2 => ?_) (fun h2 => ?_)
  · have hlt : i < a.length := by simpa using h2
    refine DrawX.of Tt.tab follows_any [] [] [0, 1, 2, 3, 4, 5, 6, 7, 8, 9, 10, 11, 12, 13, 14, 15, 16, 17, 18, 19, 20, 21, 22, 23, 24] rfl (by kernel_rfl) (by kernel_rfl) ?_
    refine IdxX.mk (by omega) (by omega) ?_
    refine CT.free c1 (Le.refl _) hlt ?_
    refine IdxX.mk (by omega) (by omega) ?_
    refine CT.free c2 (Le.refl _) hlt ?_
    refine BIf.no (by simp) ?_
    refine IdxX.mk (by omega) (by omega) ?_
    refine CT.parts c1 (Le.refl _) hlt fun b3 o3 r3 => ?_
    refine IdxX.mk (by omega) (by omega) ?_
    refine CT.parts c2 (Le.refl _) hlt fun b4 o4 r4 => ?_
    refine QCall.of (fun g2 hl => likeInts_c g2 _ _ _ _ (RI.le _ _ _ _ hl r3) (RI.le _ _ _ _ hl r4) rfl) rfl ?_
    repeat (first | refine BIf.no rfl ?_ | refine BIf.yes rfl ?_)
    refine WR.as (r := ((i + 1 : Nat) : Int)) (by omega) ?_
    exact ⟨a.length - (i + 1), by omega, i + 1, rfl, hlt, rfl, rfl⟩
  exact FinX.keep hw (Le.refl _) rfl ⟨rfl, rfl⟩

/-! ### what the law asks -/
theorem smith_key (a : List (List Int)) : ∃ L c, smithNum a = (L, c) ∧ rankOf a = ((L.length : Int), c) ∧ (c = 0 ∨ c = 2) ∧ (∀ i, i < L.length → 1 ≤ ith L i) ∧ (∀ i, i + 1 < L.length → ith L i ∣ ith L (i + 1)) ∧ L.length ≤ 100 := by
  have hcn := smithNum_cn a
  unfold smithNum at hcn ⊢
  unfold rankOf
  by_cases h : matOk a = true
  · rw [if_pos h] at hcn ⊢
    rw [if_pos h]
    refine ⟨smith a, 0, rfl, rfl, .inl rfl, fun i hi => ?_, fun i hi => smith_dvd hi, ?_⟩
    · obtain ⟨h1, h2⟩ := smith_at hi
      obtain ⟨q, hq⟩ := gmin_chain a i
      have h0 : gmin a i ≠ 0 := gmin_pos h1 (by omega)
      rw [h2, hq, Nat.mul_div_cancel_left _ (Nat.pos_of_ne_zero h0)]
      rcases Nat.eq_zero_or_pos q with z | z
      · rw [z, Nat.mul_zero] at hq; exact absurd hq h1
      · omega
    · simpa [cnI] using hcn
  · rw [if_neg h, if_neg h]
    exact ⟨[], 2, rfl, rfl, .inr rfl, fun i hi => by simp at hi, fun i hi => by simp at hi, by simp⟩
theorem det_key (a : List (List Int)) : (∃ d, detOf a = (d, 2)) ∨ detOf a = (0, 0) ∨ ∃ d L, detOf a = (d, 0) ∧ d ≠ 0 ∧ smithNum a = (L, 0) ∧ L.length = a.length ∧ a.length ≤ 6 ∧ (∀ i, i < L.length → 1 ≤ ith L i) ∧ (prd L = d ∨ prd L = -d) ∧ (-24794911296 ≤ d ∧ d ≤ 24794911296) := by
  unfold detOf
  by_cases h : detOk a = true
  · rw [if_pos h]
    by_cases hd : det a (iota a.length) = 0
    · rw [hd]; exact .inr (.inl rfl)
    · refine .inr (.inr ⟨_, smith a, rfl, hd, ?_⟩)
      have hq := detOk_eq a
      rw [h] at hq
      simp only [Bool.and_eq_true, decide_eq_true_eq] at hq
      obtain ⟨⟨⟨h1, h2⟩, h3⟩, h4⟩ := hq
      have hm : matOk a = true := by
        unfold matOk
        simp only [Bool.and_eq_true, decide_eq_true_eq]
        exact ⟨⟨h1, h2⟩, h3⟩
      obtain ⟨e1, e2⟩ := smith_sq h4 hd
      obtain ⟨L, c, k1, _, _, k4, _⟩ := smith_key a
      have ks : smithNum a = (smith a, 0) := if_pos hm
      rw [ks] at k1
      have kL : smith a = L := congrArg Prod.fst k1
      have hb := det_abs a (iota a.length) (wmat_small h3) (by rw [iota_length]; exact h1)
      have hp := pw6 h1
      exact ⟨ks, e1, h1, by rw [kL]; exact k4, e2, by omega⟩
  · rw [if_neg h]; exact .inl ⟨0, rfl⟩
theorem dual_key (x : SWhole) : (dualW x = (⟨[], []⟩, 1)) ∨ ∃ y, dualW x = (y, 0) ∧ ∃ A B, wholeH x = (A, 0) ∧ wholeH y = (B, 0) ∧ A.length = x.dims.length ∧ B.length = x.dims.length ∧ 1 ≤ x.dims.length ∧ x.dims.length ≤ 6 ∧ ∀ n, n < x.dims.length → (tor A n).free = (tor B (x.dims.length - 1 - n)).free ∧ (n + 1 < x.dims.length → (tor A n).parts = (tor B (x.dims.length - 1 - 1 - n)).parts) := by
  unfold dualW
  by_cases h : wholeOk x = true
  · rw [if_pos h]
    have h2 := dual_ok h
    obtain ⟨hd, _⟩ := wholeOk_mk h
    have hlen := hd.len
    refine .inr ⟨_, rfl, homol x, homol _, if_pos h, if_pos h2, homN_length _ _, (homN_length _ _).trans (revI_len _), hd.lo, hd.hi, fun n hn => ?_⟩
    obtain ⟨t1, t2⟩ := dual_tor h hn
    have hl : (⟨revI x.dims, dualMaps x x.maps.length⟩ : SWhole).dims.length = x.dims.length := revI_len _
    rw [homol_tor hn]
    refine ⟨?_, fun h1 => ?_⟩
    · rw [homol_tor (by omega)]; exact t1.symm
    · rw [homol_tor (by omega)]; exact (t2 h1).symm
  · rw [if_neg h]; exact .inl rfl
theorem wholeH_key (x : SWhole) : ∃ A c, wholeH x = (A, c) := ⟨_, _, rfl⟩
end Go.Gl

set_option linter.unusedVariables false
set_option linter.unusedSimpArgs false
namespace Go.Gl
open Go.Proofs Go.Proofs.Ytoeapenknlfffaa Go.Pl

theorem all_pos {L : List Int} (h : ∀ i, i < L.length → 1 ≤ ith L i) : ∀ x ∈ L, 1 ≤ x := fun x hx => by
  obtain ⟨i, hi, e⟩ := List.getElem_of_mem hx
  have := h i hi
  rw [← ith_get hi, e] at this
  exact this
theorem take_pos {L : List Int} (k : Nat) (h : ∀ i, i < L.length → 1 ≤ ith L i) : ∀ x ∈ L.take k, 1 ≤ x := fun x hx => all_pos h x (List.mem_of_mem_take hx)
theorem rs_len {h : AH} {b k : Nat} {xs : List (List Int)} (hx : RII h (.slice (some ⟨b, 0, none⟩) k 1) xs) : k = xs.length := by
  obtain ⟨_, b2, o2, w, _⟩ := hx
  have := w (fun _ => ⟨0, 0, k, true⟩) (b + 1) _ (VR.slS b k (by omega) (.inr rfl))
  obtain ⟨A, c, e, _⟩ := this.sl_inv
  injection e with _ e2 _
theorem ne_selfI (x : Int) : (!(x == x)) = false := by simp
theorem ne_selfB (x : Bool) : (!(x == x)) = false := by simp
theorem eq_selfI (x : Int) : (x == x) = true := by simp
theorem eq_selfB (x : Bool) : (x == x) = true := by simp

set_option maxHeartbeats 20000000 in
theorem FnWholes_law (h : AH) (v : Value) (xs : List Int) (hx : R8 h v xs) : ACalls Try.prog 3 [v] h (fun r h' => r = .bool true ∧ h' = h) := by
  obtain ⟨bc, oc, kc, hx⟩ := hx.can
  refine ACalls.wk (args' := [.slice (some ⟨bc, oc, none⟩) xs.length 0]) ?_ (.cons kc .nil)
  refine ACalls.of Tt.tab Try.func3 rfl (by kernel_rfl) Try.ntmps3 _ rfl rfl (fun hw => ?_)
  have Lh := Le.refl h
  have hxx := hx
  refine CallX.same (big_c _ _ xs hxx) ?_
  rintro r g0 ⟨rfl, rfl⟩
  refine BIf.mk (fun hb => ?_) (fun hb => ?_)
  · exact FinX.keep hw Lh rfl ⟨rfl, rfl⟩
  have hb : xs.length ≤ 1000000 := by simp at hb; omega
  refine CallX.same (drawSmith_c _ _ xs hxx hb) ?_
  rintro r g ⟨b1, k1, a, rfl, ra, L⟩
  replace Lh := Lh.trans L
  replace hxx := R8.le _ _ _ _ L hxx
  obtain ⟨Ls, c, es, er, hc, hp, hdv, hl⟩ := smith_key a
  have mi := smithNumI_c _ _ a ra
  simp only [es] at mi
  refine CallX.madeCI mi fun o1 p1 g L r1 => ?_
  replace Lh := Lh.trans L
  replace hxx := R8.le _ _ _ _ L hxx
  replace ra := RII.le _ _ _ _ L ra
  have mi := smithNumS_c _ _ a ra
  simp only [es] at mi
  refine CallX.madeCI mi fun o2 p2 g L r2 => ?_
  replace Lh := Lh.trans L
  replace hxx := R8.le _ _ _ _ L hxx
  replace ra := RII.le _ _ _ _ L ra
  replace r1 := RI.le _ _ _ _ L r1
  have mi := rankOfI_c _ _ a ra
  simp only [er] at mi
  refine CallX.same mi ?_
  rintro r g ⟨rfl, rfl⟩
  have mi := rankOfS_c _ _ a ra
  simp only [er] at mi
  refine CallX.same mi ?_
  rintro r g ⟨rfl, rfl⟩
  rcases hc with rfl | rfl <;> (
    repeat (first | refine BIf.no rfl ?_ | refine BIf.yes rfl ?_ | refine BIf.no (ne_selfI _) ?_ | refine BIf.no (ne_selfB _) ?_ | refine BIf.yes (eq_selfI _) ?_ | refine BIf.yes (eq_selfB _) ?_)
    refine CallX.same (likeInts_c _ _ _ _ _ r1 r2 rfl) ?_
    rintro r g ⟨rfl, rfl⟩
    repeat (first | refine BIf.no rfl ?_ | refine BIf.yes rfl ?_ | refine BIf.no (ne_selfI _) ?_ | refine BIf.no (ne_selfB _) ?_ | refine BIf.yes (eq_selfI _) ?_ | refine BIf.yes (eq_selfB _) ?_)
    have cL := r1.cells rfl
    refine ⟨⟨[0, 4, 12], fun n' vs g2 => ∃ i : Nat, n' = Ls.length - i ∧ i ≤ Ls.length ∧ g2 = g ∧ vs = [.slice (some ⟨bc, oc, none⟩) xs.length 0, .slice (some ⟨o1, p1, none⟩) Ls.length 0, .int .i64 i], _, ⟨0, rfl, Nat.zero_le _, rfl, rfl⟩, ?_⟩⟩
    rintro n' vs g2 ⟨i, rfl, hi, rfl, rfl⟩
    refine BIf.mk (fun c3 => ?_) (fun c3 => ?_)
    · have c3 : i < Ls.length := by simpa using c3
      have q1 := hp i c3
      refine DrawX.of Tt.tab follows_any [] [] [0, 1, 2, 3, 4, 5, 6, 7, 8, 9, 10, 11, 12, 13, 14, 15, 16, 17, 18, 19, 20, 21] rfl (by kernel_rfl) (by kernel_rfl) ?_
      refine IdxX.mk (by omega) (by omega) ?_
      refine CS.ith cL (Le.refl _) c3 ?_
      refine BIf.no (by simp; omega) ?_
      refine BIf.mk (fun c4 => ?_) (fun c4 => ?_)
      · have c4 : 0 < i := by simpa using c4
        have q2 := hp (i - 1) (by omega)
        have q3 := hdv (i - 1) (by omega)
        rw [show i - 1 + 1 = i by omega] at q3
        refine IdxX.mk (by omega) (by omega) ?_
        refine CS.ith cL (Le.refl _) c3 ?_
        refine WR.as (r := ((i - 1 : Nat) : Int)) (by omega) ?_
        refine IdxX.mk (by omega) (by omega) ?_
        refine CS.ith (k := i - 1) cL (Le.refl _) (by omega) ?_
        refine TM.pos ?_
        rw [Int.emod_eq_zero_of_dvd q3]
        repeat (first | refine BIf.no rfl ?_ | refine BIf.yes rfl ?_ | refine BIf.no (ne_selfI _) ?_ | refine BIf.no (ne_selfB _) ?_ | refine BIf.yes (eq_selfI _) ?_ | refine BIf.yes (eq_selfB _) ?_)
        refine WR.as (r := ((i + 1 : Nat) : Int)) (by omega) ?_
        exact ⟨Ls.length - (i + 1), by omega, i + 1, rfl, c3, rfl, rfl⟩
      · repeat (first | refine BIf.no rfl ?_ | refine BIf.yes rfl ?_ | refine BIf.no (ne_selfI _) ?_ | refine BIf.no (ne_selfB _) ?_ | refine BIf.yes (eq_selfI _) ?_ | refine BIf.yes (eq_selfB _) ?_)
        refine WR.as (r := ((i + 1 : Nat) : Int)) (by omega) ?_
        exact ⟨Ls.length - (i + 1), by omega, i + 1, rfl, c3, rfl, rfl⟩
    refine CallX.same (drawDet_c _ _ xs hxx hb) ?_
    rintro r g ⟨bq, kq, sq, rfl, rs, L⟩
    replace Lh := Lh.trans L
    replace hxx := R8.le _ _ _ _ L hxx
    replace ra := RII.le _ _ _ _ L ra
    replace r1 := RI.le _ _ _ _ L r1
    replace r2 := RI.le _ _ _ _ L r2
    rcases det_key sq with ⟨d, ed⟩ | ed | ⟨d, L2, ed, hd0, es2, hl2, hl6, hp2, hpr, hdb⟩
    · have mi := detOfI_c _ _ sq rs
      simp only [ed] at mi
      refine CallX.same mi ?_
      rintro r g ⟨rfl, rfl⟩
      have mi := detOfS_c _ _ sq rs
      simp only [ed] at mi
      refine CallX.same mi ?_
      rintro r g ⟨rfl, rfl⟩
      repeat (first | refine BIf.no rfl ?_ | refine BIf.yes rfl ?_ | refine BIf.no (ne_selfI _) ?_ | refine BIf.no (ne_selfB _) ?_ | refine BIf.yes (eq_selfI _) ?_ | refine BIf.yes (eq_selfB _) ?_)
      refine CallX.drawnW (drawDual_c _ _ xs hxx hb) fun x x1 xo1 x2 xo2 g L qx => ?_
      replace Lh := Lh.trans L
      replace hxx := R8.le _ _ _ _ L hxx
      replace ra := RII.le _ _ _ _ L ra
      replace r1 := RI.le _ _ _ _ L r1
      replace r2 := RI.le _ _ _ _ L r2
      replace rs := RII.le _ _ _ _ L rs
      have S := Sep.start g
      refine S.new fun b22 g S => ?_
      refine S.put 0 rfl fun g S => ?_
      have S := S.recast 0 (cells' := [.slice (some ⟨x1, xo1, none⟩) x.dims.length 0, .slice (some ⟨x2, xo2, none⟩) x.maps.length 0]) rfl rfl
      have L := S.le
      replace Lh := Lh.trans L
      replace hxx := R8.le _ _ _ _ L hxx
      replace ra := RII.le _ _ _ _ L ra
      replace r1 := RI.le _ _ _ _ L r1
      replace r2 := RI.le _ _ _ _ L r2
      replace rs := RII.le _ _ _ _ L rs
      replace qx := qx.le L
      have e_b22 := S.at_ 0 rfl
      clear S L
      rcases dual_key x with ey | ⟨y0, ey, A, B, eA, eB, lA, lB, hx1, hx6, hAB⟩
      · have mi := dualWI_c _ _ x ⟨_, _, rfl, qx⟩
        simp only [ey] at mi
        refine LoadX.same (v := .agg #[.slice (some ⟨x1, xo1, none⟩) x.dims.length 0, .slice (some ⟨x2, xo2, none⟩) x.maps.length 0]) e_b22 rfl ?_
        refine CallX.madeCW mi fun d1 do1 d2 do2 g L qd => ?_
        replace Lh := Lh.trans L
        replace hxx := R8.le _ _ _ _ L hxx
        replace ra := RII.le _ _ _ _ L ra
        replace r1 := RI.le _ _ _ _ L r1
        replace r2 := RI.le _ _ _ _ L r2
        replace rs := RII.le _ _ _ _ L rs
        replace qx := qx.le L
        replace e_b22 := L.at_ _ _ e_b22
        have S := Sep.start g
        refine S.new fun b23 g S => ?_
        refine S.put 0 rfl fun g S => ?_
        have S := S.recast 0 (cells' := [.slice (some ⟨d1, do1, none⟩) ([] : List Int).length 0, .slice (some ⟨d2, do2, none⟩) ([] : List (List (List Int))).length 0]) rfl rfl
        have L := S.le
        replace Lh := Lh.trans L
        replace hxx := R8.le _ _ _ _ L hxx
        replace ra := RII.le _ _ _ _ L ra
        replace r1 := RI.le _ _ _ _ L r1
        replace r2 := RI.le _ _ _ _ L r2
        replace rs := RII.le _ _ _ _ L rs
        replace qx := qx.le L
        replace e_b22 := L.at_ _ _ e_b22
        replace qd := qd.le L
        have e_b23 := S.at_ 0 rfl
        clear S L
        have mi := dualWS_c _ _ x ⟨_, _, rfl, qx⟩
        simp only [ey] at mi
        refine LoadX.same (v := .agg #[.slice (some ⟨x1, xo1, none⟩) x.dims.length 0, .slice (some ⟨x2, xo2, none⟩) x.maps.length 0]) e_b22 rfl ?_
        refine CallX.madeCW mi fun c1 co1 c2 co2 g L qc => ?_
        replace Lh := Lh.trans L
        replace hxx := R8.le _ _ _ _ L hxx
        replace ra := RII.le _ _ _ _ L ra
        replace r1 := RI.le _ _ _ _ L r1
        replace r2 := RI.le _ _ _ _ L r2
        replace rs := RII.le _ _ _ _ L rs
        replace qx := qx.le L
        replace e_b22 := L.at_ _ _ e_b22
        replace qd := qd.le L
        replace e_b23 := L.at_ _ _ e_b23
        have S := Sep.start g
        refine S.new fun b25 g S => ?_
        refine S.put 0 rfl fun g S => ?_
        have S := S.recast 0 (cells' := [.slice (some ⟨c1, co1, none⟩) ([] : List Int).length 0, .slice (some ⟨c2, co2, none⟩) ([] : List (List (List Int))).length 0]) rfl rfl
        have L := S.le
        replace Lh := Lh.trans L
        replace hxx := R8.le _ _ _ _ L hxx
        replace ra := RII.le _ _ _ _ L ra
        replace r1 := RI.le _ _ _ _ L r1
        replace r2 := RI.le _ _ _ _ L r2
        replace rs := RII.le _ _ _ _ L rs
        replace qx := qx.le L
        replace e_b22 := L.at_ _ _ e_b22
        replace qd := qd.le L
        replace e_b23 := L.at_ _ _ e_b23
        replace qc := qc.le L
        have e_b25 := S.at_ 0 rfl
        clear S L
        refine DrawX.of Tt.tab follows_any [] [] [0, 1, 2, 3, 4, 5, 6, 7, 8, 9, 10, 11, 12, 13, 14, 15, 16, 17, 18, 19, 20, 21, 22, 23, 24, 25] rfl (by kernel_rfl) (by kernel_rfl) ?_
        repeat (first | refine BIf.no rfl ?_ | refine BIf.yes rfl ?_ | refine BIf.no (ne_selfI _) ?_ | refine BIf.no (ne_selfB _) ?_ | refine BIf.yes (eq_selfI _) ?_ | refine BIf.yes (eq_selfB _) ?_)
        refine LoadX.same e_b23 rfl ?_
        refine LoadX.same e_b25 rfl ?_
        refine QCall.of (fun g2 hl => likeInts_c g2 _ _ _ _ (RI.le _ _ _ _ hl qd.1) (RI.le _ _ _ _ hl qc.1) rfl) rfl ?_
        repeat (first | refine BIf.no rfl ?_ | refine BIf.yes rfl ?_ | refine BIf.no (ne_selfI _) ?_ | refine BIf.no (ne_selfB _) ?_ | refine BIf.yes (eq_selfI _) ?_ | refine BIf.yes (eq_selfB _) ?_)
        refine LoadX.same e_b23 rfl ?_
        refine LoadX.same e_b25 rfl ?_
        refine QCall.of (fun g2 hl => maps5_c g2 _ _ _ _ (RIII.le _ _ _ _ hl qd.2) (RIII.le _ _ _ _ hl qc.2) rfl) rfl ?_
        repeat (first | refine BIf.no rfl ?_ | refine BIf.yes rfl ?_ | refine BIf.no (ne_selfI _) ?_ | refine BIf.no (ne_selfB _) ?_ | refine BIf.yes (eq_selfI _) ?_ | refine BIf.yes (eq_selfB _) ?_)
        refine LoadX.same (v := .agg #[.slice (some ⟨x1, xo1, none⟩) x.dims.length 0, .slice (some ⟨x2, xo2, none⟩) x.maps.length 0]) e_b22 rfl ?_
        refine QCall.of (fun g2 hl => isWholeI_c g2 _ x ⟨_, _, rfl, qx.le hl⟩) rfl ?_
        refine LoadX.same (v := .agg #[.slice (some ⟨x1, xo1, none⟩) x.dims.length 0, .slice (some ⟨x2, xo2, none⟩) x.maps.length 0]) e_b22 rfl ?_
        refine QCall.of (fun g2 hl => isWholeS_c g2 _ x ⟨_, _, rfl, qx.le hl⟩) rfl ?_
        repeat (first | refine BIf.no rfl ?_ | refine BIf.yes rfl ?_ | refine BIf.no (ne_selfI _) ?_ | refine BIf.no (ne_selfB _) ?_ | refine BIf.yes (eq_selfI _) ?_ | refine BIf.yes (eq_selfB _) ?_)
        refine CallX.drawnW (drawWholeH_c _ _ xs hxx hb) fun y y1 yo1 y2 yo2 g L qy => ?_
        replace Lh := Lh.trans L
        replace hxx := R8.le _ _ _ _ L hxx
        replace ra := RII.le _ _ _ _ L ra
        replace r1 := RI.le _ _ _ _ L r1
        replace r2 := RI.le _ _ _ _ L r2
        replace rs := RII.le _ _ _ _ L rs
        replace qx := qx.le L
        replace e_b22 := L.at_ _ _ e_b22
        replace qd := qd.le L
        replace e_b23 := L.at_ _ _ e_b23
        replace qc := qc.le L
        replace e_b25 := L.at_ _ _ e_b25
        have S := Sep.start g
        refine S.new fun b33 g S => ?_
        refine S.put 0 rfl fun g S => ?_
        have S := S.recast 0 (cells' := [.slice (some ⟨y1, yo1, none⟩) y.dims.length 0, .slice (some ⟨y2, yo2, none⟩) y.maps.length 0]) rfl rfl
        have L := S.le
        replace Lh := Lh.trans L
        replace hxx := R8.le _ _ _ _ L hxx
        replace ra := RII.le _ _ _ _ L ra
        replace r1 := RI.le _ _ _ _ L r1
        replace r2 := RI.le _ _ _ _ L r2
        replace rs := RII.le _ _ _ _ L rs
        replace qx := qx.le L
        replace e_b22 := L.at_ _ _ e_b22
        replace qd := qd.le L
        replace e_b23 := L.at_ _ _ e_b23
        replace qc := qc.le L
        replace e_b25 := L.at_ _ _ e_b25
        replace qy := qy.le L
        have e_b33 := S.at_ 0 rfl
        clear S L
        obtain ⟨HA, ch, eh⟩ := wholeH_key y
        refine LoadX.same (v := .agg #[.slice (some ⟨y1, yo1, none⟩) y.dims.length 0, .slice (some ⟨y2, yo2, none⟩) y.maps.length 0]) e_b33 rfl ?_
        have mi := wholeHI_c _ _ y ⟨_, _, rfl, qy⟩
        simp only [eh] at mi
        refine CallX.madeCT mi fun h1 p1 g L t1 => ?_
        replace Lh := Lh.trans L
        replace hxx := R8.le _ _ _ _ L hxx
        replace ra := RII.le _ _ _ _ L ra
        replace r1 := RI.le _ _ _ _ L r1
        replace r2 := RI.le _ _ _ _ L r2
        replace rs := RII.le _ _ _ _ L rs
        replace qx := qx.le L
        replace e_b22 := L.at_ _ _ e_b22
        replace qd := qd.le L
        replace e_b23 := L.at_ _ _ e_b23
        replace qc := qc.le L
        replace e_b25 := L.at_ _ _ e_b25
        replace qy := qy.le L
        replace e_b33 := L.at_ _ _ e_b33
        refine LoadX.same (v := .agg #[.slice (some ⟨y1, yo1, none⟩) y.dims.length 0, .slice (some ⟨y2, yo2, none⟩) y.maps.length 0]) e_b33 rfl ?_
        have mi := wholeHS_c _ _ y ⟨_, _, rfl, qy⟩
        simp only [eh] at mi
        refine CallX.madeCT mi fun h2 p2 g L t2 => ?_
        replace Lh := Lh.trans L
        replace hxx := R8.le _ _ _ _ L hxx
        replace ra := RII.le _ _ _ _ L ra
        replace r1 := RI.le _ _ _ _ L r1
        replace r2 := RI.le _ _ _ _ L r2
        replace rs := RII.le _ _ _ _ L rs
        replace qx := qx.le L
        replace e_b22 := L.at_ _ _ e_b22
        replace qd := qd.le L
        replace e_b23 := L.at_ _ _ e_b23
        replace qc := qc.le L
        replace e_b25 := L.at_ _ _ e_b25
        replace qy := qy.le L
        replace e_b33 := L.at_ _ _ e_b33
        replace t1 := RT.le _ _ _ _ L t1
        refine CallX.same (drawLens_c _ _ xs hxx hb) ?_
        rintro r g ⟨ln, lk, rfl, L⟩
        replace Lh := Lh.trans L
        replace hxx := R8.le _ _ _ _ L hxx
        replace ra := RII.le _ _ _ _ L ra
        replace r1 := RI.le _ _ _ _ L r1
        replace r2 := RI.le _ _ _ _ L r2
        replace rs := RII.le _ _ _ _ L rs
        replace qx := qx.le L
        replace e_b22 := L.at_ _ _ e_b22
        replace qd := qd.le L
        replace e_b23 := L.at_ _ _ e_b23
        replace qc := qc.le L
        replace e_b25 := L.at_ _ _ e_b25
        replace qy := qy.le L
        replace e_b33 := L.at_ _ _ e_b33
        replace t1 := RT.le _ _ _ _ L t1
        replace t2 := RT.le _ _ _ _ L t2
        refine CallX.madeCW (lensI_c _ ln lk) fun l1 lo1 l2 lo2 g L q1 => ?_
        replace Lh := Lh.trans L
        replace hxx := R8.le _ _ _ _ L hxx
        replace ra := RII.le _ _ _ _ L ra
        replace r1 := RI.le _ _ _ _ L r1
        replace r2 := RI.le _ _ _ _ L r2
        replace rs := RII.le _ _ _ _ L rs
        replace qx := qx.le L
        replace e_b22 := L.at_ _ _ e_b22
        replace qd := qd.le L
        replace e_b23 := L.at_ _ _ e_b23
        replace qc := qc.le L
        replace e_b25 := L.at_ _ _ e_b25
        replace qy := qy.le L
        replace e_b33 := L.at_ _ _ e_b33
        replace t1 := RT.le _ _ _ _ L t1
        replace t2 := RT.le _ _ _ _ L t2
        have S := Sep.start g
        refine S.new fun b40 g S => ?_
        refine S.put 0 rfl fun g S => ?_
        have S := S.recast 0 (cells' := [.slice (some ⟨l1, lo1, none⟩) (lens ln lk).1.dims.length 0, .slice (some ⟨l2, lo2, none⟩) (lens ln lk).1.maps.length 0]) rfl rfl
        have L := S.le
        replace Lh := Lh.trans L
        replace hxx := R8.le _ _ _ _ L hxx
        replace ra := RII.le _ _ _ _ L ra
        replace r1 := RI.le _ _ _ _ L r1
        replace r2 := RI.le _ _ _ _ L r2
        replace rs := RII.le _ _ _ _ L rs
        replace qx := qx.le L
        replace e_b22 := L.at_ _ _ e_b22
        replace qd := qd.le L
        replace e_b23 := L.at_ _ _ e_b23
        replace qc := qc.le L
        replace e_b25 := L.at_ _ _ e_b25
        replace qy := qy.le L
        replace e_b33 := L.at_ _ _ e_b33
        replace t1 := RT.le _ _ _ _ L t1
        replace t2 := RT.le _ _ _ _ L t2
        replace q1 := q1.le L
        have e_b40 := S.at_ 0 rfl
        clear S L
        refine CallX.madeCW (lensS_c _ ln lk) fun m1 mo1 m2 mo2 g L q2 => ?_
        replace Lh := Lh.trans L
        replace hxx := R8.le _ _ _ _ L hxx
        replace ra := RII.le _ _ _ _ L ra
        replace r1 := RI.le _ _ _ _ L r1
        replace r2 := RI.le _ _ _ _ L r2
        replace rs := RII.le _ _ _ _ L rs
        replace qx := qx.le L
        replace e_b22 := L.at_ _ _ e_b22
        replace qd := qd.le L
        replace e_b23 := L.at_ _ _ e_b23
        replace qc := qc.le L
        replace e_b25 := L.at_ _ _ e_b25
        replace qy := qy.le L
        replace e_b33 := L.at_ _ _ e_b33
        replace t1 := RT.le _ _ _ _ L t1
        replace t2 := RT.le _ _ _ _ L t2
        replace q1 := q1.le L
        replace e_b40 := L.at_ _ _ e_b40
        have S := Sep.start g
        refine S.new fun b42 g S => ?_
        refine S.put 0 rfl fun g S => ?_
        have S := S.recast 0 (cells' := [.slice (some ⟨m1, mo1, none⟩) (lens ln lk).1.dims.length 0, .slice (some ⟨m2, mo2, none⟩) (lens ln lk).1.maps.length 0]) rfl rfl
        have L := S.le
        replace Lh := Lh.trans L
        replace hxx := R8.le _ _ _ _ L hxx
        replace ra := RII.le _ _ _ _ L ra
        replace r1 := RI.le _ _ _ _ L r1
        replace r2 := RI.le _ _ _ _ L r2
        replace rs := RII.le _ _ _ _ L rs
        replace qx := qx.le L
        replace e_b22 := L.at_ _ _ e_b22
        replace qd := qd.le L
        replace e_b23 := L.at_ _ _ e_b23
        replace qc := qc.le L
        replace e_b25 := L.at_ _ _ e_b25
        replace qy := qy.le L
        replace e_b33 := L.at_ _ _ e_b33
        replace t1 := RT.le _ _ _ _ L t1
        replace t2 := RT.le _ _ _ _ L t2
        replace q1 := q1.le L
        replace e_b40 := L.at_ _ _ e_b40
        replace q2 := q2.le L
        have e_b42 := S.at_ 0 rfl
        clear S L
        refine BIf.yes (by simp) ?_
        refine CallX.same (torsions5_c _ _ _ _ _ t1 t2 rfl) ?_
        rintro r g ⟨rfl, rfl⟩
        repeat (first | refine BIf.yes rfl ?_ | refine BIf.yes (eq_selfI _) ?_ | refine BIf.yes (eq_selfB _) ?_)
        refine LoadX.same e_b40 rfl ?_
        refine LoadX.same e_b42 rfl ?_
        refine CallX.same (likeInts_c _ _ _ _ _ q1.1 q2.1 rfl) ?_
        rintro r g ⟨rfl, rfl⟩
        repeat (first | refine BIf.yes rfl ?_ | refine BIf.yes (eq_selfI _) ?_ | refine BIf.yes (eq_selfB _) ?_)
        refine LoadX.same e_b40 rfl ?_
        refine LoadX.same e_b42 rfl ?_
        refine CallX.same (maps5_c _ _ _ _ _ q1.2 q2.2 rfl) ?_
        rintro r g ⟨rfl, rfl⟩
        repeat (first | refine BIf.yes rfl ?_ | refine BIf.yes (eq_selfI _) ?_ | refine BIf.yes (eq_selfB _) ?_)
        exact FinX.keep hw Lh rfl ⟨rfl, rfl⟩
      · have mi := dualWI_c _ _ x ⟨_, _, rfl, qx⟩
        simp only [ey] at mi
        refine LoadX.same (v := .agg #[.slice (some ⟨x1, xo1, none⟩) x.dims.length 0, .slice (some ⟨x2, xo2, none⟩) x.maps.length 0]) e_b22 rfl ?_
        refine CallX.madeCW mi fun d1 do1 d2 do2 g L qd => ?_
        replace Lh := Lh.trans L
        replace hxx := R8.le _ _ _ _ L hxx
        replace ra := RII.le _ _ _ _ L ra
        replace r1 := RI.le _ _ _ _ L r1
        replace r2 := RI.le _ _ _ _ L r2
        replace rs := RII.le _ _ _ _ L rs
        replace qx := qx.le L
        replace e_b22 := L.at_ _ _ e_b22
        have S := Sep.start g
        refine S.new fun b23 g S => ?_
        refine S.put 0 rfl fun g S => ?_
        have S := S.recast 0 (cells' := [.slice (some ⟨d1, do1, none⟩) y0.dims.length 0, .slice (some ⟨d2, do2, none⟩) y0.maps.length 0]) rfl rfl
        have L := S.le
        replace Lh := Lh.trans L
        replace hxx := R8.le _ _ _ _ L hxx
        replace ra := RII.le _ _ _ _ L ra
        replace r1 := RI.le _ _ _ _ L r1
        replace r2 := RI.le _ _ _ _ L r2
        replace rs := RII.le _ _ _ _ L rs
        replace qx := qx.le L
        replace e_b22 := L.at_ _ _ e_b22
        replace qd := qd.le L
        have e_b23 := S.at_ 0 rfl
        clear S L
        have mi := dualWS_c _ _ x ⟨_, _, rfl, qx⟩
        simp only [ey] at mi
        refine LoadX.same (v := .agg #[.slice (some ⟨x1, xo1, none⟩) x.dims.length 0, .slice (some ⟨x2, xo2, none⟩) x.maps.length 0]) e_b22 rfl ?_
        refine CallX.madeCW mi fun c1 co1 c2 co2 g L qc => ?_
        replace Lh := Lh.trans L
        replace hxx := R8.le _ _ _ _ L hxx
        replace ra := RII.le _ _ _ _ L ra
        replace r1 := RI.le _ _ _ _ L r1
        replace r2 := RI.le _ _ _ _ L r2
        replace rs := RII.le _ _ _ _ L rs
        replace qx := qx.le L
        replace e_b22 := L.at_ _ _ e_b22
        replace qd := qd.le L
        replace e_b23 := L.at_ _ _ e_b23
        have S := Sep.start g
        refine S.new fun b25 g S => ?_
        refine S.put 0 rfl fun g S => ?_
        have S := S.recast 0 (cells' := [.slice (some ⟨c1, co1, none⟩) y0.dims.length 0, .slice (some ⟨c2, co2, none⟩) y0.maps.length 0]) rfl rfl
        have L := S.le
        replace Lh := Lh.trans L
        replace hxx := R8.le _ _ _ _ L hxx
        replace ra := RII.le _ _ _ _ L ra
        replace r1 := RI.le _ _ _ _ L r1
        replace r2 := RI.le _ _ _ _ L r2
        replace rs := RII.le _ _ _ _ L rs
        replace qx := qx.le L
        replace e_b22 := L.at_ _ _ e_b22
        replace qd := qd.le L
        replace e_b23 := L.at_ _ _ e_b23
        replace qc := qc.le L
        have e_b25 := S.at_ 0 rfl
        clear S L
        refine DrawX.of Tt.tab follows_any [] [] [0, 1, 2, 3, 4, 5, 6, 7, 8, 9, 10, 11, 12, 13, 14, 15, 16, 17, 18, 19, 20, 21, 22, 23, 24, 25] rfl (by kernel_rfl) (by kernel_rfl) ?_
        repeat (first | refine BIf.no rfl ?_ | refine BIf.yes rfl ?_ | refine BIf.no (ne_selfI _) ?_ | refine BIf.no (ne_selfB _) ?_ | refine BIf.yes (eq_selfI _) ?_ | refine BIf.yes (eq_selfB _) ?_)
        refine LoadX.same e_b23 rfl ?_
        refine LoadX.same e_b25 rfl ?_
        refine QCall.of (fun g2 hl => likeInts_c g2 _ _ _ _ (RI.le _ _ _ _ hl qd.1) (RI.le _ _ _ _ hl qc.1) rfl) rfl ?_
        repeat (first | refine BIf.no rfl ?_ | refine BIf.yes rfl ?_ | refine BIf.no (ne_selfI _) ?_ | refine BIf.no (ne_selfB _) ?_ | refine BIf.yes (eq_selfI _) ?_ | refine BIf.yes (eq_selfB _) ?_)
        refine LoadX.same e_b23 rfl ?_
        refine LoadX.same e_b25 rfl ?_
        refine QCall.of (fun g2 hl => maps5_c g2 _ _ _ _ (RIII.le _ _ _ _ hl qd.2) (RIII.le _ _ _ _ hl qc.2) rfl) rfl ?_
        repeat (first | refine BIf.no rfl ?_ | refine BIf.yes rfl ?_ | refine BIf.no (ne_selfI _) ?_ | refine BIf.no (ne_selfB _) ?_ | refine BIf.yes (eq_selfI _) ?_ | refine BIf.yes (eq_selfB _) ?_)
        refine LoadX.same (v := .agg #[.slice (some ⟨x1, xo1, none⟩) x.dims.length 0, .slice (some ⟨x2, xo2, none⟩) x.maps.length 0]) e_b22 rfl ?_
        refine QCall.of (fun g2 hl => isWholeI_c g2 _ x ⟨_, _, rfl, qx.le hl⟩) rfl ?_
        refine LoadX.same (v := .agg #[.slice (some ⟨x1, xo1, none⟩) x.dims.length 0, .slice (some ⟨x2, xo2, none⟩) x.maps.length 0]) e_b22 rfl ?_
        refine QCall.of (fun g2 hl => isWholeS_c g2 _ x ⟨_, _, rfl, qx.le hl⟩) rfl ?_
        repeat (first | refine BIf.no rfl ?_ | refine BIf.yes rfl ?_ | refine BIf.no (ne_selfI _) ?_ | refine BIf.no (ne_selfB _) ?_ | refine BIf.yes (eq_selfI _) ?_ | refine BIf.yes (eq_selfB _) ?_)
        refine LoadX.same (v := .agg #[.slice (some ⟨x1, xo1, none⟩) x.dims.length 0, .slice (some ⟨x2, xo2, none⟩) x.maps.length 0]) e_b22 rfl ?_
        have mi := wholeHI_c _ _ x ⟨_, _, rfl, qx⟩
        simp only [eA] at mi
        refine CallX.madeCT mi fun a1 ao1 g L tA => ?_
        replace Lh := Lh.trans L
        replace hxx := R8.le _ _ _ _ L hxx
        replace ra := RII.le _ _ _ _ L ra
        replace r1 := RI.le _ _ _ _ L r1
        replace r2 := RI.le _ _ _ _ L r2
        replace rs := RII.le _ _ _ _ L rs
        replace qx := qx.le L
        replace e_b22 := L.at_ _ _ e_b22
        replace qd := qd.le L
        replace e_b23 := L.at_ _ _ e_b23
        replace qc := qc.le L
        replace e_b25 := L.at_ _ _ e_b25
        refine LoadX.same (v := .agg #[.slice (some ⟨d1, do1, none⟩) y0.dims.length 0, .slice (some ⟨d2, do2, none⟩) y0.maps.length 0]) e_b23 rfl ?_
        have mi := wholeHI_c _ _ y0 ⟨_, _, rfl, qd⟩
        simp only [eB] at mi
        refine CallX.madeCT mi fun a2 ao2 g L tB => ?_
        replace Lh := Lh.trans L
        replace hxx := R8.le _ _ _ _ L hxx
        replace ra := RII.le _ _ _ _ L ra
        replace r1 := RI.le _ _ _ _ L r1
        replace r2 := RI.le _ _ _ _ L r2
        replace rs := RII.le _ _ _ _ L rs
        replace qx := qx.le L
        replace e_b22 := L.at_ _ _ e_b22
        replace qd := qd.le L
        replace e_b23 := L.at_ _ _ e_b23
        replace qc := qc.le L
        replace e_b25 := L.at_ _ _ e_b25
        replace tA := RT.le _ _ _ _ L tA
        have cA := RN.cells tA rfl
        have cB := RN.cells tB rfl
        repeat (first | refine BIf.no rfl ?_ | refine BIf.yes rfl ?_ | refine BIf.no (ne_selfI _) ?_ | refine BIf.no (ne_selfB _) ?_ | refine BIf.yes (eq_selfI _) ?_ | refine BIf.yes (eq_selfB _) ?_)
        refine BIf.no (by rw [lA, lB]; exact ne_selfI _) ?_
        repeat (first | refine BIf.no rfl ?_ | refine BIf.yes rfl ?_ | refine BIf.no (ne_selfI _) ?_ | refine BIf.no (ne_selfB _) ?_ | refine BIf.yes (eq_selfI _) ?_ | refine BIf.yes (eq_selfB _) ?_)
        refine WR.as (r := ((x.dims.length - 1 : Nat) : Int)) (by omega) ?_
        refine ⟨⟨[0, 27, 29, 31, 32], fun n' vs g2 => ∃ i : Nat, n' = x.dims.length - i ∧ i ≤ x.dims.length ∧ g2 = g ∧ vs = [.slice (some ⟨bc, oc, none⟩) xs.length 0, .slice (some ⟨a1, ao1, none⟩) A.length 0, .slice (some ⟨a2, ao2, none⟩) B.length 0, .int .i64 (x.dims.length - 1 : Nat), .int .i64 i], _, ⟨0, rfl, Nat.zero_le _, rfl, rfl⟩, ?_⟩⟩
        rintro n' vs g2 ⟨i, rfl, hi, rfl, rfl⟩
        refine BIf.mk (fun c3 => ?_) (fun c3 => ?_)
        · have c3 : i < x.dims.length := by simp at c3; omega
          obtain ⟨k1, k2⟩ := hAB i c3
          refine DrawX.of Tt.tab follows_any [] [] [0, 1, 2, 3, 4, 5, 6, 7, 8, 9, 10, 11, 12, 13, 14, 15, 16, 17, 18, 19, 20, 21, 22, 23, 24, 25, 26, 27, 28, 29, 30, 31, 32, 33, 34] rfl (by kernel_rfl) (by kernel_rfl) ?_
          refine IdxX.mk (by omega) (by omega) ?_
          refine CT.free (k := i) cA (Le.refl _) (by omega) ?_
          refine WR.as (r := ((x.dims.length - 1 - i : Nat) : Int)) (by omega) ?_
          refine IdxX.mk (by omega) (by omega) ?_
          refine CT.free (k := x.dims.length - 1 - i) cB (Le.refl _) (by omega) ?_
          refine BIf.no (by rw [k1]; simp) ?_
          refine BIf.mk (fun c4 => ?_) (fun c4 => ?_)
          · have c4 : i + 1 < x.dims.length := by simp at c4; omega
            refine IdxX.mk (by omega) (by omega) ?_
            refine CT.parts (k := i) cA (Le.refl _) (by omega) fun p1 po1 rp1 => ?_
            refine WR.i64 ?_
            refine WR.as (r := ((x.dims.length - 1 - 1 - i : Nat) : Int)) (by omega) ?_
            refine IdxX.mk (by omega) (by omega) ?_
            refine CT.parts (k := x.dims.length - 1 - 1 - i) cB (Le.refl _) (by omega) fun p2 po2 rp2 => ?_
            refine QCall.of (fun g2 hl => likeInts_c g2 _ _ _ _ (RI.le _ _ _ _ hl rp1) (RI.le _ _ _ _ hl rp2) (k2 c4)) rfl ?_
            repeat (first | refine BIf.no rfl ?_ | refine BIf.yes rfl ?_ | refine BIf.no (ne_selfI _) ?_ | refine BIf.no (ne_selfB _) ?_ | refine BIf.yes (eq_selfI _) ?_ | refine BIf.yes (eq_selfB _) ?_)
            refine WR.as (r := ((i + 1 : Nat) : Int)) (by omega) ?_
            exact ⟨x.dims.length - (i + 1), by omega, i + 1, rfl, c3, rfl, rfl⟩
          · repeat (first | refine BIf.no rfl ?_ | refine BIf.yes rfl ?_ | refine BIf.no (ne_selfI _) ?_ | refine BIf.no (ne_selfB _) ?_ | refine BIf.yes (eq_selfI _) ?_ | refine BIf.yes (eq_selfB _) ?_)
            refine WR.as (r := ((i + 1 : Nat) : Int)) (by omega) ?_
            exact ⟨x.dims.length - (i + 1), by omega, i + 1, rfl, c3, rfl, rfl⟩
        refine CallX.drawnW (drawWholeH_c _ _ xs hxx hb) fun y y1 yo1 y2 yo2 g L qy => ?_
        replace Lh := Lh.trans L
        replace hxx := R8.le _ _ _ _ L hxx
        replace ra := RII.le _ _ _ _ L ra
        replace r1 := RI.le _ _ _ _ L r1
        replace r2 := RI.le _ _ _ _ L r2
        replace rs := RII.le _ _ _ _ L rs
        replace qx := qx.le L
        replace e_b22 := L.at_ _ _ e_b22
        replace qd := qd.le L
        replace e_b23 := L.at_ _ _ e_b23
        replace qc := qc.le L
        replace e_b25 := L.at_ _ _ e_b25
        replace tA := RT.le _ _ _ _ L tA
        replace tB := RT.le _ _ _ _ L tB
        have S := Sep.start g
        refine S.new fun b33 g S => ?_
        refine S.put 0 rfl fun g S => ?_
        have S := S.recast 0 (cells' := [.slice (some ⟨y1, yo1, none⟩) y.dims.length 0, .slice (some ⟨y2, yo2, none⟩) y.maps.length 0]) rfl rfl
        have L := S.le
        replace Lh := Lh.trans L
        replace hxx := R8.le _ _ _ _ L hxx
        replace ra := RII.le _ _ _ _ L ra
        replace r1 := RI.le _ _ _ _ L r1
        replace r2 := RI.le _ _ _ _ L r2
        replace rs := RII.le _ _ _ _ L rs
        replace qx := qx.le L
        replace e_b22 := L.at_ _ _ e_b22
        replace qd := qd.le L
        replace e_b23 := L.at_ _ _ e_b23
        replace qc := qc.le L
        replace e_b25 := L.at_ _ _ e_b25
        replace tA := RT.le _ _ _ _ L tA
        replace tB := RT.le _ _ _ _ L tB
        replace qy := qy.le L
        have e_b33 := S.at_ 0 rfl
        clear S L
        obtain ⟨HA, ch, eh⟩ := wholeH_key y
        refine LoadX.same (v := .agg #[.slice (some ⟨y1, yo1, none⟩) y.dims.length 0, .slice (some ⟨y2, yo2, none⟩) y.maps.length 0]) e_b33 rfl ?_
        have mi := wholeHI_c _ _ y ⟨_, _, rfl, qy⟩
        simp only [eh] at mi
        refine CallX.madeCT mi fun h1 p1 g L t1 => ?_
        replace Lh := Lh.trans L
        replace hxx := R8.le _ _ _ _ L hxx
        replace ra := RII.le _ _ _ _ L ra
        replace r1 := RI.le _ _ _ _ L r1
        replace r2 := RI.le _ _ _ _ L r2
        replace rs := RII.le _ _ _ _ L rs
        replace qx := qx.le L
        replace e_b22 := L.at_ _ _ e_b22
        replace qd := qd.le L
        replace e_b23 := L.at_ _ _ e_b23
        replace qc := qc.le L
        replace e_b25 := L.at_ _ _ e_b25
        replace tA := RT.le _ _ _ _ L tA
        replace tB := RT.le _ _ _ _ L tB
        replace qy := qy.le L
        replace e_b33 := L.at_ _ _ e_b33
        refine LoadX.same (v := .agg #[.slice (some ⟨y1, yo1, none⟩) y.dims.length 0, .slice (some ⟨y2, yo2, none⟩) y.maps.length 0]) e_b33 rfl ?_
        have mi := wholeHS_c _ _ y ⟨_, _, rfl, qy⟩
        simp only [eh] at mi
        refine CallX.madeCT mi fun h2 p2 g L t2 => ?_
        replace Lh := Lh.trans L
        replace hxx := R8.le _ _ _ _ L hxx
        replace ra := RII.le _ _ _ _ L ra
        replace r1 := RI.le _ _ _ _ L r1
        replace r2 := RI.le _ _ _ _ L r2
        replace rs := RII.le _ _ _ _ L rs
        replace qx := qx.le L
        replace e_b22 := L.at_ _ _ e_b22
        replace qd := qd.le L
        replace e_b23 := L.at_ _ _ e_b23
        replace qc := qc.le L
        replace e_b25 := L.at_ _ _ e_b25
        replace tA := RT.le _ _ _ _ L tA
        replace tB := RT.le _ _ _ _ L tB
        replace qy := qy.le L
        replace e_b33 := L.at_ _ _ e_b33
        replace t1 := RT.le _ _ _ _ L t1
        refine CallX.same (drawLens_c _ _ xs hxx hb) ?_
        rintro r g ⟨ln, lk, rfl, L⟩
        replace Lh := Lh.trans L
        replace hxx := R8.le _ _ _ _ L hxx
        replace ra := RII.le _ _ _ _ L ra
        replace r1 := RI.le _ _ _ _ L r1
        replace r2 := RI.le _ _ _ _ L r2
        replace rs := RII.le _ _ _ _ L rs
        replace qx := qx.le L
        replace e_b22 := L.at_ _ _ e_b22
        replace qd := qd.le L
        replace e_b23 := L.at_ _ _ e_b23
        replace qc := qc.le L
        replace e_b25 := L.at_ _ _ e_b25
        replace tA := RT.le _ _ _ _ L tA
        replace tB := RT.le _ _ _ _ L tB
        replace qy := qy.le L
        replace e_b33 := L.at_ _ _ e_b33
        replace t1 := RT.le _ _ _ _ L t1
        replace t2 := RT.le _ _ _ _ L t2
        refine CallX.madeCW (lensI_c _ ln lk) fun l1 lo1 l2 lo2 g L q1 => ?_
        replace Lh := Lh.trans L
        replace hxx := R8.le _ _ _ _ L hxx
        replace ra := RII.le _ _ _ _ L ra
        replace r1 := RI.le _ _ _ _ L r1
        replace r2 := RI.le _ _ _ _ L r2
        replace rs := RII.le _ _ _ _ L rs
        replace qx := qx.le L
        replace e_b22 := L.at_ _ _ e_b22
        replace qd := qd.le L
        replace e_b23 := L.at_ _ _ e_b23
        replace qc := qc.le L
        replace e_b25 := L.at_ _ _ e_b25
        replace tA := RT.le _ _ _ _ L tA
        replace tB := RT.le _ _ _ _ L tB
        replace qy := qy.le L
        replace e_b33 := L.at_ _ _ e_b33
        replace t1 := RT.le _ _ _ _ L t1
        replace t2 := RT.le _ _ _ _ L t2
        have S := Sep.start g
        refine S.new fun b40 g S => ?_
        refine S.put 0 rfl fun g S => ?_
        have S := S.recast 0 (cells' := [.slice (some ⟨l1, lo1, none⟩) (lens ln lk).1.dims.length 0, .slice (some ⟨l2, lo2, none⟩) (lens ln lk).1.maps.length 0]) rfl rfl
        have L := S.le
        replace Lh := Lh.trans L
        replace hxx := R8.le _ _ _ _ L hxx
        replace ra := RII.le _ _ _ _ L ra
        replace r1 := RI.le _ _ _ _ L r1
        replace r2 := RI.le _ _ _ _ L r2
        replace rs := RII.le _ _ _ _ L rs
        replace qx := qx.le L
        replace e_b22 := L.at_ _ _ e_b22
        replace qd := qd.le L
        replace e_b23 := L.at_ _ _ e_b23
        replace qc := qc.le L
        replace e_b25 := L.at_ _ _ e_b25
        replace tA := RT.le _ _ _ _ L tA
        replace tB := RT.le _ _ _ _ L tB
        replace qy := qy.le L
        replace e_b33 := L.at_ _ _ e_b33
        replace t1 := RT.le _ _ _ _ L t1
        replace t2 := RT.le _ _ _ _ L t2
        replace q1 := q1.le L
        have e_b40 := S.at_ 0 rfl
        clear S L
        refine CallX.madeCW (lensS_c _ ln lk) fun m1 mo1 m2 mo2 g L q2 => ?_
        replace Lh := Lh.trans L
        replace hxx := R8.le _ _ _ _ L hxx
        replace ra := RII.le _ _ _ _ L ra
        replace r1 := RI.le _ _ _ _ L r1
        replace r2 := RI.le _ _ _ _ L r2
        replace rs := RII.le _ _ _ _ L rs
        replace qx := qx.le L
        replace e_b22 := L.at_ _ _ e_b22
        replace qd := qd.le L
        replace e_b23 := L.at_ _ _ e_b23
        replace qc := qc.le L
        replace e_b25 := L.at_ _ _ e_b25
        replace tA := RT.le _ _ _ _ L tA
        replace tB := RT.le _ _ _ _ L tB
        replace qy := qy.le L
        replace e_b33 := L.at_ _ _ e_b33
        replace t1 := RT.le _ _ _ _ L t1
        replace t2 := RT.le _ _ _ _ L t2
        replace q1 := q1.le L
        replace e_b40 := L.at_ _ _ e_b40
        have S := Sep.start g
        refine S.new fun b42 g S => ?_
        refine S.put 0 rfl fun g S => ?_
        have S := S.recast 0 (cells' := [.slice (some ⟨m1, mo1, none⟩) (lens ln lk).1.dims.length 0, .slice (some ⟨m2, mo2, none⟩) (lens ln lk).1.maps.length 0]) rfl rfl
        have L := S.le
        replace Lh := Lh.trans L
        replace hxx := R8.le _ _ _ _ L hxx
        replace ra := RII.le _ _ _ _ L ra
        replace r1 := RI.le _ _ _ _ L r1
        replace r2 := RI.le _ _ _ _ L r2
        replace rs := RII.le _ _ _ _ L rs
        replace qx := qx.le L
        replace e_b22 := L.at_ _ _ e_b22
        replace qd := qd.le L
        replace e_b23 := L.at_ _ _ e_b23
        replace qc := qc.le L
        replace e_b25 := L.at_ _ _ e_b25
        replace tA := RT.le _ _ _ _ L tA
        replace tB := RT.le _ _ _ _ L tB
        replace qy := qy.le L
        replace e_b33 := L.at_ _ _ e_b33
        replace t1 := RT.le _ _ _ _ L t1
        replace t2 := RT.le _ _ _ _ L t2
        replace q1 := q1.le L
        replace e_b40 := L.at_ _ _ e_b40
        replace q2 := q2.le L
        have e_b42 := S.at_ 0 rfl
        clear S L
        refine BIf.yes (by simp) ?_
        refine CallX.same (torsions5_c _ _ _ _ _ t1 t2 rfl) ?_
        rintro r g ⟨rfl, rfl⟩
        repeat (first | refine BIf.yes rfl ?_ | refine BIf.yes (eq_selfI _) ?_ | refine BIf.yes (eq_selfB _) ?_)
        refine LoadX.same e_b40 rfl ?_
        refine LoadX.same e_b42 rfl ?_
        refine CallX.same (likeInts_c _ _ _ _ _ q1.1 q2.1 rfl) ?_
        rintro r g ⟨rfl, rfl⟩
        repeat (first | refine BIf.yes rfl ?_ | refine BIf.yes (eq_selfI _) ?_ | refine BIf.yes (eq_selfB _) ?_)
        refine LoadX.same e_b40 rfl ?_
        refine LoadX.same e_b42 rfl ?_
        refine CallX.same (maps5_c _ _ _ _ _ q1.2 q2.2 rfl) ?_
        rintro r g ⟨rfl, rfl⟩
        repeat (first | refine BIf.yes rfl ?_ | refine BIf.yes (eq_selfI _) ?_ | refine BIf.yes (eq_selfB _) ?_)
        exact FinX.keep hw Lh rfl ⟨rfl, rfl⟩
    · have mi := detOfI_c _ _ sq rs
      simp only [ed] at mi
      refine CallX.same mi ?_
      rintro r g ⟨rfl, rfl⟩
      have mi := detOfS_c _ _ sq rs
      simp only [ed] at mi
      refine CallX.same mi ?_
      rintro r g ⟨rfl, rfl⟩
      repeat (first | refine BIf.no rfl ?_ | refine BIf.yes rfl ?_ | refine BIf.no (ne_selfI _) ?_ | refine BIf.no (ne_selfB _) ?_ | refine BIf.yes (eq_selfI _) ?_ | refine BIf.yes (eq_selfB _) ?_)
      refine CallX.drawnW (drawDual_c _ _ xs hxx hb) fun x x1 xo1 x2 xo2 g L qx => ?_
      replace Lh := Lh.trans L
      replace hxx := R8.le _ _ _ _ L hxx
      replace ra := RII.le _ _ _ _ L ra
      replace r1 := RI.le _ _ _ _ L r1
      replace r2 := RI.le _ _ _ _ L r2
      replace rs := RII.le _ _ _ _ L rs
      have S := Sep.start g
      refine S.new fun b22 g S => ?_
      refine S.put 0 rfl fun g S => ?_
      have S := S.recast 0 (cells' := [.slice (some ⟨x1, xo1, none⟩) x.dims.length 0, .slice (some ⟨x2, xo2, none⟩) x.maps.length 0]) rfl rfl
      have L := S.le
      replace Lh := Lh.trans L
      replace hxx := R8.le _ _ _ _ L hxx
      replace ra := RII.le _ _ _ _ L ra
      replace r1 := RI.le _ _ _ _ L r1
      replace r2 := RI.le _ _ _ _ L r2
      replace rs := RII.le _ _ _ _ L rs
      replace qx := qx.le L
      have e_b22 := S.at_ 0 rfl
      clear S L
      rcases dual_key x with ey | ⟨y0, ey, A, B, eA, eB, lA, lB, hx1, hx6, hAB⟩
      · have mi := dualWI_c _ _ x ⟨_, _, rfl, qx⟩
        simp only [ey] at mi
        refine LoadX.same (v := .agg #[.slice (some ⟨x1, xo1, none⟩) x.dims.length 0, .slice (some ⟨x2, xo2, none⟩) x.maps.length 0]) e_b22 rfl ?_
        refine CallX.madeCW mi fun d1 do1 d2 do2 g L qd => ?_
        replace Lh := Lh.trans L
        replace hxx := R8.le _ _ _ _ L hxx
        replace ra := RII.le _ _ _ _ L ra
        replace r1 := RI.le _ _ _ _ L r1
        replace r2 := RI.le _ _ _ _ L r2
        replace rs := RII.le _ _ _ _ L rs
        replace qx := qx.le L
        replace e_b22 := L.at_ _ _ e_b22
        have S := Sep.start g
        refine S.new fun b23 g S => ?_
        refine S.put 0 rfl fun g S => ?_
        have S := S.recast 0 (cells' := [.slice (some ⟨d1, do1, none⟩) ([] : List Int).length 0, .slice (some ⟨d2, do2, none⟩) ([] : List (List (List Int))).length 0]) rfl rfl
        have L := S.le
        replace Lh := Lh.trans L
        replace hxx := R8.le _ _ _ _ L hxx
        replace ra := RII.le _ _ _ _ L ra
        replace r1 := RI.le _ _ _ _ L r1
        replace r2 := RI.le _ _ _ _ L r2
        replace rs := RII.le _ _ _ _ L rs
        replace qx := qx.le L
        replace e_b22 := L.at_ _ _ e_b22
        replace qd := qd.le L
        have e_b23 := S.at_ 0 rfl
        clear S L
        have mi := dualWS_c _ _ x ⟨_, _, rfl, qx⟩
        simp only [ey] at mi
        refine LoadX.same (v := .agg #[.slice (some ⟨x1, xo1, none⟩) x.dims.length 0, .slice (some ⟨x2, xo2, none⟩) x.maps.length 0]) e_b22 rfl ?_
        refine CallX.madeCW mi fun c1 co1 c2 co2 g L qc => ?_
        replace Lh := Lh.trans L
        replace hxx := R8.le _ _ _ _ L hxx
        replace ra := RII.le _ _ _ _ L ra
        replace r1 := RI.le _ _ _ _ L r1
        replace r2 := RI.le _ _ _ _ L r2
        replace rs := RII.le _ _ _ _ L rs
        replace qx := qx.le L
        replace e_b22 := L.at_ _ _ e_b22
        replace qd := qd.le L
        replace e_b23 := L.at_ _ _ e_b23
        have S := Sep.start g
        refine S.new fun b25 g S => ?_
        refine S.put 0 rfl fun g S => ?_
        have S := S.recast 0 (cells' := [.slice (some ⟨c1, co1, none⟩) ([] : List Int).length 0, .slice (some ⟨c2, co2, none⟩) ([] : List (List (List Int))).length 0]) rfl rfl
        have L := S.le
        replace Lh := Lh.trans L
        replace hxx := R8.le _ _ _ _ L hxx
        replace ra := RII.le _ _ _ _ L ra
        replace r1 := RI.le _ _ _ _ L r1
        replace r2 := RI.le _ _ _ _ L r2
        replace rs := RII.le _ _ _ _ L rs
        replace qx := qx.le L
        replace e_b22 := L.at_ _ _ e_b22
        replace qd := qd.le L
        replace e_b23 := L.at_ _ _ e_b23
        replace qc := qc.le L
        have e_b25 := S.at_ 0 rfl
        clear S L
        refine DrawX.of Tt.tab follows_any [] [] [0, 1, 2, 3, 4, 5, 6, 7, 8, 9, 10, 11, 12, 13, 14, 15, 16, 17, 18, 19, 20, 21, 22, 23, 24, 25] rfl (by kernel_rfl) (by kernel_rfl) ?_
        repeat (first | refine BIf.no rfl ?_ | refine BIf.yes rfl ?_ | refine BIf.no (ne_selfI _) ?_ | refine BIf.no (ne_selfB _) ?_ | refine BIf.yes (eq_selfI _) ?_ | refine BIf.yes (eq_selfB _) ?_)
        refine LoadX.same e_b23 rfl ?_
        refine LoadX.same e_b25 rfl ?_
        refine QCall.of (fun g2 hl => likeInts_c g2 _ _ _ _ (RI.le _ _ _ _ hl qd.1) (RI.le _ _ _ _ hl qc.1) rfl) rfl ?_
        repeat (first | refine BIf.no rfl ?_ | refine BIf.yes rfl ?_ | refine BIf.no (ne_selfI _) ?_ | refine BIf.no (ne_selfB _) ?_ | refine BIf.yes (eq_selfI _) ?_ | refine BIf.yes (eq_selfB _) ?_)
        refine LoadX.same e_b23 rfl ?_
        refine LoadX.same e_b25 rfl ?_
        refine QCall.of (fun g2 hl => maps5_c g2 _ _ _ _ (RIII.le _ _ _ _ hl qd.2) (RIII.le _ _ _ _ hl qc.2) rfl) rfl ?_
        repeat (first | refine BIf.no rfl ?_ | refine BIf.yes rfl ?_ | refine BIf.no (ne_selfI _) ?_ | refine BIf.no (ne_selfB _) ?_ | refine BIf.yes (eq_selfI _) ?_ | refine BIf.yes (eq_selfB _) ?_)
        refine LoadX.same (v := .agg #[.slice (some ⟨x1, xo1, none⟩) x.dims.length 0, .slice (some ⟨x2, xo2, none⟩) x.maps.length 0]) e_b22 rfl ?_
        refine QCall.of (fun g2 hl => isWholeI_c g2 _ x ⟨_, _, rfl, qx.le hl⟩) rfl ?_
        refine LoadX.same (v := .agg #[.slice (some ⟨x1, xo1, none⟩) x.dims.length 0, .slice (some ⟨x2, xo2, none⟩) x.maps.length 0]) e_b22 rfl ?_
        refine QCall.of (fun g2 hl => isWholeS_c g2 _ x ⟨_, _, rfl, qx.le hl⟩) rfl ?_
        repeat (first | refine BIf.no rfl ?_ | refine BIf.yes rfl ?_ | refine BIf.no (ne_selfI _) ?_ | refine BIf.no (ne_selfB _) ?_ | refine BIf.yes (eq_selfI _) ?_ | refine BIf.yes (eq_selfB _) ?_)
        refine CallX.drawnW (drawWholeH_c _ _ xs hxx hb) fun y y1 yo1 y2 yo2 g L qy => ?_
        replace Lh := Lh.trans L
        replace hxx := R8.le _ _ _ _ L hxx
        replace ra := RII.le _ _ _ _ L ra
        replace r1 := RI.le _ _ _ _ L r1
        replace r2 := RI.le _ _ _ _ L r2
        replace rs := RII.le _ _ _ _ L rs
        replace qx := qx.le L
        replace e_b22 := L.at_ _ _ e_b22
        replace qd := qd.le L
        replace e_b23 := L.at_ _ _ e_b23
        replace qc := qc.le L
        replace e_b25 := L.at_ _ _ e_b25
        have S := Sep.start g
        refine S.new fun b33 g S => ?_
        refine S.put 0 rfl fun g S => ?_
        have S := S.recast 0 (cells' := [.slice (some ⟨y1, yo1, none⟩) y.dims.length 0, .slice (some ⟨y2, yo2, none⟩) y.maps.length 0]) rfl rfl
        have L := S.le
        replace Lh := Lh.trans L
        replace hxx := R8.le _ _ _ _ L hxx
        replace ra := RII.le _ _ _ _ L ra
        replace r1 := RI.le _ _ _ _ L r1
        replace r2 := RI.le _ _ _ _ L r2
        replace rs := RII.le _ _ _ _ L rs
        replace qx := qx.le L
        replace e_b22 := L.at_ _ _ e_b22
        replace qd := qd.le L
        replace e_b23 := L.at_ _ _ e_b23
        replace qc := qc.le L
        replace e_b25 := L.at_ _ _ e_b25
        replace qy := qy.le L
        have e_b33 := S.at_ 0 rfl
        clear S L
        obtain ⟨HA, ch, eh⟩ := wholeH_key y
        refine LoadX.same (v := .agg #[.slice (some ⟨y1, yo1, none⟩) y.dims.length 0, .slice (some ⟨y2, yo2, none⟩) y.maps.length 0]) e_b33 rfl ?_
        have mi := wholeHI_c _ _ y ⟨_, _, rfl, qy⟩
        simp only [eh] at mi
        refine CallX.madeCT mi fun h1 p1 g L t1 => ?_
        replace Lh := Lh.trans L
        replace hxx := R8.le _ _ _ _ L hxx
        replace ra := RII.le _ _ _ _ L ra
        replace r1 := RI.le _ _ _ _ L r1
        replace r2 := RI.le _ _ _ _ L r2
        replace rs := RII.le _ _ _ _ L rs
        replace qx := qx.le L
        replace e_b22 := L.at_ _ _ e_b22
        replace qd := qd.le L
        replace e_b23 := L.at_ _ _ e_b23
        replace qc := qc.le L
        replace e_b25 := L.at_ _ _ e_b25
        replace qy := qy.le L
        replace e_b33 := L.at_ _ _ e_b33
        refine LoadX.same (v := .agg #[.slice (some ⟨y1, yo1, none⟩) y.dims.length 0, .slice (some ⟨y2, yo2, none⟩) y.maps.length 0]) e_b33 rfl ?_
        have mi := wholeHS_c _ _ y ⟨_, _, rfl, qy⟩
        simp only [eh] at mi
        refine CallX.madeCT mi fun h2 p2 g L t2 => ?_
        replace Lh := Lh.trans L
        replace hxx := R8.le _ _ _ _ L hxx
        replace ra := RII.le _ _ _ _ L ra
        replace r1 := RI.le _ _ _ _ L r1
        replace r2 := RI.le _ _ _ _ L r2
        replace rs := RII.le _ _ _ _ L rs
        replace qx := qx.le L
        replace e_b22 := L.at_ _ _ e_b22
        replace qd := qd.le L
        replace e_b23 := L.at_ _ _ e_b23
        replace qc := qc.le L
        replace e_b25 := L.at_ _ _ e_b25
        replace qy := qy.le L
        replace e_b33 := L.at_ _ _ e_b33
        replace t1 := RT.le _ _ _ _ L t1
        refine CallX.same (drawLens_c _ _ xs hxx hb) ?_
        rintro r g ⟨ln, lk, rfl, L⟩
        replace Lh := Lh.trans L
        replace hxx := R8.le _ _ _ _ L hxx
        replace ra := RII.le _ _ _ _ L ra
        replace r1 := RI.le _ _ _ _ L r1
        replace r2 := RI.le _ _ _ _ L r2
        replace rs := RII.le _ _ _ _ L rs
        replace qx := qx.le L
        replace e_b22 := L.at_ _ _ e_b22
        replace qd := qd.le L
        replace e_b23 := L.at_ _ _ e_b23
        replace qc := qc.le L
        replace e_b25 := L.at_ _ _ e_b25
        replace qy := qy.le L
        replace e_b33 := L.at_ _ _ e_b33
        replace t1 := RT.le _ _ _ _ L t1
        replace t2 := RT.le _ _ _ _ L t2
        refine CallX.madeCW (lensI_c _ ln lk) fun l1 lo1 l2 lo2 g L q1 => ?_
        replace Lh := Lh.trans L
        replace hxx := R8.le _ _ _ _ L hxx
        replace ra := RII.le _ _ _ _ L ra
        replace r1 := RI.le _ _ _ _ L r1
        replace r2 := RI.le _ _ _ _ L r2
        replace rs := RII.le _ _ _ _ L rs
        replace qx := qx.le L
        replace e_b22 := L.at_ _ _ e_b22
        replace qd := qd.le L
        replace e_b23 := L.at_ _ _ e_b23
        replace qc := qc.le L
        replace e_b25 := L.at_ _ _ e_b25
        replace qy := qy.le L
        replace e_b33 := L.at_ _ _ e_b33
        replace t1 := RT.le _ _ _ _ L t1
        replace t2 := RT.le _ _ _ _ L t2
        have S := Sep.start g
        refine S.new fun b40 g S => ?_
        refine S.put 0 rfl fun g S => ?_
        have S := S.recast 0 (cells' := [.slice (some ⟨l1, lo1, none⟩) (lens ln lk).1.dims.length 0, .slice (some ⟨l2, lo2, none⟩) (lens ln lk).1.maps.length 0]) rfl rfl
        have L := S.le
        replace Lh := Lh.trans L
        replace hxx := R8.le _ _ _ _ L hxx
        replace ra := RII.le _ _ _ _ L ra
        replace r1 := RI.le _ _ _ _ L r1
        replace r2 := RI.le _ _ _ _ L r2
        replace rs := RII.le _ _ _ _ L rs
        replace qx := qx.le L
        replace e_b22 := L.at_ _ _ e_b22
        replace qd := qd.le L
        replace e_b23 := L.at_ _ _ e_b23
        replace qc := qc.le L
        replace e_b25 := L.at_ _ _ e_b25
        replace qy := qy.le L
        replace e_b33 := L.at_ _ _ e_b33
        replace t1 := RT.le _ _ _ _ L t1
        replace t2 := RT.le _ _ _ _ L t2
        replace q1 := q1.le L
        have e_b40 := S.at_ 0 rfl
        clear S L
        refine CallX.madeCW (lensS_c _ ln lk) fun m1 mo1 m2 mo2 g L q2 => ?_
        replace Lh := Lh.trans L
        replace hxx := R8.le _ _ _ _ L hxx
        replace ra := RII.le _ _ _ _ L ra
        replace r1 := RI.le _ _ _ _ L r1
        replace r2 := RI.le _ _ _ _ L r2
        replace rs := RII.le _ _ _ _ L rs
        replace qx := qx.le L
        replace e_b22 := L.at_ _ _ e_b22
        replace qd := qd.le L
        replace e_b23 := L.at_ _ _ e_b23
        replace qc := qc.le L
        replace e_b25 := L.at_ _ _ e_b25
        replace qy := qy.le L
        replace e_b33 := L.at_ _ _ e_b33
        replace t1 := RT.le _ _ _ _ L t1
        replace t2 := RT.le _ _ _ _ L t2
        replace q1 := q1.le L
        replace e_b40 := L.at_ _ _ e_b40
        have S := Sep.start g
        refine S.new fun b42 g S => ?_
        refine S.put 0 rfl fun g S => ?_
        have S := S.recast 0 (cells' := [.slice (some ⟨m1, mo1, none⟩) (lens ln lk).1.dims.length 0, .slice (some ⟨m2, mo2, none⟩) (lens ln lk).1.maps.length 0]) rfl rfl
        have L := S.le
        replace Lh := Lh.trans L
        replace hxx := R8.le _ _ _ _ L hxx
        replace ra := RII.le _ _ _ _ L ra
        replace r1 := RI.le _ _ _ _ L r1
        replace r2 := RI.le _ _ _ _ L r2
        replace rs := RII.le _ _ _ _ L rs
        replace qx := qx.le L
        replace e_b22 := L.at_ _ _ e_b22
        replace qd := qd.le L
        replace e_b23 := L.at_ _ _ e_b23
        replace qc := qc.le L
        replace e_b25 := L.at_ _ _ e_b25
        replace qy := qy.le L
        replace e_b33 := L.at_ _ _ e_b33
        replace t1 := RT.le _ _ _ _ L t1
        replace t2 := RT.le _ _ _ _ L t2
        replace q1 := q1.le L
        replace e_b40 := L.at_ _ _ e_b40
        replace q2 := q2.le L
        have e_b42 := S.at_ 0 rfl
        clear S L
        refine BIf.yes (by simp) ?_
        refine CallX.same (torsions5_c _ _ _ _ _ t1 t2 rfl) ?_
        rintro r g ⟨rfl, rfl⟩
        repeat (first | refine BIf.yes rfl ?_ | refine BIf.yes (eq_selfI _) ?_ | refine BIf.yes (eq_selfB _) ?_)
        refine LoadX.same e_b40 rfl ?_
        refine LoadX.same e_b42 rfl ?_
        refine CallX.same (likeInts_c _ _ _ _ _ q1.1 q2.1 rfl) ?_
        rintro r g ⟨rfl, rfl⟩
        repeat (first | refine BIf.yes rfl ?_ | refine BIf.yes (eq_selfI _) ?_ | refine BIf.yes (eq_selfB _) ?_)
        refine LoadX.same e_b40 rfl ?_
        refine LoadX.same e_b42 rfl ?_
        refine CallX.same (maps5_c _ _ _ _ _ q1.2 q2.2 rfl) ?_
        rintro r g ⟨rfl, rfl⟩
        repeat (first | refine BIf.yes rfl ?_ | refine BIf.yes (eq_selfI _) ?_ | refine BIf.yes (eq_selfB _) ?_)
        exact FinX.keep hw Lh rfl ⟨rfl, rfl⟩
      · have mi := dualWI_c _ _ x ⟨_, _, rfl, qx⟩
        simp only [ey] at mi
        refine LoadX.same (v := .agg #[.slice (some ⟨x1, xo1, none⟩) x.dims.length 0, .slice (some ⟨x2, xo2, none⟩) x.maps.length 0]) e_b22 rfl ?_
        refine CallX.madeCW mi fun d1 do1 d2 do2 g L qd => ?_
        replace Lh := Lh.trans L
        replace hxx := R8.le _ _ _ _ L hxx
        replace ra := RII.le _ _ _ _ L ra
        replace r1 := RI.le _ _ _ _ L r1
        replace r2 := RI.le _ _ _ _ L r2
        replace rs := RII.le _ _ _ _ L rs
        replace qx := qx.le L
        replace e_b22 := L.at_ _ _ e_b22
        have S := Sep.start g
        refine S.new fun b23 g S => ?_
        refine S.put 0 rfl fun g S => ?_
        have S := S.recast 0 (cells' := [.slice (some ⟨d1, do1, none⟩) y0.dims.length 0, .slice (some ⟨d2, do2, none⟩) y0.maps.length 0]) rfl rfl
        have L := S.le
        replace Lh := Lh.trans L
        replace hxx := R8.le _ _ _ _ L hxx
        replace ra := RII.le _ _ _ _ L ra
        replace r1 := RI.le _ _ _ _ L r1
        replace r2 := RI.le _ _ _ _ L r2
        replace rs := RII.le _ _ _ _ L rs
        replace qx := qx.le L
        replace e_b22 := L.at_ _ _ e_b22
        replace qd := qd.le L
        have e_b23 := S.at_ 0 rfl
        clear S L
        have mi := dualWS_c _ _ x ⟨_, _, rfl, qx⟩
        simp only [ey] at mi
        refine LoadX.same (v := .agg #[.slice (some ⟨x1, xo1, none⟩) x.dims.length 0, .slice (some ⟨x2, xo2, none⟩) x.maps.length 0]) e_b22 rfl ?_
        refine CallX.madeCW mi fun c1 co1 c2 co2 g L qc => ?_
        replace Lh := Lh.trans L
        replace hxx := R8.le _ _ _ _ L hxx
        replace ra := RII.le _ _ _ _ L ra
        replace r1 := RI.le _ _ _ _ L r1
        replace r2 := RI.le _ _ _ _ L r2
        replace rs := RII.le _ _ _ _ L rs
        replace qx := qx.le L
        replace e_b22 := L.at_ _ _ e_b22
        replace qd := qd.le L
        replace e_b23 := L.at_ _ _ e_b23
        have S := Sep.start g
        refine S.new fun b25 g S => ?_
        refine S.put 0 rfl fun g S => ?_
        have S := S.recast 0 (cells' := [.slice (some ⟨c1, co1, none⟩) y0.dims.length 0, .slice (some ⟨c2, co2, none⟩) y0.maps.length 0]) rfl rfl
        have L := S.le
        replace Lh := Lh.trans L
        replace hxx := R8.le _ _ _ _ L hxx
        replace ra := RII.le _ _ _ _ L ra
        replace r1 := RI.le _ _ _ _ L r1
        replace r2 := RI.le _ _ _ _ L r2
        replace rs := RII.le _ _ _ _ L rs
        replace qx := qx.le L
        replace e_b22 := L.at_ _ _ e_b22
        replace qd := qd.le L
        replace e_b23 := L.at_ _ _ e_b23
        replace qc := qc.le L
        have e_b25 := S.at_ 0 rfl
        clear S L
        refine DrawX.of Tt.tab follows_any [] [] [0, 1, 2, 3, 4, 5, 6, 7, 8, 9, 10, 11, 12, 13, 14, 15, 16, 17, 18, 19, 20, 21, 22, 23, 24, 25] rfl (by kernel_rfl) (by kernel_rfl) ?_
        repeat (first | refine BIf.no rfl ?_ | refine BIf.yes rfl ?_ | refine BIf.no (ne_selfI _) ?_ | refine BIf.no (ne_selfB _) ?_ | refine BIf.yes (eq_selfI _) ?_ | refine BIf.yes (eq_selfB _) ?_)
        refine LoadX.same e_b23 rfl ?_
        refine LoadX.same e_b25 rfl ?_
        refine QCall.of (fun g2 hl => likeInts_c g2 _ _ _ _ (RI.le _ _ _ _ hl qd.1) (RI.le _ _ _ _ hl qc.1) rfl) rfl ?_
        repeat (first | refine BIf.no rfl ?_ | refine BIf.yes rfl ?_ | refine BIf.no (ne_selfI _) ?_ | refine BIf.no (ne_selfB _) ?_ | refine BIf.yes (eq_selfI _) ?_ | refine BIf.yes (eq_selfB _) ?_)
        refine LoadX.same e_b23 rfl ?_
        refine LoadX.same e_b25 rfl ?_
        refine QCall.of (fun g2 hl => maps5_c g2 _ _ _ _ (RIII.le _ _ _ _ hl qd.2) (RIII.le _ _ _ _ hl qc.2) rfl) rfl ?_
        repeat (first | refine BIf.no rfl ?_ | refine BIf.yes rfl ?_ | refine BIf.no (ne_selfI _) ?_ | refine BIf.no (ne_selfB _) ?_ | refine BIf.yes (eq_selfI _) ?_ | refine BIf.yes (eq_selfB _) ?_)
        refine LoadX.same (v := .agg #[.slice (some ⟨x1, xo1, none⟩) x.dims.length 0, .slice (some ⟨x2, xo2, none⟩) x.maps.length 0]) e_b22 rfl ?_
        refine QCall.of (fun g2 hl => isWholeI_c g2 _ x ⟨_, _, rfl, qx.le hl⟩) rfl ?_
        refine LoadX.same (v := .agg #[.slice (some ⟨x1, xo1, none⟩) x.dims.length 0, .slice (some ⟨x2, xo2, none⟩) x.maps.length 0]) e_b22 rfl ?_
        refine QCall.of (fun g2 hl => isWholeS_c g2 _ x ⟨_, _, rfl, qx.le hl⟩) rfl ?_
        repeat (first | refine BIf.no rfl ?_ | refine BIf.yes rfl ?_ | refine BIf.no (ne_selfI _) ?_ | refine BIf.no (ne_selfB _) ?_ | refine BIf.yes (eq_selfI _) ?_ | refine BIf.yes (eq_selfB _) ?_)
        refine LoadX.same (v := .agg #[.slice (some ⟨x1, xo1, none⟩) x.dims.length 0, .slice (some ⟨x2, xo2, none⟩) x.maps.length 0]) e_b22 rfl ?_
        have mi := wholeHI_c _ _ x ⟨_, _, rfl, qx⟩
        simp only [eA] at mi
        refine CallX.madeCT mi fun a1 ao1 g L tA => ?_
        replace Lh := Lh.trans L
        replace hxx := R8.le _ _ _ _ L hxx
        replace ra := RII.le _ _ _ _ L ra
        replace r1 := RI.le _ _ _ _ L r1
        replace r2 := RI.le _ _ _ _ L r2
        replace rs := RII.le _ _ _ _ L rs
        replace qx := qx.le L
        replace e_b22 := L.at_ _ _ e_b22
        replace qd := qd.le L
        replace e_b23 := L.at_ _ _ e_b23
        replace qc := qc.le L
        replace e_b25 := L.at_ _ _ e_b25
        refine LoadX.same (v := .agg #[.slice (some ⟨d1, do1, none⟩) y0.dims.length 0, .slice (some ⟨d2, do2, none⟩) y0.maps.length 0]) e_b23 rfl ?_
        have mi := wholeHI_c _ _ y0 ⟨_, _, rfl, qd⟩
        simp only [eB] at mi
        refine CallX.madeCT mi fun a2 ao2 g L tB => ?_
        replace Lh := Lh.trans L
        replace hxx := R8.le _ _ _ _ L hxx
        replace ra := RII.le _ _ _ _ L ra
        replace r1 := RI.le _ _ _ _ L r1
        replace r2 := RI.le _ _ _ _ L r2
        replace rs := RII.le _ _ _ _ L rs
        replace qx := qx.le L
        replace e_b22 := L.at_ _ _ e_b22
        replace qd := qd.le L
        replace e_b23 := L.at_ _ _ e_b23
        replace qc := qc.le L
        replace e_b25 := L.at_ _ _ e_b25
        replace tA := RT.le _ _ _ _ L tA
        have cA := RN.cells tA rfl
        have cB := RN.cells tB rfl
        repeat (first | refine BIf.no rfl ?_ | refine BIf.yes rfl ?_ | refine BIf.no (ne_selfI _) ?_ | refine BIf.no (ne_selfB _) ?_ | refine BIf.yes (eq_selfI _) ?_ | refine BIf.yes (eq_selfB _) ?_)
        refine BIf.no (by rw [lA, lB]; exact ne_selfI _) ?_
        repeat (first | refine BIf.no rfl ?_ | refine BIf.yes rfl ?_ | refine BIf.no (ne_selfI _) ?_ | refine BIf.no (ne_selfB _) ?_ | refine BIf.yes (eq_selfI _) ?_ | refine BIf.yes (eq_selfB _) ?_)
        refine WR.as (r := ((x.dims.length - 1 : Nat) : Int)) (by omega) ?_
        refine ⟨⟨[0, 27, 29, 31, 32], fun n' vs g2 => ∃ i : Nat, n' = x.dims.length - i ∧ i ≤ x.dims.length ∧ g2 = g ∧ vs = [.slice (some ⟨bc, oc, none⟩) xs.length 0, .slice (some ⟨a1, ao1, none⟩) A.length 0, .slice (some ⟨a2, ao2, none⟩) B.length 0, .int .i64 (x.dims.length - 1 : Nat), .int .i64 i], _, ⟨0, rfl, Nat.zero_le _, rfl, rfl⟩, ?_⟩⟩
        rintro n' vs g2 ⟨i, rfl, hi, rfl, rfl⟩
        refine BIf.mk (fun c3 => ?_) (fun c3 => ?_)
        · have c3 : i < x.dims.length := by simp at c3; omega
          obtain ⟨k1, k2⟩ := hAB i c3
          refine DrawX.of Tt.tab follows_any [] [] [0, 1, 2, 3, 4, 5, 6, 7, 8, 9, 10, 11, 12, 13, 14, 15, 16, 17, 18, 19, 20, 21, 22, 23, 24, 25, 26, 27, 28, 29, 30, 31, 32, 33, 34] rfl (by kernel_rfl) (by kernel_rfl) ?_
          refine IdxX.mk (by omega) (by omega) ?_
          refine CT.free (k := i) cA (Le.refl _) (by omega) ?_
          refine WR.as (r := ((x.dims.length - 1 - i : Nat) : Int)) (by omega) ?_
          refine IdxX.mk (by omega) (by omega) ?_
          refine CT.free (k := x.dims.length - 1 - i) cB (Le.refl _) (by omega) ?_
          refine BIf.no (by rw [k1]; simp) ?_
          refine BIf.mk (fun c4 => ?_) (fun c4 => ?_)
          · have c4 : i + 1 < x.dims.length := by simp at c4; omega
            refine IdxX.mk (by omega) (by omega) ?_
            refine CT.parts (k := i) cA (Le.refl _) (by omega) fun p1 po1 rp1 => ?_
            refine WR.i64 ?_
            refine WR.as (r := ((x.dims.length - 1 - 1 - i : Nat) : Int)) (by omega) ?_
            refine IdxX.mk (by omega) (by omega) ?_
            refine CT.parts (k := x.dims.length - 1 - 1 - i) cB (Le.refl _) (by omega) fun p2 po2 rp2 => ?_
            refine QCall.of (fun g2 hl => likeInts_c g2 _ _ _ _ (RI.le _ _ _ _ hl rp1) (RI.le _ _ _ _ hl rp2) (k2 c4)) rfl ?_
            repeat (first | refine BIf.no rfl ?_ | refine BIf.yes rfl ?_ | refine BIf.no (ne_selfI _) ?_ | refine BIf.no (ne_selfB _) ?_ | refine BIf.yes (eq_selfI _) ?_ | refine BIf.yes (eq_selfB _) ?_)
            refine WR.as (r := ((i + 1 : Nat) : Int)) (by omega) ?_
            exact ⟨x.dims.length - (i + 1), by omega, i + 1, rfl, c3, rfl, rfl⟩
          · repeat (first | refine BIf.no rfl ?_ | refine BIf.yes rfl ?_ | refine BIf.no (ne_selfI _) ?_ | refine BIf.no (ne_selfB _) ?_ | refine BIf.yes (eq_selfI _) ?_ | refine BIf.yes (eq_selfB _) ?_)
            refine WR.as (r := ((i + 1 : Nat) : Int)) (by omega) ?_
            exact ⟨x.dims.length - (i + 1), by omega, i + 1, rfl, c3, rfl, rfl⟩
        refine CallX.drawnW (drawWholeH_c _ _ xs hxx hb) fun y y1 yo1 y2 yo2 g L qy => ?_
        replace Lh := Lh.trans L
        replace hxx := R8.le _ _ _ _ L hxx
        replace ra := RII.le _ _ _ _ L ra
        replace r1 := RI.le _ _ _ _ L r1
        replace r2 := RI.le _ _ _ _ L r2
        replace rs := RII.le _ _ _ _ L rs
        replace qx := qx.le L
        replace e_b22 := L.at_ _ _ e_b22
        replace qd := qd.le L
        replace e_b23 := L.at_ _ _ e_b23
        replace qc := qc.le L
        replace e_b25 := L.at_ _ _ e_b25
        replace tA := RT.le _ _ _ _ L tA
        replace tB := RT.le _ _ _ _ L tB
        have S := Sep.start g
        refine S.new fun b33 g S => ?_
        refine S.put 0 rfl fun g S => ?_
        have S := S.recast 0 (cells' := [.slice (some ⟨y1, yo1, none⟩) y.dims.length 0, .slice (some ⟨y2, yo2, none⟩) y.maps.length 0]) rfl rfl
        have L := S.le
        replace Lh := Lh.trans L
        replace hxx := R8.le _ _ _ _ L hxx
        replace ra := RII.le _ _ _ _ L ra
        replace r1 := RI.le _ _ _ _ L r1
        replace r2 := RI.le _ _ _ _ L r2
        replace rs := RII.le _ _ _ _ L rs
        replace qx := qx.le L
        replace e_b22 := L.at_ _ _ e_b22
        replace qd := qd.le L
        replace e_b23 := L.at_ _ _ e_b23
        replace qc := qc.le L
        replace e_b25 := L.at_ _ _ e_b25
        replace tA := RT.le _ _ _ _ L tA
        replace tB := RT.le _ _ _ _ L tB
        replace qy := qy.le L
        have e_b33 := S.at_ 0 rfl
        clear S L
        obtain ⟨HA, ch, eh⟩ := wholeH_key y
        refine LoadX.same (v := .agg #[.slice (some ⟨y1, yo1, none⟩) y.dims.length 0, .slice (some ⟨y2, yo2, none⟩) y.maps.length 0]) e_b33 rfl ?_
        have mi := wholeHI_c _ _ y ⟨_, _, rfl, qy⟩
        simp only [eh] at mi
        refine CallX.madeCT mi fun h1 p1 g L t1 => ?_
        replace Lh := Lh.trans L
        replace hxx := R8.le _ _ _ _ L hxx
        replace ra := RII.le _ _ _ _ L ra
        replace r1 := RI.le _ _ _ _ L r1
        replace r2 := RI.le _ _ _ _ L r2
        replace rs := RII.le _ _ _ _ L rs
        replace qx := qx.le L
        replace e_b22 := L.at_ _ _ e_b22
        replace qd := qd.le L
        replace e_b23 := L.at_ _ _ e_b23
        replace qc := qc.le L
        replace e_b25 := L.at_ _ _ e_b25
        replace tA := RT.le _ _ _ _ L tA
        replace tB := RT.le _ _ _ _ L tB
        replace qy := qy.le L
        replace e_b33 := L.at_ _ _ e_b33
        refine LoadX.same (v := .agg #[.slice (some ⟨y1, yo1, none⟩) y.dims.length 0, .slice (some ⟨y2, yo2, none⟩) y.maps.length 0]) e_b33 rfl ?_
        have mi := wholeHS_c _ _ y ⟨_, _, rfl, qy⟩
        simp only [eh] at mi
        refine CallX.madeCT mi fun h2 p2 g L t2 => ?_
        replace Lh := Lh.trans L
        replace hxx := R8.le _ _ _ _ L hxx
        replace ra := RII.le _ _ _ _ L ra
        replace r1 := RI.le _ _ _ _ L r1
        replace r2 := RI.le _ _ _ _ L r2
        replace rs := RII.le _ _ _ _ L rs
        replace qx := qx.le L
        replace e_b22 := L.at_ _ _ e_b22
        replace qd := qd.le L
        replace e_b23 := L.at_ _ _ e_b23
        replace qc := qc.le L
        replace e_b25 := L.at_ _ _ e_b25
        replace tA := RT.le _ _ _ _ L tA
        replace tB := RT.le _ _ _ _ L tB
        replace qy := qy.le L
        replace e_b33 := L.at_ _ _ e_b33
        replace t1 := RT.le _ _ _ _ L t1
        refine CallX.same (drawLens_c _ _ xs hxx hb) ?_
        rintro r g ⟨ln, lk, rfl, L⟩
        replace Lh := Lh.trans L
        replace hxx := R8.le _ _ _ _ L hxx
        replace ra := RII.le _ _ _ _ L ra
        replace r1 := RI.le _ _ _ _ L r1
        replace r2 := RI.le _ _ _ _ L r2
        replace rs := RII.le _ _ _ _ L rs
        replace qx := qx.le L
        replace e_b22 := L.at_ _ _ e_b22
        replace qd := qd.le L
        replace e_b23 := L.at_ _ _ e_b23
        replace qc := qc.le L
        replace e_b25 := L.at_ _ _ e_b25
        replace tA := RT.le _ _ _ _ L tA
        replace tB := RT.le _ _ _ _ L tB
        replace qy := qy.le L
        replace e_b33 := L.at_ _ _ e_b33
        replace t1 := RT.le _ _ _ _ L t1
        replace t2 := RT.le _ _ _ _ L t2
        refine CallX.madeCW (lensI_c _ ln lk) fun l1 lo1 l2 lo2 g L q1 => ?_
        replace Lh := Lh.trans L
        replace hxx := R8.le _ _ _ _ L hxx
        replace ra := RII.le _ _ _ _ L ra
        replace r1 := RI.le _ _ _ _ L r1
        replace r2 := RI.le _ _ _ _ L r2
        replace rs := RII.le _ _ _ _ L rs
        replace qx := qx.le L
        replace e_b22 := L.at_ _ _ e_b22
        replace qd := qd.le L
        replace e_b23 := L.at_ _ _ e_b23
        replace qc := qc.le L
        replace e_b25 := L.at_ _ _ e_b25
        replace tA := RT.le _ _ _ _ L tA
        replace tB := RT.le _ _ _ _ L tB
        replace qy := qy.le L
        replace e_b33 := L.at_ _ _ e_b33
        replace t1 := RT.le _ _ _ _ L t1
        replace t2 := RT.le _ _ _ _ L t2
        have S := Sep.start g
        refine S.new fun b40 g S => ?_
        refine S.put 0 rfl fun g S => ?_
        have S := S.recast 0 (cells' := [.slice (some ⟨l1, lo1, none⟩) (lens ln lk).1.dims.length 0, .slice (some ⟨l2, lo2, none⟩) (lens ln lk).1.maps.length 0]) rfl rfl
        have L := S.le
        replace Lh := Lh.trans L
        replace hxx := R8.le _ _ _ _ L hxx
        replace ra := RII.le _ _ _ _ L ra
        replace r1 := RI.le _ _ _ _ L r1
        replace r2 := RI.le _ _ _ _ L r2
        replace rs := RII.le _ _ _ _ L rs
        replace qx := qx.le L
        replace e_b22 := L.at_ _ _ e_b22
        replace qd := qd.le L
        replace e_b23 := L.at_ _ _ e_b23
        replace qc := qc.le L
        replace e_b25 := L.at_ _ _ e_b25
        replace tA := RT.le _ _ _ _ L tA
        replace tB := RT.le _ _ _ _ L tB
        replace qy := qy.le L
        replace e_b33 := L.at_ _ _ e_b33
        replace t1 := RT.le _ _ _ _ L t1
        replace t2 := RT.le _ _ _ _ L t2
        replace q1 := q1.le L
        have e_b40 := S.at_ 0 rfl
        clear S L
        refine CallX.madeCW (lensS_c _ ln lk) fun m1 mo1 m2 mo2 g L q2 => ?_
        replace Lh := Lh.trans L
        replace hxx := R8.le _ _ _ _ L hxx
        replace ra := RII.le _ _ _ _ L ra
        replace r1 := RI.le _ _ _ _ L r1
        replace r2 := RI.le _ _ _ _ L r2
        replace rs := RII.le _ _ _ _ L rs
        replace qx := qx.le L
        replace e_b22 := L.at_ _ _ e_b22
        replace qd := qd.le L
        replace e_b23 := L.at_ _ _ e_b23
        replace qc := qc.le L
        replace e_b25 := L.at_ _ _ e_b25
        replace tA := RT.le _ _ _ _ L tA
        replace tB := RT.le _ _ _ _ L tB
        replace qy := qy.le L
        replace e_b33 := L.at_ _ _ e_b33
        replace t1 := RT.le _ _ _ _ L t1
        replace t2 := RT.le _ _ _ _ L t2
        replace q1 := q1.le L
        replace e_b40 := L.at_ _ _ e_b40
        have S := Sep.start g
        refine S.new fun b42 g S => ?_
        refine S.put 0 rfl fun g S => ?_
        have S := S.recast 0 (cells' := [.slice (some ⟨m1, mo1, none⟩) (lens ln lk).1.dims.length 0, .slice (some ⟨m2, mo2, none⟩) (lens ln lk).1.maps.length 0]) rfl rfl
        have L := S.le
        replace Lh := Lh.trans L
        replace hxx := R8.le _ _ _ _ L hxx
        replace ra := RII.le _ _ _ _ L ra
        replace r1 := RI.le _ _ _ _ L r1
        replace r2 := RI.le _ _ _ _ L r2
        replace rs := RII.le _ _ _ _ L rs
        replace qx := qx.le L
        replace e_b22 := L.at_ _ _ e_b22
        replace qd := qd.le L
        replace e_b23 := L.at_ _ _ e_b23
        replace qc := qc.le L
        replace e_b25 := L.at_ _ _ e_b25
        replace tA := RT.le _ _ _ _ L tA
        replace tB := RT.le _ _ _ _ L tB
        replace qy := qy.le L
        replace e_b33 := L.at_ _ _ e_b33
        replace t1 := RT.le _ _ _ _ L t1
        replace t2 := RT.le _ _ _ _ L t2
        replace q1 := q1.le L
        replace e_b40 := L.at_ _ _ e_b40
        replace q2 := q2.le L
        have e_b42 := S.at_ 0 rfl
        clear S L
        refine BIf.yes (by simp) ?_
        refine CallX.same (torsions5_c _ _ _ _ _ t1 t2 rfl) ?_
        rintro r g ⟨rfl, rfl⟩
        repeat (first | refine BIf.yes rfl ?_ | refine BIf.yes (eq_selfI _) ?_ | refine BIf.yes (eq_selfB _) ?_)
        refine LoadX.same e_b40 rfl ?_
        refine LoadX.same e_b42 rfl ?_
        refine CallX.same (likeInts_c _ _ _ _ _ q1.1 q2.1 rfl) ?_
        rintro r g ⟨rfl, rfl⟩
        repeat (first | refine BIf.yes rfl ?_ | refine BIf.yes (eq_selfI _) ?_ | refine BIf.yes (eq_selfB _) ?_)
        refine LoadX.same e_b40 rfl ?_
        refine LoadX.same e_b42 rfl ?_
        refine CallX.same (maps5_c _ _ _ _ _ q1.2 q2.2 rfl) ?_
        rintro r g ⟨rfl, rfl⟩
        repeat (first | refine BIf.yes rfl ?_ | refine BIf.yes (eq_selfI _) ?_ | refine BIf.yes (eq_selfB _) ?_)
        exact FinX.keep hw Lh rfl ⟨rfl, rfl⟩
    · have mi := detOfI_c _ _ sq rs
      simp only [ed] at mi
      refine CallX.same mi ?_
      rintro r g ⟨rfl, rfl⟩
      have mi := detOfS_c _ _ sq rs
      simp only [ed] at mi
      refine CallX.same mi ?_
      rintro r g ⟨rfl, rfl⟩
      repeat (first | refine BIf.no rfl ?_ | refine BIf.yes rfl ?_ | refine BIf.no (ne_selfI _) ?_ | refine BIf.no (ne_selfB _) ?_ | refine BIf.yes (eq_selfI _) ?_ | refine BIf.yes (eq_selfB _) ?_)
      refine BIf.yes (by simpa using hd0) ?_
      repeat (first | refine BIf.no rfl ?_ | refine BIf.yes rfl ?_ | refine BIf.no (ne_selfI _) ?_ | refine BIf.no (ne_selfB _) ?_ | refine BIf.yes (eq_selfI _) ?_ | refine BIf.yes (eq_selfB _) ?_)
      have mi := smithNumI_c _ _ sq rs
      simp only [es2] at mi
      refine CallX.madeCI mi fun s1 so1 g L rL => ?_
      replace Lh := Lh.trans L
      replace hxx := R8.le _ _ _ _ L hxx
      replace ra := RII.le _ _ _ _ L ra
      replace r1 := RI.le _ _ _ _ L r1
      replace r2 := RI.le _ _ _ _ L r2
      replace rs := RII.le _ _ _ _ L rs
      have cL := rL.cells rfl
      have hq : kq = sq.length := rs_len rs
      refine ⟨⟨[0, 13, 14, 18, 19, 20, 21], fun n' vs g2 => ∃ i : Nat, n' = L2.length - i ∧ i ≤ L2.length ∧ g2 = g ∧ vs = [.slice (some ⟨bc, oc, none⟩) xs.length 0, .slice (some ⟨bq, 0, none⟩) kq 1, .int .i64 d, .slice (some ⟨s1, so1, none⟩) L2.length 0, .int .i64 0, .int .i64 (prd (L2.take i)), .int .i64 i], _, ⟨0, rfl, Nat.zero_le _, rfl, rfl⟩, ?_⟩⟩
      rintro n' vs g2 ⟨i, rfl, hi, rfl, rfl⟩
      refine BIf.mk (fun c3 => ?_) (fun c3 => ?_)
      · have c3 : i < L2.length := by simpa using c3
        have hpt := prd_take (i + 1) (all_pos hp2)
        have hpp := prd_pos (take_pos (i + 1) hp2)
        refine IdxX.mk (by omega) (by omega) ?_
        refine CS.ith cL (Le.refl _) c3 ?_
        refine WR.as (r := prd (L2.take (i + 1))) (by rw [List.take_succ_eq_append_getElem c3, prd_snoc, ith_get c3]) ?_
        refine WR.as (r := ((i + 1 : Nat) : Int)) (by omega) ?_
        exact ⟨L2.length - (i + 1), by omega, i + 1, rfl, c3, rfl, rfl⟩
      have hi2 : i = L2.length := by simp at c3; omega
      rw [hi2, List.take_length]
      repeat (first | refine BIf.no rfl ?_ | refine BIf.yes rfl ?_ | refine BIf.no (ne_selfI _) ?_ | refine BIf.no (ne_selfB _) ?_ | refine BIf.yes (eq_selfI _) ?_ | refine BIf.yes (eq_selfB _) ?_)
      refine BIf.no (by simp; omega) ?_
      repeat (first | refine BIf.no rfl ?_ | refine BIf.yes rfl ?_ | refine BIf.no (ne_selfI _) ?_ | refine BIf.no (ne_selfB _) ?_ | refine BIf.yes (eq_selfI _) ?_ | refine BIf.yes (eq_selfB _) ?_)
      refine BIf.mk (fun hz => ?_) (fun hz => ?_)
      · have hz : prd L2 ≠ d := by simpa using hz
        have hz2 : prd L2 = -d := hpr.resolve_left hz
        refine WR.i64 ?_
        refine BIf.no (by simp [hz2]) ?_
        repeat (first | refine BIf.no rfl ?_ | refine BIf.yes rfl ?_ | refine BIf.no (ne_selfI _) ?_ | refine BIf.no (ne_selfB _) ?_ | refine BIf.yes (eq_selfI _) ?_ | refine BIf.yes (eq_selfB _) ?_)
        refine CallX.drawnW (drawDual_c _ _ xs hxx hb) fun x x1 xo1 x2 xo2 g L qx => ?_
        replace Lh := Lh.trans L
        replace hxx := R8.le _ _ _ _ L hxx
        replace ra := RII.le _ _ _ _ L ra
        replace r1 := RI.le _ _ _ _ L r1
        replace r2 := RI.le _ _ _ _ L r2
        replace rs := RII.le _ _ _ _ L rs
        replace rL := RI.le _ _ _ _ L rL
        have S := Sep.start g
        refine S.new fun b22 g S => ?_
        refine S.put 0 rfl fun g S => ?_
        have S := S.recast 0 (cells' := [.slice (some ⟨x1, xo1, none⟩) x.dims.length 0, .slice (some ⟨x2, xo2, none⟩) x.maps.length 0]) rfl rfl
        have L := S.le
        replace Lh := Lh.trans L
        replace hxx := R8.le _ _ _ _ L hxx
        replace ra := RII.le _ _ _ _ L ra
        replace r1 := RI.le _ _ _ _ L r1
        replace r2 := RI.le _ _ _ _ L r2
        replace rs := RII.le _ _ _ _ L rs
        replace rL := RI.le _ _ _ _ L rL
        replace qx := qx.le L
        have e_b22 := S.at_ 0 rfl
        clear S L
        rcases dual_key x with ey | ⟨y0, ey, A, B, eA, eB, lA, lB, hx1, hx6, hAB⟩
        · have mi := dualWI_c _ _ x ⟨_, _, rfl, qx⟩
          simp only [ey] at mi
          refine LoadX.same (v := .agg #[.slice (some ⟨x1, xo1, none⟩) x.dims.length 0, .slice (some ⟨x2, xo2, none⟩) x.maps.length 0]) e_b22 rfl ?_
          refine CallX.madeCW mi fun d1 do1 d2 do2 g L qd => ?_
          replace Lh := Lh.trans L
          replace hxx := R8.le _ _ _ _ L hxx
          replace ra := RII.le _ _ _ _ L ra
          replace r1 := RI.le _ _ _ _ L r1
          replace r2 := RI.le _ _ _ _ L r2
          replace rs := RII.le _ _ _ _ L rs
          replace rL := RI.le _ _ _ _ L rL
          replace qx := qx.le L
          replace e_b22 := L.at_ _ _ e_b22
          have S := Sep.start g
          refine S.new fun b23 g S => ?_
          refine S.put 0 rfl fun g S => ?_
          have S := S.recast 0 (cells' := [.slice (some ⟨d1, do1, none⟩) ([] : List Int).length 0, .slice (some ⟨d2, do2, none⟩) ([] : List (List (List Int))).length 0]) rfl rfl
          have L := S.le
          replace Lh := Lh.trans L
          replace hxx := R8.le _ _ _ _ L hxx
          replace ra := RII.le _ _ _ _ L ra
          replace r1 := RI.le _ _ _ _ L r1
          replace r2 := RI.le _ _ _ _ L r2
          replace rs := RII.le _ _ _ _ L rs
          replace rL := RI.le _ _ _ _ L rL
          replace qx := qx.le L
          replace e_b22 := L.at_ _ _ e_b22
          replace qd := qd.le L
          have e_b23 := S.at_ 0 rfl
          clear S L
          have mi := dualWS_c _ _ x ⟨_, _, rfl, qx⟩
          simp only [ey] at mi
          refine LoadX.same (v := .agg #[.slice (some ⟨x1, xo1, none⟩) x.dims.length 0, .slice (some ⟨x2, xo2, none⟩) x.maps.length 0]) e_b22 rfl ?_
          refine CallX.madeCW mi fun c1 co1 c2 co2 g L qc => ?_
          replace Lh := Lh.trans L
          replace hxx := R8.le _ _ _ _ L hxx
          replace ra := RII.le _ _ _ _ L ra
          replace r1 := RI.le _ _ _ _ L r1
          replace r2 := RI.le _ _ _ _ L r2
          replace rs := RII.le _ _ _ _ L rs
          replace rL := RI.le _ _ _ _ L rL
          replace qx := qx.le L
          replace e_b22 := L.at_ _ _ e_b22
          replace qd := qd.le L
          replace e_b23 := L.at_ _ _ e_b23
          have S := Sep.start g
          refine S.new fun b25 g S => ?_
          refine S.put 0 rfl fun g S => ?_
          have S := S.recast 0 (cells' := [.slice (some ⟨c1, co1, none⟩) ([] : List Int).length 0, .slice (some ⟨c2, co2, none⟩) ([] : List (List (List Int))).length 0]) rfl rfl
          have L := S.le
          replace Lh := Lh.trans L
          replace hxx := R8.le _ _ _ _ L hxx
          replace ra := RII.le _ _ _ _ L ra
          replace r1 := RI.le _ _ _ _ L r1
          replace r2 := RI.le _ _ _ _ L r2
          replace rs := RII.le _ _ _ _ L rs
          replace rL := RI.le _ _ _ _ L rL
          replace qx := qx.le L
          replace e_b22 := L.at_ _ _ e_b22
          replace qd := qd.le L
          replace e_b23 := L.at_ _ _ e_b23
          replace qc := qc.le L
          have e_b25 := S.at_ 0 rfl
          clear S L
          refine DrawX.of Tt.tab follows_any [] [] [0, 1, 2, 3, 4, 5, 6, 7, 8, 9, 10, 11, 12, 13, 14, 15, 16, 17, 18, 19, 20, 21, 22, 23, 24, 25] rfl (by kernel_rfl) (by kernel_rfl) ?_
          repeat (first | refine BIf.no rfl ?_ | refine BIf.yes rfl ?_ | refine BIf.no (ne_selfI _) ?_ | refine BIf.no (ne_selfB _) ?_ | refine BIf.yes (eq_selfI _) ?_ | refine BIf.yes (eq_selfB _) ?_)
          refine LoadX.same e_b23 rfl ?_
          refine LoadX.same e_b25 rfl ?_
          refine QCall.of (fun g2 hl => likeInts_c g2 _ _ _ _ (RI.le _ _ _ _ hl qd.1) (RI.le _ _ _ _ hl qc.1) rfl) rfl ?_
          repeat (first | refine BIf.no rfl ?_ | refine BIf.yes rfl ?_ | refine BIf.no (ne_selfI _) ?_ | refine BIf.no (ne_selfB _) ?_ | refine BIf.yes (eq_selfI _) ?_ | refine BIf.yes (eq_selfB _) ?_)
          refine LoadX.same e_b23 rfl ?_
          refine LoadX.same e_b25 rfl ?_
          refine QCall.of (fun g2 hl => maps5_c g2 _ _ _ _ (RIII.le _ _ _ _ hl qd.2) (RIII.le _ _ _ _ hl qc.2) rfl) rfl ?_
          repeat (first | refine BIf.no rfl ?_ | refine BIf.yes rfl ?_ | refine BIf.no (ne_selfI _) ?_ | refine BIf.no (ne_selfB _) ?_ | refine BIf.yes (eq_selfI _) ?_ | refine BIf.yes (eq_selfB _) ?_)
          refine LoadX.same (v := .agg #[.slice (some ⟨x1, xo1, none⟩) x.dims.length 0, .slice (some ⟨x2, xo2, none⟩) x.maps.length 0]) e_b22 rfl ?_
          refine QCall.of (fun g2 hl => isWholeI_c g2 _ x ⟨_, _, rfl, qx.le hl⟩) rfl ?_
          refine LoadX.same (v := .agg #[.slice (some ⟨x1, xo1, none⟩) x.dims.length 0, .slice (some ⟨x2, xo2, none⟩) x.maps.length 0]) e_b22 rfl ?_
          refine QCall.of (fun g2 hl => isWholeS_c g2 _ x ⟨_, _, rfl, qx.le hl⟩) rfl ?_
          repeat (first | refine BIf.no rfl ?_ | refine BIf.yes rfl ?_ | refine BIf.no (ne_selfI _) ?_ | refine BIf.no (ne_selfB _) ?_ | refine BIf.yes (eq_selfI _) ?_ | refine BIf.yes (eq_selfB _) ?_)
          refine CallX.drawnW (drawWholeH_c _ _ xs hxx hb) fun y y1 yo1 y2 yo2 g L qy => ?_
          replace Lh := Lh.trans L
          replace hxx := R8.le _ _ _ _ L hxx
          replace ra := RII.le _ _ _ _ L ra
          replace r1 := RI.le _ _ _ _ L r1
          replace r2 := RI.le _ _ _ _ L r2
          replace rs := RII.le _ _ _ _ L rs
          replace rL := RI.le _ _ _ _ L rL
          replace qx := qx.le L
          replace e_b22 := L.at_ _ _ e_b22
          replace qd := qd.le L
          replace e_b23 := L.at_ _ _ e_b23
          replace qc := qc.le L
          replace e_b25 := L.at_ _ _ e_b25
          have S := Sep.start g
          refine S.new fun b33 g S => ?_
          refine S.put 0 rfl fun g S => ?_
          have S := S.recast 0 (cells' := [.slice (some ⟨y1, yo1, none⟩) y.dims.length 0, .slice (some ⟨y2, yo2, none⟩) y.maps.length 0]) rfl rfl
          have L := S.le
          replace Lh := Lh.trans L
          replace hxx := R8.le _ _ _ _ L hxx
          replace ra := RII.le _ _ _ _ L ra
          replace r1 := RI.le _ _ _ _ L r1
          replace r2 := RI.le _ _ _ _ L r2
          replace rs := RII.le _ _ _ _ L rs
          replace rL := RI.le _ _ _ _ L rL
          replace qx := qx.le L
          replace e_b22 := L.at_ _ _ e_b22
          replace qd := qd.le L
          replace e_b23 := L.at_ _ _ e_b23
          replace qc := qc.le L
          replace e_b25 := L.at_ _ _ e_b25
          replace qy := qy.le L
          have e_b33 := S.at_ 0 rfl
          clear S L
          obtain ⟨HA, ch, eh⟩ := wholeH_key y
          refine LoadX.same (v := .agg #[.slice (some ⟨y1, yo1, none⟩) y.dims.length 0, .slice (some ⟨y2, yo2, none⟩) y.maps.length 0]) e_b33 rfl ?_
          have mi := wholeHI_c _ _ y ⟨_, _, rfl, qy⟩
          simp only [eh] at mi
          refine CallX.madeCT mi fun h1 p1 g L t1 => ?_
          replace Lh := Lh.trans L
          replace hxx := R8.le _ _ _ _ L hxx
          replace ra := RII.le _ _ _ _ L ra
          replace r1 := RI.le _ _ _ _ L r1
          replace r2 := RI.le _ _ _ _ L r2
          replace rs := RII.le _ _ _ _ L rs
          replace rL := RI.le _ _ _ _ L rL
          replace qx := qx.le L
          replace e_b22 := L.at_ _ _ e_b22
          replace qd := qd.le L
          replace e_b23 := L.at_ _ _ e_b23
          replace qc := qc.le L
          replace e_b25 := L.at_ _ _ e_b25
          replace qy := qy.le L
          replace e_b33 := L.at_ _ _ e_b33
          refine LoadX.same (v := .agg #[.slice (some ⟨y1, yo1, none⟩) y.dims.length 0, .slice (some ⟨y2, yo2, none⟩) y.maps.length 0]) e_b33 rfl ?_
          have mi := wholeHS_c _ _ y ⟨_, _, rfl, qy⟩
          simp only [eh] at mi
          refine CallX.madeCT mi fun h2 p2 g L t2 => ?_
          replace Lh := Lh.trans L
          replace hxx := R8.le _ _ _ _ L hxx
          replace ra := RII.le _ _ _ _ L ra
          replace r1 := RI.le _ _ _ _ L r1
          replace r2 := RI.le _ _ _ _ L r2
          replace rs := RII.le _ _ _ _ L rs
          replace rL := RI.le _ _ _ _ L rL
          replace qx := qx.le L
          replace e_b22 := L.at_ _ _ e_b22
          replace qd := qd.le L
          replace e_b23 := L.at_ _ _ e_b23
          replace qc := qc.le L
          replace e_b25 := L.at_ _ _ e_b25
          replace qy := qy.le L
          replace e_b33 := L.at_ _ _ e_b33
          replace t1 := RT.le _ _ _ _ L t1
          refine CallX.same (drawLens_c _ _ xs hxx hb) ?_
          rintro r g ⟨ln, lk, rfl, L⟩
          replace Lh := Lh.trans L
          replace hxx := R8.le _ _ _ _ L hxx
          replace ra := RII.le _ _ _ _ L ra
          replace r1 := RI.le _ _ _ _ L r1
          replace r2 := RI.le _ _ _ _ L r2
          replace rs := RII.le _ _ _ _ L rs
          replace rL := RI.le _ _ _ _ L rL
          replace qx := qx.le L
          replace e_b22 := L.at_ _ _ e_b22
          replace qd := qd.le L
          replace e_b23 := L.at_ _ _ e_b23
          replace qc := qc.le L
          replace e_b25 := L.at_ _ _ e_b25
          replace qy := qy.le L
          replace e_b33 := L.at_ _ _ e_b33
          replace t1 := RT.le _ _ _ _ L t1
          replace t2 := RT.le _ _ _ _ L t2
          refine CallX.madeCW (lensI_c _ ln lk) fun l1 lo1 l2 lo2 g L q1 => ?_
          replace Lh := Lh.trans L
          replace hxx := R8.le _ _ _ _ L hxx
          replace ra := RII.le _ _ _ _ L ra
          replace r1 := RI.le _ _ _ _ L r1
          replace r2 := RI.le _ _ _ _ L r2
          replace rs := RII.le _ _ _ _ L rs
          replace rL := RI.le _ _ _ _ L rL
          replace qx := qx.le L
          replace e_b22 := L.at_ _ _ e_b22
          replace qd := qd.le L
          replace e_b23 := L.at_ _ _ e_b23
          replace qc := qc.le L
          replace e_b25 := L.at_ _ _ e_b25
          replace qy := qy.le L
          replace e_b33 := L.at_ _ _ e_b33
          replace t1 := RT.le _ _ _ _ L t1
          replace t2 := RT.le _ _ _ _ L t2
          have S := Sep.start g
          refine S.new fun b40 g S => ?_
          refine S.put 0 rfl fun g S => ?_
          have S := S.recast 0 (cells' := [.slice (some ⟨l1, lo1, none⟩) (lens ln lk).1.dims.length 0, .slice (some ⟨l2, lo2, none⟩) (lens ln lk).1.maps.length 0]) rfl rfl
          have L := S.le
          replace Lh := Lh.trans L
          replace hxx := R8.le _ _ _ _ L hxx
          replace ra := RII.le _ _ _ _ L ra
          replace r1 := RI.le _ _ _ _ L r1
          replace r2 := RI.le _ _ _ _ L r2
          replace rs := RII.le _ _ _ _ L rs
          replace rL := RI.le _ _ _ _ L rL
          replace qx := qx.le L
          replace e_b22 := L.at_ _ _ e_b22
          replace qd := qd.le L
          replace e_b23 := L.at_ _ _ e_b23
          replace qc := qc.le L
          replace e_b25 := L.at_ _ _ e_b25
          replace qy := qy.le L
          replace e_b33 := L.at_ _ _ e_b33
          replace t1 := RT.le _ _ _ _ L t1
          replace t2 := RT.le _ _ _ _ L t2
          replace q1 := q1.le L
          have e_b40 := S.at_ 0 rfl
          clear S L
          refine CallX.madeCW (lensS_c _ ln lk) fun m1 mo1 m2 mo2 g L q2 => ?_
          replace Lh := Lh.trans L
          replace hxx := R8.le _ _ _ _ L hxx
          replace ra := RII.le _ _ _ _ L ra
          replace r1 := RI.le _ _ _ _ L r1
          replace r2 := RI.le _ _ _ _ L r2
          replace rs := RII.le _ _ _ _ L rs
          replace rL := RI.le _ _ _ _ L rL
          replace qx := qx.le L
          replace e_b22 := L.at_ _ _ e_b22
          replace qd := qd.le L
          replace e_b23 := L.at_ _ _ e_b23
          replace qc := qc.le L
          replace e_b25 := L.at_ _ _ e_b25
          replace qy := qy.le L
          replace e_b33 := L.at_ _ _ e_b33
          replace t1 := RT.le _ _ _ _ L t1
          replace t2 := RT.le _ _ _ _ L t2
          replace q1 := q1.le L
          replace e_b40 := L.at_ _ _ e_b40
          have S := Sep.start g
          refine S.new fun b42 g S => ?_
          refine S.put 0 rfl fun g S => ?_
          have S := S.recast 0 (cells' := [.slice (some ⟨m1, mo1, none⟩) (lens ln lk).1.dims.length 0, .slice (some ⟨m2, mo2, none⟩) (lens ln lk).1.maps.length 0]) rfl rfl
          have L := S.le
          replace Lh := Lh.trans L
          replace hxx := R8.le _ _ _ _ L hxx
          replace ra := RII.le _ _ _ _ L ra
          replace r1 := RI.le _ _ _ _ L r1
          replace r2 := RI.le _ _ _ _ L r2
          replace rs := RII.le _ _ _ _ L rs
          replace rL := RI.le _ _ _ _ L rL
          replace qx := qx.le L
          replace e_b22 := L.at_ _ _ e_b22
          replace qd := qd.le L
          replace e_b23 := L.at_ _ _ e_b23
          replace qc := qc.le L
          replace e_b25 := L.at_ _ _ e_b25
          replace qy := qy.le L
          replace e_b33 := L.at_ _ _ e_b33
          replace t1 := RT.le _ _ _ _ L t1
          replace t2 := RT.le _ _ _ _ L t2
          replace q1 := q1.le L
          replace e_b40 := L.at_ _ _ e_b40
          replace q2 := q2.le L
          have e_b42 := S.at_ 0 rfl
          clear S L
          refine BIf.yes (by simp) ?_
          refine CallX.same (torsions5_c _ _ _ _ _ t1 t2 rfl) ?_
          rintro r g ⟨rfl, rfl⟩
          repeat (first | refine BIf.yes rfl ?_ | refine BIf.yes (eq_selfI _) ?_ | refine BIf.yes (eq_selfB _) ?_)
          refine LoadX.same e_b40 rfl ?_
          refine LoadX.same e_b42 rfl ?_
          refine CallX.same (likeInts_c _ _ _ _ _ q1.1 q2.1 rfl) ?_
          rintro r g ⟨rfl, rfl⟩
          repeat (first | refine BIf.yes rfl ?_ | refine BIf.yes (eq_selfI _) ?_ | refine BIf.yes (eq_selfB _) ?_)
          refine LoadX.same e_b40 rfl ?_
          refine LoadX.same e_b42 rfl ?_
          refine CallX.same (maps5_c _ _ _ _ _ q1.2 q2.2 rfl) ?_
          rintro r g ⟨rfl, rfl⟩
          repeat (first | refine BIf.yes rfl ?_ | refine BIf.yes (eq_selfI _) ?_ | refine BIf.yes (eq_selfB _) ?_)
          exact FinX.keep hw Lh rfl ⟨rfl, rfl⟩
        · have mi := dualWI_c _ _ x ⟨_, _, rfl, qx⟩
          simp only [ey] at mi
          refine LoadX.same (v := .agg #[.slice (some ⟨x1, xo1, none⟩) x.dims.length 0, .slice (some ⟨x2, xo2, none⟩) x.maps.length 0]) e_b22 rfl ?_
          refine CallX.madeCW mi fun d1 do1 d2 do2 g L qd => ?_
          replace Lh := Lh.trans L
          replace hxx := R8.le _ _ _ _ L hxx
          replace ra := RII.le _ _ _ _ L ra
          replace r1 := RI.le _ _ _ _ L r1
          replace r2 := RI.le _ _ _ _ L r2
          replace rs := RII.le _ _ _ _ L rs
          replace rL := RI.le _ _ _ _ L rL
          replace qx := qx.le L
          replace e_b22 := L.at_ _ _ e_b22
          have S := Sep.start g
          refine S.new fun b23 g S => ?_
          refine S.put 0 rfl fun g S => ?_
          have S := S.recast 0 (cells' := [.slice (some ⟨d1, do1, none⟩) y0.dims.length 0, .slice (some ⟨d2, do2, none⟩) y0.maps.length 0]) rfl rfl
          have L := S.le
          replace Lh := Lh.trans L
          replace hxx := R8.le _ _ _ _ L hxx
          replace ra := RII.le _ _ _ _ L ra
          replace r1 := RI.le _ _ _ _ L r1
          replace r2 := RI.le _ _ _ _ L r2
          replace rs := RII.le _ _ _ _ L rs
          replace rL := RI.le _ _ _ _ L rL
          replace qx := qx.le L
          replace e_b22 := L.at_ _ _ e_b22
          replace qd := qd.le L
          have e_b23 := S.at_ 0 rfl
          clear S L
          have mi := dualWS_c _ _ x ⟨_, _, rfl, qx⟩
          simp only [ey] at mi
          refine LoadX.same (v := .agg #[.slice (some ⟨x1, xo1, none⟩) x.dims.length 0, .slice (some ⟨x2, xo2, none⟩) x.maps.length 0]) e_b22 rfl ?_
          refine CallX.madeCW mi fun c1 co1 c2 co2 g L qc => ?_
          replace Lh := Lh.trans L
          replace hxx := R8.le _ _ _ _ L hxx
          replace ra := RII.le _ _ _ _ L ra
          replace r1 := RI.le _ _ _ _ L r1
          replace r2 := RI.le _ _ _ _ L r2
          replace rs := RII.le _ _ _ _ L rs
          replace rL := RI.le _ _ _ _ L rL
          replace qx := qx.le L
          replace e_b22 := L.at_ _ _ e_b22
          replace qd := qd.le L
          replace e_b23 := L.at_ _ _ e_b23
          have S := Sep.start g
          refine S.new fun b25 g S => ?_
          refine S.put 0 rfl fun g S => ?_
          have S := S.recast 0 (cells' := [.slice (some ⟨c1, co1, none⟩) y0.dims.length 0, .slice (some ⟨c2, co2, none⟩) y0.maps.length 0]) rfl rfl
          have L := S.le
          replace Lh := Lh.trans L
          replace hxx := R8.le _ _ _ _ L hxx
          replace ra := RII.le _ _ _ _ L ra
          replace r1 := RI.le _ _ _ _ L r1
          replace r2 := RI.le _ _ _ _ L r2
          replace rs := RII.le _ _ _ _ L rs
          replace rL := RI.le _ _ _ _ L rL
          replace qx := qx.le L
          replace e_b22 := L.at_ _ _ e_b22
          replace qd := qd.le L
          replace e_b23 := L.at_ _ _ e_b23
          replace qc := qc.le L
          have e_b25 := S.at_ 0 rfl
          clear S L
          refine DrawX.of Tt.tab follows_any [] [] [0, 1, 2, 3, 4, 5, 6, 7, 8, 9, 10, 11, 12, 13, 14, 15, 16, 17, 18, 19, 20, 21, 22, 23, 24, 25] rfl (by kernel_rfl) (by kernel_rfl) ?_
          repeat (first | refine BIf.no rfl ?_ | refine BIf.yes rfl ?_ | refine BIf.no (ne_selfI _) ?_ | refine BIf.no (ne_selfB _) ?_ | refine BIf.yes (eq_selfI _) ?_ | refine BIf.yes (eq_selfB _) ?_)
          refine LoadX.same e_b23 rfl ?_
          refine LoadX.same e_b25 rfl ?_
          refine QCall.of (fun g2 hl => likeInts_c g2 _ _ _ _ (RI.le _ _ _ _ hl qd.1) (RI.le _ _ _ _ hl qc.1) rfl) rfl ?_
          repeat (first | refine BIf.no rfl ?_ | refine BIf.yes rfl ?_ | refine BIf.no (ne_selfI _) ?_ | refine BIf.no (ne_selfB _) ?_ | refine BIf.yes (eq_selfI _) ?_ | refine BIf.yes (eq_selfB _) ?_)
          refine LoadX.same e_b23 rfl ?_
          refine LoadX.same e_b25 rfl ?_
          refine QCall.of (fun g2 hl => maps5_c g2 _ _ _ _ (RIII.le _ _ _ _ hl qd.2) (RIII.le _ _ _ _ hl qc.2) rfl) rfl ?_
          repeat (first | refine BIf.no rfl ?_ | refine BIf.yes rfl ?_ | refine BIf.no (ne_selfI _) ?_ | refine BIf.no (ne_selfB _) ?_ | refine BIf.yes (eq_selfI _) ?_ | refine BIf.yes (eq_selfB _) ?_)
          refine LoadX.same (v := .agg #[.slice (some ⟨x1, xo1, none⟩) x.dims.length 0, .slice (some ⟨x2, xo2, none⟩) x.maps.length 0]) e_b22 rfl ?_
          refine QCall.of (fun g2 hl => isWholeI_c g2 _ x ⟨_, _, rfl, qx.le hl⟩) rfl ?_
          refine LoadX.same (v := .agg #[.slice (some ⟨x1, xo1, none⟩) x.dims.length 0, .slice (some ⟨x2, xo2, none⟩) x.maps.length 0]) e_b22 rfl ?_
          refine QCall.of (fun g2 hl => isWholeS_c g2 _ x ⟨_, _, rfl, qx.le hl⟩) rfl ?_
          repeat (first | refine BIf.no rfl ?_ | refine BIf.yes rfl ?_ | refine BIf.no (ne_selfI _) ?_ | refine BIf.no (ne_selfB _) ?_ | refine BIf.yes (eq_selfI _) ?_ | refine BIf.yes (eq_selfB _) ?_)
          refine LoadX.same (v := .agg #[.slice (some ⟨x1, xo1, none⟩) x.dims.length 0, .slice (some ⟨x2, xo2, none⟩) x.maps.length 0]) e_b22 rfl ?_
          have mi := wholeHI_c _ _ x ⟨_, _, rfl, qx⟩
          simp only [eA] at mi
          refine CallX.madeCT mi fun a1 ao1 g L tA => ?_
          replace Lh := Lh.trans L
          replace hxx := R8.le _ _ _ _ L hxx
          replace ra := RII.le _ _ _ _ L ra
          replace r1 := RI.le _ _ _ _ L r1
          replace r2 := RI.le _ _ _ _ L r2
          replace rs := RII.le _ _ _ _ L rs
          replace rL := RI.le _ _ _ _ L rL
          replace qx := qx.le L
          replace e_b22 := L.at_ _ _ e_b22
          replace qd := qd.le L
          replace e_b23 := L.at_ _ _ e_b23
          replace qc := qc.le L
          replace e_b25 := L.at_ _ _ e_b25
          refine LoadX.same (v := .agg #[.slice (some ⟨d1, do1, none⟩) y0.dims.length 0, .slice (some ⟨d2, do2, none⟩) y0.maps.length 0]) e_b23 rfl ?_
          have mi := wholeHI_c _ _ y0 ⟨_, _, rfl, qd⟩
          simp only [eB] at mi
          refine CallX.madeCT mi fun a2 ao2 g L tB => ?_
          replace Lh := Lh.trans L
          replace hxx := R8.le _ _ _ _ L hxx
          replace ra := RII.le _ _ _ _ L ra
          replace r1 := RI.le _ _ _ _ L r1
          replace r2 := RI.le _ _ _ _ L r2
          replace rs := RII.le _ _ _ _ L rs
          replace rL := RI.le _ _ _ _ L rL
          replace qx := qx.le L
          replace e_b22 := L.at_ _ _ e_b22
          replace qd := qd.le L
          replace e_b23 := L.at_ _ _ e_b23
          replace qc := qc.le L
          replace e_b25 := L.at_ _ _ e_b25
          replace tA := RT.le _ _ _ _ L tA
          have cA := RN.cells tA rfl
          have cB := RN.cells tB rfl
          repeat (first | refine BIf.no rfl ?_ | refine BIf.yes rfl ?_ | refine BIf.no (ne_selfI _) ?_ | refine BIf.no (ne_selfB _) ?_ | refine BIf.yes (eq_selfI _) ?_ | refine BIf.yes (eq_selfB _) ?_)
          refine BIf.no (by rw [lA, lB]; exact ne_selfI _) ?_
          repeat (first | refine BIf.no rfl ?_ | refine BIf.yes rfl ?_ | refine BIf.no (ne_selfI _) ?_ | refine BIf.no (ne_selfB _) ?_ | refine BIf.yes (eq_selfI _) ?_ | refine BIf.yes (eq_selfB _) ?_)
          refine WR.as (r := ((x.dims.length - 1 : Nat) : Int)) (by omega) ?_
          refine ⟨⟨[0, 27, 29, 31, 32], fun n' vs g2 => ∃ i : Nat, n' = x.dims.length - i ∧ i ≤ x.dims.length ∧ g2 = g ∧ vs = [.slice (some ⟨bc, oc, none⟩) xs.length 0, .slice (some ⟨a1, ao1, none⟩) A.length 0, .slice (some ⟨a2, ao2, none⟩) B.length 0, .int .i64 (x.dims.length - 1 : Nat), .int .i64 i], _, ⟨0, rfl, Nat.zero_le _, rfl, rfl⟩, ?_⟩⟩
          rintro n' vs g2 ⟨i, rfl, hi, rfl, rfl⟩
          refine BIf.mk (fun c3 => ?_) (fun c3 => ?_)
          · have c3 : i < x.dims.length := by simp at c3; omega
            obtain ⟨k1, k2⟩ := hAB i c3
            refine DrawX.of Tt.tab follows_any [] [] [0, 1, 2, 3, 4, 5, 6, 7, 8, 9, 10, 11, 12, 13, 14, 15, 16, 17, 18, 19, 20, 21, 22, 23, 24, 25, 26, 27, 28, 29, 30, 31, 32, 33, 34] rfl (by kernel_rfl) (by kernel_rfl) ?_
            refine IdxX.mk (by omega) (by omega) ?_
            refine CT.free (k := i) cA (Le.refl _) (by omega) ?_
            refine WR.as (r := ((x.dims.length - 1 - i : Nat) : Int)) (by omega) ?_
            refine IdxX.mk (by omega) (by omega) ?_
            refine CT.free (k := x.dims.length - 1 - i) cB (Le.refl _) (by omega) ?_
            refine BIf.no (by rw [k1]; simp) ?_
            refine BIf.mk (fun c4 => ?_) (fun c4 => ?_)
            · have c4 : i + 1 < x.dims.length := by simp at c4; omega
              refine IdxX.mk (by omega) (by omega) ?_
              refine CT.parts (k := i) cA (Le.refl _) (by omega) fun p1 po1 rp1 => ?_
              refine WR.i64 ?_
              refine WR.as (r := ((x.dims.length - 1 - 1 - i : Nat) : Int)) (by omega) ?_
              refine IdxX.mk (by omega) (by omega) ?_
              refine CT.parts (k := x.dims.length - 1 - 1 - i) cB (Le.refl _) (by omega) fun p2 po2 rp2 => ?_
              refine QCall.of (fun g2 hl => likeInts_c g2 _ _ _ _ (RI.le _ _ _ _ hl rp1) (RI.le _ _ _ _ hl rp2) (k2 c4)) rfl ?_
              repeat (first | refine BIf.no rfl ?_ | refine BIf.yes rfl ?_ | refine BIf.no (ne_selfI _) ?_ | refine BIf.no (ne_selfB _) ?_ | refine BIf.yes (eq_selfI _) ?_ | refine BIf.yes (eq_selfB _) ?_)
              refine WR.as (r := ((i + 1 : Nat) : Int)) (by omega) ?_
              exact ⟨x.dims.length - (i + 1), by omega, i + 1, rfl, c3, rfl, rfl⟩
            · repeat (first | refine BIf.no rfl ?_ | refine BIf.yes rfl ?_ | refine BIf.no (ne_selfI _) ?_ | refine BIf.no (ne_selfB _) ?_ | refine BIf.yes (eq_selfI _) ?_ | refine BIf.yes (eq_selfB _) ?_)
              refine WR.as (r := ((i + 1 : Nat) : Int)) (by omega) ?_
              exact ⟨x.dims.length - (i + 1), by omega, i + 1, rfl, c3, rfl, rfl⟩
          refine CallX.drawnW (drawWholeH_c _ _ xs hxx hb) fun y y1 yo1 y2 yo2 g L qy => ?_
          replace Lh := Lh.trans L
          replace hxx := R8.le _ _ _ _ L hxx
          replace ra := RII.le _ _ _ _ L ra
          replace r1 := RI.le _ _ _ _ L r1
          replace r2 := RI.le _ _ _ _ L r2
          replace rs := RII.le _ _ _ _ L rs
          replace rL := RI.le _ _ _ _ L rL
          replace qx := qx.le L
          replace e_b22 := L.at_ _ _ e_b22
          replace qd := qd.le L
          replace e_b23 := L.at_ _ _ e_b23
          replace qc := qc.le L
          replace e_b25 := L.at_ _ _ e_b25
          replace tA := RT.le _ _ _ _ L tA
          replace tB := RT.le _ _ _ _ L tB
          have S := Sep.start g
          refine S.new fun b33 g S => ?_
          refine S.put 0 rfl fun g S => ?_
          have S := S.recast 0 (cells' := [.slice (some ⟨y1, yo1, none⟩) y.dims.length 0, .slice (some ⟨y2, yo2, none⟩) y.maps.length 0]) rfl rfl
          have L := S.le
          replace Lh := Lh.trans L
          replace hxx := R8.le _ _ _ _ L hxx
          replace ra := RII.le _ _ _ _ L ra
          replace r1 := RI.le _ _ _ _ L r1
          replace r2 := RI.le _ _ _ _ L r2
          replace rs := RII.le _ _ _ _ L rs
          replace rL := RI.le _ _ _ _ L rL
          replace qx := qx.le L
          replace e_b22 := L.at_ _ _ e_b22
          replace qd := qd.le L
          replace e_b23 := L.at_ _ _ e_b23
          replace qc := qc.le L
          replace e_b25 := L.at_ _ _ e_b25
          replace tA := RT.le _ _ _ _ L tA
          replace tB := RT.le _ _ _ _ L tB
          replace qy := qy.le L
          have e_b33 := S.at_ 0 rfl
          clear S L
          obtain ⟨HA, ch, eh⟩ := wholeH_key y
          refine LoadX.same (v := .agg #[.slice (some ⟨y1, yo1, none⟩) y.dims.length 0, .slice (some ⟨y2, yo2, none⟩) y.maps.length 0]) e_b33 rfl ?_
          have mi := wholeHI_c _ _ y ⟨_, _, rfl, qy⟩
          simp only [eh] at mi
          refine CallX.madeCT mi fun h1 p1 g L t1 => ?_
          replace Lh := Lh.trans L
          replace hxx := R8.le _ _ _ _ L hxx
          replace ra := RII.le _ _ _ _ L ra
          replace r1 := RI.le _ _ _ _ L r1
          replace r2 := RI.le _ _ _ _ L r2
          replace rs := RII.le _ _ _ _ L rs
          replace rL := RI.le _ _ _ _ L rL
          replace qx := qx.le L
          replace e_b22 := L.at_ _ _ e_b22
          replace qd := qd.le L
          replace e_b23 := L.at_ _ _ e_b23
          replace qc := qc.le L
          replace e_b25 := L.at_ _ _ e_b25
          replace tA := RT.le _ _ _ _ L tA
          replace tB := RT.le _ _ _ _ L tB
          replace qy := qy.le L
          replace e_b33 := L.at_ _ _ e_b33
          refine LoadX.same (v := .agg #[.slice (some ⟨y1, yo1, none⟩) y.dims.length 0, .slice (some ⟨y2, yo2, none⟩) y.maps.length 0]) e_b33 rfl ?_
          have mi := wholeHS_c _ _ y ⟨_, _, rfl, qy⟩
          simp only [eh] at mi
          refine CallX.madeCT mi fun h2 p2 g L t2 => ?_
          replace Lh := Lh.trans L
          replace hxx := R8.le _ _ _ _ L hxx
          replace ra := RII.le _ _ _ _ L ra
          replace r1 := RI.le _ _ _ _ L r1
          replace r2 := RI.le _ _ _ _ L r2
          replace rs := RII.le _ _ _ _ L rs
          replace rL := RI.le _ _ _ _ L rL
          replace qx := qx.le L
          replace e_b22 := L.at_ _ _ e_b22
          replace qd := qd.le L
          replace e_b23 := L.at_ _ _ e_b23
          replace qc := qc.le L
          replace e_b25 := L.at_ _ _ e_b25
          replace tA := RT.le _ _ _ _ L tA
          replace tB := RT.le _ _ _ _ L tB
          replace qy := qy.le L
          replace e_b33 := L.at_ _ _ e_b33
          replace t1 := RT.le _ _ _ _ L t1
          refine CallX.same (drawLens_c _ _ xs hxx hb) ?_
          rintro r g ⟨ln, lk, rfl, L⟩
          replace Lh := Lh.trans L
          replace hxx := R8.le _ _ _ _ L hxx
          replace ra := RII.le _ _ _ _ L ra
          replace r1 := RI.le _ _ _ _ L r1
          replace r2 := RI.le _ _ _ _ L r2
          replace rs := RII.le _ _ _ _ L rs
          replace rL := RI.le _ _ _ _ L rL
          replace qx := qx.le L
          replace e_b22 := L.at_ _ _ e_b22
          replace qd := qd.le L
          replace e_b23 := L.at_ _ _ e_b23
          replace qc := qc.le L
          replace e_b25 := L.at_ _ _ e_b25
          replace tA := RT.le _ _ _ _ L tA
          replace tB := RT.le _ _ _ _ L tB
          replace qy := qy.le L
          replace e_b33 := L.at_ _ _ e_b33
          replace t1 := RT.le _ _ _ _ L t1
          replace t2 := RT.le _ _ _ _ L t2
          refine CallX.madeCW (lensI_c _ ln lk) fun l1 lo1 l2 lo2 g L q1 => ?_
          replace Lh := Lh.trans L
          replace hxx := R8.le _ _ _ _ L hxx
          replace ra := RII.le _ _ _ _ L ra
          replace r1 := RI.le _ _ _ _ L r1
          replace r2 := RI.le _ _ _ _ L r2
          replace rs := RII.le _ _ _ _ L rs
          replace rL := RI.le _ _ _ _ L rL
          replace qx := qx.le L
          replace e_b22 := L.at_ _ _ e_b22
          replace qd := qd.le L
          replace e_b23 := L.at_ _ _ e_b23
          replace qc := qc.le L
          replace e_b25 := L.at_ _ _ e_b25
          replace tA := RT.le _ _ _ _ L tA
          replace tB := RT.le _ _ _ _ L tB
          replace qy := qy.le L
          replace e_b33 := L.at_ _ _ e_b33
          replace t1 := RT.le _ _ _ _ L t1
          replace t2 := RT.le _ _ _ _ L t2
          have S := Sep.start g
          refine S.new fun b40 g S => ?_
          refine S.put 0 rfl fun g S => ?_
          have S := S.recast 0 (cells' := [.slice (some ⟨l1, lo1, none⟩) (lens ln lk).1.dims.length 0, .slice (some ⟨l2, lo2, none⟩) (lens ln lk).1.maps.length 0]) rfl rfl
          have L := S.le
          replace Lh := Lh.trans L
          replace hxx := R8.le _ _ _ _ L hxx
          replace ra := RII.le _ _ _ _ L ra
          replace r1 := RI.le _ _ _ _ L r1
          replace r2 := RI.le _ _ _ _ L r2
          replace rs := RII.le _ _ _ _ L rs
          replace rL := RI.le _ _ _ _ L rL
          replace qx := qx.le L
          replace e_b22 := L.at_ _ _ e_b22
          replace qd := qd.le L
          replace e_b23 := L.at_ _ _ e_b23
          replace qc := qc.le L
          replace e_b25 := L.at_ _ _ e_b25
          replace tA := RT.le _ _ _ _ L tA
          replace tB := RT.le _ _ _ _ L tB
          replace qy := qy.le L
          replace e_b33 := L.at_ _ _ e_b33
          replace t1 := RT.le _ _ _ _ L t1
          replace t2 := RT.le _ _ _ _ L t2
          replace q1 := q1.le L
          have e_b40 := S.at_ 0 rfl
          clear S L
          refine CallX.madeCW (lensS_c _ ln lk) fun m1 mo1 m2 mo2 g L q2 => ?_
          replace Lh := Lh.trans L
          replace hxx := R8.le _ _ _ _ L hxx
          replace ra := RII.le _ _ _ _ L ra
          replace r1 := RI.le _ _ _ _ L r1
          replace r2 := RI.le _ _ _ _ L r2
          replace rs := RII.le _ _ _ _ L rs
          replace rL := RI.le _ _ _ _ L rL
          replace qx := qx.le L
          replace e_b22 := L.at_ _ _ e_b22
          replace qd := qd.le L
          replace e_b23 := L.at_ _ _ e_b23
          replace qc := qc.le L
          replace e_b25 := L.at_ _ _ e_b25
          replace tA := RT.le _ _ _ _ L tA
          replace tB := RT.le _ _ _ _ L tB
          replace qy := qy.le L
          replace e_b33 := L.at_ _ _ e_b33
          replace t1 := RT.le _ _ _ _ L t1
          replace t2 := RT.le _ _ _ _ L t2
          replace q1 := q1.le L
          replace e_b40 := L.at_ _ _ e_b40
          have S := Sep.start g
          refine S.new fun b42 g S => ?_
          refine S.put 0 rfl fun g S => ?_
          have S := S.recast 0 (cells' := [.slice (some ⟨m1, mo1, none⟩) (lens ln lk).1.dims.length 0, .slice (some ⟨m2, mo2, none⟩) (lens ln lk).1.maps.length 0]) rfl rfl
          have L := S.le
          replace Lh := Lh.trans L
          replace hxx := R8.le _ _ _ _ L hxx
          replace ra := RII.le _ _ _ _ L ra
          replace r1 := RI.le _ _ _ _ L r1
          replace r2 := RI.le _ _ _ _ L r2
          replace rs := RII.le _ _ _ _ L rs
          replace rL := RI.le _ _ _ _ L rL
          replace qx := qx.le L
          replace e_b22 := L.at_ _ _ e_b22
          replace qd := qd.le L
          replace e_b23 := L.at_ _ _ e_b23
          replace qc := qc.le L
          replace e_b25 := L.at_ _ _ e_b25
          replace tA := RT.le _ _ _ _ L tA
          replace tB := RT.le _ _ _ _ L tB
          replace qy := qy.le L
          replace e_b33 := L.at_ _ _ e_b33
          replace t1 := RT.le _ _ _ _ L t1
          replace t2 := RT.le _ _ _ _ L t2
          replace q1 := q1.le L
          replace e_b40 := L.at_ _ _ e_b40
          replace q2 := q2.le L
          have e_b42 := S.at_ 0 rfl
          clear S L
          refine BIf.yes (by simp) ?_
          refine CallX.same (torsions5_c _ _ _ _ _ t1 t2 rfl) ?_
          rintro r g ⟨rfl, rfl⟩
          repeat (first | refine BIf.yes rfl ?_ | refine BIf.yes (eq_selfI _) ?_ | refine BIf.yes (eq_selfB _) ?_)
          refine LoadX.same e_b40 rfl ?_
          refine LoadX.same e_b42 rfl ?_
          refine CallX.same (likeInts_c _ _ _ _ _ q1.1 q2.1 rfl) ?_
          rintro r g ⟨rfl, rfl⟩
          repeat (first | refine BIf.yes rfl ?_ | refine BIf.yes (eq_selfI _) ?_ | refine BIf.yes (eq_selfB _) ?_)
          refine LoadX.same e_b40 rfl ?_
          refine LoadX.same e_b42 rfl ?_
          refine CallX.same (maps5_c _ _ _ _ _ q1.2 q2.2 rfl) ?_
          rintro r g ⟨rfl, rfl⟩
          repeat (first | refine BIf.yes rfl ?_ | refine BIf.yes (eq_selfI _) ?_ | refine BIf.yes (eq_selfB _) ?_)
          exact FinX.keep hw Lh rfl ⟨rfl, rfl⟩
      · repeat (first | refine BIf.no rfl ?_ | refine BIf.yes rfl ?_ | refine BIf.no (ne_selfI _) ?_ | refine BIf.no (ne_selfB _) ?_ | refine BIf.yes (eq_selfI _) ?_ | refine BIf.yes (eq_selfB _) ?_)
        refine CallX.drawnW (drawDual_c _ _ xs hxx hb) fun x x1 xo1 x2 xo2 g L qx => ?_
        replace Lh := Lh.trans L
        replace hxx := R8.le _ _ _ _ L hxx
        replace ra := RII.le _ _ _ _ L ra
        replace r1 := RI.le _ _ _ _ L r1
        replace r2 := RI.le _ _ _ _ L r2
        replace rs := RII.le _ _ _ _ L rs
        replace rL := RI.le _ _ _ _ L rL
        have S := Sep.start g
        refine S.new fun b22 g S => ?_
        refine S.put 0 rfl fun g S => ?_
        have S := S.recast 0 (cells' := [.slice (some ⟨x1, xo1, none⟩) x.dims.length 0, .slice (some ⟨x2, xo2, none⟩) x.maps.length 0]) rfl rfl
        have L := S.le
        replace Lh := Lh.trans L
        replace hxx := R8.le _ _ _ _ L hxx
        replace ra := RII.le _ _ _ _ L ra
        replace r1 := RI.le _ _ _ _ L r1
        replace r2 := RI.le _ _ _ _ L r2
        replace rs := RII.le _ _ _ _ L rs
        replace rL := RI.le _ _ _ _ L rL
        replace qx := qx.le L
        have e_b22 := S.at_ 0 rfl
        clear S L
        rcases dual_key x with ey | ⟨y0, ey, A, B, eA, eB, lA, lB, hx1, hx6, hAB⟩
        · have mi := dualWI_c _ _ x ⟨_, _, rfl, qx⟩
          simp only [ey] at mi
          refine LoadX.same (v := .agg #[.slice (some ⟨x1, xo1, none⟩) x.dims.length 0, .slice (some ⟨x2, xo2, none⟩) x.maps.length 0]) e_b22 rfl ?_
          refine CallX.madeCW mi fun d1 do1 d2 do2 g L qd => ?_
          replace Lh := Lh.trans L
          replace hxx := R8.le _ _ _ _ L hxx
          replace ra := RII.le _ _ _ _ L ra
          replace r1 := RI.le _ _ _ _ L r1
          replace r2 := RI.le _ _ _ _ L r2
          replace rs := RII.le _ _ _ _ L rs
          replace rL := RI.le _ _ _ _ L rL
          replace qx := qx.le L
          replace e_b22 := L.at_ _ _ e_b22
          have S := Sep.start g
          refine S.new fun b23 g S => ?_
          refine S.put 0 rfl fun g S => ?_
          have S := S.recast 0 (cells' := [.slice (some ⟨d1, do1, none⟩) ([] : List Int).length 0, .slice (some ⟨d2, do2, none⟩) ([] : List (List (List Int))).length 0]) rfl rfl
          have L := S.le
          replace Lh := Lh.trans L
          replace hxx := R8.le _ _ _ _ L hxx
          replace ra := RII.le _ _ _ _ L ra
          replace r1 := RI.le _ _ _ _ L r1
          replace r2 := RI.le _ _ _ _ L r2
          replace rs := RII.le _ _ _ _ L rs
          replace rL := RI.le _ _ _ _ L rL
          replace qx := qx.le L
          replace e_b22 := L.at_ _ _ e_b22
          replace qd := qd.le L
          have e_b23 := S.at_ 0 rfl
          clear S L
          have mi := dualWS_c _ _ x ⟨_, _, rfl, qx⟩
          simp only [ey] at mi
          refine LoadX.same (v := .agg #[.slice (some ⟨x1, xo1, none⟩) x.dims.length 0, .slice (some ⟨x2, xo2, none⟩) x.maps.length 0]) e_b22 rfl ?_
          refine CallX.madeCW mi fun c1 co1 c2 co2 g L qc => ?_
          replace Lh := Lh.trans L
          replace hxx := R8.le _ _ _ _ L hxx
          replace ra := RII.le _ _ _ _ L ra
          replace r1 := RI.le _ _ _ _ L r1
          replace r2 := RI.le _ _ _ _ L r2
          replace rs := RII.le _ _ _ _ L rs
          replace rL := RI.le _ _ _ _ L rL
          replace qx := qx.le L
          replace e_b22 := L.at_ _ _ e_b22
          replace qd := qd.le L
          replace e_b23 := L.at_ _ _ e_b23
          have S := Sep.start g
          refine S.new fun b25 g S => ?_
          refine S.put 0 rfl fun g S => ?_
          have S := S.recast 0 (cells' := [.slice (some ⟨c1, co1, none⟩) ([] : List Int).length 0, .slice (some ⟨c2, co2, none⟩) ([] : List (List (List Int))).length 0]) rfl rfl
          have L := S.le
          replace Lh := Lh.trans L
          replace hxx := R8.le _ _ _ _ L hxx
          replace ra := RII.le _ _ _ _ L ra
          replace r1 := RI.le _ _ _ _ L r1
          replace r2 := RI.le _ _ _ _ L r2
          replace rs := RII.le _ _ _ _ L rs
          replace rL := RI.le _ _ _ _ L rL
          replace qx := qx.le L
          replace e_b22 := L.at_ _ _ e_b22
          replace qd := qd.le L
          replace e_b23 := L.at_ _ _ e_b23
          replace qc := qc.le L
          have e_b25 := S.at_ 0 rfl
          clear S L
          refine DrawX.of Tt.tab follows_any [] [] [0, 1, 2, 3, 4, 5, 6, 7, 8, 9, 10, 11, 12, 13, 14, 15, 16, 17, 18, 19, 20, 21, 22, 23, 24, 25] rfl (by kernel_rfl) (by kernel_rfl) ?_
          repeat (first | refine BIf.no rfl ?_ | refine BIf.yes rfl ?_ | refine BIf.no (ne_selfI _) ?_ | refine BIf.no (ne_selfB _) ?_ | refine BIf.yes (eq_selfI _) ?_ | refine BIf.yes (eq_selfB _) ?_)
          refine LoadX.same e_b23 rfl ?_
          refine LoadX.same e_b25 rfl ?_
          refine QCall.of (fun g2 hl => likeInts_c g2 _ _ _ _ (RI.le _ _ _ _ hl qd.1) (RI.le _ _ _ _ hl qc.1) rfl) rfl ?_
          repeat (first | refine BIf.no rfl ?_ | refine BIf.yes rfl ?_ | refine BIf.no (ne_selfI _) ?_ | refine BIf.no (ne_selfB _) ?_ | refine BIf.yes (eq_selfI _) ?_ | refine BIf.yes (eq_selfB _) ?_)
          refine LoadX.same e_b23 rfl ?_
          refine LoadX.same e_b25 rfl ?_
          refine QCall.of (fun g2 hl => maps5_c g2 _ _ _ _ (RIII.le _ _ _ _ hl qd.2) (RIII.le _ _ _ _ hl qc.2) rfl) rfl ?_
          repeat (first | refine BIf.no rfl ?_ | refine BIf.yes rfl ?_ | refine BIf.no (ne_selfI _) ?_ | refine BIf.no (ne_selfB _) ?_ | refine BIf.yes (eq_selfI _) ?_ | refine BIf.yes (eq_selfB _) ?_)
          refine LoadX.same (v := .agg #[.slice (some ⟨x1, xo1, none⟩) x.dims.length 0, .slice (some ⟨x2, xo2, none⟩) x.maps.length 0]) e_b22 rfl ?_
          refine QCall.of (fun g2 hl => isWholeI_c g2 _ x ⟨_, _, rfl, qx.le hl⟩) rfl ?_
          refine LoadX.same (v := .agg #[.slice (some ⟨x1, xo1, none⟩) x.dims.length 0, .slice (some ⟨x2, xo2, none⟩) x.maps.length 0]) e_b22 rfl ?_
          refine QCall.of (fun g2 hl => isWholeS_c g2 _ x ⟨_, _, rfl, qx.le hl⟩) rfl ?_
          repeat (first | refine BIf.no rfl ?_ | refine BIf.yes rfl ?_ | refine BIf.no (ne_selfI _) ?_ | refine BIf.no (ne_selfB _) ?_ | refine BIf.yes (eq_selfI _) ?_ | refine BIf.yes (eq_selfB _) ?_)
          refine CallX.drawnW (drawWholeH_c _ _ xs hxx hb) fun y y1 yo1 y2 yo2 g L qy => ?_
          replace Lh := Lh.trans L
          replace hxx := R8.le _ _ _ _ L hxx
          replace ra := RII.le _ _ _ _ L ra
          replace r1 := RI.le _ _ _ _ L r1
          replace r2 := RI.le _ _ _ _ L r2
          replace rs := RII.le _ _ _ _ L rs
          replace rL := RI.le _ _ _ _ L rL
          replace qx := qx.le L
          replace e_b22 := L.at_ _ _ e_b22
          replace qd := qd.le L
          replace e_b23 := L.at_ _ _ e_b23
          replace qc := qc.le L
          replace e_b25 := L.at_ _ _ e_b25
          have S := Sep.start g
          refine S.new fun b33 g S => ?_
          refine S.put 0 rfl fun g S => ?_
          have S := S.recast 0 (cells' := [.slice (some ⟨y1, yo1, none⟩) y.dims.length 0, .slice (some ⟨y2, yo2, none⟩) y.maps.length 0]) rfl rfl
          have L := S.le
          replace Lh := Lh.trans L
          replace hxx := R8.le _ _ _ _ L hxx
          replace ra := RII.le _ _ _ _ L ra
          replace r1 := RI.le _ _ _ _ L r1
          replace r2 := RI.le _ _ _ _ L r2
          replace rs := RII.le _ _ _ _ L rs
          replace rL := RI.le _ _ _ _ L rL
          replace qx := qx.le L
          replace e_b22 := L.at_ _ _ e_b22
          replace qd := qd.le L
          replace e_b23 := L.at_ _ _ e_b23
          replace qc := qc.le L
          replace e_b25 := L.at_ _ _ e_b25
          replace qy := qy.le L
          have e_b33 := S.at_ 0 rfl
          clear S L
          obtain ⟨HA, ch, eh⟩ := wholeH_key y
          refine LoadX.same (v := .agg #[.slice (some ⟨y1, yo1, none⟩) y.dims.length 0, .slice (some ⟨y2, yo2, none⟩) y.maps.length 0]) e_b33 rfl ?_
          have mi := wholeHI_c _ _ y ⟨_, _, rfl, qy⟩
          simp only [eh] at mi
          refine CallX.madeCT mi fun h1 p1 g L t1 => ?_
          replace Lh := Lh.trans L
          replace hxx := R8.le _ _ _ _ L hxx
          replace ra := RII.le _ _ _ _ L ra
          replace r1 := RI.le _ _ _ _ L r1
          replace r2 := RI.le _ _ _ _ L r2
          replace rs := RII.le _ _ _ _ L rs
          replace rL := RI.le _ _ _ _ L rL
          replace qx := qx.le L
          replace e_b22 := L.at_ _ _ e_b22
          replace qd := qd.le L
          replace e_b23 := L.at_ _ _ e_b23
          replace qc := qc.le L
          replace e_b25 := L.at_ _ _ e_b25
          replace qy := qy.le L
          replace e_b33 := L.at_ _ _ e_b33
          refine LoadX.same (v := .agg #[.slice (some ⟨y1, yo1, none⟩) y.dims.length 0, .slice (some ⟨y2, yo2, none⟩) y.maps.length 0]) e_b33 rfl ?_
          have mi := wholeHS_c _ _ y ⟨_, _, rfl, qy⟩
          simp only [eh] at mi
          refine CallX.madeCT mi fun h2 p2 g L t2 => ?_
          replace Lh := Lh.trans L
          replace hxx := R8.le _ _ _ _ L hxx
          replace ra := RII.le _ _ _ _ L ra
          replace r1 := RI.le _ _ _ _ L r1
          replace r2 := RI.le _ _ _ _ L r2
          replace rs := RII.le _ _ _ _ L rs
          replace rL := RI.le _ _ _ _ L rL
          replace qx := qx.le L
          replace e_b22 := L.at_ _ _ e_b22
          replace qd := qd.le L
          replace e_b23 := L.at_ _ _ e_b23
          replace qc := qc.le L
          replace e_b25 := L.at_ _ _ e_b25
          replace qy := qy.le L
          replace e_b33 := L.at_ _ _ e_b33
          replace t1 := RT.le _ _ _ _ L t1
          refine CallX.same (drawLens_c _ _ xs hxx hb) ?_
          rintro r g ⟨ln, lk, rfl, L⟩
          replace Lh := Lh.trans L
          replace hxx := R8.le _ _ _ _ L hxx
          replace ra := RII.le _ _ _ _ L ra
          replace r1 := RI.le _ _ _ _ L r1
          replace r2 := RI.le _ _ _ _ L r2
          replace rs := RII.le _ _ _ _ L rs
          replace rL := RI.le _ _ _ _ L rL
          replace qx := qx.le L
          replace e_b22 := L.at_ _ _ e_b22
          replace qd := qd.le L
          replace e_b23 := L.at_ _ _ e_b23
          replace qc := qc.le L
          replace e_b25 := L.at_ _ _ e_b25
          replace qy := qy.le L
          replace e_b33 := L.at_ _ _ e_b33
          replace t1 := RT.le _ _ _ _ L t1
          replace t2 := RT.le _ _ _ _ L t2
          refine CallX.madeCW (lensI_c _ ln lk) fun l1 lo1 l2 lo2 g L q1 => ?_
          replace Lh := Lh.trans L
          replace hxx := R8.le _ _ _ _ L hxx
          replace ra := RII.le _ _ _ _ L ra
          replace r1 := RI.le _ _ _ _ L r1
          replace r2 := RI.le _ _ _ _ L r2
          replace rs := RII.le _ _ _ _ L rs
          replace rL := RI.le _ _ _ _ L rL
          replace qx := qx.le L
          replace e_b22 := L.at_ _ _ e_b22
          replace qd := qd.le L
          replace e_b23 := L.at_ _ _ e_b23
          replace qc := qc.le L
          replace e_b25 := L.at_ _ _ e_b25
          replace qy := qy.le L
          replace e_b33 := L.at_ _ _ e_b33
          replace t1 := RT.le _ _ _ _ L t1
          replace t2 := RT.le _ _ _ _ L t2
          have S := Sep.start g
          refine S.new fun b40 g S => ?_
          refine S.put 0 rfl fun g S => ?_
          have S := S.recast 0 (cells' := [.slice (some ⟨l1, lo1, none⟩) (lens ln lk).1.dims.length 0, .slice (some ⟨l2, lo2, none⟩) (lens ln lk).1.maps.length 0]) rfl rfl
          have L := S.le
          replace Lh := Lh.trans L
          replace hxx := R8.le _ _ _ _ L hxx
          replace ra := RII.le _ _ _ _ L ra
          replace r1 := RI.le _ _ _ _ L r1
          replace r2 := RI.le _ _ _ _ L r2
          replace rs := RII.le _ _ _ _ L rs
          replace rL := RI.le _ _ _ _ L rL
          replace qx := qx.le L
          replace e_b22 := L.at_ _ _ e_b22
          replace qd := qd.le L
          replace e_b23 := L.at_ _ _ e_b23
          replace qc := qc.le L
          replace e_b25 := L.at_ _ _ e_b25
          replace qy := qy.le L
          replace e_b33 := L.at_ _ _ e_b33
          replace t1 := RT.le _ _ _ _ L t1
          replace t2 := RT.le _ _ _ _ L t2
          replace q1 := q1.le L
          have e_b40 := S.at_ 0 rfl
          clear S L
          refine CallX.madeCW (lensS_c _ ln lk) fun m1 mo1 m2 mo2 g L q2 => ?_
          replace Lh := Lh.trans L
          replace hxx := R8.le _ _ _ _ L hxx
          replace ra := RII.le _ _ _ _ L ra
          replace r1 := RI.le _ _ _ _ L r1
          replace r2 := RI.le _ _ _ _ L r2
          replace rs := RII.le _ _ _ _ L rs
          replace rL := RI.le _ _ _ _ L rL
          replace qx := qx.le L
          replace e_b22 := L.at_ _ _ e_b22
          replace qd := qd.le L
          replace e_b23 := L.at_ _ _ e_b23
          replace qc := qc.le L
          replace e_b25 := L.at_ _ _ e_b25
          replace qy := qy.le L
          replace e_b33 := L.at_ _ _ e_b33
          replace t1 := RT.le _ _ _ _ L t1
          replace t2 := RT.le _ _ _ _ L t2
          replace q1 := q1.le L
          replace e_b40 := L.at_ _ _ e_b40
          have S := Sep.start g
          refine S.new fun b42 g S => ?_
          refine S.put 0 rfl fun g S => ?_
          have S := S.recast 0 (cells' := [.slice (some ⟨m1, mo1, none⟩) (lens ln lk).1.dims.length 0, .slice (some ⟨m2, mo2, none⟩) (lens ln lk).1.maps.length 0]) rfl rfl
          have L := S.le
          replace Lh := Lh.trans L
          replace hxx := R8.le _ _ _ _ L hxx
          replace ra := RII.le _ _ _ _ L ra
          replace r1 := RI.le _ _ _ _ L r1
          replace r2 := RI.le _ _ _ _ L r2
          replace rs := RII.le _ _ _ _ L rs
          replace rL := RI.le _ _ _ _ L rL
          replace qx := qx.le L
          replace e_b22 := L.at_ _ _ e_b22
          replace qd := qd.le L
          replace e_b23 := L.at_ _ _ e_b23
          replace qc := qc.le L
          replace e_b25 := L.at_ _ _ e_b25
          replace qy := qy.le L
          replace e_b33 := L.at_ _ _ e_b33
          replace t1 := RT.le _ _ _ _ L t1
          replace t2 := RT.le _ _ _ _ L t2
          replace q1 := q1.le L
          replace e_b40 := L.at_ _ _ e_b40
          replace q2 := q2.le L
          have e_b42 := S.at_ 0 rfl
          clear S L
          refine BIf.yes (by simp) ?_
          refine CallX.same (torsions5_c _ _ _ _ _ t1 t2 rfl) ?_
          rintro r g ⟨rfl, rfl⟩
          repeat (first | refine BIf.yes rfl ?_ | refine BIf.yes (eq_selfI _) ?_ | refine BIf.yes (eq_selfB _) ?_)
          refine LoadX.same e_b40 rfl ?_
          refine LoadX.same e_b42 rfl ?_
          refine CallX.same (likeInts_c _ _ _ _ _ q1.1 q2.1 rfl) ?_
          rintro r g ⟨rfl, rfl⟩
          repeat (first | refine BIf.yes rfl ?_ | refine BIf.yes (eq_selfI _) ?_ | refine BIf.yes (eq_selfB _) ?_)
          refine LoadX.same e_b40 rfl ?_
          refine LoadX.same e_b42 rfl ?_
          refine CallX.same (maps5_c _ _ _ _ _ q1.2 q2.2 rfl) ?_
          rintro r g ⟨rfl, rfl⟩
          repeat (first | refine BIf.yes rfl ?_ | refine BIf.yes (eq_selfI _) ?_ | refine BIf.yes (eq_selfB _) ?_)
          exact FinX.keep hw Lh rfl ⟨rfl, rfl⟩
        · have mi := dualWI_c _ _ x ⟨_, _, rfl, qx⟩
          simp only [ey] at mi
          refine LoadX.same (v := .agg #[.slice (some ⟨x1, xo1, none⟩) x.dims.length 0, .slice (some ⟨x2, xo2, none⟩) x.maps.length 0]) e_b22 rfl ?_
          refine CallX.madeCW mi fun d1 do1 d2 do2 g L qd => ?_
          replace Lh := Lh.trans L
          replace hxx := R8.le _ _ _ _ L hxx
          replace ra := RII.le _ _ _ _ L ra
          replace r1 := RI.le _ _ _ _ L r1
          replace r2 := RI.le _ _ _ _ L r2
          replace rs := RII.le _ _ _ _ L rs
          replace rL := RI.le _ _ _ _ L rL
          replace qx := qx.le L
          replace e_b22 := L.at_ _ _ e_b22
          have S := Sep.start g
          refine S.new fun b23 g S => ?_
          refine S.put 0 rfl fun g S => ?_
          have S := S.recast 0 (cells' := [.slice (some ⟨d1, do1, none⟩) y0.dims.length 0, .slice (some ⟨d2, do2, none⟩) y0.maps.length 0]) rfl rfl
          have L := S.le
          replace Lh := Lh.trans L
          replace hxx := R8.le _ _ _ _ L hxx
          replace ra := RII.le _ _ _ _ L ra
          replace r1 := RI.le _ _ _ _ L r1
          replace r2 := RI.le _ _ _ _ L r2
          replace rs := RII.le _ _ _ _ L rs
          replace rL := RI.le _ _ _ _ L rL
          replace qx := qx.le L
          replace e_b22 := L.at_ _ _ e_b22
          replace qd := qd.le L
          have e_b23 := S.at_ 0 rfl
          clear S L
          have mi := dualWS_c _ _ x ⟨_, _, rfl, qx⟩
          simp only [ey] at mi
          refine LoadX.same (v := .agg #[.slice (some ⟨x1, xo1, none⟩) x.dims.length 0, .slice (some ⟨x2, xo2, none⟩) x.maps.length 0]) e_b22 rfl ?_
          refine CallX.madeCW mi fun c1 co1 c2 co2 g L qc => ?_
          replace Lh := Lh.trans L
          replace hxx := R8.le _ _ _ _ L hxx
          replace ra := RII.le _ _ _ _ L ra
          replace r1 := RI.le _ _ _ _ L r1
          replace r2 := RI.le _ _ _ _ L r2
          replace rs := RII.le _ _ _ _ L rs
          replace rL := RI.le _ _ _ _ L rL
          replace qx := qx.le L
          replace e_b22 := L.at_ _ _ e_b22
          replace qd := qd.le L
          replace e_b23 := L.at_ _ _ e_b23
          have S := Sep.start g
          refine S.new fun b25 g S => ?_
          refine S.put 0 rfl fun g S => ?_
          have S := S.recast 0 (cells' := [.slice (some ⟨c1, co1, none⟩) y0.dims.length 0, .slice (some ⟨c2, co2, none⟩) y0.maps.length 0]) rfl rfl
          have L := S.le
          replace Lh := Lh.trans L
          replace hxx := R8.le _ _ _ _ L hxx
          replace ra := RII.le _ _ _ _ L ra
          replace r1 := RI.le _ _ _ _ L r1
          replace r2 := RI.le _ _ _ _ L r2
          replace rs := RII.le _ _ _ _ L rs
          replace rL := RI.le _ _ _ _ L rL
          replace qx := qx.le L
          replace e_b22 := L.at_ _ _ e_b22
          replace qd := qd.le L
          replace e_b23 := L.at_ _ _ e_b23
          replace qc := qc.le L
          have e_b25 := S.at_ 0 rfl
          clear S L
          refine DrawX.of Tt.tab follows_any [] [] [0, 1, 2, 3, 4, 5, 6, 7, 8, 9, 10, 11, 12, 13, 14, 15, 16, 17, 18, 19, 20, 21, 22, 23, 24, 25] rfl (by kernel_rfl) (by kernel_rfl) ?_
          repeat (first | refine BIf.no rfl ?_ | refine BIf.yes rfl ?_ | refine BIf.no (ne_selfI _) ?_ | refine BIf.no (ne_selfB _) ?_ | refine BIf.yes (eq_selfI _) ?_ | refine BIf.yes (eq_selfB _) ?_)
          refine LoadX.same e_b23 rfl ?_
          refine LoadX.same e_b25 rfl ?_
          refine QCall.of (fun g2 hl => likeInts_c g2 _ _ _ _ (RI.le _ _ _ _ hl qd.1) (RI.le _ _ _ _ hl qc.1) rfl) rfl ?_
          repeat (first | refine BIf.no rfl ?_ | refine BIf.yes rfl ?_ | refine BIf.no (ne_selfI _) ?_ | refine BIf.no (ne_selfB _) ?_ | refine BIf.yes (eq_selfI _) ?_ | refine BIf.yes (eq_selfB _) ?_)
          refine LoadX.same e_b23 rfl ?_
          refine LoadX.same e_b25 rfl ?_
          refine QCall.of (fun g2 hl => maps5_c g2 _ _ _ _ (RIII.le _ _ _ _ hl qd.2) (RIII.le _ _ _ _ hl qc.2) rfl) rfl ?_
          repeat (first | refine BIf.no rfl ?_ | refine BIf.yes rfl ?_ | refine BIf.no (ne_selfI _) ?_ | refine BIf.no (ne_selfB _) ?_ | refine BIf.yes (eq_selfI _) ?_ | refine BIf.yes (eq_selfB _) ?_)
          refine LoadX.same (v := .agg #[.slice (some ⟨x1, xo1, none⟩) x.dims.length 0, .slice (some ⟨x2, xo2, none⟩) x.maps.length 0]) e_b22 rfl ?_
          refine QCall.of (fun g2 hl => isWholeI_c g2 _ x ⟨_, _, rfl, qx.le hl⟩) rfl ?_
          refine LoadX.same (v := .agg #[.slice (some ⟨x1, xo1, none⟩) x.dims.length 0, .slice (some ⟨x2, xo2, none⟩) x.maps.length 0]) e_b22 rfl ?_
          refine QCall.of (fun g2 hl => isWholeS_c g2 _ x ⟨_, _, rfl, qx.le hl⟩) rfl ?_
          repeat (first | refine BIf.no rfl ?_ | refine BIf.yes rfl ?_ | refine BIf.no (ne_selfI _) ?_ | refine BIf.no (ne_selfB _) ?_ | refine BIf.yes (eq_selfI _) ?_ | refine BIf.yes (eq_selfB _) ?_)
          refine LoadX.same (v := .agg #[.slice (some ⟨x1, xo1, none⟩) x.dims.length 0, .slice (some ⟨x2, xo2, none⟩) x.maps.length 0]) e_b22 rfl ?_
          have mi := wholeHI_c _ _ x ⟨_, _, rfl, qx⟩
          simp only [eA] at mi
          refine CallX.madeCT mi fun a1 ao1 g L tA => ?_
          replace Lh := Lh.trans L
          replace hxx := R8.le _ _ _ _ L hxx
          replace ra := RII.le _ _ _ _ L ra
          replace r1 := RI.le _ _ _ _ L r1
          replace r2 := RI.le _ _ _ _ L r2
          replace rs := RII.le _ _ _ _ L rs
          replace rL := RI.le _ _ _ _ L rL
          replace qx := qx.le L
          replace e_b22 := L.at_ _ _ e_b22
          replace qd := qd.le L
          replace e_b23 := L.at_ _ _ e_b23
          replace qc := qc.le L
          replace e_b25 := L.at_ _ _ e_b25
          refine LoadX.same (v := .agg #[.slice (some ⟨d1, do1, none⟩) y0.dims.length 0, .slice (some ⟨d2, do2, none⟩) y0.maps.length 0]) e_b23 rfl ?_
          have mi := wholeHI_c _ _ y0 ⟨_, _, rfl, qd⟩
          simp only [eB] at mi
          refine CallX.madeCT mi fun a2 ao2 g L tB => ?_
          replace Lh := Lh.trans L
          replace hxx := R8.le _ _ _ _ L hxx
          replace ra := RII.le _ _ _ _ L ra
          replace r1 := RI.le _ _ _ _ L r1
          replace r2 := RI.le _ _ _ _ L r2
          replace rs := RII.le _ _ _ _ L rs
          replace rL := RI.le _ _ _ _ L rL
          replace qx := qx.le L
          replace e_b22 := L.at_ _ _ e_b22
          replace qd := qd.le L
          replace e_b23 := L.at_ _ _ e_b23
          replace qc := qc.le L
          replace e_b25 := L.at_ _ _ e_b25
          replace tA := RT.le _ _ _ _ L tA
          have cA := RN.cells tA rfl
          have cB := RN.cells tB rfl
          repeat (first | refine BIf.no rfl ?_ | refine BIf.yes rfl ?_ | refine BIf.no (ne_selfI _) ?_ | refine BIf.no (ne_selfB _) ?_ | refine BIf.yes (eq_selfI _) ?_ | refine BIf.yes (eq_selfB _) ?_)
          refine BIf.no (by rw [lA, lB]; exact ne_selfI _) ?_
          repeat (first | refine BIf.no rfl ?_ | refine BIf.yes rfl ?_ | refine BIf.no (ne_selfI _) ?_ | refine BIf.no (ne_selfB _) ?_ | refine BIf.yes (eq_selfI _) ?_ | refine BIf.yes (eq_selfB _) ?_)
          refine WR.as (r := ((x.dims.length - 1 : Nat) : Int)) (by omega) ?_
          refine ⟨⟨[0, 27, 29, 31, 32], fun n' vs g2 => ∃ i : Nat, n' = x.dims.length - i ∧ i ≤ x.dims.length ∧ g2 = g ∧ vs = [.slice (some ⟨bc, oc, none⟩) xs.length 0, .slice (some ⟨a1, ao1, none⟩) A.length 0, .slice (some ⟨a2, ao2, none⟩) B.length 0, .int .i64 (x.dims.length - 1 : Nat), .int .i64 i], _, ⟨0, rfl, Nat.zero_le _, rfl, rfl⟩, ?_⟩⟩
          rintro n' vs g2 ⟨i, rfl, hi, rfl, rfl⟩
          refine BIf.mk (fun c3 => ?_) (fun c3 => ?_)
          · have c3 : i < x.dims.length := by simp at c3; omega
            obtain ⟨k1, k2⟩ := hAB i c3
            refine DrawX.of Tt.tab follows_any [] [] [0, 1, 2, 3, 4, 5, 6, 7, 8, 9, 10, 11, 12, 13, 14, 15, 16, 17, 18, 19, 20, 21, 22, 23, 24, 25, 26, 27, 28, 29, 30, 31, 32, 33, 34] rfl (by kernel_rfl) (by kernel_rfl) ?_
            refine IdxX.mk (by omega) (by omega) ?_
            refine CT.free (k := i) cA (Le.refl _) (by omega) ?_
            refine WR.as (r := ((x.dims.length - 1 - i : Nat) : Int)) (by omega) ?_
            refine IdxX.mk (by omega) (by omega) ?_
            refine CT.free (k := x.dims.length - 1 - i) cB (Le.refl _) (by omega) ?_
            refine BIf.no (by rw [k1]; simp) ?_
            refine BIf.mk (fun c4 => ?_) (fun c4 => ?_)
            · have c4 : i + 1 < x.dims.length := by simp at c4; omega
              refine IdxX.mk (by omega) (by omega) ?_
              refine CT.parts (k := i) cA (Le.refl _) (by omega) fun p1 po1 rp1 => ?_
              refine WR.i64 ?_
              refine WR.as (r := ((x.dims.length - 1 - 1 - i : Nat) : Int)) (by omega) ?_
              refine IdxX.mk (by omega) (by omega) ?_
              refine CT.parts (k := x.dims.length - 1 - 1 - i) cB (Le.refl _) (by omega) fun p2 po2 rp2 => ?_
              refine QCall.of (fun g2 hl => likeInts_c g2 _ _ _ _ (RI.le _ _ _ _ hl rp1) (RI.le _ _ _ _ hl rp2) (k2 c4)) rfl ?_
              repeat (first | refine BIf.no rfl ?_ | refine BIf.yes rfl ?_ | refine BIf.no (ne_selfI _) ?_ | refine BIf.no (ne_selfB _) ?_ | refine BIf.yes (eq_selfI _) ?_ | refine BIf.yes (eq_selfB _) ?_)
              refine WR.as (r := ((i + 1 : Nat) : Int)) (by omega) ?_
              exact ⟨x.dims.length - (i + 1), by omega, i + 1, rfl, c3, rfl, rfl⟩
            · repeat (first | refine BIf.no rfl ?_ | refine BIf.yes rfl ?_ | refine BIf.no (ne_selfI _) ?_ | refine BIf.no (ne_selfB _) ?_ | refine BIf.yes (eq_selfI _) ?_ | refine BIf.yes (eq_selfB _) ?_)
              refine WR.as (r := ((i + 1 : Nat) : Int)) (by omega) ?_
              exact ⟨x.dims.length - (i + 1), by omega, i + 1, rfl, c3, rfl, rfl⟩
          refine CallX.drawnW (drawWholeH_c _ _ xs hxx hb) fun y y1 yo1 y2 yo2 g L qy => ?_
          replace Lh := Lh.trans L
          replace hxx := R8.le _ _ _ _ L hxx
          replace ra := RII.le _ _ _ _ L ra
          replace r1 := RI.le _ _ _ _ L r1
          replace r2 := RI.le _ _ _ _ L r2
          replace rs := RII.le _ _ _ _ L rs
          replace rL := RI.le _ _ _ _ L rL
          replace qx := qx.le L
          replace e_b22 := L.at_ _ _ e_b22
          replace qd := qd.le L
          replace e_b23 := L.at_ _ _ e_b23
          replace qc := qc.le L
          replace e_b25 := L.at_ _ _ e_b25
          replace tA := RT.le _ _ _ _ L tA
          replace tB := RT.le _ _ _ _ L tB
          have S := Sep.start g
          refine S.new fun b33 g S => ?_
          refine S.put 0 rfl fun g S => ?_
          have S := S.recast 0 (cells' := [.slice (some ⟨y1, yo1, none⟩) y.dims.length 0, .slice (some ⟨y2, yo2, none⟩) y.maps.length 0]) rfl rfl
          have L := S.le
          replace Lh := Lh.trans L
          replace hxx := R8.le _ _ _ _ L hxx
          replace ra := RII.le _ _ _ _ L ra
          replace r1 := RI.le _ _ _ _ L r1
          replace r2 := RI.le _ _ _ _ L r2
          replace rs := RII.le _ _ _ _ L rs
          replace rL := RI.le _ _ _ _ L rL
          replace qx := qx.le L
          replace e_b22 := L.at_ _ _ e_b22
          replace qd := qd.le L
          replace e_b23 := L.at_ _ _ e_b23
          replace qc := qc.le L
          replace e_b25 := L.at_ _ _ e_b25
          replace tA := RT.le _ _ _ _ L tA
          replace tB := RT.le _ _ _ _ L tB
          replace qy := qy.le L
          have e_b33 := S.at_ 0 rfl
          clear S L
          obtain ⟨HA, ch, eh⟩ := wholeH_key y
          refine LoadX.same (v := .agg #[.slice (some ⟨y1, yo1, none⟩) y.dims.length 0, .slice (some ⟨y2, yo2, none⟩) y.maps.length 0]) e_b33 rfl ?_
          have mi := wholeHI_c _ _ y ⟨_, _, rfl, qy⟩
          simp only [eh] at mi
          refine CallX.madeCT mi fun h1 p1 g L t1 => ?_
          replace Lh := Lh.trans L
          replace hxx := R8.le _ _ _ _ L hxx
          replace ra := RII.le _ _ _ _ L ra
          replace r1 := RI.le _ _ _ _ L r1
          replace r2 := RI.le _ _ _ _ L r2
          replace rs := RII.le _ _ _ _ L rs
          replace rL := RI.le _ _ _ _ L rL
          replace qx := qx.le L
          replace e_b22 := L.at_ _ _ e_b22
          replace qd := qd.le L
          replace e_b23 := L.at_ _ _ e_b23
          replace qc := qc.le L
          replace e_b25 := L.at_ _ _ e_b25
          replace tA := RT.le _ _ _ _ L tA
          replace tB := RT.le _ _ _ _ L tB
          replace qy := qy.le L
          replace e_b33 := L.at_ _ _ e_b33
          refine LoadX.same (v := .agg #[.slice (some ⟨y1, yo1, none⟩) y.dims.length 0, .slice (some ⟨y2, yo2, none⟩) y.maps.length 0]) e_b33 rfl ?_
          have mi := wholeHS_c _ _ y ⟨_, _, rfl, qy⟩
          simp only [eh] at mi
          refine CallX.madeCT mi fun h2 p2 g L t2 => ?_
          replace Lh := Lh.trans L
          replace hxx := R8.le _ _ _ _ L hxx
          replace ra := RII.le _ _ _ _ L ra
          replace r1 := RI.le _ _ _ _ L r1
          replace r2 := RI.le _ _ _ _ L r2
          replace rs := RII.le _ _ _ _ L rs
          replace rL := RI.le _ _ _ _ L rL
          replace qx := qx.le L
          replace e_b22 := L.at_ _ _ e_b22
          replace qd := qd.le L
          replace e_b23 := L.at_ _ _ e_b23
          replace qc := qc.le L
          replace e_b25 := L.at_ _ _ e_b25
          replace tA := RT.le _ _ _ _ L tA
          replace tB := RT.le _ _ _ _ L tB
          replace qy := qy.le L
          replace e_b33 := L.at_ _ _ e_b33
          replace t1 := RT.le _ _ _ _ L t1
          refine CallX.same (drawLens_c _ _ xs hxx hb) ?_
          rintro r g ⟨ln, lk, rfl, L⟩
          replace Lh := Lh.trans L
          replace hxx := R8.le _ _ _ _ L hxx
          replace ra := RII.le _ _ _ _ L ra
          replace r1 := RI.le _ _ _ _ L r1
          replace r2 := RI.le _ _ _ _ L r2
          replace rs := RII.le _ _ _ _ L rs
          replace rL := RI.le _ _ _ _ L rL
          replace qx := qx.le L
          replace e_b22 := L.at_ _ _ e_b22
          replace qd := qd.le L
          replace e_b23 := L.at_ _ _ e_b23
          replace qc := qc.le L
          replace e_b25 := L.at_ _ _ e_b25
          replace tA := RT.le _ _ _ _ L tA
          replace tB := RT.le _ _ _ _ L tB
          replace qy := qy.le L
          replace e_b33 := L.at_ _ _ e_b33
          replace t1 := RT.le _ _ _ _ L t1
          replace t2 := RT.le _ _ _ _ L t2
          refine CallX.madeCW (lensI_c _ ln lk) fun l1 lo1 l2 lo2 g L q1 => ?_
          replace Lh := Lh.trans L
          replace hxx := R8.le _ _ _ _ L hxx
          replace ra := RII.le _ _ _ _ L ra
          replace r1 := RI.le _ _ _ _ L r1
          replace r2 := RI.le _ _ _ _ L r2
          replace rs := RII.le _ _ _ _ L rs
          replace rL := RI.le _ _ _ _ L rL
          replace qx := qx.le L
          replace e_b22 := L.at_ _ _ e_b22
          replace qd := qd.le L
          replace e_b23 := L.at_ _ _ e_b23
          replace qc := qc.le L
          replace e_b25 := L.at_ _ _ e_b25
          replace tA := RT.le _ _ _ _ L tA
          replace tB := RT.le _ _ _ _ L tB
          replace qy := qy.le L
          replace e_b33 := L.at_ _ _ e_b33
          replace t1 := RT.le _ _ _ _ L t1
          replace t2 := RT.le _ _ _ _ L t2
          have S := Sep.start g
          refine S.new fun b40 g S => ?_
          refine S.put 0 rfl fun g S => ?_
          have S := S.recast 0 (cells' := [.slice (some ⟨l1, lo1, none⟩) (lens ln lk).1.dims.length 0, .slice (some ⟨l2, lo2, none⟩) (lens ln lk).1.maps.length 0]) rfl rfl
          have L := S.le
          replace Lh := Lh.trans L
          replace hxx := R8.le _ _ _ _ L hxx
          replace ra := RII.le _ _ _ _ L ra
          replace r1 := RI.le _ _ _ _ L r1
          replace r2 := RI.le _ _ _ _ L r2
          replace rs := RII.le _ _ _ _ L rs
          replace rL := RI.le _ _ _ _ L rL
          replace qx := qx.le L
          replace e_b22 := L.at_ _ _ e_b22
          replace qd := qd.le L
          replace e_b23 := L.at_ _ _ e_b23
          replace qc := qc.le L
          replace e_b25 := L.at_ _ _ e_b25
          replace tA := RT.le _ _ _ _ L tA
          replace tB := RT.le _ _ _ _ L tB
          replace qy := qy.le L
          replace e_b33 := L.at_ _ _ e_b33
          replace t1 := RT.le _ _ _ _ L t1
          replace t2 := RT.le _ _ _ _ L t2
          replace q1 := q1.le L
          have e_b40 := S.at_ 0 rfl
          clear S L
          refine CallX.madeCW (lensS_c _ ln lk) fun m1 mo1 m2 mo2 g L q2 => ?_
          replace Lh := Lh.trans L
          replace hxx := R8.le _ _ _ _ L hxx
          replace ra := RII.le _ _ _ _ L ra
          replace r1 := RI.le _ _ _ _ L r1
          replace r2 := RI.le _ _ _ _ L r2
          replace rs := RII.le _ _ _ _ L rs
          replace rL := RI.le _ _ _ _ L rL
          replace qx := qx.le L
          replace e_b22 := L.at_ _ _ e_b22
          replace qd := qd.le L
          replace e_b23 := L.at_ _ _ e_b23
          replace qc := qc.le L
          replace e_b25 := L.at_ _ _ e_b25
          replace tA := RT.le _ _ _ _ L tA
          replace tB := RT.le _ _ _ _ L tB
          replace qy := qy.le L
          replace e_b33 := L.at_ _ _ e_b33
          replace t1 := RT.le _ _ _ _ L t1
          replace t2 := RT.le _ _ _ _ L t2
          replace q1 := q1.le L
          replace e_b40 := L.at_ _ _ e_b40
          have S := Sep.start g
          refine S.new fun b42 g S => ?_
          refine S.put 0 rfl fun g S => ?_
          have S := S.recast 0 (cells' := [.slice (some ⟨m1, mo1, none⟩) (lens ln lk).1.dims.length 0, .slice (some ⟨m2, mo2, none⟩) (lens ln lk).1.maps.length 0]) rfl rfl
          have L := S.le
          replace Lh := Lh.trans L
          replace hxx := R8.le _ _ _ _ L hxx
          replace ra := RII.le _ _ _ _ L ra
          replace r1 := RI.le _ _ _ _ L r1
          replace r2 := RI.le _ _ _ _ L r2
          replace rs := RII.le _ _ _ _ L rs
          replace rL := RI.le _ _ _ _ L rL
          replace qx := qx.le L
          replace e_b22 := L.at_ _ _ e_b22
          replace qd := qd.le L
          replace e_b23 := L.at_ _ _ e_b23
          replace qc := qc.le L
          replace e_b25 := L.at_ _ _ e_b25
          replace tA := RT.le _ _ _ _ L tA
          replace tB := RT.le _ _ _ _ L tB
          replace qy := qy.le L
          replace e_b33 := L.at_ _ _ e_b33
          replace t1 := RT.le _ _ _ _ L t1
          replace t2 := RT.le _ _ _ _ L t2
          replace q1 := q1.le L
          replace e_b40 := L.at_ _ _ e_b40
          replace q2 := q2.le L
          have e_b42 := S.at_ 0 rfl
          clear S L
          refine BIf.yes (by simp) ?_
          refine CallX.same (torsions5_c _ _ _ _ _ t1 t2 rfl) ?_
          rintro r g ⟨rfl, rfl⟩
          repeat (first | refine BIf.yes rfl ?_ | refine BIf.yes (eq_selfI _) ?_ | refine BIf.yes (eq_selfB _) ?_)
          refine LoadX.same e_b40 rfl ?_
          refine LoadX.same e_b42 rfl ?_
          refine CallX.same (likeInts_c _ _ _ _ _ q1.1 q2.1 rfl) ?_
          rintro r g ⟨rfl, rfl⟩
          repeat (first | refine BIf.yes rfl ?_ | refine BIf.yes (eq_selfI _) ?_ | refine BIf.yes (eq_selfB _) ?_)
          refine LoadX.same e_b40 rfl ?_
          refine LoadX.same e_b42 rfl ?_
          refine CallX.same (maps5_c _ _ _ _ _ q1.2 q2.2 rfl) ?_
          rintro r g ⟨rfl, rfl⟩
          repeat (first | refine BIf.yes rfl ?_ | refine BIf.yes (eq_selfI _) ?_ | refine BIf.yes (eq_selfB _) ?_)
          exact FinX.keep hw Lh rfl ⟨rfl, rfl⟩)

end Go.Gl

/- Chapter 3: totals, the second walk over the cells: the numbers of the maps. No condition. -/
import Derived.Test.YtionapmdibdfpaaFnTo4
set_option linter.unusedVariables false
set_option linter.unusedSimpArgs false
namespace Go.Gl
open Go.Proofs Go.Proofs.Ytionapmdibdfpaa Go.Pl

theorem sideT_le (c i : Nat) : sideT c i ≤ 1 := by unfold sideT; split <;> omega
theorem TellT.row {x : SDouble} {g : Nat → Nat → Nat → Int} {i j s k L : Nat} (h : TellT x g (dn i j s k L)) (hL : 1 ≤ i + j → ∀ c, sideT c i = s → (c + 1 = i ∨ c = i) → dN x (i + j - 1) c ≤ L) : TellT x g (dn i j s (k + 1) 0) := h.same fun n i' k' c m h1 h2 h3 h4 h5 h6 => by
  unfold dn
  refine decide_eq_decide.2 ?_
  by_cases q : i' = i ∧ n - i' = j ∧ sideT c i' = s
  · obtain ⟨rfl, q2, q3⟩ := q
    have hi := dN_pos h3
    have hn : n = i' + j := by omega
    subst hn
    have := hL h1 c q3 h6
    omega
  · omega
theorem TellT.turn {x : SDouble} {g : Nat → Nat → Nat → Int} {i j K : Nat} (h : TellT x g (dn i j 0 K 0)) (hK : dN x (i + j) i ≤ K) : TellT x g (dn i j 1 0 0) := h.same fun n i' k' c m h1 h2 h3 h4 h5 h6 => by
  unfold dn
  refine decide_eq_decide.2 ?_
  have hs := sideT_le c i'
  by_cases q : i' = i ∧ n - i' = j
  · obtain ⟨rfl, q2⟩ := q
    have hi := dN_pos h3
    have hn : n = i' + j := by omega
    subst hn
    omega
  · omega
theorem TellT.cell {x : SDouble} {g : Nat → Nat → Nat → Int} {i j K : Nat} (h : TellT x g (dn i j 1 K 0)) (hK : dN x (i + j) i ≤ K) : TellT x g (dn i (j + 1) 0 0 0) := h.same fun n i' k' c m h1 h2 h3 h4 h5 h6 => by
  unfold dn
  refine decide_eq_decide.2 ?_
  have hs := sideT_le c i'
  by_cases q : i' = i ∧ n - i' = j
  · obtain ⟨rfl, q2⟩ := q
    have hi := dN_pos h3
    have hn : n = i' + j := by omega
    subst hn
    omega
  · omega
theorem TellT.col {x : SDouble} {g : Nat → Nat → Nat → Int} {i : Nat} (h : TellT x g (dn i (dH x) 0 0 0)) : TellT x g (dn (i + 1) 0 0 0 0) := h.same fun n i' k' c m h1 h2 h3 h4 h5 h6 => by
  unfold dn
  refine decide_eq_decide.2 ?_
  have hi := dN_pos h3
  omega
theorem TellT.all {x : SDouble} {g : Nat → Nat → Nat → Int} (h : TellT x g (dn (dW x) 0 0 0 0)) : TellT x g fun _ _ _ _ _ => true := h.same fun n i' k' c m h1 h2 h3 h4 h5 h6 => by
  have hi := dN_pos h3
  exact decide_eq_true (.inl hi.2.1)
theorem TellT.start (x : SDouble) : TellT x (fun _ _ _ => 0) (dn 0 0 0 0 0) := fun n i k c m h1 h2 h3 h4 h5 => by
  rw [if_neg]
  unfold dn
  simp
theorem addAt_tab3 {p : Int} {n : Nat} {r w : Nat → Nat} {f : Nat → Nat → Nat → Int} {k i t : Nat} (hk : k < n) (hi : i < r k) (ht : t < w k) (y : Int) :
    addAt p (tab3 n r w f) k i t y = tab3 n r w fun a b c => if a = k ∧ b = i ∧ c = t then (f a b c + y) % p else f a b c := by
  unfold addAt
  have e : ent (mat (tab3 n r w f) k) i t = f k i t := by unfold ent; rw [tab3_mat hk, tabR_row hi, tab_ith ht]
  rw [e, tab3_set hk hi]
  refine tab3_congr fun a b c _ _ _ => ?_
  by_cases h : a = k ∧ b = i ∧ c = t
  · obtain ⟨rfl, rfl, rfl⟩ := h
    rw [if_pos ⟨rfl, rfl, rfl⟩]
  · rw [if_neg h, if_neg h]
theorem tab3_ent {n : Nat} {r w : Nat → Nat} {f : Nat → Nat → Nat → Int} {k i t : Nat} (hk : k < n) (hi : i < r k) (ht : t < w k) : ent (mat (tab3 n r w f) k) i t = f k i t := by
  unfold ent
  rw [tab3_mat hk, tabR_row hi, tab_ith ht]
/-- the rows across and down of a cell -/
theorem acr_row {x : SDouble} (h : DShape x) {i j : Nat} (hi : i < dW x) (hj : j < dH x) : (cel x.across i j).length = dN x (i + j) i ∧ ∀ k, k < (cel x.across i j).length → ((row (cel x.across i j) k).length = (dimZ x ((i : Int) - 1) j).toNat ∧ ∀ t, 0 ≤ ith (row (cel x.across i j) k) t ∧ ith (row (cel x.across i j) k) t < x.prime) := by
  obtain ⟨t1, t2⟩ := h.acr.cell i j
  rw [celZ_in hi hj] at t1 t2
  have hp := prime_rng h.p
  exact ⟨by rw [dN_in]; omega, fun k hk => ⟨(t2.row hk).1, fun t => (t2.row hk).2.ith (by omega) t⟩⟩
theorem dwn_row {x : SDouble} (h : DShape x) {i j : Nat} (hi : i < dW x) (hj : j < dH x) : (cel x.down i j).length = dN x (i + j) i ∧ ∀ k, k < (cel x.down i j).length → ((row (cel x.down i j) k).length = (dimZ x i ((j : Int) - 1)).toNat ∧ ∀ t, 0 ≤ ith (row (cel x.down i j) k) t ∧ ith (row (cel x.down i j) k) t < x.prime) := by
  obtain ⟨t1, t2⟩ := h.dwn.cell i j
  rw [celZ_in hi hj] at t1 t2
  have hp := prime_rng h.p
  exact ⟨by rw [dN_in]; omega, fun k hk => ⟨(t2.row hk).1, fun t => (t2.row hk).2.ith (by omega) t⟩⟩
theorem acr_dim (x : SDouble) {i j : Nat} (hi : 1 ≤ i) : (dimZ x ((i : Int) - 1) j).toNat = dN x (i + j - 1) (i - 1) := by
  unfold dN
  rw [show ((i : Int) - 1) = ((i - 1 : Nat) : Int) by omega, show ((i + j - 1 : Nat) : Int) - ((i - 1 : Nat) : Int) = j by omega]
theorem acr_dim0 (x : SDouble) (j : Nat) : (dimZ x (((0 : Nat) : Int) - 1) j).toNat = 0 := by rw [dimZ_out (by omega)]; rfl
theorem dwn_dim (x : SDouble) {i j : Nat} (hj : 1 ≤ j) : (dimZ x i ((j : Int) - 1)).toNat = dN x (i + j - 1) i := by
  unfold dN
  rw [show ((i + j - 1 : Nat) : Int) - (i : Int) = (j : Int) - 1 by omega]
theorem dwn_dim0 (x : SDouble) (i : Nat) : (dimZ x i (((0 : Nat) : Int) - 1)).toNat = 0 := by rw [dimZ_out (by omega)]; rfl
theorem piece_acr (x : SDouble) {i j k : Nat} (hi : 1 ≤ i) : pieceT x (i + j) i k (i - 1) = row (cel x.across i j) k := by
  unfold pieceT
  rw [if_pos (by omega), Nat.add_sub_cancel_left]
theorem piece_dwn (x : SDouble) {i j k : Nat} : pieceT x (i + j) i k i = row (cel x.down i j) k := by
  unfold pieceT
  rw [if_neg (by omega), if_pos rfl, Nat.add_sub_cancel_left]
theorem offT_bd {x : SDouble} (h : DHead x) (n i : Nat) : offT x n i ≤ 16 := by
  have h1 := offT_le x n i
  have h2 : ∀ k, offT x n k ≤ 4 * k := fun k => by
    induction k with
    | zero => exact Nat.le_refl _
    | succ k ih => rw [offT_succ]; have := dN_le h n k; omega
  have h3 : dimT x n = offT x n (dW x) := (dimT_eq x (.inr (Nat.le_refl _))).symm
  have := h2 (dW x)
  have := h.w
  omega
/-- what is owned while the numbers of the maps are told -/
abbrev RsT2 (m : Nat) (x : SDouble) (P : DP) (b2 b7 b10 bm bM oM bd od qd : Nat) (vl : Value) (f : Nat → Nat → Nat → Int) : List Res :=
  [.bx b7 77 1 [.map (some bm)], .bx bm (encM (atL x (dW x) 0)) 0 [], .bx b2 33 4 (cD x P), .bx b10 41 4 [.int .i64 x.prime, .slice (some ⟨bd, od, none⟩) qd 0, .slice (some ⟨bM, oM, none⟩) (topT x) 0, vl], .tr OIII.fr m (.slice (some ⟨bM, oM, none⟩) (topT x) 0) (tab3 (topT x) (fun a => dimT x (a + 1)) (fun a => dimT x a) f)]
def StT2 (m : Nat) (x : SDouble) (P : DP) (b2 b7 b10 bm bM oM bd od qd : Nat) (vl : Value) (i j : Nat) (Rs : List Res) : Prop :=
  ∃ f, TellT x f (dn i j 0 0 0) ∧ Rs = RsT2 m x P b2 b7 b10 bm bM oM bd od qd vl f

set_option maxHeartbeats 4000000 in
theorem total2_c (m : Nat) (h0 : AH) (x : SDouble) (P : DP) (q : QD h0 x P) (hd : DShape x) (b2 b7 b10 bm bM oM bd od qd : Nat) (vl : Value) (i j : Nat) (hi : i < dW x) (hj : j < dH x) :
    Does Try.prog 68 [.int .i64 i, .int .i64 j, .pointer (some ⟨b7, 0, none⟩), .pointer (some ⟨b2, 0, none⟩), .pointer (some ⟨b10, 0, none⟩)] m h0 (StT2 m x P b2 b7 b10 bm bM oM bd od qd vl i j) (StT2 m x P b2 b7 b10 bm bM oM bd od qd vl i (j + 1)) := by
  refine Does.of fun M hb h Rs hlen hle hs S => ?_
  obtain ⟨g0, ht0, rfl⟩ := hs
  refine ACalls.of Tt.tab Try.func68 rfl (by kernel_rfl) Try.ntmps68 _ rfl rfl (fun hw => ?_)
  have hW := hd.w
  have hH := hd.h
  have hp := prime_rng hd.p
  have hn : i + j ≤ topT x := by unfold topT; omega
  have ht4 : topT x ≤ 6 := by unfold topT; omega
  have c2 := RS.cells q.2.1 rfl
  have c3 := RS.cells q.2.2 rfl
  have l2 : x.across.length = dW x := hd.acr.1
  have l3 : x.down.length = dW x := hd.dwn.1
  have l4 : (ten x.across i).length = dH x := hd.acr.2.1 i hi
  have l5 : (ten x.down i).length = dH x := hd.dwn.2.1 i hi
  refine LoadX.same (v := .map (some bm)) (S.at_ 0 rfl) rfl ?_
  refine S.lookM 1 rfl (atL_get x hi hj) ?_
  refine LoadX.same (v := vD2 x P) (S.at_ 2 rfl) rfl ?_
  refine IdxX.mk (by omega) (by omega) ?_
  refine c2.ten (hle.trans S.le) (show i < x.across.length by omega) fun b5 o5 h5 => ?_
  have c5 := h5.cells rfl
  refine IdxX.mk (by omega) (by omega) ?_
  refine c5.mat (hle.trans S.le) (show j < (ten x.across i).length by omega) fun b6 o6 h6 => ?_
  have c6 := h6.cells rfl
  have eM : mat (ten x.across i) j = cel x.across i j := rfl
  rw [eM] at c6 ⊢
  obtain ⟨r1, r2⟩ := acr_row hd hi hj
  have r3 := dN_le hd.toDHead (i + j) i
  have hz : ∀ k t, k < (cel x.across i j).length → t < (row (cel x.across i j) k).length → 1 ≤ i ∧ t < dN x (i + j - 1) (i - 1) ∧ ith (pieceT x (i + j) i k (i - 1)) t = ith (row (cel x.across i j) k) t := fun k t hk ht => by
    have e := (r2 k hk).1
    have h1 : 1 ≤ i := by
      rcases Nat.eq_zero_or_pos i with rfl | h
      · rw [acr_dim0] at e; omega
      · exact h
    rw [acr_dim x h1] at e
    exact ⟨h1, by omega, by rw [piece_acr x h1]⟩
  have hL : ∀ k, k < (cel x.across i j).length → 1 ≤ i + j → ∀ c, sideT c i = 0 → (c + 1 = i ∨ c = i) → dN x (i + j - 1) c ≤ (row (cel x.across i j) k).length := fun k hk _ c hs hc => by
    have e := (r2 k hk).1
    unfold sideT at hs
    split at hs
    · rw [acr_dim x (by omega)] at e
      have : c = i - 1 := by omega
      subst this
      omega
    · omega
  refine ⟨⟨[0, 1, 2, 3, 4, 7, 28, 29, 30], fun n' vs g2 => ∃ (k : Nat) (f : Nat → Nat → Nat → Int), n' = (cel x.across i j).length - k ∧ k ≤ (cel x.across i j).length ∧ TellT x f (dn i j 0 k 0) ∧ SepM M m hb g2 (RsT2 m x P b2 b7 b10 bm bM oM bd od qd vl f) ∧
    vs = [.int .i64 i, .int .i64 j, .pointer (some ⟨b7, 0, none⟩), .pointer (some ⟨b2, 0, none⟩), .pointer (some ⟨b10, 0, none⟩), .int .i64 (offT x (i + j) i : Nat), .slice (some ⟨b6, o6, none⟩) (cel x.across i j).length 0, .int .i64 (cel x.across i j).length, .int .i64 k], _, ⟨0, g0, rfl, Nat.zero_le _, ht0, S, rfl⟩, ?_⟩⟩
  clear S ht0
  rintro n' vs g ⟨k, f, rfl, hk, ht, S, rfl⟩
  refine BIf.mk (fun h2 => ?_) (fun h2 => ?_)
  · have hlt : k < (cel x.across i j).length := by simpa using h2
    obtain ⟨e1, e2⟩ := r2 k hlt
    have e4 := hd.dim ((i : Int) - 1) j
    have e5 : (row (cel x.across i j) k).length ≤ 4 := by omega
    refine IdxX.mk (by omega) (by omega) ?_
    refine c6.row (hle.trans S.le) hlt fun b8 o8 c8 => ?_
    refine ⟨⟨[0, 1, 2, 3, 4, 7, 8, 28, 29, 30, 35, 36, 37], fun n' vs g2 => ∃ (t : Nat) (f : Nat → Nat → Nat → Int), n' = (row (cel x.across i j) k).length - t ∧ t ≤ (row (cel x.across i j) k).length ∧ TellT x f (dn i j 0 k t) ∧ SepM M m hb g2 (RsT2 m x P b2 b7 b10 bm bM oM bd od qd vl f) ∧
      vs = [.int .i64 i, .int .i64 j, .pointer (some ⟨b7, 0, none⟩), .pointer (some ⟨b2, 0, none⟩), .pointer (some ⟨b10, 0, none⟩), .int .i64 (offT x (i + j) i : Nat), .int .i64 k, .slice (some ⟨b6, o6, none⟩) (cel x.across i j).length 0, .int .i64 (cel x.across i j).length, .int .i64 k, .slice (some ⟨b8, o8, none⟩) (row (cel x.across i j) k).length 0, .int .i64 (row (cel x.across i j) k).length, .int .i64 t], _, ⟨0, f, rfl, Nat.zero_le _, ht, S, rfl⟩, ?_⟩⟩
    clear S ht f
    rintro n' vs g ⟨t, f, rfl, htl, ht, S, rfl⟩
    refine BIf.mk (fun h3 => ?_) (fun h3 => ?_)
    · have h3 : t < (row (cel x.across i j) k).length := by simpa using h3
      obtain ⟨z1, z2, z3⟩ := hz k t hlt h3
      have e3 := e2 t
      have d1 := offT_bd hd.toDHead (i + j) i
      have d2 := offT_bd hd.toDHead (i + j - 1) (i - 1)
      have hk2 : k < dN x (i + j) i := by omega
      have st := TellT.step (p := x.prime) (c0 := (i - 1)) ht (by omega) hn hk2 (by omega) z2 (.inl ⟨by omega, rfl⟩) (by rw [z3]; exact e3)
      rw [z3] at st
      obtain ⟨st0, st1⟩ := st
      have p1 := place_lt hk2
      have p2 := place_lt z2
      refine IdxX.mk (by omega) (by omega) ?_
      refine c8.ith (hle.trans S.le) h3 ?_
      generalize ith (row (cel x.across i j) k) t = y at e3 st1 ⊢
      refine DrawX.of Tt.tab follows_any [] [17] [0, 1, 2, 3, 4, 5, 6, 7, 8, 9, 10, 11, 12, 13, 14, 15, 16, 17] rfl (by kernel_rfl) (by kernel_rfl) ?_
      refine LoadX.same (v := .agg #[.int .i64 x.prime, .slice (some ⟨bd, od, none⟩) qd 0, .slice (some ⟨bM, oM, none⟩) (topT x) 0]) (S.at_ 3 rfl) rfl ?_
      refine WR.as (r := ((i + j - 1 + 1 : Nat) : Int)) (by omega) ?_
      refine WR.as (r := ((offT x (i + j) i + k : Nat) : Int)) (by omega) ?_
      refine LoadX.same (v := .map (some bm)) (S.at_ 0 rfl) rfl ?_
      refine WR.as (r := ((i - 1 : Nat) : Int)) (by omega) ?_
      have lk := atL_get x (a := i - 1) (b := j) (by omega) hj
      rw [show i - 1 + j = i + j - 1 by omega] at lk
      refine S.lookM 1 rfl lk ?_
      refine WR.as (r := ((offT x (i + j - 1) (i - 1) + t : Nat) : Int)) (by omega) ?_
      have q1 : i + j - 1 < topT x := by omega
      have q2 : offT x (i + j) i + k < dimT x (i + j - 1 + 1) := by rw [show i + j - 1 + 1 = i + j by omega]; exact p1
      refine S.lendT 4 (x' := tab3 (topT x) (fun a => dimT x (a + 1)) (fun a => dimT x a) fun a b c => if a = i + j - 1 ∧ b = offT x (i + j) i + k ∧ c = offT x (i + j - 1) (i - 1) + t then (f a b c + y) % x.prime else f a b c) rfl (fun F hF => ?_) fun g S => ?_
      · have ad := addAt_c g x.prime bM oM m (topT x) bd od qd (tab3 (topT x) (fun a => dimT x (a + 1)) (fun a => dimT x a) f) (i + j - 1) (offT x (i + j) i + k) (offT x (i + j - 1) (i - 1) + t) y F hp (tab3_length _ _ _ _) hF (by rw [tab3_length]; exact q1) (by rw [tab3_mat q1, tabR_length]; exact q2) (by rw [tab3_mat q1, tabR_row q2, tab_length]; exact p2) (by rw [tab3_length]; omega) (by rw [tab3_ent q1 q2 p2, st0]; omega) (by omega)
        rw [addAt_tab3 q1 q2 p2] at ad
        exact ad
      refine WR.i64 ?_
      exact ⟨(row (cel x.across i j) k).length - (t + 1), by omega, t + 1, _, rfl, h3, st1, S, rfl⟩
    · have ht2 : t = (row (cel x.across i j) k).length := by simp at h3; omega
      subst ht2
      refine WR.i64 ?_
      exact ⟨(cel x.across i j).length - (k + 1), by omega, k + 1, f, rfl, hlt, ht.row (hL k hlt), S, rfl⟩
  · have hk2 : k = (cel x.across i j).length := by simp at h2; omega
    subst hk2
    have ht1 := ht.turn (by omega)
    clear ht eM c6 c5 h6 h5 hz hL
    refine LoadX.same (v := vD3 x P) (S.at_ 2 rfl) rfl ?_
    refine IdxX.mk (by omega) (by omega) ?_
    refine c3.ten (hle.trans S.le) (show i < x.down.length by omega) fun b5 o5 h5 => ?_
    have c5 := h5.cells rfl
    refine IdxX.mk (by omega) (by omega) ?_
    refine c5.mat (hle.trans S.le) (show j < (ten x.down i).length by omega) fun b6 o6 h6 => ?_
    have c6 := h6.cells rfl
    have eM : mat (ten x.down i) j = cel x.down i j := rfl
    rw [eM] at c6 ⊢
    obtain ⟨r1, r2⟩ := dwn_row hd hi hj
    have r3 := dN_le hd.toDHead (i + j) i
    have hz : ∀ k t, k < (cel x.down i j).length → t < (row (cel x.down i j) k).length → 1 ≤ j ∧ t < dN x (i + j - 1) i ∧ ith (pieceT x (i + j) i k i) t = ith (row (cel x.down i j) k) t := fun k t hk ht => by
      have e := (r2 k hk).1
      have h1 : 1 ≤ j := by
        rcases Nat.eq_zero_or_pos j with rfl | h
        · rw [dwn_dim0] at e; omega
        · exact h
      rw [dwn_dim x h1] at e
      exact ⟨h1, by omega, by rw [piece_dwn x]⟩
    have hL : ∀ k, k < (cel x.down i j).length → 1 ≤ i + j → ∀ c, sideT c i = 1 → (c + 1 = i ∨ c = i) → dN x (i + j - 1) c ≤ (row (cel x.down i j) k).length := fun k hk h1 c hs hc => by
      have e := (r2 k hk).1
      unfold sideT at hs
      split at hs
      · omega
      · have : c = i := by omega
        subst this
        rcases Nat.eq_zero_or_pos j with rfl | h
        · rw [dN_out (.inl (by omega))]; omega
        · rw [dwn_dim x h] at e; omega
    refine ⟨⟨[0, 1, 2, 3, 4, 7, 69, 70, 71], fun n' vs g2 => ∃ (k : Nat) (f : Nat → Nat → Nat → Int), n' = (cel x.down i j).length - k ∧ k ≤ (cel x.down i j).length ∧ TellT x f (dn i j 1 k 0) ∧ SepM M m hb g2 (RsT2 m x P b2 b7 b10 bm bM oM bd od qd vl f) ∧
      vs = [.int .i64 i, .int .i64 j, .pointer (some ⟨b7, 0, none⟩), .pointer (some ⟨b2, 0, none⟩), .pointer (some ⟨b10, 0, none⟩), .int .i64 (offT x (i + j) i : Nat), .slice (some ⟨b6, o6, none⟩) (cel x.down i j).length 0, .int .i64 (cel x.down i j).length, .int .i64 k], _, ⟨0, f, rfl, Nat.zero_le _, ht1, S, rfl⟩, ?_⟩⟩
    clear S ht1
    rintro n' vs g ⟨k, f, rfl, hk, ht, S, rfl⟩
    refine BIf.mk (fun h2 => ?_) (fun h2 => ?_)
    · have hlt : k < (cel x.down i j).length := by simpa using h2
      obtain ⟨e1, e2⟩ := r2 k hlt
      have e4 := hd.dim i ((j : Int) - 1)
      have e5 : (row (cel x.down i j) k).length ≤ 4 := by omega
      refine IdxX.mk (by omega) (by omega) ?_
      refine c6.row (hle.trans S.le) hlt fun b8 o8 c8 => ?_
      refine ⟨⟨[0, 1, 2, 3, 4, 7, 12, 69, 70, 71, 76, 77, 78], fun n' vs g2 => ∃ (t : Nat) (f : Nat → Nat → Nat → Int), n' = (row (cel x.down i j) k).length - t ∧ t ≤ (row (cel x.down i j) k).length ∧ TellT x f (dn i j 1 k t) ∧ SepM M m hb g2 (RsT2 m x P b2 b7 b10 bm bM oM bd od qd vl f) ∧
        vs = [.int .i64 i, .int .i64 j, .pointer (some ⟨b7, 0, none⟩), .pointer (some ⟨b2, 0, none⟩), .pointer (some ⟨b10, 0, none⟩), .int .i64 (offT x (i + j) i : Nat), .int .i64 k, .slice (some ⟨b6, o6, none⟩) (cel x.down i j).length 0, .int .i64 (cel x.down i j).length, .int .i64 k, .slice (some ⟨b8, o8, none⟩) (row (cel x.down i j) k).length 0, .int .i64 (row (cel x.down i j) k).length, .int .i64 t], _, ⟨0, f, rfl, Nat.zero_le _, ht, S, rfl⟩, ?_⟩⟩
      clear S ht f
      rintro n' vs g ⟨t, f, rfl, htl, ht, S, rfl⟩
      refine BIf.mk (fun h3 => ?_) (fun h3 => ?_)
      · have h3 : t < (row (cel x.down i j) k).length := by simpa using h3
        obtain ⟨z1, z2, z3⟩ := hz k t hlt h3
        have e3 := e2 t
        have d1 := offT_bd hd.toDHead (i + j) i
        have d2 := offT_bd hd.toDHead (i + j - 1) i
        have hk2 : k < dN x (i + j) i := by omega
        have st := TellT.step (p := x.prime) (c0 := i) ht (by omega) hn hk2 (by omega) z2 (.inr ⟨rfl, rfl⟩) (by rw [z3]; exact e3)
        rw [z3] at st
        obtain ⟨st0, st1⟩ := st
        have p1 := place_lt hk2
        have p2 := place_lt z2
        refine IdxX.mk (by omega) (by omega) ?_
        refine c8.ith (hle.trans S.le) h3 ?_
        generalize ith (row (cel x.down i j) k) t = y at e3 st1 ⊢
        refine DrawX.of Tt.tab follows_any [] [17] [0, 1, 2, 3, 4, 5, 6, 7, 8, 9, 10, 11, 12, 13, 14, 15, 16, 17] rfl (by kernel_rfl) (by kernel_rfl) ?_
        refine LoadX.same (v := .agg #[.int .i64 x.prime, .slice (some ⟨bd, od, none⟩) qd 0, .slice (some ⟨bM, oM, none⟩) (topT x) 0]) (S.at_ 3 rfl) rfl ?_
        refine WR.as (r := ((i + j - 1 + 1 : Nat) : Int)) (by omega) ?_
        refine WR.as (r := ((offT x (i + j) i + k : Nat) : Int)) (by omega) ?_
        refine LoadX.same (v := .map (some bm)) (S.at_ 0 rfl) rfl ?_
        refine WR.as (r := ((j - 1 : Nat) : Int)) (by omega) ?_
        have lk := atL_get x (a := i) (b := j - 1) hi (by omega)
        rw [show i + (j - 1) = i + j - 1 by omega] at lk
        refine S.lookM 1 rfl lk ?_
        refine WR.as (r := ((offT x (i + j - 1) i + t : Nat) : Int)) (by omega) ?_
        have q1 : i + j - 1 < topT x := by omega
        have q2 : offT x (i + j) i + k < dimT x (i + j - 1 + 1) := by rw [show i + j - 1 + 1 = i + j by omega]; exact p1
        refine S.lendT 4 (x' := tab3 (topT x) (fun a => dimT x (a + 1)) (fun a => dimT x a) fun a b c => if a = i + j - 1 ∧ b = offT x (i + j) i + k ∧ c = offT x (i + j - 1) i + t then (f a b c + y) % x.prime else f a b c) rfl (fun F hF => ?_) fun g S => ?_
        · have ad := addAt_c g x.prime bM oM m (topT x) bd od qd (tab3 (topT x) (fun a => dimT x (a + 1)) (fun a => dimT x a) f) (i + j - 1) (offT x (i + j) i + k) (offT x (i + j - 1) i + t) y F hp (tab3_length _ _ _ _) hF (by rw [tab3_length]; exact q1) (by rw [tab3_mat q1, tabR_length]; exact q2) (by rw [tab3_mat q1, tabR_row q2, tab_length]; exact p2) (by rw [tab3_length]; omega) (by rw [tab3_ent q1 q2 p2, st0]; omega) (by omega)
          rw [addAt_tab3 q1 q2 p2] at ad
          exact ad
        refine WR.i64 ?_
        exact ⟨(row (cel x.down i j) k).length - (t + 1), by omega, t + 1, _, rfl, h3, st1, S, rfl⟩
      · have ht2 : t = (row (cel x.down i j) k).length := by simp at h3; omega
        subst ht2
        refine WR.i64 ?_
        exact ⟨(cel x.down i j).length - (k + 1), by omega, k + 1, f, rfl, hlt, ht.row (hL k hlt), S, rfl⟩
    · have hk2 : k = (cel x.down i j).length := by simp at h2; omega
      subst hk2
      exact FinX.here (by have := S.le.len; omega) ⟨rfl, _, ⟨f, ht.cell (by omega), rfl⟩, S⟩

end Go.Gl

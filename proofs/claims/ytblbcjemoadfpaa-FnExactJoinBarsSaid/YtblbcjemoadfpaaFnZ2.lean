/- Chapter 9: rows of bars are merged and sorted in their place. Printed by mk_z2.py. No condition. -/
import Derived.Test.YtblbcjemoadfpaaFnZ1
set_option linter.unusedVariables false
set_option linter.unusedSimpArgs false
namespace Go.Gl
open Go.Proofs Go.Proofs.Ytblbcjemoadfpaa Go.Pl

theorem WR.u64 {x : Int} {f : Int → Prop} (h : f x) (h1 : 0 ≤ x := by omega) (h2 : x ≤ 9223372036854775807 := by omega) : WR .u64 x f :=
  ⟨by rw [show IntKind.u64.wrap x = x by simp [IntKind.wrap, IntKind.bits, IntKind.signed]; omega]; exact h⟩
theorem half_eq (x : Nat) : (x : Int).fdiv (2 ^ min (1 : Int).toNat IntKind.u64.bits) = ((x / 2 : Nat) : Int) := by
  rw [show (2 : Int) ^ min (1 : Int).toNat IntKind.u64.bits = 2 by decide, Int.fdiv_eq_ediv_of_nonneg _ (by decide)]
  omega
theorem shR_zero {f : Nat → SBar} {a t : Nat} : f t = shR f a a t := by
  unfold shR
  rw [if_neg (by omega)]
  split
  · rename_i e; rw [e]
  · rfl
theorem shR_step {D : List SBar} {f : Nat → SBar} {a k t : Nat} (ha : a ≤ k) (hk : k + 1 < D.length) (e : ∀ t, bar D t = shR f a k t) : bar (sw D k (k + 1)) t = shR f a (k + 1) t := by
  rw [bar_sw (by omega) hk, e, e, e]
  unfold shR
  repeat' split
  all_goals first | (exfalso; omega) | rfl | (congr 1; omega)
theorem shL_zero {f : Nat → SBar} {m t : Nat} : f t = shL f m m t := by
  unfold shL
  rw [if_neg (by omega)]
  split
  · rename_i e; rw [e]
  · rfl
theorem shL_step {D : List SBar} {f : Nat → SBar} {m k t : Nat} (h0 : 0 < k) (ha : k ≤ m) (hk : m < D.length) (e : ∀ t, bar D t = shL f m k t) : bar (sw D k (k - 1)) t = shL f m (k - 1) t := by
  rw [bar_sw (by omega) (by omega), e, e, e]
  unfold shL
  repeat' split
  all_goals first | (exfalso; omega) | rfl | (congr 1; omega)

set_option maxHeartbeats 4000000 in
theorem symMerge_c : ∀ (d : Nat) (h : AH) (b c : Nat) (L : List SBar) (a m e : Nat), e - a ≤ d → look h b = some ⟨cellsB L, some (91, 3)⟩ → a < m → m < e → e ≤ L.length → L.length ≤ 1000 → Val L → SortedOn L a m → SortedOn L m e →
    DoesB Try.prog 124 [slV b L.length c, .int .i64 a, .int .i64 m, .int .i64 e, cmpV] h b 91 (fun M => Merged L M a e)
  | 0, h, b, c, L, a, m, e, hd, hl, ham, hme, heL, h3, hv, l1, l2 => by omega
  | d + 1, h, b, c, L, a, m, e, hd, hl, ham, hme, heL, h3, hv, l1, l2 => by
    unfold DoesB
    refine ACalls.of Tt.tab Try.func124 rfl (by kernel_rfl) Try.ntmps124 _ rfl rfl (fun hw => ?_)
    have S := SepM.boxB hl
    refine WR.as (r := ((m - a : Nat) : Int)) (by omega) ?_
    refine BIf.mk (fun h1 => ?_) (fun h1 => ?_)
    · have hm1 : m = a + 1 := by simp at h1; omega
      refine ⟨⟨[0, 1, 2, 3, 4, 10, 11], fun n' vs g => ∃ i j : Nat, n' = j - i ∧ m ≤ i ∧ i ≤ j ∧ j ≤ e ∧ (i = m ∨ key (bar L (i - 1)) < key (bar L a)) ∧ (j = e ∨ key (bar L a) ≤ key (bar L j)) ∧ SepM (fun i => i = b) 0 (hide (fun i => i = b) h) g [.bx b 91 3 (cellsB L)] ∧
        vs = [slV b L.length c, .int .i64 a, .int .i64 m, .int .i64 e, cmpV, .int .i64 i, .int .i64 j], _, ⟨m, e, rfl, Nat.le_refl _, by omega, Nat.le_refl _, .inl rfl, .inl rfl, S, rfl⟩, ?_⟩⟩
      clear S
      rintro n' vs g ⟨i, j, rfl, hmi, hij, hje, k1, k2, S, rfl⟩
      refine BIf.mk (fun h2 => ?_) (fun h2 => ?_)
      · have hlt : i < j := by simp at h2; omega
        refine WR.as (r := ((i + j : Nat) : Int)) (by omega) ?_
        refine WR.u64 ?_
        refine ⟨by decide, ?_⟩
        rw [half_eq]
        refine WR.i64 ?_
        obtain ⟨x, hx⟩ : ∃ x : Nat, x = (i + j) / 2 := ⟨_, rfl⟩
        rw [← hx]
        refine DrawX.of Tt.tab follows_any [] [] [0, 1, 2, 3, 4, 5, 6, 7, 8, 9, 10] rfl (by kernel_rfl) (by kernel_rfl) ?_
        refine IdxX.mk (by omega) (by omega) ?_
        refine LoadX.same (v := vB (bar L (x))) (S.at_ 0 rfl) (ldB (by omega)) ?_
        refine IdxX.mk (by omega) (by omega) ?_
        refine LoadX.same (v := vB (bar L (a))) (S.at_ 0 rfl) (ldB (by omega)) ?_
        refine QCall.of (fun g2 hl => compareBars_c g2 _ _) rfl ?_
        have kk := cmp_key (hv.bar (i := x) (by omega)) (hv.bar (i := a) (by omega))
        refine BIf.mk (fun h4 => ?_) (fun h4 => ?_)
        · have h4 := kk.1 (by simpa using h4)
          refine WR.as (r := ((x + 1 : Nat) : Int)) (by omega) ?_
          exact ⟨j - (x + 1), by omega, x + 1, j, rfl, by omega, by omega, hje, .inr h4, k2, S, rfl⟩
        have h4 : key (bar L a) ≤ key (bar L x) := Int.not_lt.1 fun hh => by have := kk.2 hh; simp at h4; omega
        exact ⟨x - i, by omega, i, x, rfl, hmi, by omega, by omega, k1, .inr h4, S, rfl⟩
      have hij2 : i = j := by simp at h2; omega
      subst hij2
      refine ⟨⟨[0, 1, 2, 3, 4, 10, 13], fun n' vs g => ∃ (k : Nat) (D : List SBar), n' = i - 1 - k ∧ a ≤ k ∧ k ≤ i - 1 ∧ D.Perm L ∧ (∀ t, bar D t = shR (bar L) a k t) ∧ SepM (fun i => i = b) 0 (hide (fun i => i = b) h) g [.bx b 91 3 (cellsB D)] ∧
        vs = [slV b L.length c, .int .i64 a, .int .i64 m, .int .i64 e, cmpV, .int .i64 i, .int .i64 k], _, ⟨a, L, rfl, Nat.le_refl _, by omega, List.Perm.refl _, fun t => shR_zero, S, rfl⟩, ?_⟩⟩
      clear S h2
      rintro n' vs g ⟨k, D, rfl, hak, hki, hp, he, S, rfl⟩
      have hD := hp.length_eq
      refine WR.as (r := ((i - 1 : Nat) : Int)) (by omega) ?_
      refine BIf.mk (fun h2 => ?_) (fun h2 => ?_)
      · have hlt : k < i - 1 := by simp at h2; omega
        refine DrawX.of Tt.tab follows_any [] [15, 17] [0, 1, 2, 3, 4, 5, 6, 7, 8, 9, 10, 11, 12, 13, 14, 15, 16, 17] rfl (by kernel_rfl) (by kernel_rfl) ?_
        refine WR.as (r := ((k + 1 : Nat) : Int)) (by omega) ?_
        refine WR.as (r := ((k + 1 : Nat) : Int)) (by omega) ?_
        refine IdxX.mk (by omega) (by omega) ?_
        refine LoadX.same (v := vB (bar D (k + 1))) (S.at_ 0 rfl) (ldB (by omega)) ?_
        refine IdxX.mk (by omega) (by omega) ?_
        refine LoadX.same (v := vB (bar D (k))) (S.at_ 0 rfl) (ldB (by omega)) ?_
        refine IdxX.mk (by omega) (by omega) ?_
        refine S.storeB 0 (k := k) rfl (by omega) fun g S => ?_
        refine IdxX.mk (by omega) (by omega) ?_
        refine S.storeB 0 (k := k + 1) rfl (by rw [List.length_set]; omega) fun g S => ?_
        refine WR.as (r := ((k + 1 : Nat) : Int)) (by omega) ?_
        exact ⟨i - 1 - (k + 1), by omega, k + 1, sw D k (k + 1), rfl, by omega, by omega, (sw_perm (by omega) (by omega)).trans hp, fun t => shR_step hak (by omega) he, S, rfl⟩
      have hk2 : k = i - 1 := by simp at h2; omega
      subst hk2
      exact S.endB (Merged.right hm1 hme hmi hje l2 k1 k2 hp he)
    have hm1 : m ≠ a + 1 := by simp at h1; omega
    refine WR.as (r := ((e - m : Nat) : Int)) (by omega) ?_
    refine BIf.mk (fun h2 => ?_) (fun h2 => ?_)
    · have hm2 : e = m + 1 := by simp at h2; omega
      refine ⟨⟨[0, 1, 2, 3, 4, 14, 15], fun n' vs g => ∃ i j : Nat, n' = j - i ∧ a ≤ i ∧ i ≤ j ∧ j ≤ m ∧ (i = a ∨ key (bar L (i - 1)) ≤ key (bar L m)) ∧ (j = m ∨ key (bar L m) < key (bar L j)) ∧ SepM (fun i => i = b) 0 (hide (fun i => i = b) h) g [.bx b 91 3 (cellsB L)] ∧
        vs = [slV b L.length c, .int .i64 a, .int .i64 m, .int .i64 e, cmpV, .int .i64 i, .int .i64 j], _, ⟨a, m, rfl, Nat.le_refl _, by omega, Nat.le_refl _, .inl rfl, .inl rfl, S, rfl⟩, ?_⟩⟩
      clear S
      rintro n' vs g ⟨i, j, rfl, hmi, hij, hje, k1, k2, S, rfl⟩
      refine BIf.mk (fun h4 => ?_) (fun h4 => ?_)
      · have hlt : i < j := by simp at h4; omega
        refine WR.as (r := ((i + j : Nat) : Int)) (by omega) ?_
        refine WR.u64 ?_
        refine ⟨by decide, ?_⟩
        rw [half_eq]
        refine WR.i64 ?_
        obtain ⟨x, hx⟩ : ∃ x : Nat, x = (i + j) / 2 := ⟨_, rfl⟩
        rw [← hx]
        refine DrawX.of Tt.tab follows_any [] [] [0, 1, 2, 3, 4, 5, 6, 7, 8, 9, 10, 11] rfl (by kernel_rfl) (by kernel_rfl) ?_
        refine IdxX.mk (by omega) (by omega) ?_
        refine LoadX.same (v := vB (bar L (m))) (S.at_ 0 rfl) (ldB (by omega)) ?_
        refine IdxX.mk (by omega) (by omega) ?_
        refine LoadX.same (v := vB (bar L (x))) (S.at_ 0 rfl) (ldB (by omega)) ?_
        refine QCall.of (fun g2 hl => compareBars_c g2 _ _) rfl ?_
        have kk := cmp_key (hv.bar (i := m) (by omega)) (hv.bar (i := x) (by omega))
        refine BIf.mk (fun h5 => ?_) (fun h5 => ?_)
        · have h5 : key (bar L x) ≤ key (bar L m) := Int.not_lt.1 fun hh => by have := kk.2 hh; simp at h5; omega
          refine WR.as (r := ((x + 1 : Nat) : Int)) (by omega) ?_
          exact ⟨j - (x + 1), by omega, x + 1, j, rfl, by omega, by omega, hje, .inr h5, k2, S, rfl⟩
        have h5 := kk.1 (by simpa using h5)
        exact ⟨x - i, by omega, i, x, rfl, hmi, by omega, by omega, k1, .inr h5, S, rfl⟩
      have hij2 : i = j := by simp at h4; omega
      subst hij2
      refine ⟨⟨[0, 1, 2, 3, 4, 14, 17], fun n' vs g => ∃ (k : Nat) (D : List SBar), n' = k - i ∧ i ≤ k ∧ k ≤ m ∧ D.Perm L ∧ (∀ t, bar D t = shL (bar L) m k t) ∧ SepM (fun i => i = b) 0 (hide (fun i => i = b) h) g [.bx b 91 3 (cellsB D)] ∧
        vs = [slV b L.length c, .int .i64 a, .int .i64 m, .int .i64 e, cmpV, .int .i64 i, .int .i64 k], _, ⟨m, L, rfl, by omega, Nat.le_refl _, List.Perm.refl _, fun t => shL_zero, S, rfl⟩, ?_⟩⟩
      clear S h4
      rintro n' vs g ⟨k, D, rfl, hak, hki, hp, he, S, rfl⟩
      have hD := hp.length_eq
      refine BIf.mk (fun h4 => ?_) (fun h4 => ?_)
      · have hlt : i < k := by simp at h4; omega
        refine DrawX.of Tt.tab follows_any [] [15, 17] [0, 1, 2, 3, 4, 5, 6, 7, 8, 9, 10, 11, 12, 13, 14, 15, 16, 17] rfl (by kernel_rfl) (by kernel_rfl) ?_
        refine WR.as (r := ((k - 1 : Nat) : Int)) (by omega) ?_
        refine WR.as (r := ((k - 1 : Nat) : Int)) (by omega) ?_
        refine IdxX.mk (by omega) (by omega) ?_
        refine LoadX.same (v := vB (bar D (k - 1))) (S.at_ 0 rfl) (ldB (by omega)) ?_
        refine IdxX.mk (by omega) (by omega) ?_
        refine LoadX.same (v := vB (bar D (k))) (S.at_ 0 rfl) (ldB (by omega)) ?_
        refine IdxX.mk (by omega) (by omega) ?_
        refine S.storeB 0 (k := k) rfl (by omega) fun g S => ?_
        refine IdxX.mk (by omega) (by omega) ?_
        refine S.storeB 0 (k := k - 1) rfl (by rw [List.length_set]; omega) fun g S => ?_
        refine WR.as (r := ((k - 1 : Nat) : Int)) (by omega) ?_
        exact ⟨k - 1 - i, by omega, k - 1, sw D k (k - 1), rfl, by omega, by omega, (sw_perm (by omega) (by omega)).trans hp, fun t => shL_step (by omega) hki (by omega) he, S, rfl⟩
      have hk2 : k = i := by simp at h4; omega
      subst hk2
      exact S.endB (Merged.left ham hm2 hmi hje l1 k1 k2 hp he)
    have hm2 : e ≠ m + 1 := by simp at h2; omega
    clear h1 h2
    refine WR.as (r := ((a + e : Nat) : Int)) (by omega) ?_
    refine WR.u64 ?_
    refine ⟨by decide, ?_⟩
    rw [half_eq]
    refine WR.i64 ?_
    obtain ⟨mid, hmid⟩ : ∃ mid : Nat, mid = (a + e) / 2 := ⟨_, rfl⟩
    rw [← hmid]
    refine WR.as (r := ((mid + m : Nat) : Int)) (by omega) ?_
    refine BIf.mk (fun h4 => ?_) (fun h4 => ?_)
    · have hmm : mid < m := by simp at h4; omega
      clear h4
      refine WR.as (r := ((mid + m - e : Nat) : Int)) (by omega) ?_
      refine WR.as (r := ((mid + m - 1 : Nat) : Int)) (by omega) ?_
      refine ⟨⟨[0, 1, 2, 3, 4, 18, 19, 20, 21, 22], fun n' vs g => ∃ s r : Nat, n' = r - s ∧ (mid + m - e) ≤ s ∧ s ≤ r ∧ r ≤ mid ∧ (s = (mid + m - e) ∨ key (bar L (s - 1)) ≤ key (bar L (mid + m - 1 - (s - 1)))) ∧ (r = mid ∨ key (bar L (mid + m - 1 - r)) < key (bar L r)) ∧ SepM (fun i => i = b) 0 (hide (fun i => i = b) h) g [.bx b 91 3 (cellsB L)] ∧
        vs = [slV b L.length c, .int .i64 a, .int .i64 m, .int .i64 e, cmpV, .int .i64 mid, .int .i64 ((mid + m : Nat) : Int), .int .i64 s, .int .i64 r, .int .i64 ((mid + m - 1 : Nat) : Int)], _, ⟨(mid + m - e), mid, rfl, Nat.le_refl _, by omega, Nat.le_refl _, .inl rfl, .inl rfl, S, rfl⟩, ?_⟩⟩
      clear S
      rintro n' vs g ⟨s, r, rfl, hs0, hsr, hr0, k1, k2, S, rfl⟩
      refine BIf.mk (fun h5 => ?_) (fun h5 => ?_)
      · have hlt : s < r := by simp at h5; omega
        refine WR.as (r := ((s + r : Nat) : Int)) (by omega) ?_
        refine WR.u64 ?_
        refine ⟨by decide, ?_⟩
        rw [half_eq]
        refine WR.i64 ?_
        obtain ⟨x, hx⟩ : ∃ x : Nat, x = (s + r) / 2 := ⟨_, rfl⟩
        rw [← hx]
        refine DrawX.of Tt.tab follows_any [] [] [0, 1, 2, 3, 4, 5, 6, 7, 8, 9, 10, 11, 12, 13] rfl (by kernel_rfl) (by kernel_rfl) ?_
        refine WR.as (r := ((mid + m - 1 - x : Nat) : Int)) (by omega) ?_
        refine IdxX.mk (by omega) (by omega) ?_
        refine LoadX.same (v := vB (bar L ((mid + m - 1 - x)))) (S.at_ 0 rfl) (ldB (by omega)) ?_
        refine IdxX.mk (by omega) (by omega) ?_
        refine LoadX.same (v := vB (bar L (x))) (S.at_ 0 rfl) (ldB (by omega)) ?_
        refine QCall.of (fun g2 hl => compareBars_c g2 _ _) rfl ?_
        have kk := cmp_key (hv.bar (i := mid + m - 1 - x) (by omega)) (hv.bar (i := x) (by omega))
        refine BIf.mk (fun h6 => ?_) (fun h6 => ?_)
        · have h6 : key (bar L x) ≤ key (bar L (mid + m - 1 - x)) := Int.not_lt.1 fun hh => by have := kk.2 hh; simp at h6; omega
          refine WR.as (r := ((x + 1 : Nat) : Int)) (by omega) ?_
          exact ⟨r - (x + 1), by omega, x + 1, r, rfl, by omega, by omega, hr0, .inr h6, k2, S, rfl⟩
        have h6 := kk.1 (by simpa using h6)
        exact ⟨x - s, by omega, s, x, rfl, hs0, by omega, by omega, k1, .inr h6, S, rfl⟩
      have hsr2 : s = r := by simp at h5; omega
      subst hsr2
      clear h5
      obtain ⟨z, hz⟩ : ∃ z : Nat, z = mid + m - s := ⟨_, rfl⟩
      have cut : Cut L a m e mid s z := by
        refine ⟨ham, hme, by omega, by omega, by omega, by omega, by omega, l1, l2, ?_, ?_⟩
        · by_cases h0 : s = (mid + m - e)
          · exact .inr (.inl (by omega))
          · rcases k1 with k1 | k1
            · exact absurd k1 h0
            · rw [show mid + m - 1 - (s - 1) = z by omega] at k1
              exact .inr (.inr k1)
        · rcases k2 with k2 | k2
          · exact .inr (.inl (by omega))
          · rw [show mid + m - 1 - s = z - 1 by omega] at k2
            exact .inr (.inr k2)
      refine WR.as (r := ((z : Nat) : Int)) (by omega) ?_
      refine BIf.mk (fun h5 => ?_) (fun h5 => ?_)
      · refine BIf.mk (fun h6 => ?_) (fun h6 => ?_)
        · have g5 : s < m := by simp at h5; omega
          have g6 : m < z := by simp at h6; omega
          refine S.doesB 0 rfl (fun hl => rotate_c _ b c L s m z hl (by omega) (by omega) (by omega) h3) ?_
          rintro g R ⟨hp, hr⟩ S
          refine BIf.mk (fun h7 => ?_) (fun h7 => ?_)
          · refine BIf.mk (fun h8 => ?_) (fun h8 => ?_)
            · have g7 : a < s := by simp at h7; omega
              have g8 : s < mid := by simp at h8; omega
              rw [show L.length = R.length from hp.length_eq.symm]
              refine S.doesB 0 rfl (fun hl => symMerge_c d _ b c R a s mid (by omega) hl (by omega) (by omega) (by rw [hp.length_eq]; omega) (by rw [hp.length_eq]; exact h3) (hv.perm hp) (cut.left hr).1 (cut.left hr).2) ?_
              rintro g M1 q1 S
              rw [show R.length = L.length from hp.length_eq]
              refine BIf.mk (fun h9 => ?_) (fun h9 => ?_)
              · refine BIf.mk (fun h10 => ?_) (fun h10 => ?_)
                · have g9 : mid < z := by simp at h9; omega
                  have g10 : z < e := by simp at h10; omega
                  rw [show L.length = M1.length from (q1.perm.trans hp).length_eq.symm]
                  refine S.doesB 0 rfl (fun hl => symMerge_c d _ b c M1 mid z e (by omega) hl (by omega) (by omega) (by rw [(q1.perm.trans hp).length_eq]; exact heL) (by rw [(q1.perm.trans hp).length_eq]; exact h3) (hv.perm (q1.perm.trans hp)) (fun x y h1 h2 h3 => by rw [q1.out x (by omega), q1.out y (by omega)]; exact cut.right hr |>.1 x y h1 h2 h3) (fun x y h1 h2 h3 => by rw [q1.out x (by omega), q1.out y (by omega)]; exact cut.right hr |>.2 x y h1 h2 h3)) ?_
                  rintro g M2 q2 S
                  exact S.endB (cut.merged hr hp q1 q2)
                have q2 : Merged M1 M1 mid e := Merged.same fun x y h1 h2 h3 => by
                  rw [q1.out x (by omega), q1.out y (by omega)]
                  exact cut.right hr |>.1 x y h1 h2 (by simp at h10; omega)
                exact S.endB (cut.merged hr hp q1 q2)
              refine BIf.no rfl ?_
              have q2 : Merged M1 M1 mid e := Merged.same fun x y h1 h2 h3 => by
                rw [q1.out x (by omega), q1.out y (by omega)]
                exact cut.right hr |>.2 x y (by simp at h9; omega) h2 h3
              exact S.endB (cut.merged hr hp q1 q2)
            obtain ⟨M1, hM1⟩ : ∃ M1, M1 = R := ⟨_, rfl⟩
            have q1 : Merged R M1 a mid := by
              rw [hM1]
              exact Merged.same fun x y h1 h2 h3 => cut.left hr |>.1 x y h1 h2 (by simp at h8; omega)
            rw [← hM1] at S
            refine BIf.mk (fun h9 => ?_) (fun h9 => ?_)
            · refine BIf.mk (fun h10 => ?_) (fun h10 => ?_)
              · have g9 : mid < z := by simp at h9; omega
                have g10 : z < e := by simp at h10; omega
                rw [show L.length = M1.length from (q1.perm.trans hp).length_eq.symm]
                refine S.doesB 0 rfl (fun hl => symMerge_c d _ b c M1 mid z e (by omega) hl (by omega) (by omega) (by rw [(q1.perm.trans hp).length_eq]; exact heL) (by rw [(q1.perm.trans hp).length_eq]; exact h3) (hv.perm (q1.perm.trans hp)) (fun x y h1 h2 h3 => by rw [q1.out x (by omega), q1.out y (by omega)]; exact cut.right hr |>.1 x y h1 h2 h3) (fun x y h1 h2 h3 => by rw [q1.out x (by omega), q1.out y (by omega)]; exact cut.right hr |>.2 x y h1 h2 h3)) ?_
                rintro g M2 q2 S
                exact S.endB (cut.merged hr hp q1 q2)
              have q2 : Merged M1 M1 mid e := Merged.same fun x y h1 h2 h3 => by
                rw [q1.out x (by omega), q1.out y (by omega)]
                exact cut.right hr |>.1 x y h1 h2 (by simp at h10; omega)
              exact S.endB (cut.merged hr hp q1 q2)
            refine BIf.no rfl ?_
            have q2 : Merged M1 M1 mid e := Merged.same fun x y h1 h2 h3 => by
              rw [q1.out x (by omega), q1.out y (by omega)]
              exact cut.right hr |>.2 x y (by simp at h9; omega) h2 h3
            exact S.endB (cut.merged hr hp q1 q2)
          refine BIf.no rfl ?_
          obtain ⟨M1, hM1⟩ : ∃ M1, M1 = R := ⟨_, rfl⟩
          have q1 : Merged R M1 a mid := by
            rw [hM1]
            exact Merged.same fun x y h1 h2 h3 => cut.left hr |>.2 x y (by simp at h7; omega) h2 h3
          rw [← hM1] at S
          refine BIf.mk (fun h9 => ?_) (fun h9 => ?_)
          · refine BIf.mk (fun h10 => ?_) (fun h10 => ?_)
            · have g9 : mid < z := by simp at h9; omega
              have g10 : z < e := by simp at h10; omega
              rw [show L.length = M1.length from (q1.perm.trans hp).length_eq.symm]
              refine S.doesB 0 rfl (fun hl => symMerge_c d _ b c M1 mid z e (by omega) hl (by omega) (by omega) (by rw [(q1.perm.trans hp).length_eq]; exact heL) (by rw [(q1.perm.trans hp).length_eq]; exact h3) (hv.perm (q1.perm.trans hp)) (fun x y h1 h2 h3 => by rw [q1.out x (by omega), q1.out y (by omega)]; exact cut.right hr |>.1 x y h1 h2 h3) (fun x y h1 h2 h3 => by rw [q1.out x (by omega), q1.out y (by omega)]; exact cut.right hr |>.2 x y h1 h2 h3)) ?_
              rintro g M2 q2 S
              exact S.endB (cut.merged hr hp q1 q2)
            have q2 : Merged M1 M1 mid e := Merged.same fun x y h1 h2 h3 => by
              rw [q1.out x (by omega), q1.out y (by omega)]
              exact cut.right hr |>.1 x y h1 h2 (by simp at h10; omega)
            exact S.endB (cut.merged hr hp q1 q2)
          refine BIf.no rfl ?_
          have q2 : Merged M1 M1 mid e := Merged.same fun x y h1 h2 h3 => by
            rw [q1.out x (by omega), q1.out y (by omega)]
            exact cut.right hr |>.2 x y (by simp at h9; omega) h2 h3
          exact S.endB (cut.merged hr hp q1 q2)
        obtain ⟨R, hR⟩ : ∃ R, R = L := ⟨_, rfl⟩
        have hp : R.Perm L := by rw [hR]
        have hr : ∀ k, bar R k = rotF (bar L) s m z k := fun k => by rw [hR]; exact (rot_none (.inr (by simp at h6; omega)) (by omega) (by omega)).symm
        rw [← hR] at S
        refine BIf.mk (fun h7 => ?_) (fun h7 => ?_)
        · refine BIf.mk (fun h8 => ?_) (fun h8 => ?_)
          · have g7 : a < s := by simp at h7; omega
            have g8 : s < mid := by simp at h8; omega
            rw [show L.length = R.length from hp.length_eq.symm]
            refine S.doesB 0 rfl (fun hl => symMerge_c d _ b c R a s mid (by omega) hl (by omega) (by omega) (by rw [hp.length_eq]; omega) (by rw [hp.length_eq]; exact h3) (hv.perm hp) (cut.left hr).1 (cut.left hr).2) ?_
            rintro g M1 q1 S
            rw [show R.length = L.length from hp.length_eq]
            refine BIf.mk (fun h9 => ?_) (fun h9 => ?_)
            · refine BIf.mk (fun h10 => ?_) (fun h10 => ?_)
              · have g9 : mid < z := by simp at h9; omega
                have g10 : z < e := by simp at h10; omega
                rw [show L.length = M1.length from (q1.perm.trans hp).length_eq.symm]
                refine S.doesB 0 rfl (fun hl => symMerge_c d _ b c M1 mid z e (by omega) hl (by omega) (by omega) (by rw [(q1.perm.trans hp).length_eq]; exact heL) (by rw [(q1.perm.trans hp).length_eq]; exact h3) (hv.perm (q1.perm.trans hp)) (fun x y h1 h2 h3 => by rw [q1.out x (by omega), q1.out y (by omega)]; exact cut.right hr |>.1 x y h1 h2 h3) (fun x y h1 h2 h3 => by rw [q1.out x (by omega), q1.out y (by omega)]; exact cut.right hr |>.2 x y h1 h2 h3)) ?_
                rintro g M2 q2 S
                exact S.endB (cut.merged hr hp q1 q2)
              have q2 : Merged M1 M1 mid e := Merged.same fun x y h1 h2 h3 => by
                rw [q1.out x (by omega), q1.out y (by omega)]
                exact cut.right hr |>.1 x y h1 h2 (by simp at h10; omega)
              exact S.endB (cut.merged hr hp q1 q2)
            refine BIf.no rfl ?_
            have q2 : Merged M1 M1 mid e := Merged.same fun x y h1 h2 h3 => by
              rw [q1.out x (by omega), q1.out y (by omega)]
              exact cut.right hr |>.2 x y (by simp at h9; omega) h2 h3
            exact S.endB (cut.merged hr hp q1 q2)
          obtain ⟨M1, hM1⟩ : ∃ M1, M1 = R := ⟨_, rfl⟩
          have q1 : Merged R M1 a mid := by
            rw [hM1]
            exact Merged.same fun x y h1 h2 h3 => cut.left hr |>.1 x y h1 h2 (by simp at h8; omega)
          rw [← hM1] at S
          refine BIf.mk (fun h9 => ?_) (fun h9 => ?_)
          · refine BIf.mk (fun h10 => ?_) (fun h10 => ?_)
            · have g9 : mid < z := by simp at h9; omega
              have g10 : z < e := by simp at h10; omega
              rw [show L.length = M1.length from (q1.perm.trans hp).length_eq.symm]
              refine S.doesB 0 rfl (fun hl => symMerge_c d _ b c M1 mid z e (by omega) hl (by omega) (by omega) (by rw [(q1.perm.trans hp).length_eq]; exact heL) (by rw [(q1.perm.trans hp).length_eq]; exact h3) (hv.perm (q1.perm.trans hp)) (fun x y h1 h2 h3 => by rw [q1.out x (by omega), q1.out y (by omega)]; exact cut.right hr |>.1 x y h1 h2 h3) (fun x y h1 h2 h3 => by rw [q1.out x (by omega), q1.out y (by omega)]; exact cut.right hr |>.2 x y h1 h2 h3)) ?_
              rintro g M2 q2 S
              exact S.endB (cut.merged hr hp q1 q2)
            have q2 : Merged M1 M1 mid e := Merged.same fun x y h1 h2 h3 => by
              rw [q1.out x (by omega), q1.out y (by omega)]
              exact cut.right hr |>.1 x y h1 h2 (by simp at h10; omega)
            exact S.endB (cut.merged hr hp q1 q2)
          refine BIf.no rfl ?_
          have q2 : Merged M1 M1 mid e := Merged.same fun x y h1 h2 h3 => by
            rw [q1.out x (by omega), q1.out y (by omega)]
            exact cut.right hr |>.2 x y (by simp at h9; omega) h2 h3
          exact S.endB (cut.merged hr hp q1 q2)
        refine BIf.no rfl ?_
        obtain ⟨M1, hM1⟩ : ∃ M1, M1 = R := ⟨_, rfl⟩
        have q1 : Merged R M1 a mid := by
          rw [hM1]
          exact Merged.same fun x y h1 h2 h3 => cut.left hr |>.2 x y (by simp at h7; omega) h2 h3
        rw [← hM1] at S
        refine BIf.mk (fun h9 => ?_) (fun h9 => ?_)
        · refine BIf.mk (fun h10 => ?_) (fun h10 => ?_)
          · have g9 : mid < z := by simp at h9; omega
            have g10 : z < e := by simp at h10; omega
            rw [show L.length = M1.length from (q1.perm.trans hp).length_eq.symm]
            refine S.doesB 0 rfl (fun hl => symMerge_c d _ b c M1 mid z e (by omega) hl (by omega) (by omega) (by rw [(q1.perm.trans hp).length_eq]; exact heL) (by rw [(q1.perm.trans hp).length_eq]; exact h3) (hv.perm (q1.perm.trans hp)) (fun x y h1 h2 h3 => by rw [q1.out x (by omega), q1.out y (by omega)]; exact cut.right hr |>.1 x y h1 h2 h3) (fun x y h1 h2 h3 => by rw [q1.out x (by omega), q1.out y (by omega)]; exact cut.right hr |>.2 x y h1 h2 h3)) ?_
            rintro g M2 q2 S
            exact S.endB (cut.merged hr hp q1 q2)
          have q2 : Merged M1 M1 mid e := Merged.same fun x y h1 h2 h3 => by
            rw [q1.out x (by omega), q1.out y (by omega)]
            exact cut.right hr |>.1 x y h1 h2 (by simp at h10; omega)
          exact S.endB (cut.merged hr hp q1 q2)
        refine BIf.no rfl ?_
        have q2 : Merged M1 M1 mid e := Merged.same fun x y h1 h2 h3 => by
          rw [q1.out x (by omega), q1.out y (by omega)]
          exact cut.right hr |>.2 x y (by simp at h9; omega) h2 h3
        exact S.endB (cut.merged hr hp q1 q2)
      refine BIf.no rfl ?_
      obtain ⟨R, hR⟩ : ∃ R, R = L := ⟨_, rfl⟩
      have hp : R.Perm L := by rw [hR]
      have hr : ∀ k, bar R k = rotF (bar L) s m z k := fun k => by rw [hR]; exact (rot_none (.inl (by simp at h5; omega)) (by omega) (by omega)).symm
      rw [← hR] at S
      refine BIf.mk (fun h7 => ?_) (fun h7 => ?_)
      · refine BIf.mk (fun h8 => ?_) (fun h8 => ?_)
        · have g7 : a < s := by simp at h7; omega
          have g8 : s < mid := by simp at h8; omega
          rw [show L.length = R.length from hp.length_eq.symm]
          refine S.doesB 0 rfl (fun hl => symMerge_c d _ b c R a s mid (by omega) hl (by omega) (by omega) (by rw [hp.length_eq]; omega) (by rw [hp.length_eq]; exact h3) (hv.perm hp) (cut.left hr).1 (cut.left hr).2) ?_
          rintro g M1 q1 S
          rw [show R.length = L.length from hp.length_eq]
          refine BIf.mk (fun h9 => ?_) (fun h9 => ?_)
          · refine BIf.mk (fun h10 => ?_) (fun h10 => ?_)
            · have g9 : mid < z := by simp at h9; omega
              have g10 : z < e := by simp at h10; omega
              rw [show L.length = M1.length from (q1.perm.trans hp).length_eq.symm]
              refine S.doesB 0 rfl (fun hl => symMerge_c d _ b c M1 mid z e (by omega) hl (by omega) (by omega) (by rw [(q1.perm.trans hp).length_eq]; exact heL) (by rw [(q1.perm.trans hp).length_eq]; exact h3) (hv.perm (q1.perm.trans hp)) (fun x y h1 h2 h3 => by rw [q1.out x (by omega), q1.out y (by omega)]; exact cut.right hr |>.1 x y h1 h2 h3) (fun x y h1 h2 h3 => by rw [q1.out x (by omega), q1.out y (by omega)]; exact cut.right hr |>.2 x y h1 h2 h3)) ?_
              rintro g M2 q2 S
              exact S.endB (cut.merged hr hp q1 q2)
            have q2 : Merged M1 M1 mid e := Merged.same fun x y h1 h2 h3 => by
              rw [q1.out x (by omega), q1.out y (by omega)]
              exact cut.right hr |>.1 x y h1 h2 (by simp at h10; omega)
            exact S.endB (cut.merged hr hp q1 q2)
          refine BIf.no rfl ?_
          have q2 : Merged M1 M1 mid e := Merged.same fun x y h1 h2 h3 => by
            rw [q1.out x (by omega), q1.out y (by omega)]
            exact cut.right hr |>.2 x y (by simp at h9; omega) h2 h3
          exact S.endB (cut.merged hr hp q1 q2)
        obtain ⟨M1, hM1⟩ : ∃ M1, M1 = R := ⟨_, rfl⟩
        have q1 : Merged R M1 a mid := by
          rw [hM1]
          exact Merged.same fun x y h1 h2 h3 => cut.left hr |>.1 x y h1 h2 (by simp at h8; omega)
        rw [← hM1] at S
        refine BIf.mk (fun h9 => ?_) (fun h9 => ?_)
        · refine BIf.mk (fun h10 => ?_) (fun h10 => ?_)
          · have g9 : mid < z := by simp at h9; omega
            have g10 : z < e := by simp at h10; omega
            rw [show L.length = M1.length from (q1.perm.trans hp).length_eq.symm]
            refine S.doesB 0 rfl (fun hl => symMerge_c d _ b c M1 mid z e (by omega) hl (by omega) (by omega) (by rw [(q1.perm.trans hp).length_eq]; exact heL) (by rw [(q1.perm.trans hp).length_eq]; exact h3) (hv.perm (q1.perm.trans hp)) (fun x y h1 h2 h3 => by rw [q1.out x (by omega), q1.out y (by omega)]; exact cut.right hr |>.1 x y h1 h2 h3) (fun x y h1 h2 h3 => by rw [q1.out x (by omega), q1.out y (by omega)]; exact cut.right hr |>.2 x y h1 h2 h3)) ?_
            rintro g M2 q2 S
            exact S.endB (cut.merged hr hp q1 q2)
          have q2 : Merged M1 M1 mid e := Merged.same fun x y h1 h2 h3 => by
            rw [q1.out x (by omega), q1.out y (by omega)]
            exact cut.right hr |>.1 x y h1 h2 (by simp at h10; omega)
          exact S.endB (cut.merged hr hp q1 q2)
        refine BIf.no rfl ?_
        have q2 : Merged M1 M1 mid e := Merged.same fun x y h1 h2 h3 => by
          rw [q1.out x (by omega), q1.out y (by omega)]
          exact cut.right hr |>.2 x y (by simp at h9; omega) h2 h3
        exact S.endB (cut.merged hr hp q1 q2)
      refine BIf.no rfl ?_
      obtain ⟨M1, hM1⟩ : ∃ M1, M1 = R := ⟨_, rfl⟩
      have q1 : Merged R M1 a mid := by
        rw [hM1]
        exact Merged.same fun x y h1 h2 h3 => cut.left hr |>.2 x y (by simp at h7; omega) h2 h3
      rw [← hM1] at S
      refine BIf.mk (fun h9 => ?_) (fun h9 => ?_)
      · refine BIf.mk (fun h10 => ?_) (fun h10 => ?_)
        · have g9 : mid < z := by simp at h9; omega
          have g10 : z < e := by simp at h10; omega
          rw [show L.length = M1.length from (q1.perm.trans hp).length_eq.symm]
          refine S.doesB 0 rfl (fun hl => symMerge_c d _ b c M1 mid z e (by omega) hl (by omega) (by omega) (by rw [(q1.perm.trans hp).length_eq]; exact heL) (by rw [(q1.perm.trans hp).length_eq]; exact h3) (hv.perm (q1.perm.trans hp)) (fun x y h1 h2 h3 => by rw [q1.out x (by omega), q1.out y (by omega)]; exact cut.right hr |>.1 x y h1 h2 h3) (fun x y h1 h2 h3 => by rw [q1.out x (by omega), q1.out y (by omega)]; exact cut.right hr |>.2 x y h1 h2 h3)) ?_
          rintro g M2 q2 S
          exact S.endB (cut.merged hr hp q1 q2)
        have q2 : Merged M1 M1 mid e := Merged.same fun x y h1 h2 h3 => by
          rw [q1.out x (by omega), q1.out y (by omega)]
          exact cut.right hr |>.1 x y h1 h2 (by simp at h10; omega)
        exact S.endB (cut.merged hr hp q1 q2)
      refine BIf.no rfl ?_
      have q2 : Merged M1 M1 mid e := Merged.same fun x y h1 h2 h3 => by
        rw [q1.out x (by omega), q1.out y (by omega)]
        exact cut.right hr |>.2 x y (by simp at h9; omega) h2 h3
      exact S.endB (cut.merged hr hp q1 q2)
    have hmm : m ≤ mid := by simp at h4; omega
    clear h4
    refine WR.as (r := ((mid + m - 1 : Nat) : Int)) (by omega) ?_
    refine ⟨⟨[0, 1, 2, 3, 4, 18, 19, 20, 21, 22], fun n' vs g => ∃ s r : Nat, n' = r - s ∧ a ≤ s ∧ s ≤ r ∧ r ≤ m ∧ (s = a ∨ key (bar L (s - 1)) ≤ key (bar L (mid + m - 1 - (s - 1)))) ∧ (r = m ∨ key (bar L (mid + m - 1 - r)) < key (bar L r)) ∧ SepM (fun i => i = b) 0 (hide (fun i => i = b) h) g [.bx b 91 3 (cellsB L)] ∧
      vs = [slV b L.length c, .int .i64 a, .int .i64 m, .int .i64 e, cmpV, .int .i64 mid, .int .i64 ((mid + m : Nat) : Int), .int .i64 s, .int .i64 r, .int .i64 ((mid + m - 1 : Nat) : Int)], _, ⟨a, m, rfl, Nat.le_refl _, by omega, Nat.le_refl _, .inl rfl, .inl rfl, S, rfl⟩, ?_⟩⟩
    clear S
    rintro n' vs g ⟨s, r, rfl, hs0, hsr, hr0, k1, k2, S, rfl⟩
    refine BIf.mk (fun h5 => ?_) (fun h5 => ?_)
    · have hlt : s < r := by simp at h5; omega
      refine WR.as (r := ((s + r : Nat) : Int)) (by omega) ?_
      refine WR.u64 ?_
      refine ⟨by decide, ?_⟩
      rw [half_eq]
      refine WR.i64 ?_
      obtain ⟨x, hx⟩ : ∃ x : Nat, x = (s + r) / 2 := ⟨_, rfl⟩
      rw [← hx]
      refine DrawX.of Tt.tab follows_any [] [] [0, 1, 2, 3, 4, 5, 6, 7, 8, 9, 10, 11, 12, 13] rfl (by kernel_rfl) (by kernel_rfl) ?_
      refine WR.as (r := ((mid + m - 1 - x : Nat) : Int)) (by omega) ?_
      refine IdxX.mk (by omega) (by omega) ?_
      refine LoadX.same (v := vB (bar L ((mid + m - 1 - x)))) (S.at_ 0 rfl) (ldB (by omega)) ?_
      refine IdxX.mk (by omega) (by omega) ?_
      refine LoadX.same (v := vB (bar L (x))) (S.at_ 0 rfl) (ldB (by omega)) ?_
      refine QCall.of (fun g2 hl => compareBars_c g2 _ _) rfl ?_
      have kk := cmp_key (hv.bar (i := mid + m - 1 - x) (by omega)) (hv.bar (i := x) (by omega))
      refine BIf.mk (fun h6 => ?_) (fun h6 => ?_)
      · have h6 : key (bar L x) ≤ key (bar L (mid + m - 1 - x)) := Int.not_lt.1 fun hh => by have := kk.2 hh; simp at h6; omega
        refine WR.as (r := ((x + 1 : Nat) : Int)) (by omega) ?_
        exact ⟨r - (x + 1), by omega, x + 1, r, rfl, by omega, by omega, hr0, .inr h6, k2, S, rfl⟩
      have h6 := kk.1 (by simpa using h6)
      exact ⟨x - s, by omega, s, x, rfl, hs0, by omega, by omega, k1, .inr h6, S, rfl⟩
    have hsr2 : s = r := by simp at h5; omega
    subst hsr2
    clear h5
    obtain ⟨z, hz⟩ : ∃ z : Nat, z = mid + m - s := ⟨_, rfl⟩
    have cut : Cut L a m e mid s z := by
      refine ⟨ham, hme, by omega, by omega, by omega, by omega, by omega, l1, l2, ?_, ?_⟩
      · by_cases h0 : s = a
        · exact .inl h0
        · rcases k1 with k1 | k1
          · exact absurd k1 h0
          · rw [show mid + m - 1 - (s - 1) = z by omega] at k1
            exact .inr (.inr k1)
      · rcases k2 with k2 | k2
        · exact .inl k2
        · rw [show mid + m - 1 - s = z - 1 by omega] at k2
          exact .inr (.inr k2)
    refine WR.as (r := ((z : Nat) : Int)) (by omega) ?_
    refine BIf.mk (fun h5 => ?_) (fun h5 => ?_)
    · refine BIf.mk (fun h6 => ?_) (fun h6 => ?_)
      · have g5 : s < m := by simp at h5; omega
        have g6 : m < z := by simp at h6; omega
        refine S.doesB 0 rfl (fun hl => rotate_c _ b c L s m z hl (by omega) (by omega) (by omega) h3) ?_
        rintro g R ⟨hp, hr⟩ S
        refine BIf.mk (fun h7 => ?_) (fun h7 => ?_)
        · refine BIf.mk (fun h8 => ?_) (fun h8 => ?_)
          · have g7 : a < s := by simp at h7; omega
            have g8 : s < mid := by simp at h8; omega
            rw [show L.length = R.length from hp.length_eq.symm]
            refine S.doesB 0 rfl (fun hl => symMerge_c d _ b c R a s mid (by omega) hl (by omega) (by omega) (by rw [hp.length_eq]; omega) (by rw [hp.length_eq]; exact h3) (hv.perm hp) (cut.left hr).1 (cut.left hr).2) ?_
            rintro g M1 q1 S
            rw [show R.length = L.length from hp.length_eq]
            refine BIf.mk (fun h9 => ?_) (fun h9 => ?_)
            · refine BIf.mk (fun h10 => ?_) (fun h10 => ?_)
              · have g9 : mid < z := by simp at h9; omega
                have g10 : z < e := by simp at h10; omega
                rw [show L.length = M1.length from (q1.perm.trans hp).length_eq.symm]
                refine S.doesB 0 rfl (fun hl => symMerge_c d _ b c M1 mid z e (by omega) hl (by omega) (by omega) (by rw [(q1.perm.trans hp).length_eq]; exact heL) (by rw [(q1.perm.trans hp).length_eq]; exact h3) (hv.perm (q1.perm.trans hp)) (fun x y h1 h2 h3 => by rw [q1.out x (by omega), q1.out y (by omega)]; exact cut.right hr |>.1 x y h1 h2 h3) (fun x y h1 h2 h3 => by rw [q1.out x (by omega), q1.out y (by omega)]; exact cut.right hr |>.2 x y h1 h2 h3)) ?_
                rintro g M2 q2 S
                exact S.endB (cut.merged hr hp q1 q2)
              have q2 : Merged M1 M1 mid e := Merged.same fun x y h1 h2 h3 => by
                rw [q1.out x (by omega), q1.out y (by omega)]
                exact cut.right hr |>.1 x y h1 h2 (by simp at h10; omega)
              exact S.endB (cut.merged hr hp q1 q2)
            refine BIf.no rfl ?_
            have q2 : Merged M1 M1 mid e := Merged.same fun x y h1 h2 h3 => by
              rw [q1.out x (by omega), q1.out y (by omega)]
              exact cut.right hr |>.2 x y (by simp at h9; omega) h2 h3
            exact S.endB (cut.merged hr hp q1 q2)
          obtain ⟨M1, hM1⟩ : ∃ M1, M1 = R := ⟨_, rfl⟩
          have q1 : Merged R M1 a mid := by
            rw [hM1]
            exact Merged.same fun x y h1 h2 h3 => cut.left hr |>.1 x y h1 h2 (by simp at h8; omega)
          rw [← hM1] at S
          refine BIf.mk (fun h9 => ?_) (fun h9 => ?_)
          · refine BIf.mk (fun h10 => ?_) (fun h10 => ?_)
            · have g9 : mid < z := by simp at h9; omega
              have g10 : z < e := by simp at h10; omega
              rw [show L.length = M1.length from (q1.perm.trans hp).length_eq.symm]
              refine S.doesB 0 rfl (fun hl => symMerge_c d _ b c M1 mid z e (by omega) hl (by omega) (by omega) (by rw [(q1.perm.trans hp).length_eq]; exact heL) (by rw [(q1.perm.trans hp).length_eq]; exact h3) (hv.perm (q1.perm.trans hp)) (fun x y h1 h2 h3 => by rw [q1.out x (by omega), q1.out y (by omega)]; exact cut.right hr |>.1 x y h1 h2 h3) (fun x y h1 h2 h3 => by rw [q1.out x (by omega), q1.out y (by omega)]; exact cut.right hr |>.2 x y h1 h2 h3)) ?_
              rintro g M2 q2 S
              exact S.endB (cut.merged hr hp q1 q2)
            have q2 : Merged M1 M1 mid e := Merged.same fun x y h1 h2 h3 => by
              rw [q1.out x (by omega), q1.out y (by omega)]
              exact cut.right hr |>.1 x y h1 h2 (by simp at h10; omega)
            exact S.endB (cut.merged hr hp q1 q2)
          refine BIf.no rfl ?_
          have q2 : Merged M1 M1 mid e := Merged.same fun x y h1 h2 h3 => by
            rw [q1.out x (by omega), q1.out y (by omega)]
            exact cut.right hr |>.2 x y (by simp at h9; omega) h2 h3
          exact S.endB (cut.merged hr hp q1 q2)
        refine BIf.no rfl ?_
        obtain ⟨M1, hM1⟩ : ∃ M1, M1 = R := ⟨_, rfl⟩
        have q1 : Merged R M1 a mid := by
          rw [hM1]
          exact Merged.same fun x y h1 h2 h3 => cut.left hr |>.2 x y (by simp at h7; omega) h2 h3
        rw [← hM1] at S
        refine BIf.mk (fun h9 => ?_) (fun h9 => ?_)
        · refine BIf.mk (fun h10 => ?_) (fun h10 => ?_)
          · have g9 : mid < z := by simp at h9; omega
            have g10 : z < e := by simp at h10; omega
            rw [show L.length = M1.length from (q1.perm.trans hp).length_eq.symm]
            refine S.doesB 0 rfl (fun hl => symMerge_c d _ b c M1 mid z e (by omega) hl (by omega) (by omega) (by rw [(q1.perm.trans hp).length_eq]; exact heL) (by rw [(q1.perm.trans hp).length_eq]; exact h3) (hv.perm (q1.perm.trans hp)) (fun x y h1 h2 h3 => by rw [q1.out x (by omega), q1.out y (by omega)]; exact cut.right hr |>.1 x y h1 h2 h3) (fun x y h1 h2 h3 => by rw [q1.out x (by omega), q1.out y (by omega)]; exact cut.right hr |>.2 x y h1 h2 h3)) ?_
            rintro g M2 q2 S
            exact S.endB (cut.merged hr hp q1 q2)
          have q2 : Merged M1 M1 mid e := Merged.same fun x y h1 h2 h3 => by
            rw [q1.out x (by omega), q1.out y (by omega)]
            exact cut.right hr |>.1 x y h1 h2 (by simp at h10; omega)
          exact S.endB (cut.merged hr hp q1 q2)
        refine BIf.no rfl ?_
        have q2 : Merged M1 M1 mid e := Merged.same fun x y h1 h2 h3 => by
          rw [q1.out x (by omega), q1.out y (by omega)]
          exact cut.right hr |>.2 x y (by simp at h9; omega) h2 h3
        exact S.endB (cut.merged hr hp q1 q2)
      obtain ⟨R, hR⟩ : ∃ R, R = L := ⟨_, rfl⟩
      have hp : R.Perm L := by rw [hR]
      have hr : ∀ k, bar R k = rotF (bar L) s m z k := fun k => by rw [hR]; exact (rot_none (.inr (by simp at h6; omega)) (by omega) (by omega)).symm
      rw [← hR] at S
      refine BIf.mk (fun h7 => ?_) (fun h7 => ?_)
      · refine BIf.mk (fun h8 => ?_) (fun h8 => ?_)
        · have g7 : a < s := by simp at h7; omega
          have g8 : s < mid := by simp at h8; omega
          rw [show L.length = R.length from hp.length_eq.symm]
          refine S.doesB 0 rfl (fun hl => symMerge_c d _ b c R a s mid (by omega) hl (by omega) (by omega) (by rw [hp.length_eq]; omega) (by rw [hp.length_eq]; exact h3) (hv.perm hp) (cut.left hr).1 (cut.left hr).2) ?_
          rintro g M1 q1 S
          rw [show R.length = L.length from hp.length_eq]
          refine BIf.mk (fun h9 => ?_) (fun h9 => ?_)
          · refine BIf.mk (fun h10 => ?_) (fun h10 => ?_)
            · have g9 : mid < z := by simp at h9; omega
              have g10 : z < e := by simp at h10; omega
              rw [show L.length = M1.length from (q1.perm.trans hp).length_eq.symm]
              refine S.doesB 0 rfl (fun hl => symMerge_c d _ b c M1 mid z e (by omega) hl (by omega) (by omega) (by rw [(q1.perm.trans hp).length_eq]; exact heL) (by rw [(q1.perm.trans hp).length_eq]; exact h3) (hv.perm (q1.perm.trans hp)) (fun x y h1 h2 h3 => by rw [q1.out x (by omega), q1.out y (by omega)]; exact cut.right hr |>.1 x y h1 h2 h3) (fun x y h1 h2 h3 => by rw [q1.out x (by omega), q1.out y (by omega)]; exact cut.right hr |>.2 x y h1 h2 h3)) ?_
              rintro g M2 q2 S
              exact S.endB (cut.merged hr hp q1 q2)
            have q2 : Merged M1 M1 mid e := Merged.same fun x y h1 h2 h3 => by
              rw [q1.out x (by omega), q1.out y (by omega)]
              exact cut.right hr |>.1 x y h1 h2 (by simp at h10; omega)
            exact S.endB (cut.merged hr hp q1 q2)
          refine BIf.no rfl ?_
          have q2 : Merged M1 M1 mid e := Merged.same fun x y h1 h2 h3 => by
            rw [q1.out x (by omega), q1.out y (by omega)]
            exact cut.right hr |>.2 x y (by simp at h9; omega) h2 h3
          exact S.endB (cut.merged hr hp q1 q2)
        obtain ⟨M1, hM1⟩ : ∃ M1, M1 = R := ⟨_, rfl⟩
        have q1 : Merged R M1 a mid := by
          rw [hM1]
          exact Merged.same fun x y h1 h2 h3 => cut.left hr |>.1 x y h1 h2 (by simp at h8; omega)
        rw [← hM1] at S
        refine BIf.mk (fun h9 => ?_) (fun h9 => ?_)
        · refine BIf.mk (fun h10 => ?_) (fun h10 => ?_)
          · have g9 : mid < z := by simp at h9; omega
            have g10 : z < e := by simp at h10; omega
            rw [show L.length = M1.length from (q1.perm.trans hp).length_eq.symm]
            refine S.doesB 0 rfl (fun hl => symMerge_c d _ b c M1 mid z e (by omega) hl (by omega) (by omega) (by rw [(q1.perm.trans hp).length_eq]; exact heL) (by rw [(q1.perm.trans hp).length_eq]; exact h3) (hv.perm (q1.perm.trans hp)) (fun x y h1 h2 h3 => by rw [q1.out x (by omega), q1.out y (by omega)]; exact cut.right hr |>.1 x y h1 h2 h3) (fun x y h1 h2 h3 => by rw [q1.out x (by omega), q1.out y (by omega)]; exact cut.right hr |>.2 x y h1 h2 h3)) ?_
            rintro g M2 q2 S
            exact S.endB (cut.merged hr hp q1 q2)
          have q2 : Merged M1 M1 mid e := Merged.same fun x y h1 h2 h3 => by
            rw [q1.out x (by omega), q1.out y (by omega)]
            exact cut.right hr |>.1 x y h1 h2 (by simp at h10; omega)
          exact S.endB (cut.merged hr hp q1 q2)
        refine BIf.no rfl ?_
        have q2 : Merged M1 M1 mid e := Merged.same fun x y h1 h2 h3 => by
          rw [q1.out x (by omega), q1.out y (by omega)]
          exact cut.right hr |>.2 x y (by simp at h9; omega) h2 h3
        exact S.endB (cut.merged hr hp q1 q2)
      refine BIf.no rfl ?_
      obtain ⟨M1, hM1⟩ : ∃ M1, M1 = R := ⟨_, rfl⟩
      have q1 : Merged R M1 a mid := by
        rw [hM1]
        exact Merged.same fun x y h1 h2 h3 => cut.left hr |>.2 x y (by simp at h7; omega) h2 h3
      rw [← hM1] at S
      refine BIf.mk (fun h9 => ?_) (fun h9 => ?_)
      · refine BIf.mk (fun h10 => ?_) (fun h10 => ?_)
        · have g9 : mid < z := by simp at h9; omega
          have g10 : z < e := by simp at h10; omega
          rw [show L.length = M1.length from (q1.perm.trans hp).length_eq.symm]
          refine S.doesB 0 rfl (fun hl => symMerge_c d _ b c M1 mid z e (by omega) hl (by omega) (by omega) (by rw [(q1.perm.trans hp).length_eq]; exact heL) (by rw [(q1.perm.trans hp).length_eq]; exact h3) (hv.perm (q1.perm.trans hp)) (fun x y h1 h2 h3 => by rw [q1.out x (by omega), q1.out y (by omega)]; exact cut.right hr |>.1 x y h1 h2 h3) (fun x y h1 h2 h3 => by rw [q1.out x (by omega), q1.out y (by omega)]; exact cut.right hr |>.2 x y h1 h2 h3)) ?_
          rintro g M2 q2 S
          exact S.endB (cut.merged hr hp q1 q2)
        have q2 : Merged M1 M1 mid e := Merged.same fun x y h1 h2 h3 => by
          rw [q1.out x (by omega), q1.out y (by omega)]
          exact cut.right hr |>.1 x y h1 h2 (by simp at h10; omega)
        exact S.endB (cut.merged hr hp q1 q2)
      refine BIf.no rfl ?_
      have q2 : Merged M1 M1 mid e := Merged.same fun x y h1 h2 h3 => by
        rw [q1.out x (by omega), q1.out y (by omega)]
        exact cut.right hr |>.2 x y (by simp at h9; omega) h2 h3
      exact S.endB (cut.merged hr hp q1 q2)
    refine BIf.no rfl ?_
    obtain ⟨R, hR⟩ : ∃ R, R = L := ⟨_, rfl⟩
    have hp : R.Perm L := by rw [hR]
    have hr : ∀ k, bar R k = rotF (bar L) s m z k := fun k => by rw [hR]; exact (rot_none (.inl (by simp at h5; omega)) (by omega) (by omega)).symm
    rw [← hR] at S
    refine BIf.mk (fun h7 => ?_) (fun h7 => ?_)
    · refine BIf.mk (fun h8 => ?_) (fun h8 => ?_)
      · have g7 : a < s := by simp at h7; omega
        have g8 : s < mid := by simp at h8; omega
        rw [show L.length = R.length from hp.length_eq.symm]
        refine S.doesB 0 rfl (fun hl => symMerge_c d _ b c R a s mid (by omega) hl (by omega) (by omega) (by rw [hp.length_eq]; omega) (by rw [hp.length_eq]; exact h3) (hv.perm hp) (cut.left hr).1 (cut.left hr).2) ?_
        rintro g M1 q1 S
        rw [show R.length = L.length from hp.length_eq]
        refine BIf.mk (fun h9 => ?_) (fun h9 => ?_)
        · refine BIf.mk (fun h10 => ?_) (fun h10 => ?_)
          · have g9 : mid < z := by simp at h9; omega
            have g10 : z < e := by simp at h10; omega
            rw [show L.length = M1.length from (q1.perm.trans hp).length_eq.symm]
            refine S.doesB 0 rfl (fun hl => symMerge_c d _ b c M1 mid z e (by omega) hl (by omega) (by omega) (by rw [(q1.perm.trans hp).length_eq]; exact heL) (by rw [(q1.perm.trans hp).length_eq]; exact h3) (hv.perm (q1.perm.trans hp)) (fun x y h1 h2 h3 => by rw [q1.out x (by omega), q1.out y (by omega)]; exact cut.right hr |>.1 x y h1 h2 h3) (fun x y h1 h2 h3 => by rw [q1.out x (by omega), q1.out y (by omega)]; exact cut.right hr |>.2 x y h1 h2 h3)) ?_
            rintro g M2 q2 S
            exact S.endB (cut.merged hr hp q1 q2)
          have q2 : Merged M1 M1 mid e := Merged.same fun x y h1 h2 h3 => by
            rw [q1.out x (by omega), q1.out y (by omega)]
            exact cut.right hr |>.1 x y h1 h2 (by simp at h10; omega)
          exact S.endB (cut.merged hr hp q1 q2)
        refine BIf.no rfl ?_
        have q2 : Merged M1 M1 mid e := Merged.same fun x y h1 h2 h3 => by
          rw [q1.out x (by omega), q1.out y (by omega)]
          exact cut.right hr |>.2 x y (by simp at h9; omega) h2 h3
        exact S.endB (cut.merged hr hp q1 q2)
      obtain ⟨M1, hM1⟩ : ∃ M1, M1 = R := ⟨_, rfl⟩
      have q1 : Merged R M1 a mid := by
        rw [hM1]
        exact Merged.same fun x y h1 h2 h3 => cut.left hr |>.1 x y h1 h2 (by simp at h8; omega)
      rw [← hM1] at S
      refine BIf.mk (fun h9 => ?_) (fun h9 => ?_)
      · refine BIf.mk (fun h10 => ?_) (fun h10 => ?_)
        · have g9 : mid < z := by simp at h9; omega
          have g10 : z < e := by simp at h10; omega
          rw [show L.length = M1.length from (q1.perm.trans hp).length_eq.symm]
          refine S.doesB 0 rfl (fun hl => symMerge_c d _ b c M1 mid z e (by omega) hl (by omega) (by omega) (by rw [(q1.perm.trans hp).length_eq]; exact heL) (by rw [(q1.perm.trans hp).length_eq]; exact h3) (hv.perm (q1.perm.trans hp)) (fun x y h1 h2 h3 => by rw [q1.out x (by omega), q1.out y (by omega)]; exact cut.right hr |>.1 x y h1 h2 h3) (fun x y h1 h2 h3 => by rw [q1.out x (by omega), q1.out y (by omega)]; exact cut.right hr |>.2 x y h1 h2 h3)) ?_
          rintro g M2 q2 S
          exact S.endB (cut.merged hr hp q1 q2)
        have q2 : Merged M1 M1 mid e := Merged.same fun x y h1 h2 h3 => by
          rw [q1.out x (by omega), q1.out y (by omega)]
          exact cut.right hr |>.1 x y h1 h2 (by simp at h10; omega)
        exact S.endB (cut.merged hr hp q1 q2)
      refine BIf.no rfl ?_
      have q2 : Merged M1 M1 mid e := Merged.same fun x y h1 h2 h3 => by
        rw [q1.out x (by omega), q1.out y (by omega)]
        exact cut.right hr |>.2 x y (by simp at h9; omega) h2 h3
      exact S.endB (cut.merged hr hp q1 q2)
    refine BIf.no rfl ?_
    obtain ⟨M1, hM1⟩ : ∃ M1, M1 = R := ⟨_, rfl⟩
    have q1 : Merged R M1 a mid := by
      rw [hM1]
      exact Merged.same fun x y h1 h2 h3 => cut.left hr |>.2 x y (by simp at h7; omega) h2 h3
    rw [← hM1] at S
    refine BIf.mk (fun h9 => ?_) (fun h9 => ?_)
    · refine BIf.mk (fun h10 => ?_) (fun h10 => ?_)
      · have g9 : mid < z := by simp at h9; omega
        have g10 : z < e := by simp at h10; omega
        rw [show L.length = M1.length from (q1.perm.trans hp).length_eq.symm]
        refine S.doesB 0 rfl (fun hl => symMerge_c d _ b c M1 mid z e (by omega) hl (by omega) (by omega) (by rw [(q1.perm.trans hp).length_eq]; exact heL) (by rw [(q1.perm.trans hp).length_eq]; exact h3) (hv.perm (q1.perm.trans hp)) (fun x y h1 h2 h3 => by rw [q1.out x (by omega), q1.out y (by omega)]; exact cut.right hr |>.1 x y h1 h2 h3) (fun x y h1 h2 h3 => by rw [q1.out x (by omega), q1.out y (by omega)]; exact cut.right hr |>.2 x y h1 h2 h3)) ?_
        rintro g M2 q2 S
        exact S.endB (cut.merged hr hp q1 q2)
      have q2 : Merged M1 M1 mid e := Merged.same fun x y h1 h2 h3 => by
        rw [q1.out x (by omega), q1.out y (by omega)]
        exact cut.right hr |>.1 x y h1 h2 (by simp at h10; omega)
      exact S.endB (cut.merged hr hp q1 q2)
    refine BIf.no rfl ?_
    have q2 : Merged M1 M1 mid e := Merged.same fun x y h1 h2 h3 => by
      rw [q1.out x (by omega), q1.out y (by omega)]
      exact cut.right hr |>.2 x y (by simp at h9; omega) h2 h3
    exact S.endB (cut.merged hr hp q1 q2)

theorem stable_c (h : AH) (b c : Nat) (L : List SBar) (hl : look h b = some ⟨cellsB L, some (91, 3)⟩) (h3 : L.length ≤ 24) (hv : Val L) :
    DoesB Try.prog 94 [slV b L.length c, .int .i64 L.length, cmpV] h b 91 (fun M => M.Perm L ∧ SortedOn M 0 L.length) := by
  unfold DoesB
  refine ACalls.of Tt.tab Try.func94 rfl (by kernel_rfl) Try.ntmps94 _ rfl rfl (fun hw => ?_)
  have S := SepM.boxB hl
  refine ⟨⟨[0, 1, 2, 6, 7, 8], fun n' vs g => ∃ (t : Nat) (C : List SBar), n' = 2 - t ∧ (t = 0 ∨ t = 1 ∧ 20 ≤ L.length) ∧ C.Perm L ∧ SortedOn C 0 (20 * t) ∧ SepM (fun i => i = b) 0 (hide (fun i => i = b) h) g [.bx b 91 3 (cellsB C)] ∧
    vs = [slV b L.length c, .int .i64 L.length, cmpV, .int .i64 20, .int .i64 ((20 * t : Nat) : Int), .int .i64 ((20 * t + 20 : Nat) : Int)], _, ⟨0, L, rfl, .inl rfl, List.Perm.refl _, fun p q _ _ _ => by omega, S, rfl⟩, ?_⟩⟩
  clear S
  rintro n' vs g ⟨t, C, rfl, ht, hp, hs, S, rfl⟩
  have hC := hp.length_eq
  refine BIf.mk (fun h1 => ?_) (fun h1 => ?_)
  · have h1 : 20 * t + 20 ≤ L.length := by simp at h1; omega
    have ht0 : t = 0 := by omega
    subst ht0
    rw [← hC]
    refine S.doesB 0 rfl (fun hl => insertion_c _ b c C (20 * 0) (20 * 0 + 20) hl (by omega) (by omega) (by omega) (hv.perm hp)) ?_
    rintro g N ⟨p1, o1, s1⟩ S
    rw [hC]
    refine WR.as (r := ((20 * 1 + 20 : Nat) : Int)) (by omega) ?_
    exact ⟨2 - 1, by omega, 1, N, rfl, .inr ⟨rfl, by omega⟩, p1.trans hp, s1, S, rfl⟩
  have h1 : L.length < 20 * t + 20 := by simp at h1; omega
  rw [← hC]
  refine S.doesB 0 rfl (fun hl => insertion_c _ b c C (20 * t) C.length hl (by omega) (by omega) (by omega) (hv.perm hp)) ?_
  rintro g N ⟨p1, o1, s1⟩ S
  rw [hC]
  have p2 := p1.trans hp
  have hN := p2.length_eq
  have s2 : SortedOn N 0 (20 * t) := fun p q a1 a2 a3 => by rw [o1 p (by omega), o1 q (by omega)]; exact hs p q a1 a2 a3
  refine ⟨⟨[0, 1, 2, 6], fun n' vs g => ∃ (z : Nat) (D : List SBar), n' = 2 - z ∧ D.Perm L ∧ (z = 0 ∧ D = N ∨ z = 1 ∧ SortedOn D 0 L.length) ∧ SepM (fun i => i = b) 0 (hide (fun i => i = b) h) g [.bx b 91 3 (cellsB D)] ∧
    vs = [slV b L.length c, .int .i64 L.length, cmpV, .int .i64 ((20 + 20 * z : Nat) : Int)], _, ⟨0, N, rfl, p2, .inl ⟨rfl, rfl⟩, S, rfl⟩, ?_⟩⟩
  clear S
  rintro n' vs g ⟨z, D, rfl, hd, hz, S, rfl⟩
  refine BIf.mk (fun h2 => ?_) (fun h2 => ?_)
  · have h2 : 20 + 20 * z < L.length := by simp at h2; omega
    rcases hz with ⟨rfl, rfl⟩ | ⟨rfl, _⟩
    · have ht1 : t = 1 := by omega
      subst ht1
      refine WR.as (r := ((40 : Nat) : Int)) (by omega) ?_
      refine ⟨⟨[0, 1, 2, 6, 7, 8], fun n' vs g => n' = 0 ∧ SepM (fun i => i = b) 0 (hide (fun i => i = b) h) g [.bx b 91 3 (cellsB D)] ∧
        vs = [slV b L.length c, .int .i64 L.length, cmpV, .int .i64 ((20 + 20 * 0 : Nat) : Int), .int .i64 0, .int .i64 ((40 : Nat) : Int)], _, ⟨rfl, S, rfl⟩, ?_⟩⟩
      clear S
      rintro n' vs g ⟨rfl, S, rfl⟩
      refine BIf.no (by simp; omega) ?_
      refine WR.as (r := ((20 : Nat) : Int)) (by omega) ?_
      refine BIf.yes (by simp; omega) ?_
      rw [← hN]
      refine S.doesB 0 rfl (fun hl => symMerge_c 1000 _ b c D 0 20 D.length (by omega) hl (by omega) (by omega) (Nat.le_refl _) (by omega) (hv.perm hd) s2 (by rw [hC, ← hN] at s1; exact s1)) ?_
      rintro g M q S
      rw [hN]
      refine WR.as (r := ((20 + 20 * 1 : Nat) : Int)) (by omega) ?_
      exact ⟨2 - 1, by omega, 1, M, rfl, q.perm.trans hd, .inr ⟨rfl, by rw [← hN]; exact q.so⟩, S, rfl⟩
    · omega
  have h2 : L.length ≤ 20 + 20 * z := by simp at h2; omega
  refine S.endB ⟨hd, ?_⟩
  rcases hz with ⟨rfl, rfl⟩ | ⟨rfl, hz⟩
  · rcases ht with rfl | ⟨rfl, _⟩
    · rw [← hC]; exact s1
    · exact fun p q a1 a2 a3 => s2 p q a1 a2 (by omega)
  · exact hz

theorem sortStable_c (h : AH) (b c : Nat) (L : List SBar) (hl : look h b = some ⟨cellsB L, some (91, 3)⟩) (h3 : L.length ≤ 24) (hv : Val L) :
    DoesB Try.prog 64 [slV b L.length c, cmpV] h b 91 (fun M => M.Perm L ∧ SortedOn M 0 L.length) := by
  unfold DoesB
  refine ACalls.of Tt.tab Try.func64 rfl (by kernel_rfl) Try.ntmps64 _ rfl rfl (fun hw => ?_)
  have S := SepM.boxB hl
  refine S.doesB 0 rfl (fun hl => stable_c _ b c L hl h3 hv) ?_
  rintro g M q S
  exact S.endB q

end Go.Gl

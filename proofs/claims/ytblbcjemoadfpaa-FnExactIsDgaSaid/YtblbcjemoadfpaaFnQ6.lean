/- Chapter 10: is it an algebra, in the reference. No condition. -/
import Derived.Test.YtblbcjemoadfpaaFnQ4
import Derived.Test.YtblbcjemoadfpaaFnQ5
set_option linter.unusedVariables false
set_option linter.unusedSimpArgs false
namespace Go.Gl
open Go.Proofs Go.Proofs.Ytblbcjemoadfpaa Go.Pl


set_option maxHeartbeats 4000000 in
theorem l10Is_c (h : AH) (I B : List Int) (gx : GL I B) (hB : BB B) : ACalls Try.prog 47 [vG I B] h (fun r h' => r = .bool (bo (Alg I B)) ∧ h' = h) := by
  refine ACalls.of Tt.tab Try.func47 rfl (by kernel_rfl) Try.ntmps47 _ rfl rfl (fun hw => ?_)
  have S := Sep.start h
  refine S.boxG gx fun b1 g S => ?_
  refine LoadX.same (S.at_ 0 rfl) (ldGG gx) ?_
  refine CallX.same (l10Shape_c _ I B gx hB) ?_
  rintro r g ⟨rfl, rfl⟩
  refine BIf.mk (fun h1 => ?_) (fun h1 => ?_)
  · refine FinX.keep hw S.le rfl ⟨congrArg Value.bool (bo_false fun F => ?_).symm, rfl⟩
    exact not_of_bo (by simpa using h1) F.f
  have F : Form I B := not_not_bo h1
  have hp := F.bd
  have hs := F.s
  obtain ⟨n, hn⟩ : ∃ n : Nat, (n : Int) = sz I := ⟨(sz I).toNat, by omega⟩
  have h8 : n ≤ 8 := by omega
  clear h1
  refine ⟨⟨[1, 3], fun n' vs g => ∃ i : Nat, n' = n - i ∧ i ≤ n ∧ (∀ k, k < i → UA I B k) ∧ (∀ k, k < i → ∀ j, j < n → LA I B k j) ∧ (∀ k, k < i → ∀ j, j < n → ∀ m, m < n → AA I B k j m) ∧ Sep h.length h g [.bx b1 28 594 (cG I B)] ∧
    vs = [.pointer (some ⟨b1, 0, none⟩), .int .i64 i], _, ⟨0, rfl, Nat.zero_le _, fun k hk => by omega, fun k hk => by omega, fun k hk => by omega, S, rfl⟩, ?_⟩⟩
  clear S
  rintro n' vs g ⟨i, rfl, hi, hu, hl, ha, S, rfl⟩
  refine LoadX.same (v := .int .i64 (sz I)) (S.at_ 0 rfl) (ldG gx (j := 1) (by omega)) ?_
  refine BIf.mk (fun h2 => ?_) (fun h2 => ?_)
  · have hlt : i < n := by simp at h2; omega
    have bi := unitE_byt i
    have li := unitE_low (i := i) (by omega)
    have si := unitE_small (i := i) (p := pr I) (s := sz I) hp.1 (by omega) (by omega)
    have rd := F.rdf gx hB (i := i) (by omega)
    have sd := F.dif i (by omega)
    have rg := F.rng i (by omega)
    have q1 := Int.emod_nonneg (dg I i) (show (2 : Int) ≠ 0 by decide)
    have q2 := Int.emod_lt_of_pos (dg I i) (show (0 : Int) < 2 by decide)
    refine DrawX.tree Tt.tab follows_any [9] [10] (.op 0 (.op 1 (.op 2 (.op 3 (.op 4 (.alt (.op 5 (.op 6 (.op 7 (.op 8 (.op 9 (.op 10 (.op 11 (.nil)))))))) (.op 9 (.alt (.op 5 (.op 6 (.op 7 (.op 8 (.op 10 (.op 11 (.nil))))))) (.op 10 (.op 5 (.op 6 (.op 7 (.op 8 (.op 11 (.nil))))))))))))))) [1, 3, 4, 5] (fun vs g => ∃ b4, vs = [.pointer (some ⟨b1, 0, none⟩), .int .i64 i, .pointer (some ⟨b4, 0, none⟩), .int .i64 (1 - 2 * (dg I i % 2))] ∧ Sep h.length h g [.bx b4 24 8 ((unitE i).map (.int .u8)), .bx b1 28 594 (cG I B)]) (by kernel_rfl) (by kernel_rfl) ?_ ?_
    · refine QCall.low (fun g2 hl => unit_c g2 i (by omega)) (low_vA _ _) ?_
      refine IdxX.mk (by omega) (by omega) ?_
      refine ⟨?_, ?_⟩
      · refine LoadX.same (v := .int .i64 (dg I i)) (S.at_ 0 rfl) (ldG gx (j := 2 + i) (by omega) (by show 0 + 2 + i = _; omega)) ?_
        refine TM.pos ?_
        refine WR.i64 ?_
        refine WR.i64 ?_
        refine S.newL fun b4 g le1 S => ?_
        refine ⟨le1, ?_⟩
        refine S.putA 0 rfl bi.1 rfl fun g S => ?_
        exact ⟨b4, rfl, S⟩
      · refine S.newL fun b4 g le1 S => ?_
        refine ⟨le1, ?_⟩
        refine ⟨?_, ?_⟩
        · refine LoadX.same (v := .int .i64 (dg I i)) (S.at_ 1 rfl) (ldG gx (j := 2 + i) (by omega) (by show 0 + 2 + i = _; omega)) ?_
          refine TM.pos ?_
          refine WR.i64 ?_
          refine WR.i64 ?_
          refine S.putA 0 rfl bi.1 rfl fun g S => ?_
          exact ⟨b4, rfl, S⟩
        · refine S.putA 0 rfl bi.1 rfl fun g S => ?_
          refine LoadX.same (v := .int .i64 (dg I i)) (S.at_ 1 rfl) (ldG gx (j := 2 + i) (by omega) (by show 0 + 2 + i = _; omega)) ?_
          refine TM.pos ?_
          refine WR.i64 ?_
          refine WR.i64 ?_
          exact ⟨b4, rfl, S⟩
    rintro vs g ⟨b4, rfl, S⟩
    refine DrawX.of Tt.tab follows_any [] [] [0, 1, 2, 3, 4, 5, 6, 7, 8, 9, 10, 11, 12, 13, 14, 15, 16, 17, 18, 19, 20, 21, 22, 23, 24, 25] rfl (by kernel_rfl) (by kernel_rfl) ?_
    have b0i := (F.rtb gx hB (i := 0) (j := i) (by omega) (by omega)).1
    have bi0 := (F.rtb gx hB (i := i) (j := 0) (by omega) (by omega)).1
    refine IdxX.mk (by omega) (by omega) ?_
    refine IdxX.mk (by omega) (by omega) ?_
    refine LoadX.same (v := vA .u8 (tb B 0 i)) (S.at_ 1 rfl) (ldGB gx (o := 64 + (0 * 64 + i * 8)) (s := 8) (by omega) (by show 0 + 82 + 0 + i * 8 = _; omega)) ?_
    refine LoadX.same (S.at_ 0 rfl) (ldAll bi.1) ?_
    refine ⟨⟨tb B 0 i, unitE i, b0i, bi.1, rfl, rfl, ?_⟩⟩
    refine BIf.mk (fun h3 => ?_) (fun h3 => ?_)
    · refine BIf.yes rfl ?_
      refine BIf.yes rfl ?_
      refine FinX.keep hw S.le rfl ⟨congrArg Value.bool (bo_false fun A => ?_).symm, rfl⟩
      simp [(A.u i (by omega)).1] at h3
    have h3 : tb B 0 i = unitE i := by simpa using h3
    refine IdxX.mk (by omega) (by omega) ?_
    refine IdxX.mk (by omega) (by omega) ?_
    refine LoadX.same (v := vA .u8 (tb B i 0)) (S.at_ 1 rfl) (ldGB gx (o := 64 + (i * 64 + 0 * 8)) (s := 8) (by omega) (by show 0 + 82 + i * 64 + 0 = _; omega)) ?_
    refine LoadX.same (S.at_ 0 rfl) (ldAll bi.1) ?_
    refine ⟨⟨tb B i 0, unitE i, bi0, bi.1, rfl, rfl, ?_⟩⟩
    refine BIf.mk (fun h4 => ?_) (fun h4 => ?_)
    · refine BIf.yes rfl ?_
      refine FinX.keep hw S.le rfl ⟨congrArg Value.bool (bo_false fun A => ?_).symm, rfl⟩
      simp [(A.u i (by omega)).2.1] at h4
    have h4 : tb B i 0 = unitE i := by simpa using h4
    refine LoadX.same (S.at_ 1 rfl) (ldGG gx) ?_
    refine IdxX.mk (by omega) (by omega) ?_
    refine LoadX.same (v := vA .u8 (df B i)) (S.at_ 1 rfl) (ldGB gx (o := i * 8) (s := 8) (by omega) (by show 0 + 18 + i * 8 = _; omega)) ?_
    refine QCall.low (fun g2 hl => difS_c g2 I B _ n hn h8 gx hB hp (rd.byt hp.2) sd) (low_vA _ _) ?_
    refine ⟨⟨dif (pr I) B (df B i), z8, dif_red hp |>.1, rfl, rfl, rfl, ?_⟩⟩
    refine BIf.mk (fun h5 => ?_) (fun h5 => ?_)
    · refine FinX.keep hw S.le rfl ⟨congrArg Value.bool (bo_false fun A => ?_).symm, rfl⟩
      simp [(A.u i (by omega)).2.2] at h5
    have hui : UA I B i := ⟨h3, h4, by simpa using h5⟩
    clear h2 h3 h4 h5
    refine ⟨⟨[1, 3, 4, 5, 6], fun n' vs g => ∃ j : Nat, n' = n - j ∧ j ≤ n ∧ (∀ k, k < j → LA I B i k) ∧ (∀ k, k < j → ∀ m, m < n → AA I B i k m) ∧ Sep h.length h g [.bx b4 24 8 ((unitE i).map (.int .u8)), .bx b1 28 594 (cG I B)] ∧
      vs = [.pointer (some ⟨b1, 0, none⟩), .int .i64 i, .pointer (some ⟨b4, 0, none⟩), .int .i64 (1 - 2 * (dg I i % 2)), .int .i64 j], _, ⟨0, rfl, Nat.zero_le _, fun k hk => by omega, fun k hk => by omega, S, rfl⟩, ?_⟩⟩
    clear S
    rintro n' vs g ⟨j, rfl, hj, hl2, ha2, S, rfl⟩
    refine LoadX.same (v := .int .i64 (sz I)) (S.at_ 1 rfl) (ldG gx (j := 1) (by omega)) ?_
    refine BIf.mk (fun h2 => ?_) (fun h2 => ?_)
    · have hjt : j < n := by simp at h2; omega
      have bj := unitE_byt j
      have lj := unitE_low (i := j) (by omega)
      have sj := unitE_small (i := j) (p := pr I) (s := sz I) hp.1 (by omega) (by omega)
      have rj := F.rdf gx hB (i := j) (by omega)
      have sdj := F.dif j (by omega)
      have rt := F.rtb gx hB (i := i) (j := j) (by omega) (by omega)
      have st := (F.tab i (by omega) j (by omega)).1
      refine DrawX.of Tt.tab follows_any [8] [9] [0, 1, 2, 3, 4, 5, 6, 7, 8, 9] rfl (by kernel_rfl) (by kernel_rfl) ?_
      refine LoadX.same (S.at_ 1 rfl) (ldGG gx) ?_
      refine IdxX.mk (by omega) (by omega) ?_
      refine LoadX.same (v := vA .u8 (df B i)) (S.at_ 1 rfl) (ldGB gx (o := i * 8) (s := 8) (by omega) (by show 0 + 18 + i * 8 = _; omega)) ?_
      refine QCall.low (fun g2 hl => unit_c g2 j (by omega)) (low_vA _ _) ?_
      refine QCall.low (fun g2 hl => timesS_c g2 I B _ _ n hn h8 gx hB hp (rd.byt hp.2) bj (rd.low hp.2) lj sd sj) (low_vA _ _) ?_
      refine S.newL fun b7 g le1 S => ?_
      refine ⟨le1, ?_⟩
      refine S.putA 0 rfl (times_red hp |>.1) rfl fun g S => ?_
      refine DrawX.of Tt.tab follows_any [] [] [0, 1, 2, 3, 4, 5, 6, 7, 8, 9, 10, 11, 12, 13, 14, 15, 16, 17, 18, 19, 20] rfl (by kernel_rfl) (by kernel_rfl) ?_
      refine LoadX.same (S.at_ 2 rfl) (ldGG gx) ?_
      refine IdxX.mk (by omega) (by omega) ?_
      refine IdxX.mk (by omega) (by omega) ?_
      refine LoadX.same (v := vA .u8 (tb B i j)) (S.at_ 2 rfl) (ldGB gx (o := 64 + (i * 64 + j * 8)) (s := 8) (by omega) (by show 0 + 82 + i * 64 + j * 8 = _; omega)) ?_
      refine QCall.low (fun g2 hl => difS_c g2 I B _ n hn h8 gx hB hp (rt.byt hp.2) st) (low_vA _ _) ?_
      refine LoadX.same (v := .int .i64 (pr I)) (S.at_ 2 rfl) (ldG gx (j := 0) (by omega)) ?_
      refine LoadX.same (S.at_ 0 rfl) (ldAll (times_red hp |>.1)) ?_
      refine LoadX.same (S.at_ 2 rfl) (ldGG gx) ?_
      refine LoadX.same (S.at_ 1 rfl) (ldAll bi.1) ?_
      refine IdxX.mk (by omega) (by omega) ?_
      refine LoadX.same (v := vA .u8 (df B j)) (S.at_ 2 rfl) (ldGB gx (o := j * 8) (s := 8) (by omega) (by show 0 + 18 + j * 8 = _; omega)) ?_
      refine QCall.low (fun g2 hl => timesS_c g2 I B _ _ n hn h8 gx hB hp bi (rj.byt hp.2) li (rj.low hp.2) si sdj) (low_vA _ _) ?_
      refine QCall.low (fun g2 hl => l10Add_c g2 (pr I) (1 - 2 * (dg I i % 2)) _ _ hp (by omega) ((times_red hp).byt hp.2) ((times_red hp).byt hp.2)) (low_vA _ _) ?_
      refine ⟨⟨_, _, dif_red hp |>.1, addE_length _ _ _ _, rfl, rfl, ?_⟩⟩
      refine BIf.mk (fun h3 => ?_) (fun h3 => ?_)
      · refine FinX.keep hw S.le rfl ⟨congrArg Value.bool (bo_false fun A => ?_).symm, rfl⟩
        simp [A.l i j (by omega) (by omega)] at h3
      have hla : LA I B i j := by unfold LA; simpa using h3
      clear h2 h3
      have S := S.tail
      refine ⟨⟨[1, 3, 4, 5, 6, 8], fun n' vs g => ∃ k : Nat, n' = n - k ∧ k ≤ n ∧ (∀ m, m < k → AA I B i j m) ∧ Sep h.length h g [.bx b4 24 8 ((unitE i).map (.int .u8)), .bx b1 28 594 (cG I B)] ∧
        vs = [.pointer (some ⟨b1, 0, none⟩), .int .i64 i, .pointer (some ⟨b4, 0, none⟩), .int .i64 (1 - 2 * (dg I i % 2)), .int .i64 j, .int .i64 k], _, ⟨0, rfl, Nat.zero_le _, fun k hk => by omega, S, rfl⟩, ?_⟩⟩
      clear S
      rintro n' vs g ⟨k, rfl, hk, ha3, S, rfl⟩
      refine LoadX.same (v := .int .i64 (sz I)) (S.at_ 1 rfl) (ldG gx (j := 1) (by omega)) ?_
      refine BIf.mk (fun h2 => ?_) (fun h2 => ?_)
      · have hkt : k < n := by simp at h2; omega
        have bk := unitE_byt k
        have lk := unitE_low (i := k) (by omega)
        have sk := unitE_small (i := k) (p := pr I) (s := sz I) hp.1 (by omega) (by omega)
        have rk := F.rtb gx hB (i := j) (j := k) (by omega) (by omega)
        have stk := (F.tab j (by omega) k (by omega)).1
        refine DrawX.of Tt.tab follows_any [] [] [0, 1, 2, 3, 4, 5, 6, 7, 8, 9, 10, 11, 12, 13, 14, 15, 16, 17, 18, 19] rfl (by kernel_rfl) (by kernel_rfl) ?_
        refine LoadX.same (S.at_ 1 rfl) (ldGG gx) ?_
        refine IdxX.mk (by omega) (by omega) ?_
        refine IdxX.mk (by omega) (by omega) ?_
        refine LoadX.same (v := vA .u8 (tb B i j)) (S.at_ 1 rfl) (ldGB gx (o := 64 + (i * 64 + j * 8)) (s := 8) (by omega) (by show 0 + 82 + i * 64 + j * 8 = _; omega)) ?_
        refine QCall.low (fun g2 hl => unit_c g2 k (by omega)) (low_vA _ _) ?_
        refine QCall.low (fun g2 hl => timesS_c g2 I B _ _ n hn h8 gx hB hp (rt.byt hp.2) bk (rt.low hp.2) lk st sk) (low_vA _ _) ?_
        refine LoadX.same (S.at_ 1 rfl) (ldGG gx) ?_
        refine LoadX.same (S.at_ 0 rfl) (ldAll bi.1) ?_
        refine IdxX.mk (by omega) (by omega) ?_
        refine IdxX.mk (by omega) (by omega) ?_
        refine LoadX.same (v := vA .u8 (tb B j k)) (S.at_ 1 rfl) (ldGB gx (o := 64 + (j * 64 + k * 8)) (s := 8) (by omega) (by show 0 + 82 + j * 64 + k * 8 = _; omega)) ?_
        refine QCall.low (fun g2 hl => timesS_c g2 I B _ _ n hn h8 gx hB hp bi (rk.byt hp.2) li (rk.low hp.2) si stk) (low_vA _ _) ?_
        refine ⟨⟨_, _, times_red hp |>.1, times_red hp |>.1, rfl, rfl, ?_⟩⟩
        refine BIf.mk (fun h3 => ?_) (fun h3 => ?_)
        · refine FinX.keep hw S.le rfl ⟨congrArg Value.bool (bo_false fun A => ?_).symm, rfl⟩
          simp [A.a i j k (by omega) (by omega) (by omega)] at h3
        refine WR.i64 ?_
        exact ⟨n - (k + 1), by omega, k + 1, rfl, hkt, fun m hm => by
          by_cases e : m = k
          · subst e; unfold AA; simpa using h3
          · exact ha3 m (by omega), S, rfl⟩
      have hk2 : k = n := by simp at h2; omega
      subst hk2
      refine WR.i64 ?_
      exact ⟨k - (j + 1), by omega, j + 1, rfl, hjt, fun m hm => by
        by_cases e : m = j
        · subst e; exact hla
        · exact hl2 m (by omega), fun m hm => by
        by_cases e : m = j
        · subst e; exact ha3
        · exact ha2 m (by omega), S, rfl⟩
    have hj2 : j = n := by simp at h2; omega
    subst hj2
    refine WR.i64 ?_
    exact ⟨j - (i + 1), by omega, i + 1, rfl, hlt, fun m hm => by
      by_cases e : m = i
      · subst e; exact hui
      · exact hu m (by omega), fun m hm => by
      by_cases e : m = i
      · subst e; exact hl2
      · exact hl m (by omega), fun m hm => by
      by_cases e : m = i
      · subst e; exact ha2
      · exact ha m (by omega), S.tail, rfl⟩
  have hi2 : i = n := by simp at h2; omega
  subst hi2
  exact FinX.keep hw S.le rfl ⟨congrArg Value.bool (bo_true (Alg.of hn F hu hl ha)).symm, rfl⟩

end Go.Gl

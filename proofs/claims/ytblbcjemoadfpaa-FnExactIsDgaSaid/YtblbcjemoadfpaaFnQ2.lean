/- Chapter 10: products and differentials of elements. No condition. -/
import Derived.Test.YtblbcjemoadfpaaPlDg
set_option linter.unusedVariables false
set_option linter.unusedSimpArgs false
namespace Go.Gl
open Go.Proofs Go.Proofs.Ytblbcjemoadfpaa Go.Pl

theorem prod_bd {x y : Int} (hx : 0 ≤ x ∧ x ≤ 7) (hy : 0 ≤ y ∧ y ≤ 7) : 0 ≤ x * y ∧ x * y ≤ 49 := by
  have h1 := Int.mul_nonneg hx.1 hy.1
  have h2 : x * y ≤ 7 * y := Int.mul_le_mul_of_nonneg_right hx.2 hy.1
  omega
/-- bytes up to 7 -/
def Low (u : List Int) : Prop := ∀ i, ith u i ≤ 7
theorem Red.low {p : Int} {u : List Int} (h : Red p u) (hp : p ≤ 7) : Low u := fun i => by have := (h.2 i).2; omega
theorem Red.byt {p : Int} {u : List Int} (h : Red p u) (hp : p ≤ 7) : Byt u := ⟨h.1, fun i => by have := h.2 i; omega⟩

theorem timesI_c (h : AH) (I B u v : List Int) (gx : GL I B) (hB : BB B) (hp : 2 ≤ pr I ∧ pr I ≤ 7) (hu : Byt u) (hv : Byt v) (lu : Low u) (l2 : Low v) : ACalls Try.prog 52 [vG I B, vA .u8 u, vA .u8 v] h (fun r h' => r = vA .u8 (times (pr I) B u v) ∧ h' = h) := by
  refine ACalls.of Tt.tab Try.func52 rfl (by kernel_rfl) Try.ntmps52 _ rfl rfl (fun hw => ?_)
  have S := Sep.start h
  refine S.boxG gx fun b3 g S => ?_
  refine S.boxA hu.1 fun b4 g S => ?_
  refine S.boxA hv.1 fun b5 g S => ?_
  refine S.new fun b6 g S => ?_
  refine S.new fun b7 g S => ?_
  refine S.putA (ys := z8) 0 rfl rfl rfl fun g S => ?_
  refine LoadX.same (S.at_ 3 rfl) (ldAll hu.1) ?_
  refine ⟨⟨[3, 5, 6, 7, 13, 14], fun n' vs g => ∃ i : Nat, n' = 8 - i ∧ i ≤ 8 ∧ Sep h.length h g [.bx b7 24 8 ((mulT (pr I) B u v 8 i).map (.int .u8)), .bx b6 24 8 (z8.map (.int .u8)), .bx b5 24 8 (v.map (.int .u8)), .bx b4 24 8 (u.map (.int .u8)), .bx b3 28 594 (cG I B)] ∧
    vs = [.pointer (some ⟨b3, 0, none⟩), .pointer (some ⟨b5, 0, none⟩), .pointer (some ⟨b6, 0, none⟩), .pointer (some ⟨b7, 0, none⟩), vA .u8 u, .int .i64 i], _, ⟨0, rfl, Nat.zero_le _, S, rfl⟩, ?_⟩⟩
  clear S
  rintro n' vs g ⟨i, rfl, hi, S, rfl⟩
  refine BIf.mk (fun h2 => ?_) (fun h2 => ?_)
  · have hlt : i < 8 := by simp at h2; omega
    refine IdxX.mk (by omega) (by omega) ?_
    refine ⟨⟨.int .u8 (ith u i), ldvK (o := i) (by rw [hu.1]; exact hlt), ?_⟩⟩
    refine LoadX.same (S.at_ 2 rfl) (ldAll hv.1) ?_
    refine ⟨⟨[3, 5, 6, 7, 8, 9, 13, 14, 18, 19], fun n' vs g => ∃ j : Nat, n' = 8 - j ∧ j ≤ 8 ∧ Sep h.length h g [.bx b7 24 8 ((rowT (pr I) B u v (mulT (pr I) B u v 8 i) i j).map (.int .u8)), .bx b6 24 8 (z8.map (.int .u8)), .bx b5 24 8 (v.map (.int .u8)), .bx b4 24 8 (u.map (.int .u8)), .bx b3 28 594 (cG I B)] ∧
      vs = [.pointer (some ⟨b3, 0, none⟩), .pointer (some ⟨b5, 0, none⟩), .pointer (some ⟨b6, 0, none⟩), .pointer (some ⟨b7, 0, none⟩), .int .i64 i, .int .u8 (ith u i), vA .u8 u, .int .i64 i, vA .u8 v, .int .i64 j], _, ⟨0, rfl, Nat.zero_le _, S, rfl⟩, ?_⟩⟩
    clear S h2
    rintro n' vs g ⟨j, rfl, hj, S, rfl⟩
    refine BIf.mk (fun h2 => ?_) (fun h2 => ?_)
    · have hjt : j < 8 := by simp at h2; omega
      have hout := rowT_byt hp (B := B) (u := u) (v := v) (mulT_byt hp (B := B) (u := u) (v := v) 8 i) i j
      refine IdxX.mk (by omega) (by omega) ?_
      refine ⟨⟨.int .u8 (ith v j), ldvK (o := j) (by rw [hv.1]; exact hjt), ?_⟩⟩
      have more : rowT (pr I) B u v (mulT (pr I) B u v 8 i) i (j + 1) = stepT (pr I) B u v (rowT (pr I) B u v (mulT (pr I) B u v 8 i) i j) i j := rfl
      refine BIf.mk (fun h3 => ?_) (fun h3 => ?_)
      · have h3 : ith u i ≠ 0 := by simpa using h3
        refine BIf.mk (fun h4 => ?_) (fun h4 => ?_)
        · have h4 : ith v j ≠ 0 := by simpa using h4
          have k1 := hu.2 i
          have k2 := hv.2 j
          have k3 := lu i
          have k4 := l2 j
          have k5 := prod_bd (x := ith u i) (y := ith v j) (by omega) (by omega)
          have ht := tb_byt gx hB hlt hjt
          unfold stepT at more
          rw [if_pos ⟨h3, h4⟩] at more
          refine DrawX.of Tt.tab follows_any [] [14] [0, 1, 2, 3, 4, 5, 6, 7, 8, 9, 10, 11, 12, 13, 14] rfl (by kernel_rfl) (by kernel_rfl) ?_
          refine LoadX.same (S.at_ 4 rfl) (ldGG gx) ?_
          refine LoadX.same (S.at_ 0 rfl) (ldAll hout.1) ?_
          refine IdxX.mk (by omega) (by omega) ?_
          refine IdxX.mk (by omega) (by omega) ?_
          refine LoadX.same (S.at_ 4 rfl) (ldGB gx (o := 64 + (i * 64 + j * 8)) (s := 8) (by omega) (by show 0 + 82 + i * 64 + j * 8 = _; omega)) ?_
          refine WR.i64 ?_
          refine WR.i64 ?_
          refine WR.i64 ?_
          refine QCall.low (fun g2 hl => plus_c g2 I B (ith u i * ith v j) _ _ gx hp (by omega) hout ht) (low_vA _ _) ?_
          refine S.putA 0 rfl (addE_length _ _ _ _) (by simp [hout.1]) fun g S => ?_
          refine WR.i64 ?_
          rw [← more] at S
          exact ⟨8 - (j + 1), by omega, j + 1, rfl, hjt, S, rfl⟩
        refine WR.i64 ?_
        unfold stepT at more
        rw [if_neg (fun hh => hh.2 (by simpa using h4))] at more
        rw [← more] at S
        exact ⟨8 - (j + 1), by omega, j + 1, rfl, hjt, S, rfl⟩
      refine BIf.no rfl ?_
      refine WR.i64 ?_
      unfold stepT at more
      rw [if_neg (fun hh => hh.1 (by simpa using h3))] at more
      rw [← more] at S
      exact ⟨8 - (j + 1), by omega, j + 1, rfl, hjt, S, rfl⟩
    have hj2 : j = 8 := by simp at h2; omega
    subst hj2
    refine WR.i64 ?_
    exact ⟨8 - (i + 1), by omega, i + 1, rfl, hlt, S, rfl⟩
  have hi2 : i = 8 := by simp at h2; omega
  subst hi2
  have hout := mulT_byt hp (B := B) (u := u) (v := v) 8 8
  refine LoadX.same (S.at_ 0 rfl) (ldAll hout.1) ?_
  refine S.putA 1 rfl hout.1 rfl fun g S => ?_
  refine LoadX.same (S.at_ 1 rfl) (ldAll hout.1) ?_
  exact FinX.low hw S.le (low_vA _ _) ⟨rfl, rfl⟩

theorem difI_c (h : AH) (I B u : List Int) (gx : GL I B) (hB : BB B) (hp : 2 ≤ pr I ∧ pr I ≤ 7) (hu : Byt u) : ACalls Try.prog 53 [vG I B, vA .u8 u] h (fun r h' => r = vA .u8 (dif (pr I) B u) ∧ h' = h) := by
  refine ACalls.of Tt.tab Try.func53 rfl (by kernel_rfl) Try.ntmps53 _ rfl rfl (fun hw => ?_)
  have S := Sep.start h
  refine S.boxG gx fun b2 g S => ?_
  refine S.boxA hu.1 fun b3 g S => ?_
  refine S.new fun b4 g S => ?_
  refine S.new fun b5 g S => ?_
  refine S.putA (ys := z8) 0 rfl rfl rfl fun g S => ?_
  refine LoadX.same (S.at_ 2 rfl) (ldAll hu.1) ?_
  refine ⟨⟨[2, 4, 5, 9, 10], fun n' vs g => ∃ i : Nat, n' = 8 - i ∧ i ≤ 8 ∧ Sep h.length h g [.bx b5 24 8 ((difT (pr I) B u i).map (.int .u8)), .bx b4 24 8 (z8.map (.int .u8)), .bx b3 24 8 (u.map (.int .u8)), .bx b2 28 594 (cG I B)] ∧
    vs = [.pointer (some ⟨b2, 0, none⟩), .pointer (some ⟨b4, 0, none⟩), .pointer (some ⟨b5, 0, none⟩), vA .u8 u, .int .i64 i], _, ⟨0, rfl, Nat.zero_le _, S, rfl⟩, ?_⟩⟩
  clear S
  rintro n' vs g ⟨i, rfl, hi, S, rfl⟩
  have hout := difT_byt hp (B := B) (u := u) i
  refine BIf.mk (fun h2 => ?_) (fun h2 => ?_)
  · have hlt : i < 8 := by simp at h2; omega
    have k1 := hu.2 i
    refine IdxX.mk (by omega) (by omega) ?_
    refine ⟨⟨.int .u8 (ith u i), ldvK (o := i) (by rw [hu.1]; exact hlt), ?_⟩⟩
    refine DrawX.of Tt.tab follows_any [] [9] [0, 1, 2, 3, 4, 5, 6, 7, 8, 9] rfl (by kernel_rfl) (by kernel_rfl) ?_
    refine LoadX.same (S.at_ 3 rfl) (ldGG gx) ?_
    refine LoadX.same (S.at_ 0 rfl) (ldAll hout.1) ?_
    refine IdxX.mk (by omega) (by omega) ?_
    refine LoadX.same (S.at_ 3 rfl) (ldGB gx (o := i * 8) (s := 8) (by omega) (by show 0 + 18 + i * 8 = _; omega)) ?_
    refine WR.i64 ?_
    refine QCall.low (fun g2 hl => plus_c g2 I B (ith u i) _ _ gx hp (by omega) hout (df_byt gx hB hlt)) (low_vA _ _) ?_
    refine S.putA 0 rfl (addE_length _ _ _ _) (by simp [hout.1]) fun g S => ?_
    refine WR.i64 ?_
    exact ⟨8 - (i + 1), by omega, i + 1, rfl, hlt, S, rfl⟩
  have hi2 : i = 8 := by simp at h2; omega
  subst hi2
  refine LoadX.same (S.at_ 0 rfl) (ldAll hout.1) ?_
  refine S.putA 1 rfl hout.1 rfl fun g S => ?_
  refine LoadX.same (S.at_ 1 rfl) (ldAll hout.1) ?_
  exact FinX.low hw S.le (low_vA _ _) ⟨rfl, rfl⟩

theorem difS_c (h : AH) (I B u : List Int) (n : Nat) (hn : (n : Int) = sz I) (h8 : n ≤ 8) (gx : GL I B) (hB : BB B) (hp : 2 ≤ pr I ∧ pr I ≤ 7) (hu : Byt u) (su : Small (pr I) (sz I) u) : ACalls Try.prog 56 [vG I B, vA .u8 u] h (fun r h' => r = vA .u8 (dif (pr I) B u) ∧ h' = h) := by
  refine ACalls.of Tt.tab Try.func56 rfl (by kernel_rfl) Try.ntmps56 _ rfl rfl (fun hw => ?_)
  rw [← difT_all hp hn h8 su]
  have S := Sep.start h
  refine S.boxG gx fun b2 g S => ?_
  refine S.boxA hu.1 fun b3 g S => ?_
  refine S.new fun b4 g S => ?_
  refine S.new fun b5 g S => ?_
  refine S.putA (ys := z8) 0 rfl rfl rfl fun g S => ?_
  refine ⟨⟨[2, 3, 4, 5, 6], fun n' vs g => ∃ i : Nat, n' = n - i ∧ i ≤ n ∧ Sep h.length h g [.bx b5 24 8 ((difT (pr I) B u i).map (.int .u8)), .bx b4 24 8 (z8.map (.int .u8)), .bx b3 24 8 (u.map (.int .u8)), .bx b2 28 594 (cG I B)] ∧
    vs = [.pointer (some ⟨b2, 0, none⟩), .pointer (some ⟨b3, 0, none⟩), .pointer (some ⟨b4, 0, none⟩), .pointer (some ⟨b5, 0, none⟩), .int .i64 i], _, ⟨0, rfl, Nat.zero_le _, S, rfl⟩, ?_⟩⟩
  clear S
  rintro n' vs g ⟨i, rfl, hi, S, rfl⟩
  have hout := difT_byt hp (B := B) (u := u) i
  refine LoadX.same (v := .int .i64 (sz I)) (S.at_ 3 rfl) (ldG gx (j := 1) (by omega)) ?_
  refine BIf.mk (fun h2 => ?_) (fun h2 => ?_)
  · have hlt : i < n := by simp at h2; omega
    have k1 := hu.2 i
    refine DrawX.of Tt.tab follows_any [] [12] [0, 1, 2, 3, 4, 5, 6, 7, 8, 9, 10, 11, 12] rfl (by kernel_rfl) (by kernel_rfl) ?_
    refine LoadX.same (v := .int .i64 (pr I)) (S.at_ 3 rfl) (ldG gx (j := 0) (by omega)) ?_
    refine LoadX.same (S.at_ 0 rfl) (ldAll hout.1) ?_
    refine IdxX.mk (by omega) (by omega) ?_
    refine LoadX.same (S.at_ 3 rfl) (ldGB gx (o := i * 8) (s := 8) (by omega) (by show 0 + 18 + i * 8 = _; omega)) ?_
    refine IdxX.mk (by omega) (by omega) ?_
    refine LoadX.same (S.at_ 2 rfl) (ldvK0 (j := i) (by rw [hu.1]; omega)) ?_
    refine WR.i64 ?_
    refine QCall.low (fun g2 hl => l10Add_c g2 (pr I) (ith u i) _ _ hp (by omega) hout (df_byt gx hB (by omega))) (low_vA _ _) ?_
    refine S.putA 0 rfl (addE_length _ _ _ _) (by simp [hout.1]) fun g S => ?_
    refine WR.i64 ?_
    exact ⟨n - (i + 1), by omega, i + 1, rfl, hlt, S, rfl⟩
  have hi2 : i = n := by simp at h2; omega
  subst hi2
  refine LoadX.same (S.at_ 0 rfl) (ldAll hout.1) ?_
  refine S.putA 1 rfl hout.1 rfl fun g S => ?_
  refine LoadX.same (S.at_ 1 rfl) (ldAll hout.1) ?_
  exact FinX.low hw S.le (low_vA _ _) ⟨rfl, rfl⟩

theorem timesS_c (h : AH) (I B u v : List Int) (n : Nat) (hn : (n : Int) = sz I) (h8 : n ≤ 8) (gx : GL I B) (hB : BB B) (hp : 2 ≤ pr I ∧ pr I ≤ 7) (hu : Byt u) (hv : Byt v) (lu : Low u) (l2 : Low v) (su : Small (pr I) (sz I) u) (sv : Small (pr I) (sz I) v) : ACalls Try.prog 58 [vG I B, vA .u8 u, vA .u8 v] h (fun r h' => r = vA .u8 (times (pr I) B u v) ∧ h' = h) := by
  refine ACalls.of Tt.tab Try.func58 rfl (by kernel_rfl) Try.ntmps58 _ rfl rfl (fun hw => ?_)
  rw [← mulT_all hn h8 su sv]
  have S := Sep.start h
  refine S.boxG gx fun b3 g S => ?_
  refine S.boxA hu.1 fun b4 g S => ?_
  refine S.boxA hv.1 fun b5 g S => ?_
  refine S.new fun b6 g S => ?_
  refine S.new fun b7 g S => ?_
  refine S.putA (ys := z8) 0 rfl rfl rfl fun g S => ?_
  refine ⟨⟨[3, 4, 5, 6, 7, 8], fun n' vs g => ∃ i : Nat, n' = n - i ∧ i ≤ n ∧ Sep h.length h g [.bx b7 24 8 ((mulT (pr I) B u v n i).map (.int .u8)), .bx b6 24 8 (z8.map (.int .u8)), .bx b5 24 8 (v.map (.int .u8)), .bx b4 24 8 (u.map (.int .u8)), .bx b3 28 594 (cG I B)] ∧
    vs = [.pointer (some ⟨b3, 0, none⟩), .pointer (some ⟨b4, 0, none⟩), .pointer (some ⟨b5, 0, none⟩), .pointer (some ⟨b6, 0, none⟩), .pointer (some ⟨b7, 0, none⟩), .int .i64 i], _, ⟨0, rfl, Nat.zero_le _, S, rfl⟩, ?_⟩⟩
  clear S
  rintro n' vs g ⟨i, rfl, hi, S, rfl⟩
  refine LoadX.same (v := .int .i64 (sz I)) (S.at_ 4 rfl) (ldG gx (j := 1) (by omega)) ?_
  refine BIf.mk (fun h2 => ?_) (fun h2 => ?_)
  · have hlt : i < n := by simp at h2; omega
    refine ⟨⟨[3, 4, 5, 6, 7, 8, 9], fun n' vs g => ∃ j : Nat, n' = n - j ∧ j ≤ n ∧ Sep h.length h g [.bx b7 24 8 ((rowT (pr I) B u v (mulT (pr I) B u v n i) i j).map (.int .u8)), .bx b6 24 8 (z8.map (.int .u8)), .bx b5 24 8 (v.map (.int .u8)), .bx b4 24 8 (u.map (.int .u8)), .bx b3 28 594 (cG I B)] ∧
      vs = [.pointer (some ⟨b3, 0, none⟩), .pointer (some ⟨b4, 0, none⟩), .pointer (some ⟨b5, 0, none⟩), .pointer (some ⟨b6, 0, none⟩), .pointer (some ⟨b7, 0, none⟩), .int .i64 i, .int .i64 j], _, ⟨0, rfl, Nat.zero_le _, S, rfl⟩, ?_⟩⟩
    clear S h2
    rintro n' vs g ⟨j, rfl, hj, S, rfl⟩
    refine LoadX.same (v := .int .i64 (sz I)) (S.at_ 4 rfl) (ldG gx (j := 1) (by omega)) ?_
    refine BIf.mk (fun h2 => ?_) (fun h2 => ?_)
    · have hjt : j < n := by simp at h2; omega
      have hout := rowT_byt hp (B := B) (u := u) (v := v) (mulT_byt hp (B := B) (u := u) (v := v) n i) i j
      have lu0 : ∀ {ti : TI}, ti.agg = false → ldv ti (u.map (Value.int .u8)) (0 + i) = some (.int .u8 (ith u i)) := fun hi => ldvK0 (j := i) (by rw [hu.1]; omega) rfl hi
      have lv0 : ∀ {ti : TI}, ti.agg = false → ldv ti (v.map (Value.int .u8)) (0 + j) = some (.int .u8 (ith v j)) := fun hi => ldvK0 (j := j) (by rw [hv.1]; omega) rfl hi
      refine IdxX.mk (by omega) (by omega) ?_
      refine LoadX.same (S.at_ 3 rfl) (lu0 rfl) ?_
      have more : rowT (pr I) B u v (mulT (pr I) B u v n i) i (j + 1) = stepT (pr I) B u v (rowT (pr I) B u v (mulT (pr I) B u v n i) i j) i j := rfl
      refine BIf.mk (fun h3 => ?_) (fun h3 => ?_)
      · have h3 : ith u i ≠ 0 := by simpa using h3
        refine IdxX.mk (by omega) (by omega) ?_
        refine LoadX.same (S.at_ 2 rfl) (lv0 rfl) ?_
        refine BIf.mk (fun h4 => ?_) (fun h4 => ?_)
        · have h4 : ith v j ≠ 0 := by simpa using h4
          have k1 := hu.2 i
          have k2 := hv.2 j
          have k3 := lu i
          have k4 := l2 j
          have k5 := prod_bd (x := ith u i) (y := ith v j) (by omega) (by omega)
          have ht := tb_byt gx hB (i := i) (j := j) (by omega) (by omega)
          unfold stepT at more
          rw [if_pos ⟨h3, h4⟩] at more
          refine DrawX.of Tt.tab follows_any [] [19] [0, 1, 2, 3, 4, 5, 6, 7, 8, 9, 10, 11, 12, 13, 14, 15, 16, 17, 18, 19] rfl (by kernel_rfl) (by kernel_rfl) ?_
          refine LoadX.same (v := .int .i64 (pr I)) (S.at_ 4 rfl) (ldG gx (j := 0) (by omega)) ?_
          refine LoadX.same (S.at_ 0 rfl) (ldAll hout.1) ?_
          refine IdxX.mk (by omega) (by omega) ?_
          refine IdxX.mk (by omega) (by omega) ?_
          refine LoadX.same (S.at_ 4 rfl) (ldGB gx (o := 64 + (i * 64 + j * 8)) (s := 8) (by omega) (by show 0 + 82 + i * 64 + j * 8 = _; omega)) ?_
          refine IdxX.mk (by omega) (by omega) ?_
          refine LoadX.same (S.at_ 3 rfl) (lu0 rfl) ?_
          refine WR.i64 ?_
          refine IdxX.mk (by omega) (by omega) ?_
          refine LoadX.same (S.at_ 2 rfl) (lv0 rfl) ?_
          refine WR.i64 ?_
          refine WR.i64 ?_
          refine QCall.low (fun g2 hl => l10Add_c g2 (pr I) (ith u i * ith v j) _ _ hp (by omega) hout ht) (low_vA _ _) ?_
          refine S.putA 0 rfl (addE_length _ _ _ _) (by simp [hout.1]) fun g S => ?_
          refine WR.i64 ?_
          rw [← more] at S
          exact ⟨n - (j + 1), by omega, j + 1, rfl, hjt, S, rfl⟩
        refine WR.i64 ?_
        unfold stepT at more
        rw [if_neg (fun hh => hh.2 (by simpa using h4))] at more
        rw [← more] at S
        exact ⟨n - (j + 1), by omega, j + 1, rfl, hjt, S, rfl⟩
      refine BIf.no rfl ?_
      refine WR.i64 ?_
      unfold stepT at more
      rw [if_neg (fun hh => hh.1 (by simpa using h3))] at more
      rw [← more] at S
      exact ⟨n - (j + 1), by omega, j + 1, rfl, hjt, S, rfl⟩
    have hj2 : j = n := by simp at h2; omega
    subst hj2
    refine WR.i64 ?_
    exact ⟨j - (i + 1), by omega, i + 1, rfl, hlt, S, rfl⟩
  have hi2 : i = n := by simp at h2; omega
  subst hi2
  have hout := mulT_byt hp (B := B) (u := u) (v := v) i i
  refine LoadX.same (S.at_ 0 rfl) (ldAll hout.1) ?_
  refine S.putA 1 rfl hout.1 rfl fun g S => ?_
  refine LoadX.same (S.at_ 1 rfl) (ldAll hout.1) ?_
  exact FinX.low hw S.le (low_vA _ _) ⟨rfl, rfl⟩

end Go.Gl

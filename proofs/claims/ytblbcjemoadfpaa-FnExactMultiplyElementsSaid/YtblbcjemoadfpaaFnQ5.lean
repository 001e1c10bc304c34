/- Chapter 10: is it an algebra, in the program. No condition. -/
import Derived.Test.YtblbcjemoadfpaaFnQ1
import Derived.Test.YtblbcjemoadfpaaFnQ2
import Derived.Test.YtblbcjemoadfpaaFnQ3
set_option linter.unusedVariables false
set_option linter.unusedSimpArgs false
namespace Go.Gl
open Go.Proofs Go.Proofs.Ytblbcjemoadfpaa Go.Pl

def UA (I B : List Int) (i : Nat) : Prop := tb B 0 i = unitE i ∧ tb B i 0 = unitE i ∧ dif (pr I) B (df B i) = z8
def LA (I B : List Int) (i j : Nat) : Prop := dif (pr I) B (tb B i j) = addE (pr I) (times (pr I) B (df B i) (unitE j)) (times (pr I) B (unitE i) (df B j)) (1 - 2 * (dg I i % 2))
def AA (I B : List Int) (i j k : Nat) : Prop := times (pr I) B (tb B i j) (unitE k) = times (pr I) B (unitE i) (tb B j k)
theorem Alg.of {I B : List Int} {n : Nat} (hn : (n : Int) = sz I) (F : Form I B) (hu : ∀ i, i < n → UA I B i) (hl : ∀ i, i < n → ∀ j, j < n → LA I B i j) (ha : ∀ i, i < n → ∀ j, j < n → ∀ k, k < n → AA I B i j k) : Alg I B :=
  ⟨F, fun i h => hu i (by omega), fun i j h1 h2 => hl i (by omega) j (by omega), fun i j k h1 h2 h3 => ha i (by omega) j (by omega) k (by omega)⟩
section
variable {I B : List Int}
theorem Form.bd (F : Form I B) : 2 ≤ pr I ∧ pr I ≤ 7 := prime_bd F.p
theorem Form.rdf (F : Form I B) (gx : GL I B) (hB : BB B) {i : Nat} (hi : i < 8) : Red (pr I) (df B i) := (F.dif i hi).red (df_byt gx hB hi) (by have := F.bd; omega)
theorem Form.rtb (F : Form I B) (gx : GL I B) (hB : BB B) {i j : Nat} (hi : i < 8) (hj : j < 8) : Red (pr I) (tb B i j) := (F.tab i hi j hj).1.red (tb_byt gx hB hi hj) (by have := F.bd; omega)
theorem unitE_low {i : Nat} (hi : i < 8) : Low (unitE i) := fun j => by rw [unitE_ith hi]; split <;> omega
theorem unitE_red {i : Nat} {p : Int} (hi : i < 8) (hp : 2 ≤ p) : Red p (unitE i) := ⟨unitE_length i, fun j => by rw [unitE_ith hi]; split <;> omega⟩
theorem rowT_red {p : Int} (hp : 2 ≤ p ∧ p ≤ 7) {B u v out : List Int} (h : Red p out) (i : Nat) : ∀ j, Red p (rowT p B u v out i j)
  | 0 => h
  | j + 1 => by
    show Red p (stepT p B u v (rowT p B u v out i j) i j)
    unfold stepT
    split
    · exact addE_red hp _ _ _
    · exact rowT_red hp h i j
theorem mulT_red {p : Int} (hp : 2 ≤ p ∧ p ≤ 7) {B u v : List Int} (n : Nat) : ∀ i, Red p (mulT p B u v n i)
  | 0 => z8_red hp
  | i + 1 => rowT_red hp (mulT_red hp n i) i n
theorem times_red {p : Int} (hp : 2 ≤ p ∧ p ≤ 7) {B u v : List Int} : Red p (times p B u v) := mulT_red hp 8 8
theorem dif_red {p : Int} (hp : 2 ≤ p ∧ p ≤ 7) {B u : List Int} : Red p (dif p B u) := difT_red hp 8
end

theorem signQ_c (h : AH) (x : Int) (hx : 0 ≤ x ∧ x ≤ 1000) : ACalls Try.prog 54 [.int .i64 x] h (fun r h' => r = .int .i64 (1 - 2 * (x % 2)) ∧ h' = h) := by
  refine ACalls.of Tt.tab Try.func54 rfl (by kernel_rfl) Try.ntmps54 _ rfl rfl (fun hw => ?_)
  refine TM.pos ?_
  have h1 := Int.emod_nonneg x (show (2 : Int) ≠ 0 by decide)
  have h2 := Int.emod_lt_of_pos x (show (0 : Int) < 2 by decide)
  refine WR.i64 ?_
  refine WR.i64 ?_
  refine FinX.keep hw (Le.refl _) rfl ⟨?_, rfl⟩
  rw [Int.mul_comm]

set_option maxHeartbeats 4000000 in
theorem isDgaI_c (h : AH) (I B : List Int) (gx : GL I B) (hB : BB B) : ACalls Try.prog 14 [vG I B] h (fun r h' => r = .bool (bo (Alg I B)) ∧ h' = h) := by
  refine ACalls.of Tt.tab Try.func14 rfl (by kernel_rfl) Try.ntmps14 _ rfl rfl (fun hw => ?_)
  have S := Sep.start h
  refine S.boxG gx fun b1 g S => ?_
  refine LoadX.same (S.at_ 0 rfl) (ldGG gx) ?_
  refine CallX.same (hasForm_c _ I B gx hB) ?_
  rintro r g ⟨rfl, rfl⟩
  refine BIf.mk (fun h1 => ?_) (fun h1 => ?_)
  · refine FinX.keep hw S.le rfl ⟨congrArg Value.bool (bo_false fun F => ?_).symm, rfl⟩
    exact not_of_bo (by simpa using h1) F.f
  have F : Form I B := not_not_bo h1
  have hp := F.bd
  have hs := F.s
  obtain ⟨n, hn⟩ : ∃ n : Nat, (n : Int) = sz I := ⟨(sz I).toNat, by omega⟩
  clear h1
  refine LoadX.same (v := .int .i64 (sz I)) (S.at_ 0 rfl) (ldG gx (j := 1) (by omega)) ?_
  refine ⟨⟨[1, 14, 15], fun n' vs g => ∃ i : Nat, n' = n - i ∧ i ≤ n ∧ (∀ k, k < i → UA I B k) ∧ (∀ k, k < i → ∀ j, j < n → LA I B k j) ∧ (∀ k, k < i → ∀ j, j < n → ∀ m, m < n → AA I B k j m) ∧ Sep h.length h g [.bx b1 28 594 (cG I B)] ∧
    vs = [.pointer (some ⟨b1, 0, none⟩), .int .i64 (sz I), .int .i64 i], _, ⟨0, rfl, Nat.zero_le _, fun k hk => by omega, fun k hk => by omega, fun k hk => by omega, S, rfl⟩, ?_⟩⟩
  clear S
  rintro n' vs g ⟨i, rfl, hi, hu, hl, ha, S, rfl⟩
  refine BIf.mk (fun h2 => ?_) (fun h2 => ?_)
  · have hlt : i < n := by simp at h2; omega
    have re := unitE_red (i := i) (p := pr I) (by omega) hp.1
    have bi := unitE_byt i
    have li := unitE_low (i := i) (by omega)
    have e0 := unitE_byt 0
    have l0 := unitE_low (i := 0) (by omega)
    have rd := F.rdf gx hB (i := i) (by omega)
    refine LoadX.same (S.at_ 0 rfl) (ldGG gx) ?_
    refine CallX.same (basis_c _ I B gx i (by omega)) ?_
    rintro r g ⟨rfl, rfl⟩
    refine S.new fun b4 g S => ?_
    refine S.putA 0 rfl bi.1 rfl fun g S => ?_
    refine DrawX.of Tt.tab follows_any [] [] [0, 1, 2, 3, 4, 5, 6, 7, 8, 9, 10, 11, 12, 13, 14, 15, 16, 17, 18, 19, 20, 21, 22, 23, 24, 25] rfl (by kernel_rfl) (by kernel_rfl) ?_
    refine LoadX.same (S.at_ 1 rfl) (ldGG gx) ?_
    refine LoadX.same (S.at_ 1 rfl) (ldGG gx) ?_
    refine QCall.low (fun g2 hl => basis_c g2 I B gx 0 (by omega)) (low_vA _ _) ?_
    refine LoadX.same (S.at_ 0 rfl) (ldAll bi.1) ?_
    refine QCall.low (fun g2 hl => timesI_c g2 I B _ _ gx hB hp e0 bi l0 li) (low_vA _ _) ?_
    refine LoadX.same (S.at_ 0 rfl) (ldAll bi.1) ?_
    refine ⟨⟨times (pr I) B (unitE 0) (unitE i), unitE i, times_red hp |>.1, bi.1, rfl, rfl, ?_⟩⟩
    have t1 : times (pr I) B (unitE 0) (unitE i) = tb B 0 i := times_unit (by omega) (by omega) (F.rtb gx hB (by omega) (by omega))
    have t2 : times (pr I) B (unitE i) (unitE 0) = tb B i 0 := times_unit (by omega) (by omega) (F.rtb gx hB (by omega) (by omega))
    refine BIf.mk (fun h3 => ?_) (fun h3 => ?_)
    · refine BIf.yes rfl ?_
      refine BIf.yes rfl ?_
      refine FinX.keep hw S.le rfl ⟨congrArg Value.bool (bo_false fun A => ?_).symm, rfl⟩
      simp [t1, (A.u i (by omega)).1] at h3
    have h3 : tb B 0 i = unitE i := by simpa [t1] using h3
    refine LoadX.same (S.at_ 1 rfl) (ldGG gx) ?_
    refine LoadX.same (S.at_ 0 rfl) (ldAll bi.1) ?_
    refine LoadX.same (S.at_ 1 rfl) (ldGG gx) ?_
    refine QCall.low (fun g2 hl => basis_c g2 I B gx 0 (by omega)) (low_vA _ _) ?_
    refine QCall.low (fun g2 hl => timesI_c g2 I B _ _ gx hB hp bi e0 li l0) (low_vA _ _) ?_
    refine LoadX.same (S.at_ 0 rfl) (ldAll bi.1) ?_
    refine ⟨⟨times (pr I) B (unitE i) (unitE 0), unitE i, times_red hp |>.1, bi.1, rfl, rfl, ?_⟩⟩
    refine BIf.mk (fun h4 => ?_) (fun h4 => ?_)
    · refine BIf.yes rfl ?_
      refine FinX.keep hw S.le rfl ⟨congrArg Value.bool (bo_false fun A => ?_).symm, rfl⟩
      simp [t2, (A.u i (by omega)).2.1] at h4
    have h4 : tb B i 0 = unitE i := by simpa [t2] using h4
    refine LoadX.same (S.at_ 1 rfl) (ldGG gx) ?_
    refine IdxX.mk (by omega) (by omega) ?_
    refine LoadX.same (v := vA .u8 (df B i)) (S.at_ 1 rfl) (ldGB gx (o := i * 8) (s := 8) (by omega) (by show 0 + 18 + i * 8 = _; omega)) ?_
    refine QCall.low (fun g2 hl => difI_c g2 I B _ gx hB hp (rd.byt hp.2)) (low_vA _ _) ?_
    refine ⟨⟨dif (pr I) B (df B i), z8, dif_red hp |>.1, rfl, rfl, rfl, ?_⟩⟩
    refine BIf.mk (fun h5 => ?_) (fun h5 => ?_)
    · refine FinX.keep hw S.le rfl ⟨congrArg Value.bool (bo_false fun A => ?_).symm, rfl⟩
      simp [(A.u i (by omega)).2.2] at h5
    have hui : UA I B i := ⟨h3, h4, by simpa using h5⟩
    clear h2 h3 h4 h5 t1 t2
    refine LoadX.same (v := .int .i64 (sz I)) (S.at_ 1 rfl) (ldG gx (j := 1) (by omega)) ?_
    refine ⟨⟨[1, 3, 4, 14, 15, 48, 49], fun n' vs g => ∃ j : Nat, n' = n - j ∧ j ≤ n ∧ (∀ k, k < j → LA I B i k) ∧ (∀ k, k < j → ∀ m, m < n → AA I B i k m) ∧ Sep h.length h g [.bx b4 24 8 ((unitE i).map (.int .u8)), .bx b1 28 594 (cG I B)] ∧
      vs = [.pointer (some ⟨b1, 0, none⟩), .int .i64 i, .pointer (some ⟨b4, 0, none⟩), .int .i64 (sz I), .int .i64 i, .int .i64 (sz I), .int .i64 j], _, ⟨0, rfl, Nat.zero_le _, fun k hk => by omega, fun k hk => by omega, S, rfl⟩, ?_⟩⟩
    clear S
    rintro n' vs g ⟨j, rfl, hj, hl2, ha2, S, rfl⟩
    refine BIf.mk (fun h2 => ?_) (fun h2 => ?_)
    · have hjt : j < n := by simp at h2; omega
      have bj := unitE_byt j
      have lj := unitE_low (i := j) (by omega)
      have rj := F.rdf gx hB (i := j) (by omega)
      have rt := F.rtb gx hB (i := i) (j := j) (by omega) (by omega)
      have rg := F.rng i (by omega)
      refine LoadX.same (S.at_ 1 rfl) (ldGG gx) ?_
      refine CallX.same (basis_c _ I B gx j (by omega)) ?_
      rintro r g ⟨rfl, rfl⟩
      refine S.new fun b6 g S => ?_
      refine S.putA 0 rfl bj.1 rfl fun g S => ?_
      refine DrawX.of Tt.tab follows_any [8] [9] [0, 1, 2, 3, 4, 5, 6, 7, 8, 9] rfl (by kernel_rfl) (by kernel_rfl) ?_
      refine LoadX.same (S.at_ 2 rfl) (ldGG gx) ?_
      refine IdxX.mk (by omega) (by omega) ?_
      refine IdxX.mk (by omega) (by omega) ?_
      refine LoadX.same (v := vA .u8 (tb B i j)) (S.at_ 2 rfl) (ldGB gx (o := 64 + (i * 64 + j * 8)) (s := 8) (by omega) (by show 0 + 82 + i * 64 + j * 8 = _; omega)) ?_
      refine QCall.low (fun g2 hl => difI_c g2 I B _ gx hB hp (rt.byt hp.2)) (low_vA _ _) ?_
      refine S.newL fun b7 g le1 S => ?_
      refine ⟨le1, ?_⟩
      refine S.putA 0 rfl (dif_red hp |>.1) rfl fun g S => ?_
      refine DrawX.of Tt.tab follows_any [21] [22] [0, 1, 2, 3, 4, 5, 6, 7, 8, 9, 10, 11, 12, 13, 14, 15, 16, 17, 18, 19, 20, 21, 22] rfl (by kernel_rfl) (by kernel_rfl) ?_
      refine LoadX.same (S.at_ 3 rfl) (ldGG gx) ?_
      refine LoadX.same (S.at_ 3 rfl) (ldGG gx) ?_
      refine IdxX.mk (by omega) (by omega) ?_
      refine LoadX.same (v := vA .u8 (df B i)) (S.at_ 3 rfl) (ldGB gx (o := i * 8) (s := 8) (by omega) (by show 0 + 18 + i * 8 = _; omega)) ?_
      refine LoadX.same (S.at_ 1 rfl) (ldAll bj.1) ?_
      refine QCall.low (fun g2 hl => timesI_c g2 I B _ _ gx hB hp (rd.byt hp.2) bj (rd.low hp.2) lj) (low_vA _ _) ?_
      refine LoadX.same (S.at_ 3 rfl) (ldGG gx) ?_
      refine LoadX.same (S.at_ 2 rfl) (ldAll bi.1) ?_
      refine IdxX.mk (by omega) (by omega) ?_
      refine LoadX.same (v := vA .u8 (df B j)) (S.at_ 3 rfl) (ldGB gx (o := j * 8) (s := 8) (by omega) (by show 0 + 18 + j * 8 = _; omega)) ?_
      refine QCall.low (fun g2 hl => timesI_c g2 I B _ _ gx hB hp bi (rj.byt hp.2) li (rj.low hp.2)) (low_vA _ _) ?_
      refine IdxX.mk (by omega) (by omega) ?_
      refine LoadX.same (v := .int .i64 (dg I i)) (S.at_ 3 rfl) (ldG gx (j := 2 + i) (by omega) (by show 0 + 2 + i = _; omega)) ?_
      refine QCall.of (fun g2 hl => signQ_c g2 (dg I i) (by omega)) rfl ?_
      refine QCall.low (fun g2 hl => plus_c g2 I B (1 - 2 * (dg I i % 2)) _ _ gx hp (by omega) ((times_red hp).byt hp.2) ((times_red hp).byt hp.2)) (low_vA _ _) ?_
      refine S.newL fun b8 g le1 S => ?_
      refine ⟨le1, ?_⟩
      refine S.putA 0 rfl (addE_length _ _ _ _) rfl fun g S => ?_
      refine LoadX.same (S.at_ 1 rfl) (ldAll (dif_red hp |>.1)) ?_
      refine LoadX.same (S.at_ 0 rfl) (ldAll (addE_length _ _ _ _)) ?_
      refine ⟨⟨_, _, dif_red hp |>.1, addE_length _ _ _ _, rfl, rfl, ?_⟩⟩
      refine BIf.mk (fun h3 => ?_) (fun h3 => ?_)
      · refine FinX.keep hw S.le rfl ⟨congrArg Value.bool (bo_false fun A => ?_).symm, rfl⟩
        simp [A.l i j (by omega) (by omega)] at h3
      have hla : LA I B i j := by unfold LA; simpa using h3
      clear h2 h3
      have S := S.tail.tail.tail
      refine LoadX.same (v := .int .i64 (sz I)) (S.at_ 1 rfl) (ldG gx (j := 1) (by omega)) ?_
      refine ⟨⟨[1, 3, 4, 5, 14, 15, 48, 49, 88, 89], fun n' vs g => ∃ k : Nat, n' = n - k ∧ k ≤ n ∧ (∀ m, m < k → AA I B i j m) ∧ Sep h.length h g [.bx b4 24 8 ((unitE i).map (.int .u8)), .bx b1 28 594 (cG I B)] ∧
        vs = [.pointer (some ⟨b1, 0, none⟩), .int .i64 i, .pointer (some ⟨b4, 0, none⟩), .int .i64 j, .int .i64 (sz I), .int .i64 i, .int .i64 (sz I), .int .i64 j, .int .i64 (sz I), .int .i64 k], _, ⟨0, rfl, Nat.zero_le _, fun k hk => by omega, S, rfl⟩, ?_⟩⟩
      clear S
      rintro n' vs g ⟨k, rfl, hk, ha3, S, rfl⟩
      refine BIf.mk (fun h2 => ?_) (fun h2 => ?_)
      · have hkt : k < n := by simp at h2; omega
        have bk := unitE_byt k
        have lk := unitE_low (i := k) (by omega)
        have rk := F.rtb gx hB (i := j) (j := k) (by omega) (by omega)
        refine DrawX.of Tt.tab follows_any [] [] [0, 1, 2, 3, 4, 5, 6, 7, 8, 9, 10, 11, 12, 13, 14, 15, 16, 17, 18, 19, 20] rfl (by kernel_rfl) (by kernel_rfl) ?_
        refine LoadX.same (S.at_ 1 rfl) (ldGG gx) ?_
        refine IdxX.mk (by omega) (by omega) ?_
        refine IdxX.mk (by omega) (by omega) ?_
        refine LoadX.same (v := vA .u8 (tb B i j)) (S.at_ 1 rfl) (ldGB gx (o := 64 + (i * 64 + j * 8)) (s := 8) (by omega) (by show 0 + 82 + i * 64 + j * 8 = _; omega)) ?_
        refine LoadX.same (S.at_ 1 rfl) (ldGG gx) ?_
        refine QCall.low (fun g2 hl => basis_c g2 I B gx k (by omega)) (low_vA _ _) ?_
        refine QCall.low (fun g2 hl => timesI_c g2 I B _ _ gx hB hp (rt.byt hp.2) bk (rt.low hp.2) lk) (low_vA _ _) ?_
        refine LoadX.same (S.at_ 1 rfl) (ldGG gx) ?_
        refine LoadX.same (S.at_ 0 rfl) (ldAll bi.1) ?_
        refine IdxX.mk (by omega) (by omega) ?_
        refine IdxX.mk (by omega) (by omega) ?_
        refine LoadX.same (v := vA .u8 (tb B j k)) (S.at_ 1 rfl) (ldGB gx (o := 64 + (j * 64 + k * 8)) (s := 8) (by omega) (by show 0 + 82 + j * 64 + k * 8 = _; omega)) ?_
        refine QCall.low (fun g2 hl => timesI_c g2 I B _ _ gx hB hp bi (rk.byt hp.2) li (rk.low hp.2)) (low_vA _ _) ?_
        refine ⟨⟨_, _, times_red hp |>.1, times_red hp |>.1, rfl, rfl, ?_⟩⟩
        refine BIf.mk (fun h3 => ?_) (fun h3 => ?_)
        · refine FinX.keep hw S.le rfl ⟨congrArg Value.bool (bo_false fun A => ?_).symm, rfl⟩
          simp [A.a i j k (by omega) (by omega) (by omega)] at h3
        refine WR.i64 ?_
        exact ⟨n - (k + 1), by omega, k + 1, rfl, hkt, fun m hm => by
          by_cases e : m = k
          · subst e; unfold AA; simpa using h3
          · exact ha3 m (by omega), S, rfl⟩
      have hk2 : k = n := by simp at h2; omega
      subst hk2
      refine WR.i64 ?_
      exact ⟨k - (j + 1), by omega, j + 1, rfl, hjt, fun m hm => by
        by_cases e : m = j
        · subst e; exact hla
        · exact hl2 m (by omega), fun m hm => by
        by_cases e : m = j
        · subst e; exact ha3
        · exact ha2 m (by omega), S, rfl⟩
    have hj2 : j = n := by simp at h2; omega
    subst hj2
    refine WR.i64 ?_
    exact ⟨j - (i + 1), by omega, i + 1, rfl, hlt, fun m hm => by
      by_cases e : m = i
      · subst e; exact hui
      · exact hu m (by omega), fun m hm => by
      by_cases e : m = i
      · subst e; exact hl2
      · exact hl m (by omega), fun m hm => by
      by_cases e : m = i
      · subst e; exact ha2
      · exact ha m (by omega), S.tail, rfl⟩
  have hi2 : i = n := by simp at h2; omega
  subst hi2
  exact FinX.keep hw S.le rfl ⟨congrArg Value.bool (bo_true (Alg.of hn F hu hl ha)).symm, rfl⟩

end Go.Gl

/- Chapter 10: the form of an algebra, in the reference. Printed by mk_q3.py. No condition. -/
import Derived.Test.YtblbcjemoadfpaaFnQ3
set_option linter.unusedVariables false
set_option linter.unusedSimpArgs false
namespace Go.Gl
open Go.Proofs Go.Proofs.Ytblbcjemoadfpaa Go.Pl

structure SeenS (I B : List Int) (i : Nat) : Prop where
  out : sz I ≤ i → dg I i = 0 ∧ lv I i = 0 ∧ df B i = z8
  dif : Small (pr I) (sz I) (df B i)
  rng : (0 ≤ dg I i ∧ dg I i ≤ 5) ∧ (0 ≤ lv I i ∧ lv I i ≤ 5)
  ord : 0 < i → (i : Int) < sz I → dg I (i - 1) ≤ dg I i
def SeenU (I B : List Int) (i j : Nat) : Prop := Small (pr I) (sz I) (tb B i j) ∧ (sz I ≤ i ∨ sz I ≤ j → tb B i j = z8)
theorem Lies.more {I u : List Int} {d l : Int} {n : Nat} (h : Lies I u d l n) (hn : (n : Int) = sz I) (hs : Small (pr I) (sz I) u) : Lies I u d l 8 := fun i hi hu => by
  by_cases e : i < n
  · exact h i e hu
  · exact absurd ((hs i hi).2 (by omega)) hu
theorem Lies.less {I u : List Int} {d l : Int} {n : Nat} (h : Lies I u d l 8) (hn : n ≤ 8) : Lies I u d l n := fun i hi hu => h i (by omega) hu
theorem Lies.zero {I : List Int} {d l : Int} {n : Nat} : Lies I z8 d l n := fun i hi hu => absurd (z8_ith i) hu
theorem Form.ofSeenS {I B : List Int} {n : Nat} (hn : (n : Int) = sz I) (hp : prime (pr I) = true) (hs : 1 ≤ sz I ∧ sz I ≤ 8) (h : ∀ i, i < 8 → SeenS I B i) (ht : ∀ i, i < 8 → ∀ j, j < 8 → SeenU I B i j)
    (hl : ∀ i, i < n → Lies I (df B i) (dg I i - 1) (lv I i) n) (hm : ∀ i, i < n → ∀ j, j < n → Lies I (tb B i j) (dg I i + dg I j) (lv I i + lv I j) n) (z : dg I 0 = 0 ∧ lv I 0 = 0) : Form I B where
  p := hp
  s := hs
  out i hi := (h i hi).out
  rng i hi := (h i hi).rng
  dif i hi := (h i hi).dif
  ord i hi := (h i hi).ord
  ld i hi hin := (hl i (by omega)).more hn (h i hi).dif
  tab := ht
  lt i hi j hj := by
    by_cases h1 : i < n
    · by_cases h2 : j < n
      · exact (hm i h1 j h2).more hn (ht i hi j hj).1
      · rw [(ht i hi j hj).2 (.inr (by omega))]; exact Lies.zero
    · rw [(ht i hi j hj).2 (.inl (by omega))]; exact Lies.zero
  z := z

set_option maxHeartbeats 4000000 in
theorem l10Shape_c (h : AH) (I B : List Int) (gx : GL I B) (hB : BB B) : ACalls Try.prog 83 [vG I B] h (fun r h' => r = .bool (bo (Form I B)) ∧ h' = h) := by
  refine ACalls.of Tt.tab Try.func83 rfl (by kernel_rfl) Try.ntmps83 _ rfl rfl (fun hw => ?_)
  have S := Sep.start h
  refine S.boxG gx fun b1 g S => ?_
  refine LoadX.same (v := .int .i64 (pr I)) (S.at_ 0 rfl) (ldG gx (j := 0) (by omega)) ?_
  refine CallX.same (l01Prime_c _ _) ?_
  rintro r g ⟨rfl, rfl⟩
  refine BIf.mk (fun h1 => ?_) (fun h1 => ?_)
  · refine BIf.yes rfl ?_
    refine FinX.keep hw S.le rfl ⟨congrArg Value.bool (bo_false fun F => ?_).symm, rfl⟩
    have := F.p
    simp [this] at h1
  have hp : prime (pr I) = true := by simpa using h1
  refine LoadX.same (v := .int .i64 (sz I)) (S.at_ 0 rfl) (ldG gx (j := 1) (by omega)) ?_
  refine CallX.same (l01In_c _ _ 1 8) ?_
  rintro r g ⟨rfl, rfl⟩
  refine BIf.mk (fun h2 => ?_) (fun h2 => ?_)
  · refine FinX.keep hw S.le rfl ⟨congrArg Value.bool (bo_false fun F => ?_).symm, rfl⟩
    have := F.s
    simp at h2
    omega
  have hs : 1 ≤ sz I ∧ sz I ≤ 8 := by simpa using h2
  clear h1 h2
  obtain ⟨n, hn⟩ : ∃ n : Nat, (n : Int) = sz I := ⟨(sz I).toNat, by omega⟩
  refine ⟨⟨[1, 3], fun n' vs g => ∃ i : Nat, n' = 8 - i ∧ i ≤ 8 ∧ (∀ k, k < i → SeenS I B k) ∧ (∀ k, k < i → ∀ m, m < 8 → SeenU I B k m) ∧ Sep h.length h g [.bx b1 28 594 (cG I B)] ∧
    vs = [.pointer (some ⟨b1, 0, none⟩), .int .i64 i], _, ⟨0, rfl, Nat.zero_le _, fun k hk => by omega, fun k hk => by omega, S, rfl⟩, ?_⟩⟩
  clear S
  rintro n' vs g ⟨i, rfl, hi, he, het, S, rfl⟩
  refine BIf.mk (fun h2 => ?_) (fun h2 => ?_)
  · have hlt : i < 8 := by simp at h2; omega
    refine DrawX.tree Tt.tab follows_any [] [] (.op 0 (.op 1 (.op 2 (.op 3 (.op 4 (.op 5 (.op 6 (.op 7 (.op 8 (.op 9 (.op 10 (.op 11 (.op 12 (.op 13 (.op 14 (.op 15 (.op 16 (.op 17 (.op 18 (.op 19 (.op 20 (.op 21 (.op 22 (.op 23 (.op 24 (.op 25 (.op 26 (.op 27 (.op 28 (.op 29 (.op 30 (.op 31 (.op 32 (.op 33 (.op 34 (.op 35 (.op 36 (.op 37 (.nil))))))))))))))))))))))))))))))))))))))) [1, 3, 58] (fun vs g => ∃ c : Bool, vs = [.pointer (some ⟨b1, 0, none⟩), .int .i64 i, .bool c] ∧ (c = false → (sz I ≤ i → dg I i = 0 ∧ lv I i = 0 ∧ df B i = z8) ∧ Small (pr I) (sz I) (df B i)) ∧ (c = true → ¬ Form I B) ∧ Sep h.length h g [.bx b1 28 594 (cG I B)]) (by kernel_rfl) (by kernel_rfl) ?_ ?_
    · refine LoadX.same (v := .int .i64 (sz I)) (S.at_ 0 rfl) (ldG gx (j := 1) (by omega)) ?_
      refine BIf.mk (fun h1 => ?_) (fun h1 => ?_)
      · refine IdxX.mk (by omega) (by omega) ?_
        refine LoadX.same (v := .int .i64 (dg I i)) (S.at_ 0 rfl) (ldG gx (j := 2 + i) (by omega) (by show 0 + 2 + i = _; omega)) ?_
        refine BIf.mk (fun h3 => ?_) (fun h3 => ?_)
        · refine BIf.yes rfl ?_
          refine BIf.yes rfl ?_
          refine ⟨true, rfl, fun hc => Bool.noConfusion hc, fun _ F => ?_, S⟩
          have := F.out i hlt (by simp at h1; omega)
          simp at h3
          exact h3 this.1
        refine IdxX.mk (by omega) (by omega) ?_
        refine LoadX.same (v := .int .i64 (lv I i)) (S.at_ 0 rfl) (ldG gx (j := 10 + i) (by omega) (by show 0 + 10 + i = _; omega)) ?_
        refine BIf.mk (fun h4 => ?_) (fun h4 => ?_)
        · refine BIf.yes rfl ?_
          refine ⟨true, rfl, fun hc => Bool.noConfusion hc, fun _ F => ?_, S⟩
          have := F.out i hlt (by simp at h1; omega)
          simp at h4
          exact h4 this.2.1
        have h3 : dg I i = 0 := by simpa using h3
        have h4 : lv I i = 0 := by simpa using h4
        refine IdxX.mk (by omega) (by omega) ?_
        refine LoadX.same (v := vA .u8 (df B i)) (S.at_ 0 rfl) (ldGB gx (o := i * 8) (s := 8) (by omega) (by show 0 + 18 + i * 8 = _; omega)) ?_
        refine ⟨⟨df B i, z8, (df_byt gx hB hlt |>.1), rfl, rfl, rfl, ?_⟩⟩
        refine BIf.mk (fun h5 => ?_) (fun h5 => ?_)
        · refine ⟨true, rfl, fun hc => Bool.noConfusion hc, fun _ F => ?_, S⟩
          have := F.out i hlt (by simp at h1; omega)
          simp at h5
          exact h5 this.2.2
        have h5 : df B i = z8 := by simpa using h5
        have hout : sz I ≤ i → dg I i = 0 ∧ lv I i = 0 ∧ df B i = z8 := fun _ => ⟨h3, h4, h5⟩
        refine LoadX.same (v := .int .i64 (pr I)) (S.at_ 0 rfl) (ldG gx (j := 0) (by omega)) ?_
        refine LoadX.same (v := .int .i64 (sz I)) (S.at_ 0 rfl) (ldG gx (j := 1) (by omega)) ?_
        refine IdxX.mk (by omega) (by omega) ?_
        refine LoadX.same (v := vA .u8 (df B i)) (S.at_ 0 rfl) (ldGB gx (o := i * 8) (s := 8) (by omega) (by show 0 + 18 + i * 8 = _; omega)) ?_
        refine QCall.of (fun g2 hl => l10Small_c g2 _ _ _ (df_byt gx hB hlt)) rfl ?_
        exact ⟨_, rfl, fun hc => ⟨hout, not_not_bo hc⟩, fun hc F => not_of_bo (by simpa using hc) (F.dif i hlt), S⟩
      refine BIf.no rfl ?_
      have hout : sz I ≤ i → dg I i = 0 ∧ lv I i = 0 ∧ df B i = z8 := fun hh => by simp at h1; omega
      refine LoadX.same (v := .int .i64 (pr I)) (S.at_ 0 rfl) (ldG gx (j := 0) (by omega)) ?_
      refine LoadX.same (v := .int .i64 (sz I)) (S.at_ 0 rfl) (ldG gx (j := 1) (by omega)) ?_
      refine IdxX.mk (by omega) (by omega) ?_
      refine LoadX.same (v := vA .u8 (df B i)) (S.at_ 0 rfl) (ldGB gx (o := i * 8) (s := 8) (by omega) (by show 0 + 18 + i * 8 = _; omega)) ?_
      refine QCall.of (fun g2 hl => l10Small_c g2 _ _ _ (df_byt gx hB hlt)) rfl ?_
      exact ⟨_, rfl, fun hc => ⟨hout, not_not_bo hc⟩, fun hc F => not_of_bo (by simpa using hc) (F.dif i hlt), S⟩
    rintro vs g ⟨c, rfl, hf, ht, S⟩
    refine BIf.mk (fun h3 => ?_) (fun h3 => ?_)
    · refine FinX.keep hw S.le rfl ⟨congrArg Value.bool (bo_false fun F => ?_).symm, rfl⟩
      exact ht h3 F
    have hA := hf h3
    clear hf ht h3
    refine DrawX.tree Tt.tab follows_any [] [] (.op 0 (.op 1 (.op 2 (.op 3 (.op 4 (.op 5 (.op 6 (.op 7 (.op 8 (.op 9 (.op 10 (.op 11 (.op 12 (.op 13 (.op 14 (.op 15 (.op 16 (.op 17 (.op 18 (.op 19 (.op 20 (.op 21 (.op 22 (.op 23 (.op 24 (.op 25 (.op 26 (.op 27 (.op 28 (.op 29 (.op 30 (.op 31 (.op 32 (.op 33 (.op 34 (.op 35 (.nil))))))))))))))))))))))))))))))))))))) [1, 3, 94] (fun vs g => ∃ c : Bool, vs = [.pointer (some ⟨b1, 0, none⟩), .int .i64 i, .bool c] ∧ (c = false → ((0 ≤ dg I i ∧ dg I i ≤ 5) ∧ (0 ≤ lv I i ∧ lv I i ≤ 5)) ∧ (0 < i → (i : Int) < sz I → dg I (i - 1) ≤ dg I i)) ∧ (c = true → ¬ Form I B) ∧ Sep h.length h g [.bx b1 28 594 (cG I B)]) (by kernel_rfl) (by kernel_rfl) ?_ ?_
    · refine IdxX.mk (by omega) (by omega) ?_
      refine LoadX.same (v := .int .i64 (dg I i)) (S.at_ 0 rfl) (ldG gx (j := 2 + i) (by omega) (by show 0 + 2 + i = _; omega)) ?_
      refine QCall.of (fun g2 hl => l01In_c g2 _ 0 5) rfl ?_
      refine BIf.mk (fun h3 => ?_) (fun h3 => ?_)
      · refine BIf.yes rfl ?_
        refine ⟨true, rfl, fun hc => Bool.noConfusion hc, fun _ F => ?_, S⟩
        have := (F.rng i hlt).1
        simp at h3
        omega
      refine IdxX.mk (by omega) (by omega) ?_
      refine LoadX.same (v := .int .i64 (lv I i)) (S.at_ 0 rfl) (ldG gx (j := 10 + i) (by omega) (by show 0 + 10 + i = _; omega)) ?_
      refine QCall.of (fun g2 hl => l01In_c g2 _ 0 5) rfl ?_
      refine BIf.mk (fun h4 => ?_) (fun h4 => ?_)
      · refine ⟨true, rfl, fun hc => Bool.noConfusion hc, fun _ F => ?_, S⟩
        have := (F.rng i hlt).2
        simp at h4
        omega
      have hrng : (0 ≤ dg I i ∧ dg I i ≤ 5) ∧ (0 ≤ lv I i ∧ lv I i ≤ 5) := by
        simp at h3 h4
        omega
      refine BIf.mk (fun h5 => ?_) (fun h5 => ?_)
      · have hi0 : 0 < i := by simpa using h5
        refine LoadX.same (v := .int .i64 (sz I)) (S.at_ 0 rfl) (ldG gx (j := 1) (by omega)) ?_
        refine BIf.mk (fun h6 => ?_) (fun h6 => ?_)
        · refine IdxX.mk (by omega) (by omega) ?_
          refine LoadX.same (v := .int .i64 (dg I i)) (S.at_ 0 rfl) (ldG gx (j := 2 + i) (by omega) (by show 0 + 2 + i = _; omega)) ?_
          refine WR.i64 ?_
          refine IdxX.mk (by omega) (by omega) ?_
          refine LoadX.same (v := .int .i64 (dg I (i - 1))) (S.at_ 0 rfl) (ldG gx (j := 2 + (i - 1)) (by omega) (by show 0 + 2 + ((i : Int) - 1).toNat = _; omega)) ?_
          exact ⟨_, rfl, fun hc => ⟨hrng, fun _ _ => by simp at hc; omega⟩, fun hc F => by have := F.ord i hlt hi0 (by simp at h6; omega); simp at hc; omega, S⟩
        exact ⟨_, rfl, fun _ => ⟨hrng, fun _ hh => by simp at h6; omega⟩, fun hc => Bool.noConfusion hc, S⟩
      refine BIf.no rfl ?_
      exact ⟨_, rfl, fun _ => ⟨hrng, fun hh => by simp at h5; omega⟩, fun hc => Bool.noConfusion hc, S⟩
    rintro vs g ⟨c, rfl, hf, ht, S⟩
    refine BIf.mk (fun h3 => ?_) (fun h3 => ?_)
    · refine FinX.keep hw S.le rfl ⟨congrArg Value.bool (bo_false fun F => ?_).symm, rfl⟩
      exact ht h3 F
    have hBB := hf h3
    clear hf ht h3 h2
    refine ⟨⟨[1, 3, 4], fun n' vs g => ∃ j : Nat, n' = 8 - j ∧ j ≤ 8 ∧ (∀ k, k < j → SeenU I B i k) ∧ Sep h.length h g [.bx b1 28 594 (cG I B)] ∧
      vs = [.pointer (some ⟨b1, 0, none⟩), .int .i64 i, .int .i64 j], _, ⟨0, rfl, Nat.zero_le _, fun k hk => by omega, S, rfl⟩, ?_⟩⟩
    clear S
    rintro n' vs g ⟨j, rfl, hj, hej, S, rfl⟩
    refine BIf.mk (fun h2 => ?_) (fun h2 => ?_)
    · have hjt : j < 8 := by simp at h2; omega
      have ht := tb_byt gx hB hlt hjt
      refine DrawX.tree Tt.tab follows_any [] [] (.op 0 (.op 1 (.op 2 (.op 3 (.op 4 (.op 5 (.op 6 (.op 7 (.op 8 (.op 9 (.op 10 (.op 11 (.op 12 (.op 13 (.op 14 (.op 15 (.op 16 (.op 17 (.op 18 (.op 19 (.op 20 (.op 21 (.op 22 (.op 23 (.op 24 (.op 25 (.op 26 (.op 27 (.op 28 (.op 29 (.op 30 (.op 31 (.op 32 (.op 33 (.nil))))))))))))))))))))))))))))))))))) [1, 3, 4, 132] (fun vs g => ∃ c : Bool, vs = [.pointer (some ⟨b1, 0, none⟩), .int .i64 i, .int .i64 j, .bool c] ∧ (c = false → SeenU I B i j) ∧ (c = true → ¬ Form I B) ∧ Sep h.length h g [.bx b1 28 594 (cG I B)]) (by kernel_rfl) (by kernel_rfl) ?_ ?_
      · refine LoadX.same (v := .int .i64 (pr I)) (S.at_ 0 rfl) (ldG gx (j := 0) (by omega)) ?_
        refine LoadX.same (v := .int .i64 (sz I)) (S.at_ 0 rfl) (ldG gx (j := 1) (by omega)) ?_
        refine IdxX.mk (by omega) (by omega) ?_
        refine IdxX.mk (by omega) (by omega) ?_
        refine LoadX.same (v := vA .u8 (tb B i j)) (S.at_ 0 rfl) (ldGB gx (o := 64 + (i * 64 + j * 8)) (s := 8) (by omega) (by show 0 + 82 + i * 64 + j * 8 = _; omega)) ?_
        refine QCall.of (fun g2 hl => l10Small_c g2 _ _ _ ht) rfl ?_
        refine BIf.mk (fun h3 => ?_) (fun h3 => ?_)
        · refine ⟨true, rfl, fun hc => Bool.noConfusion hc, fun _ F => ?_, S⟩
          exact not_of_bo (by simpa using h3) (F.tab i hlt j hjt).1
        have hsm : Small (pr I) (sz I) (tb B i j) := not_not_bo h3
        refine LoadX.same (v := .int .i64 (sz I)) (S.at_ 0 rfl) (ldG gx (j := 1) (by omega)) ?_
        refine BIf.mk (fun h4 => ?_) (fun h4 => ?_)
        · refine BIf.yes rfl ?_
          refine IdxX.mk (by omega) (by omega) ?_
          refine IdxX.mk (by omega) (by omega) ?_
          refine LoadX.same (v := vA .u8 (tb B i j)) (S.at_ 0 rfl) (ldGB gx (o := 64 + (i * 64 + j * 8)) (s := 8) (by omega) (by show 0 + 82 + i * 64 + j * 8 = _; omega)) ?_
          refine ⟨⟨tb B i j, z8, (ht.1), rfl, rfl, rfl, ?_⟩⟩
          exact ⟨_, rfl, fun hc => ⟨hsm, fun _ => by simpa using hc⟩, fun hc F => by simp at hc; exact hc ((F.tab i hlt j hjt).2 (.inl (by simp at h4; omega))), S⟩
        refine LoadX.same (v := .int .i64 (sz I)) (S.at_ 0 rfl) (ldG gx (j := 1) (by omega)) ?_
        refine BIf.mk (fun h5 => ?_) (fun h5 => ?_)
        · refine IdxX.mk (by omega) (by omega) ?_
          refine IdxX.mk (by omega) (by omega) ?_
          refine LoadX.same (v := vA .u8 (tb B i j)) (S.at_ 0 rfl) (ldGB gx (o := 64 + (i * 64 + j * 8)) (s := 8) (by omega) (by show 0 + 82 + i * 64 + j * 8 = _; omega)) ?_
          refine ⟨⟨tb B i j, z8, (ht.1), rfl, rfl, rfl, ?_⟩⟩
          exact ⟨_, rfl, fun hc => ⟨hsm, fun _ => by simpa using hc⟩, fun hc F => by simp at hc; exact hc ((F.tab i hlt j hjt).2 (.inr (by simp at h5; omega))), S⟩
        exact ⟨_, rfl, fun _ => ⟨hsm, fun hh => by simp at h4 h5; omega⟩, fun hc => Bool.noConfusion hc, S⟩
      rintro vs g ⟨c, rfl, hf, ht2, S⟩
      refine BIf.mk (fun h3 => ?_) (fun h3 => ?_)
      · refine FinX.keep hw S.le rfl ⟨congrArg Value.bool (bo_false fun F => ?_).symm, rfl⟩
        exact ht2 h3 F
      refine WR.i64 ?_
      exact ⟨8 - (j + 1), by omega, j + 1, rfl, hjt, fun k hk => by
        by_cases e : k = j
        · subst e; exact hf h3
        · exact hej k (by omega), S, rfl⟩
    have hj2 : j = 8 := by simp at h2; omega
    subst hj2
    refine WR.i64 ?_
    exact ⟨8 - (i + 1), by omega, i + 1, rfl, hlt, fun k hk => by
      by_cases e : k = i
      · subst e; exact ⟨hA.1, hA.2, hBB.1, hBB.2⟩
      · exact he k (by omega), fun k hk => by
      by_cases e : k = i
      · subst e; exact hej
      · exact het k (by omega), S, rfl⟩
  have hi2 : i = 8 := by simp at h2; omega
  subst hi2
  clear h2
  refine ⟨⟨[1, 5], fun n' vs g => ∃ i : Nat, n' = n - i ∧ i ≤ n ∧ (∀ k, k < i → Lies I (df B k) (dg I k - 1) (lv I k) n) ∧ (∀ k, k < i → ∀ m, m < n → Lies I (tb B k m) (dg I k + dg I m) (lv I k + lv I m) n) ∧ Sep h.length h g [.bx b1 28 594 (cG I B)] ∧
    vs = [.pointer (some ⟨b1, 0, none⟩), .int .i64 i], _, ⟨0, rfl, Nat.zero_le _, fun k hk => by omega, fun k hk => by omega, S, rfl⟩, ?_⟩⟩
  clear S
  rintro n' vs g ⟨i, rfl, hi, hl, hm, S, rfl⟩
  refine LoadX.same (v := .int .i64 (sz I)) (S.at_ 0 rfl) (ldG gx (j := 1) (by omega)) ?_
  refine BIf.mk (fun h2 => ?_) (fun h2 => ?_)
  · have hlt : i < n := by simp at h2; omega
    have hr := (he i (by omega)).rng
    refine DrawX.of Tt.tab follows_any [] [] [0, 1, 2, 3, 4, 5, 6, 7, 8, 9, 10, 11, 12, 13, 14, 15] rfl (by kernel_rfl) (by kernel_rfl) ?_
    refine LoadX.same (S.at_ 0 rfl) (ldGG gx) ?_
    refine IdxX.mk (by omega) (by omega) ?_
    refine LoadX.same (v := vA .u8 (df B i)) (S.at_ 0 rfl) (ldGB gx (o := i * 8) (s := 8) (by omega) (by show 0 + 18 + i * 8 = _; omega)) ?_
    refine IdxX.mk (by omega) (by omega) ?_
    refine LoadX.same (v := .int .i64 (dg I i)) (S.at_ 0 rfl) (ldG gx (j := 2 + i) (by omega) (by show 0 + 2 + i = _; omega)) ?_
    refine WR.i64 ?_
    refine IdxX.mk (by omega) (by omega) ?_
    refine LoadX.same (v := .int .i64 (lv I i)) (S.at_ 0 rfl) (ldG gx (j := 10 + i) (by omega) (by show 0 + 10 + i = _; omega)) ?_
    refine QCall.of (fun g2 hl => within_c g2 I B _ _ _ n hn (by omega) gx (df_byt gx hB (by omega))) rfl ?_
    refine BIf.mk (fun h3 => ?_) (fun h3 => ?_)
    · refine FinX.keep hw S.le rfl ⟨congrArg Value.bool (bo_false fun F => ?_).symm, rfl⟩
      exact not_of_bo (by simpa using h3) ((F.ld i (by omega) (by omega)).less (by omega))
    have hld := not_not_bo h3
    clear h2 h3
    refine ⟨⟨[1, 5, 6], fun n' vs g => ∃ j : Nat, n' = n - j ∧ j ≤ n ∧ (∀ m, m < j → Lies I (tb B i m) (dg I i + dg I m) (lv I i + lv I m) n) ∧ Sep h.length h g [.bx b1 28 594 (cG I B)] ∧
      vs = [.pointer (some ⟨b1, 0, none⟩), .int .i64 i, .int .i64 j], _, ⟨0, rfl, Nat.zero_le _, fun k hk => by omega, S, rfl⟩, ?_⟩⟩
    clear S
    rintro n' vs g ⟨j, rfl, hj, hej, S, rfl⟩
    refine LoadX.same (v := .int .i64 (sz I)) (S.at_ 0 rfl) (ldG gx (j := 1) (by omega)) ?_
    refine BIf.mk (fun h2 => ?_) (fun h2 => ?_)
    · have hjt : j < n := by simp at h2; omega
      have hr2 := (he j (by omega)).rng
      refine DrawX.of Tt.tab follows_any [] [] [0, 1, 2, 3, 4, 5, 6, 7, 8, 9, 10, 11, 12, 13, 14, 15, 16, 17, 18, 19, 20, 21, 22, 23, 24, 25, 26] rfl (by kernel_rfl) (by kernel_rfl) ?_
      refine LoadX.same (S.at_ 0 rfl) (ldGG gx) ?_
      refine IdxX.mk (by omega) (by omega) ?_
      refine IdxX.mk (by omega) (by omega) ?_
      refine LoadX.same (v := vA .u8 (tb B i j)) (S.at_ 0 rfl) (ldGB gx (o := 64 + (i * 64 + j * 8)) (s := 8) (by omega) (by show 0 + 82 + i * 64 + j * 8 = _; omega)) ?_
      refine IdxX.mk (by omega) (by omega) ?_
      refine LoadX.same (v := .int .i64 (dg I i)) (S.at_ 0 rfl) (ldG gx (j := 2 + i) (by omega) (by show 0 + 2 + i = _; omega)) ?_
      refine IdxX.mk (by omega) (by omega) ?_
      refine LoadX.same (v := .int .i64 (dg I j)) (S.at_ 0 rfl) (ldG gx (j := 2 + j) (by omega) (by show 0 + 2 + j = _; omega)) ?_
      refine WR.i64 ?_
      refine IdxX.mk (by omega) (by omega) ?_
      refine LoadX.same (v := .int .i64 (lv I i)) (S.at_ 0 rfl) (ldG gx (j := 10 + i) (by omega) (by show 0 + 10 + i = _; omega)) ?_
      refine IdxX.mk (by omega) (by omega) ?_
      refine LoadX.same (v := .int .i64 (lv I j)) (S.at_ 0 rfl) (ldG gx (j := 10 + j) (by omega) (by show 0 + 10 + j = _; omega)) ?_
      refine WR.i64 ?_
      refine QCall.of (fun g2 hl => within_c g2 I B _ _ _ n hn (by omega) gx (tb_byt gx hB (by omega) (by omega))) rfl ?_
      refine BIf.mk (fun h3 => ?_) (fun h3 => ?_)
      · refine FinX.keep hw S.le rfl ⟨congrArg Value.bool (bo_false fun F => ?_).symm, rfl⟩
        exact not_of_bo (by simpa using h3) ((F.lt i (by omega) j (by omega)).less (by omega))
      refine WR.i64 ?_
      exact ⟨n - (j + 1), by omega, j + 1, rfl, hjt, fun k hk => by
        by_cases e : k = j
        · subst e; exact not_not_bo h3
        · exact hej k (by omega), S, rfl⟩
    have hj2 : j = n := by simp at h2; omega
    subst hj2
    refine WR.i64 ?_
    exact ⟨j - (i + 1), by omega, i + 1, rfl, hlt, fun k hk => by
      by_cases e : k = i
      · subst e; exact hld
      · exact hl k (by omega), fun k hk => by
      by_cases e : k = i
      · subst e; exact hej
      · exact hm k (by omega), S, rfl⟩
  have hi2 : i = n := by simp at h2; omega
  subst hi2
  refine IdxX.mk (by omega) (by omega) ?_
  refine LoadX.same (v := .int .i64 (dg I 0)) (S.at_ 0 rfl) (ldG gx (j := 2 + 0) (by omega) (by show 0 + 2 + 0 = _; omega)) ?_
  refine BIf.mk (fun h3 => ?_) (fun h3 => ?_)
  · have h3 : dg I 0 = 0 := by simpa using h3
    refine IdxX.mk (by omega) (by omega) ?_
    refine LoadX.same (v := .int .i64 (lv I 0)) (S.at_ 0 rfl) (ldG gx (j := 10 + 0) (by omega) (by show 0 + 10 + 0 = _; omega)) ?_
    refine FinX.keep hw S.le rfl ⟨congrArg Value.bool ?_, rfl⟩
    by_cases h4 : lv I 0 = 0
    · rw [bo_true (Form.ofSeenS hn hp hs he het hl hm ⟨h3, h4⟩)]; simpa using h4
    · rw [bo_false fun F => h4 F.z.2]; simpa using h4
  refine FinX.keep hw S.le rfl ⟨congrArg Value.bool (bo_false fun F => ?_).symm, rfl⟩
  simp at h3
  exact h3 F.z.1

end Go.Gl

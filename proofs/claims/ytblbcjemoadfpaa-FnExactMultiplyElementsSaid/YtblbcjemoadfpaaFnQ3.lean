/- Chapter 10: the form of an algebra, in the program. Printed by mk_q3.py. No condition. -/
import Derived.Test.YtblbcjemoadfpaaFnQ1
import Derived.Test.YtblbcjemoadfpaaGlR
set_option linter.unusedVariables false
set_option linter.unusedSimpArgs false
namespace Go.Gl
open Go.Proofs Go.Proofs.Ytblbcjemoadfpaa Go.Pl

abbrev wr (x : Int) : Int := IntKind.i64.wrap x
theorem wr_id {x : Int} (h1 : -9223372036854775808 ≤ x) (h2 : x ≤ 9223372036854775807) : wr x = x := by
  simp [wr, IntKind.wrap, IntKind.bits, IntKind.signed]; omega
/-- what the program has seen of a basis element -/
structure Seen (I B : List Int) (i : Nat) : Prop where
  out : sz I ≤ i → dg I i = 0 ∧ lv I i = 0 ∧ df B i = z8
  rng : (0 ≤ dg I i ∧ dg I i ≤ 5) ∧ (0 ≤ lv I i ∧ lv I i ≤ 5)
  dif : Small (pr I) (sz I) (df B i)
  ord : 0 < i → (i : Int) < sz I → dg I (i - 1) ≤ dg I i
  ld : (i : Int) < sz I → Lies I (df B i) (dg I i - 1) (lv I i) 8
def SeenT (I B : List Int) (i j : Nat) : Prop := Small (pr I) (sz I) (tb B i j) ∧ (sz I ≤ i ∨ sz I ≤ j → tb B i j = z8) ∧ Lies I (tb B i j) (wr (dg I i + dg I j)) (wr (lv I i + lv I j)) 8
theorem Form.ofSeen {I B : List Int} (hp : prime (pr I) = true) (hs : 1 ≤ sz I ∧ sz I ≤ 8) (h : ∀ i, i < 8 → Seen I B i) (ht : ∀ i, i < 8 → ∀ j, j < 8 → SeenT I B i j) (z : dg I 0 = 0 ∧ lv I 0 = 0) : Form I B where
  p := hp
  s := hs
  out i hi := (h i hi).out
  rng i hi := (h i hi).rng
  dif i hi := (h i hi).dif
  ord i hi := (h i hi).ord
  ld i hi := (h i hi).ld
  tab i hi j hj := ⟨(ht i hi j hj).1, (ht i hi j hj).2.1⟩
  lt i hi j hj := by
    have h1 := (ht i hi j hj).2.2
    have r1 := (h i hi).rng
    have r2 := (h j hj).rng
    rwa [wr_id (by omega) (by omega), wr_id (by omega) (by omega)] at h1
  z := z
theorem Form.lies {I B : List Int} (F : Form I B) {i j : Nat} (hi : i < 8) (hj : j < 8) : Lies I (tb B i j) (wr (dg I i + dg I j)) (wr (lv I i + lv I j)) 8 := by
  have r1 := F.rng i hi
  have r2 := F.rng j hj
  rw [wr_id (by omega) (by omega), wr_id (by omega) (by omega)]
  exact F.lt i hi j hj

theorem not_not_bo {p : Prop} (h : (!bo p) = false) : p := bo_iff.1 (by simpa using h)

set_option maxHeartbeats 4000000 in
theorem hasForm_c (h : AH) (I B : List Int) (gx : GL I B) (hB : BB B) : ACalls Try.prog 51 [vG I B] h (fun r h' => r = .bool (bo (Form I B)) ∧ h' = h) := by
  refine ACalls.of Tt.tab Try.func51 rfl (by kernel_rfl) Try.ntmps51 _ rfl rfl (fun hw => ?_)
  have S := Sep.start h
  refine S.boxG gx fun b1 g S => ?_
  refine LoadX.same (v := .int .i64 (pr I)) (S.at_ 0 rfl) (ldG gx (j := 0) (by omega)) ?_
  refine CallX.same (isPrime_c _ _) ?_
  rintro r g ⟨rfl, rfl⟩
  refine BIf.mk (fun h1 => ?_) (fun h1 => ?_)
  · refine BIf.yes rfl ?_
    refine FinX.keep hw S.le rfl ⟨congrArg Value.bool (bo_false fun F => ?_).symm, rfl⟩
    have := F.p
    simp [this] at h1
  have hp : prime (pr I) = true := by simpa using h1
  refine LoadX.same (v := .int .i64 (sz I)) (S.at_ 0 rfl) (ldG gx (j := 1) (by omega)) ?_
  refine CallX.same (between_c _ _ 1 8) ?_
  rintro r g ⟨rfl, rfl⟩
  refine BIf.mk (fun h2 => ?_) (fun h2 => ?_)
  · refine FinX.keep hw S.le rfl ⟨congrArg Value.bool (bo_false fun F => ?_).symm, rfl⟩
    have := F.s
    simp at h2
    omega
  have hs : 1 ≤ sz I ∧ sz I ≤ 8 := by simpa using h2
  clear h1 h2
  refine ⟨⟨[1, 17], fun n' vs g => ∃ i : Nat, n' = 8 - i ∧ i ≤ 8 ∧ (∀ k, k < i → Seen I B k) ∧ (∀ k, k < i → ∀ m, m < 8 → SeenT I B k m) ∧ Sep h.length h g [.bx b1 28 594 (cG I B)] ∧
    vs = [.pointer (some ⟨b1, 0, none⟩), .int .i64 i], _, ⟨0, rfl, Nat.zero_le _, fun k hk => by omega, fun k hk => by omega, S, rfl⟩, ?_⟩⟩
  clear S
  rintro n' vs g ⟨i, rfl, hi, he, het, S, rfl⟩
  refine BIf.mk (fun h2 => ?_) (fun h2 => ?_)
  · have hlt : i < 8 := by simp at h2; omega
    refine LoadX.same (v := .int .i64 (sz I)) (S.at_ 0 rfl) (ldG gx (j := 1) (by omega)) ?_
    refine BIf.mk (fun h1 => ?_) (fun h1 => ?_)
    · have hin : ¬ (i : Int) < sz I := by simp at h1; omega
      refine IdxX.mk (by omega) (by omega) ?_
      refine LoadX.same (v := .int .i64 (dg I i)) (S.at_ 0 rfl) (ldG gx (j := 2 + i) (by omega) (by show 0 + 2 + i = _; omega)) ?_
      refine BIf.mk (fun h3 => ?_) (fun h3 => ?_)
      · refine BIf.yes rfl ?_
        refine BIf.yes rfl ?_
        refine FinX.keep hw S.le rfl ⟨congrArg Value.bool (bo_false fun F => ?_).symm, rfl⟩
        have := F.out i hlt (by omega)
        simp at h3
        exact h3 this.1
      refine IdxX.mk (by omega) (by omega) ?_
      refine LoadX.same (v := .int .i64 (lv I i)) (S.at_ 0 rfl) (ldG gx (j := 10 + i) (by omega) (by show 0 + 10 + i = _; omega)) ?_
      refine BIf.mk (fun h4 => ?_) (fun h4 => ?_)
      · refine BIf.yes rfl ?_
        refine FinX.keep hw S.le rfl ⟨congrArg Value.bool (bo_false fun F => ?_).symm, rfl⟩
        have := F.out i hlt (by omega)
        simp at h4
        exact h4 this.2.1
      have h3 : dg I i = 0 := by simpa using h3
      have h4 : lv I i = 0 := by simpa using h4
      refine IdxX.mk (by omega) (by omega) ?_
      refine LoadX.same (v := vA .u8 (df B i)) (S.at_ 0 rfl) (ldGB gx (o := i * 8) (s := 8) (by omega) (by show 0 + 18 + i * 8 = _; omega)) ?_
      refine ⟨⟨df B i, z8, (df_byt gx hB hlt |>.1), rfl, rfl, rfl, ?_⟩⟩
      refine BIf.mk (fun h5 => ?_) (fun h5 => ?_)
      · refine FinX.keep hw S.le rfl ⟨congrArg Value.bool (bo_false fun F => ?_).symm, rfl⟩
        have := F.out i hlt (by omega)
        simp at h5
        exact h5 this.2.2
      have h5 : df B i = z8 := by simpa using h5
      have hout : sz I ≤ i → dg I i = 0 ∧ lv I i = 0 ∧ df B i = z8 := fun _ => ⟨h3, h4, h5⟩
      clear h1 h3 h4 h5
      refine DrawX.of Tt.tab follows_any [] [] [0, 1, 2, 3, 4, 5, 6, 7, 8, 9, 10, 11, 12, 13, 14, 15, 16, 17, 18, 19, 20, 21, 22] rfl (by kernel_rfl) (by kernel_rfl) ?_
      refine IdxX.mk (by omega) (by omega) ?_
      refine LoadX.same (v := .int .i64 (dg I i)) (S.at_ 0 rfl) (ldG gx (j := 2 + i) (by omega) (by show 0 + 2 + i = _; omega)) ?_
      refine QCall.of (fun g2 hl => between_c g2 _ 0 5) rfl ?_
      refine BIf.mk (fun h3 => ?_) (fun h3 => ?_)
      · refine BIf.yes rfl ?_
        refine BIf.yes rfl ?_
        refine FinX.keep hw S.le rfl ⟨congrArg Value.bool (bo_false fun F => ?_).symm, rfl⟩
        have := (F.rng i hlt).1
        simp at h3
        omega
      refine IdxX.mk (by omega) (by omega) ?_
      refine LoadX.same (v := .int .i64 (lv I i)) (S.at_ 0 rfl) (ldG gx (j := 10 + i) (by omega) (by show 0 + 10 + i = _; omega)) ?_
      refine QCall.of (fun g2 hl => between_c g2 _ 0 5) rfl ?_
      refine BIf.mk (fun h4 => ?_) (fun h4 => ?_)
      · refine BIf.yes rfl ?_
        refine FinX.keep hw S.le rfl ⟨congrArg Value.bool (bo_false fun F => ?_).symm, rfl⟩
        have := (F.rng i hlt).2
        simp at h4
        omega
      refine LoadX.same (S.at_ 0 rfl) (ldGG gx) ?_
      refine IdxX.mk (by omega) (by omega) ?_
      refine LoadX.same (v := vA .u8 (df B i)) (S.at_ 0 rfl) (ldGB gx (o := i * 8) (s := 8) (by omega) (by show 0 + 18 + i * 8 = _; omega)) ?_
      refine QCall.of (fun g2 hl => isElement_c g2 I B _ gx (df_byt gx hB hlt)) rfl ?_
      refine BIf.mk (fun h5 => ?_) (fun h5 => ?_)
      · refine FinX.keep hw S.le rfl ⟨congrArg Value.bool (bo_false fun F => ?_).symm, rfl⟩
        exact not_of_bo (by simpa using h5) (F.dif i hlt)
      have hdif : Small (pr I) (sz I) (df B i) := not_not_bo h5
      have hrng : (0 ≤ dg I i ∧ dg I i ≤ 5) ∧ (0 ≤ lv I i ∧ lv I i ≤ 5) := by
        simp at h3 h4
        omega
      clear h3 h4 h5
      refine DrawX.tree Tt.tab follows_any [] [] (.op 0 (.op 1 (.op 2 (.op 3 (.op 4 (.op 5 (.op 6 (.op 7 (.op 8 (.op 9 (.op 10 (.op 11 (.op 12 (.op 13 (.op 14 (.op 15 (.op 16 (.op 17 (.op 18 (.op 19 (.op 20 (.op 21 (.op 22 (.op 23 (.op 24 (.op 25 (.op 26 (.op 27 (.op 28 (.op 29 (.op 30 (.op 31 (.op 32 (.op 33 (.op 34 (.nil)))))))))))))))))))))))))))))))))))) [1, 3, 4, 17, 105] (fun vs g => ∃ c : Bool, vs = [.pointer (some ⟨b1, 0, none⟩), .int .i64 i, .bool (decide ((i : Int) < sz I)), .int .i64 i, .bool c] ∧ (c = false → (0 < i → (i : Int) < sz I → dg I (i - 1) ≤ dg I i) ∧ ((i : Int) < sz I → Lies I (df B i) (dg I i - 1) (lv I i) 8)) ∧ (c = true → ¬ Form I B) ∧ Sep h.length h g [.bx b1 28 594 (cG I B)]) (by kernel_rfl) (by kernel_rfl) ?_ ?_
      · refine BIf.no (decide_eq_false (by omega)) ?_
        exact ⟨false, rfl, fun _ => ⟨fun _ hin => by omega, fun hin => by omega⟩, fun hc => Bool.noConfusion hc, S⟩
      rintro vs g ⟨c, rfl, hf, ht, S⟩
      refine BIf.mk (fun h3 => ?_) (fun h3 => ?_)
      · refine FinX.keep hw S.le rfl ⟨congrArg Value.bool (bo_false fun F => ?_).symm, rfl⟩
        exact ht h3 F
      have hlo := hf h3
      clear hf ht h3
      refine ⟨⟨[1, 3, 4, 17, 106], fun n' vs g => ∃ j : Nat, n' = 8 - j ∧ j ≤ 8 ∧ (∀ k, k < j → SeenT I B i k) ∧ Sep h.length h g [.bx b1 28 594 (cG I B)] ∧
        vs = [.pointer (some ⟨b1, 0, none⟩), .int .i64 i, .bool (decide ((i : Int) < sz I)), .int .i64 i, .int .i64 j], _, ⟨0, rfl, Nat.zero_le _, fun k hk => by omega, S, rfl⟩, ?_⟩⟩
      clear S h2
      rintro n' vs g ⟨j, rfl, hj, hej, S, rfl⟩
      refine BIf.mk (fun h2 => ?_) (fun h2 => ?_)
      · have hjt : j < 8 := by simp at h2; omega
        have ht := tb_byt gx hB hlt hjt
        refine IdxX.mk (by omega) (by omega) ?_
        refine IdxX.mk (by omega) (by omega) ?_
        refine LoadX.same (v := vA .u8 (tb B i j)) (S.at_ 0 rfl) (ldGB gx (o := 64 + (i * 64 + j * 8)) (s := 8) (by omega) (by show 0 + 82 + i * 64 + j * 8 = _; omega)) ?_
        refine S.new fun b6 g S => ?_
        refine S.putA 0 rfl ht.1 rfl fun g S => ?_
        refine DrawX.tree Tt.tab follows_any [] [] (.op 0 (.op 1 (.op 2 (.op 3 (.op 4 (.op 5 (.op 6 (.op 7 (.op 8 (.op 9 (.op 10 (.op 11 (.op 12 (.op 13 (.op 14 (.op 15 (.op 16 (.op 17 (.op 18 (.op 19 (.op 20 (.op 21 (.op 22 (.op 23 (.op 24 (.op 25 (.op 26 (.op 27 (.op 28 (.op 29 (.op 30 (.op 31 (.op 32 (.op 33 (.op 34 (.op 35 (.op 36 (.op 37 (.op 38 (.op 39 (.op 40 (.op 41 (.op 42 (.nil)))))))))))))))))))))))))))))))))))))))))))) [1, 3, 4, 17, 106, 157] (fun vs g => ∃ c : Bool, vs = [.pointer (some ⟨b1, 0, none⟩), .int .i64 i, .bool (decide ((i : Int) < sz I)), .int .i64 i, .int .i64 j, .bool c] ∧ (c = false → SeenT I B i j) ∧ (c = true → ¬ Form I B) ∧ Sep h.length h g [.bx b6 24 8 ((tb B i j).map (.int .u8)), .bx b1 28 594 (cG I B)]) (by kernel_rfl) (by kernel_rfl) ?_ ?_
        · refine LoadX.same (S.at_ 1 rfl) (ldGG gx) ?_
          refine LoadX.same (S.at_ 0 rfl) (ldAll ht.1) ?_
          refine QCall.of (fun g2 hl => isElement_c g2 I B _ gx ht) rfl ?_
          refine BIf.mk (fun h5 => ?_) (fun h5 => ?_)
          · refine BIf.yes rfl ?_
            exact ⟨true, rfl, fun hc => Bool.noConfusion hc, fun _ F => not_of_bo (by simpa using h5) (F.tab i hlt j hjt).1, S⟩
          have hsm : Small (pr I) (sz I) (tb B i j) := not_not_bo h5
          refine BIf.yes (by rw [decide_eq_false (show ¬ (i : Int) < sz I by omega)]; rfl) ?_
          refine BIf.yes rfl ?_
          refine LoadX.same (S.at_ 0 rfl) (ldAll ht.1) ?_
          refine ⟨⟨tb B i j, z8, (ht.1), rfl, rfl, rfl, ?_⟩⟩
          refine BIf.mk (fun h7 => ?_) (fun h7 => ?_)
          · refine ⟨true, rfl, fun hc => Bool.noConfusion hc, fun _ F => ?_, S⟩
            simp at h7
            exact h7 ((F.tab i hlt j hjt).2 (.inl (by omega)))
          have hz : sz I ≤ i ∨ sz I ≤ j → tb B i j = z8 := fun _ => by simpa using h7
          refine LoadX.same (S.at_ 1 rfl) (ldGG gx) ?_
          refine LoadX.same (S.at_ 0 rfl) (ldAll ht.1) ?_
          refine IdxX.mk (by omega) (by omega) ?_
          refine LoadX.same (v := .int .i64 (dg I i)) (S.at_ 1 rfl) (ldG gx (j := 2 + i) (by omega) (by show 0 + 2 + i = _; omega)) ?_
          refine IdxX.mk (by omega) (by omega) ?_
          refine LoadX.same (v := .int .i64 (dg I j)) (S.at_ 1 rfl) (ldG gx (j := 2 + j) (by omega) (by show 0 + 2 + j = _; omega)) ?_
          refine ⟨?_⟩
          refine IdxX.mk (by omega) (by omega) ?_
          refine LoadX.same (v := .int .i64 (lv I i)) (S.at_ 1 rfl) (ldG gx (j := 10 + i) (by omega) (by show 0 + 10 + i = _; omega)) ?_
          refine IdxX.mk (by omega) (by omega) ?_
          refine LoadX.same (v := .int .i64 (lv I j)) (S.at_ 1 rfl) (ldG gx (j := 10 + j) (by omega) (by show 0 + 10 + j = _; omega)) ?_
          refine ⟨?_⟩
          refine QCall.of (fun g2 hl => lies_c g2 I B _ _ _ gx ht) rfl ?_
          exact ⟨_, rfl, fun hc => ⟨hsm, hz, not_not_bo hc⟩, fun hc F => not_of_bo (by simpa using hc) (F.lies hlt hjt), S⟩
        rintro vs g ⟨c, rfl, hf, ht2, S⟩
        refine BIf.mk (fun h5 => ?_) (fun h5 => ?_)
        · refine FinX.keep hw S.le rfl ⟨congrArg Value.bool (bo_false fun F => ?_).symm, rfl⟩
          exact ht2 h5 F
        refine WR.i64 ?_
        exact ⟨8 - (j + 1), by omega, j + 1, rfl, hjt, fun k hk => by
          by_cases e : k = j
          · subst e; exact hf h5
          · exact hej k (by omega), S.tail, rfl⟩
      have hj2 : j = 8 := by simp at h2; omega
      subst hj2
      refine WR.i64 ?_
      exact ⟨8 - (i + 1), by omega, i + 1, rfl, hlt, fun k hk => by
        by_cases e : k = i
        · subst e; exact ⟨hout, hrng, hdif, hlo.1, hlo.2⟩
        · exact he k (by omega), fun k hk => by
        by_cases e : k = i
        · subst e; exact hej
        · exact het k (by omega), S, rfl⟩
    have hin : (i : Int) < sz I := by simpa using h1
    refine BIf.no rfl ?_
    have hout : sz I ≤ i → dg I i = 0 ∧ lv I i = 0 ∧ df B i = z8 := fun hh => by omega
    clear h1
    refine DrawX.of Tt.tab follows_any [] [] [0, 1, 2, 3, 4, 5, 6, 7, 8, 9, 10, 11, 12, 13, 14, 15, 16, 17, 18, 19, 20, 21, 22] rfl (by kernel_rfl) (by kernel_rfl) ?_
    refine IdxX.mk (by omega) (by omega) ?_
    refine LoadX.same (v := .int .i64 (dg I i)) (S.at_ 0 rfl) (ldG gx (j := 2 + i) (by omega) (by show 0 + 2 + i = _; omega)) ?_
    refine QCall.of (fun g2 hl => between_c g2 _ 0 5) rfl ?_
    refine BIf.mk (fun h3 => ?_) (fun h3 => ?_)
    · refine BIf.yes rfl ?_
      refine BIf.yes rfl ?_
      refine FinX.keep hw S.le rfl ⟨congrArg Value.bool (bo_false fun F => ?_).symm, rfl⟩
      have := (F.rng i hlt).1
      simp at h3
      omega
    refine IdxX.mk (by omega) (by omega) ?_
    refine LoadX.same (v := .int .i64 (lv I i)) (S.at_ 0 rfl) (ldG gx (j := 10 + i) (by omega) (by show 0 + 10 + i = _; omega)) ?_
    refine QCall.of (fun g2 hl => between_c g2 _ 0 5) rfl ?_
    refine BIf.mk (fun h4 => ?_) (fun h4 => ?_)
    · refine BIf.yes rfl ?_
      refine FinX.keep hw S.le rfl ⟨congrArg Value.bool (bo_false fun F => ?_).symm, rfl⟩
      have := (F.rng i hlt).2
      simp at h4
      omega
    refine LoadX.same (S.at_ 0 rfl) (ldGG gx) ?_
    refine IdxX.mk (by omega) (by omega) ?_
    refine LoadX.same (v := vA .u8 (df B i)) (S.at_ 0 rfl) (ldGB gx (o := i * 8) (s := 8) (by omega) (by show 0 + 18 + i * 8 = _; omega)) ?_
    refine QCall.of (fun g2 hl => isElement_c g2 I B _ gx (df_byt gx hB hlt)) rfl ?_
    refine BIf.mk (fun h5 => ?_) (fun h5 => ?_)
    · refine FinX.keep hw S.le rfl ⟨congrArg Value.bool (bo_false fun F => ?_).symm, rfl⟩
      exact not_of_bo (by simpa using h5) (F.dif i hlt)
    have hdif : Small (pr I) (sz I) (df B i) := not_not_bo h5
    have hrng : (0 ≤ dg I i ∧ dg I i ≤ 5) ∧ (0 ≤ lv I i ∧ lv I i ≤ 5) := by
      simp at h3 h4
      omega
    clear h3 h4 h5
    refine DrawX.tree Tt.tab follows_any [] [] (.op 0 (.op 1 (.op 2 (.op 3 (.op 4 (.op 5 (.op 6 (.op 7 (.op 8 (.op 9 (.op 10 (.op 11 (.op 12 (.op 13 (.op 14 (.op 15 (.op 16 (.op 17 (.op 18 (.op 19 (.op 20 (.op 21 (.op 22 (.op 23 (.op 24 (.op 25 (.op 26 (.op 27 (.op 28 (.op 29 (.op 30 (.op 31 (.op 32 (.op 33 (.op 34 (.nil)))))))))))))))))))))))))))))))))))) [1, 3, 4, 17, 105] (fun vs g => ∃ c : Bool, vs = [.pointer (some ⟨b1, 0, none⟩), .int .i64 i, .bool (decide ((i : Int) < sz I)), .int .i64 i, .bool c] ∧ (c = false → (0 < i → (i : Int) < sz I → dg I (i - 1) ≤ dg I i) ∧ ((i : Int) < sz I → Lies I (df B i) (dg I i - 1) (lv I i) 8)) ∧ (c = true → ¬ Form I B) ∧ Sep h.length h g [.bx b1 28 594 (cG I B)]) (by kernel_rfl) (by kernel_rfl) ?_ ?_
    · refine BIf.yes (decide_eq_true (by omega)) ?_
      refine BIf.mk (fun h4 => ?_) (fun h4 => ?_)
      · have hi0 : 0 < i := by simpa using h4
        refine IdxX.mk (by omega) (by omega) ?_
        refine LoadX.same (v := .int .i64 (dg I i)) (S.at_ 0 rfl) (ldG gx (j := 2 + i) (by omega) (by show 0 + 2 + i = _; omega)) ?_
        refine WR.i64 ?_
        refine IdxX.mk (by omega) (by omega) ?_
        refine LoadX.same (v := .int .i64 (dg I (i - 1))) (S.at_ 0 rfl) (ldG gx (j := 2 + (i - 1)) (by omega) (by show 0 + 2 + ((i : Int) - 1).toNat = _; omega)) ?_
        refine BIf.mk (fun h5 => ?_) (fun h5 => ?_)
        · refine ⟨true, rfl, fun hc => Bool.noConfusion hc, fun _ F => ?_, S⟩
          have := F.ord i hlt hi0 (by omega)
          simp at h5
          omega
        refine LoadX.same (S.at_ 0 rfl) (ldGG gx) ?_
        refine IdxX.mk (by omega) (by omega) ?_
        refine LoadX.same (v := vA .u8 (df B i)) (S.at_ 0 rfl) (ldGB gx (o := i * 8) (s := 8) (by omega) (by show 0 + 18 + i * 8 = _; omega)) ?_
        refine IdxX.mk (by omega) (by omega) ?_
        refine LoadX.same (v := .int .i64 (dg I i)) (S.at_ 0 rfl) (ldG gx (j := 2 + i) (by omega) (by show 0 + 2 + i = _; omega)) ?_
        refine WR.i64 ?_
        refine IdxX.mk (by omega) (by omega) ?_
        refine LoadX.same (v := .int .i64 (lv I i)) (S.at_ 0 rfl) (ldG gx (j := 10 + i) (by omega) (by show 0 + 10 + i = _; omega)) ?_
        refine QCall.of (fun g2 hl => lies_c g2 I B _ _ _ gx (df_byt gx hB hlt)) rfl ?_
        refine ⟨_, rfl, fun hc => ⟨fun _ _ => by simp at h5; omega, fun hin => not_not_bo hc⟩, fun hc F => not_of_bo (by simpa using hc) (F.ld i hlt (by omega)), S⟩
      refine BIf.no rfl ?_
      refine LoadX.same (S.at_ 0 rfl) (ldGG gx) ?_
      refine IdxX.mk (by omega) (by omega) ?_
      refine LoadX.same (v := vA .u8 (df B i)) (S.at_ 0 rfl) (ldGB gx (o := i * 8) (s := 8) (by omega) (by show 0 + 18 + i * 8 = _; omega)) ?_
      refine IdxX.mk (by omega) (by omega) ?_
      refine LoadX.same (v := .int .i64 (dg I i)) (S.at_ 0 rfl) (ldG gx (j := 2 + i) (by omega) (by show 0 + 2 + i = _; omega)) ?_
      refine WR.i64 ?_
      refine IdxX.mk (by omega) (by omega) ?_
      refine LoadX.same (v := .int .i64 (lv I i)) (S.at_ 0 rfl) (ldG gx (j := 10 + i) (by omega) (by show 0 + 10 + i = _; omega)) ?_
      refine QCall.of (fun g2 hl => lies_c g2 I B _ _ _ gx (df_byt gx hB hlt)) rfl ?_
      refine ⟨_, rfl, fun hc => ⟨fun hi0 _ => by simp at h4; omega, fun hin => not_not_bo hc⟩, fun hc F => not_of_bo (by simpa using hc) (F.ld i hlt (by omega)), S⟩
    rintro vs g ⟨c, rfl, hf, ht, S⟩
    refine BIf.mk (fun h3 => ?_) (fun h3 => ?_)
    · refine FinX.keep hw S.le rfl ⟨congrArg Value.bool (bo_false fun F => ?_).symm, rfl⟩
      exact ht h3 F
    have hlo := hf h3
    clear hf ht h3
    refine ⟨⟨[1, 3, 4, 17, 106], fun n' vs g => ∃ j : Nat, n' = 8 - j ∧ j ≤ 8 ∧ (∀ k, k < j → SeenT I B i k) ∧ Sep h.length h g [.bx b1 28 594 (cG I B)] ∧
      vs = [.pointer (some ⟨b1, 0, none⟩), .int .i64 i, .bool (decide ((i : Int) < sz I)), .int .i64 i, .int .i64 j], _, ⟨0, rfl, Nat.zero_le _, fun k hk => by omega, S, rfl⟩, ?_⟩⟩
    clear S h2
    rintro n' vs g ⟨j, rfl, hj, hej, S, rfl⟩
    refine BIf.mk (fun h2 => ?_) (fun h2 => ?_)
    · have hjt : j < 8 := by simp at h2; omega
      have ht := tb_byt gx hB hlt hjt
      refine IdxX.mk (by omega) (by omega) ?_
      refine IdxX.mk (by omega) (by omega) ?_
      refine LoadX.same (v := vA .u8 (tb B i j)) (S.at_ 0 rfl) (ldGB gx (o := 64 + (i * 64 + j * 8)) (s := 8) (by omega) (by show 0 + 82 + i * 64 + j * 8 = _; omega)) ?_
      refine S.new fun b6 g S => ?_
      refine S.putA 0 rfl ht.1 rfl fun g S => ?_
      refine DrawX.tree Tt.tab follows_any [] [] (.op 0 (.op 1 (.op 2 (.op 3 (.op 4 (.op 5 (.op 6 (.op 7 (.op 8 (.op 9 (.op 10 (.op 11 (.op 12 (.op 13 (.op 14 (.op 15 (.op 16 (.op 17 (.op 18 (.op 19 (.op 20 (.op 21 (.op 22 (.op 23 (.op 24 (.op 25 (.op 26 (.op 27 (.op 28 (.op 29 (.op 30 (.op 31 (.op 32 (.op 33 (.op 34 (.op 35 (.op 36 (.op 37 (.op 38 (.op 39 (.op 40 (.op 41 (.op 42 (.nil)))))))))))))))))))))))))))))))))))))))))))) [1, 3, 4, 17, 106, 157] (fun vs g => ∃ c : Bool, vs = [.pointer (some ⟨b1, 0, none⟩), .int .i64 i, .bool (decide ((i : Int) < sz I)), .int .i64 i, .int .i64 j, .bool c] ∧ (c = false → SeenT I B i j) ∧ (c = true → ¬ Form I B) ∧ Sep h.length h g [.bx b6 24 8 ((tb B i j).map (.int .u8)), .bx b1 28 594 (cG I B)]) (by kernel_rfl) (by kernel_rfl) ?_ ?_
      · refine LoadX.same (S.at_ 1 rfl) (ldGG gx) ?_
        refine LoadX.same (S.at_ 0 rfl) (ldAll ht.1) ?_
        refine QCall.of (fun g2 hl => isElement_c g2 I B _ gx ht) rfl ?_
        refine BIf.mk (fun h5 => ?_) (fun h5 => ?_)
        · refine BIf.yes rfl ?_
          exact ⟨true, rfl, fun hc => Bool.noConfusion hc, fun _ F => not_of_bo (by simpa using h5) (F.tab i hlt j hjt).1, S⟩
        have hsm : Small (pr I) (sz I) (tb B i j) := not_not_bo h5
        refine BIf.no (by rw [decide_eq_true (show (i : Int) < sz I by omega)]; rfl) ?_
        refine LoadX.same (v := .int .i64 (sz I)) (S.at_ 1 rfl) (ldG gx (j := 1) (by omega)) ?_
        refine BIf.mk (fun h6 => ?_) (fun h6 => ?_)
        · refine LoadX.same (S.at_ 0 rfl) (ldAll ht.1) ?_
          refine ⟨⟨tb B i j, z8, (ht.1), rfl, rfl, rfl, ?_⟩⟩
          refine BIf.mk (fun h7 => ?_) (fun h7 => ?_)
          · refine ⟨true, rfl, fun hc => Bool.noConfusion hc, fun _ F => ?_, S⟩
            simp at h7
            exact h7 ((F.tab i hlt j hjt).2 (.inr (by simp at h6; omega)))
          have hz : sz I ≤ i ∨ sz I ≤ j → tb B i j = z8 := fun _ => by simpa using h7
          refine LoadX.same (S.at_ 1 rfl) (ldGG gx) ?_
          refine LoadX.same (S.at_ 0 rfl) (ldAll ht.1) ?_
          refine IdxX.mk (by omega) (by omega) ?_
          refine LoadX.same (v := .int .i64 (dg I i)) (S.at_ 1 rfl) (ldG gx (j := 2 + i) (by omega) (by show 0 + 2 + i = _; omega)) ?_
          refine IdxX.mk (by omega) (by omega) ?_
          refine LoadX.same (v := .int .i64 (dg I j)) (S.at_ 1 rfl) (ldG gx (j := 2 + j) (by omega) (by show 0 + 2 + j = _; omega)) ?_
          refine ⟨?_⟩
          refine IdxX.mk (by omega) (by omega) ?_
          refine LoadX.same (v := .int .i64 (lv I i)) (S.at_ 1 rfl) (ldG gx (j := 10 + i) (by omega) (by show 0 + 10 + i = _; omega)) ?_
          refine IdxX.mk (by omega) (by omega) ?_
          refine LoadX.same (v := .int .i64 (lv I j)) (S.at_ 1 rfl) (ldG gx (j := 10 + j) (by omega) (by show 0 + 10 + j = _; omega)) ?_
          refine ⟨?_⟩
          refine QCall.of (fun g2 hl => lies_c g2 I B _ _ _ gx ht) rfl ?_
          exact ⟨_, rfl, fun hc => ⟨hsm, hz, not_not_bo hc⟩, fun hc F => not_of_bo (by simpa using hc) (F.lies hlt hjt), S⟩
        refine BIf.no rfl ?_
        have hz : sz I ≤ i ∨ sz I ≤ j → tb B i j = z8 := fun hh => by simp at h6; omega
        refine LoadX.same (S.at_ 1 rfl) (ldGG gx) ?_
        refine LoadX.same (S.at_ 0 rfl) (ldAll ht.1) ?_
        refine IdxX.mk (by omega) (by omega) ?_
        refine LoadX.same (v := .int .i64 (dg I i)) (S.at_ 1 rfl) (ldG gx (j := 2 + i) (by omega) (by show 0 + 2 + i = _; omega)) ?_
        refine IdxX.mk (by omega) (by omega) ?_
        refine LoadX.same (v := .int .i64 (dg I j)) (S.at_ 1 rfl) (ldG gx (j := 2 + j) (by omega) (by show 0 + 2 + j = _; omega)) ?_
        refine ⟨?_⟩
        refine IdxX.mk (by omega) (by omega) ?_
        refine LoadX.same (v := .int .i64 (lv I i)) (S.at_ 1 rfl) (ldG gx (j := 10 + i) (by omega) (by show 0 + 10 + i = _; omega)) ?_
        refine IdxX.mk (by omega) (by omega) ?_
        refine LoadX.same (v := .int .i64 (lv I j)) (S.at_ 1 rfl) (ldG gx (j := 10 + j) (by omega) (by show 0 + 10 + j = _; omega)) ?_
        refine ⟨?_⟩
        refine QCall.of (fun g2 hl => lies_c g2 I B _ _ _ gx ht) rfl ?_
        exact ⟨_, rfl, fun hc => ⟨hsm, hz, not_not_bo hc⟩, fun hc F => not_of_bo (by simpa using hc) (F.lies hlt hjt), S⟩
      rintro vs g ⟨c, rfl, hf, ht2, S⟩
      refine BIf.mk (fun h5 => ?_) (fun h5 => ?_)
      · refine FinX.keep hw S.le rfl ⟨congrArg Value.bool (bo_false fun F => ?_).symm, rfl⟩
        exact ht2 h5 F
      refine WR.i64 ?_
      exact ⟨8 - (j + 1), by omega, j + 1, rfl, hjt, fun k hk => by
        by_cases e : k = j
        · subst e; exact hf h5
        · exact hej k (by omega), S.tail, rfl⟩
    have hj2 : j = 8 := by simp at h2; omega
    subst hj2
    refine WR.i64 ?_
    exact ⟨8 - (i + 1), by omega, i + 1, rfl, hlt, fun k hk => by
      by_cases e : k = i
      · subst e; exact ⟨hout, hrng, hdif, hlo.1, hlo.2⟩
      · exact he k (by omega), fun k hk => by
      by_cases e : k = i
      · subst e; exact hej
      · exact het k (by omega), S, rfl⟩
  have hi2 : i = 8 := by simp at h2; omega
  subst hi2
  refine IdxX.mk (by omega) (by omega) ?_
  refine LoadX.same (v := .int .i64 (dg I 0)) (S.at_ 0 rfl) (ldG gx (j := 2 + 0) (by omega) (by show 0 + 2 + 0 = _; omega)) ?_
  refine BIf.mk (fun h3 => ?_) (fun h3 => ?_)
  · have h3 : dg I 0 = 0 := by simpa using h3
    refine IdxX.mk (by omega) (by omega) ?_
    refine LoadX.same (v := .int .i64 (lv I 0)) (S.at_ 0 rfl) (ldG gx (j := 10 + 0) (by omega) (by show 0 + 10 + 0 = _; omega)) ?_
    refine FinX.keep hw S.le rfl ⟨congrArg Value.bool ?_, rfl⟩
    by_cases h4 : lv I 0 = 0
    · rw [bo_true (Form.ofSeen hp hs he het ⟨h3, h4⟩)]; simpa using h4
    · rw [bo_false fun F => h4 F.z.2]; simpa using h4
  refine FinX.keep hw S.le rfl ⟨congrArg Value.bool (bo_false fun F => ?_).symm, rfl⟩
  simp at h3
  exact h3 F.z.1

end Go.Gl

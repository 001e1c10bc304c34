/- Chapter 10: elements with numbers in range, elements of a degree and a level. No condition. -/
import Derived.Test.YtblbcjemoadfpaaPlDg
set_option linter.unusedVariables false
set_option linter.unusedSimpArgs false
namespace Go.Gl
open Go.Proofs Go.Proofs.Ytblbcjemoadfpaa Go.Pl


theorem isElement_c (h : AH) (I B u : List Int) (gx : GL I B) (hu : Byt u) : ACalls Try.prog 57 [vG I B, vA .u8 u] h (fun r h' => r = .bool (bo (Small (pr I) (sz I) u)) ∧ h' = h) := by
  refine ACalls.of Tt.tab Try.func57 rfl (by kernel_rfl) Try.ntmps57 _ rfl rfl (fun hw => ?_)
  have S := Sep.start h
  refine S.boxG gx fun b2 g S => ?_
  refine S.boxA hu.1 fun b3 g S => ?_
  refine LoadX.same (S.at_ 0 rfl) (ldAll hu.1) ?_
  refine ⟨⟨[2, 7, 8], fun n' vs g => ∃ i : Nat, n' = 8 - i ∧ i ≤ 8 ∧ (∀ j : Nat, j < i → ith u j < pr I ∧ (sz I ≤ (j : Int) → ith u j = 0)) ∧ Sep h.length h g [.bx b3 24 8 (u.map (.int .u8)), .bx b2 28 594 (cG I B)] ∧
    vs = [.pointer (some ⟨b2, 0, none⟩), vA .u8 u, .int .i64 i], _, ⟨0, rfl, Nat.zero_le _, fun j hj => by omega, S, rfl⟩, ?_⟩⟩
  clear S
  rintro n' vs g ⟨i, rfl, hi, he, S, rfl⟩
  refine BIf.mk (fun h2 => ?_) (fun h2 => ?_)
  · have hlt : i < 8 := by simp at h2; omega
    have r1 := hu.2 i
    refine IdxX.mk (by omega) (by omega) ?_
    refine ⟨⟨.int .u8 (ith u i), ldvK (o := i) (by rw [hu.1]; exact hlt), ?_⟩⟩
    refine WR.i64 ?_
    refine LoadX.same (v := .int .i64 (pr I)) (S.at_ 1 rfl) (ldG gx (j := 0) (by omega)) ?_
    refine BIf.mk (fun h3 => ?_) (fun h3 => ?_)
    · refine BIf.yes rfl ?_
      refine FinX.keep hw S.le rfl ⟨?_, rfl⟩
      rw [bo_false]
      intro hs
      have := (hs i hlt).1
      simp at h3
      omega
    refine LoadX.same (v := .int .i64 (sz I)) (S.at_ 1 rfl) (ldG gx (j := 1) (by omega)) ?_
    have next : (sz I ≤ (i : Int) → ith u i = 0) → ∀ j : Nat, j < i + 1 → ith u j < pr I ∧ (sz I ≤ (j : Int) → ith u j = 0) := fun hz j hj => by
      by_cases e : j = i
      · subst e; exact ⟨by simp at h3; omega, hz⟩
      · exact he j (by omega)
    refine BIf.mk (fun h4 => ?_) (fun h4 => ?_)
    · refine BIf.mk (fun h5 => ?_) (fun h5 => ?_)
      · refine FinX.keep hw S.le rfl ⟨?_, rfl⟩
        rw [bo_false]
        intro hs
        have := (hs i hlt).2 (by simp at h4; omega)
        simp at h5
        omega
      refine WR.i64 ?_
      exact ⟨8 - (i + 1), by omega, i + 1, rfl, hlt, next fun _ => by simpa using h5, S, rfl⟩
    refine BIf.no rfl ?_
    refine WR.i64 ?_
    exact ⟨8 - (i + 1), by omega, i + 1, rfl, hlt, next fun hz => by simp at h4; omega, S, rfl⟩
  have hi2 : i = 8 := by simp at h2; omega
  subst hi2
  refine FinX.keep hw S.le rfl ⟨?_, rfl⟩
  exact congrArg Value.bool (bo_true fun j hj => he j hj).symm

theorem l10Small_c (h : AH) (p s : Int) (u : List Int) (hu : Byt u) : ACalls Try.prog 86 [.int .i64 p, .int .i64 s, vA .u8 u] h (fun r h' => r = .bool (bo (Small p s u)) ∧ h' = h) := by
  refine ACalls.of Tt.tab Try.func86 rfl (by kernel_rfl) Try.ntmps86 _ rfl rfl (fun hw => ?_)
  have S := Sep.start h
  refine S.boxA hu.1 fun b3 g S => ?_
  refine ⟨⟨[0, 1, 5, 7], fun n' vs g => ∃ i : Nat, n' = 8 - i ∧ i ≤ 8 ∧ (∀ j : Nat, j < i → ith u j < p ∧ (s ≤ (j : Int) → ith u j = 0)) ∧ Sep h.length h g [.bx b3 24 8 (u.map (.int .u8))] ∧
    vs = [.int .i64 p, .int .i64 s, .pointer (some ⟨b3, 0, none⟩), .int .i64 i], _, ⟨0, rfl, Nat.zero_le _, fun j hj => by omega, S, rfl⟩, ?_⟩⟩
  clear S
  rintro n' vs g ⟨i, rfl, hi, he, S, rfl⟩
  refine BIf.mk (fun h2 => ?_) (fun h2 => ?_)
  · have hlt : i < 8 := by simp at h2; omega
    have r1 := hu.2 i
    have ld : ∀ {ti : TI}, ti.agg = false → ldv ti (u.map (Value.int .u8)) (0 + i) = some (.int .u8 (ith u i)) := fun hi => ldvK0 (j := i) (by rw [hu.1]; exact hlt) rfl hi
    refine IdxX.mk (by omega) (by omega) ?_
    refine LoadX.same (S.at_ 0 rfl) (ld rfl) ?_
    refine WR.i64 ?_
    refine BIf.mk (fun h3 => ?_) (fun h3 => ?_)
    · refine BIf.yes rfl ?_
      refine FinX.keep hw S.le rfl ⟨?_, rfl⟩
      rw [bo_false]
      intro hs
      have := (hs i hlt).1
      simp at h3
      omega
    have next : (s ≤ (i : Int) → ith u i = 0) → ∀ j : Nat, j < i + 1 → ith u j < p ∧ (s ≤ (j : Int) → ith u j = 0) := fun hz j hj => by
      by_cases e : j = i
      · subst e; exact ⟨by simp at h3; omega, hz⟩
      · exact he j (by omega)
    refine BIf.mk (fun h4 => ?_) (fun h4 => ?_)
    · refine IdxX.mk (by omega) (by omega) ?_
      refine LoadX.same (S.at_ 0 rfl) (ld rfl) ?_
      refine BIf.mk (fun h5 => ?_) (fun h5 => ?_)
      · refine FinX.keep hw S.le rfl ⟨?_, rfl⟩
        rw [bo_false]
        intro hs
        have := (hs i hlt).2 (by simp at h4; omega)
        simp at h5
        omega
      refine WR.i64 ?_
      exact ⟨8 - (i + 1), by omega, i + 1, rfl, hlt, next fun _ => by simpa using h5, S, rfl⟩
    refine BIf.no rfl ?_
    refine WR.i64 ?_
    exact ⟨8 - (i + 1), by omega, i + 1, rfl, hlt, next fun hz => by simp at h4; omega, S, rfl⟩
  have hi2 : i = 8 := by simp at h2; omega
  subst hi2
  refine FinX.keep hw S.le rfl ⟨?_, rfl⟩
  exact congrArg Value.bool (bo_true fun j hj => he j hj).symm

theorem lies_c (h : AH) (I B u : List Int) (d l : Int) (gx : GL I B) (hu : Byt u) : ACalls Try.prog 85 [vG I B, vA .u8 u, .int .i64 d, .int .i64 l] h (fun r h' => r = .bool (bo (Lies I u d l 8)) ∧ h' = h) := by
  refine ACalls.of Tt.tab Try.func85 rfl (by kernel_rfl) Try.ntmps85 _ rfl rfl (fun hw => ?_)
  have S := Sep.start h
  refine S.boxG gx fun b4 g S => ?_
  refine S.boxA hu.1 fun b5 g S => ?_
  refine LoadX.same (S.at_ 0 rfl) (ldAll hu.1) ?_
  refine ⟨⟨[2, 3, 4, 11, 12], fun n' vs g => ∃ i : Nat, n' = 8 - i ∧ i ≤ 8 ∧ Lies I u d l i ∧ Sep h.length h g [.bx b5 24 8 (u.map (.int .u8)), .bx b4 28 594 (cG I B)] ∧
    vs = [.int .i64 d, .int .i64 l, .pointer (some ⟨b4, 0, none⟩), vA .u8 u, .int .i64 i], _, ⟨0, rfl, Nat.zero_le _, fun j hj => by omega, S, rfl⟩, ?_⟩⟩
  clear S
  rintro n' vs g ⟨i, rfl, hi, he, S, rfl⟩
  refine BIf.mk (fun h2 => ?_) (fun h2 => ?_)
  · have hlt : i < 8 := by simp at h2; omega
    refine IdxX.mk (by omega) (by omega) ?_
    refine ⟨⟨.int .u8 (ith u i), ldvK (o := i) (by rw [hu.1]; exact hlt), ?_⟩⟩
    have next : (ith u i ≠ 0 → dg I i = d ∧ lv I i ≤ l) → Lies I u d l (i + 1) := fun hz j hj => by
      by_cases e : j = i
      · subst e; exact hz
      · exact he j (by omega)
    refine BIf.mk (fun h3 => ?_) (fun h3 => ?_)
    · have h3 : ith u i ≠ 0 := by simpa using h3
      refine IdxX.mk (by omega) (by omega) ?_
      refine LoadX.same (v := .int .i64 (dg I i)) (S.at_ 1 rfl) (ldG gx (j := 2 + i) (by omega) (by show 0 + 2 + i = _; omega)) ?_
      refine BIf.mk (fun h4 => ?_) (fun h4 => ?_)
      · refine BIf.yes rfl ?_
        refine FinX.keep hw S.le rfl ⟨?_, rfl⟩
        rw [bo_false]
        intro hs
        have := (hs i hlt h3).1
        simp at h4
        exact h4 this
      have h4 : dg I i = d := by simpa using h4
      refine IdxX.mk (by omega) (by omega) ?_
      refine LoadX.same (v := .int .i64 (lv I i)) (S.at_ 1 rfl) (ldG gx (j := 10 + i) (by omega) (by show 0 + 10 + i = _; omega)) ?_
      refine BIf.mk (fun h5 => ?_) (fun h5 => ?_)
      · refine FinX.keep hw S.le rfl ⟨?_, rfl⟩
        rw [bo_false]
        intro hs
        have := (hs i hlt h3).2
        simp at h5
        omega
      refine WR.i64 ?_
      exact ⟨8 - (i + 1), by omega, i + 1, rfl, hlt, next fun _ => ⟨h4, by simp at h5; omega⟩, S, rfl⟩
    refine BIf.no rfl ?_
    refine WR.i64 ?_
    exact ⟨8 - (i + 1), by omega, i + 1, rfl, hlt, next fun hz => by simp at h3; omega, S, rfl⟩
  have hi2 : i = 8 := by simp at h2; omega
  subst hi2
  refine FinX.keep hw S.le rfl ⟨?_, rfl⟩
  rw [bo_true he]

theorem within_c (h : AH) (I B u : List Int) (d l : Int) (n : Nat) (hn : (n : Int) = sz I) (h8 : n ≤ 8) (gx : GL I B) (hu : Byt u) : ACalls Try.prog 120 [vG I B, vA .u8 u, .int .i64 d, .int .i64 l] h (fun r h' => r = .bool (bo (Lies I u d l n)) ∧ h' = h) := by
  refine ACalls.of Tt.tab Try.func120 rfl (by kernel_rfl) Try.ntmps120 _ rfl rfl (fun hw => ?_)
  have S := Sep.start h
  refine S.boxG gx fun b4 g S => ?_
  refine S.boxA hu.1 fun b5 g S => ?_
  refine ⟨⟨[2, 3, 4, 5, 9], fun n' vs g => ∃ i : Nat, n' = n - i ∧ i ≤ n ∧ Lies I u d l i ∧ Sep h.length h g [.bx b5 24 8 (u.map (.int .u8)), .bx b4 28 594 (cG I B)] ∧
    vs = [.int .i64 d, .int .i64 l, .pointer (some ⟨b4, 0, none⟩), .pointer (some ⟨b5, 0, none⟩), .int .i64 i], _, ⟨0, rfl, Nat.zero_le _, fun j hj => by omega, S, rfl⟩, ?_⟩⟩
  clear S
  rintro n' vs g ⟨i, rfl, hi, he, S, rfl⟩
  refine LoadX.same (v := .int .i64 (sz I)) (S.at_ 1 rfl) (ldG gx (j := 1) (by omega)) ?_
  refine BIf.mk (fun h2 => ?_) (fun h2 => ?_)
  · have hlt : i < n := by simp at h2; omega
    refine IdxX.mk (by omega) (by omega) ?_
    refine LoadX.same (S.at_ 0 rfl) (ldvK0 (j := i) (by rw [hu.1]; omega)) ?_
    have next : (ith u i ≠ 0 → dg I i = d ∧ lv I i ≤ l) → Lies I u d l (i + 1) := fun hz j hj => by
      by_cases e : j = i
      · subst e; exact hz
      · exact he j (by omega)
    refine BIf.mk (fun h3 => ?_) (fun h3 => ?_)
    · have h3 : ith u i ≠ 0 := by simpa using h3
      refine IdxX.mk (by omega) (by omega) ?_
      refine LoadX.same (v := .int .i64 (dg I i)) (S.at_ 1 rfl) (ldG gx (j := 2 + i) (by omega) (by show 0 + 2 + i = _; omega)) ?_
      refine BIf.mk (fun h4 => ?_) (fun h4 => ?_)
      · refine BIf.yes rfl ?_
        refine FinX.keep hw S.le rfl ⟨?_, rfl⟩
        rw [bo_false]
        intro hs
        have := (hs i hlt h3).1
        simp at h4
        exact h4 this
      have h4 : dg I i = d := by simpa using h4
      refine IdxX.mk (by omega) (by omega) ?_
      refine LoadX.same (v := .int .i64 (lv I i)) (S.at_ 1 rfl) (ldG gx (j := 10 + i) (by omega) (by show 0 + 10 + i = _; omega)) ?_
      refine BIf.mk (fun h5 => ?_) (fun h5 => ?_)
      · refine FinX.keep hw S.le rfl ⟨?_, rfl⟩
        rw [bo_false]
        intro hs
        have := (hs i hlt h3).2
        simp at h5
        omega
      refine WR.i64 ?_
      exact ⟨n - (i + 1), by omega, i + 1, rfl, hlt, next fun _ => ⟨h4, by simp at h5; omega⟩, S, rfl⟩
    refine BIf.no rfl ?_
    refine WR.i64 ?_
    exact ⟨n - (i + 1), by omega, i + 1, rfl, hlt, next fun hz => by simp at h3; omega, S, rfl⟩
  have hi2 : i = n := by simp at h2; omega
  subst hi2
  refine FinX.keep hw S.le rfl ⟨?_, rfl⟩
  rw [bo_true he]

end Go.Gl

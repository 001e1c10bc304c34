/- Bars: CountLasting, LongestBar. No condition. -/
import Derived.Test.YtghmdhlpoedidaaFnBar2
set_option linter.unusedVariables false
set_option linter.unusedSimpArgs false
namespace Go.Gl
open Go.Proofs Go.Proofs.Ytghmdhlpoedidaa Go.Pl


/-- counting, with a function value -/
theorem barCount_c (h : AH) (v : Value) (xs : List SBar) (g : Nat) (cap : Array Value) (p : SBar → Bool) (hx : RB h v xs) (hl : xs.length ≤ 1000000)
    (hp : ∀ h2 x, Le h h2 → ACalls Try.prog g (vB x :: cap.toList) h2 (fun r h' => r = .bool (p x) ∧ h' = h2)) : ACalls Try.prog 100 [v, .func (.func g) #[] cap] h (fun r h' => r = .int .i64 (countN p xs xs.length) ∧ Le h h') := by
  obtain ⟨hm, b, o, k1, c1⟩ := hx
  refine ACalls.wk (args' := [.slice (some ⟨b, o, none⟩) xs.length 0, .func (.func g) #[] cap]) ?_ (.cons k1 (.cons (Wk.refl _) .nil))
  refine ACalls.of Tt.tab Try.func100 rfl (by kernel_rfl) Try.ntmps100 _ rfl rfl (fun hw => ?_)
  refine ⟨⟨[1, 5, 8, 9, 10], fun n' vs h' => ∃ k : Nat, n' = xs.length - k ∧ k ≤ xs.length ∧ Le h h' ∧ vs = [.func (.func g) #[] cap, .int .i64 (countN p xs k), .slice (some ⟨b, o, none⟩) xs.length 0, .int .i64 xs.length, .int .i64 k], _, ⟨0, rfl, Nat.zero_le _, Le.refl _, rfl⟩, ?_⟩⟩
  rintro n' vs h' ⟨k, rfl, hk, L, rfl⟩
  have e1 := countN_rng p xs k
  refine BIf.mk (fun h2 => ?_) (fun h2 => ?_)
  · have hlt : k < xs.length := by simpa using h2
    have S : Sep h.length h h' [] := (Sep.start h).grow L
    refine IdxX.mk (by omega) (by omega) ?_
    refine CB.load c1 S.le hlt ?_
    refine S.new fun b3 h' S => ?_
    refine S.put 0 rfl fun h' S => ?_
    refine LoadX.same (v := vB (bar xs k)) (S.at_ 0 rfl) rfl ?_
    refine CallX.same (hp _ (bar xs k) S.le) ?_
    rintro r h3 ⟨rfl, rfl⟩
    refine BIf.mk (fun h4 => ?_) (fun h4 => ?_)
    · refine WR.i64 ?_
      refine WR.i64 ?_
      exact ⟨xs.length - (k + 1), by omega, k + 1, rfl, hlt, S.le, by simp only [countN]; rw [if_pos h4]; rfl⟩
    · refine WR.i64 ?_
      exact ⟨xs.length - (k + 1), by omega, k + 1, rfl, hlt, S.le, by simp only [countN]; rw [if_neg (by simp [h4])]; rfl⟩
  · have hk2 : k = xs.length := by simp at h2; omega
    subst hk2
    exact FinX.here L.len ⟨rfl, L⟩

theorem lasting1_c (h : AH) (x : SBar) (n : Int) (b : Nat) (hb : look h b = some ⟨[.int .i64 n], some (tI, 1)⟩) : ACalls Try.prog 101 [vB x, .pointer (some ⟨b, 0, none⟩)] h (fun r h' => r = .bool (lasting n x) ∧ h' = h) := by
  refine ACalls.of Tt.tab Try.func101 rfl (by kernel_rfl) Try.ntmps101 _ rfl rfl (fun hw => ?_)
  have S := Sep.start h
  refine S.new fun b1 g S => ?_
  refine LoadX.same (S.at_ 0 rfl) rfl ?_
  refine LoadX.same (S.le.at_ _ _ hb) rfl ?_
  unfold lasting
  refine BIf.mk (fun h1 => ?_) (fun h1 => ?_)
  · have h1 : x.degree = n := by simpa using h1
    refine LoadX.same (S.at_ 0 rfl) rfl ?_
    exact FinX.keep hw S.le rfl ⟨by rw [decide_eq_true h1]; rfl, rfl⟩
  · have h1 : ¬ x.degree = n := by simpa using h1
    exact FinX.keep hw S.le rfl ⟨by rw [decide_eq_false h1]; rfl, rfl⟩
theorem lastingI_c (h : AH) (v : Value) (xs : List SBar) (n : Int) (hx : RB h v xs) : ACalls Try.prog 51 [v, .int .i64 n] h (fun r h' => r = .tuple #[.int .i64 (countLasting xs n).1, .int .i64 (countLasting xs n).2] ∧ Le h h') := by
  obtain ⟨b, o, k1, hx⟩ := hx.can
  refine ACalls.wk (args' := [.slice (some ⟨b, o, none⟩) xs.length 0, .int .i64 n]) ?_ (.cons k1 (.cons (Wk.refl _) .nil))
  refine ACalls.of Tt.tab Try.func51 rfl (by kernel_rfl) Try.ntmps51 _ rfl rfl (fun hw => ?_)
  have S := Sep.start h
  refine S.new fun b1 g S => ?_
  refine CallX.same (areBarsI_c g _ xs (RB.le _ _ _ _ S.le hx)) ?_
  rintro r g ⟨rfl, rfl⟩
  unfold countLasting
  refine BIf.mk (fun h1 => ?_) (fun h1 => ?_)
  · have h1 : areBars xs = false := by simpa using h1
    refine BIf.yes rfl ?_
    exact FinX.here S.le.len ⟨by rw [h1]; rfl, S.le⟩
  have h1 : areBars xs = true := by simpa using h1
  refine LoadX.same (v := .int .i64 n) (S.at_ 0 rfl) rfl ?_
  refine CallX.same (between_c _ n 0 5) ?_
  rintro r g ⟨rfl, rfl⟩
  refine BIf.mk (fun h2 => ?_) (fun h2 => ?_)
  · have h2 : decide (0 ≤ n ∧ n ≤ 5) = false := by simpa only [Bool.not_eq_true'] using h2
    exact FinX.here S.le.len ⟨by rw [h1, h2]; rfl, S.le⟩
  have h2 : decide (0 ≤ n ∧ n ≤ 5) = true := by simpa only [Bool.not_eq_false'] using h2
  refine CallX.same (barCount_c _ _ xs _ _ (lasting n) (RB.le _ _ _ _ S.le hx) (by have := areBars_len h1; omega) (fun h2 x L => lasting1_c h2 x n b1 (L.at_ _ _ (S.at_ 0 rfl)))) ?_
  rintro r g ⟨rfl, gg⟩
  have S := S.grow gg
  exact FinX.here S.le.len ⟨by rw [h1, h2]; rfl, S.le⟩

theorem lastingS_c (h : AH) (v : Value) (xs : List SBar) (n : Int) (hx : RB h v xs) : ACalls Try.prog 50 [v, .int .i64 n] h (fun r h' => r = .tuple #[.int .i64 (countLasting xs n).1, .int .i64 (countLasting xs n).2] ∧ Le h h') := by
  obtain ⟨b, o, k1, hx⟩ := hx.can
  refine ACalls.wk (args' := [.slice (some ⟨b, o, none⟩) xs.length 0, .int .i64 n]) ?_ (.cons k1 (.cons (Wk.refl _) .nil))
  refine ACalls.of Tt.tab Try.func50 rfl (by kernel_rfl) Try.ntmps50 _ rfl rfl (fun hw => ?_)
  refine CallX.same (l09Are_c h _ xs hx) ?_
  rintro r g ⟨rfl, rfl⟩
  unfold countLasting
  refine BIf.mk (fun h1 => ?_) (fun h1 => ?_)
  · have h1 : areBars xs = false := by simpa using h1
    refine BIf.yes rfl ?_
    exact FinX.here (Nat.le_refl _) ⟨by rw [h1]; rfl, Le.refl _⟩
  have h1 : areBars xs = true := by simpa using h1
  refine CallX.same (l01In_c _ n 0 5) ?_
  rintro r g ⟨rfl, rfl⟩
  refine BIf.mk (fun h2 => ?_) (fun h2 => ?_)
  · have h2 : decide (0 ≤ n ∧ n ≤ 5) = false := by simpa only [Bool.not_eq_true'] using h2
    exact FinX.here (Nat.le_refl _) ⟨by rw [h1, h2]; rfl, Le.refl _⟩
  have h2 : decide (0 ≤ n ∧ n ≤ 5) = true := by simpa only [Bool.not_eq_false'] using h2
  have hlen := areBars_len h1
  have c1 : CN 3 EB g b o xs := RN.cells hx rfl
  refine ⟨⟨[0, 1, 6, 7], fun n' vs g' => ∃ k : Nat, n' = xs.length - k ∧ k ≤ xs.length ∧ g' = g ∧ vs = [.slice (some ⟨b, o, none⟩) xs.length 0, .int .i64 n, .int .i64 (countN (lasting n) xs k), .int .i64 k], _, ⟨0, rfl, Nat.zero_le _, rfl, rfl⟩, ?_⟩⟩
  rintro n' vs g' ⟨k, rfl, hk, rfl, rfl⟩
  have L := Le.refl g'
  have e1 := countN_rng (lasting n) xs k
  refine BIf.mk (fun h3 => ?_) (fun h3 => ?_)
  · have hlt : k < xs.length := by simpa using h3
    have no : (decide ((bar xs k).degree = n) && decide ((bar xs k).death < 0)) = false → countN (lasting n) xs (k + 1) = countN (lasting n) xs k := fun hh => by have hh : lasting n (bar xs k) = false := hh; simp [countN, hh]
    have yes : (decide ((bar xs k).degree = n) && decide ((bar xs k).death < 0)) = true → countN (lasting n) xs (k + 1) = countN (lasting n) xs k + 1 := fun hh => by have hh : lasting n (bar xs k) = true := hh; simp [countN, hh]
    refine IdxX.mk (by omega) (by omega) ?_
    refine CB.degree c1 L hlt ?_
    refine BIf.mk (fun h4 => ?_) (fun h4 => ?_)
    · have h4 : (bar xs k).degree = n := by simpa using h4
      refine IdxX.mk (by omega) (by omega) ?_
      refine CB.death c1 L hlt ?_
      refine BIf.mk (fun h5 => ?_) (fun h5 => ?_)
      · refine WR.i64 ?_
        refine WR.i64 ?_
        exact ⟨xs.length - (k + 1), by omega, k + 1, rfl, hlt, rfl, by rw [yes (by rw [decide_eq_true h4, h5]; rfl)]; rfl⟩
      · refine WR.i64 ?_
        exact ⟨xs.length - (k + 1), by omega, k + 1, rfl, hlt, rfl, by rw [no (by rw [h5]; simp)]; rfl⟩
    · have h4 : ¬ (bar xs k).degree = n := by simpa using h4
      refine BIf.no rfl ?_
      refine WR.i64 ?_
      exact ⟨xs.length - (k + 1), by omega, k + 1, rfl, hlt, rfl, by rw [no (by rw [decide_eq_false h4]; rfl)]; rfl⟩
  · have hk2 : k = xs.length := by simp at h3; omega
    subst hk2
    exact FinX.here (Nat.le_refl _) ⟨by rw [h1, h2]; rfl, Le.refl _⟩

theorem longestI_c (h : AH) (v : Value) (xs : List SBar) (hx : RB h v xs) : ACalls Try.prog 53 [v] h (fun r h' => r = .tuple #[vB (longest xs).1, .int .i64 (longest xs).2] ∧ Le h h') := by
  obtain ⟨b, o, k1, hx⟩ := hx.can
  refine ACalls.wk (args' := [.slice (some ⟨b, o, none⟩) xs.length 0]) ?_ (.cons k1 .nil)
  refine ACalls.of Tt.tab Try.func53 rfl (by kernel_rfl) Try.ntmps53 _ rfl rfl (fun hw => ?_)
  have S := Sep.start h
  refine S.new fun br g S => ?_
  refine CallX.same (areBarsI_c g _ xs (RB.le _ _ _ _ S.le hx)) ?_
  rintro r g ⟨rfl, rfl⟩
  unfold longest
  refine BIf.mk (fun h1 => ?_) (fun h1 => ?_)
  · have h1 : areBars xs = false := by simpa using h1
    refine S.put 0 rfl fun g S => ?_
    refine LoadX.same (v := vB ⟨0, 0, 0⟩) (S.at_ 0 rfl) rfl ?_
    exact FinX.here S.le.len ⟨by rw [h1]; rfl, S.le⟩
  have h1 : areBars xs = true := by simpa using h1
  refine S.new fun bb g S => ?_
  refine S.put 0 rfl fun g S => ?_
  have c1 : CN 3 EB h b o xs := RN.cells hx rfl
  have hlen := areBars_len h1
  refine ⟨⟨[2, 4, 5, 13, 14, 15], fun n' vs g => ∃ k : Nat, n' = xs.length - k ∧ k ≤ xs.length ∧ Sep h.length h g [.bx bb 85 3 [.int .i64 (longN xs k).2.degree, .int .i64 (longN xs k).2.birth, .int .i64 (longN xs k).2.death], .bx br 85 3 [.int .i64 0, .int .i64 0, .int .i64 0]] ∧
    vs = [.pointer (some ⟨br, 0, none⟩), .pointer (some ⟨bb, 0, none⟩), .bool (longN xs k).1, .slice (some ⟨b, o, none⟩) xs.length 0, .int .i64 xs.length, .int .i64 k], _, ⟨0, rfl, Nat.zero_le _, S, rfl⟩, ?_⟩⟩
  rintro n' vs g ⟨k, rfl, hk, S, rfl⟩
  refine BIf.mk (fun h2 => ?_) (fun h2 => ?_)
  · have hlt : k < xs.length := by simpa using h2
    obtain ⟨e1, e2, e3⟩ := longN_rng h1 k hk
    have e4 := areBars_bar h1 hlt
    have yes : (bar xs k).death ≥ 0 ∧ ((longN xs k).1 = false ∨ (bar xs k).death - (bar xs k).birth > (longN xs k).2.death - (longN xs k).2.birth) → longN xs (k + 1) = (true, bar xs k) := fun hh => by rw [longN, if_pos hh]
    have no : ¬ ((bar xs k).death ≥ 0 ∧ ((longN xs k).1 = false ∨ (bar xs k).death - (bar xs k).birth > (longN xs k).2.death - (longN xs k).2.birth)) → longN xs (k + 1) = longN xs k := fun hh => by rw [longN, if_neg hh]
    refine IdxX.mk (by omega) (by omega) ?_
    refine CB.load c1 S.le hlt ?_
    refine S.new fun b3 g S => ?_
    refine S.put 0 rfl fun g S => ?_
    refine LoadX.same (v := .int .i64 (bar xs k).death) (S.at_ 0 rfl) rfl ?_
    refine BIf.mk (fun h3 => ?_) (fun h3 => ?_)
    · have h3 : (bar xs k).death ≥ 0 := by simpa using h3
      refine BIf.mk (fun h4 => ?_) (fun h4 => ?_)
      · have h4 : (longN xs k).1 = false := by simpa using h4
        refine BIf.yes rfl ?_
        refine LoadX.same (v := vB (bar xs k)) (S.at_ 0 rfl) rfl ?_
        refine S.put 1 rfl fun g S => ?_
        refine WR.i64 ?_
        refine ⟨xs.length - (k + 1), by omega, k + 1, rfl, hlt, ?_, by rw [yes ⟨h3, .inl h4⟩]; rfl⟩
        rw [yes ⟨h3, .inl h4⟩]
        exact S.tail
      · have h4 : (longN xs k).1 = true := by simpa using h4
        refine LoadX.same (v := .int .i64 (bar xs k).death) (S.at_ 0 rfl) rfl ?_
        refine LoadX.same (v := .int .i64 (bar xs k).birth) (S.at_ 0 rfl) rfl ?_
        refine WR.i64 ?_
        refine LoadX.same (v := .int .i64 (longN xs k).2.death) (S.at_ 1 rfl) rfl ?_
        refine LoadX.same (v := .int .i64 (longN xs k).2.birth) (S.at_ 1 rfl) rfl ?_
        refine WR.i64 ?_
        refine BIf.mk (fun h5 => ?_) (fun h5 => ?_)
        · have h5 : (bar xs k).death - (bar xs k).birth > (longN xs k).2.death - (longN xs k).2.birth := by simpa using h5
          refine LoadX.same (v := vB (bar xs k)) (S.at_ 0 rfl) rfl ?_
          refine S.put 1 rfl fun g S => ?_
          refine WR.i64 ?_
          refine ⟨xs.length - (k + 1), by omega, k + 1, rfl, hlt, ?_, by rw [yes ⟨h3, .inr h5⟩]; rfl⟩
          rw [yes ⟨h3, .inr h5⟩]
          exact S.tail
        · have h5 : ¬ (bar xs k).death - (bar xs k).birth > (longN xs k).2.death - (longN xs k).2.birth := by simpa using h5
          refine WR.i64 ?_
          refine ⟨xs.length - (k + 1), by omega, k + 1, rfl, hlt, ?_, by rw [no (by simp [h4]; omega)]; rfl⟩
          rw [no (by simp [h4]; omega)]
          exact S.tail
    · have h3 : ¬ (bar xs k).death ≥ 0 := by simpa using h3
      refine BIf.no rfl ?_
      refine WR.i64 ?_
      refine ⟨xs.length - (k + 1), by omega, k + 1, rfl, hlt, ?_, by rw [no (fun hh => h3 hh.1)]; rfl⟩
      rw [no (fun hh => h3 hh.1)]
      exact S.tail
  · have hk2 : k = xs.length := by simp at h2; omega
    subst hk2
    refine BIf.mk (fun h3 => ?_) (fun h3 => ?_)
    · have h3 : (longN xs xs.length).1 = false := by simpa using h3
      refine S.put 1 rfl fun g S => ?_
      refine LoadX.same (v := vB ⟨0, 0, 0⟩) (S.at_ 1 rfl) rfl ?_
      exact FinX.here S.le.len ⟨by rw [h1, h3]; rfl, S.le⟩
    · have h3 : (longN xs xs.length).1 = true := by simpa using h3
      refine LoadX.same (v := vB (longN xs xs.length).2) (S.at_ 0 rfl) rfl ?_
      refine S.put 1 rfl fun g S => ?_
      refine LoadX.same (v := vB (longN xs xs.length).2) (S.at_ 1 rfl) rfl ?_
      exact FinX.here S.le.len ⟨by rw [h1, h3]; rfl, S.le⟩

theorem longestS_c (h : AH) (v : Value) (xs : List SBar) (hx : RB h v xs) : ACalls Try.prog 52 [v] h (fun r h' => r = .tuple #[vB (longest xs).1, .int .i64 (longest xs).2] ∧ Le h h') := by
  obtain ⟨b, o, k1, hx⟩ := hx.can
  refine ACalls.wk (args' := [.slice (some ⟨b, o, none⟩) xs.length 0]) ?_ (.cons k1 .nil)
  refine ACalls.of Tt.tab Try.func52 rfl (by kernel_rfl) Try.ntmps52 _ rfl rfl (fun hw => ?_)
  have S := Sep.start h
  refine S.new fun br g S => ?_
  refine CallX.same (l09Are_c g _ xs (RB.le _ _ _ _ S.le hx)) ?_
  rintro r g ⟨rfl, rfl⟩
  unfold longest
  refine BIf.mk (fun h1 => ?_) (fun h1 => ?_)
  · have h1 : areBars xs = false := by simpa using h1
    refine S.put 0 rfl fun g S => ?_
    refine LoadX.same (v := vB ⟨0, 0, 0⟩) (S.at_ 0 rfl) rfl ?_
    exact FinX.here S.le.len ⟨by rw [h1]; rfl, S.le⟩
  have h1 : areBars xs = true := by simpa using h1
  refine S.new fun bb g S => ?_
  refine S.put 0 rfl fun g S => ?_
  have c1 : CN 3 EB h b o xs := RN.cells hx rfl
  have hlen := areBars_len h1
  refine ⟨⟨[0, 2, 4, 5, 6], fun n' vs g => ∃ k : Nat, n' = xs.length - k ∧ k ≤ xs.length ∧ Sep h.length h g [.bx bb 85 3 [.int .i64 (longN xs k).2.degree, .int .i64 (longN xs k).2.birth, .int .i64 (longN xs k).2.death], .bx br 85 3 [.int .i64 0, .int .i64 0, .int .i64 0]] ∧
    vs = [.slice (some ⟨b, o, none⟩) xs.length 0, .pointer (some ⟨br, 0, none⟩), .pointer (some ⟨bb, 0, none⟩), .int .i64 (if (longN xs k).1 then (longN xs k).2.death - (longN xs k).2.birth else -1), .int .i64 k], _, ⟨0, rfl, Nat.zero_le _, S, rfl⟩, ?_⟩⟩
  rintro n' vs g ⟨k, rfl, hk, S, rfl⟩
  obtain ⟨e1, e2, e3⟩ := longN_rng h1 k hk
  refine BIf.mk (fun h2 => ?_) (fun h2 => ?_)
  · have hlt : k < xs.length := by simpa using h2
    have e4 := areBars_bar h1 hlt
    have yes : (bar xs k).death ≥ 0 ∧ ((longN xs k).1 = false ∨ (bar xs k).death - (bar xs k).birth > (longN xs k).2.death - (longN xs k).2.birth) → longN xs (k + 1) = (true, bar xs k) := fun hh => by rw [longN, if_pos hh]
    have no : ¬ ((bar xs k).death ≥ 0 ∧ ((longN xs k).1 = false ∨ (bar xs k).death - (bar xs k).birth > (longN xs k).2.death - (longN xs k).2.birth)) → longN xs (k + 1) = longN xs k := fun hh => by rw [longN, if_neg hh]
    refine IdxX.mk (by omega) (by omega) ?_
    refine CB.load c1 S.le hlt ?_
    refine S.new fun b3 g S => ?_
    refine S.put 0 rfl fun g S => ?_
    refine LoadX.same (v := .int .i64 (bar xs k).death) (S.at_ 0 rfl) rfl ?_
    refine BIf.mk (fun h3 => ?_) (fun h3 => ?_)
    · have h3 : (bar xs k).death ≥ 0 := by simpa using h3
      refine LoadX.same (v := .int .i64 (bar xs k).death) (S.at_ 0 rfl) rfl ?_
      refine LoadX.same (v := .int .i64 (bar xs k).birth) (S.at_ 0 rfl) rfl ?_
      refine WR.i64 ?_
      refine BIf.mk (fun h5 => ?_) (fun h5 => ?_)
      · have h5 : (bar xs k).death - (bar xs k).birth > (if (longN xs k).1 then (longN xs k).2.death - (longN xs k).2.birth else -1) := by simpa using h5
        have hy : (bar xs k).death ≥ 0 ∧ ((longN xs k).1 = false ∨ (bar xs k).death - (bar xs k).birth > (longN xs k).2.death - (longN xs k).2.birth) := by
          refine ⟨h3, ?_⟩
          cases hf : (longN xs k).1 with
          | false => exact .inl rfl
          | true => rw [hf, if_pos rfl] at h5; exact .inr h5
        refine LoadX.same (v := vB (bar xs k)) (S.at_ 0 rfl) rfl ?_
        refine S.put 1 rfl fun g S => ?_
        refine LoadX.same (v := .int .i64 (bar xs k).death) (S.at_ 0 rfl) rfl ?_
        refine LoadX.same (v := .int .i64 (bar xs k).birth) (S.at_ 0 rfl) rfl ?_
        refine WR.i64 ?_
        refine WR.i64 ?_
        refine ⟨xs.length - (k + 1), by omega, k + 1, rfl, hlt, ?_, by rw [yes hy]; rfl⟩
        rw [yes hy]
        exact S.tail
      · have h5 : ¬ (bar xs k).death - (bar xs k).birth > (if (longN xs k).1 then (longN xs k).2.death - (longN xs k).2.birth else -1) := by simpa using h5
        have hn : ¬ ((bar xs k).death ≥ 0 ∧ ((longN xs k).1 = false ∨ (bar xs k).death - (bar xs k).birth > (longN xs k).2.death - (longN xs k).2.birth)) := by
          rintro ⟨_, hh⟩
          cases hf : (longN xs k).1 with
          | false => rw [hf] at h5; simp at h5; omega
          | true => rw [hf, if_pos rfl] at h5; rw [hf] at hh; simp at hh; omega
        refine WR.i64 ?_
        refine ⟨xs.length - (k + 1), by omega, k + 1, rfl, hlt, ?_, by rw [no hn]; rfl⟩
        rw [no hn]
        exact S.tail
    · have h3 : ¬ (bar xs k).death ≥ 0 := by simpa using h3
      refine BIf.no rfl ?_
      refine WR.i64 ?_
      refine ⟨xs.length - (k + 1), by omega, k + 1, rfl, hlt, ?_, by rw [no (fun hh => h3 hh.1)]; rfl⟩
      rw [no (fun hh => h3 hh.1)]
      exact S.tail
  · have hk2 : k = xs.length := by simp at h2; omega
    subst hk2
    refine BIf.mk (fun h3 => ?_) (fun h3 => ?_)
    · have h3 : (longN xs xs.length).1 = false := by
        cases hf : (longN xs xs.length).1 with
        | false => rfl
        | true => rw [hf, if_pos rfl] at h3; simp at h3; have := e3 hf; omega
      refine S.put 1 rfl fun g S => ?_
      refine LoadX.same (v := vB ⟨0, 0, 0⟩) (S.at_ 1 rfl) rfl ?_
      exact FinX.here S.le.len ⟨by rw [h1, h3]; rfl, S.le⟩
    · have h3 : (longN xs xs.length).1 = true := by
        cases hf : (longN xs xs.length).1 with
        | true => rfl
        | false => rw [hf] at h3; simp at h3
      refine LoadX.same (v := vB (longN xs xs.length).2) (S.at_ 0 rfl) rfl ?_
      refine S.put 1 rfl fun g S => ?_
      refine LoadX.same (v := vB (longN xs xs.length).2) (S.at_ 1 rfl) rfl ?_
      exact FinX.here S.le.len ⟨by rw [h1, h3]; rfl, S.le⟩

end Go.Gl

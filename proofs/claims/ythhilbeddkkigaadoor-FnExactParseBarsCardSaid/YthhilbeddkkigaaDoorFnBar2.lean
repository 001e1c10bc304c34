/- Bars: both sides of AreBars, TotalLength, CountLasting, LongestBar. No condition. -/
import Derived.Test.YthhilbeddkkigaaDoorFnBar
set_option linter.unusedVariables false
set_option linter.unusedSimpArgs false
namespace Go.Gl
open Go.Proofs Go.Proofs.YthhilbeddkkigaaDoor Go.Pl


theorem l09End_c (h : AH) (x : SBar) : ACalls Tryd.prog 58 [vB x] h (fun r h' => r = .int .i64 (endD x.death) ∧ h' = h) := by
  refine ACalls.of Tt.tab Tryd.func58 rfl (by kernel_rfl) Tryd.ntmps58 _ rfl rfl (fun hw => ?_)
  have S := Sep.start h
  refine S.new fun b1 g S => ?_
  refine LoadX.same (S.at_ 0 rfl) rfl ?_
  unfold endD
  refine BIf.mk (fun h1 => ?_) (fun h1 => ?_)
  · have h1 : x.death < 0 := by simpa using h1
    exact FinX.keep hw S.le rfl ⟨by rw [if_pos h1], rfl⟩
  · have h1 : ¬ x.death < 0 := by simpa using h1
    refine LoadX.same (S.at_ 0 rfl) rfl ?_
    exact FinX.keep hw S.le rfl ⟨by rw [if_neg h1], rfl⟩
theorem l09Before_c (h : AH) (x y : SBar) : ACalls Tryd.prog 38 [vB x, vB y] h (fun r h' => r = .bool (before x y) ∧ h' = h) := by
  refine ACalls.of Tt.tab Tryd.func38 rfl (by kernel_rfl) Tryd.ntmps38 _ rfl rfl (fun hw => ?_)
  have S := Sep.start h
  refine S.new fun b1 g S => ?_
  refine S.new fun b2 g S => ?_
  unfold before
  refine LoadX.same (S.at_ 1 rfl) rfl ?_
  refine LoadX.same (S.at_ 0 rfl) rfl ?_
  refine BIf.mk (fun h1 => ?_) (fun h1 => ?_)
  · have h1 : x.degree ≠ y.degree := by simpa using h1
    refine LoadX.same (S.at_ 1 rfl) rfl ?_
    refine LoadX.same (S.at_ 0 rfl) rfl ?_
    exact FinX.keep hw S.le rfl ⟨by rw [if_pos h1], rfl⟩
  · have h1 : ¬ x.degree ≠ y.degree := by simpa using h1
    rw [if_neg h1]
    refine LoadX.same (S.at_ 1 rfl) rfl ?_
    refine LoadX.same (S.at_ 0 rfl) rfl ?_
    refine BIf.mk (fun h2 => ?_) (fun h2 => ?_)
    · have h2 : x.birth ≠ y.birth := by simpa using h2
      refine LoadX.same (S.at_ 1 rfl) rfl ?_
      refine LoadX.same (S.at_ 0 rfl) rfl ?_
      exact FinX.keep hw S.le rfl ⟨by rw [if_pos h2], rfl⟩
    · have h2 : ¬ x.birth ≠ y.birth := by simpa using h2
      rw [if_neg h2]
      refine DrawX.of Tt.tab follows_any [] [] [0, 1, 2, 3, 4, 5] rfl (by kernel_rfl) (by kernel_rfl) ?_
      refine LoadX.same (v := vB x) (S.at_ 1 rfl) rfl ?_
      refine QCall.of (fun g2 hl => l09End_c g2 x) rfl ?_
      refine LoadX.same (v := vB y) (S.at_ 0 rfl) rfl ?_
      refine QCall.of (fun g2 hl => l09End_c g2 y) rfl ?_
      exact FinX.keep hw S.le rfl ⟨rfl, rfl⟩

theorem l09Are_c (h : AH) (v : Value) (xs : List SBar) (hx : RB h v xs) : ACalls Tryd.prog 21 [v] h (fun r h' => r = .bool (areBars xs) ∧ h' = h) := by
  obtain ⟨hm, b, o, k1, c1⟩ := hx
  refine ACalls.wk (args' := [.slice (some ⟨b, o, none⟩) xs.length 0]) ?_ (.cons k1 .nil)
  refine ACalls.of Tt.tab Tryd.func21 rfl (by kernel_rfl) Tryd.ntmps21 _ rfl rfl (fun hw => ?_)
  refine BIf.mk (fun h1 => ?_) (fun h1 => ?_)
  · have h1 : ¬ xs.length ≤ 24 := by simp at h1; omega
    exact FinX.keep hw (Le.refl _) rfl ⟨by simp [areBars, h1], rfl⟩
  have h1 : xs.length ≤ 24 := by simp at h1; omega
  refine ⟨⟨[0, 3], fun n' vs g => ∃ k : Nat, n' = xs.length - k ∧ k ≤ xs.length ∧ Le h g ∧ areN xs k = true ∧ vs = [.slice (some ⟨b, o, none⟩) xs.length 0, .int .i64 k], _, ⟨0, rfl, Nat.zero_le _, Le.refl _, rfl, rfl⟩, ?_⟩⟩
  rintro n' vs g ⟨k, rfl, hk, L, ha, rfl⟩
  refine BIf.mk (fun h2 => ?_) (fun h2 => ?_)
  · have hlt : k < xs.length := by simpa using h2
    have bad : areN xs (k + 1) = false → areBars xs = false := areN_false hlt
    have S : Sep h.length h g [] := (Sep.start h).grow L
    refine IdxX.mk (by omega) (by omega) ?_
    refine CB.load c1 S.le hlt ?_
    refine S.new fun b3 g S => ?_
    refine S.put 0 rfl fun g S => ?_
    refine LoadX.same (v := .int .i64 (bar xs k).degree) (S.at_ 0 rfl) rfl ?_
    refine CallX.same (l01In_c _ _ 0 5) ?_
    rintro r g' ⟨rfl, rfl⟩
    rw [areN_succ hlt, ha] at bad
    have S0 := S
    have next : isBar (bar xs k) = true → (k > 0 → before (bar xs k) (bar xs (k - 1)) = false) → areN xs (k + 1) = true := by
      intro z1 z2
      rw [areN_succ hlt, ha, z1]
      rcases Nat.eq_zero_or_pos k with z | z
      · simp [z]
      · simp [z2 z]
    have bar_no : isBar (bar xs k) = false → areBars xs = false := fun z => bad (by rw [z]; simp)
    have fails : ∀ (p : Prop) [Decidable p], decide p = false → ¬ p := fun p _ hp => by simpa using hp
    unfold isBar at bar_no next
    refine BIf.mk (fun h3 => ?_) (fun h3 => ?_)
    · -- degree out of range
      have h3 : decide (0 ≤ (bar xs k).degree ∧ (bar xs k).degree ≤ 5) = false := by simpa only [Bool.not_eq_true'] using h3
      refine BIf.yes rfl ?_
      refine BIf.yes rfl ?_
      exact FinX.keep hw S.le rfl ⟨by rw [bar_no (by rw [h3]; rfl)], rfl⟩
    have h3 : decide (0 ≤ (bar xs k).degree ∧ (bar xs k).degree ≤ 5) = true := by simpa only [Bool.not_eq_false'] using h3
    refine LoadX.same (v := .int .i64 (bar xs k).birth) (S.at_ 0 rfl) rfl ?_
    refine CallX.same (l01In_c _ _ 0 5) ?_
    rintro r g' ⟨rfl, rfl⟩
    refine BIf.mk (fun h4 => ?_) (fun h4 => ?_)
    · have h4 : decide (0 ≤ (bar xs k).birth ∧ (bar xs k).birth ≤ 5) = false := by simpa only [Bool.not_eq_true'] using h4
      refine BIf.yes rfl ?_
      exact FinX.keep hw S.le rfl ⟨by rw [bar_no (by rw [h4]; simp)], rfl⟩
    have h4 : decide (0 ≤ (bar xs k).birth ∧ (bar xs k).birth ≤ 5) = true := by simpa only [Bool.not_eq_false'] using h4
    refine LoadX.same (v := .int .i64 (bar xs k).death) (S.at_ 0 rfl) rfl ?_
    refine BIf.mk (fun h5 => ?_) (fun h5 => ?_)
    · have h5 : ¬ (bar xs k).death = -1 := by simpa using h5
      refine LoadX.same (v := .int .i64 (bar xs k).death) (S.at_ 0 rfl) rfl ?_
      refine LoadX.same (v := .int .i64 (bar xs k).birth) (S.at_ 0 rfl) rfl ?_
      refine CallX.same (l01In_c _ _ _ 5) ?_
      rintro r g' ⟨rfl, rfl⟩
      refine BIf.mk (fun h6 => ?_) (fun h6 => ?_)
      · have h6 : decide ((bar xs k).birth ≤ (bar xs k).death ∧ (bar xs k).death ≤ 5) = false := by simpa only [Bool.not_eq_true'] using h6
        exact FinX.keep hw S.le rfl ⟨by rw [bar_no (by rw [h6]; simp [h5])], rfl⟩
      have h6 : decide ((bar xs k).birth ≤ (bar xs k).death ∧ (bar xs k).death ≤ 5) = true := by simpa only [Bool.not_eq_false'] using h6
      have hb : (decide (0 ≤ (bar xs k).degree ∧ (bar xs k).degree ≤ 5) && decide (0 ≤ (bar xs k).birth ∧ (bar xs k).birth ≤ 5) && (decide ((bar xs k).death = -1) || decide ((bar xs k).birth ≤ (bar xs k).death ∧ (bar xs k).death ≤ 5))) = true := by rw [h3, h4, h6]; simp
      refine DrawX.of Tt.tab follows_any [] [] [0, 1, 2, 3, 4, 5, 6, 7, 8, 9, 10] rfl (by kernel_rfl) (by kernel_rfl) ?_
      refine BIf.mk (fun h7 => ?_) (fun h7 => ?_)
      · have h7 : 0 < k := by simpa using h7
        obtain ⟨j, rfl⟩ : ∃ j : Nat, k = j + 1 := ⟨k - 1, by omega⟩
        refine LoadX.same (v := vB (bar xs (j + 1))) (S.at_ 0 rfl) rfl ?_
        refine WR.as (r := (j : Int)) (by omega) ?_
        refine IdxX.mk (by omega) (by omega) ?_
        refine CB.load c1 S.le (show j < xs.length by omega) ?_
        refine QCall.of (fun g2 hl => l09Before_c g2 (bar xs (j + 1)) (bar xs j)) rfl ?_
        refine BIf.mk (fun h8 => ?_) (fun h8 => ?_)
        · exact FinX.keep hw S.le rfl ⟨by rw [bad (by have h8 : before (bar xs (j + 1)) (bar xs j) = true := h8; rw [show j + 1 - 1 = j from rfl, h8]; simp)], rfl⟩
        · refine WR.i64 ?_
          exact ⟨xs.length - (j + 1 + 1), by omega, j + 1 + 1, rfl, hlt, S.le, next hb (fun _ => h8), rfl⟩
      · have h7 : k = 0 := by simp at h7; omega
        subst h7
        refine BIf.no rfl ?_
        refine WR.i64 ?_
        exact ⟨xs.length - 1, by omega, 1, rfl, hlt, S.le, next hb (fun hh => absurd hh (by omega)), rfl⟩
    · have h5 : (bar xs k).death = -1 := by simpa using h5
      refine BIf.no rfl ?_
      have hb : (decide (0 ≤ (bar xs k).degree ∧ (bar xs k).degree ≤ 5) && decide (0 ≤ (bar xs k).birth ∧ (bar xs k).birth ≤ 5) && (decide ((bar xs k).death = -1) || decide ((bar xs k).birth ≤ (bar xs k).death ∧ (bar xs k).death ≤ 5))) = true := by rw [h3, h4, decide_eq_true h5]; simp
      refine DrawX.of Tt.tab follows_any [] [] [0, 1, 2, 3, 4, 5, 6, 7, 8, 9, 10] rfl (by kernel_rfl) (by kernel_rfl) ?_
      refine BIf.mk (fun h7 => ?_) (fun h7 => ?_)
      · have h7 : 0 < k := by simpa using h7
        obtain ⟨j, rfl⟩ : ∃ j : Nat, k = j + 1 := ⟨k - 1, by omega⟩
        refine LoadX.same (v := vB (bar xs (j + 1))) (S.at_ 0 rfl) rfl ?_
        refine WR.as (r := (j : Int)) (by omega) ?_
        refine IdxX.mk (by omega) (by omega) ?_
        refine CB.load c1 S.le (show j < xs.length by omega) ?_
        refine QCall.of (fun g2 hl => l09Before_c g2 (bar xs (j + 1)) (bar xs j)) rfl ?_
        refine BIf.mk (fun h8 => ?_) (fun h8 => ?_)
        · exact FinX.keep hw S.le rfl ⟨by rw [bad (by have h8 : before (bar xs (j + 1)) (bar xs j) = true := h8; rw [show j + 1 - 1 = j from rfl, h8]; simp)], rfl⟩
        · refine WR.i64 ?_
          exact ⟨xs.length - (j + 1 + 1), by omega, j + 1 + 1, rfl, hlt, S.le, next hb (fun _ => h8), rfl⟩
      · have h7 : k = 0 := by simp at h7; omega
        subst h7
        refine BIf.no rfl ?_
        refine WR.i64 ?_
        exact ⟨xs.length - 1, by omega, 1, rfl, hlt, S.le, next hb (fun hh => absurd hh (by omega)), rfl⟩
  · have hk2 : k = xs.length := by simp at h2; omega
    subst hk2
    rw [areN_all h1] at ha
    exact FinX.keep hw L rfl ⟨by rw [ha], rfl⟩

end Go.Gl

/- Bars: BarPage. No condition. -/
import Derived.Test.YthpnepfjgljkkaaFnBar3
set_option linter.unusedVariables false
set_option linter.unusedSimpArgs false
namespace Go.Gl
open Go.Proofs Go.Proofs.Ythpnepfjgljkkaa Go.Pl


theorem page1_c (h : AH) (x : SBar) (n q p : Int) (b1 b2 b3 : Nat) (hn : 0 ≤ n ∧ n ≤ 5) (hq : 0 ≤ q ∧ q ≤ 5) (hp : 0 ≤ p ∧ p ≤ 8) (hb1 : look h b1 = some ⟨[.int .i64 n], some (tI, 1)⟩) (hb2 : look h b2 = some ⟨[.int .i64 q], some (tI, 1)⟩) (hb3 : look h b3 = some ⟨[.int .i64 p], some (tI, 1)⟩) :
    ACalls Try.prog 71 [vB x, .pointer (some ⟨b1, 0, none⟩), .pointer (some ⟨b2, 0, none⟩), .pointer (some ⟨b3, 0, none⟩)] h (fun r h' => r = .bool (onPage p n q x) ∧ h' = h) := by
  refine ACalls.of Tt.tab Try.func71 rfl (by kernel_rfl) Try.ntmps71 _ rfl rfl (fun hw => ?_)
  have S := Sep.start h
  refine S.new fun b g S => ?_
  have l1 := S.le.at_ _ _ hb1
  have l2 := S.le.at_ _ _ hb2
  have l3 := S.le.at_ _ _ hb3
  refine LoadX.same (v := .int .i64 x.death) (S.at_ 0 rfl) rfl ?_
  refine LoadX.same (v := .int .i64 x.degree) (S.at_ 0 rfl) rfl ?_
  refine LoadX.same l1 rfl ?_
  have fin : ∀ y : Bool, y = onPage p n q x → FinX h (fun r h' => r = .bool (onPage p n q x) ∧ h' = h) (.bool y) g := fun y hy => FinX.keep hw S.le rfl ⟨by rw [hy], rfl⟩
  have cD : x.death < 0 ∨ ¬ x.death < 0 := Classical.em _
  refine BIf.mk (fun e1 => ?_) (fun e1 => ?_)
  · have e1 : x.degree = n := by simpa using e1
    have e1b : ¬ x.degree = n - 1 := by omega
    refine LoadX.same (v := .int .i64 x.birth) (S.at_ 0 rfl) rfl ?_
    refine LoadX.same l2 rfl ?_
    refine BIf.mk (fun e2 => ?_) (fun e2 => ?_)
    · have e2 : x.birth = q := by simpa using e2
      refine BIf.mk (fun e3 => ?_) (fun e3 => ?_)
      · have e3 : x.death < 0 := by simpa using e3
        refine BIf.yes rfl ?_
        exact fin _ (by simp [onPage, e1, e2, e3])
      · have e3 : ¬ x.death < 0 := by simpa using e3
        refine LoadX.same (v := .int .i64 x.death) (S.at_ 0 rfl) rfl ?_
        refine LoadX.same l2 rfl ?_
        refine LoadX.same l3 rfl ?_
        refine WR.i64 ?_
        refine BIf.mk (fun e4 => ?_) (fun e4 => ?_)
        · have e4 : x.death ≥ q + p := by simpa using e4
          exact fin _ (by simp [onPage, e1, e2, e3, e4])
        · have e4 : ¬ x.death ≥ q + p := by simpa using e4
          refine BIf.mk (fun e5 => ?_) (fun e5 => ?_)
          · refine LoadX.same (v := .int .i64 x.degree) (S.at_ 0 rfl) rfl ?_
            refine LoadX.same l1 rfl ?_
            refine WR.i64 ?_
            refine BIf.no (by simp [e1b]) ?_
            refine BIf.no rfl ?_
            exact fin _ (by simp [onPage, e1, e2, e3, e4]; omega)
          · simp [e3] at e5
    · have e2 : ¬ x.birth = q := by simpa using e2
      refine BIf.no rfl ?_
      refine BIf.mk (fun e3 => ?_) (fun e3 => ?_)
      · have e3 : ¬ x.death < 0 := by simpa using e3
        refine LoadX.same (v := .int .i64 x.degree) (S.at_ 0 rfl) rfl ?_
        refine LoadX.same l1 rfl ?_
        refine WR.i64 ?_
        refine BIf.no (by simp [e1b]) ?_
        refine BIf.no rfl ?_
        exact fin _ (by simp [onPage, e1, e2, e3]; omega)
      · have e3 : x.death < 0 := by simpa using e3
        refine BIf.no rfl ?_
        refine BIf.no rfl ?_
        exact fin _ (by simp [onPage, e1, e2, e3])
  · have e1 : ¬ x.degree = n := by simpa using e1
    refine BIf.no rfl ?_
    refine BIf.no rfl ?_
    refine BIf.mk (fun e3 => ?_) (fun e3 => ?_)
    · have e3 : ¬ x.death < 0 := by simpa using e3
      refine LoadX.same (v := .int .i64 x.degree) (S.at_ 0 rfl) rfl ?_
      refine LoadX.same l1 rfl ?_
      refine WR.i64 ?_
      refine BIf.mk (fun e4 => ?_) (fun e4 => ?_)
      · have e4 : x.degree = n - 1 := by simpa using e4
        refine LoadX.same (v := .int .i64 x.death) (S.at_ 0 rfl) rfl ?_
        refine LoadX.same l2 rfl ?_
        refine BIf.mk (fun e5 => ?_) (fun e5 => ?_)
        · have e5 : x.death = q := by simpa using e5
          refine LoadX.same (v := .int .i64 x.birth) (S.at_ 0 rfl) rfl ?_
          refine LoadX.same l2 rfl ?_
          refine LoadX.same l3 rfl ?_
          refine WR.i64 ?_
          exact fin _ (by simp only [onPage, decide_eq_false e1, decide_eq_false e3, decide_eq_true e4, decide_eq_true e5]; simp)
        · have e5 : ¬ x.death = q := by simpa using e5
          exact fin _ (by simp only [onPage, decide_eq_false e1, decide_eq_false e3, decide_eq_true e4, decide_eq_false e5]; simp)
      · have e4 : ¬ x.degree = n - 1 := by simpa using e4
        refine BIf.no rfl ?_
        exact fin _ (by simp only [onPage, decide_eq_false e1, decide_eq_false e3, decide_eq_false e4]; simp)
    · have e3 : x.death < 0 := by simpa using e3
      refine BIf.no rfl ?_
      refine BIf.no rfl ?_
      exact fin _ (by simp only [onPage, decide_eq_false e1, decide_eq_true e3]; simp)

theorem barPageI_c (h : AH) (v : Value) (xs : List SBar) (p n q : Int) (hx : RB h v xs) : ACalls Try.prog 18 [v, .int .i64 p, .int .i64 n, .int .i64 q] h (fun r h' => r = .tuple #[.int .i64 (barPage xs p n q).1, .int .i64 (barPage xs p n q).2] ∧ Le h h') := by
  obtain ⟨b, o, k1, hx⟩ := hx.can
  refine ACalls.wk (args' := [.slice (some ⟨b, o, none⟩) xs.length 0, .int .i64 p, .int .i64 n, .int .i64 q]) ?_ (.cons k1 (.cons (Wk.refl _) (.cons (Wk.refl _) (.cons (Wk.refl _) .nil))))
  refine ACalls.of Tt.tab Try.func18 rfl (by kernel_rfl) Try.ntmps18 _ rfl rfl (fun hw => ?_)
  have S := Sep.start h
  refine S.new fun b1 g S => ?_
  refine S.new fun b2 g S => ?_
  refine S.new fun b3 g S => ?_
  refine CallX.same (areBarsI_c g _ xs (RB.le _ _ _ _ S.le hx)) ?_
  rintro r g ⟨rfl, rfl⟩
  unfold barPage
  refine BIf.mk (fun h1 => ?_) (fun h1 => ?_)
  · have h1 : areBars xs = false := by simpa using h1
    refine BIf.yes rfl (BIf.yes rfl (BIf.yes rfl ?_))
    exact FinX.here S.le.len ⟨by rw [h1]; rfl, S.le⟩
  have h1 : areBars xs = true := by simpa using h1
  refine LoadX.same (v := .int .i64 p) (S.at_ 2 rfl) rfl ?_
  refine CallX.same (between_c _ p 0 8) ?_
  rintro r g ⟨rfl, rfl⟩
  refine BIf.mk (fun h2 => ?_) (fun h2 => ?_)
  · have h2 : decide (0 ≤ p ∧ p ≤ 8) = false := by simpa only [Bool.not_eq_true'] using h2
    refine BIf.yes rfl (BIf.yes rfl ?_)
    exact FinX.here S.le.len ⟨by rw [h1, h2]; rfl, S.le⟩
  have h2 : decide (0 ≤ p ∧ p ≤ 8) = true := by simpa only [Bool.not_eq_false'] using h2
  refine LoadX.same (v := .int .i64 n) (S.at_ 1 rfl) rfl ?_
  refine CallX.same (between_c _ n 0 5) ?_
  rintro r g ⟨rfl, rfl⟩
  refine BIf.mk (fun h3 => ?_) (fun h3 => ?_)
  · have h3 : decide (0 ≤ n ∧ n ≤ 5) = false := by simpa only [Bool.not_eq_true'] using h3
    refine BIf.yes rfl ?_
    exact FinX.here S.le.len ⟨by rw [h1, h2, h3]; rfl, S.le⟩
  have h3 : decide (0 ≤ n ∧ n ≤ 5) = true := by simpa only [Bool.not_eq_false'] using h3
  refine LoadX.same (v := .int .i64 q) (S.at_ 0 rfl) rfl ?_
  refine CallX.same (between_c _ q 0 5) ?_
  rintro r g ⟨rfl, rfl⟩
  refine BIf.mk (fun h4 => ?_) (fun h4 => ?_)
  · have h4 : decide (0 ≤ q ∧ q ≤ 5) = false := by simpa only [Bool.not_eq_true'] using h4
    exact FinX.here S.le.len ⟨by rw [h1, h2, h3, h4]; rfl, S.le⟩
  have h4 : decide (0 ≤ q ∧ q ≤ 5) = true := by simpa only [Bool.not_eq_false'] using h4
  refine CallX.same (barCount_c _ _ xs _ _ (onPage p n q) (RB.le _ _ _ _ S.le hx) (by have := areBars_len h1; omega) (fun hh x L => page1_c hh x n q p b2 b3 b1 (of_decide_eq_true h3) (of_decide_eq_true h4) (of_decide_eq_true h2) (L.at_ _ _ (S.at_ 1 rfl)) (L.at_ _ _ (S.at_ 0 rfl)) (L.at_ _ _ (S.at_ 2 rfl)))) ?_
  rintro r g ⟨rfl, gg⟩
  have S := S.grow gg
  exact FinX.here S.le.len ⟨by rw [h1, h2, h3, h4]; rfl, S.le⟩

theorem barPageS_c (h : AH) (v : Value) (xs : List SBar) (p n q : Int) (hx : RB h v xs) : ACalls Try.prog 16 [v, .int .i64 p, .int .i64 n, .int .i64 q] h (fun r h' => r = .tuple #[.int .i64 (barPage xs p n q).1, .int .i64 (barPage xs p n q).2] ∧ Le h h') := by
  obtain ⟨b, o, k1, hx⟩ := hx.can
  refine ACalls.wk (args' := [.slice (some ⟨b, o, none⟩) xs.length 0, .int .i64 p, .int .i64 n, .int .i64 q]) ?_ (.cons k1 (.cons (Wk.refl _) (.cons (Wk.refl _) (.cons (Wk.refl _) .nil))))
  refine ACalls.of Tt.tab Try.func16 rfl (by kernel_rfl) Try.ntmps16 _ rfl rfl (fun hw => ?_)
  have S := Sep.start h
  refine CallX.same (l09Are_c h _ xs hx) ?_
  rintro r g ⟨rfl, rfl⟩
  unfold barPage
  refine BIf.mk (fun h1 => ?_) (fun h1 => ?_)
  · have h1 : areBars xs = false := by simpa using h1
    refine BIf.yes rfl (BIf.yes rfl (BIf.yes rfl ?_))
    exact FinX.here S.le.len ⟨by rw [h1]; rfl, S.le⟩
  have h1 : areBars xs = true := by simpa using h1
  refine CallX.same (l01In_c _ p 0 8) ?_
  rintro r g ⟨rfl, rfl⟩
  refine BIf.mk (fun h2 => ?_) (fun h2 => ?_)
  · have h2 : decide (0 ≤ p ∧ p ≤ 8) = false := by simpa only [Bool.not_eq_true'] using h2
    refine BIf.yes rfl (BIf.yes rfl ?_)
    exact FinX.here S.le.len ⟨by rw [h1, h2]; rfl, S.le⟩
  have h2 : decide (0 ≤ p ∧ p ≤ 8) = true := by simpa only [Bool.not_eq_false'] using h2
  refine CallX.same (l01In_c _ n 0 5) ?_
  rintro r g ⟨rfl, rfl⟩
  refine BIf.mk (fun h3 => ?_) (fun h3 => ?_)
  · have h3 : decide (0 ≤ n ∧ n ≤ 5) = false := by simpa only [Bool.not_eq_true'] using h3
    refine BIf.yes rfl ?_
    exact FinX.here S.le.len ⟨by rw [h1, h2, h3]; rfl, S.le⟩
  have h3 : decide (0 ≤ n ∧ n ≤ 5) = true := by simpa only [Bool.not_eq_false'] using h3
  refine CallX.same (l01In_c _ q 0 5) ?_
  rintro r g ⟨rfl, rfl⟩
  refine BIf.mk (fun h4 => ?_) (fun h4 => ?_)
  · have h4 : decide (0 ≤ q ∧ q ≤ 5) = false := by simpa only [Bool.not_eq_true'] using h4
    exact FinX.here S.le.len ⟨by rw [h1, h2, h3, h4]; rfl, S.le⟩
  have h4 : decide (0 ≤ q ∧ q ≤ 5) = true := by simpa only [Bool.not_eq_false'] using h4
  have hlen := areBars_len h1
  have c1 : CN 3 EB g b o xs := RN.cells hx rfl
  have wn := of_decide_eq_true h3
  have wq := of_decide_eq_true h4
  have wp := of_decide_eq_true h2
  refine ⟨⟨[0, 1, 2, 3, 10, 11], fun n' vs g' => ∃ k : Nat, n' = xs.length - k ∧ k ≤ xs.length ∧ Sep g.length g g' [] ∧ vs = [.slice (some ⟨b, o, none⟩) xs.length 0, .int .i64 p, .int .i64 n, .int .i64 q, .int .i64 (countN (onPage p n q) xs k), .int .i64 k], _, ⟨0, rfl, Nat.zero_le _, S, rfl⟩, ?_⟩⟩
  rintro n' vs g' ⟨k, rfl, hk, S, rfl⟩
  have e0 := countN_rng (onPage p n q) xs k
  refine BIf.mk (fun h5 => ?_) (fun h5 => ?_)
  · have hlt : k < xs.length := by simpa using h5
    have no : onPage p n q (bar xs k) = false → countN (onPage p n q) xs (k + 1) = countN (onPage p n q) xs k := fun hh => by simp [countN, hh]
    have yes : onPage p n q (bar xs k) = true → countN (onPage p n q) xs (k + 1) = countN (onPage p n q) xs k + 1 := fun hh => by simp [countN, hh]
    refine IdxX.mk (by omega) (by omega) ?_
    refine CB.load c1 S.le hlt ?_
    refine S.new fun b3 g' S => ?_
    refine S.put 0 rfl fun g' S => ?_
    refine LoadX.same (v := .int .i64 (bar xs k).degree) (S.at_ 0 rfl) rfl ?_
    have done : ∀ c : Int, c = countN (onPage p n q) xs (k + 1) → ∀ m' : Int, m' = ((k + 1 : Nat) : Int) → ∃ k' : Nat, xs.length - (k + 1) = xs.length - k' ∧ k' ≤ xs.length ∧ Sep g.length g g' [] ∧ [Value.slice (some ⟨b, o, none⟩) xs.length 0, .int .i64 p, .int .i64 n, .int .i64 q, .int .i64 c, .int .i64 m'] = [.slice (some ⟨b, o, none⟩) xs.length 0, .int .i64 p, .int .i64 n, .int .i64 q, .int .i64 (countN (onPage p n q) xs k'), .int .i64 k'] := fun c hc m' hm => ⟨k + 1, rfl, hlt, S.tail, by rw [hc, hm]⟩
    refine BIf.mk (fun e1 => ?_) (fun e1 => ?_)
    · have e1 : (bar xs k).degree = n := by simpa using e1
      have e1b : ¬ (bar xs k).degree = n - 1 := by omega
      refine LoadX.same (v := .int .i64 (bar xs k).birth) (S.at_ 0 rfl) rfl ?_
      refine BIf.mk (fun e2 => ?_) (fun e2 => ?_)
      · have e2 : (bar xs k).birth = q := by simpa using e2
        refine LoadX.same (v := .int .i64 (bar xs k).death) (S.at_ 0 rfl) rfl ?_
        refine BIf.mk (fun e3 => ?_) (fun e3 => ?_)
        · have e3 : (bar xs k).death < 0 := by simpa using e3
          refine BIf.yes rfl ?_
          refine WR.i64 ?_
          refine WR.i64 ?_
          exact ⟨xs.length - (k + 1), by omega, done _ (yes (by simp [onPage, e1, e2, e3])).symm _ rfl⟩
        · have e3 : ¬ (bar xs k).death < 0 := by simpa using e3
          refine LoadX.same (v := .int .i64 (bar xs k).death) (S.at_ 0 rfl) rfl ?_
          refine WR.i64 ?_
          refine BIf.mk (fun e4 => ?_) (fun e4 => ?_)
          · have e4 : (bar xs k).death ≥ q + p := by simpa using e4
            refine WR.i64 ?_
            refine WR.i64 ?_
            exact ⟨xs.length - (k + 1), by omega, done _ (yes (by simp [onPage, e1, e2, e3, e4])).symm _ rfl⟩
          · have e4 : ¬ (bar xs k).death ≥ q + p := by simpa using e4
            refine LoadX.same (v := .int .i64 (bar xs k).degree) (S.at_ 0 rfl) rfl ?_
            refine WR.i64 ?_
            refine BIf.no (by simp [e1b]) ?_
            refine BIf.no rfl ?_
            refine BIf.no rfl ?_
            refine WR.i64 ?_
            exact ⟨xs.length - (k + 1), by omega, done _ (no (by simp only [onPage, decide_eq_true e1, decide_eq_true e2, decide_eq_false e3, decide_eq_false e4, decide_eq_false e1b]; simp)).symm _ rfl⟩
      · have e2 : ¬ (bar xs k).birth = q := by simpa using e2
        refine BIf.no rfl ?_
        refine LoadX.same (v := .int .i64 (bar xs k).degree) (S.at_ 0 rfl) rfl ?_
        refine WR.i64 ?_
        refine BIf.no (by simp [e1b]) ?_
        refine BIf.no rfl ?_
        refine BIf.no rfl ?_
        refine WR.i64 ?_
        exact ⟨xs.length - (k + 1), by omega, done _ (no (by simp only [onPage, decide_eq_true e1, decide_eq_false e2, decide_eq_false e1b]; simp)).symm _ rfl⟩
    · have e1 : ¬ (bar xs k).degree = n := by simpa using e1
      refine BIf.no rfl ?_
      refine BIf.no rfl ?_
      refine LoadX.same (v := .int .i64 (bar xs k).degree) (S.at_ 0 rfl) rfl ?_
      refine WR.i64 ?_
      refine BIf.mk (fun e4 => ?_) (fun e4 => ?_)
      · have e4 : (bar xs k).degree = n - 1 := by simpa using e4
        refine LoadX.same (v := .int .i64 (bar xs k).death) (S.at_ 0 rfl) rfl ?_
        refine BIf.mk (fun e5 => ?_) (fun e5 => ?_)
        · have e5 : (bar xs k).death = q := by simpa using e5
          have e3 : ¬ (bar xs k).death < 0 := by omega
          refine LoadX.same (v := .int .i64 (bar xs k).birth) (S.at_ 0 rfl) rfl ?_
          refine WR.i64 ?_
          refine BIf.mk (fun e6 => ?_) (fun e6 => ?_)
          · refine WR.i64 ?_
            refine WR.i64 ?_
            exact ⟨xs.length - (k + 1), by omega, done _ (yes (by simp only [onPage, decide_eq_false e1, decide_eq_false e3, decide_eq_true e4, decide_eq_true e5, e6]; rfl)).symm _ rfl⟩
          · refine WR.i64 ?_
            exact ⟨xs.length - (k + 1), by omega, done _ (no (by simp only [onPage, decide_eq_false e1, decide_eq_false e3, decide_eq_true e4, decide_eq_true e5, e6]; rfl)).symm _ rfl⟩
        · have e5 : ¬ (bar xs k).death = q := by simpa using e5
          refine BIf.no rfl ?_
          refine WR.i64 ?_
          exact ⟨xs.length - (k + 1), by omega, done _ (no (by simp only [onPage, decide_eq_false e1, decide_eq_false e5]; simp)).symm _ rfl⟩
      · have e4 : ¬ (bar xs k).degree = n - 1 := by simpa using e4
        refine BIf.no rfl ?_
        refine BIf.no rfl ?_
        refine WR.i64 ?_
        exact ⟨xs.length - (k + 1), by omega, done _ (no (by simp only [onPage, decide_eq_false e1, decide_eq_false e4]; simp)).symm _ rfl⟩
  · have hk2 : k = xs.length := by simp at h5; omega
    subst hk2
    exact FinX.here S.le.len ⟨by rw [h1, h2, h3, h4]; rfl, S.le⟩

end Go.Gl

/- Functions of chapter 1: the small ones. No condition. -/
import Derived.Test.YtoeapenknlfffaaGlL
import Derived.Test.YtoeapenknlfffaaFnStruct
set_option linter.unusedVariables false
set_option linter.unusedSimpArgs false
namespace Go.Gl
open Go.Proofs Go.Proofs.Ytoeapenknlfffaa


theorem between_c (h : AH) (n lo hi : Int) : ACalls Try.prog 63 [.int .i64 n, .int .i64 lo, .int .i64 hi] h (fun r h' => r = .bool (decide (lo ≤ n ∧ n ≤ hi)) ∧ h' = h) := by
  refine ACalls.of Tt.tab Try.func63 rfl (by kernel_rfl) Try.ntmps63 _ rfl rfl (fun hw => ?_)
  refine BIf.mk (fun h1 => ?_) (fun h1 => ?_)
  · refine FinX.keep hw (Le.refl _) rfl ⟨?_, rfl⟩
    simp at h1
    simp [h1]
  · refine FinX.keep hw (Le.refl _) rfl ⟨?_, rfl⟩
    simp at h1
    rw [decide_eq_false (by omega)]

theorem l01In_c (h : AH) (n lo hi : Int) : ACalls Try.prog 71 [.int .i64 n, .int .i64 lo, .int .i64 hi] h (fun r h' => r = .bool (decide (lo ≤ n ∧ n ≤ hi)) ∧ h' = h) := by
  refine ACalls.of Tt.tab Try.func71 rfl (by kernel_rfl) Try.ntmps71 _ rfl rfl (fun hw => ?_)
  refine BIf.mk (fun h1 => ?_) (fun h1 => ?_)
  · refine FinX.keep hw (Le.refl _) rfl ⟨?_, rfl⟩
    simp at h1
    simp [h1]
  · refine FinX.keep hw (Le.refl _) rfl ⟨?_, rfl⟩
    simp at h1
    rw [decide_eq_false (by omega)]
def prime (p : Int) : Bool := decide (p = 2 ∨ p = 3 ∨ p = 5 ∨ p = 7)

theorem isPrime_c (h : AH) (p : Int) : ACalls Try.prog 115 [.int .i64 p] h (fun r h' => r = .bool (prime p) ∧ h' = h) := by
  unfold prime
  refine ACalls.of Tt.tab Try.func115 rfl (by kernel_rfl) Try.ntmps115 _ rfl rfl (fun hw => ?_)
  refine BIf.mk (fun h1 => ?_) (fun h1 => ?_)
  · refine BIf.yes rfl (BIf.yes rfl (FinX.keep hw (Le.refl _) rfl ⟨?_, rfl⟩))
    simp at h1
    simp [h1]
  · refine BIf.mk (fun h2 => ?_) (fun h2 => ?_)
    · refine BIf.yes rfl (FinX.keep hw (Le.refl _) rfl ⟨?_, rfl⟩)
      simp at h2
      simp [h2]
    · refine BIf.mk (fun h3 => ?_) (fun h3 => ?_)
      · refine FinX.keep hw (Le.refl _) rfl ⟨?_, rfl⟩
        simp at h3
        simp [h3]
      · refine FinX.keep hw (Le.refl _) rfl ⟨?_, rfl⟩
        simp at h1 h2 h3
        simp [h1, h2, h3]
        rfl

theorem l01Prime_c (h : AH) (p : Int) : ACalls Try.prog 109 [.int .i64 p] h (fun r h' => r = .bool (prime p) ∧ h' = h) := by
  unfold prime
  refine ACalls.of Tt.tab Try.func109 rfl (by kernel_rfl) Try.ntmps109 _ rfl rfl (fun hw => ?_)
  refine BIf.mk (fun h1 => ?_) (fun h1 => ?_)
  · refine BIf.yes rfl (BIf.yes rfl (FinX.keep hw (Le.refl _) rfl ⟨?_, rfl⟩))
    simp at h1
    simp [h1]
  · refine BIf.mk (fun h2 => ?_) (fun h2 => ?_)
    · refine BIf.yes rfl (FinX.keep hw (Le.refl _) rfl ⟨?_, rfl⟩)
      simp at h2
      simp [h2]
    · refine BIf.mk (fun h3 => ?_) (fun h3 => ?_)
      · refine FinX.keep hw (Le.refl _) rfl ⟨?_, rfl⟩
        simp at h3
        simp [h3]
      · refine FinX.keep hw (Le.refl _) rfl ⟨?_, rfl⟩
        simp at h1 h2 h3
        simp [h1, h2, h3]
        rfl


theorem sizeI_c (h : AH) (b o n c : Nat) : ACalls Try.prog 51 [.slice (some ⟨b, o, none⟩) n c] h (fun r h' => r = .int .i64 n ∧ h' = h) := by
  refine ACalls.of Tt.tab Try.func51 rfl (by kernel_rfl) Try.ntmps51 _ rfl rfl (fun hw => ?_)
  exact FinX.keep hw (Le.refl _) rfl ⟨rfl, rfl⟩

theorem sizeII_c (h : AH) (b o n c : Nat) : ACalls Try.prog 52 [.slice (some ⟨b, o, none⟩) n c] h (fun r h' => r = .int .i64 n ∧ h' = h) := by
  refine ACalls.of Tt.tab Try.func52 rfl (by kernel_rfl) Try.ntmps52 _ rfl rfl (fun hw => ?_)
  exact FinX.keep hw (Le.refl _) rfl ⟨rfl, rfl⟩

theorem cloneI_c (h : AH) (v : Value) (xs : List Int) (hx : RI h v xs) (hl : xs.length ≤ 1000000000) : ACalls Try.prog 57 [v] h (fun r h' => ∃ l, OI h.length h' r xs l ∧ Le h h') := by
  obtain ⟨hm, b, o, hw1, hc⟩ := hx
  refine ACalls.wk (args' := [.slice (some ⟨b, o, none⟩) xs.length 0]) ?_ (.cons hw1 .nil)
  refine ACalls.of Tt.tab Try.func57 rfl (by kernel_rfl) Try.ntmps57 _ rfl rfl (fun hw => ?_)
  refine ⟨fun h0 _ => ?_, ?_⟩
  · have : xs = [] := List.length_eq_zero_iff.1 h0
    subst this
    refine BIf.yes rfl ?_
    exact FinX.here (Nat.le_refl _) ⟨[], ⟨by simp, .inl ⟨rfl, rfl, Wk.nil _⟩⟩, Le.refl _⟩
  · refine BIf.no rfl ?_
    refine NewX.intro fun b1 h1 g1 (l1 : look h1 b1 = some ⟨[], some (tI, 1)⟩) n1 => ?_
    refine AppG.rowI (n := 0) l1 rfl (hc.le EI.le g1) (by omega) 0 fun b2 h2 n2 l2 gr => ?_
    have g2 := gr.le (NS.own1 (n := 0) l1 rfl) g1 n1
    have := g1.len
    have hz : OI h.length h2 (.slice (some ⟨b2, 0, none⟩) xs.length 1) xs [b2] := Leaf.of (by simpa using l2) (by omega) (by omega) 1
    exact FinX.here g2.len ⟨[b2], by rw [Nat.zero_add]; exact hz, g2⟩

end Go.Gl

/- Chapter 10: an element and a multiple of another one together. No condition. -/
import Derived.Test.YtblbcjemoadfpaaFnP3
import Derived.Test.YtblbcjemoadfpaaFnA1
set_option linter.unusedVariables false
set_option linter.unusedSimpArgs false
namespace Go.Gl
open Go.Proofs Go.Proofs.Ytblbcjemoadfpaa Go.Pl

theorem WR.u8 {x : Int} {f : Int → Prop} (h : f x) (h1 : 0 ≤ x := by omega) (h2 : x ≤ 255 := by omega) : WR .u8 x f :=
  ⟨by rw [show IntKind.u8.wrap x = x by simp [IntKind.wrap, IntKind.bits, IntKind.signed]; omega]; exact h⟩
theorem mul_bd {a b : Int} (ha : -1000 ≤ a ∧ a ≤ 1000) (hb : 0 ≤ b ∧ b ≤ 255) : -255000 ≤ a * b ∧ a * b ≤ 255000 := by
  have h1 : a * b ≤ 1000 * b := Int.mul_le_mul_of_nonneg_right ha.2 hb.1
  have h2 : -1000 * b ≤ a * b := Int.mul_le_mul_of_nonneg_right ha.1 hb.1
  omega
/-- bytes -/
def Byt (u : List Int) : Prop := u.length = 8 ∧ ∀ i, 0 ≤ ith u i ∧ ith u i ≤ 255
def addE (p : Int) (u v : List Int) (k : Int) : List Int := tab 8 fun i => (ith u i + k * ith v i) % p
theorem addE_byt {p : Int} (hp : 2 ≤ p ∧ p ≤ 7) (u v : List Int) (k : Int) : Byt (addE p u v k) := by
  refine ⟨tab_length _ _, fun i => ?_⟩
  by_cases hi : i < 8
  · unfold addE
    rw [tab_ith hi]
    have := Int.emod_nonneg (ith u i + k * ith v i) (show p ≠ 0 by omega)
    have := Int.emod_lt_of_pos (ith u i + k * ith v i) (show 0 < p by omega)
    omega
  · rw [ith_out (by unfold addE; rw [tab_length]; omega)]; omega
theorem unitE_byt (i : Nat) : Byt (unitE i) := by
  refine ⟨unitE_length i, fun j => ?_⟩
  unfold ith unitE z8
  rw [List.getD_eq_getElem?_getD, List.getElem?_set]
  split
  · split <;> simp
  · rw [List.getElem?_replicate]; split <;> simp
theorem z8_byt : Byt z8 := by
  refine ⟨rfl, fun j => ?_⟩
  unfold ith z8
  rw [List.getD_eq_getElem?_getD, List.getElem?_replicate]; split <;> simp

theorem l10Add_c (h : AH) (p k : Int) (u v : List Int) (hp : 2 ≤ p ∧ p ≤ 7) (hk : -1000 ≤ k ∧ k ≤ 1000) (hu : Byt u) (hv : Byt v) : ACalls Try.prog 81 [.int .i64 p, vA .u8 u, vA .u8 v, .int .i64 k] h (fun r h' => r = vA .u8 (addE p u v k) ∧ h' = h) := by
  refine ACalls.of Tt.tab Try.func81 rfl (by kernel_rfl) Try.ntmps81 _ rfl rfl (fun hw => ?_)
  have S := Sep.start h
  refine S.boxA hu.1 fun b1 g S => ?_
  refine S.boxA hv.1 fun b2 g S => ?_
  refine S.new fun b3 g S => ?_
  refine ⟨⟨[0, 3, 5, 6, 8, 9], fun n' vs g => ∃ i : Nat, n' = 8 - i ∧ i ≤ 8 ∧ Sep h.length h g [.bx b3 24 8 (z8.map (.int .u8)), .bx b2 24 8 (v.map (.int .u8)), .bx b1 24 8 ((tab 8 fun m => if m < i then (ith u m + k * ith v m) % p else ith u m).map (.int .u8))] ∧
    vs = [.int .i64 p, .int .i64 k, .pointer (some ⟨b1, 0, none⟩), .pointer (some ⟨b2, 0, none⟩), .pointer (some ⟨b3, 0, none⟩), .int .i64 i], _, ⟨0, rfl, Nat.zero_le _, S.recast 2 rfl (by rw [← tab_none, ← show u = tab 8 (ith u) by have := tab_eq (xs := u); rwa [hu.1] at this]), rfl⟩, ?_⟩⟩
  clear S
  rintro n' vs g ⟨i, rfl, hi, S, rfl⟩
  refine BIf.mk (fun h2 => ?_) (fun h2 => ?_)
  · have hlt : i < 8 := by simp at h2; omega
    have r1 := hu.2 i
    have r2 := hv.2 i
    have r3 := mul_bd hk r2
    have r4 := Int.emod_nonneg (ith u i + k * ith v i) (show p ≠ 0 by omega)
    have r5 := Int.emod_lt_of_pos (ith u i + k * ith v i) (show 0 < p by omega)
    have e1 : ith (tab 8 fun m => if m < i then (ith u m + k * ith v m) % p else ith u m) i = ith u i := by rw [tab_ith hlt, if_neg (by omega)]
    refine DrawX.of Tt.tab follows_any [] [16] [0, 1, 2, 3, 4, 5, 6, 7, 8, 9, 10, 11, 12, 13, 14, 15, 16] rfl (by kernel_rfl) (by kernel_rfl) ?_
    refine IdxX.mk (by omega) (by omega) ?_
    refine LoadX.same (v := .int .u8 (ith u i)) (S.at_ 2 rfl) (by rw [← e1]; exact ldvK0 (j := i) (by rw [tab_length]; exact hlt)) ?_
    refine WR.i64 ?_
    refine IdxX.mk (by omega) (by omega) ?_
    refine LoadX.same (v := .int .u8 (ith v i)) (S.at_ 1 rfl) (ldvK0 (j := i) (by rw [hv.1]; exact hlt)) ?_
    refine WR.i64 ?_
    refine WR.i64 ?_
    refine WR.i64 ?_
    refine QCall.of (fun g2 hl => l01Mod_c g2 p _ hp (by omega)) rfl ?_
    refine WR.u8 ?_
    refine IdxX.mk (by omega) (by omega) ?_
    refine S.storeK 2 (o := i) rfl (by rw [tab_length]; exact hlt) fun g S => ?_
    refine WR.i64 ?_
    rw [tab_set, tab_step (F := ith u) (G := fun m => (ith u m + k * ith v m) % p) rfl] at S
    exact ⟨8 - (i + 1), by omega, i + 1, rfl, hlt, S, rfl⟩
  have hi2 : i = 8 := by simp at h2; omega
  subst hi2
  rw [tab_all (Nat.le_refl _)] at S
  refine LoadX.same (S.at_ 2 rfl) (ldAll (tab_length _ _)) ?_
  refine S.putA 0 rfl (tab_length _ _) rfl fun g S => ?_
  refine LoadX.same (S.at_ 0 rfl) (ldAll (tab_length _ _)) ?_
  exact FinX.low hw S.le (low_vA _ _) ⟨rfl, rfl⟩

end Go.Gl

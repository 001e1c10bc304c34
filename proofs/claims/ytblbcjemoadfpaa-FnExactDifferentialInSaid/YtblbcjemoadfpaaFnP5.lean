/- Chapter 10: plus, in the program. No condition. -/
import Derived.Test.YtblbcjemoadfpaaFnP4
set_option linter.unusedVariables false
set_option linter.unusedSimpArgs false
namespace Go.Gl
open Go.Proofs Go.Proofs.Ytblbcjemoadfpaa Go.Pl

theorem addE_mod (p : Int) (u v : List Int) (k : Int) : addE p u v (k % p) = addE p u v k := by
  refine tab_congr fun i _ => ?_
  have : (k % p * ith v i) % p = (k * ith v i) % p := by rw [Int.mul_emod, Int.emod_emod, ← Int.mul_emod]
  rw [Int.add_emod, this, ← Int.add_emod]

theorem plus_c (h : AH) (I B : List Int) (k : Int) (u v : List Int) (gx : GL I B) (hp : 2 ≤ ith I 0 ∧ ith I 0 ≤ 7) (hk : -1000 ≤ k ∧ k ≤ 1000) (hu : Byt u) (hv : Byt v) : ACalls Try.prog 43 [vG I B, vA .u8 u, vA .u8 v, .int .i64 k] h (fun r h' => r = vA .u8 (addE (ith I 0) u v k) ∧ h' = h) := by
  refine ACalls.of Tt.tab Try.func43 rfl (by kernel_rfl) Try.ntmps43 _ rfl rfl (fun hw => ?_)
  have S := Sep.start h
  rw [← addE_mod]
  generalize hpe : ith I 0 = p at hp
  have i1 := gx.i
  refine S.boxG gx fun b0 g S => ?_
  refine S.boxA hu.1 fun b1 g S => ?_
  refine S.boxA hv.1 fun b2 g S => ?_
  refine S.new fun b3 g S => ?_
  have ld : ∀ {i : TI}, i.agg = false → ldv i (cG I B) (0 + 0) = some (.int .i64 p) := fun hi => by rw [← hpe]; exact ldG gx (j := 0) (by omega) rfl hi
  have e1 := Int.tmod_lt_of_pos k (by omega : 0 < p)
  have e2 := Int.lt_tmod_of_pos k (by omega : 0 < p)
  refine DrawX.of Tt.tab follows_any [] [] [0, 1, 2, 3, 4, 5, 6, 7, 8, 9, 10] rfl (by kernel_rfl) (by kernel_rfl) ?_
  refine LoadX.same (S.at_ 3 rfl) (ld rfl) ?_
  refine ⟨by omega, ?_⟩
  refine LoadX.same (S.at_ 3 rfl) (ld rfl) ?_
  refine WR.i64 ?_
  refine LoadX.same (S.at_ 3 rfl) (ld rfl) ?_
  refine TM.pos ?_
  rw [Int.add_emod_right, tmod_emod]
  have q1 := Int.emod_nonneg k (show p ≠ 0 by omega)
  have q2 := Int.emod_lt_of_pos k (show 0 < p by omega)
  generalize k % p = k at q1 q2
  refine LoadX.same (S.at_ 1 rfl) (ldAll hv.1) ?_
  refine ⟨⟨[3, 4, 5, 8, 21, 22], fun n' vs g => ∃ i : Nat, n' = 8 - i ∧ i ≤ 8 ∧ Sep h.length h g [.bx b3 24 8 (z8.map (.int .u8)), .bx b2 24 8 (v.map (.int .u8)), .bx b1 24 8 ((tab 8 fun m => if m < i then (ith u m + k * ith v m) % p else ith u m).map (.int .u8)), .bx b0 28 594 (cG I B)] ∧
    vs = [.int .i64 k, .pointer (some ⟨b0, 0, none⟩), .pointer (some ⟨b1, 0, none⟩), .pointer (some ⟨b3, 0, none⟩), vA .u8 v, .int .i64 i], _, ⟨0, rfl, Nat.zero_le _, S.recast 2 rfl (by rw [← tab_none, ← show u = tab 8 (ith u) by have := tab_eq (xs := u); rwa [hu.1] at this]), rfl⟩, ?_⟩⟩
  clear S
  rintro n' vs g ⟨i, rfl, hi, S, rfl⟩
  refine BIf.mk (fun h2 => ?_) (fun h2 => ?_)
  · have hlt : i < 8 := by simp at h2; omega
    have r1 := hu.2 i
    have r2 := hv.2 i
    have r3 := mul_bd (show -1000 ≤ k ∧ k ≤ 1000 by omega) r2
    have r6 := Int.mul_nonneg q1 r2.1
    have r4 := Int.emod_nonneg (ith u i + k * ith v i) (show p ≠ 0 by omega)
    have r5 := Int.emod_lt_of_pos (ith u i + k * ith v i) (show 0 < p by omega)
    have e1 : ith (tab 8 fun m => if m < i then (ith u m + k * ith v m) % p else ith u m) i = ith u i := by rw [tab_ith hlt, if_neg (by omega)]
    refine IdxX.mk (by omega) (by omega) ?_
    refine ⟨⟨.int .u8 (ith v i), ldvK (o := i) (by rw [hv.1]; exact hlt), ?_⟩⟩
    refine DrawX.of Tt.tab follows_any [] [15] [0, 1, 2, 3, 4, 5, 6, 7, 8, 9, 10, 11, 12, 13, 14, 15] rfl (by kernel_rfl) (by kernel_rfl) ?_
    refine IdxX.mk (by omega) (by omega) ?_
    refine LoadX.same (v := .int .u8 (ith u i)) (S.at_ 2 rfl) (by rw [← e1]; exact ldvK0 (j := i) (by rw [tab_length]; exact hlt)) ?_
    refine WR.i64 ?_
    refine WR.i64 ?_
    refine WR.i64 ?_
    refine WR.i64 ?_
    refine LoadX.same (S.at_ 3 rfl) (ld rfl) ?_
    refine TM.pos ?_
    refine WR.u8 ?_
    refine IdxX.mk (by omega) (by omega) ?_
    refine S.storeK 2 (o := i) rfl (by rw [tab_length]; exact hlt) fun g S => ?_
    refine WR.i64 ?_
    rw [tab_set, tab_step (F := ith u) (G := fun m => (ith u m + k * ith v m) % p) rfl] at S
    exact ⟨8 - (i + 1), by omega, i + 1, rfl, hlt, S, rfl⟩
  have hi2 : i = 8 := by simp at h2; omega
  subst hi2
  rw [tab_all (Nat.le_refl _)] at S
  refine LoadX.same (S.at_ 2 rfl) (ldAll (tab_length _ _)) ?_
  refine S.putA 0 rfl (tab_length _ _) rfl fun g S => ?_
  refine LoadX.same (S.at_ 0 rfl) (ldAll (tab_length _ _)) ?_
  exact FinX.low hw S.le (low_vA _ _) ⟨rfl, rfl⟩

end Go.Gl

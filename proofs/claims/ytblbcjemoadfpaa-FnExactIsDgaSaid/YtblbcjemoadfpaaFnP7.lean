/- Chapter 10: withUnit. No condition. -/
import Derived.Test.YtblbcjemoadfpaaFnP6
import Derived.Test.YtblbcjemoadfpaaGlR
set_option linter.unusedVariables false
set_option linter.unusedSimpArgs false
namespace Go.Gl
open Go.Proofs Go.Proofs.Ytblbcjemoadfpaa Go.Pl

def wu (p : Int) (ds ls : List Int) : Nat → List Int × List Int
  | 0 => (p :: (ds.length : Int) :: List.replicate 16 0, List.replicate 576 0)
  | i + 1 => (patch (patch (wu p ds ls i).1 (2 + i) [ith ds i]) (10 + i) [ith ls i], patch (patch (wu p ds ls i).2 (64 + (0 * 64 + i * 8)) (unitE i)) (64 + (i * 64 + 0 * 8)) (unitE i))
theorem wu_gl (p : Int) (ds ls : List Int) : ∀ i, i ≤ 8 → GL (wu p ds ls i).1 (wu p ds ls i).2
  | 0, _ => ⟨by show (List.replicate 16 (0 : Int)).length + 1 + 1 = 18; rw [List.length_replicate], List.length_replicate⟩
  | i + 1, hi => by
    have g := wu_gl p ds ls i (by omega)
    have l := unitE_length i
    exact ⟨((g.pI (o := 2 + i) (ys := [ith ds i]) (by simp; omega)).pI (o := 10 + i) (ys := [ith ls i]) (by simp; omega)).i, ((g.pB (o := 64 + (0 * 64 + i * 8)) (ys := unitE i) (by omega)).pB (o := 64 + (i * 64 + 0 * 8)) (ys := unitE i) (by omega)).b⟩

set_option maxRecDepth 100000 in
set_option maxHeartbeats 4000000 in
theorem withUnit_c (h : AH) (p : Int) (v w : Value) (ds ls : List Int) (hd : RI h v ds) (hl : RI h w ls) (h1 : ds.length ≤ 8) (h2 : ls.length = ds.length) : ACalls Try.prog 41 [.int .i64 p, v, w] h (fun r h' => r = vG (wu p ds ls ds.length).1 (wu p ds ls ds.length).2 ∧ h' = h) := by
  obtain ⟨b1, o1, k1, hd⟩ := hd.can
  obtain ⟨b2, o2, k2, hl⟩ := hl.can
  refine ACalls.wk (args' := [.int .i64 p, .slice (some ⟨b1, o1, none⟩) ds.length 0, .slice (some ⟨b2, o2, none⟩) ls.length 0]) ?_ (.cons (Wk.refl _) (.cons k1 (.cons k2 .nil)))
  refine ACalls.of Tt.tab Try.func41 rfl (by kernel_rfl) Try.ntmps41 _ rfl rfl (fun hw => ?_)
  have S := Sep.start h
  have c1 := hd.cells rfl
  have c2 := hl.cells rfl
  refine S.new fun b6 g S => ?_
  refine CallX.same (sizeI_c _ _ _ _ _) ?_
  rintro r g ⟨rfl, rfl⟩
  refine S.new fun b7 g S => ?_
  refine S.putGG (I := (wu p ds ls 0).1) (B := (wu p ds ls 0).2) 0 rfl (wu_gl p ds ls 0 (by omega)) rfl fun g S => ?_
  refine ⟨⟨[2, 6, 7, 14, 15, 16], fun n' vs g => ∃ i : Nat, n' = ds.length - i ∧ i ≤ ds.length ∧ Sep h.length h g [.bx b7 28 594 (cG (wu p ds ls i).1 (wu p ds ls i).2), .bx b6 28 594 (Tt.ti28).zero] ∧
    vs = [.slice (some ⟨b2, o2, none⟩) ls.length 0, .pointer (some ⟨b6, 0, none⟩), .pointer (some ⟨b7, 0, none⟩), .slice (some ⟨b1, o1, none⟩) ds.length 0, .int .i64 ds.length, .int .i64 i], _, ⟨0, rfl, Nat.zero_le _, S, rfl⟩, ?_⟩⟩
  clear S
  rintro n' vs g ⟨i, rfl, hi, S, rfl⟩
  have gw := wu_gl p ds ls i (by omega)
  refine BIf.mk (fun h3 => ?_) (fun h3 => ?_)
  · have hlt : i < ds.length := by simpa using h3
    refine IdxX.mk (by omega) (by omega) ?_
    refine c1.ith S.le hlt ?_
    refine DrawX.tree Tt.tab follows_any [] [9, 12] (.op 0 (.op 1 (.op 2 (.op 3 (.op 4 (.op 5 (.op 7 (.op 8 (.op 10 (.alt (.op 6 (.op 9 (.op 11 (.op 12 (.nil))))) (.op 9 (.op 6 (.op 11 (.op 12 (.nil))))))))))))))) [2, 6, 7, 8, 14, 15, 16] (fun vs g => vs = [.slice (some ⟨b2, o2, none⟩) ls.length 0, .pointer (some ⟨b6, 0, none⟩), .pointer (some ⟨b7, 0, none⟩), .int .i64 i, .slice (some ⟨b1, o1, none⟩) ds.length 0, .int .i64 ds.length, .int .i64 i] ∧ Sep h.length h g [.bx b7 28 594 (cG (patch (patch (wu p ds ls i).1 (2 + i) [ith ds i]) (10 + i) [ith ls i]) (wu p ds ls i).2), .bx b6 28 594 (Tt.ti28).zero]) (by kernel_rfl) (by kernel_rfl) ?_ ?_
    · refine IdxX.mk (by omega) (by omega) ?_
      refine IdxX.mk (by omega) (by omega) ?_
      refine ⟨?_, ?_⟩
      · refine c2.ith S.le (show i < ls.length by omega) ?_
        refine S.storeG 0 (o := 2 + i) rfl gw (by omega) (fun g S => ?_) (by show 0 + 2 + i = _; omega)
        have gw := gw.pI (o := 2 + i) (ys := [ith ds i]) (by simp; omega)
        refine IdxX.mk (by omega) (by omega) ?_
        refine S.storeG 0 (o := 10 + i) rfl gw (by omega) (fun g S => ?_) (by show 0 + 10 + i = _; omega)
        exact ⟨rfl, S⟩
      · refine S.storeG 0 (o := 2 + i) rfl gw (by omega) (fun g S => ?_) (by show 0 + 2 + i = _; omega)
        have gw := gw.pI (o := 2 + i) (ys := [ith ds i]) (by simp; omega)
        refine c2.ith S.le (show i < ls.length by omega) ?_
        refine IdxX.mk (by omega) (by omega) ?_
        refine S.storeG 0 (o := 10 + i) rfl gw (by omega) (fun g S => ?_) (by show 0 + 10 + i = _; omega)
        exact ⟨rfl, S⟩
    rintro vs g ⟨rfl, S⟩
    have gw := (gw.pI (o := 2 + i) (ys := [ith ds i]) (by simp; omega)).pI (o := 10 + i) (ys := [ith ls i]) (by simp; omega)
    have lu := unitE_length i
    refine DrawX.of Tt.tab follows_any [] [11, 15] [0, 1, 2, 3, 4, 5, 6, 7, 8, 9, 10, 12, 13, 11, 14, 15] rfl (by kernel_rfl) (by kernel_rfl) ?_
    refine LoadX.same (S.at_ 0 rfl) (ldGG gw) ?_
    refine QCall.low (fun g2 hl => basis_c g2 _ _ gw i (by omega)) (low_vA _ _) ?_
    refine LoadX.same (S.at_ 0 rfl) (ldGG gw) ?_
    refine QCall.low (fun g2 hl => basis_c g2 _ _ gw i (by omega)) (low_vA _ _) ?_
    refine IdxX.mk (by omega) (by omega) ?_
    refine IdxX.mk (by omega) (by omega) ?_
    refine IdxX.mk (by omega) (by omega) ?_
    refine S.putGB 0 (s := 8) (o := 64 + (0 * 64 + i * 8)) rfl gw lu (by omega) (fun g S => ?_) (by show 0 + 82 + 0 + i * 8 = _; omega)
    have gw := gw.pB (o := 64 + (0 * 64 + i * 8)) (ys := unitE i) (by omega)
    refine IdxX.mk (by omega) (by omega) ?_
    refine S.putGB 0 (s := 8) (o := 64 + (i * 64 + 0 * 8)) rfl gw lu (by omega) (fun g S => ?_) (by show 0 + 82 + i * 64 + 0 = _; omega)
    refine WR.i64 ?_
    exact ⟨ds.length - (i + 1), by omega, i + 1, rfl, hlt, S, rfl⟩
  have hi2 : i = ds.length := by simp at h3; omega
  subst hi2
  refine LoadX.same (S.at_ 0 rfl) (ldGG gw) ?_
  refine S.putGG 1 rfl gw rfl fun g S => ?_
  refine LoadX.same (S.at_ 1 rfl) (ldGG gw) ?_
  exact FinX.low hw S.le (low_vG _ _) ⟨rfl, rfl⟩

end Go.Gl

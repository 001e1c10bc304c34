/- Chapter 10: algebras with names, in the reference. Printed by mk_p8.py. No condition. -/
import Derived.Test.YtblbcjemoadfpaaFnP7
import Derived.Laws.Strings
set_option linter.unusedVariables false
set_option linter.unusedSimpArgs false
namespace Go.Gl
open Go.Proofs Go.Proofs.Ytblbcjemoadfpaa Go.Pl

def sPoint : ByteArray := ⟨#[112, 111, 105, 110, 116]⟩
def sCircle : ByteArray := ⟨#[99, 105, 114, 99, 108, 101]⟩
def sTorus : ByteArray := ⟨#[116, 111, 114, 117, 115]⟩
def sDisc : ByteArray := ⟨#[100, 105, 115, 99]⟩
/-- which name it is -/
def nk (s : ByteArray) : Nat := if (s.toList == sPoint.toList) = true then 0 else if (s.toList == sCircle.toList) = true then 1 else if (s.toList == sTorus.toList) = true then 2 else if (s.toList == sDisc.toList) = true then 3 else 4
theorem ne_str {s a b : ByteArray} (h : (s.toList == a.toList) = true) (hab : (a.data.toList == b.data.toList) = false) : (s.toList == b.toList) = false := by
  rw [beq_iff_eq] at h
  rw [h, ByteArray.toList_eq, ByteArray.toList_eq]
  exact hab
def wuB : Nat → List Int
  | 0 => List.replicate 576 0
  | i + 1 => patch (patch (wuB i) (64 + (0 * 64 + i * 8)) (unitE i)) (64 + (i * 64 + 0 * 8)) (unitE i)
theorem wuB_length : ∀ i, i ≤ 8 → (wuB i).length = 576
  | 0, _ => List.length_replicate
  | i + 1, hi => by
    have l := unitE_length i
    have g := wuB_length i (by omega)
    have g2 := patch_length (xs := wuB i) (ys := unitE i) (o := 64 + (0 * 64 + i * 8)) (by omega)
    exact (patch_length (by omega)).trans (g2.trans g)
theorem wu_B (p : Int) (ds ls : List Int) : ∀ i, (wu p ds ls i).2 = wuB i
  | 0 => rfl
  | i + 1 => by show patch (patch (wu p ds ls i).2 _ _) _ _ = _; rw [wu_B p ds ls i]; rfl
def nI (p : Int) : Nat → List Int
  | 0 => [p, 1, 0, 0, 0, 0, 0, 0, 0, 0, 0, 0, 0, 0, 0, 0, 0, 0]
  | 1 => [p, 2, 0, 1, 0, 0, 0, 0, 0, 0, 0, 1, 0, 0, 0, 0, 0, 0]
  | 2 => [p, 4, 0, 1, 1, 2, 0, 0, 0, 0, 0, 1, 1, 2, 0, 0, 0, 0]
  | 3 => [p, 4, 0, 0, 1, 1, 0, 0, 0, 0, 0, 1, 1, 2, 0, 0, 0, 0]
  | _ => [p, 4, 0, 0, 0, 0, 0, 0, 0, 0, 0, 0, 0, 0, 0, 0, 0, 0]
def nB (p : Int) : Nat → List Int
  | 0 => wuB 1
  | 1 => wuB 2
  | 2 => patch (patch (wuB 4) (64 + (1 * 64 + 2 * 8)) (unitE 3)) (64 + (2 * 64 + 1 * 8)) (addE p z8 (unitE 3) (-1))
  | 3 => patch (patch (patch (wuB 4) (64 + (1 * 64 + 2 * 8)) (unitE 3)) (64 + (2 * 64 + 1 * 8)) (unitE 3)) (2 * 8) (unitE 1)
  | _ => wuB 0
theorem low_two {a b : Value} (ha : Below0 0 a) (hb : Below0 0 b) : Below0 0 (.tuple #[a, b]) := .tuple _ _ rfl fun i hi => by
  match i, hi with
  | 0, _ => exact ha
  | 1, _ => exact hb
  | i + 2, hi => exact absurd hi (by simp)
theorem addE_length (p : Int) (u v : List Int) (k : Int) : (addE p u v k).length = 8 := tab_length _ _
theorem gl0 (p : Int) (k : Nat) : GL (nI p k) (wuB 0) := ⟨by match k with | 0 => rfl | 1 => rfl | 2 => rfl | 3 => rfl | _ + 4 => rfl, wuB_length 0 (by omega)⟩


set_option maxRecDepth 100000 in
set_option maxHeartbeats 4000000 in
theorem l10Named_c (h : AH) (s : ByteArray) (p : Int) (hp : 2 ≤ p ∧ p ≤ 7) : ACalls Try.prog 39 [.string s, .int .i64 p] h (fun r h' => r = .tuple #[vG (nI p (nk s)) (nB p (nk s)), .bool (decide (nk s < 4))] ∧ h' = h) := by
  refine ACalls.of Tt.tab Try.func39 rfl (by kernel_rfl) Try.ntmps39 _ rfl rfl (fun hw => ?_)
  have S := Sep.start h
  refine S.new fun b4 g S => ?_
  refine S.new fun b6 g S => ?_
  refine S.putGG (I := nI p 4) (B := wuB 0) 0 rfl (gl0 p 4) rfl fun g S => ?_
  have gw := gl0 p 4
  refine BIf.mk (fun h0 => ?_) (fun h0 => ?_)
  · have h0 : (s.toList == sPoint.toList) = true := h0
    have e : nk s = 0 := by unfold nk; rw [if_pos h0]
    have e2 : (s.toList == sTorus.toList) = false := ne_str h0 rfl
    have e3 : (s.toList == sDisc.toList) = false := ne_str h0 rfl
    refine S.storeG 0 (o := 1) rfl gw (by omega) fun g S => ?_
    have S := S.recast 0 (cells' := cG [p, 1, 0, 0, 0, 0, 0, 0, 0, 0, 0, 0, 0, 0, 0, 0, 0, 0] (wuB 0)) rfl rfl
    have gw : GL [p, 1, 0, 0, 0, 0, 0, 0, 0, 0, 0, 0, 0, 0, 0, 0, 0, 0] (wuB 0) := ⟨rfl, wuB_length 0 (by omega)⟩
    refine LoadX.same (S.at_ 0 rfl) (ldGI gw (o := 2) (by omega)) ?_
    refine S.putGI 0 (ys := [0, 0, 0, 0, 0, 0, 0, 0]) (o := 10) (s := 8) rfl gw rfl (by omega) fun g S => ?_
    have S := S.recast 0 (cells' := cG [p, 1, 0, 0, 0, 0, 0, 0, 0, 0, 0, 0, 0, 0, 0, 0, 0, 0] (wuB 0)) rfl rfl
    clear gw
    refine ⟨⟨[0, 1, 4, 5, 6, 7], fun n' vs g => ∃ i : Nat, n' = 1 - i ∧ i ≤ 1 ∧ Sep h.length h g [.bx b6 28 594 (cG [p, 1, 0, 0, 0, 0, 0, 0, 0, 0, 0, 0, 0, 0, 0, 0, 0, 0] (wuB i)), .bx b4 28 594 (Tt.ti28).zero] ∧
      vs = [.string s, .int .i64 p, .pointer (some ⟨b4, 0, none⟩), .bool false, .pointer (some ⟨b6, 0, none⟩), .int .i64 i], _, ⟨0, rfl, Nat.zero_le _, S, rfl⟩, ?_⟩⟩
    clear S
    rintro n' vs g ⟨i, rfl, hi, S, rfl⟩
    have lu := unitE_length i
    have gw : GL [p, 1, 0, 0, 0, 0, 0, 0, 0, 0, 0, 0, 0, 0, 0, 0, 0, 0] (wuB i) := ⟨rfl, wuB_length i (by omega)⟩
    refine LoadX.same (v := .int .i64 1) (S.at_ 0 rfl) (ldG gw (j := 1) (by omega)) ?_
    refine BIf.mk (fun h3 => ?_) (fun h3 => ?_)
    · have hlt : i < 1 := by simp at h3; omega
      refine CallX.same (unit_c _ i (by omega)) ?_
      rintro r g ⟨rfl, rfl⟩
      refine IdxX.mk (by omega) (by omega) ?_
      refine IdxX.mk (by omega) (by omega) ?_
      refine S.putGB 0 (s := 8) (o := 64 + (0 * 64 + i * 8)) rfl gw lu (by omega) (fun g S => ?_) (by show 0 + 82 + 0 + i * 8 = _; omega)
      have gw := gw.pB (o := 64 + (0 * 64 + i * 8)) (ys := unitE i) (by omega)
      refine DrawX.of Tt.tab follows_any [] [6] [0, 1, 2, 3, 4, 5, 6] rfl (by kernel_rfl) (by kernel_rfl) ?_
      refine QCall.low (fun g2 hl => unit_c g2 i (by omega)) (low_vA _ _) ?_
      refine IdxX.mk (by omega) (by omega) ?_
      refine IdxX.mk (by omega) (by omega) ?_
      refine S.putGB 0 (s := 8) (o := 64 + (i * 64 + 0 * 8)) rfl gw lu (by omega) (fun g S => ?_) (by show 0 + 82 + i * 64 + 0 = _; omega)
      refine WR.i64 ?_
      exact ⟨1 - (i + 1), by omega, i + 1, rfl, hlt, S, rfl⟩
    have hi2 : i = 1 := by simp at h3; omega
    subst hi2
    refine BIf.no e2 ?_
    refine BIf.no e3 ?_
    refine LoadX.same (S.at_ 0 rfl) (ldGG gw) ?_
    refine S.putGG 1 rfl gw rfl fun g S => ?_
    refine LoadX.same (S.at_ 1 rfl) (ldGG gw) ?_
    refine FinX.low hw S.le (low_two (low_vG _ _) (VR.const rfl)) ⟨?_, rfl⟩
    rw [e]
    rfl
  have h0 : (s.toList == sPoint.toList) = false := h0
  refine BIf.mk (fun h1 => ?_) (fun h1 => ?_)
  · have h1 : (s.toList == sCircle.toList) = true := h1
    have e : nk s = 1 := by unfold nk; rw [if_neg (by rw [h0]; decide), if_pos h1]
    have e2 : (s.toList == sTorus.toList) = false := ne_str h1 rfl
    have e3 : (s.toList == sDisc.toList) = false := ne_str h1 rfl
    refine S.storeG 0 (o := 1) rfl gw (by omega) fun g S => ?_
    have gw := gw.pI (o := 1) (ys := [2]) (by simp)
    refine IdxX.mk (by omega) (by omega) ?_
    refine S.storeG 0 (o := 3) rfl gw (by omega) fun g S => ?_
    have S := S.recast 0 (cells' := cG [p, 2, 0, 1, 0, 0, 0, 0, 0, 0, 0, 0, 0, 0, 0, 0, 0, 0] (wuB 0)) rfl rfl
    have gw : GL [p, 2, 0, 1, 0, 0, 0, 0, 0, 0, 0, 0, 0, 0, 0, 0, 0, 0] (wuB 0) := ⟨rfl, wuB_length 0 (by omega)⟩
    refine LoadX.same (S.at_ 0 rfl) (ldGI gw (o := 2) (by omega)) ?_
    refine S.putGI 0 (ys := [0, 1, 0, 0, 0, 0, 0, 0]) (o := 10) (s := 8) rfl gw rfl (by omega) fun g S => ?_
    have S := S.recast 0 (cells' := cG [p, 2, 0, 1, 0, 0, 0, 0, 0, 0, 0, 1, 0, 0, 0, 0, 0, 0] (wuB 0)) rfl rfl
    clear gw
    refine ⟨⟨[0, 1, 4, 5, 6, 7], fun n' vs g => ∃ i : Nat, n' = 2 - i ∧ i ≤ 2 ∧ Sep h.length h g [.bx b6 28 594 (cG [p, 2, 0, 1, 0, 0, 0, 0, 0, 0, 0, 1, 0, 0, 0, 0, 0, 0] (wuB i)), .bx b4 28 594 (Tt.ti28).zero] ∧
      vs = [.string s, .int .i64 p, .pointer (some ⟨b4, 0, none⟩), .bool false, .pointer (some ⟨b6, 0, none⟩), .int .i64 i], _, ⟨0, rfl, Nat.zero_le _, S, rfl⟩, ?_⟩⟩
    clear S
    rintro n' vs g ⟨i, rfl, hi, S, rfl⟩
    have lu := unitE_length i
    have gw : GL [p, 2, 0, 1, 0, 0, 0, 0, 0, 0, 0, 1, 0, 0, 0, 0, 0, 0] (wuB i) := ⟨rfl, wuB_length i (by omega)⟩
    refine LoadX.same (v := .int .i64 2) (S.at_ 0 rfl) (ldG gw (j := 1) (by omega)) ?_
    refine BIf.mk (fun h3 => ?_) (fun h3 => ?_)
    · have hlt : i < 2 := by simp at h3; omega
      refine CallX.same (unit_c _ i (by omega)) ?_
      rintro r g ⟨rfl, rfl⟩
      refine IdxX.mk (by omega) (by omega) ?_
      refine IdxX.mk (by omega) (by omega) ?_
      refine S.putGB 0 (s := 8) (o := 64 + (0 * 64 + i * 8)) rfl gw lu (by omega) (fun g S => ?_) (by show 0 + 82 + 0 + i * 8 = _; omega)
      have gw := gw.pB (o := 64 + (0 * 64 + i * 8)) (ys := unitE i) (by omega)
      refine DrawX.of Tt.tab follows_any [] [6] [0, 1, 2, 3, 4, 5, 6] rfl (by kernel_rfl) (by kernel_rfl) ?_
      refine QCall.low (fun g2 hl => unit_c g2 i (by omega)) (low_vA _ _) ?_
      refine IdxX.mk (by omega) (by omega) ?_
      refine IdxX.mk (by omega) (by omega) ?_
      refine S.putGB 0 (s := 8) (o := 64 + (i * 64 + 0 * 8)) rfl gw lu (by omega) (fun g S => ?_) (by show 0 + 82 + i * 64 + 0 = _; omega)
      refine WR.i64 ?_
      exact ⟨2 - (i + 1), by omega, i + 1, rfl, hlt, S, rfl⟩
    have hi2 : i = 2 := by simp at h3; omega
    subst hi2
    refine BIf.no e2 ?_
    refine BIf.no e3 ?_
    refine LoadX.same (S.at_ 0 rfl) (ldGG gw) ?_
    refine S.putGG 1 rfl gw rfl fun g S => ?_
    refine LoadX.same (S.at_ 1 rfl) (ldGG gw) ?_
    refine FinX.low hw S.le (low_two (low_vG _ _) (VR.const rfl)) ⟨?_, rfl⟩
    rw [e]
    rfl
  have h1 : (s.toList == sCircle.toList) = false := h1
  refine BIf.mk (fun h2 => ?_) (fun h2 => ?_)
  · have h2 : (s.toList == sTorus.toList) = true := h2
    have e : nk s = 2 := by unfold nk; rw [if_neg (by rw [h0]; decide), if_neg (by rw [h1]; decide), if_pos h2]
    have e2 : (s.toList == sTorus.toList) = true := h2
    have e3 : (s.toList == sDisc.toList) = false := ne_str h2 rfl
    refine S.putGI 0 (ys := [0, 1, 1, 2, 0, 0, 0, 0]) (o := 2) (s := 8) rfl gw rfl (by omega) fun g S => ?_
    have S := S.recast 0 (cells' := cG [p, 4, 0, 1, 1, 2, 0, 0, 0, 0, 0, 0, 0, 0, 0, 0, 0, 0] (wuB 0)) rfl rfl
    have gw : GL [p, 4, 0, 1, 1, 2, 0, 0, 0, 0, 0, 0, 0, 0, 0, 0, 0, 0] (wuB 0) := ⟨rfl, wuB_length 0 (by omega)⟩
    refine LoadX.same (S.at_ 0 rfl) (ldGI gw (o := 2) (by omega)) ?_
    refine S.putGI 0 (ys := [0, 1, 1, 2, 0, 0, 0, 0]) (o := 10) (s := 8) rfl gw rfl (by omega) fun g S => ?_
    have S := S.recast 0 (cells' := cG [p, 4, 0, 1, 1, 2, 0, 0, 0, 0, 0, 1, 1, 2, 0, 0, 0, 0] (wuB 0)) rfl rfl
    clear gw
    refine ⟨⟨[0, 1, 4, 5, 6, 7], fun n' vs g => ∃ i : Nat, n' = 4 - i ∧ i ≤ 4 ∧ Sep h.length h g [.bx b6 28 594 (cG [p, 4, 0, 1, 1, 2, 0, 0, 0, 0, 0, 1, 1, 2, 0, 0, 0, 0] (wuB i)), .bx b4 28 594 (Tt.ti28).zero] ∧
      vs = [.string s, .int .i64 p, .pointer (some ⟨b4, 0, none⟩), .bool false, .pointer (some ⟨b6, 0, none⟩), .int .i64 i], _, ⟨0, rfl, Nat.zero_le _, S, rfl⟩, ?_⟩⟩
    clear S
    rintro n' vs g ⟨i, rfl, hi, S, rfl⟩
    have lu := unitE_length i
    have gw : GL [p, 4, 0, 1, 1, 2, 0, 0, 0, 0, 0, 1, 1, 2, 0, 0, 0, 0] (wuB i) := ⟨rfl, wuB_length i (by omega)⟩
    refine LoadX.same (v := .int .i64 4) (S.at_ 0 rfl) (ldG gw (j := 1) (by omega)) ?_
    refine BIf.mk (fun h3 => ?_) (fun h3 => ?_)
    · have hlt : i < 4 := by simp at h3; omega
      refine CallX.same (unit_c _ i (by omega)) ?_
      rintro r g ⟨rfl, rfl⟩
      refine IdxX.mk (by omega) (by omega) ?_
      refine IdxX.mk (by omega) (by omega) ?_
      refine S.putGB 0 (s := 8) (o := 64 + (0 * 64 + i * 8)) rfl gw lu (by omega) (fun g S => ?_) (by show 0 + 82 + 0 + i * 8 = _; omega)
      have gw := gw.pB (o := 64 + (0 * 64 + i * 8)) (ys := unitE i) (by omega)
      refine DrawX.of Tt.tab follows_any [] [6] [0, 1, 2, 3, 4, 5, 6] rfl (by kernel_rfl) (by kernel_rfl) ?_
      refine QCall.low (fun g2 hl => unit_c g2 i (by omega)) (low_vA _ _) ?_
      refine IdxX.mk (by omega) (by omega) ?_
      refine IdxX.mk (by omega) (by omega) ?_
      refine S.putGB 0 (s := 8) (o := 64 + (i * 64 + 0 * 8)) rfl gw lu (by omega) (fun g S => ?_) (by show 0 + 82 + i * 64 + 0 = _; omega)
      refine WR.i64 ?_
      exact ⟨4 - (i + 1), by omega, i + 1, rfl, hlt, S, rfl⟩
    have hi2 : i = 4 := by simp at h3; omega
    subst hi2
    refine BIf.yes e2 ?_
    refine CallX.same (unit_c _ 3 (by omega)) ?_
    rintro r g ⟨rfl, rfl⟩
    refine IdxX.mk (by omega) (by omega) ?_
    refine IdxX.mk (by omega) (by omega) ?_
    refine S.putGB 0 (s := 8) (ys := unitE 3) (o := 64 + (1 * 64 + 2 * 8)) rfl gw (unitE_length _) (by omega) fun g S => ?_
    have gw := gw.pB (o := 64 + (1 * 64 + 2 * 8)) (ys := unitE 3) (by first | (rw [unitE_length]; omega) | (rw [addE_length]; omega))
    refine CallX.same (unit_c _ 3 (by omega)) ?_
    rintro r g ⟨rfl, rfl⟩
    refine CallX.same (l10Add_c _ p (-1) z8 (unitE 3) hp (by omega) z8_byt (unitE_byt 3)) ?_
    rintro r g ⟨rfl, rfl⟩
    refine IdxX.mk (by omega) (by omega) ?_
    refine IdxX.mk (by omega) (by omega) ?_
    refine S.putGB 0 (s := 8) (ys := addE p z8 (unitE 3) (-1)) (o := 64 + (2 * 64 + 1 * 8)) rfl gw (addE_length _ _ _ _) (by omega) fun g S => ?_
    have gw := gw.pB (o := 64 + (2 * 64 + 1 * 8)) (ys := addE p z8 (unitE 3) (-1)) (by first | (rw [unitE_length]; omega) | (rw [addE_length]; omega))
    refine LoadX.same (S.at_ 0 rfl) (ldGG gw) ?_
    refine S.putGG 1 rfl gw rfl fun g S => ?_
    refine LoadX.same (S.at_ 1 rfl) (ldGG gw) ?_
    refine FinX.low hw S.le (low_two (low_vG _ _) (VR.const rfl)) ⟨?_, rfl⟩
    rw [e]
    rfl
  have h2 : (s.toList == sTorus.toList) = false := h2
  refine BIf.mk (fun h3 => ?_) (fun h3 => ?_)
  · have h3 : (s.toList == sDisc.toList) = true := h3
    have e : nk s = 3 := by unfold nk; rw [if_neg (by rw [h0]; decide), if_neg (by rw [h1]; decide), if_neg (by rw [h2]; decide), if_pos h3]
    have e2 : (s.toList == sTorus.toList) = false := ne_str h3 rfl
    have e3 : (s.toList == sDisc.toList) = true := h3
    refine S.putGI 0 (ys := [0, 0, 1, 1, 0, 0, 0, 0]) (o := 2) (s := 8) rfl gw rfl (by omega) fun g S => ?_
    have S := S.recast 0 (cells' := cG [p, 4, 0, 0, 1, 1, 0, 0, 0, 0, 0, 0, 0, 0, 0, 0, 0, 0] (wuB 0)) rfl rfl
    have gw : GL [p, 4, 0, 0, 1, 1, 0, 0, 0, 0, 0, 0, 0, 0, 0, 0, 0, 0] (wuB 0) := ⟨rfl, wuB_length 0 (by omega)⟩
    refine LoadX.same (S.at_ 0 rfl) (ldGI gw (o := 2) (by omega)) ?_
    refine S.putGI 0 (ys := [0, 0, 1, 1, 0, 0, 0, 0]) (o := 10) (s := 8) rfl gw rfl (by omega) fun g S => ?_
    have S := S.recast 0 (cells' := cG [p, 4, 0, 0, 1, 1, 0, 0, 0, 0, 0, 0, 1, 1, 0, 0, 0, 0] (wuB 0)) rfl rfl
    clear gw
    refine ⟨⟨[0, 1, 4, 5, 6, 7], fun n' vs g => ∃ i : Nat, n' = 4 - i ∧ i ≤ 4 ∧ Sep h.length h g [.bx b6 28 594 (cG [p, 4, 0, 0, 1, 1, 0, 0, 0, 0, 0, 0, 1, 1, 0, 0, 0, 0] (wuB i)), .bx b4 28 594 (Tt.ti28).zero] ∧
      vs = [.string s, .int .i64 p, .pointer (some ⟨b4, 0, none⟩), .bool false, .pointer (some ⟨b6, 0, none⟩), .int .i64 i], _, ⟨0, rfl, Nat.zero_le _, S, rfl⟩, ?_⟩⟩
    clear S
    rintro n' vs g ⟨i, rfl, hi, S, rfl⟩
    have lu := unitE_length i
    have gw : GL [p, 4, 0, 0, 1, 1, 0, 0, 0, 0, 0, 0, 1, 1, 0, 0, 0, 0] (wuB i) := ⟨rfl, wuB_length i (by omega)⟩
    refine LoadX.same (v := .int .i64 4) (S.at_ 0 rfl) (ldG gw (j := 1) (by omega)) ?_
    refine BIf.mk (fun h3 => ?_) (fun h3 => ?_)
    · have hlt : i < 4 := by simp at h3; omega
      refine CallX.same (unit_c _ i (by omega)) ?_
      rintro r g ⟨rfl, rfl⟩
      refine IdxX.mk (by omega) (by omega) ?_
      refine IdxX.mk (by omega) (by omega) ?_
      refine S.putGB 0 (s := 8) (o := 64 + (0 * 64 + i * 8)) rfl gw lu (by omega) (fun g S => ?_) (by show 0 + 82 + 0 + i * 8 = _; omega)
      have gw := gw.pB (o := 64 + (0 * 64 + i * 8)) (ys := unitE i) (by omega)
      refine DrawX.of Tt.tab follows_any [] [6] [0, 1, 2, 3, 4, 5, 6] rfl (by kernel_rfl) (by kernel_rfl) ?_
      refine QCall.low (fun g2 hl => unit_c g2 i (by omega)) (low_vA _ _) ?_
      refine IdxX.mk (by omega) (by omega) ?_
      refine IdxX.mk (by omega) (by omega) ?_
      refine S.putGB 0 (s := 8) (o := 64 + (i * 64 + 0 * 8)) rfl gw lu (by omega) (fun g S => ?_) (by show 0 + 82 + i * 64 + 0 = _; omega)
      refine WR.i64 ?_
      exact ⟨4 - (i + 1), by omega, i + 1, rfl, hlt, S, rfl⟩
    have hi2 : i = 4 := by simp at h3; omega
    subst hi2
    refine BIf.no e2 ?_
    refine BIf.yes e3 ?_
    refine S.putGI 0 (ys := [0, 1, 1, 2, 0, 0, 0, 0]) (o := 10) (s := 8) rfl gw rfl (by omega) fun g S => ?_
    have gw := gw.pI (o := 10) (ys := [0, 1, 1, 2, 0, 0, 0, 0]) (by simp)
    refine CallX.same (unit_c _ 3 (by omega)) ?_
    rintro r g ⟨rfl, rfl⟩
    refine IdxX.mk (by omega) (by omega) ?_
    refine IdxX.mk (by omega) (by omega) ?_
    refine S.putGB 0 (s := 8) (ys := unitE 3) (o := 64 + (1 * 64 + 2 * 8)) rfl gw (unitE_length _) (by omega) fun g S => ?_
    have gw := gw.pB (o := 64 + (1 * 64 + 2 * 8)) (ys := unitE 3) (by first | (rw [unitE_length]; omega) | (rw [addE_length]; omega))
    refine CallX.same (unit_c _ 3 (by omega)) ?_
    rintro r g ⟨rfl, rfl⟩
    refine IdxX.mk (by omega) (by omega) ?_
    refine IdxX.mk (by omega) (by omega) ?_
    refine S.putGB 0 (s := 8) (ys := unitE 3) (o := 64 + (2 * 64 + 1 * 8)) rfl gw (unitE_length _) (by omega) fun g S => ?_
    have gw := gw.pB (o := 64 + (2 * 64 + 1 * 8)) (ys := unitE 3) (by first | (rw [unitE_length]; omega) | (rw [addE_length]; omega))
    refine CallX.same (unit_c _ 1 (by omega)) ?_
    rintro r g ⟨rfl, rfl⟩
    refine IdxX.mk (by omega) (by omega) ?_
    refine S.putGB 0 (s := 8) (ys := unitE 1) (o := 2 * 8) rfl gw (unitE_length _) (by omega) fun g S => ?_
    have gw := gw.pB (o := 2 * 8) (ys := unitE 1) (by first | (rw [unitE_length]; omega) | (rw [addE_length]; omega))
    refine LoadX.same (S.at_ 0 rfl) (ldGG gw) ?_
    refine S.putGG 1 rfl gw rfl fun g S => ?_
    refine LoadX.same (S.at_ 1 rfl) (ldGG gw) ?_
    refine FinX.low hw S.le (low_two (low_vG _ _) (VR.const rfl)) ⟨?_, rfl⟩
    rw [e]
    rfl
  have h3 : (s.toList == sDisc.toList) = false := h3
  have e : nk s = 4 := by unfold nk; rw [if_neg (by rw [h0]; decide), if_neg (by rw [h1]; decide), if_neg (by rw [h2]; decide), if_neg (by rw [h3]; decide)]
  refine LoadX.same (S.at_ 0 rfl) (ldGG gw) ?_
  refine S.putGG 1 rfl gw rfl fun g S => ?_
  refine LoadX.same (S.at_ 1 rfl) (ldGG gw) ?_
  refine FinX.low hw S.le (low_two (low_vG _ _) (VR.const rfl)) ⟨?_, rfl⟩
  rw [e]
  rfl
def zG : List Int × List Int := (List.replicate 18 0, List.replicate 576 0)
theorem zG_gl : GL zG.1 zG.2 := ⟨List.length_replicate, List.length_replicate⟩
/-- what both sides hand back -/
def namedI (s : ByteArray) (p : Int) : List Int := if prime p = true ∧ nk s < 4 then nI p (nk s) else zG.1
def namedB (s : ByteArray) (p : Int) : List Int := if prime p = true ∧ nk s < 4 then nB p (nk s) else zG.2
def namedC (s : ByteArray) (p : Int) : Int := if prime p = true then (if nk s < 4 then 0 else 4) else 2
theorem nGL (p : Int) (k : Nat) : GL (nI p k) (nB p k) := by
  have l3 := unitE_length 3
  have l1 := unitE_length 1
  have la := addE_length p z8 (unitE 3) (-1)
  have w4 := wuB_length 4 (by omega)
  match k with
  | 0 => exact ⟨rfl, wuB_length 1 (by omega)⟩
  | 1 => exact ⟨rfl, wuB_length 2 (by omega)⟩
  | 2 =>
    have g : GL (nI p 2) (wuB 4) := ⟨rfl, w4⟩
    exact (g.pB (o := 64 + (1 * 64 + 2 * 8)) (ys := unitE 3) (by omega)).pB (o := 64 + (2 * 64 + 1 * 8)) (ys := addE p z8 (unitE 3) (-1)) (by omega)
  | 3 =>
    have g : GL (nI p 3) (wuB 4) := ⟨rfl, w4⟩
    exact ((g.pB (o := 64 + (1 * 64 + 2 * 8)) (ys := unitE 3) (by omega)).pB (o := 64 + (2 * 64 + 1 * 8)) (ys := unitE 3) (by omega)).pB (o := 2 * 8) (ys := unitE 1) (by omega)
  | _ + 4 => exact ⟨rfl, wuB_length 0 (by omega)⟩
theorem named_gl (s : ByteArray) (p : Int) : GL (namedI s p) (namedB s p) := by
  unfold namedI namedB
  split
  · exact nGL _ _
  · exact zG_gl
theorem prime_bd {p : Int} (h : prime p = true) : 2 ≤ p ∧ p ≤ 7 := by
  unfold prime at h
  simp at h
  omega

set_option maxRecDepth 100000 in
theorem namedS_c (h : AH) (s : ByteArray) (p : Int) : ACalls Try.prog 9 [.string s, .int .i64 p] h (fun r h' => r = .tuple #[vG (namedI s p) (namedB s p), .int .i64 (namedC s p)] ∧ h' = h) := by
  refine ACalls.of Tt.tab Try.func9 rfl (by kernel_rfl) Try.ntmps9 _ rfl rfl (fun hw => ?_)
  have S := Sep.start h
  refine S.new fun b4 g S => ?_
  refine CallX.same (l01Prime_c _ p) ?_
  rintro r g ⟨rfl, rfl⟩
  refine BIf.mk (fun h1 => ?_) (fun h1 => ?_)
  · have h1 : prime p = false := by simpa using h1
    refine S.putGG (I := zG.1) (B := zG.2) 0 rfl zG_gl rfl fun g S => ?_
    refine LoadX.same (S.at_ 0 rfl) (ldGG zG_gl) ?_
    refine FinX.low hw S.le (low_two (low_vG _ _) (VR.const rfl)) ⟨?_, rfl⟩
    unfold namedI namedB namedC
    rw [h1, if_neg (by simp), if_neg (by simp), if_neg (by simp)]
  have h1 : prime p = true := by simpa using h1
  refine CallX.same (l10Named_c _ s p (prime_bd h1)) ?_
  rintro r g ⟨rfl, rfl⟩
  refine S.new fun b6 g S => ?_
  have gn := nGL p (nk s)
  refine S.putGG 0 rfl gn rfl fun g S => ?_
  refine BIf.mk (fun h2 => ?_) (fun h2 => ?_)
  · have h2 : ¬ nk s < 4 := by simpa using h2
    refine S.putGG (I := zG.1) (B := zG.2) 1 rfl zG_gl rfl fun g S => ?_
    refine LoadX.same (S.at_ 1 rfl) (ldGG zG_gl) ?_
    refine FinX.low hw S.le (low_two (low_vG _ _) (VR.const rfl)) ⟨?_, rfl⟩
    unfold namedI namedB namedC
    rw [h1, if_pos rfl, if_neg h2, if_neg (fun h => h2 h.2), if_neg (fun h => h2 h.2)]
  have h2 : nk s < 4 := by simpa using h2
  refine LoadX.same (S.at_ 0 rfl) (ldGG gn) ?_
  refine S.putGG 1 rfl gn rfl fun g S => ?_
  refine LoadX.same (S.at_ 1 rfl) (ldGG gn) ?_
  refine FinX.low hw S.le (low_two (low_vG _ _) (VR.const rfl)) ⟨?_, rfl⟩
  unfold namedI namedB namedC
  rw [h1, if_pos rfl, if_pos h2, if_pos ⟨rfl, h2⟩, if_pos ⟨rfl, h2⟩]

end Go.Gl

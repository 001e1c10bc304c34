/- Chapter 10: algebras with names, in the program; the law. Printed by mk_p8.py. No condition. -/
import Derived.Test.YtblbcjemoadfpaaFnP8
set_option linter.unusedVariables false
set_option linter.unusedSimpArgs false
namespace Go.Gl
open Go.Proofs Go.Proofs.Ytblbcjemoadfpaa Go.Pl

def wuI (p : Int) (ds ls : List Int) : Nat → List Int
  | 0 => p :: (ds.length : Int) :: List.replicate 16 0
  | i + 1 => patch (patch (wuI p ds ls i) (2 + i) [ith ds i]) (10 + i) [ith ls i]
theorem wu_I (p : Int) (ds ls : List Int) : ∀ i, (wu p ds ls i).1 = wuI p ds ls i
  | 0 => rfl
  | i + 1 => by show patch (patch (wu p ds ls i).1 _ _) _ _ = _; rw [wu_I p ds ls i]; rfl
theorem wu0 (p : Int) : (wu p [0] [0] 1).1 = [p, 1, 0, 0, 0, 0, 0, 0, 0, 0, 0, 0, 0, 0, 0, 0, 0, 0] := by
  rw [wu_I]
  have s0 : wuI p [0] [0] 0 = [p, 1, 0, 0, 0, 0, 0, 0, 0, 0, 0, 0, 0, 0, 0, 0, 0, 0] := rfl
  have s1 : wuI p [0] [0] 1 = [p, 1, 0, 0, 0, 0, 0, 0, 0, 0, 0, 0, 0, 0, 0, 0, 0, 0] := by
    show patch (patch (wuI p [0] [0] 0) (2 + 0) [0]) (10 + 0) [0] = _
    rw [s0]; rfl
  exact s1
theorem wu1 (p : Int) : (wu p [0, 1] [0, 1] 2).1 = [p, 2, 0, 1, 0, 0, 0, 0, 0, 0, 0, 1, 0, 0, 0, 0, 0, 0] := by
  rw [wu_I]
  have s0 : wuI p [0, 1] [0, 1] 0 = [p, 2, 0, 0, 0, 0, 0, 0, 0, 0, 0, 0, 0, 0, 0, 0, 0, 0] := rfl
  have s1 : wuI p [0, 1] [0, 1] 1 = [p, 2, 0, 0, 0, 0, 0, 0, 0, 0, 0, 0, 0, 0, 0, 0, 0, 0] := by
    show patch (patch (wuI p [0, 1] [0, 1] 0) (2 + 0) [0]) (10 + 0) [0] = _
    rw [s0]; rfl
  have s2 : wuI p [0, 1] [0, 1] 2 = [p, 2, 0, 1, 0, 0, 0, 0, 0, 0, 0, 1, 0, 0, 0, 0, 0, 0] := by
    show patch (patch (wuI p [0, 1] [0, 1] 1) (2 + 1) [1]) (10 + 1) [1] = _
    rw [s1]; rfl
  exact s2
theorem wu2 (p : Int) : (wu p [0, 1, 1, 2] [0, 1, 1, 2] 4).1 = [p, 4, 0, 1, 1, 2, 0, 0, 0, 0, 0, 1, 1, 2, 0, 0, 0, 0] := by
  rw [wu_I]
  have s0 : wuI p [0, 1, 1, 2] [0, 1, 1, 2] 0 = [p, 4, 0, 0, 0, 0, 0, 0, 0, 0, 0, 0, 0, 0, 0, 0, 0, 0] := rfl
  have s1 : wuI p [0, 1, 1, 2] [0, 1, 1, 2] 1 = [p, 4, 0, 0, 0, 0, 0, 0, 0, 0, 0, 0, 0, 0, 0, 0, 0, 0] := by
    show patch (patch (wuI p [0, 1, 1, 2] [0, 1, 1, 2] 0) (2 + 0) [0]) (10 + 0) [0] = _
    rw [s0]; rfl
  have s2 : wuI p [0, 1, 1, 2] [0, 1, 1, 2] 2 = [p, 4, 0, 1, 0, 0, 0, 0, 0, 0, 0, 1, 0, 0, 0, 0, 0, 0] := by
    show patch (patch (wuI p [0, 1, 1, 2] [0, 1, 1, 2] 1) (2 + 1) [1]) (10 + 1) [1] = _
    rw [s1]; rfl
  have s3 : wuI p [0, 1, 1, 2] [0, 1, 1, 2] 3 = [p, 4, 0, 1, 1, 0, 0, 0, 0, 0, 0, 1, 1, 0, 0, 0, 0, 0] := by
    show patch (patch (wuI p [0, 1, 1, 2] [0, 1, 1, 2] 2) (2 + 2) [1]) (10 + 2) [1] = _
    rw [s2]; rfl
  have s4 : wuI p [0, 1, 1, 2] [0, 1, 1, 2] 4 = [p, 4, 0, 1, 1, 2, 0, 0, 0, 0, 0, 1, 1, 2, 0, 0, 0, 0] := by
    show patch (patch (wuI p [0, 1, 1, 2] [0, 1, 1, 2] 3) (2 + 3) [2]) (10 + 3) [2] = _
    rw [s3]; rfl
  exact s4
theorem wu3 (p : Int) : (wu p [0, 0, 1, 1] [0, 1, 1, 2] 4).1 = [p, 4, 0, 0, 1, 1, 0, 0, 0, 0, 0, 1, 1, 2, 0, 0, 0, 0] := by
  rw [wu_I]
  have s0 : wuI p [0, 0, 1, 1] [0, 1, 1, 2] 0 = [p, 4, 0, 0, 0, 0, 0, 0, 0, 0, 0, 0, 0, 0, 0, 0, 0, 0] := rfl
  have s1 : wuI p [0, 0, 1, 1] [0, 1, 1, 2] 1 = [p, 4, 0, 0, 0, 0, 0, 0, 0, 0, 0, 0, 0, 0, 0, 0, 0, 0] := by
    show patch (patch (wuI p [0, 0, 1, 1] [0, 1, 1, 2] 0) (2 + 0) [0]) (10 + 0) [0] = _
    rw [s0]; rfl
  have s2 : wuI p [0, 0, 1, 1] [0, 1, 1, 2] 2 = [p, 4, 0, 0, 0, 0, 0, 0, 0, 0, 0, 1, 0, 0, 0, 0, 0, 0] := by
    show patch (patch (wuI p [0, 0, 1, 1] [0, 1, 1, 2] 1) (2 + 1) [0]) (10 + 1) [1] = _
    rw [s1]; rfl
  have s3 : wuI p [0, 0, 1, 1] [0, 1, 1, 2] 3 = [p, 4, 0, 0, 1, 0, 0, 0, 0, 0, 0, 1, 1, 0, 0, 0, 0, 0] := by
    show patch (patch (wuI p [0, 0, 1, 1] [0, 1, 1, 2] 2) (2 + 2) [1]) (10 + 2) [1] = _
    rw [s2]; rfl
  have s4 : wuI p [0, 0, 1, 1] [0, 1, 1, 2] 4 = [p, 4, 0, 0, 1, 1, 0, 0, 0, 0, 0, 1, 1, 2, 0, 0, 0, 0] := by
    show patch (patch (wuI p [0, 0, 1, 1] [0, 1, 1, 2] 3) (2 + 3) [1]) (10 + 3) [2] = _
    rw [s3]; rfl
  exact s4
theorem bxRI {h : AH} {b k : Nat} {own : Option (TypeId × Nat)} {xs : List Int} (hl : look h b = some ⟨xs.map (.int .i64), own⟩) (c : Nat) (hk : k = xs.length := by rfl) (hm : xs.length ≤ 9223372036854775807 := by decide) : RI h (.slice (some ⟨b, 0, none⟩) k c) xs := by
  subst hk
  refine ⟨hm, b, 0, Wk.weak _ _ _ _, fun j x hj => ⟨_, .int .i64 x, hl, ?_, rfl⟩⟩
  simp only [List.getElem?_map, Nat.zero_add, hj, Option.map_some]

set_option maxRecDepth 100000 in
set_option maxHeartbeats 4000000 in
theorem namedI_c (h : AH) (s : ByteArray) (p : Int) : ACalls Try.prog 10 [.string s, .int .i64 p] h (fun r h' => r = .tuple #[vG (namedI s p) (namedB s p), .int .i64 (namedC s p)] ∧ h' = h) := by
  refine ACalls.of Tt.tab Try.func10 rfl (by kernel_rfl) Try.ntmps10 _ rfl rfl (fun hw => ?_)
  have S := Sep.start h
  refine S.new fun b4 g S => ?_
  refine CallX.same (isPrime_c _ p) ?_
  rintro r g ⟨rfl, rfl⟩
  refine BIf.mk (fun h1 => ?_) (fun h1 => ?_)
  · have h1 : prime p = false := by simpa using h1
    refine S.putGG (I := zG.1) (B := zG.2) 0 rfl zG_gl rfl fun g S => ?_
    refine LoadX.same (S.at_ 0 rfl) (ldGG zG_gl) ?_
    refine FinX.low hw S.le (low_two (low_vG _ _) (VR.const rfl)) ⟨?_, rfl⟩
    unfold namedI namedB namedC
    rw [h1, if_neg (by simp), if_neg (by simp), if_neg (by simp)]
  have hp1 : prime p = true := by simpa using h1
  have hp := prime_bd hp1
  clear h1
  refine BIf.mk (fun h0 => ?_) (fun h0 => ?_)
  · have h0 : (s.toList == sPoint.toList) = true := h0
    have e : nk s = 0 := by unfold nk; rw [if_pos h0]
    have e2 : (s.toList == sTorus.toList) = false := ne_str h0 rfl
    have e3 : (s.toList == sDisc.toList) = false := ne_str h0 rfl
    refine S.new fun b6 g S => ?_
    refine S.new fun b7 g S => ?_
    refine CallX.same (withUnit_c _ p _ _ [0] [0] (bxRI (S.at_ 1 rfl) 1) (bxRI (S.at_ 0 rfl) 1) (by decide) rfl) ?_
    rintro r g ⟨rfl, rfl⟩
    rw [show ([0] : List Int).length = 1 from rfl, wu0, wu_B]
    have gw : GL [p, 1, 0, 0, 0, 0, 0, 0, 0, 0, 0, 0, 0, 0, 0, 0, 0, 0] (wuB 1) := ⟨rfl, wuB_length 1 (by omega)⟩
    refine S.putGG 2 rfl gw rfl fun g S => ?_
    refine LoadX.same (S.at_ 2 rfl) (ldGG gw) ?_
    refine FinX.low hw S.le (low_two (low_vG _ _) (VR.const rfl)) ⟨?_, rfl⟩
    unfold namedI namedB namedC
    rw [hp1, e, if_pos rfl, if_pos (by decide), if_pos (by decide), if_pos (by decide)]
    rfl
  have h0 : (s.toList == sPoint.toList) = false := h0
  refine BIf.mk (fun h1 => ?_) (fun h1 => ?_)
  · have h1 : (s.toList == sCircle.toList) = true := h1
    have e : nk s = 1 := by unfold nk; rw [if_neg (by rw [h0]; decide), if_pos h1]
    have e2 : (s.toList == sTorus.toList) = false := ne_str h1 rfl
    have e3 : (s.toList == sDisc.toList) = false := ne_str h1 rfl
    refine S.new fun b6 g S => ?_
    refine S.new fun b7 g S => ?_
    refine CallX.same (withUnit_c _ p _ _ [0, 1] [0, 1] (bxRI (S.at_ 1 rfl) 1) (bxRI (S.at_ 0 rfl) 1) (by decide) rfl) ?_
    rintro r g ⟨rfl, rfl⟩
    rw [show ([0, 1] : List Int).length = 2 from rfl, wu1, wu_B]
    have gw : GL [p, 2, 0, 1, 0, 0, 0, 0, 0, 0, 0, 1, 0, 0, 0, 0, 0, 0] (wuB 2) := ⟨rfl, wuB_length 2 (by omega)⟩
    refine S.putGG 2 rfl gw rfl fun g S => ?_
    refine LoadX.same (S.at_ 2 rfl) (ldGG gw) ?_
    refine FinX.low hw S.le (low_two (low_vG _ _) (VR.const rfl)) ⟨?_, rfl⟩
    unfold namedI namedB namedC
    rw [hp1, e, if_pos rfl, if_pos (by decide), if_pos (by decide), if_pos (by decide)]
    rfl
  have h1 : (s.toList == sCircle.toList) = false := h1
  refine BIf.mk (fun h2 => ?_) (fun h2 => ?_)
  · have h2 : (s.toList == sTorus.toList) = true := h2
    have e : nk s = 2 := by unfold nk; rw [if_neg (by rw [h0]; decide), if_neg (by rw [h1]; decide), if_pos h2]
    have e2 : (s.toList == sTorus.toList) = true := h2
    have e3 : (s.toList == sDisc.toList) = false := ne_str h2 rfl
    refine S.new fun b6 g S => ?_
    refine S.new fun b7 g S => ?_
    refine CallX.same (withUnit_c _ p _ _ [0, 1, 1, 2] [0, 1, 1, 2] (bxRI (S.at_ 1 rfl) 1) (bxRI (S.at_ 0 rfl) 1) (by decide) rfl) ?_
    rintro r g ⟨rfl, rfl⟩
    rw [show ([0, 1, 1, 2] : List Int).length = 4 from rfl, wu2, wu_B]
    have gw : GL [p, 4, 0, 1, 1, 2, 0, 0, 0, 0, 0, 1, 1, 2, 0, 0, 0, 0] (wuB 4) := ⟨rfl, wuB_length 4 (by omega)⟩
    refine S.new fun b8 g S => ?_
    refine S.putGG 0 rfl gw rfl fun g S => ?_
    refine LoadX.same (S.at_ 0 rfl) (ldGG gw) ?_
    refine CallX.same (basis_c _ _ _ gw 3 (by omega)) ?_
    rintro r g ⟨rfl, rfl⟩
    refine IdxX.mk (by omega) (by omega) ?_
    refine IdxX.mk (by omega) (by omega) ?_
    refine S.putGB 0 (s := 8) (ys := unitE 3) (o := 64 + (1 * 64 + 2 * 8)) rfl gw (unitE_length _) (by omega) fun g S => ?_
    have gw := gw.pB (o := 64 + (1 * 64 + 2 * 8)) (ys := unitE 3) (by first | (rw [unitE_length]; omega) | (rw [addE_length]; omega))
    refine DrawX.of Tt.tab follows_any [] [8] [0, 1, 2, 3, 4, 5, 6, 7, 8] rfl (by kernel_rfl) (by kernel_rfl) ?_
    refine LoadX.same (S.at_ 0 rfl) (ldGG gw) ?_
    refine LoadX.same (S.at_ 0 rfl) (ldGG gw) ?_
    refine QCall.low (fun g2 hl => basis_c g2 _ _ gw 3 (by omega)) (low_vA _ _) ?_
    refine QCall.low (fun g2 hl => plus_c g2 _ _ (-1) z8 (unitE 3) gw hp (by omega) z8_byt (unitE_byt 3)) (low_vA _ _) ?_
    refine IdxX.mk (by omega) (by omega) ?_
    refine IdxX.mk (by omega) (by omega) ?_
    refine S.putGB 0 (s := 8) (ys := addE p z8 (unitE 3) (-1)) (o := 64 + (2 * 64 + 1 * 8)) rfl gw (addE_length _ _ _ _) (by omega) fun g S => ?_
    have gw := gw.pB (o := 64 + (2 * 64 + 1 * 8)) (ys := addE p z8 (unitE 3) (-1)) (by first | (rw [unitE_length]; omega) | (rw [addE_length]; omega))
    refine LoadX.same (S.at_ 0 rfl) (ldGG gw) ?_
    refine S.putGG 3 rfl gw rfl fun g S => ?_
    refine LoadX.same (S.at_ 3 rfl) (ldGG gw) ?_
    refine FinX.low hw S.le (low_two (low_vG _ _) (VR.const rfl)) ⟨?_, rfl⟩
    unfold namedI namedB namedC
    rw [hp1, e, if_pos rfl, if_pos (by decide), if_pos (by decide), if_pos (by decide)]
    rfl
  have h2 : (s.toList == sTorus.toList) = false := h2
  refine BIf.mk (fun h3 => ?_) (fun h3 => ?_)
  · have h3 : (s.toList == sDisc.toList) = true := h3
    have e : nk s = 3 := by unfold nk; rw [if_neg (by rw [h0]; decide), if_neg (by rw [h1]; decide), if_neg (by rw [h2]; decide), if_pos h3]
    have e2 : (s.toList == sTorus.toList) = false := ne_str h3 rfl
    have e3 : (s.toList == sDisc.toList) = true := h3
    refine S.new fun b6 g S => ?_
    refine S.new fun b7 g S => ?_
    refine CallX.same (withUnit_c _ p _ _ [0, 0, 1, 1] [0, 1, 1, 2] (bxRI (S.at_ 1 rfl) 1) (bxRI (S.at_ 0 rfl) 1) (by decide) rfl) ?_
    rintro r g ⟨rfl, rfl⟩
    rw [show ([0, 0, 1, 1] : List Int).length = 4 from rfl, wu3, wu_B]
    have gw : GL [p, 4, 0, 0, 1, 1, 0, 0, 0, 0, 0, 1, 1, 2, 0, 0, 0, 0] (wuB 4) := ⟨rfl, wuB_length 4 (by omega)⟩
    refine S.new fun b8 g S => ?_
    refine S.putGG 0 rfl gw rfl fun g S => ?_
    refine DrawX.of Tt.tab follows_any [] [7, 11] [0, 1, 2, 3, 4, 5, 6, 8, 9, 7, 10, 11] rfl (by kernel_rfl) (by kernel_rfl) ?_
    refine LoadX.same (S.at_ 0 rfl) (ldGG gw) ?_
    refine QCall.low (fun g2 hl => basis_c g2 _ _ gw 3 (by omega)) (low_vA _ _) ?_
    refine LoadX.same (S.at_ 0 rfl) (ldGG gw) ?_
    refine QCall.low (fun g2 hl => basis_c g2 _ _ gw 3 (by omega)) (low_vA _ _) ?_
    refine IdxX.mk (by omega) (by omega) ?_
    refine IdxX.mk (by omega) (by omega) ?_
    refine IdxX.mk (by omega) (by omega) ?_
    refine S.putGB 0 (s := 8) (ys := unitE 3) (o := 64 + (1 * 64 + 2 * 8)) rfl gw (unitE_length _) (by omega) fun g S => ?_
    have gw := gw.pB (o := 64 + (1 * 64 + 2 * 8)) (ys := unitE 3) (by first | (rw [unitE_length]; omega) | (rw [addE_length]; omega))
    refine IdxX.mk (by omega) (by omega) ?_
    refine S.putGB 0 (s := 8) (ys := unitE 3) (o := 64 + (2 * 64 + 1 * 8)) rfl gw (unitE_length _) (by omega) fun g S => ?_
    have gw := gw.pB (o := 64 + (2 * 64 + 1 * 8)) (ys := unitE 3) (by first | (rw [unitE_length]; omega) | (rw [addE_length]; omega))
    refine LoadX.same (S.at_ 0 rfl) (ldGG gw) ?_
    refine CallX.same (basis_c _ _ _ gw 1 (by omega)) ?_
    rintro r g ⟨rfl, rfl⟩
    refine IdxX.mk (by omega) (by omega) ?_
    refine S.putGB 0 (s := 8) (ys := unitE 1) (o := 2 * 8) rfl gw (unitE_length _) (by omega) fun g S => ?_
    have gw := gw.pB (o := 2 * 8) (ys := unitE 1) (by first | (rw [unitE_length]; omega) | (rw [addE_length]; omega))
    refine LoadX.same (S.at_ 0 rfl) (ldGG gw) ?_
    refine S.putGG 3 rfl gw rfl fun g S => ?_
    refine LoadX.same (S.at_ 3 rfl) (ldGG gw) ?_
    refine FinX.low hw S.le (low_two (low_vG _ _) (VR.const rfl)) ⟨?_, rfl⟩
    unfold namedI namedB namedC
    rw [hp1, e, if_pos rfl, if_pos (by decide), if_pos (by decide), if_pos (by decide)]
    rfl
  have h3 : (s.toList == sDisc.toList) = false := h3
  have e : nk s = 4 := by unfold nk; rw [if_neg (by rw [h0]; decide), if_neg (by rw [h1]; decide), if_neg (by rw [h2]; decide), if_neg (by rw [h3]; decide)]
  refine S.putGG (I := zG.1) (B := zG.2) 0 rfl zG_gl rfl fun g S => ?_
  refine LoadX.same (S.at_ 0 rfl) (ldGG zG_gl) ?_
  refine FinX.low hw S.le (low_two (low_vG _ _) (VR.const rfl)) ⟨?_, rfl⟩
  unfold namedI namedB namedC
  rw [hp1, e, if_pos rfl, if_neg (by decide), if_neg (by simp), if_neg (by simp)]

set_option maxRecDepth 100000 in
theorem FnExactNamedDga_law (h : AH) (s : ByteArray) (p : Int) : ACalls Try.prog 3 [.string s, .int .i64 p] h (fun r h' => r = .bool true ∧ h' = h) := by
  refine ACalls.of Tt.tab Try.func3 rfl (by kernel_rfl) Try.ntmps3 _ rfl rfl (fun hw => ?_)
  have S := Sep.start h
  refine BIf.mk (fun h1 => ?_) (fun h1 => ?_)
  · exact FinX.keep hw S.le rfl ⟨rfl, rfl⟩
  have gn := named_gl s p
  refine CallX.same (namedS_c _ s p) ?_
  rintro r g ⟨rfl, rfl⟩
  refine S.new fun b5 g S => ?_
  refine S.putGG 0 rfl gn rfl fun g S => ?_
  refine CallX.same (namedI_c _ s p) ?_
  rintro r g ⟨rfl, rfl⟩
  refine S.new fun b7 g S => ?_
  refine S.putGG 0 rfl gn rfl fun g S => ?_
  refine LoadX.same (S.at_ 0 rfl) (ldGG gn) ?_
  refine LoadX.same (S.at_ 1 rfl) (ldGG gn) ?_
  refine CallX.same (eqDga_c _ _ _ _ _ gn gn) ?_
  rintro r g ⟨rfl, rfl⟩
  refine BIf.no (by simp) ?_
  refine BIf.no (by simp) ?_
  exact FinX.keep hw S.le rfl ⟨rfl, rfl⟩

end Go.Gl

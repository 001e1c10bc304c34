/- Bars as texts: the texts of bars, in the program and in the reference; the law. No condition. -/
import Derived.Test.YthhilbeddkkigaaDoorFnG1
set_option linter.unusedVariables false
set_option linter.unusedSimpArgs false
namespace Go.Gl
open Go.Proofs Go.Proofs.YthhilbeddkkigaaDoor Go.Pl Go.RowKit

theorem areBars_vals {xs : List SBar} (h : areBars xs = true) {i : Nat} (hi : i < xs.length) : (0 ≤ (bar xs i).degree ∧ (bar xs i).degree ≤ 5) ∧ (0 ≤ (bar xs i).birth ∧ (bar xs i).birth ≤ 5) ∧ (0 ≤ (bar xs i).death → (bar xs i).death ≤ 5) := by
  obtain ⟨h1, h2, h3⟩ := areBars_bar h hi
  exact ⟨h1, h2, fun h => by rcases h3 with h3 | h3 <;> omega⟩

theorem barsText_c (h : AH) (v : Value) (xs : List SBar) (hx : RB h v xs) (ha : areBars xs = true) : ACalls Tryd.prog 19 [v] h (fun r h' => r = str (textL xs xs.length) ∧ h' = h) := by
  obtain ⟨bx, ox, kx, hx⟩ := hx.can
  refine ACalls.wk (args' := [.slice (some ⟨bx, ox, none⟩) xs.length 0]) ?_ (.cons kx .nil)
  have cx := RN.cells hx rfl
  have hl := areBars_len ha
  refine ACalls.of Tt.tab Tryd.func19 rfl (by kernel_rfl) Tryd.ntmps19 _ rfl rfl (fun hw => ?_)
  have S := Sep.start h
  refine S.new fun bo g S => ?_
  have S := S.bx_rc 0 (k := 0) rfl rfl
  refine ⟨⟨[2, 3, 8, 9, 10], fun n' vs g => ∃ i bo : Nat, n' = xs.length - i ∧ i ≤ xs.length ∧ Sep h.length h g [.rc 9 1 h.length (.slice (some ⟨bo, 0, none⟩) i 1) i (((xs.take i).map wordL).map str)] ∧
    vs = [.string ⟨#[]⟩, .slice (some ⟨bo, 0, none⟩) i 1, .slice (some ⟨bx, ox, none⟩) xs.length 0, .int .i64 xs.length, .int .i64 i], _, ⟨0, bo, rfl, Nat.zero_le _, S, rfl⟩, ?_⟩⟩
  clear S
  rintro n' vs g ⟨i, bo, rfl, hi, S, rfl⟩
  refine BIf.mk (fun h2 => ?_) (fun h2 => ?_)
  · have hlt : i < xs.length := by simpa using h2
    obtain ⟨v1, v2, v3⟩ := areBars_vals ha hlt
    refine IdxX.mk (by omega) (by omega) ?_
    refine CB.load (k := i) cx S.le hlt ?_
    refine S.new fun bc g S => ?_
    refine S.put 0 rfl fun g S => ?_
    have S := S.recast 0 (cells' := [.int .i64 (bar xs i).degree, .int .i64 (bar xs i).birth, .int .i64 (bar xs i).death]) rfl rfl
    have fin : ∀ (g : AH) (w : List UInt8) (bw : Nat) (ty : TypeId) (q : Nat), w = wordL (bar xs i) → Sep h.length h g [.bx bw 9 1 [str w], .bx bc 45 3 [.int .i64 (bar xs i).degree, .int .i64 (bar xs i).birth, .int .i64 (bar xs i).death], .rc 9 1 h.length (.slice (some ⟨bo, 0, none⟩) i 1) i (((xs.take i).map wordL).map str)] →
        ∀ (ie : TI) (K : Value → AH → Prop), (∀ b' g', Sep h.length h g' [.rc 9 1 h.length (.slice (some ⟨b', 0, none⟩) (i + 1) 1) (i + 1) (((xs.take (i + 1)).map wordL).map str)] → K (.slice (some ⟨b', 0, none⟩) (i + 1) 1) g') → ie.size = 1 → ie.bytes ≤ 8192 → AppG g 9 ie (.slice (some ⟨bo, 0, none⟩) i 1) (.slice (some ⟨bw, 0, none⟩) 1 1) K := by
      intro g w bw ty q hw S ie K hK h1 h2
      refine S.app (ie := ie) 1 rfl rfl rfl (by omega) (fun b' g' S => ?_) h1 h2
      have S := S.tail
      refine hK b' g' (S.eq ?_)
      rw [take_succ_bar hlt, List.map_append, List.map_append, hw]
      rfl
    refine DrawX.of Tt.tab follows_any [] [] [0, 1, 4, 5, 2, 3, 6, 7, 8, 9] rfl (by kernel_rfl) (by kernel_rfl) ?_
    refine LoadX.same (S.at_ 0 rfl) rfl ?_
    refine LoadX.same (S.at_ 0 rfl) rfl ?_
    refine QCall.of (fun g2 hl => decimal_c g2 _ v1.1 (by omega)) rfl ?_
    refine AddS.str (b := [58]) (by simp [dgL]) ?_
    refine QCall.of (fun g2 hl => decimal_c g2 _ v2.1 (by omega)) rfl ?_
    refine AddS.str (by simp [dgL]) ?_
    refine AddS.str (b := [45]) (by simp [dgL]) ?_
    refine LoadX.same (S.at_ 0 rfl) rfl ?_
    refine BIf.mk (fun h3 => ?_) (fun h3 => ?_)
    · have h3 : 0 ≤ (bar xs i).death := by simpa using h3
      refine LoadX.same (S.at_ 0 rfl) rfl ?_
      refine CallX.same (decimal_c _ _ h3 (by omega)) ?_
      rintro r g ⟨rfl, rfl⟩
      refine AddS.str (by simp [dgL]) ?_
      refine S.new fun bw g S => ?_
      refine fin g _ bw 0 0 ?_ S _ _ (fun b' g' S => ?_) rfl (by decide)
      · unfold wordL; rw [if_pos h3]
      refine WR.as (r := ((i + 1 : Nat) : Int)) (by omega) ?_
      exact ⟨xs.length - (i + 1), by omega, i + 1, b', rfl, hlt, S, rfl⟩
    · have h3 : ¬ 0 ≤ (bar xs i).death := by simpa using h3
      refine S.new fun bw g S => ?_
      refine fin g _ bw 0 0 ?_ S _ _ (fun b' g' S => ?_) rfl (by decide)
      · unfold wordL; rw [if_neg h3, List.append_nil]
      refine WR.as (r := ((i + 1 : Nat) : Int)) (by omega) ?_
      exact ⟨xs.length - (i + 1), by omega, i + 1, b', rfl, hlt, S, rfl⟩
  have hi2 : i = xs.length := by simp at h2; omega
  subst hi2
  have Sb := S.rc_bx 0 rfl
  have hlk := Sb.at_ 0 rfl
  have hjl := textL_join xs xs.length (Nat.le_refl _)
  have htl := textL_len xs xs.length
  rw [List.take_length] at hlk hjl
  have hc := join_c g bo 0 0 (xs.map wordL) [44] (fun j x hj => ⟨_, hlk, by rw [Nat.zero_add, List.getElem?_map, hj]; rfl⟩) (by rw [List.length_map]; omega) (by rw [hjl]; omega)
  rw [hjl, List.length_map] at hc
  refine CallX.weak hc (.cons (Wk.weak _ _ _ _) (.cons (Wk.refl _) .nil)) ?_
  rintro r g' ⟨rfl, rfl⟩
  exact FinX.keep hw S.le rfl ⟨rfl, rfl⟩

def textOf (xs : List SBar) : List UInt8 × Int := if areBars xs = true then (textL xs xs.length, 0) else ([], 2)

theorem barsTextI_c (h : AH) (v : Value) (xs : List SBar) (hx : RB h v xs) : ACalls Tryd.prog 13 [v] h (fun r h' => r = .tuple #[str (textOf xs).1, .int .i64 (textOf xs).2] ∧ h' = h) := by
  obtain ⟨bx, ox, kx, hx⟩ := hx.can
  refine ACalls.wk (args' := [.slice (some ⟨bx, ox, none⟩) xs.length 0]) ?_ (.cons kx .nil)
  refine ACalls.of Tt.tab Tryd.func13 rfl (by kernel_rfl) Tryd.ntmps13 _ rfl rfl (fun hw => ?_)
  unfold textOf
  refine CallX.same (areBarsI_c _ _ xs hx) ?_
  rintro r g ⟨rfl, rfl⟩
  refine BIf.mk (fun h1 => ?_) (fun h1 => ?_)
  · have h1 : ¬ areBars xs = true := by simpa using h1
    rw [if_neg h1]
    exact FinX.keep2 hw (Le.refl _) rfl rfl ⟨rfl, rfl⟩
  have h1 : areBars xs = true := by simpa using h1
  refine CallX.same (barsText_c _ _ xs hx h1) ?_
  rintro r g ⟨rfl, rfl⟩
  rw [if_pos h1]
  exact FinX.keep2 hw (Le.refl _) rfl rfl ⟨rfl, rfl⟩

theorem l01Dec_c (h : AH) (n : Int) (h0 : 0 ≤ n) (h1 : n ≤ 9) : ACalls Tryd.prog 39 [.int .i64 n] h (fun r h' => r = str (dgL n) ∧ h' = h) := by
  refine ACalls.of Tt.tab Tryd.func39 rfl (by kernel_rfl) Tryd.ntmps39 _ rfl rfl (fun hw => ?_)
  have S := Sep.start h
  refine BIf.no (by simp; omega) ?_
  refine BIf.yes (by simp; omega) ?_
  refine WR.i64 ?_
  refine WR.u8 ?_
  refine S.new fun b g S => ?_
  refine ⟨⟨_, dgL n, S.at_ 0 rfl, ?_, rfl, ?_⟩⟩
  · obtain ⟨k, rfl⟩ := Int.eq_ofNat_of_zero_le h0
    have : (UInt8.ofNat (48 + k)).toNat = 48 + k := by simp; omega
    show [Value.int .u8 (48 + (k : Int))] = [Value.int .u8 ((UInt8.ofNat (48 + k)).toNat : Int)]
    rw [this]
    congr
  exact FinX.keep hw S.le rfl ⟨rfl, rfl⟩

theorem l09Text_c (h : AH) (v : Value) (xs : List SBar) (hx : RB h v xs) (ha : areBars xs = true) : ACalls Tryd.prog 22 [v] h (fun r h' => r = str (textL xs xs.length) ∧ h' = h) := by
  obtain ⟨bx, ox, kx, hx⟩ := hx.can
  refine ACalls.wk (args' := [.slice (some ⟨bx, ox, none⟩) xs.length 0]) ?_ (.cons kx .nil)
  have cx := RN.cells hx rfl
  have hl := areBars_len ha
  refine ACalls.of Tt.tab Tryd.func22 rfl (by kernel_rfl) Tryd.ntmps22 _ rfl rfl (fun hw => ?_)
  refine ⟨⟨[0, 2, 3, 4], fun n' vs g => ∃ i : Nat, n' = xs.length - i ∧ i ≤ xs.length ∧ g = h ∧
    vs = [.slice (some ⟨bx, ox, none⟩) xs.length 0, .string ⟨#[]⟩, str (textL xs i), .int .i64 i], _, ⟨0, rfl, Nat.zero_le _, rfl, rfl⟩, ?_⟩⟩
  rintro n' vs g ⟨i, rfl, hi, rfl, rfl⟩
  have htl := textL_len xs i
  refine BIf.mk (fun h2 => ?_) (fun h2 => ?_)
  · have hlt : i < xs.length := by simpa using h2
    obtain ⟨v1, v2, v3⟩ := areBars_vals ha hlt
    have rest : ∀ (T : List UInt8), T = textL xs i ++ (if 0 < i then [44] else []) → ((0 ≤ (bar xs i).death → ((((T ++ dgL (bar xs i).degree) ++ [58]) ++ dgL (bar xs i).birth) ++ [45]) ++ dgL (bar xs i).death = textL xs (i + 1)) ∧ (¬ 0 ≤ (bar xs i).death → (((T ++ dgL (bar xs i).degree) ++ [58]) ++ dgL (bar xs i).birth) ++ [45] = textL xs (i + 1))) := by
      intro T hT
      have e : textL xs (i + 1) = T ++ wordL (bar xs i) := by rw [hT]; rfl
      rw [e]
      unfold wordL
      refine ⟨fun hd => ?_, fun hd => ?_⟩
      · rw [if_pos hd]
        simp [List.append_assoc]
      · rw [if_neg hd]
        simp [List.append_assoc]
    refine BIf.mk (fun h3 => ?_) (fun h3 => ?_)
    · have h3 : 0 < i := by simpa using h3
      refine AddS.str (b := [44]) (by simp; omega) ?_
      obtain ⟨R1, R2⟩ := rest (textL xs i ++ [44]) (by rw [if_pos h3])
      generalize hT : textL xs i ++ [44] = T at R1 R2
      have hTl : T.length ≤ 200 := by rw [← hT]; simp; omega
      clear hT
      refine DrawX.of Tt.tab follows_any [] [] [0, 1, 2, 3, 4, 5, 9, 10, 11, 12, 13, 6, 7, 8, 14, 15, 16, 17] rfl (by kernel_rfl) (by kernel_rfl) ?_
      refine IdxX.mk (by omega) (by omega) ?_
      refine CB.degree (k := i) cx (Le.refl _) hlt ?_
      refine IdxX.mk (by omega) (by omega) ?_
      refine CB.birth (k := i) cx (Le.refl _) hlt ?_
      refine QCall.of (fun g2 hl => l01Dec_c g2 _ v1.1 (by omega)) rfl ?_
      refine AddS.str (by simp [dgL]; omega) ?_
      refine AddS.str (b := [58]) (by simp [dgL]; omega) ?_
      refine QCall.of (fun g2 hl => l01Dec_c g2 _ v2.1 (by omega)) rfl ?_
      refine AddS.str (by simp [dgL]; omega) ?_
      refine AddS.str (b := [45]) (by simp [dgL]; omega) ?_
      refine IdxX.mk (by omega) (by omega) ?_
      refine CB.death (k := i) cx (Le.refl _) hlt ?_
      refine BIf.mk (fun h4 => ?_) (fun h4 => ?_)
      · have h4 : 0 ≤ (bar xs i).death := by simpa using h4
        refine IdxX.mk (by omega) (by omega) ?_
        refine CB.death (k := i) cx (Le.refl _) hlt ?_
        refine CallX.same (l01Dec_c _ _ h4 (by omega)) ?_
        rintro r g ⟨rfl, rfl⟩
        refine AddS.str (by simp [dgL]; omega) ?_
        refine WR.as (r := ((i + 1 : Nat) : Int)) (by omega) ?_
        exact ⟨xs.length - (i + 1), by omega, i + 1, rfl, hlt, rfl, by rw [R1 h4]; rfl⟩
      · have h4 : ¬ 0 ≤ (bar xs i).death := by simpa using h4
        refine WR.as (r := ((i + 1 : Nat) : Int)) (by omega) ?_
        exact ⟨xs.length - (i + 1), by omega, i + 1, rfl, hlt, rfl, by rw [R2 h4]; rfl⟩
    · have h3 : ¬ 0 < i := by simpa using h3
      obtain ⟨R1, R2⟩ := rest (textL xs i) (by rw [if_neg h3, List.append_nil])
      generalize hT : textL xs i = T at R1 R2
      have hTl : T.length ≤ 200 := by rw [← hT]; omega
      clear hT htl
      refine DrawX.of Tt.tab follows_any [] [] [0, 1, 2, 3, 4, 5, 9, 10, 11, 12, 13, 6, 7, 8, 14, 15, 16, 17] rfl (by kernel_rfl) (by kernel_rfl) ?_
      refine IdxX.mk (by omega) (by omega) ?_
      refine CB.degree (k := i) cx (Le.refl _) hlt ?_
      refine IdxX.mk (by omega) (by omega) ?_
      refine CB.birth (k := i) cx (Le.refl _) hlt ?_
      refine QCall.of (fun g2 hl => l01Dec_c g2 _ v1.1 (by omega)) rfl ?_
      refine AddS.str (by simp [dgL]; omega) ?_
      refine AddS.str (b := [58]) (by simp [dgL]; omega) ?_
      refine QCall.of (fun g2 hl => l01Dec_c g2 _ v2.1 (by omega)) rfl ?_
      refine AddS.str (by simp [dgL]; omega) ?_
      refine AddS.str (b := [45]) (by simp [dgL]; omega) ?_
      refine IdxX.mk (by omega) (by omega) ?_
      refine CB.death (k := i) cx (Le.refl _) hlt ?_
      refine BIf.mk (fun h4 => ?_) (fun h4 => ?_)
      · have h4 : 0 ≤ (bar xs i).death := by simpa using h4
        refine IdxX.mk (by omega) (by omega) ?_
        refine CB.death (k := i) cx (Le.refl _) hlt ?_
        refine CallX.same (l01Dec_c _ _ h4 (by omega)) ?_
        rintro r g ⟨rfl, rfl⟩
        refine AddS.str (by simp [dgL]; omega) ?_
        refine WR.as (r := ((i + 1 : Nat) : Int)) (by omega) ?_
        exact ⟨xs.length - (i + 1), by omega, i + 1, rfl, hlt, rfl, by rw [R1 h4]; rfl⟩
      · have h4 : ¬ 0 ≤ (bar xs i).death := by simpa using h4
        refine WR.as (r := ((i + 1 : Nat) : Int)) (by omega) ?_
        exact ⟨xs.length - (i + 1), by omega, i + 1, rfl, hlt, rfl, by rw [R2 h4]; rfl⟩
  have hi2 : i = xs.length := by simp at h2; omega
  subst hi2
  exact FinX.keep hw (Le.refl _) rfl ⟨rfl, rfl⟩

theorem barsTextS_c (h : AH) (v : Value) (xs : List SBar) (hx : RB h v xs) : ACalls Tryd.prog 11 [v] h (fun r h' => r = .tuple #[str (textOf xs).1, .int .i64 (textOf xs).2] ∧ h' = h) := by
  obtain ⟨bx, ox, kx, hx⟩ := hx.can
  refine ACalls.wk (args' := [.slice (some ⟨bx, ox, none⟩) xs.length 0]) ?_ (.cons kx .nil)
  refine ACalls.of Tt.tab Tryd.func11 rfl (by kernel_rfl) Tryd.ntmps11 _ rfl rfl (fun hw => ?_)
  unfold textOf
  refine CallX.same (l09Are_c _ _ xs hx) ?_
  rintro r g ⟨rfl, rfl⟩
  refine BIf.mk (fun h1 => ?_) (fun h1 => ?_)
  · have h1 : ¬ areBars xs = true := by simpa using h1
    rw [if_neg h1]
    exact FinX.keep2 hw (Le.refl _) rfl rfl ⟨rfl, rfl⟩
  have h1 : areBars xs = true := by simpa using h1
  refine CallX.same (l09Text_c _ _ xs hx h1) ?_
  rintro r g ⟨rfl, rfl⟩
  rw [if_pos h1]
  exact FinX.keep2 hw (Le.refl _) rfl rfl ⟨rfl, rfl⟩

theorem FnExactBarsText_law (h : AH) (v : Value) (xs : List SBar) (hx : RB h v xs) : ACalls Tryd.prog 4 [v] h (fun r h' => r = .bool true ∧ h' = h) := by
  obtain ⟨bx, ox, kx, hx⟩ := hx.can
  refine ACalls.wk (args' := [.slice (some ⟨bx, ox, none⟩) xs.length 0]) ?_ (.cons kx .nil)
  refine ACalls.of Tt.tab Tryd.func4 rfl (by kernel_rfl) Tryd.ntmps4 _ rfl rfl (fun hw => ?_)
  have S := Sep.start h
  refine CallX.same (szBarS_c _ _ xs 1048576 hx (by omega) (by omega)) ?_
  rintro r g ⟨rfl, rfl⟩
  refine BIf.mk (fun h1 => ?_) (fun h1 => ?_)
  · exact FinX.keep hw S.le rfl ⟨rfl, rfl⟩
  have c1 : xs.length ≤ 1048576 := by
    refine Classical.byContradiction fun hn => ?_
    rw [if_neg (by omega)] at h1
    simp at h1
  clear h1
  refine CallX.same (toBarS_c _ _ xs (RB.le _ _ _ _ S.le hx) c1) ?_
  rintro r g ⟨b1, rfl, ll, ee, gg⟩
  have S := S.box gg ll ee
  refine CallX.same (barsTextS_c _ _ xs (RB.bx (S.at_ 0 rfl) (by omega) 1)) ?_
  rintro r g ⟨rfl, rfl⟩
  refine CallX.same (toBarS_c _ _ xs (RB.le _ _ _ _ S.le hx) c1) ?_
  rintro r g ⟨x0, rfl, ll, ee, gg⟩
  have S := S.box gg ll ee
  refine CallX.same (barsTextI_c _ _ xs (RB.bx (S.at_ 0 rfl) (by omega) 1)) ?_
  rintro r g ⟨rfl, rfl⟩
  refine BIf.no (by simp) ?_
  refine BIf.no (by simp) ?_
  refine CallX.same (toBarS_c _ _ xs (RB.le _ _ _ _ S.le hx) c1) ?_
  rintro r g ⟨b3, rfl, ll, ee, gg⟩
  have S := S.box gg ll ee
  refine CallX.same (eqBarS_c _ _ _ xs xs (RB.bx (S.at_ 1 rfl) (by omega) 1) (RB.bx (S.at_ 0 rfl) (by omega) 1)) ?_
  rintro r g ⟨rfl, rfl⟩
  refine BIf.no (by simp) ?_
  exact FinX.keep hw S.le rfl ⟨rfl, rfl⟩

end Go.Gl

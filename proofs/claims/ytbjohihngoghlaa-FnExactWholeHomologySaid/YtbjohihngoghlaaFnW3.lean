/- Chapter 7: IsWhole, the program's side. No condition. -/
import Derived.Test.YtbjohihngoghlaaFnW2
set_option linter.unusedVariables false
set_option linter.unusedSimpArgs false
namespace Go.Gl
open Go.Proofs Go.Proofs.Ytbjohihngoghlaa Go.Pl


theorem sizeW_c (h : AH) (b o n c : Nat) : ACalls Try.prog 154 [.slice (some ⟨b, o, none⟩) n c] h (fun r h' => r = .int .i64 n ∧ h' = h) := by
  refine ACalls.of Tt.tab Try.func154 rfl (by kernel_rfl) Try.ntmps154 _ rfl rfl (fun hw => ?_)
  exact FinX.keep hw (Le.refl _) rfl ⟨rfl, rfl⟩
theorem isWhole1_c (h : AH) (x : Int) : ACalls Try.prog 155 [.int .i64 x] h (fun r h' => r = .bool (!decide (0 ≤ x ∧ x ≤ 6)) ∧ h' = h) := by
  refine ACalls.of Tt.tab Try.func155 rfl (by kernel_rfl) Try.ntmps155 _ rfl rfl (fun hw => ?_)
  refine CallX.same (between_c _ x 0 6) ?_
  rintro r g ⟨rfl, rfl⟩
  exact FinX.keep hw (Le.refl _) rfl ⟨rfl, rfl⟩
theorem isWholeI_c (h : AH) (v : Value) (x : SWhole) (hx : RWhole h v x) : ACalls Try.prog 74 [v] h (fun r h' => r = .bool (wholeOk x) ∧ h' = h) := by
  obtain ⟨b1, o1, b2, o2, kx, qx⟩ := hx.can
  refine ACalls.wk (args' := [.agg #[.slice (some ⟨b1, o1, none⟩) x.dims.length 0, .slice (some ⟨b2, o2, none⟩) x.maps.length 0]]) ?_ (.cons kx .nil)
  refine ACalls.of Tt.tab Try.func74 rfl (by kernel_rfl) Try.ntmps74 _ rfl rfl (fun hw => ?_)
  have S := Sep.start h
  have c1 := RS.cells qx.1 rfl
  have c2 := RS.cells qx.2 rfl
  refine S.new fun b g S => ?_
  have hb : look g b = some ⟨[.slice (some ⟨b1, o1, none⟩) x.dims.length 0, .slice (some ⟨b2, o2, none⟩) x.maps.length 0], some (30, 2)⟩ := S.at_ 0 rfl
  have rx : ∀ g2, Le g g2 → RWhole g2 (.agg #[.slice (some ⟨b1, o1, none⟩) x.dims.length 0, .slice (some ⟨b2, o2, none⟩) x.maps.length 0]) x := fun g2 L => ⟨_, _, rfl, qx.le (S.le.trans L)⟩
  have bad : wHead x = false → wholeOk x = false := fun hh => by simp [wholeOk, hh]
  refine DrawX.of Tt.tab follows_any [] [] [0, 1, 2, 3, 4, 5, 6, 7, 8, 9, 10, 11, 12, 13, 14, 15, 16] rfl (by kernel_rfl) (by kernel_rfl) ?_
  refine LoadX.same (v := .agg #[.slice (some ⟨b1, o1, none⟩) x.dims.length 0, .slice (some ⟨b2, o2, none⟩) x.maps.length 0]) hb rfl ?_
  refine QCall.of (fun g2 hl => topW_c g2 _ x (rx g2 hl)) rfl ?_
  refine QCall.of (fun g2 hl => between_c g2 _ 0 5) rfl ?_
  refine BIf.mk (fun e2 => ?_) (fun e2 => ?_)
  · have e2 : decide (0 ≤ (x.dims.length : Int) - 1 ∧ (x.dims.length : Int) - 1 ≤ 5) = false := by simpa only [Bool.not_eq_true'] using e2
    refine BIf.yes rfl (BIf.yes rfl ?_)
    exact FinX.keep hw S.le rfl ⟨by rw [bad (by simp only [wHead, e2]; simp)], rfl⟩
  have e2 : decide (0 ≤ (x.dims.length : Int) - 1 ∧ (x.dims.length : Int) - 1 ≤ 5) = true := by simpa only [Bool.not_eq_false'] using e2
  refine LoadX.same (v := .slice (some ⟨b2, o2, none⟩) x.maps.length 0) hb rfl ?_
  refine QCall.of (fun g2 hl => sizeW_c g2 _ _ _ _) rfl ?_
  refine LoadX.same (v := .agg #[.slice (some ⟨b1, o1, none⟩) x.dims.length 0, .slice (some ⟨b2, o2, none⟩) x.maps.length 0]) hb rfl ?_
  refine QCall.of (fun g2 hl => topW_c g2 _ x (rx g2 hl)) rfl ?_
  refine BIf.mk (fun e3 => ?_) (fun e3 => ?_)
  · have e3 : ¬ (x.maps.length : Int) = x.dims.length - 1 := by simpa using e3
    refine BIf.yes rfl ?_
    exact FinX.keep hw S.le rfl ⟨by rw [bad (by simp only [wHead, decide_eq_false e3]; simp)], rfl⟩
  have e3 : (x.maps.length : Int) = x.dims.length - 1 := by simpa using e3
  refine LoadX.same (v := .slice (some ⟨b1, o1, none⟩) x.dims.length 0) hb rfl ?_
  refine QCall.of (fun g2 hl => containsFuncI_c g2 _ x.dims _ _ (fun n => !decide (0 ≤ n ∧ n ≤ 6)) (RI.le _ _ _ _ (S.le.trans hl) qx.1) (fun n _ u hu => by subst hu; exact isWhole1_c _ n)) rfl ?_
  refine BIf.mk (fun e4 => ?_) (fun e4 => ?_)
  · refine FinX.keep hw S.le rfl ⟨?_, rfl⟩
    rw [bad (by simp only [wHead, List.all_eq_not_any_not, e4]; simp)]
  have hd : wHead x = true := by simp only [wHead, e2, decide_eq_true e3, List.all_eq_not_any_not, e4]; rfl
  have hh := wHead_mk hd
  have hlen := hh.len
  have hhi := hh.hi
  refine LoadX.same (v := .slice (some ⟨b2, o2, none⟩) x.maps.length 0) hb rfl ?_
  refine ⟨⟨[1, 31, 32, 33], fun n' vs g2 => ∃ k : Nat, n' = x.maps.length - k ∧ k ≤ x.maps.length ∧ g2 = g ∧ allN (wShape x) k = true ∧ vs = [.pointer (some ⟨b, 0, none⟩), .slice (some ⟨b2, o2, none⟩) x.maps.length 0, .int .i64 x.maps.length, .int .i64 k], _, ⟨0, rfl, Nat.zero_le _, rfl, rfl, rfl⟩, ?_⟩⟩
  rintro n' vs g2 ⟨k, rfl, hk, rfl, hs, rfl⟩
  refine BIf.mk (fun h2 => ?_) (fun h2 => ?_)
  · have hlt : k < x.maps.length := by simpa using h2
    refine IdxX.mk (by omega) (by omega) ?_
    refine c2.mat S.le hlt fun b4 o4 h4 => ?_
    refine DrawX.of Tt.tab follows_any [] [] [0, 1, 2, 3, 4, 5, 6, 7, 8, 9, 10, 11, 12, 13, 14, 15, 16, 17, 18] rfl (by kernel_rfl) (by kernel_rfl) ?_
    refine QCall.of (fun g2 hl => sizeII_c g2 _ _ _ _) rfl ?_
    refine LoadX.same (v := .slice (some ⟨b1, o1, none⟩) x.dims.length 0) hb rfl ?_
    refine WR.as (r := ((k + 1 : Nat) : Int)) (by omega) ?_
    refine IdxX.mk (by omega) (by omega) ?_
    refine c1.ith S.le (show k + 1 < x.dims.length by omega) ?_
    refine BIf.mk (fun h3 => ?_) (fun h3 => ?_)
    · have h3 : ¬ ((mat x.maps k).length : Int) = ith x.dims (k + 1) := by simpa using h3
      refine BIf.yes rfl ?_
      exact FinX.keep hw S.le rfl ⟨by rw [whole_bad1 hlt (by simp [wShape, h3])], rfl⟩
    have h3 : ((mat x.maps k).length : Int) = ith x.dims (k + 1) := by simpa using h3
    refine LoadX.same (v := .slice (some ⟨b1, o1, none⟩) x.dims.length 0) hb rfl ?_
    refine IdxX.mk (by omega) (by omega) ?_
    refine c1.ith S.le (show k < x.dims.length by omega) ?_
    refine QCall.of (fun g2 hl => isMatrix_c g2 (ith x.dims k) _ (mat x.maps k) (RII.le _ _ _ _ (S.le.trans hl) h4)) rfl ?_
    have fd := hh.dims (k + 1)
    have fe := hh.dims k
    have hmx : (decide ((mat x.maps k).length ≤ 6) && decide (0 ≤ ith x.dims k ∧ ith x.dims k ≤ 6) && wmat (ith x.dims k) (mat x.maps k)) = wmat (ith x.dims k) (mat x.maps k) := by
      rw [decide_eq_true (show (mat x.maps k).length ≤ 6 by omega), decide_eq_true fe]; rfl
    rw [hmx]
    refine BIf.mk (fun h5 => ?_) (fun h5 => ?_)
    · have h5 : wmat (ith x.dims k) (mat x.maps k) = false := by simpa using h5
      exact FinX.keep hw S.le rfl ⟨by rw [whole_bad1 hlt (by simp [wShape, h5])], rfl⟩
    have h5 : wmat (ith x.dims k) (mat x.maps k) = true := by simpa using h5
    refine WR.i64 ?_
    exact ⟨x.maps.length - (k + 1), by omega, k + 1, rfl, hlt, rfl, by rw [allN_succ, hs]; simp [wShape, h3, h5], rfl⟩
  have hk2 : k = x.maps.length := by simp at h2; omega
  subst hk2
  clear h2 hk
  have S0 : Sep g2.length g2 g2 [] := Sep.start g2
  refine ⟨⟨[1, 5], fun n' vs g3 => ∃ k : Nat, n' = x.maps.length - k ∧ k ≤ x.maps.length ∧ Le g2 g3 ∧ allN (fun k => decide (k = 0) || wSq x k) (k + 1) = true ∧ vs = [.pointer (some ⟨b, 0, none⟩), .int .i64 ((k + 1 : Nat) : Int)], _, ⟨0, rfl, by omega, Le.refl _, rfl, rfl⟩, ?_⟩⟩
  rintro n' vs g3 ⟨k, rfl, hk, L, hq, rfl⟩
  have hb3 := L.at_ _ _ hb
  refine LoadX.same (v := .slice (some ⟨b2, o2, none⟩) x.maps.length 0) hb3 rfl ?_
  refine BIf.mk (fun h2 => ?_) (fun h2 => ?_)
  · have hlt : k + 1 < x.maps.length := by simp at h2; omega
    refine LoadX.same (v := .slice (some ⟨b2, o2, none⟩) x.maps.length 0) hb3 rfl ?_
    refine IdxX.mk (by omega) (by omega) ?_
    refine c2.mat (S.le.trans L) hlt fun b4 o4 h4 => ?_
    have c4 := h4.cells rfl
    obtain ⟨f1, f2⟩ := wShape_mk (allN_at hs hlt)
    obtain ⟨f3, f4⟩ := wShape_mk (allN_at hs (show k < x.maps.length by omega))
    have fd := hh.dims (k + 1 + 1)
    have fe := hh.dims (k + 1)
    have fd0 := hh.dims k
    refine ⟨⟨[1, 5, 69, 70, 71], fun n' vs g3 => ∃ i : Nat, n' = (mat x.maps (k + 1)).length - i ∧ i ≤ (mat x.maps (k + 1)).length ∧ Le g2 g3 ∧ allN (wRow x (k + 1)) i = true ∧ vs = [.pointer (some ⟨b, 0, none⟩), .int .i64 ((k + 1 : Nat) : Int), .slice (some ⟨b4, o4, none⟩) (mat x.maps (k + 1)).length 0, .int .i64 (mat x.maps (k + 1)).length, .int .i64 i], _, ⟨0, rfl, by omega, L, rfl, rfl⟩, ?_⟩⟩
    rintro n' vs g3 ⟨i, rfl, hi, L, hr, rfl⟩
    have hb3 := L.at_ _ _ hb
    refine BIf.mk (fun h6 => ?_) (fun h6 => ?_)
    · have h6 : i < (mat x.maps (k + 1)).length := by simpa using h6
      obtain ⟨r1, r2⟩ := wmat_row f2 h6
      refine IdxX.mk (by omega) (by omega) ?_
      refine c4.rowY (S.le.trans L) h6 fun b5 o5 h7 => ?_
      have c5 := h7.cells rfl
      refine LoadX.same (v := .slice (some ⟨b1, o1, none⟩) x.dims.length 0) hb3 rfl ?_
      refine WR.as (r := (k : Int)) (by omega) ?_
      refine IdxX.mk (by omega) (by omega) ?_
      refine c1.ith (S.le.trans L) (show k < x.dims.length by omega) ?_
      obtain ⟨N, hN⟩ : ∃ N : Nat, ith x.dims k = N := ⟨(ith x.dims k).toNat, by omega⟩
      rw [hN]
      have T : Sep g3.length g3 g3 [] := Sep.start g3
      refine ⟨by omega, rfl, by omega, by simp only [Tt.ti2]; omega, T.new fun b6 g T => ?_⟩
      have T := T.recast 0 (cells' := (tab N (fun c => dot (row (mat x.maps (k + 1)) i) (mat x.maps k) c 0)).map (.int .i64)) rfl ((zeros_tab N).trans (by simp [dot, sm]))
      refine ⟨⟨[1, 5, 8, 69, 70, 71, 82, 83, 84], fun n' vs g => ∃ j : Nat, n' = (row (mat x.maps (k + 1)) i).length - j ∧ j ≤ (row (mat x.maps (k + 1)) i).length ∧ Sep g3.length g3 g [.bx b6 tI 1 ((tab N (fun c => dot (row (mat x.maps (k + 1)) i) (mat x.maps k) c j)).map (.int .i64))] ∧
        vs = [.pointer (some ⟨b, 0, none⟩), .int .i64 ((k + 1 : Nat) : Int), .slice (some ⟨b6, 0, none⟩) N 1, .slice (some ⟨b4, o4, none⟩) (mat x.maps (k + 1)).length 0, .int .i64 (mat x.maps (k + 1)).length, .int .i64 i, .slice (some ⟨b5, o5, none⟩) (row (mat x.maps (k + 1)) i).length 0, .int .i64 (row (mat x.maps (k + 1)) i).length, .int .i64 j], _, ⟨0, rfl, Nat.zero_le _, T, rfl⟩, ?_⟩⟩
      rintro n' vs g ⟨j, rfl, hj, T, rfl⟩
      have L2 := L.trans T.le
      have hb4 := L2.at_ _ _ hb
      refine BIf.mk (fun h8 => ?_) (fun h8 => ?_)
      · have h8 : j < (row (mat x.maps (k + 1)) i).length := by simpa using h8
        refine IdxX.mk (by omega) (by omega) ?_
        refine c5.ith ((S.le.trans L).trans T.le) h8 ?_
        refine LoadX.same (v := .slice (some ⟨b2, o2, none⟩) x.maps.length 0) hb4 rfl ?_
        refine WR.as (r := (k : Int)) (by omega) ?_
        refine IdxX.mk (by omega) (by omega) ?_
        refine c2.mat (S.le.trans L2) (show k < x.maps.length by omega) fun b7 o7 h9 => ?_
        refine IdxX.mk (by omega) (by omega) ?_
        refine (h9.cells rfl).rowY (S.le.trans L2) (show j < (mat x.maps k).length by omega) fun b8 o8 h10 => ?_
        have c8 := h10.cells rfl
        obtain ⟨s1, s2⟩ := wmat_row f4 (show j < (mat x.maps k).length by omega)
        have s3 : (row (mat x.maps k) j).length = N := by omega
        refine ⟨⟨[1, 5, 8, 10, 69, 70, 71, 82, 83, 84, 97, 98, 99], fun n' vs g => ∃ c : Nat, n' = N - c ∧ c ≤ N ∧ Sep g3.length g3 g [.bx b6 tI 1 ((tab N (fun t => if t < c then dot (row (mat x.maps (k + 1)) i) (mat x.maps k) t (j + 1) else dot (row (mat x.maps (k + 1)) i) (mat x.maps k) t j)).map (.int .i64))] ∧
          vs = [.pointer (some ⟨b, 0, none⟩), .int .i64 ((k + 1 : Nat) : Int), .slice (some ⟨b6, 0, none⟩) N 1, .int .i64 (ith (row (mat x.maps (k + 1)) i) j), .slice (some ⟨b4, o4, none⟩) (mat x.maps (k + 1)).length 0, .int .i64 (mat x.maps (k + 1)).length, .int .i64 i, .slice (some ⟨b5, o5, none⟩) (row (mat x.maps (k + 1)) i).length 0, .int .i64 (row (mat x.maps (k + 1)) i).length, .int .i64 j, .slice (some ⟨b8, o8, none⟩) (row (mat x.maps k) j).length 0, .int .i64 (row (mat x.maps k) j).length, .int .i64 c], _, ⟨0, rfl, Nat.zero_le _, T.recast 0 rfl (by rw [← tab_none]), rfl⟩, ?_⟩⟩
        rintro n' vs g ⟨c, rfl, hc, T, rfl⟩
        refine BIf.mk (fun h11 => ?_) (fun h11 => ?_)
        · have h11 : c < N := by simpa [s3] using h11
          have q1 : -(81 * (j : Int)) ≤ dot (row (mat x.maps (k + 1)) i) (mat x.maps k) c j ∧ dot (row (mat x.maps (k + 1)) i) (mat x.maps k) c j ≤ 81 * (j : Int) := dot_rng (c := c) r2 (wmat_ent f4) j
          have q2 := mul_abs (r2 j) (wmat_ent f4 j c)
          unfold ent at q2
          refine IdxX.mk (by omega) (by omega) ?_
          refine c8.ith ((S.le.trans L).trans T.le) (show c < (row (mat x.maps k) j).length by omega) ?_
          refine IdxX.mk (by omega) (by omega) ?_
          refine T.loadT 0 rfl h11 (if_neg (Nat.lt_irrefl c)) ?_
          refine WR.i64 ?_
          refine WR.i64 ?_
          refine IdxX.mk (by omega) (by omega) ?_
          refine T.storeT 0 rfl h11 fun g T => ?_
          refine WR.i64 ?_
          refine ⟨N - (c + 1), by omega, c + 1, rfl, by omega, T.recast 0 rfl ?_, rfl⟩
          rw [tab_step]
          rfl
        · have h11 : c = N := by simp [s3] at h11; omega
          subst h11
          refine WR.i64 ?_
          exact ⟨(row (mat x.maps (k + 1)) i).length - (j + 1), by omega, j + 1, rfl, h8, T.recast 0 rfl (by rw [tab_all (Nat.le_refl _)]), rfl⟩
      · have h8 : j = (row (mat x.maps (k + 1)) i).length := by simp at h8; omega
        subst h8
        have T := T.bx_tr (xs := tab N (fun c => dot (row (mat x.maps (k + 1)) i) (mat x.maps k) c (row (mat x.maps (k + 1)) i).length)) 0 rfl (by rw [tab_length]; omega) 1
        rw [tab_length] at T
        refine CallX.same (isZero_c _ _ _ (T.rd OI.reads 0 rfl)) ?_
        rintro r g' ⟨rfl, rfl⟩
        have hz : zeroV (tab N (fun c => dot (row (mat x.maps (k + 1)) i) (mat x.maps k) c (row (mat x.maps (k + 1)) i).length)) = wRow x (k + 1) i := by
          rw [zeroV_tab]
          show _ = allN (fun c => decide (dot (row (mat x.maps (k + 1)) i) (mat x.maps k) c (ith x.dims (k + 1)).toNat = 0)) (ith x.dims k).toNat
          rw [show (ith x.dims (k + 1)).toNat = (row (mat x.maps (k + 1)) i).length by omega, show (ith x.dims k).toNat = N by omega]
        rw [hz]
        refine BIf.mk (fun h12 => ?_) (fun h12 => ?_)
        · have h12 : wRow x (k + 1) i = false := by simpa using h12
          exact FinX.keep hw (S.le.trans L2) rfl ⟨by rw [whole_bad2 hlt h6 h12], rfl⟩
        · have h12 : wRow x (k + 1) i = true := by simpa using h12
          refine WR.i64 ?_
          exact ⟨(mat x.maps (k + 1)).length - (i + 1), by omega, i + 1, rfl, h6, L2, by rw [allN_succ, hr, h12]; rfl, rfl⟩
    · have hi2 : i = (mat x.maps (k + 1)).length := by simp at h6; omega
      subst hi2
      refine WR.as (r := ((k + 1 + 1 : Nat) : Int)) (by omega) ?_
      exact ⟨x.maps.length - (k + 1), by omega, k + 1, rfl, by omega, L, by rw [allN_succ, hq]; simp [wSq, hr], rfl⟩
  · have h2 : ¬ k + 1 < x.maps.length := by simp at h2; omega
    refine FinX.keep hw (S.le.trans L) rfl ⟨?_, rfl⟩
    have h3 : allN (fun k => decide (k = 0) || wSq x k) x.maps.length = true := allN_mk fun i hi => allN_at hq (by omega)
    simp only [wholeOk, hd, hs, h3, Bool.and_true]

end Go.Gl

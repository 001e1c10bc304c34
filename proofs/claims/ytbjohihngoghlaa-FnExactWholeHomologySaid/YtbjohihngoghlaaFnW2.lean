/- Chapter 7: IsWhole, both sides. No condition. -/
import Derived.Test.YtbjohihngoghlaaFnW1
set_option linter.unusedVariables false
set_option linter.unusedSimpArgs false
namespace Go.Gl
open Go.Proofs Go.Proofs.Ytbjohihngoghlaa Go.Pl

theorem whole_bad1 {x : SWhole} {k : Nat} (hk : k < x.maps.length) (hf : wShape x k = false) : wholeOk x = false := by simp [wholeOk, allN_false hk hf]
theorem whole_bad2 {x : SWhole} {k i : Nat} (hk : k + 1 < x.maps.length) (hi : i < (mat x.maps (k + 1)).length) (hf : wRow x (k + 1) i = false) : wholeOk x = false := by
  have : (fun k => decide (k = 0) || wSq x k) (k + 1) = false := by simp [wSq, allN_false hi hf]
  simp only [wholeOk, allN_false (f := fun k => decide (k = 0) || wSq x k) hk this, Bool.and_false]
theorem whole_bad3 {x : SWhole} {k i c : Nat} (hk : k + 1 < x.maps.length) (hi : i < (mat x.maps (k + 1)).length) (hc : c < (ith x.dims k).toNat) (hf : ¬ dot (row (mat x.maps (k + 1)) i) (mat x.maps k) c (ith x.dims (k + 1)).toNat = 0) : wholeOk x = false :=
  whole_bad2 hk hi (allN_false (f := fun c => decide (dot (row (mat x.maps (k + 1)) i) (mat x.maps k) c (ith x.dims (k + 1)).toNat = 0)) hc (decide_eq_false hf))


theorem l07Is_c (h : AH) (v : Value) (x : SWhole) (hx : RWhole h v x) : ACalls Try.prog 70 [v] h (fun r h' => r = .bool (wholeOk x) ∧ h' = h) := by
  obtain ⟨b1, o1, b2, o2, kx, qx⟩ := hx.can
  refine ACalls.wk (args' := [.agg #[.slice (some ⟨b1, o1, none⟩) x.dims.length 0, .slice (some ⟨b2, o2, none⟩) x.maps.length 0]]) ?_ (.cons kx .nil)
  refine ACalls.of Tt.tab Try.func70 rfl (by kernel_rfl) Try.ntmps70 _ rfl rfl (fun hw => ?_)
  have S := Sep.start h
  have c1 := RS.cells qx.1 rfl
  have c2 := RS.cells qx.2 rfl
  have m1 := qx.1.1
  refine S.new fun b g S => ?_
  have hb : look g b = some ⟨[.slice (some ⟨b1, o1, none⟩) x.dims.length 0, .slice (some ⟨b2, o2, none⟩) x.maps.length 0], some (30, 2)⟩ := S.at_ 0 rfl
  have bad : wHead x = false → wholeOk x = false := fun hh => by simp [wholeOk, hh]
  refine LoadX.same (v := .slice (some ⟨b1, o1, none⟩) x.dims.length 0) hb rfl ?_
  refine BIf.mk (fun e2 => ?_) (fun e2 => ?_)
  · have e2 : x.dims.length < 1 := by simp at e2; omega
    refine BIf.yes rfl (BIf.yes rfl ?_)
    exact FinX.keep hw S.le rfl ⟨by rw [bad (by simp only [wHead, decide_eq_false (show ¬ (0 ≤ (x.dims.length : Int) - 1 ∧ (x.dims.length : Int) - 1 ≤ 5) by omega)]; simp)], rfl⟩
  have e2 : ¬ x.dims.length < 1 := by simp at e2; omega
  refine LoadX.same (v := .slice (some ⟨b1, o1, none⟩) x.dims.length 0) hb rfl ?_
  refine BIf.mk (fun e2' => ?_) (fun e2' => ?_)
  · have e2' : x.dims.length > 6 := by simp at e2'; omega
    refine BIf.yes rfl ?_
    exact FinX.keep hw S.le rfl ⟨by rw [bad (by simp only [wHead, decide_eq_false (show ¬ (0 ≤ (x.dims.length : Int) - 1 ∧ (x.dims.length : Int) - 1 ≤ 5) by omega)]; simp)], rfl⟩
  have e2' : ¬ x.dims.length > 6 := by simp at e2'; omega
  refine LoadX.same (v := .slice (some ⟨b2, o2, none⟩) x.maps.length 0) hb rfl ?_
  refine LoadX.same (v := .slice (some ⟨b1, o1, none⟩) x.dims.length 0) hb rfl ?_
  refine WR.i64 ?_
  refine BIf.mk (fun e3 => ?_) (fun e3 => ?_)
  · have e3 : ¬ (x.maps.length : Int) = x.dims.length - 1 := by simpa using e3
    exact FinX.keep hw S.le rfl ⟨by rw [bad (by simp only [wHead, decide_eq_false e3]; simp)], rfl⟩
  have e3 : (x.maps.length : Int) = x.dims.length - 1 := by simpa using e3
  refine ⟨⟨[1, 3], fun n' vs g2 => ∃ k : Nat, n' = x.dims.length - k ∧ k ≤ x.dims.length ∧ g2 = g ∧ (∀ i, i < k → 0 ≤ ith x.dims i ∧ ith x.dims i ≤ 6) ∧ vs = [.pointer (some ⟨b, 0, none⟩), .int .i64 k], _, ⟨0, rfl, Nat.zero_le _, rfl, fun i hi => by omega, rfl⟩, ?_⟩⟩
  rintro n' vs g2 ⟨k, rfl, hk, rfl, hs, rfl⟩
  refine LoadX.same (v := .slice (some ⟨b1, o1, none⟩) x.dims.length 0) hb rfl ?_
  refine BIf.mk (fun h2 => ?_) (fun h2 => ?_)
  · have hlt : k < x.dims.length := by simpa using h2
    refine LoadX.same (v := .slice (some ⟨b1, o1, none⟩) x.dims.length 0) hb rfl ?_
    refine IdxX.mk (by omega) (by omega) ?_
    refine c1.ith S.le hlt ?_
    refine CallX.same (l01In_c _ _ 0 6) ?_
    rintro r g3 ⟨rfl, rfl⟩
    refine BIf.mk (fun h3 => ?_) (fun h3 => ?_)
    · have h3 : decide (0 ≤ ith x.dims k ∧ ith x.dims k ≤ 6) = false := by simpa only [Bool.not_eq_true'] using h3
      refine FinX.keep hw S.le rfl ⟨?_, rfl⟩
      rw [bad]
      have : (x.dims.all fun n => decide (0 ≤ n ∧ n ≤ 6)) = false := List.all_eq_false.2 ⟨_, ith_mem hlt, by rw [h3]; simp⟩
      simp only [wHead, this, Bool.and_false]
    · have h3 : decide (0 ≤ ith x.dims k ∧ ith x.dims k ≤ 6) = true := by simpa only [Bool.not_eq_false'] using h3
      refine WR.i64 ?_
      refine ⟨x.dims.length - (k + 1), by omega, k + 1, rfl, hlt, rfl, fun i hi => ?_, rfl⟩
      rcases (by omega : i < k ∨ i = k) with hi | rfl
      · exact hs i hi
      · simpa using h3
  have hk2 : k = x.dims.length := by simp at h2; omega
  subst hk2
  have hd : wHead x = true := by
    have : (x.dims.all fun n => decide (0 ≤ n ∧ n ≤ 6)) = true := List.all_eq_true.2 fun y hy => by
      obtain ⟨i, hi, rfl⟩ := List.getElem_of_mem hy
      rw [ith_get hi]
      exact decide_eq_true (hs i hi)
    simp only [wHead, this, decide_eq_true e3, decide_eq_true (show 0 ≤ (x.dims.length : Int) - 1 ∧ (x.dims.length : Int) - 1 ≤ 5 by omega), Bool.and_true]
  have hh := wHead_mk hd
  have hlen := hh.len
  clear h2 hk hs
  refine ⟨⟨[1, 4], fun n' vs g3 => ∃ k : Nat, n' = x.maps.length - k ∧ k ≤ x.maps.length ∧ g3 = g2 ∧ allN (wShape x) k = true ∧ allN (fun k => decide (k = 0) || wSq x k) k = true ∧ vs = [.pointer (some ⟨b, 0, none⟩), .int .i64 k], _, ⟨0, rfl, Nat.zero_le _, rfl, rfl, rfl, rfl⟩, ?_⟩⟩
  rintro n' vs g3 ⟨k, rfl, hk, rfl, hs, hq, rfl⟩
  refine LoadX.same (v := .slice (some ⟨b2, o2, none⟩) x.maps.length 0) hb rfl ?_
  refine BIf.mk (fun h2 => ?_) (fun h2 => ?_)
  · have hlt : k < x.maps.length := by simpa using h2
    refine DrawX.of Tt.tab follows_any [] [] [0, 1, 2, 3, 4, 5, 6, 7, 8, 9, 10, 11, 12, 13, 14, 15, 16, 17] rfl (by kernel_rfl) (by kernel_rfl) ?_
    refine LoadX.same (v := .slice (some ⟨b2, o2, none⟩) x.maps.length 0) hb rfl ?_
    refine IdxX.mk (by omega) (by omega) ?_
    refine c2.mat S.le hlt fun b4 o4 h4 => ?_
    refine LoadX.same (v := .slice (some ⟨b1, o1, none⟩) x.dims.length 0) hb rfl ?_
    refine WR.as (r := ((k + 1 : Nat) : Int)) (by omega) ?_
    refine IdxX.mk (by omega) (by omega) ?_
    refine c1.ith S.le (show k + 1 < x.dims.length by omega) ?_
    refine LoadX.same (v := .slice (some ⟨b1, o1, none⟩) x.dims.length 0) hb rfl ?_
    refine IdxX.mk (by omega) (by omega) ?_
    refine c1.ith S.le (show k < x.dims.length by omega) ?_
    refine QCall.of (fun g4 hl => l07Matrix_c g4 (ith x.dims (k + 1)) (ith x.dims k) _ (mat x.maps k) (RII.le _ _ _ _ (S.le.trans hl) h4)) rfl ?_
    refine BIf.mk (fun h3 => ?_) (fun h3 => ?_)
    · have h3 : wShape x k = false := by
        have h4 : (decide (((mat x.maps k).length : Int) = ith x.dims (k + 1)) && wmat (ith x.dims k) (mat x.maps k)) = false := by simpa only [Bool.not_eq_true'] using h3
        exact h4
      exact FinX.keep hw S.le rfl ⟨by rw [whole_bad1 hlt h3], rfl⟩
    have h3 : wShape x k = true := by
      have h4 : (decide (((mat x.maps k).length : Int) = ith x.dims (k + 1)) && wmat (ith x.dims k) (mat x.maps k)) = true := by simpa only [Bool.not_eq_false'] using h3
      exact h4
    obtain ⟨f1, f2⟩ := wShape_mk h3
    have fd := hh.dims (k + 1)
    have fe := hh.dims k
    refine ⟨⟨[1, 4, 5], fun n' vs g4 => ∃ i : Nat, n' = (mat x.maps k).length - i ∧ i ≤ (mat x.maps k).length ∧ g4 = g3 ∧ (0 < k → allN (wRow x k) i = true) ∧ vs = [.pointer (some ⟨b, 0, none⟩), .int .i64 k, .int .i64 i], _, ⟨0, rfl, by omega, rfl, fun _ => rfl, rfl⟩, ?_⟩⟩
    rintro n' vs g4 ⟨i, rfl, hi, rfl, hr, rfl⟩
    refine LoadX.same (v := .slice (some ⟨b2, o2, none⟩) x.maps.length 0) hb rfl ?_
    refine IdxX.mk (by omega) (by omega) ?_
    refine c2.mat S.le hlt fun b5 o5 h5 => ?_
    have done : (0 < k → allN (wRow x k) (mat x.maps k).length = true) → allN (fun k => decide (k = 0) || wSq x k) (k + 1) = true := fun hh => by
      rw [allN_succ, hq]
      rcases Nat.eq_zero_or_pos k with h0 | h0
      · simp [h0]
      · simp [wSq, hh h0]
    refine BIf.mk (fun h6 => ?_) (fun h6 => ?_)
    · have h6 : i < (mat x.maps k).length := by simpa using h6
      refine BIf.mk (fun h7 => ?_) (fun h7 => ?_)
      · have h7 : 0 < k := by simpa using h7
        obtain ⟨j, rfl⟩ : ∃ j, k = j + 1 := ⟨k - 1, by omega⟩
        obtain ⟨f3, f4⟩ := wShape_mk (allN_at hs (show j < j + 1 by omega))
        have fd0 := hh.dims j
        obtain ⟨r1, r2⟩ := wmat_row f2 h6
        refine ⟨⟨[1, 4, 5, 6], fun n' vs g5 => ∃ c : Nat, n' = (ith x.dims j).toNat - c ∧ c ≤ (ith x.dims j).toNat ∧ g5 = g4 ∧ (∀ t, t < c → dot (row (mat x.maps (j + 1)) i) (mat x.maps j) t (ith x.dims (j + 1)).toNat = 0) ∧ vs = [.pointer (some ⟨b, 0, none⟩), .int .i64 ((j + 1 : Nat) : Int), .int .i64 i, .int .i64 c], _, ⟨0, rfl, Nat.zero_le _, rfl, fun t ht => by omega, rfl⟩, ?_⟩⟩
        rintro n' vs g5 ⟨c, rfl, hc, rfl, hz, rfl⟩
        refine LoadX.same (v := .slice (some ⟨b1, o1, none⟩) x.dims.length 0) hb rfl ?_
        refine WR.as (r := (j : Int)) (by omega) ?_
        refine IdxX.mk (by omega) (by omega) ?_
        refine c1.ith S.le (show j < x.dims.length by omega) ?_
        refine BIf.mk (fun h8 => ?_) (fun h8 => ?_)
        · have h8 : c < (ith x.dims j).toNat := by simp at h8; omega
          refine ⟨⟨[1, 4, 5, 6, 7, 8], fun n' vs g6 => ∃ t : Nat, n' = (ith x.dims (j + 1)).toNat - t ∧ t ≤ (ith x.dims (j + 1)).toNat ∧ g6 = g5 ∧ vs = [.pointer (some ⟨b, 0, none⟩), .int .i64 ((j + 1 : Nat) : Int), .int .i64 i, .int .i64 c, .int .i64 (dot (row (mat x.maps (j + 1)) i) (mat x.maps j) c t), .int .i64 t], _, ⟨0, rfl, Nat.zero_le _, rfl, rfl⟩, ?_⟩⟩
          rintro n' vs g6 ⟨t, rfl, ht, rfl, rfl⟩
          have q1 : -(81 * (t : Int)) ≤ dot (row (mat x.maps (j + 1)) i) (mat x.maps j) c t ∧ dot (row (mat x.maps (j + 1)) i) (mat x.maps j) c t ≤ 81 * (t : Int) := dot_rng (c := c) r2 (wmat_ent f4) t
          have q2 := mul_abs (r2 t) (wmat_ent f4 t c)
          unfold ent at q2
          refine LoadX.same (v := .slice (some ⟨b1, o1, none⟩) x.dims.length 0) hb rfl ?_
          refine IdxX.mk (by omega) (by omega) ?_
          refine c1.ith S.le (show j + 1 < x.dims.length by omega) ?_
          refine BIf.mk (fun h9 => ?_) (fun h9 => ?_)
          · have h9 : t < (ith x.dims (j + 1)).toNat := by simp at h9; omega
            refine DrawX.of Tt.tab follows_any [] [] [0, 1, 2, 3, 4, 5, 6, 7, 8, 9, 10, 11, 12, 13, 14, 15, 16, 17, 18, 19, 20, 21, 22, 23, 24, 25, 26] rfl (by kernel_rfl) (by kernel_rfl) ?_
            refine LoadX.same (v := .slice (some ⟨b2, o2, none⟩) x.maps.length 0) hb rfl ?_
            refine IdxX.mk (by omega) (by omega) ?_
            refine c2.mat S.le hlt fun b7 o7 h7 => ?_
            refine IdxX.mk (by omega) (by omega) ?_
            refine (h7.cells rfl).rowY S.le h6 fun b8 o8 h8 => ?_
            refine IdxX.mk (by omega) (by omega) ?_
            refine (h8.cells rfl).ith S.le (show t < (row (mat x.maps (j + 1)) i).length by omega) ?_
            refine LoadX.same (v := .slice (some ⟨b2, o2, none⟩) x.maps.length 0) hb rfl ?_
            refine WR.as (r := (j : Int)) (by omega) ?_
            refine IdxX.mk (by omega) (by omega) ?_
            refine c2.mat S.le (show j < x.maps.length by omega) fun b9 o9 h9 => ?_
            refine IdxX.mk (by omega) (by omega) ?_
            refine (h9.cells rfl).rowY S.le (show t < (mat x.maps j).length by omega) fun b10 o10 h10 => ?_
            obtain ⟨s1, s2⟩ := wmat_row f4 (show t < (mat x.maps j).length by omega)
            refine IdxX.mk (by omega) (by omega) ?_
            refine (h10.cells rfl).ith S.le (show c < (row (mat x.maps j) t).length by omega) ?_
            refine WR.i64 ?_
            refine WR.i64 ?_
            refine WR.i64 ?_
            exact ⟨(ith x.dims (j + 1)).toNat - (t + 1), by omega, t + 1, rfl, by omega, rfl, rfl⟩
          · have h9 : t = (ith x.dims (j + 1)).toNat := by simp at h9; omega
            subst h9
            refine BIf.mk (fun h11 => ?_) (fun h11 => ?_)
            · have h11 : ¬ dot (row (mat x.maps (j + 1)) i) (mat x.maps j) c (ith x.dims (j + 1)).toNat = 0 := by simpa using h11
              exact FinX.keep hw S.le rfl ⟨by rw [whole_bad3 hlt h6 h8 h11], rfl⟩
            · have h11 : dot (row (mat x.maps (j + 1)) i) (mat x.maps j) c (ith x.dims (j + 1)).toNat = 0 := by simpa using h11
              refine WR.i64 ?_
              refine ⟨(ith x.dims j).toNat - (c + 1), by omega, c + 1, rfl, by omega, rfl, fun t ht => ?_, rfl⟩
              rcases (by omega : t < c ∨ t = c) with ht | rfl
              · exact hz t ht
              · exact h11
        · have h8 : c = (ith x.dims j).toNat := by simp at h8; omega
          subst h8
          refine WR.i64 ?_
          refine ⟨(mat x.maps (j + 1)).length - (i + 1), by omega, i + 1, rfl, h6, rfl, fun h0 => ?_, rfl⟩
          rw [allN_succ, hr h0]
          exact allN_mk (f := fun c => decide (dot (row (mat x.maps (j + 1)) i) (mat x.maps j) c (ith x.dims (j + 1)).toNat = 0)) fun t ht => decide_eq_true (hz t ht)
      · have h7 : k = 0 := by simp at h7; omega
        refine WR.i64 ?_
        exact ⟨x.maps.length - (k + 1), by omega, k + 1, rfl, hlt, rfl, by rw [allN_succ, hs, h3]; rfl, done (fun h0 => by omega), rfl⟩
    · have hi2 : i = (mat x.maps k).length := by simp at h6; omega
      refine BIf.no rfl ?_
      subst hi2
      refine WR.i64 ?_
      exact ⟨x.maps.length - (k + 1), by omega, k + 1, rfl, hlt, rfl, by rw [allN_succ, hs, h3]; rfl, done hr, rfl⟩
  · have hk2 : k = x.maps.length := by simp at h2; omega
    subst hk2
    refine FinX.keep hw S.le rfl ⟨?_, rfl⟩
    simp only [wholeOk, hd, hs, hq, Bool.and_true]

end Go.Gl

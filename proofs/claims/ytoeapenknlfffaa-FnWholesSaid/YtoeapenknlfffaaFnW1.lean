/- Chapter 7: IsWhole. No condition. Chapter 7: IsWhole, both sides. No condition. Chapter 7: IsWhole, the program's side. No condition. -/
import Derived.Test.YtoeapenknlfffaaFnA2
set_option linter.unusedVariables false
set_option linter.unusedSimpArgs false
namespace Go.Gl
open Go.Proofs Go.Proofs.Ytoeapenknlfffaa Go.Pl

def wrow (m : Int) (r : List Int) : Bool := decide ((r.length : Int) = m) && r.all fun x => decide (-9 ≤ x ∧ x ≤ 9)
def wmat (m : Int) (rows : List (List Int)) : Bool := rows.all (wrow m)
def wShape (x : SWhole) (k : Nat) : Bool := decide (((mat x.maps k).length : Int) = ith x.dims (k + 1)) && wmat (ith x.dims k) (mat x.maps k)
/-- the product of a row with a column -/
def dot (r : List Int) (rows : List (List Int)) (c n : Nat) : Int := sm n fun j => ith r j * ent rows j c
def wRow (x : SWhole) (k i : Nat) : Bool := allN (fun c => decide (dot (row (mat x.maps k) i) (mat x.maps (k - 1)) c (ith x.dims k).toNat = 0)) (ith x.dims (k - 1)).toNat
def wSq (x : SWhole) (k : Nat) : Bool := allN (wRow x k) (mat x.maps k).length
def wHead (x : SWhole) : Bool := decide (0 ≤ (x.dims.length : Int) - 1 ∧ (x.dims.length : Int) - 1 ≤ 5) && decide ((x.maps.length : Int) = x.dims.length - 1) && x.dims.all fun n => decide (0 ≤ n ∧ n ≤ 6)
def wholeOk (x : SWhole) : Bool := wHead x && allN (wShape x) x.maps.length && allN (fun k => decide (k = 0) || wSq x k) x.maps.length
structure WHead (x : SWhole) : Prop where
  lo : 1 ≤ x.dims.length
  hi : x.dims.length ≤ 6
  len : x.maps.length + 1 = x.dims.length
  dims : ∀ i, 0 ≤ ith x.dims i ∧ ith x.dims i ≤ 6
theorem wHead_mk {x : SWhole} (h : wHead x = true) : WHead x := by
  simp only [wHead, Bool.and_eq_true, decide_eq_true_eq] at h
  obtain ⟨⟨h2, h3⟩, h4⟩ := h
  refine ⟨by omega, by omega, by omega, fun i => ?_⟩
  by_cases hi : i < x.dims.length
  · simpa using List.all_eq_true.1 h4 _ (ith_mem hi)
  · rw [ith_out (by omega)]; omega
theorem wmat_row {m : Int} {rows : List (List Int)} (h : wmat m rows = true) {i : Nat} (hi : i < rows.length) : ((row rows i).length : Int) = m ∧ ∀ j, -9 ≤ ith (row rows i) j ∧ ith (row rows i) j ≤ 9 := by
  have := List.all_eq_true.1 h _ (row_mem hi)
  simp only [wrow, Bool.and_eq_true, decide_eq_true_eq] at this
  refine ⟨this.1, fun j => ?_⟩
  by_cases hj : j < (row rows i).length
  · simpa using List.all_eq_true.1 this.2 _ (ith_mem hj)
  · rw [ith_out (by omega)]; omega
theorem wmat_ent {m : Int} {rows : List (List Int)} (h : wmat m rows = true) (i j : Nat) : -9 ≤ ent rows i j ∧ ent rows i j ≤ 9 := by
  unfold ent
  by_cases hi : i < rows.length
  · exact (wmat_row h hi).2 j
  · rw [row_out (by omega), ith_nil]; omega
theorem wShape_mk {x : SWhole} {k : Nat} (h : wShape x k = true) : ((mat x.maps k).length : Int) = ith x.dims (k + 1) ∧ wmat (ith x.dims k) (mat x.maps k) = true := by
  simpa only [wShape, Bool.and_eq_true, decide_eq_true_eq] using h
theorem dot_rng {r : List Int} {rows : List (List Int)} {c : Nat} (hr : ∀ j, -9 ≤ ith r j ∧ ith r j ≤ 9) (he : ∀ i j, -9 ≤ ent rows i j ∧ ent rows i j ≤ 9) : ∀ n : Nat, -(81 * (n : Int)) ≤ sm n (fun j => ith r j * ent rows j c) ∧ sm n (fun j => ith r j * ent rows j c) ≤ 81 * (n : Int)
  | 0 => by simp [sm]
  | n + 1 => by
    have h1 := dot_rng (c := c) hr he n
    have h2 := mul_abs (hr n) (he n c)
    simp only [sm]
    omega
theorem zeroV_tab (n : Nat) (f : Nat → Int) : zeroV (tab n f) = allN (fun c => decide (f c = 0)) n := by
  rw [← zeroV_any, allN]
  simp only [tab, List.any_map, List.all_eq_not_any_not]
  congr 1
  exact congrArg (List.any (List.range n)) (by funext i; simp)


theorem topW_c (h : AH) (v : Value) (x : SWhole) (hx : RWhole h v x) : ACalls Try.prog 59 [v] h (fun r h' => r = .int .i64 ((x.dims.length : Int) - 1) ∧ h' = h) := by
  obtain ⟨b1, o1, b2, o2, kx, qx⟩ := hx.can
  refine ACalls.wk (args' := [.agg #[.slice (some ⟨b1, o1, none⟩) x.dims.length 0, .slice (some ⟨b2, o2, none⟩) x.maps.length 0]]) ?_ (.cons kx .nil)
  refine ACalls.of Tt.tab Try.func59 rfl (by kernel_rfl) Try.ntmps59 _ rfl rfl (fun hw => ?_)
  have S := Sep.start h
  refine S.new fun b g S => ?_
  refine LoadX.same (S.at_ 0 rfl) rfl ?_
  refine CallX.same (sizeI_c _ _ _ _ _) ?_
  rintro r g' ⟨rfl, rfl⟩
  have := qx.1.1
  refine WR.i64 ?_
  exact FinX.keep hw S.le rfl ⟨rfl, rfl⟩

theorem isMatrix11_c (h : AH) (x : Int) : ACalls Try.prog 95 [.int .i64 x] h (fun r h' => r = .bool (!decide (-9 ≤ x ∧ x ≤ 9)) ∧ h' = h) := by
  refine ACalls.of Tt.tab Try.func95 rfl (by kernel_rfl) Try.ntmps95 _ rfl rfl (fun hw => ?_)
  refine CallX.same (between_c _ x (-9) 9) ?_
  rintro r g ⟨rfl, rfl⟩
  exact FinX.keep hw (Le.refl _) rfl ⟨rfl, rfl⟩
theorem isMatrix1_c (h : AH) (m : Int) (b o b1 : Nat) (r : List Int) (hb : look h b1 = some ⟨[.int .i64 m], some (tI, 1)⟩) (hx : RI h (.slice (some ⟨b, o, none⟩) r.length 0) r) :
    ACalls Try.prog 94 [.slice (some ⟨b, o, none⟩) r.length 0, .pointer (some ⟨b1, 0, none⟩)] h (fun v h' => v = .bool (!wrow m r) ∧ h' = h) := by
  refine ACalls.of Tt.tab Try.func94 rfl (by kernel_rfl) Try.ntmps94 _ rfl rfl (fun hw => ?_)
  refine DrawX.of Tt.tab follows_any [] [] [0, 1, 2, 3, 4, 5, 6, 7, 8] rfl (by kernel_rfl) (by kernel_rfl) ?_
  refine QCall.of (fun g2 hl => sizeI_c g2 _ _ _ _) rfl ?_
  refine LoadX.same hb rfl ?_
  refine BIf.mk (fun e1 => ?_) (fun e1 => ?_)
  · have e1 : ¬ (r.length : Int) = m := by simpa using e1
    exact FinX.keep hw (Le.refl _) rfl ⟨by simp [wrow, e1], rfl⟩
  have e1 : (r.length : Int) = m := by simpa using e1
  refine QCall.of (fun g2 hl => containsFuncI_c g2 _ r _ _ (fun x => !decide (-9 ≤ x ∧ x ≤ 9)) (RI.le _ _ _ _ hl hx) (fun x _ u hu => by subst hu; exact isMatrix11_c _ x)) rfl ?_
  refine FinX.keep hw (Le.refl _) rfl ⟨?_, rfl⟩
  simp only [wrow, decide_eq_true e1, Bool.true_and, List.all_eq_not_any_not, Bool.not_not]
theorem isMatrix_c (h : AH) (m : Int) (v : Value) (rows : List (List Int)) (hx : RII h v rows) : ACalls Try.prog 46 [v, .int .i64 m] h (fun r h' => r = .bool (decide (rows.length ≤ 6) && decide (0 ≤ m ∧ m ≤ 6) && wmat m rows) ∧ h' = h) := by
  obtain ⟨b, o, k1, hx⟩ := hx.can
  refine ACalls.wk (args' := [.slice (some ⟨b, o, none⟩) rows.length 0, .int .i64 m]) ?_ (.cons k1 (.cons (Wk.refl _) .nil))
  refine ACalls.of Tt.tab Try.func46 rfl (by kernel_rfl) Try.ntmps46 _ rfl rfl (fun hw => ?_)
  have S := Sep.start h
  refine S.new fun b1 g S => ?_
  refine BIf.mk (fun e1 => ?_) (fun e1 => ?_)
  · have e1 : rows.length ≤ 6 := by simp at e1; omega
    refine LoadX.same (v := .int .i64 m) (S.at_ 0 rfl) rfl ?_
    refine CallX.same (between_c _ m 0 6) ?_
    rintro r g ⟨rfl, rfl⟩
    refine BIf.mk (fun e2 => ?_) (fun e2 => ?_)
    · refine CallX.same (containsFuncII_c _ _ rows _ _ (fun r => !wrow m r) (RII.le _ _ _ _ S.le hx) (fun x _ b o hr => isMatrix1_c _ m b o b1 x (S.at_ 0 rfl) hr)) ?_
      rintro r g ⟨rfl, rfl⟩
      refine FinX.keep hw S.le rfl ⟨?_, rfl⟩
      rw [decide_eq_true e1, e2, wmat, List.all_eq_not_any_not]; rfl
    · exact FinX.keep hw S.le rfl ⟨by rw [decide_eq_true e1, e2]; rfl, rfl⟩
  · have e1 : ¬ rows.length ≤ 6 := by simp at e1; omega
    refine BIf.no rfl ?_
    exact FinX.keep hw S.le rfl ⟨by rw [decide_eq_false e1]; rfl, rfl⟩

theorem l07Matrix_c (h : AH) (n m : Int) (v : Value) (rows : List (List Int)) (hx : RII h v rows) : ACalls Try.prog 54 [v, .int .i64 n, .int .i64 m] h (fun r h' => r = .bool (decide ((rows.length : Int) = n) && wmat m rows) ∧ h' = h) := by
  obtain ⟨hm, b, o, k1, c1⟩ := hx
  refine ACalls.wk (args' := [.slice (some ⟨b, o, none⟩) rows.length 0, .int .i64 n, .int .i64 m]) ?_ (.cons k1 (.cons (Wk.refl _) (.cons (Wk.refl _) .nil)))
  refine ACalls.of Tt.tab Try.func54 rfl (by kernel_rfl) Try.ntmps54 _ rfl rfl (fun hw => ?_)
  refine BIf.mk (fun e1 => ?_) (fun e1 => ?_)
  · have e1 : ¬ (rows.length : Int) = n := by simpa using e1
    exact FinX.keep hw (Le.refl _) rfl ⟨by simp [e1], rfl⟩
  have e1 : (rows.length : Int) = n := by simpa using e1
  have bad : ∀ i, i < rows.length → wrow m (row rows i) = false → (decide ((rows.length : Int) = n) && wmat m rows) = false := fun i hi hf => by
    have : wmat m rows = false := List.all_eq_false.2 ⟨_, row_mem hi, by rw [hf]; simp⟩
    rw [this, Bool.and_false]
  refine ⟨⟨[0, 2, 7], fun n' vs g => ∃ i : Nat, n' = rows.length - i ∧ i ≤ rows.length ∧ g = h ∧ (∀ k, k < i → wrow m (row rows k) = true) ∧ vs = [.slice (some ⟨b, o, none⟩) rows.length 0, .int .i64 m, .int .i64 i], _, ⟨0, rfl, Nat.zero_le _, rfl, fun k hk => by omega, rfl⟩, ?_⟩⟩
  rintro n' vs g ⟨i, rfl, hi, rfl, hz, rfl⟩
  refine BIf.mk (fun h2 => ?_) (fun h2 => ?_)
  · have hlt : i < rows.length := by simpa using h2
    refine IdxX.mk (by omega) (by omega) ?_
    refine c1.rowY (Le.refl _) hlt fun b4 o4 h4 => ?_
    have m4 := h4.1
    refine BIf.mk (fun h3 => ?_) (fun h3 => ?_)
    · have h3 : ¬ ((row rows i).length : Int) = m := by simpa using h3
      exact FinX.keep hw (Le.refl _) rfl ⟨by rw [bad i hlt (by simp [wrow, h3])], rfl⟩
    have h3 : ((row rows i).length : Int) = m := by simpa using h3
    refine ⟨⟨[0, 2, 7, 8], fun n' vs g' => ∃ j : Nat, n' = (row rows i).length - j ∧ j ≤ (row rows i).length ∧ g' = g ∧ (∀ k, k < j → -9 ≤ ith (row rows i) k ∧ ith (row rows i) k ≤ 9) ∧ vs = [.slice (some ⟨b, o, none⟩) rows.length 0, .int .i64 m, .int .i64 i, .int .i64 j], _, ⟨0, rfl, Nat.zero_le _, rfl, fun k hk => by omega, rfl⟩, ?_⟩⟩
    rintro n' vs g' ⟨j, rfl, hj, rfl, hy, rfl⟩
    refine IdxX.mk (by omega) (by omega) ?_
    refine c1.rowY (Le.refl _) hlt fun b5 o5 h5 => ?_
    refine BIf.mk (fun h6 => ?_) (fun h6 => ?_)
    · have h6 : j < (row rows i).length := by simpa using h6
      refine IdxX.mk (by omega) (by omega) ?_
      refine c1.rowY (Le.refl _) hlt fun b7 o7 h7 => ?_
      have c7 := h7.cells rfl
      refine IdxX.mk (by omega) (by omega) ?_
      refine c7.ith (Le.refl _) h6 ?_
      refine CallX.same (l01In_c _ _ (-9) 9) ?_
      rintro r g ⟨rfl, rfl⟩
      refine BIf.mk (fun h8 => ?_) (fun h8 => ?_)
      · have h8 : decide (-9 ≤ ith (row rows i) j ∧ ith (row rows i) j ≤ 9) = false := by simpa only [Bool.not_eq_true'] using h8
        refine FinX.keep hw (Le.refl _) rfl ⟨?_, rfl⟩
        have : (row rows i).all (fun x => decide (-9 ≤ x ∧ x ≤ 9)) = false := List.all_eq_false.2 ⟨_, ith_mem h6, by rw [h8]; simp⟩
        rw [bad i hlt (by simp only [wrow, this, Bool.and_false])]
      · have h8 : decide (-9 ≤ ith (row rows i) j ∧ ith (row rows i) j ≤ 9) = true := by simpa only [Bool.not_eq_false'] using h8
        refine WR.i64 ?_
        refine ⟨(row rows i).length - (j + 1), by omega, j + 1, rfl, h6, rfl, fun k hk => ?_, rfl⟩
        rcases (by omega : k < j ∨ k = j) with hk | rfl
        · exact hy k hk
        · simpa using h8
    · have hj2 : j = (row rows i).length := by simp at h6; omega
      subst hj2
      refine WR.i64 ?_
      refine ⟨rows.length - (i + 1), by omega, i + 1, rfl, hlt, rfl, fun k hk => ?_, rfl⟩
      rcases (by omega : k < i ∨ k = i) with hk | rfl
      · exact hz k hk
      · have : (row rows k).all (fun x => decide (-9 ≤ x ∧ x ≤ 9)) = true := List.all_eq_true.2 fun y hy2 => by
          obtain ⟨t, ht, rfl⟩ := List.getElem_of_mem hy2
          rw [ith_get ht]; exact decide_eq_true (hy t ht)
        simp only [wrow, this, decide_eq_true h3, Bool.and_self]
  · have hi2 : i = rows.length := by simp at h2; omega
    subst hi2
    refine FinX.keep hw (Le.refl _) rfl ⟨?_, rfl⟩
    have : wmat m rows = true := List.all_eq_true.2 fun y hy => by
      obtain ⟨k, hk, rfl⟩ := List.getElem_of_mem hy
      rw [row_get hk]; exact hz k hk
    rw [this, decide_eq_true e1]; rfl

end Go.Gl

set_option linter.unusedVariables false
set_option linter.unusedSimpArgs false
namespace Go.Gl
open Go.Proofs Go.Proofs.Ytoeapenknlfffaa Go.Pl

theorem whole_bad1 {x : SWhole} {k : Nat} (hk : k < x.maps.length) (hf : wShape x k = false) : wholeOk x = false := by simp [wholeOk, allN_false hk hf]
theorem whole_bad2 {x : SWhole} {k i : Nat} (hk : k + 1 < x.maps.length) (hi : i < (mat x.maps (k + 1)).length) (hf : wRow x (k + 1) i = false) : wholeOk x = false := by
  have : (fun k => decide (k = 0) || wSq x k) (k + 1) = false := by simp [wSq, allN_false hi hf]
  simp only [wholeOk, allN_false (f := fun k => decide (k = 0) || wSq x k) hk this, Bool.and_false]
theorem whole_bad3 {x : SWhole} {k i c : Nat} (hk : k + 1 < x.maps.length) (hi : i < (mat x.maps (k + 1)).length) (hc : c < (ith x.dims k).toNat) (hf : ¬ dot (row (mat x.maps (k + 1)) i) (mat x.maps k) c (ith x.dims (k + 1)).toNat = 0) : wholeOk x = false :=
  whole_bad2 hk hi (allN_false (f := fun c => decide (dot (row (mat x.maps (k + 1)) i) (mat x.maps k) c (ith x.dims (k + 1)).toNat = 0)) hc (decide_eq_false hf))


theorem l07Is_c (h : AH) (v : Value) (x : SWhole) (hx : RWhole h v x) : ACalls Try.prog 60 [v] h (fun r h' => r = .bool (wholeOk x) ∧ h' = h) := by
  obtain ⟨b1, o1, b2, o2, kx, qx⟩ := hx.can
  refine ACalls.wk (args' := [.agg #[.slice (some ⟨b1, o1, none⟩) x.dims.length 0, .slice (some ⟨b2, o2, none⟩) x.maps.length 0]]) ?_ (.cons kx .nil)
  refine ACalls.of Tt.tab Try.func60 rfl (by kernel_rfl) Try.ntmps60 _ rfl rfl (fun hw => ?_)
  have S := Sep.start h
  have c1 := RS.cells qx.1 rfl
  have c2 := RS.cells qx.2 rfl
  have m1 := qx.1.1
  refine S.new fun b g S => ?_
  have hb : look g b = some ⟨[.slice (some ⟨b1, o1, none⟩) x.dims.length 0, .slice (some ⟨b2, o2, none⟩) x.maps.length 0], some (34, 2)⟩ := S.at_ 0 rfl
  have bad : wHead x = false → wholeOk x = false := fun hh => by simp [wholeOk, hh]
  refine LoadX.same (v := .slice (some ⟨b1, o1, none⟩) x.dims.length 0) hb rfl ?_
  refine BIf.mk (fun e2 => ?_) (fun e2 => ?_)
  · have e2 : x.dims.length < 1 := by simp at e2; omega
    refine BIf.yes rfl (BIf.yes rfl ?_)
    exact FinX.keep hw S.le rfl ⟨by rw [bad (by simp only [wHead, decide_eq_false (show ¬ (0 ≤ (x.dims.length : Int) - 1 ∧ (x.dims.length : Int) - 1 ≤ 5) by omega)]; simp)], rfl⟩
  have e2 : ¬ x.dims.length < 1 := by simp at e2; omega
  refine LoadX.same (v := .slice (some ⟨b1, o1, none⟩) x.dims.length 0) hb rfl ?_
  refine BIf.mk (fun e2' => ?_) (fun e2' => ?_)
  · have e2' : x.dims.length > 6 := by simp at e2'; omega
    refine BIf.yes rfl ?_
    exact FinX.keep hw S.le rfl ⟨by rw [bad (by simp only [wHead, decide_eq_false (show ¬ (0 ≤ (x.dims.length : Int) - 1 ∧ (x.dims.length : Int) - 1 ≤ 5) by omega)]; simp)], rfl⟩
  have e2' : ¬ x.dims.length > 6 := by simp at e2'; omega
  refine LoadX.same (v := .slice (some ⟨b2, o2, none⟩) x.maps.length 0) hb rfl ?_
  refine LoadX.same (v := .slice (some ⟨b1, o1, none⟩) x.dims.length 0) hb rfl ?_
  refine WR.i64 ?_
  refine BIf.mk (fun e3 => ?_) (fun e3 => ?_)
  · have e3 : ¬ (x.maps.length : Int) = x.dims.length - 1 := by simpa using e3
    exact FinX.keep hw S.le rfl ⟨by rw [bad (by simp only [wHead, decide_eq_false e3]; simp)], rfl⟩
  have e3 : (x.maps.length : Int) = x.dims.length - 1 := by simpa using e3
  refine ⟨⟨[1, 3], fun n' vs g2 => ∃ k : Nat, n' = x.dims.length - k ∧ k ≤ x.dims.length ∧ g2 = g ∧ (∀ i, i < k → 0 ≤ ith x.dims i ∧ ith x.dims i ≤ 6) ∧ vs = [.pointer (some ⟨b, 0, none⟩), .int .i64 k], _, ⟨0, rfl, Nat.zero_le _, rfl, fun i hi => by omega, rfl⟩, ?_⟩⟩
  rintro n' vs g2 ⟨k, rfl, hk, rfl, hs, rfl⟩
  refine LoadX.same (v := .slice (some ⟨b1, o1, none⟩) x.dims.length 0) hb rfl ?_
  refine BIf.mk (fun h2 => ?_) (fun h2 => ?_)
  · have hlt : k < x.dims.length := by simpa using h2
    refine LoadX.same (v := .slice (some ⟨b1, o1, none⟩) x.dims.length 0) hb rfl ?_
    refine IdxX.mk (by omega) (by omega) ?_
    refine c1.ith S.le hlt ?_
    refine CallX.same (l01In_c _ _ 0 6) ?_
    rintro r g3 ⟨rfl, rfl⟩
    refine BIf.mk (fun h3 => ?_) (fun h3 => ?_)
    · have h3 : decide (0 ≤ ith x.dims k ∧ ith x.dims k ≤ 6) = false := by simpa only [Bool.not_eq_true'] using h3
      refine FinX.keep hw S.le rfl ⟨?_, rfl⟩
      rw [bad]
      have : (x.dims.all fun n => decide (0 ≤ n ∧ n ≤ 6)) = false := List.all_eq_false.2 ⟨_, ith_mem hlt, by rw [h3]; simp⟩
      simp only [wHead, this, Bool.and_false]
    · have h3 : decide (0 ≤ ith x.dims k ∧ ith x.dims k ≤ 6) = true := by simpa only [Bool.not_eq_false'] using h3
      refine WR.i64 ?_
      refine ⟨x.dims.length - (k + 1), by omega, k + 1, rfl, hlt, rfl, fun i hi => ?_, rfl⟩
      rcases (by omega : i < k ∨ i = k) with hi | rfl
      · exact hs i hi
      · simpa using h3
  have hk2 : k = x.dims.length := by simp at h2; omega
  subst hk2
  have hd : wHead x = true := by
    have : (x.dims.all fun n => decide (0 ≤ n ∧ n ≤ 6)) = true := List.all_eq_true.2 fun y hy => by
      obtain ⟨i, hi, rfl⟩ := List.getElem_of_mem hy
      rw [ith_get hi]
      exact decide_eq_true (hs i hi)
    simp only [wHead, this, decide_eq_true e3, decide_eq_true (show 0 ≤ (x.dims.length : Int) - 1 ∧ (x.dims.length : Int) - 1 ≤ 5 by omega), Bool.and_true]
  have hh := wHead_mk hd
  have hlen := hh.len
  clear h2 hk hs
  refine ⟨⟨[1, 4], fun n' vs g3 => ∃ k : Nat, n' = x.maps.length - k ∧ k ≤ x.maps.length ∧ g3 = g2 ∧ allN (wShape x) k = true ∧ allN (fun k => decide (k = 0) || wSq x k) k = true ∧ vs = [.pointer (some ⟨b, 0, none⟩), .int .i64 k], _, ⟨0, rfl, Nat.zero_le _, rfl, rfl, rfl, rfl⟩, ?_⟩⟩
  rintro n' vs g3 ⟨k, rfl, hk, rfl, hs, hq, rfl⟩
  refine LoadX.same (v := .slice (some ⟨b2, o2, none⟩) x.maps.length 0) hb rfl ?_
  refine BIf.mk (fun h2 => ?_) (fun h2 => ?_)
  · have hlt : k < x.maps.length := by simpa using h2
    refine DrawX.of Tt.tab follows_any [] [] [0, 1, 2, 3, 4, 5, 6, 7, 8, 9, 10, 11, 12, 13, 14, 15, 16, 17] rfl (by kernel_rfl) (by kernel_rfl) ?_
    refine LoadX.same (v := .slice (some ⟨b2, o2, none⟩) x.maps.length 0) hb rfl ?_
    refine IdxX.mk (by omega) (by omega) ?_
    refine c2.mat S.le hlt fun b4 o4 h4 => ?_
    refine LoadX.same (v := .slice (some ⟨b1, o1, none⟩) x.dims.length 0) hb rfl ?_
    refine WR.as (r := ((k + 1 : Nat) : Int)) (by omega) ?_
    refine IdxX.mk (by omega) (by omega) ?_
    refine c1.ith S.le (show k + 1 < x.dims.length by omega) ?_
    refine LoadX.same (v := .slice (some ⟨b1, o1, none⟩) x.dims.length 0) hb rfl ?_
    refine IdxX.mk (by omega) (by omega) ?_
    refine c1.ith S.le (show k < x.dims.length by omega) ?_
    refine QCall.of (fun g4 hl => l07Matrix_c g4 (ith x.dims (k + 1)) (ith x.dims k) _ (mat x.maps k) (RII.le _ _ _ _ (S.le.trans hl) h4)) rfl ?_
    refine BIf.mk (fun h3 => ?_) (fun h3 => ?_)
    · have h3 : wShape x k = false := by
        have h4 : (decide (((mat x.maps k).length : Int) = ith x.dims (k + 1)) && wmat (ith x.dims k) (mat x.maps k)) = false := by simpa only [Bool.not_eq_true'] using h3
        exact h4
      exact FinX.keep hw S.le rfl ⟨by rw [whole_bad1 hlt h3], rfl⟩
    have h3 : wShape x k = true := by
      have h4 : (decide (((mat x.maps k).length : Int) = ith x.dims (k + 1)) && wmat (ith x.dims k) (mat x.maps k)) = true := by simpa only [Bool.not_eq_false'] using h3
      exact h4
    obtain ⟨f1, f2⟩ := wShape_mk h3
    have fd := hh.dims (k + 1)
    have fe := hh.dims k
    refine ⟨⟨[1, 4, 5], fun n' vs g4 => ∃ i : Nat, n' = (mat x.maps k).length - i ∧ i ≤ (mat x.maps k).length ∧ g4 = g3 ∧ (0 < k → allN (wRow x k) i = true) ∧ vs = [.pointer (some ⟨b, 0, none⟩), .int .i64 k, .int .i64 i], _, ⟨0, rfl, by omega, rfl, fun _ => rfl, rfl⟩, ?_⟩⟩
    rintro n' vs g4 ⟨i, rfl, hi, rfl, hr, rfl⟩
    refine LoadX.same (v := .slice (some ⟨b2, o2, none⟩) x.maps.length 0) hb rfl ?_
    refine IdxX.mk (by omega) (by omega) ?_
    refine c2.mat S.le hlt fun b5 o5 h5 => ?_
    have done : (0 < k → allN (wRow x k) (mat x.maps k).length = true) → allN (fun k => decide (k = 0) || wSq x k) (k + 1) = true := fun hh => by
      rw [allN_succ, hq]
      rcases Nat.eq_zero_or_pos k with h0 | h0
      · simp [h0]
      · simp [wSq, hh h0]
    refine BIf.mk (fun h6 => ?_) (fun h6 => ?_)
    · have h6 : i < (mat x.maps k).length := by simpa using h6
      refine BIf.mk (fun h7 => ?_) (fun h7 => ?_)
      · have h7 : 0 < k := by simpa using h7
        obtain ⟨j, rfl⟩ : ∃ j, k = j + 1 := ⟨k - 1, by omega⟩
        obtain ⟨f3, f4⟩ := wShape_mk (allN_at hs (show j < j + 1 by omega))
        have fd0 := hh.dims j
        obtain ⟨r1, r2⟩ := wmat_row f2 h6
        refine ⟨⟨[1, 4, 5, 6], fun n' vs g5 => ∃ c : Nat, n' = (ith x.dims j).toNat - c ∧ c ≤ (ith x.dims j).toNat ∧ g5 = g4 ∧ (∀ t, t < c → dot (row (mat x.maps (j + 1)) i) (mat x.maps j) t (ith x.dims (j + 1)).toNat = 0) ∧ vs = [.pointer (some ⟨b, 0, none⟩), .int .i64 ((j + 1 : Nat) : Int), .int .i64 i, .int .i64 c], _, ⟨0, rfl, Nat.zero_le _, rfl, fun t ht => by omega, rfl⟩, ?_⟩⟩
        rintro n' vs g5 ⟨c, rfl, hc, rfl, hz, rfl⟩
        refine LoadX.same (v := .slice (some ⟨b1, o1, none⟩) x.dims.length 0) hb rfl ?_
        refine WR.as (r := (j : Int)) (by omega) ?_
        refine IdxX.mk (by omega) (by omega) ?_
        refine c1.ith S.le (show j < x.dims.length by omega) ?_
        refine BIf.mk (fun h8 => ?_) (fun h8 => ?_)
        · have h8 : c < (ith x.dims j).toNat := by simp at h8; omega
          refine ⟨⟨[1, 4, 5, 6, 7, 8], fun n' vs g6 => ∃ t : Nat, n' = (ith x.dims (j + 1)).toNat - t ∧ t ≤ (ith x.dims (j + 1)).toNat ∧ g6 = g5 ∧ vs = [.pointer (some ⟨b, 0, none⟩), .int .i64 ((j + 1 : Nat) : Int), .int .i64 i, .int .i64 c, .int .i64 (dot (row (mat x.maps (j + 1)) i) (mat x.maps j) c t), .int .i64 t], _, ⟨0, rfl, Nat.zero_le _, rfl, rfl⟩, ?_⟩⟩
          rintro n' vs g6 ⟨t, rfl, ht, rfl, rfl⟩
          have q1 : -(81 * (t : Int)) ≤ dot (row (mat x.maps (j + 1)) i) (mat x.maps j) c t ∧ dot (row (mat x.maps (j + 1)) i) (mat x.maps j) c t ≤ 81 * (t : Int) := dot_rng (c := c) r2 (wmat_ent f4) t
          have q2 := mul_abs (r2 t) (wmat_ent f4 t c)
          unfold ent at q2
          refine LoadX.same (v := .slice (some ⟨b1, o1, none⟩) x.dims.length 0) hb rfl ?_
          refine IdxX.mk (by omega) (by omega) ?_
          refine c1.ith S.le (show j + 1 < x.dims.length by omega) ?_
          refine BIf.mk (fun h9 => ?_) (fun h9 => ?_)
          · have h9 : t < (ith x.dims (j + 1)).toNat := by simp at h9; omega
            refine DrawX.of Tt.tab follows_any [] [] [0, 1, 2, 3, 4, 5, 6, 7, 8, 9, 10, 11, 12, 13, 14, 15, 16, 17, 18, 19, 20, 21, 22, 23, 24, 25, 26] rfl (by kernel_rfl) (by kernel_rfl) ?_
            refine LoadX.same (v := .slice (some ⟨b2, o2, none⟩) x.maps.length 0) hb rfl ?_
            refine IdxX.mk (by omega) (by omega) ?_
            refine c2.mat S.le hlt fun b7 o7 h7 => ?_
            refine IdxX.mk (by omega) (by omega) ?_
            refine (h7.cells rfl).rowY S.le h6 fun b8 o8 h8 => ?_
            refine IdxX.mk (by omega) (by omega) ?_
            refine (h8.cells rfl).ith S.le (show t < (row (mat x.maps (j + 1)) i).length by omega) ?_
            refine LoadX.same (v := .slice (some ⟨b2, o2, none⟩) x.maps.length 0) hb rfl ?_
            refine WR.as (r := (j : Int)) (by omega) ?_
            refine IdxX.mk (by omega) (by omega) ?_
            refine c2.mat S.le (show j < x.maps.length by omega) fun b9 o9 h9 => ?_
            refine IdxX.mk (by omega) (by omega) ?_
            refine (h9.cells rfl).rowY S.le (show t < (mat x.maps j).length by omega) fun b10 o10 h10 => ?_
            obtain ⟨s1, s2⟩ := wmat_row f4 (show t < (mat x.maps j).length by omega)
            refine IdxX.mk (by omega) (by omega) ?_
            refine (h10.cells rfl).ith S.le (show c < (row (mat x.maps j) t).length by omega) ?_
            refine WR.i64 ?_
            refine WR.i64 ?_
            refine WR.i64 ?_
            exact ⟨(ith x.dims (j + 1)).toNat - (t + 1), by omega, t + 1, rfl, by omega, rfl, rfl⟩
          · have h9 : t = (ith x.dims (j + 1)).toNat := by simp at h9; omega
            subst h9
            refine BIf.mk (fun h11 => ?_) (fun h11 => ?_)
            · have h11 : ¬ dot (row (mat x.maps (j + 1)) i) (mat x.maps j) c (ith x.dims (j + 1)).toNat = 0 := by simpa using h11
              exact FinX.keep hw S.le rfl ⟨by rw [whole_bad3 hlt h6 h8 h11], rfl⟩
            · have h11 : dot (row (mat x.maps (j + 1)) i) (mat x.maps j) c (ith x.dims (j + 1)).toNat = 0 := by simpa using h11
              refine WR.i64 ?_
              refine ⟨(ith x.dims j).toNat - (c + 1), by omega, c + 1, rfl, by omega, rfl, fun t ht => ?_, rfl⟩
              rcases (by omega : t < c ∨ t = c) with ht | rfl
              · exact hz t ht
              · exact h11
        · have h8 : c = (ith x.dims j).toNat := by simp at h8; omega
          subst h8
          refine WR.i64 ?_
          refine ⟨(mat x.maps (j + 1)).length - (i + 1), by omega, i + 1, rfl, h6, rfl, fun h0 => ?_, rfl⟩
          rw [allN_succ, hr h0]
          exact allN_mk (f := fun c => decide (dot (row (mat x.maps (j + 1)) i) (mat x.maps j) c (ith x.dims (j + 1)).toNat = 0)) fun t ht => decide_eq_true (hz t ht)
      · have h7 : k = 0 := by simp at h7; omega
        refine WR.i64 ?_
        exact ⟨x.maps.length - (k + 1), by omega, k + 1, rfl, hlt, rfl, by rw [allN_succ, hs, h3]; rfl, done (fun h0 => by omega), rfl⟩
    · have hi2 : i = (mat x.maps k).length := by simp at h6; omega
      refine BIf.no rfl ?_
      subst hi2
      refine WR.i64 ?_
      exact ⟨x.maps.length - (k + 1), by omega, k + 1, rfl, hlt, rfl, by rw [allN_succ, hs, h3]; rfl, done hr, rfl⟩
  · have hk2 : k = x.maps.length := by simp at h2; omega
    subst hk2
    refine FinX.keep hw S.le rfl ⟨?_, rfl⟩
    simp only [wholeOk, hd, hs, hq, Bool.and_true]

theorem isWholeS_c (h : AH) (v : Value) (x : SWhole) (hx : RWhole h v x) : ACalls Try.prog 21 [v] h (fun r h' => r = .bool (wholeOk x) ∧ h' = h) := by
  obtain ⟨b1, o1, b2, o2, kx, qx⟩ := hx.can
  refine ACalls.wk (args' := [.agg #[.slice (some ⟨b1, o1, none⟩) x.dims.length 0, .slice (some ⟨b2, o2, none⟩) x.maps.length 0]]) ?_ (.cons kx .nil)
  refine ACalls.of Tt.tab Try.func21 rfl (by kernel_rfl) Try.ntmps21 _ rfl rfl (fun hw => ?_)
  have S := Sep.start h
  refine S.new fun b g S => ?_
  refine LoadX.same (v := .agg #[.slice (some ⟨b1, o1, none⟩) x.dims.length 0, .slice (some ⟨b2, o2, none⟩) x.maps.length 0]) (S.at_ 0 rfl) rfl ?_
  refine CallX.same (l07Is_c _ _ x ⟨_, _, rfl, qx.le S.le⟩) ?_
  rintro r g' ⟨rfl, rfl⟩
  exact FinX.keep hw S.le rfl ⟨rfl, rfl⟩

end Go.Gl

set_option linter.unusedVariables false
set_option linter.unusedSimpArgs false
namespace Go.Gl
open Go.Proofs Go.Proofs.Ytoeapenknlfffaa Go.Pl


theorem sizeW_c (h : AH) (b o n c : Nat) : ACalls Try.prog 64 [.slice (some ⟨b, o, none⟩) n c] h (fun r h' => r = .int .i64 n ∧ h' = h) := by
  refine ACalls.of Tt.tab Try.func64 rfl (by kernel_rfl) Try.ntmps64 _ rfl rfl (fun hw => ?_)
  exact FinX.keep hw (Le.refl _) rfl ⟨rfl, rfl⟩
theorem isWhole1_c (h : AH) (x : Int) : ACalls Try.prog 66 [.int .i64 x] h (fun r h' => r = .bool (!decide (0 ≤ x ∧ x ≤ 6)) ∧ h' = h) := by
  refine ACalls.of Tt.tab Try.func66 rfl (by kernel_rfl) Try.ntmps66 _ rfl rfl (fun hw => ?_)
  refine CallX.same (between_c _ x 0 6) ?_
  rintro r g ⟨rfl, rfl⟩
  exact FinX.keep hw (Le.refl _) rfl ⟨rfl, rfl⟩
theorem isWholeI_c (h : AH) (v : Value) (x : SWhole) (hx : RWhole h v x) : ACalls Try.prog 20 [v] h (fun r h' => r = .bool (wholeOk x) ∧ h' = h) := by
  obtain ⟨b1, o1, b2, o2, kx, qx⟩ := hx.can
  refine ACalls.wk (args' := [.agg #[.slice (some ⟨b1, o1, none⟩) x.dims.length 0, .slice (some ⟨b2, o2, none⟩) x.maps.length 0]]) ?_ (.cons kx .nil)
  refine ACalls.of Tt.tab Try.func20 rfl (by kernel_rfl) Try.ntmps20 _ rfl rfl (fun hw => ?_)
  have S := Sep.start h
  have c1 := RS.cells qx.1 rfl
  have c2 := RS.cells qx.2 rfl
  refine S.new fun b g S => ?_
  have hb : look g b = some ⟨[.slice (some ⟨b1, o1, none⟩) x.dims.length 0, .slice (some ⟨b2, o2, none⟩) x.maps.length 0], some (34, 2)⟩ := S.at_ 0 rfl
  have rx : ∀ g2, Le g g2 → RWhole g2 (.agg #[.slice (some ⟨b1, o1, none⟩) x.dims.length 0, .slice (some ⟨b2, o2, none⟩) x.maps.length 0]) x := fun g2 L => ⟨_, _, rfl, qx.le (S.le.trans L)⟩
  have bad : wHead x = false → wholeOk x = false := fun hh => by simp [wholeOk, hh]
  refine DrawX.of Tt.tab follows_any [] [] [0, 1, 2, 3, 4, 5, 6, 7, 8, 9, 10, 11, 12, 13, 14, 15, 16] rfl (by kernel_rfl) (by kernel_rfl) ?_
  refine LoadX.same (v := .agg #[.slice (some ⟨b1, o1, none⟩) x.dims.length 0, .slice (some ⟨b2, o2, none⟩) x.maps.length 0]) hb rfl ?_
  refine QCall.of (fun g2 hl => topW_c g2 _ x (rx g2 hl)) rfl ?_
  refine QCall.of (fun g2 hl => between_c g2 _ 0 5) rfl ?_
  refine BIf.mk (fun e2 => ?_) (fun e2 => ?_)
  · have e2 : decide (0 ≤ (x.dims.length : Int) - 1 ∧ (x.dims.length : Int) - 1 ≤ 5) = false := by simpa only [Bool.not_eq_true'] using e2
    refine BIf.yes rfl (BIf.yes rfl ?_)
    exact FinX.keep hw S.le rfl ⟨by rw [bad (by simp only [wHead, e2]; simp)], rfl⟩
  have e2 : decide (0 ≤ (x.dims.length : Int) - 1 ∧ (x.dims.length : Int) - 1 ≤ 5) = true := by simpa only [Bool.not_eq_false'] using e2
  refine LoadX.same (v := .slice (some ⟨b2, o2, none⟩) x.maps.length 0) hb rfl ?_
  refine QCall.of (fun g2 hl => sizeW_c g2 _ _ _ _) rfl ?_
  refine LoadX.same (v := .agg #[.slice (some ⟨b1, o1, none⟩) x.dims.length 0, .slice (some ⟨b2, o2, none⟩) x.maps.length 0]) hb rfl ?_
  refine QCall.of (fun g2 hl => topW_c g2 _ x (rx g2 hl)) rfl ?_
  refine BIf.mk (fun e3 => ?_) (fun e3 => ?_)
  · have e3 : ¬ (x.maps.length : Int) = x.dims.length - 1 := by simpa using e3
    refine BIf.yes rfl ?_
    exact FinX.keep hw S.le rfl ⟨by rw [bad (by simp only [wHead, decide_eq_false e3]; simp)], rfl⟩
  have e3 : (x.maps.length : Int) = x.dims.length - 1 := by simpa using e3
  refine LoadX.same (v := .slice (some ⟨b1, o1, none⟩) x.dims.length 0) hb rfl ?_
  refine QCall.of (fun g2 hl => containsFuncI_c g2 _ x.dims _ _ (fun n => !decide (0 ≤ n ∧ n ≤ 6)) (RI.le _ _ _ _ (S.le.trans hl) qx.1) (fun n _ u hu => by subst hu; exact isWhole1_c _ n)) rfl ?_
  refine BIf.mk (fun e4 => ?_) (fun e4 => ?_)
  · refine FinX.keep hw S.le rfl ⟨?_, rfl⟩
    rw [bad (by simp only [wHead, List.all_eq_not_any_not, e4]; simp)]
  have hd : wHead x = true := by simp only [wHead, e2, decide_eq_true e3, List.all_eq_not_any_not, e4]; rfl
  have hh := wHead_mk hd
  have hlen := hh.len
  have hhi := hh.hi
  refine LoadX.same (v := .slice (some ⟨b2, o2, none⟩) x.maps.length 0) hb rfl ?_
  refine ⟨⟨[1, 31, 32, 33], fun n' vs g2 => ∃ k : Nat, n' = x.maps.length - k ∧ k ≤ x.maps.length ∧ g2 = g ∧ allN (wShape x) k = true ∧ vs = [.pointer (some ⟨b, 0, none⟩), .slice (some ⟨b2, o2, none⟩) x.maps.length 0, .int .i64 x.maps.length, .int .i64 k], _, ⟨0, rfl, Nat.zero_le _, rfl, rfl, rfl⟩, ?_⟩⟩
  rintro n' vs g2 ⟨k, rfl, hk, rfl, hs, rfl⟩
  refine BIf.mk (fun h2 => ?_) (fun h2 => ?_)
  · have hlt : k < x.maps.length := by simpa using h2
    refine IdxX.mk (by omega) (by omega) ?_
    refine c2.mat S.le hlt fun b4 o4 h4 => ?_
    refine DrawX.of Tt.tab follows_any [] [] [0, 1, 2, 3, 4, 5, 6, 7, 8, 9, 10, 11, 12, 13, 14, 15, 16, 17, 18] rfl (by kernel_rfl) (by kernel_rfl) ?_
    refine QCall.of (fun g2 hl => sizeII_c g2 _ _ _ _) rfl ?_
    refine LoadX.same (v := .slice (some ⟨b1, o1, none⟩) x.dims.length 0) hb rfl ?_
    refine WR.as (r := ((k + 1 : Nat) : Int)) (by omega) ?_
    refine IdxX.mk (by omega) (by omega) ?_
    refine c1.ith S.le (show k + 1 < x.dims.length by omega) ?_
    refine BIf.mk (fun h3 => ?_) (fun h3 => ?_)
    · have h3 : ¬ ((mat x.maps k).length : Int) = ith x.dims (k + 1) := by simpa using h3
      refine BIf.yes rfl ?_
      exact FinX.keep hw S.le rfl ⟨by rw [whole_bad1 hlt (by simp [wShape, h3])], rfl⟩
    have h3 : ((mat x.maps k).length : Int) = ith x.dims (k + 1) := by simpa using h3
    refine LoadX.same (v := .slice (some ⟨b1, o1, none⟩) x.dims.length 0) hb rfl ?_
    refine IdxX.mk (by omega) (by omega) ?_
    refine c1.ith S.le (show k < x.dims.length by omega) ?_
    refine QCall.of (fun g2 hl => isMatrix_c g2 (ith x.dims k) _ (mat x.maps k) (RII.le _ _ _ _ (S.le.trans hl) h4)) rfl ?_
    have fd := hh.dims (k + 1)
    have fe := hh.dims k
    have hmx : (decide ((mat x.maps k).length ≤ 6) && decide (0 ≤ ith x.dims k ∧ ith x.dims k ≤ 6) && wmat (ith x.dims k) (mat x.maps k)) = wmat (ith x.dims k) (mat x.maps k) := by
      rw [decide_eq_true (show (mat x.maps k).length ≤ 6 by omega), decide_eq_true fe]; rfl
    rw [hmx]
    refine BIf.mk (fun h5 => ?_) (fun h5 => ?_)
    · have h5 : wmat (ith x.dims k) (mat x.maps k) = false := by simpa using h5
      exact FinX.keep hw S.le rfl ⟨by rw [whole_bad1 hlt (by simp [wShape, h5])], rfl⟩
    have h5 : wmat (ith x.dims k) (mat x.maps k) = true := by simpa using h5
    refine WR.i64 ?_
    exact ⟨x.maps.length - (k + 1), by omega, k + 1, rfl, hlt, rfl, by rw [allN_succ, hs]; simp [wShape, h3, h5], rfl⟩
  have hk2 : k = x.maps.length := by simp at h2; omega
  subst hk2
  clear h2 hk
  have S0 : Sep g2.length g2 g2 [] := Sep.start g2
  refine ⟨⟨[1, 5], fun n' vs g3 => ∃ k : Nat, n' = x.maps.length - k ∧ k ≤ x.maps.length ∧ Le g2 g3 ∧ allN (fun k => decide (k = 0) || wSq x k) (k + 1) = true ∧ vs = [.pointer (some ⟨b, 0, none⟩), .int .i64 ((k + 1 : Nat) : Int)], _, ⟨0, rfl, by omega, Le.refl _, rfl, rfl⟩, ?_⟩⟩
  rintro n' vs g3 ⟨k, rfl, hk, L, hq, rfl⟩
  have hb3 := L.at_ _ _ hb
  refine LoadX.same (v := .slice (some ⟨b2, o2, none⟩) x.maps.length 0) hb3 rfl ?_
  refine BIf.mk (fun h2 => ?_) (fun h2 => ?_)
  · have hlt : k + 1 < x.maps.length := by simp at h2; omega
    refine LoadX.same (v := .slice (some ⟨b2, o2, none⟩) x.maps.length 0) hb3 rfl ?_
    refine IdxX.mk (by omega) (by omega) ?_
    refine c2.mat (S.le.trans L) hlt fun b4 o4 h4 => ?_
    have c4 := h4.cells rfl
    obtain ⟨f1, f2⟩ := wShape_mk (allN_at hs hlt)
    obtain ⟨f3, f4⟩ := wShape_mk (allN_at hs (show k < x.maps.length by omega))
    have fd := hh.dims (k + 1 + 1)
    have fe := hh.dims (k + 1)
    have fd0 := hh.dims k
    refine ⟨⟨[1, 5, 69, 70, 71], fun n' vs g3 => ∃ i : Nat, n' = (mat x.maps (k + 1)).length - i ∧ i ≤ (mat x.maps (k + 1)).length ∧ Le g2 g3 ∧ allN (wRow x (k + 1)) i = true ∧ vs = [.pointer (some ⟨b, 0, none⟩), .int .i64 ((k + 1 : Nat) : Int), .slice (some ⟨b4, o4, none⟩) (mat x.maps (k + 1)).length 0, .int .i64 (mat x.maps (k + 1)).length, .int .i64 i], _, ⟨0, rfl, by omega, L, rfl, rfl⟩, ?_⟩⟩
    rintro n' vs g3 ⟨i, rfl, hi, L, hr, rfl⟩
    have hb3 := L.at_ _ _ hb
    refine BIf.mk (fun h6 => ?_) (fun h6 => ?_)
    · have h6 : i < (mat x.maps (k + 1)).length := by simpa using h6
      obtain ⟨r1, r2⟩ := wmat_row f2 h6
      refine IdxX.mk (by omega) (by omega) ?_
      refine c4.rowY (S.le.trans L) h6 fun b5 o5 h7 => ?_
      have c5 := h7.cells rfl
      refine LoadX.same (v := .slice (some ⟨b1, o1, none⟩) x.dims.length 0) hb3 rfl ?_
      refine WR.as (r := (k : Int)) (by omega) ?_
      refine IdxX.mk (by omega) (by omega) ?_
      refine c1.ith (S.le.trans L) (show k < x.dims.length by omega) ?_
      obtain ⟨N, hN⟩ : ∃ N : Nat, ith x.dims k = N := ⟨(ith x.dims k).toNat, by omega⟩
      rw [hN]
      have T : Sep g3.length g3 g3 [] := Sep.start g3
      refine ⟨by omega, rfl, by omega, by simp only [Tt.ti2]; omega, T.new fun b6 g T => ?_⟩
      have T := T.recast 0 (cells' := (tab N (fun c => dot (row (mat x.maps (k + 1)) i) (mat x.maps k) c 0)).map (.int .i64)) rfl ((zeros_tab N).trans (by simp [dot, sm]))
      refine ⟨⟨[1, 5, 8, 69, 70, 71, 82, 83, 84], fun n' vs g => ∃ j : Nat, n' = (row (mat x.maps (k + 1)) i).length - j ∧ j ≤ (row (mat x.maps (k + 1)) i).length ∧ Sep g3.length g3 g [.bx b6 tI 1 ((tab N (fun c => dot (row (mat x.maps (k + 1)) i) (mat x.maps k) c j)).map (.int .i64))] ∧
        vs = [.pointer (some ⟨b, 0, none⟩), .int .i64 ((k + 1 : Nat) : Int), .slice (some ⟨b6, 0, none⟩) N 1, .slice (some ⟨b4, o4, none⟩) (mat x.maps (k + 1)).length 0, .int .i64 (mat x.maps (k + 1)).length, .int .i64 i, .slice (some ⟨b5, o5, none⟩) (row (mat x.maps (k + 1)) i).length 0, .int .i64 (row (mat x.maps (k + 1)) i).length, .int .i64 j], _, ⟨0, rfl, Nat.zero_le _, T, rfl⟩, ?_⟩⟩
      rintro n' vs g ⟨j, rfl, hj, T, rfl⟩
      have L2 := L.trans T.le
      have hb4 := L2.at_ _ _ hb
      refine BIf.mk (fun h8 => ?_) (fun h8 => ?_)
      · have h8 : j < (row (mat x.maps (k + 1)) i).length := by simpa using h8
        refine IdxX.mk (by omega) (by omega) ?_
        refine c5.ith ((S.le.trans L).trans T.le) h8 ?_
        refine LoadX.same (v := .slice (some ⟨b2, o2, none⟩) x.maps.length 0) hb4 rfl ?_
        refine WR.as (r := (k : Int)) (by omega) ?_
        refine IdxX.mk (by omega) (by omega) ?_
        refine c2.mat (S.le.trans L2) (show k < x.maps.length by omega) fun b7 o7 h9 => ?_
        refine IdxX.mk (by omega) (by omega) ?_
        refine (h9.cells rfl).rowY (S.le.trans L2) (show j < (mat x.maps k).length by omega) fun b8 o8 h10 => ?_
        have c8 := h10.cells rfl
        obtain ⟨s1, s2⟩ := wmat_row f4 (show j < (mat x.maps k).length by omega)
        have s3 : (row (mat x.maps k) j).length = N := by omega
        refine ⟨⟨[1, 5, 8, 10, 69, 70, 71, 82, 83, 84, 97, 98, 99], fun n' vs g => ∃ c : Nat, n' = N - c ∧ c ≤ N ∧ Sep g3.length g3 g [.bx b6 tI 1 ((tab N (fun t => if t < c then dot (row (mat x.maps (k + 1)) i) (mat x.maps k) t (j + 1) else dot (row (mat x.maps (k + 1)) i) (mat x.maps k) t j)).map (.int .i64))] ∧
          vs = [.pointer (some ⟨b, 0, none⟩), .int .i64 ((k + 1 : Nat) : Int), .slice (some ⟨b6, 0, none⟩) N 1, .int .i64 (ith (row (mat x.maps (k + 1)) i) j), .slice (some ⟨b4, o4, none⟩) (mat x.maps (k + 1)).length 0, .int .i64 (mat x.maps (k + 1)).length, .int .i64 i, .slice (some ⟨b5, o5, none⟩) (row (mat x.maps (k + 1)) i).length 0, .int .i64 (row (mat x.maps (k + 1)) i).length, .int .i64 j, .slice (some ⟨b8, o8, none⟩) (row (mat x.maps k) j).length 0, .int .i64 (row (mat x.maps k) j).length, .int .i64 c], _, ⟨0, rfl, Nat.zero_le _, T.recast 0 rfl (by rw [← tab_none]), rfl⟩, ?_⟩⟩
        rintro n' vs g ⟨c, rfl, hc, T, rfl⟩
        refine BIf.mk (fun h11 => ?_) (fun h11 => ?_)
        · have h11 : c < N := by simpa [s3] using h11
          have q1 : -(81 * (j : Int)) ≤ dot (row (mat x.maps (k + 1)) i) (mat x.maps k) c j ∧ dot (row (mat x.maps (k + 1)) i) (mat x.maps k) c j ≤ 81 * (j : Int) := dot_rng (c := c) r2 (wmat_ent f4) j
          have q2 := mul_abs (r2 j) (wmat_ent f4 j c)
          unfold ent at q2
          refine IdxX.mk (by omega) (by omega) ?_
          refine c8.ith ((S.le.trans L).trans T.le) (show c < (row (mat x.maps k) j).length by omega) ?_
          refine IdxX.mk (by omega) (by omega) ?_
          refine T.loadT 0 rfl h11 (if_neg (Nat.lt_irrefl c)) ?_
          refine WR.i64 ?_
          refine WR.i64 ?_
          refine IdxX.mk (by omega) (by omega) ?_
          refine T.storeT 0 rfl h11 fun g T => ?_
          refine WR.i64 ?_
          refine ⟨N - (c + 1), by omega, c + 1, rfl, by omega, T.recast 0 rfl ?_, rfl⟩
          rw [tab_step]
          rfl
        · have h11 : c = N := by simp [s3] at h11; omega
          subst h11
          refine WR.i64 ?_
          exact ⟨(row (mat x.maps (k + 1)) i).length - (j + 1), by omega, j + 1, rfl, h8, T.recast 0 rfl (by rw [tab_all (Nat.le_refl _)]), rfl⟩
      · have h8 : j = (row (mat x.maps (k + 1)) i).length := by simp at h8; omega
        subst h8
        have T := T.bx_tr (xs := tab N (fun c => dot (row (mat x.maps (k + 1)) i) (mat x.maps k) c (row (mat x.maps (k + 1)) i).length)) 0 rfl (by rw [tab_length]; omega) 1
        rw [tab_length] at T
        refine CallX.same (isZero_c _ _ _ (T.rd OI.reads 0 rfl)) ?_
        rintro r g' ⟨rfl, rfl⟩
        have hz : zeroV (tab N (fun c => dot (row (mat x.maps (k + 1)) i) (mat x.maps k) c (row (mat x.maps (k + 1)) i).length)) = wRow x (k + 1) i := by
          rw [zeroV_tab]
          show _ = allN (fun c => decide (dot (row (mat x.maps (k + 1)) i) (mat x.maps k) c (ith x.dims (k + 1)).toNat = 0)) (ith x.dims k).toNat
          rw [show (ith x.dims (k + 1)).toNat = (row (mat x.maps (k + 1)) i).length by omega, show (ith x.dims k).toNat = N by omega]
        rw [hz]
        refine BIf.mk (fun h12 => ?_) (fun h12 => ?_)
        · have h12 : wRow x (k + 1) i = false := by simpa using h12
          exact FinX.keep hw (S.le.trans L2) rfl ⟨by rw [whole_bad2 hlt h6 h12], rfl⟩
        · have h12 : wRow x (k + 1) i = true := by simpa using h12
          refine WR.i64 ?_
          exact ⟨(mat x.maps (k + 1)).length - (i + 1), by omega, i + 1, rfl, h6, L2, by rw [allN_succ, hr, h12]; rfl, rfl⟩
    · have hi2 : i = (mat x.maps (k + 1)).length := by simp at h6; omega
      subst hi2
      refine WR.as (r := ((k + 1 + 1 : Nat) : Int)) (by omega) ?_
      exact ⟨x.maps.length - (k + 1), by omega, k + 1, rfl, by omega, L, by rw [allN_succ, hq]; simp [wSq, hr], rfl⟩
  · have h2 : ¬ k + 1 < x.maps.length := by simp at h2; omega
    refine FinX.keep hw (S.le.trans L) rfl ⟨?_, rfl⟩
    have h3 : allN (fun k => decide (k = 0) || wSq x k) x.maps.length = true := allN_mk fun i hi => allN_at hq (by omega)
    simp only [wholeOk, hd, hs, h3, Bool.and_true]

end Go.Gl

/- Chapter 7: IsWhole. No condition. -/
import Derived.Test.YtbjohihngoghlaaFnA2
set_option linter.unusedVariables false
set_option linter.unusedSimpArgs false
namespace Go.Gl
open Go.Proofs Go.Proofs.Ytbjohihngoghlaa Go.Pl

def wrow (m : Int) (r : List Int) : Bool := decide ((r.length : Int) = m) && r.all fun x => decide (-9 ≤ x ∧ x ≤ 9)
def wmat (m : Int) (rows : List (List Int)) : Bool := rows.all (wrow m)
def wShape (x : SWhole) (k : Nat) : Bool := decide (((mat x.maps k).length : Int) = ith x.dims (k + 1)) && wmat (ith x.dims k) (mat x.maps k)
/-- the product of a row with a column -/
def dot (r : List Int) (rows : List (List Int)) (c n : Nat) : Int := sm n fun j => ith r j * ent rows j c
def wRow (x : SWhole) (k i : Nat) : Bool := allN (fun c => decide (dot (row (mat x.maps k) i) (mat x.maps (k - 1)) c (ith x.dims k).toNat = 0)) (ith x.dims (k - 1)).toNat
def wSq (x : SWhole) (k : Nat) : Bool := allN (wRow x k) (mat x.maps k).length
def wHead (x : SWhole) : Bool := decide (0 ≤ (x.dims.length : Int) - 1 ∧ (x.dims.length : Int) - 1 ≤ 5) && decide ((x.maps.length : Int) = x.dims.length - 1) && x.dims.all fun n => decide (0 ≤ n ∧ n ≤ 6)
def wholeOk (x : SWhole) : Bool := wHead x && allN (wShape x) x.maps.length && allN (fun k => decide (k = 0) || wSq x k) x.maps.length
structure WHead (x : SWhole) : Prop where
  lo : 1 ≤ x.dims.length
  hi : x.dims.length ≤ 6
  len : x.maps.length + 1 = x.dims.length
  dims : ∀ i, 0 ≤ ith x.dims i ∧ ith x.dims i ≤ 6
theorem wHead_mk {x : SWhole} (h : wHead x = true) : WHead x := by
  simp only [wHead, Bool.and_eq_true, decide_eq_true_eq] at h
  obtain ⟨⟨h2, h3⟩, h4⟩ := h
  refine ⟨by omega, by omega, by omega, fun i => ?_⟩
  by_cases hi : i < x.dims.length
  · simpa using List.all_eq_true.1 h4 _ (ith_mem hi)
  · rw [ith_out (by omega)]; omega
theorem wmat_row {m : Int} {rows : List (List Int)} (h : wmat m rows = true) {i : Nat} (hi : i < rows.length) : ((row rows i).length : Int) = m ∧ ∀ j, -9 ≤ ith (row rows i) j ∧ ith (row rows i) j ≤ 9 := by
  have := List.all_eq_true.1 h _ (row_mem hi)
  simp only [wrow, Bool.and_eq_true, decide_eq_true_eq] at this
  refine ⟨this.1, fun j => ?_⟩
  by_cases hj : j < (row rows i).length
  · simpa using List.all_eq_true.1 this.2 _ (ith_mem hj)
  · rw [ith_out (by omega)]; omega
theorem wmat_ent {m : Int} {rows : List (List Int)} (h : wmat m rows = true) (i j : Nat) : -9 ≤ ent rows i j ∧ ent rows i j ≤ 9 := by
  unfold ent
  by_cases hi : i < rows.length
  · exact (wmat_row h hi).2 j
  · rw [row_out (by omega), ith_nil]; omega
theorem wShape_mk {x : SWhole} {k : Nat} (h : wShape x k = true) : ((mat x.maps k).length : Int) = ith x.dims (k + 1) ∧ wmat (ith x.dims k) (mat x.maps k) = true := by
  simpa only [wShape, Bool.and_eq_true, decide_eq_true_eq] using h
theorem dot_rng {r : List Int} {rows : List (List Int)} {c : Nat} (hr : ∀ j, -9 ≤ ith r j ∧ ith r j ≤ 9) (he : ∀ i j, -9 ≤ ent rows i j ∧ ent rows i j ≤ 9) : ∀ n : Nat, -(81 * (n : Int)) ≤ sm n (fun j => ith r j * ent rows j c) ∧ sm n (fun j => ith r j * ent rows j c) ≤ 81 * (n : Int)
  | 0 => by simp [sm]
  | n + 1 => by
    have h1 := dot_rng (c := c) hr he n
    have h2 := mul_abs (hr n) (he n c)
    simp only [sm]
    omega
theorem zeroV_tab (n : Nat) (f : Nat → Int) : zeroV (tab n f) = allN (fun c => decide (f c = 0)) n := by
  rw [← zeroV_any, allN]
  simp only [tab, List.any_map, List.all_eq_not_any_not]
  congr 1
  exact congrArg (List.any (List.range n)) (by funext i; simp)


theorem topW_c (h : AH) (v : Value) (x : SWhole) (hx : RWhole h v x) : ACalls Try.prog 153 [v] h (fun r h' => r = .int .i64 ((x.dims.length : Int) - 1) ∧ h' = h) := by
  obtain ⟨b1, o1, b2, o2, kx, qx⟩ := hx.can
  refine ACalls.wk (args' := [.agg #[.slice (some ⟨b1, o1, none⟩) x.dims.length 0, .slice (some ⟨b2, o2, none⟩) x.maps.length 0]]) ?_ (.cons kx .nil)
  refine ACalls.of Tt.tab Try.func153 rfl (by kernel_rfl) Try.ntmps153 _ rfl rfl (fun hw => ?_)
  have S := Sep.start h
  refine S.new fun b g S => ?_
  refine LoadX.same (S.at_ 0 rfl) rfl ?_
  refine CallX.same (sizeI_c _ _ _ _ _) ?_
  rintro r g' ⟨rfl, rfl⟩
  have := qx.1.1
  refine WR.i64 ?_
  exact FinX.keep hw S.le rfl ⟨rfl, rfl⟩

theorem isMatrix11_c (h : AH) (x : Int) : ACalls Try.prog 201 [.int .i64 x] h (fun r h' => r = .bool (!decide (-9 ≤ x ∧ x ≤ 9)) ∧ h' = h) := by
  refine ACalls.of Tt.tab Try.func201 rfl (by kernel_rfl) Try.ntmps201 _ rfl rfl (fun hw => ?_)
  refine CallX.same (between_c _ x (-9) 9) ?_
  rintro r g ⟨rfl, rfl⟩
  exact FinX.keep hw (Le.refl _) rfl ⟨rfl, rfl⟩
theorem isMatrix1_c (h : AH) (m : Int) (b o b1 : Nat) (r : List Int) (hb : look h b1 = some ⟨[.int .i64 m], some (tI, 1)⟩) (hx : RI h (.slice (some ⟨b, o, none⟩) r.length 0) r) :
    ACalls Try.prog 200 [.slice (some ⟨b, o, none⟩) r.length 0, .pointer (some ⟨b1, 0, none⟩)] h (fun v h' => v = .bool (!wrow m r) ∧ h' = h) := by
  refine ACalls.of Tt.tab Try.func200 rfl (by kernel_rfl) Try.ntmps200 _ rfl rfl (fun hw => ?_)
  refine DrawX.of Tt.tab follows_any [] [] [0, 1, 2, 3, 4, 5, 6, 7, 8] rfl (by kernel_rfl) (by kernel_rfl) ?_
  refine QCall.of (fun g2 hl => sizeI_c g2 _ _ _ _) rfl ?_
  refine LoadX.same hb rfl ?_
  refine BIf.mk (fun e1 => ?_) (fun e1 => ?_)
  · have e1 : ¬ (r.length : Int) = m := by simpa using e1
    exact FinX.keep hw (Le.refl _) rfl ⟨by simp [wrow, e1], rfl⟩
  have e1 : (r.length : Int) = m := by simpa using e1
  refine QCall.of (fun g2 hl => containsFuncI_c g2 _ r _ _ (fun x => !decide (-9 ≤ x ∧ x ≤ 9)) (RI.le _ _ _ _ hl hx) (fun x _ u hu => by subst hu; exact isMatrix11_c _ x)) rfl ?_
  refine FinX.keep hw (Le.refl _) rfl ⟨?_, rfl⟩
  simp only [wrow, decide_eq_true e1, Bool.true_and, List.all_eq_not_any_not, Bool.not_not]
theorem isMatrix_c (h : AH) (m : Int) (v : Value) (rows : List (List Int)) (hx : RII h v rows) : ACalls Try.prog 157 [v, .int .i64 m] h (fun r h' => r = .bool (decide (rows.length ≤ 6) && decide (0 ≤ m ∧ m ≤ 6) && wmat m rows) ∧ h' = h) := by
  obtain ⟨b, o, k1, hx⟩ := hx.can
  refine ACalls.wk (args' := [.slice (some ⟨b, o, none⟩) rows.length 0, .int .i64 m]) ?_ (.cons k1 (.cons (Wk.refl _) .nil))
  refine ACalls.of Tt.tab Try.func157 rfl (by kernel_rfl) Try.ntmps157 _ rfl rfl (fun hw => ?_)
  have S := Sep.start h
  refine S.new fun b1 g S => ?_
  refine BIf.mk (fun e1 => ?_) (fun e1 => ?_)
  · have e1 : rows.length ≤ 6 := by simp at e1; omega
    refine LoadX.same (v := .int .i64 m) (S.at_ 0 rfl) rfl ?_
    refine CallX.same (between_c _ m 0 6) ?_
    rintro r g ⟨rfl, rfl⟩
    refine BIf.mk (fun e2 => ?_) (fun e2 => ?_)
    · refine CallX.same (containsFuncII_c _ _ rows _ _ (fun r => !wrow m r) (RII.le _ _ _ _ S.le hx) (fun x _ b o hr => isMatrix1_c _ m b o b1 x (S.at_ 0 rfl) hr)) ?_
      rintro r g ⟨rfl, rfl⟩
      refine FinX.keep hw S.le rfl ⟨?_, rfl⟩
      rw [decide_eq_true e1, e2, wmat, List.all_eq_not_any_not]; rfl
    · exact FinX.keep hw S.le rfl ⟨by rw [decide_eq_true e1, e2]; rfl, rfl⟩
  · have e1 : ¬ rows.length ≤ 6 := by simp at e1; omega
    refine BIf.no rfl ?_
    exact FinX.keep hw S.le rfl ⟨by rw [decide_eq_false e1]; rfl, rfl⟩

theorem l07Matrix_c (h : AH) (n m : Int) (v : Value) (rows : List (List Int)) (hx : RII h v rows) : ACalls Try.prog 151 [v, .int .i64 n, .int .i64 m] h (fun r h' => r = .bool (decide ((rows.length : Int) = n) && wmat m rows) ∧ h' = h) := by
  obtain ⟨hm, b, o, k1, c1⟩ := hx
  refine ACalls.wk (args' := [.slice (some ⟨b, o, none⟩) rows.length 0, .int .i64 n, .int .i64 m]) ?_ (.cons k1 (.cons (Wk.refl _) (.cons (Wk.refl _) .nil)))
  refine ACalls.of Tt.tab Try.func151 rfl (by kernel_rfl) Try.ntmps151 _ rfl rfl (fun hw => ?_)
  refine BIf.mk (fun e1 => ?_) (fun e1 => ?_)
  · have e1 : ¬ (rows.length : Int) = n := by simpa using e1
    exact FinX.keep hw (Le.refl _) rfl ⟨by simp [e1], rfl⟩
  have e1 : (rows.length : Int) = n := by simpa using e1
  have bad : ∀ i, i < rows.length → wrow m (row rows i) = false → (decide ((rows.length : Int) = n) && wmat m rows) = false := fun i hi hf => by
    have : wmat m rows = false := List.all_eq_false.2 ⟨_, row_mem hi, by rw [hf]; simp⟩
    rw [this, Bool.and_false]
  refine ⟨⟨[0, 2, 7], fun n' vs g => ∃ i : Nat, n' = rows.length - i ∧ i ≤ rows.length ∧ g = h ∧ (∀ k, k < i → wrow m (row rows k) = true) ∧ vs = [.slice (some ⟨b, o, none⟩) rows.length 0, .int .i64 m, .int .i64 i], _, ⟨0, rfl, Nat.zero_le _, rfl, fun k hk => by omega, rfl⟩, ?_⟩⟩
  rintro n' vs g ⟨i, rfl, hi, rfl, hz, rfl⟩
  refine BIf.mk (fun h2 => ?_) (fun h2 => ?_)
  · have hlt : i < rows.length := by simpa using h2
    refine IdxX.mk (by omega) (by omega) ?_
    refine c1.rowY (Le.refl _) hlt fun b4 o4 h4 => ?_
    have m4 := h4.1
    refine BIf.mk (fun h3 => ?_) (fun h3 => ?_)
    · have h3 : ¬ ((row rows i).length : Int) = m := by simpa using h3
      exact FinX.keep hw (Le.refl _) rfl ⟨by rw [bad i hlt (by simp [wrow, h3])], rfl⟩
    have h3 : ((row rows i).length : Int) = m := by simpa using h3
    refine ⟨⟨[0, 2, 7, 8], fun n' vs g' => ∃ j : Nat, n' = (row rows i).length - j ∧ j ≤ (row rows i).length ∧ g' = g ∧ (∀ k, k < j → -9 ≤ ith (row rows i) k ∧ ith (row rows i) k ≤ 9) ∧ vs = [.slice (some ⟨b, o, none⟩) rows.length 0, .int .i64 m, .int .i64 i, .int .i64 j], _, ⟨0, rfl, Nat.zero_le _, rfl, fun k hk => by omega, rfl⟩, ?_⟩⟩
    rintro n' vs g' ⟨j, rfl, hj, rfl, hy, rfl⟩
    refine IdxX.mk (by omega) (by omega) ?_
    refine c1.rowY (Le.refl _) hlt fun b5 o5 h5 => ?_
    refine BIf.mk (fun h6 => ?_) (fun h6 => ?_)
    · have h6 : j < (row rows i).length := by simpa using h6
      refine IdxX.mk (by omega) (by omega) ?_
      refine c1.rowY (Le.refl _) hlt fun b7 o7 h7 => ?_
      have c7 := h7.cells rfl
      refine IdxX.mk (by omega) (by omega) ?_
      refine c7.ith (Le.refl _) h6 ?_
      refine CallX.same (l01In_c _ _ (-9) 9) ?_
      rintro r g ⟨rfl, rfl⟩
      refine BIf.mk (fun h8 => ?_) (fun h8 => ?_)
      · have h8 : decide (-9 ≤ ith (row rows i) j ∧ ith (row rows i) j ≤ 9) = false := by simpa only [Bool.not_eq_true'] using h8
        refine FinX.keep hw (Le.refl _) rfl ⟨?_, rfl⟩
        have : (row rows i).all (fun x => decide (-9 ≤ x ∧ x ≤ 9)) = false := List.all_eq_false.2 ⟨_, ith_mem h6, by rw [h8]; simp⟩
        rw [bad i hlt (by simp only [wrow, this, Bool.and_false])]
      · have h8 : decide (-9 ≤ ith (row rows i) j ∧ ith (row rows i) j ≤ 9) = true := by simpa only [Bool.not_eq_false'] using h8
        refine WR.i64 ?_
        refine ⟨(row rows i).length - (j + 1), by omega, j + 1, rfl, h6, rfl, fun k hk => ?_, rfl⟩
        rcases (by omega : k < j ∨ k = j) with hk | rfl
        · exact hy k hk
        · simpa using h8
    · have hj2 : j = (row rows i).length := by simp at h6; omega
      subst hj2
      refine WR.i64 ?_
      refine ⟨rows.length - (i + 1), by omega, i + 1, rfl, hlt, rfl, fun k hk => ?_, rfl⟩
      rcases (by omega : k < i ∨ k = i) with hk | rfl
      · exact hz k hk
      · have : (row rows k).all (fun x => decide (-9 ≤ x ∧ x ≤ 9)) = true := List.all_eq_true.2 fun y hy2 => by
          obtain ⟨t, ht, rfl⟩ := List.getElem_of_mem hy2
          rw [ith_get ht]; exact decide_eq_true (hy t ht)
        simp only [wrow, this, decide_eq_true h3, Bool.and_self]
  · have hi2 : i = rows.length := by simp at h2; omega
    subst hi2
    refine FinX.keep hw (Le.refl _) rfl ⟨?_, rfl⟩
    have : wmat m rows = true := List.all_eq_true.2 fun y hy => by
      obtain ⟨k, hk, rfl⟩ := List.getElem_of_mem hy
      rw [row_get hk]; exact hz k hk
    rw [this, decide_eq_true e1]; rfl

end Go.Gl

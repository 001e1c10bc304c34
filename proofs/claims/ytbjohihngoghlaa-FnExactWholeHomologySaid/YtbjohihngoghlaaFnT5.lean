/- Lists of Torsion: equality, what is held. No condition. -/
import Derived.Test.YtbjohihngoghlaaFnT4
set_option linter.unusedVariables false
set_option linter.unusedSimpArgs false
namespace Go.Gl
open Go.Proofs Go.Proofs.Ytbjohihngoghlaa Go.Pl


theorem eqTor_c (h : AH) (v w : Value) (x y : STor) (hx : RI h v x.parts) (hy : RI h w y.parts) : ACalls Try.prog 76 [.agg #[.int .i64 x.free, v], .agg #[.int .i64 y.free, w]] h (fun r h' => r = .bool (decide (x = y)) ∧ h' = h) := by
  obtain ⟨b1, o1, k1, hx⟩ := hx.can
  obtain ⟨b2, o2, k2, hy⟩ := hy.can
  refine ACalls.wk (args' := [.agg #[.int .i64 x.free, .slice (some ⟨b1, o1, none⟩) x.parts.length 0], .agg #[.int .i64 y.free, .slice (some ⟨b2, o2, none⟩) y.parts.length 0]]) ?_ (.cons (Wk.agg (.cons (Wk.refl _) (.cons k1 .nil))) (.cons (Wk.agg (.cons (Wk.refl _) (.cons k2 .nil))) .nil))
  refine ACalls.of Tt.tab Try.func76 rfl (by kernel_rfl) Try.ntmps76 _ rfl rfl (fun hw => ?_)
  have S := Sep.start h
  refine S.new fun b3 g S => ?_
  refine S.new fun b4 g S => ?_
  refine LoadX.same (v := .int .i64 x.free) (S.at_ 1 rfl) rfl ?_
  refine LoadX.same (v := .int .i64 y.free) (S.at_ 0 rfl) rfl ?_
  refine BIf.mk (fun h1 => ?_) (fun h1 => ?_)
  · have h1 : x.free ≠ y.free := by simpa using h1
    exact FinX.keep hw S.le rfl ⟨by rw [decide_eq_false (fun e => h1 (by rw [e]))], rfl⟩
  have h1 : x.free = y.free := by simpa using h1
  refine LoadX.same (v := .slice (some ⟨b1, o1, none⟩) x.parts.length 0) (S.at_ 1 rfl) rfl ?_
  refine LoadX.same (v := .slice (some ⟨b2, o2, none⟩) y.parts.length 0) (S.at_ 0 rfl) rfl ?_
  refine CallX.same (eqI_c _ _ _ x.parts y.parts (RI.le _ _ _ _ S.le hx) (RI.le _ _ _ _ S.le hy)) ?_
  rintro r g' ⟨rfl, rfl⟩
  refine BIf.mk (fun h2 => ?_) (fun h2 => ?_)
  · have h2 : x.parts ≠ y.parts := by simpa using h2
    exact FinX.keep hw S.le rfl ⟨by rw [decide_eq_false (fun e => h2 (by rw [e]))], rfl⟩
  have h2 : x.parts = y.parts := by simpa using h2
  refine FinX.keep hw S.le rfl ⟨?_, rfl⟩
  rw [decide_eq_true (show x = y by cases x; cases y; simp at h1 h2; simp [h1, h2])]

theorem eqT_c (h : AH) (v w : Value) (xs ys : List STor) (hx : RT h v xs) (hy : RT h w ys) : ACalls Try.prog 18 [v, w] h (fun r h' => r = .bool (decide (xs = ys)) ∧ h' = h) := by
  obtain ⟨b1, o1, k1, hx⟩ := hx.can
  obtain ⟨b2, o2, k2, hy⟩ := hy.can
  have m1 := hx.1
  have m2 := hy.1
  refine ACalls.wk (args' := [.slice (some ⟨b1, o1, none⟩) xs.length 0, .slice (some ⟨b2, o2, none⟩) ys.length 0]) ?_ (.cons k1 (.cons k2 .nil))
  refine ACalls.of Tt.tab Try.func18 rfl (by kernel_rfl) Try.ntmps18 _ rfl rfl (fun hw => ?_)
  have c1 := hx.cells rfl
  have c2 := hy.cells rfl
  refine BIf.mk (fun h1 => ?_) (fun h1 => ?_)
  · have h1 : xs.length ≠ ys.length := by simp at h1; omega
    exact FinX.keep hw (Le.refl _) rfl ⟨by rw [decide_eq_false (fun e => h1 (by rw [e]))], rfl⟩
  have h1 : xs.length = ys.length := by simp at h1; omega
  refine ⟨⟨[0, 1, 4, 5], fun n' vs g => ∃ i : Nat, n' = xs.length - i ∧ i ≤ xs.length ∧ g = h ∧ (∀ j, j < i → tor xs j = tor ys j) ∧ vs = [.slice (some ⟨b1, o1, none⟩) xs.length 0, .slice (some ⟨b2, o2, none⟩) ys.length 0, .bool false, .int .i64 i], _, ⟨0, rfl, Nat.zero_le _, rfl, fun j hj => by omega, rfl⟩, ?_⟩⟩
  rintro n' vs g ⟨i, rfl, hi, rfl, he, rfl⟩
  refine BIf.mk (fun h2 => ?_) (fun h2 => ?_)
  · have hlt : i < xs.length := by simpa using h2
    refine DrawX.of Tt.tab follows_any [] [] [0, 1, 2, 3, 4, 5, 6, 7, 8, 9] rfl (by kernel_rfl) (by kernel_rfl) ?_
    refine IdxX.mk (by omega) (by omega) ?_
    refine CT.load c1 (Le.refl _) hlt fun b4 o4 h4 => ?_
    refine IdxX.mk (by omega) (by omega) ?_
    refine CT.load c2 (Le.refl _) (show i < ys.length by omega) fun b5 o5 h5 => ?_
    refine QCall.of (fun g2 hl => eqTor_c g2 _ _ (tor xs i) (tor ys i) (RI.le _ _ _ _ hl h4) (RI.le _ _ _ _ hl h5)) rfl ?_
    refine BIf.mk (fun h3 => ?_) (fun h3 => ?_)
    · have h3 : tor xs i ≠ tor ys i := by simpa using h3
      exact FinX.keep hw (Le.refl _) rfl ⟨by rw [decide_eq_false (fun e => h3 (by rw [e]))], rfl⟩
    · have h3 : tor xs i = tor ys i := by simpa using h3
      refine WR.i64 ?_
      refine ⟨xs.length - (i + 1), by omega, i + 1, rfl, hlt, rfl, fun j hj => ?_, rfl⟩
      by_cases hji : j = i
      · rw [hji]; exact h3
      · exact he j (by omega)
  · have hi2 : i = xs.length := by simp at h2; omega
    subst hi2
    exact FinX.keep hw (Le.refl _) rfl ⟨by rw [decide_eq_true (stor_ext h1 he)], rfl⟩

theorem heldT_c (h : AH) (v : Value) (xs : List STor) (k : Int) (hx : RT h v (numT k xs)) (h0 : 0 ≤ k) (hm : k + cnT xs ≤ 9223372036854775807) : ACalls Try.prog 22 [v, .int .i64 k] h (fun r h' => r = .int .i64 (k + cnT xs) ∧ h' = h) := by
  obtain ⟨b1, o1, k1, hx⟩ := hx.can
  have m1 := hx.1
  have hlen : (numT k xs).length = xs.length := numTo_length _ _ _
  refine ACalls.wk (args' := [.slice (some ⟨b1, o1, none⟩) (numT k xs).length 0, .int .i64 k]) ?_ (.cons k1 (.cons (Wk.refl _) .nil))
  rw [hlen] at hx m1 ⊢
  refine ACalls.of Tt.tab Try.func22 rfl (by kernel_rfl) Try.ntmps22 _ rfl rfl (fun hw => ?_)
  have c1 := hx.cells hlen.symm
  refine ⟨⟨[0, 1, 4, 5], fun n' vs g => ∃ i : Nat, n' = xs.length - i ∧ i ≤ xs.length ∧ g = h ∧ vs = [.slice (some ⟨b1, o1, none⟩) xs.length 0, .int .i64 (k + offN xs i), .int .i64 0, .int .i64 i], _, ⟨0, rfl, Nat.zero_le _, rfl, by simp [offN]; rfl⟩, ?_⟩⟩
  rintro n' vs g ⟨i, rfl, hi, rfl, rfl⟩
  refine BIf.mk (fun h2 => ?_) (fun h2 => ?_)
  · have hlt : i < xs.length := by simpa using h2
    have hlt' : i < (numT k xs).length := by omega
    have e1 := offN_mono xs (show i + 1 ≤ xs.length from hlt)
    have e2 : offN xs (i + 1) = offN xs i + 1 + (tor xs i).parts.length := rfl
    have et : tor (numT k xs) i = numOne k xs i := by unfold numT; rw [numTo_tor hlt, if_pos hlt]
    unfold cnT at hm
    refine IdxX.mk (by omega) (by omega) ?_
    refine CT.free c1 (Le.refl _) hlt' ?_
    rw [et]
    refine BIf.no (by simp [numOne]) ?_
    refine WR.i64 ?_
    refine IdxX.mk (by omega) (by omega) ?_
    refine CT.parts c1 (Le.refl _) hlt' fun b4 o4 h4 => ?_
    rw [et] at h4 ⊢
    refine CallX.same (heldI_c g _ (tor xs i).parts (k + offN xs i + 1) h4 (by omega) (by unfold cnI; omega)) ?_
    rintro r g3 ⟨rfl, rfl⟩
    refine BIf.no (by simp; omega) ?_
    refine WR.i64 ?_
    refine ⟨xs.length - (i + 1), by omega, i + 1, rfl, hlt, rfl, ?_⟩
    have e3 : k + offN xs i + 1 + (cnI (tor xs i).parts : Int) = k + (offN xs (i + 1) : Int) := by unfold cnI; omega
    rw [e3]; rfl
  · have hi2 : i = xs.length := by simp at h2; omega
    subst hi2
    exact FinX.keep hw (Le.refl _) rfl ⟨rfl, rfl⟩

/-! ### names for the printed law -/
abbrev OT := OTors
theorem OT.reads : ∀ n h v x l, OT n h v x l → RT h v x := fun _ _ _ _ _ o => OTors.reads o
inductive FrT : Prop
  | mk
theorem OT.fr : FrT := .mk
theorem FrT.le (_ : FrT) {n : Nat} {h h' : AH} {v : Value} {x : List STor} {l : List Nat} (o : OTors n h v x l) (hl : Le h h') : OTors n h' v x l := OTors.le o hl
theorem FrT.leaf (_ : FrT) (n : Nat) (h : AH) (v : Value) (x : List STor) (l : List Nat) (o : OTors n h v x l) : ∀ i ∈ l, n ≤ i ∧ look h i ≠ none := by
  intro i hi
  obtain ⟨hm, ⟨_, rfl, _⟩ | ⟨b, c, blk, ps, h1, h2, h3, h4, h5, h6, rfl, h8⟩⟩ := o
  · cases hi
  · rcases List.mem_cons.1 hi with rfl | hi
    · exact ⟨h2, by rw [h3]; simp⟩
    · exact h6.known i hi
theorem FrT.lt (f : FrT) {n : Nat} {h : AH} {v : Value} {x : List STor} {l : List Nat} (o : OTors n h v x l) : ∀ i ∈ l, i < h.length := by
  intro i hi
  have h1 := (f.leaf _ _ _ _ _ o i hi).2
  cases e : look h i with
  | none => exact absurd e h1
  | some b => exact look_lt e
theorem offN_le {xs : List STor} (ok : TorsOk xs) : ∀ n, offN xs n ≤ n * 7
  | 0 => Nat.le_refl _
  | n + 1 => by
    have := offN_le ok n
    have := (ok.el n).few
    simp only [offN]; omega
theorem wholeH_cn (x : SWhole) : cnT (wholeH x).1 ≤ 1000 := by
  unfold wholeH
  split
  · rename_i h
    have ok := homol_ok h
    have h1 := offN_le ok (homol x).length
    have h2 := ok.len
    show offN (homol x) (homol x).length ≤ 1000
    omega
  · simp [cnT, offN]
end Go.Gl

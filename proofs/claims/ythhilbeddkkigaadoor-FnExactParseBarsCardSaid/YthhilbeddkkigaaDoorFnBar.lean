/- Bars: the law's helpers, and the functions on lists of bars. No condition. -/
import Derived.Test.YthhilbeddkkigaaDoorGlN
import Derived.Test.YthhilbeddkkigaaDoorGlT
import Derived.Test.YthhilbeddkkigaaDoorPlBar
import Derived.Test.YthhilbeddkkigaaDoorFn1b
set_option linter.unusedVariables false
set_option linter.unusedSimpArgs false
namespace Go.Gl
open Go.Proofs Go.Proofs.YthhilbeddkkigaaDoor Go.Pl

/-- a bar, as a value -/
abbrev vB (x : SBar) : Value := .agg #[.int .i64 x.degree, .int .i64 x.birth, .int .i64 x.death]
def EB (_ : AH) (us : List Value) (x : SBar) : Prop := us = [.int .i64 x.degree, .int .i64 x.birth, .int .i64 x.death]
abbrev RB := RN 3 EB
theorem EB.le : ∀ h h' v x, Le h h' → EB h v x → EB h' v x := fun _ _ _ _ _ h => h
theorem RB.le : ∀ h h' v xs, Le h h' → RB h v xs → RB h' v xs := RN.le EB.le
theorem CB.load {h g : AH} {b o : Nat} {xs : List SBar} (hc : CN 3 EB h b o xs) (hl : Le h g) {i : TI} {k a : Nat} (hk : k < xs.length) {K : Value → Prop} (hK : K (vB (bar xs k))) (ha : a = o + mulE k 3 := by rfl) (hi : i.agg = true := by rfl) (hs : i.size = 3 := by rfl) : LoadX g i b a K :=
  hc.load hl (bar_get hk) (fun us _ e => by subst e; exact hK) ha hi hs
theorem CB.degree {h g : AH} {b o : Nat} {xs : List SBar} (hc : CN 3 EB h b o xs) (hl : Le h g) {i : TI} {k a : Nat} (hk : k < xs.length) {K : Value → Prop} (hK : K (.int .i64 (bar xs k).degree)) (ha : a = o + mulE k 3 + 0 := by rfl) (hi : i.agg = false := by rfl) : LoadX g i b a K :=
  hc.field hl (bar_get hk) (by omega) (fun us _ e => by subst e; rfl) hK ha hi
theorem CB.birth {h g : AH} {b o : Nat} {xs : List SBar} (hc : CN 3 EB h b o xs) (hl : Le h g) {i : TI} {k a : Nat} (hk : k < xs.length) {K : Value → Prop} (hK : K (.int .i64 (bar xs k).birth)) (ha : a = o + mulE k 3 + 1 := by rfl) (hi : i.agg = false := by rfl) : LoadX g i b a K :=
  hc.field hl (bar_get hk) (by omega) (fun us _ e => by subst e; rfl) hK ha hi
theorem CB.death {h g : AH} {b o : Nat} {xs : List SBar} (hc : CN 3 EB h b o xs) (hl : Le h g) {i : TI} {k a : Nat} (hk : k < xs.length) {K : Value → Prop} (hK : K (.int .i64 (bar xs k).death)) (ha : a = o + mulE k 3 + 2 := by rfl) (hi : i.agg = false := by rfl) : LoadX g i b a K :=
  hc.field hl (bar_get hk) (by omega) (fun us _ e => by subst e; rfl) hK ha hi


theorem eqBar_c (h : AH) (x y : SBar) : ACalls Tryd.prog 20 [vB x, vB y] h (fun r h' => r = .bool (decide (x = y)) ∧ h' = h) := by
  refine ACalls.of Tt.tab Tryd.func20 rfl (by kernel_rfl) Tryd.ntmps20 _ rfl rfl (fun hw => ?_)
  have S := Sep.start h
  refine S.new fun b1 g S => ?_
  refine S.new fun b2 g S => ?_
  refine LoadX.same (S.at_ 1 rfl) rfl ?_
  refine LoadX.same (S.at_ 0 rfl) rfl ?_
  refine BIf.mk (fun h1 => ?_) (fun h1 => ?_)
  · refine FinX.keep hw S.le rfl ⟨?_, rfl⟩
    have h1 : x.degree ≠ y.degree := by simpa using h1
    rw [decide_eq_false (fun e => h1 (by rw [e]))]
  have h1 : x.degree = y.degree := by simpa using h1
  refine LoadX.same (S.at_ 1 rfl) rfl ?_
  refine LoadX.same (S.at_ 0 rfl) rfl ?_
  refine BIf.mk (fun h2 => ?_) (fun h2 => ?_)
  · refine FinX.keep hw S.le rfl ⟨?_, rfl⟩
    have h2 : x.birth ≠ y.birth := by simpa using h2
    rw [decide_eq_false (fun e => h2 (by rw [e]))]
  have h2 : x.birth = y.birth := by simpa using h2
  refine LoadX.same (S.at_ 1 rfl) rfl ?_
  refine LoadX.same (S.at_ 0 rfl) rfl ?_
  refine BIf.mk (fun h3 => ?_) (fun h3 => ?_)
  · refine FinX.keep hw S.le rfl ⟨?_, rfl⟩
    have h3 : x.death ≠ y.death := by simpa using h3
    rw [decide_eq_false (fun e => h3 (by rw [e]))]
  have h3 : x.death = y.death := by simpa using h3
  refine FinX.keep hw S.le rfl ⟨?_, rfl⟩
  rw [decide_eq_true (by cases x; cases y; simp at h1 h2 h3; simp [h1, h2, h3])]

theorem eqBarS_c (h : AH) (v w : Value) (xs ys : List SBar) (hx : RB h v xs) (hy : RB h w ys) : ACalls Tryd.prog 7 [v, w] h (fun r h' => r = .bool (decide (xs = ys)) ∧ h' = h) := by
  obtain ⟨hm, b, o, k1, c1⟩ := hx
  obtain ⟨hm2, b2, o2, k2, c2⟩ := hy
  refine ACalls.wk (args' := [.slice (some ⟨b, o, none⟩) xs.length 0, .slice (some ⟨b2, o2, none⟩) ys.length 0]) ?_ (.cons k1 (.cons k2 .nil))
  refine ACalls.of Tt.tab Tryd.func7 rfl (by kernel_rfl) Tryd.ntmps7 _ rfl rfl (fun hw => ?_)
  refine BIf.mk (fun h1 => ?_) (fun h1 => ?_)
  · refine FinX.keep hw (Le.refl _) rfl ⟨?_, rfl⟩
    have : xs ≠ ys := fun e => by subst e; simp at h1
    simp [this]
  · have hlen : xs.length = ys.length := by simp at h1; omega
    refine ⟨⟨[0, 1, 5], fun n vs g => ∃ k : Nat, n = xs.length - k ∧ k ≤ xs.length ∧ g = h ∧ xs.take k = ys.take k ∧ vs = [.slice (some ⟨b, o, none⟩) xs.length 0, .slice (some ⟨b2, o2, none⟩) ys.length 0, .int .i64 k], _, ⟨0, rfl, Nat.zero_le _, rfl, rfl, rfl⟩, ?_⟩⟩
    rintro n vs g ⟨k, rfl, hk, rfl, ht, rfl⟩
    refine BIf.mk (fun h2 => ?_) (fun h2 => ?_)
    · have hlt : k < xs.length := by simpa using h2
      refine DrawX.of Tt.tab follows_any [] [] [0, 1, 2, 3, 4, 5, 6, 7, 8, 9] rfl (by kernel_rfl) (by kernel_rfl) ?_
      refine IdxX.mk (by omega) (by omega) ?_
      refine CB.load c1 (Le.refl _) hlt ?_
      refine IdxX.mk (by omega) (by omega) ?_
      refine CB.load c2 (Le.refl _) (show k < ys.length by omega) ?_
      refine QCall.of (fun g2 hl => eqBar_c g2 (bar xs k) (bar ys k)) rfl ?_
      refine BIf.mk (fun h3 => ?_) (fun h3 => ?_)
      · refine FinX.keep hw (Le.refl _) rfl ⟨?_, rfl⟩
        have : xs ≠ ys := fun e => by subst e; simp at h3
        simp [this]
      · refine WR.i64 ?_
        refine ⟨xs.length - (k + 1), by omega, k + 1, rfl, hlt, rfl, ?_, rfl⟩
        have h3 : bar xs k = bar ys k := by simpa using h3
        rw [take_succ_bar hlt, take_succ_bar (show k < ys.length by omega), ht, h3]
    · refine FinX.keep hw (Le.refl _) rfl ⟨?_, rfl⟩
      have hk2 : k = xs.length := by simp at h2; omega
      subst hk2
      rw [List.take_of_length_le (by omega), List.take_of_length_le (by omega)] at ht
      simp [ht]

theorem szBarS_c (h : AH) (v : Value) (xs : List SBar) (left : Int) (hx : RB h v xs) (h0 : 0 ≤ left) (h1 : left ≤ 1048576) : ACalls Tryd.prog 10 [v, .int .i64 left] h (fun r h' => r = .int .i64 (if (xs.length : Int) ≤ left then left - xs.length else -1) ∧ h' = h) := by
  obtain ⟨hm, b, o, k1, c1⟩ := hx
  refine ACalls.wk (args' := [.slice (some ⟨b, o, none⟩) xs.length 0, .int .i64 left]) ?_ (.cons k1 (.cons (Wk.refl _) .nil))
  refine ACalls.of Tt.tab Tryd.func10 rfl (by kernel_rfl) Tryd.ntmps10 _ rfl rfl (fun hw => ?_)
  refine WR.i64 ?_
  refine BIf.mk (fun h2 => ?_) (fun h2 => ?_)
  · have h2 : left - xs.length < 0 := by simpa using h2
    exact FinX.keep hw (Le.refl _) rfl ⟨by rw [if_neg (by omega)], rfl⟩
  · have h2 : ¬ left - xs.length < 0 := by simpa using h2
    exact FinX.keep hw (Le.refl _) rfl ⟨by rw [if_pos (by omega)], rfl⟩

theorem toBar_c (h : AH) (x : SBar) : ACalls Tryd.prog 23 [vB x] h (fun r h' => r = vB x ∧ Le h h') := by
  refine ACalls.of Tt.tab Tryd.func23 rfl (by kernel_rfl) Tryd.ntmps23 _ rfl rfl (fun hw => ?_)
  have S := Sep.start h
  refine S.new fun b1 g S => ?_
  refine S.new fun b2 g S => ?_
  refine S.new fun b3 g S => ?_
  refine LoadX.same (S.at_ 2 rfl) rfl ?_
  refine S.put 0 rfl fun g S => ?_
  refine LoadX.same (S.at_ 2 rfl) rfl ?_
  refine S.put 0 rfl fun g S => ?_
  refine LoadX.same (S.at_ 2 rfl) rfl ?_
  refine S.put 0 rfl fun g S => ?_
  refine LoadX.same (v := vB x) (S.at_ 0 rfl) rfl ?_
  refine S.put 1 rfl fun g S => ?_
  refine LoadX.same (v := vB x) (S.at_ 1 rfl) rfl ?_
  exact FinX.here S.le.len ⟨rfl, S.le⟩

/-- bars in cells -/
def cellsB (xs : List SBar) : List Value := (xs.map fun x => [Value.int .i64 x.degree, .int .i64 x.birth, .int .i64 x.death]).flatten
theorem cellsB_nil : cellsB [] = [] := rfl
theorem cellsB_append (xs ys : List SBar) : cellsB (xs ++ ys) = cellsB xs ++ cellsB ys := by simp [cellsB]
theorem cellsB_length (xs : List SBar) : (cellsB xs).length = xs.length * 3 := by
  induction xs with
  | nil => rfl
  | cons x xs ih => rw [show x :: xs = [x] ++ xs from rfl, cellsB_append, List.length_append, ih, List.length_append]; simp [cellsB]; omega
theorem cellsB_at (xs : List SBar) (k : Nat) (x : SBar) (hk : xs[k]? = some x) : ((cellsB xs).drop (k * 3)).take 3 = [.int .i64 x.degree, .int .i64 x.birth, .int .i64 x.death] :=
  flat_chunk (s := 3) (xs.map fun (x : SBar) => [Value.int .i64 x.degree, .int .i64 x.birth, .int .i64 x.death]) (fun l hl => by
    simp only [List.mem_map] at hl
    obtain ⟨x, _, rfl⟩ := hl
    rfl) k [.int .i64 x.degree, .int .i64 x.birth, .int .i64 x.death] (by simp [hk])
theorem RB.bx {h : AH} {b : Nat} {own : Option (TypeId × Nat)} {xs : List SBar} (hl : look h b = some ⟨cellsB xs, own⟩) (hm : xs.length ≤ 9223372036854775807) (c : Nat) : RB h (.slice (some ⟨b, 0, none⟩) xs.length c) xs :=
  ⟨hm, b, 0, Wk.weak _ _ _ _, fun k x hk => ⟨_, _, hl, rfl, by rw [mulE_eq, Nat.zero_add]; exact cellsB_at xs k x hk, rfl⟩⟩
theorem setCells_mid (a b c d : List Value) (h : b.length = c.length) : setCells (a ++ b ++ d) a.length c = a ++ c ++ d := by
  unfold setCells
  rw [List.append_assoc a b d, List.take_left, ← h, ← List.drop_drop, List.drop_left, List.drop_left]
theorem zeros_bars (k : Nat) : (List.replicate k [Value.int .i64 0, .int .i64 0, .int .i64 0]).flatten = cellsB ([].take 0) ++ cellsB (List.replicate (k - 0) ⟨0, 0, 0⟩) := by
  rw [List.take_nil, cellsB_nil, List.nil_append, Nat.sub_zero]
  induction k with
  | zero => rfl
  | succ k ih => rw [List.replicate_succ, List.replicate_succ, List.flatten_cons, ih]; rfl

theorem toBarS_c (h : AH) (v : Value) (xs : List SBar) (hx : RB h v xs) (hct : xs.length ≤ 1048576) : ACalls Tryd.prog 12 [v] h (fun r h' => ∃ b, r = .slice (some ⟨b, 0, none⟩) xs.length 1 ∧ look h' b = some ⟨cellsB xs, some (45, 3)⟩ ∧ h.length ≤ b ∧ Le h h') := by
  obtain ⟨hm, b, o, k1, c1⟩ := hx
  refine ACalls.wk (args' := [.slice (some ⟨b, o, none⟩) xs.length 0]) ?_ (.cons k1 .nil)
  refine ACalls.of Tt.tab Tryd.func12 rfl (by kernel_rfl) Tryd.ntmps12 _ rfl rfl (fun hw => ?_)
  have S := Sep.start h
  refine ⟨by omega, rfl, by omega, by simp only [Tt.ti45]; omega, S.new fun b2 g S => ?_⟩
  have S := S.recast 0 (cells' := cellsB (xs.take 0) ++ cellsB (List.replicate (xs.length - 0) ⟨0, 0, 0⟩)) rfl (zeros_bars xs.length)
  refine ⟨⟨[0, 3, 4], fun n' vs g => ∃ i : Nat, n' = xs.length - i ∧ i ≤ xs.length ∧ Sep h.length h g [.bx b2 45 3 (cellsB (xs.take i) ++ cellsB (List.replicate (xs.length - i) ⟨0, 0, 0⟩))] ∧
    vs = [.slice (some ⟨b, o, none⟩) xs.length 0, .slice (some ⟨b2, 0, none⟩) xs.length 1, .int .i64 i], _, ⟨0, rfl, Nat.zero_le _, S, rfl⟩, ?_⟩⟩
  rintro n' vs g ⟨i, rfl, hi, S, rfl⟩
  refine BIf.mk (fun hlt => ?_) (fun hlt => ?_)
  · have hlt : i < xs.length := by simpa using hlt
    refine IdxX.mk (by omega) (by omega) ?_
    refine CB.load c1 S.le hlt ?_
    refine CallX.same (toBar_c g (bar xs i)) ?_
    rintro r g' ⟨rfl, gg⟩
    have S := S.grow gg
    refine IdxX.mk (by omega) (by omega) ?_
    have e1 : cellsB (List.replicate (xs.length - i) ⟨0, 0, 0⟩) = cellsB [⟨0, 0, 0⟩] ++ cellsB (List.replicate (xs.length - (i + 1)) ⟨0, 0, 0⟩) := by
      rw [← cellsB_append, show xs.length - i = (xs.length - (i + 1)) + 1 by omega, List.replicate_succ]; rfl
    have S := S.recast 0 rfl (by rw [e1, ← List.append_assoc])
    refine S.store 0 rfl (show (0 + mulE (Int.toNat (i : Int)) 3 : Nat) + 3 ≤ (cellsB (xs.take i) ++ cellsB [⟨0, 0, 0⟩] ++ cellsB (List.replicate (xs.length - (i + 1)) ⟨0, 0, 0⟩)).length by rw [mulE_eq]; simp only [List.length_append, cellsB_length, List.length_take, List.length_replicate, List.length_cons, List.length_nil, Int.toNat_natCast]; omega) fun g S => ?_
    have S := S.recast 0 (cells' := cellsB (xs.take (i + 1)) ++ cellsB (List.replicate (xs.length - (i + 1)) ⟨0, 0, 0⟩)) rfl (by
      have : (0 + mulE (Int.toNat (i : Int)) 3 : Nat) = (cellsB (xs.take i)).length := by rw [mulE_eq, cellsB_length, List.length_take]; simp; omega
      show setCells _ (0 + mulE (Int.toNat (i : Int)) 3) (vcells (vB (bar xs i))) = _
      rw [this, setCells_mid (cellsB (xs.take i)) (cellsB [⟨0, 0, 0⟩]) (vcells (vB (bar xs i))) _ rfl, take_succ_bar hlt, cellsB_append]
      rfl)
    refine WR.i64 ?_
    exact ⟨xs.length - (i + 1), by omega, i + 1, rfl, hlt, S, rfl⟩
  · have hi2 : i = xs.length := by simp at hlt; omega
    subst hi2
    have S := S.recast 0 (cells' := cellsB xs) rfl (by simp [cellsB])
    exact FinX.here S.le.len ⟨b2, rfl, S.at_ 0 rfl, S.ge 0 rfl, S.le⟩

theorem isBar_c (h : AH) (x : SBar) : ACalls Tryd.prog 34 [vB x] h (fun r h' => r = .bool (isBar x) ∧ h' = h) := by
  refine ACalls.of Tt.tab Tryd.func34 rfl (by kernel_rfl) Tryd.ntmps34 _ rfl rfl (fun hw => ?_)
  have S := Sep.start h
  refine S.new fun b1 g S => ?_
  refine LoadX.same (S.at_ 0 rfl) rfl ?_
  refine CallX.same (between_c g x.degree 0 5) ?_
  rintro r g' ⟨rfl, rfl⟩
  unfold isBar
  refine BIf.mk (fun h1 => ?_) (fun h1 => ?_)
  · rw [h1]
    refine LoadX.same (S.at_ 0 rfl) rfl ?_
    refine CallX.same (between_c _ x.birth 0 5) ?_
    rintro r g' ⟨rfl, rfl⟩
    refine BIf.mk (fun h2 => ?_) (fun h2 => ?_)
    · rw [h2]
      refine LoadX.same (S.at_ 0 rfl) rfl ?_
      refine BIf.mk (fun h3 => ?_) (fun h3 => ?_)
      · refine FinX.keep hw S.le rfl ⟨?_, rfl⟩
        have h3 : x.death = -1 := by simpa using h3
        simp [h3]
      · refine LoadX.same (S.at_ 0 rfl) rfl ?_
        refine LoadX.same (S.at_ 0 rfl) rfl ?_
        refine CallX.same (between_c _ x.death x.birth 5) ?_
        rintro r g' ⟨rfl, rfl⟩
        refine FinX.keep hw S.le rfl ⟨?_, rfl⟩
        have h3 : ¬ x.death = -1 := by simpa using h3
        simp [h3]
    · rw [h2]
      exact FinX.keep hw S.le rfl ⟨rfl, rfl⟩
  · rw [h1]
    refine BIf.no rfl ?_
    exact FinX.keep hw S.le rfl ⟨rfl, rfl⟩

theorem isNaN_c (h : AH) (x : Int) : ACalls Tryd.prog 71 [.int .i64 x] h (fun r h' => r = .bool false ∧ h' = h) := by
  refine ACalls.of Tt.tab Tryd.func71 rfl (by kernel_rfl) Tryd.ntmps71 _ rfl rfl (fun hw => ?_)
  exact FinX.keep hw (Le.refl _) rfl ⟨by simp, rfl⟩
theorem compare_c (h : AH) (x y : Int) : ACalls Tryd.prog 51 [.int .i64 x, .int .i64 y] h (fun r h' => r = .int .i64 (cmpI x y) ∧ h' = h) := by
  refine ACalls.of Tt.tab Tryd.func51 rfl (by kernel_rfl) Tryd.ntmps51 _ rfl rfl (fun hw => ?_)
  refine CallX.same (isNaN_c _ x) ?_
  rintro r g ⟨rfl, rfl⟩
  refine CallX.same (isNaN_c _ y) ?_
  rintro r g ⟨rfl, rfl⟩
  refine BIf.no rfl (BIf.no rfl ?_)
  unfold cmpI
  refine BIf.mk (fun h1 => ?_) (fun h1 => ?_)
  · have h1 : x < y := by simpa using h1
    exact FinX.keep hw (Le.refl _) rfl ⟨by rw [if_pos h1], rfl⟩
  · have h1 : ¬ x < y := by simpa using h1
    refine BIf.mk (fun h2 => ?_) (fun h2 => ?_)
    · have h2 : x > y := by simpa using h2
      exact FinX.keep hw (Le.refl _) rfl ⟨by rw [if_neg h1, if_pos h2], rfl⟩
    · have h2 : ¬ x > y := by simpa using h2
      exact FinX.keep hw (Le.refl _) rfl ⟨by rw [if_neg h1, if_neg h2], rfl⟩
theorem orInt_c (h : AH) (b : Nat) (x y z : Int) {own : Option (TypeId × Nat)} (hb : look h b = some ⟨[.int .i64 x, .int .i64 y, .int .i64 z], own⟩) : ACalls Tryd.prog 50 [.slice (some ⟨b, 0, none⟩) 3 1] h (fun r h' => r = .int .i64 (if x ≠ 0 then x else if y ≠ 0 then y else z) ∧ h' = h) := by
  have hc : CS EI h b 0 [x, y, z] := fun k u hk => by
    match k, hk with
    | 0, hk => simp at hk; subst hk; exact ⟨_, _, hb, rfl, rfl⟩
    | 1, hk => simp at hk; subst hk; exact ⟨_, _, hb, rfl, rfl⟩
    | 2, hk => simp at hk; subst hk; exact ⟨_, _, hb, rfl, rfl⟩
    | k + 3, hk => simp at hk
  refine ACalls.of Tt.tab Tryd.func50 rfl (by kernel_rfl) Tryd.ntmps50 _ rfl rfl (fun hw => ?_)
  refine ⟨⟨[3, 6, 7, 8], fun n' vs g => ∃ i : Nat, n' = 3 - i ∧ i ≤ 3 ∧ g = h ∧ (∀ k, k < i → ith [x, y, z] k = 0) ∧ vs = [.int .i64 0, .slice (some ⟨b, 0, none⟩) 3 1, .int .i64 3, .int .i64 i], _, ⟨0, rfl, by omega, rfl, fun k hk => by omega, rfl⟩, ?_⟩⟩
  rintro n' vs g ⟨i, rfl, hi, rfl, hz, rfl⟩
  refine BIf.mk (fun hlt => ?_) (fun hlt => ?_)
  · have hlt : i < 3 := by simp at hlt; omega
    refine IdxX.mk (by omega) (by omega) ?_
    refine hc.ith (Le.refl _) (show i < [x, y, z].length from hlt) ?_
    refine BIf.mk (fun h2 => ?_) (fun h2 => ?_)
    · have h2 : ith [x, y, z] i ≠ 0 := by simpa using h2
      refine FinX.keep hw (Le.refl _) rfl ⟨?_, rfl⟩
      congr 1
      match i, hlt, hz, h2 with
      | 0, _, _, h2 => have h2 : x ≠ 0 := h2; rw [if_pos h2]; rfl
      | 1, _, hz, h2 => have h0 : x = 0 := hz 0 (by omega); have h2 : y ≠ 0 := h2; rw [if_neg (by omega), if_pos h2]; rfl
      | 2, _, hz, h2 => have h0 : x = 0 := hz 0 (by omega); have h1 : y = 0 := hz 1 (by omega); rw [if_neg (by omega), if_neg (by omega)]; rfl
    · have h2 : ith [x, y, z] i = 0 := by simpa using h2
      refine WR.i64 ?_
      refine ⟨3 - (i + 1), by omega, i + 1, rfl, hlt, rfl, fun k hk => ?_, rfl⟩
      rcases (by omega : k < i ∨ k = i) with hk | rfl
      · exact hz k hk
      · exact h2
  · have hi2 : i = 3 := by simp at hlt; omega
    subst hi2
    have h0 : x = 0 := hz 0 (by omega)
    have h1 : y = 0 := hz 1 (by omega)
    have h2 : z = 0 := hz 2 (by omega)
    exact FinX.keep hw (Le.refl _) rfl ⟨by rw [if_neg (by omega), if_neg (by omega), h2], rfl⟩
theorem last_c (h : AH) (d : Int) : ACalls Tryd.prog 49 [.int .i64 d] h (fun r h' => r = .int .i64 (lastD d) ∧ h' = h) := by
  refine ACalls.of Tt.tab Tryd.func49 rfl (by kernel_rfl) Tryd.ntmps49 _ rfl rfl (fun hw => ?_)
  unfold lastD
  refine BIf.mk (fun h1 => ?_) (fun h1 => ?_)
  · have h1 : d < 0 := by simpa using h1
    exact FinX.keep hw (Le.refl _) rfl ⟨by rw [if_pos h1], rfl⟩
  · have h1 : ¬ d < 0 := by simpa using h1
    exact FinX.keep hw (Le.refl _) rfl ⟨by rw [if_neg h1], rfl⟩
theorem compareBars_c (h : AH) (x y : SBar) : ACalls Tryd.prog 31 [vB x, vB y] h (fun r h' => r = .int .i64 (cmpBar x y) ∧ h' = h) := by
  refine ACalls.of Tt.tab Tryd.func31 rfl (by kernel_rfl) Tryd.ntmps31 _ rfl rfl (fun hw => ?_)
  have S := Sep.start h
  refine S.new fun b1 g S => ?_
  refine S.new fun b2 g S => ?_
  refine DrawX.of Tt.tab follows_any [19] [] [0, 1, 2, 3, 4, 5, 6, 7, 8, 9, 10, 11, 12, 13, 14, 15, 16, 17, 18, 19, 20, 21] rfl (by kernel_rfl) (by kernel_rfl) ?_
  refine LoadX.same (S.at_ 1 rfl) rfl ?_
  refine LoadX.same (S.at_ 0 rfl) rfl ?_
  refine QCall.of (fun g2 hl => compare_c g2 x.degree y.degree) rfl ?_
  refine LoadX.same (S.at_ 1 rfl) rfl ?_
  refine LoadX.same (S.at_ 0 rfl) rfl ?_
  refine QCall.of (fun g2 hl => compare_c g2 x.birth y.birth) rfl ?_
  refine LoadX.same (S.at_ 1 rfl) rfl ?_
  refine QCall.of (fun g2 hl => last_c g2 x.death) rfl ?_
  refine LoadX.same (S.at_ 0 rfl) rfl ?_
  refine QCall.of (fun g2 hl => last_c g2 y.death) rfl ?_
  refine QCall.of (fun g2 hl => compare_c g2 (lastD x.death) (lastD y.death)) rfl ?_
  refine S.newL fun b3 g L S => ?_
  refine ⟨L, ?_⟩
  refine QCall.of (fun g2 hl => orInt_c g2 b3 _ _ _ (hl.at_ _ _ (S.at_ 0 rfl))) rfl ?_
  exact FinX.keep hw S.le rfl ⟨rfl, rfl⟩

theorem areBars1_c (h : AH) (x : SBar) : ACalls Tryd.prog 33 [vB x] h (fun r h' => r = .bool (!isBar x) ∧ h' = h) := by
  refine ACalls.of Tt.tab Tryd.func33 rfl (by kernel_rfl) Tryd.ntmps33 _ rfl rfl (fun hw => ?_)
  have S := Sep.start h
  refine S.new fun b1 g S => ?_
  refine LoadX.same (v := vB x) (S.at_ 0 rfl) rfl ?_
  refine CallX.same (isBar_c g x) ?_
  rintro r g' ⟨rfl, rfl⟩
  exact FinX.keep hw S.le rfl ⟨rfl, rfl⟩
theorem isSorted_c (h : AH) (v : Value) (xs : List SBar) (hx : RB h v xs) : ACalls Tryd.prog 30 [v, .func (.func 31) #[] #[]] h (fun r h' => r = .bool (sorted (fun a b => decide (cmpBar a b < 0)) xs (xs.length - 1)) ∧ h' = h) := by
  obtain ⟨hm, b, o, k1, c1⟩ := hx
  refine ACalls.wk (args' := [.slice (some ⟨b, o, none⟩) xs.length 0, .func (.func 31) #[] #[]]) ?_ (.cons k1 (.cons (Wk.refl _) .nil))
  refine ACalls.of Tt.tab Tryd.func30 rfl (by kernel_rfl) Tryd.ntmps30 _ rfl rfl (fun hw => ?_)
  refine WR.i64 ?_
  refine ⟨⟨[0, 1, 5], fun n' vs g => ∃ i : Int, n' = i.toNat ∧ -1 ≤ i ∧ i ≤ xs.length - 1 ∧ g = h ∧ (∀ k : Nat, i ≤ k → k + 1 < xs.length → decide (cmpBar (bar xs (k + 1)) (bar xs k) < 0) = false) ∧ vs = [.slice (some ⟨b, o, none⟩) xs.length 0, .func (.func 31) #[] #[], .int .i64 i], _, ⟨xs.length - 1, rfl, by omega, by omega, rfl, fun k h1 h2 => by omega, rfl⟩, ?_⟩⟩
  rintro n' vs g ⟨i, rfl, hi0, hi, rfl, hz, rfl⟩
  refine BIf.mk (fun hlt => ?_) (fun hlt => ?_)
  · have hlt : i > 0 := by simpa using hlt
    obtain ⟨j, rfl⟩ : ∃ j : Nat, i = (j + 1 : Nat) := ⟨(i - 1).toNat, by omega⟩
    refine DrawX.of Tt.tab follows_any [] [] [0, 1, 2, 3, 4, 5, 6, 7, 8, 9, 10, 11] rfl (by kernel_rfl) (by kernel_rfl) ?_
    refine IdxX.mk (by omega) (by omega) ?_
    refine CB.load c1 (Le.refl _) (show j + 1 < xs.length by omega) ?_
    refine WR.as (r := (j : Int)) (by omega) ?_
    refine IdxX.mk (by omega) (by omega) ?_
    refine CB.load c1 (Le.refl _) (show j < xs.length by omega) ?_
    refine QCall.of (fun g2 hl => compareBars_c g2 (bar xs (j + 1)) (bar xs j)) rfl ?_
    refine BIf.mk (fun h2 => ?_) (fun h2 => ?_)
    · refine FinX.keep hw (Le.refl _) rfl ⟨?_, rfl⟩
      rw [sorted_false (i := j) (by omega) (by simpa using h2)]
    · refine WR.as (r := (j : Int)) (by omega) ?_
      refine ⟨j, by omega, j, rfl, by omega, by omega, rfl, fun k h3 h4 => ?_, rfl⟩
      rcases (by omega : k = j ∨ j + 1 ≤ k) with rfl | h5
      · exact h2
      · exact hz k (by omega) h4
  · have hlt : ¬ i > 0 := by simpa using hlt
    refine FinX.keep hw (Le.refl _) rfl ⟨?_, rfl⟩
    congr 1
    symm
    unfold sorted
    rw [List.all_eq_true]
    intro k hk
    simp at hk
    show (!decide (cmpBar (bar xs (k + 1)) (bar xs k) < 0)) = true
    rw [hz k (by omega) (by omega)]
    rfl
theorem indexBar_c (h : AH) (v : Value) (xs : List SBar) (g : Nat) (cap : Array Value) (p : SBar → Bool) (hx : RB h v xs)
    (hp : ∀ x ∈ xs, ACalls Tryd.prog g (vB x :: cap.toList) h (fun r h' => r = .bool (p x) ∧ h' = h)) : ACalls Tryd.prog 52 [v, .func (.func g) #[] cap] h (fun r h' => r = .int .i64 (idx p xs) ∧ h' = h) := by
  obtain ⟨hm, b, o, k1, c1⟩ := hx
  refine ACalls.wk (args' := [.slice (some ⟨b, o, none⟩) xs.length 0, .func (.func g) #[] cap]) ?_ (.cons k1 (.cons (Wk.refl _) .nil))
  refine ACalls.of Tt.tab Tryd.func52 rfl (by kernel_rfl) Tryd.ntmps52 _ rfl rfl (fun hw => ?_)
  refine ⟨⟨[0, 1, 7, 8], fun n' vs h' => ∃ k : Nat, n' = xs.length - k ∧ k ≤ xs.length ∧ h' = h ∧ (xs.take k).any p = false ∧ vs = [.slice (some ⟨b, o, none⟩) xs.length 0, .func (.func g) #[] cap, .int .i64 xs.length, .int .i64 k], _, ⟨0, rfl, Nat.zero_le _, rfl, rfl, rfl⟩, ?_⟩⟩
  rintro n' vs h' ⟨k, rfl, hk, rfl, ht, rfl⟩
  refine BIf.mk (fun h2 => ?_) (fun h2 => ?_)
  · have hlt : k < xs.length := by simpa using h2
    refine IdxX.mk (by omega) (by omega) ?_
    refine CB.load c1 (Le.refl _) hlt ?_
    refine CallX.same (hp _ (bar_mem hlt)) ?_
    rintro r h3 ⟨rfl, rfl⟩
    refine BIf.mk (fun h4 => ?_) (fun h4 => ?_)
    · refine FinX.keep hw (Le.refl _) rfl ⟨?_, rfl⟩
      rw [idx_stop p xs k hlt ht (by have := bar_get hlt; rw [List.getElem?_eq_getElem hlt] at this; injection this with this; rw [this]; exact h4)]
    · refine WR.i64 ?_
      refine ⟨xs.length - (k + 1), by omega, k + 1, rfl, hlt, rfl, ?_, rfl⟩
      rw [take_succ_bar hlt, List.any_append, ht]
      simp [h4]
  · refine FinX.keep hw (Le.refl _) rfl ⟨?_, rfl⟩
    have hk2 : k = xs.length := by simp at h2; omega
    subst hk2
    rw [List.take_length] at ht
    rw [idx_none p xs ht]
theorem containsBar_c (h : AH) (v : Value) (xs : List SBar) (g : Nat) (cap : Array Value) (p : SBar → Bool) (hx : RB h v xs)
    (hp : ∀ x ∈ xs, ACalls Tryd.prog g (vB x :: cap.toList) h (fun r h' => r = .bool (p x) ∧ h' = h)) : ACalls Tryd.prog 32 [v, .func (.func g) #[] cap] h (fun r h' => r = .bool (xs.any p) ∧ h' = h) := by
  obtain ⟨b, o, k1, hx⟩ := hx.can
  refine ACalls.wk (args' := [.slice (some ⟨b, o, none⟩) xs.length 0, .func (.func g) #[] cap]) ?_ (.cons k1 (.cons (Wk.refl _) .nil))
  refine ACalls.of Tt.tab Tryd.func32 rfl (by kernel_rfl) Tryd.ntmps32 _ rfl rfl (fun hw => ?_)
  refine CallX.same (indexBar_c h _ xs g cap p hx hp) ?_
  rintro r h3 ⟨rfl, rfl⟩
  exact FinX.keep hw (Le.refl _) rfl ⟨by rw [(idx_any p xs).1], rfl⟩
theorem areBarsI_c (h : AH) (v : Value) (xs : List SBar) (hx : RB h v xs) : ACalls Tryd.prog 18 [v] h (fun r h' => r = .bool (areBars xs) ∧ h' = h) := by
  obtain ⟨b, o, k1, hx⟩ := hx.can
  refine ACalls.wk (args' := [.slice (some ⟨b, o, none⟩) xs.length 0]) ?_ (.cons k1 .nil)
  rw [← areBars_impl]
  refine ACalls.of Tt.tab Tryd.func18 rfl (by kernel_rfl) Tryd.ntmps18 _ rfl rfl (fun hw => ?_)
  refine BIf.mk (fun h1 => ?_) (fun h1 => ?_)
  · have h1 : xs.length ≤ 24 := by simp at h1; omega
    refine CallX.same (isSorted_c h _ xs hx) ?_
    rintro r g ⟨rfl, rfl⟩
    refine BIf.mk (fun h2 => ?_) (fun h2 => ?_)
    · refine CallX.same (containsBar_c _ _ xs _ _ (fun x => !isBar x) hx (fun x _ => areBars1_c _ x)) ?_
      rintro r g ⟨rfl, rfl⟩
      refine FinX.keep hw (Le.refl _) rfl ⟨?_, rfl⟩
      rw [h2, decide_eq_true h1, List.all_eq_not_any_not]
      rfl
    · exact FinX.keep hw (Le.refl _) rfl ⟨by rw [h2]; simp, rfl⟩
  · have h1 : ¬ xs.length ≤ 24 := by simp at h1; omega
    refine BIf.no rfl ?_
    exact FinX.keep hw (Le.refl _) rfl ⟨by simp [h1], rfl⟩

end Go.Gl

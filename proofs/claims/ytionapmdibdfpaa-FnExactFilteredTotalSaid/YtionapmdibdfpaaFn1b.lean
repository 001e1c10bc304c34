/- Library functions over slices with function values; rows of numbers. No condition. -/
import Derived.Test.YtionapmdibdfpaaFn1
set_option linter.unusedVariables false
set_option linter.unusedSimpArgs false
namespace Go.Gl
open Go.Proofs Go.Proofs.Ytionapmdibdfpaa

/-- the first place, or -1 -/
def idx {α : Type} (p : α → Bool) : List α → Int
  | [] => -1
  | x :: xs => if p x then 0 else if idx p xs < 0 then -1 else idx p xs + 1
theorem idx_any {α : Type} (p : α → Bool) (xs : List α) : (decide (idx p xs ≥ 0)) = xs.any p ∧ -1 ≤ idx p xs := by
  induction xs with
  | nil => exact ⟨rfl, by simp [idx]⟩
  | cons x xs ih =>
    obtain ⟨h1, h2⟩ := ih
    unfold idx
    cases hp : p x with
    | true => simp [hp]
    | false =>
      simp only [Bool.false_eq_true, if_false, List.any_cons, hp, Bool.false_or, ← h1]
      split
      · rename_i h3
        exact ⟨by simp; omega, by omega⟩
      · rename_i h3
        exact ⟨by simp; omega, by omega⟩
theorem idx_stop {α : Type} (p : α → Bool) (xs : List α) (k : Nat) (hk : k < xs.length) (h1 : (xs.take k).any p = false) (h2 : p xs[k] = true) : idx p xs = k := by
  induction xs generalizing k with
  | nil => simp at hk
  | cons x xs ih =>
    unfold idx
    cases k with
    | zero => simp at h2; simp [h2]
    | succ k =>
      simp only [List.take_succ_cons, List.any_cons, Bool.or_eq_false_iff] at h1
      have := ih k (by simpa using hk) h1.2 (by simpa using h2)
      rw [this, h1.1]
      simp
      omega
theorem idx_none {α : Type} (p : α → Bool) (xs : List α) (h1 : xs.any p = false) : idx p xs = -1 := by
  have := (idx_any p xs).1
  rw [h1] at this
  have := (idx_any p xs).2
  simp at *
  omega


theorem indexFuncI_c (h : AH) (v : Value) (xs : List Int) (g : Nat) (cap : Array Value) (p : Int → Bool) (hx : RI h v xs)
    (hp : ∀ x ∈ xs, ∀ u, u = Value.int .i64 x → ACalls Try.prog g (u :: cap.toList) h (fun r h' => r = .bool (p x) ∧ h' = h)) : ACalls Try.prog 74 [v, .func (.func g) #[] cap] h (fun r h' => r = .int .i64 (idx p xs) ∧ h' = h) := by
  obtain ⟨hm, b, o, hw1, hc⟩ := hx
  refine ACalls.wk (args' := [.slice (some ⟨b, o, none⟩) xs.length 0, .func (.func g) #[] cap]) ?_ (.cons hw1 (.cons (Wk.refl _) .nil))
  refine ACalls.of Tt.tab Try.func74 rfl (by kernel_rfl) Try.ntmps74 _ rfl rfl (fun hw => ?_)
  refine ⟨⟨[0, 1, 7, 8], fun n vs h' => ∃ k : Nat, n = xs.length - k ∧ k ≤ xs.length ∧ h' = h ∧ (xs.take k).any p = false ∧ vs = [.slice (some ⟨b, o, none⟩) xs.length 0, .func (.func g) #[] cap, .int .i64 xs.length, .int .i64 k], _, ⟨0, rfl, Nat.zero_le _, rfl, rfl, rfl⟩, ?_⟩⟩
  rintro n vs h' ⟨k, rfl, hk, rfl, ht, rfl⟩
  refine BIf.mk (fun h2 => ?_) (fun h2 => ?_)
  · have hlt : k < xs.length := by simpa using h2
    refine IdxX.mk (by omega) (by omega) ?_
    refine hc.loadI rfl hlt ?_
    refine CallX.same (hp _ (List.getElem_mem hlt) _ rfl) ?_
    rintro r h3 ⟨rfl, rfl⟩
    refine BIf.mk (fun h4 => ?_) (fun h4 => ?_)
    · refine FinX.keep hw (Le.refl _) rfl ⟨?_, rfl⟩
      rw [idx_stop p xs k hlt ht h4]
    · refine WR.i64 ?_
      refine ⟨xs.length - (k + 1), by omega, k + 1, rfl, hlt, rfl, ?_, rfl⟩
      rw [List.take_succ_eq_append_getElem hlt, List.any_append, ht]
      simp [h4]
  · refine FinX.keep hw (Le.refl _) rfl ⟨?_, rfl⟩
    have hk2 : k = xs.length := by simp at h2; omega
    subst hk2
    rw [List.take_length] at ht
    rw [idx_none p xs ht]

theorem containsFuncI_c (h : AH) (v : Value) (xs : List Int) (g : Nat) (cap : Array Value) (p : Int → Bool) (hx : RI h v xs)
    (hp : ∀ x ∈ xs, ∀ u, u = Value.int .i64 x → ACalls Try.prog g (u :: cap.toList) h (fun r h' => r = .bool (p x) ∧ h' = h)) : ACalls Try.prog 52 [v, .func (.func g) #[] cap] h (fun r h' => r = .bool (xs.any p) ∧ h' = h) := by
  obtain ⟨b, o, hw1, hx⟩ := hx.can
  refine ACalls.wk (args' := [.slice (some ⟨b, o, none⟩) xs.length 0, .func (.func g) #[] cap]) ?_ (.cons hw1 (.cons (Wk.refl _) .nil))
  refine ACalls.of Tt.tab Try.func52 rfl (by kernel_rfl) Try.ntmps52 _ rfl rfl (fun hw => ?_)
  refine CallX.same (indexFuncI_c h _ xs g cap p hx hp) ?_
  rintro r h3 ⟨rfl, rfl⟩
  exact FinX.keep hw (Le.refl _) rfl ⟨by rw [(idx_any p xs).1], rfl⟩


theorem indexFuncII_c (h : AH) (v : Value) (xs : List (List Int)) (g : Nat) (cap : Array Value) (p : (List Int) → Bool) (hx : RII h v xs)
    (hp : ∀ x ∈ xs, ∀ b o, RI h (.slice (some ⟨b, o, none⟩) x.length 0) x → ACalls Try.prog g (.slice (some ⟨b, o, none⟩) x.length 0 :: cap.toList) h (fun r h' => r = .bool (p x) ∧ h' = h)) : ACalls Try.prog 88 [v, .func (.func g) #[] cap] h (fun r h' => r = .int .i64 (idx p xs) ∧ h' = h) := by
  obtain ⟨hm, b, o, hw1, hc⟩ := hx
  refine ACalls.wk (args' := [.slice (some ⟨b, o, none⟩) xs.length 0, .func (.func g) #[] cap]) ?_ (.cons hw1 (.cons (Wk.refl _) .nil))
  refine ACalls.of Tt.tab Try.func88 rfl (by kernel_rfl) Try.ntmps88 _ rfl rfl (fun hw => ?_)
  refine ⟨⟨[0, 1, 7, 8], fun n vs h' => ∃ k : Nat, n = xs.length - k ∧ k ≤ xs.length ∧ h' = h ∧ (xs.take k).any p = false ∧ vs = [.slice (some ⟨b, o, none⟩) xs.length 0, .func (.func g) #[] cap, .int .i64 xs.length, .int .i64 k], _, ⟨0, rfl, Nat.zero_le _, rfl, rfl, rfl⟩, ?_⟩⟩
  rintro n vs h' ⟨k, rfl, hk, rfl, ht, rfl⟩
  refine BIf.mk (fun h2 => ?_) (fun h2 => ?_)
  · have hlt : k < xs.length := by simpa using h2
    refine IdxX.mk (by omega) (by omega) ?_
    refine hc.loadY rfl hlt rfl fun b3 o3 hr3 => ?_
    refine CallX.same (hp _ (List.getElem_mem hlt) _ _ hr3) ?_
    rintro r h3 ⟨rfl, rfl⟩
    refine BIf.mk (fun h4 => ?_) (fun h4 => ?_)
    · refine FinX.keep hw (Le.refl _) rfl ⟨?_, rfl⟩
      rw [idx_stop p xs k hlt ht h4]
    · refine WR.i64 ?_
      refine ⟨xs.length - (k + 1), by omega, k + 1, rfl, hlt, rfl, ?_, rfl⟩
      rw [List.take_succ_eq_append_getElem hlt, List.any_append, ht]
      simp [h4]
  · refine FinX.keep hw (Le.refl _) rfl ⟨?_, rfl⟩
    have hk2 : k = xs.length := by simp at h2; omega
    subst hk2
    rw [List.take_length] at ht
    rw [idx_none p xs ht]

theorem containsFuncII_c (h : AH) (v : Value) (xs : List (List Int)) (g : Nat) (cap : Array Value) (p : (List Int) → Bool) (hx : RII h v xs)
    (hp : ∀ x ∈ xs, ∀ b o, RI h (.slice (some ⟨b, o, none⟩) x.length 0) x → ACalls Try.prog g (.slice (some ⟨b, o, none⟩) x.length 0 :: cap.toList) h (fun r h' => r = .bool (p x) ∧ h' = h)) : ACalls Try.prog 83 [v, .func (.func g) #[] cap] h (fun r h' => r = .bool (xs.any p) ∧ h' = h) := by
  obtain ⟨b, o, hw1, hx⟩ := hx.can
  refine ACalls.wk (args' := [.slice (some ⟨b, o, none⟩) xs.length 0, .func (.func g) #[] cap]) ?_ (.cons hw1 (.cons (Wk.refl _) .nil))
  refine ACalls.of Tt.tab Try.func83 rfl (by kernel_rfl) Try.ntmps83 _ rfl rfl (fun hw => ?_)
  refine CallX.same (indexFuncII_c h _ xs g cap p hx hp) ?_
  rintro r h3 ⟨rfl, rfl⟩
  exact FinX.keep hw (Le.refl _) rfl ⟨by rw [(idx_any p xs).1], rfl⟩


/-- a row of numbers modulo p -/
def vecOk (p n : Int) (v : List Int) : Bool := decide ((v.length : Int) = n) && v.all fun x => decide (0 ≤ x ∧ x ≤ p - 1)
def rowsOk (p n : Int) (rows : List (List Int)) : Bool := rows.all (vecOk p n)

theorem isVector1_c (h : AH) (p x : Int) (b : Nat) (hp : 2 ≤ p ∧ p ≤ 7) (hb : look h b = some ⟨[.int .i64 p], some (tI, 1)⟩) : ACalls Try.prog 89 [.int .i64 x, .pointer (some ⟨b, 0, none⟩)] h (fun r h' => r = .bool (!decide (0 ≤ x ∧ x ≤ p - 1)) ∧ h' = h) := by
  refine ACalls.of Tt.tab Try.func89 rfl (by kernel_rfl) Try.ntmps89 _ rfl rfl (fun hw => ?_)
  refine LoadX.same hb rfl ?_
  refine WR.i64 ?_
  refine CallX.same (between_c _ x 0 (p - 1)) ?_
  rintro r h3 ⟨rfl, rfl⟩
  exact FinX.keep hw (Le.refl _) rfl ⟨rfl, rfl⟩
theorem isVector_c (h : AH) (p n : Int) (v : Value) (xs : List Int) (hp : 2 ≤ p ∧ p ≤ 7) (hx : RI h v xs) : ACalls Try.prog 85 [.int .i64 p, .int .i64 n, v] h (fun r h' => r = .bool (vecOk p n xs) ∧ h' = h) := by
  obtain ⟨b, o, hw1, hx⟩ := hx.can
  refine ACalls.wk (args' := [.int .i64 p, .int .i64 n, .slice (some ⟨b, o, none⟩) xs.length 0]) ?_ (.cons (Wk.refl _) (.cons (Wk.refl _) (.cons hw1 .nil)))
  refine ACalls.of Tt.tab Try.func85 rfl (by kernel_rfl) Try.ntmps85 _ rfl rfl (fun hw => ?_)
  refine NewX.intro fun b1 h1 g1 (l1 : look h1 b1 = some ⟨[.int .i64 p], some (tI, 1)⟩) n1 => ?_
  refine CallX.same (sizeI_c _ _ _ _ _) ?_
  rintro r h2 ⟨rfl, rfl⟩
  refine BIf.mk (fun hn => ?_) (fun hn => ?_)
  · refine CallX.same (containsFuncI_c _ _ xs _ _ (fun x => !decide (0 ≤ x ∧ x ≤ p - 1)) (RI.le _ _ _ _ g1 hx) (fun x _ u hu => by subst hu; exact isVector1_c _ p x b1 hp l1)) ?_
    rintro r h3 ⟨rfl, rfl⟩
    refine FinX.keep hw g1 rfl ⟨?_, rfl⟩
    have hn : (xs.length : Int) = n := by simpa using hn
    unfold vecOk
    rw [List.all_eq_not_any_not]
    simp [hn]
  · refine FinX.keep hw g1 rfl ⟨?_, rfl⟩
    have hn : ¬ (xs.length : Int) = n := by simpa using hn
    unfold vecOk
    simp [hn]

theorem areRows1_c (h : AH) (p n : Int) (v : Value) (xs : List Int) (b b2 : Nat) (hp : 2 ≤ p ∧ p ≤ 7) (hb : look h b = some ⟨[.int .i64 p], some (tI, 1)⟩) (hb2 : look h b2 = some ⟨[.int .i64 n], some (tI, 1)⟩) (hx : RI h v xs) :
    ACalls Try.prog 84 [v, .pointer (some ⟨b, 0, none⟩), .pointer (some ⟨b2, 0, none⟩)] h (fun r h' => r = .bool (!vecOk p n xs) ∧ h' = h) := by
  obtain ⟨b3, o, hw1, hx⟩ := hx.can
  refine ACalls.wk (args' := [.slice (some ⟨b3, o, none⟩) xs.length 0, .pointer (some ⟨b, 0, none⟩), .pointer (some ⟨b2, 0, none⟩)]) ?_ (.cons hw1 (.cons (Wk.refl _) (.cons (Wk.refl _) .nil)))
  refine ACalls.of Tt.tab Try.func84 rfl (by kernel_rfl) Try.ntmps84 _ rfl rfl (fun hw => ?_)
  refine LoadX.same hb rfl ?_
  refine LoadX.same hb2 rfl ?_
  refine CallX.same (isVector_c _ p n _ xs hp hx) ?_
  rintro r h3 ⟨rfl, rfl⟩
  exact FinX.keep hw (Le.refl _) rfl ⟨rfl, rfl⟩
theorem areRows_c (h : AH) (p n : Int) (v : Value) (xs : List (List Int)) (hp : 2 ≤ p ∧ p ≤ 7) (hx : RII h v xs) : ACalls Try.prog 75 [.int .i64 p, .int .i64 n, v] h (fun r h' => r = .bool (rowsOk p n xs) ∧ h' = h) := by
  obtain ⟨b, o, hw1, hx⟩ := hx.can
  refine ACalls.wk (args' := [.int .i64 p, .int .i64 n, .slice (some ⟨b, o, none⟩) xs.length 0]) ?_ (.cons (Wk.refl _) (.cons (Wk.refl _) (.cons hw1 .nil)))
  refine ACalls.of Tt.tab Try.func75 rfl (by kernel_rfl) Try.ntmps75 _ rfl rfl (fun hw => ?_)
  refine NewX.intro fun b1 h1 g1 (l1 : look h1 b1 = some ⟨[.int .i64 p], some (tI, 1)⟩) n1 => ?_
  refine NewX.intro fun b2 h2 g2 (l2 : look h2 b2 = some ⟨[.int .i64 n], some (tI, 1)⟩) n2 => ?_
  have g := g1.trans g2
  refine CallX.same (containsFuncII_c _ _ xs _ _ (fun r => !vecOk p n r) (RII.le _ _ _ _ g hx) (fun x _ b o hr => areRows1_c _ p n _ x b1 b2 hp (g2.at_ _ _ l1) l2 hr)) ?_
  rintro r h3 ⟨rfl, rfl⟩
  refine FinX.keep hw g rfl ⟨?_, rfl⟩
  unfold rowsOk
  rw [List.all_eq_not_any_not]

theorem l01Table_c (h : AH) (p c n : Int) (v : Value) (xs : List (List Int)) (hp : 2 ≤ p ∧ p ≤ 7) (hx : RII h v xs) : ACalls Try.prog 42 [.int .i64 p, v, .int .i64 c, .int .i64 n] h (fun r h' => r = .bool (decide ((xs.length : Int) = c) && rowsOk p n xs) ∧ h' = h) := by
  obtain ⟨hm, b, o, hw1, hc⟩ := hx
  refine ACalls.wk (args' := [.int .i64 p, .slice (some ⟨b, o, none⟩) xs.length 0, .int .i64 c, .int .i64 n]) ?_ (.cons (Wk.refl _) (.cons hw1 (.cons (Wk.refl _) (.cons (Wk.refl _) .nil))))
  refine ACalls.of Tt.tab Try.func42 rfl (by kernel_rfl) Try.ntmps42 _ rfl rfl (fun hw => ?_)
  refine BIf.mk (fun h1 => ?_) (fun h1 => ?_)
  · have h1 : ¬ (xs.length : Int) = c := by simpa using h1
    exact FinX.keep hw (Le.refl _) rfl ⟨by simp [h1], rfl⟩
  · have h1 : (xs.length : Int) = c := by simpa using h1
    have hfalse : ∀ k (hk : k < xs.length), vecOk p n xs[k] = false → (decide ((xs.length : Int) = c) && rowsOk p n xs) = false := by
      intro k hk hv
      rw [Bool.and_eq_false_iff]
      right
      unfold rowsOk
      rw [List.all_eq_false]
      exact ⟨_, List.getElem_mem hk, by simp [hv]⟩
    refine ⟨⟨[0, 1, 2, 3, 9], fun n' vs h' => ∃ k : Nat, n' = xs.length - k ∧ k ≤ xs.length ∧ h' = h ∧ rowsOk p n (xs.take k) = true ∧ vs = [.int .i64 p, .slice (some ⟨b, o, none⟩) xs.length 0, .int .i64 c, .int .i64 n, .int .i64 k], _, ⟨0, rfl, Nat.zero_le _, rfl, rfl, rfl⟩, ?_⟩⟩
    rintro n' vs h' ⟨k, rfl, hk, rfl, ht, rfl⟩
    refine BIf.mk (fun h2 => ?_) (fun h2 => ?_)
    · have hlt : k < xs.length := by simpa using h2
      refine IdxX.mk (by omega) (by omega) ?_
      refine hc.loadY rfl hlt rfl fun b3 o3 hr3 => ?_
      refine BIf.mk (fun h3 => ?_) (fun h3 => ?_)
      · have h3 : ¬ (xs[k].length : Int) = n := by simpa using h3
        exact FinX.keep hw (Le.refl _) rfl ⟨by rw [hfalse k hlt (by simp [vecOk, h3])], rfl⟩
      · have h3 : (xs[k].length : Int) = n := by simpa using h3
        refine ⟨⟨[0, 1, 2, 3, 9, 10], fun n' vs h'' => ∃ j : Nat, n' = xs[k].length - j ∧ j ≤ xs[k].length ∧ h'' = h' ∧ ((xs[k].take j).all fun x => decide (0 ≤ x ∧ x ≤ p - 1)) = true ∧ vs = [.int .i64 p, .slice (some ⟨b, o, none⟩) xs.length 0, .int .i64 c, .int .i64 n, .int .i64 k, .int .i64 j], _, ⟨0, rfl, Nat.zero_le _, rfl, rfl, rfl⟩, ?_⟩⟩
        rintro n' vs h'' ⟨j, rfl, hj, rfl, ht2, rfl⟩
        refine IdxX.mk (by omega) (by omega) ?_
        refine hc.loadS rfl hlt fun b4 o4 hm4 hc4 => ?_
        refine BIf.mk (fun h4 => ?_) (fun h4 => ?_)
        · have hlt2 : j < xs[k].length := by simpa using h4
          refine IdxX.mk (by omega) (by omega) ?_
          refine hc.loadS rfl hlt fun b5 o5 hm5 hc5 => ?_
          refine IdxX.mk (by omega) (by omega) ?_
          refine hc5.loadI rfl hlt2 ?_
          refine WR.i64 ?_
          refine CallX.same (l01In_c _ _ 0 (p - 1)) ?_
          rintro r h6 ⟨rfl, rfl⟩
          refine BIf.mk (fun h5 => ?_) (fun h5 => ?_)
          · have h5 : ¬ (0 ≤ xs[k][j] ∧ xs[k][j] ≤ p - 1) := fun hh => by simp [hh] at h5
            refine FinX.keep hw (Le.refl _) rfl ⟨?_, rfl⟩
            rw [hfalse k hlt]
            unfold vecOk
            rw [Bool.and_eq_false_iff]
            right
            rw [List.all_eq_false]
            exact ⟨_, List.getElem_mem hlt2, by simp only [decide_eq_true_eq]; exact h5⟩
          · have h5 : 0 ≤ xs[k][j] ∧ xs[k][j] ≤ p - 1 := by simpa using h5
            refine WR.i64 ?_
            refine ⟨xs[k].length - (j + 1), by omega, j + 1, rfl, hlt2, rfl, ?_, rfl⟩
            rw [List.take_succ_eq_append_getElem hlt2, List.all_append, ht2]
            simp only [List.all_cons, List.all_nil, Bool.and_true, Bool.true_and, decide_eq_true_eq]
            exact h5
        · have hj2 : j = xs[k].length := by simp at h4; omega
          subst hj2
          rw [List.take_length] at ht2
          refine WR.i64 ?_
          refine ⟨xs.length - (k + 1), by omega, k + 1, rfl, hlt, rfl, ?_, rfl⟩
          unfold rowsOk at ht ⊢
          have hv : vecOk p n xs[k] = true := by
            unfold vecOk
            rw [ht2]
            simp [h3]
          rw [List.take_succ_eq_append_getElem hlt, List.all_append, ht]
          simp [hv]
    · have hk2 : k = xs.length := by simp at h2; omega
      subst hk2
      rw [List.take_length] at ht
      exact FinX.keep hw (Le.refl _) rfl ⟨by simp [h1, ht], rfl⟩

end Go.Gl

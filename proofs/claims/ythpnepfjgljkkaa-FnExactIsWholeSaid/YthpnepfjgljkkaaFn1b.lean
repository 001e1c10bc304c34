/- Library functions over slices with function values; rows of numbers. No condition. -/
import Derived.Test.YthpnepfjgljkkaaFn1
set_option linter.unusedVariables false
set_option linter.unusedSimpArgs false
namespace Go.Gl
open Go.Proofs Go.Proofs.Ythpnepfjgljkkaa

/-- the first place, or -1 -/
def idx {α : Type} (p : α → Bool) : List α → Int
  | [] => -1
  | x :: xs => if p x then 0 else if idx p xs < 0 then -1 else idx p xs + 1
theorem idx_any {α : Type} (p : α → Bool) (xs : List α) : (decide (idx p xs ≥ 0)) = xs.any p ∧ -1 ≤ idx p xs := by
  induction xs with
  | nil => exact ⟨rfl, by simp [idx]⟩
  | cons x xs ih =>
    obtain ⟨h1, h2⟩ := ih
    unfold idx
    cases hp : p x with
    | true => simp [hp]
    | false =>
      simp only [Bool.false_eq_true, if_false, List.any_cons, hp, Bool.false_or, ← h1]
      split
      · rename_i h3
        exact ⟨by simp; omega, by omega⟩
      · rename_i h3
        exact ⟨by simp; omega, by omega⟩
theorem idx_stop {α : Type} (p : α → Bool) (xs : List α) (k : Nat) (hk : k < xs.length) (h1 : (xs.take k).any p = false) (h2 : p xs[k] = true) : idx p xs = k := by
  induction xs generalizing k with
  | nil => simp at hk
  | cons x xs ih =>
    unfold idx
    cases k with
    | zero => simp at h2; simp [h2]
    | succ k =>
      simp only [List.take_succ_cons, List.any_cons, Bool.or_eq_false_iff] at h1
      have := ih k (by simpa using hk) h1.2 (by simpa using h2)
      rw [this, h1.1]
      simp
      omega
theorem idx_none {α : Type} (p : α → Bool) (xs : List α) (h1 : xs.any p = false) : idx p xs = -1 := by
  have := (idx_any p xs).1
  rw [h1] at this
  have := (idx_any p xs).2
  simp at *
  omega


theorem indexFuncI_c (h : AH) (v : Value) (xs : List Int) (g : Nat) (cap : Array Value) (p : Int → Bool) (hx : RI h v xs)
    (hp : ∀ x ∈ xs, ∀ u, u = Value.int .i64 x → ACalls Try.prog g (u :: cap.toList) h (fun r h' => r = .bool (p x) ∧ h' = h)) : ACalls Try.prog 137 [v, .func (.func g) #[] cap] h (fun r h' => r = .int .i64 (idx p xs) ∧ h' = h) := by
  obtain ⟨hm, b, o, hw1, hc⟩ := hx
  refine ACalls.wk (args' := [.slice (some ⟨b, o, none⟩) xs.length 0, .func (.func g) #[] cap]) ?_ (.cons hw1 (.cons (Wk.refl _) .nil))
  refine ACalls.of Tt.tab Try.func137 rfl (by kernel_rfl) Try.ntmps137 _ rfl rfl (fun hw => ?_)
  refine ⟨⟨[0, 1, 7, 8], fun n vs h' => ∃ k : Nat, n = xs.length - k ∧ k ≤ xs.length ∧ h' = h ∧ (xs.take k).any p = false ∧ vs = [.slice (some ⟨b, o, none⟩) xs.length 0, .func (.func g) #[] cap, .int .i64 xs.length, .int .i64 k], _, ⟨0, rfl, Nat.zero_le _, rfl, rfl, rfl⟩, ?_⟩⟩
  rintro n vs h' ⟨k, rfl, hk, rfl, ht, rfl⟩
  refine BIf.mk (fun h2 => ?_) (fun h2 => ?_)
  · have hlt : k < xs.length := by simpa using h2
    refine IdxX.mk (by omega) (by omega) ?_
    refine hc.loadI rfl hlt ?_
    refine CallX.same (hp _ (List.getElem_mem hlt) _ rfl) ?_
    rintro r h3 ⟨rfl, rfl⟩
    refine BIf.mk (fun h4 => ?_) (fun h4 => ?_)
    · refine FinX.keep hw (Le.refl _) rfl ⟨?_, rfl⟩
      rw [idx_stop p xs k hlt ht h4]
    · refine WR.i64 ?_
      refine ⟨xs.length - (k + 1), by omega, k + 1, rfl, hlt, rfl, ?_, rfl⟩
      rw [List.take_succ_eq_append_getElem hlt, List.any_append, ht]
      simp [h4]
  · refine FinX.keep hw (Le.refl _) rfl ⟨?_, rfl⟩
    have hk2 : k = xs.length := by simp at h2; omega
    subst hk2
    rw [List.take_length] at ht
    rw [idx_none p xs ht]

theorem containsFuncI_c (h : AH) (v : Value) (xs : List Int) (g : Nat) (cap : Array Value) (p : Int → Bool) (hx : RI h v xs)
    (hp : ∀ x ∈ xs, ∀ u, u = Value.int .i64 x → ACalls Try.prog g (u :: cap.toList) h (fun r h' => r = .bool (p x) ∧ h' = h)) : ACalls Try.prog 97 [v, .func (.func g) #[] cap] h (fun r h' => r = .bool (xs.any p) ∧ h' = h) := by
  obtain ⟨b, o, hw1, hx⟩ := hx.can
  refine ACalls.wk (args' := [.slice (some ⟨b, o, none⟩) xs.length 0, .func (.func g) #[] cap]) ?_ (.cons hw1 (.cons (Wk.refl _) .nil))
  refine ACalls.of Tt.tab Try.func97 rfl (by kernel_rfl) Try.ntmps97 _ rfl rfl (fun hw => ?_)
  refine CallX.same (indexFuncI_c h _ xs g cap p hx hp) ?_
  rintro r h3 ⟨rfl, rfl⟩
  exact FinX.keep hw (Le.refl _) rfl ⟨by rw [(idx_any p xs).1], rfl⟩


theorem indexFuncII_c (h : AH) (v : Value) (xs : List (List Int)) (g : Nat) (cap : Array Value) (p : (List Int) → Bool) (hx : RII h v xs)
    (hp : ∀ x ∈ xs, ∀ b o, RI h (.slice (some ⟨b, o, none⟩) x.length 0) x → ACalls Try.prog g (.slice (some ⟨b, o, none⟩) x.length 0 :: cap.toList) h (fun r h' => r = .bool (p x) ∧ h' = h)) : ACalls Try.prog 149 [v, .func (.func g) #[] cap] h (fun r h' => r = .int .i64 (idx p xs) ∧ h' = h) := by
  obtain ⟨hm, b, o, hw1, hc⟩ := hx
  refine ACalls.wk (args' := [.slice (some ⟨b, o, none⟩) xs.length 0, .func (.func g) #[] cap]) ?_ (.cons hw1 (.cons (Wk.refl _) .nil))
  refine ACalls.of Tt.tab Try.func149 rfl (by kernel_rfl) Try.ntmps149 _ rfl rfl (fun hw => ?_)
  refine ⟨⟨[0, 1, 7, 8], fun n vs h' => ∃ k : Nat, n = xs.length - k ∧ k ≤ xs.length ∧ h' = h ∧ (xs.take k).any p = false ∧ vs = [.slice (some ⟨b, o, none⟩) xs.length 0, .func (.func g) #[] cap, .int .i64 xs.length, .int .i64 k], _, ⟨0, rfl, Nat.zero_le _, rfl, rfl, rfl⟩, ?_⟩⟩
  rintro n vs h' ⟨k, rfl, hk, rfl, ht, rfl⟩
  refine BIf.mk (fun h2 => ?_) (fun h2 => ?_)
  · have hlt : k < xs.length := by simpa using h2
    refine IdxX.mk (by omega) (by omega) ?_
    refine hc.loadY rfl hlt rfl fun b3 o3 hr3 => ?_
    refine CallX.same (hp _ (List.getElem_mem hlt) _ _ hr3) ?_
    rintro r h3 ⟨rfl, rfl⟩
    refine BIf.mk (fun h4 => ?_) (fun h4 => ?_)
    · refine FinX.keep hw (Le.refl _) rfl ⟨?_, rfl⟩
      rw [idx_stop p xs k hlt ht h4]
    · refine WR.i64 ?_
      refine ⟨xs.length - (k + 1), by omega, k + 1, rfl, hlt, rfl, ?_, rfl⟩
      rw [List.take_succ_eq_append_getElem hlt, List.any_append, ht]
      simp [h4]
  · refine FinX.keep hw (Le.refl _) rfl ⟨?_, rfl⟩
    have hk2 : k = xs.length := by simp at h2; omega
    subst hk2
    rw [List.take_length] at ht
    rw [idx_none p xs ht]

theorem containsFuncII_c (h : AH) (v : Value) (xs : List (List Int)) (g : Nat) (cap : Array Value) (p : (List Int) → Bool) (hx : RII h v xs)
    (hp : ∀ x ∈ xs, ∀ b o, RI h (.slice (some ⟨b, o, none⟩) x.length 0) x → ACalls Try.prog g (.slice (some ⟨b, o, none⟩) x.length 0 :: cap.toList) h (fun r h' => r = .bool (p x) ∧ h' = h)) : ACalls Try.prog 131 [v, .func (.func g) #[] cap] h (fun r h' => r = .bool (xs.any p) ∧ h' = h) := by
  obtain ⟨b, o, hw1, hx⟩ := hx.can
  refine ACalls.wk (args' := [.slice (some ⟨b, o, none⟩) xs.length 0, .func (.func g) #[] cap]) ?_ (.cons hw1 (.cons (Wk.refl _) .nil))
  refine ACalls.of Tt.tab Try.func131 rfl (by kernel_rfl) Try.ntmps131 _ rfl rfl (fun hw => ?_)
  refine CallX.same (indexFuncII_c h _ xs g cap p hx hp) ?_
  rintro r h3 ⟨rfl, rfl⟩
  exact FinX.keep hw (Le.refl _) rfl ⟨by rw [(idx_any p xs).1], rfl⟩


/-- a row of numbers modulo p -/
def vecOk (p n : Int) (v : List Int) : Bool := decide ((v.length : Int) = n) && v.all fun x => decide (0 ≤ x ∧ x ≤ p - 1)
def rowsOk (p n : Int) (rows : List (List Int)) : Bool := rows.all (vecOk p n)

end Go.Gl

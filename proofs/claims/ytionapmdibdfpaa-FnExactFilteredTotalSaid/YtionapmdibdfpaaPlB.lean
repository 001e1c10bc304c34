/- Plain linear algebra modulo p: the reduced list of some rows, row by row. No condition. -/
import Derived.Test.YtionapmdibdfpaaPlR
import Derived.Test.YtionapmdibdfpaaPlC
set_option linter.unusedVariables false
set_option linter.unusedSimpArgs false
namespace Go.Pl
open Rref

def Sp (p : Int) (A : List (List Int)) (v : Nat → Int) : Prop := In p A.length (ent A) v
def Sub (p : Int) (A B : List (List Int)) : Prop := ∀ i, i < A.length → Sp p B (ent A i)
theorem Sp.mem (p : Int) {A : List (List Int)} {i : Nat} (hi : i < A.length) : Sp p A (ent A i) := In.row i hi
theorem Sp.sub {p : Int} {A B : List (List Int)} {v : Nat → Int} (h : Sp p A v) (s : Sub p A B) : Sp p B v := In.trans h s
theorem Sub.refl (p : Int) (A : List (List Int)) : Sub p A A := fun i hi => Sp.mem p hi
theorem Sub.trans {p : Int} {A B C : List (List Int)} (h : Sub p A B) (k : Sub p B C) : Sub p A C := fun i hi => (h i hi).sub k
theorem ent_append_left {A B : List (List Int)} {i : Nat} (h : i < A.length) : ent (A ++ B) i = ent A i := by
  funext c; unfold ent; rw [row_append_left h]
theorem ent_append_right {A B : List (List Int)} {i : Nat} (h : A.length ≤ i) : ent (A ++ B) i = ent B (i - A.length) := by
  funext c; unfold ent; rw [row_append_right h]
theorem Sub.append {p : Int} {A B C : List (List Int)} (h : Sub p A C) (k : Sub p B C) : Sub p (A ++ B) C := fun i hi => by
  by_cases h1 : i < A.length
  · rw [ent_append_left h1]; exact h i h1
  · rw [ent_append_right (by omega)]; exact k _ (by simp at hi; omega)
theorem Sub.left (p : Int) (A B : List (List Int)) : Sub p A (A ++ B) := fun i hi => by
  have := Sp.mem p (A := A ++ B) (i := i) (by simp; omega)
  rwa [ent_append_left hi] at this
theorem Sub.right (p : Int) (A B : List (List Int)) : Sub p B (A ++ B) := fun i hi => by
  have := Sp.mem p (A := A ++ B) (i := A.length + i) (by simp; omega)
  rwa [ent_append_right (by omega), Nat.add_sub_cancel_left] at this
theorem ent_one (v : List Int) : ent [v] 0 = ith v := rfl
theorem Sub.one {p : Int} {v : List Int} {C : List (List Int)} (h : Sp p C (ith v)) : Sub p [v] C := fun i hi => by
  have : i = 0 := by simpa using hi
  subst this; exact h

def ldN (A : List (List Int)) (i : Nat) : Nat := (lead (row A i)).toNat
/-- a reduced list -/
structure RedL (p : Int) (n : Nat) (A : List (List Int)) : Prop where
  mat : Mat p n A
  red : Red p A.length (ldN A) (ent A)
theorem RedL.uniq {p : Int} (hp : 1 < p) {n : Nat} {A B : List (List Int)} (a : RedL p n A) (b : RedL p n B) (s : Sub p A B) (t : Sub p B A) : A = B := by
  obtain ⟨h1, h2, h3⟩ := Red.uniq hp a.red b.red s t
  refine ext_row h1 fun i hi => ext_ith (by rw [(a.mat.row hi).1, (b.mat.row (by omega)).1]) fun k hk => h3 i k hi
theorem RedL.lead {p : Int} {n : Nat} {A : List (List Int)} (a : RedL p n A) {i : Nat} (hi : i < A.length) : lead (row A i) = ldN A i ∧ ldN A i < n := by
  rcases lead_cases (row A i) with ⟨h1, h2⟩ | ⟨k, h1, h2, h3, h4⟩
  · have h5 := a.red.one i hi
    have h6 : ent A i (ldN A i) = 0 := by
      unfold ent
      exact (lead_neg.1 (by rw [h1]; omega)) _
    omega
  · have : ldN A i = k := by unfold ldN; rw [h1]; rfl
    rw [this]
    exact ⟨h1, by rw [← (a.mat.row hi).1]; exact h2⟩
theorem RedL.nil (p : Int) (n : Nat) : RedL p n [] := ⟨Mat.nil p n, ⟨fun i j _ h => by simp at h, fun i h => by simp at h, fun i j h => by simp at h, fun i c h => by simp at h, fun i c h => by simp at h⟩⟩

theorem less_at {p k : Int} {u v : List Int} {c : Nat} (h : c < u.length) : ith (less p u v k) c = (ith u c - k * ith v c) % p := tab_ith h
theorem less_cg {p k : Int} {n : Nat} {u v : List Int} (hu : u.length = n) (hv : v.length = n) (c : Nat) : p ∣ ith (less p u v k) c - (ith u c - k * ith v c) := by
  by_cases h : c < n
  · rw [less_at (by omega)]
    exact ⟨-((ith u c - k * ith v c) / p), by have := Int.emod_add_mul_ediv (ith u c - k * ith v c) p; rw [Int.mul_neg]; omega⟩
  · rw [ith_out (xs := less p u v k) (by rw [show (less p u v k).length = u.length from tab_length _ _]; omega), ith_out (xs := u) (by omega), ith_out (xs := v) (by omega)]
    exact ⟨0, by omega⟩

theorem restN_spec {p : Int} (hp : 1 < p) {n : Nat} {A : List (List Int)} (a : RedL p n A) {v : List Int} (hv : Vec p n v) : ∀ i, i ≤ A.length →
    Vec p n (restN p A v i) ∧ (∀ j, j < i → ith (restN p A v i) (ldN A j) = 0) ∧ ∃ b : Nat → Int, ∀ c, p ∣ ith (restN p A v i) c - (ith v c - sm i (fun k => b k * ent A k c))
  | 0, _ => ⟨hv, fun j hj => by omega, fun _ => 0, fun c => by simp [restN, sm]⟩
  | i + 1, hi => by
    obtain ⟨h1, h2, b, h3⟩ := restN_spec hp a hv i (by omega)
    have hr := a.mat.row (show i < A.length by omega)
    have hl := (a.lead (show i < A.length by omega)).2
    refine ⟨Vec.less (by omega) h1, fun j hj => ?_, fun k => if k = i then ith (restN p A v i) (ldN A i) else b k, fun c => ?_⟩
    · have hlj := (a.lead (show j < A.length by omega)).2
      show ith (less p (restN p A v i) (row A i) (ith (restN p A v i) (ldN A i))) (ldN A j) = 0
      rw [less_at (by rw [h1.1]; exact hlj)]
      by_cases hji : j = i
      · subst hji
        have := a.red.one j (by omega)
        unfold ent at this
        rw [this]; simp
      · have := a.red.zero j i (by omega) (by omega) hji
        unfold ent at this
        rw [this, h2 j (by omega)]; simp
    · show p ∣ ith (less p (restN p A v i) (row A i) (ith (restN p A v i) (ldN A i))) c - _
      have e1 := less_cg (p := p) (k := ith (restN p A v i) (ldN A i)) h1.1 hr.1 c
      have e2 := h3 c
      have e3 : sm (i + 1) (fun k => (if k = i then ith (restN p A v i) (ldN A i) else b k) * ent A k c) = sm i (fun k => b k * ent A k c) + ith (restN p A v i) (ldN A i) * ith (row A i) c := by
        simp only [sm, if_true]
        rw [S_congr (g := fun k => b k * ent A k c) fun k hk => by rw [if_neg (by omega)]]
        rfl
      rw [e3]
      obtain ⟨x, hx⟩ := e1
      obtain ⟨y, hy⟩ := e2
      exact ⟨x + y, by rw [Int.mul_add, ← hx, ← hy]; omega⟩

def IsP (p : Int) : Prop := p = 2 ∨ p = 3 ∨ p = 5 ∨ p = 7
theorem IsP.rng {p : Int} (h : IsP p) : 2 ≤ p ∧ p ≤ 7 := by unfold IsP at h; omega
/-- the number with which x has the product 1 -/
def invp (p x : Int) : Int := if 1 * x % p = 1 then 1 else if 2 * x % p = 1 then 2 else if 3 * x % p = 1 then 3 else if 4 * x % p = 1 then 4 else if 5 * x % p = 1 then 5 else if 6 * x % p = 1 then 6 else 0
theorem invp_eq {p x k : Int} (h1 : 1 ≤ k ∧ k ≤ 6) (h2 : k * x % p = 1) (h3 : ∀ j, 1 ≤ j → j < k → j * x % p ≠ 1) : invp p x = k := by
  unfold invp
  rcases (by omega : k = 1 ∨ k = 2 ∨ k = 3 ∨ k = 4 ∨ k = 5 ∨ k = 6) with rfl | rfl | rfl | rfl | rfl | rfl
  · rw [if_pos h2]
  · rw [if_neg (h3 1 (by omega) (by omega)), if_pos h2]
  · rw [if_neg (h3 1 (by omega) (by omega)), if_neg (h3 2 (by omega) (by omega)), if_pos h2]
  · rw [if_neg (h3 1 (by omega) (by omega)), if_neg (h3 2 (by omega) (by omega)), if_neg (h3 3 (by omega) (by omega)), if_pos h2]
  · rw [if_neg (h3 1 (by omega) (by omega)), if_neg (h3 2 (by omega) (by omega)), if_neg (h3 3 (by omega) (by omega)), if_neg (h3 4 (by omega) (by omega)), if_pos h2]
  · rw [if_neg (h3 1 (by omega) (by omega)), if_neg (h3 2 (by omega) (by omega)), if_neg (h3 3 (by omega) (by omega)), if_neg (h3 4 (by omega) (by omega)), if_neg (h3 5 (by omega) (by omega)), if_pos h2]
theorem invp_spec {p x : Int} (hp : IsP p) (hx : 0 < x ∧ x < p) : 1 ≤ invp p x ∧ invp p x < p ∧ invp p x * x % p = 1 := by
  rcases hp with rfl | rfl | rfl | rfl
  · obtain rfl : x = 1 := by omega
    decide
  · rcases (by omega : x = 1 ∨ x = 2) with rfl | rfl <;> decide
  · rcases (by omega : x = 1 ∨ x = 2 ∨ x = 3 ∨ x = 4) with rfl | rfl | rfl | rfl <;> decide
  · rcases (by omega : x = 1 ∨ x = 2 ∨ x = 3 ∨ x = 4 ∨ x = 5 ∨ x = 6) with rfl | rfl | rfl | rfl | rfl | rfl <;> decide
def scale (p : Int) (v : List Int) (k : Int) : List Int := tab v.length (fun c => ith v c * k % p)

/-- a row is put among the rows of a reduced list -/
def insN (p : Int) (out : List (List Int)) (own : List Int) (at' : Nat) : Nat → List (List Int) × Bool
  | 0 => ([], false)
  | k + 1 =>
    let c := !(insN p out own at' k).2 && decide (lead (row out k) > at')
    ((if c then (insN p out own at' k).1 ++ [own] else (insN p out own at' k).1) ++ [less p (row out k) own (ith (row out k) at')], (insN p out own at' k).2 || c)
def ins (p : Int) (out : List (List Int)) (own : List Int) (at' : Nat) : List (List Int) :=
  if (insN p out own at' out.length).2 then (insN p out own at' out.length).1 else (insN p out own at' out.length).1 ++ [own]
theorem insN_len {p : Int} {B : List (List Int)} {own : List Int} {q : Nat} : ∀ k, (insN p B own q k).1.length = k + (if (insN p B own q k).2 then 1 else 0)
  | 0 => rfl
  | k + 1 => by
    have ih := insN_len (p := p) (B := B) (own := own) (q := q) k
    obtain ⟨L, b, hLb⟩ : ∃ L b, insN p B own q k = (L, b) := ⟨_, _, rfl⟩
    simp only [insN, hLb] at ih ⊢
    rcases Bool.eq_false_or_eq_true b with rfl | rfl
    · simp at ih ⊢; omega
    · by_cases h : lead (row B k) > (q : Int)
      · simp [h] at ih ⊢; omega
      · simp [h] at ih ⊢; omega
theorem ins_len {p : Int} {B : List (List Int)} {own : List Int} {q : Nat} : (ins p B own q).length = B.length + 1 := by
  unfold ins
  have := insN_len (p := p) (B := B) (own := own) (q := q) B.length
  obtain ⟨L, b, hLb⟩ : ∃ L b, insN p B own q B.length = (L, b) := ⟨_, _, rfl⟩
  rw [hLb] at this ⊢
  simp only at this ⊢
  rcases Bool.eq_false_or_eq_true b with rfl | rfl
  · simp at this ⊢; omega
  · simp at this ⊢; omega
/-- the reduced list of the first rows -/
def echN (p : Int) (rows : List (List Int)) : Nat → List (List Int)
  | 0 => []
  | i + 1 =>
    let own := rest p (echN p rows i) (row rows i)
    if lead own < 0 then echN p rows i else ins p (echN p rows i) (scale p own (invp p (ith own (lead own).toNat))) (lead own).toNat
def ech (p : Int) (rows : List (List Int)) : List (List Int) := echN p rows rows.length

section
variable {p : Int} {n : Nat} {B : List (List Int)} {own : List Int} {q : Nat}
theorem ins_at (R : RedL p n B) (hne : ∀ k, k < B.length → ldN B k ≠ q) : ∃ j0, j0 ≤ B.length ∧ (∀ k, k < j0 → ldN B k < q) ∧ ∀ k, j0 ≤ k → k < B.length → q < ldN B k := by
  by_cases h : ∃ j, j < B.length ∧ q < ldN B j
  · obtain ⟨j, h1, h2, h3⟩ := least B.length h
    refine ⟨j, by omega, fun k hk => ?_, fun k hk hkl => ?_⟩
    · have := h3 k hk; have := hne k (by omega); omega
    · rcases Nat.lt_or_ge j k with h4 | h4
      · have := R.red.mono j k h4 hkl; omega
      · have : k = j := by omega
        subst this; exact h2
  · exact ⟨B.length, Nat.le_refl _, fun k hk => by
      have := hne k hk
      rcases Nat.lt_or_ge (ldN B k) q with h1 | h1
      · exact h1
      · exact absurd ⟨k, hk, by omega⟩ h, fun k h1 h2 => by omega⟩
/-- the rows of the new list -/
def insG (p : Int) (B : List (List Int)) (own : List Int) (q j0 i : Nat) : List Int :=
  if i < j0 then less p (row B i) own (ith (row B i) q) else if i = j0 then own else less p (row B (i - 1)) own (ith (row B (i - 1)) q)
theorem insN_eq (R : RedL p n B) {j0 : Nat} (hj : j0 ≤ B.length) (h1 : ∀ k, k < j0 → ldN B k < q) (h2 : ∀ k, j0 ≤ k → k < B.length → q < ldN B k) : ∀ k, k ≤ B.length →
    insN p B own q k = if k ≤ j0 then (tabR k (insG p B own q j0), false) else (tabR (k + 1) (insG p B own q j0), true)
  | 0, _ => by simp [insN, tabR]
  | k + 1, hk => by
    have ih := insN_eq R hj h1 h2 k (by omega)
    have hl := (R.lead (show k < B.length by omega)).1
    rcases Nat.lt_trichotomy k j0 with h | h | h
    · rw [if_pos (by omega)] at ih
      have hc : decide (lead (row B k) > (q : Int)) = false := by have := h1 k h; rw [hl]; simp; omega
      rw [if_pos (by omega)]
      simp only [insN, ih, hc, Bool.not_false, Bool.true_and, Bool.false_or, Bool.false_eq_true, if_false]
      rw [tabR_succ]
      simp [insG, h]
    · subst h
      rw [if_pos (Nat.le_refl _)] at ih
      have hc : decide (lead (row B k) > (q : Int)) = true := by have := h2 k (Nat.le_refl _) (by omega); rw [hl]; simp; omega
      rw [if_neg (by omega)]
      simp only [insN, ih, hc, Bool.not_false, Bool.true_and, Bool.false_or, if_true]
      have e1 : insG p B own q k k = own := by unfold insG; rw [if_neg (by omega), if_pos rfl]
      have e2 : insG p B own q k (k + 1) = less p (row B k) own (ith (row B k) q) := by unfold insG; rw [if_neg (by omega), if_neg (by omega), Nat.add_sub_cancel]
      rw [tabR_succ (k + 1), tabR_succ k, e1, e2]
    · rw [if_neg (by omega)] at ih
      rw [if_neg (by omega)]
      simp only [insN, ih, Bool.not_true, Bool.false_and, Bool.true_or, Bool.false_eq_true, if_false]
      rw [tabR_succ (k + 1)]
      simp only [insG, if_neg (show ¬ k + 1 < j0 by omega), if_neg (show ¬ k + 1 = j0 by omega), Nat.add_sub_cancel]
theorem ins_eq (R : RedL p n B) {j0 : Nat} (hj : j0 ≤ B.length) (h1 : ∀ k, k < j0 → ldN B k < q) (h2 : ∀ k, j0 ≤ k → k < B.length → q < ldN B k) : ins p B own q = tabR (B.length + 1) (insG p B own q j0) := by
  unfold ins
  rw [insN_eq R hj h1 h2 _ (Nat.le_refl _)]
  by_cases h : B.length ≤ j0
  · have : j0 = B.length := by omega
    subst this
    rw [if_pos (Nat.le_refl _)]
    simp only [Bool.false_eq_true, if_false]
    rw [tabR_succ]
    simp [insG]
  · rw [if_neg h]; rfl
theorem emod_one {p : Int} (hp : 1 < p) : (1 : Int) % p = 1 := Int.emod_eq_of_lt (by omega) (by omega)
theorem ins_spec (hp : 1 < p) (R : RedL p n B) (ho : Vec p n own) (hq : q < n) (h0 : ∀ c, c < q → ith own c = 0) (h1 : ith own q = 1) (hz : ∀ j, j < B.length → ith own (ldN B j) = 0) :
    RedL p n (ins p B own q) ∧ Sub p B (ins p B own q) ∧ Sp p (ins p B own q) (ith own) ∧ ∀ C, Sub p B C → Sp p C (ith own) → Sub p (ins p B own q) C := by
  have hne : ∀ k, k < B.length → ldN B k ≠ q := fun k hk e => by have := hz k hk; rw [e, h1] at this; omega
  obtain ⟨j0, hj, a1, a2⟩ := ins_at R hne
  rw [ins_eq R hj a1 a2]
  have hfv : ∀ k, k < B.length → Vec p n (less p (row B k) own (ith (row B k) q)) := fun k hk => Vec.less (by omega) (R.mat.row hk)
  have hfl : ∀ k, k < B.length → ∀ c, c < n → ith (less p (row B k) own (ith (row B k) q)) c = (ent B k c - ent B k q * ith own c) % p := fun k hk c hc => less_at (by rw [(R.mat.row hk).1]; exact hc)
  have F1 : ∀ k, k < B.length → ith (less p (row B k) own (ith (row B k) q)) (ldN B k) = 1 := fun k hk => by
    rw [hfl k hk _ (R.lead hk).2, R.red.one k hk, hz k hk]; simp [emod_one hp]
  have F2 : ∀ j k, j < B.length → k < B.length → j ≠ k → ith (less p (row B k) own (ith (row B k) q)) (ldN B j) = 0 := fun j k hj hk hjk => by
    rw [hfl k hk _ (R.lead hj).2, R.red.zero j k hj hk hjk, hz j hj]; simp
  have F3 : ∀ k, k < B.length → ith (less p (row B k) own (ith (row B k) q)) q = 0 := fun k hk => by
    rw [hfl k hk _ hq, h1]; simp
  have F4 : ∀ k, k < B.length → ∀ c, c < ldN B k → ith (less p (row B k) own (ith (row B k) q)) c = 0 := fun k hk c hc => by
    rw [hfl k hk _ (by have := (R.lead hk).2; omega), R.red.left k c hk hc]
    rcases Nat.lt_or_ge q (ldN B k) with h | h
    · rw [R.red.left k q hk h]; simp
    · rw [h0 c (by have := hne k hk; omega)]; simp
  -- the rows of the new list, by σ
  have G1 : ∀ i, i ≠ j0 → i < B.length + 1 → ∃ k, k < B.length ∧ insG p B own q j0 i = less p (row B k) own (ith (row B k) q) ∧ ((i < j0 ∧ k = i) ∨ (j0 < i ∧ k + 1 = i)) := fun i hi hil => by
    unfold insG
    rcases Nat.lt_or_ge i j0 with h | h
    · rw [if_pos h]; exact ⟨i, by omega, rfl, .inl ⟨h, rfl⟩⟩
    · rw [if_neg (by omega), if_neg hi]; exact ⟨i - 1, by omega, rfl, .inr ⟨by omega, by omega⟩⟩
  have G0 : insG p B own q j0 j0 = own := by unfold insG; rw [if_neg (by omega), if_pos rfl]
  have hlen : (tabR (B.length + 1) (insG p B own q j0)).length = B.length + 1 := tabR_length _ _
  have hrow : ∀ i, i < B.length + 1 → row (tabR (B.length + 1) (insG p B own q j0)) i = insG p B own q j0 i := fun i hi => tabR_row hi
  have hent : ∀ i, i < B.length + 1 → ent (tabR (B.length + 1) (insG p B own q j0)) i = ith (insG p B own q j0 i) := fun i hi => by funext c; unfold ent; rw [hrow i hi]
  have hmat : Mat p n (tabR (B.length + 1) (insG p B own q j0)) := Mat.tab fun i hi => by
    by_cases e : i = j0
    · subst e; rw [G0]; exact ho
    · obtain ⟨k, hk, e1, _⟩ := G1 i e hi
      rw [e1]; exact hfv k hk
  have hld0 : ldN (tabR (B.length + 1) (insG p B own q j0)) j0 = q := by
    unfold ldN
    rw [hrow j0 (by omega), G0, lead_stop (by rw [ho.1]; exact hq) h0 (by omega)]
    rfl
  have hldk : ∀ i k, i < B.length + 1 → k < B.length → insG p B own q j0 i = less p (row B k) own (ith (row B k) q) → ldN (tabR (B.length + 1) (insG p B own q j0)) i = ldN B k := fun i k hi hk e => by
    unfold ldN
    rw [hrow i hi, e, lead_stop (k := ldN B k) (by rw [(hfv k hk).1]; exact (R.lead hk).2) (F4 k hk) (by rw [F1 k hk]; omega)]
    rfl
  refine ⟨⟨hmat, ?_⟩, fun k hk => ?_, ?_, fun C hB ho' i hi => ?_⟩
  · rw [hlen]
    refine ⟨fun i j hij hjl => ?_, fun i hi => ?_, fun i j hi hjl hij => ?_, fun i c hi hc => ?_, fun i c hi => ?_⟩
    · by_cases ei : i = j0
      · subst ei
        obtain ⟨k, hk, e1, e2⟩ := G1 j (by omega) hjl
        rw [hld0, hldk j k hjl hk e1]
        exact a2 k (by omega) hk
      · obtain ⟨k, hk, e1, e2⟩ := G1 i ei (by omega)
        rw [hldk i k (by omega) hk e1]
        by_cases ej : j = j0
        · subst ej; rw [hld0]; exact a1 k (by omega)
        · obtain ⟨k', hk', e1', e2'⟩ := G1 j ej hjl
          rw [hldk j k' hjl hk' e1']
          exact R.red.mono k k' (by omega) hk'
    · by_cases ei : i = j0
      · subst ei; rw [hent i hi, hld0, G0]; exact h1
      · obtain ⟨k, hk, e1, e2⟩ := G1 i ei hi
        rw [hent i hi, hldk i k hi hk e1, e1]; exact F1 k hk
    · by_cases ei : i = j0
      · subst ei
        obtain ⟨k, hk, e1, e2⟩ := G1 j (by omega) hjl
        rw [hent j hjl, hld0, e1]; exact F3 k hk
      · obtain ⟨k, hk, e1, e2⟩ := G1 i ei hi
        rw [hldk i k hi hk e1, hent j hjl]
        by_cases ej : j = j0
        · subst ej; rw [G0]; exact hz k hk
        · obtain ⟨k', hk', e1', e2'⟩ := G1 j ej hjl
          rw [e1']; exact F2 k k' hk hk' (by omega)
    · by_cases ei : i = j0
      · subst ei; rw [hld0] at hc; rw [hent i hi, G0]; exact h0 c hc
      · obtain ⟨k, hk, e1, e2⟩ := G1 i ei hi
        rw [hldk i k hi hk e1] at hc
        rw [hent i hi, e1]; exact F4 k hk c hc
    · exact hmat.ent (by omega) i c
  · -- old rows are sums of new ones
    obtain ⟨i, hi, e1⟩ : ∃ i, i < B.length + 1 ∧ insG p B own q j0 i = less p (row B k) own (ith (row B k) q) := by
      unfold insG
      rcases Nat.lt_or_ge k j0 with h | h
      · exact ⟨k, by omega, if_pos h⟩
      · exact ⟨k + 1, by omega, by rw [if_neg (by omega), if_neg (by omega), Nat.add_sub_cancel]⟩
    have m1 := Sp.mem p (A := tabR (B.length + 1) (insG p B own q j0)) (i := i) (by rw [hlen]; exact hi)
    have m2 := Sp.mem p (A := tabR (B.length + 1) (insG p B own q j0)) (i := j0) (by rw [hlen]; omega)
    rw [hent i hi, e1] at m1
    rw [hent j0 (by omega), G0] at m2
    refine In.lin (ent B k q) m1 m2 fun c => ?_
    obtain ⟨x, hx⟩ := less_cg (p := p) (k := ith (row B k) q) (R.mat.row hk).1 ho.1 c
    exact ⟨-x, by rw [Int.mul_neg, ← hx]; unfold ent; omega⟩
  · have m2 := Sp.mem p (A := tabR (B.length + 1) (insG p B own q j0)) (i := j0) (by rw [hlen]; omega)
    rwa [hent j0 (by omega), G0] at m2
  · rw [hlen] at hi
    rw [hent i hi]
    by_cases ei : i = j0
    · subst ei; rw [G0]; exact ho'
    · obtain ⟨k, hk, e1, e2⟩ := G1 i ei hi
      rw [e1]
      refine In.lin (-(ent B k q)) (hB k hk) ho' fun c => ?_
      obtain ⟨x, hx⟩ := less_cg (p := p) (k := ith (row B k) q) (R.mat.row hk).1 ho.1 c
      exact ⟨x, by rw [← hx]; unfold ent; rw [Int.neg_mul]; omega⟩
end

theorem scale_at {p k : Int} {v : List Int} {c : Nat} (h : c < v.length) : ith (scale p v k) c = ith v c * k % p := tab_ith h
theorem scale_cg {p k : Int} {v : List Int} (c : Nat) : p ∣ ith (scale p v k) c - ith v c * k := by
  by_cases h : c < v.length
  · rw [scale_at h]
    exact ⟨-(ith v c * k / p), by have := Int.emod_add_mul_ediv (ith v c * k) p; rw [Int.mul_neg]; omega⟩
  · rw [ith_out (xs := scale p v k) (by rw [show (scale p v k).length = v.length from tab_length _ _]; omega), ith_out (xs := v) (by omega)]
    exact ⟨0, by omega⟩
theorem Vec.scale {p : Int} (hp : 0 < p) {n : Nat} {v : List Int} {k : Int} (hv : Vec p n v) : Vec p n (scale p v k) := by
  unfold Pl.scale
  rw [hv.1]
  exact Vec.tab fun i _ => ⟨Int.emod_nonneg _ (by omega), Int.emod_lt_of_pos _ hp⟩
/-- what is left of a row, and the row -/
theorem rest_spec {p : Int} (hp : 1 < p) {n : Nat} {A : List (List Int)} (a : RedL p n A) {v : List Int} (hv : Vec p n v) :
    Vec p n (rest p A v) ∧ (∀ j, j < A.length → ith (rest p A v) (ldN A j) = 0) ∧ (∀ C, Sub p A C → Sp p C (ith v) → Sp p C (ith (rest p A v))) ∧ ∀ C, Sub p A C → Sp p C (ith (rest p A v)) → Sp p C (ith v) := by
  obtain ⟨h1, h2, b, h3⟩ := restN_spec hp a hv A.length (Nat.le_refl _)
  refine ⟨h1, h2, fun C hC hv' => ?_, fun C hC hr => ?_⟩
  · have hs : Sp p C (fun c => sm A.length (fun k => b k * ent A k c)) := In.sum b hC
    refine In.lin (-1) hv' hs fun c => ?_
    obtain ⟨x, hx⟩ := h3 c
    exact ⟨x, by rw [← hx]; unfold rest; omega⟩
  · have hs : Sp p C (fun c => sm A.length (fun k => b k * ent A k c)) := In.sum b hC
    refine In.lin 1 hr hs fun c => ?_
    obtain ⟨x, hx⟩ := h3 c
    exact ⟨-x, by rw [Int.mul_neg, ← hx]; unfold rest; omega⟩
theorem echN_spec {p : Int} (hp : IsP p) {n : Nat} {rows : List (List Int)} (hr : Mat p n rows) : ∀ i, i ≤ rows.length → RedL p n (echN p rows i) ∧ Sub p (rows.take i) (echN p rows i) ∧ Sub p (echN p rows i) (rows.take i)
  | 0, _ => ⟨RedL.nil p n, fun i hi => by simp at hi, fun i hi => by simp [echN] at hi⟩
  | i + 1, hi => by
    obtain ⟨h1, h2, h3⟩ := echN_spec hp hr i (by omega)
    have hpp := hp.rng
    have hv := hr.row (show i < rows.length by omega)
    obtain ⟨r1, r2, r3, r4⟩ := rest_spec (by omega) h1 hv
    rw [take_succ_row (by omega)]
    unfold echN
    simp only
    have sR : Sub p [row rows i] (rows.take i ++ [row rows i]) := Sub.right p _ _
    have sv : Sp p (rows.take i ++ [row rows i]) (ith (row rows i)) := sR 0 (by simp)
    have sE : Sub p (echN p rows i) (rows.take i ++ [row rows i]) := h3.trans (Sub.left p _ _)
    split
    · rename_i hl
      refine ⟨h1, h2.append (Sub.one (r4 _ (Sub.refl _ _) ?_)), sE⟩
      exact In.zero fun c => by rw [lead_neg.1 hl c]; exact Int.dvd_zero p
    · rename_i hl
      rcases lead_cases (rest p (echN p rows i) (row rows i)) with ⟨e1, _⟩ | ⟨q, e1, e2, e3, e4⟩
      · rw [e1] at hl; omega
      rw [e1]
      have hq : q < n := by rw [← r1.1]; exact e2
      have hx := r1.2.ith (by omega) q
      obtain ⟨i1, i2, i3⟩ := invp_spec hp (x := ith (rest p (echN p rows i) (row rows i)) q) (by omega)
      rw [show ((q : Int)).toNat = q from rfl]
      generalize hk : invp p (ith (rest p (echN p rows i) (row rows i)) q) = k at i1 i2 i3 ⊢
      have so : Sp p (rows.take i ++ [row rows i]) (ith (scale p (rest p (echN p rows i) (row rows i)) k)) := by
        have := r3 _ sE sv
        refine In.lin (k - 1) this this fun c => ?_
        obtain ⟨x, hx⟩ := scale_cg (p := p) (k := k) (v := rest p (echN p rows i) (row rows i)) c
        exact ⟨x, by rw [← hx, Int.sub_mul, Int.mul_comm k]; omega⟩
      obtain ⟨z1, z2, z3, z4⟩ := ins_spec (own := scale p (rest p (echN p rows i) (row rows i)) k) (q := q) (by omega) h1 (Vec.scale (by omega) r1) hq
        (fun c hc => by rw [scale_at (by omega), e3 c hc]; simp) (by rw [scale_at e2, Int.mul_comm]; exact i3)
        (fun j hj => by rw [scale_at (by rw [r1.1]; exact (h1.lead hj).2), r2 j hj]; simp)
      refine ⟨z1, (h2.trans z2).append (Sub.one (r4 _ z2 ?_)), z4 _ sE so⟩
      -- the row is a multiple of what was put in
      refine In.lin (ith (rest p (echN p rows i) (row rows i)) q - 1) z3 z3 fun c => ?_
      obtain ⟨x, hx⟩ := scale_cg (p := p) (k := k) (v := rest p (echN p rows i) (row rows i)) c
      have h5 := Int.emod_add_mul_ediv (k * ith (rest p (echN p rows i) (row rows i)) q) p
      rw [i3] at h5
      generalize ith (rest p (echN p rows i) (row rows i)) q = t at *
      generalize ith (rest p (echN p rows i) (row rows i)) c = y at *
      generalize ith (scale p (rest p (echN p rows i) (row rows i)) k) c = s at *
      generalize (k * t) / p = d at *
      refine ⟨-(t * x) - y * d, ?_⟩
      have h6 : s = y * k + p * x := by omega
      have h7 : k * t = 1 + p * d := by omega
      rw [h6]
      have h8 : t * (y * k) = y * (k * t) := by rw [Int.mul_comm y k, ← Int.mul_assoc, Int.mul_comm t k, Int.mul_comm (k * t) y]
      rw [Int.sub_mul, Int.mul_add, h8, h7]
      grind
theorem ech_spec {p : Int} (hp : IsP p) {n : Nat} {rows : List (List Int)} (hr : Mat p n rows) : RedL p n (ech p rows) ∧ Sub p rows (ech p rows) ∧ Sub p (ech p rows) rows := by
  have := echN_spec hp hr rows.length (Nat.le_refl _)
  rw [List.take_length] at this
  exact this
/-- the reduced list is told by the space -/
theorem ech_eq {p : Int} (hp : IsP p) {n : Nat} {rows A : List (List Int)} (hr : Mat p n rows) (a : RedL p n A) (s : Sub p A rows) (t : Sub p rows A) : ech p rows = A := by
  obtain ⟨h1, h2, h3⟩ := ech_spec hp hr
  exact RedL.uniq (by have := hp.rng; omega) h1 a (h3.trans t) (s.trans h2)
end Go.Pl

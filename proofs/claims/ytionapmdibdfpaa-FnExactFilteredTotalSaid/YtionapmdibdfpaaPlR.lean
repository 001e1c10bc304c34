/- Plain linear algebra modulo p: reduced lists are told by their spaces. No condition. -/
import Derived.Test.YtionapmdibdfpaaPlA
set_option linter.unusedVariables false
set_option linter.unusedSimpArgs false
namespace Go.Pl.Rref
open Go.Pl

theorem dvd_ml {p a : Int} (h : p ∣ a) (b : Int) : p ∣ a * b := by
  obtain ⟨q, rfl⟩ := h
  exact ⟨q * b, by rw [Int.mul_assoc]⟩

theorem S_congr {m : Nat} {f g : Nat → Int} (h : ∀ i, i < m → f i = g i) : sm m f = sm m g := by
  induction m with
  | zero => rfl
  | succ m ih => simp only [sm]; rw [ih (fun i hi => h i (by omega)), h m (by omega)]

theorem S_zero (m : Nat) : sm m (fun _ => 0) = 0 := by
  induction m with
  | zero => rfl
  | succ m ih => simp only [sm]; rw [ih]; rfl

theorem S_add (m : Nat) (f g : Nat → Int) : sm m (fun i => f i + g i) = sm m f + sm m g := by
  induction m with
  | zero => rfl
  | succ m ih => simp only [sm]; rw [ih]; omega

theorem S_mul (m : Nat) (k : Int) (f : Nat → Int) : sm m (fun i => k * f i) = k * sm m f := by
  induction m with
  | zero => simp [sm]
  | succ m ih => simp only [sm]; rw [ih, Int.mul_add]

theorem S_dvd {p : Int} {m : Nat} {f : Nat → Int} (h : ∀ i, i < m → p ∣ f i) : p ∣ sm m f := by
  induction m with
  | zero => exact Int.dvd_zero p
  | succ m ih => exact Int.dvd_add (ih fun i hi => h i (by omega)) (h m (by omega))

/-- all terms but one are multiples of p -/
theorem S_one {p : Int} {m : Nat} {f : Nat → Int} (j : Nat) (hj : j < m) (h : ∀ i, i < m → i ≠ j → p ∣ f i) : p ∣ sm m f - f j := by
  induction m with
  | zero => omega
  | succ m ih =>
    simp only [sm]
    by_cases e : j = m
    · subst e
      have := S_dvd (p := p) (m := j) (f := f) fun i hi => h i (by omega) (by omega)
      rw [show sm j f + f j - f j = sm j f by omega]; exact this
    · have h1 := ih (by omega) fun i hi hne => h i (by omega) hne
      have h2 := h m (by omega) (by omega)
      rw [show sm m f + f m - f j = (sm m f - f j) + f m by omega]
      exact Int.dvd_add h1 h2

theorem S_swap (m n : Nat) (f : Nat → Nat → Int) : sm m (fun i => sm n (fun j => f i j)) = sm n (fun j => sm m (fun i => f i j)) := by
  induction m with
  | zero => simp [sm, S_zero]
  | succ m ih => simp only [sm]; rw [ih, S_add]

theorem least {P : Nat → Prop} (m : Nat) : (∃ j, j < m ∧ P j) → ∃ j, j < m ∧ P j ∧ ∀ k, k < j → ¬ P k := by
  induction m with
  | zero => rintro ⟨j, h, _⟩; omega
  | succ m ih =>
    rintro ⟨j, h, hp⟩
    by_cases e : ∃ j, j < m ∧ P j
    · obtain ⟨j, h1, h2⟩ := ih e
      exact ⟨j, by omega, h2⟩
    · have : j = m := by
        by_cases hj : j < m
        · exact absurd ⟨j, hj, hp⟩ e
        · omega
      subst this
      exact ⟨j, by omega, hp, fun k hk hpk => e ⟨k, hk, hpk⟩⟩

/-- the list of m rows R is reduced, with first places l -/
structure Red (p : Int) (m : Nat) (l : Nat → Nat) (R : Nat → Nat → Int) : Prop where
  mono : ∀ i j, i < j → j < m → l i < l j
  one : ∀ i, i < m → R i (l i) = 1
  zero : ∀ i j, i < m → j < m → i ≠ j → R j (l i) = 0
  left : ∀ i c, i < m → c < l i → R i c = 0
  rng : ∀ i c, i < m → 0 ≤ R i c ∧ R i c < p

/-- v is a sum of multiples of the m rows R -/
def In (p : Int) (m : Nat) (R : Nat → Nat → Int) (v : Nat → Int) : Prop := ∃ a : Nat → Int, ∀ c, p ∣ v c - sm m (fun i => a i * R i c)

theorem In.row {p : Int} {m : Nat} {R : Nat → Nat → Int} (i : Nat) (hi : i < m) : In p m R (R i) := by
  refine ⟨fun k => if k = i then 1 else 0, fun c => ?_⟩
  have := S_one (p := p) (m := m) (f := fun k => (if k = i then 1 else 0) * R k c) i hi (fun k _ hne => by simp [hne])
  simp only [if_true, Int.one_mul] at this
  obtain ⟨q, hq⟩ := this
  exact ⟨-q, by rw [Int.mul_neg, ← hq]; simp only []; omega⟩

theorem In.lin {p : Int} {m : Nat} {R : Nat → Nat → Int} {u v w : Nat → Int} (k : Int) (hu : In p m R u) (hv : In p m R v) (h : ∀ c, p ∣ w c - (u c + k * v c)) : In p m R w := by
  obtain ⟨a, ha⟩ := hu
  obtain ⟨b, hb⟩ := hv
  refine ⟨fun i => a i + k * b i, fun c => ?_⟩
  have e : sm m (fun i => (a i + k * b i) * R i c) = sm m (fun i => a i * R i c) + k * sm m (fun i => b i * R i c) := by
    rw [← S_mul, ← S_add]; exact S_congr fun i _ => by rw [Int.add_mul, Int.mul_assoc]
  rw [e]
  obtain ⟨x, hx⟩ := ha c
  obtain ⟨y, hy⟩ := hb c
  obtain ⟨z, hz⟩ := h c
  exact ⟨z + x + k * y, by grind⟩

theorem In.cg {p : Int} {m : Nat} {R : Nat → Nat → Int} {u w : Nat → Int} (hu : In p m R u) (h : ∀ c, p ∣ w c - u c) : In p m R w :=
  In.lin 0 hu hu fun c => by simpa using h c

theorem In.zero {p : Int} {m : Nat} {R : Nat → Nat → Int} {w : Nat → Int} (h : ∀ c, p ∣ w c) : In p m R w :=
  ⟨fun _ => 0, fun c => by simpa [S_zero] using h c⟩

theorem In.sum {p : Int} {m n : Nat} {R T : Nat → Nat → Int} (a : Nat → Int) (h : ∀ i, i < n → In p m R (T i)) : In p m R (fun c => sm n (fun i => a i * T i c)) := by
  induction n with
  | zero => exact In.zero fun c => by simp [sm]
  | succ n ih =>
    refine In.lin (a n) (ih fun i hi => h i (by omega)) (h n (by omega)) fun c => ?_
    simp [sm]

theorem In.trans {p : Int} {m n : Nat} {R T : Nat → Nat → Int} {v : Nat → Int} (hv : In p n T v) (h : ∀ i, i < n → In p m R (T i)) : In p m R v := by
  obtain ⟨a, ha⟩ := hv
  exact In.cg (In.sum a h) ha

/-- a number at the first places tells the coefficients -/
theorem Red.coef {p : Int} {m : Nat} {l : Nat → Nat} {R : Nat → Nat → Int} (h : Red p m l R) {v : Nat → Int} {a : Nat → Int} (ha : ∀ c, p ∣ v c - sm m (fun i => a i * R i c)) (j : Nat) (hj : j < m) : p ∣ v (l j) - a j := by
  have h1 := S_one (p := p) (m := m) (f := fun i => a i * R i (l j)) j hj fun i hi hne => by rw [h.zero j i hj hi (Ne.symm hne)]; simp
  simp only [h.one j hj, Int.mul_one] at h1
  have h2 := Int.dvd_add (ha (l j)) h1
  rw [show v (l j) - a j = v (l j) - sm m (fun i => a i * R i (l j)) + (sm m (fun i => a i * R i (l j)) - a j) by omega]
  exact h2

/-- a vector of the space is told by its numbers at the first places -/
theorem Red.told {p : Int} {m : Nat} {l : Nat → Nat} {R : Nat → Nat → Int} (h : Red p m l R) {v : Nat → Int} (hv : In p m R v) (c : Nat) : p ∣ v c - sm m (fun i => v (l i) * R i c) := by
  obtain ⟨a, ha⟩ := hv
  have h1 : p ∣ sm m (fun i => a i * R i c) - sm m (fun i => v (l i) * R i c) := by
    have e : sm m (fun i => a i * R i c) - sm m (fun i => v (l i) * R i c) = sm m (fun i => (a i - v (l i)) * R i c) := by
      have : sm m (fun i => a i * R i c) = sm m (fun i => (a i - v (l i)) * R i c) + sm m (fun i => v (l i) * R i c) := by
        rw [← S_add]; exact S_congr fun i _ => by rw [← Int.add_mul]; congr 1; omega
      omega
    rw [e]
    refine S_dvd fun i hi => dvd_ml ?_ _
    obtain ⟨q, hq⟩ := h.coef ha i hi
    exact ⟨-q, by rw [Int.mul_neg, ← hq]; omega⟩
  rw [show v c - sm m (fun i => v (l i) * R i c) = v c - sm m (fun i => a i * R i c) + (sm m (fun i => a i * R i c) - sm m (fun i => v (l i) * R i c)) by omega]
  exact Int.dvd_add (ha c) h1

theorem not_dvd_one {p : Int} (hp : 1 < p) : ¬ p ∣ 1 := by
  rintro ⟨k, hk⟩
  have := Int.le_of_dvd (by omega) (⟨k, hk⟩ : p ∣ 1)
  omega

theorem Red.lead_in {p : Int} (hp : 1 < p) {m1 m2 : Nat} {l2 : Nat → Nat} {R2 : Nat → Nat → Int} (h2 : Red p m2 l2 R2) {v : Nat → Int} {x : Nat} (hv : In p m2 R2 v) (h0 : ∀ c, c < x → v c = 0) (h1 : v x = 1) : ∃ j, j < m2 ∧ l2 j = x := by
  obtain ⟨a, ha⟩ := hv
  have hne : ∃ j, j < m2 ∧ ¬ p ∣ a j := by
    refine Classical.byContradiction fun hno => not_dvd_one hp ?_
    have := S_dvd (p := p) (m := m2) (f := fun i => a i * R2 i x) fun i hi => dvd_ml (Classical.byContradiction fun hn => hno ⟨i, hi, hn⟩) _
    have h3 := Int.dvd_add (ha x) this
    rw [h1] at h3
    rw [show (1 : Int) = 1 - sm m2 (fun i => a i * R2 i x) + sm m2 (fun i => a i * R2 i x) by omega]
    exact h3
  obtain ⟨j, hj, hnd, hl⟩ := least m2 hne
  have hc := h2.coef ha j hj
  refine ⟨j, hj, ?_⟩
  rcases Nat.lt_trichotomy (l2 j) x with hlt | heq | hgt
  · rw [h0 _ hlt] at hc
    exact absurd (by obtain ⟨q, hq⟩ := hc; exact ⟨-q, by rw [Int.mul_neg, ← hq]; omega⟩) hnd
  · exact heq
  · have : p ∣ sm m2 (fun i => a i * R2 i x) := S_dvd fun i hi => by
      by_cases e : i < j
      · exact dvd_ml (Classical.byContradiction fun hn => hl i e hn) _
      · have : l2 j ≤ l2 i := by
          rcases Nat.lt_or_ge j i with h | h
          · exact Nat.le_of_lt (h2.mono j i h hi)
          · have : i = j := by omega
            subst this; exact Nat.le_refl _
        rw [h2.left i x hi (by omega)]; simp
    have h3 := Int.dvd_add (ha x) this
    rw [h1] at h3
    exact absurd (by rw [show (1 : Int) = 1 - sm m2 (fun i => a i * R2 i x) + sm m2 (fun i => a i * R2 i x) by omega]; exact h3) (not_dvd_one hp)

theorem mono_same {m1 m2 : Nat} {l1 l2 : Nat → Nat} (h1 : ∀ i j, i < j → j < m1 → l1 i < l1 j) (h2 : ∀ i j, i < j → j < m2 → l2 i < l2 j)
    (a : ∀ i, i < m1 → ∃ j, j < m2 ∧ l2 j = l1 i) (b : ∀ i, i < m2 → ∃ j, j < m1 ∧ l1 j = l2 i) : ∀ i, i < m1 → i < m2 ∧ l1 i = l2 i := by
  intro i
  induction i using Nat.strongRecOn with
  | _ i ih =>
    intro hi
    obtain ⟨j, hj, he⟩ := a i hi
    have hij : i ≤ j := by
      refine Classical.byContradiction fun hlt => ?_
      have h3 := ih j (by omega) (by omega)
      have h4 := h1 j i (by omega) hi
      omega
    rcases Nat.lt_or_ge i j with hlt | hge
    · obtain ⟨k, hk, hke⟩ := b i (by omega)
      have h3 := h2 i j hlt hj
      have hki : k < i := by
        refine Classical.byContradiction fun hge => ?_
        rcases Nat.lt_or_ge i k with h | h
        · have := h1 i k h hk; omega
        · have : k = i := by omega
          subst this; omega
      have h4 := ih k hki (by omega)
      have h5 := h2 k i hki (by omega)
      omega
    · have : i = j := by omega
      subst this
      exact ⟨hj, he.symm⟩

theorem eq_of_cg {p a b : Int} (ha : 0 ≤ a ∧ a < p) (hb : 0 ≤ b ∧ b < p) (h : p ∣ a - b) : a = b := by
  rw [← Int.emod_eq_of_lt ha.1 ha.2, ← Int.emod_eq_of_lt hb.1 hb.2]
  exact Int.emod_eq_emod_iff_emod_sub_eq_zero.2 (Int.emod_eq_zero_of_dvd h)

theorem Red.uniq {p : Int} (hp : 1 < p) {m1 m2 : Nat} {l1 l2 : Nat → Nat} {R1 R2 : Nat → Nat → Int} (h1 : Red p m1 l1 R1) (h2 : Red p m2 l2 R2)
    (a : ∀ i, i < m1 → In p m2 R2 (R1 i)) (b : ∀ i, i < m2 → In p m1 R1 (R2 i)) : m1 = m2 ∧ (∀ i, i < m1 → l1 i = l2 i) ∧ ∀ i c, i < m1 → R1 i c = R2 i c := by
  have A : ∀ i, i < m1 → ∃ j, j < m2 ∧ l2 j = l1 i := fun i hi => h2.lead_in (m1 := m1) hp (a i hi) (fun c hc => h1.left i c hi hc) (h1.one i hi)
  have B : ∀ i, i < m2 → ∃ j, j < m1 ∧ l1 j = l2 i := fun i hi => h1.lead_in (m1 := m1) hp (b i hi) (fun c hc => h2.left i c hi hc) (h2.one i hi)
  have C := mono_same h1.mono h2.mono A B
  have D := mono_same h2.mono h1.mono B A
  have hm : m1 = m2 := by
    rcases Nat.lt_trichotomy m1 m2 with h | h | h
    · have := (D m1 h).1; omega
    · exact h
    · have := (C m2 h).1; omega
  subst hm
  refine ⟨rfl, fun i hi => (C i hi).2, fun i c hi => ?_⟩
  refine eq_of_cg (h1.rng i c hi) (h2.rng i c hi) ?_
  have h3 := h2.told (a i hi) c
  have h4 := S_one (p := p) (m := m1) (f := fun k => R1 i (l2 k) * R2 k c) i hi fun k hk hne => by
    rw [← (C k hk).2, h1.zero k i hk hi hne]; simp
  rw [← (C i hi).2, h1.one i hi] at h4
  have h5 := Int.dvd_add h3 h4
  rw [show R1 i c - R2 i c = R1 i c - sm m1 (fun i_1 => R1 i (l2 i_1) * R2 i_1 c) + (sm m1 (fun k => R1 i (l2 k) * R2 k c) - 1 * R2 i c) by omega]
  exact h5

end Go.Pl.Rref

/- Chapter 10, plain: products and differentials of elements, what an algebra is. No condition. -/
import Derived.Test.YtblbcjemoadfpaaFnP9
set_option linter.unusedVariables false
set_option linter.unusedSimpArgs false
namespace Go.Gl
open Go.Proofs Go.Proofs.Ytblbcjemoadfpaa Go.Pl

abbrev pr (I : List Int) : Int := ith I 0
abbrev sz (I : List Int) : Int := ith I 1
abbrev dg (I : List Int) (i : Nat) : Int := ith I (2 + i)
abbrev lv (I : List Int) (i : Nat) : Int := ith I (10 + i)
abbrev df (B : List Int) (i : Nat) : List Int := sub B (i * 8) 8
abbrev tb (B : List Int) (i j : Nat) : List Int := sub B (64 + (i * 64 + j * 8)) 8
/-- all are bytes -/
def BB (B : List Int) : Prop := ∀ k, 0 ≤ ith B k ∧ ith B k ≤ 255
theorem df_byt {I B : List Int} (g : GL I B) (b : BB B) {i : Nat} (hi : i < 8) : Byt (df B i) := by
  have h1 := g.b
  refine ⟨sub_length (by omega), fun j => ?_⟩
  by_cases hj : j < 8
  · rw [sub_ith hj]; exact b _
  · rw [ith_out (by rw [sub_length (by omega)]; omega)]; omega
theorem tb_byt {I B : List Int} (g : GL I B) (b : BB B) {i j : Nat} (hi : i < 8) (hj : j < 8) : Byt (tb B i j) := by
  have h1 := g.b
  refine ⟨sub_length (by omega), fun k => ?_⟩
  by_cases hk : k < 8
  · rw [sub_ith hk]; exact b _
  · rw [ith_out (by rw [sub_length (by omega)]; omega)]; omega
/-- numbers modulo p, 0 from the size on -/
def Small (p s : Int) (u : List Int) : Prop := ∀ i : Nat, i < 8 → ith u i < p ∧ (s ≤ (i : Int) → ith u i = 0)
def Lies (I u : List Int) (d l : Int) (n : Nat) : Prop := ∀ i, i < n → ith u i ≠ 0 → dg I i = d ∧ lv I i ≤ l
noncomputable def bo (p : Prop) : Bool := @decide p (Classical.propDecidable _)
theorem bo_iff {p : Prop} : bo p = true ↔ p := by unfold bo; simp
theorem bo_true {p : Prop} (h : p) : bo p = true := bo_iff.2 h
theorem bo_false {p : Prop} (h : ¬ p) : bo p = false := by
  cases e : bo p with
  | false => rfl
  | true => exact absurd (bo_iff.1 e) h
theorem not_of_bo {p : Prop} (h : bo p = false) : ¬ p := fun hp => by rw [bo_true hp] at h; cases h

structure Form (I B : List Int) : Prop where
  p : prime (pr I) = true
  s : 1 ≤ sz I ∧ sz I ≤ 8
  out : ∀ i : Nat, i < 8 → sz I ≤ i → dg I i = 0 ∧ lv I i = 0 ∧ df B i = z8
  rng : ∀ i : Nat, i < 8 → (0 ≤ dg I i ∧ dg I i ≤ 5) ∧ (0 ≤ lv I i ∧ lv I i ≤ 5)
  dif : ∀ i : Nat, i < 8 → Small (pr I) (sz I) (df B i)
  ord : ∀ i : Nat, i < 8 → 0 < i → (i : Int) < sz I → dg I (i - 1) ≤ dg I i
  ld : ∀ i : Nat, i < 8 → (i : Int) < sz I → Lies I (df B i) (dg I i - 1) (lv I i) 8
  tab : ∀ i : Nat, i < 8 → ∀ j : Nat, j < 8 → Small (pr I) (sz I) (tb B i j) ∧ (sz I ≤ i ∨ sz I ≤ j → tb B i j = z8)
  lt : ∀ i : Nat, i < 8 → ∀ j : Nat, j < 8 → Lies I (tb B i j) (dg I i + dg I j) (lv I i + lv I j) 8
  z : dg I 0 = 0 ∧ lv I 0 = 0

/-! ### products -/
def stepT (p : Int) (B u v out : List Int) (i j : Nat) : List Int := if ith u i ≠ 0 ∧ ith v j ≠ 0 then addE p out (tb B i j) (ith u i * ith v j) else out
def rowT (p : Int) (B u v out : List Int) (i : Nat) : Nat → List Int
  | 0 => out
  | j + 1 => stepT p B u v (rowT p B u v out i j) i j
def mulT (p : Int) (B u v : List Int) (n : Nat) : Nat → List Int
  | 0 => z8
  | i + 1 => rowT p B u v (mulT p B u v n i) i n
def difT (p : Int) (B u : List Int) : Nat → List Int
  | 0 => z8
  | i + 1 => addE p (difT p B u i) (df B i) (ith u i)
theorem stepT_byt {p : Int} (hp : 2 ≤ p ∧ p ≤ 7) {B u v out : List Int} (h : Byt out) (i j : Nat) : Byt (stepT p B u v out i j) := by
  unfold stepT
  split
  · exact addE_byt hp _ _ _
  · exact h
theorem rowT_byt {p : Int} (hp : 2 ≤ p ∧ p ≤ 7) {B u v out : List Int} (h : Byt out) (i : Nat) : ∀ j, Byt (rowT p B u v out i j)
  | 0 => h
  | j + 1 => stepT_byt hp (rowT_byt hp h i j) i j
theorem mulT_byt {p : Int} (hp : 2 ≤ p ∧ p ≤ 7) {B u v : List Int} (n : Nat) : ∀ i, Byt (mulT p B u v n i)
  | 0 => z8_byt
  | i + 1 => rowT_byt hp (mulT_byt hp n i) i n
theorem difT_byt {p : Int} (hp : 2 ≤ p ∧ p ≤ 7) {B u : List Int} : ∀ i, Byt (difT p B u i)
  | 0 => z8_byt
  | i + 1 => addE_byt hp _ _ _
theorem rowT_zero {p : Int} {B u v out : List Int} {i : Nat} (h : ith u i = 0) : ∀ j, rowT p B u v out i j = out
  | 0 => rfl
  | j + 1 => by
    show stepT p B u v (rowT p B u v out i j) i j = out
    unfold stepT
    rw [if_neg (fun hh => hh.1 h), rowT_zero h j]
theorem rowT_more {p : Int} {B u v out : List Int} {i n : Nat} : ∀ m, (∀ j, n ≤ j → j < n + m → ith v j = 0) → rowT p B u v out i (n + m) = rowT p B u v out i n
  | 0, _ => rfl
  | m + 1, h => by
    show stepT p B u v (rowT p B u v out i (n + m)) i (n + m) = _
    unfold stepT
    rw [if_neg (fun hh => hh.2 (h (n + m) (by omega) (by omega))), rowT_more m fun j h1 h2 => h j h1 (by omega)]
theorem mulT_inner {p : Int} {B u v : List Int} {n m : Nat} (h : ∀ j, n ≤ j → j < n + m → ith v j = 0) : ∀ i, mulT p B u v (n + m) i = mulT p B u v n i
  | 0 => rfl
  | i + 1 => by
    show rowT p B u v (mulT p B u v (n + m) i) i (n + m) = rowT p B u v (mulT p B u v n i) i n
    rw [mulT_inner h i, rowT_more m h]
theorem mulT_outer {p : Int} {B u v : List Int} {k n : Nat} : ∀ m, (∀ j, n ≤ j → j < n + m → ith u j = 0) → mulT p B u v k (n + m) = mulT p B u v k n
  | 0, _ => rfl
  | m + 1, h => by
    show rowT p B u v (mulT p B u v k (n + m)) (n + m) k = _
    rw [rowT_zero (h (n + m) (by omega) (by omega)), mulT_outer m fun j h1 h2 => h j h1 (by omega)]
/-- a product in an algebra -/
def times (p : Int) (B u v : List Int) : List Int := mulT p B u v 8 8
def dif (p : Int) (B u : List Int) : List Int := difT p B u 8
theorem Small.zero {p s : Int} {u : List Int} (h : Small p s u) {j : Nat} (hj : j < 8) (hs : s ≤ j) : ith u j = 0 := (h j hj).2 hs
theorem mulT_all {p s : Int} {B u v : List Int} {n : Nat} (hn : (n : Int) = s) (h8 : n ≤ 8) (hu : Small p s u) (hv : Small p s v) : mulT p B u v n n = times p B u v := by
  unfold times
  have e : 8 = n + (8 - n) := by omega
  rw [show mulT p B u v 8 8 = mulT p B u v (n + (8 - n)) (n + (8 - n)) by rw [← e]]
  rw [mulT_inner (fun j h1 h2 => hv.zero (by omega) (by omega)), mulT_outer _ (fun j h1 h2 => hu.zero (by omega) (by omega))]
/-- reduced -/
def Red (p : Int) (u : List Int) : Prop := u.length = 8 ∧ ∀ i, 0 ≤ ith u i ∧ ith u i < p
theorem z8_ith (i : Nat) : ith z8 i = 0 := by
  by_cases h : i < 8
  · rw [show z8 = tab 8 (fun _ => 0) from tab_zero 8, tab_ith h]
  · rw [ith_out (by show 8 ≤ i; omega)]
theorem z8_red {p : Int} (hp : 2 ≤ p ∧ p ≤ 7) : Red p z8 := ⟨rfl, fun i => by rw [z8_ith]; omega⟩
theorem addE_red {p : Int} (hp : 2 ≤ p ∧ p ≤ 7) (u v : List Int) (k : Int) : Red p (addE p u v k) := by
  refine ⟨addE_length _ _ _ _, fun i => ?_⟩
  by_cases hi : i < 8
  · unfold addE
    rw [tab_ith hi]
    exact ⟨Int.emod_nonneg _ (by omega), Int.emod_lt_of_pos _ (by omega)⟩
  · rw [ith_out (by rw [addE_length]; omega)]; omega
theorem addE_zero {p : Int} {u v : List Int} {k : Int} (h : Red p u) (hk : k = 0) : addE p u v k = u := by
  subst hk
  refine ext_ith (by rw [addE_length, h.1]) fun i hi => ?_
  rw [addE_length] at hi
  unfold addE
  rw [tab_ith hi, Int.zero_mul, Int.add_zero]
  exact Int.emod_eq_of_lt (h.2 i).1 (h.2 i).2
theorem difT_red {p : Int} (hp : 2 ≤ p ∧ p ≤ 7) {B u : List Int} : ∀ i, Red p (difT p B u i)
  | 0 => z8_red hp
  | i + 1 => addE_red hp _ _ _
theorem difT_more {p : Int} (hp : 2 ≤ p ∧ p ≤ 7) {B u : List Int} {n : Nat} : ∀ m, (∀ j, n ≤ j → j < n + m → ith u j = 0) → difT p B u (n + m) = difT p B u n
  | 0, _ => rfl
  | m + 1, h => by
    show addE p (difT p B u (n + m)) (df B (n + m)) (ith u (n + m)) = _
    rw [addE_zero (difT_red hp _) (h (n + m) (by omega) (by omega)), difT_more hp m fun j h1 h2 => h j h1 (by omega)]
theorem difT_all {p s : Int} (hp : 2 ≤ p ∧ p ≤ 7) {B u : List Int} {n : Nat} (hn : (n : Int) = s) (h8 : n ≤ 8) (hu : Small p s u) : difT p B u n = dif p B u := by
  unfold dif
  have e : 8 = n + (8 - n) := by omega
  rw [show difT p B u 8 = difT p B u (n + (8 - n)) by rw [← e]]
  rw [difT_more hp _ (fun j h1 h2 => hu.zero (by omega) (by omega))]
theorem unitE_ith {i j : Nat} (hi : i < 8) : ith (unitE i) j = if i = j then 1 else 0 := by
  unfold ith unitE z8
  rw [List.getD_eq_getElem?_getD, List.getElem?_set]
  by_cases h : i = j
  · subst h; simp [hi]
  · rw [if_neg h, if_neg h, List.getElem?_replicate]; split <;> rfl
theorem addE_one {p : Int} {w : List Int} {k : Int} (h : Red p w) (hk : k = 1) : addE p z8 w k = w := by
  subst hk
  refine ext_ith (by rw [addE_length, h.1]) fun i hi => ?_
  rw [addE_length] at hi
  unfold addE
  rw [tab_ith hi, Int.one_mul, z8_ith, Int.zero_add]
  exact Int.emod_eq_of_lt (h.2 i).1 (h.2 i).2
theorem rowT_unit {p : Int} {B u out : List Int} {i k : Nat} (hk : k < 8) (hu : ith u i = 1) : ∀ j, rowT p B u (unitE k) out i j = if j ≤ k then out else addE p out (tb B i k) 1
  | 0 => by rw [if_pos (by omega)]; rfl
  | j + 1 => by
    show stepT p B u (unitE k) (rowT p B u (unitE k) out i j) i j = _
    unfold stepT
    rw [rowT_unit hk hu j, unitE_ith hk, hu]
    by_cases h : k = j
    · subst h
      rw [if_pos rfl, if_pos (by decide), if_pos (Nat.le_refl _), if_neg (by omega), Int.mul_one]
    · rw [if_neg h, if_neg (by simp)]
      by_cases h2 : j ≤ k
      · rw [if_pos h2, if_pos (by omega)]
      · rw [if_neg h2, if_neg (by omega)]
theorem mulT_low {p : Int} {B v : List Int} {k i : Nat} (hi : i < 8) : ∀ m, m ≤ i → mulT p B (unitE i) v k m = z8
  | 0, _ => rfl
  | m + 1, h => by
    show rowT p B (unitE i) v (mulT p B (unitE i) v k m) m k = _
    rw [mulT_low hi m (by omega), rowT_zero (by rw [unitE_ith hi, if_neg (by omega)])]
/-- the product of two basis elements -/
theorem times_unit {p : Int} {B : List Int} {i k : Nat} (hi : i < 8) (hk : k < 8) (hr : Red p (tb B i k)) : times p B (unitE i) (unitE k) = tb B i k := by
  unfold times
  have e : 8 = (i + 1) + (8 - (i + 1)) := by omega
  rw [show mulT p B (unitE i) (unitE k) 8 8 = mulT p B (unitE i) (unitE k) 8 ((i + 1) + (8 - (i + 1))) by rw [← e]]
  rw [mulT_outer _ (fun j h1 h2 => by rw [unitE_ith hi, if_neg (by omega)])]
  show rowT p B (unitE i) (unitE k) (mulT p B (unitE i) (unitE k) 8 i) i 8 = _
  rw [mulT_low hi i (Nat.le_refl _), rowT_unit hk (by rw [unitE_ith hi, if_pos rfl]), if_neg (by omega), addE_one hr rfl]
theorem Small.red {p s : Int} {u : List Int} (h : Small p s u) (b : Byt u) (hp : 0 < p) : Red p u := ⟨b.1, fun i => ⟨(b.2 i).1, by
  by_cases hi : i < 8
  · exact (h i hi).1
  · rw [ith_out (by rw [b.1]; omega)]; exact hp⟩⟩
theorem unitE_small {p s : Int} {i : Nat} (hp : 2 ≤ p) (hi : i < 8) (hs : (i : Int) < s) : Small p s (unitE i) := fun j hj => by
  rw [unitE_ith hi]
  split
  · exact ⟨by omega, fun h => by omega⟩
  · exact ⟨by omega, fun _ => rfl⟩
/-- what a differential graded algebra is -/
structure Alg (I B : List Int) : Prop where
  f : Form I B
  u : ∀ i : Nat, (i : Int) < sz I → tb B 0 i = unitE i ∧ tb B i 0 = unitE i ∧ dif (pr I) B (df B i) = z8
  l : ∀ i j : Nat, (i : Int) < sz I → (j : Int) < sz I → dif (pr I) B (tb B i j) = addE (pr I) (times (pr I) B (df B i) (unitE j)) (times (pr I) B (unitE i) (df B j)) (1 - 2 * (dg I i % 2))
  a : ∀ i j k : Nat, (i : Int) < sz I → (j : Int) < sz I → (k : Int) < sz I → times (pr I) B (tb B i j) (unitE k) = times (pr I) B (unitE i) (tb B j k)
end Go.Gl

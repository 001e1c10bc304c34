/- Chapter 9, plain: lists of bars are sorted: swaps, rotations, merges. No condition. -/
import Derived.Test.YthhilbeddkkigaaDoorPlBar
set_option linter.unusedVariables false
set_option linter.unusedSimpArgs false
namespace Go.Pl

/-- bars in order, as numbers -/
def key (b : SBar) : Int := b.degree * 100 + b.birth * 10 + lastD b.death
theorem lastD_rng {b : SBar} (h : isBar b = true) : 0 ≤ lastD b.death ∧ lastD b.death ≤ 6 := by
  have := isBar_iff.1 h
  unfold lastD
  split <;> omega
theorem cmp_key {a b : SBar} (ha : isBar a = true) (hb : isBar b = true) : cmpBar a b < 0 ↔ key a < key b := by
  have h1 := isBar_iff.1 ha
  have h2 := isBar_iff.1 hb
  have h3 := lastD_rng ha
  have h4 := lastD_rng hb
  unfold cmpBar key cmpI
  repeat' split
  all_goals omega
theorem before_key {a b : SBar} (ha : isBar a = true) (hb : isBar b = true) : before a b = decide (key a < key b) := by
  rw [← cmpBar_before ha hb]
  exact decide_eq_decide.2 (cmp_key ha hb)
theorem key_inj {a b : SBar} (ha : isBar a = true) (hb : isBar b = true) (h : key a = key b) : a = b := by
  have h1 := isBar_iff.1 ha
  have h2 := isBar_iff.1 hb
  have h3 := lastD_rng ha
  have h4 := lastD_rng hb
  unfold key at h
  have e1 : a.degree = b.degree := by omega
  have e2 : a.birth = b.birth := by omega
  have e3 : lastD a.death = lastD b.death := by omega
  have e4 : a.death = b.death := by
    unfold lastD at e3
    split at e3 <;> split at e3 <;> omega
  cases a; cases b; simp_all
def Val (L : List SBar) : Prop := ∀ x ∈ L, isBar x = true
theorem Val.bar {L : List SBar} (h : Val L) {i : Nat} (hi : i < L.length) : isBar (bar L i) = true := h _ (bar_mem hi)
theorem Val.perm {L M : List SBar} (h : Val L) (p : M.Perm L) : Val M := fun x hx => h x (p.mem_iff.1 hx)
def SortedOn (L : List SBar) (a b : Nat) : Prop := ∀ i j, a ≤ i → i < j → j < b → key (bar L i) ≤ key (bar L j)
/-- swaps -/
def sw (L : List SBar) (i j : Nat) : List SBar := (L.set i (bar L j)).set j (bar L i)
theorem bar_set {L : List SBar} {i k : Nat} {x : SBar} (hi : i < L.length) : bar (L.set i x) k = if k = i then x else bar L k := by
  unfold bar
  rw [List.getD_eq_getElem?_getD, List.getD_eq_getElem?_getD, List.getElem?_set]
  by_cases h : i = k
  · subst h; simp [hi]
  · rw [if_neg h, if_neg (fun e => h e.symm)]
theorem sw_length (L : List SBar) (i j : Nat) : (sw L i j).length = L.length := by simp [sw]
theorem bar_sw {L : List SBar} {i j k : Nat} (hi : i < L.length) (hj : j < L.length) : bar (sw L i j) k = if k = j then bar L i else if k = i then bar L j else bar L k := by
  unfold sw
  rw [bar_set (by simpa using hj), bar_set hi]
theorem bar_eq {L : List SBar} {i : Nat} (h : i < L.length) : L[i] = bar L i := by
  have := bar_get h
  rw [List.getElem?_eq_getElem h] at this
  injection this
theorem sw_perm {L : List SBar} {i j : Nat} (hi : i < L.length) (hj : j < L.length) : (sw L i j).Perm L := by
  unfold sw
  rw [← bar_eq hi, ← bar_eq hj]
  exact List.set_set_perm hi hj
def swR (L : List SBar) (a b : Nat) : Nat → List SBar
  | 0 => L
  | n + 1 => sw (swR L a b n) (a + n) (b + n)
def swF (f : Nat → SBar) (a b n k : Nat) : SBar := if a ≤ k ∧ k < a + n then f (b + (k - a)) else if b ≤ k ∧ k < b + n then f (a + (k - b)) else f k
theorem swR_length (L : List SBar) (a b : Nat) : ∀ n, (swR L a b n).length = L.length
  | 0 => rfl
  | n + 1 => by rw [swR, sw_length, swR_length L a b n]
theorem swR_perm {L : List SBar} {a b : Nat} : ∀ n, a + n ≤ b → b + n ≤ L.length → (swR L a b n).Perm L
  | 0, _, _ => List.Perm.refl _
  | n + 1, h1, h2 => (sw_perm (by rw [swR_length]; omega) (by rw [swR_length]; omega)).trans (swR_perm n (by omega) (by omega))
theorem bar_swR {L : List SBar} {a b : Nat} : ∀ n k, a + n ≤ b → b + n ≤ L.length → bar (swR L a b n) k = swF (bar L) a b n k
  | 0, k, _, _ => by
    unfold swF
    rw [if_neg (by omega), if_neg (by omega)]; rfl
  | n + 1, k, h1, h2 => by
    rw [swR, bar_sw (by rw [swR_length]; omega) (by rw [swR_length]; omega), bar_swR n _ (by omega) (by omega), bar_swR n _ (by omega) (by omega), bar_swR n _ (by omega) (by omega)]
    unfold swF
    repeat' split
    all_goals first | (exfalso; omega) | rfl | (congr 1; omega)
def rotF (f : Nat → SBar) (a m b k : Nat) : SBar := if a ≤ k ∧ k < a + (b - m) then f (k + (m - a)) else if a + (b - m) ≤ k ∧ k < b then f (k - (b - m)) else f k
theorem rot_more {f : Nat → SBar} {m i j k : Nat} (h1 : j < i) (h2 : i ≤ m) (h0 : 0 < j) : rotF (swF f (m - i) m j) (m - i + j) m (m + j) k = rotF f (m - i) m (m + j) k := by
  unfold rotF swF
  repeat' split
  all_goals first | (exfalso; omega) | rfl | (congr 1; omega)
theorem rot_less {f : Nat → SBar} {m i j k : Nat} (h1 : i < j) (h2 : i ≤ m) (h0 : 0 < i) : rotF (swF f (m - i) (m + j - i) i) (m - i) m (m + j - i) k = rotF f (m - i) m (m + j) k := by
  unfold rotF swF
  repeat' split
  all_goals first | (exfalso; omega) | rfl | (congr 1; omega)
theorem rot_same {f : Nat → SBar} {m i k : Nat} (h2 : i ≤ m) : swF f (m - i) m i k = rotF f (m - i) m (m + i) k := by
  unfold rotF swF
  repeat' split
  all_goals first | (exfalso; omega) | rfl | (congr 1; omega)
theorem rot_none {f : Nat → SBar} {a m b k : Nat} (h : a = m ∨ b = m) (h1 : a ≤ m) (h2 : m ≤ b) : rotF f a m b k = f k := by
  unfold rotF
  repeat' split
  all_goals first | (exfalso; omega) | rfl | (congr 1; omega)
theorem rotF_congr {f g : Nat → SBar} {a m b k : Nat} (h : ∀ k, f k = g k) : rotF f a m b k = rotF g a m b k := by
  have : f = g := funext h
  rw [this]

/-! ### insertion -/
/-- sorted but for one element, that is not greater than those behind it -/
structure Ins (C : List SBar) (a j i : Nat) : Prop where
  so : ∀ p q, a ≤ p → p < q → q ≤ i → p ≠ j → q ≠ j → key (bar C p) ≤ key (bar C q)
  up : ∀ q, j < q → q ≤ i → key (bar C j) ≤ key (bar C q)
theorem Ins.start {C : List SBar} {a i : Nat} (h : SortedOn C a i) : Ins C a i i := ⟨fun p q h1 h2 h3 _ h5 => h p q h1 h2 (by omega), fun q h1 h2 => by omega⟩
theorem Ins.step {C : List SBar} {a j i : Nat} (h : Ins C a j i) (hj : a < j) (hi : j ≤ i) (hl : i < C.length) (hk : key (bar C j) < key (bar C (j - 1))) : Ins (sw C j (j - 1)) a (j - 1) i := by
  have e : ∀ k, bar (sw C j (j - 1)) k = if k = j - 1 then bar C j else if k = j then bar C (j - 1) else bar C k := fun k => bar_sw (by omega) (by omega)
  refine ⟨fun p q h1 h2 h3 h4 h5 => ?_, fun q h1 h2 => ?_⟩
  · rw [e, e, if_neg h4, if_neg h5]
    by_cases hp : p = j
    · subst hp
      rw [if_pos rfl, if_neg (by omega)]
      exact h.so (p - 1) q (by omega) (by omega) h3 (by omega) (by omega)
    rw [if_neg hp]
    by_cases hq : q = j
    · subst hq
      rw [if_pos rfl]
      by_cases hp2 : p = q - 1
      · exact absurd hp2 h4
      · exact h.so p (q - 1) h1 (by omega) (by omega) hp (by omega)
    · rw [if_neg hq]
      exact h.so p q h1 h2 h3 hp hq
  · rw [e, e, if_pos rfl, if_neg (by omega)]
    by_cases hq : q = j
    · subst hq; rw [if_pos rfl]; omega
    · rw [if_neg hq]; exact h.up q (by omega) h2
theorem Ins.done {C : List SBar} {a j i : Nat} (h : Ins C a j i) (hj : a ≤ j) (hi : j ≤ i) (hk : j = a ∨ key (bar C (j - 1)) ≤ key (bar C j)) : SortedOn C a (i + 1) := by
  intro p q h1 h2 h3
  by_cases hp : p = j
  · subst hp; exact h.up q h2 (by omega)
  by_cases hq : q = j
  · subst hq
    rcases hk with hk | hk
    · omega
    · by_cases hp2 : p = q - 1
      · subst hp2; exact hk
      · exact Int.le_trans (h.so p (q - 1) h1 (by omega) (by omega) hp (by omega)) hk
  · exact h.so p q h1 h2 (by omega) hp hq

/-! ### merging -/
structure Merged (L M : List SBar) (a b : Nat) : Prop where
  perm : M.Perm L
  out : ∀ k, k < a ∨ b ≤ k → bar M k = bar L k
  inn : ∀ k, a ≤ k → k < b → ∃ q, a ≤ q ∧ q < b ∧ bar M k = bar L q
  so : SortedOn M a b
theorem Merged.same {L : List SBar} {a b : Nat} (h : SortedOn L a b) : Merged L L a b := ⟨List.Perm.refl _, fun k _ => rfl, fun k h1 h2 => ⟨k, h1, h2, rfl⟩, h⟩
theorem Merged.len {L M : List SBar} {a b : Nat} (h : Merged L M a b) : M.length = L.length := h.perm.length_eq
/-- one element moves to the right -/
def shR (f : Nat → SBar) (a k t : Nat) : SBar := if a ≤ t ∧ t < k then f (t + 1) else if t = k then f a else f t
theorem Merged.right {L M : List SBar} {a m b i : Nat} (hm : m = a + 1) (hb : m < b) (hi : m ≤ i) (hib : i ≤ b) (so : SortedOn L m b) (h1 : i = m ∨ key (bar L (i - 1)) < key (bar L a)) (h2 : i = b ∨ key (bar L a) ≤ key (bar L i)) (p : M.Perm L) (e : ∀ t, bar M t = shR (bar L) a (i - 1) t) : Merged L M a b := by
  refine ⟨p, fun k hk => ?_, fun k hk1 hk2 => ?_, fun x y hx hxy hy => ?_⟩
  · rw [e]; unfold shR; rw [if_neg (by omega)]; split
    · exfalso; omega
    · rfl
  · rw [e]; unfold shR
    split
    · exact ⟨k + 1, by omega, by omega, rfl⟩
    split
    · exact ⟨a, by omega, by omega, rfl⟩
    · exact ⟨k, hk1, hk2, rfl⟩
  · have lo : ∀ t, m ≤ t → t < i → key (bar L t) < key (bar L a) := fun t ht1 ht2 => by
      rcases h1 with h1 | h1
      · omega
      · by_cases et : t = i - 1
        · subst et; exact h1
        · exact Int.lt_of_le_of_lt (so t (i - 1) ht1 (by omega) (by omega)) h1
    have hi2 : ∀ t, i ≤ t → t < b → key (bar L a) ≤ key (bar L t) := fun t ht1 ht2 => by
      rcases h2 with h2 | h2
      · omega
      · by_cases et : t = i
        · subst et; exact h2
        · exact Int.le_trans h2 (so i t hi (by omega) ht2)
    rw [e, e]; unfold shR
    by_cases c1 : a ≤ x ∧ x < i - 1
    · rw [if_pos c1]
      by_cases c2 : a ≤ y ∧ y < i - 1
      · rw [if_pos c2]; exact so _ _ (by omega) (by omega) (by omega)
      rw [if_neg c2]
      by_cases c3 : y = i - 1
      · rw [if_pos c3]; exact Int.le_of_lt (lo _ (by omega) (by omega))
      · rw [if_neg c3]; exact so _ _ (by omega) (by omega) (by omega)
    rw [if_neg c1, if_neg (by omega : ¬ (a ≤ y ∧ y < i - 1)), if_neg (by omega : ¬ y = i - 1)]
    by_cases c3 : x = i - 1
    · rw [if_pos c3]; exact hi2 _ (by omega) hy
    · rw [if_neg c3]; exact so _ _ (by omega) hxy hy
/-- one element moves to the left -/
def shL (f : Nat → SBar) (m k t : Nat) : SBar := if k < t ∧ t ≤ m then f (t - 1) else if t = k then f m else f t
theorem Merged.left {L M : List SBar} {a m b i : Nat} (hm : a < m) (hb : b = m + 1) (hi : a ≤ i) (him : i ≤ m) (so : SortedOn L a m) (h1 : i = a ∨ key (bar L (i - 1)) ≤ key (bar L m)) (h2 : i = m ∨ key (bar L m) < key (bar L i)) (p : M.Perm L) (e : ∀ t, bar M t = shL (bar L) m i t) : Merged L M a b := by
  refine ⟨p, fun k hk => ?_, fun k hk1 hk2 => ?_, fun x y hx hxy hy => ?_⟩
  · rw [e]; unfold shL; rw [if_neg (by omega)]; split
    · have : k = i := by assumption
      exfalso; omega
    · rfl
  · rw [e]; unfold shL
    split
    · exact ⟨k - 1, by omega, by omega, rfl⟩
    split
    · exact ⟨m, by omega, by omega, rfl⟩
    · exact ⟨k, hk1, hk2, rfl⟩
  · have lo : ∀ t, a ≤ t → t < i → key (bar L t) ≤ key (bar L m) := fun t ht1 ht2 => by
      rcases h1 with h1 | h1
      · omega
      · by_cases et : t = i - 1
        · subst et; exact h1
        · exact Int.le_trans (so t (i - 1) ht1 (by omega) (by omega)) h1
    have hi2 : ∀ t, i ≤ t → t < m → key (bar L m) < key (bar L t) := fun t ht1 ht2 => by
      rcases h2 with h2 | h2
      · omega
      · by_cases et : t = i
        · subst et; exact h2
        · exact Int.lt_of_lt_of_le h2 (so i t hi (by omega) ht2)
    rw [e, e]; unfold shL
    by_cases c2 : i < y ∧ y ≤ m
    · rw [if_pos c2]
      by_cases c1 : i < x ∧ x ≤ m
      · rw [if_pos c1]; exact so _ _ (by omega) (by omega) (by omega)
      rw [if_neg c1]
      by_cases c3 : x = i
      · rw [if_pos c3]; exact Int.le_of_lt (hi2 _ (by omega) (by omega))
      · rw [if_neg c3]
        by_cases c4 : x = y - 1
        · subst c4; exact Int.le_refl _
        · exact so _ _ hx (by omega) (by omega)
    rw [if_neg c2, if_neg (by omega : ¬ (i < x ∧ x ≤ m)), if_neg (by omega : ¬ x = i)]
    by_cases c3 : y = i
    · rw [if_pos c3]; exact lo _ hx (by omega)
    · rw [if_neg c3]; exact so _ _ hx hxy (by omega)
/-- where the halves are parted -/
structure Cut (L : List SBar) (a m b mid s e : Nat) : Prop where
  am : a < m
  mb : m < b
  s1 : a ≤ s
  s2 : s ≤ m
  e1 : m ≤ e
  e2 : e ≤ b
  eq : s + (e - m) = mid
  l1 : SortedOn L a m
  l2 : SortedOn L m b
  c1 : s = a ∨ e = b ∨ key (bar L (s - 1)) ≤ key (bar L e)
  c2 : s = m ∨ e = m ∨ key (bar L (e - 1)) < key (bar L s)
section
variable {L R : List SBar} {a m b mid s e : Nat}
theorem Cut.left (c : Cut L a m b mid s e) (hr : ∀ k, bar R k = rotF (bar L) s m e k) : SortedOn R a s ∧ SortedOn R s mid := by
  obtain ⟨am, mb, s1, s2, e1, e2, eq, l1, l2, _, _⟩ := c
  refine ⟨fun i j h1 h2 h3 => ?_, fun i j h1 h2 h3 => ?_⟩
  · rw [hr, hr]; unfold rotF
    rw [if_neg (by omega), if_neg (by omega), if_neg (by omega), if_neg (by omega)]
    exact l1 _ _ h1 h2 (by omega)
  · rw [hr, hr]; unfold rotF
    rw [if_pos (by omega), if_pos (by omega)]
    exact l2 _ _ (by omega) (by omega) (by omega)
theorem Cut.right (c : Cut L a m b mid s e) (hr : ∀ k, bar R k = rotF (bar L) s m e k) : SortedOn R mid e ∧ SortedOn R e b := by
  obtain ⟨am, mb, s1, s2, e1, e2, eq, l1, l2, _, _⟩ := c
  refine ⟨fun i j h1 h2 h3 => ?_, fun i j h1 h2 h3 => ?_⟩
  · rw [hr, hr]; unfold rotF
    rw [if_neg (by omega), if_pos (by omega), if_neg (by omega), if_pos (by omega)]
    exact l1 _ _ (by omega) (by omega) (by omega)
  · rw [hr, hr]; unfold rotF
    rw [if_neg (by omega), if_neg (by omega), if_neg (by omega), if_neg (by omega)]
    exact l2 _ _ (by omega) (by omega) h3
theorem le_of_sorted {L : List SBar} {a b i j : Nat} (h : SortedOn L a b) (h1 : a ≤ i) (h2 : i ≤ j) (h3 : j < b) : key (bar L i) ≤ key (bar L j) := by
  by_cases e : i = j
  · subst e; exact Int.le_refl _
  · exact h i j h1 (by omega) h3
theorem Cut.cross (c : Cut L a m b mid s e) (hr : ∀ k, bar R k = rotF (bar L) s m e k) {x y : Nat} (hx : a ≤ x) (hxm : x < mid) (hy : mid ≤ y) (hyb : y < b) : key (bar R x) ≤ key (bar R y) := by
  obtain ⟨am, mb, s1, s2, e1, e2, eq, l1, l2, c1, c2⟩ := c
  rw [hr, hr]; unfold rotF
  rw [if_neg (by omega : ¬ (s ≤ y ∧ y < s + (e - m)))]
  by_cases hxs : x < s
  · rw [if_neg (by omega : ¬ (s ≤ x ∧ x < s + (e - m))), if_neg (by omega : ¬ (s + (e - m) ≤ x ∧ x < e))]
    by_cases hye : y < e
    · rw [if_pos (by omega)]; exact l1 _ _ hx (by omega) (by omega)
    · rw [if_neg (by omega)]
      rcases c1 with c1 | c1 | c1
      · omega
      · omega
      · exact Int.le_trans (le_of_sorted l1 hx (by omega) (by omega)) (Int.le_trans c1 (le_of_sorted l2 (by omega) (by omega) hyb))
  · rw [if_pos (by omega)]
    by_cases hye : y < e
    · rw [if_pos (by omega)]
      rcases c2 with c2 | c2 | c2
      · omega
      · omega
      · exact Int.le_of_lt (Int.lt_of_le_of_lt (le_of_sorted l2 (by omega) (show x + (m - s) ≤ e - 1 by omega) (by omega)) (Int.lt_of_lt_of_le c2 (le_of_sorted l1 s1 (show s ≤ y - (e - m) by omega) (by omega))))
    · rw [if_neg (by omega)]; exact l2 _ _ (by omega) (by omega) hyb
theorem Cut.merged {M N : List SBar} (c : Cut L a m b mid s e) (hr : ∀ k, bar R k = rotF (bar L) s m e k) (hp : R.Perm L) (h1 : Merged R M a mid) (h2 : Merged M N mid b) : Merged L N a b := by
  have cr := fun {x y : Nat} => c.cross hr (x := x) (y := y)
  obtain ⟨am, mb, s1, s2, e1, e2, eq, l1, l2, c1, c2⟩ := c
  refine ⟨h2.perm.trans (h1.perm.trans hp), fun k hk => ?_, fun k hk1 hk2 => ?_, fun x y hx hxy hy => ?_⟩
  · rw [h2.out k (by omega), h1.out k (by omega), hr]
    unfold rotF
    rw [if_neg (by omega), if_neg (by omega)]
  · have key2 : ∀ q, a ≤ q → q < b → ∃ t, a ≤ t ∧ t < b ∧ bar R q = bar L t := fun q hq1 hq2 => by
      rw [hr]; unfold rotF
      split
      · exact ⟨_, by omega, by omega, rfl⟩
      split
      · exact ⟨_, by omega, by omega, rfl⟩
      · exact ⟨q, hq1, hq2, rfl⟩
    by_cases hm : k < mid
    · rw [h2.out k (by omega)]
      obtain ⟨q, q1, q2, q3⟩ := h1.inn k hk1 hm
      rw [q3]; exact key2 q q1 (by omega)
    · obtain ⟨q, q1, q2, q3⟩ := h2.inn k (by omega) hk2
      rw [q3, h1.out q (by omega)]
      exact key2 q (by omega) q2
  · by_cases hym : y < mid
    · rw [h2.out x (by omega), h2.out y (by omega)]
      exact h1.so x y hx hxy hym
    by_cases hxm : x < mid
    · rw [h2.out x (by omega)]
      obtain ⟨p, p1, p2, p3⟩ := h1.inn x hx hxm
      obtain ⟨q, q1, q2, q3⟩ := h2.inn y (by omega) hy
      rw [p3, q3, h1.out q (by omega)]
      exact cr p1 p2 q1 q2
    · exact h2.so x y (by omega) hxy hy
end
/-- two sorted lists of the same bars are one -/
theorem sorted_unique : ∀ (L M : List SBar), M.Perm L → Val L → SortedOn L 0 L.length → SortedOn M 0 M.length → M = L
  | [], M, p, _, _, _ => by simpa using p
  | x :: L, [], p, _, _, _ => by have := p.length_eq; simp at this
  | x :: L, y :: M, p, v, s1, s2 => by
    have tl : ∀ {z : SBar} {A : List SBar}, SortedOn (z :: A) 0 (z :: A).length → SortedOn A 0 A.length ∧ ∀ w ∈ A, key z ≤ key w := fun {z A} s => by
      refine ⟨fun i j h1 h2 h3 => ?_, fun w hw => ?_⟩
      · have := s (i + 1) (j + 1) (by omega) (by omega) (by simp; omega)
        simpa [bar] using this
      · obtain ⟨i, hi, e⟩ := List.getElem_of_mem hw
        have := s 0 (i + 1) (by omega) (by omega) (by simp; omega)
        have h2 : bar (z :: A) (i + 1) = w := by simp [bar, hi, e]
        rw [h2] at this
        simpa [bar] using this
    obtain ⟨t1, m1⟩ := tl s1
    obtain ⟨t2, m2⟩ := tl s2
    have hy : y ∈ x :: L := p.mem_iff.1 (List.mem_cons_self ..)
    have hx : x ∈ y :: M := p.mem_iff.2 (List.mem_cons_self ..)
    have vx := v x (List.mem_cons_self ..)
    have vy := v y hy
    have e : y = x := by
      rcases List.mem_cons.1 hy with hy | hy
      · exact hy
      rcases List.mem_cons.1 hx with hx | hx
      · exact hx.symm
      exact key_inj vy vx (by have := m1 y hy; have := m2 x hx; omega)
    subst e
    rw [sorted_unique L M (List.Perm.cons_inv p) (fun z hz => v z (List.mem_cons_of_mem _ hz)) t1 t2]
end Go.Pl

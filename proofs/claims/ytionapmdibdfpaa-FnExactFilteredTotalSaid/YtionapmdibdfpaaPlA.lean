/- Plain lists of numbers: places, tables, sums. No condition. -/
set_option linter.unusedVariables false
set_option linter.unusedSimpArgs false
namespace Go.Pl

/-- the number at a place, 0 behind the end -/
def ith (xs : List Int) (i : Nat) : Int := xs.getD i 0
/-- the row at a place -/
def row (rows : List (List Int)) (i : Nat) : List Int := rows.getD i []
/-- a number of a row -/
def ent (rows : List (List Int)) (i k : Nat) : Int := ith (row rows i) k
theorem ith_get {xs : List Int} {i : Nat} (h : i < xs.length) : xs[i] = ith xs i := by simp [ith, h]
theorem row_get {rows : List (List Int)} {i : Nat} (h : i < rows.length) : rows[i] = row rows i := by simp [row, h]
theorem ith_out {xs : List Int} {i : Nat} (h : xs.length ≤ i) : ith xs i = 0 := by simp [ith, List.getElem?_eq_none h]
theorem row_out {rows : List (List Int)} {i : Nat} (h : rows.length ≤ i) : row rows i = [] := by simp [row, List.getElem?_eq_none h]
theorem ith_mem {xs : List Int} {i : Nat} (h : i < xs.length) : ith xs i ∈ xs := by rw [← ith_get h]; exact List.getElem_mem h
theorem row_mem {rows : List (List Int)} {i : Nat} (h : i < rows.length) : row rows i ∈ rows := by rw [← row_get h]; exact List.getElem_mem h
theorem ith_nil (i : Nat) : ith [] i = 0 := by simp [ith]
theorem ith_cons_zero (x : Int) (xs : List Int) : ith (x :: xs) 0 = x := by simp [ith]
theorem ith_cons_succ (x : Int) (xs : List Int) (i : Nat) : ith (x :: xs) (i + 1) = ith xs i := by simp [ith]
theorem ith_append_left {xs ys : List Int} {i : Nat} (h : i < xs.length) : ith (xs ++ ys) i = ith xs i := by simp [ith, List.getElem?_append_left h]
theorem ith_append_right {xs ys : List Int} {i : Nat} (h : xs.length ≤ i) : ith (xs ++ ys) i = ith ys (i - xs.length) := by simp [ith, List.getElem?_append_right h]
theorem row_append_left {xs ys : List (List Int)} {i : Nat} (h : i < xs.length) : row (xs ++ ys) i = row xs i := by simp [row, List.getElem?_append_left h]
theorem row_append_right {xs ys : List (List Int)} {i : Nat} (h : xs.length ≤ i) : row (xs ++ ys) i = row ys (i - xs.length) := by simp [row, List.getElem?_append_right h]
theorem ext_ith {xs ys : List Int} (hl : xs.length = ys.length) (h : ∀ i, i < xs.length → ith xs i = ith ys i) : xs = ys := by
  apply List.ext_getElem hl
  intro i h1 h2
  rw [ith_get h1, ith_get h2]; exact h i h1
theorem ext_row {xs ys : List (List Int)} (hl : xs.length = ys.length) (h : ∀ i, i < xs.length → row xs i = row ys i) : xs = ys := by
  apply List.ext_getElem hl
  intro i h1 h2
  rw [row_get h1, row_get h2]; exact h i h1
theorem take_succ_ith {xs : List Int} {i : Nat} (h : i < xs.length) : xs.take (i + 1) = xs.take i ++ [ith xs i] := by rw [List.take_succ_eq_append_getElem h, ith_get h]
theorem take_succ_row {xs : List (List Int)} {i : Nat} (h : i < xs.length) : xs.take (i + 1) = xs.take i ++ [row xs i] := by rw [List.take_succ_eq_append_getElem h, row_get h]

/-- a table of n numbers -/
def tab (n : Nat) (f : Nat → Int) : List Int := (List.range n).map f
theorem tab_length (n : Nat) (f : Nat → Int) : (tab n f).length = n := by simp [tab]
theorem tab_ith {n : Nat} {f : Nat → Int} {i : Nat} (h : i < n) : ith (tab n f) i = f i := by simp [tab, ith, h]
theorem tab_get {n : Nat} {f : Nat → Int} {i : Nat} (h : i < (tab n f).length) : (tab n f)[i] = f i := by simp [tab]
theorem tab_congr {n : Nat} {f g : Nat → Int} (h : ∀ i, i < n → f i = g i) : tab n f = tab n g := by
  refine ext_ith (by rw [tab_length, tab_length]) fun i hi => ?_
  rw [tab_length] at hi
  rw [tab_ith hi, tab_ith hi, h i hi]
theorem tab_set {n : Nat} {f : Nat → Int} {j : Nat} (y : Int) : (tab n f).set j y = tab n (fun k => if k = j then y else f k) := by
  refine List.ext_getElem (by simp [tab]) fun i h1 h2 => ?_
  simp [tab, List.getElem_set, eq_comm]
theorem tab_succ (n : Nat) (f : Nat → Int) : tab (n + 1) f = tab n f ++ [f n] := by simp [tab, List.range_succ]
theorem tab_eq {xs : List Int} : xs = tab xs.length (ith xs) := ext_ith (by rw [tab_length]) fun i hi => by rw [tab_ith hi]
theorem tab_zero (n : Nat) : List.replicate n (0 : Int) = tab n (fun _ => 0) := by
  refine List.ext_getElem (by simp [tab]) fun i h1 h2 => ?_
  simp [tab]
theorem tab_mem {n : Nat} {f : Nat → Int} {x : Int} (h : x ∈ tab n f) : ∃ i, i < n ∧ f i = x := by
  simp only [tab, List.mem_map, List.mem_range] at h
  exact h
/-- a table of rows -/
def tabR (n : Nat) (f : Nat → List Int) : List (List Int) := (List.range n).map f
theorem tabR_length (n : Nat) (f : Nat → List Int) : (tabR n f).length = n := by simp [tabR]
theorem tabR_row {n : Nat} {f : Nat → List Int} {i : Nat} (h : i < n) : row (tabR n f) i = f i := by simp [tabR, row, h]
theorem tabR_succ (n : Nat) (f : Nat → List Int) : tabR (n + 1) f = tabR n f ++ [f n] := by simp [tabR, List.range_succ]
theorem tabR_congr {n : Nat} {f g : Nat → List Int} (h : ∀ i, i < n → f i = g i) : tabR n f = tabR n g := by
  refine ext_row (by rw [tabR_length, tabR_length]) fun i hi => ?_
  rw [tabR_length] at hi
  rw [tabR_row hi, tabR_row hi, h i hi]
theorem tabR_eq {xs : List (List Int)} : xs = tabR xs.length (row xs) := ext_row (by rw [tabR_length]) fun i hi => by rw [tabR_row hi]

/-- the first place of a number other than 0, or -1 -/
def lead : List Int → Int
  | [] => -1
  | x :: xs => if x ≠ 0 then 0 else if lead xs < 0 then -1 else lead xs + 1
theorem lead_ge (xs : List Int) : -1 ≤ lead xs := by
  induction xs with
  | nil => simp [lead]
  | cons x xs ih => unfold lead; split; omega; split <;> omega
theorem lead_stop {xs : List Int} {k : Nat} (hk : k < xs.length) (h1 : ∀ i, i < k → ith xs i = 0) (h2 : ith xs k ≠ 0) : lead xs = k := by
  induction xs generalizing k with
  | nil => simp at hk
  | cons x xs ih =>
    unfold lead
    cases k with
    | zero => rw [ith_cons_zero] at h2; rw [if_pos h2]; rfl
    | succ k =>
      have h0 := h1 0 (by omega)
      rw [ith_cons_zero] at h0
      rw [ith_cons_succ] at h2
      have := ih (by simpa using hk) (fun i hi => by have := h1 (i + 1) (by omega); rwa [ith_cons_succ] at this) h2
      rw [if_neg (by omega), this, if_neg (by omega)]
      omega
theorem lead_none {xs : List Int} (h : ∀ i, i < xs.length → ith xs i = 0) : lead xs = -1 := by
  induction xs with
  | nil => rfl
  | cons x xs ih =>
    unfold lead
    have h0 := h 0 (by simp)
    rw [ith_cons_zero] at h0
    rw [if_neg (by omega), ih (fun i hi => by have := h (i + 1) (by simpa using hi); rwa [ith_cons_succ] at this)]
    rfl
theorem lead_cases (xs : List Int) : (lead xs = -1 ∧ ∀ i, i < xs.length → ith xs i = 0) ∨ ∃ k : Nat, lead xs = k ∧ k < xs.length ∧ (∀ i, i < k → ith xs i = 0) ∧ ith xs k ≠ 0 := by
  induction xs with
  | nil => exact .inl ⟨rfl, fun i hi => by simp at hi⟩
  | cons x xs ih =>
    by_cases hx : x = 0
    · subst hx
      rcases ih with ⟨h1, h2⟩ | ⟨k, h1, h2, h3, h4⟩
      · left
        refine ⟨by simp [lead, h1], fun i hi => ?_⟩
        cases i with
        | zero => rw [ith_cons_zero]
        | succ i => rw [ith_cons_succ]; exact h2 i (by simpa using hi)
      · right
        refine ⟨k + 1, by simp [lead, h1]; omega, by simpa using h2, fun i hi => ?_, by rwa [ith_cons_succ]⟩
        cases i with
        | zero => rw [ith_cons_zero]
        | succ i => rw [ith_cons_succ]; exact h3 i (by omega)
    · right
      exact ⟨0, by simp [lead, hx], by simp, fun i hi => by omega, by rwa [ith_cons_zero]⟩
theorem lead_neg {xs : List Int} : lead xs < 0 ↔ ∀ i, ith xs i = 0 := by
  rcases lead_cases xs with ⟨h1, h2⟩ | ⟨k, h1, h2, h3, h4⟩
  · rw [h1]; exact ⟨fun _ i => by by_cases hi : i < xs.length; exact h2 i hi; exact ith_out (by omega), fun _ => by omega⟩
  · rw [h1]; exact ⟨fun hh => by omega, fun hh => absurd (hh k) h4⟩
/-- a sum -/
def sm : Nat → (Nat → Int) → Int
  | 0, _ => 0
  | m + 1, f => sm m f + f m
/-- a table that changes from the front -/
theorem tab_step {n j : Nat} {F G : Nat → Int} {y : Int} (hy : y = G j) : tab n (fun k => if k = j then y else if k < j then G k else F k) = tab n (fun k => if k < j + 1 then G k else F k) := by
  refine tab_congr fun i _ => ?_
  by_cases h1 : i = j
  · subst h1; simp [hy]
  · by_cases h2 : i < j
    · rw [if_neg h1, if_pos h2, if_pos (by omega)]
    · rw [if_neg h1, if_neg h2, if_neg (by omega)]
theorem tab_all {n j : Nat} {F G : Nat → Int} (h : n ≤ j) : tab n (fun k => if k < j then G k else F k) = tab n G := tab_congr fun i hi => if_pos (by omega)
theorem tab_none {n : Nat} {F G : Nat → Int} : tab n F = tab n (fun k => if k < 0 then G k else F k) := tab_congr fun i hi => (if_neg (by omega)).symm
theorem mul_small {x y p : Int} (hx : 0 ≤ x ∧ x < p) (hy : 0 ≤ y ∧ y < p) (hp : p ≤ 7) : 0 ≤ x * y ∧ x * y ≤ 36 :=
  ⟨Int.mul_nonneg hx.1 hy.1, by
    have h1 : x * y ≤ 6 * y := Int.mul_le_mul_of_nonneg_right (by omega) hy.1
    omega⟩
theorem mul_abs {x y a b : Int} (hx : -a ≤ x ∧ x ≤ a) (hy : -b ≤ y ∧ y ≤ b) : -(a * b) ≤ x * y ∧ x * y ≤ a * b := by
  have ha : 0 ≤ a := by omega
  have hb : 0 ≤ b := by omega
  have h : (x * y).natAbs ≤ (a * b).natAbs := by
    rw [Int.natAbs_mul, Int.natAbs_mul]
    exact Nat.mul_le_mul (by omega) (by omega)
  have := Int.mul_nonneg ha hb
  omega
theorem tmod_emod {x p : Int} : x.tmod p % p = x % p := by
  have h := Int.tmod_add_mul_tdiv x p
  conv => rhs; rw [← h]
  rw [Int.add_mul_emod_self_left]
/-- numbers modulo p -/
def Rng (p : Int) (xs : List Int) : Prop := ∀ x ∈ xs, 0 ≤ x ∧ x < p
def Vec (p : Int) (n : Nat) (xs : List Int) : Prop := xs.length = n ∧ Rng p xs
def Mat (p : Int) (n : Nat) (rows : List (List Int)) : Prop := ∀ r ∈ rows, Vec p n r
theorem Rng.ith {p : Int} {xs : List Int} (h : Rng p xs) (hp : 0 < p) (i : Nat) : 0 ≤ ith xs i ∧ Pl.ith xs i < p := by
  by_cases hi : i < xs.length
  · exact h _ (ith_mem hi)
  · rw [ith_out (by omega)]; omega
theorem Mat.row {p : Int} {n : Nat} {rows : List (List Int)} (h : Mat p n rows) {i : Nat} (hi : i < rows.length) : Vec p n (row rows i) := h _ (row_mem hi)
theorem Mat.ent {p : Int} {n : Nat} {rows : List (List Int)} (h : Mat p n rows) (hp : 0 < p) (i k : Nat) : 0 ≤ ent rows i k ∧ Pl.ent rows i k < p := by
  unfold Pl.ent
  by_cases hi : i < rows.length
  · exact (h.row hi).2.ith hp k
  · rw [row_out (by omega), ith_nil]; omega
theorem Mat.take {p : Int} {n : Nat} {rows : List (List Int)} (h : Mat p n rows) (k : Nat) : Mat p n (rows.take k) := fun r hr => h r (List.mem_of_mem_take hr)
theorem Mat.append {p : Int} {n : Nat} {a b : List (List Int)} (h : Mat p n a) (k : Mat p n b) : Mat p n (a ++ b) := fun r hr => by
  rcases List.mem_append.1 hr with hr | hr
  · exact h r hr
  · exact k r hr
theorem Mat.nil (p : Int) (n : Nat) : Mat p n [] := fun r hr => by cases hr
theorem Mat.tab {p : Int} {n m : Nat} {f : Nat → List Int} (h : ∀ i, i < m → Vec p n (f i)) : Mat p n (tabR m f) := fun r hr => by
  simp only [tabR, List.mem_map, List.mem_range] at hr
  obtain ⟨i, hi, rfl⟩ := hr
  exact h i hi
theorem Vec.tab {p : Int} {n : Nat} {f : Nat → Int} (h : ∀ i, i < n → 0 ≤ f i ∧ f i < p) : Vec p n (tab n f) := ⟨tab_length n f, fun x hx => by
  obtain ⟨i, hi, rfl⟩ := tab_mem hx
  exact h i hi⟩

/-- combinations of rows -/
def comb (p : Int) (n : Nat) (v : List Int) (rows : List (List Int)) : List Int := tab n (fun k => sm v.length (fun i => ith v i * ent rows i k) % p)
/-- a row less k times another one -/
def less (p : Int) (u v : List Int) (k : Int) : List Int := tab u.length (fun i => (ith u i - k * ith v i) % p)
theorem Vec.less {p : Int} (hp : 0 < p) {n : Nat} {u v : List Int} {k : Int} (hu : Vec p n u) : Vec p n (less p u v k) := by
  unfold Pl.less
  rw [hu.1]
  exact Vec.tab fun i _ => ⟨Int.emod_nonneg _ (by omega), Int.emod_lt_of_pos _ hp⟩
/-- what is left of a row -/
def restN (p : Int) (list : List (List Int)) (v : List Int) : Nat → List Int
  | 0 => v
  | i + 1 => less p (restN p list v i) (row list i) (ith (restN p list v i) (lead (row list i)).toNat)
def rest (p : Int) (list : List (List Int)) (v : List Int) : List Int := restN p list v list.length

end Go.Pl

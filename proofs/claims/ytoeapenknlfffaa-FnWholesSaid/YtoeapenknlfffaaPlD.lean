/- Determinants of whole matrices, by the first row. No condition. -/
import Derived.Test.YtoeapenknlfffaaPlR
set_option linter.unusedVariables false
set_option linter.unusedSimpArgs false
namespace Go.Pl

def sgn (k : Nat) : Int := 1 - (k : Int) % 2 * 2
theorem sgn_rng (k : Nat) : -1 ≤ sgn k ∧ sgn k ≤ 1 := by unfold sgn; omega
/-- the determinant of some columns of rows -/
def det : List (List Int) → List Int → Int
  | [], _ => 1
  | r :: rs, cols => sm cols.length fun k => sgn k * ith r (ith cols k).toNat * det rs (cols.eraseIdx k)
/-- small numbers -/
def Small (r : List Int) : Prop := ∀ j, -9 ≤ ith r j ∧ ith r j ≤ 9
theorem sm_abs {f : Nat → Int} {B : Int} (hB : 0 ≤ B) : ∀ {m : Nat}, (∀ i, i < m → -B ≤ f i ∧ f i ≤ B) → -(m * B) ≤ sm m f ∧ sm m f ≤ m * B
  | 0, _ => by simp [sm]
  | m + 1, h => by
    have h1 := sm_abs hB (m := m) fun i hi => h i (by omega)
    have h2 := h m (by omega)
    simp only [sm]
    rw [show ((m + 1 : Nat) : Int) * B = m * B + B by rw [Int.natCast_add, Int.add_mul]; simp]
    omega
def pw : Nat → Int
  | 0 => 1
  | m + 1 => 54 * pw m
theorem pw_pos : ∀ m, 0 < pw m
  | 0 => by decide
  | m + 1 => by have := pw_pos m; simp only [pw]; omega
theorem pw_mono {m n : Nat} (h : m ≤ n) : pw m ≤ pw n := by
  induction n with
  | zero => have : m = 0 := by omega
            subst this; exact Int.le_refl _
  | succ n ih =>
    rcases Nat.lt_or_ge n m with h1 | h1
    · have : m = n + 1 := by omega
      subst this; exact Int.le_refl _
    · have := ih h1; have := pw_pos n; simp only [pw]; omega
theorem term_abs {x d : Int} {k : Nat} {B : Int} (hx : -9 ≤ x ∧ x ≤ 9) (hd : -B ≤ d ∧ d ≤ B) : -(9 * B) ≤ sgn k * x * d ∧ sgn k * x * d ≤ 9 * B := by
  have h1 : -9 ≤ sgn k * x ∧ sgn k * x ≤ 9 := by
    have := sgn_rng k
    rcases (by omega : sgn k = -1 ∨ sgn k = 0 ∨ sgn k = 1) with h | h | h <;> rw [h] <;> omega
  exact mul_abs h1 hd
theorem det_abs : ∀ (rows : List (List Int)) (cols : List Int), (∀ r ∈ rows, Small r) → cols.length ≤ 6 → -pw rows.length ≤ det rows cols ∧ det rows cols ≤ pw rows.length
  | [], _, _, _ => by simp [det, pw]
  | r :: rs, cols, hr, hc => by
    have hrs : ∀ k, -pw rs.length ≤ det rs (cols.eraseIdx k) ∧ det rs (cols.eraseIdx k) ≤ pw rs.length := fun k => det_abs rs _ (fun x hx => hr x (List.mem_cons_of_mem _ hx)) (Nat.le_trans (List.length_eraseIdx_le ..) hc)
    have hp := pw_pos rs.length
    have := sm_abs (B := 9 * pw rs.length) (by omega) (m := cols.length) (f := fun k => sgn k * ith r (ith cols k).toNat * det rs (cols.eraseIdx k)) fun i _ => term_abs (hr r List.mem_cons_self _) (hrs i)
    have h2 : (cols.length : Int) * (9 * pw rs.length) ≤ 6 * (9 * pw rs.length) := Int.mul_le_mul_of_nonneg_right (by omega) (by omega)
    simp only [det, List.length_cons, pw]
    omega
/-- a sum of some of the terms -/
theorem part_abs {r : List Int} {rs : List (List Int)} {cols : List Int} (hr : ∀ x ∈ r :: rs, Small x) (hc : cols.length ≤ 6) {k : Nat} (hk : k ≤ cols.length) :
    -pw (rs.length + 1) ≤ sm k (fun k => sgn k * ith r (ith cols k).toNat * det rs (cols.eraseIdx k)) ∧ sm k (fun k => sgn k * ith r (ith cols k).toNat * det rs (cols.eraseIdx k)) ≤ pw (rs.length + 1) := by
  have hrs : ∀ k, -pw rs.length ≤ det rs (cols.eraseIdx k) ∧ det rs (cols.eraseIdx k) ≤ pw rs.length := fun k => det_abs rs _ (fun x hx => hr x (List.mem_cons_of_mem _ hx)) (Nat.le_trans (List.length_eraseIdx_le ..) hc)
  have hp := pw_pos rs.length
  have := sm_abs (B := 9 * pw rs.length) (by omega) (m := k) (f := fun k => sgn k * ith r (ith cols k).toNat * det rs (cols.eraseIdx k)) fun i _ => term_abs (hr r List.mem_cons_self _) (hrs i)
  have h2 : (k : Int) * (9 * pw rs.length) ≤ 6 * (9 * pw rs.length) := Int.mul_le_mul_of_nonneg_right (by omega) (by omega)
  simp only [pw]
  omega
theorem pw6 {m : Nat} (h : m ≤ 6) : pw m ≤ 24794911296 := pw_mono (n := 6) h
/-- places of columns -/
def Cols (rows : List (List Int)) (cols : List Int) : Prop := ∀ c ∈ cols, 0 ≤ c ∧ ∀ r ∈ rows, c.toNat < r.length
theorem Cols.tail {r : List Int} {rs : List (List Int)} {cols : List Int} (h : Cols (r :: rs) cols) (k : Nat) : Cols rs (cols.eraseIdx k) := fun c hc =>
  ⟨(h c (List.mem_of_mem_eraseIdx hc)).1, fun x hx => (h c (List.mem_of_mem_eraseIdx hc)).2 x (List.mem_cons_of_mem _ hx)⟩
def iota (n : Nat) : List Int := tab n fun i => (i : Int)
theorem iota_length (n : Nat) : (iota n).length = n := tab_length n _
theorem iota_mem {n : Nat} {c : Int} (h : c ∈ iota n) : 0 ≤ c ∧ c.toNat < n := by
  obtain ⟨i, hi, rfl⟩ := tab_mem h
  omega
theorem iota_succ (n : Nat) : iota (n + 1) = iota n ++ [(n : Int)] := tab_succ n _
end Go.Pl

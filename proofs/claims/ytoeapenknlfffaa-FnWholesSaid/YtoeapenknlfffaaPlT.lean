/- Torsion: products of Smith numbers are bounded. No condition. -/
import Derived.Test.YtoeapenknlfffaaPlS
set_option linter.unusedVariables false
set_option linter.unusedSimpArgs false
namespace Go.Pl

def prd : List Int → Int
  | [] => 1
  | x :: l => x * prd l
theorem prd_snoc (l : List Int) (x : Int) : prd (l ++ [x]) = prd l * x := by
  induction l with
  | nil => simp [prd]
  | cons y l ih => simp only [List.cons_append, prd, ih, Int.mul_assoc]
theorem prd_pos : ∀ {l : List Int}, (∀ x ∈ l, 1 ≤ x) → 1 ≤ prd l
  | [], _ => by simp [prd]
  | x :: l, h => by
    have h1 := h x List.mem_cons_self
    have h2 := prd_pos (l := l) fun y hy => h y (List.mem_cons_of_mem _ hy)
    have : 1 * 1 ≤ x * prd l := Int.mul_le_mul h1 h2 (by omega) (by omega)
    simpa [prd] using this
theorem prd_take : ∀ {l : List Int} (i : Nat), (∀ x ∈ l, 1 ≤ x) → prd (l.take i) ≤ prd l
  | [], i, _ => by simp [prd]
  | x :: l, 0, h => by simpa [prd] using prd_pos h
  | x :: l, i + 1, h => by
    have h1 := h x List.mem_cons_self
    have h2 := prd_take (l := l) i fun y hy => h y (List.mem_cons_of_mem _ hy)
    have := Int.mul_le_mul_of_nonneg_left h2 (show 0 ≤ x by omega)
    simpa [prd] using this
theorem prd_filter {p : Int → Bool} : ∀ {l : List Int}, (∀ x ∈ l, 1 ≤ x) → prd (l.filter p) ≤ prd l
  | [], _ => by simp [prd]
  | x :: l, h => by
    have h1 := h x List.mem_cons_self
    have h3 := fun y hy => h y (List.mem_cons_of_mem x hy)
    have h2 := prd_filter (l := l) (p := p) h3
    rw [List.filter_cons]
    split
    · have := Int.mul_le_mul_of_nonneg_left h2 (show 0 ≤ x by omega)
      simpa [prd] using this
    · have h4 := prd_pos h3
      have : 1 * prd l ≤ x * prd l := Int.mul_le_mul_of_nonneg_right h1 (by omega)
      simp only [prd]
      omega
theorem prd_mem : ∀ {l : List Int}, (∀ x ∈ l, 1 ≤ x) → ∀ x ∈ l, x ≤ prd l
  | [], _, x, hx => by cases hx
  | y :: l, h, x, hx => by
    have h1 := h y List.mem_cons_self
    have h3 := fun z hz => h z (List.mem_cons_of_mem y hz)
    have h4 := prd_pos h3
    rcases List.mem_cons.1 hx with rfl | hx
    · have : x * 1 ≤ x * prd l := Int.mul_le_mul_of_nonneg_left h4 (by omega)
      simp only [prd]; omega
    · have h2 := prd_mem h3 x hx
      have : 1 * prd l ≤ y * prd l := Int.mul_le_mul_of_nonneg_right h1 (by omega)
      simp only [prd]; omega
theorem gmin_chain (rows : List (List Int)) (k : Nat) : gmin rows k ∣ gmin rows (k + 1) :=
  dvd_gTab.2 ⟨Nat.dvd_zero _, fun l hl c hc => gmin_dvd rows k ((mem_chI _ _ _).1 hl) ((mem_chI _ _ _).1 hc)⟩
theorem smithF_ok (rows : List (List Int)) {B : Nat} (hB : ∀ k, gmin rows k ≤ B) : ∀ (f k : Nat), gmin rows k ≠ 0 → (∀ x ∈ smithF rows (k + 1) f, 1 ≤ x) ∧ prd (smithF rows (k + 1) f) * (gmin rows k : Int) ≤ B
  | 0, k, h => by
    have := hB k
    refine ⟨fun x hx => (by cases hx), ?_⟩
    simp only [smithF, prd, Int.one_mul]
    omega
  | f + 1, k, h => by
    unfold smithF
    split
    · have := hB k
      refine ⟨fun x hx => (by cases hx), ?_⟩
      simp only [prd, Int.one_mul]
      omega
    · rename_i h2
      obtain ⟨i1, i2⟩ := smithF_ok rows hB f (k + 1) h2
      obtain ⟨q, hq⟩ := gmin_chain rows k
      have e : gmin rows (k + 1) / gmin rows (k + 1 - 1) = q := by
        rw [Nat.add_sub_cancel, hq, Nat.mul_div_cancel_left _ (by omega)]
      have hq1 : 1 ≤ q := by
        rcases Nat.eq_zero_or_pos q with z | z
        · rw [z] at hq; simp at hq; exact absurd hq h2
        · exact z
      rw [e]
      refine ⟨fun x hx => ?_, ?_⟩
      · rcases List.mem_cons.1 hx with rfl | hx
        · omega
        · exact i1 x hx
      · have e2 : (q : Int) * (gmin rows k : Int) = (gmin rows (k + 1) : Int) := by rw [hq]; push_cast; exact Int.mul_comm _ _
        simp only [prd]
        rw [Int.mul_comm (q : Int), Int.mul_assoc, e2]
        exact i2
theorem smith_ok (rows : List (List Int)) {B : Nat} (hB : ∀ k, gmin rows k ≤ B) : (∀ x ∈ smith rows, 1 ≤ x) ∧ prd (smith rows) ≤ B := by
  have := smithF_ok rows hB (min rows.length (wid rows)) 0 (by rw [gmin_zero]; omega)
  rw [gmin_zero] at this
  simpa [smith] using this
end Go.Pl

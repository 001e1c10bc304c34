/- Chapter 3: totals, what is known while the cells are told. No condition. -/
import Derived.Test.YtionapmdibdfpaaFnTo1
set_option linter.unusedVariables false
set_option linter.unusedSimpArgs false
namespace Go.Gl
open Go.Proofs Go.Proofs.Ytionapmdibdfpaa Go.Pl

/-- how many columns have been told in degree n when the cell (i, j) is up -/
def upT (i j n : Nat) : Nat := if n < i + j then i + 1 else i
def dimsS (x : SDouble) (i j : Nat) : List Int := tab (topT x + 1) fun n => (offT x n (upT i j n) : Int)
def levS (x : SDouble) (rows : Bool) (i j n : Nat) : List Int := (List.range (upT i j n)).flatMap (levF x rows n)
theorem upT_same {i j n : Nat} (h : n ≠ i + j) : upT i (j + 1) n = upT i j n := by unfold upT; by_cases h2 : n < i + j; rw [if_pos h2, if_pos (by omega)]; rw [if_neg h2, if_neg (by omega)]
theorem upT_here (i j : Nat) : upT i j (i + j) = i ∧ upT i (j + 1) (i + j) = i + 1 := ⟨if_neg (by omega), if_pos (by omega)⟩
theorem dimsS_zero (x : SDouble) : dimsS x 0 0 = tab (topT x + 1) fun _ => 0 := tab_congr fun n _ => by unfold upT; rw [if_neg (by omega)]; rfl
theorem dimsS_step (x : SDouble) (i j : Nat) : (tab (topT x + 1) fun n => if n = i + j then ((offT x (i + j) i + dN x (i + j) i : Nat) : Int) else (offT x n (upT i j n) : Int)) = dimsS x i (j + 1) := tab_congr fun n _ => by
  by_cases h : n = i + j
  · subst h; rw [if_pos rfl, (upT_here i j).2, offT_succ]
  · rw [if_neg h, upT_same h]
theorem up_col {x : SDouble} {i n : Nat} : offT x n (upT i (dH x) n) = offT x n (upT (i + 1) 0 n) ∧ ∀ rows, levS x rows i (dH x) n = levS x rows (i + 1) 0 n := by
  have h0 : ∀ rows k, dN x n k = 0 → levF x rows n k = [] := fun rows k h => by unfold levF; rw [h]; rfl
  unfold levS upT
  by_cases h1 : n < i + 1
  · rw [if_pos (show n < i + 1 + 0 by omega)]
    by_cases h2 : n < i + dH x
    · rw [if_pos h2]
      have hd : dN x n (i + 1) = 0 := dN_out (.inl h1)
      exact ⟨by rw [offT_succ x n (i + 1), hd]; rfl, fun rows => by rw [List.range_succ (n := i + 1), List.flatMap_append]; simp [h0 rows _ hd]⟩
    · rw [if_neg h2]
      have hd : dN x n (i + 1) = 0 := dN_out (.inl h1)
      have hd2 : dN x n i = 0 := by unfold dN; rw [dimZ_out (by omega)]; rfl
      exact ⟨by rw [offT_succ x n (i + 1), hd, offT_succ, hd2]; rfl, fun rows => by rw [List.range_succ (n := i + 1), List.flatMap_append, List.range_succ, List.flatMap_append]; simp [h0 rows _ hd, h0 rows _ hd2]⟩
  · rw [if_neg (show ¬ n < i + 1 + 0 by omega)]
    by_cases h2 : n < i + dH x
    · rw [if_pos h2]; exact ⟨rfl, fun _ => rfl⟩
    · rw [if_neg h2]
      have hd2 : dN x n i = 0 := by unfold dN; rw [dimZ_out (by omega)]; rfl
      exact ⟨by rw [offT_succ, hd2]; rfl, fun rows => by rw [List.range_succ, List.flatMap_append]; simp [h0 rows _ hd2]⟩
theorem dimsS_col (x : SDouble) (i : Nat) : dimsS x i (dH x) = dimsS x (i + 1) 0 := tab_congr fun n _ => by rw [up_col.1]
theorem dimsS_end (x : SDouble) : dimsS x (dW x) 0 = dimsT x := tab_congr fun n _ => by
  rw [dimT_eq x (.inr (by unfold upT; split <;> omega))]
theorem levS_len (x : SDouble) (rows : Bool) (i j n : Nat) : (levS x rows i j n).length = offT x n (upT i j n) := by
  unfold levS
  rw [flat_len, offL_lev]
theorem levS_end (x : SDouble) (rows : Bool) (n : Nat) : levS x rows (dW x) 0 n = levT x rows n := by
  refine flat_ext _ ?_ fun i k hi hk => ?_
  · rw [levS_len, offL_lev, dimT_eq x (.inr (by unfold upT; split <;> omega))]; rfl
  · unfold levS
    have hk2 : k < dN x n i := by rw [levF_len] at hk; exact hk
    have := dN_pos hk2
    exact flat_get _ (by unfold upT; split <;> omega) hk
theorem levS_step (x : SDouble) (rows : Bool) (i j : Nat) : levS x rows i j (i + j) ++ levF x rows (i + j) i = levS x rows i (j + 1) (i + j) := by
  unfold levS
  rw [(upT_here i j).1, (upT_here i j).2, List.range_succ, List.flatMap_append]
  simp
/-! ### where the cells begin, in a map -/
def cellsB (H i j : Nat) : List (Nat × Nat) := ((List.range i).flatMap fun a => (List.range H).map fun b => (a, b)) ++ (List.range j).map fun b => (i, b)
def atL (x : SDouble) (i j : Nat) : List ((Int × Int) × Int) := (cellsB (dH x) i j).map fun p => (((p.1 : Int), (p.2 : Int)), ((offT x (p.1 + p.2) p.1 : Nat) : Int))
theorem cellsB_mem {H i j a b : Nat} : (a, b) ∈ cellsB H i j ↔ a < i ∧ b < H ∨ a = i ∧ b < j := by
  unfold cellsB
  rw [List.mem_append, List.mem_flatMap, List.mem_map]
  constructor
  · rintro (⟨a', h1, h2⟩ | ⟨b', h1, h2⟩)
    · rw [List.mem_map] at h2
      obtain ⟨b', h3, h4⟩ := h2
      injection h4 with h4 h5
      subst h4 h5
      exact .inl ⟨List.mem_range.1 h1, List.mem_range.1 h3⟩
    · injection h2 with h2 h3
      subst h2 h3
      exact .inr ⟨rfl, List.mem_range.1 h1⟩
  · rintro (⟨h1, h2⟩ | ⟨rfl, h2⟩)
    · exact .inl ⟨a, List.mem_range.2 h1, List.mem_map.2 ⟨b, List.mem_range.2 h2, rfl⟩⟩
    · exact .inr ⟨b, List.mem_range.2 h2, rfl⟩
theorem getM_map (v : Nat → Nat → Int) (a b : Nat) : ∀ L : List (Nat × Nat), getM (L.map fun p => (((p.1 : Int), (p.2 : Int)), v p.1 p.2)) a b = if (a, b) ∈ L then some (v a b) else none
  | [] => by simp [getM]
  | (a', b') :: L => by
    simp only [List.map_cons, getM]
    by_cases h : a' = a ∧ b' = b
    · obtain ⟨rfl, rfl⟩ := h
      simp
    · have e : (((a' : Int) == (a : Int)) && ((b' : Int) == (b : Int))) = false := by
        rw [Bool.and_eq_false_iff]
        rcases Classical.em (a' = a) with q | q
        · right; simpa using fun q2 => h ⟨q, by omega⟩
        · left; simpa using fun q2 => q (by omega)
      rw [e]
      simp only
      rw [getM_map v a b L]
      have : (a, b) ∈ (a', b') :: L ↔ (a, b) ∈ L := by
        rw [List.mem_cons]
        exact ⟨fun hh => hh.elim (fun q => absurd ⟨(Prod.mk.inj q).1.symm, (Prod.mk.inj q).2.symm⟩ h) id, .inr⟩
      simp only [this]
theorem atL_zero (x : SDouble) : atL x 0 0 = [] := rfl
theorem atL_step (x : SDouble) (i j : Nat) : atL x i j ++ [(((i : Int), (j : Int)), ((offT x (i + j) i : Nat) : Int))] = atL x i (j + 1) := by
  unfold atL cellsB
  rw [List.range_succ (n := j), List.map_append (l₁ := List.range j), ← List.append_assoc, List.map_append (l₂ := List.map _ [j])]
  rfl
theorem atL_col (x : SDouble) (i : Nat) : atL x i (dH x) = atL x (i + 1) 0 := by
  unfold atL cellsB
  rw [List.range_succ (n := i), List.flatMap_append]
  simp
theorem atL_new (x : SDouble) (i j : Nat) : getM (atL x i j) i j = none := by
  unfold atL
  rw [getM_map (fun a b => ((offT x (a + b) a : Nat) : Int)), if_neg]
  rw [cellsB_mem]; omega
theorem atL_get (x : SDouble) {a b : Nat} (ha : a < dW x) (hb : b < dH x) : getM (atL x (dW x) 0) a b = some ((offT x (a + b) a : Nat) : Int) := by
  unfold atL
  rw [getM_map (fun a b => ((offT x (a + b) a : Nat) : Int)), if_pos]
  rw [cellsB_mem]; omega
end Go.Gl

/- Chapter 3: totals of double complexes, the plain law. No condition. -/
import Derived.Test.YtionapmdibdfpaaFnX5
import Derived.Test.YtionapmdibdfpaaFnM1
set_option linter.unusedVariables false
set_option linter.unusedSimpArgs false
namespace Go.Gl
open Go.Proofs Go.Proofs.Ytionapmdibdfpaa Go.Pl

theorem tab_getq {n i : Nat} {f : Nat → Int} (h : i < n) : (tab n f)[i]? = some (f i) := by simp [tab, h]
/-! ### lists one behind the other -/
def offL {α : Type} (f : Nat → List α) : Nat → Nat
  | 0 => 0
  | i + 1 => offL f i + (f i).length
theorem flat_len {α : Type} (f : Nat → List α) : ∀ n, ((List.range n).flatMap f).length = offL f n
  | 0 => rfl
  | n + 1 => by rw [List.range_succ, List.flatMap_append, List.length_append, flat_len f n]; simp [offL]
theorem offL_mono {α : Type} (f : Nat → List α) {i j : Nat} (h : i ≤ j) : offL f i ≤ offL f j := by
  induction h with
  | refl => exact Nat.le_refl _
  | step _ ih => simp only [offL]; omega
theorem flat_get {α : Type} (f : Nat → List α) : ∀ {n i k : Nat}, i < n → k < (f i).length → ((List.range n).flatMap f)[offL f i + k]? = (f i)[k]?
  | n + 1, i, k, hi, hk => by
    rw [List.range_succ, List.flatMap_append]
    by_cases h : i = n
    · subst h
      rw [List.getElem?_append_right (by rw [flat_len]; omega), flat_len]
      simp
    · have hlt : i < n := by omega
      have := offL_mono f (show i + 1 ≤ n by omega)
      simp only [offL] at this
      rw [List.getElem?_append_left (by rw [flat_len]; omega)]
      exact flat_get f hlt hk
theorem off_place {α : Type} (f : Nat → List α) : ∀ {n j : Nat}, j < offL f n → ∃ i k, i < n ∧ k < (f i).length ∧ j = offL f i + k
  | 0, j, h => by simp [offL] at h
  | n + 1, j, h => by
    by_cases hj : j < offL f n
    · obtain ⟨i, k, h1, h2, h3⟩ := off_place f hj
      exact ⟨i, k, by omega, h2, h3⟩
    · simp only [offL] at h
      exact ⟨n, j - offL f n, by omega, by omega, by omega⟩
theorem off_inj {α : Type} (f : Nat → List α) {i k i' k' : Nat} (hk : k < (f i).length) (hk' : k' < (f i').length) (e : offL f i + k = offL f i' + k') : i = i' ∧ k = k' := by
  rcases Nat.lt_trichotomy i i' with h | h | h
  · have := offL_mono f (show i + 1 ≤ i' by omega)
    simp only [offL] at this
    omega
  · subst h; exact ⟨rfl, by omega⟩
  · have := offL_mono f (show i' + 1 ≤ i by omega)
    simp only [offL] at this
    omega
theorem flat_ext {α : Type} (f : Nat → List α) {n : Nat} {L : List α} (hl : L.length = offL f n) (h : ∀ i k, i < n → k < (f i).length → L[offL f i + k]? = (f i)[k]?) : L = (List.range n).flatMap f := by
  refine List.ext_getElem? fun j => ?_
  by_cases hj : j < offL f n
  · obtain ⟨i, k, h1, h2, rfl⟩ := off_place f hj
    rw [h i k h1 h2, flat_get f h1 h2]
  · rw [List.getElem?_eq_none (by omega), List.getElem?_eq_none (by rw [flat_len]; omega)]

/-! ### the total -/
/-- the dimension of the cell of degree n in column i -/
def dN (x : SDouble) (n i : Nat) : Nat := (dimZ x i ((n : Int) - i)).toNat
def levF (x : SDouble) (rows : Bool) (n i : Nat) : List Int := List.replicate (dN x n i) (if rows then (n : Int) - i else i)
/-- where the cell of column i begins in degree n -/
def offT (x : SDouble) (n i : Nat) : Nat := offL (levF x false n) i
def dimT (x : SDouble) (n : Nat) : Nat := offT x n (n + 1)
def pieceT (x : SDouble) (n i k c : Nat) : List Int := if c + 1 = i then row (cel x.across i (n - i)) k else if c = i then row (cel x.down i (n - i)) k else List.replicate (dN x (n - 1) c) 0
def rowT (x : SDouble) (n i k : Nat) : List Int := (List.range n).flatMap (pieceT x n i k)
def cellT (x : SDouble) (n i : Nat) : List (List Int) := tabR (dN x n i) (rowT x n i)
def rowsT (x : SDouble) (n : Nat) : List (List Int) := (List.range (n + 1)).flatMap (cellT x n)
def topT (x : SDouble) : Nat := dW x + dH x - 2
def dimsT (x : SDouble) : List Int := tab (topT x + 1) fun n => (dimT x n : Int)
def levT (x : SDouble) (rows : Bool) (n : Nat) : List Int := (List.range (n + 1)).flatMap (levF x rows n)
def levelsT (x : SDouble) (rows : Bool) : List (List Int) := tabR (topT x + 1) (levT x rows)
def mapsT (x : SDouble) : List (List (List Int)) := (List.range (topT x)).map fun a => rowsT x (a + 1)
theorem levF_len (x : SDouble) (rows : Bool) (n i : Nat) : (levF x rows n i).length = dN x n i := by simp [levF]
theorem offT_succ (x : SDouble) (n i : Nat) : offT x n (i + 1) = offT x n i + dN x n i := by simp [offT, offL, levF_len]
theorem offL_congr {α β : Type} {f : Nat → List α} {g : Nat → List β} : ∀ {n : Nat}, (∀ i, i < n → (f i).length = (g i).length) → offL f n = offL g n
  | 0, _ => rfl
  | n + 1, h => by simp only [offL]; rw [offL_congr fun i hi => h i (by omega), h n (by omega)]
theorem offL_lev (x : SDouble) (rows : Bool) (n i : Nat) : offL (levF x rows n) i = offT x n i := offL_congr fun i _ => by simp [levF_len]
theorem dN_out {x : SDouble} {n i : Nat} (h : n < i ∨ dW x ≤ i) : dN x n i = 0 := by
  unfold dN
  rw [dimZ_out (by omega)]; rfl
theorem dN_in {x : SDouble} {i j : Nat} : dN x (i + j) i = (dimZ x i j).toNat := by unfold dN; rw [show ((i + j : Nat) : Int) - i = j by omega]
theorem offT_stop {x : SDouble} {n i j : Nat} (hij : i ≤ j) (h : n < i ∨ dW x ≤ i) : offT x n j = offT x n i := by
  induction hij with
  | refl => rfl
  | @step m hle ih =>
    have hle : i ≤ m := hle
    rw [offT_succ, dN_out (by omega), ih]; omega
theorem dimT_eq (x : SDouble) {n i : Nat} (h : n < i ∨ dW x ≤ i) : offT x n i = dimT x n := by
  unfold dimT
  rcases Nat.le_total i (n + 1) with h2 | h2
  · exact (offT_stop h2 h).symm
  · exact offT_stop h2 (.inl (by omega))
theorem offT_le (x : SDouble) (n i : Nat) : offT x n i ≤ dimT x n := by
  rcases Nat.le_total i (n + 1) with h2 | h2
  · exact offL_mono _ h2
  · rw [dimT_eq x (.inl (by omega))]; exact Nat.le_refl _
theorem place_lt {x : SDouble} {n i k : Nat} (hk : k < dN x n i) : offT x n i + k < dimT x n := by
  have := offT_le x n (i + 1)
  rw [offT_succ] at this
  omega
theorem dN_le {x : SDouble} (h : DHead x) (n i : Nat) : dN x n i ≤ 4 := by
  have := h.dim i ((n : Int) - i)
  unfold dN; omega
theorem dN_pos {x : SDouble} {n i k : Nat} (hk : k < dN x n i) : i ≤ n ∧ i < dW x ∧ n - i < dH x ∧ dimZ x i ((n - i : Nat) : Int) = dN x n i := by
  have h1 : ¬ (n < i ∨ dW x ≤ i) := fun h => by rw [dN_out h] at hk; omega
  have h2 : ((n - i : Nat) : Int) = (n : Int) - i := by omega
  have h3 : n - i < dH x := by
    by_cases h : n - i < dH x
    · exact h
    · unfold dN at hk; rw [dimZ_out (by omega)] at hk; simp at hk
  refine ⟨by omega, by omega, h3, ?_⟩
  rw [h2]
  unfold dN at hk ⊢
  omega
theorem piece_len {x : SDouble} (h : DShape x) {n i k c : Nat} (hn : 1 ≤ n) (hk : k < dN x n i) (hc : c < n) : (pieceT x n i k c).length = dN x (n - 1) c := by
  obtain ⟨h1, h2, h3, h4⟩ := dN_pos hk
  unfold pieceT
  split
  · rename_i e
    obtain ⟨t1, t2⟩ := h.acr.cell i (n - i : Nat)
    rw [celZ_in h2 h3] at t1 t2
    rw [(t2.row (by omega)).1]
    unfold dN
    rw [show ((i : Int) - 1) = (c : Int) by omega, show ((n - i : Nat) : Int) = ((n - 1 : Nat) : Int) - c by omega]
  · split
    · rename_i e
      subst e
      obtain ⟨t1, t2⟩ := h.dwn.cell c (n - c : Nat)
      rw [celZ_in h2 h3] at t1 t2
      rw [(t2.row (by omega)).1]
      unfold dN
      rw [show ((n - c : Nat) : Int) - 1 = ((n - 1 : Nat) : Int) - c by omega]
    · simp
theorem row_len {x : SDouble} (h : DShape x) {n i k : Nat} (hn : 1 ≤ n) (hk : k < dN x n i) : (rowT x n i k).length = dimT x (n - 1) := by
  unfold rowT
  rw [flat_len, show offL (pieceT x n i k) n = offT x (n - 1) n from offL_congr fun c hc => by rw [piece_len h hn hk hc, levF_len]]
  exact dimT_eq x (.inl (by omega))
/-- the numbers of the maps, told one by one -/
def TellT (x : SDouble) (g : Nat → Nat → Nat → Int) (done : Nat → Nat → Nat → Nat → Nat → Bool) : Prop :=
  ∀ n i k c m, 1 ≤ n → n ≤ topT x → k < dN x n i → c < n → m < dN x (n - 1) c → g (n - 1) (offT x n i + k) (offT x (n - 1) c + m) = if done n i k c m then ith (pieceT x n i k c) m else 0
theorem total_maps {x : SDouble} (h : DShape x) {g : Nat → Nat → Nat → Int} (hg : TellT x g fun _ _ _ _ _ => true) : tab3 (topT x) (fun a => dimT x (a + 1)) (fun a => dimT x a) g = mapsT x := by
  unfold tab3 mapsT
  refine List.map_congr_left fun a ha => ?_
  have ha := List.mem_range.1 ha
  refine flat_ext _ ?_ fun i k hi hk => ?_
  · rw [tabR_length]
    exact (offL_congr fun i _ => by rw [cellT, tabR_length, levF_len]).symm
  · have hk : k < dN x (a + 1) i := by simpa [cellT, tabR_length] using hk
    have e1 : offL (cellT x (a + 1)) i = offT x (a + 1) i := offL_congr fun i _ => by rw [cellT, tabR_length, levF_len]
    rw [e1]
    have hp := place_lt hk
    rw [tabR_getq hp]
    unfold cellT
    rw [tabR_getq hk]
    congr 1
    refine flat_ext _ ?_ fun c m hc hm => ?_
    · rw [tab_length, show offL (pieceT x (a + 1) i k) (a + 1) = offT x a (a + 1) from offL_congr fun c hc => by rw [piece_len h (by omega) hk hc, levF_len]; rfl]
      exact (dimT_eq x (.inl (by omega))).symm
    · rw [piece_len h (by omega) hk hc] at hm
      have e2 : offL (pieceT x (a + 1) i k) c = offT x a c := offL_congr fun c' hc' => by rw [piece_len h (by omega) hk (by omega), levF_len]; rfl
      rw [e2]
      have hm' : m < dN x a c := hm
      have hq := place_lt hm'
      have hgg := hg (a + 1) i k c m (by omega) (by omega) hk hc hm
      rw [Nat.add_sub_cancel] at hgg
      rw [tab_getq hq, hgg]
      have hpl := piece_len h (by omega) hk hc
      rw [if_pos rfl]
      simp [ith, show m < (pieceT x (a + 1) i k c).length by omega]
end Go.Gl

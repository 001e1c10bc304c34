/- Choices, greatest common divisors of minors, Smith numbers. No condition. -/
import Derived.Test.YtoeapenknlfffaaPlD
set_option linter.unusedVariables false
set_option linter.unusedSimpArgs false
namespace Go.Pl

/-! ### ascending lists -/
def chI : Nat → Nat → List (List Int)
  | _, 0 => [[]]
  | 0, _ + 1 => []
  | n + 1, k + 1 => chI n (k + 1) ++ (chI n k).map (· ++ [(n : Int)])
/-- the least number behind an ascending list -/
def nxt (l : List Int) : Nat := if l = [] then 0 else (ith l (l.length - 1) + 1).toNat
def ext1 (n : Nat) (l : List Int) : List (List Int) := (List.range (n - nxt l)).map fun j => l ++ [((nxt l + j : Nat) : Int)]
def chS (n : Nat) : Nat → List (List Int)
  | 0 => [[]]
  | k + 1 => (chS n k).flatMap (ext1 n)
def Asc (n : Nat) (l : List Int) : Prop := (∀ x ∈ l, 0 ≤ x ∧ x < n) ∧ l.Pairwise (· < ·)
theorem Asc.snoc {n : Nat} {l : List Int} {x : Int} : Asc n (l ++ [x]) ↔ Asc n l ∧ (0 ≤ x ∧ x < n) ∧ ∀ a ∈ l, a < x := by
  unfold Asc
  simp only [List.pairwise_append, List.pairwise_cons, List.mem_append, List.mem_singleton, List.Pairwise.nil, and_true]
  constructor
  · rintro ⟨h1, h2, _, h3⟩
    exact ⟨⟨fun x hx => h1 x (.inl hx), h2⟩, h1 x (.inr rfl), fun a ha => h3 a ha x rfl⟩
  · rintro ⟨⟨h1, h2⟩, h3, h4⟩
    exact ⟨fun y hy => by rcases hy with hy | rfl; exact h1 y hy; exact h3, h2, fun a ha => by simp at ha, fun a ha b hb => by subst hb; exact h4 a ha⟩
theorem Asc.up {n : Nat} {l : List Int} (h : Asc n l) : Asc (n + 1) l := ⟨fun x hx => by have := h.1 x hx; omega, h.2⟩
theorem snoc_cases (l : List Int) (h : l ≠ []) : ∃ l' x, l = l' ++ [x] := ⟨l.dropLast, l.getLast h, (List.dropLast_concat_getLast h).symm⟩
theorem mem_chI : ∀ (n k : Nat) (l : List Int), l ∈ chI n k ↔ l.length = k ∧ Asc n l
  | n, 0, l => by
    simp only [chI, List.mem_singleton]
    constructor
    · rintro rfl; exact ⟨rfl, fun x hx => (by cases hx), List.Pairwise.nil⟩
    · rintro ⟨h, _⟩; exact List.length_eq_zero_iff.1 h
  | 0, k + 1, l => by
    simp only [chI, List.not_mem_nil, false_iff]
    rintro ⟨h, h2⟩
    cases l with
    | nil => simp at h
    | cons x l => have := h2.1 x List.mem_cons_self; omega
  | n + 1, k + 1, l => by
    simp only [chI, List.mem_append, List.mem_map, mem_chI n]
    constructor
    · rintro (⟨h1, h2⟩ | ⟨l', ⟨h1, h2⟩, rfl⟩)
      · exact ⟨h1, h2.up⟩
      · exact ⟨by simp [h1], Asc.snoc.2 ⟨h2.up, by omega, fun a ha => (h2.1 a ha).2⟩⟩
    · rintro ⟨h1, h2⟩
      obtain ⟨l', x, rfl⟩ := snoc_cases l (by intro h; rw [h] at h1; simp at h1)
      obtain ⟨a1, a2, a3⟩ := Asc.snoc.1 h2
      by_cases hx : x = n
      · subst hx
        exact .inr ⟨l', ⟨by simpa using h1, fun y hy => ⟨(a1.1 y hy).1, a3 y hy⟩, a1.2⟩, rfl⟩
      · refine .inl ⟨h1, fun y hy => ?_, h2.2⟩
        rcases List.mem_append.1 hy with hy | hy
        · have := a1.1 y hy; have := a3 y hy; omega
        · simp at hy; subst hy; omega
theorem nxt_snoc (l : List Int) (x : Int) : nxt (l ++ [x]) = (x + 1).toNat := by
  unfold nxt
  rw [if_neg (by simp), ith_append_right (by simp)]
  simp [ith]
theorem nxt_iff {n : Nat} {l : List Int} (h : Asc n l) {x : Int} (hx : 0 ≤ x) : (∀ a ∈ l, a < x) ↔ (nxt l : Int) ≤ x := by
  by_cases h0 : l = []
  · subst h0; simp [nxt, hx]
  · obtain ⟨l', y, rfl⟩ := snoc_cases l h0
    obtain ⟨a1, a2, a3⟩ := Asc.snoc.1 h
    rw [nxt_snoc]
    constructor
    · intro hh; have := hh y (by simp); omega
    · intro hh a ha
      rcases List.mem_append.1 ha with ha | ha
      · have := a3 a ha; omega
      · simp at ha; omega
theorem mem_ext1 {n : Nat} {l l' : List Int} : l' ∈ ext1 n l ↔ ∃ x : Int, (nxt l : Int) ≤ x ∧ x < n ∧ l' = l ++ [x] := by
  simp only [ext1, List.mem_map, List.mem_range]
  constructor
  · rintro ⟨j, hj, rfl⟩; exact ⟨_, by omega, by omega, rfl⟩
  · rintro ⟨x, h1, h2, rfl⟩
    exact ⟨x.toNat - nxt l, by omega, by congr 2; omega⟩
theorem mem_chS (n : Nat) : ∀ (k : Nat) (l : List Int), l ∈ chS n k ↔ l.length = k ∧ Asc n l
  | 0, l => by
    simp only [chS, List.mem_singleton]
    constructor
    · rintro rfl; exact ⟨rfl, fun x hx => (by cases hx), List.Pairwise.nil⟩
    · rintro ⟨h, _⟩; exact List.length_eq_zero_iff.1 h
  | k + 1, l => by
    simp only [chS, List.mem_flatMap, mem_chS n k, mem_ext1]
    constructor
    · rintro ⟨l', ⟨h1, h2⟩, x, h3, h4, rfl⟩
      exact ⟨by simp [h1], Asc.snoc.2 ⟨h2, by omega, (nxt_iff h2 (by omega)).2 h3⟩⟩
    · rintro ⟨h1, h2⟩
      obtain ⟨l', x, rfl⟩ := snoc_cases l (by intro h; rw [h] at h1; simp at h1)
      obtain ⟨a1, a2, a3⟩ := Asc.snoc.1 h2
      exact ⟨l', ⟨by simpa using h1, a1⟩, x, (nxt_iff a1 a2.1).1 a3, a2.2, rfl⟩
theorem chI_few {n k : Nat} (h : n < k) : chI n k = [] := by
  refine List.eq_nil_iff_forall_not_mem.2 fun l hl => ?_
  obtain ⟨h1, h2⟩ := (mem_chI n k l).1 hl
  -- an ascending list is no longer than its numbers
  have : ∀ (l : List Int) (m : Nat), (∀ x ∈ l, (m : Int) ≤ x ∧ x < n) → l.Pairwise (· < ·) → m ≤ n → l.length + m ≤ n := by
    intro l
    induction l with
    | nil => intro m _ _ hm; simpa using hm
    | cons y l ih =>
      intro m hx hp hm
      obtain ⟨p1, p2⟩ := List.pairwise_cons.1 hp
      have hy := hx y List.mem_cons_self
      have := ih (m + 1) (fun x hx' => by have := p1 x hx'; have := hx x (List.mem_cons_of_mem _ hx'); omega) p2 (by omega)
      simp; omega
  have := this l 0 (fun x hx => by have := h2.1 x hx; omega) h2.2 (by omega)
  omega
theorem chI_len : ∀ (n k : Nat), (chI n k).length ≤ 2 ^ n
  | n, 0 => by simp [chI]; exact Nat.one_le_two_pow
  | 0, k + 1 => by simp [chI]
  | n + 1, k + 1 => by
    have h1 := chI_len n (k + 1)
    have h2 := chI_len n k
    simp only [chI, List.length_append, List.length_map]
    rw [Nat.pow_succ]; omega
theorem erase_asc {n : Nat} {l : List Int} (h : Asc n l) (i : Nat) : Asc n (l.eraseIdx i) := ⟨fun x hx => h.1 x (List.mem_of_mem_eraseIdx hx), h.2.sublist (List.eraseIdx_sublist _ _)⟩
theorem tail_asc {n : Nat} {x : Int} {l : List Int} (h : Asc n (x :: l)) : Asc n l := ⟨fun y hy => h.1 y (List.mem_cons_of_mem _ hy), (List.pairwise_cons.1 h.2).2⟩

/-! ### greatest common divisors -/
def gRow (f : List Int → Int) (C : List (List Int)) (g : Nat) : Nat := C.foldl (fun g c => Nat.gcd g (f c).natAbs) g
def gTab (f : List Int → List Int → Int) (L C : List (List Int)) (g : Nat) : Nat := L.foldl (fun g l => gRow (f l) C g) g
theorem dvd_gRow {f : List Int → Int} {d : Nat} : ∀ {C : List (List Int)} {g : Nat}, d ∣ gRow f C g ↔ d ∣ g ∧ ∀ c ∈ C, d ∣ (f c).natAbs
  | [], g => by simp [gRow]
  | c :: C, g => by
    have := dvd_gRow (f := f) (d := d) (C := C) (g := Nat.gcd g (f c).natAbs)
    simp only [gRow, List.foldl_cons] at this ⊢
    rw [this, Nat.dvd_gcd_iff]
    simp [and_assoc]
theorem dvd_gTab {f : List Int → List Int → Int} {C : List (List Int)} {d : Nat} : ∀ {L : List (List Int)} {g : Nat}, d ∣ gTab f L C g ↔ d ∣ g ∧ ∀ l ∈ L, ∀ c ∈ C, d ∣ (f l c).natAbs
  | [], g => by simp [gTab]
  | l :: L, g => by
    have := dvd_gTab (f := f) (C := C) (d := d) (L := L) (g := gRow (f l) C g)
    simp only [gTab, List.foldl_cons] at this ⊢
    rw [this, dvd_gRow]
    simp [and_assoc]
theorem gTab_congr {f : List Int → List Int → Int} {L L' C C' : List (List Int)} (h1 : ∀ l, l ∈ L ↔ l ∈ L') (h2 : ∀ c, c ∈ C ↔ c ∈ C') (g : Nat) : gTab f L C g = gTab f L' C' g := by
  refine Nat.dvd_antisymm ?_ ?_
  · obtain ⟨a, b⟩ := dvd_gTab.1 (Nat.dvd_refl (gTab f L C g))
    exact dvd_gTab.2 ⟨a, fun l hl c hc => b l ((h1 l).2 hl) c ((h2 c).2 hc)⟩
  · obtain ⟨a, b⟩ := dvd_gTab.1 (Nat.dvd_refl (gTab f L' C' g))
    exact dvd_gTab.2 ⟨a, fun l hl c hc => b l ((h1 l).1 hl) c ((h2 c).1 hc)⟩
theorem gcd_le {g x B : Nat} (hg : g ≤ B) (hx : x ≤ B) : Nat.gcd g x ≤ B := by
  rcases Nat.eq_zero_or_pos g with h | h
  · subst h; simpa using hx
  · exact Nat.le_trans (Nat.le_of_dvd h (Nat.gcd_dvd_left _ _)) hg
theorem gRow_le {f : List Int → Int} {B : Nat} : ∀ {C : List (List Int)} {g : Nat}, g ≤ B → (∀ c ∈ C, (f c).natAbs ≤ B) → gRow f C g ≤ B
  | [], g, h, _ => h
  | c :: C, g, h, hc => gRow_le (C := C) (gcd_le h (hc c List.mem_cons_self)) fun x hx => hc x (List.mem_cons_of_mem _ hx)
theorem gTab_le {f : List Int → List Int → Int} {B : Nat} {C : List (List Int)} : ∀ {L : List (List Int)} {g : Nat}, g ≤ B → (∀ l ∈ L, ∀ c ∈ C, (f l c).natAbs ≤ B) → gTab f L C g ≤ B
  | [], g, h, _ => h
  | l :: L, g, h, hc => gTab_le (L := L) (gRow_le h (hc l List.mem_cons_self)) fun x hx => hc x (List.mem_cons_of_mem _ hx)
theorem gRow_stay {f : List Int → Int} {g : Nat} : ∀ {C : List (List Int)}, (∀ c ∈ C, g ∣ (f c).natAbs) → gRow f C g = g
  | [], _ => rfl
  | c :: C, h => by
    have h1 : Nat.gcd g (f c).natAbs = g := Nat.gcd_eq_left (h c List.mem_cons_self)
    have := gRow_stay (f := f) (C := C) fun x hx => h x (List.mem_cons_of_mem _ hx)
    simp only [gRow, List.foldl_cons] at this ⊢
    rw [h1]; exact this
theorem gRow_take {f : List Int → Int} {C : List (List Int)} {g i : Nat} (h : i < C.length) : gRow f (C.take (i + 1)) g = Nat.gcd (gRow f (C.take i) g) (f (row C i)).natAbs := by
  rw [take_succ_row h]; simp [gRow]
theorem gTab_take {f : List Int → List Int → Int} {L C : List (List Int)} {g i : Nat} (h : i < L.length) : gTab f (L.take (i + 1)) C g = gRow (f (row L i)) C (gTab f (L.take i) C g) := by
  rw [take_succ_row h]; simp [gTab]

/-! ### minors -/
def pick (rows : List (List Int)) (list : List Int) : List (List Int) := list.map fun i => row rows i.toNat
def wid (rows : List (List Int)) : Nat := (row rows 0).length
def minor (rows : List (List Int)) (l c : List Int) : Int := det (pick rows l) c
/-- the greatest common divisor of the minors of a size -/
def gmin (rows : List (List Int)) (k : Nat) : Nat := gTab (minor rows) (chI rows.length k) (chI (wid rows) k) 0
theorem gmin_spec (rows : List (List Int)) (k : Nat) : gTab (minor rows) (chS rows.length k) (chS (wid rows) k) 0 = gmin rows k :=
  gTab_congr (fun l => by rw [mem_chS, mem_chI]) (fun c => by rw [mem_chS, mem_chI]) 0
theorem dvd_sm {d : Nat} {m : Nat} {f : Nat → Int} (h : ∀ i, i < m → (d : Int) ∣ f i) : (d : Int) ∣ sm m f := by
  induction m with
  | zero => exact Int.dvd_zero _
  | succ m ih => exact Int.dvd_add (ih fun i hi => h i (by omega)) (h m (by omega))
/-- the greatest common divisor of the smaller minors divides the greater ones -/
theorem gmin_dvd (rows : List (List Int)) (k : Nat) {l c : List Int} (hl : l.length = k + 1 ∧ Asc rows.length l) (hc : c.length = k + 1 ∧ Asc (wid rows) c) : gmin rows k ∣ (minor rows l c).natAbs := by
  obtain ⟨_, hd⟩ := dvd_gTab.1 (Nat.dvd_refl (gmin rows k))
  cases l with
  | nil => simp at hl
  | cons x l =>
    rw [← Int.ofNat_dvd_left]
    show (gmin rows k : Int) ∣ det (row rows x.toNat :: pick rows l) c
    refine dvd_sm fun i hi => ?_
    have := hd l ((mem_chI _ _ _).2 ⟨by simpa using hl.1, tail_asc hl.2⟩) (c.eraseIdx i) ((mem_chI _ _ _).2 ⟨by rw [List.length_eraseIdx_of_lt hi]; omega, erase_asc hc.2 i⟩)
    rw [← Int.ofNat_dvd_left] at this
    exact Int.dvd_trans this (Int.dvd_mul_left _ _)
theorem gmin_zero (rows : List (List Int)) : gmin rows 0 = 1 := by
  simp [gmin, gTab, gRow, chI, minor, pick, det]
def smithF (rows : List (List Int)) (k : Nat) : Nat → List Int
  | 0 => []
  | f + 1 => if gmin rows k = 0 then [] else ((gmin rows k / gmin rows (k - 1) : Nat) : Int) :: smithF rows (k + 1) f
/-- the Smith numbers -/
def smith (rows : List (List Int)) : List Int := smithF rows 1 (min rows.length (wid rows))
theorem smithF_len (rows : List (List Int)) : ∀ (f k : Nat), (smithF rows k f).length ≤ f
  | 0, _ => by simp [smithF]
  | f + 1, k => by
    have := smithF_len rows f (k + 1)
    unfold smithF
    split <;> simp
    omega
end Go.Pl

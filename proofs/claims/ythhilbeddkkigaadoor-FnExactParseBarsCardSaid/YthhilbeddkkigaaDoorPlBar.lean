/- Plain bars: their order, and the lists in order. No condition. -/
set_option linter.unusedVariables false
set_option linter.unusedSimpArgs false
namespace Go.Pl

structure SBar where
  degree : Int
  birth : Int
  death : Int
deriving DecidableEq
instance : Inhabited SBar := ⟨⟨0, 0, 0⟩⟩
def bar (xs : List SBar) (i : Nat) : SBar := xs.getD i ⟨0, 0, 0⟩
theorem bar_get {xs : List SBar} {i : Nat} (h : i < xs.length) : xs[i]? = some (bar xs i) := by simp [bar, h]
theorem bar_mem {xs : List SBar} {i : Nat} (h : i < xs.length) : bar xs i ∈ xs := List.mem_of_getElem? (bar_get h)

def isBar (b : SBar) : Bool := decide (0 ≤ b.degree ∧ b.degree ≤ 5) && decide (0 ≤ b.birth ∧ b.birth ≤ 5) && (decide (b.death = -1) || decide (b.birth ≤ b.death ∧ b.death ≤ 5))
def cmpI (a b : Int) : Int := if a < b then -1 else if a > b then 1 else 0
def lastD (d : Int) : Int := if d < 0 then 6 else d
def endD (d : Int) : Int := if d < 0 then 100 else d
def cmpBar (a b : SBar) : Int := if cmpI a.degree b.degree ≠ 0 then cmpI a.degree b.degree else if cmpI a.birth b.birth ≠ 0 then cmpI a.birth b.birth else cmpI (lastD a.death) (lastD b.death)
def before (a b : SBar) : Bool := if a.degree ≠ b.degree then decide (a.degree < b.degree) else if a.birth ≠ b.birth then decide (a.birth < b.birth) else decide (endD a.death < endD b.death)
/-- bars 1 .. k are not before the one ahead of them -/
def sorted (f : SBar → SBar → Bool) (xs : List SBar) (k : Nat) : Bool := (List.range k).all fun i => !f (bar xs (i + 1)) (bar xs i)
def areBars (xs : List SBar) : Bool := decide (xs.length ≤ 24) && xs.all isBar && sorted before xs (xs.length - 1)
theorem isBar_iff {b : SBar} : isBar b = true ↔ (0 ≤ b.degree ∧ b.degree ≤ 5) ∧ (0 ≤ b.birth ∧ b.birth ≤ 5) ∧ (b.death = -1 ∨ (b.birth ≤ b.death ∧ b.death ≤ 5)) := by
  simp [isBar, and_assoc]
theorem cmpBar_before {a b : SBar} (ha : isBar a = true) (hb : isBar b = true) : decide (cmpBar a b < 0) = before a b := by
  rw [isBar_iff] at ha hb
  unfold cmpBar before cmpI lastD endD
  rw [Bool.eq_iff_iff]
  split <;> split <;> simp only [decide_eq_true_eq] at * <;> grind
theorem sorted_succ (f : SBar → SBar → Bool) (xs : List SBar) (k : Nat) : sorted f xs (k + 1) = (sorted f xs k && !f (bar xs (k + 1)) (bar xs k)) := by
  simp [sorted, List.range_succ]
theorem sorted_false {f : SBar → SBar → Bool} {xs : List SBar} {k i : Nat} (hi : i < k) (h : f (bar xs (i + 1)) (bar xs i) = true) : sorted f xs k = false := by
  unfold sorted
  rw [List.all_eq_false]
  exact ⟨i, by simpa using hi, by simp [h]⟩
theorem sorted_congr {xs : List SBar} {k : Nat} (hk : k ≤ xs.length - 1) (h : xs.all isBar = true) : sorted (fun a b => decide (cmpBar a b < 0)) xs k = sorted before xs k := by
  induction k with
  | zero => rfl
  | succ k ih =>
    rw [sorted_succ, sorted_succ, ih (by omega), cmpBar_before]
    · exact List.all_eq_true.1 h _ (bar_mem (by omega))
    · exact List.all_eq_true.1 h _ (bar_mem (by omega))
theorem areBars_impl (xs : List SBar) : (decide (xs.length ≤ 24) && sorted (fun a b => decide (cmpBar a b < 0)) xs (xs.length - 1) && xs.all isBar) = areBars xs := by
  unfold areBars
  cases h : xs.all isBar with
  | true => rw [sorted_congr (Nat.le_refl _) h]; simp
  | false => simp
theorem areBars_len {xs : List SBar} (h : areBars xs = true) : xs.length ≤ 24 := by simp [areBars] at h; exact h.1.1
theorem areBars_bar {xs : List SBar} (h : areBars xs = true) {i : Nat} (hi : i < xs.length) : (0 ≤ (bar xs i).degree ∧ (bar xs i).degree ≤ 5) ∧ (0 ≤ (bar xs i).birth ∧ (bar xs i).birth ≤ 5) ∧ ((bar xs i).death = -1 ∨ ((bar xs i).birth ≤ (bar xs i).death ∧ (bar xs i).death ≤ 5)) := by
  simp only [areBars, Bool.and_eq_true] at h
  exact isBar_iff.1 (List.all_eq_true.1 h.1.2 _ (bar_mem hi))
theorem take_succ_bar {xs : List SBar} {i : Nat} (h : i < xs.length) : xs.take (i + 1) = xs.take i ++ [bar xs i] := by
  rw [List.take_succ_eq_append_getElem h]; simp [bar, h]
/-- the first k bars are right, each one not before the one ahead -/
def areN (xs : List SBar) (k : Nat) : Bool := (xs.take k).all isBar && sorted before xs (k - 1)
theorem areN_all {xs : List SBar} (h : xs.length ≤ 24) : areN xs xs.length = areBars xs := by simp [areN, areBars, h]
theorem areN_succ {xs : List SBar} {k : Nat} (hk : k < xs.length) : areN xs (k + 1) = (areN xs k && isBar (bar xs k) && (decide (k = 0) || !before (bar xs k) (bar xs (k - 1)))) := by
  unfold areN
  rw [take_succ_bar hk, List.all_append]
  cases k with
  | zero => simp [sorted]
  | succ k =>
    rw [show k + 1 + 1 - 1 = k + 1 from rfl, sorted_succ, show k + 1 - 1 = k from rfl]
    simp
    cases (xs.take (k + 1)).all isBar <;> cases isBar (bar xs (k + 1)) <;> cases sorted before xs k <;> simp
theorem areN_false {xs : List SBar} {k : Nat} (hk : k < xs.length) (h : areN xs (k + 1) = false) : areBars xs = false := by
  unfold areN at h
  rw [Bool.and_eq_false_iff] at h
  unfold areBars
  rcases h with h | h
  · rw [List.all_eq_false] at h
    obtain ⟨b, hb, hn⟩ := h
    have : xs.all isBar = false := List.all_eq_false.2 ⟨b, List.mem_of_mem_take hb, hn⟩
    simp [this]
  · unfold sorted at h
    rw [List.all_eq_false] at h
    obtain ⟨i, hi, hn⟩ := h
    have : sorted before xs (xs.length - 1) = false := List.all_eq_false.2 ⟨i, by simp at hi ⊢; omega, hn⟩
    simp [this]

/-- the sum of the lengths of those that do not last -/
def totalN (xs : List SBar) : Nat → Int
  | 0 => 0
  | k + 1 => if (bar xs k).death ≥ 0 then totalN xs k + ((bar xs k).death - (bar xs k).birth) else totalN xs k
theorem totalN_rng {xs : List SBar} (h : areBars xs = true) : ∀ k, k ≤ xs.length → 0 ≤ totalN xs k ∧ totalN xs k ≤ 5 * k
  | 0, _ => by simp [totalN]
  | k + 1, hk => by
    have := totalN_rng h k (by omega)
    have := areBars_bar h (show k < xs.length by omega)
    unfold totalN
    split <;> omega
def total (xs : List SBar) : Int × Int := if areBars xs then (totalN xs xs.length, 0) else (0, 2)
/-- how many there are -/
def countN (f : SBar → Bool) (xs : List SBar) : Nat → Int
  | 0 => 0
  | k + 1 => if f (bar xs k) then countN f xs k + 1 else countN f xs k
theorem countN_rng (f : SBar → Bool) (xs : List SBar) : ∀ k, 0 ≤ countN f xs k ∧ countN f xs k ≤ k
  | 0 => by simp [countN]
  | k + 1 => by
    have := countN_rng f xs k
    unfold countN
    split <;> omega
def lasting (n : Int) (b : SBar) : Bool := decide (b.degree = n) && decide (b.death < 0)
def countLasting (xs : List SBar) (n : Int) : Int × Int := if areBars xs && decide (0 ≤ n ∧ n ≤ 5) then (countN (lasting n) xs xs.length, 0) else (0, 2)
def onPage (r n q : Int) (b : SBar) : Bool := (decide (b.degree = n) && decide (b.birth = q) && (decide (b.death < 0) || decide (b.death ≥ q + r))) || (!decide (b.death < 0) && decide (b.degree = n - 1) && decide (b.death = q) && decide (b.birth ≤ q - r))
def barPage (xs : List SBar) (r n q : Int) : Int × Int := if areBars xs && decide (0 ≤ r ∧ r ≤ 8) && decide (0 ≤ n ∧ n ≤ 5) && decide (0 ≤ q ∧ q ≤ 5) then (countN (onPage r n q) xs xs.length, 0) else (0, 2)
/-- the first that is longest of those that do not last: (found, it) -/
def longN (xs : List SBar) : Nat → Bool × SBar
  | 0 => (false, ⟨0, 0, 0⟩)
  | k + 1 => if (bar xs k).death ≥ 0 ∧ ((longN xs k).1 = false ∨ (bar xs k).death - (bar xs k).birth > (longN xs k).2.death - (longN xs k).2.birth) then (true, bar xs k) else longN xs k
theorem longN_rng {xs : List SBar} (h : areBars xs = true) : ∀ k, k ≤ xs.length → (-10 ≤ (longN xs k).2.death ∧ (longN xs k).2.death ≤ 10) ∧ (-10 ≤ (longN xs k).2.birth ∧ (longN xs k).2.birth ≤ 10) ∧ ((longN xs k).1 = true → 0 ≤ (longN xs k).2.death - (longN xs k).2.birth)
  | 0, _ => by simp [longN]
  | k + 1, hk => by
    have h1 := longN_rng h k (by omega)
    have := areBars_bar h (show k < xs.length by omega)
    unfold longN
    split
    · refine ⟨?_, ?_, fun _ => ?_⟩ <;> simp only <;> omega
    · exact h1
def longest (xs : List SBar) : SBar × Int := if areBars xs then (if (longN xs xs.length).1 then ((longN xs xs.length).2, 0) else (⟨0, 0, 0⟩, 4)) else (⟨0, 0, 0⟩, 2)
end Go.Pl

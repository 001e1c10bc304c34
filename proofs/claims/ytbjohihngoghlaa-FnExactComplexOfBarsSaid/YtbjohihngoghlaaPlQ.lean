/- Plain bars: the complex that they make. No condition. -/
import Derived.Test.YtbjohihngoghlaaPlBar
import Derived.Test.YtbjohihngoghlaaPlC
import Derived.Test.YtbjohihngoghlaaPlK
set_option linter.unusedVariables false
namespace Go.Pl

/-- births of a degree, deaths of a degree, how many bars of a degree, the places of those that die among them: of the first t bars -/
def bN (L : List SBar) (n : Int) : Nat → List Int
  | 0 => []
  | t + 1 => if (bar L t).degree = n then bN L n t ++ [(bar L t).birth] else bN L n t
def dN (L : List SBar) (n : Int) : Nat → List Int
  | 0 => []
  | t + 1 => if (bar L t).degree = n ∧ 0 ≤ (bar L t).death then dN L n t ++ [(bar L t).death] else dN L n t
def sN (L : List SBar) (n : Int) : Nat → Nat
  | 0 => 0
  | t + 1 => if (bar L t).degree = n then sN L n t + 1 else sN L n t
def pN (L : List SBar) (n : Int) : Nat → List Nat
  | 0 => []
  | t + 1 => if (bar L t).degree = n ∧ 0 ≤ (bar L t).death then pN L n t ++ [sN L n t] else pN L n t
theorem bN_len (L : List SBar) (n : Int) : ∀ t, (bN L n t).length = sN L n t
  | 0 => rfl
  | t + 1 => by unfold bN sN; split; simp [bN_len L n t]; exact bN_len L n t
theorem pN_len (L : List SBar) (n : Int) : ∀ t, (pN L n t).length = (dN L n t).length
  | 0 => rfl
  | t + 1 => by unfold pN dN; split; simp [pN_len L n t]; exact pN_len L n t
theorem sN_mono (L : List SBar) (n : Int) {t u : Nat} (h : t ≤ u) : sN L n t ≤ sN L n u := by
  induction u with
  | zero => have : t = 0 := by omega
            subst this; exact Nat.le_refl _
  | succ u ih =>
    by_cases e : t = u + 1
    · subst e; exact Nat.le_refl _
    · have := ih (by omega)
      rw [show sN L n (u + 1) = if (bar L u).degree = n then sN L n u + 1 else sN L n u from rfl]
      split <;> omega
theorem sN_le (L : List SBar) (n : Int) : ∀ t, sN L n t ≤ t
  | 0 => Nat.le_refl _
  | t + 1 => by have := sN_le L n t; unfold sN; split <;> omega
theorem dN_le (L : List SBar) (n : Int) : ∀ t, (dN L n t).length ≤ t
  | 0 => Nat.le_refl _
  | t + 1 => by have := dN_le L n t; unfold dN; split; rw [List.length_append]; simp; omega; omega
theorem pN_lt (L : List SBar) (n : Int) : ∀ (t : Nat) (s c : Nat), (pN L n t)[s]? = some c → c < sN L n t
  | 0, s, c, h => by simp [pN] at h
  | t + 1, s, c, h => by
    unfold pN at h
    unfold sN
    split at h
    · rename_i e
      rw [if_pos e.1]
      rw [List.getElem?_append] at h
      split at h
      · have := pN_lt L n t s c h; omega
      · have h1 := (List.getElem?_eq_some_iff.1 h).1
        simp only [List.length_singleton] at h1
        rw [show s - (pN L n t).length = 0 by omega] at h
        simp at h
        omega
    · have := pN_lt L n t s c h
      split <;> omega
/-- the levels of a degree -/
def levT (L : List SBar) (n : Nat) (t : Nat) : List Int := bN L n L.length ++ (match n with | 0 => [] | m + 1 => dN L m t)
def lev (L : List SBar) (n : Nat) : List Int := levT L n L.length
def levels (L : List SBar) (top : Nat) : List (List Int) := (List.range (top + 1)).map (lev L)
def cbDims (L : List SBar) (top : Nat) : List Int := tab (top + 1) fun n => ((lev L n).length : Int)
/-- the row of a dying bar has a 1 at its place -/
def cbOne (L : List SBar) (k r c : Nat) : Int := if sN L ((k : Int) + 1) L.length ≤ r ∧ (pN L k L.length)[r - sN L ((k : Int) + 1) L.length]? = some c then 1 else 0
def cbRow (L : List SBar) (k r : Nat) : List Int := tab (lev L k).length (cbOne L k r)
def cbMap (L : List SBar) (k : Nat) : List (List Int) := tabR (lev L (k + 1)).length (cbRow L k)
def cbMaps (L : List SBar) (top : Nat) : List (List (List Int)) := (List.range top).map (cbMap L)
def fitB (top : Int) (b : SBar) : Bool := decide (b.degree ≤ top) && !(decide (0 ≤ b.death) && decide (b.degree = top))
def fitsB (L : List SBar) (top : Int) : Bool := allN (fun i => fitB top (bar L i)) L.length
def smallB (L : List SBar) (top : Nat) : Bool := allN (fun n => decide ((lev L n).length ≤ 8)) (top + 1)
end Go.Pl

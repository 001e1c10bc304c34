/- Plain bars: the ones of the complex that they make. No condition. -/
import Derived.Test.YtbjohihngoghlaaPlQ
set_option linter.unusedVariables false
set_option linter.unusedSimpArgs false
namespace Go.Pl

def at3 (k r c : Nat) : SBar := ⟨(k : Int) + 1, r, c⟩
/-- the ones that the program keeps, of the first t bars -/
def onesT (L : List SBar) : Nat → List SBar
  | 0 => []
  | t + 1 => if 0 ≤ (bar L t).death then onesT L t ++ [⟨(bar L t).degree + 1, ((sN L ((bar L t).degree + 1) L.length + (dN L (bar L t).degree t).length : Nat) : Int), (sN L (bar L t).degree t : Nat)⟩] else onesT L t
theorem onesT_len (L : List SBar) : ∀ t, (onesT L t).length ≤ t
  | 0 => Nat.le_refl _
  | t + 1 => by have := onesT_len L t; unfold onesT; split; rw [List.length_append]; simp; omega; omega
theorem onesT_mem {L : List SBar} (hb0 : ∀ i, i < L.length → 0 ≤ (bar L i).degree) (k r c : Nat) : ∀ t, t ≤ L.length → (at3 k r c ∈ onesT L t ↔ sN L ((k : Int) + 1) L.length ≤ r ∧ (pN L k t)[r - sN L ((k : Int) + 1) L.length]? = some c)
  | 0, _ => by simp [onesT, pN]
  | t + 1, ht => by
    have ih := onesT_mem hb0 k r c t (by omega)
    have h0 := hb0 t (by omega)
    unfold onesT pN
    by_cases hd : 0 ≤ (bar L t).death
    · rw [if_pos hd, List.mem_append, ih, List.mem_singleton]
      by_cases hm : (bar L t).degree = (k : Int)
      · rw [if_pos ⟨hm, hd⟩, hm, List.getElem?_append]
        have e : at3 k r c = ⟨(k : Int) + 1, ((sN L ((k : Int) + 1) L.length + (dN L k t).length : Nat) : Int), (sN L k t : Nat)⟩ ↔ r = sN L ((k : Int) + 1) L.length + (pN L k t).length ∧ c = sN L k t := by
          unfold at3
          rw [SBar.mk.injEq, pN_len]
          constructor
          · rintro ⟨_, h1, h2⟩; omega
          · rintro ⟨h1, h2⟩; exact ⟨rfl, by omega, by omega⟩
        rw [e]
        by_cases hr : r - sN L ((k : Int) + 1) L.length < (pN L k t).length
        · rw [if_pos hr]
          constructor
          · rintro (h | ⟨h1, h2⟩)
            · exact h
            · omega
          · exact .inl
        · rw [if_neg hr, List.getElem?_eq_none (by omega)]
          constructor
          · rintro (h | ⟨h1, h2⟩)
            · simp at h
            · refine ⟨by omega, ?_⟩
              rw [show r - sN L ((k : Int) + 1) L.length - (pN L k t).length = 0 by omega, h2]
              rfl
          · rintro ⟨h1, h2⟩
            have h3 := (List.getElem?_eq_some_iff.1 h2).1
            simp only [List.length_singleton] at h3
            rw [show r - sN L ((k : Int) + 1) L.length - (pN L k t).length = 0 by omega] at h2
            simp at h2
            exact .inr ⟨by omega, h2.symm⟩
      · rw [if_neg (fun hh => hm hh.1)]
        constructor
        · rintro (h | h)
          · exact h
          · exact absurd (show (bar L t).degree = (k : Int) by unfold at3 at h; rw [SBar.mk.injEq] at h; omega) hm
        · exact .inl
    · rw [if_neg hd, if_neg (fun hh => hd hh.2)]
      exact ih
theorem onesT_form {L : List SBar} (hb0 : ∀ i, i < L.length → 0 ≤ (bar L i).degree) : ∀ t, t ≤ L.length → ∀ x ∈ onesT L t, ∃ i k r c : Nat, i < t ∧ 0 ≤ (bar L i).death ∧ (bar L i).degree = k ∧ x = at3 k r c
  | 0, _, x, hx => by simp [onesT] at hx
  | t + 1, ht, x, hx => by
    unfold onesT at hx
    have h0 := hb0 t (by omega)
    have ih := onesT_form hb0 t (by omega) x
    split at hx
    · rename_i hd
      rcases List.mem_append.1 hx with hx | hx
      · obtain ⟨i, k, r, c, h1, h2⟩ := ih hx
        exact ⟨i, k, r, c, by omega, h2⟩
      · rw [List.mem_singleton] at hx
        obtain ⟨m, hm⟩ : ∃ m : Nat, (bar L t).degree = m := ⟨(bar L t).degree.toNat, by omega⟩
        exact ⟨t, m, _, _, by omega, hd, hm, by rw [hx, hm]; rfl⟩
    · obtain ⟨i, k, r, c, h1, h2⟩ := ih hx
      exact ⟨i, k, r, c, by omega, h2⟩
theorem onesT_nodup {L : List SBar} (hb0 : ∀ i, i < L.length → 0 ≤ (bar L i).degree) : ∀ t, t ≤ L.length → (onesT L t).Nodup
  | 0, _ => by simp [onesT]
  | t + 1, ht => by
    have ih := onesT_nodup hb0 t (by omega)
    have h0 := hb0 t (by omega)
    unfold onesT
    split
    · rw [List.nodup_append]
      refine ⟨ih, by simp, fun a ha b hb e => ?_⟩
      rw [List.mem_singleton] at hb
      obtain ⟨m, hm⟩ : ∃ m : Nat, (bar L t).degree = m := ⟨(bar L t).degree.toNat, by omega⟩
      have e2 : a = at3 m (sN L ((m : Int) + 1) L.length + (dN L m t).length) (sN L m t) := by rw [e, hb, hm]; rfl
      rw [e2, onesT_mem hb0 _ _ _ t (by omega)] at ha
      rw [List.getElem?_eq_none (by rw [pN_len]; omega)] at ha
      simp at ha
    · exact ih
/-- the maps when the first s ones stand in them -/
def fO (L : List SBar) (s k r c : Nat) : Int := if at3 k r c ∈ (onesT L L.length).take s then 1 else 0
theorem fO_zero (L : List SBar) (k r c : Nat) : fO L 0 k r c = 0 := by simp [fO]
theorem at3_inj {k r c k' r' c' : Nat} : at3 k r c = at3 k' r' c' ↔ k = k' ∧ r = r' ∧ c = c' := by
  unfold at3
  rw [SBar.mk.injEq]
  omega
theorem fO_succ {L : List SBar} {s k r c : Nat} (hs : s < (onesT L L.length).length) (he : (onesT L L.length)[s] = at3 k r c) (k' r' c' : Nat) : fO L (s + 1) k' r' c' = if k' = k ∧ r' = r ∧ c' = c then 1 else fO L s k' r' c' := by
  have hm : at3 k' r' c' ∈ (onesT L L.length).take (s + 1) ↔ at3 k' r' c' ∈ (onesT L L.length).take s ∨ (k' = k ∧ r' = r ∧ c' = c) := by
    rw [List.take_succ_eq_append_getElem hs, he, List.mem_append, List.mem_singleton, at3_inj]
  unfold fO
  by_cases h1 : k' = k ∧ r' = r ∧ c' = c
  · rw [if_pos h1, if_pos (hm.2 (.inr h1))]
  · rw [if_neg h1]
    by_cases h2 : at3 k' r' c' ∈ (onesT L L.length).take s
    · rw [if_pos h2, if_pos (hm.2 (.inl h2))]
    · rw [if_neg h2, if_neg (fun hh => (hm.1 hh).elim h2 h1)]
theorem fO_new {L : List SBar} (hb0 : ∀ i, i < L.length → 0 ≤ (bar L i).degree) {s k r c : Nat} (hs : s < (onesT L L.length).length) (he : (onesT L L.length)[s] = at3 k r c) : fO L s k r c = 0 := by
  unfold fO
  rw [if_neg]
  intro hm
  have hnd := onesT_nodup hb0 L.length (Nat.le_refl _)
  obtain ⟨i, hi, e⟩ := List.getElem_of_mem hm
  rw [List.getElem_take] at e
  have hi2 : i < s := by simp at hi; omega
  exact List.pairwise_iff_getElem.1 hnd i s (by omega) hs hi2 (e.trans he.symm)
theorem fO_end {L : List SBar} (hb0 : ∀ i, i < L.length → 0 ≤ (bar L i).degree) (k r c : Nat) : fO L (onesT L L.length).length k r c = cbOne L k r c := by
  unfold fO cbOne
  rw [List.take_length]
  by_cases h : at3 k r c ∈ onesT L L.length
  · rw [if_pos h, if_pos ((onesT_mem hb0 k r c _ (Nat.le_refl _)).1 h)]
  · rw [if_neg h, if_neg (fun hh => h ((onesT_mem hb0 k r c _ (Nat.le_refl _)).2 hh))]
/-- a one has its place in the maps -/
theorem ones_place {L : List SBar} {T : Nat} (hb0 : ∀ i, i < L.length → 0 ≤ (bar L i).degree) (hfit : fitsB L T = true) {s : Nat} (hs : s < (onesT L L.length).length) :
    ∃ k r c : Nat, (onesT L L.length)[s] = at3 k r c ∧ k < T ∧ r < (lev L (k + 1)).length ∧ c < (lev L k).length := by
  obtain ⟨i, k, r, c, h1, h2, h3, h4⟩ := onesT_form hb0 L.length (Nat.le_refl _) _ (List.getElem_mem hs)
  have hm := List.getElem_mem hs
  rw [h4, onesT_mem hb0 k r c _ (Nat.le_refl _)] at hm
  have hf := allN_at hfit h1
  refine ⟨k, r, c, h4, ?_, ?_, ?_⟩
  · unfold fitB at hf
    simp only [Bool.and_eq_true, decide_eq_true_eq, Bool.not_eq_true', Bool.and_eq_false_iff, decide_eq_false_iff_not] at hf
    omega
  · have hl := (List.getElem?_eq_some_iff.1 hm.2).1
    show r < (bN L ((k + 1 : Nat) : Int) L.length ++ dN L k L.length).length
    rw [List.length_append, bN_len, ← pN_len, show ((k + 1 : Nat) : Int) = (k : Int) + 1 by omega]
    omega
  · have := pN_lt L k _ _ _ hm.2
    unfold lev levT
    rw [List.length_append, bN_len]
    omega
/-- the levels while the bars are told a second time -/
theorem levT_zero (L : List SBar) (j : Nat) : levT L j 0 = bN L j L.length := by
  cases j with
  | zero => simp [levT]
  | succ m => simp [levT, dN]
theorem levT_in {L : List SBar} {t j : Nat} (hj : (bar L t).degree = (j : Int)) (hd : 0 ≤ (bar L t).death) : (fun i => if i = j + 1 then levT L (j + 1) t ++ [(bar L t).death] else levT L i t) = fun i => levT L i (t + 1) := by
  funext i
  cases i with
  | zero => rw [if_neg (by omega)]; rfl
  | succ m =>
    unfold levT
    simp only [dN]
    by_cases h : m = j
    · subst h
      rw [if_pos rfl, if_pos ⟨hj, hd⟩, List.append_assoc]
    · rw [if_neg (by omega), if_neg (by rintro ⟨h1, _⟩; omega)]
theorem levT_out {L : List SBar} {t : Nat} (hd : ¬ 0 ≤ (bar L t).death) (i : Nat) : levT L i (t + 1) = levT L i t := by
  cases i with
  | zero => rfl
  | succ m => unfold levT; simp only [dN]; rw [if_neg (fun h => hd h.2)]
theorem bN_in {L : List SBar} {t j : Nat} (hj : (bar L t).degree = (j : Int)) : (fun i : Nat => if i = j then bN L j t ++ [(bar L t).birth] else bN L i t) = fun i : Nat => bN L i (t + 1) := by
  funext i
  simp only [bN]
  by_cases h : i = j
  · subst h; rw [if_pos rfl, if_pos hj]
  · rw [if_neg h, if_neg (by omega)]
theorem sN_in {L : List SBar} {t j : Nat} (hj : (bar L t).degree = (j : Int)) : (fun i : Nat => if i = j then (sN L j t : Int) + 1 else (sN L i t : Int)) = fun i : Nat => (sN L i (t + 1) : Int) := by
  funext i
  simp only [sN]
  by_cases h : i = j
  · subst h; rw [if_pos rfl, if_pos hj]; rfl
  · rw [if_neg h, if_neg (by omega)]
theorem small_any (L : List SBar) (T : Nat) : (!(cbDims L T).any fun x => decide (8 < x)) = smallB L T := by
  unfold smallB cbDims tab allN
  rw [List.any_map, List.not_any_eq_all_not]
  congr 1
  funext n
  show (!decide ((8 : Int) < ((lev L n).length : Int))) = decide ((lev L n).length ≤ 8)
  rw [← decide_not]
  exact decide_eq_decide.2 (by omega)
end Go.Pl

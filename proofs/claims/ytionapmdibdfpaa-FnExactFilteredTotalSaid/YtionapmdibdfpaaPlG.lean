/- Plain linear algebra modulo p: the reduced list, column by column, is the same. No condition. -/
import Derived.Test.YtionapmdibdfpaaPlB
set_option linter.unusedVariables false
set_option linter.unusedSimpArgs false
namespace Go.Pl
open Rref

/-- the first place, or -1 -/
def fidx {α : Type} (p : α → Bool) : List α → Int
  | [] => -1
  | x :: xs => if p x then 0 else if fidx p xs < 0 then -1 else fidx p xs + 1
theorem fidx_cases {α : Type} (p : α → Bool) (xs : List α) : (fidx p xs = -1 ∧ ∀ (i : Nat) x, xs[i]? = some x → p x = false) ∨ ∃ k : Nat, fidx p xs = k ∧ ∃ x, xs[k]? = some x ∧ p x = true := by
  induction xs with
  | nil => exact .inl ⟨rfl, fun i x h => by simp at h⟩
  | cons x xs ih =>
    unfold fidx
    cases hp : p x with
    | true => exact .inr ⟨0, by simp, x, rfl, hp⟩
    | false =>
      rcases ih with ⟨h1, h2⟩ | ⟨k, h1, y, h2, h3⟩
      · refine .inl ⟨by simp [h1], fun i y hy => ?_⟩
        cases i with
        | zero => simp at hy; subst hy; exact hp
        | succ i => exact h2 i y (by simpa using hy)
      · exact .inr ⟨k + 1, by simp [h1]; omega, y, by simpa using h2, h3⟩

def swp (d j i : Nat) : Nat := if i = d then j else if i = j then d else i
/-- one column -/
def gstep (p : Int) (c : Nat) (s : List (List Int) × Nat) : List (List Int) × Nat :=
  if fidx (fun r => decide (ith r c ≠ 0)) (s.1.drop s.2) < 0 then s else
    (tabR s.1.length (fun i => if i = s.2 then scale p (row s.1 (s.2 + (fidx (fun r => decide (ith r c ≠ 0)) (s.1.drop s.2)).toNat)) (invp p (ent s.1 (s.2 + (fidx (fun r => decide (ith r c ≠ 0)) (s.1.drop s.2)).toNat) c))
      else less p (row s.1 (swp s.2 (s.2 + (fidx (fun r => decide (ith r c ≠ 0)) (s.1.drop s.2)).toNat) i)) (scale p (row s.1 (s.2 + (fidx (fun r => decide (ith r c ≠ 0)) (s.1.drop s.2)).toNat)) (invp p (ent s.1 (s.2 + (fidx (fun r => decide (ith r c ≠ 0)) (s.1.drop s.2)).toNat) c))) (ent s.1 (swp s.2 (s.2 + (fidx (fun r => decide (ith r c ≠ 0)) (s.1.drop s.2)).toNat) i) c)), s.2 + 1)
theorem gstep_none {p : Int} {c : Nat} {s : List (List Int) × Nat} (h : fidx (fun r => decide (ith r c ≠ 0)) (s.1.drop s.2) < 0) : gstep p c s = s := if_pos h
theorem gstep_some {p : Int} {c k : Nat} {s : List (List Int) × Nat} (h : fidx (fun r => decide (ith r c ≠ 0)) (s.1.drop s.2) = k) :
    gstep p c s = (tabR s.1.length (fun i => if i = s.2 then scale p (row s.1 (s.2 + k)) (invp p (ent s.1 (s.2 + k) c)) else less p (row s.1 (swp s.2 (s.2 + k) i)) (scale p (row s.1 (s.2 + k)) (invp p (ent s.1 (s.2 + k) c))) (ent s.1 (swp s.2 (s.2 + k) i) c)), s.2 + 1) := by
  unfold gstep
  rw [h, if_neg (by omega)]
  rfl
def gN (p : Int) (rows : List (List Int)) : Nat → List (List Int) × Nat
  | 0 => (rows, 0)
  | c + 1 => gstep p c (gN p rows c)
def gauss (p : Int) (rows : List (List Int)) : List (List Int) := if rows.length = 0 then [] else (gN p rows (row rows 0).length).1.take (gN p rows (row rows 0).length).2

structure GInv (p : Int) (n : Nat) (rows : List (List Int)) (c : Nat) (L : List (List Int)) (d : Nat) (l : Nat → Nat) : Prop where
  len : L.length = rows.length
  mat : Mat p n L
  dle : d ≤ L.length
  mono : ∀ i j, i < j → j < d → l i < l j
  lt : ∀ i, i < d → l i < c
  one : ∀ i, i < d → ent L i (l i) = 1
  zero : ∀ i j, i < d → j < L.length → i ≠ j → ent L j (l i) = 0
  left : ∀ i c', i < d → c' < l i → ent L i c' = 0
  rest : ∀ i c', d ≤ i → i < L.length → c' < c → ent L i c' = 0
  sub1 : Sub p rows L
  sub2 : Sub p L rows

theorem gstep_inv {p : Int} (hp : IsP p) {n : Nat} {rows : List (List Int)} {c : Nat} {s : List (List Int) × Nat} {l : Nat → Nat} (hc : c < n) (G : GInv p n rows c s.1 s.2 l) :
    ∃ l', GInv p n rows (c + 1) (gstep p c s).1 (gstep p c s).2 l' := by
  obtain ⟨L, d⟩ := s
  simp only at G
  have hpp := hp.rng
  rcases fidx_cases (fun r => decide (ith r c ≠ 0)) (L.drop d) with ⟨h1, h2⟩ | ⟨k, h1, x, h2, h3⟩
  · rw [gstep_none (s := (L, d)) (by simp only; omega)]
    refine ⟨l, G.len, G.mat, G.dle, G.mono, fun i hi => by have := G.lt i hi; omega, G.one, G.zero, G.left, fun i c' hi hil hc' => ?_, G.sub1, G.sub2⟩
    rcases (by omega : c' < c ∨ c' = c) with h | rfl
    · exact G.rest i c' hi hil h
    · have := h2 (i - d) (row L i) (by rw [List.getElem?_drop, show d + (i - d) = i by omega]; simp [row, hil])
      simpa [ent] using this
  · rw [gstep_some (s := (L, d)) (k := k) h1]
    simp only
    rw [List.getElem?_drop] at h2
    have hj := (List.getElem?_eq_some_iff.1 h2).1
    have hx : x = row L (d + k) := by simp [row, h2]
    subst hx
    generalize hjj : d + k = j at *
    have hjd : d ≤ j := by omega
    have hd : d < L.length := by omega
    have hnz : ent L j c ≠ 0 := by simpa [ent] using h3
    have hrj := G.mat.row hj
    have hjr := G.mat.ent (by omega) j c
    obtain ⟨i1, i2, i3⟩ := invp_spec hp (x := ent L j c) (by omega)
    generalize invp p (ent L j c) = by' at *
    have hR : Vec p n (scale p (row L j) by') := Vec.scale (by omega) hrj
    have hRat : ∀ c', c' < n → ith (scale p (row L j) by') c' = ent L j c' * by' % p := fun c' hc' => scale_at (by rw [hrj.1]; exact hc')
    have hRcg : ∀ c', p ∣ ith (scale p (row L j) by') c' - ent L j c' * by' := fun c' => scale_cg c'
    generalize hRe : scale p (row L j) by' = R at *
    have R1 : ith R c = 1 := by rw [hRat c hc, Int.mul_comm]; exact i3
    have R0 : ∀ c', c' < c → ith R c' = 0 := fun c' hc' => by rw [hRat c' (by omega), G.rest j c' hjd hj hc']; simp
    have Rl : ∀ i, i < d → ith R (l i) = 0 := fun i hi => R0 _ (G.lt i hi)
    -- σ
    have s1 : ∀ i, i < L.length → swp d j i < L.length := fun i hi => by unfold swp; split; exact hj; split; exact hd; exact hi
    have s2 : ∀ i, i < d → swp d j i = i := fun i hi => by unfold swp; rw [if_neg (by omega), if_neg (by omega)]
    have s3 : ∀ i, d ≤ i → d ≤ swp d j i := fun i hi => by unfold swp; split; exact hjd; split; exact Nat.le_refl _; exact hi
    have s4 : ∀ i, swp d j (swp d j i) = i := fun i => by
      unfold swp
      by_cases e1 : i = d
      · subst e1; rw [if_pos rfl]; by_cases e2 : j = i
        · rw [if_pos e2, e2]
        · rw [if_neg e2, if_pos rfl]
      · rw [if_neg e1]; by_cases e2 : i = j
        · rw [if_pos e2, if_pos rfl, e2]
        · rw [if_neg e2, if_neg e1, if_neg e2]
    generalize hF : (fun i => if i = d then R else less p (row L (swp d j i)) R (ent L (swp d j i) c)) = F
    have Fd : F d = R := by subst hF; simp
    have Fi : ∀ i, i ≠ d → F i = less p (row L (swp d j i)) R (ent L (swp d j i) c) := fun i hi => by subst hF; simp [hi]
    have hlen : (tabR L.length F).length = L.length := tabR_length _ _
    have hent : ∀ i, i < L.length → ent (tabR L.length F) i = ith (F i) := fun i hi => by funext c'; unfold ent; rw [tabR_row hi]
    have Fat : ∀ i, i < L.length → i ≠ d → ∀ c', c' < n → ith (F i) c' = (ent L (swp d j i) c' - ent L (swp d j i) c * ith R c') % p := fun i hi hid c' hc' => by
      rw [Fi i hid, less_at (by rw [(G.mat.row (s1 i hi)).1]; exact hc')]; rfl
    have Fc : ∀ i, i < L.length → i ≠ d → ith (F i) c = 0 := fun i hi hid => by rw [Fat i hi hid c hc, R1]; simp
    have Fl : ∀ i, i < L.length → i ≠ d → ∀ c', c' < c → ith (F i) c' = ent L (swp d j i) c' := fun i hi hid c' hc' => by
      rw [Fat i hi hid c' (by omega), R0 c' hc']
      have := G.mat.ent (show 0 < p by omega) (swp d j i) c'
      rw [Int.mul_zero, Int.sub_zero, Int.emod_eq_of_lt this.1 this.2]
    have hmat : Mat p n (tabR L.length F) := Mat.tab fun i hi => by
      by_cases e : i = d
      · rw [e, Fd]; exact hR
      · rw [Fi i e]; exact Vec.less (by omega) (G.mat.row (s1 i hi))
    refine ⟨fun i => if i = d then c else l i, by rw [hlen]; exact G.len, hmat, by rw [hlen]; omega, fun i i' h4 h5 => ?_, fun i hi => ?_, fun i hi => ?_, fun i i' hi hi' hne => ?_, fun i c' hi hc' => ?_, fun i c' hi hil hc' => ?_, ?_, ?_⟩
    · have : i ≠ d := by omega
      simp only [this, if_false]
      by_cases e : i' = d
      · simp only [e, if_true]; exact G.lt i (by omega)
      · simp only [e, if_false]; exact G.mono i i' h4 (by omega)
    · by_cases e : i = d
      · simp only [e, if_true]; omega
      · simp only [e, if_false]; have := G.lt i (by omega); omega
    · by_cases e : i = d
      · simp only [e, if_true]; rw [hent d hd, Fd]; exact R1
      · simp only [e, if_false]; rw [hent i (by omega), Fl i (by omega) e _ (G.lt i (by omega)), s2 i (by omega)]; exact G.one i (by omega)
    · rw [hlen] at hi'
      by_cases e : i = d
      · simp only [e, if_true]; rw [hent i' hi']; exact Fc i' hi' (by omega)
      · simp only [e, if_false]
        rw [hent i' hi']
        by_cases e' : i' = d
        · rw [e', Fd]; exact Rl i (by omega)
        · rw [Fl i' hi' e' _ (G.lt i (by omega))]
          refine G.zero i _ (by omega) (s1 i' hi') fun hh => ?_
          rcases Nat.lt_or_ge i' d with h6 | h6
          · rw [s2 i' h6] at hh; exact hne hh
          · have := s3 i' h6; omega
    · by_cases e : i = d
      · simp only [e, if_true] at hc' ⊢; rw [hent d hd, Fd]; exact R0 c' hc'
      · simp only [e, if_false] at hc'
        have := G.lt i (by omega)
        rw [hent i (by omega), Fl i (by omega) e c' (by omega), s2 i (by omega)]; exact G.left i c' (by omega) hc'
    · rw [hlen] at hil
      rw [hent i hil]
      rcases (by omega : c' < c ∨ c' = c) with h | rfl
      · rw [Fl i hil (by omega) c' h]; exact G.rest _ c' (s3 i (by omega)) (s1 i hil) h
      · exact Fc i hil (by omega)
    · -- old rows are sums of new ones
      refine G.sub1.trans fun k' hk' => ?_
      have mR := Sp.mem p (A := tabR L.length F) (i := d) (by rw [hlen]; exact hd)
      rw [hent d hd, Fd] at mR
      by_cases e : k' = j
      · subst e
        refine In.lin (ent L k' c - 1) mR mR fun c' => ?_
        obtain ⟨x, hx⟩ := hRcg c'
        have h5 := Int.emod_add_mul_ediv (by' * ent L k' c) p
        rw [i3] at h5
        generalize ent L k' c = t at *
        generalize ent L k' c' = y at *
        generalize ith R c' = r at *
        generalize (by' * t) / p = e at *
        refine ⟨-(t * x) - y * e, ?_⟩
        have h6 : r = y * by' + p * x := by omega
        have h7 : by' * t = 1 + p * e := by omega
        rw [h6]
        have h8 : t * (y * by') = y * (by' * t) := by rw [Int.mul_comm y by', ← Int.mul_assoc, Int.mul_comm t by', Int.mul_comm (by' * t) y]
        rw [Int.sub_mul, Int.mul_add, h8, h7]
        grind
      · have hne : swp d j k' ≠ d := fun hh => by
          have h9 := s4 k'
          rw [hh, show swp d j d = j from if_pos rfl] at h9
          exact e h9.symm
        have m1 := Sp.mem p (A := tabR L.length F) (i := swp d j k') (by rw [hlen]; exact s1 k' hk')
        rw [hent _ (s1 k' hk')] at m1
        refine In.lin (ent L k' c) m1 mR fun c' => ?_
        rw [Fi _ hne, s4]
        obtain ⟨x, hx⟩ := less_cg (p := p) (k := ent L k' c) (G.mat.row hk').1 hR.1 c'
        exact ⟨-x, by rw [Int.mul_neg, ← hx]; unfold ent; omega⟩
    · refine Sub.trans (fun i hi => ?_) G.sub2
      rw [hlen] at hi
      rw [hent i hi]
      have sR : Sp p L (ith R) := by
        have mj := Sp.mem p (A := L) hj
        refine In.lin (by' - 1) mj mj fun c' => ?_
        obtain ⟨x, hx⟩ := hRcg c'
        exact ⟨x, by rw [← hx, Int.sub_mul, Int.mul_comm by']; omega⟩
      by_cases e : i = d
      · rw [e, Fd]; exact sR
      · rw [Fi i e]
        refine In.lin (-(ent L (swp d j i) c)) (Sp.mem p (s1 i hi)) sR fun c' => ?_
        obtain ⟨x, hx⟩ := less_cg (p := p) (k := ent L (swp d j i) c) (G.mat.row (s1 i hi)).1 hR.1 c'
        exact ⟨x, by rw [← hx, Int.neg_mul]; unfold ent; omega⟩
theorem gN_inv {p : Int} (hp : IsP p) {n : Nat} {rows : List (List Int)} (hr : Mat p n rows) : ∀ c, c ≤ n → ∃ l, GInv p n rows c (gN p rows c).1 (gN p rows c).2 l
  | 0, _ => ⟨fun _ => 0, rfl, hr, Nat.zero_le _, fun i j _ h => by simp [gN] at h, fun i h => by simp [gN] at h, fun i h => by simp [gN] at h, fun i j h => by simp [gN] at h, fun i c' h => by simp [gN] at h, fun i c' _ _ h => by omega, Sub.refl _ _, Sub.refl _ _⟩
  | c + 1, hc => by
    obtain ⟨l, G⟩ := gN_inv hp hr c (by omega)
    exact gstep_inv hp (by omega) G
theorem row_take {A : List (List Int)} {d i : Nat} (h : i < d) : row (A.take d) i = row A i := by simp [row, List.getElem?_take, h]
theorem gauss_eq {p : Int} (hp : IsP p) {n : Nat} {rows : List (List Int)} (hr : Mat p n rows) : gauss p rows = ech p rows := by
  unfold gauss
  split
  · rename_i h
    have : rows = [] := List.length_eq_zero_iff.1 h
    subst this; rfl
  · rename_i h
    have hn : (row rows 0).length = n := (hr.row (by omega)).1
    rw [hn]
    obtain ⟨l, G⟩ := gN_inv hp hr n (Nat.le_refl _)
    generalize (gN p rows n).1 = L at *
    generalize (gN p rows n).2 = d at *
    have hd := G.dle
    have hlen : (L.take d).length = d := by rw [List.length_take]; omega
    have hent : ∀ i, i < d → ent (L.take d) i = ent L i := fun i hi => by funext c; unfold ent; rw [row_take hi]
    have hpp := hp.rng
    have hln : ∀ i, i < d → l i < n := G.lt
    have hld : ∀ i, i < d → ldN (L.take d) i = l i := fun i hi => by
      unfold ldN
      rw [row_take hi, lead_stop (k := l i) (by rw [(G.mat.row (by omega)).1]; exact hln i hi) (fun c hc => G.left i c hi hc) (by have := G.one i hi; unfold ent at this; omega)]
      rfl
    refine (ech_eq hp hr (A := L.take d) ⟨G.mat.take d, ?_⟩ (Sub.trans (fun i hi => ?_) G.sub2) (G.sub1.trans fun i hi => ?_)).symm
    · rw [hlen]
      refine ⟨fun i j hij hj => ?_, fun i hi => ?_, fun i j hi hj hij => ?_, fun i c hi hc => ?_, fun i c hi => ?_⟩
      · rw [hld i (by omega), hld j hj]; exact G.mono i j hij hj
      · rw [hent i hi, hld i hi]; exact G.one i hi
      · rw [hld i hi, hent j hj]; exact G.zero i j hi (by omega) hij
      · rw [hld i hi] at hc; rw [hent i hi]; exact G.left i c hi hc
      · rw [hent i hi]; exact G.mat.ent (by omega) i c
    · rw [hlen] at hi
      rw [hent i hi]; exact Sp.mem p (by omega)
    · by_cases h1 : i < d
      · have := Sp.mem p (A := L.take d) (i := i) (by rw [hlen]; exact h1)
        rwa [hent i h1] at this
      · refine In.zero fun c => ?_
        have : ent L i c = 0 := by
          by_cases hc : c < n
          · exact G.rest i c (by omega) hi hc
          · unfold ent; exact ith_out (by rw [(G.mat.row hi).1]; omega)
        rw [this]; exact Int.dvd_zero p
theorem gN_stop {p : Int} {rows : List (List Int)} {c : Nat} (h : (gN p rows c).1.length ≤ (gN p rows c).2) : ∀ t, gN p rows (c + t) = gN p rows c
  | 0 => rfl
  | t + 1 => by
    show gstep p (c + t) (gN p rows (c + t)) = _
    rw [gN_stop h t]
    exact gstep_none (by rw [List.drop_eq_nil_of_le h]; simp [fidx])
theorem tabR_set {n j : Nat} {f : Nat → List Int} {y : List Int} : (tabR n f).set j y = tabR n (fun i => if i = j then y else f i) := by
  refine List.ext_getElem (by simp [tabR]) fun i h1 h2 => ?_
  simp [tabR, List.getElem_set, eq_comm]
theorem tabR_getq {n i : Nat} {f : Nat → List Int} (h : i < n) : (tabR n f)[i]? = some (f i) := by simp [tabR, h]
theorem row_set {L : List (List Int)} {d i : Nat} {y : List Int} (hd : d < L.length) : row (L.set d y) i = if i = d then y else row L i := by
  unfold row
  simp only [List.getD_eq_getElem?_getD, List.getElem?_set]
  by_cases h : d = i
  · subst h; simp [hd]
  · rw [if_neg h, if_neg (Ne.symm h)]
theorem row_getq {xs : List (List Int)} {i : Nat} (h : i < xs.length) : xs[i]? = some (row xs i) := by simp [row, h]
end Go.Pl

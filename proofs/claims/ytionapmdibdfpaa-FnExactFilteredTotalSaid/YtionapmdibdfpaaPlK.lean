/- Plain linear algebra modulo p: kernels, and when a vector lies in a space. No condition. -/
import Derived.Test.YtionapmdibdfpaaPlB
set_option linter.unusedVariables false
set_option linter.unusedSimpArgs false
namespace Go.Pl
open Rref

def unitv (m i : Nat) : List Int := tab m (fun k => if k = i then 1 else 0)
/-- the rows with the unit behind them -/
def extU (m : Nat) (rows : List (List Int)) : List (List Int) := tabR rows.length (fun i => row rows i ++ unitv m i)
def zeroTo (n : Nat) (r : List Int) : Bool := (r.take n).all (fun x => x == 0)
/-- what is 0 ahead, without that -/
def tails (n : Nat) (L : List (List Int)) : List (List Int) := (L.filter (zeroTo n)).map (List.drop n)
def kern (p : Int) (n : Nat) (rows : List (List Int)) : List (List Int) := tails n (ech p (extU rows.length rows))
theorem ith_drop (xs : List Int) (n c : Nat) : ith (xs.drop n) c = ith xs (n + c) := by simp [ith, List.getElem?_drop]
theorem ith_take {xs : List Int} {n c : Nat} (h : c < n) : ith (xs.take n) c = ith xs c := by simp [ith, List.getElem?_take, h]
theorem row_drop (A : List (List Int)) (n c : Nat) : row (A.drop n) c = row A (n + c) := by simp [row, List.getElem?_drop]
theorem row_map {f : List Int → List Int} (A : List (List Int)) {c : Nat} (h : c < A.length) : row (A.map f) c = f (row A c) := by simp [row, h]
theorem zeroTo_iff {n : Nat} {r : List Int} : zeroTo n r = true ↔ ∀ c, c < n → ith r c = 0 := by
  unfold zeroTo
  rw [List.all_eq_true]
  constructor
  · intro h c hc
    by_cases hl : c < r.length
    · have : ith (r.take n) c ∈ r.take n := ith_mem (by simp; omega)
      have := h _ this
      rw [ith_take hc] at this
      simpa using this
    · exact ith_out (by omega)
  · intro h x hx
    obtain ⟨c, hc, e⟩ := List.getElem_of_mem hx
    rw [ith_get hc] at e
    have hc : c < n := by simp at hc; omega
    rw [ith_take hc] at e
    rw [← e, h c hc]; rfl
theorem RedL.zeroTo {p : Int} (hp : 1 < p) {n k : Nat} {A : List (List Int)} (a : RedL p n A) {i : Nat} (hi : i < A.length) : zeroTo k (row A i) = true ↔ k ≤ ldN A i := by
  rw [zeroTo_iff]
  constructor
  · intro h
    rcases Nat.lt_or_ge (ldN A i) k with h1 | h1
    · have h2 := h _ h1
      have h3 := a.red.one i hi
      unfold ent at h3
      omega
    · exact h1
  · intro h c hc
    exact a.red.left i c hi (by omega)
theorem RedL.le {p : Int} {n : Nat} {A : List (List Int)} (a : RedL p n A) : ∀ i, i < A.length → i ≤ ldN A i
  | 0, _ => Nat.zero_le _
  | i + 1, hi => by
    have := a.le i (by omega)
    have := a.red.mono i (i + 1) (by omega) hi
    omega
theorem RedL.len {p : Int} {n : Nat} {A : List (List Int)} (a : RedL p n A) : A.length ≤ n := by
  rcases Nat.eq_zero_or_pos A.length with h | h
  · omega
  · have h1 := a.le (A.length - 1) (by omega)
    have h2 := (a.lead (i := A.length - 1) (by omega)).2
    omega
/-- where the rows that are 0 ahead begin -/
theorem RedL.cut {p : Int} (hp : 1 < p) {n : Nat} {A : List (List Int)} (a : RedL p n A) (k : Nat) : ∃ j, j ≤ A.length ∧ (∀ i, i < j → ldN A i < k) ∧ ∀ i, j ≤ i → i < A.length → k ≤ ldN A i := by
  by_cases h : ∃ j, j < A.length ∧ k ≤ ldN A j
  · obtain ⟨j, h1, h2, h3⟩ := least A.length h
    refine ⟨j, by omega, fun i hi => ?_, fun i hi hil => ?_⟩
    · have := h3 i hi; omega
    · rcases Nat.lt_or_ge j i with h4 | h4
      · have := a.red.mono j i h4 hil; omega
      · have : i = j := by omega
        subst this; exact h2
  · exact ⟨A.length, Nat.le_refl _, fun i hi => by
      rcases Nat.lt_or_ge (ldN A i) k with h1 | h1
      · exact h1
      · exact absurd ⟨i, hi, h1⟩ h, fun i h1 h2 => by omega⟩
theorem tails_eq {p : Int} (hp : 1 < p) {n k : Nat} {A : List (List Int)} (a : RedL p n A) {j : Nat} (hj : j ≤ A.length) (h1 : ∀ i, i < j → ldN A i < k) (h2 : ∀ i, j ≤ i → i < A.length → k ≤ ldN A i) : tails k A = (A.drop j).map (List.drop k) := by
  unfold tails
  congr 1
  conv => lhs; rw [← List.take_append_drop j A]
  rw [List.filter_append]
  have e1 : (A.take j).filter (zeroTo k) = [] := by
    rw [List.filter_eq_nil_iff]
    intro x hx
    obtain ⟨i, hi, e⟩ := List.getElem_of_mem hx
    have hi1 : i < j := by simp at hi; omega
    have hi2 : i < A.length := by simp at hi; omega
    have : x = row A i := by rw [← e]; simp [row, hi2]
    rw [this, a.zeroTo hp hi2]
    have := h1 i hi1
    omega
  have e2 : (A.drop j).filter (zeroTo k) = A.drop j := by
    rw [List.filter_eq_self]
    intro x hx
    obtain ⟨i, hi, e⟩ := List.getElem_of_mem hx
    simp at hi
    have : x = row A (j + i) := by rw [← e]; simp [row, show j + i < A.length by omega]
    rw [this, a.zeroTo hp (by omega)]
    exact h2 _ (by omega) (by omega)
  rw [e1, e2, List.nil_append]
theorem RedL.tails {p : Int} (hp : 1 < p) {n k : Nat} {A : List (List Int)} (a : RedL p (k + n) A) : RedL p n (tails k A) := by
  obtain ⟨j, hj, h1, h2⟩ := a.cut hp k
  rw [tails_eq hp a hj h1 h2]
  have hlen : ((A.drop j).map (List.drop k)).length = A.length - j := by simp
  have hrow : ∀ i, i < A.length - j → row ((A.drop j).map (List.drop k)) i = (row A (j + i)).drop k := fun i hi => by rw [row_map _ (by simpa using hi), row_drop]
  have hent : ∀ i c, i < A.length - j → ent ((A.drop j).map (List.drop k)) i c = ent A (j + i) (k + c) := fun i c hi => by unfold ent; rw [hrow i hi, ith_drop]
  have hvec : ∀ i, i < A.length - j → Vec p n ((row A (j + i)).drop k) := fun i hi => by
    have hv := a.mat.row (show j + i < A.length by omega)
    exact ⟨by rw [List.length_drop, hv.1]; omega, fun x hx => hv.2 x (List.mem_of_mem_drop hx)⟩
  have hmat : Mat p n ((A.drop j).map (List.drop k)) := fun r hr => by
    obtain ⟨i, hi, e⟩ := List.getElem_of_mem hr
    rw [row_get hi, hrow i (by simpa using hi)] at e
    rw [← e]; exact hvec i (by simpa using hi)
  have hld : ∀ i, i < A.length - j → ldN ((A.drop j).map (List.drop k)) i = ldN A (j + i) - k := fun i hi => by
    have hk := h2 (j + i) (by omega) (by omega)
    have hl := (a.lead (show j + i < A.length by omega)).2
    unfold ldN
    rw [hrow i hi, lead_stop (k := ldN A (j + i) - k) (by rw [(hvec i hi).1]; omega) (fun c hc => by
      rw [ith_drop]; exact a.red.left _ _ (by omega) (by omega)) (by
      rw [ith_drop, show k + (ldN A (j + i) - k) = ldN A (j + i) by omega]
      have := a.red.one (j + i) (by omega)
      unfold ent at this
      omega)]
    rfl
  refine ⟨hmat, ?_⟩
  rw [hlen]
  refine ⟨fun i i' hii hi' => ?_, fun i hi => ?_, fun i i' hi hi' hne => ?_, fun i c hi hc => ?_, fun i c hi => ?_⟩
  · rw [hld i (by omega), hld i' hi']
    have := a.red.mono (j + i) (j + i') (by omega) (by omega)
    have := h2 (j + i) (by omega) (by omega)
    omega
  · have := h2 (j + i) (by omega) (by omega)
    rw [hent i _ hi, hld i hi, show k + (ldN A (j + i) - k) = ldN A (j + i) by omega]
    exact a.red.one _ (by omega)
  · have := h2 (j + i) (by omega) (by omega)
    rw [hent i' _ hi', hld i hi, show k + (ldN A (j + i) - k) = ldN A (j + i) by omega]
    exact a.red.zero _ _ (by omega) (by omega) (by omega)
  · rw [hld i hi] at hc
    rw [hent i c hi]
    exact a.red.left _ _ (by omega) (by omega)
  · rw [hent i c hi]; exact a.red.rng _ _ (by omega)
theorem unitv_vec {p : Int} (hp : 1 < p) (m i : Nat) : Vec p m (unitv m i) := Vec.tab fun k _ => by split <;> omega
theorem Vec.append {p : Int} {n m : Nat} {u v : List Int} (hu : Vec p n u) (hv : Vec p m v) : Vec p (n + m) (u ++ v) :=
  ⟨by rw [List.length_append, hu.1, hv.1], fun x hx => (List.mem_append.1 hx).elim (hu.2 x) (hv.2 x)⟩
theorem extU_mat {p : Int} (hp : 1 < p) {n : Nat} {rows : List (List Int)} (hr : Mat p n rows) (m : Nat) : Mat p (n + m) (extU m rows) := Mat.tab fun i hi => (hr.row hi).append (unitv_vec hp m i)
theorem kern_red {p : Int} (hp : IsP p) {n : Nat} {rows : List (List Int)} (hr : Mat p n rows) : RedL p rows.length (kern p n rows) :=
  (ech_spec hp (extU_mat (by have := hp.rng; omega) hr _)).1.tails (by have := hp.rng; omega)
theorem ech_red {p : Int} (hp : IsP p) {n : Nat} {A : List (List Int)} (a : RedL p n A) : ech p A = A := ech_eq hp a.mat a (Sub.refl _ _) (Sub.refl _ _)
theorem kern_ech {p : Int} (hp : IsP p) {n : Nat} {rows : List (List Int)} (hr : Mat p n rows) : ech p (kern p n rows) = kern p n rows := ech_red hp (kern_red hp hr)
/-- what a kernel makes of the rows is 0 -/
theorem kern_null {p : Int} (hp : IsP p) {n : Nat} {rows : List (List Int)} (hr : Mat p n rows) {i : Nat} (hi : i < (kern p n rows).length) (c : Nat) : p ∣ sm rows.length (fun k => ent (kern p n rows) i k * ent rows k c) := by
  have hpp := hp.rng
  obtain ⟨a, s1, s2⟩ := ech_spec hp (extU_mat (by omega) hr rows.length)
  obtain ⟨j, hj, h1, h2⟩ := a.cut (by omega) n
  have e : kern p n rows = ((ech p (extU rows.length rows)).drop j).map (List.drop n) := tails_eq (by omega) a hj h1 h2
  rw [e] at hi ⊢
  have hi' : j + i < (ech p (extU rows.length rows)).length := by simp at hi; omega
  have hent : ∀ c, ent (((ech p (extU rows.length rows)).drop j).map (List.drop n)) i c = ent (ech p (extU rows.length rows)) (j + i) (n + c) := fun c => by
    unfold ent; rw [row_map _ (by simp; omega), row_drop, ith_drop]
  obtain ⟨b, hb⟩ := s2 (j + i) hi'
  have hlen : (extU rows.length rows).length = rows.length := tabR_length _ _
  rw [hlen] at hb
  have ex1 : ∀ k c, k < rows.length → c < n → ent (extU rows.length rows) k c = ent rows k c := fun k c hk hc => by
    unfold ent extU; rw [tabR_row hk, ith_append_left (by rw [(hr.row hk).1]; exact hc)]
  have ex2 : ∀ k c, k < rows.length → c < rows.length → ent (extU rows.length rows) k (n + c) = if c = k then 1 else 0 := fun k c hk hc => by
    unfold ent extU; rw [tabR_row hk, ith_append_right (by rw [(hr.row hk).1]; omega), (hr.row hk).1, show n + c - n = c by omega]; exact tab_ith hc
  -- the numbers behind are the coefficients
  have hcoef : ∀ k, k < rows.length → p ∣ ent (ech p (extU rows.length rows)) (j + i) (n + k) - b k := fun k hk => by
    have h3 := hb (n + k)
    have h4 := S_one (p := p) (m := rows.length) (f := fun q => b q * ent (extU rows.length rows) q (n + k)) k hk fun q hq hne => by
      rw [ex2 q k hq hk, if_neg (Ne.symm hne)]; simp
    simp only [ex2 k k hk hk, if_true, Int.mul_one] at h4
    have h5 := Int.dvd_add h3 h4
    rw [show ent (ech p (extU rows.length rows)) (j + i) (n + k) - b k = ent (ech p (extU rows.length rows)) (j + i) (n + k) - sm rows.length (fun q => b q * ent (extU rows.length rows) q (n + k)) + (sm rows.length (fun q => b q * ent (extU rows.length rows) q (n + k)) - b k) by omega]
    exact h5
  rcases Nat.lt_or_ge c n with hc | hc
  · have h3 := hb c
    have h6 := h2 (j + i) (by omega) hi'
    rw [a.red.left (j + i) c hi' (by omega)] at h3
    have h7 : sm rows.length (fun q => b q * ent (extU rows.length rows) q c) = sm rows.length (fun q => b q * ent rows q c) := S_congr fun q hq => by rw [ex1 q c hq hc]
    rw [h7] at h3
    have h8 : p ∣ sm rows.length (fun k => ent (ech p (extU rows.length rows)) (j + i) (n + k) * ent rows k c) - sm rows.length (fun q => b q * ent rows q c) := by
      have : sm rows.length (fun k => ent (ech p (extU rows.length rows)) (j + i) (n + k) * ent rows k c) = sm rows.length (fun k => (ent (ech p (extU rows.length rows)) (j + i) (n + k) - b k) * ent rows k c) + sm rows.length (fun q => b q * ent rows q c) := by
        rw [← S_add]; exact S_congr fun q _ => by rw [← Int.add_mul]; congr 1; omega
      rw [this, Int.add_sub_cancel]
      exact S_dvd fun q hq => dvd_ml (hcoef q hq) _
    rw [S_congr (g := fun k => ent (ech p (extU rows.length rows)) (j + i) (n + k) * ent rows k c) fun k _ => by rw [hent]]
    have := Int.dvd_sub h8 h3
    rw [show sm rows.length (fun k => ent (ech p (extU rows.length rows)) (j + i) (n + k) * ent rows k c) - sm rows.length (fun q => b q * ent rows q c) - (0 - sm rows.length (fun q => b q * ent rows q c)) = sm rows.length (fun k => ent (ech p (extU rows.length rows)) (j + i) (n + k) * ent rows k c) by omega] at this
    exact this
  · refine S_dvd fun k hk => ?_
    have : ent rows k c = 0 := by unfold ent; exact ith_out (by rw [(hr.row hk).1]; exact hc)
    rw [this, Int.mul_zero]; exact Int.dvd_zero p
/-- rows that are reduced have no kernel -/
theorem kern_indep {p : Int} (hp : IsP p) {n : Nat} {A : List (List Int)} (a : RedL p n A) : kern p n A = [] := by
  have hpp := hp.rng
  refine List.length_eq_zero_iff.1 (Classical.byContradiction fun hne => ?_)
  have h0 : 0 < (kern p n A).length := by omega
  have R := kern_red hp a.mat
  have h1 := R.red.one 0 h0
  have hl := (R.lead h0).2
  generalize hq : ldN (kern p n A) 0 = q at h1 hl
  have h2 := kern_null hp a.mat h0 (ldN A q)
  have h3 := S_one (p := p) (m := A.length) (f := fun k => ent (kern p n A) 0 k * ent A k (ldN A q)) q hl fun k hk hne => by
    rw [a.red.zero q k hl hk (Ne.symm hne)]; simp
  simp only [a.red.one q hl, h1, Int.mul_one] at h3
  have h4 := Int.dvd_sub h2 h3
  rw [show sm A.length (fun k => ent (kern p n A) 0 k * ent A k (ldN A q)) - (sm A.length (fun k => ent (kern p n A) 0 k * ent A k (ldN A q)) - 1) = 1 by omega] at h4
  exact not_dvd_one (by omega) h4
theorem ech_zero {p : Int} (hp : IsP p) {n : Nat} {rows : List (List Int)} (hr : Mat p n rows) (hz : ∀ i c, i < rows.length → ent rows i c = 0) : ech p rows = [] :=
  ech_eq hp hr (RedL.nil p n) (fun i hi => by simp at hi) fun i hi => In.zero fun c => by rw [hz i c hi]; exact Int.dvd_zero p

/-- a vector lies in the space of a reduced list -/
def inside (p : Int) (A : List (List Int)) (v : List Int) : Bool := decide (lead (rest p A v) < 0)
theorem inside_iff {p : Int} (hp : IsP p) {n : Nat} {A : List (List Int)} (a : RedL p n A) {v : List Int} (hv : Vec p n v) : inside p A v = true ↔ Sp p A (ith v) := by
  have hpp := hp.rng
  obtain ⟨h1, h2, h3, h4⟩ := rest_spec (by omega) a hv
  unfold inside
  rw [decide_eq_true_iff, lead_neg]
  constructor
  · intro h
    exact h4 A (Sub.refl _ _) (In.zero fun c => by rw [h c]; exact Int.dvd_zero p)
  · intro h c
    have h5 := h3 A (Sub.refl _ _) h
    have h6 := a.red.told h5 c
    have h7 : p ∣ sm A.length (fun i => ith (rest p A v) (ldN A i) * ent A i c) := S_dvd fun i hi => by rw [h2 i hi]; simp
    have h8 := Int.dvd_add h6 h7
    rw [show ith (rest p A v) c - sm A.length (fun i => ith (rest p A v) (ldN A i) * ent A i c) + sm A.length (fun i => ith (rest p A v) (ldN A i) * ent A i c) = ith (rest p A v) c by omega] at h8
    have h9 := h1.2.ith (by omega) c
    exact eq_of_cg h9 (by omega) (by simpa using h8)
theorem mono_full {m : Nat} {l1 l2 : Nat → Nat} (h1 : ∀ i j, i < j → j < m → l1 i < l1 j) (h2 : ∀ i j, i < j → j < m → l2 i < l2 j) (a : ∀ i, i < m → ∃ j, j < m ∧ l2 j = l1 i) : ∀ i, i < m → l1 i = l2 i := by
  have inj : ∀ i j, i < m → j < m → l2 i ≤ l2 j → i ≤ j := fun i j hi hj h => by
    rcases Nat.lt_or_ge j i with h3 | h3
    · have := h2 j i h3 hi; omega
    · exact h3
  -- from below
  have lo : ∀ i, i < m → l2 i ≤ l1 i := by
    intro i
    induction i with
    | zero =>
      intro hi
      obtain ⟨j, hj, e⟩ := a 0 hi
      rw [← e]
      rcases Nat.eq_zero_or_pos j with h0 | h0
      · rw [h0]; exact Nat.le_refl _
      · exact Nat.le_of_lt (h2 0 j h0 hj)
    | succ i ih =>
      intro hi
      obtain ⟨j, hj, e⟩ := a (i + 1) hi
      have h3 := ih (by omega)
      have h4 := h1 i (i + 1) (by omega) hi
      have h5 : i < j := by
        rcases Nat.lt_or_ge i j with h6 | h6
        · exact h6
        · rcases Nat.lt_or_ge j i with h7 | h7
          · have := h2 j i h7 (by omega); omega
          · have : i = j := by omega
            subst this; omega
      rw [← e]
      rcases Nat.lt_or_ge (i + 1) j with h6 | h6
      · exact Nat.le_of_lt (h2 _ _ h6 hj)
      · have : j = i + 1 := by omega
        subst this; exact Nat.le_refl _
  -- from above
  have hi' : ∀ d i, i + d + 1 = m → l1 i ≤ l2 i := by
    intro d
    induction d with
    | zero =>
      intro i hi
      obtain ⟨j, hj, e⟩ := a i (by omega)
      rw [← e]
      rcases Nat.lt_or_ge j i with h3 | h3
      · exact Nat.le_of_lt (h2 _ _ h3 (by omega))
      · have : j = i := by omega
        subst this; exact Nat.le_refl _
    | succ d ih =>
      intro i hi
      have h3 := ih (i + 1) (by omega)
      have h4 := h1 i (i + 1) (by omega) (by omega)
      obtain ⟨j, hj, e⟩ := a i (by omega)
      have h5 : j < i + 1 := by
        rcases Nat.lt_or_ge j (i + 1) with h6 | h6
        · exact h6
        · rcases Nat.lt_or_ge (i + 1) j with h7 | h7
          · have := h2 _ _ h7 hj; omega
          · have : j = i + 1 := by omega
            subst this; omega
      rw [← e]
      rcases Nat.lt_or_ge j i with h6 | h6
      · exact Nat.le_of_lt (h2 _ _ h6 (by omega))
      · have : j = i := by omega
        subst this; exact Nat.le_refl _
  intro i hi
  have h3 := lo i hi
  have h4 := hi' (m - i - 1) i (by omega)
  omega
/-- reduced lists of one length, one within the other -/
theorem RedL.full {p : Int} (hp : 1 < p) {n : Nat} {A B : List (List Int)} (a : RedL p n A) (b : RedL p n B) (hl : A.length = B.length) (s : Sub p A B) : A = B := by
  have ar := a.red
  have br := b.red
  rw [← hl] at br
  have hA : ∀ i, i < A.length → ∃ j, j < A.length ∧ ldN B j = ldN A i := fun i hi => by
    have := s i hi
    unfold Sp at this
    rw [← hl] at this
    exact br.lead_in (m1 := A.length) hp this (fun c hc => ar.left i c hi hc) (ar.one i hi)
  have hL := mono_full ar.mono br.mono hA
  refine ext_row hl fun i hi => ext_ith (by rw [(a.mat.row hi).1, (b.mat.row (by omega)).1]) fun c hc => ?_
  refine eq_of_cg (ar.rng i c hi) (br.rng i c hi) ?_
  have h1 := s i hi
  unfold Sp at h1
  rw [← hl] at h1
  have h3 := br.told h1 c
  have h4 := S_one (p := p) (m := A.length) (f := fun k => ent A i (ldN B k) * ent B k c) i hi fun k hk hne => by
    rw [← hL k hk, ar.zero k i hk hi hne]; simp
  rw [← hL i hi, ar.one i hi] at h4
  have h5 := Int.dvd_add h3 h4
  have e : ent A i c - ent B i c = ent A i c - sm A.length (fun k => ent A i (ldN B k) * ent B k c) + (sm A.length (fun k => ent A i (ldN B k) * ent B k c) - 1 * ent B i c) := by omega
  show p ∣ ent A i c - ent B i c
  rw [e]
  exact h5
/-- what one table makes is what another one makes 0, as the program and as the reference look at it -/
def sameSp (A B : List (List Int)) : Bool := decide (A = B)
def meetSp (p : Int) (A B : List (List Int)) : Bool := decide (A.length = B.length) && A.all (fun v => inside p B v)
theorem meetSp_eq {p : Int} (hp : IsP p) {n : Nat} {A B : List (List Int)} (a : RedL p n A) (b : RedL p n B) : meetSp p A B = sameSp A B := by
  have hpp := hp.rng
  rw [Bool.eq_iff_iff]
  unfold meetSp sameSp
  rw [Bool.and_eq_true, decide_eq_true_iff, decide_eq_true_iff, List.all_eq_true]
  constructor
  · rintro ⟨h1, h2⟩
    refine a.full (by omega) b h1 fun i hi => ?_
    exact (inside_iff hp b (a.mat.row hi)).1 (h2 _ (row_mem hi))
  · rintro rfl
    refine ⟨rfl, fun v hv => ?_⟩
    obtain ⟨i, hi, e⟩ := List.getElem_of_mem hv
    rw [row_get hi] at e
    rw [← e, inside_iff hp a (a.mat.row hi)]
    exact Sp.mem p hi
end Go.Pl

/- Plain linear algebra modulo p: kernels are whole, independent lists keep their length, and a dimension. No condition. Plain linear algebra modulo p: the vectors of a space that another map kills, counted in two ways. No condition. -/
import Derived.Test.YtblbcjemoadfpaaPlK
set_option linter.unusedVariables false
namespace Go.Pl
open Rref

/-- equal modulo p -/
def Cg (p x y : Int) : Prop := p ∣ x - y
theorem Cg.refl (p x : Int) : Cg p x x := ⟨0, by omega⟩
theorem Cg.symm {p x y : Int} (h : Cg p x y) : Cg p y x := by
  obtain ⟨q, hq⟩ := h
  exact ⟨-q, by rw [Int.mul_neg, ← hq]; omega⟩
theorem Cg.trans {p x y z : Int} (h : Cg p x y) (k : Cg p y z) : Cg p x z := by
  have := Int.dvd_add h k
  rw [show x - y + (y - z) = x - z by omega] at this
  exact this
theorem Cg.add {p x y u v : Int} (h : Cg p x y) (k : Cg p u v) : Cg p (x + u) (y + v) := by
  have := Int.dvd_add h k
  rw [show x - y + (u - v) = x + u - (y + v) by omega] at this
  exact this
theorem Cg.sub {p x y u v : Int} (h : Cg p x y) (k : Cg p u v) : Cg p (x - u) (y - v) := by
  have := Int.dvd_sub h k
  rw [show x - y - (u - v) = x - u - (y - v) by omega] at this
  exact this
theorem Cg.mul {p x y : Int} (h : Cg p x y) (k : Int) : Cg p (k * x) (k * y) := by
  obtain ⟨q, hq⟩ := h
  exact ⟨k * q, by rw [← Int.mul_sub, hq, ← Int.mul_assoc, Int.mul_comm k p, Int.mul_assoc]⟩
theorem Cg.mulr {p x y : Int} (h : Cg p x y) (k : Int) : Cg p (x * k) (y * k) := by rw [Int.mul_comm x, Int.mul_comm y]; exact h.mul k
theorem Cg.zero {p x : Int} (h : p ∣ x) : Cg p x 0 := by unfold Cg; simpa using h
theorem Cg.dvd {p x : Int} (h : Cg p x 0) : p ∣ x := by unfold Cg at h; simpa using h
theorem Cg.sm {p : Int} {m : Nat} {f g : Nat → Int} (h : ∀ i, i < m → Cg p (f i) (g i)) : Cg p (sm m f) (Pl.sm m g) := by
  induction m with
  | zero => exact Cg.refl _ _
  | succ m ih => exact (ih fun i hi => h i (by omega)).add (h m (by omega))
theorem Cg.emod (p x : Int) : Cg p (x % p) x := ⟨-(x / p), by have := Int.emod_add_mul_ediv x p; rw [Int.mul_neg]; omega⟩
theorem sm_split (a b : Nat) (f : Nat → Int) : sm (a + b) f = sm a f + sm b fun i => f (a + i) := by
  induction b with
  | zero => simp [sm]
  | succ b ih => rw [← Nat.add_assoc]; simp only [sm]; rw [ih]; omega
theorem sm_mulr (m : Nat) (f : Nat → Int) (r : Int) : sm m f * r = sm m fun i => f i * r := by
  induction m with
  | zero => simp [sm]
  | succ m ih => simp only [sm]; rw [Int.add_mul, ih]
theorem sm_assoc (m q : Nat) (a g : Nat → Int) (f : Nat → Nat → Int) : sm m (fun k => sm q (fun i => a i * f i k) * g k) = sm q fun i => a i * sm m fun k => f i k * g k := by
  rw [S_congr (g := fun k => sm q fun i => a i * f i k * g k) fun k _ => sm_mulr q _ _, S_swap]
  exact S_congr fun i _ => by rw [← S_mul]; exact S_congr fun k _ => by rw [Int.mul_assoc]
theorem sm_neg (m : Nat) (f : Nat → Int) : sm m (fun i => -f i) = -sm m f := by
  induction m with
  | zero => rfl
  | succ m ih => simp only [sm]; rw [ih]; omega
theorem ent_wide {p : Int} {n : Nat} {rows : List (List Int)} (hr : Mat p n rows) {k c : Nat} (hc : n ≤ c) : ent rows k c = 0 := by
  unfold ent
  by_cases hk : k < rows.length
  · exact ith_out (by rw [(hr.row hk).1]; exact hc)
  · rw [row_out (by omega), ith_nil]
theorem comb_cg {p : Int} {n : Nat} {v : List Int} {rows : List (List Int)} (hr : Mat p n rows) (c : Nat) : Cg p (ith (comb p n v rows) c) (sm v.length fun i => ith v i * ent rows i c) := by
  by_cases hc : c < n
  · rw [comb, tab_ith hc]; exact Cg.emod _ _
  · rw [ith_out (by rw [comb, tab_length]; omega), S_congr (g := fun _ => 0) fun i _ => by rw [ent_wide hr (by omega), Int.mul_zero], S_zero]
    exact Cg.refl _ _
theorem kern_cut {p : Int} (hp : IsP p) {n : Nat} {rows : List (List Int)} (hr : Mat p n rows) : ∃ E j, RedL p (n + rows.length) E ∧ Sub p (extU rows.length rows) E ∧ j ≤ E.length ∧ (∀ i, i < j → ldN E i < n) ∧ (kern p n rows).length = E.length - j ∧ ∀ i k, i < (kern p n rows).length → ent (kern p n rows) i k = ent E (j + i) (n + k) := by
  have hpp := hp.rng
  obtain ⟨a, s1, s2⟩ := ech_spec hp (extU_mat (by omega) hr rows.length)
  obtain ⟨j, hj, h1, h2⟩ := a.cut (by omega) n
  have e : kern p n rows = ((ech p (extU rows.length rows)).drop j).map (List.drop n) := tails_eq (by omega) a hj h1 h2
  refine ⟨_, j, a, s1, hj, h1, by rw [e]; simp, fun i k hi => ?_⟩
  rw [e] at hi ⊢
  unfold ent
  rw [row_map _ (by simpa using hi), row_drop, ith_drop]
/-- what makes 0 of the rows comes from the kernel -/
theorem kern_full {p : Int} (hp : IsP p) {n : Nat} {rows : List (List Int)} (hr : Mat p n rows) {d : Nat → Int} (hz : ∀ c, Cg p (sm rows.length fun k => d k * ent rows k c) 0) :
    ∃ a : Nat → Int, ∀ k, k < rows.length → Cg p (d k) (sm (kern p n rows).length fun i => a i * ent (kern p n rows) i k) := by
  have hpp := hp.rng
  obtain ⟨E, j, R, s1, hj, h1, hl, he⟩ := kern_cut hp hr
  have hlen : (extU rows.length rows).length = rows.length := tabR_length _ _
  have ex1 : ∀ k c, k < rows.length → c < n → ent (extU rows.length rows) k c = ent rows k c := fun k c hk hc => by
    unfold ent extU; rw [tabR_row hk, ith_append_left (by rw [(hr.row hk).1]; exact hc)]
  have ex2 : ∀ k c, k < rows.length → c < rows.length → ent (extU rows.length rows) k (n + c) = if c = k then 1 else 0 := fun k c hk hc => by
    unfold ent extU; rw [tabR_row hk, ith_append_right (by rw [(hr.row hk).1]; omega), (hr.row hk).1, show n + c - n = c by omega]; exact tab_ith hc
  have hu : In p E.length (ent E) (fun c => sm rows.length fun k => d k * ent (extU rows.length rows) k c) := In.sum d fun i hi => s1 i (by rw [hlen]; exact hi)
  generalize hU : (fun c => sm rows.length fun k => d k * ent (extU rows.length rows) k c) = u at hu
  have hu0 : ∀ c, c < n → Cg p (u c) 0 := fun c hc => by
    rw [← hU]
    show Cg p (sm rows.length fun k => d k * ent (extU rows.length rows) k c) 0
    rw [S_congr (g := fun k => d k * ent rows k c) fun k hk => by rw [ex1 k c hk hc]]
    exact hz c
  refine ⟨fun i => u (ldN E (j + i)), fun k hk => ?_⟩
  have hk1 : Cg p (u (n + k)) (d k) := by
    rw [← hU]
    have := S_one (p := p) (m := rows.length) (f := fun q => d q * ent (extU rows.length rows) q (n + k)) k hk fun q hq hne => by
      rw [ex2 q k hq hk, if_neg (Ne.symm hne)]; simp
    simp only [ex2 k k hk hk, if_true, Int.mul_one] at this
    exact this
  have h3 : Cg p (u (n + k)) (sm E.length fun i => u (ldN E i) * ent E i (n + k)) := R.red.told hu (n + k)
  rw [show E.length = j + (kern p n rows).length by omega, sm_split] at h3
  have h4 : Cg p (sm j fun i => u (ldN E i) * ent E i (n + k)) 0 := by
    have := Cg.sm (p := p) (m := j) (f := fun i => u (ldN E i) * ent E i (n + k)) (g := fun _ => 0) fun i hi => by
      have := (hu0 _ (h1 i hi)).mulr (ent E i (n + k))
      rwa [Int.zero_mul] at this
    rwa [S_zero] at this
  refine hk1.symm.trans (h3.trans ?_)
  have h5 := h4.add (Cg.refl p (sm (kern p n rows).length fun i => u (ldN E (j + i)) * ent E (j + i) (n + k)))
  rw [Int.zero_add] at h5
  refine h5.trans ?_
  rw [S_congr (g := fun i => u (ldN E (j + i)) * ent (kern p n rows) i k) fun i hi => by rw [he i k hi]]
  exact Cg.refl _ _
/-- sums from the kernel make 0 of the rows -/
theorem null_lin {p : Int} (hp : IsP p) {n : Nat} {rows : List (List Int)} (hr : Mat p n rows) {d a : Nat → Int} (h : ∀ k, k < rows.length → Cg p (d k) (sm (kern p n rows).length fun i => a i * ent (kern p n rows) i k)) (c : Nat) :
    Cg p (sm rows.length fun k => d k * ent rows k c) 0 := by
  refine (Cg.sm (g := fun k => sm (kern p n rows).length (fun i => a i * ent (kern p n rows) i k) * ent rows k c) fun k hk => (h k hk).mulr _).trans ?_
  rw [sm_assoc]
  have := Cg.sm (p := p) (m := (kern p n rows).length) (f := fun i => a i * sm rows.length fun k => ent (kern p n rows) i k * ent rows k c) (g := fun _ => 0) fun i hi => by
    have := (Cg.zero (kern_null hp hr hi c)).mul (a i)
    rwa [Int.mul_zero] at this
  rwa [S_zero] at this
/-- an independent list keeps its length -/
theorem ech_indep {p : Int} (hp : IsP p) {n : Nat} {L : List (List Int)} (hL : Mat p n L) (hi : ∀ i, i < L.length → ¬ Sp p (L.take i) (ent L i)) : (ech p L).length = L.length := by
  have hpp := hp.rng
  have key : ∀ i, i ≤ L.length → (echN p L i).length = i := fun i => by
    induction i with
    | zero => intro _; rfl
    | succ i ih =>
      intro hil
      have ih := ih (by omega)
      obtain ⟨h1, h2, h3⟩ := echN_spec hp hL i (by omega)
      have hv := hL.row (show i < L.length by omega)
      unfold echN
      simp only
      split
      · rename_i hl
        refine absurd ?_ (hi i (by omega))
        have : Sp p (echN p L i) (ith (row L i)) := (inside_iff hp h1 hv).1 (decide_eq_true hl)
        exact this.sub h3
      · rw [ins_len, ih]
  exact key L.length (Nat.le_refl _)
/-- what is left of a sum is the sum of what is left -/
theorem rest_lin {p : Int} (hp : IsP p) {m w : Nat} {A B : List (List Int)} (hA : Mat p w A) (hm : A.length = m) (hB : RedL p w B) {z : List Int} (hz : z.length = m) (c : Nat) :
    Cg p (ith (rest p B (comb p w z A)) c) (sm m fun q => ith z q * ent (tabR m fun q => rest p B (row A q)) q c) := by
  have hpp := hp.rng
  have hv : Vec p w (comb p w z A) := Vec.tab fun i _ => ⟨Int.emod_nonneg _ (by omega), Int.emod_lt_of_pos _ (by omega)⟩
  have hR : ∀ q, q < m → row (tabR m fun q => rest p B (row A q)) q = rest p B (row A q) := fun q hq => tabR_row hq
  -- what is left, less the vector, lies in the space
  have dif : ∀ v, Vec p w v → In p B.length (ent B) (fun c => ith (rest p B v) c - ith v c) := fun v hv => by
    obtain ⟨h1, h2, b, h3⟩ := restN_spec (by omega) hB hv B.length (Nat.le_refl _)
    have hs : In p B.length (ent B) (fun c => sm B.length (fun k => b k * ent B k c)) := In.sum b fun i hi => In.row i hi
    refine In.lin (-2) hs hs fun c => ?_
    obtain ⟨x, hx⟩ := h3 c
    exact ⟨x, by rw [← hx]; unfold rest; omega⟩
  have zer : ∀ v, Vec p w v → ∀ j, j < B.length → ith (rest p B v) (ldN B j) = 0 := fun v hv => (rest_spec (by omega) hB hv).2.1
  generalize hu : (fun c => ith (rest p B (comb p w z A)) c - sm m fun q => ith z q * ent (tabR m fun q => rest p B (row A q)) q c) = u
  have h1 : In p B.length (ent B) u := by
    have hs : In p B.length (ent B) (fun c => sm m fun q => ith z q * (ith (rest p B (row A q)) c - ith (row A q) c)) := In.sum (ith z) fun q hq => dif _ (hA.row (by omega))
    refine In.lin (-1) (dif _ hv) hs fun c => ?_
    have h2 := comb_cg (p := p) (v := z) hA c
    rw [hz] at h2
    have e1 : (sm m fun q => ith z q * (ith (rest p B (row A q)) c - ith (row A q) c)) = (sm m fun q => ith z q * ent (tabR m fun q => rest p B (row A q)) q c) - sm m fun q => ith z q * ent A q c := by
      have : (sm m fun q => ith z q * ent (tabR m fun q => rest p B (row A q)) q c) = (sm m fun q => ith z q * (ith (rest p B (row A q)) c - ith (row A q) c)) + sm m fun q => ith z q * ent A q c := by
        rw [← S_add]
        exact S_congr fun q hq => by
          rw [← Int.mul_add]
          congr 1
          unfold ent
          rw [hR q hq]; omega
      omega
    rw [← hu]
    simp only
    rw [e1]
    obtain ⟨x, hx⟩ := h2
    exact ⟨x, by rw [← hx]; omega⟩
  have h2 : ∀ j, j < B.length → u (ldN B j) = 0 := fun j hj => by
    rw [← hu]
    simp only
    rw [zer _ hv j hj, S_congr (g := fun _ => 0) fun q hq => by unfold ent; rw [hR q hq, zer _ (hA.row (by omega)) j hj, Int.mul_zero], S_zero]
    rfl
  have h3 := hB.red.told h1 c
  have h4 : (sm B.length fun i => u (ldN B i) * ent B i c) = 0 := by
    rw [S_congr (g := fun _ => 0) fun i hi => by rw [h2 i hi, Int.zero_mul], S_zero]
  rw [h4] at h3
  have h5 : p ∣ u c := by simpa using h3
  rw [← hu] at h5
  exact h5
end Go.Pl

set_option linter.unusedVariables false
namespace Go.Pl
open Rref

/-- the meet of two spaces, not reduced -/
def meetL (p : Int) (n : Nat) (a b : List (List Int)) : List (List Int) := (kern p n (a ++ b)).map fun v => comb p n (v.take a.length) a
theorem vecComb {p : Int} (hp : 0 < p) {n : Nat} {v : List Int} {rows : List (List Int)} : Vec p n (comb p n v rows) := Vec.tab fun i _ => ⟨Int.emod_nonneg _ (by omega), Int.emod_lt_of_pos _ hp⟩
theorem meetL_mat {p : Int} (hp : 0 < p) {n : Nat} {a b : List (List Int)} : Mat p n (meetL p n a b) := fun r hr => by
  simp only [meetL, List.mem_map] at hr
  obtain ⟨v, _, rfl⟩ := hr
  exact vecComb hp
theorem meetL_ent {p : Int} (hp : IsP p) {n : Nat} {a b : List (List Int)} (ha : Mat p n a) (hb : Mat p n b) {t : Nat} (ht : t < (kern p n (a ++ b)).length) (c : Nat) : Cg p (ent (meetL p n a b) t c) (sm a.length fun k => ent (kern p n (a ++ b)) t k * ent a k c) := by
  have hK := (kern_red hp (ha.append hb)).mat.row ht
  have e : row (meetL p n a b) t = comb p n ((row (kern p n (a ++ b)) t).take a.length) a := by unfold meetL; rw [row_map _ ht]
  unfold ent
  rw [e]
  have h1 := comb_cg (p := p) (v := (row (kern p n (a ++ b)) t).take a.length) ha c
  rw [List.length_take, hK.1, List.length_append, Nat.min_eq_left (by omega)] at h1
  refine h1.trans ?_
  rw [S_congr (g := fun k => ith (row (kern p n (a ++ b)) t) k * ith (row a k) c) fun k hk => by rw [ith_take hk]; rfl]
  exact Cg.refl _ _
/-- a vector of both spaces is one of the meet -/
theorem meetL_full {p : Int} (hp : IsP p) {n : Nat} {a b : List (List Int)} (ha : Mat p n a) (hb : Mat p n b) {v x y : Nat → Int} (h1 : ∀ c, Cg p (v c) (sm a.length fun k => x k * ent a k c)) (h2 : ∀ c, Cg p (v c) (sm b.length fun k => y k * ent b k c)) : Sp p (meetL p n a b) v := by
  have hab := ha.append hb
  obtain ⟨e, he⟩ := kern_full hp hab (d := fun k => if k < a.length then x k else -y (k - a.length)) fun c => by
    rw [List.length_append, sm_split]
    have e1 : (sm a.length fun k => (if k < a.length then x k else -y (k - a.length)) * ent (a ++ b) k c) = sm a.length fun k => x k * ent a k c := S_congr fun k hk => by rw [if_pos hk, ent_append_left hk]
    have e2 : (sm b.length fun k => (if a.length + k < a.length then x (a.length + k) else -y (a.length + k - a.length)) * ent (a ++ b) (a.length + k) c) = -sm b.length fun k => y k * ent b k c := by
      rw [← sm_neg]
      exact S_congr fun k hk => by rw [if_neg (by omega), ent_append_right (by omega), show a.length + k - a.length = k by omega, Int.neg_mul]
    rw [e1, e2]
    have := (h1 c).symm.sub ((h2 c).symm)
    rw [show v c - v c = 0 by omega] at this
    rw [show (sm a.length fun k => x k * ent a k c) + -(sm b.length fun k => y k * ent b k c) = (sm a.length fun k => x k * ent a k c) - sm b.length fun k => y k * ent b k c by omega]
    exact this
  have hl : (meetL p n a b).length = (kern p n (a ++ b)).length := by simp [meetL]
  refine ⟨e, fun c => ?_⟩
  rw [hl]
  refine (h1 c).trans ?_
  have h3 : Cg p (sm a.length fun k => x k * ent a k c) (sm a.length fun k => (sm (kern p n (a ++ b)).length fun i => e i * ent (kern p n (a ++ b)) i k) * ent a k c) := Cg.sm fun k hk => by
    have := he k (by rw [List.length_append]; omega)
    rw [if_pos hk] at this
    exact this.mulr _
  refine h3.trans ?_
  rw [sm_assoc]
  exact Cg.sm fun t ht => (meetL_ent hp ha hb ht c).symm.mul _
/-- a vector of the meet is one of the first space -/
theorem meetL_neg {p : Int} (hp : IsP p) {n : Nat} {a b : List (List Int)} (ha : Mat p n a) (hb : Mat p n b) {t : Nat} (ht : t < (kern p n (a ++ b)).length) (c : Nat) : Cg p (sm a.length fun k => ent (kern p n (a ++ b)) t k * ent a k c) (sm b.length fun k => -ent (kern p n (a ++ b)) t (a.length + k) * ent b k c) := by
  have h1 := Cg.zero (kern_null hp (ha.append hb) ht c)
  rw [List.length_append, sm_split] at h1
  have e1 : (sm a.length fun k => ent (kern p n (a ++ b)) t k * ent (a ++ b) k c) = sm a.length fun k => ent (kern p n (a ++ b)) t k * ent a k c := S_congr fun k hk => by rw [ent_append_left hk]
  have e2 : (sm b.length fun k => ent (kern p n (a ++ b)) t (a.length + k) * ent (a ++ b) (a.length + k) c) = sm b.length fun k => ent (kern p n (a ++ b)) t (a.length + k) * ent b k c := S_congr fun k hk => by rw [ent_append_right (by omega), show a.length + k - a.length = k by omega]
  rw [e1, e2] at h1
  have e3 : (sm b.length fun k => -ent (kern p n (a ++ b)) t (a.length + k) * ent b k c) = -sm b.length fun k => ent (kern p n (a ++ b)) t (a.length + k) * ent b k c := by
    rw [← sm_neg]; exact S_congr fun k _ => by rw [Int.neg_mul]
  rw [e3]
  have := h1.sub (Cg.refl p (sm b.length fun k => ent (kern p n (a ++ b)) t (a.length + k) * ent b k c))
  rw [Int.add_sub_cancel, Int.zero_sub] at this
  exact this
/-- the two counts -/
theorem killed_dim {p : Int} (hp : IsP p) {m w : Nat} {Z A B : List (List Int)} (hZ : RedL p m Z) (hA : Mat p w A) (hm : A.length = m) (hB : RedL p w B) :
    (ech p (meetL p m Z (kern p w (tabR m fun q => rest p B (row A q))))).length = (kern p w (tabR Z.length fun k => rest p B (comb p w (row Z k) A))).length := by
  have hpp := hp.rng
  have hR : Mat p w (tabR m fun q => rest p B (row A q)) := Mat.tab fun q hq => (rest_spec (by omega) hB (hA.row (by omega))).1
  have hRl : (tabR m fun q => rest p B (row A q)).length = m := tabR_length _ _
  generalize eR : (tabR m fun q => rest p B (row A q)) = R at hR hRl
  have hT : Mat p w (tabR Z.length fun k => rest p B (comb p w (row Z k) A)) := Mat.tab fun k hk => (rest_spec (by omega) hB (vecComb (by omega))).1
  have hTl : (tabR Z.length fun k => rest p B (comb p w (row Z k) A)).length = Z.length := tabR_length _ _
  -- what is left of a vector of Z, by R
  have lin : ∀ k, k < Z.length → ∀ c, Cg p (ent (tabR Z.length fun k => rest p B (comb p w (row Z k) A)) k c) (sm m fun q => ent Z k q * ent R q c) := fun k hk c => by
    have := rest_lin hp hA hm hB (z := row Z k) (hZ.mat.row hk).1 c
    rw [eR] at this
    unfold ent at this ⊢
    rw [tabR_row hk]
    exact this
  generalize (tabR Z.length fun k => rest p B (comb p w (row Z k) A)) = T at hT hTl lin
  have hF := kern_red hp hR
  rw [hRl] at hF
  generalize eF : kern p w R = F at hF
  have hK := kern_red hp hT
  rw [hTl] at hK
  -- the sums of Z that the kernel tells
  have hL : Mat p m (tabR (kern p w T).length fun i => comb p m (row (kern p w T) i) Z) := Mat.tab fun i _ => vecComb (by omega)
  have hLl : (tabR (kern p w T).length fun i => comb p m (row (kern p w T) i) Z).length = (kern p w T).length := tabR_length _ _
  have hLe : ∀ i, i < (kern p w T).length → ∀ c, Cg p (ent (tabR (kern p w T).length fun i => comb p m (row (kern p w T) i) Z) i c) (sm Z.length fun k => ent (kern p w T) i k * ent Z k c) := fun i hi c => by
    have := comb_cg (p := p) (v := row (kern p w T) i) hZ.mat c
    rw [(hK.mat.row hi).1] at this
    unfold ent at this ⊢
    rw [tabR_row hi]
    exact this
  generalize (tabR (kern p w T).length fun i => comb p m (row (kern p w T) i) Z) = L at hL hLl hLe
  -- they are independent
  have hind : (ech p L).length = L.length := ech_indep hp hL fun i hi => by
    rw [hLl] at hi
    rintro ⟨a, ha⟩
    have htl : (L.take i).length = i := by rw [List.length_take]; omega
    rw [htl] at ha
    have h1 : ∀ c, p ∣ 0 - sm Z.length (fun k => (ent (kern p w T) i k - sm i fun j => a j * ent (kern p w T) j k) * ent Z k c) := fun c => by
      have h2 : Cg p (ent L i c) (sm i fun j => a j * ent (L.take i) j c) := ha c
      rw [S_congr (g := fun j => a j * ent L j c) fun j hj => by unfold ent; rw [show row (L.take i) j = row L j by simp [row, hj]]] at h2
      have h3 : Cg p (sm i fun j => a j * ent L j c) (sm i fun j => a j * sm Z.length fun k => ent (kern p w T) j k * ent Z k c) := Cg.sm fun j hj => (hLe j (by omega) c).mul _
      rw [← sm_assoc] at h3
      have h4 := ((hLe i hi c).symm.trans h2).trans h3
      have e1 : (sm Z.length fun k => (ent (kern p w T) i k - sm i fun j => a j * ent (kern p w T) j k) * ent Z k c) = (sm Z.length fun k => ent (kern p w T) i k * ent Z k c) - sm Z.length fun k => (sm i fun j => a j * ent (kern p w T) j k) * ent Z k c := by
        have : (sm Z.length fun k => ent (kern p w T) i k * ent Z k c) = (sm Z.length fun k => (ent (kern p w T) i k - sm i fun j => a j * ent (kern p w T) j k) * ent Z k c) + sm Z.length fun k => (sm i fun j => a j * ent (kern p w T) j k) * ent Z k c := by
          rw [← S_add]; exact S_congr fun k _ => by rw [← Int.add_mul]; congr 1; omega
        omega
      rw [e1]
      obtain ⟨q, hq⟩ := h4
      exact ⟨-q, by rw [Int.mul_neg, ← hq]; omega⟩
    obtain ⟨z1, z2⟩ := hK.lead hi
    have h5 := hZ.red.coef (v := fun _ => 0) h1 (ldN (kern p w T) i) z2
    have h6 : (sm i fun j => a j * ent (kern p w T) j (ldN (kern p w T) i)) = 0 := by
      rw [S_congr (g := fun _ => 0) fun j hj => by rw [hK.red.zero i j hi (by omega) (by omega), Int.mul_zero], S_zero]
    rw [hK.red.one i hi, h6] at h5
    refine not_dvd_one (p := p) (by omega) ?_
    obtain ⟨q, hq⟩ := h5
    exact ⟨-q, by rw [Int.mul_neg, ← hq]; rfl⟩
  -- and span the meet
  have hM : Mat p m (meetL p m Z F) := meetL_mat (by omega)
  have hMl : (meetL p m Z F).length = (kern p m (Z ++ F)).length := by simp [meetL]
  have s1 : Sub p L (meetL p m Z F) := fun i hi => by
    rw [hLl] at hi
    obtain ⟨y, hy⟩ := kern_full hp hR (d := ent L i) fun c => by
      rw [hRl]
      have h1 : Cg p (sm m fun q => ent L i q * ent R q c) (sm m fun q => (sm Z.length fun k => ent (kern p w T) i k * ent Z k q) * ent R q c) := Cg.sm fun q _ => (hLe i hi q).mulr _
      rw [sm_assoc] at h1
      have h2 : Cg p (sm Z.length fun k => ent (kern p w T) i k * sm m fun q => ent Z k q * ent R q c) (sm Z.length fun k => ent (kern p w T) i k * ent T k c) := Cg.sm fun k hk => (lin k hk c).symm.mul _
      have h3 := Cg.zero (kern_null hp hT hi c)
      rw [hTl] at h3
      exact (h1.trans h2).trans h3
    rw [eF, hRl] at hy
    refine meetL_full hp hZ.mat hF.mat (x := ent (kern p w T) i) (y := y) (hLe i hi) fun c => ?_
    by_cases hc : c < m
    · exact hy c hc
    · rw [ent_wide hL (by omega), S_congr (g := fun _ => 0) fun k _ => by rw [ent_wide hF.mat (by omega), Int.mul_zero], S_zero]
      exact Cg.refl _ _
  have s2 : Sub p (meetL p m Z F) L := fun t ht => by
    rw [hMl] at ht
    obtain ⟨a, ha⟩ := kern_full hp hT (d := ent (kern p m (Z ++ F)) t) fun c => by
      rw [hTl]
      have h1 : Cg p (sm Z.length fun k => ent (kern p m (Z ++ F)) t k * ent T k c) (sm Z.length fun k => ent (kern p m (Z ++ F)) t k * sm m fun q => ent Z k q * ent R q c) := Cg.sm fun k hk => (lin k hk c).mul _
      rw [← sm_assoc] at h1
      have h2 : Cg p (sm m fun q => (sm Z.length fun k => ent (kern p m (Z ++ F)) t k * ent Z k q) * ent R q c) (sm m fun q => (sm F.length fun k => -ent (kern p m (Z ++ F)) t (Z.length + k) * ent F k q) * ent R q c) := Cg.sm fun q _ => (meetL_neg hp hZ.mat hF.mat ht q).mulr _
      refine (h1.trans h2).trans ?_
      rw [sm_assoc]
      have h3 := Cg.sm (p := p) (m := F.length) (f := fun k => -ent (kern p m (Z ++ F)) t (Z.length + k) * sm m fun q => ent F k q * ent R q c) (g := fun _ => 0) fun k hk => by
        rw [← eF] at hk
        have h4 := (Cg.zero (kern_null hp hR hk c)).mul (-ent (kern p m (Z ++ F)) t (Z.length + k))
        rw [hRl, eF, Int.mul_zero] at h4
        exact h4
      rwa [S_zero] at h3
    rw [hTl] at ha
    refine ⟨a, fun c => ?_⟩
    rw [hLl]
    refine (meetL_ent hp hZ.mat hF.mat ht c).trans ?_
    have h5 : Cg p (sm Z.length fun k => ent (kern p m (Z ++ F)) t k * ent Z k c) (sm Z.length fun k => (sm (kern p w T).length fun i => a i * ent (kern p w T) i k) * ent Z k c) := Cg.sm fun k hk => (ha k hk).mulr _
    rw [sm_assoc] at h5
    exact h5.trans (Cg.sm fun i hi => (hLe i hi c).symm.mul _)
  obtain ⟨m1, m2, m3⟩ := ech_spec hp hM
  have e := ech_eq hp hL m1 (m3.trans s2) (s1.trans m2)
  rw [← e, hind, hLl]
end Go.Pl

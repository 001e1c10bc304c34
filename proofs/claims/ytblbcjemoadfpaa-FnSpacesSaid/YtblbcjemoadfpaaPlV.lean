/- Plain linear algebra modulo p: rank and kernel, and the dimensions of sums and meets. No condition. -/
import Derived.Test.YtblbcjemoadfpaaPlF
set_option linter.unusedVariables false
namespace Go.Pl
open Rref

theorem ldN_stop {A : List (List Int)} {i q : Nat} (hq : q < (row A i).length) (h0 : ∀ c, c < q → ith (row A i) c = 0) (h1 : ith (row A i) q ≠ 0) : ldN A i = q := by
  unfold ldN; rw [lead_stop hq h0 h1]; rfl
/-- the kernel and the rank -/
theorem rank_null {p : Int} (hp : IsP p) {n : Nat} {rows : List (List Int)} (hr : Mat p n rows) : (kern p n rows).length + (ech p rows).length = rows.length := by
  have hpp := hp.rng
  obtain ⟨a, s1, s2⟩ := ech_spec hp (extU_mat (by omega) hr rows.length)
  obtain ⟨j, hj, h1, h2⟩ := a.cut (by omega) n
  have e : kern p n rows = ((ech p (extU rows.length rows)).drop j).map (List.drop n) := tails_eq (by omega) a hj h1 h2
  have hlen : (extU rows.length rows).length = rows.length := tabR_length _ _
  have ex1 : ∀ k c, k < rows.length → c < n → ent (extU rows.length rows) k c = ent rows k c := fun k c hk hc => by
    unfold ent extU; rw [tabR_row hk, ith_append_left (by rw [(hr.row hk).1]; exact hc)]
  have ex2 : ∀ k c, k < rows.length → c < rows.length → ent (extU rows.length rows) k (n + c) = if c = k then 1 else 0 := fun k c hk hc => by
    unfold ent extU; rw [tabR_row hk, ith_append_right (by rw [(hr.row hk).1]; omega), (hr.row hk).1, show n + c - n = c by omega]; exact tab_ith hc
  have hE : (ech p (extU rows.length rows)).length = rows.length := by
    rw [ech_indep hp (extU_mat (by omega) hr _) fun i hi => ?_, hlen]
    rw [hlen] at hi
    rintro ⟨b, hb⟩
    have h3 := hb (n + i)
    have htl : ((extU rows.length rows).take i).length = i := by rw [List.length_take]; omega
    rw [htl, ex2 i i hi hi, if_pos rfl, S_congr (g := fun _ => 0) fun k hk => ?_, S_zero] at h3
    · exact not_dvd_one (p := p) (by omega) (by simpa using h3)
    · have h4 := ex2 k i (by omega) hi
      unfold ent at h4 ⊢
      rw [show row ((extU rows.length rows).take i) k = row (extU rows.length rows) k by simp [row, hk], h4, if_neg (by omega), Int.mul_zero]
  generalize hE0 : ech p (extU rows.length rows) = E at *
  rw [e, List.length_map, List.length_drop, hE]
  -- the first rows, cut
  have hLl : (tabR j fun i => (row E i).take n).length = j := tabR_length _ _
  have hEv : ∀ i, i < j → Vec p (n + rows.length) (row E i) := fun i hi => a.mat.row (by omega)
  have hLv : ∀ i, i < j → Vec p n ((row E i).take n) := fun i hi => ⟨by rw [List.length_take, (hEv i hi).1]; omega, fun x hx => (hEv i hi).2 x (List.mem_of_mem_take hx)⟩
  have hLe : ∀ i c, i < j → c < n → ent (tabR j fun i => (row E i).take n) i c = ent E i c := fun i c hi hc => by unfold ent; rw [tabR_row hi, ith_take hc]
  have hLm : Mat p n (tabR j fun i => (row E i).take n) := Mat.tab hLv
  have hLd : ∀ i, i < j → ldN (tabR j fun i => (row E i).take n) i = ldN E i := fun i hi => by
    have hl := h1 i hi
    refine ldN_stop (by rw [tabR_row hi, (hLv i hi).1]; exact hl) (fun c hc => ?_) ?_
    · rw [tabR_row hi, ith_take (by omega)]; exact a.red.left i c (by omega) hc
    · rw [tabR_row hi, ith_take hl]
      have := a.red.one i (by omega)
      unfold ent at this
      omega
  generalize (tabR j fun i => (row E i).take n) = L at *
  have hL : RedL p n L := by
    refine ⟨hLm, ?_⟩
    rw [hLl]
    refine ⟨fun i i' hii hi' => ?_, fun i hi => ?_, fun i i' hi hi' hne => ?_, fun i c hi hc => ?_, fun i c hi => ?_⟩
    · rw [hLd i (by omega), hLd i' hi']; exact a.red.mono i i' hii (by omega)
    · rw [hLd i hi, hLe i _ hi (h1 i hi)]; exact a.red.one i (by omega)
    · rw [hLd i hi, hLe i' _ hi' (h1 i hi)]; exact a.red.zero i i' (by omega) (by omega) hne
    · rw [hLd i hi] at hc; rw [hLe i c hi (by have := h1 i hi; omega)]; exact a.red.left i c (by omega) hc
    · exact hLm.ent (by omega) i c
  have t1 : Sub p L rows := fun i hi => by
    rw [hLl] at hi
    obtain ⟨b, hb⟩ := s2 i (by omega)
    rw [hlen] at hb
    refine ⟨b, fun c => ?_⟩
    by_cases hc : c < n
    · have h3 := hb c
      rw [S_congr (g := fun k => b k * ent rows k c) fun k hk => by rw [ex1 k c hk hc]] at h3
      rw [hLe i c hi hc]; exact h3
    · rw [ent_wide hLm (by omega), S_congr (g := fun _ => 0) fun k _ => by rw [ent_wide hr (by omega), Int.mul_zero], S_zero]
      exact Cg.refl _ _
  have t2 : Sub p rows L := fun k hk => by
    obtain ⟨b, hb⟩ := s1 k (by omega)
    refine ⟨b, fun c => ?_⟩
    rw [hLl]
    by_cases hc : c < n
    · have h3 := hb c
      rw [ex1 k c hk hc, show E.length = j + (E.length - j) by omega, sm_split, S_congr (m := E.length - j) (g := fun _ => 0) fun i hi => by rw [a.red.left (j + i) c (by omega) (by have := h2 (j + i) (by omega) (by omega); omega), Int.mul_zero], S_zero, Int.add_zero] at h3
      rw [S_congr (g := fun i => b i * ent E i c) fun i hi => by rw [hLe i c hi hc]]
      exact h3
    · rw [ent_wide hr (by omega), S_congr (g := fun _ => 0) fun i _ => by rw [ent_wide hLm (by omega), Int.mul_zero], S_zero]
      exact Cg.refl _ _
  rw [ech_eq hp hr hL t1 t2, hLl]
  omega
/-- a vector of the meet lies in both -/
theorem meetL_left {p : Int} (hp : IsP p) {n : Nat} {a b : List (List Int)} (ha : Mat p n a) (hb : Mat p n b) : Sub p (meetL p n a b) a := fun t ht => by
  have hl : (meetL p n a b).length = (kern p n (a ++ b)).length := by simp [meetL]
  exact ⟨_, fun c => meetL_ent hp ha hb (by omega) c⟩
theorem meetL_swap {p : Int} (hp : IsP p) {n : Nat} {a b : List (List Int)} (ha : Mat p n a) (hb : Mat p n b) : Sub p (meetL p n a b) (meetL p n b a) := fun t ht => by
  have hl : (meetL p n a b).length = (kern p n (a ++ b)).length := by simp [meetL]
  rw [hl] at ht
  refine meetL_full hp hb ha (x := fun k => -ent (kern p n (a ++ b)) t (a.length + k)) (y := ent (kern p n (a ++ b)) t) (fun c => ?_) fun c => meetL_ent hp ha hb ht c
  exact (meetL_ent hp ha hb ht c).trans (meetL_neg hp ha hb ht c)
theorem meetL_sym {p : Int} (hp : IsP p) {n : Nat} {a b : List (List Int)} (ha : Mat p n a) (hb : Mat p n b) : ech p (meetL p n b a) = ech p (meetL p n a b) := by
  have hpp := hp.rng
  obtain ⟨m1, m2, m3⟩ := ech_spec hp (meetL_mat (p := p) (n := n) (a := a) (b := b) (by omega))
  exact ech_eq hp (meetL_mat (by omega)) m1 (m3.trans (meetL_swap hp ha hb)) ((meetL_swap hp hb ha).trans m2)
/-- the meet has as many vectors as the kernel -/
theorem meetL_dim {p : Int} (hp : IsP p) {n : Nat} {A B : List (List Int)} (hA : RedL p n A) (hB : RedL p n B) : (ech p (meetL p n A B)).length = (kern p n (A ++ B)).length := by
  have hpp := hp.rng
  have hl : (meetL p n A B).length = (kern p n (A ++ B)).length := by simp [meetL]
  have hK := kern_red hp (hA.mat.append hB.mat)
  rw [List.length_append] at hK
  rw [← hl]
  refine ech_indep hp (meetL_mat (by omega)) fun i hi => ?_
  rw [hl] at hi
  rintro ⟨a, ha⟩
  have htl : ((meetL p n A B).take i).length = i := by rw [List.length_take]; omega
  rw [htl] at ha
  have eT : ∀ j, j < i → ∀ c, ent ((meetL p n A B).take i) j c = ent (meetL p n A B) j c := fun j hj c => by unfold ent; rw [show row ((meetL p n A B).take i) j = row (meetL p n A B) j by simp [row, hj]]
  -- the sum of the kernel's rows that has to be 0
  have hd : ∀ q, p ∣ ent (kern p n (A ++ B)) i q - sm i (fun j => a j * ent (kern p n (A ++ B)) j q) ∨ A.length + B.length ≤ q := fun q => by
    rcases Nat.lt_or_ge q (A.length + B.length) with hq | hq
    · refine .inl ?_
      -- by the first list
      have part : ∀ (X : List (List Int)) (s : Nat) (m : Int), RedL p n X → (m = 1 ∨ m = -1) → (∀ t, t < (kern p n (A ++ B)).length → ∀ c, Cg p (ent (meetL p n A B) t c) (sm X.length fun k => (m * ent (kern p n (A ++ B)) t (s + k)) * ent X k c)) → ∀ k, k < X.length → p ∣ ent (kern p n (A ++ B)) i (s + k) - sm i (fun j => a j * ent (kern p n (A ++ B)) j (s + k)) := by
        intro X s m hX hm hx k hk
        have h1 : ∀ c, p ∣ 0 - sm X.length (fun k => (m * ent (kern p n (A ++ B)) i (s + k) - sm i fun j => a j * (m * ent (kern p n (A ++ B)) j (s + k))) * ent X k c) := fun c => by
          have h2 : Cg p (ent (meetL p n A B) i c) (sm i fun j => a j * ent ((meetL p n A B).take i) j c) := ha c
          rw [S_congr (g := fun j => a j * ent (meetL p n A B) j c) fun j hj => by rw [eT j hj c]] at h2
          have h3 : Cg p (sm i fun j => a j * ent (meetL p n A B) j c) (sm i fun j => a j * sm X.length fun k => (m * ent (kern p n (A ++ B)) j (s + k)) * ent X k c) := Cg.sm fun j hj => (hx j (by omega) c).mul _
          rw [← sm_assoc X.length i a (fun k => ent X k c) (fun j k => m * ent (kern p n (A ++ B)) j (s + k))] at h3
          have h4 := ((hx i hi c).symm.trans h2).trans h3
          have e1 : (sm X.length fun k => (m * ent (kern p n (A ++ B)) i (s + k) - sm i fun j => a j * (m * ent (kern p n (A ++ B)) j (s + k))) * ent X k c) = (sm X.length fun k => (m * ent (kern p n (A ++ B)) i (s + k)) * ent X k c) - sm X.length fun k => (sm i fun j => a j * (m * ent (kern p n (A ++ B)) j (s + k))) * ent X k c := by
            have : (sm X.length fun k => (m * ent (kern p n (A ++ B)) i (s + k)) * ent X k c) = (sm X.length fun k => (m * ent (kern p n (A ++ B)) i (s + k) - sm i fun j => a j * (m * ent (kern p n (A ++ B)) j (s + k))) * ent X k c) + sm X.length fun k => (sm i fun j => a j * (m * ent (kern p n (A ++ B)) j (s + k))) * ent X k c := by
              rw [← S_add]; exact S_congr fun k _ => by rw [← Int.add_mul]; congr 1; omega
            omega
          rw [e1]
          obtain ⟨q, hq⟩ := h4
          exact ⟨-q, by rw [Int.mul_neg, ← hq]; omega⟩
        have h5 := hX.red.coef (v := fun _ => 0) h1 k hk
        have e2 : (sm i fun j => a j * (m * ent (kern p n (A ++ B)) j (s + k))) = m * sm i fun j => a j * ent (kern p n (A ++ B)) j (s + k) := by
          rw [← S_mul]; exact S_congr fun j _ => by rw [← Int.mul_assoc, Int.mul_comm (a j) m, Int.mul_assoc]
        rw [e2] at h5
        obtain ⟨q, hq⟩ := h5
        rcases hm with rfl | rfl
        · exact ⟨-q, by rw [Int.mul_neg, ← hq]; omega⟩
        · exact ⟨q, by rw [← hq]; omega⟩
      rcases Nat.lt_or_ge q A.length with h | h
      · have := part A 0 1 hA (.inl rfl) (fun t ht c => by
          have := meetL_ent hp hA.mat hB.mat ht c
          rw [S_congr (g := fun k => 1 * ent (kern p n (A ++ B)) t (0 + k) * ent A k c) fun k _ => by rw [Int.one_mul, Nat.zero_add]] at this
          exact this) q h
        rwa [Nat.zero_add] at this
      · have := part B A.length (-1) hB (.inr rfl) (fun t ht c => by
          have := (meetL_ent hp hA.mat hB.mat ht c).trans (meetL_neg hp hA.mat hB.mat ht c)
          rw [S_congr (g := fun k => -1 * ent (kern p n (A ++ B)) t (A.length + k) * ent B k c) fun k _ => by rw [Int.neg_mul (1 : Int), Int.one_mul]] at this
          exact this) (q - A.length) (by omega)
        rwa [show A.length + (q - A.length) = q by omega] at this
    · exact .inr hq
  obtain ⟨z1, z2⟩ := hK.lead hi
  rcases hd (ldN (kern p n (A ++ B)) i) with h | h
  · have h6 : (sm i fun j => a j * ent (kern p n (A ++ B)) j (ldN (kern p n (A ++ B)) i)) = 0 := by
      rw [S_congr (g := fun _ => 0) fun j hj => by rw [hK.red.zero i j hi (by omega) (by omega), Int.mul_zero], S_zero]
    rw [hK.red.one i hi, h6] at h
    exact not_dvd_one (p := p) (by omega) (by simpa using h)
  · omega
/-- sums of reduced lists -/
theorem ech_both {p : Int} (hp : IsP p) {n : Nat} {a b : List (List Int)} (ha : Mat p n a) (hb : Mat p n b) : ech p (ech p a ++ ech p b) = ech p (a ++ b) := by
  obtain ⟨a1, a2, a3⟩ := ech_spec hp ha
  obtain ⟨b1, b2, b3⟩ := ech_spec hp hb
  obtain ⟨m1, m2, m3⟩ := ech_spec hp (ha.append hb)
  refine ech_eq hp (a1.mat.append b1.mat) m1 (m3.trans ?_) (Sub.trans ?_ m2)
  · exact Sub.append (a2.trans (Sub.left _ _ _)) (b2.trans (Sub.right _ _ _))
  · exact Sub.append (a3.trans (Sub.left _ _ _)) (b3.trans (Sub.right _ _ _))
/-- the dimensions of the sum and of the meet add up -/
theorem sum_meet {p : Int} (hp : IsP p) {n : Nat} {a b : List (List Int)} (ha : Mat p n a) (hb : Mat p n b) : (ech p (meetL p n (ech p a) (ech p b))).length + (ech p (a ++ b)).length = (ech p a).length + (ech p b).length := by
  obtain ⟨a1, a2, a3⟩ := ech_spec hp ha
  obtain ⟨b1, b2, b3⟩ := ech_spec hp hb
  have h := rank_null hp (a1.mat.append b1.mat)
  rw [List.length_append, ech_both hp ha hb] at h
  rw [meetL_dim hp a1 b1]
  exact h
/-- the sum of the meet and the first space is the first space -/
theorem meet_in {p : Int} (hp : IsP p) {n : Nat} {a b : List (List Int)} (ha : Mat p n a) (hb : Mat p n b) : ech p (ech p (meetL p n (ech p a) (ech p b)) ++ a) = ech p a := by
  have hpp := hp.rng
  obtain ⟨a1, a2, a3⟩ := ech_spec hp ha
  obtain ⟨b1, b2, b3⟩ := ech_spec hp hb
  obtain ⟨m1, m2, m3⟩ := ech_spec hp (meetL_mat (p := p) (n := n) (a := ech p a) (b := ech p b) (by omega))
  refine ech_eq hp (m1.mat.append ha) a1 (a3.trans (Sub.right _ _ _)) (Sub.append ?_ a2)
  exact m3.trans (meetL_left hp a1.mat b1.mat)
end Go.Pl

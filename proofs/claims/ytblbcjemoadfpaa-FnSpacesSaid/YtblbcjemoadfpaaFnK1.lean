/- The program's kernel. No condition. -/
import Derived.Test.YtblbcjemoadfpaaFnE2
import Derived.Test.YtblbcjemoadfpaaFnA2
import Derived.Test.YtblbcjemoadfpaaFnK0
import Derived.Test.YtblbcjemoadfpaaPlK
set_option linter.unusedVariables false
set_option linter.unusedSimpArgs false
namespace Go.Gl
open Go.Proofs Go.Proofs.Ytblbcjemoadfpaa Go.Pl

/-- the zeros behind a row -/
def zrow (k : Nat) : List Int := List.replicate k 0
theorem zrow_map (k : Nat) : List.replicate k (Value.int .i64 0) = (zrow k).map (.int .i64) := by simp [zrow]
theorem unit_set {m i : Nat} (r : List Int) (hi : i < m) : (r ++ zrow m).set (r.length + i) 1 = r ++ unitv m i := by
  rw [List.set_append_right _ _ (by omega), show r.length + i - r.length = i by omega]
  congr 1
  rw [show zrow m = tab m (fun _ => 0) from tab_zero m, tab_set]; rfl
theorem zeroV_take {n : Nat} {r : List Int} : zeroV (r.take n) = zeroTo n r := by
  rw [Bool.eq_iff_iff, zeroTo_iff]
  unfold zeroV
  rw [decide_eq_true_iff, lead_neg]
  constructor
  · intro h c hc; rw [← ith_take hc]; exact h c
  · intro h c
    by_cases hc : c < n
    · rw [ith_take hc]; exact h c hc
    · exact ith_out (by simp; omega)
theorem tails_take {n i : Nat} {L : List (List Int)} (hi : i < L.length) : tails n (L.take (i + 1)) = if zeroTo n (row L i) then tails n (L.take i) ++ [(row L i).drop n] else tails n (L.take i) := by
  unfold tails
  rw [take_succ_row hi, List.filter_append, List.map_append]
  by_cases hz : zeroTo n (row L i) = true
  · simp [hz]
  · simp [hz]
theorem tails_len {n : Nat} (L : List (List Int)) : (tails n L).length ≤ L.length := by
  unfold tails
  rw [List.length_map]
  exact List.length_filter_le _ _

theorem kernel_c (h : AH) (p : Int) (n : Nat) (rv : Value) (rows : List (List Int)) (hp : IsP p) (hn : n ≤ 1000) (hr : RII h rv rows) (br : Mat p n rows) (hl : rows.length ≤ 1000) :
    ACalls Try.prog 108 [.int .i64 p, rv] h (Made OII h (kern p n rows)) := by
  have hpp := hp.rng
  obtain ⟨_, b1, o1, k1, c1⟩ := hr
  refine ACalls.madeN (ACalls.wk (args' := [.int .i64 p, .slice (some ⟨b1, o1, none⟩) rows.length 0]) ?_ (.cons (Wk.refl _) (.cons k1 .nil)))
  refine ACalls.of Tt.tab Try.func108 rfl (by kernel_rfl) Try.ntmps108 _ rfl rfl (fun hw => ?_)
  have S := Sep.start h
  refine BIf.mk (fun h1 => ?_) (fun h1 => ?_)
  · have h1 : rows.length = 0 := by simpa using h1
    have hr0 : rows = [] := List.length_eq_zero_iff.1 h1
    subst hr0
    have S := (S.nilrw OI.fr 71).rw_tr 0 rfl (by omega)
    exact S.fin 0 rfl
  have h1 : 0 < rows.length := by simp at h1; exact List.length_pos_iff.2 h1
  refine IdxX.mk (by omega) (by omega) ?_
  refine c1.row (Le.refl _) h1 fun b0 o0 c0 => ?_
  rw [(br.row h1).1]
  refine S.new fun b g S => ?_
  have S := S.bx_rw 0 OI.fr rfl
  refine ⟨⟨[0, 5, 6, 7, 23, 24, 25], fun n' vs g => ∃ (i b : Nat), n' = rows.length - i ∧ i ≤ rows.length ∧ Sep h.length h g [.rw OI.fr 71 h.length (.slice (some ⟨b, 0, none⟩) i 1) i (tabR i (fun i => row rows i ++ unitv rows.length i))] ∧
    vs = [.int .i64 p, .int .i64 rows.length, .int .i64 n, .slice (some ⟨b, 0, none⟩) i 1, .slice (some ⟨b1, o1, none⟩) rows.length 0, .int .i64 rows.length, .int .i64 i], _, ⟨0, b, rfl, Nat.zero_le _, S, rfl⟩, ?_⟩⟩
  rintro n' vs g ⟨i, b, rfl, hi, S, rfl⟩
  refine BIf.mk (fun h2 => ?_) (fun h2 => ?_)
  · have hlt : i < rows.length := by simpa using h2
    have hri := (br.row hlt).1
    refine IdxX.mk (by omega) (by omega) ?_
    refine c1.rowY S.le hlt fun b2 o2 h4 => ?_
    refine S.madeR (cloneR_c _ _ (row rows i) (RI.le _ _ _ _ S.le h4) (by omega)) fun A c g L S => ?_
    refine S.appZp (ie := Tt.ti2) 0 rfl h1 (by omega) fun b3 g S => ?_
    have S := S.recastR 0 (cells' := (row rows i ++ zrow rows.length).map (.int .i64)) rfl (by rw [List.map_append, ← zrow_map]; rfl)
    refine WR.i64 ?_
    refine IdxX.mk (by omega) (by omega) ?_
    refine S.storeR 0 (a := (row rows i).length + i) rfl (by simp [zrow]; omega) (fun g S => ?_) (by rw [hri]; show 0 + ((n : Int) + (i : Int)).toNat = 0 + (n + i); omega)
    rw [unit_set _ hlt] at S
    have S := S.rc_tr 0 rfl (by simp [unitv, tab_length]; omega)
    refine S.new fun b4 g S => ?_
    refine S.appT 0 rfl rfl (by omega) fun b5 g S => ?_
    refine WR.i64 ?_
    exact ⟨rows.length - (i + 1), by omega, i + 1, b5, rfl, hlt, by rw [tabR_succ]; exact S, rfl⟩
  have hi2 : i = rows.length := by simp at h2; omega
  subst hi2
  have hext : tabR rows.length (fun i => row rows i ++ unitv rows.length i) = extU rows.length rows := rfl
  rw [hext] at S
  have me := extU_mat (by omega) br rows.length
  have le := show (extU rows.length rows).length = rows.length from tabR_length _ _
  have rE : RII g (.slice (some ⟨b, 0, none⟩) rows.length 1) (extU rows.length rows) := S.rdw OI.reads 0 rfl (by omega)
  have sE := ech_spec hp me
  have lE := sE.1.len
  -- what is 0 ahead
  refine S.newL fun b2 g L S => ?_
  have S := S.bx_rc 0 (k := 0) rfl rfl
  refine S.made OII.fr (reduce_c _ p (n + rows.length) _ _ hp (by omega) (RII.le _ _ _ _ L rE) me (by omega)) fun b3 o3 g S => ?_
  obtain ⟨F, hle, S1, S2⟩ := S.alone 1 rfl
  clear S
  have c3 := S1.cellsII 0 rfl
  have hk : kern p n rows = tails n (ech p (extU rows.length rows)) := rfl
  have hL : ∀ r ∈ ech p (extU rows.length rows), r.length = n + rows.length := fun r hr => (sE.1.mat r hr).1
  have kR := kern_red hp br
  have kE := kern_ech hp br
  rw [← kE]
  rw [hk] at kR ⊢
  clear kE hk sE me le rE L
  generalize ech p (extU rows.length rows) = L at *
  refine ⟨⟨[0, 6, 11, 47, 48, 49], fun n' vs g2 => ∃ (i k b : Nat) (us : List Value), n' = L.length - i ∧ i ≤ L.length ∧ SepM F h.length (hide F g) g2 [.rc 71 1 h.length (.slice (some ⟨b, 0, none⟩) k 1) k us] ∧ Tell RI (hide F g) us (tails n (L.take i)) ∧ k ≤ i ∧
    vs = [.int .i64 p, .int .i64 n, .slice (some ⟨b, 0, none⟩) k 1, .slice (some ⟨b3, o3, none⟩) L.length 0, .int .i64 L.length, .int .i64 i], _, ⟨0, 0, b2, [], rfl, Nat.zero_le _, S2, Tell.nil _, Nat.le_refl _, rfl⟩, ?_⟩⟩
  rintro n' vs g2 ⟨i, k, b, us, rfl, hi, S, ht, hki, rfl⟩
  refine BIf.mk (fun h2 => ?_) (fun h2 => ?_)
  · have hlt : i < L.length := by simpa using h2
    have hri := hL _ (row_mem hlt)
    have hst := tails_take (n := n) hlt
    refine IdxX.mk (by omega) (by omega) ?_
    refine c3.row S.le hlt fun b4 o4 c4 => ?_
    rw [hri]
    refine ⟨by omega, by omega, by omega, ?_⟩
    refine CallX.same (isZero_c g2 _ ((row L i).take n) ?_) ?_
    · exact RI.le _ _ _ _ S.le (RI.part (d := 0) (k := n) c4 (by omega) (by omega))
    rintro r g3 ⟨rfl, rfl⟩
    rw [zeroV_take]
    refine BIf.mk (fun h3 => ?_) (fun h3 => ?_)
    · rw [if_pos h3] at hst
      refine ⟨by omega, by omega, by omega, ?_⟩
      have e4 : RI (hide F g) (.slice (some ⟨b4, o4 + n, none⟩) rows.length 0) ((row L i).drop n) := by
        have := RI.part (d := n) (k := rows.length) c4 (by omega) (by omega)
        rwa [List.take_of_length_le (by simp; omega)] at this
      refine S.new fun b5 g3 S => ?_
      refine S.app (ie := Tt.ti71) 0 rfl rfl rfl (by omega) fun b6 g3 S => ?_
      refine WR.i64 ?_
      have hq : (((n + rows.length : Nat) : Int).toNat - (n : Int).toNat) = rows.length := by omega
      refine ⟨L.length - (i + 1), by omega, i + 1, k + 1, b6, _, rfl, hlt, S, ?_, by omega, rfl⟩
      rw [hst]
      exact ht.snoc (by rw [← hq] at e4; exact e4)
    · rw [if_neg (by simp [h3])] at hst
      refine WR.i64 ?_
      exact ⟨L.length - (i + 1), by omega, i + 1, k, b, us, rfl, hlt, S, by rw [hst]; exact ht, by omega, rfl⟩
  have hi2 : i = L.length := by simp at h2; omega
  subst hi2
  rw [List.take_length] at ht
  refine S.made OII.fr (reduce_c _ p rows.length _ _ hp (by omega) (S.rdF 0 rfl (ht.le RI.le S.le) (by omega)) kR.mat (by have := tails_len (n := n) L; omega)) fun b7 o7 g3 S => ?_
  exact S.finB hle 0 rfl

end Go.Gl

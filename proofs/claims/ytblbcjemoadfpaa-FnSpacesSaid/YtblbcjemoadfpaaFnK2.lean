/- The reference's kernel. No condition. -/
import Derived.Test.YtblbcjemoadfpaaFnK1
set_option linter.unusedVariables false
set_option linter.unusedSimpArgs false
namespace Go.Gl
open Go.Proofs Go.Proofs.Ytblbcjemoadfpaa Go.Pl

theorem CS.box {h : AH} {b : Nat} {own : Option (TypeId × Nat)} {xs : List Int} (hl : look h b = some ⟨xs.map (.int .i64), own⟩) : CS EI h b 0 xs := fun k x hk => ⟨_, _, hl, by simp [hk], rfl⟩

theorem l01Kernel_c (h : AH) (p : Int) (n : Nat) (rv : Value) (rows : List (List Int)) (hp : IsP p) (hn : n ≤ 1000) (hr : RII h rv rows) (br : Mat p n rows) (hl : rows.length ≤ 1000) :
    ACalls Try.prog 111 [.int .i64 p, .int .i64 rows.length, rv] h (Made OII h (kern p n rows)) := by
  have hpp := hp.rng
  obtain ⟨_, b1, o1, k1, c1⟩ := hr
  refine ACalls.madeN (ACalls.wk (args' := [.int .i64 p, .int .i64 rows.length, .slice (some ⟨b1, o1, none⟩) rows.length 0]) ?_ (.cons (Wk.refl _) (.cons (Wk.refl _) (.cons k1 .nil))))
  refine ACalls.of Tt.tab Try.func111 rfl (by kernel_rfl) Try.ntmps111 _ rfl rfl (fun hw => ?_)
  have S := Sep.start h
  refine S.new fun b g S => ?_
  have S := S.bx_rw 0 OI.fr rfl
  refine ⟨⟨[0, 1, 2, 7, 8, 9], fun n' vs g => ∃ (i b : Nat), n' = rows.length - i ∧ i ≤ rows.length ∧ Sep h.length h g [.rw OI.fr 71 h.length (.slice (some ⟨b, 0, none⟩) i 1) i (tabR i (fun i => row rows i ++ unitv rows.length i))] ∧
    vs = [.int .i64 p, .int .i64 rows.length, .slice (some ⟨b1, o1, none⟩) rows.length 0, .slice (some ⟨b, 0, none⟩) i 1, .int .i64 (if i = 0 then 0 else (n : Int)), .int .i64 i], _, ⟨0, b, rfl, Nat.zero_le _, S, rfl⟩, ?_⟩⟩
  rintro n' vs g ⟨i, b, rfl, hi, S, rfl⟩
  refine BIf.mk (fun h2 => ?_) (fun h2 => ?_)
  · have hlt : i < rows.length := by simpa using h2
    have hri := (br.row hlt).1
    refine ⟨by omega, rfl, by omega, by show (rows.length : Int) * (8 : Nat) ≤ _; omega, ?_⟩
    refine S.new fun bu g S => ?_
    have S := S.recast 0 rfl (zeros_tab _)
    refine IdxX.mk (by omega) (by simp; omega) ?_
    refine S.storeT 0 (k := i) rfl hlt fun g S => ?_
    refine IdxX.mk (by omega) (by omega) ?_
    refine c1.row S.le hlt fun b2 o2 c2 => ?_
    refine IdxX.mk (by omega) (by omega) ?_
    refine c1.rowY S.le hlt fun b2 o2 h4 => ?_
    refine S.madeR (l01OwnR_c _ _ (row rows i) (RI.le _ _ _ _ S.le h4) (by omega)) fun A c g L S => ?_
    refine S.appNs (ie := Tt.ti2) (m := rows.length) 0 rfl (Le.refl g) (CS.box (S.at_ 1 rfl)) (tab_length _ _) (show (row rows i).length + rows.length ≤ 10000000000 by omega) fun A c g S => ?_
    have S := S.recastR 0 (cells' := (row rows i ++ unitv rows.length i).map (.int .i64)) rfl (by rw [List.map_append]; rfl)
    have S := S.rc_tr 0 rfl (by simp [unitv, tab_length]; omega)
    refine S.new fun b4 g S => ?_
    refine S.appT 1 rfl rfl (by omega) fun b5 g S => ?_
    refine WR.i64 ?_
    refine ⟨rows.length - (i + 1), by omega, i + 1, b5, rfl, hlt, by rw [tabR_succ]; exact S.drop 0, ?_⟩
    rw [if_neg (show ¬ i + 1 = 0 by omega), ← hri]
    rfl
  have hi2 : i = rows.length := by simp at h2; omega
  subst hi2
  have hext : tabR rows.length (fun i => row rows i ++ unitv rows.length i) = extU rows.length rows := rfl
  rw [hext] at S
  have me := extU_mat (by omega) br rows.length
  have le := show (extU rows.length rows).length = rows.length from tabR_length _ _
  have rE : RII g (.slice (some ⟨b, 0, none⟩) rows.length 1) (extU rows.length rows) := S.rdw OI.reads 0 rfl (by omega)
  have sE := ech_spec hp me
  have lE := sE.1.len
  refine S.madeL OII.fr (l01Echelon_c _ p (n + rows.length) _ _ hp (by omega) rE me (by omega)) fun b3 o3 g L S => ?_
  have c3 := S.cellsII 0 rfl
  have hnl := S.nl
  have hle := S.le
  replace S := S.freeze
  have hk : kern p n rows = tails n (ech p (extU rows.length rows)) := rfl
  have hL : ∀ r ∈ ech p (extU rows.length rows), r.length = n + rows.length := fun r hr => (sE.1.mat r hr).1
  have hld : ∀ i, i < (ech p (extU rows.length rows)).length → (zeroTo n (row (ech p (extU rows.length rows)) i) = true ↔ (n : Int) ≤ lead (row (ech p (extU rows.length rows)) i)) := fun i hi => by
    rw [sE.1.zeroTo (by omega) hi, (sE.1.lead hi).1]; omega
  have h0 : rows.length = 0 → ech p (extU rows.length rows) = [] := fun h => List.length_eq_zero_iff.1 (by
    have : extU rows.length rows = [] := List.length_eq_zero_iff.1 (by omega)
    rw [this]; rfl)
  rw [hk]
  clear hk sE me le rE L
  generalize ech p (extU rows.length rows) = L at *
  refine S.new fun b6 g2 S => ?_
  have S := S.bx_rw 0 OI.fr rfl
  refine ⟨⟨[8, 11, 12, 13], fun n' vs g2 => ∃ (i k b : Nat), n' = L.length - i ∧ i ≤ L.length ∧ Sep h.length g g2 [.rw OI.fr 71 h.length (.slice (some ⟨b, 0, none⟩) k 1) k (tails n (L.take i))] ∧ k ≤ i ∧
    vs = [.int .i64 (if rows.length = 0 then 0 else (n : Int)), .slice (some ⟨b3, o3, none⟩) L.length 0, .slice (some ⟨b, 0, none⟩) k 1, .int .i64 i], _, ⟨0, 0, b6, rfl, Nat.zero_le _, S, Nat.le_refl _, rfl⟩, ?_⟩⟩
  rintro n' vs g3 ⟨i, k, b, rfl, hi, S, hki, rfl⟩
  refine BIf.mk (fun h2 => ?_) (fun h2 => ?_)
  · have hlt : i < L.length := by simpa using h2
    have hri := hL _ (row_mem hlt)
    have hst := tails_take (n := n) hlt
    have hz : rows.length ≠ 0 := fun h => by rw [h0 h] at hlt; simp at hlt
    rw [if_neg hz]
    refine IdxX.mk (by omega) (by omega) ?_
    refine c3.rowY S.le hlt fun b4 o4 h4 => ?_
    refine CallX.same (l01Lead_c g3 _ (row L i) (RI.le _ _ _ _ S.le h4)) ?_
    rintro r g4 ⟨rfl, rfl⟩
    refine BIf.mk (fun h3 => ?_) (fun h3 => ?_)
    · have h3 : (n : Int) ≤ lead (row L i) := by simpa using h3
      rw [if_pos ((hld i hlt).2 h3)] at hst
      refine IdxX.mk (by omega) (by omega) ?_
      refine c3.row S.le hlt fun b4 o4 c4 => ?_
      rw [hri]
      refine ⟨by omega, by omega, by omega, ?_⟩
      have e4 : RI g (.slice (some ⟨b4, o4 + n, none⟩) rows.length 0) ((row L i).drop n) := by
        have := RI.part (d := n) (k := rows.length) c4 (by omega) (by omega)
        rwa [List.take_of_length_le (by simp; omega)] at this
      have hq : (((n + rows.length : Nat) : Int).toNat - (n : Int).toNat) = rows.length := by omega
      rw [← hq] at e4
      refine S.made OI.fr (l01Own_c _ _ ((row L i).drop n) (RI.le _ _ _ _ S.le e4) (by simp; omega)) fun b5 o5 g4 S => ?_
      refine S.new fun b6 g4 S => ?_
      refine S.appT 0 rfl rfl (by omega) fun b7 g4 S => ?_
      refine WR.i64 ?_
      refine ⟨L.length - (i + 1), by omega, i + 1, k + 1, b7, rfl, hlt, ?_, by omega, rfl⟩
      rw [hst]; exact S
    · have h3 : ¬ (n : Int) ≤ lead (row L i) := by simpa using h3
      rw [if_neg (fun h => h3 ((hld i hlt).1 h))] at hst
      refine WR.i64 ?_
      exact ⟨L.length - (i + 1), by omega, i + 1, k, b, rfl, hlt, by rw [hst]; exact S, by omega, rfl⟩
  have hi2 : i = L.length := by simp at h2; omega
  subst hi2
  rw [List.take_length] at S
  exact (S.rw_tr 0 rfl (by omega)).finB hle 0 rfl

end Go.Gl

/- Chapter 7: Smith numbers of the reference; SmithNumbers, RankOfWhole. No condition. -/
import Derived.Test.YtbjohihngoghlaaFnD5
set_option linter.unusedVariables false
set_option linter.unusedSimpArgs false
namespace Go.Gl
open Go.Proofs Go.Proofs.Ytbjohihngoghlaa Go.Pl

theorem gRow_split {f : List Int → Int} {C : List (List Int)} {g : Nat} (j : Nat) : gRow f C g = gRow f (C.drop j) (gRow f (C.take j) g) := by
  conv => lhs; rw [← List.take_append_drop j C]
  unfold gRow
  rw [List.foldl_append]

theorem l07Smith_c (h : AH) (v : Value) (rows : List (List Int)) (hx : RII h v rows) (hm : WMat rows) : ACalls Try.prog 152 [v] h (Made OI h (smith rows)) := by
  obtain ⟨b1, o1, k1, hx⟩ := hx.can
  have c1 := hx.cells rfl
  refine ACalls.madeI (ACalls.wk (args' := [.slice (some ⟨b1, o1, none⟩) rows.length 0]) ?_ (.cons k1 .nil))
  refine ACalls.of Tt.tab Try.func152 rfl (by kernel_rfl) Try.ntmps152 _ rfl rfl (fun hw => ?_)
  have hrf := hm.few
  have hrw := hm.wide
  have S0 := Sep.start h
  refine S0.new fun b2 g0 S0 => ?_
  have S1 := S0.bx_rc 0 (k := 0) rfl rfl
  refine BIf.mk (fun h1 => ?_) (fun h1 => ?_)
  · have h1 : rows.length = 0 := by simpa using h1
    have : rows = [] := List.length_eq_zero_iff.1 h1
    subst this
    exact (S1.rc_tr 0 (xs := []) rfl (by simp)).fin 0 rfl
  have h1 : 0 < rows.length := by simp at h1; exact List.length_pos_iff.2 h1
  refine DrawX.of Tt.tab follows_any [] [] [0, 1, 2, 3, 4, 5, 6, 7, 8] rfl (by kernel_rfl) (by kernel_rfl) ?_
  refine IdxX.mk (by omega) (by omega) ?_
  refine c1.row S1.le h1 fun b0 o0 c0 => ?_
  rw [show (row rows 0).length = wid rows from rfl]
  refine ⟨⟨[0, 3, 4, 5, 6, 7], fun n' vs g => ∃ (k : Nat) (o : List Int) (b : Nat) (M : Nat → Prop) (hb : AH), n' = min rows.length (wid rows) + 1 - k ∧ 1 ≤ k ∧ k ≤ min rows.length (wid rows) + 1 ∧ Le h hb ∧ SepM M h.length hb g [.rc 2 1 h.length (.slice (some ⟨b, 0, none⟩) o.length 1) o.length (o.map (.int .i64))] ∧
    o ++ smithF rows k (min rows.length (wid rows) + 1 - k) = smith rows ∧ o.length ≤ 100 ∧ gmin rows (k - 1) ≠ 0 ∧ gmin rows (k - 1) ≤ 24794911296 ∧
    vs = [.slice (some ⟨b1, o1, none⟩) rows.length 0, .slice (some ⟨b, 0, none⟩) o.length 1, .int .i64 rows.length, .int .i64 (wid rows), .int .i64 (gmin rows (k - 1) : Nat), .int .i64 k], _, ⟨1, [], b2, _, h, rfl, by omega, by omega, Le.refl _, S1, rfl, by simp, by rw [gmin_zero]; decide, by rw [gmin_zero]; decide, by rw [gmin_zero]; rfl⟩, ?_⟩⟩
  clear S0 S1
  rintro n' vs g ⟨k, o, b, M, hb, rfl, hk1, hk2, hlb, S, ho, hol, hz, hzb, rfl⟩
  refine BIf.mk (fun h2 => ?_) (fun h2 => ?_)
  · have h2 : k ≤ rows.length ∧ k ≤ wid rows := by
      have := of_decide_eq_true h2
      split at this <;> omega
    obtain ⟨h2, h3⟩ := h2
    have hpow : ∀ n j, n ≤ 6 → j ≤ 6 → n ^ j ≤ 46656 := fun n j hn hj => Nat.le_trans (Nat.pow_le_pow_left hn j) (Nat.le_trans (Nat.pow_le_pow_right (by decide) hj) (by decide))
    have lL := Nat.le_trans (chS_len rows.length k) (hpow _ k hrf (by omega))
    have lC := Nat.le_trans (chS_len (wid rows) k) (hpow _ k hrw (by omega))
    have mL : ∀ l, l ∈ chS rows.length k → l.length = k ∧ Asc rows.length l := fun l hl => (mem_chS _ _ _).1 hl
    have mC : ∀ c, c ∈ chS (wid rows) k → c.length = k ∧ Asc (wid rows) c := fun c hc => (mem_chS _ _ _).1 hc
    have hgm := gmin_spec rows k
    have hdv : ∀ l c, l ∈ chS rows.length k → c ∈ chS (wid rows) k → gmin rows (k - 1) ∣ (minor rows l c).natAbs := fun l c hl hc =>
      gmin_dvd rows (k - 1) ⟨by rw [(mL l hl).1]; omega, (mL l hl).2⟩ ⟨by rw [(mC c hc).1]; omega, (mC c hc).2⟩
    have hgb : ∀ i, gTab (minor rows) ((chS rows.length k).take i) (chS (wid rows) k) 0 ≤ 24794911296 := fun i =>
      gTab_le (by omega) fun l hl c hc => minor_abs hm (mL l (List.mem_of_mem_take hl)).2 (mC c hc).2 (by rw [(mL l (List.mem_of_mem_take hl)).1]; omega) (by rw [(mC c hc).1]; omega)
    refine S.made OII.fr (l07Choices_c g rows.length k hrf (by omega)) fun bL oL g1 S1 => ?_
    refine S1.made OII.fr (l07Choices_c g1 (wid rows) k hrw (by omega)) fun bC oC g2 S2 => ?_
    obtain ⟨F, hle, T, U⟩ := S2.alone 2 rfl
    have hle := hlb.trans hle
    have cL := T.cellsII 1 rfl
    have cC := T.cellsII 0 rfl
    clear S S1 S2 T
    generalize hLe : chS rows.length k = Ls at *
    generalize hCe : chS (wid rows) k = Cs at *
    refine ⟨⟨[0, 3, 4, 5, 6, 7, 8, 9, 10, 11], fun n' vs g => ∃ i : Nat, n' = Ls.length - i ∧ i ≤ Ls.length ∧ g = g2 ∧
      vs = [.slice (some ⟨b1, o1, none⟩) rows.length 0, .slice (some ⟨b, 0, none⟩) o.length 1, .int .i64 rows.length, .int .i64 (wid rows), .int .i64 (gmin rows (k - 1) : Nat), .int .i64 k, .slice (some ⟨bL, oL, none⟩) Ls.length 0, .slice (some ⟨bC, oC, none⟩) Cs.length 0, .int .i64 (gTab (minor rows) (Ls.take i) Cs 0 : Nat), .int .i64 i], _, ⟨0, rfl, Nat.zero_le _, rfl, rfl⟩, ?_⟩⟩
    rintro n' vs g ⟨i, rfl, hi, rfl, rfl⟩
    refine BIf.mk (fun h4 => ?_) (fun h4 => ?_)
    · have hlt : i < Ls.length := by simpa using h4
      obtain ⟨hl1, hl2⟩ := mL _ (row_mem hlt)
      have hst : gTab (minor rows) (Ls.take (i + 1)) Cs 0 = gRow (minor rows (row Ls i)) Cs (gTab (minor rows) (Ls.take i) Cs 0) := gTab_take hlt
      have hgi := hgb i
      refine ⟨⟨[0, 3, 4, 5, 6, 7, 8, 9, 10, 11, 12], fun n' vs g' => ∃ j : Nat, n' = Cs.length - j ∧ j ≤ Cs.length ∧ g' = g ∧
        vs = [.slice (some ⟨b1, o1, none⟩) rows.length 0, .slice (some ⟨b, 0, none⟩) o.length 1, .int .i64 rows.length, .int .i64 (wid rows), .int .i64 (gmin rows (k - 1) : Nat), .int .i64 k, .slice (some ⟨bL, oL, none⟩) Ls.length 0, .slice (some ⟨bC, oC, none⟩) Cs.length 0, .int .i64 (gRow (minor rows (row Ls i)) (Cs.take j) (gTab (minor rows) (Ls.take i) Cs 0) : Nat), .int .i64 i, .int .i64 j], _, ⟨0, rfl, Nat.zero_le _, rfl, rfl⟩, ?_⟩⟩
      rintro n' vs g' ⟨j, rfl, hj, rfl, rfl⟩
      refine BIf.mk (fun h7 => ?_) (fun h7 => ?_)
      · have hlj : j < Cs.length := by simpa using h7
        refine BIf.mk (fun h8 => ?_) (fun h8 => ?_)
        · have h8 : gRow (minor rows (row Ls i)) (Cs.take j) (gTab (minor rows) (Ls.take i) Cs 0) = gmin rows (k - 1) := by simp at h8; omega
          refine WR.i64 ?_
          refine ⟨Ls.length - (i + 1), by omega, i + 1, rfl, hlt, rfl, ?_⟩
          have e : gTab (minor rows) (Ls.take (i + 1)) Cs 0 = gRow (minor rows (row Ls i)) (Cs.take j) (gTab (minor rows) (Ls.take i) Cs 0) := by
            rw [hst, gRow_split j, h8]
            exact gRow_stay fun c hc => hdv _ _ (row_mem hlt) (List.mem_of_mem_drop hc)
          rw [e]; rfl
        obtain ⟨hc1, hc2⟩ := mC _ (row_mem hlj)
        obtain ⟨z1, z2⟩ := pick_ok hm hl2 hc2
        have hab := minor_abs hm hl2 hc2 (by omega) (by omega)
        have hgr : gRow (minor rows (row Ls i)) (Cs.take j) (gTab (minor rows) (Ls.take i) Cs 0) ≤ 24794911296 := gRow_le hgi fun c hc => minor_abs hm hl2 (mC c (List.mem_of_mem_take hc)).2 (by omega) (by rw [(mC c (List.mem_of_mem_take hc)).1]; omega)
        refine DrawX.of Tt.tab follows_any [] [] [0, 1, 2, 3, 4, 5, 6, 7, 8, 9, 10, 11, 12] rfl (by kernel_rfl) (by kernel_rfl) ?_
        refine IdxX.mk (by omega) (by omega) ?_
        refine cL.rowY U.le hlt fun b4 o4 h5 => ?_
        refine IdxX.mk (by omega) (by omega) ?_
        refine cC.rowY U.le hlj fun b5 o5 h6 => ?_
        refine QCall.of (fun g3 hl => l07Det_c rows (by omega) (wmat_small hm.mat) (row Ls i) g3 _ _ _ (row Cs j) (by omega) (RII.le _ _ _ _ (hle.trans (U.le.trans hl)) hx) (RI.le _ _ _ _ (U.le.trans hl) h5) (RI.le _ _ _ _ (U.le.trans hl) h6) (fun x hx => by have := hl2.1 x hx; omega) (by omega) z2) rfl ?_
        refine QCall.of (fun g3 hl => l07Gcd_c g3 _ (det (pick rows (row Ls i)) (row Cs j)) (by omega) (by unfold minor at hab; omega)) rfl ?_
        refine WR.i64 ?_
        refine ⟨Cs.length - (j + 1), by omega, j + 1, rfl, hlj, rfl, ?_⟩
        rw [gRow_take hlj]; rfl
      have hj2 : j = Cs.length := by simp at h7; omega
      subst hj2
      refine WR.i64 ?_
      refine ⟨Ls.length - (i + 1), by omega, i + 1, rfl, hlt, rfl, ?_⟩
      rw [hst, List.take_length]; rfl
    · have hi2 : i = Ls.length := by simp at h4; omega
      subst hi2
      rw [List.take_length, hgm]
      have hgk := hgb Ls.length
      rw [List.take_length, hgm] at hgk
      have hsF : smithF rows k (min rows.length (wid rows) + 1 - k) = if gmin rows k = 0 then [] else ((gmin rows k / gmin rows (k - 1) : Nat) : Int) :: smithF rows (k + 1) (min rows.length (wid rows) - k) := by
        rw [show min rows.length (wid rows) + 1 - k = (min rows.length (wid rows) - k) + 1 by omega]; rfl
      refine BIf.mk (fun h5 => ?_) (fun h5 => ?_)
      · have h5 : gmin rows k = 0 := by simpa using h5
        rw [hsF, if_pos h5, List.append_nil] at ho
        rw [← ho]
        exact (U.rc_tr 0 rfl (by omega)).finB hle 0 rfl
      · have h5 : gmin rows k ≠ 0 := by simpa using h5
        rw [hsF, if_neg h5] at ho
        refine ⟨by omega, ?_⟩
        have hqb := Nat.div_le_self (gmin rows k) (gmin rows (k - 1))
        have hsl : o.length + 1 ≤ 6 := by
          have h8 := congrArg List.length ho
          have h9 := smithF_len rows (min rows.length (wid rows)) 1
          rw [List.length_append, List.length_cons] at h8
          unfold smith at h8
          omega
        obtain ⟨d, hd⟩ : ∃ d, gmin rows k / gmin rows (k - 1) = d := ⟨_, rfl⟩
        have hdi : ((gmin rows k : Nat) : Int).tdiv ((gmin rows (k - 1) : Nat) : Int) = (d : Int) := by rw [← hd]; rfl
        rw [hd] at ho hqb
        refine WR.as (r := (d : Int)) hdi ?_
        refine U.new fun b5 g S => ?_
        refine S.app (ie := Tt.ti2) 0 rfl rfl rfl (by omega) fun b6 g S => ?_
        refine WR.i64 ?_
        refine ⟨min rows.length (wid rows) + 1 - (k + 1), by omega, k + 1, o ++ [(d : Int)], b6, F, _, rfl, by omega, by omega, hle, ?_, ?_, ?_, h5, hgk, ?_⟩
        · rw [List.map_append, List.length_append]; exact S
        · rw [List.append_assoc, ← ho, show min rows.length (wid rows) + 1 - (k + 1) = min rows.length (wid rows) - k by omega]; rfl
        · rw [List.length_append]; simp; omega
        · rw [List.length_append]; rfl
  · have h2 : ¬ (k ≤ rows.length ∧ k ≤ wid rows) := by
      have := of_decide_eq_false h2
      split at this <;> omega
    rw [show min rows.length (wid rows) + 1 - k = 0 by omega] at ho
    have ho : o = smith rows := by rw [← ho]; simp [smithF]
    rw [← ho]
    exact (S.rc_tr 0 rfl (by omega)).finB hlb 0 rfl

def matOk (rows : List (List Int)) : Bool := decide (rows.length ≤ 6) && decide (0 ≤ (wid rows : Int) ∧ (wid rows : Int) ≤ 6) && wmat (wid rows) rows
theorem matOk_mk {rows : List (List Int)} (h : matOk rows = true) : WMat rows := by
  simp only [matOk, Bool.and_eq_true, decide_eq_true_eq] at h
  exact ⟨h.1.1, by omega, h.2⟩
def smithNum (rows : List (List Int)) : List Int × Int := if matOk rows then (smith rows, 0) else ([], 2)
def rankOf (rows : List (List Int)) : Int × Int := if matOk rows then ((smith rows).length, 0) else (0, 2)
theorem smithNum_cn (rows : List (List Int)) : cnI (smithNum rows).1 ≤ 100 := by
  unfold smithNum
  split
  · rename_i h
    have := smithF_len rows (min rows.length (wid rows)) 1
    have := (matOk_mk h).few
    simp only [cnI, smith]
    omega
  · simp [cnI]

end Go.Gl

/- Chapter 7: Smith numbers of the program. No condition. -/
import Derived.Test.YtbjohihngoghlaaFnD4
set_option linter.unusedVariables false
set_option linter.unusedSimpArgs false
namespace Go.Gl
open Go.Proofs Go.Proofs.Ytbjohihngoghlaa Go.Pl

/-- a matrix of any size -/
structure WMat (rows : List (List Int)) : Prop where
  few : rows.length ≤ 6
  wide : wid rows ≤ 6
  mat : wmat (wid rows) rows = true
theorem pick_ok {rows : List (List Int)} (hm : WMat rows) {l c : List Int} (hl : Asc rows.length l) (hc : Asc (wid rows) c) : (∀ r ∈ pick rows l, Small r) ∧ Cols (pick rows l) c := by
  refine ⟨fun r hr => ?_, fun x hx => ?_⟩
  · simp only [pick, List.mem_map] at hr
    obtain ⟨i, hi, rfl⟩ := hr
    have := hl.1 i hi
    exact wmat_small hm.mat _ (row_mem (by omega))
  · have hx := hc.1 x hx
    refine ⟨hx.1, fun r hr => ?_⟩
    simp only [pick, List.mem_map] at hr
    obtain ⟨i, hi, rfl⟩ := hr
    have := hl.1 i hi
    have := wmat_len hm.mat _ (row_mem (rows := rows) (i := i.toNat) (by omega))
    omega
theorem pick_length (rows : List (List Int)) (l : List Int) : (pick rows l).length = l.length := by simp [pick]
theorem minor_abs {rows : List (List Int)} (hm : WMat rows) {l c : List Int} (hl : Asc rows.length l) (hc : Asc (wid rows) c) (hll : l.length ≤ 6) (hcl : c.length ≤ 6) : (minor rows l c).natAbs ≤ 24794911296 := by
  obtain ⟨h1, h2⟩ := pick_ok hm hl hc
  have h3 := det_abs (pick rows l) c h1 hcl
  have h4 := pw6 (m := (pick rows l).length) (by rw [pick_length]; exact hll)
  unfold minor
  omega
theorem gcd_cast (g : Nat) (x : Int) : ((Int.gcd (g : Int) x : Nat) : Int) = ((Nat.gcd g x.natAbs : Nat) : Int) := rfl

theorem smith_c (h : AH) (v : Value) (rows : List (List Int)) (hx : RII h v rows) (hm : WMat rows) : ACalls Try.prog 202 [v] h (Made OI h (smith rows)) := by
  obtain ⟨b1, o1, k1, hx⟩ := hx.can
  have c1 := hx.cells rfl
  refine ACalls.madeI (ACalls.wk (args' := [.slice (some ⟨b1, o1, none⟩) rows.length 0]) ?_ (.cons k1 .nil))
  refine ACalls.of Tt.tab Try.func202 rfl (by kernel_rfl) Try.ntmps202 _ rfl rfl (fun hw => ?_)
  have hrf := hm.few
  have hrw := hm.wide
  have S0 := Sep.start h
  refine S0.new fun b2 g0 S0 => ?_
  have S1 := S0.bx_rc 0 (k := 0) rfl rfl
  refine ⟨⟨[0, 3, 4, 5], fun n' vs g => ∃ (k : Nat) (o : List Int) (b : Nat) (M : Nat → Prop) (hb : AH), n' = min rows.length (wid rows) + 1 - k ∧ 1 ≤ k ∧ k ≤ min rows.length (wid rows) + 1 ∧ Le h hb ∧ SepM M h.length hb g [.rc 2 1 h.length (.slice (some ⟨b, 0, none⟩) o.length 1) o.length (o.map (.int .i64))] ∧
    o ++ smithF rows k (min rows.length (wid rows) + 1 - k) = smith rows ∧ o.length ≤ 100 ∧ gmin rows (k - 1) ≠ 0 ∧ gmin rows (k - 1) ≤ 24794911296 ∧
    vs = [.slice (some ⟨b1, o1, none⟩) rows.length 0, .slice (some ⟨b, 0, none⟩) o.length 1, .int .i64 (gmin rows (k - 1) : Nat), .int .i64 k], _, ⟨1, [], b2, _, h, rfl, by omega, by omega, Le.refl _, S1, rfl, by simp, by rw [gmin_zero]; decide, by rw [gmin_zero]; decide, by rw [gmin_zero]; rfl⟩, ?_⟩⟩
  clear S0 S1
  rintro n' vs g ⟨k, o, b, M, hb, rfl, hk1, hk2, hlb, S, ho, hol, hz, hzb, rfl⟩
  refine BIf.mk (fun h2 => ?_) (fun h2 => ?_)
  · have h2 : k ≤ rows.length := by simpa using h2
    refine CallX.same (width_c g _ rows (RII.le _ _ _ _ (hlb.trans S.le) hx)) ?_
    rintro r g ⟨rfl, rfl⟩
    refine BIf.mk (fun h3 => ?_) (fun h3 => ?_)
    · have h3 : k ≤ wid rows := by simp at h3; omega
      have lL := chI_len rows.length k
      have lC := chI_len (wid rows) k
      have p6 : ∀ m, m ≤ 6 → 2 ^ m ≤ 64 := fun m hm => Nat.le_trans (Nat.pow_le_pow_right (by decide) hm) (by decide)
      have lL := Nat.le_trans lL (p6 _ hrf)
      have lC := Nat.le_trans lC (p6 _ hrw)
      have mL : ∀ l, l ∈ chI rows.length k → l.length = k ∧ Asc rows.length l := fun l hl => (mem_chI _ _ _).1 hl
      have mC : ∀ c, c ∈ chI (wid rows) k → c.length = k ∧ Asc (wid rows) c := fun c hc => (mem_chI _ _ _).1 hc
      have hgm : gmin rows k = gTab (minor rows) (chI rows.length k) (chI (wid rows) k) 0 := rfl
      have hgb : ∀ i, gTab (minor rows) ((chI rows.length k).take i) (chI (wid rows) k) 0 ≤ 24794911296 := fun i =>
        gTab_le (by omega) fun l hl c hc => minor_abs hm (mL l (List.mem_of_mem_take hl)).2 (mC c hc).2 (by rw [(mL l (List.mem_of_mem_take hl)).1]; omega) (by rw [(mC c hc).1]; omega)
      refine S.madeW (choices_c rows.length k g hrf (by omega)) fun A q g1 L S1 => ?_
      obtain ⟨F, hle, T, U⟩ := S1.alone 1 rfl
      have hle := hlb.trans hle
      have rL := T.rdw OJ.reads 0 rfl (by omega)
      have hlit := fun h0 => T.rw_lit 0 rfl h0
      clear S S1 T L
      generalize hLe : chI rows.length k = Ls at *
      generalize hCe : chI (wid rows) k = Cs at *
      refine ⟨⟨[0, 3, 4, 5, 6, 30, 31, 32], fun n' vs g => ∃ i : Nat, n' = Ls.length - i ∧ i ≤ Ls.length ∧ SepM F h.length (hide F g1) g [.rc 2 1 h.length (.slice (some ⟨b, 0, none⟩) o.length 1) o.length (o.map (.int .i64))] ∧
        vs = [.slice (some ⟨b1, o1, none⟩) rows.length 0, .slice (some ⟨b, 0, none⟩) o.length 1, .int .i64 (gmin rows (k - 1) : Nat), .int .i64 k, .int .i64 (gTab (minor rows) (Ls.take i) Cs 0 : Nat), .slice A Ls.length q, .int .i64 Ls.length, .int .i64 i], _, ⟨0, rfl, Nat.zero_le _, U, rfl⟩, ?_⟩⟩
      clear U
      rintro n' vs g ⟨i, rfl, hi, S, rfl⟩
      refine BIf.mk (fun h4 => ?_) (fun h4 => ?_)
      · have hlt : i < Ls.length := by simpa using h4
        obtain ⟨bL, rfl, rfl⟩ := hlit (by omega)
        have cL := rL.cells1 rfl
        obtain ⟨hl1, hl2⟩ := mL _ (row_mem hlt)
        refine IdxX.mk (by omega) (by omega) ?_
        refine cL.rowY S.le hlt fun b4 o4 h5 => ?_
        have hst : gTab (minor rows) (Ls.take (i + 1)) Cs 0 = gRow (minor rows (row Ls i)) Cs (gTab (minor rows) (Ls.take i) Cs 0) := gTab_take hlt
        have hgi := hgb i
        generalize row Ls i = l at *
        have c4 := h5.cells rfl
        refine S.new fun b5 g S => ?_
        have S := S.bx_rc 0 (k := 0) rfl rfl
        refine ⟨⟨[0, 3, 4, 5, 6, 9, 30, 31, 32, 37, 38, 39], fun n' vs g => ∃ (a b9 : Nat) (us : List Value), n' = l.length - a ∧ a ≤ l.length ∧ SepM F h.length (hide F g1) g [.rc 22 1 h.length (.slice (some ⟨b9, 0, none⟩) a 1) a us, .rc 2 1 h.length (.slice (some ⟨b, 0, none⟩) o.length 1) o.length (o.map (.int .i64))] ∧ Tell RI (hide F g1) us (pick rows (l.take a)) ∧
          vs = [.slice (some ⟨b1, o1, none⟩) rows.length 0, .slice (some ⟨b, 0, none⟩) o.length 1, .int .i64 (gmin rows (k - 1) : Nat), .int .i64 k, .int .i64 (gTab (minor rows) (Ls.take i) Cs 0 : Nat), .slice (some ⟨b9, 0, none⟩) a 1, .slice (some ⟨bL, 0, none⟩) Ls.length 1, .int .i64 Ls.length, .int .i64 i, .slice (some ⟨b4, o4, none⟩) l.length 0, .int .i64 l.length, .int .i64 a], _, ⟨0, b5, [], rfl, Nat.zero_le _, S, Tell.nil _, rfl⟩, ?_⟩⟩
        clear S
        rintro n' vs g ⟨a, b9, us, rfl, ha, S, ht, rfl⟩
        refine BIf.mk (fun h6 => ?_) (fun h6 => ?_)
        · have hla : a < l.length := by simpa using h6
          have hra := hl2.1 _ (ith_mem hla)
          refine IdxX.mk (by omega) (by omega) ?_
          refine c4.ith S.le hla ?_
          refine IdxX.mk (by omega) (by omega) ?_
          refine c1.rowY (k := (ith l a).toNat) (hle.trans S.le) (by omega) fun b6 o6 h7 => ?_
          refine S.new fun b7 g S => ?_
          refine S.app (ie := Tt.ti22) 0 rfl rfl rfl (by omega) fun b8 g S => ?_
          refine WR.i64 ?_
          refine ⟨l.length - (a + 1), by omega, a + 1, b8, _, rfl, hla, S, ?_, rfl⟩
          rw [take_succ_ith hla]
          unfold pick
          rw [List.map_append]
          exact ht.snoc (RI.le _ _ _ _ hle h7)
        have ha2 : a = l.length := by simp at h6; omega
        subst ha2
        rw [List.take_length] at ht
        refine CallX.same (width_c g _ rows (RII.le _ _ _ _ (hle.trans S.le) hx)) ?_
        rintro r g ⟨rfl, rfl⟩
        have hcc := choices_c (wid rows) k g hrw (by omega)
        rw [hCe] at hcc
        refine S.madeW hcc fun A2 q2 g2 L S2 => ?_
        have rP : RII g2 (.slice (some ⟨b9, 0, none⟩) l.length 1) (pick rows l) := S2.rdF 1 rfl (ht.le RI.le S2.le) (by omega)
        have rC := S2.rdw OJ.reads 0 rfl (by omega)
        have hlit2 := fun h0 => S2.rw_lit 0 rfl h0
        have Sout := (S2.drop 0).drop 0
        clear S S2 L
        refine ⟨⟨[0, 3, 4, 5, 6, 9, 30, 31, 32, 54, 55, 56], fun n' vs g => ∃ j : Nat, n' = Cs.length - j ∧ j ≤ Cs.length ∧ g = g2 ∧
          vs = [.slice (some ⟨b1, o1, none⟩) rows.length 0, .slice (some ⟨b, 0, none⟩) o.length 1, .int .i64 (gmin rows (k - 1) : Nat), .int .i64 k, .int .i64 (gRow (minor rows l) (Cs.take j) (gTab (minor rows) (Ls.take i) Cs 0) : Nat), .slice (some ⟨b9, 0, none⟩) l.length 1, .slice (some ⟨bL, 0, none⟩) Ls.length 1, .int .i64 Ls.length, .int .i64 i, .slice A2 Cs.length q2, .int .i64 Cs.length, .int .i64 j], _, ⟨0, rfl, Nat.zero_le _, rfl, rfl⟩, ?_⟩⟩
        rintro n' vs g ⟨j, rfl, hj, rfl, rfl⟩
        refine BIf.mk (fun h7 => ?_) (fun h7 => ?_)
        · have hlj : j < Cs.length := by simpa using h7
          obtain ⟨bC, rfl, rfl⟩ := hlit2 (by omega)
          have cC := rC.cells1 rfl
          obtain ⟨hc1, hc2⟩ := mC _ (row_mem hlj)
          obtain ⟨z1, z2⟩ := pick_ok hm hl2 hc2
          have hab := minor_abs hm hl2 hc2 (by omega) (by omega)
          have hgr : gRow (minor rows l) (Cs.take j) (gTab (minor rows) (Ls.take i) Cs 0) ≤ 24794911296 := gRow_le hgi fun c hc => minor_abs hm hl2 (mC c (List.mem_of_mem_take hc)).2 (by omega) (by rw [(mC c (List.mem_of_mem_take hc)).1]; omega)
          refine IdxX.mk (by omega) (by omega) ?_
          refine cC.rowY (Le.refl _) hlj fun b10 o10 h8 => ?_
          refine CallX.same (determinant_c (pick rows l) _ _ _ (row Cs j) (by rw [pick_length]; omega) rP h8 z1 (by omega) z2) ?_
          rintro r g3 ⟨rfl, rfl⟩
          refine CallX.same (divisor_c _ _ (det (pick rows l) (row Cs j)) (by omega) (by unfold minor at hab; omega)) ?_
          rintro r g4 ⟨rfl, rfl⟩
          refine WR.i64 ?_
          refine ⟨Cs.length - (j + 1), by omega, j + 1, rfl, hlj, rfl, ?_⟩
          rw [gRow_take hlj]; rfl
        have hj2 : j = Cs.length := by simp at h7; omega
        subst hj2
        refine WR.i64 ?_
        refine ⟨Ls.length - (i + 1), by omega, i + 1, rfl, hlt, Sout, ?_⟩
        rw [hst, List.take_length]; rfl
      · have hi2 : i = Ls.length := by simp at h4; omega
        subst hi2
        rw [List.take_length, ← hgm]
        have hgk := hgb Ls.length
        rw [List.take_length, ← hgm] at hgk
        have hsF : smithF rows k (min rows.length (wid rows) + 1 - k) = if gmin rows k = 0 then [] else ((gmin rows k / gmin rows (k - 1) : Nat) : Int) :: smithF rows (k + 1) (min rows.length (wid rows) - k) := by
          rw [show min rows.length (wid rows) + 1 - k = (min rows.length (wid rows) - k) + 1 by omega]; rfl
        refine BIf.mk (fun h5 => ?_) (fun h5 => ?_)
        · have h5 : gmin rows k = 0 := by simpa using h5
          rw [hsF, if_pos h5, List.append_nil] at ho
          rw [← ho]
          exact (S.rc_tr 0 rfl (by omega)).finB hle 0 rfl
        · have h5 : gmin rows k ≠ 0 := by simpa using h5
          rw [hsF, if_neg h5] at ho
          refine ⟨by omega, ?_⟩
          have hqb := Nat.div_le_self (gmin rows k) (gmin rows (k - 1))
          have hsl : o.length + 1 ≤ 6 := by
            have h8 := congrArg List.length ho
            have h9 := smithF_len rows (min rows.length (wid rows)) 1
            rw [List.length_append, List.length_cons] at h8
            unfold smith at h8
            omega
          obtain ⟨d, hd⟩ : ∃ d, gmin rows k / gmin rows (k - 1) = d := ⟨_, rfl⟩
          have hdi : ((gmin rows k : Nat) : Int).tdiv ((gmin rows (k - 1) : Nat) : Int) = (d : Int) := by rw [← hd]; rfl
          rw [hd] at ho hqb
          refine WR.as (r := (d : Int)) hdi ?_
          refine S.new fun b5 g S => ?_
          refine S.app (ie := Tt.ti2) 0 rfl rfl rfl (by omega) fun b6 g S => ?_
          refine WR.i64 ?_
          refine ⟨min rows.length (wid rows) + 1 - (k + 1), by omega, k + 1, o ++ [(d : Int)], b6, F, hide F g1, rfl, by omega, by omega, hle, ?_, ?_, ?_, h5, hgk, ?_⟩
          · rw [List.map_append, List.length_append]; exact S
          · rw [List.append_assoc, ← ho, show min rows.length (wid rows) + 1 - (k + 1) = min rows.length (wid rows) - k by omega]; rfl
          · rw [List.length_append]; simp; omega
          · rw [List.length_append]; rfl
    · have h3 : ¬ k ≤ wid rows := by simp at h3; omega
      rw [show min rows.length (wid rows) + 1 - k = 0 by omega] at ho
      have ho : o = smith rows := by rw [← ho]; simp [smithF]
      rw [← ho]
      exact (S.rc_tr 0 rfl (by omega)).finB hlb 0 rfl
  · have h2 : ¬ k ≤ rows.length := by simpa using h2
    rw [show min rows.length (wid rows) + 1 - k = 0 by omega] at ho
    have ho : o = smith rows := by rw [← ho]; simp [smithF]
    rw [← ho]
    refine BIf.no rfl ?_
    exact (S.rc_tr 0 rfl (by omega)).finB hlb 0 rfl

end Go.Gl

/- Chapter 7: determinants, of the reference; DeterminantOf. No condition. -/
import Derived.Test.YtbjohihngoghlaaFnD1
import Derived.Test.YtbjohihngoghlaaPlS
set_option linter.unusedVariables false
set_option linter.unusedSimpArgs false
namespace Go.Gl
open Go.Proofs Go.Proofs.Ytbjohihngoghlaa Go.Pl


theorem l07Det_c (rows : List (List Int)) (hrl : rows.length ≤ 1000) (hs : ∀ r ∈ rows, Small r) : ∀ (list : List Int) (h : AH) (rv lv cv : Value) (cols : List Int), list.length ≤ 6 → RII h rv rows → RI h lv list → RI h cv cols → (∀ i ∈ list, 0 ≤ i ∧ i.toNat < rows.length) → cols.length ≤ 6 → Cols (pick rows list) cols →
    ACalls Try.prog 198 [rv, lv, cv] h (fun r h' => r = .int .i64 (det (pick rows list) cols) ∧ h' = h)
  | [], h, rv, cv', cv, cols, hl, hr, hc', hc, hin, hcl, hcc => by
    obtain ⟨_, b1, o1, k1, c1⟩ := hr
    obtain ⟨_, b3, o3, k3, c3⟩ := hc'
    obtain ⟨_, b2, o2, k2, c2⟩ := hc
    refine ACalls.wk (args' := [.slice (some ⟨b1, o1, none⟩) rows.length 0, .slice (some ⟨b3, o3, none⟩) 0 0, .slice (some ⟨b2, o2, none⟩) cols.length 0]) ?_ (.cons k1 (.cons k3 (.cons k2 .nil)))
    refine ACalls.of Tt.tab Try.func198 rfl (by kernel_rfl) Try.ntmps198 _ rfl rfl (fun hw => ?_)
    refine BIf.yes rfl ?_
    exact FinX.keep hw (Le.refl _) rfl ⟨rfl, rfl⟩
  | e :: es, h, rv, lv, cv, cols, hl, hr, hc', hc, hin, hcl, hcc => by
    obtain ⟨b1, o1, k1, hr⟩ := hr.can
    obtain ⟨_, b3, o3, k3, c3⟩ := hc'
    obtain ⟨b2, o2, k2, hc⟩ := hc.can
    have c1 := hr.cells rfl
    have c2 := hc.cells rfl
    simp only [List.length_cons] at hl
    refine ACalls.wk (args' := [.slice (some ⟨b1, o1, none⟩) rows.length 0, .slice (some ⟨b3, o3, none⟩) (es.length + 1) 0, .slice (some ⟨b2, o2, none⟩) cols.length 0]) ?_ (.cons k1 (.cons k3 (.cons k2 .nil)))
    refine ACalls.of Tt.tab Try.func198 rfl (by kernel_rfl) Try.ntmps198 _ rfl rfl (fun hw => ?_)
    have S0 := Sep.start h
    have hes : RI h (.slice (some ⟨b3, o3 + 1, none⟩) es.length 0) es := RS.tail c3 (by omega)
    have he := hin e List.mem_cons_self
    have hre : Small (row rows e.toNat) := hs _ (row_mem he.2)
    have hpk : pick rows (e :: es) = row rows e.toNat :: pick rows es := rfl
    have hpl : (pick rows es).length = es.length := by simp [pick]
    have hps : ∀ r ∈ pick rows (e :: es), Small r := fun r hr => by
      simp only [pick, List.mem_map] at hr
      obtain ⟨i, hi, rfl⟩ := hr
      exact hs _ (row_mem (hin i hi).2)
    rw [hpk] at hps hcc ⊢
    refine BIf.no (by simp; omega) ?_
    have hpw := pw6 (m := (pick rows es).length + 1) (by omega)
    have hpw1 := pw6 (m := (pick rows es).length) (by omega)
    refine ⟨⟨[0, 1, 2, 7, 8], fun n' vs g => ∃ i : Nat, n' = cols.length - i ∧ i ≤ cols.length ∧ Sep h.length h g [] ∧
      vs = [.slice (some ⟨b1, o1, none⟩) rows.length 0, .slice (some ⟨b3, o3, none⟩) (es.length + 1) 0, .slice (some ⟨b2, o2, none⟩) cols.length 0, .int .i64 (sm i fun k => sgn k * ith (row rows e.toNat) (ith cols k).toNat * det (pick rows es) (cols.eraseIdx k)), .int .i64 i], _, ⟨0, rfl, Nat.zero_le _, S0, rfl⟩, ?_⟩⟩
    rintro n' vs g ⟨i, rfl, hi, S, rfl⟩
    refine BIf.mk (fun h2 => ?_) (fun h2 => ?_)
    · have hlt : i < cols.length := by simpa using h2
      have hci := hcc _ (ith_mem hlt)
      have hcr := hci.2 _ List.mem_cons_self
      have hsr := hre (ith cols i).toNat
      have hpart := part_abs (k := i) hps hcl hi
      have hnext := part_abs (k := i + 1) hps hcl hlt
      simp only [sm] at hnext
      have hdt := det_abs (pick rows es) (cols.eraseIdx i) (fun x hx => hps x (List.mem_cons_of_mem _ hx)) (Nat.le_trans (List.length_eraseIdx_le ..) hcl)
      have hterm := term_abs (k := i) hsr hdt
      have hsx : -9 ≤ sgn i * ith (row rows e.toNat) (ith cols i).toNat ∧ sgn i * ith (row rows e.toNat) (ith cols i).toNat ≤ 9 := by
        have := sgn_rng i
        rcases (by omega : sgn i = -1 ∨ sgn i = 0 ∨ sgn i = 1) with h | h | h <;> rw [h] <;> omega
      refine DrawX.of Tt.tab follows_any [] [] [0, 1, 2, 3, 4, 5, 6, 7, 8, 9, 10, 11, 12] rfl (by kernel_rfl) (by kernel_rfl) ?_
      refine IdxX.mk (by omega) (by omega) ?_
      refine c3.ith S.le (k := 0) (by simp) ?_
      rw [ith_cons_zero]
      refine IdxX.mk (by omega) (by omega) ?_
      refine c1.row (k := e.toNat) S.le he.2 fun b4 o4 c4 => ?_
      refine IdxX.mk (by omega) (by omega) ?_
      refine c2.ith S.le hlt ?_
      refine IdxX.mk (by omega) (by omega) ?_
      refine c4.ith S.le hcr ?_
      refine BIf.mk (fun h3 => ?_) (fun h3 => ?_)
      · have h3 : ith (row rows e.toNat) (ith cols i).toNat = 0 := by simpa using h3
        refine WR.i64 ?_
        refine ⟨cols.length - (i + 1), by omega, i + 1, rfl, hlt, S, ?_⟩
        simp only [sm, h3, Int.mul_zero, Int.zero_mul, Int.add_zero]
        rfl
      · refine DrawX.of Tt.tab follows_any [3] [8] [0, 1, 2, 4, 5, 6, 7, 3, 8, 9] rfl (by kernel_rfl) (by kernel_rfl) ?_
        refine ⟨by omega, by omega, by omega, ?_⟩
        refine WR.i64 ?_
        refine ⟨by omega, by omega, by omega, ?_⟩
        have q1 : RI h (.slice (some ⟨b2, o2, none⟩) i 0) (cols.take i) := by
          have := RI.part (d := 0) (k := i) c2 (by omega) (by omega)
          simpa using this
        have hdl : (cols.drop (i + 1)).length = cols.length - (i + 1) := by simp
        have q2 : RI h (.slice (some ⟨b2, o2 + (i + 1), none⟩) (cols.length - (i + 1)) 0) (cols.drop (i + 1)) := by
          have := RI.part (d := i + 1) (k := cols.length - (i + 1)) c2 (by omega) (by omega)
          rwa [List.take_of_length_le (by simp)] at this
        have c5 := RS.cells q2 hdl.symm
        have htl : (cols.take i).length = i := by simp; omega
        refine S.madeR (l01OwnR_c _ _ (cols.take i) (RI.le _ _ _ _ S.le q1) (by omega)) fun A q g L S => ⟨L, strictV.mk ?_⟩
        refine S.appNs (ie := Tt.ti2) (m := cols.length - (i + 1)) 0 rfl S.le c5 hdl (by omega) fun A q g S => strictV.mk ?_
        have S := S.recastR 0 (cells' := (cols.eraseIdx i).map (.int .i64)) rfl (by rw [← List.map_append, List.eraseIdx_eq_take_drop_succ])
        have hdc := S.rdc 0 rfl (by omega)
        refine TM.pos ?_
        refine WR.i64 ?_
        refine WR.i64 ?_
        refine WR.as (r := sgn i * ith (row rows e.toNat) (ith cols i).toNat) (by unfold sgn; rw [Int.mul_comm (ith _ _), Int.mul_comm 2]) ?_
        refine ⟨by omega, by omega, by omega, ?_⟩
        refine CallX.same (l07Det_c rows hrl hs es g _ _ _ (cols.eraseIdx i) (by omega) (RII.le _ _ _ _ S.le hr) (RI.le _ _ _ _ S.le hes) hdc (fun x hx => hin x (List.mem_cons_of_mem _ hx)) (Nat.le_trans (List.length_eraseIdx_le ..) hcl) (hcc.tail i)) ?_
        rintro r g3 ⟨rfl, rfl⟩
        refine WR.i64 ?_
        refine WR.i64 ?_
        refine WR.i64 ?_
        exact ⟨cols.length - (i + 1), by omega, i + 1, rfl, hlt, S.drop 0, rfl⟩
    · have hi2 : i = cols.length := by simp at h2; omega
      subst hi2
      exact FinX.keep hw S.le rfl ⟨rfl, rfl⟩

/-- a matrix of which there is a determinant -/
def detOk (rows : List (List Int)) : Bool := decide (rows.length ≤ 6) && wmat rows.length rows
def detOf (rows : List (List Int)) : Int × Int := if detOk rows then (det rows (iota rows.length), 0) else (0, 2)
theorem wmat_small {m : Int} {rows : List (List Int)} (h : wmat m rows = true) : ∀ r ∈ rows, Small r := fun r hr => by
  obtain ⟨i, hi, rfl⟩ := List.getElem_of_mem hr
  rw [row_get hi]
  exact (wmat_row h hi).2
theorem wmat_len {m : Int} {rows : List (List Int)} (h : wmat m rows = true) : ∀ r ∈ rows, (r.length : Int) = m := fun r hr => by
  obtain ⟨i, hi, rfl⟩ := List.getElem_of_mem hr
  rw [row_get hi]
  exact (wmat_row h hi).1
theorem detOk_eq (rows : List (List Int)) : (decide (rows.length ≤ 6) && decide (0 ≤ (wid rows : Int) ∧ (wid rows : Int) ≤ 6) && wmat (wid rows) rows && decide (wid rows = rows.length)) = detOk rows := by
  unfold detOk
  rw [Bool.eq_iff_iff]
  simp only [Bool.and_eq_true, decide_eq_true_eq]
  constructor
  · rintro ⟨⟨⟨h1, h2⟩, h3⟩, h4⟩
    rw [h4] at h3
    exact ⟨h1, h3⟩
  · rintro ⟨h1, h2⟩
    have : wid rows = rows.length := by
      unfold wid
      cases rows with
      | nil => rfl
      | cons r rs =>
        have := wmat_len h2 r List.mem_cons_self
        show r.length = _
        omega
    rw [this]
    exact ⟨⟨⟨h1, by omega⟩, h2⟩, rfl⟩
theorem detOk_cols {rows : List (List Int)} (h : detOk rows = true) : rows.length ≤ 6 ∧ (∀ r ∈ rows, Small r) ∧ Cols rows (iota rows.length) := by
  simp only [detOk, Bool.and_eq_true, decide_eq_true_eq] at h
  refine ⟨h.1, wmat_small h.2, fun c hc => ?_⟩
  obtain ⟨h1, h2⟩ := iota_mem hc
  exact ⟨h1, fun r hr => by have := wmat_len h.2 r hr; omega⟩
theorem pick_iota (rows : List (List Int)) : pick rows (iota rows.length) = rows := by
  refine ext_row (by simp [pick, iota_length]) fun i hi => ?_
  have hi' : i < rows.length := by simpa [pick, iota_length] using hi
  simp [pick, iota, tab, row, hi']

theorem width_c (h : AH) (v : Value) (rows : List (List Int)) (hx : RII h v rows) : ACalls Try.prog 226 [v] h (fun r h' => r = .int .i64 (wid rows) ∧ h' = h) := by
  obtain ⟨_, b1, o1, k1, c1⟩ := hx
  refine ACalls.wk (args' := [.slice (some ⟨b1, o1, none⟩) rows.length 0]) ?_ (.cons k1 .nil)
  refine ACalls.of Tt.tab Try.func226 rfl (by kernel_rfl) Try.ntmps226 _ rfl rfl (fun hw => ?_)
  refine BIf.mk (fun h1 => ?_) (fun h1 => ?_)
  · have h1 : rows.length = 0 := by simpa using h1
    have : rows = [] := List.length_eq_zero_iff.1 h1
    subst this
    exact FinX.keep hw (Le.refl _) rfl ⟨rfl, rfl⟩
  have h1 : 0 < rows.length := by simp at h1; exact List.length_pos_iff.2 h1
  refine IdxX.mk (by omega) (by omega) ?_
  refine c1.row (Le.refl _) h1 fun b2 o2 c2 => ?_
  refine CallX.same (sizeI_c _ _ _ _ _) ?_
  rintro r g' ⟨rfl, rfl⟩
  exact FinX.keep hw (Le.refl _) rfl ⟨rfl, rfl⟩

end Go.Gl

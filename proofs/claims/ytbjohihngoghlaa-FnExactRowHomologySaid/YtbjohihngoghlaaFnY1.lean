/- Chapter 1: what is left of a vector by a reduced list, the program's side. No condition. -/
import Derived.Test.YtbjohihngoghlaaFnE2
set_option linter.unusedVariables false
set_option linter.unusedSimpArgs false
namespace Go.Gl
open Go.Proofs Go.Proofs.Ytbjohihngoghlaa Go.Pl

theorem idx_lead (xs : List Int) : idx (fun x => decide (x ≠ 0)) xs = lead xs := by
  induction xs with
  | nil => rfl
  | cons x xs ih => unfold idx lead; rw [ih]; by_cases h : x = 0 <;> simp [h]

theorem leads1_c (h : AH) (x : Int) : ACalls Try.prog 241 [.int .i64 x] h (fun r h' => r = .bool (decide (x ≠ 0)) ∧ h' = h) := by
  refine ACalls.of Tt.tab Try.func241 rfl (by kernel_rfl) Try.ntmps241 _ rfl rfl (fun hw => ?_)
  refine FinX.keep hw (Le.refl _) rfl ⟨?_, rfl⟩
  congr 1
  by_cases hx : x = 0
  · subst hx; rfl
  · simp [hx]
theorem leads_c (h : AH) (rv : Value) (rows : List (List Int)) (hr : RII h rv rows) (hl : rows.length ≤ 100000) :
    ACalls Try.prog 234 [rv] h (fun r h' => ∃ b, r = .slice (some ⟨b, 0, none⟩) rows.length 1 ∧ look h' b = some ⟨(tab rows.length fun k => lead (row rows k)).map (.int .i64), some (3, 1)⟩ ∧ h.length ≤ b ∧ Le h h') := by
  obtain ⟨_, b1, o1, k1, c1⟩ := hr
  refine ACalls.wk (args' := [.slice (some ⟨b1, o1, none⟩) rows.length 0]) ?_ (.cons k1 .nil)
  refine ACalls.of Tt.tab Try.func234 rfl (by kernel_rfl) Try.ntmps234 _ rfl rfl (fun hw => ?_)
  have S := Sep.start h
  refine S.new fun b2 g S => ?_
  have S := S.bx_rc 0 (k := 0) rfl rfl
  refine ⟨⟨[3, 7, 8, 9], fun n' vs g => ∃ (i b2 : Nat), n' = rows.length - i ∧ i ≤ rows.length ∧ Sep h.length h g [.rc 3 1 h.length (.slice (some ⟨b2, 0, none⟩) i 1) i ((tab i fun k => lead (row rows k)).map (.int .i64))] ∧
    vs = [.slice (some ⟨b2, 0, none⟩) i 1, .slice (some ⟨b1, o1, none⟩) rows.length 0, .int .i64 rows.length, .int .i64 i], _, ⟨0, b2, rfl, Nat.zero_le _, S, rfl⟩, ?_⟩⟩
  rintro n' vs g ⟨i, b2, rfl, hi, S, rfl⟩
  refine BIf.mk (fun h2 => ?_) (fun h2 => ?_)
  · have hlt : i < rows.length := by simpa using h2
    refine IdxX.mk (by omega) (by omega) ?_
    refine c1.rowY S.le hlt fun b3 o3 h3 => ?_
    refine CallX.same (indexFuncI_c _ _ (row rows i) _ _ (fun x => decide (x ≠ 0)) (RI.le _ _ _ _ S.le h3) (fun x _ u hu => by subst hu; exact leads1_c _ x)) ?_
    rintro r g' ⟨rfl, rfl⟩
    rw [idx_lead]
    refine S.new fun b4 g S => ?_
    refine S.app 0 rfl rfl rfl (by omega) fun b5 g S => ?_
    refine WR.i64 ?_
    exact ⟨rows.length - (i + 1), by omega, i + 1, b5, rfl, hlt, by rw [tab_succ, List.map_append]; exact S, rfl⟩
  · have hi2 : i = rows.length := by simp at h2; omega
    subst hi2
    have S := S.rc_bx 0 rfl
    exact FinX.here S.le.len ⟨b2, rfl, S.at_ 0 rfl, S.ge 0 rfl, S.le⟩

theorem restN_vec {p : Int} (hp : 0 < p) {n : Nat} {list : List (List Int)} {v : List Int} (hv : Vec p n v) : ∀ i, Vec p n (restN p list v i)
  | 0 => hv
  | i + 1 => (restN_vec hp hv i).less hp
theorem modulo_c (h : AH) (p : Int) (n : Nat) (vv rv : Value) (v : List Int) (rows : List (List Int)) (hp : IsP p) (hv : RI h vv v) (hr : RII h rv rows) (hn : n ≤ 100000) (bv : Vec p n v) (br : RedL p n rows) (hl : rows.length ≤ 100000) :
    ACalls Try.prog 217 [.int .i64 p, vv, rv] h (Made OI h (rest p rows v)) := by
  have hpp := hp.rng
  obtain ⟨b0, o0, k0, hv⟩ := hv.can
  obtain ⟨b1, o1, k1, hr⟩ := hr.can
  have c1 := hr.cells rfl
  refine ACalls.madeI (ACalls.wk (args' := [.int .i64 p, .slice (some ⟨b0, o0, none⟩) v.length 0, .slice (some ⟨b1, o1, none⟩) rows.length 0]) ?_ (.cons (Wk.refl _) (.cons k0 (.cons k1 .nil))))
  refine ACalls.of Tt.tab Try.func217 rfl (by kernel_rfl) Try.ntmps217 _ rfl rfl (fun hw => ?_)
  have S := Sep.start h
  refine S.made OI.fr (ACalls.madeI (cloneI_c _ _ v hv (by have := bv.1; omega))) fun b2 o2 g S => ?_
  rw [bv.1] at S ⊢
  refine CallX.same (leads_c _ _ rows (RII.le _ _ _ _ S.le hr) hl) ?_
  rintro r g' ⟨b3, rfl, l3, e3, L⟩
  have S := S.box L l3 e3
  clear l3 e3 L
  refine ⟨⟨[0, 2, 7, 13, 14, 15], fun n' vs g => ∃ i : Nat, n' = rows.length - i ∧ i ≤ rows.length ∧ Sep h.length h g [.bx b3 3 1 ((tab rows.length fun k => lead (row rows k)).map (.int .i64)), .tr OI.fr h.length (.slice (some ⟨b2, o2, none⟩) n 0) (restN p rows v i)] ∧
    vs = [.int .i64 p, .slice (some ⟨b1, o1, none⟩) rows.length 0, .slice (some ⟨b2, o2, none⟩) n 0, .slice (some ⟨b3, 0, none⟩) rows.length 1, .int .i64 rows.length, .int .i64 i], _, ⟨0, rfl, Nat.zero_le _, S, rfl⟩, ?_⟩⟩
  clear S
  rintro n' vs g ⟨i, rfl, hi, S, rfl⟩
  have hvi := restN_vec (list := rows) (show 0 < p by omega) bv i
  refine BIf.mk (fun h2 => ?_) (fun h2 => ?_)
  · have hlt : i < rows.length := by simpa using h2
    obtain ⟨q1, q2⟩ := br.lead hlt
    refine IdxX.mk (by omega) (by omega) ?_
    refine S.loadT 0 rfl hlt q1 ?_
    refine DrawX.of Tt.tab follows_any [] [10] [0, 1, 2, 3, 4, 5, 6, 7, 8, 9, 10] rfl (by kernel_rfl) (by kernel_rfl) ?_
    refine IdxX.mk (by omega) (by omega) ?_
    refine c1.rowY S.le hlt fun b4 o4 h4 => ?_
    refine IdxX.mk (by omega) (by omega) ?_
    have e0 := hvi.2.ith (by omega) (ldN rows i)
    refine ((S.rd OI.reads 1 rfl).cells hvi.1.symm).ith (Le.refl _) (show ldN rows i < (restN p rows v i).length by rw [hvi.1]; exact q2) ?_
    obtain ⟨F, f1, S2, f3⟩ := S.lend 1 rfl
    refine CallX.same (clear_c _ F _ b2 o2 n (restN p rows v i) (row rows i) _ p (ith (restN p rows v i) (ldN rows i)) f1 (RI.le _ _ _ _ S2.le h4) hvi (br.mat.row hlt) hpp e0 (by omega)) ?_
    rintro r g' ⟨rfl, u⟩
    have S := f3 _ _ u
    refine WR.i64 ?_
    exact ⟨rows.length - (i + 1), by omega, i + 1, rfl, hlt, S, rfl⟩
  · have hi2 : i = rows.length := by simp at h2; omega
    subst hi2
    have hr2 : (rest p rows v).length = n := hvi.1
    have S := S.retell 1 (x' := rest p rows v) rfl rfl
    exact S.fin 1 rfl

end Go.Gl

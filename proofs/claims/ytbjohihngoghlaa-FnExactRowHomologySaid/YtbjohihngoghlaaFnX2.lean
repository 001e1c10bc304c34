/- Chapter 3: IsDouble, the program's side. No condition. -/
import Derived.Test.YtbjohihngoghlaaFnX1
set_option linter.unusedVariables false
set_option linter.unusedSimpArgs false
namespace Go.Gl
open Go.Proofs Go.Proofs.Ytbjohihngoghlaa Go.Pl

def unitsL (n : Nat) : List (List Int) := tabR n (unitv n)
theorem unitsL_mat {p : Int} (hp : 1 < p) (n : Nat) : Mat p n (unitsL n) := Mat.tab fun i _ => unitv_vec hp n i

theorem unit_c (h : AH) (n i : Nat) (hn : n ≤ 1000) (hi : i < n) : ACalls Try.prog 178 [.int .i64 n, .int .i64 i] h (Made OI h (unitv n i)) := by
  refine ACalls.madeI ?_
  refine ACalls.of Tt.tab Try.func178 rfl (by kernel_rfl) Try.ntmps178 _ rfl rfl (fun hw => ?_)
  have S := Sep.start h
  refine ⟨by omega, rfl, by omega, by show (n : Int) * (8 : Nat) ≤ _; omega, ?_⟩
  refine S.new fun b5 g S => ?_
  have S := S.recast 0 rfl (zeros_tab _)
  refine IdxX.mk (by omega) (by omega) ?_
  refine S.storeT 0 rfl (by show i < (n : Int).toNat; omega) fun g S => ?_
  have e : (n : Int).toNat = n := by omega
  rw [e] at S
  have S := S.bx_tr (xs := unitv n i) 0 rfl (by rw [unitv, tab_length]; omega) 1
  rw [show (unitv n i).length = n from tab_length _ _] at S
  exact S.fin 0 rfl
theorem units_c (h : AH) (n : Nat) (hn : n ≤ 1000) : ACalls Try.prog 120 [.int .i64 n] h (Made OII h (unitsL n)) := by
  refine ACalls.madeN ?_
  refine ACalls.of Tt.tab Try.func120 rfl (by kernel_rfl) Try.ntmps120 _ rfl rfl (fun hw => ?_)
  have S := Sep.start h
  refine S.new fun b4 g S => ?_
  have S := S.bx_rw 0 OI.fr rfl
  refine ⟨⟨[0, 3, 6, 7], fun n' vs g => ∃ (j b4 : Nat), n' = n - j ∧ j ≤ n ∧ Sep h.length h g [.rw OI.fr 22 h.length (.slice (some ⟨b4, 0, none⟩) j 1) j (tabR j (unitv n))] ∧
    vs = [.int .i64 n, .slice (some ⟨b4, 0, none⟩) j 1, .int .i64 n, .int .i64 j], _, ⟨0, b4, rfl, Nat.zero_le _, S, rfl⟩, ?_⟩⟩
  rintro n' vs g ⟨j, b4, rfl, hj, S, rfl⟩
  refine BIf.mk (fun h3 => ?_) (fun h3 => ?_)
  · have h3 : j < n := by simpa using h3
    refine S.made OI.fr (unit_c _ n j hn h3) fun b5 o5 g S => ?_
    refine S.new fun b6 g S => ?_
    refine S.appT 0 rfl rfl (by omega) fun b7 g S => ?_
    refine WR.i64 ?_
    exact ⟨n - (j + 1), by omega, j + 1, b7, rfl, h3, by rw [tabR_succ]; exact S, rfl⟩
  · have hj2 : j = n := by simp at h3; omega
    subst hj2
    have S := S.rw_tr 0 rfl (by omega)
    exact S.fin 0 rfl

def CellOk (x : SDouble) (t : List (List (List (List Int)))) (w : Int → Int → Int) (i j : Nat) : Prop := ((cel t i j).length : Int) = dimZ x i j ∧ rowsOk x.prime (w i j) (cel t i j) = true
noncomputable def tabB (x : SDouble) (t : List (List (List (List Int)))) (w : Int → Int → Int) : Bool := @decide (TabOk x t w) (Classical.propDecidable _)
theorem tabB_t {x : SDouble} {t : List (List (List (List Int)))} {w : Int → Int → Int} (h : TabOk x t w) : tabB x t w = true := @decide_eq_true _ (Classical.propDecidable _) h
theorem tabB_f {x : SDouble} {t : List (List (List (List Int)))} {w : Int → Int → Int} (h : ¬ TabOk x t w) : tabB x t w = false := @decide_eq_false _ (Classical.propDecidable _) h
theorem tabB_mk {x : SDouble} {t : List (List (List (List Int)))} {w : Int → Int → Int} (h : tabB x t w = true) : TabOk x t w := @of_decide_eq_true _ (Classical.propDecidable _) h
theorem tabB_no {x : SDouble} {t : List (List (List (List Int)))} {w : Int → Int → Int} (h : tabB x t w = false) : ¬ TabOk x t w := @of_decide_eq_false _ (Classical.propDecidable _) h
theorem areTables_c (h : AH) (v tv : Value) (x : SDouble) (t : List (List (List (List Int)))) (hx : RDouble h v x) (ht : RIIII h tv t) (hd : DHead x) (w : Int → Int → Int) (f : Nat) (cap : Array Value)
    (hf : ∀ g2, Le h g2 → ∀ i j : Nat, i < dW x → j < dH x → ACalls Try.prog f (.int .i64 i :: .int .i64 j :: cap.toList) g2 (fun r h' => r = .int .i64 (w i j) ∧ h' = g2)) :
    ACalls Try.prog 117 [v, tv, .func (.func f) #[] cap] h (fun r h' => r = .bool (tabB x t w) ∧ h' = h) := by
  obtain ⟨P, kx, qx⟩ := hx.at_
  obtain ⟨b4, o4, kt, ht⟩ := ht.can
  refine ACalls.wk (args' := [vD x P, .slice (some ⟨b4, o4, none⟩) t.length 0, .func (.func f) #[] cap]) ?_ (.cons kx (.cons kt (.cons (Wk.refl _) .nil)))
  refine ACalls.of Tt.tab Try.func117 rfl (by kernel_rfl) Try.ntmps117 _ rfl rfl (fun hw => ?_)
  have S := Sep.start h
  have c1 := RS.cells qx.1 rfl
  have c4 := ht.cells rfl
  have hW := hd.w
  have hH := hd.h
  refine S.new fun b g S => ?_
  have hb : look g b = some ⟨cD x P, some (71, 4)⟩ := S.at_ 0 rfl
  refine LoadX.same (v := vD1 x P) hb rfl ?_
  refine BIf.mk (fun e1 => ?_) (fun e1 => ?_)
  · have e1 : t.length ≠ dW x := by have e1 : ¬ (t.length : Int) = x.dims.length := by simpa using e1
                                    unfold dW; omega
    exact FinX.keep hw S.le rfl ⟨by rw [tabB_f fun hh => e1 hh.1], rfl⟩
  have e1 : t.length = dW x := by have e1 : (t.length : Int) = x.dims.length := by simpa using e1
                                  unfold dW; omega
  refine ⟨⟨[2, 3, 17, 18, 19], fun n' vs g2 => ∃ i : Nat, n' = t.length - i ∧ i ≤ t.length ∧ g2 = g ∧ (∀ i', i' < i → (ten t i').length = dH x ∧ ∀ j, j < dH x → CellOk x t w i' j) ∧
    vs = [.func (.func f) #[] cap, .pointer (some ⟨b, 0, none⟩), .slice (some ⟨b4, o4, none⟩) t.length 0, .int .i64 t.length, .int .i64 i], _, ⟨0, rfl, Nat.zero_le _, rfl, fun i' hi' => by omega, rfl⟩, ?_⟩⟩
  rintro n' vs g2 ⟨i, rfl, hi, rfl, hs, rfl⟩
  refine BIf.mk (fun h2 => ?_) (fun h2 => ?_)
  · have hlt : i < t.length := by simpa using h2
    have hlt' : i < dW x := by omega
    refine IdxX.mk (by omega) (by omega) ?_
    refine c4.ten S.le hlt fun b5 o5 h5 => ?_
    have c5 := h5.cells rfl
    refine LoadX.same (v := vD1 x P) hb rfl ?_
    have h1 : 0 < x.dims.length := hW.1
    refine IdxX.mk (by omega) (by omega) ?_
    refine c1.row S.le h1 fun b6 o6 c6 => ?_
    refine BIf.mk (fun e2 => ?_) (fun e2 => ?_)
    · have e2 : (ten t i).length ≠ dH x := by have e2 : ¬ ((ten t i).length : Int) = (row x.dims 0).length := by simpa using e2
                                              unfold dH; omega
      exact FinX.keep hw S.le rfl ⟨by rw [tabB_f fun hh => e2 (hh.2.1 i hlt')], rfl⟩
    have e2 : (ten t i).length = dH x := by have e2 : ((ten t i).length : Int) = (row x.dims 0).length := by simpa using e2
                                            unfold dH; omega
    refine ⟨⟨[2, 3, 7, 17, 18, 19, 32, 33, 34], fun n' vs g3 => ∃ j : Nat, n' = dH x - j ∧ j ≤ dH x ∧ g3 = g2 ∧ (∀ j', j' < j → CellOk x t w i j') ∧
      vs = [.func (.func f) #[] cap, .pointer (some ⟨b, 0, none⟩), .int .i64 i, .slice (some ⟨b4, o4, none⟩) t.length 0, .int .i64 t.length, .int .i64 i, .slice (some ⟨b5, o5, none⟩) (ten t i).length 0, .int .i64 (ten t i).length, .int .i64 j], _, ⟨0, rfl, Nat.zero_le _, rfl, fun j' hj' => by omega, rfl⟩, ?_⟩⟩
    rintro n' vs g3 ⟨j, rfl, hj, rfl, hr, rfl⟩
    refine BIf.mk (fun h3 => ?_) (fun h3 => ?_)
    · have h3 : j < (ten t i).length := by simpa using h3
      have hj1 : j < dH x := by omega
      have hcol := hd.col i hlt'
      have hdim := dimZ_in hlt' hj1
      refine IdxX.mk (by omega) (by omega) ?_
      refine c5.mat S.le h3 fun b7 o7 h7 => ?_
      refine DrawX.of Tt.tab follows_any [] [] [0, 1, 2, 3, 4, 5, 6, 7, 8, 9, 10, 11, 12, 13, 14, 15, 16, 17, 18, 19, 20, 21] rfl (by kernel_rfl) (by kernel_rfl) ?_
      refine QCall.of (fun g2 hl => sizeII_c g2 _ _ _ _) rfl ?_
      refine LoadX.same (v := vD1 x P) hb rfl ?_
      refine IdxX.mk (by omega) (by show (i : Int) < (x.dims.length : Int); unfold dW at hlt'; omega) ?_
      refine c1.row S.le hlt' fun b8 o8 c8 => ?_
      refine IdxX.mk (by omega) (by omega) ?_
      refine c8.ith S.le (show j < (row x.dims i).length by omega) ?_
      refine BIf.mk (fun e3 => ?_) (fun e3 => ?_)
      · have e3 : ¬ ((mat (ten t i) j).length : Int) = ith (row x.dims i) j := by simpa using e3
        refine BIf.yes rfl ?_
        exact FinX.keep hw S.le rfl ⟨by rw [tabB_f fun hh => e3 (by have := (hh.2.2 i j hlt' hj1).1; rw [hdim] at this; exact this)], rfl⟩
      have e3 : ((mat (ten t i) j).length : Int) = ith (row x.dims i) j := by simpa using e3
      refine LoadX.same (v := .int .i64 x.prime) hb rfl ?_
      refine QCall.of (fun g2 hl => hf g2 (S.le.trans hl) i j hlt' hj1) rfl ?_
      refine QCall.of (fun g2 hl => areRows_c g2 x.prime (w i j) _ (mat (ten t i) j) (prime_rng hd.p) (RII.le _ _ _ _ (S.le.trans hl) h7)) rfl ?_
      refine BIf.mk (fun h5 => ?_) (fun h5 => ?_)
      · have h5 : rowsOk x.prime (w i j) (mat (ten t i) j) = false := by simpa using h5
        exact FinX.keep hw S.le rfl ⟨by rw [tabB_f fun hh => by have := (hh.2.2 i j hlt' hj1).2; unfold cel at this; rw [h5] at this; cases this], rfl⟩
      have h5 : rowsOk x.prime (w i j) (mat (ten t i) j) = true := by simpa using h5
      refine WR.i64 ?_
      refine ⟨dH x - (j + 1), by omega, j + 1, rfl, by omega, rfl, fun j' hj' => ?_, rfl⟩
      by_cases hjj : j' = j
      · subst hjj; exact ⟨by rw [hdim]; exact e3, h5⟩
      · exact hr j' (by omega)
    · have hj2 : j = dH x := by simp at h3; omega
      subst hj2
      refine WR.i64 ?_
      refine ⟨t.length - (i + 1), by omega, i + 1, rfl, hlt, rfl, fun i' hi' => ?_, rfl⟩
      by_cases hii : i' = i
      · subst hii; exact ⟨e2, hr⟩
      · exact hs i' (by omega)
  · have hi2 : i = t.length := by simp at h2; omega
    subst hi2
    exact FinX.keep hw S.le rfl ⟨by rw [tabB_t ⟨e1, fun i hi => (hs i (by omega)).1, fun i j hi hj => (hs i (by omega)).2 j hj⟩], rfl⟩

theorem isDouble1_c (h : AH) (x : Int) : ACalls Try.prog 113 [.int .i64 x] h (fun r h' => r = .bool (!decide (0 ≤ x ∧ x ≤ 4)) ∧ h' = h) := by
  refine ACalls.of Tt.tab Try.func113 rfl (by kernel_rfl) Try.ntmps113 _ rfl rfl (fun hw => ?_)
  refine CallX.same (between_c _ x 0 4) ?_
  rintro r g ⟨rfl, rfl⟩
  exact FinX.keep hw (Le.refl _) rfl ⟨rfl, rfl⟩
theorem isDouble2_c (h : AH) (x : SDouble) (P : DP) (q : QD h x P) (hd : DHead x) (b : Nat) (hb : look h b = some ⟨cD x P, some (71, 4)⟩) (i j : Int) (hi : -100 ≤ i ∧ i ≤ 100) : ACalls Try.prog 114 [.int .i64 i, .int .i64 j, .pointer (some ⟨b, 0, none⟩)] h (fun r h' => r = .int .i64 (dimZ x (i - 1) j) ∧ h' = h) := by
  refine ACalls.of Tt.tab Try.func114 rfl (by kernel_rfl) Try.ntmps114 _ rfl rfl (fun hw => ?_)
  refine LoadX.same (v := vD x P) hb rfl ?_
  refine WR.i64 ?_
  refine CallX.same (dim_c _ _ x (i - 1) j (q.reads (Le.refl _)) hd) ?_
  rintro r g ⟨rfl, rfl⟩
  exact FinX.keep hw (Le.refl _) rfl ⟨rfl, rfl⟩
theorem isDouble3_c (h : AH) (x : SDouble) (P : DP) (q : QD h x P) (hd : DHead x) (b : Nat) (hb : look h b = some ⟨cD x P, some (71, 4)⟩) (i j : Int) (hi : -100 ≤ j ∧ j ≤ 100) : ACalls Try.prog 116 [.int .i64 i, .int .i64 j, .pointer (some ⟨b, 0, none⟩)] h (fun r h' => r = .int .i64 (dimZ x i (j - 1)) ∧ h' = h) := by
  refine ACalls.of Tt.tab Try.func116 rfl (by kernel_rfl) Try.ntmps116 _ rfl rfl (fun hw => ?_)
  refine LoadX.same (v := vD x P) hb rfl ?_
  refine WR.i64 ?_
  refine CallX.same (dim_c _ _ x i (j - 1) (q.reads (Le.refl _)) hd) ?_
  rintro r g ⟨rfl, rfl⟩
  exact FinX.keep hw (Le.refl _) rfl ⟨rfl, rfl⟩

end Go.Gl

/- Chapter 3: IsDouble, the reference's side. No condition. Chapter 3: IsDouble, the reference's side: all cells. No condition. -/
import Derived.Test.YtionapmdibdfpaaFnX3
set_option linter.unusedVariables false
set_option linter.unusedSimpArgs false
namespace Go.Gl
open Go.Proofs Go.Proofs.Ytionapmdibdfpaa Go.Pl


theorem l03Dim_c (h : AH) (v : Value) (x : SDouble) (i j : Int) (hx : RDouble h v x) (h1 : 1 ≤ dW x) (hcol : ∀ i, i < dW x → (row x.dims i).length = dH x) : ACalls Try.prog 43 [v, .int .i64 i, .int .i64 j] h (fun r h' => r = .int .i64 (dimZ x i j) ∧ h' = h) := by
  obtain ⟨P, kx, qx⟩ := hx.at_
  refine ACalls.wk (args' := [vD x P, .int .i64 i, .int .i64 j]) ?_ (.cons kx (.cons (Wk.refl _) (.cons (Wk.refl _) .nil)))
  refine ACalls.of Tt.tab Try.func43 rfl (by kernel_rfl) Try.ntmps43 _ rfl rfl (fun hw => ?_)
  have S := Sep.start h
  have c1 := RS.cells qx.1 rfl
  have hm := qx.1.1
  have h1 : 0 < x.dims.length := h1
  refine S.new fun b g S => ?_
  refine LoadX.same (v := vD1 x P) (S.at_ 0 rfl) rfl ?_
  refine WR.i64 ?_
  refine CallX.same (l01In_c _ i 0 _) ?_
  rintro r g' ⟨rfl, rfl⟩
  refine BIf.mk (fun e1 => ?_) (fun e1 => ?_)
  · have e1 : ¬ (0 ≤ i ∧ i ≤ (dW x : Int) - 1) := by unfold dW; simp at e1; omega
    refine BIf.yes rfl ?_
    exact FinX.keep hw S.le rfl ⟨by rw [dimZ_out fun hh => e1 hh.1], rfl⟩
  have e1 : 0 ≤ i ∧ i ≤ (dW x : Int) - 1 := by unfold dW; simp at e1; omega
  refine LoadX.same (v := vD1 x P) (S.at_ 0 rfl) rfl ?_
  refine IdxX.mk (by omega) (by omega) ?_
  refine c1.rowY S.le h1 fun b4 o4 r4 => ?_
  have hm4 := r4.1
  refine WR.i64 ?_
  refine CallX.same (l01In_c _ j 0 _) ?_
  rintro r g' ⟨rfl, rfl⟩
  refine BIf.mk (fun e2 => ?_) (fun e2 => ?_)
  · have e2 : ¬ (0 ≤ j ∧ j ≤ (dH x : Int) - 1) := by unfold dH; simp at e2; omega
    exact FinX.keep hw S.le rfl ⟨by rw [dimZ_out fun hh => e2 hh.2], rfl⟩
  have e2 : 0 ≤ j ∧ j ≤ (dH x : Int) - 1 := by unfold dH; simp at e2; omega
  obtain ⟨a, c, rfl, rfl, ha, hc⟩ := in_nat ⟨e1, e2⟩
  have hcol := hcol a ha
  refine LoadX.same (v := vD1 x P) (S.at_ 0 rfl) rfl ?_
  refine IdxX.mk (by omega) (by show (a : Int) < (x.dims.length : Int); unfold dW at ha; omega) ?_
  refine c1.row S.le ha fun b4 o4 c4 => ?_
  refine IdxX.mk (by omega) (by omega) ?_
  refine c4.ith S.le (show c < (row x.dims a).length by omega) ?_
  exact FinX.keep hw S.le rfl ⟨by rw [dimZ_in ha hc]; rfl, rfl⟩

def stepZ (x : SDouble) (i j : Int) (v : List Int) (a : Bool) : List Int := if a then acr x i j v else dwn x i j v
theorem l03Step_c (h : AH) (v wv : Value) (x : SDouble) (i j : Int) (w : List Int) (ac : Bool) (hx : RDouble h v x) (hw' : RI h wv w) (hd : DShape x) (hi : -10 ≤ i ∧ i ≤ 10) (hj : -10 ≤ j ∧ j ≤ 10) (bw : Rng x.prime w) (hl : (w.length : Int) ≤ dimZ x i j) :
    ACalls Try.prog 71 [v, .int .i64 i, .int .i64 j, wv, .bool ac] h (Made OI h (stepZ x i j w ac)) := by
  obtain ⟨P, kx, qx⟩ := hx.at_
  obtain ⟨b4, o4, kw, hw'⟩ := hw'.can
  refine ACalls.madeI (ACalls.wk (args' := [vD x P, .int .i64 i, .int .i64 j, .slice (some ⟨b4, o4, none⟩) w.length 0, .bool ac]) ?_ (.cons kx (.cons (Wk.refl _) (.cons (Wk.refl _) (.cons kw (.cons (Wk.refl _) .nil))))))
  refine ACalls.of Tt.tab Try.func71 rfl (by kernel_rfl) Try.ntmps71 _ rfl rfl (fun hw => ?_)
  have S := Sep.start h
  have c1 := RS.cells qx.1 rfl
  have c2 := RS.cells qx.2.1 rfl
  have c3 := RS.cells qx.2.2 rfl
  have hm := qx.1.1
  have hW := hd.w
  have hH := hd.h
  have h1 : 0 < x.dims.length := hW.1
  have hdA := hd.dim (i - 1) j
  have hdD := hd.dim i (j - 1)
  have eW : x.dims.length = dW x := rfl
  have eH : (row x.dims 0).length = dH x := rfl
  refine S.new fun b g S => ?_
  refine LoadX.same (v := vD x P) (S.at_ 0 rfl) rfl ?_
  refine WR.i64 ?_
  refine CallX.same (l03Dim_c _ _ x i (j - 1) (qx.reads S.le) hW.1 hd.col) ?_
  rintro r g' ⟨rfl, rfl⟩
  refine BIf.mk (fun ea => ?_) (fun ea => ?_)
  · have ea : ac = true := ea
    subst ea
    refine LoadX.same (v := vD x P) (S.at_ 0 rfl) rfl ?_
    refine WR.i64 ?_
    refine CallX.same (l03Dim_c _ _ x (i - 1) j (qx.reads S.le) hW.1 hd.col) ?_
    rintro r g' ⟨rfl, rfl⟩
    obtain ⟨nn, hnn⟩ : ∃ m : Nat, dimZ x (i - 1) j = m := ⟨(dimZ x (i - 1) j).toNat, by omega⟩
    rw [hnn]
    obtain ⟨t1, t2⟩ := hd.acr.cell i j
    have out : ∀ g, Sep h.length h g [.bx b 33 4 (cD x P)] → ¬ ((0 ≤ i ∧ i ≤ (dW x : Int) - 1) ∧ (0 ≤ j ∧ j ≤ (dH x : Int) - 1)) → acr x i j w = tab nn fun _ => 0 := fun g S hh => by
      unfold acr; rw [celZ_out hh, comb_nil, hnn]; rfl
    refine LoadX.same (v := vD1 x P) (S.at_ 0 rfl) rfl ?_
    refine WR.i64 ?_
    refine CallX.same (l01In_c _ i 0 _) ?_
    rintro r g' ⟨rfl, rfl⟩
    refine BIf.mk (fun e1 => ?_) (fun e1 => ?_)
    · have e1 : ¬ (0 ≤ i ∧ i ≤ (dW x : Int) - 1) := by simp at e1; omega
      have e3 := out _ S fun hh => e1 hh.1
      refine BIf.yes rfl ?_
      refine ⟨by omega, rfl, by omega, by show (nn : Int) * (8 : Nat) ≤ _; omega, ?_⟩
      refine S.new fun b5 g S => ?_
      have S := S.recast 0 rfl (zeros_tab _)
      have S := S.bx_tr (xs := acr x i j w) 0 (by rw [e3]; rfl) (by rw [e3, tab_length]; omega) 1
      rw [e3, tab_length] at S
      rw [show stepZ x i j w true = acr x i j w from rfl, e3]
      exact S.fin 0 rfl
    have e1 : 0 ≤ i ∧ i ≤ (dW x : Int) - 1 := by simp at e1; omega
    refine LoadX.same (v := vD1 x P) (S.at_ 0 rfl) rfl ?_
    refine IdxX.mk (by omega) (by omega) ?_
    refine c1.rowY S.le h1 fun b5 o5 r5 => ?_
    refine WR.i64 ?_
    refine CallX.same (l01In_c _ j 0 _) ?_
    rintro r g' ⟨rfl, rfl⟩
    refine BIf.mk (fun e2 => ?_) (fun e2 => ?_)
    · have e2 : ¬ (0 ≤ j ∧ j ≤ (dH x : Int) - 1) := by simp at e2; omega
      have e3 := out _ S fun hh => e2 hh.2
      refine ⟨by omega, rfl, by omega, by show (nn : Int) * (8 : Nat) ≤ _; omega, ?_⟩
      refine S.new fun b5 g S => ?_
      have S := S.recast 0 rfl (zeros_tab _)
      have S := S.bx_tr (xs := acr x i j w) 0 (by rw [e3]; rfl) (by rw [e3, tab_length]; omega) 1
      rw [e3, tab_length] at S
      rw [show stepZ x i j w true = acr x i j w from rfl, e3]
      exact S.fin 0 rfl
    have e2 : 0 ≤ j ∧ j ≤ (dH x : Int) - 1 := by simp at e2; omega
    obtain ⟨a, c, rfl, rfl, ha, hc⟩ := in_nat ⟨e1, e2⟩
    have hla : x.across.length = dW x := hd.acr.1
    have hlc := hd.acr.2.1 a ha
    refine BIf.yes rfl ?_
    refine DrawX.of Tt.tab follows_any [12] [] [0, 1, 2, 3, 4, 5, 6, 7, 8, 9, 10, 11, 12, 13] rfl (by kernel_rfl) (by kernel_rfl) ?_
    refine LoadX.same (v := .int .i64 x.prime) (S.at_ 0 rfl) rfl ?_
    refine LoadX.same (v := vD2 x P) (S.at_ 0 rfl) rfl ?_
    refine IdxX.mk (by omega) (by omega) ?_
    refine c2.ten S.le (show a < x.across.length by omega) fun b6 o6 h6 => ?_
    have c6 := h6.cells rfl
    refine IdxX.mk (by omega) (by omega) ?_
    refine c6.mat S.le (show c < (ten x.across a).length by omega) fun b7 o7 h7 => ?_
    have e4 : celZ x x.across a c = mat (ten x.across a) c := celZ_in ha hc
    rw [e4] at t1 t2
    rw [hnn] at t2
    have e5 : stepZ x a c w true = comb x.prime nn w (mat (ten x.across a) c) := by show acr x a c w = _; unfold acr; rw [e4, hnn]; rfl
    rw [e5]
    refine S.madeL OI.fr (l01Apply_c _ x.prime nn _ _ w (mat (ten x.across a) c) (prime_rng hd.p) (by omega) (RI.le _ _ _ _ S.le hw') (RII.le _ _ _ _ S.le h7) bw t2 (by omega)) fun b8 o8 g L S => ?_
    refine ⟨L, ?_⟩
    exact S.fin 0 rfl
  · have ea : ac = false := ea
    subst ea
    obtain ⟨nn, hnn⟩ : ∃ m : Nat, dimZ x i (j - 1) = m := ⟨(dimZ x i (j - 1)).toNat, by omega⟩
    rw [hnn]
    obtain ⟨t1, t2⟩ := hd.dwn.cell i j
    have out : ¬ ((0 ≤ i ∧ i ≤ (dW x : Int) - 1) ∧ (0 ≤ j ∧ j ≤ (dH x : Int) - 1)) → dwn x i j w = tab nn fun _ => 0 := fun hh => by
      unfold dwn; rw [celZ_out hh, comb_nil, hnn]; rfl
    refine LoadX.same (v := vD1 x P) (S.at_ 0 rfl) rfl ?_
    refine WR.i64 ?_
    refine CallX.same (l01In_c _ i 0 _) ?_
    rintro r g' ⟨rfl, rfl⟩
    refine BIf.mk (fun e1 => ?_) (fun e1 => ?_)
    · have e1 : ¬ (0 ≤ i ∧ i ≤ (dW x : Int) - 1) := by simp at e1; omega
      have e3 := out fun hh => e1 hh.1
      refine BIf.yes rfl ?_
      refine ⟨by omega, rfl, by omega, by show (nn : Int) * (8 : Nat) ≤ _; omega, ?_⟩
      refine S.new fun b5 g S => ?_
      have S := S.recast 0 rfl (zeros_tab _)
      have S := S.bx_tr (xs := dwn x i j w) 0 (by rw [e3]; rfl) (by rw [e3, tab_length]; omega) 1
      rw [e3, tab_length] at S
      rw [show stepZ x i j w false = dwn x i j w from rfl, e3]
      exact S.fin 0 rfl
    have e1 : 0 ≤ i ∧ i ≤ (dW x : Int) - 1 := by simp at e1; omega
    refine LoadX.same (v := vD1 x P) (S.at_ 0 rfl) rfl ?_
    refine IdxX.mk (by omega) (by omega) ?_
    refine c1.rowY S.le h1 fun b5 o5 r5 => ?_
    refine WR.i64 ?_
    refine CallX.same (l01In_c _ j 0 _) ?_
    rintro r g' ⟨rfl, rfl⟩
    refine BIf.mk (fun e2 => ?_) (fun e2 => ?_)
    · have e2 : ¬ (0 ≤ j ∧ j ≤ (dH x : Int) - 1) := by simp at e2; omega
      have e3 := out fun hh => e2 hh.2
      refine ⟨by omega, rfl, by omega, by show (nn : Int) * (8 : Nat) ≤ _; omega, ?_⟩
      refine S.new fun b5 g S => ?_
      have S := S.recast 0 rfl (zeros_tab _)
      have S := S.bx_tr (xs := dwn x i j w) 0 (by rw [e3]; rfl) (by rw [e3, tab_length]; omega) 1
      rw [e3, tab_length] at S
      rw [show stepZ x i j w false = dwn x i j w from rfl, e3]
      exact S.fin 0 rfl
    have e2 : 0 ≤ j ∧ j ≤ (dH x : Int) - 1 := by simp at e2; omega
    obtain ⟨a, c, rfl, rfl, ha, hc⟩ := in_nat ⟨e1, e2⟩
    have hla : x.down.length = dW x := hd.dwn.1
    have hlc := hd.dwn.2.1 a ha
    refine BIf.no rfl ?_
    refine DrawX.of Tt.tab follows_any [12] [] [0, 1, 2, 3, 4, 5, 6, 7, 8, 9, 10, 11, 12, 13] rfl (by kernel_rfl) (by kernel_rfl) ?_
    refine LoadX.same (v := .int .i64 x.prime) (S.at_ 0 rfl) rfl ?_
    refine LoadX.same (v := vD3 x P) (S.at_ 0 rfl) rfl ?_
    refine IdxX.mk (by omega) (by omega) ?_
    refine c3.ten S.le (show a < x.down.length by omega) fun b6 o6 h6 => ?_
    have c6 := h6.cells rfl
    refine IdxX.mk (by omega) (by omega) ?_
    refine c6.mat S.le (show c < (ten x.down a).length by omega) fun b7 o7 h7 => ?_
    have e4 : celZ x x.down a c = mat (ten x.down a) c := celZ_in ha hc
    rw [e4] at t1 t2
    rw [hnn] at t2
    have e5 : stepZ x a c w false = comb x.prime nn w (mat (ten x.down a) c) := by show dwn x a c w = _; unfold dwn; rw [e4, hnn]; rfl
    rw [e5]
    refine S.madeL OI.fr (l01Apply_c _ x.prime nn _ _ w (mat (ten x.down a) c) (prime_rng hd.p) (by omega) (RI.le _ _ _ _ S.le hw') (RII.le _ _ _ _ S.le h7) bw t2 (by omega)) fun b8 o8 g L S => ?_
    refine ⟨L, ?_⟩
    exact S.fin 0 rfl

end Go.Gl

set_option linter.unusedVariables false
set_option linter.unusedSimpArgs false
namespace Go.Gl
open Go.Proofs Go.Proofs.Ytionapmdibdfpaa Go.Pl

theorem lead_no {v : List Int} (h : 0 ≤ lead v) : zeroV v = false := by unfold zeroV; exact decide_eq_false (by omega)
theorem lead_yes {v : List Int} (h : ¬ 0 ≤ lead v) : zeroV v = true := by unfold zeroV; exact decide_eq_true (by omega)

theorem l03Square_c (h : AH) (v : Value) (x : SDouble) (hx : RDouble h v x) (hd : DShape x) : ACalls Try.prog 44 [v] h (fun r h' => r = .bool (dOk x) ∧ h' = h) := by
  obtain ⟨P, kx, qx⟩ := hx.at_
  refine ACalls.wk (args' := [vD x P]) ?_ (.cons kx .nil)
  refine ACalls.of Tt.tab Try.func44 rfl (by kernel_rfl) Try.ntmps44 _ rfl rfl (fun hw => ?_)
  have S := Sep.start h
  have c1 := RS.cells qx.1 rfl
  have c2 := RS.cells qx.2.1 rfl
  have c3 := RS.cells qx.2.2 rfl
  have hW := hd.w
  have hH := hd.h
  have hpr := prime_rng hd.p
  have h1 : 0 < x.dims.length := hW.1
  have eW : x.dims.length = dW x := rfl
  have eH : (row x.dims 0).length = dH x := rfl
  refine S.new fun b g S => ?_
  refine LoadX.same (v := .int .i64 x.prime) (S.at_ 0 rfl) rfl ?_
  refine ⟨⟨[1, 3, 4], fun n' vs g => ∃ i : Nat, n' = dW x - i ∧ i ≤ dW x ∧ Sep h.length h g [.bx b 33 4 (cD x P)] ∧ fine x i 0 0 = true ∧
    vs = [.pointer (some ⟨b, 0, none⟩), .int .i64 x.prime, .int .i64 i], _, ⟨0, rfl, Nat.zero_le _, S, fine_zero x, rfl⟩, ?_⟩⟩
  rintro n' vs g ⟨i, rfl, hi, S, hf, rfl⟩
  refine LoadX.same (v := vD1 x P) (S.at_ 0 rfl) rfl ?_
  refine BIf.mk (fun h2 => ?_) (fun h2 => ?_)
  · have hlt : i < dW x := by simp at h2; omega
    have hcol := hd.col i hlt
    refine ⟨⟨[1, 3, 4, 5], fun n' vs g => ∃ j : Nat, n' = dH x - j ∧ j ≤ dH x ∧ Sep h.length h g [.bx b 33 4 (cD x P)] ∧ fine x i j 0 = true ∧
      vs = [.pointer (some ⟨b, 0, none⟩), .int .i64 x.prime, .int .i64 i, .int .i64 j], _, ⟨0, rfl, Nat.zero_le _, S, hf, rfl⟩, ?_⟩⟩
    clear hf S
    rintro n' vs g ⟨j, rfl, hj, S, hf, rfl⟩
    refine LoadX.same (v := vD1 x P) (S.at_ 0 rfl) rfl ?_
    refine IdxX.mk (by omega) (by omega) ?_
    refine c1.rowY S.le h1 fun b4 o4 r4 => ?_
    refine BIf.mk (fun h3 => ?_) (fun h3 => ?_)
    · have hjl : j < dH x := by simp at h3; omega
      have hdm := hd.dim i j
      have hdA := hd.dim (i - 1) j
      have hdD := hd.dim i (j - 1)
      have hdB := hd.dim (i - 1) (j - 1)
      obtain ⟨m, hm⟩ : ∃ m : Nat, dimZ x i j = m := ⟨(dimZ x i j).toNat, by omega⟩
      have hdi := dimZ_in hlt hjl
      obtain ⟨tA1, tA2⟩ := hd.acr.cell i j
      obtain ⟨tD1, tD2⟩ := hd.dwn.cell i j
      have eA : celZ x x.across i j = mat (ten x.across i) j := celZ_in hlt hjl
      have eD : celZ x x.down i j = mat (ten x.down i) j := celZ_in hlt hjl
      have hla : x.across.length = dW x := hd.acr.1
      have hlc := hd.acr.2.1 i hlt
      have hla3 : x.down.length = dW x := hd.dwn.1
      have hlc3 := hd.dwn.2.1 i hlt
      refine ⟨⟨[1, 3, 4, 5, 6], fun n' vs g => ∃ k : Nat, n' = m - k ∧ k ≤ m ∧ Sep h.length h g [.bx b 33 4 (cD x P)] ∧ fine x i j k = true ∧
        vs = [.pointer (some ⟨b, 0, none⟩), .int .i64 x.prime, .int .i64 i, .int .i64 j, .int .i64 k], _, ⟨0, rfl, Nat.zero_le _, S, hf, rfl⟩, ?_⟩⟩
      clear hf S
      rintro n' vs g ⟨k, rfl, hk, S, hf, rfl⟩
      refine LoadX.same (v := vD1 x P) (S.at_ 0 rfl) rfl ?_
      refine IdxX.mk (by omega) (by omega) ?_
      refine c1.row S.le (show i < x.dims.length from hlt) fun b5 o5 c5 => ?_
      refine IdxX.mk (by omega) (by omega) ?_
      refine c5.ith S.le (show j < (row x.dims i).length by omega) ?_
      rw [show ith (row x.dims i) j = m by rw [← hm, hdi]; rfl]
      refine BIf.mk (fun h4 => ?_) (fun h4 => ?_)
      · have hkl : k < m := by simpa using h4
        have hkd : (k : Int) < dimZ x i j := by omega
        rw [eA] at tA1 tA2
        rw [eD] at tD1 tD2
        refine DrawX.of Tt.tab follows_any [] [] [0, 1, 2, 3, 4, 5, 6, 7, 8, 9, 10, 11, 12, 13, 14, 15, 16, 17, 18, 19, 20, 21, 22, 23] rfl (by kernel_rfl) (by kernel_rfl) ?_
        refine LoadX.same (v := vD2 x P) (S.at_ 0 rfl) rfl ?_
        refine IdxX.mk (by omega) (by omega) ?_
        refine c2.ten S.le (show i < x.across.length by omega) fun b6 o6 h6 => ?_
        have c6 := h6.cells rfl
        refine IdxX.mk (by omega) (by omega) ?_
        refine c6.mat S.le (show j < (ten x.across i).length by omega) fun b7 o7 h7 => ?_
        have c7 := h7.cells rfl
        refine IdxX.mk (by omega) (by omega) ?_
        refine c7.rowY S.le (show k < (mat (ten x.across i) j).length by omega) fun b8 o8 rA => ?_
        refine LoadX.same (v := vD3 x P) (S.at_ 0 rfl) rfl ?_
        refine IdxX.mk (by omega) (by omega) ?_
        refine c3.ten S.le (show i < x.down.length by omega) fun b9 o9 h9 => ?_
        have c9 := h9.cells rfl
        refine IdxX.mk (by omega) (by omega) ?_
        refine c9.mat S.le (show j < (ten x.down i).length by omega) fun b10 o10 h10 => ?_
        have c10 := h10.cells rfl
        refine IdxX.mk (by omega) (by omega) ?_
        refine c10.rowY S.le (show k < (mat (ten x.down i) j).length by omega) fun b11 o11 rD => ?_
        have vA := tA2.row (show k < (mat (ten x.across i) j).length by omega)
        have vDd := tD2.row (show k < (mat (ten x.down i) j).length by omega)
        have eqc : ∀ c, (sqAcr x i j k = c → zeroV (acr x (i - 1) j (row (mat (ten x.across i) j) k)) = c) ∧ (sqDwn x i j k = c → zeroV (dwn x i (j - 1) (row (mat (ten x.down i) j) k)) = c) := fun c => by
          unfold sqAcr sqDwn; rw [eA, eD]; exact ⟨id, id⟩
        have eq1 : sqAcr x i j k = zeroV (acr x (i - 1) j (row (mat (ten x.across i) j) k)) := by unfold sqAcr; rw [eA]
        have eq2 : sqDwn x i j k = zeroV (dwn x i (j - 1) (row (mat (ten x.down i) j) k)) := by unfold sqDwn; rw [eD]
        have eq3 : sqBoth x i j k = zeroV (less x.prime (dwn x (i - 1) j (row (mat (ten x.across i) j) k)) (acr x i (j - 1) (row (mat (ten x.down i) j) k)) (-1)) := by unfold sqBoth; rw [eA, eD]
        generalize row (mat (ten x.across i) j) k = A at *
        generalize row (mat (ten x.down i) j) k = D at *
        have no : ∀ g2, Le h g2 → sqCell x i j k = false → FinX h (fun r h' => r = .bool (dOk x) ∧ h' = h) (.bool false) g2 := fun g2 l hn => FinX.keep hw l rfl ⟨by
          rw [dOk_f fun hh => by have := hh.sq i j k hlt hjl hkd; rw [hn] at this; cases this], rfl⟩
        refine LoadX.same (v := vD x P) (S.at_ 0 rfl) rfl ?_
        refine WR.i64 ?_
        refine S.madeL OI.fr (l03Step_c _ _ _ x (i - 1) j A true (qx.reads S.le) (RI.le _ _ _ _ S.le rA) hd (by omega) (by omega) vA.2 (by have := vA.1; omega)) fun b12 o12 g2 L S => ?_
        refine CallX.same (l01Lead_c _ _ _ (S.rd OI.reads 0 rfl)) ?_
        rintro r g' ⟨rfl, rfl⟩
        refine BIf.mk (fun e1 => ?_) (fun e1 => ?_)
        · refine BIf.yes rfl ?_
          have e1 : 0 ≤ lead (acr x (i - 1) j A) := by simpa [stepZ] using e1
          exact no _ S.le (by rw [sqCell, eq1, lead_no e1]; rfl)
        have e1 : ¬ 0 ≤ lead (acr x (i - 1) j A) := by simp [stepZ] at e1; exact Int.not_le.2 e1
        refine LoadX.same (v := vD x P) (S.at_ 1 rfl) rfl ?_
        refine WR.i64 ?_
        refine S.madeL OI.fr (l03Step_c _ _ _ x i (j - 1) D false (qx.reads S.le) (RI.le _ _ _ _ S.le rD) hd (by omega) (by omega) vDd.2 (by have := vDd.1; omega)) fun b13 o13 g3 L S => ?_
        refine CallX.same (l01Lead_c _ _ _ (S.rd OI.reads 0 rfl)) ?_
        rintro r g' ⟨rfl, rfl⟩
        refine BIf.mk (fun e2 => ?_) (fun e2 => ?_)
        · have e2 : 0 ≤ lead (dwn x i (j - 1) D) := by simpa [stepZ] using e2
          exact no _ S.le (by rw [sqCell, eq2, lead_no e2, Bool.and_false, Bool.false_and])
        have e2 : ¬ 0 ≤ lead (dwn x i (j - 1) D) := by simp [stepZ] at e2; exact Int.not_le.2 e2
        refine DrawX.of Tt.tab follows_any [5, 11] [] [0, 1, 2, 3, 4, 6, 7, 8, 9, 10, 5, 11, 12, 13] rfl (by kernel_rfl) (by kernel_rfl) ?_
        refine LoadX.same (v := vD x P) (S.at_ 2 rfl) rfl ?_
        refine WR.i64 ?_
        refine LoadX.same (v := vD x P) (S.at_ 2 rfl) rfl ?_
        refine WR.i64 ?_
        refine S.madeL OI.fr (l03Step_c _ _ _ x (i - 1) j A false (qx.reads S.le) (RI.le _ _ _ _ S.le rA) hd (by omega) (by omega) vA.2 (by have := vA.1; omega)) fun b14 o14 g4 L S => ?_
        refine ⟨L, ?_⟩
        refine S.madeL OI.fr (l03Step_c _ _ _ x i (j - 1) D true (qx.reads S.le) (RI.le _ _ _ _ S.le rD) hd (by omega) (by omega) vDd.2 (by have := vDd.1; omega)) fun b15 o15 g5 L S => ?_
        refine ⟨L, ?_⟩
        rw [show stepZ x (i - 1) j A false = dwn x (i - 1) j A from rfl, show stepZ x i (j - 1) D true = acr x i (j - 1) D from rfl] at *
        have v1 : Vec x.prime (dimZ x (i - 1) (j - 1)).toNat (dwn x (i - 1) j A) := dwn_vec hd.toDHead _ _ _
        have v2 : Vec x.prime (dimZ x (i - 1) (j - 1)).toNat (acr x i (j - 1) D) := acr_vec hd.toDHead _ _ _
        generalize dwn x (i - 1) j A = one at *
        generalize acr x i (j - 1) D = two at *
        have hl1 := v1.1
        have hl2 := v2.1
        refine S.madeL OI.fr (l01Less_c _ x.prime (-1) _ _ one two hpr (S.rd OI.reads 1 rfl) (S.rd OI.reads 0 rfl) (by omega) (by omega) (by omega) (fun i => by have := v1.2.ith (by omega) i; omega) (fun i => by have := v2.2.ith (by omega) i; omega)) fun b16 o16 g6 L S => ?_
        refine CallX.same (l01Lead_c _ _ _ (S.rd OI.reads 0 rfl)) ?_
        rintro r g' ⟨rfl, rfl⟩
        refine BIf.mk (fun e3 => ?_) (fun e3 => ?_)
        · have e3 : 0 ≤ lead (less x.prime one two (-1)) := by simpa using e3
          exact no _ S.le (by rw [sqCell, eq3, lead_no e3, Bool.and_false])
        have e3 : ¬ 0 ≤ lead (less x.prime one two (-1)) := by simp at e3; exact Int.not_le.2 e3
        refine WR.i64 ?_
        exact ⟨m - (k + 1), by omega, k + 1, rfl, hkl, S.tail.tail.tail.tail.tail, by rw [fine_next hlt hjl hkd, hf, sqCell, eq1, eq2, eq3, lead_yes e1, lead_yes e2, lead_yes e3]; rfl, rfl⟩
      · have hk2 : k = m := by simp at h4; omega
        subst hk2
        refine WR.i64 ?_
        exact ⟨dH x - (j + 1), by omega, j + 1, rfl, hjl, S, by rw [← fine_cell (k := k) (by omega)]; exact hf, rfl⟩
    · have hj2 : j = dH x := by simp at h3; omega
      subst hj2
      refine WR.i64 ?_
      exact ⟨dW x - (i + 1), by omega, i + 1, rfl, hlt, S, by rw [← fine_col]; exact hf, rfl⟩
  · have hi2 : i = dW x := by simp at h2; omega
    subst hi2
    exact FinX.keep hw S.le rfl ⟨by rw [← fine_all hd, hf], rfl⟩

def DLens (x : SDouble) (i : Nat) : Prop := (row x.dims i).length = dH x ∧ (ten x.across i).length = dH x ∧ (ten x.down i).length = dH x ∧ ∀ j, j < dH x → 0 ≤ ent x.dims i j ∧ ent x.dims i j ≤ 4
theorem l03Is_c (h : AH) (v : Value) (x : SDouble) (hx : RDouble h v x) : ACalls Try.prog 21 [v] h (fun r h' => r = .bool (dOk x) ∧ h' = h) := by
  obtain ⟨P, kx, qx⟩ := hx.at_
  refine ACalls.wk (args' := [vD x P]) ?_ (.cons kx .nil)
  refine ACalls.of Tt.tab Try.func21 rfl (by kernel_rfl) Try.ntmps21 _ rfl rfl (fun hw => ?_)
  have S := Sep.start h
  have c1 := RS.cells qx.1 rfl
  have c2 := RS.cells qx.2.1 rfl
  have c3 := RS.cells qx.2.2 rfl
  have hm1 := qx.1.1
  have hm2 := qx.2.1.1
  have hm3 := qx.2.2.1
  have eW : x.dims.length = dW x := rfl
  have eH : (row x.dims 0).length = dH x := rfl
  refine S.new fun b g S => ?_
  have hb : look g b = some ⟨cD x P, some (33, 4)⟩ := S.at_ 0 rfl
  have no : ¬ DOk x → FinX h (fun r h' => r = .bool (dOk x) ∧ h' = h) (.bool false) g := fun hn => FinX.keep hw S.le rfl ⟨by rw [dOk_f hn], rfl⟩
  refine LoadX.same (v := vD1 x P) hb rfl ?_
  refine LoadX.same (v := .int .i64 x.prime) hb rfl ?_
  refine CallX.same (l01Prime_c g x.prime) ?_
  rintro r g' ⟨rfl, rfl⟩
  refine BIf.mk (fun e1 => ?_) (fun e1 => ?_)
  · have e1 : prime x.prime = false := by simpa using e1
    refine BIf.yes rfl (BIf.yes rfl (BIf.yes rfl (BIf.yes rfl ?_)))
    exact no fun hh => by have := hh.p; rw [e1] at this; cases this
  have e1 : prime x.prime = true := by simpa using e1
  refine BIf.mk (fun e2 => ?_) (fun e2 => ?_)
  · refine BIf.yes rfl (BIf.yes rfl (BIf.yes rfl ?_))
    exact no fun hh => by have := hh.w; simp at e2; omega
  have e2 : 1 ≤ dW x := by simp at e2; omega
  refine BIf.mk (fun e3 => ?_) (fun e3 => ?_)
  · refine BIf.yes rfl (BIf.yes rfl ?_)
    exact no fun hh => by have := hh.w; simp at e3; omega
  have e3 : dW x ≤ 4 := by simp at e3; omega
  refine LoadX.same (v := vD2 x P) hb rfl ?_
  refine BIf.mk (fun e4 => ?_) (fun e4 => ?_)
  · refine BIf.yes rfl ?_
    exact no fun hh => by have := hh.acr.1; simp at e4; omega
  have e4 : x.across.length = dW x := by simp at e4; omega
  refine LoadX.same (v := vD3 x P) hb rfl ?_
  refine BIf.mk (fun e5 => ?_) (fun e5 => ?_)
  · exact no fun hh => by have := hh.dwn.1; simp at e5; omega
  have e5 : x.down.length = dW x := by simp at e5; omega
  refine LoadX.same (v := vD1 x P) hb rfl ?_
  refine IdxX.mk (by omega) (by omega) ?_
  refine c1.rowY S.le (show 0 < x.dims.length by omega) fun b4 o4 r4 => ?_
  have hm4 := r4.1
  refine BIf.mk (fun e6 => ?_) (fun e6 => ?_)
  · refine BIf.yes rfl ?_
    exact no fun hh => by have := hh.h; simp at e6; omega
  have e6 : 1 ≤ dH x := by simp at e6; omega
  refine BIf.mk (fun e7 => ?_) (fun e7 => ?_)
  · exact no fun hh => by have := hh.h; simp at e7; omega
  have e7 : dH x ≤ 4 := by simp at e7; omega
  rename AH => g
  refine ⟨⟨[1, 3, 4, 5], fun n' vs g2 => ∃ i : Nat, n' = dW x - i ∧ i ≤ dW x ∧ g2 = g ∧ (∀ i', i' < i → DLens x i') ∧
    vs = [.pointer (some ⟨b, 0, none⟩), .int .i64 (dW x), .int .i64 (dH x), .int .i64 i], _, ⟨0, rfl, Nat.zero_le _, rfl, fun i hi => by omega, rfl⟩, ?_⟩⟩
  rintro n' vs g2 ⟨i, rfl, hi, rfl, hs, rfl⟩
  refine BIf.mk (fun h2 => ?_) (fun h2 => ?_)
  · have hlt : i < dW x := by simpa using h2
    refine LoadX.same (v := vD1 x P) hb rfl ?_
    refine IdxX.mk (by omega) (by omega) ?_
    refine c1.rowY S.le (show i < x.dims.length from hlt) fun b5 o5 r5 => ?_
    have c5 := r5.cells rfl
    refine BIf.mk (fun e8 => ?_) (fun e8 => ?_)
    · refine BIf.yes rfl (BIf.yes rfl ?_)
      exact no fun hh => by have := hh.col i hlt; simp at e8; omega
    have e8 : (row x.dims i).length = dH x := by simp at e8; omega
    refine LoadX.same (v := vD2 x P) hb rfl ?_
    refine IdxX.mk (by omega) (by omega) ?_
    refine c2.ten S.le (show i < x.across.length by omega) fun b6 o6 h6 => ?_
    refine BIf.mk (fun e9 => ?_) (fun e9 => ?_)
    · refine BIf.yes rfl ?_
      exact no fun hh => by have := hh.acr.2.1 i hlt; simp at e9; omega
    have e9 : (ten x.across i).length = dH x := by simp at e9; omega
    refine LoadX.same (v := vD3 x P) hb rfl ?_
    refine IdxX.mk (by omega) (by omega) ?_
    refine c3.ten S.le (show i < x.down.length by omega) fun b7 o7 h7 => ?_
    refine BIf.mk (fun e10 => ?_) (fun e10 => ?_)
    · exact no fun hh => by have := hh.dwn.2.1 i hlt; simp at e10; omega
    have e10 : (ten x.down i).length = dH x := by simp at e10; omega
    refine ⟨⟨[1, 3, 4, 5, 6], fun n' vs g3 => ∃ j : Nat, n' = dH x - j ∧ j ≤ dH x ∧ g3 = g2 ∧ (∀ j', j' < j → 0 ≤ ent x.dims i j' ∧ ent x.dims i j' ≤ 4) ∧
      vs = [.pointer (some ⟨b, 0, none⟩), .int .i64 (dW x), .int .i64 (dH x), .int .i64 i, .int .i64 j], _, ⟨0, rfl, Nat.zero_le _, rfl, fun j hj => by omega, rfl⟩, ?_⟩⟩
    rintro n' vs g3 ⟨j, rfl, hj, rfl, hr, rfl⟩
    refine BIf.mk (fun h3 => ?_) (fun h3 => ?_)
    · have hjl : j < dH x := by simpa using h3
      refine LoadX.same (v := vD1 x P) hb rfl ?_
      refine IdxX.mk (by omega) (by omega) ?_
      refine c1.row S.le (show i < x.dims.length from hlt) fun b8 o8 c8 => ?_
      refine IdxX.mk (by omega) (by omega) ?_
      refine c8.ith S.le (show j < (row x.dims i).length by omega) ?_
      refine CallX.same (l01In_c _ _ 0 4) ?_
      rintro r g' ⟨rfl, rfl⟩
      refine BIf.mk (fun e11 => ?_) (fun e11 => ?_)
      · exact no fun hh => by have := hh.num i hlt j hjl; unfold ent at this; simp at e11; omega
      refine WR.i64 ?_
      refine ⟨dH x - (j + 1), by omega, j + 1, rfl, hjl, rfl, fun j' hj' => ?_, rfl⟩
      by_cases hjj : j' = j
      · subst hjj; unfold ent; simp at e11; omega
      · exact hr j' (by omega)
    · have hj2 : j = dH x := by simp at h3; omega
      subst hj2
      refine WR.i64 ?_
      refine ⟨dW x - (i + 1), by omega, i + 1, rfl, hlt, rfl, fun i' hi' => ?_, rfl⟩
      by_cases hii : i' = i
      · subst hii; exact ⟨e8, e9, e10, hr⟩
      · exact hs i' (by omega)
  have hi2 : i = dW x := by simp at h2; omega
  subst hi2
  have hd : DHead x := ⟨e1, ⟨e2, e3⟩, ⟨e6, e7⟩, fun i hi => (hs i hi).1, fun i hi => (hs i hi).2.2.2⟩
  have hpr := prime_rng hd.p
  rename AH => g
  refine ⟨⟨[1, 3, 4, 7], fun n' vs g2 => ∃ i : Nat, n' = dW x - i ∧ i ≤ dW x ∧ g2 = g ∧ (∀ i' j, i' < i → j < dH x → CellOk x x.across (fun i j => dimZ x (i - 1) j) i' j ∧ CellOk x x.down (fun i j => dimZ x i (j - 1)) i' j) ∧
    vs = [.pointer (some ⟨b, 0, none⟩), .int .i64 (dW x), .int .i64 (dH x), .int .i64 i], _, ⟨0, rfl, Nat.zero_le _, rfl, fun i j hi => by omega, rfl⟩, ?_⟩⟩
  rintro n' vs g2 ⟨i, rfl, hi, rfl, ht, rfl⟩
  refine BIf.mk (fun h2 => ?_) (fun h2 => ?_)
  · have hlt : i < dW x := by simpa using h2
    obtain ⟨f1, f2, f3, f4⟩ := hs i hlt
    refine ⟨⟨[1, 3, 4, 7, 8], fun n' vs g3 => ∃ j : Nat, n' = dH x - j ∧ j ≤ dH x ∧ g3 = g2 ∧ (∀ j', j' < j → CellOk x x.across (fun i j => dimZ x (i - 1) j) i j' ∧ CellOk x x.down (fun i j => dimZ x i (j - 1)) i j') ∧
      vs = [.pointer (some ⟨b, 0, none⟩), .int .i64 (dW x), .int .i64 (dH x), .int .i64 i, .int .i64 j], _, ⟨0, rfl, Nat.zero_le _, rfl, fun j hj => by omega, rfl⟩, ?_⟩⟩
    rintro n' vs g3 ⟨j, rfl, hj, rfl, hr, rfl⟩
    refine BIf.mk (fun h3 => ?_) (fun h3 => ?_)
    · have hjl : j < dH x := by simpa using h3
      have hdi := dimZ_in hlt hjl
      refine DrawX.of Tt.tab follows_any [] [] [0, 1, 2, 3, 4, 5, 6, 7, 8, 9, 10, 11, 12, 13, 14, 15, 16, 17, 18, 19, 20, 21, 22, 23, 24, 25, 26, 27, 28, 29, 30, 31, 32, 33, 34, 35, 36, 37, 38, 39, 40, 41, 42, 43, 44, 45, 46, 47, 48, 49, 50, 51] rfl (by kernel_rfl) (by kernel_rfl) ?_
      refine LoadX.same (v := .int .i64 x.prime) hb rfl ?_
      refine LoadX.same (v := vD2 x P) hb rfl ?_
      refine IdxX.mk (by omega) (by omega) ?_
      refine c2.ten S.le (show i < x.across.length by omega) fun b6 o6 h6 => ?_
      have c6 := h6.cells rfl
      refine IdxX.mk (by omega) (by omega) ?_
      refine c6.mat S.le (show j < (ten x.across i).length by omega) fun b7 o7 h7 => ?_
      refine LoadX.same (v := vD1 x P) hb rfl ?_
      refine IdxX.mk (by omega) (by omega) ?_
      refine c1.row S.le (show i < x.dims.length from hlt) fun b8 o8 c8 => ?_
      refine IdxX.mk (by omega) (by omega) ?_
      refine c8.ith S.le (show j < (row x.dims i).length by omega) ?_
      refine LoadX.same (v := vD x P) hb rfl ?_
      refine WR.i64 ?_
      refine QCall.of (fun g2 hl => l03Dim_c g2 _ x (i - 1) j (qx.reads (S.le.trans hl)) e2 hd.col) rfl ?_
      refine QCall.of (fun g2 hl => l01Table_c g2 x.prime _ _ _ (mat (ten x.across i) j) hpr (RII.le _ _ _ _ (S.le.trans hl) h7)) rfl ?_
      refine BIf.mk (fun e8 => ?_) (fun e8 => ?_)
      · refine BIf.yes rfl ?_
        refine no fun hh => ?_
        obtain ⟨k1, k2⟩ := hh.acr.2.2 i j hlt hjl
        rw [hdi] at k1
        unfold cel at k1 k2
        unfold ent at k1
        rw [decide_eq_true k1, k2] at e8
        cases e8
      have e8 : (((mat (ten x.across i) j).length : Int) = ith (row x.dims i) j) ∧ rowsOk x.prime (dimZ x (i - 1) j) (mat (ten x.across i) j) = true := by
        simp only [Bool.not_eq_false', Bool.and_eq_true, decide_eq_true_eq] at e8; exact e8
      refine LoadX.same (v := .int .i64 x.prime) hb rfl ?_
      refine LoadX.same (v := vD3 x P) hb rfl ?_
      refine IdxX.mk (by omega) (by omega) ?_
      refine c3.ten S.le (show i < x.down.length by omega) fun b6 o6 h6 => ?_
      have c6 := h6.cells rfl
      refine IdxX.mk (by omega) (by omega) ?_
      refine c6.mat S.le (show j < (ten x.down i).length by omega) fun b7 o7 h7 => ?_
      refine LoadX.same (v := vD1 x P) hb rfl ?_
      refine IdxX.mk (by omega) (by omega) ?_
      refine c1.row S.le (show i < x.dims.length from hlt) fun b8 o8 c8 => ?_
      refine IdxX.mk (by omega) (by omega) ?_
      refine c8.ith S.le (show j < (row x.dims i).length by omega) ?_
      refine LoadX.same (v := vD x P) hb rfl ?_
      refine WR.i64 ?_
      refine QCall.of (fun g2 hl => l03Dim_c g2 _ x i (j - 1) (qx.reads (S.le.trans hl)) e2 hd.col) rfl ?_
      refine QCall.of (fun g2 hl => l01Table_c g2 x.prime _ _ _ (mat (ten x.down i) j) hpr (RII.le _ _ _ _ (S.le.trans hl) h7)) rfl ?_
      refine BIf.mk (fun e9 => ?_) (fun e9 => ?_)
      · refine no fun hh => ?_
        obtain ⟨k1, k2⟩ := hh.dwn.2.2 i j hlt hjl
        rw [hdi] at k1
        unfold cel at k1 k2
        unfold ent at k1
        rw [decide_eq_true k1, k2] at e9
        cases e9
      have e9 : (((mat (ten x.down i) j).length : Int) = ith (row x.dims i) j) ∧ rowsOk x.prime (dimZ x i (j - 1)) (mat (ten x.down i) j) = true := by
        simp only [Bool.not_eq_false', Bool.and_eq_true, decide_eq_true_eq] at e9; exact e9
      refine WR.i64 ?_
      refine ⟨dH x - (j + 1), by omega, j + 1, rfl, hjl, rfl, fun j' hj' => ?_, rfl⟩
      by_cases hjj : j' = j
      · subst hjj; exact ⟨⟨by rw [hdi]; exact e8.1, e8.2⟩, ⟨by rw [hdi]; exact e9.1, e9.2⟩⟩
      · exact hr j' (by omega)
    · have hj2 : j = dH x := by simp at h3; omega
      subst hj2
      refine WR.i64 ?_
      refine ⟨dW x - (i + 1), by omega, i + 1, rfl, hlt, rfl, fun i' j' hi' hj' => ?_, rfl⟩
      by_cases hii : i' = i
      · subst hii; exact hr j' hj'
      · exact ht i' j' (by omega) hj'
  have hi2 : i = dW x := by simp at h2; omega
  subst hi2
  have hd : DShape x := ⟨hd, ⟨e4, fun i hi => (hs i hi).2.1, fun i j hi hj => (ht i j hi hj).1⟩, ⟨e5, fun i hi => (hs i hi).2.2.1, fun i j hi hj => (ht i j hi hj).2⟩⟩
  refine LoadX.same (v := vD x P) hb rfl ?_
  refine CallX.same (l03Square_c _ _ x (qx.reads S.le) hd) ?_
  rintro r g' ⟨rfl, rfl⟩
  exact FinX.keep hw S.le rfl ⟨rfl, rfl⟩

end Go.Gl

/- Chapter 3: IsDouble, the reference's side. No condition. -/
import Derived.Test.YtbjohihngoghlaaFnX3
set_option linter.unusedVariables false
set_option linter.unusedSimpArgs false
namespace Go.Gl
open Go.Proofs Go.Proofs.Ytbjohihngoghlaa Go.Pl


theorem l03Dim_c (h : AH) (v : Value) (x : SDouble) (i j : Int) (hx : RDouble h v x) (h1 : 1 ≤ dW x) (hcol : ∀ i, i < dW x → (row x.dims i).length = dH x) : ACalls Try.prog 175 [v, .int .i64 i, .int .i64 j] h (fun r h' => r = .int .i64 (dimZ x i j) ∧ h' = h) := by
  obtain ⟨P, kx, qx⟩ := hx.at_
  refine ACalls.wk (args' := [vD x P, .int .i64 i, .int .i64 j]) ?_ (.cons kx (.cons (Wk.refl _) (.cons (Wk.refl _) .nil)))
  refine ACalls.of Tt.tab Try.func175 rfl (by kernel_rfl) Try.ntmps175 _ rfl rfl (fun hw => ?_)
  have S := Sep.start h
  have c1 := RS.cells qx.1 rfl
  have hm := qx.1.1
  have h1 : 0 < x.dims.length := h1
  refine S.new fun b g S => ?_
  refine LoadX.same (v := vD1 x P) (S.at_ 0 rfl) rfl ?_
  refine WR.i64 ?_
  refine CallX.same (l01In_c _ i 0 _) ?_
  rintro r g' ⟨rfl, rfl⟩
  refine BIf.mk (fun e1 => ?_) (fun e1 => ?_)
  · have e1 : ¬ (0 ≤ i ∧ i ≤ (dW x : Int) - 1) := by unfold dW; simp at e1; omega
    refine BIf.yes rfl ?_
    exact FinX.keep hw S.le rfl ⟨by rw [dimZ_out fun hh => e1 hh.1], rfl⟩
  have e1 : 0 ≤ i ∧ i ≤ (dW x : Int) - 1 := by unfold dW; simp at e1; omega
  refine LoadX.same (v := vD1 x P) (S.at_ 0 rfl) rfl ?_
  refine IdxX.mk (by omega) (by omega) ?_
  refine c1.rowY S.le h1 fun b4 o4 r4 => ?_
  have hm4 := r4.1
  refine WR.i64 ?_
  refine CallX.same (l01In_c _ j 0 _) ?_
  rintro r g' ⟨rfl, rfl⟩
  refine BIf.mk (fun e2 => ?_) (fun e2 => ?_)
  · have e2 : ¬ (0 ≤ j ∧ j ≤ (dH x : Int) - 1) := by unfold dH; simp at e2; omega
    exact FinX.keep hw S.le rfl ⟨by rw [dimZ_out fun hh => e2 hh.2], rfl⟩
  have e2 : 0 ≤ j ∧ j ≤ (dH x : Int) - 1 := by unfold dH; simp at e2; omega
  obtain ⟨a, c, rfl, rfl, ha, hc⟩ := in_nat ⟨e1, e2⟩
  have hcol := hcol a ha
  refine LoadX.same (v := vD1 x P) (S.at_ 0 rfl) rfl ?_
  refine IdxX.mk (by omega) (by show (a : Int) < (x.dims.length : Int); unfold dW at ha; omega) ?_
  refine c1.row S.le ha fun b4 o4 c4 => ?_
  refine IdxX.mk (by omega) (by omega) ?_
  refine c4.ith S.le (show c < (row x.dims a).length by omega) ?_
  exact FinX.keep hw S.le rfl ⟨by rw [dimZ_in ha hc]; rfl, rfl⟩

def stepZ (x : SDouble) (i j : Int) (v : List Int) (a : Bool) : List Int := if a then acr x i j v else dwn x i j v
theorem l03Step_c (h : AH) (v wv : Value) (x : SDouble) (i j : Int) (w : List Int) (ac : Bool) (hx : RDouble h v x) (hw' : RI h wv w) (hd : DShape x) (hi : -10 ≤ i ∧ i ≤ 10) (hj : -10 ≤ j ∧ j ≤ 10) (bw : Rng x.prime w) (hl : (w.length : Int) ≤ dimZ x i j) :
    ACalls Try.prog 211 [v, .int .i64 i, .int .i64 j, wv, .bool ac] h (Made OI h (stepZ x i j w ac)) := by
  obtain ⟨P, kx, qx⟩ := hx.at_
  obtain ⟨b4, o4, kw, hw'⟩ := hw'.can
  refine ACalls.madeI (ACalls.wk (args' := [vD x P, .int .i64 i, .int .i64 j, .slice (some ⟨b4, o4, none⟩) w.length 0, .bool ac]) ?_ (.cons kx (.cons (Wk.refl _) (.cons (Wk.refl _) (.cons kw (.cons (Wk.refl _) .nil))))))
  refine ACalls.of Tt.tab Try.func211 rfl (by kernel_rfl) Try.ntmps211 _ rfl rfl (fun hw => ?_)
  have S := Sep.start h
  have c1 := RS.cells qx.1 rfl
  have c2 := RS.cells qx.2.1 rfl
  have c3 := RS.cells qx.2.2 rfl
  have hm := qx.1.1
  have hW := hd.w
  have hH := hd.h
  have h1 : 0 < x.dims.length := hW.1
  have hdA := hd.dim (i - 1) j
  have hdD := hd.dim i (j - 1)
  have eW : x.dims.length = dW x := rfl
  have eH : (row x.dims 0).length = dH x := rfl
  refine S.new fun b g S => ?_
  refine LoadX.same (v := vD x P) (S.at_ 0 rfl) rfl ?_
  refine WR.i64 ?_
  refine CallX.same (l03Dim_c _ _ x i (j - 1) (qx.reads S.le) hW.1 hd.col) ?_
  rintro r g' ⟨rfl, rfl⟩
  refine BIf.mk (fun ea => ?_) (fun ea => ?_)
  · have ea : ac = true := ea
    subst ea
    refine LoadX.same (v := vD x P) (S.at_ 0 rfl) rfl ?_
    refine WR.i64 ?_
    refine CallX.same (l03Dim_c _ _ x (i - 1) j (qx.reads S.le) hW.1 hd.col) ?_
    rintro r g' ⟨rfl, rfl⟩
    obtain ⟨nn, hnn⟩ : ∃ m : Nat, dimZ x (i - 1) j = m := ⟨(dimZ x (i - 1) j).toNat, by omega⟩
    rw [hnn]
    obtain ⟨t1, t2⟩ := hd.acr.cell i j
    have out : ∀ g, Sep h.length h g [.bx b 71 4 (cD x P)] → ¬ ((0 ≤ i ∧ i ≤ (dW x : Int) - 1) ∧ (0 ≤ j ∧ j ≤ (dH x : Int) - 1)) → acr x i j w = tab nn fun _ => 0 := fun g S hh => by
      unfold acr; rw [celZ_out hh, comb_nil, hnn]; rfl
    refine LoadX.same (v := vD1 x P) (S.at_ 0 rfl) rfl ?_
    refine WR.i64 ?_
    refine CallX.same (l01In_c _ i 0 _) ?_
    rintro r g' ⟨rfl, rfl⟩
    refine BIf.mk (fun e1 => ?_) (fun e1 => ?_)
    · have e1 : ¬ (0 ≤ i ∧ i ≤ (dW x : Int) - 1) := by simp at e1; omega
      have e3 := out _ S fun hh => e1 hh.1
      refine BIf.yes rfl ?_
      refine ⟨by omega, rfl, by omega, by show (nn : Int) * (8 : Nat) ≤ _; omega, ?_⟩
      refine S.new fun b5 g S => ?_
      have S := S.recast 0 rfl (zeros_tab _)
      have S := S.bx_tr (xs := acr x i j w) 0 (by rw [e3]; rfl) (by rw [e3, tab_length]; omega) 1
      rw [e3, tab_length] at S
      rw [show stepZ x i j w true = acr x i j w from rfl, e3]
      exact S.fin 0 rfl
    have e1 : 0 ≤ i ∧ i ≤ (dW x : Int) - 1 := by simp at e1; omega
    refine LoadX.same (v := vD1 x P) (S.at_ 0 rfl) rfl ?_
    refine IdxX.mk (by omega) (by omega) ?_
    refine c1.rowY S.le h1 fun b5 o5 r5 => ?_
    refine WR.i64 ?_
    refine CallX.same (l01In_c _ j 0 _) ?_
    rintro r g' ⟨rfl, rfl⟩
    refine BIf.mk (fun e2 => ?_) (fun e2 => ?_)
    · have e2 : ¬ (0 ≤ j ∧ j ≤ (dH x : Int) - 1) := by simp at e2; omega
      have e3 := out _ S fun hh => e2 hh.2
      refine ⟨by omega, rfl, by omega, by show (nn : Int) * (8 : Nat) ≤ _; omega, ?_⟩
      refine S.new fun b5 g S => ?_
      have S := S.recast 0 rfl (zeros_tab _)
      have S := S.bx_tr (xs := acr x i j w) 0 (by rw [e3]; rfl) (by rw [e3, tab_length]; omega) 1
      rw [e3, tab_length] at S
      rw [show stepZ x i j w true = acr x i j w from rfl, e3]
      exact S.fin 0 rfl
    have e2 : 0 ≤ j ∧ j ≤ (dH x : Int) - 1 := by simp at e2; omega
    obtain ⟨a, c, rfl, rfl, ha, hc⟩ := in_nat ⟨e1, e2⟩
    have hla : x.across.length = dW x := hd.acr.1
    have hlc := hd.acr.2.1 a ha
    refine BIf.yes rfl ?_
    refine DrawX.of Tt.tab follows_any [12] [] [0, 1, 2, 3, 4, 5, 6, 7, 8, 9, 10, 11, 12, 13] rfl (by kernel_rfl) (by kernel_rfl) ?_
    refine LoadX.same (v := .int .i64 x.prime) (S.at_ 0 rfl) rfl ?_
    refine LoadX.same (v := vD2 x P) (S.at_ 0 rfl) rfl ?_
    refine IdxX.mk (by omega) (by omega) ?_
    refine c2.ten S.le (show a < x.across.length by omega) fun b6 o6 h6 => ?_
    have c6 := h6.cells rfl
    refine IdxX.mk (by omega) (by omega) ?_
    refine c6.mat S.le (show c < (ten x.across a).length by omega) fun b7 o7 h7 => ?_
    have e4 : celZ x x.across a c = mat (ten x.across a) c := celZ_in ha hc
    rw [e4] at t1 t2
    rw [hnn] at t2
    have e5 : stepZ x a c w true = comb x.prime nn w (mat (ten x.across a) c) := by show acr x a c w = _; unfold acr; rw [e4, hnn]; rfl
    rw [e5]
    refine S.madeL OI.fr (l01Apply_c _ x.prime nn _ _ w (mat (ten x.across a) c) (prime_rng hd.p) (by omega) (RI.le _ _ _ _ S.le hw') (RII.le _ _ _ _ S.le h7) bw t2 (by omega)) fun b8 o8 g L S => ?_
    refine ⟨L, ?_⟩
    exact S.fin 0 rfl
  · have ea : ac = false := ea
    subst ea
    obtain ⟨nn, hnn⟩ : ∃ m : Nat, dimZ x i (j - 1) = m := ⟨(dimZ x i (j - 1)).toNat, by omega⟩
    rw [hnn]
    obtain ⟨t1, t2⟩ := hd.dwn.cell i j
    have out : ¬ ((0 ≤ i ∧ i ≤ (dW x : Int) - 1) ∧ (0 ≤ j ∧ j ≤ (dH x : Int) - 1)) → dwn x i j w = tab nn fun _ => 0 := fun hh => by
      unfold dwn; rw [celZ_out hh, comb_nil, hnn]; rfl
    refine LoadX.same (v := vD1 x P) (S.at_ 0 rfl) rfl ?_
    refine WR.i64 ?_
    refine CallX.same (l01In_c _ i 0 _) ?_
    rintro r g' ⟨rfl, rfl⟩
    refine BIf.mk (fun e1 => ?_) (fun e1 => ?_)
    · have e1 : ¬ (0 ≤ i ∧ i ≤ (dW x : Int) - 1) := by simp at e1; omega
      have e3 := out fun hh => e1 hh.1
      refine BIf.yes rfl ?_
      refine ⟨by omega, rfl, by omega, by show (nn : Int) * (8 : Nat) ≤ _; omega, ?_⟩
      refine S.new fun b5 g S => ?_
      have S := S.recast 0 rfl (zeros_tab _)
      have S := S.bx_tr (xs := dwn x i j w) 0 (by rw [e3]; rfl) (by rw [e3, tab_length]; omega) 1
      rw [e3, tab_length] at S
      rw [show stepZ x i j w false = dwn x i j w from rfl, e3]
      exact S.fin 0 rfl
    have e1 : 0 ≤ i ∧ i ≤ (dW x : Int) - 1 := by simp at e1; omega
    refine LoadX.same (v := vD1 x P) (S.at_ 0 rfl) rfl ?_
    refine IdxX.mk (by omega) (by omega) ?_
    refine c1.rowY S.le h1 fun b5 o5 r5 => ?_
    refine WR.i64 ?_
    refine CallX.same (l01In_c _ j 0 _) ?_
    rintro r g' ⟨rfl, rfl⟩
    refine BIf.mk (fun e2 => ?_) (fun e2 => ?_)
    · have e2 : ¬ (0 ≤ j ∧ j ≤ (dH x : Int) - 1) := by simp at e2; omega
      have e3 := out fun hh => e2 hh.2
      refine ⟨by omega, rfl, by omega, by show (nn : Int) * (8 : Nat) ≤ _; omega, ?_⟩
      refine S.new fun b5 g S => ?_
      have S := S.recast 0 rfl (zeros_tab _)
      have S := S.bx_tr (xs := dwn x i j w) 0 (by rw [e3]; rfl) (by rw [e3, tab_length]; omega) 1
      rw [e3, tab_length] at S
      rw [show stepZ x i j w false = dwn x i j w from rfl, e3]
      exact S.fin 0 rfl
    have e2 : 0 ≤ j ∧ j ≤ (dH x : Int) - 1 := by simp at e2; omega
    obtain ⟨a, c, rfl, rfl, ha, hc⟩ := in_nat ⟨e1, e2⟩
    have hla : x.down.length = dW x := hd.dwn.1
    have hlc := hd.dwn.2.1 a ha
    refine BIf.no rfl ?_
    refine DrawX.of Tt.tab follows_any [12] [] [0, 1, 2, 3, 4, 5, 6, 7, 8, 9, 10, 11, 12, 13] rfl (by kernel_rfl) (by kernel_rfl) ?_
    refine LoadX.same (v := .int .i64 x.prime) (S.at_ 0 rfl) rfl ?_
    refine LoadX.same (v := vD3 x P) (S.at_ 0 rfl) rfl ?_
    refine IdxX.mk (by omega) (by omega) ?_
    refine c3.ten S.le (show a < x.down.length by omega) fun b6 o6 h6 => ?_
    have c6 := h6.cells rfl
    refine IdxX.mk (by omega) (by omega) ?_
    refine c6.mat S.le (show c < (ten x.down a).length by omega) fun b7 o7 h7 => ?_
    have e4 : celZ x x.down a c = mat (ten x.down a) c := celZ_in ha hc
    rw [e4] at t1 t2
    rw [hnn] at t2
    have e5 : stepZ x a c w false = comb x.prime nn w (mat (ten x.down a) c) := by show dwn x a c w = _; unfold dwn; rw [e4, hnn]; rfl
    rw [e5]
    refine S.madeL OI.fr (l01Apply_c _ x.prime nn _ _ w (mat (ten x.down a) c) (prime_rng hd.p) (by omega) (RI.le _ _ _ _ S.le hw') (RII.le _ _ _ _ S.le h7) bw t2 (by omega)) fun b8 o8 g L S => ?_
    refine ⟨L, ?_⟩
    exact S.fin 0 rfl

end Go.Gl

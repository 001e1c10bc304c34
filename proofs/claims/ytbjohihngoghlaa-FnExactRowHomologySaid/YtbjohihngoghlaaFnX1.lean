/- Chapter 3: cells, their dimensions and differentials, and a call for each cell. No condition. -/
import Derived.Test.YtbjohihngoghlaaFnX0
import Derived.Test.YtbjohihngoghlaaGlQ
set_option linter.unusedVariables false
set_option linter.unusedSimpArgs false
namespace Go.Gl
open Go.Proofs Go.Proofs.Ytbjohihngoghlaa Go.Pl

/-- where the tables of a double complex lie -/
structure DP where
  b1 : Nat
  o1 : Nat
  b2 : Nat
  o2 : Nat
  b3 : Nat
  o3 : Nat
abbrev vD1 (x : SDouble) (P : DP) : Value := .slice (some ⟨P.b1, P.o1, none⟩) x.dims.length 0
abbrev vD2 (x : SDouble) (P : DP) : Value := .slice (some ⟨P.b2, P.o2, none⟩) x.across.length 0
abbrev vD3 (x : SDouble) (P : DP) : Value := .slice (some ⟨P.b3, P.o3, none⟩) x.down.length 0
abbrev cD (x : SDouble) (P : DP) : List Value := [.int .i64 x.prime, vD1 x P, vD2 x P, vD3 x P]
abbrev vD (x : SDouble) (P : DP) : Value := .agg #[.int .i64 x.prime, vD1 x P, vD2 x P, vD3 x P]
abbrev QD (h : AH) (x : SDouble) (P : DP) : Prop := QDouble h (vD1 x P) (vD2 x P) (vD3 x P) x
theorem RDouble.at_ {h : AH} {v : Value} {x : SDouble} (hr : RDouble h v x) : ∃ P : DP, Wk v (vD x P) ∧ QD h x P := by
  obtain ⟨b1, o1, b2, o2, b3, o3, k, q⟩ := hr.can
  exact ⟨⟨b1, o1, b2, o2, b3, o3⟩, k, q⟩
theorem QD.reads {h g : AH} {x : SDouble} {P : DP} (q : QD h x P) (l : Le h g) : RDouble g (vD x P) x := ⟨_, _, _, rfl, QDouble.le l q⟩


theorem wide_c (h : AH) (v : Value) (x : SDouble) (hx : RDouble h v x) : ACalls Try.prog 110 [v] h (fun r h' => r = .int .i64 (dW x) ∧ h' = h) := by
  obtain ⟨P, kx, qx⟩ := hx.at_
  refine ACalls.wk (args' := [vD x P]) ?_ (.cons kx .nil)
  refine ACalls.of Tt.tab Try.func110 rfl (by kernel_rfl) Try.ntmps110 _ rfl rfl (fun hw => ?_)
  have S := Sep.start h
  refine S.new fun b g S => ?_
  refine LoadX.same (v := vD1 x P) (S.at_ 0 rfl) rfl ?_
  refine CallX.same (sizeII_c _ _ _ _ _) ?_
  rintro r g' ⟨rfl, rfl⟩
  exact FinX.keep hw S.le rfl ⟨rfl, rfl⟩
theorem high_c (h : AH) (v : Value) (x : SDouble) (hx : RDouble h v x) (h1 : 1 ≤ dW x) : ACalls Try.prog 111 [v] h (fun r h' => r = .int .i64 (dH x) ∧ h' = h) := by
  obtain ⟨P, kx, qx⟩ := hx.at_
  refine ACalls.wk (args' := [vD x P]) ?_ (.cons kx .nil)
  refine ACalls.of Tt.tab Try.func111 rfl (by kernel_rfl) Try.ntmps111 _ rfl rfl (fun hw => ?_)
  have S := Sep.start h
  have c1 := RS.cells qx.1 rfl
  have h1 : 1 ≤ x.dims.length := h1
  refine S.new fun b g S => ?_
  refine LoadX.same (v := vD1 x P) (S.at_ 0 rfl) rfl ?_
  refine IdxX.mk (by omega) (by omega) ?_
  refine c1.row S.le (show 0 < x.dims.length by omega) fun b4 o4 c4 => ?_
  refine CallX.same (sizeI_c _ _ _ _ _) ?_
  rintro r g' ⟨rfl, rfl⟩
  exact FinX.keep hw S.le rfl ⟨rfl, rfl⟩

theorem dim_c (h : AH) (v : Value) (x : SDouble) (i j : Int) (hx : RDouble h v x) (hd : DHead x) : ACalls Try.prog 115 [v, .int .i64 i, .int .i64 j] h (fun r h' => r = .int .i64 (dimZ x i j) ∧ h' = h) := by
  obtain ⟨P, kx, qx⟩ := hx.at_
  refine ACalls.wk (args' := [vD x P, .int .i64 i, .int .i64 j]) ?_ (.cons kx (.cons (Wk.refl _) (.cons (Wk.refl _) .nil)))
  refine ACalls.of Tt.tab Try.func115 rfl (by kernel_rfl) Try.ntmps115 _ rfl rfl (fun hw => ?_)
  have S := Sep.start h
  have c1 := RS.cells qx.1 rfl
  have hW := hd.w
  have hH := hd.h
  refine S.new fun b g S => ?_
  refine LoadX.same (v := vD x P) (S.at_ 0 rfl) rfl ?_
  refine CallX.same (wide_c _ _ x (qx.reads S.le)) ?_
  rintro r g' ⟨rfl, rfl⟩
  refine WR.i64 ?_
  refine CallX.same (between_c _ i 0 _) ?_
  rintro r g' ⟨rfl, rfl⟩
  refine BIf.mk (fun e1 => ?_) (fun e1 => ?_)
  · have e1 : ¬ (0 ≤ i ∧ i ≤ (dW x : Int) - 1) := by simp at e1; omega
    refine BIf.yes rfl ?_
    exact FinX.keep hw S.le rfl ⟨by rw [dimZ_out fun hh => e1 hh.1], rfl⟩
  have e1 : 0 ≤ i ∧ i ≤ (dW x : Int) - 1 := by simpa using e1
  refine LoadX.same (v := vD x P) (S.at_ 0 rfl) rfl ?_
  refine CallX.same (high_c _ _ x (qx.reads S.le) hW.1) ?_
  rintro r g' ⟨rfl, rfl⟩
  refine WR.i64 ?_
  refine CallX.same (between_c _ j 0 _) ?_
  rintro r g' ⟨rfl, rfl⟩
  refine BIf.mk (fun e2 => ?_) (fun e2 => ?_)
  · have e2 : ¬ (0 ≤ j ∧ j ≤ (dH x : Int) - 1) := by simp at e2; omega
    exact FinX.keep hw S.le rfl ⟨by rw [dimZ_out fun hh => e2 hh.2], rfl⟩
  have e2 : 0 ≤ j ∧ j ≤ (dH x : Int) - 1 := by simpa using e2
  obtain ⟨a, c, rfl, rfl, ha, hc⟩ := in_nat ⟨e1, e2⟩
  have hcol := hd.col a ha
  refine LoadX.same (v := vD1 x P) (S.at_ 0 rfl) rfl ?_
  refine IdxX.mk (by omega) (by show (a : Int) < (x.dims.length : Int); unfold dW at ha; omega) ?_
  refine c1.row S.le ha fun b4 o4 c4 => ?_
  refine IdxX.mk (by omega) (by omega) ?_
  refine c4.ith S.le (show c < (row x.dims a).length by omega) ?_
  exact FinX.keep hw S.le rfl ⟨by rw [dimZ_in ha hc]; rfl, rfl⟩

theorem across_c (h : AH) (v wv : Value) (x : SDouble) (i j : Int) (w : List Int) (hx : RDouble h v x) (hw' : RI h wv w) (hd : DHead x) (ht : TabOk x x.across fun i j => dimZ x (i - 1) j) (hi : -10 ≤ i ∧ i ≤ 10) (bw : Rng x.prime w) (hl : (w.length : Int) ≤ dimZ x i j) :
    ACalls Try.prog 121 [v, .int .i64 i, .int .i64 j, wv] h (Made OI h (acr x i j w)) := by
  obtain ⟨P, kx, qx⟩ := hx.at_
  obtain ⟨b4, o4, kw, hw'⟩ := hw'.can
  refine ACalls.madeI (ACalls.wk (args' := [vD x P, .int .i64 i, .int .i64 j, .slice (some ⟨b4, o4, none⟩) w.length 0]) ?_ (.cons kx (.cons (Wk.refl _) (.cons (Wk.refl _) (.cons kw .nil)))))
  refine ACalls.of Tt.tab Try.func121 rfl (by kernel_rfl) Try.ntmps121 _ rfl rfl (fun hw => ?_)
  have S := Sep.start h
  have c2 := RS.cells qx.2.1 rfl
  have hd1 := hd.dim (i - 1) j
  obtain ⟨t1, t2⟩ := ht.cell i j
  obtain ⟨nn, hnn⟩ : ∃ m : Nat, dimZ x (i - 1) j = m := ⟨(dimZ x (i - 1) j).toNat, by omega⟩
  refine S.new fun b g S => ?_
  refine LoadX.same (v := vD x P) (S.at_ 0 rfl) rfl ?_
  refine CallX.same (dim_c _ _ x i j (qx.reads S.le) hd) ?_
  rintro r g' ⟨rfl, rfl⟩
  refine BIf.mk (fun e1 => ?_) (fun e1 => ?_)
  · have e1 : dimZ x i j = 0 := by simpa using e1
    refine LoadX.same (v := vD x P) (S.at_ 0 rfl) rfl ?_
    refine WR.i64 ?_
    refine CallX.same (dim_c _ _ x (i - 1) j (qx.reads S.le) hd) ?_
    rintro r g' ⟨rfl, rfl⟩
    rw [hnn]
    refine ⟨by omega, rfl, by omega, by show (nn : Int) * (8 : Nat) ≤ _; omega, ?_⟩
    refine S.new fun b5 g S => ?_
    have S := S.recast 0 rfl (zeros_tab _)
    have e2 : celZ x x.across i j = [] := List.length_eq_zero_iff.1 (by omega)
    have e3 : acr x i j w = tab nn fun _ => 0 := by unfold acr; rw [e2, comb_nil, hnn]; rfl
    have S := S.bx_tr (xs := acr x i j w) 0 (by rw [e3]; rfl) (by rw [e3, tab_length]; omega) 1
    rw [e3, tab_length] at S
    rw [e3]
    exact S.fin 0 rfl
  · have e1 : dimZ x i j ≠ 0 := by simpa using e1
    have hin : (0 ≤ i ∧ i ≤ (dW x : Int) - 1) ∧ (0 ≤ j ∧ j ≤ (dH x : Int) - 1) := Classical.byContradiction fun hh => e1 (dimZ_out hh)
    obtain ⟨a, c, rfl, rfl, ha, hc⟩ := in_nat hin
    have hla : x.across.length = dW x := ht.1
    have hlc := ht.2.1 a ha
    refine DrawX.of Tt.tab follows_any [16] [] [0, 1, 2, 3, 4, 5, 6, 7, 8, 9, 10, 11, 12, 13, 14, 15, 16, 17] rfl (by kernel_rfl) (by kernel_rfl) ?_
    refine LoadX.same (v := .int .i64 x.prime) (S.at_ 0 rfl) rfl ?_
    refine LoadX.same (v := vD x P) (S.at_ 0 rfl) rfl ?_
    refine WR.i64 ?_
    refine QCall.of (fun g2 hl => dim_c g2 _ x _ _ (qx.reads (S.le.trans hl)) hd) rfl ?_
    refine LoadX.same (v := vD2 x P) (S.at_ 0 rfl) rfl ?_
    refine IdxX.mk (by omega) (by omega) ?_
    refine c2.ten S.le (show a < x.across.length by omega) fun b5 o5 h5 => ?_
    have c5 := h5.cells rfl
    refine IdxX.mk (by omega) (by omega) ?_
    refine c5.mat S.le (show c < (ten x.across a).length by omega) fun b6 o6 h6 => ?_
    rw [hnn]
    have e4 : celZ x x.across a c = mat (ten x.across a) c := celZ_in ha hc
    rw [e4] at t1 t2
    rw [hnn] at t2
    have e5 : acr x a c w = comb x.prime nn w (mat (ten x.across a) c) := by unfold acr; rw [e4, hnn]; rfl
    rw [e5]
    refine S.madeL OI.fr (combine_c _ x.prime nn _ _ w (mat (ten x.across a) c) (prime_rng hd.p) (by omega) (RI.le _ _ _ _ S.le hw') (RII.le _ _ _ _ S.le h6) bw t2 (by omega)) fun b7 o7 g L S => ?_
    refine ⟨L, ?_⟩
    exact S.fin 0 rfl
theorem down_c (h : AH) (v wv : Value) (x : SDouble) (i j : Int) (w : List Int) (hx : RDouble h v x) (hw' : RI h wv w) (hd : DHead x) (ht : TabOk x x.down fun i j => dimZ x i (j - 1)) (hi : -10 ≤ j ∧ j ≤ 10) (bw : Rng x.prime w) (hl : (w.length : Int) ≤ dimZ x i j) :
    ACalls Try.prog 122 [v, .int .i64 i, .int .i64 j, wv] h (Made OI h (dwn x i j w)) := by
  obtain ⟨P, kx, qx⟩ := hx.at_
  obtain ⟨b4, o4, kw, hw'⟩ := hw'.can
  refine ACalls.madeI (ACalls.wk (args' := [vD x P, .int .i64 i, .int .i64 j, .slice (some ⟨b4, o4, none⟩) w.length 0]) ?_ (.cons kx (.cons (Wk.refl _) (.cons (Wk.refl _) (.cons kw .nil)))))
  refine ACalls.of Tt.tab Try.func122 rfl (by kernel_rfl) Try.ntmps122 _ rfl rfl (fun hw => ?_)
  have S := Sep.start h
  have c2 := RS.cells qx.2.2 rfl
  have hd1 := hd.dim i (j - 1)
  obtain ⟨t1, t2⟩ := ht.cell i j
  obtain ⟨nn, hnn⟩ : ∃ m : Nat, dimZ x i (j - 1) = m := ⟨(dimZ x i (j - 1)).toNat, by omega⟩
  refine S.new fun b g S => ?_
  refine LoadX.same (v := vD x P) (S.at_ 0 rfl) rfl ?_
  refine CallX.same (dim_c _ _ x i j (qx.reads S.le) hd) ?_
  rintro r g' ⟨rfl, rfl⟩
  refine BIf.mk (fun e1 => ?_) (fun e1 => ?_)
  · have e1 : dimZ x i j = 0 := by simpa using e1
    refine LoadX.same (v := vD x P) (S.at_ 0 rfl) rfl ?_
    refine WR.i64 ?_
    refine CallX.same (dim_c _ _ x i (j - 1) (qx.reads S.le) hd) ?_
    rintro r g' ⟨rfl, rfl⟩
    rw [hnn]
    refine ⟨by omega, rfl, by omega, by show (nn : Int) * (8 : Nat) ≤ _; omega, ?_⟩
    refine S.new fun b5 g S => ?_
    have S := S.recast 0 rfl (zeros_tab _)
    have e2 : celZ x x.down i j = [] := List.length_eq_zero_iff.1 (by omega)
    have e3 : dwn x i j w = tab nn fun _ => 0 := by unfold dwn; rw [e2, comb_nil, hnn]; rfl
    have S := S.bx_tr (xs := dwn x i j w) 0 (by rw [e3]; rfl) (by rw [e3, tab_length]; omega) 1
    rw [e3, tab_length] at S
    rw [e3]
    exact S.fin 0 rfl
  · have e1 : dimZ x i j ≠ 0 := by simpa using e1
    have hin : (0 ≤ i ∧ i ≤ (dW x : Int) - 1) ∧ (0 ≤ j ∧ j ≤ (dH x : Int) - 1) := Classical.byContradiction fun hh => e1 (dimZ_out hh)
    obtain ⟨a, c, rfl, rfl, ha, hc⟩ := in_nat hin
    have hla : x.down.length = dW x := ht.1
    have hlc := ht.2.1 a ha
    refine DrawX.of Tt.tab follows_any [16] [] [0, 1, 2, 3, 4, 5, 6, 7, 8, 9, 10, 11, 12, 13, 14, 15, 16, 17] rfl (by kernel_rfl) (by kernel_rfl) ?_
    refine LoadX.same (v := .int .i64 x.prime) (S.at_ 0 rfl) rfl ?_
    refine LoadX.same (v := vD x P) (S.at_ 0 rfl) rfl ?_
    refine WR.i64 ?_
    refine QCall.of (fun g2 hl => dim_c g2 _ x _ _ (qx.reads (S.le.trans hl)) hd) rfl ?_
    refine LoadX.same (v := vD3 x P) (S.at_ 0 rfl) rfl ?_
    refine IdxX.mk (by omega) (by omega) ?_
    refine c2.ten S.le (show a < x.down.length by omega) fun b5 o5 h5 => ?_
    have c5 := h5.cells rfl
    refine IdxX.mk (by omega) (by omega) ?_
    refine c5.mat S.le (show c < (ten x.down a).length by omega) fun b6 o6 h6 => ?_
    rw [hnn]
    have e4 : celZ x x.down a c = mat (ten x.down a) c := celZ_in ha hc
    rw [e4] at t1 t2
    rw [hnn] at t2
    have e5 : dwn x a c w = comb x.prime nn w (mat (ten x.down a) c) := by unfold dwn; rw [e4, hnn]; rfl
    rw [e5]
    refine S.madeL OI.fr (combine_c _ x.prime nn _ _ w (mat (ten x.down a) c) (prime_rng hd.p) (by omega) (RI.le _ _ _ _ S.le hw') (RII.le _ _ _ _ S.le h6) bw t2 (by omega)) fun b7 o7 g L S => ?_
    refine ⟨L, ?_⟩
    exact S.fin 0 rfl

/-- a call for each cell, column by column -/
theorem eachCell_c (n : Nat) (h0 : AH) (v : Value) (x : SDouble) (hx : RDouble h0 v x) (hd : 1 ≤ dW x ∧ dW x ≤ 4 ∧ dH x ≤ 4) (f : Nat) (cap : Array Value) (St : Nat → Nat → List Res → Prop)
    (hc : ∀ i j : Nat, i < dW x → j < dH x → Does Try.prog f (.int .i64 i :: .int .i64 j :: cap.toList) n h0 (St i j) (St i (j + 1)))
    (hn : ∀ i Rs, i < dW x → St i (dH x) Rs → St (i + 1) 0 Rs) :
    Does Try.prog 118 [v, .func (.func f) #[] cap] n h0 (St 0 0) (St (dW x) 0) := by
  intro M hb h Rs hle hs S
  obtain ⟨P, kx, qx⟩ := hx.at_
  refine ACalls.wk (args' := [vD x P, .func (.func f) #[] cap]) ?_ (.cons kx (.cons (Wk.refl _) .nil))
  refine ACalls.of Tt.tab Try.func118 rfl (by kernel_rfl) Try.ntmps118 _ rfl rfl (fun hw => ?_)
  refine S.newL fun b g gl S => ?_
  refine LoadX.same (v := vD x P) (S.at_ 0 rfl) rfl ?_
  refine CallX.same (wide_c _ _ x (qx.reads (hle.trans S.le))) ?_
  rintro r g' ⟨rfl, rfl⟩
  refine ⟨⟨[1, 2, 7, 8], fun n' vs g => ∃ (i : Nat) (Rs : List Res), n' = dW x - i ∧ i ≤ dW x ∧ h.length ≤ g.length ∧ St i 0 Rs ∧ SepM M n hb g (.bx b 71 4 (cD x P) :: Rs) ∧
    vs = [.func (.func f) #[] cap, .pointer (some ⟨b, 0, none⟩), .int .i64 (dW x), .int .i64 i], _, ⟨0, Rs, rfl, Nat.zero_le _, gl.len, hs, S, rfl⟩, ?_⟩⟩
  clear hs
  rintro n' vs g ⟨i, Rs, rfl, hi, gl, hs, S, rfl⟩
  refine BIf.mk (fun h2 => ?_) (fun h2 => ?_)
  · have hlt : i < dW x := by simpa using h2
    refine LoadX.same (v := vD x P) (S.at_ 0 rfl) rfl ?_
    refine CallX.same (high_c _ _ x (qx.reads (hle.trans S.le)) hd.1) ?_
    rintro r g' ⟨rfl, rfl⟩
    refine ⟨⟨[1, 2, 4, 7, 8, 12, 13], fun n' vs g => ∃ (j : Nat) (Rs : List Res), n' = dH x - j ∧ j ≤ dH x ∧ h.length ≤ g.length ∧ St i j Rs ∧ SepM M n hb g (.bx b 71 4 (cD x P) :: Rs) ∧
      vs = [.func (.func f) #[] cap, .pointer (some ⟨b, 0, none⟩), .int .i64 i, .int .i64 (dW x), .int .i64 i, .int .i64 (dH x), .int .i64 j], _, ⟨0, Rs, rfl, Nat.zero_le _, gl, hs, S, rfl⟩, ?_⟩⟩
    rintro n' vs g ⟨j, Rs, rfl, hj, gl, hs, S, rfl⟩
    refine BIf.mk (fun h3 => ?_) (fun h3 => ?_)
    · have h3 : j < dH x := by simpa using h3
      refine SepM.does [.bx b 71 4 (cD x P)] S (hc i j hlt h3) hle hs fun g' Rs' gl' hs' S => ?_
      refine WR.i64 ?_
      exact ⟨dH x - (j + 1), by omega, j + 1, Rs', rfl, h3, Nat.le_trans gl gl', hs', S, rfl⟩
    · have hj2 : j = dH x := by simp at h3; omega
      subst hj2
      refine WR.i64 ?_
      exact ⟨dW x - (i + 1), by omega, i + 1, Rs, rfl, hlt, gl, hn i Rs hlt hs, S, rfl⟩
  · have hi2 : i = dW x := by simp at h2; omega
    subst hi2
    exact FinX.here gl ⟨rfl, gl, Rs, hs, S.tail⟩

end Go.Gl

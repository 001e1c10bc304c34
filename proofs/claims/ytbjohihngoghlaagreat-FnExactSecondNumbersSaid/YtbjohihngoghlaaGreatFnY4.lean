/- Chapter 3: tables of homology numbers, both sides. No condition. Chapter 3: row homology, both sides. No condition. -/
import Derived.Test.YtbjohihngoghlaaGreatFnY2
import Derived.Test.YtbjohihngoghlaaGreatFnK2
import Derived.Test.YtbjohihngoghlaaGreatFnX9
set_option linter.unusedVariables false
set_option linter.unusedSimpArgs false
namespace Go.Gl
open Go.Proofs Go.Proofs.YtbjohihngoghlaaGreat Go.Pl

/-- a table of numbers of cells -/
def tabC (W H : Nat) (w : Nat → Nat → Int) : List (List Int) := tabR W fun i => tab H (w i)
noncomputable def colH (x : SDouble) : List (List Int) × Int := if dOk x then (tabC (dW x) (dH x) (colN x), 0) else ([], 1)
noncomputable def rowH (x : SDouble) : List (List Int) × Int := if dOk x then (tabC (dW x) (dH x) fun i j => colN (flipD x) j i, 0) else ([], 1)
theorem cnII_tabC {W H : Nat} {w : Nat → Nat → Int} (hW : W ≤ 4) (hH : H ≤ 4) : cnII (tabC W H w) ≤ 16 := by
  refine Nat.le_trans (cnL_range (m := 4) fun i hi => ?_) (by omega)
  show (tab H (w i)).length ≤ 4
  rw [tab_length]; exact hH
theorem colH_cn (x : SDouble) : cnII (colH x).1 ≤ 1000 := by
  unfold colH
  split
  · rename_i h
    have hd := (dOk_mk h).toDHead
    exact Nat.le_trans (cnII_tabC hd.w.2 hd.h.2) (by omega)
  · decide
theorem rowH_cn (x : SDouble) : cnII (rowH x).1 ≤ 1000 := by
  unfold rowH
  split
  · rename_i h
    have hd := (dOk_mk h).toDHead
    exact Nat.le_trans (cnII_tabC hd.w.2 hd.h.2) (by omega)
  · decide

theorem cellTable_c (h : AH) (v : Value) (x : SDouble) (hx : RDouble h v x) (hd : 1 ≤ dW x ∧ dW x ≤ 4 ∧ dH x ≤ 4) (f : Nat) (first cap : Array Value) (w : Nat → Nat → Int)
    (hf : ∀ g2 (i j : Nat), Le h g2 → i < dW x → j < dH x → ACalls Tryz.prog f (first.toList ++ [.int .i64 i, .int .i64 j] ++ cap.toList) g2 (fun r h' => r = .int .i64 (w i j) ∧ h' = g2)) :
    ACalls Tryz.prog 22 [v, .func (.func f) first cap] h (Made OII h (tabC (dW x) (dH x) w)) := by
  obtain ⟨P, kx, qx⟩ := hx.at_
  refine ACalls.madeN (ACalls.wk (args' := [vD x P, .func (.func f) first cap]) ?_ (.cons kx (.cons (Wk.refl _) .nil)))
  refine ACalls.of Tt.tab Tryz.func22 rfl (by kernel_rfl) Tryz.ntmps22 _ rfl rfl (fun hw => ?_)
  have S := Sep.start h
  refine S.new fun b g S => ?_
  refine S.new fun b2 g S => ?_
  have S := S.bx_rw 0 OI.fr rfl
  refine LoadX.same (v := vD x P) (S.at_ 1 rfl) rfl ?_
  refine CallX.same (wide_c _ _ x (qx.reads S.le)) ?_
  rintro r g' ⟨rfl, rfl⟩
  refine ⟨⟨[1, 2, 5, 11, 12], fun n' vs g => ∃ (i b2 : Nat), n' = dW x - i ∧ i ≤ dW x ∧ Sep h.length h g [.rw OI.fr 46 h.length (.slice (some ⟨b2, 0, none⟩) i 1) i (tabR i fun i => tab (dH x) (w i)), .bx b 29 4 (cD x P)] ∧
    vs = [.func (.func f) first cap, .pointer (some ⟨b, 0, none⟩), .slice (some ⟨b2, 0, none⟩) i 1, .int .i64 (dW x), .int .i64 i], _, ⟨0, b2, rfl, Nat.zero_le _, S, rfl⟩, ?_⟩⟩
  clear S
  rintro n' vs g ⟨i, b2, rfl, hi, S, rfl⟩
  refine BIf.mk (fun h2 => ?_) (fun h2 => ?_)
  · have hlt : i < dW x := by simpa using h2
    refine S.new fun b3 g S => ?_
    have S := S.bx_rc 0 (k := 0) rfl rfl
    refine LoadX.same (v := vD x P) (S.at_ 2 rfl) rfl ?_
    refine CallX.same (high_c _ _ x (qx.reads S.le) hd.1) ?_
    rintro r g' ⟨rfl, rfl⟩
    refine ⟨⟨[1, 2, 5, 6, 7, 11, 12, 17, 18], fun n' vs g => ∃ (j b3 : Nat), n' = dH x - j ∧ j ≤ dH x ∧ Sep h.length h g [.rc 2 1 h.length (.slice (some ⟨b3, 0, none⟩) j 1) j ((tab j (w i)).map (.int .i64)), .rw OI.fr 46 h.length (.slice (some ⟨b2, 0, none⟩) i 1) i (tabR i fun i => tab (dH x) (w i)), .bx b 29 4 (cD x P)] ∧
      vs = [.func (.func f) first cap, .pointer (some ⟨b, 0, none⟩), .slice (some ⟨b2, 0, none⟩) i 1, .int .i64 i, .slice (some ⟨b3, 0, none⟩) j 1, .int .i64 (dW x), .int .i64 i, .int .i64 (dH x), .int .i64 j], _, ⟨0, b3, rfl, Nat.zero_le _, S, rfl⟩, ?_⟩⟩
    clear S
    rintro n' vs g ⟨j, b3, rfl, hj, S, rfl⟩
    refine BIf.mk (fun h3 => ?_) (fun h3 => ?_)
    · have hjl : j < dH x := by simpa using h3
      refine CallX.same (hf _ i j S.le hlt hjl) ?_
      rintro r g' ⟨rfl, rfl⟩
      refine S.new fun b4 g S => ?_
      refine S.app 0 rfl rfl rfl (by omega) fun b5 g S => ?_
      refine WR.i64 ?_
      exact ⟨dH x - (j + 1), by omega, j + 1, b5, rfl, hjl, by rw [tab_succ, List.map_append]; exact S, rfl⟩
    · have hj2 : j = dH x := by simp at h3; omega
      subst hj2
      have S := S.rc_tr 0 rfl (by rw [tab_length]; omega)
      refine S.new fun b4 g S => ?_
      refine S.appT 0 rfl rfl (by omega) fun b5 g S => ?_
      refine WR.i64 ?_
      exact ⟨dW x - (i + 1), by omega, i + 1, b5, rfl, hlt, by rw [tabR_succ]; exact S, rfl⟩
  · have hi2 : i = dW x := by simp at h2; omega
    subst hi2
    exact (S.rw_tr 0 rfl (by omega)).fin 0 rfl

theorem l03Cycles_c (h : AH) (v : Value) (x : SDouble) (i j : Int) (hx : RDouble h v x) (hd : DShape x) (hi : -10 ≤ i ∧ i ≤ 10) (hj : -10 ≤ j ∧ j ≤ 10) :
    ACalls Tryz.prog 39 [v, .int .i64 i, .int .i64 j] h (Made OII h (kern x.prime (dimZ x i (j - 1)).toNat (celZ x x.down i j))) := by
  obtain ⟨P, kx, qx⟩ := hx.at_
  refine ACalls.madeN (ACalls.wk (args' := [vD x P, .int .i64 i, .int .i64 j]) ?_ (.cons kx (.cons (Wk.refl _) (.cons (Wk.refl _) .nil))))
  refine ACalls.of Tt.tab Tryz.func39 rfl (by kernel_rfl) Tryz.ntmps39 _ rfl rfl (fun hw => ?_)
  have S := Sep.start h
  have c1 := RS.cells qx.1 rfl
  have c3 := RS.cells qx.2.2 rfl
  have hp := IsP.of hd.p
  have hdm := hd.dim i j
  have hdm2 := hd.dim i (j - 1)
  obtain ⟨t1, t2⟩ := hd.dwn.cell i j
  refine S.new fun b g S => ?_
  refine LoadX.same (v := vD x P) (S.at_ 0 rfl) rfl ?_
  refine CallX.same (l03Dim_c _ _ x i j (qx.reads S.le) hd.w.1 hd.col) ?_
  rintro r g' ⟨rfl, rfl⟩
  refine BIf.mk (fun e1 => ?_) (fun e1 => ?_)
  · have e1 : dimZ x i j = 0 := by simpa using e1
    have e2 : celZ x x.down i j = [] := List.length_eq_zero_iff.1 (by omega)
    rw [e2] at t2 ⊢
    have e3 : kern x.prime (dimZ x i (j - 1)).toNat [] = [] := kern_indep hp (RedL.nil _ _)
    rw [e3]
    refine S.new fun b2 g S => ?_
    have S := S.bx_rw 0 OI.fr rfl
    exact (S.rw_tr 0 rfl (by omega)).fin 0 rfl
  have e1 : dimZ x i j ≠ 0 := by simpa using e1
  have hin : (0 ≤ i ∧ i ≤ (dW x : Int) - 1) ∧ (0 ≤ j ∧ j ≤ (dH x : Int) - 1) := Classical.byContradiction fun hh => e1 (dimZ_out hh)
  obtain ⟨a, c, rfl, rfl, ha, hc⟩ := in_nat hin
  have hcol := hd.col a ha
  have hla : x.down.length = dW x := hd.dwn.1
  have hlc := hd.dwn.2.1 a ha
  have e4 : celZ x x.down a c = mat (ten x.down a) c := celZ_in ha hc
  have hdi := dimZ_in ha hc
  refine DrawX.of Tt.tab follows_any [18] [] [0, 1, 2, 3, 4, 5, 6, 7, 8, 9, 10, 11, 12, 13, 14, 15, 16, 17, 18, 19] rfl (by kernel_rfl) (by kernel_rfl) ?_
  refine LoadX.same (v := .int .i64 x.prime) (S.at_ 0 rfl) rfl ?_
  refine LoadX.same (v := vD1 x P) (S.at_ 0 rfl) rfl ?_
  refine IdxX.mk (by omega) (by show (a : Int) < (x.dims.length : Int); unfold dW at ha; omega) ?_
  refine c1.row S.le ha fun b4 o4 c4 => ?_
  refine IdxX.mk (by omega) (by omega) ?_
  refine c4.ith S.le (show c < (row x.dims a).length by omega) ?_
  refine LoadX.same (v := vD3 x P) (S.at_ 0 rfl) rfl ?_
  refine IdxX.mk (by omega) (by omega) ?_
  refine c3.ten S.le (show a < x.down.length by omega) fun b5 o5 h5 => ?_
  have c5 := h5.cells rfl
  refine IdxX.mk (by omega) (by omega) ?_
  refine c5.mat S.le (show c < (ten x.down a).length by omega) fun b6 o6 h6 => ?_
  rw [e4] at t1 t2 ⊢
  rw [show ith (row x.dims a) c = ((mat (ten x.down a) c).length : Int) by rw [t1, hdi]; rfl]
  refine S.madeL OII.fr (l01Kernel_c _ x.prime (dimZ x a ((c : Int) - 1)).toNat _ _ hp (by omega) (RII.le _ _ _ _ S.le h6) t2 (by omega)) fun b7 o7 g L S => ?_
  refine ⟨L, ?_⟩
  exact S.fin 0 rfl
theorem l03Bounds_c (h : AH) (v : Value) (x : SDouble) (i j : Int) (hx : RDouble h v x) (hd : DShape x) (hi : -10 ≤ i ∧ i ≤ 10) (hj : -10 ≤ j ∧ j ≤ 10) :
    ACalls Tryz.prog 40 [v, .int .i64 i, .int .i64 j] h (Made OII h (ech x.prime (celZ x x.down i (j + 1)))) := by
  obtain ⟨P, kx, qx⟩ := hx.at_
  refine ACalls.madeN (ACalls.wk (args' := [vD x P, .int .i64 i, .int .i64 j]) ?_ (.cons kx (.cons (Wk.refl _) (.cons (Wk.refl _) .nil))))
  refine ACalls.of Tt.tab Tryz.func40 rfl (by kernel_rfl) Tryz.ntmps40 _ rfl rfl (fun hw => ?_)
  have S := Sep.start h
  have c3 := RS.cells qx.2.2 rfl
  have hp := IsP.of hd.p
  have hdm := hd.dim i (j + 1)
  have hdm2 := hd.dim i (j + 1 - 1)
  obtain ⟨t1, t2⟩ := hd.dwn.cell i (j + 1)
  refine S.new fun b g S => ?_
  refine LoadX.same (v := vD x P) (S.at_ 0 rfl) rfl ?_
  refine WR.i64 ?_
  refine CallX.same (l03Dim_c _ _ x i (j + 1) (qx.reads S.le) hd.w.1 hd.col) ?_
  rintro r g' ⟨rfl, rfl⟩
  refine BIf.mk (fun e1 => ?_) (fun e1 => ?_)
  · have e1 : dimZ x i (j + 1) = 0 := by simpa using e1
    have e2 : celZ x x.down i (j + 1) = [] := List.length_eq_zero_iff.1 (by omega)
    rw [e2, show ech x.prime [] = [] from rfl]
    refine S.new fun b2 g S => ?_
    have S := S.bx_rw 0 OI.fr rfl
    exact (S.rw_tr 0 rfl (by omega)).fin 0 rfl
  have e1 : dimZ x i (j + 1) ≠ 0 := by simpa using e1
  have hin : (0 ≤ i ∧ i ≤ (dW x : Int) - 1) ∧ (0 ≤ j + 1 ∧ j + 1 ≤ (dH x : Int) - 1) := Classical.byContradiction fun hh => e1 (dimZ_out hh)
  obtain ⟨a, c, rfl, hc0, ha, hc⟩ := in_nat hin
  have hla : x.down.length = dW x := hd.dwn.1
  have hlc := hd.dwn.2.1 a ha
  refine DrawX.of Tt.tab follows_any [11] [] [0, 1, 2, 3, 4, 5, 6, 7, 8, 9, 10, 11, 12] rfl (by kernel_rfl) (by kernel_rfl) ?_
  refine LoadX.same (v := .int .i64 x.prime) (S.at_ 0 rfl) rfl ?_
  refine LoadX.same (v := vD3 x P) (S.at_ 0 rfl) rfl ?_
  refine IdxX.mk (by omega) (by omega) ?_
  refine c3.ten S.le (show a < x.down.length by omega) fun b5 o5 h5 => ?_
  have c5 := h5.cells rfl
  refine WR.as (r := (c : Int)) hc0 ?_
  refine IdxX.mk (by omega) (by omega) ?_
  refine c5.mat S.le (show c < (ten x.down a).length by omega) fun b6 o6 h6 => ?_
  have e4 : celZ x x.down a (j + 1) = mat (ten x.down a) c := by rw [hc0]; exact celZ_in ha hc
  rw [e4] at t1 t2 ⊢
  refine S.madeL OII.fr (l01Echelon_c _ x.prime (dimZ x a (j + 1 - 1)).toNat _ _ hp (by omega) (RII.le _ _ _ _ S.le h6) t2 (by omega)) fun b7 o7 g L S => ?_
  refine ⟨L, ?_⟩
  exact S.fin 0 rfl

theorem l03Numbers_c (h : AH) (v : Value) (x : SDouble) (sec : Bool) (w : Nat → Nat → Int) (hx : RDouble h v x) (hd : DShape x) (h1 : sec = false → w = colN x)
    (h2 : sec = true → ∀ g2 (i j : Nat), Le h g2 → ∀ u, RDouble g2 u x → i < dW x → j < dH x → ACalls Tryz.prog 38 [u, .int .i64 i, .int .i64 j] g2 (fun r h' => r = .int .i64 (w i j) ∧ h' = g2)) :
    ACalls Tryz.prog 17 [v, .bool sec] h (Made OII h (tabC (dW x) (dH x) w)) := by
  obtain ⟨P, kx, qx⟩ := hx.at_
  refine ACalls.madeN (ACalls.wk (args' := [vD x P, .bool sec]) ?_ (.cons kx (.cons (Wk.refl _) .nil)))
  refine ACalls.of Tt.tab Tryz.func17 rfl (by kernel_rfl) Tryz.ntmps17 _ rfl rfl (fun hw => ?_)
  have S := Sep.start h
  have c1 := RS.cells qx.1 rfl
  have hW := hd.w
  have hH := hd.h
  have hp := IsP.of hd.p
  have h10 : 0 < x.dims.length := hW.1
  have eW : x.dims.length = dW x := rfl
  have eH : (row x.dims 0).length = dH x := rfl
  refine S.new fun b g S => ?_
  refine S.new fun b2 g S => ?_
  have S := S.bx_rw 0 OI.fr rfl
  refine ⟨⟨[1, 2, 5, 6], fun n' vs g => ∃ (i b2 : Nat), n' = dW x - i ∧ i ≤ dW x ∧ Sep h.length h g [.rw OI.fr 46 h.length (.slice (some ⟨b2, 0, none⟩) i 1) i (tabR i fun i => tab (dH x) (w i)), .bx b 29 4 (cD x P)] ∧
    vs = [.bool sec, .pointer (some ⟨b, 0, none⟩), .slice (some ⟨b2, 0, none⟩) i 1, .int .i64 i], _, ⟨0, b2, rfl, Nat.zero_le _, S, rfl⟩, ?_⟩⟩
  clear S
  rintro n' vs g ⟨i, b2, rfl, hi, S, rfl⟩
  refine LoadX.same (v := vD1 x P) (S.at_ 1 rfl) rfl ?_
  refine BIf.mk (fun h3 => ?_) (fun h3 => ?_)
  · have hlt : i < dW x := by simp at h3; omega
    refine S.new fun b3 g S => ?_
    have S := S.bx_rc 0 (k := 0) rfl rfl
    refine ⟨⟨[1, 2, 5, 6, 7, 8], fun n' vs g => ∃ (j b3 : Nat), n' = dH x - j ∧ j ≤ dH x ∧ Sep h.length h g [.rc 2 1 h.length (.slice (some ⟨b3, 0, none⟩) j 1) j ((tab j (w i)).map (.int .i64)), .rw OI.fr 46 h.length (.slice (some ⟨b2, 0, none⟩) i 1) i (tabR i fun i => tab (dH x) (w i)), .bx b 29 4 (cD x P)] ∧
      vs = [.bool sec, .pointer (some ⟨b, 0, none⟩), .slice (some ⟨b2, 0, none⟩) i 1, .int .i64 i, .slice (some ⟨b3, 0, none⟩) j 1, .int .i64 j], _, ⟨0, b3, rfl, Nat.zero_le _, S, rfl⟩, ?_⟩⟩
    clear S
    rintro n' vs g ⟨j, b3, rfl, hj, S, rfl⟩
    refine LoadX.same (v := vD1 x P) (S.at_ 2 rfl) rfl ?_
    refine IdxX.mk (by omega) (by omega) ?_
    refine c1.rowY S.le h10 fun b4 o4 r4 => ?_
    refine BIf.mk (fun h4 => ?_) (fun h4 => ?_)
    · have hjl : j < dH x := by simp at h4; omega
      refine BIf.mk (fun hs => ?_) (fun hs => ?_)
      · have hs : sec = true := hs
        refine LoadX.same (v := vD x P) (S.at_ 2 rfl) rfl ?_
        refine CallX.same (h2 hs _ i j S.le _ (qx.reads S.le) hlt hjl) ?_
        rintro r g' ⟨rfl, rfl⟩
        refine S.new fun b5 g S => ?_
        refine S.app 0 rfl rfl rfl (by omega) fun b6 g S => ?_
        refine WR.i64 ?_
        exact ⟨dH x - (j + 1), by omega, j + 1, b6, rfl, hjl, by rw [tab_succ, List.map_append]; exact S, rfl⟩
      · have hs : sec = false := hs
        have ew : w i j = colN x i j := by rw [h1 hs]
        obtain ⟨t1, t2⟩ := hd.dwn.cell i j
        obtain ⟨t3, t4⟩ := hd.dwn.cell i ((j : Int) + 1)
        have hdm := hd.dim i j
        have hdm3 := hd.dim i ((j : Int) + 1)
        have hdm4 := hd.dim i ((j : Int) + 1 - 1)
        have r1 := (kern_red hp t2).len
        have r2 := (ech_spec hp t4).1.len
        refine DrawX.of Tt.tab follows_any [4, 9, 12] [13] [0, 1, 2, 3, 6, 7, 8, 4, 5, 9, 10, 11, 12, 13, 14] rfl (by kernel_rfl) (by kernel_rfl) ?_
        refine LoadX.same (v := vD x P) (S.at_ 2 rfl) rfl ?_
        refine LoadX.same (v := vD x P) (S.at_ 2 rfl) rfl ?_
        refine S.madeL OII.fr (l03Cycles_c _ _ x i j (qx.reads S.le) hd (by omega) (by omega)) fun b5 o5 g L S => ?_
        refine ⟨L, ?_⟩
        refine S.madeL OII.fr (l03Bounds_c _ _ x i j (qx.reads S.le) hd (by omega) (by omega)) fun b6 o6 g L S => ?_
        refine ⟨L, ?_⟩
        refine WR.as (r := w i j) (by rw [ew]; rfl) ?_ (by rw [ew]; unfold colN; omega) (by rw [ew]; unfold colN; omega)
        refine S.newL fun b7 g L S => ?_
        refine ⟨L, ?_⟩
        refine S.app 2 rfl rfl rfl (by omega) fun b8 g S => ?_
        refine WR.i64 ?_
        exact ⟨dH x - (j + 1), by omega, j + 1, b8, rfl, hjl, by rw [tab_succ, List.map_append]; exact S.tail.tail, rfl⟩
    · have hj2 : j = dH x := by simp at h4; omega
      subst hj2
      have S := S.rc_tr 0 rfl (by rw [tab_length]; omega)
      refine S.new fun b5 g S => ?_
      refine S.appT 0 rfl rfl (by omega) fun b6 g S => ?_
      refine WR.i64 ?_
      exact ⟨dW x - (i + 1), by omega, i + 1, b6, rfl, hlt, by rw [tabR_succ]; exact S, rfl⟩
  · have hi2 : i = dW x := by simp at h3; omega
    subst hi2
    exact (S.rw_tr 0 rfl (by omega)).fin 0 rfl

end Go.Gl

set_option linter.unusedVariables false
set_option linter.unusedSimpArgs false
namespace Go.Gl
open Go.Proofs Go.Proofs.YtbjohihngoghlaaGreat Go.Pl

/-! ### the transposed one is in order -/
theorem flip_W {x : SDouble} : dW (flipD x) = dH x := by simp [dW, flipD, flipII]
theorem flip_row {x : SDouble} {j : Nat} (hj : j < dH x) : row (flipD x).dims j = (List.range (dW x)).map fun i => ent x.dims i j := by simp [row, flipD, flipII, hj]
theorem flip_H {x : SDouble} (h : DHead x) : dH (flipD x) = dW x := by
  unfold dH
  rw [flip_row (by have := h.h; omega)]
  simp
theorem flip_ent {x : SDouble} {i j : Nat} (hi : i < dW x) (hj : j < dH x) : ent (flipD x).dims j i = ent x.dims i j := by
  unfold ent
  rw [flip_row hj]
  simp [ith, hi, ent]
theorem flip_dimZ {x : SDouble} (h : DHead x) (i j : Int) : dimZ (flipD x) j i = dimZ x i j := by
  by_cases hh : (0 ≤ i ∧ i ≤ (dW x : Int) - 1) ∧ (0 ≤ j ∧ j ≤ (dH x : Int) - 1)
  · obtain ⟨a, b, rfl, rfl, ha, hb⟩ := in_nat hh
    rw [dimZ_in ha hb, dimZ_in (by rw [flip_W]; exact hb) (by rw [flip_H h]; exact ha), flip_ent ha hb]
  · rw [dimZ_out hh, dimZ_out]
    rw [flip_W, flip_H h]
    exact fun h2 => hh ⟨h2.2, h2.1⟩
theorem flipT_ten {t : List (List (List (List Int)))} {W H j : Nat} (hj : j < H) : ten (flipT t W H) j = (List.range W).map fun i => cel t i j := by simp [ten, flipT, hj]
theorem flipT_cel {t : List (List (List (List Int)))} {W H i j : Nat} (hi : i < W) (hj : j < H) : cel (flipT t W H) j i = cel t i j := by
  unfold cel
  rw [flipT_ten hj]
  simp [mat, hi, cel]
theorem flip_tab {x : SDouble} (h : DHead x) {t : List (List (List (List Int)))} {w w' : Int → Int → Int} (ht : TabOk x t w) (hw : ∀ i j, w' j i = w i j) : TabOk (flipD x) (flipT t (dW x) (dH x)) w' := by
  refine ⟨by simp [flipT, flip_W], fun j hj => ?_, fun j i hj hi => ?_⟩
  · rw [flip_W] at hj
    rw [flipT_ten hj, flip_H h]; simp
  · rw [flip_W] at hj
    rw [flip_H h] at hi
    rw [flipT_cel hi hj, flip_dimZ h, hw]
    exact ht.2.2 i j hi hj
theorem flip_head {x : SDouble} (h : DHead x) : DHead (flipD x) where
  p := h.p
  w := by rw [flip_W]; exact h.h
  h := by rw [flip_H h]; exact h.w
  col := fun j hj => by
    rw [flip_W] at hj
    rw [flip_row hj, flip_H h]; simp
  num := fun j hj i hi => by
    rw [flip_W] at hj
    rw [flip_H h] at hi
    rw [flip_ent hi hj]
    exact h.num i hi j hj
theorem flip_shape {x : SDouble} (h : DShape x) : DShape (flipD x) where
  toDHead := flip_head h.toDHead
  acr := flip_tab h.toDHead h.dwn fun i j => flip_dimZ h.toDHead i (j - 1)
  dwn := flip_tab h.toDHead h.acr fun i j => flip_dimZ h.toDHead (i - 1) j

theorem l03Turned_c (h : AH) (v : Value) (W H : Nat) (w : Nat → Nat → Int) (hx : RII h v (tabC W H w)) (hW : 1 ≤ W ∧ W ≤ 100) (hH : H ≤ 100) : ACalls Tryz.prog 16 [v] h (Made OII h (tabC H W fun j i => w i j)) := by
  obtain ⟨b1, o1, k1, hx⟩ := hx.can
  have c1 := hx.cells rfl
  have eL : (tabC W H w).length = W := tabR_length _ _
  have eR : ∀ i, i < W → row (tabC W H w) i = tab H (w i) := fun i hi => tabR_row hi
  refine ACalls.madeN (ACalls.wk (args' := [.slice (some ⟨b1, o1, none⟩) (tabC W H w).length 0]) ?_ (.cons k1 .nil))
  refine ACalls.of Tt.tab Tryz.func16 rfl (by kernel_rfl) Tryz.ntmps16 _ rfl rfl (fun hw => ?_)
  have S := Sep.start h
  refine S.new fun b2 g S => ?_
  have S := S.bx_rw 0 OI.fr rfl
  refine ⟨⟨[0, 3, 4], fun n' vs g => ∃ (j b2 : Nat), n' = H - j ∧ j ≤ H ∧ Sep h.length h g [.rw OI.fr 46 h.length (.slice (some ⟨b2, 0, none⟩) j 1) j (tabR j fun j => tab W fun i => w i j)] ∧
    vs = [.slice (some ⟨b1, o1, none⟩) (tabC W H w).length 0, .slice (some ⟨b2, 0, none⟩) j 1, .int .i64 j], _, ⟨0, b2, rfl, Nat.zero_le _, S, rfl⟩, ?_⟩⟩
  clear S
  rintro n' vs g ⟨j, b2, rfl, hj, S, rfl⟩
  refine IdxX.mk (by omega) (by omega) ?_
  refine c1.rowY S.le (show 0 < (tabC W H w).length by omega) fun b3 o3 h3 => ?_
  rw [show (row (tabC W H w) 0).length = H by rw [eR 0 (by omega), tab_length]]
  refine BIf.mk (fun h2 => ?_) (fun h2 => ?_)
  · have hjl : j < H := by simpa using h2
    refine S.new fun b4 g S => ?_
    have S := S.bx_rc 0 (k := 0) rfl rfl
    refine ⟨⟨[0, 3, 4, 5, 6], fun n' vs g => ∃ (i b4 : Nat), n' = W - i ∧ i ≤ W ∧ Sep h.length h g [.rc 2 1 h.length (.slice (some ⟨b4, 0, none⟩) i 1) i ((tab i fun i => w i j).map (.int .i64)), .rw OI.fr 46 h.length (.slice (some ⟨b2, 0, none⟩) j 1) j (tabR j fun j => tab W fun i => w i j)] ∧
      vs = [.slice (some ⟨b1, o1, none⟩) (tabC W H w).length 0, .slice (some ⟨b2, 0, none⟩) j 1, .int .i64 j, .slice (some ⟨b4, 0, none⟩) i 1, .int .i64 i], _, ⟨0, b4, rfl, Nat.zero_le _, S, rfl⟩, ?_⟩⟩
    clear S
    rintro n' vs g ⟨i, b4, rfl, hi, S, rfl⟩
    refine BIf.mk (fun h4 => ?_) (fun h4 => ?_)
    · have hlt : i < W := by simp at h4; omega
      refine IdxX.mk (by omega) (by omega) ?_
      refine c1.row S.le (show i < (tabC W H w).length by omega) fun b5 o5 c5 => ?_
      rw [eR i hlt] at c5 ⊢
      rw [tab_length]
      refine IdxX.mk (by omega) (by omega) ?_
      refine c5.ith S.le (show j < (tab H (w i)).length by rw [tab_length]; exact hjl) ?_
      rw [tab_ith hjl]
      refine S.new fun b6 g S => ?_
      refine S.app 0 rfl rfl rfl (by omega) fun b7 g S => ?_
      refine WR.i64 ?_
      exact ⟨W - (i + 1), by omega, i + 1, b7, rfl, hlt, by rw [tab_succ, List.map_append]; exact S, rfl⟩
    · have hi2 : i = W := by simp at h4; omega
      subst hi2
      have S := S.rc_tr 0 rfl (by rw [tab_length]; omega)
      refine S.new fun b5 g S => ?_
      refine S.appT 0 rfl rfl (by omega) fun b6 g S => ?_
      refine WR.i64 ?_
      exact ⟨H - (j + 1), by omega, j + 1, b6, rfl, hjl, by rw [tabR_succ]; exact S, rfl⟩
  · have hj2 : j = H := by simp at h2; omega
    have Sx := S
    subst hj2
    have Sx := Sx.rw_tr 0 rfl (by omega)
    exact Sx.fin 0 rfl

end Go.Gl

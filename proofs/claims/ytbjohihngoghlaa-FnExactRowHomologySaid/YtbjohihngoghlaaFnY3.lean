/- Chapter 3: tables of homology numbers, both sides. No condition. -/
import Derived.Test.YtbjohihngoghlaaFnY2
import Derived.Test.YtbjohihngoghlaaFnK2
import Derived.Test.YtbjohihngoghlaaFnX9
set_option linter.unusedVariables false
set_option linter.unusedSimpArgs false
namespace Go.Gl
open Go.Proofs Go.Proofs.Ytbjohihngoghlaa Go.Pl

/-- a table of numbers of cells -/
def tabC (W H : Nat) (w : Nat → Nat → Int) : List (List Int) := tabR W fun i => tab H (w i)
noncomputable def colH (x : SDouble) : List (List Int) × Int := if dOk x then (tabC (dW x) (dH x) (colN x), 0) else ([], 1)
noncomputable def rowH (x : SDouble) : List (List Int) × Int := if dOk x then (tabC (dW x) (dH x) fun i j => colN (flipD x) j i, 0) else ([], 1)
theorem cnII_tabC {W H : Nat} {w : Nat → Nat → Int} (hW : W ≤ 4) (hH : H ≤ 4) : cnII (tabC W H w) ≤ 16 := by
  refine Nat.le_trans (cnL_range (m := 4) fun i hi => ?_) (by omega)
  show (tab H (w i)).length ≤ 4
  rw [tab_length]; exact hH
theorem colH_cn (x : SDouble) : cnII (colH x).1 ≤ 1000 := by
  unfold colH
  split
  · rename_i h
    have hd := (dOk_mk h).toDHead
    exact Nat.le_trans (cnII_tabC hd.w.2 hd.h.2) (by omega)
  · decide
theorem rowH_cn (x : SDouble) : cnII (rowH x).1 ≤ 1000 := by
  unfold rowH
  split
  · rename_i h
    have hd := (dOk_mk h).toDHead
    exact Nat.le_trans (cnII_tabC hd.w.2 hd.h.2) (by omega)
  · decide

theorem cellTable_c (h : AH) (v : Value) (x : SDouble) (hx : RDouble h v x) (hd : 1 ≤ dW x ∧ dW x ≤ 4 ∧ dH x ≤ 4) (f : Nat) (first cap : Array Value) (w : Nat → Nat → Int)
    (hf : ∀ g2 (i j : Nat), Le h g2 → i < dW x → j < dH x → ACalls Try.prog f (first.toList ++ [.int .i64 i, .int .i64 j] ++ cap.toList) g2 (fun r h' => r = .int .i64 (w i j) ∧ h' = g2)) :
    ACalls Try.prog 133 [v, .func (.func f) first cap] h (Made OII h (tabC (dW x) (dH x) w)) := by
  obtain ⟨P, kx, qx⟩ := hx.at_
  refine ACalls.madeN (ACalls.wk (args' := [vD x P, .func (.func f) first cap]) ?_ (.cons kx (.cons (Wk.refl _) .nil)))
  refine ACalls.of Tt.tab Try.func133 rfl (by kernel_rfl) Try.ntmps133 _ rfl rfl (fun hw => ?_)
  have S := Sep.start h
  refine S.new fun b g S => ?_
  refine S.new fun b2 g S => ?_
  have S := S.bx_rw 0 OI.fr rfl
  refine LoadX.same (v := vD x P) (S.at_ 1 rfl) rfl ?_
  refine CallX.same (wide_c _ _ x (qx.reads S.le)) ?_
  rintro r g' ⟨rfl, rfl⟩
  refine ⟨⟨[1, 2, 5, 11, 12], fun n' vs g => ∃ (i b2 : Nat), n' = dW x - i ∧ i ≤ dW x ∧ Sep h.length h g [.rw OI.fr 22 h.length (.slice (some ⟨b2, 0, none⟩) i 1) i (tabR i fun i => tab (dH x) (w i)), .bx b 71 4 (cD x P)] ∧
    vs = [.func (.func f) first cap, .pointer (some ⟨b, 0, none⟩), .slice (some ⟨b2, 0, none⟩) i 1, .int .i64 (dW x), .int .i64 i], _, ⟨0, b2, rfl, Nat.zero_le _, S, rfl⟩, ?_⟩⟩
  clear S
  rintro n' vs g ⟨i, b2, rfl, hi, S, rfl⟩
  refine BIf.mk (fun h2 => ?_) (fun h2 => ?_)
  · have hlt : i < dW x := by simpa using h2
    refine S.new fun b3 g S => ?_
    have S := S.bx_rc 0 (k := 0) rfl rfl
    refine LoadX.same (v := vD x P) (S.at_ 2 rfl) rfl ?_
    refine CallX.same (high_c _ _ x (qx.reads S.le) hd.1) ?_
    rintro r g' ⟨rfl, rfl⟩
    refine ⟨⟨[1, 2, 5, 6, 7, 11, 12, 17, 18], fun n' vs g => ∃ (j b3 : Nat), n' = dH x - j ∧ j ≤ dH x ∧ Sep h.length h g [.rc 2 1 h.length (.slice (some ⟨b3, 0, none⟩) j 1) j ((tab j (w i)).map (.int .i64)), .rw OI.fr 22 h.length (.slice (some ⟨b2, 0, none⟩) i 1) i (tabR i fun i => tab (dH x) (w i)), .bx b 71 4 (cD x P)] ∧
      vs = [.func (.func f) first cap, .pointer (some ⟨b, 0, none⟩), .slice (some ⟨b2, 0, none⟩) i 1, .int .i64 i, .slice (some ⟨b3, 0, none⟩) j 1, .int .i64 (dW x), .int .i64 i, .int .i64 (dH x), .int .i64 j], _, ⟨0, b3, rfl, Nat.zero_le _, S, rfl⟩, ?_⟩⟩
    clear S
    rintro n' vs g ⟨j, b3, rfl, hj, S, rfl⟩
    refine BIf.mk (fun h3 => ?_) (fun h3 => ?_)
    · have hjl : j < dH x := by simpa using h3
      refine CallX.same (hf _ i j S.le hlt hjl) ?_
      rintro r g' ⟨rfl, rfl⟩
      refine S.new fun b4 g S => ?_
      refine S.app 0 rfl rfl rfl (by omega) fun b5 g S => ?_
      refine WR.i64 ?_
      exact ⟨dH x - (j + 1), by omega, j + 1, b5, rfl, hjl, by rw [tab_succ, List.map_append]; exact S, rfl⟩
    · have hj2 : j = dH x := by simp at h3; omega
      subst hj2
      have S := S.rc_tr 0 rfl (by rw [tab_length]; omega)
      refine S.new fun b4 g S => ?_
      refine S.appT 0 rfl rfl (by omega) fun b5 g S => ?_
      refine WR.i64 ?_
      exact ⟨dW x - (i + 1), by omega, i + 1, b5, rfl, hlt, by rw [tabR_succ]; exact S, rfl⟩
  · have hi2 : i = dW x := by simp at h2; omega
    subst hi2
    exact (S.rw_tr 0 rfl (by omega)).fin 0 rfl

theorem colHI_c (h : AH) (v : Value) (x : SDouble) (hx : RDouble h v x) : ACalls Try.prog 59 [v] h (MadeC OII h (colH x).1 (colH x).2) := by
  obtain ⟨P, kx, qx⟩ := hx.at_
  refine ACalls.wk (args' := [vD x P]) ?_ (.cons kx .nil)
  refine ACalls.of Tt.tab Try.func59 rfl (by kernel_rfl) Try.ntmps59 _ rfl rfl (fun hw => ?_)
  have S := Sep.start h
  refine S.new fun b g S => ?_
  refine LoadX.same (v := vD x P) (S.at_ 0 rfl) rfl ?_
  refine CallX.same (isDoubleI_c _ _ x (qx.reads S.le)) ?_
  rintro r g ⟨rfl, rfl⟩
  unfold colH
  refine BIf.mk (fun h1 => ?_) (fun h1 => ?_)
  · have h1 : dOk x = false := by simpa using h1
    rw [h1]
    exact S.nilC
  have h1 : dOk x = true := by simpa using h1
  rw [if_pos h1]
  have hd := (dOk_mk h1).toDShape
  have hW := hd.w
  have hH := hd.h
  refine LoadX.same (v := vD x P) (S.at_ 0 rfl) rfl ?_
  refine LoadX.same (v := vD x P) (S.at_ 0 rfl) rfl ?_
  refine S.made OII.fr (cellTable_c _ _ x (qx.reads S.le) ⟨hW.1, hW.2, hH.2⟩ _ _ _ (colN x) fun g2 i j L hi hj => columnH_c g2 _ x i j (qx.reads (S.le.trans L)) hd (by omega) (by omega)) fun b2 o2 g S => ?_
  exact S.finC 0 rfl

theorem l03Cycles_c (h : AH) (v : Value) (x : SDouble) (i j : Int) (hx : RDouble h v x) (hd : DShape x) (hi : -10 ≤ i ∧ i ≤ 10) (hj : -10 ≤ j ∧ j ≤ 10) :
    ACalls Try.prog 185 [v, .int .i64 i, .int .i64 j] h (Made OII h (kern x.prime (dimZ x i (j - 1)).toNat (celZ x x.down i j))) := by
  obtain ⟨P, kx, qx⟩ := hx.at_
  refine ACalls.madeN (ACalls.wk (args' := [vD x P, .int .i64 i, .int .i64 j]) ?_ (.cons kx (.cons (Wk.refl _) (.cons (Wk.refl _) .nil))))
  refine ACalls.of Tt.tab Try.func185 rfl (by kernel_rfl) Try.ntmps185 _ rfl rfl (fun hw => ?_)
  have S := Sep.start h
  have c1 := RS.cells qx.1 rfl
  have c3 := RS.cells qx.2.2 rfl
  have hp := IsP.of hd.p
  have hdm := hd.dim i j
  have hdm2 := hd.dim i (j - 1)
  obtain ⟨t1, t2⟩ := hd.dwn.cell i j
  refine S.new fun b g S => ?_
  refine LoadX.same (v := vD x P) (S.at_ 0 rfl) rfl ?_
  refine CallX.same (l03Dim_c _ _ x i j (qx.reads S.le) hd.w.1 hd.col) ?_
  rintro r g' ⟨rfl, rfl⟩
  refine BIf.mk (fun e1 => ?_) (fun e1 => ?_)
  · have e1 : dimZ x i j = 0 := by simpa using e1
    have e2 : celZ x x.down i j = [] := List.length_eq_zero_iff.1 (by omega)
    rw [e2] at t2 ⊢
    have e3 : kern x.prime (dimZ x i (j - 1)).toNat [] = [] := kern_indep hp (RedL.nil _ _)
    rw [e3]
    refine S.new fun b2 g S => ?_
    have S := S.bx_rw 0 OI.fr rfl
    exact (S.rw_tr 0 rfl (by omega)).fin 0 rfl
  have e1 : dimZ x i j ≠ 0 := by simpa using e1
  have hin : (0 ≤ i ∧ i ≤ (dW x : Int) - 1) ∧ (0 ≤ j ∧ j ≤ (dH x : Int) - 1) := Classical.byContradiction fun hh => e1 (dimZ_out hh)
  obtain ⟨a, c, rfl, rfl, ha, hc⟩ := in_nat hin
  have hcol := hd.col a ha
  have hla : x.down.length = dW x := hd.dwn.1
  have hlc := hd.dwn.2.1 a ha
  have e4 : celZ x x.down a c = mat (ten x.down a) c := celZ_in ha hc
  have hdi := dimZ_in ha hc
  refine DrawX.of Tt.tab follows_any [18] [] [0, 1, 2, 3, 4, 5, 6, 7, 8, 9, 10, 11, 12, 13, 14, 15, 16, 17, 18, 19] rfl (by kernel_rfl) (by kernel_rfl) ?_
  refine LoadX.same (v := .int .i64 x.prime) (S.at_ 0 rfl) rfl ?_
  refine LoadX.same (v := vD1 x P) (S.at_ 0 rfl) rfl ?_
  refine IdxX.mk (by omega) (by show (a : Int) < (x.dims.length : Int); unfold dW at ha; omega) ?_
  refine c1.row S.le ha fun b4 o4 c4 => ?_
  refine IdxX.mk (by omega) (by omega) ?_
  refine c4.ith S.le (show c < (row x.dims a).length by omega) ?_
  refine LoadX.same (v := vD3 x P) (S.at_ 0 rfl) rfl ?_
  refine IdxX.mk (by omega) (by omega) ?_
  refine c3.ten S.le (show a < x.down.length by omega) fun b5 o5 h5 => ?_
  have c5 := h5.cells rfl
  refine IdxX.mk (by omega) (by omega) ?_
  refine c5.mat S.le (show c < (ten x.down a).length by omega) fun b6 o6 h6 => ?_
  rw [e4] at t1 t2 ⊢
  rw [show ith (row x.dims a) c = ((mat (ten x.down a) c).length : Int) by rw [t1, hdi]; rfl]
  refine S.madeL OII.fr (l01Kernel_c _ x.prime (dimZ x a ((c : Int) - 1)).toNat _ _ hp (by omega) (RII.le _ _ _ _ S.le h6) t2 (by omega)) fun b7 o7 g L S => ?_
  refine ⟨L, ?_⟩
  exact S.fin 0 rfl
theorem l03Bounds_c (h : AH) (v : Value) (x : SDouble) (i j : Int) (hx : RDouble h v x) (hd : DShape x) (hi : -10 ≤ i ∧ i ≤ 10) (hj : -10 ≤ j ∧ j ≤ 10) :
    ACalls Try.prog 186 [v, .int .i64 i, .int .i64 j] h (Made OII h (ech x.prime (celZ x x.down i (j + 1)))) := by
  obtain ⟨P, kx, qx⟩ := hx.at_
  refine ACalls.madeN (ACalls.wk (args' := [vD x P, .int .i64 i, .int .i64 j]) ?_ (.cons kx (.cons (Wk.refl _) (.cons (Wk.refl _) .nil))))
  refine ACalls.of Tt.tab Try.func186 rfl (by kernel_rfl) Try.ntmps186 _ rfl rfl (fun hw => ?_)
  have S := Sep.start h
  have c3 := RS.cells qx.2.2 rfl
  have hp := IsP.of hd.p
  have hdm := hd.dim i (j + 1)
  have hdm2 := hd.dim i (j + 1 - 1)
  obtain ⟨t1, t2⟩ := hd.dwn.cell i (j + 1)
  refine S.new fun b g S => ?_
  refine LoadX.same (v := vD x P) (S.at_ 0 rfl) rfl ?_
  refine WR.i64 ?_
  refine CallX.same (l03Dim_c _ _ x i (j + 1) (qx.reads S.le) hd.w.1 hd.col) ?_
  rintro r g' ⟨rfl, rfl⟩
  refine BIf.mk (fun e1 => ?_) (fun e1 => ?_)
  · have e1 : dimZ x i (j + 1) = 0 := by simpa using e1
    have e2 : celZ x x.down i (j + 1) = [] := List.length_eq_zero_iff.1 (by omega)
    rw [e2, show ech x.prime [] = [] from rfl]
    refine S.new fun b2 g S => ?_
    have S := S.bx_rw 0 OI.fr rfl
    exact (S.rw_tr 0 rfl (by omega)).fin 0 rfl
  have e1 : dimZ x i (j + 1) ≠ 0 := by simpa using e1
  have hin : (0 ≤ i ∧ i ≤ (dW x : Int) - 1) ∧ (0 ≤ j + 1 ∧ j + 1 ≤ (dH x : Int) - 1) := Classical.byContradiction fun hh => e1 (dimZ_out hh)
  obtain ⟨a, c, rfl, hc0, ha, hc⟩ := in_nat hin
  have hla : x.down.length = dW x := hd.dwn.1
  have hlc := hd.dwn.2.1 a ha
  refine DrawX.of Tt.tab follows_any [11] [] [0, 1, 2, 3, 4, 5, 6, 7, 8, 9, 10, 11, 12] rfl (by kernel_rfl) (by kernel_rfl) ?_
  refine LoadX.same (v := .int .i64 x.prime) (S.at_ 0 rfl) rfl ?_
  refine LoadX.same (v := vD3 x P) (S.at_ 0 rfl) rfl ?_
  refine IdxX.mk (by omega) (by omega) ?_
  refine c3.ten S.le (show a < x.down.length by omega) fun b5 o5 h5 => ?_
  have c5 := h5.cells rfl
  refine WR.as (r := (c : Int)) hc0 ?_
  refine IdxX.mk (by omega) (by omega) ?_
  refine c5.mat S.le (show c < (ten x.down a).length by omega) fun b6 o6 h6 => ?_
  have e4 : celZ x x.down a (j + 1) = mat (ten x.down a) c := by rw [hc0]; exact celZ_in ha hc
  rw [e4] at t1 t2 ⊢
  refine S.madeL OII.fr (l01Echelon_c _ x.prime (dimZ x a (j + 1 - 1)).toNat _ _ hp (by omega) (RII.le _ _ _ _ S.le h6) t2 (by omega)) fun b7 o7 g L S => ?_
  refine ⟨L, ?_⟩
  exact S.fin 0 rfl

theorem l03Numbers_c (h : AH) (v : Value) (x : SDouble) (sec : Bool) (w : Nat → Nat → Int) (hx : RDouble h v x) (hd : DShape x) (h1 : sec = false → w = colN x)
    (h2 : sec = true → ∀ g2 (i j : Nat), Le h g2 → ∀ u, RDouble g2 u x → i < dW x → j < dH x → ACalls Try.prog 184 [u, .int .i64 i, .int .i64 j] g2 (fun r h' => r = .int .i64 (w i j) ∧ h' = g2)) :
    ACalls Try.prog 132 [v, .bool sec] h (Made OII h (tabC (dW x) (dH x) w)) := by
  obtain ⟨P, kx, qx⟩ := hx.at_
  refine ACalls.madeN (ACalls.wk (args' := [vD x P, .bool sec]) ?_ (.cons kx (.cons (Wk.refl _) .nil)))
  refine ACalls.of Tt.tab Try.func132 rfl (by kernel_rfl) Try.ntmps132 _ rfl rfl (fun hw => ?_)
  have S := Sep.start h
  have c1 := RS.cells qx.1 rfl
  have hW := hd.w
  have hH := hd.h
  have hp := IsP.of hd.p
  have h10 : 0 < x.dims.length := hW.1
  have eW : x.dims.length = dW x := rfl
  have eH : (row x.dims 0).length = dH x := rfl
  refine S.new fun b g S => ?_
  refine S.new fun b2 g S => ?_
  have S := S.bx_rw 0 OI.fr rfl
  refine ⟨⟨[1, 2, 5, 6], fun n' vs g => ∃ (i b2 : Nat), n' = dW x - i ∧ i ≤ dW x ∧ Sep h.length h g [.rw OI.fr 22 h.length (.slice (some ⟨b2, 0, none⟩) i 1) i (tabR i fun i => tab (dH x) (w i)), .bx b 71 4 (cD x P)] ∧
    vs = [.bool sec, .pointer (some ⟨b, 0, none⟩), .slice (some ⟨b2, 0, none⟩) i 1, .int .i64 i], _, ⟨0, b2, rfl, Nat.zero_le _, S, rfl⟩, ?_⟩⟩
  clear S
  rintro n' vs g ⟨i, b2, rfl, hi, S, rfl⟩
  refine LoadX.same (v := vD1 x P) (S.at_ 1 rfl) rfl ?_
  refine BIf.mk (fun h3 => ?_) (fun h3 => ?_)
  · have hlt : i < dW x := by simp at h3; omega
    refine S.new fun b3 g S => ?_
    have S := S.bx_rc 0 (k := 0) rfl rfl
    refine ⟨⟨[1, 2, 5, 6, 7, 8], fun n' vs g => ∃ (j b3 : Nat), n' = dH x - j ∧ j ≤ dH x ∧ Sep h.length h g [.rc 2 1 h.length (.slice (some ⟨b3, 0, none⟩) j 1) j ((tab j (w i)).map (.int .i64)), .rw OI.fr 22 h.length (.slice (some ⟨b2, 0, none⟩) i 1) i (tabR i fun i => tab (dH x) (w i)), .bx b 71 4 (cD x P)] ∧
      vs = [.bool sec, .pointer (some ⟨b, 0, none⟩), .slice (some ⟨b2, 0, none⟩) i 1, .int .i64 i, .slice (some ⟨b3, 0, none⟩) j 1, .int .i64 j], _, ⟨0, b3, rfl, Nat.zero_le _, S, rfl⟩, ?_⟩⟩
    clear S
    rintro n' vs g ⟨j, b3, rfl, hj, S, rfl⟩
    refine LoadX.same (v := vD1 x P) (S.at_ 2 rfl) rfl ?_
    refine IdxX.mk (by omega) (by omega) ?_
    refine c1.rowY S.le h10 fun b4 o4 r4 => ?_
    refine BIf.mk (fun h4 => ?_) (fun h4 => ?_)
    · have hjl : j < dH x := by simp at h4; omega
      refine BIf.mk (fun hs => ?_) (fun hs => ?_)
      · have hs : sec = true := hs
        refine LoadX.same (v := vD x P) (S.at_ 2 rfl) rfl ?_
        refine CallX.same (h2 hs _ i j S.le _ (qx.reads S.le) hlt hjl) ?_
        rintro r g' ⟨rfl, rfl⟩
        refine S.new fun b5 g S => ?_
        refine S.app 0 rfl rfl rfl (by omega) fun b6 g S => ?_
        refine WR.i64 ?_
        exact ⟨dH x - (j + 1), by omega, j + 1, b6, rfl, hjl, by rw [tab_succ, List.map_append]; exact S, rfl⟩
      · have hs : sec = false := hs
        have ew : w i j = colN x i j := by rw [h1 hs]
        obtain ⟨t1, t2⟩ := hd.dwn.cell i j
        obtain ⟨t3, t4⟩ := hd.dwn.cell i ((j : Int) + 1)
        have hdm := hd.dim i j
        have hdm3 := hd.dim i ((j : Int) + 1)
        have hdm4 := hd.dim i ((j : Int) + 1 - 1)
        have r1 := (kern_red hp t2).len
        have r2 := (ech_spec hp t4).1.len
        refine DrawX.of Tt.tab follows_any [4, 9, 12] [13] [0, 1, 2, 3, 6, 7, 8, 4, 5, 9, 10, 11, 12, 13, 14] rfl (by kernel_rfl) (by kernel_rfl) ?_
        refine LoadX.same (v := vD x P) (S.at_ 2 rfl) rfl ?_
        refine LoadX.same (v := vD x P) (S.at_ 2 rfl) rfl ?_
        refine S.madeL OII.fr (l03Cycles_c _ _ x i j (qx.reads S.le) hd (by omega) (by omega)) fun b5 o5 g L S => ?_
        refine ⟨L, ?_⟩
        refine S.madeL OII.fr (l03Bounds_c _ _ x i j (qx.reads S.le) hd (by omega) (by omega)) fun b6 o6 g L S => ?_
        refine ⟨L, ?_⟩
        refine WR.as (r := w i j) (by rw [ew]; rfl) ?_ (by rw [ew]; unfold colN; omega) (by rw [ew]; unfold colN; omega)
        refine S.newL fun b7 g L S => ?_
        refine ⟨L, ?_⟩
        refine S.app 2 rfl rfl rfl (by omega) fun b8 g S => ?_
        refine WR.i64 ?_
        exact ⟨dH x - (j + 1), by omega, j + 1, b8, rfl, hjl, by rw [tab_succ, List.map_append]; exact S.tail.tail, rfl⟩
    · have hj2 : j = dH x := by simp at h4; omega
      subst hj2
      have S := S.rc_tr 0 rfl (by rw [tab_length]; omega)
      refine S.new fun b5 g S => ?_
      refine S.appT 0 rfl rfl (by omega) fun b6 g S => ?_
      refine WR.i64 ?_
      exact ⟨dW x - (i + 1), by omega, i + 1, b6, rfl, hlt, by rw [tabR_succ]; exact S, rfl⟩
  · have hi2 : i = dW x := by simp at h3; omega
    subst hi2
    exact (S.rw_tr 0 rfl (by omega)).fin 0 rfl

theorem colHS_c (h : AH) (v : Value) (x : SDouble) (hx : RDouble h v x) : ACalls Try.prog 58 [v] h (MadeC OII h (colH x).1 (colH x).2) := by
  obtain ⟨P, kx, qx⟩ := hx.at_
  refine ACalls.wk (args' := [vD x P]) ?_ (.cons kx .nil)
  refine ACalls.of Tt.tab Try.func58 rfl (by kernel_rfl) Try.ntmps58 _ rfl rfl (fun hw => ?_)
  have S := Sep.start h
  refine S.new fun b g S => ?_
  refine LoadX.same (v := vD x P) (S.at_ 0 rfl) rfl ?_
  refine CallX.same (l03Is_c _ _ x (qx.reads S.le)) ?_
  rintro r g ⟨rfl, rfl⟩
  unfold colH
  refine BIf.mk (fun h1 => ?_) (fun h1 => ?_)
  · have h1 : dOk x = false := by simpa using h1
    rw [h1]
    exact S.nilC
  have h1 : dOk x = true := by simpa using h1
  rw [if_pos h1]
  have hd := (dOk_mk h1).toDShape
  refine LoadX.same (v := vD x P) (S.at_ 0 rfl) rfl ?_
  refine S.made OII.fr (l03Numbers_c _ _ x false (colN x) (qx.reads S.le) hd (fun _ => rfl) fun hh => by cases hh) fun b2 o2 g S => ?_
  exact S.finC 0 rfl

end Go.Gl

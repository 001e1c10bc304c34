/- Chapter 3: row homology, both sides. No condition. -/
import Derived.Test.YtbjohihngoghlaaFnY3
set_option linter.unusedVariables false
set_option linter.unusedSimpArgs false
namespace Go.Gl
open Go.Proofs Go.Proofs.Ytbjohihngoghlaa Go.Pl

/-! ### the transposed one is in order -/
theorem flip_W {x : SDouble} : dW (flipD x) = dH x := by simp [dW, flipD, flipII]
theorem flip_row {x : SDouble} {j : Nat} (hj : j < dH x) : row (flipD x).dims j = (List.range (dW x)).map fun i => ent x.dims i j := by simp [row, flipD, flipII, hj]
theorem flip_H {x : SDouble} (h : DHead x) : dH (flipD x) = dW x := by
  unfold dH
  rw [flip_row (by have := h.h; omega)]
  simp
theorem flip_ent {x : SDouble} {i j : Nat} (hi : i < dW x) (hj : j < dH x) : ent (flipD x).dims j i = ent x.dims i j := by
  unfold ent
  rw [flip_row hj]
  simp [ith, hi, ent]
theorem flip_dimZ {x : SDouble} (h : DHead x) (i j : Int) : dimZ (flipD x) j i = dimZ x i j := by
  by_cases hh : (0 ≤ i ∧ i ≤ (dW x : Int) - 1) ∧ (0 ≤ j ∧ j ≤ (dH x : Int) - 1)
  · obtain ⟨a, b, rfl, rfl, ha, hb⟩ := in_nat hh
    rw [dimZ_in ha hb, dimZ_in (by rw [flip_W]; exact hb) (by rw [flip_H h]; exact ha), flip_ent ha hb]
  · rw [dimZ_out hh, dimZ_out]
    rw [flip_W, flip_H h]
    exact fun h2 => hh ⟨h2.2, h2.1⟩
theorem flipT_ten {t : List (List (List (List Int)))} {W H j : Nat} (hj : j < H) : ten (flipT t W H) j = (List.range W).map fun i => cel t i j := by simp [ten, flipT, hj]
theorem flipT_cel {t : List (List (List (List Int)))} {W H i j : Nat} (hi : i < W) (hj : j < H) : cel (flipT t W H) j i = cel t i j := by
  unfold cel
  rw [flipT_ten hj]
  simp [mat, hi, cel]
theorem flip_tab {x : SDouble} (h : DHead x) {t : List (List (List (List Int)))} {w w' : Int → Int → Int} (ht : TabOk x t w) (hw : ∀ i j, w' j i = w i j) : TabOk (flipD x) (flipT t (dW x) (dH x)) w' := by
  refine ⟨by simp [flipT, flip_W], fun j hj => ?_, fun j i hj hi => ?_⟩
  · rw [flip_W] at hj
    rw [flipT_ten hj, flip_H h]; simp
  · rw [flip_W] at hj
    rw [flip_H h] at hi
    rw [flipT_cel hi hj, flip_dimZ h, hw]
    exact ht.2.2 i j hi hj
theorem flip_head {x : SDouble} (h : DHead x) : DHead (flipD x) where
  p := h.p
  w := by rw [flip_W]; exact h.h
  h := by rw [flip_H h]; exact h.w
  col := fun j hj => by
    rw [flip_W] at hj
    rw [flip_row hj, flip_H h]; simp
  num := fun j hj i hi => by
    rw [flip_W] at hj
    rw [flip_H h] at hi
    rw [flip_ent hi hj]
    exact h.num i hi j hj
theorem flip_shape {x : SDouble} (h : DShape x) : DShape (flipD x) where
  toDHead := flip_head h.toDHead
  acr := flip_tab h.toDHead h.dwn fun i j => flip_dimZ h.toDHead i (j - 1)
  dwn := flip_tab h.toDHead h.acr fun i j => flip_dimZ h.toDHead (i - 1) j

theorem rowH1_c (h : AH) (y : SDouble) (P' : DP) (hy : RDouble h (vD y P') y) (hd : DShape y) (b4 : Nat) (l4 : look h b4 = some ⟨cD y P', some (71, 4)⟩) (i j : Nat) (hi : i ≤ 8) (hj : j ≤ 8) :
    ACalls Try.prog 134 [.int .i64 i, .int .i64 j, .pointer (some ⟨b4, 0, none⟩)] h (fun r h' => r = .int .i64 (colN y j i) ∧ h' = h) := by
  refine ACalls.of Tt.tab Try.func134 rfl (by kernel_rfl) Try.ntmps134 _ rfl rfl (fun hw => ?_)
  refine LoadX.same (v := vD y P') l4 rfl ?_
  refine CallX.same (columnH_c _ _ y j i hy hd hj hi) ?_
  rintro r g ⟨rfl, rfl⟩
  exact FinX.keep hw (Le.refl _) rfl ⟨rfl, rfl⟩
theorem rowHI_c (h : AH) (v : Value) (x : SDouble) (hx : RDouble h v x) : ACalls Try.prog 54 [v] h (MadeC OII h (rowH x).1 (rowH x).2) := by
  obtain ⟨P, kx, qx⟩ := hx.at_
  refine ACalls.wk (args' := [vD x P]) ?_ (.cons kx .nil)
  refine ACalls.of Tt.tab Try.func54 rfl (by kernel_rfl) Try.ntmps54 _ rfl rfl (fun hw => ?_)
  have S := Sep.start h
  refine S.new fun b g S => ?_
  refine LoadX.same (v := vD x P) (S.at_ 0 rfl) rfl ?_
  refine CallX.same (isDoubleI_c _ _ x (qx.reads S.le)) ?_
  rintro r g ⟨rfl, rfl⟩
  unfold rowH
  refine BIf.mk (fun h1 => ?_) (fun h1 => ?_)
  · have h1 : dOk x = false := by simpa using h1
    rw [h1]
    exact S.nilC
  have h1 : dOk x = true := by simpa using h1
  rw [if_pos h1]
  have hd := (dOk_mk h1).toDShape
  have hW := hd.w
  have hH := hd.h
  refine LoadX.same (v := vD x P) (S.at_ 0 rfl) rfl ?_
  refine CallX.same (transposedN_c _ _ x (qx.reads S.le) hd) ?_
  rintro r g' ⟨P', l, rfl, ho, L⟩
  have S := S.tree ODouble.fr ho L
  clear ho
  refine S.new fun b4 g S => ?_
  refine S.put 0 rfl fun g S => ?_
  refine LoadX.same (v := vD x P) (S.at_ 2 rfl) rfl ?_
  refine S.made OII.fr (cellTable_c _ _ x (qx.reads S.le) ⟨hW.1, hW.2, hH.2⟩ _ _ _ (fun i j => colN (flipD x) j i) fun g2 i j L hi hj => rowH1_c g2 (flipD x) P' (RDouble.le _ _ _ _ L (S.rd ODouble.reads 1 rfl)) (flip_shape hd) b4 (L.at_ _ _ (S.at_ 0 rfl)) i j (by omega) (by omega)) fun b2 o2 g S => ?_
  exact S.finC 0 rfl

theorem l03Turned_c (h : AH) (v : Value) (W H : Nat) (w : Nat → Nat → Int) (hx : RII h v (tabC W H w)) (hW : 1 ≤ W ∧ W ≤ 100) (hH : H ≤ 100) : ACalls Try.prog 131 [v] h (Made OII h (tabC H W fun j i => w i j)) := by
  obtain ⟨b1, o1, k1, hx⟩ := hx.can
  have c1 := hx.cells rfl
  have eL : (tabC W H w).length = W := tabR_length _ _
  have eR : ∀ i, i < W → row (tabC W H w) i = tab H (w i) := fun i hi => tabR_row hi
  refine ACalls.madeN (ACalls.wk (args' := [.slice (some ⟨b1, o1, none⟩) (tabC W H w).length 0]) ?_ (.cons k1 .nil))
  refine ACalls.of Tt.tab Try.func131 rfl (by kernel_rfl) Try.ntmps131 _ rfl rfl (fun hw => ?_)
  have S := Sep.start h
  refine S.new fun b2 g S => ?_
  have S := S.bx_rw 0 OI.fr rfl
  refine ⟨⟨[0, 3, 4], fun n' vs g => ∃ (j b2 : Nat), n' = H - j ∧ j ≤ H ∧ Sep h.length h g [.rw OI.fr 22 h.length (.slice (some ⟨b2, 0, none⟩) j 1) j (tabR j fun j => tab W fun i => w i j)] ∧
    vs = [.slice (some ⟨b1, o1, none⟩) (tabC W H w).length 0, .slice (some ⟨b2, 0, none⟩) j 1, .int .i64 j], _, ⟨0, b2, rfl, Nat.zero_le _, S, rfl⟩, ?_⟩⟩
  clear S
  rintro n' vs g ⟨j, b2, rfl, hj, S, rfl⟩
  refine IdxX.mk (by omega) (by omega) ?_
  refine c1.rowY S.le (show 0 < (tabC W H w).length by omega) fun b3 o3 h3 => ?_
  rw [show (row (tabC W H w) 0).length = H by rw [eR 0 (by omega), tab_length]]
  refine BIf.mk (fun h2 => ?_) (fun h2 => ?_)
  · have hjl : j < H := by simpa using h2
    refine S.new fun b4 g S => ?_
    have S := S.bx_rc 0 (k := 0) rfl rfl
    refine ⟨⟨[0, 3, 4, 5, 6], fun n' vs g => ∃ (i b4 : Nat), n' = W - i ∧ i ≤ W ∧ Sep h.length h g [.rc 2 1 h.length (.slice (some ⟨b4, 0, none⟩) i 1) i ((tab i fun i => w i j).map (.int .i64)), .rw OI.fr 22 h.length (.slice (some ⟨b2, 0, none⟩) j 1) j (tabR j fun j => tab W fun i => w i j)] ∧
      vs = [.slice (some ⟨b1, o1, none⟩) (tabC W H w).length 0, .slice (some ⟨b2, 0, none⟩) j 1, .int .i64 j, .slice (some ⟨b4, 0, none⟩) i 1, .int .i64 i], _, ⟨0, b4, rfl, Nat.zero_le _, S, rfl⟩, ?_⟩⟩
    clear S
    rintro n' vs g ⟨i, b4, rfl, hi, S, rfl⟩
    refine BIf.mk (fun h4 => ?_) (fun h4 => ?_)
    · have hlt : i < W := by simp at h4; omega
      refine IdxX.mk (by omega) (by omega) ?_
      refine c1.row S.le (show i < (tabC W H w).length by omega) fun b5 o5 c5 => ?_
      rw [eR i hlt] at c5 ⊢
      rw [tab_length]
      refine IdxX.mk (by omega) (by omega) ?_
      refine c5.ith S.le (show j < (tab H (w i)).length by rw [tab_length]; exact hjl) ?_
      rw [tab_ith hjl]
      refine S.new fun b6 g S => ?_
      refine S.app 0 rfl rfl rfl (by omega) fun b7 g S => ?_
      refine WR.i64 ?_
      exact ⟨W - (i + 1), by omega, i + 1, b7, rfl, hlt, by rw [tab_succ, List.map_append]; exact S, rfl⟩
    · have hi2 : i = W := by simp at h4; omega
      subst hi2
      have S := S.rc_tr 0 rfl (by rw [tab_length]; omega)
      refine S.new fun b5 g S => ?_
      refine S.appT 0 rfl rfl (by omega) fun b6 g S => ?_
      refine WR.i64 ?_
      exact ⟨H - (j + 1), by omega, j + 1, b6, rfl, hjl, by rw [tabR_succ]; exact S, rfl⟩
  · have hj2 : j = H := by simp at h2; omega
    have Sx := S
    subst hj2
    have Sx := Sx.rw_tr 0 rfl (by omega)
    exact Sx.fin 0 rfl

theorem rowHS_c (h : AH) (v : Value) (x : SDouble) (hx : RDouble h v x) : ACalls Try.prog 53 [v] h (MadeC OII h (rowH x).1 (rowH x).2) := by
  obtain ⟨P, kx, qx⟩ := hx.at_
  refine ACalls.wk (args' := [vD x P]) ?_ (.cons kx .nil)
  refine ACalls.of Tt.tab Try.func53 rfl (by kernel_rfl) Try.ntmps53 _ rfl rfl (fun hw => ?_)
  have S := Sep.start h
  refine S.new fun b g S => ?_
  refine LoadX.same (v := vD x P) (S.at_ 0 rfl) rfl ?_
  refine CallX.same (l03Is_c _ _ x (qx.reads S.le)) ?_
  rintro r g ⟨rfl, rfl⟩
  unfold rowH
  refine BIf.mk (fun h1 => ?_) (fun h1 => ?_)
  · have h1 : dOk x = false := by simpa using h1
    rw [h1]
    exact S.nilC
  have h1 : dOk x = true := by simpa using h1
  rw [if_pos h1]
  have hd := (dOk_mk h1).toDShape
  have hW := hd.w
  have hH := hd.h
  refine LoadX.same (v := vD x P) (S.at_ 0 rfl) rfl ?_
  refine CallX.same (l03Flip_c _ _ x (qx.reads S.le) hd) ?_
  rintro r g' ⟨P', l, rfl, ho, L⟩
  have S := S.tree ODouble.fr ho L
  clear ho
  refine S.made OII.fr (l03Numbers_c _ _ (flipD x) false (colN (flipD x)) (S.rd ODouble.reads 0 rfl) (flip_shape hd) (fun _ => rfl) fun hh => by cases hh) fun b2 o2 g S => ?_
  rw [flip_W, flip_H hd.toDHead] at S ⊢
  refine S.made OII.fr (l03Turned_c _ _ (dH x) (dW x) (colN (flipD x)) (S.rd OII.reads 0 rfl) ⟨hH.1, by omega⟩ (by omega)) fun b3 o3 g S => ?_
  exact S.finC 0 rfl

end Go.Gl

/- Chapter 10: algebras, as values; eqDga. No condition. -/
import Derived.Test.YtblbcjemoadfpaaFnP1
set_option linter.unusedVariables false
set_option linter.unusedSimpArgs false
namespace Go.Gl
open Go.Proofs Go.Proofs.Ytblbcjemoadfpaa Go.Pl

/-- the cells of an algebra: prime, size, degrees, levels; differential and table -/
def cG (I B : List Int) : List Value := I.map (.int .i64) ++ B.map (.int .u8)
abbrev vG (I B : List Int) : Value := .agg (cG I B).toArray
structure GL (I B : List Int) : Prop where
  i : I.length = 18
  b : B.length = 576
theorem cG_length {I B : List Int} (g : GL I B) : (cG I B).length = 594 := by simp [cG, g.i, g.b]
theorem low_vG (I B : List Int) : Below0 0 (vG I B) := low_agg fun v hv => by
  rcases List.mem_append.1 hv with hv | hv <;> (obtain ⟨x, _, rfl⟩ := List.mem_map.1 hv; rfl)
theorem cG_ones (I B : List Int) : (cG I B).all one1 = true := by simp [cG, one1]
theorem ldG {i : TI} {I B : List Int} (g : GL I B) {a j : Nat} (ho : j < 18) (ha : a = j := by rfl) (hi : i.agg = false := by rfl) : ldv i (cG I B) a = some (.int .i64 (ith I j)) := by
  subst ha
  have h1 := g.i
  unfold ldv
  rw [hi]
  simp only [cG]
  rw [List.getElem?_append_left (by simpa [h1] using ho)]
  simp [ith, List.getElem?_eq_getElem (show a < I.length by omega)]
theorem ldGI {i : TI} {I B : List Int} (g : GL I B) {a o : Nat} (ho : o + 8 ≤ 18) (ha : a = o := by rfl) (hi : i.agg = true := by rfl) (hs : i.size = 8 := by rfl) : ldv i (cG I B) a = some (vA .i64 (sub I o 8)) := by
  subst ha
  have h1 := g.i
  have e : ((cG I B).drop a).take i.size = (sub I a 8).map (.int .i64) := by
    rw [hs, cG, List.drop_append_of_le_length (by simp; omega), List.take_append_of_le_length (by simp; omega), ← List.map_drop, ← List.map_take]
    rfl
  unfold ldv
  rw [hi, e, List.length_map, sub_length (by omega), hs]
theorem ldGB {i : TI} {I B : List Int} (g : GL I B) {a o s : Nat} (ho : o + s ≤ 576) (ha : a = 18 + o := by rfl) (hi : i.agg = true := by rfl) (hs : i.size = s := by rfl) : ldv i (cG I B) a = some (vA .u8 (sub B o s)) := by
  subst ha
  subst hs
  have h1 := g.i
  have h2 := g.b
  have e : ((cG I B).drop (18 + o)).take i.size = (sub B o i.size).map (.int .u8) := by
    rw [← List.drop_drop, cG, List.drop_left' (by simp [h1]), ← List.map_drop, ← List.map_take]
    rfl
  unfold ldv
  rw [hi, e, List.length_map, sub_length (by omega)]
  simp
theorem ldGG {i : TI} {I B : List Int} (g : GL I B) (hi : i.agg = true := by rfl) (hs : i.size = 594 := by rfl) : ldv i (cG I B) 0 = some (vG I B) := by
  have e : ((cG I B).drop 0).take i.size = cG I B := by rw [hs, List.drop_zero, List.take_of_length_le (by rw [cG_length g]; exact Nat.le_refl _)]
  unfold ldv
  rw [hi, e, cG_length g, hs]
theorem I_ext {I J : List Int} (hI : I.length = 18) (hJ : J.length = 18) (h0 : ith I 0 = ith J 0) (h1 : ith I 1 = ith J 1) (h2 : sub I 2 8 = sub J 2 8) (h3 : sub I 10 8 = sub J 10 8) : I = J := by
  refine ext_ith (by omega) fun j hj => ?_
  by_cases a0 : j = 0
  · subst a0; exact h0
  by_cases a1 : j = 1
  · subst a1; exact h1
  by_cases a2 : j < 10
  · have := congrArg (fun l => ith l (j - 2)) h2
    simp only [sub_ith (show j - 2 < 8 by omega)] at this
    rwa [show 2 + (j - 2) = j by omega] at this
  · have := congrArg (fun l => ith l (j - 10)) h3
    simp only [sub_ith (show j - 10 < 8 by omega)] at this
    rwa [show 10 + (j - 10) = j by omega] at this
theorem B_ext {I J : List Int} (hI : I.length = 576) (hJ : J.length = 576) (h2 : sub I 0 64 = sub J 0 64) (h3 : sub I 64 512 = sub J 64 512) : I = J := by
  refine ext_ith (by omega) fun j hj => ?_
  by_cases a2 : j < 64
  · have := congrArg (fun l => ith l j) h2
    simp only [sub_ith a2] at this
    rwa [Nat.zero_add] at this
  · have := congrArg (fun l => ith l (j - 64)) h3
    simp only [sub_ith (show j - 64 < 512 by omega)] at this
    rwa [show 64 + (j - 64) = j by omega] at this
section
variable {M : Nat → Prop} {n : Nat} {hb h : AH} {Rs : List Res}
theorem SepM.boxG (S : SepM M n hb h Rs) {I B : List Int} (g : GL I B) {ty : TypeId} {K : Nat → AH → Prop} (hk : ∀ b h', SepM M n hb h' (.bx b ty 594 (cG I B) :: Rs) → K b h') : onT (Nat.beq (vcells (vG I B)).length 594) (onT ((vcells (vG I B)).all one1) (NewX h ⟨vcells (vG I B), some (ty, 594)⟩ K)) :=
  onT_mk (by show Nat.beq (cG I B).length 594 = true; rw [cG_length g]; rfl) (onT_mk (cG_ones I B) (S.new hk))
end

theorem eqDga_c (h : AH) (I B J C : List Int) (gx : GL I B) (gy : GL J C) : ACalls Try.prog 11 [vG I B, vG J C] h (fun r h' => r = .bool (decide (I = J ∧ B = C)) ∧ h' = h) := by
  refine ACalls.of Tt.tab Try.func11 rfl (by kernel_rfl) Try.ntmps11 _ rfl rfl (fun hw => ?_)
  have S := Sep.start h
  refine S.boxG gx fun b1 g S => ?_
  refine S.boxG gy fun b2 g S => ?_
  have i1 := gx.i
  have i2 := gx.b
  have i3 := gy.i
  have i4 := gy.b
  refine LoadX.same (S.at_ 1 rfl) (ldG gx (j := 0) (by omega)) ?_
  refine LoadX.same (S.at_ 0 rfl) (ldG gy (j := 0) (by omega)) ?_
  refine BIf.mk (fun h1 => ?_) (fun h1 => ?_)
  · refine FinX.keep hw S.le rfl ⟨?_, rfl⟩
    have h1 : ith I 0 ≠ ith J 0 := by simpa using h1
    rw [decide_eq_false (fun e => h1 (by rw [e.1]))]
  have h1 : ith I 0 = ith J 0 := by simpa using h1
  refine LoadX.same (S.at_ 1 rfl) (ldG gx (j := 1) (by omega)) ?_
  refine LoadX.same (S.at_ 0 rfl) (ldG gy (j := 1) (by omega)) ?_
  refine BIf.mk (fun h2 => ?_) (fun h2 => ?_)
  · refine FinX.keep hw S.le rfl ⟨?_, rfl⟩
    have h2 : ith I 1 ≠ ith J 1 := by simpa using h2
    rw [decide_eq_false (fun e => h2 (by rw [e.1]))]
  have h2 : ith I 1 = ith J 1 := by simpa using h2
  refine LoadX.same (S.at_ 1 rfl) (ldGI gx (o := 2) (by omega)) ?_
  refine LoadX.same (S.at_ 0 rfl) (ldGI gy (o := 2) (by omega)) ?_
  refine CallX.same (eqInt64A8_c _ _ _ (sub_length (by omega)) (sub_length (by omega))) ?_
  rintro r g ⟨rfl, rfl⟩
  refine BIf.mk (fun h3 => ?_) (fun h3 => ?_)
  · refine FinX.keep hw S.le rfl ⟨?_, rfl⟩
    have h3 : sub I 2 8 ≠ sub J 2 8 := by simpa using h3
    rw [decide_eq_false (fun e => h3 (by rw [e.1]))]
  have h3 : sub I 2 8 = sub J 2 8 := by simpa using h3
  refine LoadX.same (S.at_ 1 rfl) (ldGI gx (o := 10) (by omega)) ?_
  refine LoadX.same (S.at_ 0 rfl) (ldGI gy (o := 10) (by omega)) ?_
  refine CallX.same (eqInt64A8_c _ _ _ (sub_length (by omega)) (sub_length (by omega))) ?_
  rintro r g ⟨rfl, rfl⟩
  refine BIf.mk (fun h4 => ?_) (fun h4 => ?_)
  · refine FinX.keep hw S.le rfl ⟨?_, rfl⟩
    have h4 : sub I 10 8 ≠ sub J 10 8 := by simpa using h4
    rw [decide_eq_false (fun e => h4 (by rw [e.1]))]
  have h4 : sub I 10 8 = sub J 10 8 := by simpa using h4
  refine LoadX.same (S.at_ 1 rfl) (ldGB gx (o := 0) (s := 64) (by omega)) ?_
  refine LoadX.same (S.at_ 0 rfl) (ldGB gy (o := 0) (s := 64) (by omega)) ?_
  refine CallX.same (eqElementA8_c _ _ _ (sub_length (by omega)) (sub_length (by omega))) ?_
  rintro r g ⟨rfl, rfl⟩
  refine BIf.mk (fun h5 => ?_) (fun h5 => ?_)
  · refine FinX.keep hw S.le rfl ⟨?_, rfl⟩
    have h5 : sub B 0 64 ≠ sub C 0 64 := by simpa using h5
    rw [decide_eq_false (fun e => h5 (by rw [e.2]))]
  have h5 : sub B 0 64 = sub C 0 64 := by simpa using h5
  refine LoadX.same (S.at_ 1 rfl) (ldGB gx (o := 64) (s := 512) (by omega)) ?_
  refine LoadX.same (S.at_ 0 rfl) (ldGB gy (o := 64) (s := 512) (by omega)) ?_
  refine CallX.same (eqElementA8A8_c _ _ _ (sub_length (by omega)) (sub_length (by omega))) ?_
  rintro r g ⟨rfl, rfl⟩
  refine BIf.mk (fun h6 => ?_) (fun h6 => ?_)
  · refine FinX.keep hw S.le rfl ⟨?_, rfl⟩
    have h6 : sub B 64 512 ≠ sub C 64 512 := by simpa using h6
    rw [decide_eq_false (fun e => h6 (by rw [e.2]))]
  have h6 : sub B 64 512 = sub C 64 512 := by simpa using h6
  refine FinX.keep hw S.le rfl ⟨?_, rfl⟩
  rw [decide_eq_true ⟨I_ext i1 i3 h1 h2 h3 h4, B_ext i2 i4 h5 h6⟩]

end Go.Gl

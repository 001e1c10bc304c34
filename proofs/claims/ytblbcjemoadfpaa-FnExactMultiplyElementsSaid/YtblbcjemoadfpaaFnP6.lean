/- Chapter 10: stores into an algebra. No condition. -/
import Derived.Test.YtblbcjemoadfpaaFnP5
set_option linter.unusedVariables false
set_option linter.unusedSimpArgs false
namespace Go.Gl
open Go.Proofs Go.Proofs.Ytblbcjemoadfpaa Go.Pl

def patch (xs : List Int) (o : Nat) (ys : List Int) : List Int := xs.take o ++ ys ++ xs.drop (o + ys.length)
theorem patch_length {xs ys : List Int} {o : Nat} (h : o + ys.length ≤ xs.length) : (patch xs o ys).length = xs.length := by simp [patch]; omega
theorem GL.pI {I B ys : List Int} (g : GL I B) {o : Nat} (h : o + ys.length ≤ 18) : GL (patch I o ys) B := ⟨by rw [patch_length (by rw [g.i]; exact h), g.i], g.b⟩
theorem GL.pB {I B ys : List Int} (g : GL I B) {o : Nat} (h : o + ys.length ≤ 576) : GL I (patch B o ys) := ⟨g.i, by rw [patch_length (by rw [g.b]; exact h), g.b]⟩
theorem cG_setI {I B ys : List Int} (g : GL I B) {o : Nat} (h : o + ys.length ≤ 18) : setCells (cG I B) o (ys.map (.int .i64)) = cG (patch I o ys) B := by
  have h1 := g.i
  unfold setCells cG patch
  rw [List.take_append_of_le_length (by simp; omega), List.drop_append_of_le_length (by simp; omega)]
  simp [List.map_append, List.map_take, List.map_drop, List.append_assoc]
theorem cG_setB {I B ys : List Int} (g : GL I B) {o : Nat} (h : o + ys.length ≤ 576) : setCells (cG I B) (18 + o) (ys.map (.int .u8)) = cG I (patch B o ys) := by
  have e : (18 : Nat) = (I.map (Value.int .i64)).length := by simp [g.i]
  unfold setCells cG patch
  rw [e, Nat.add_assoc, List.take_length_add_append, List.drop_length_add_append]
  simp [List.map_append, List.map_take, List.map_drop, List.append_assoc]
section
variable {M : Nat → Prop} {n : Nat} {hb h : AH} {Rs : List Res}
/-- one number of the first part -/
theorem SepM.storeG (S : SepM M n hb h Rs) (j : Nat) {b a o : Nat} {ty : TypeId} {I B : List Int} {y : Int} {K : AH → Prop} (hj : gt Rs j = some (.bx b ty 594 (cG I B))) (g : GL I B) (ho : o < 18)
    (hk : ∀ h', SepM M n hb h' (st Rs j (.bx b ty 594 (cG (patch I o [y]) B))) → K h') (ha : a = o := by rfl) : StoreX h b a [.int .i64 y] K := by
  subst ha
  refine S.store j hj (by rw [cG_length g]; simp; omega) fun h' S' => hk h' ?_
  have := cG_setI g (o := a) (ys := [y]) (by simp; omega)
  rw [show [Value.int .i64 y] = [y].map (.int .i64) from rfl, this] at S'
  exact S'
theorem SepM.putGI (S : SepM M n hb h Rs) (j : Nat) {b a o s : Nat} {ty : TypeId} {I B ys : List Int} {K : AH → Prop} (hj : gt Rs j = some (.bx b ty 594 (cG I B))) (g : GL I B) (hl : ys.length = s) (ho : o + s ≤ 18)
    (hk : ∀ h', SepM M n hb h' (st Rs j (.bx b ty 594 (cG (patch I o ys) B))) → K h') (ha : a = o := by rfl) : onT (Nat.beq (vcells (vA .i64 ys)).length s) (onT ((vcells (vA .i64 ys)).all one1) (StoreX h b a (vcells (vA .i64 ys)) K)) := by
  subst ha
  refine onT_mk (by show Nat.beq (ys.map (Value.int .i64)).length s = true; rw [List.length_map, hl]; exact Nat.beq_refl s) (onT_mk (onesK _ ys) ?_)
  refine S.store j hj (by rw [cG_length g]; show a + (ys.map (Value.int .i64)).length ≤ _; simp; omega) fun h' S' => hk h' ?_
  rw [show vcells (vA .i64 ys) = ys.map (.int .i64) from rfl, cG_setI g (by omega)] at S'
  exact S'
theorem SepM.putGB (S : SepM M n hb h Rs) (j : Nat) {b a o s : Nat} {ty : TypeId} {I B ys : List Int} {K : AH → Prop} (hj : gt Rs j = some (.bx b ty 594 (cG I B))) (g : GL I B) (hl : ys.length = s) (ho : o + s ≤ 576)
    (hk : ∀ h', SepM M n hb h' (st Rs j (.bx b ty 594 (cG I (patch B o ys)))) → K h') (ha : a = 18 + o := by rfl) : onT (Nat.beq (vcells (vA .u8 ys)).length s) (onT ((vcells (vA .u8 ys)).all one1) (StoreX h b a (vcells (vA .u8 ys)) K)) := by
  subst ha
  refine onT_mk (by show Nat.beq (ys.map (Value.int .u8)).length s = true; rw [List.length_map, hl]; exact Nat.beq_refl s) (onT_mk (onesK _ ys) ?_)
  refine S.store j hj (by rw [cG_length g]; show 18 + o + (ys.map (Value.int .u8)).length ≤ _; simp; omega) fun h' S' => hk h' ?_
  rw [show vcells (vA .u8 ys) = ys.map (.int .u8) from rfl, cG_setB g (by omega)] at S'
  exact S'
/-- a whole algebra is stored -/
theorem SepM.putGG (S : SepM M n hb h Rs) (j : Nat) {b : Nat} {ty : TypeId} {cells : List Value} {I B : List Int} {K : AH → Prop} (hj : gt Rs j = some (.bx b ty 594 cells)) (g : GL I B) (hc : cells.length = 594)
    (hk : ∀ h', SepM M n hb h' (st Rs j (.bx b ty 594 (cG I B))) → K h') : onT (Nat.beq (vcells (vG I B)).length 594) (onT ((vcells (vG I B)).all one1) (StoreX h b 0 (vcells (vG I B)) K)) := by
  refine onT_mk (by show Nat.beq (cG I B).length 594 = true; rw [cG_length g]; rfl) (onT_mk (cG_ones I B) ?_)
  refine S.store j hj (by show 0 + (cG I B).length ≤ _; rw [cG_length g, hc]; omega) fun h' S' => hk h' ?_
  have e : setCells cells 0 (cG I B) = cG I B := by
    unfold setCells
    rw [List.take_zero, List.nil_append, List.drop_eq_nil_of_le (by rw [cG_length g, hc]; omega), List.append_nil]
  rw [show vcells (vG I B) = cG I B from rfl, e] at S'
  exact S'
end
end Go.Gl

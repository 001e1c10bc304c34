/- Chapter 10: basis elements. No condition. -/
import Derived.Test.YtblbcjemoadfpaaFnP2
set_option linter.unusedVariables false
set_option linter.unusedSimpArgs false
namespace Go.Gl
open Go.Proofs Go.Proofs.Ytblbcjemoadfpaa Go.Pl

def z8 : List Int := List.replicate 8 0
def unitE (i : Nat) : List Int := z8.set i 1
theorem unitE_length (i : Nat) : (unitE i).length = 8 := by simp [unitE, z8]
theorem setCellsK {k : IntKind} {xs : List Int} {o : Nat} (ho : o < xs.length) (y : Int) : setCells (xs.map (Value.int k)) o [.int k y] = (xs.set o y).map (.int k) := by
  apply List.ext_getElem?
  intro i
  rw [setCells_get _ _ _ (by simp; omega)]
  simp only [List.length_singleton, List.getElem?_map, List.getElem?_set]
  by_cases h1 : o ≤ i ∧ i < o + 1
  · have : i = o := by omega
    subst this
    simp [ho]
  · rw [if_neg h1, if_neg (by omega)]
section
variable {M : Nat → Prop} {n : Nat} {hb h : AH} {Rs : List Res}
theorem SepM.storeK (S : SepM M n hb h Rs) (j : Nat) {b a o : Nat} {ty : TypeId} {s : Nat} {k : IntKind} {xs : List Int} {y : Int} {K : AH → Prop} (hj : gt Rs j = some (.bx b ty s (xs.map (.int k)))) (ho : o < xs.length)
    (hk : ∀ h', SepM M n hb h' (st Rs j (.bx b ty s ((xs.set o y).map (.int k)))) → K h') (ha : a = 0 + o := by rfl) : StoreX h b a [.int k y] K := by
  subst ha
  refine S.store j hj (by simp; omega) fun h' S' => hk h' ?_
  rw [Nat.zero_add, setCellsK ho] at S'
  exact S'
/-- a whole row is stored over another -/
theorem SepM.putA (S : SepM M n hb h Rs) (j : Nat) {b : Nat} {ty : TypeId} {s : Nat} {k : IntKind} {cells : List Value} {ys : List Int} {K : AH → Prop} (hj : gt Rs j = some (.bx b ty s cells)) (hl : ys.length = s) (hc : cells.length = s)
    (hk : ∀ h', SepM M n hb h' (st Rs j (.bx b ty s (ys.map (.int k)))) → K h') : onT (Nat.beq (vcells (vA k ys)).length s) (onT ((vcells (vA k ys)).all one1) (StoreX h b 0 (vcells (vA k ys)) K)) := by
  refine onT_mk (by show Nat.beq (ys.map (Value.int k)).length s = true; rw [List.length_map, hl]; exact Nat.beq_refl s) (onT_mk (onesK k ys) ?_)
  refine S.store j hj (by show 0 + (ys.map (Value.int k)).length ≤ _; simp; omega) fun h' S' => hk h' ?_
  have e : setCells cells 0 (ys.map (Value.int k)) = ys.map (.int k) := by
    unfold setCells
    rw [List.take_zero, List.nil_append, List.drop_eq_nil_of_le (by simp; omega), List.append_nil]
  rw [show vcells (vA k ys) = ys.map (.int k) from rfl, e] at S'
  exact S'
end
theorem ldAll {i : TI} {k : IntKind} {xs : List Int} {s : Nat} (hl : xs.length = s) (hi : i.agg = true := by rfl) (hs : i.size = s := by rfl) : ldv i (xs.map (Value.int k)) 0 = some (vA k xs) := by
  have := ldvA (i := i) (k := k) (xs := xs) (o := 0) (s := s) (by omega) hi hs
  rwa [sub_all hl] at this

theorem unit_c (h : AH) (i : Nat) (hi : i < 8) : ACalls Try.prog 80 [.int .i64 i] h (fun r h' => r = vA .u8 (unitE i) ∧ h' = h) := by
  refine ACalls.of Tt.tab Try.func80 rfl (by kernel_rfl) Try.ntmps80 _ rfl rfl (fun hw => ?_)
  have S := Sep.start h
  refine S.new fun b1 g S => ?_
  refine S.new fun b2 g S => ?_
  refine S.put 0 rfl fun g S => ?_
  have S := S.recast 0 (cells' := z8.map (.int .u8)) rfl rfl
  refine IdxX.mk (by omega) (by omega) ?_
  refine S.storeK 0 (o := i) rfl (by simp [z8]; omega) fun g S => ?_
  refine LoadX.same (S.at_ 0 rfl) (ldAll (unitE_length i)) ?_
  refine S.putA 1 rfl (unitE_length i) rfl fun g S => ?_
  refine LoadX.same (S.at_ 1 rfl) (ldAll (unitE_length i)) ?_
  exact FinX.low hw S.le (low_vA _ _) ⟨rfl, rfl⟩

theorem basis_c (h : AH) (I B : List Int) (gx : GL I B) (i : Nat) (hi : i < 8) : ACalls Try.prog 42 [vG I B, .int .i64 i] h (fun r h' => r = vA .u8 (unitE i) ∧ h' = h) := by
  refine ACalls.of Tt.tab Try.func42 rfl (by kernel_rfl) Try.ntmps42 _ rfl rfl (fun hw => ?_)
  have S := Sep.start h
  refine S.boxG gx fun b0 g S => ?_
  refine S.new fun b1 g S => ?_
  refine S.new fun b2 g S => ?_
  refine S.put 0 rfl fun g S => ?_
  have S := S.recast 0 (cells' := z8.map (.int .u8)) rfl rfl
  refine IdxX.mk (by omega) (by omega) ?_
  refine S.storeK 0 (o := i) rfl (by simp [z8]; omega) fun g S => ?_
  refine LoadX.same (S.at_ 0 rfl) (ldAll (unitE_length i)) ?_
  refine S.putA 1 rfl (unitE_length i) rfl fun g S => ?_
  refine LoadX.same (S.at_ 1 rfl) (ldAll (unitE_length i)) ?_
  exact FinX.low hw S.le (low_vA _ _) ⟨rfl, rfl⟩

end Go.Gl

/- Two arrays of whole numbers are compared. No condition. -/
import Derived.Test.YtionapmdibdfpaaGlB
import Derived.ChangeKeysEq
set_option linter.unusedVariables false
namespace Go.Gl

theorem eqItems_ints {P : Program} {e : TypeId} {k k' : IntKind} (he : P.underlying e = some (.int k')) (d : Nat) {xs ys : List Int} {n : Nat} (hx : xs.length = n) (hy : ys.length = n) (w : World) :
    ∀ is : List Nat, (∀ i ∈ is, i < n) → (Op.eqItems (d + 1) e 1 (xs.map (Value.int k)).toArray (ys.map (Value.int k)).toArray is).run P w = .ok (decide (∀ i ∈ is, xs[i]? = ys[i]?)) w
  | [], _ => by simp [Op.eqItems]
  | i :: is, h => by
    have hi := h i (List.mem_cons_self ..)
    have ih := eqItems_ints he d (k := k) hx hy w is (fun j hj => h j (List.mem_cons_of_mem _ hj))
    have hpk : P.plainKey e = true := by simp [Program.plainKey, he]
    have p1 : (part e (xs.map (Value.int k)).toArray (i * 1)).run P w = .ok (.int k xs[i]) w := run_part_plain w hpk (by simp)
    have p2 : (part e (ys.map (Value.int k)).toArray (i * 1)).run P w = .ok (.int k ys[i]) w := run_part_plain w hpk (by simp)
    have p3 := run_equalIn_int w d e k k' xs[i] ys[i] he
    simp only [Op.eqItems, Sem.run_bind, p1, p2, p3, Result.andThen_ok]
    by_cases e1 : xs[i] = ys[i]
    · have e2 : xs[i]? = ys[i]? := by rw [List.getElem?_eq_getElem (by omega), List.getElem?_eq_getElem (by omega), e1]
      simp [e1, ih, e2]
    · have e2 : ¬ xs[i]? = ys[i]? := by rw [List.getElem?_eq_getElem (by omega), List.getElem?_eq_getElem (by omega)]; simpa using e1
      simp [e1, e2]
theorem equal_arr {P : Program} {ty e : TypeId} {n : Nat} {k k' : IntKind} (hu : P.underlying ty = some (.array n e)) (he : P.underlying e = some (.int k')) (hc : P.cellsOf e = 1) {xs ys : List Int} (hx : xs.length = n) (hy : ys.length = n) (w : World) :
    (Op.equal ty (.agg (xs.map (Value.int k)).toArray) (.agg (ys.map (Value.int k)).toArray)).run P w = .ok (decide (xs = ys)) w := by
  obtain ⟨i, hi⟩ := info_of_underlying he
  show (Op.equalIn (9999 + 1) ty _ _).run P w = _
  rw [run_equalIn_array w 9999 _ _ hu hi, hc, show (9999 : Nat) = 9998 + 1 from rfl, eqItems_ints he 9998 hx hy w _ (fun i hi => List.mem_range.1 hi)]
  congr 1
  refine decide_eq_decide.2 ⟨fun h => List.ext_getElem? fun i => ?_, fun h i _ => by rw [h]⟩
  by_cases hi : i < n
  · exact h i (List.mem_range.2 hi)
  · rw [List.getElem?_eq_none (by omega), List.getElem?_eq_none (by omega)]
theorem eqGuard_arr {P : Program} {op : BinOp} {ty e : TypeId} {n : Nat} {k : IntKind} (hu : P.underlying ty = some (.array n e)) (he : P.underlying e = some (.int k)) {x y : Operand} {a b : Array Value} (w : World) :
    (eqGuard op ty x y (.agg a) (.agg b)).run P w = .ok () w := by
  have h : P.eqGuardType P.depth ty = false := by
    unfold Program.depth
    rw [show 2 * (P.types.size + Made.depth) + 2 = (2 * (P.types.size + Made.depth) + 1) + 1 from rfl]
    simp [Program.eqGuardType, hu, he]
  cases op <;> simp [eqGuard, h]
theorem VR.ints {ι : Nat → Io} {n : Nat} {k : IntKind} {a : Array Value} {xs : List Int} {u : Value} (h : VR ι n (.agg a) u) (ha : a.toList = xs.map (Value.int k)) : u = .agg (xs.map (Value.int k)).toArray := by
  have ha : a = (xs.map (Value.int k)).toArray := by rw [← ha]
  subst ha
  cases h with
  | agg _ ys h1 h2 =>
    congr 1
    refine Array.ext h1.symm fun i h3 h4 => ?_
    have hi : i < xs.length := by simpa using h4
    have := h2 i (by simpa using hi)
    rw [show (xs.map (Value.int k)).toArray.getD i (.tuple #[]) = .int k xs[i] by simp [Array.getD_eq_getD_getElem?, hi]] at this
    rw [show ys.getD i (.tuple #[]) = ys[i] by simp [Array.getD_eq_getD_getElem?, h3]] at this
    rw [this.int_inv]
    simp
/-- both sides are rows of whole numbers -/
structure EqA (n : Nat) (k : IntKind) (a b : List Value) (K : Bool → Prop) : Prop where
  ex : ∃ xs ys : List Int, xs.length = n ∧ ys.length = n ∧ a = xs.map (.int k) ∧ b = ys.map (.int k) ∧ K (decide (xs = ys))
def eqA (ar : Option (Nat × IntKind)) (a b : List Value) (K : Bool → Prop) : Prop := match ar with
  | some (n, k) => EqA n k a b K
  | none => False
theorem eqA_det {ar : Option (Nat × IntKind)} {a b : List Value} {f : Bool → Value} {K : Value → Prop} (h : eqA ar a b fun r => K (f r)) : ∃ v, K v ∧ eqA ar a b fun r => f r = v := by
  unfold eqA at *
  split at h
  · obtain ⟨xs, ys, h1, h2, h3, h4, h5⟩ := h.ex
    exact ⟨_, h5, ⟨xs, ys, h1, h2, h3, h4, rfl⟩⟩
  · exact h.elim
theorem eqA_ok {P : Program} {ty : TypeId} {ar : Option (Nat × IntKind)} (hA : ∀ n k, ar = some (n, k) → ∃ e, P.underlying ty = some (.array n e) ∧ P.underlying e = some (.int k) ∧ P.cellsOf e = 1) {ι : Nat → Io} {m : Nat} {a b : Array Value} {u v : Value} {K : Bool → Prop} (h : eqA ar a.toList b.toList K) (hu : VR ι m (.agg a) u) (hv : VR ι m (.agg b) v) :
    ∃ r, K r ∧ (∀ w, (Op.equal ty u v).run P w = .ok r w) ∧ (∀ op x y w, (eqGuard op ty x y u v).run P w = .ok () w) ∧ ∃ a b, u = .agg a ∧ v = .agg b := by
  unfold eqA at h
  split at h
  · rename_i n k
    obtain ⟨xs, ys, h1, h2, h3, h4, h5⟩ := h.ex
    obtain ⟨e, a1, a2, a3⟩ := hA n k rfl
    rw [hu.ints h3, hv.ints h4]
    exact ⟨_, h5, fun w => equal_arr a1 a2 a3 h1 h2 w, fun op x y w => eqGuard_arr a1 a2 w, _, _, rfl, rfl⟩
  · exact h.elim
end Go.Gl

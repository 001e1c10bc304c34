/- The plain view of memory: words for proofs. No condition. -/
import Derived.Test.YtionapmdibdfpaaTab
import Derived.Test.YtionapmdibdfpaaGlI
set_option linter.unusedVariables false
set_option linter.unusedSimpArgs false
namespace Go.Gl

theorem NewX.intro {h : AH} {blk : Blk} {K : Nat → AH → Prop} (hk : ∀ b h', Le h h' → look h' b = some blk → h.length ≤ b → K b h') : NewX h blk K :=
  ⟨fun b h' e1 e2 => by
    subst e1 e2
    exact hk _ _ (Le.push h _) (by have := look_app_ge h [some blk] 0; simpa [look] using this) (Nat.le_refl _)⟩

theorem LoadX.one {h : AH} {i : TI} {b o : Nat} {K : Value → Prop} {blk : Blk} {v v' : Value} (hl : look h b = some blk) (hv : ldv i blk.cells o = some v) (hw : Wk v v') (hk : K v') : LoadX h i b o K := ⟨⟨blk, v, v', hl, hv, hw, hk⟩⟩
theorem LoadX.same {h : AH} {i : TI} {b o : Nat} {K : Value → Prop} {blk : Blk} {v : Value} (hl : look h b = some blk) (hv : ldv i blk.cells o = some v) (hk : K v) : LoadX h i b o K := ⟨⟨blk, v, v, hl, hv, Wk.refl v, hk⟩⟩

theorem CallX.same {P : Program} {f : FuncId} {args : List Value} {h : AH} {K Q : Value → AH → Prop} (hc : ACalls P f args h Q) (hk : ∀ r h', Q r h' → K r h') : CallX P f args h K := ⟨⟨args, WkL.refl _, hc.mono hk⟩⟩
theorem CallX.weak {P : Program} {f : FuncId} {args args' : List Value} {h : AH} {K Q : Value → AH → Prop} (hc : ACalls P f args' h Q) (hw : WkL args args') (hk : ∀ r h', Q r h' → K r h') : CallX P f args h K := ⟨⟨args', hw, hc.mono hk⟩⟩

theorem CallX.canon {P : Program} {f : FuncId} {args : List Value} {h : AH} {K Q : Value → AH → Prop} (hc : ACalls P f args h Q) (hk : ∀ r h', Q r h' → ∃ r', Wk r r' ∧ K r' h') : CallX P f args h K := ⟨⟨args, WkL.refl _, hc.can hk⟩⟩
theorem StoreX.intro {h : AH} {b o : Nat} {vs : List Value} {K : AH → Prop} {blk : Blk} (hlk : look h b = some blk) (ho : blk.own.isSome = true) (hlen : o + vs.length ≤ blk.cells.length)
    (hk : ∀ h', h'.length = h.length → look h' b = some ⟨setCells blk.cells o vs, blk.own⟩ → (∀ i, i ≠ b → look h' i = look h i) → (∀ h0, Le h0 h → h0.length ≤ b → Le h0 h') → K h') : StoreX h b o vs K :=
  ⟨⟨blk, hlk, ho, hlen, fun h' e => by
    subst e
    exact hk _ (by simp) (by rw [look_set (look_lt hlk), if_pos rfl]) (fun i hi => by rw [look_set (look_lt hlk), if_neg hi]) fun h0 hl hb => hl.store hb⟩⟩
theorem FinX.keep {h0 hf : AH} {Q : Value → AH → Prop} {r : Value} (hw : WfH h0) (hle : Le h0 hf) (hr : plainV r = true) (hq : Q r h0) : FinX h0 Q r hf := FinX.plain hw hle.at_ hle.len hr hq

/-! ### what values read as -/

def CS {α : Type} (E : AH → Value → α → Prop) (h : AH) (b o : Nat) (xs : List α) : Prop :=
  ∀ (k : Nat) x, xs[k]? = some x → ∃ blk u, look h b = some blk ∧ blk.cells[o + k]? = some u ∧ E h u x
def RS {α : Type} (E : AH → Value → α → Prop) (h : AH) (v : Value) (xs : List α) : Prop :=
  xs.length ≤ 9223372036854775807 ∧ ∃ b o, Wk v (.slice (some ⟨b, o, none⟩) xs.length 0) ∧ CS E h b o xs
def EI (_ : AH) (v : Value) (x : Int) : Prop := v = .int .i64 x
abbrev RI := RS EI
abbrev RII := RS RI
abbrev RIII := RS RII
abbrev RIIII := RS RIII

theorem CS.le {α : Type} {E : AH → Value → α → Prop} (hE : ∀ h h' v x, Le h h' → E h v x → E h' v x) {h h' : AH} (hl : Le h h') {b o : Nat} {xs : List α} (hc : CS E h b o xs) : CS E h' b o xs := by
  intro k x hk
  obtain ⟨blk, u, h1, h2, h3⟩ := hc k x hk
  exact ⟨blk, u, hl.at_ _ _ h1, h2, hE _ _ _ _ hl h3⟩
theorem RS.le {α : Type} {E : AH → Value → α → Prop} (hE : ∀ h h' v x, Le h h' → E h v x → E h' v x) : ∀ h h' v xs, Le h h' → RS E h v xs → RS E h' v xs := by
  rintro h h' v xs hl ⟨hm, b, o, hw, hc⟩
  exact ⟨hm, b, o, hw, hc.le hE hl⟩
theorem EI.le : ∀ h h' v x, Le h h' → EI h v x → EI h' v x := fun _ _ _ _ _ h => h
theorem RI.le : ∀ h h' v xs, Le h h' → RI h v xs → RI h' v xs := RS.le EI.le
theorem RII.le : ∀ h h' v xs, Le h h' → RII h v xs → RII h' v xs := RS.le RI.le
theorem RIII.le : ∀ h h' v xs, Le h h' → RIII h v xs → RIII h' v xs := RS.le RII.le
theorem RIIII.le : ∀ h h' v xs, Le h h' → RIIII h v xs → RIIII h' v xs := RS.le RIII.le

theorem RS.can {α : Type} {E : AH → Value → α → Prop} {h : AH} {v : Value} {xs : List α} (hr : RS E h v xs) : ∃ b o, Wk v (.slice (some ⟨b, o, none⟩) xs.length 0) ∧ RS E h (.slice (some ⟨b, o, none⟩) xs.length 0) xs := by
  obtain ⟨hm, b, o, hw, hc⟩ := hr
  exact ⟨b, o, hw, hm, b, o, Wk.refl _, hc⟩
/-- the load of an element at place k -/
theorem CS.load {α : Type} {E : AH → Value → α → Prop} {h : AH} {b o : Nat} {xs : List α} (hc : CS E h b o xs) {i : TI} (hi : i.agg = false) {k : Nat} (hk : k < xs.length) {K : Value → Prop}
    (hK : ∀ u, E h u xs[k] → ∃ v', Wk u v' ∧ K v') : LoadX h i b (o + k) K := by
  obtain ⟨blk, u, h1, h2, h3⟩ := hc k _ (List.getElem?_eq_getElem hk)
  obtain ⟨v', h4, h5⟩ := hK u h3
  exact ⟨⟨blk, u, v', h1, by unfold ldv; rw [hi]; exact h2, h4, h5⟩⟩
theorem CS.loadY {α : Type} {E : AH → Value → α → Prop} {h : AH} {b o : Nat} {xs : List (List α)} (hc : CS (RS E) h b o xs) {i : TI} (hi : i.agg = false) {k : Nat} (hk : k < xs.length) {y : List α} (hy : xs[k] = y) {K : Value → Prop}
    (hK : ∀ b' o', RS E h (.slice (some ⟨b', o', none⟩) y.length 0) y → K (.slice (some ⟨b', o', none⟩) y.length 0)) : LoadX h i b (o + k) K :=
  hc.load hi hk fun u ⟨hm, b', o', hw, hcs⟩ => by
    rw [hy] at hm hw hcs
    exact ⟨_, hw, hK b' o' ⟨hm, b', o', Wk.refl _, hcs⟩⟩
theorem CS.loadI {h : AH} {b o : Nat} {xs : List Int} (hc : CS EI h b o xs) {i : TI} (hi : i.agg = false) {k : Nat} (hk : k < xs.length) {K : Value → Prop}
    (hK : K (.int .i64 xs[k])) : LoadX h i b (o + k) K := hc.load hi hk fun u hu => ⟨_, by rw [show u = _ from hu]; exact Wk.refl _, hK⟩
theorem CS.loadS {α : Type} {E : AH → Value → α → Prop} {h : AH} {b o : Nat} {xs : List (List α)} (hc : CS (RS E) h b o xs) {i : TI} (hi : i.agg = false) {k : Nat} (hk : k < xs.length) {K : Value → Prop}
    (hK : ∀ b' o', xs[k].length ≤ 9223372036854775807 → CS E h b' o' xs[k] → K (.slice (some ⟨b', o', none⟩) xs[k].length 0)) : LoadX h i b (o + k) K :=
  hc.load hi hk fun u ⟨hm, b', o', hw, hcs⟩ => ⟨_, hw, hK b' o' hm hcs⟩

/-- a row that is filled from the front -/
theorem setCells_fill {α : Type} (f : α → Value) (z : Value) (xs : List α) (k : Nat) (hk : k < xs.length) :
    setCells ((xs.take k).map f ++ List.replicate (xs.length - k) z) k [f xs[k]] = (xs.take (k + 1)).map f ++ List.replicate (xs.length - (k + 1)) z := by
  apply List.ext_getElem?
  intro j
  rw [setCells_get _ _ _ (by simp; omega)]
  have hlk : ((xs.take k).map f).length = k := by simp; omega
  have hlk1 : ((xs.take (k + 1)).map f).length = k + 1 := by simp; omega
  by_cases h1 : j < k
  · rw [if_neg (by omega), List.getElem?_append_left (by omega), List.getElem?_append_left (by omega)]
    simp only [List.getElem?_map, List.getElem?_take]
    rw [if_pos h1, if_pos (by omega)]
  · by_cases h2 : j = k
    · subst h2
      rw [if_pos (by simp), List.getElem?_append_left (by omega)]
      simp [hk]
    · rw [if_neg (by simp; omega), List.getElem?_append_right (by omega), List.getElem?_append_right (by omega), hlk, hlk1]
      simp only [List.getElem?_replicate]
      by_cases h3 : j < xs.length
      · rw [if_pos (by omega), if_pos (by omega)]
      · rw [if_neg (by omega), if_neg (by omega)]
end Go.Gl

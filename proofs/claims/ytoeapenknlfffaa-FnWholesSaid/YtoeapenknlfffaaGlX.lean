/- Rows of structures whose fields are slices: read from a row of our own. No condition. -/
import Derived.Test.YtoeapenknlfffaaGlW
import Derived.Test.YtoeapenknlfffaaGlN
set_option linter.unusedVariables false
namespace Go.Gl
open Go.Proofs Go.Proofs.Ytoeapenknlfffaa Go.Pl

/-- the cells, s for each, tell xs -/
structure TellN {α : Type} (s : Nat) (E : AH → List Value → α → Prop) (h : AH) (cells : List Value) (xs : List α) : Prop where
  len : cells.length = xs.length * s
  el : ∀ (k : Nat) x, xs[k]? = some x → ∃ us, us.length = s ∧ (cells.drop (k * s)).take s = us ∧ E h us x
section
variable {α : Type} {s : Nat} {E : AH → List Value → α → Prop}
theorem TellN.nil (h : AH) : TellN s E h [] [] := ⟨by simp, fun k x e => by simp at e⟩
theorem TellN.le (hE : ∀ h h' v x, Le h h' → E h v x → E h' v x) {h h' : AH} {cells : List Value} {xs : List α} (ht : TellN s E h cells xs) (hl : Le h h') : TellN s E h' cells xs :=
  ⟨ht.len, fun k x hk => by obtain ⟨us, h1, h2, h3⟩ := ht.el k x hk; exact ⟨us, h1, h2, hE _ _ _ _ hl h3⟩⟩
theorem TellN.snoc {h : AH} {cells us : List Value} {xs : List α} {y : α} (ht : TellN s E h cells xs) (hu : us.length = s) (hy : E h us y) : TellN s E h (cells ++ us) (xs ++ [y]) := by
  have hl := ht.len
  refine ⟨by rw [List.length_append, List.length_append, hl, hu, List.length_singleton, Nat.succ_mul], fun k x hk => ?_⟩
  by_cases hx : k < xs.length
  · rw [List.getElem?_append_left hx] at hk
    obtain ⟨ws, h1, h2, h3⟩ := ht.el k x hk
    refine ⟨ws, h1, ?_, h3⟩
    have e1 : (k + 1) * s ≤ xs.length * s := Nat.mul_le_mul_right s (show k + 1 ≤ xs.length by omega)
    rw [Nat.succ_mul] at e1
    rw [List.drop_append_of_le_length (by omega), List.take_append_of_le_length (by rw [List.length_drop]; omega)]
    exact h2
  · rw [List.getElem?_append_right (by omega)] at hk
    have hk1 : k = xs.length := by
      have := (List.getElem?_eq_some_iff.1 hk).1
      simp at this; omega
    subst hk1
    simp at hk
    subst hk
    refine ⟨us, hu, ?_, hy⟩
    rw [← hl, List.drop_left', List.take_of_length_le (by omega)]
    rfl
variable {M : Nat → Prop} {n : Nat} {hb h : AH} {Rs : List Res}
theorem SepM.rdN (S : SepM M n hb h Rs) (j : Nat) {e : TypeId} {m : Nat} {v : Value} {k : Nat} {cells : List Value} {xs : List α} (hj : gt Rs j = some (.rc e s m v k cells)) (ht : TellN s E h cells xs) (hm : k ≤ 9223372036854775807) (hs : 0 < s := by decide) : RN s E h v xs := by
  obtain ⟨F, ⟨b, h1, h0⟩, _⟩ := S.step hj
  rcases h1 with ⟨rfl, h3, h5⟩ | ⟨rfl, rfl, rfl⟩
  · obtain ⟨_, h3⟩ := only_some.1 h3
    have hxs : xs.length = k := by
      have h6 : cells.length = k * s := h5
      rw [ht.len] at h6
      exact Nat.eq_of_mul_eq_mul_right hs h6
    refine ⟨by omega, b, 0, by rw [hxs]; exact Wk.weak _ _ _ _, fun i x hi => ?_⟩
    obtain ⟨us, a1, a2, a3⟩ := ht.el i x hi
    exact ⟨_, us, h3, a1, by rw [Nat.zero_add, mulE_eq]; exact a2, a3⟩
  · have : xs = [] := List.length_eq_zero_iff.1 (by
      have h6 : 0 = xs.length * s := by simpa using ht.len
      rcases Nat.eq_zero_or_pos xs.length with z | z
      · exact z
      · have := Nat.mul_pos z hs
        omega)
    subst this
    exact ⟨by simp, 0, 0, Wk.nil _, fun i x hi => by simp at hi⟩
end
/-- what stands from n on -/
noncomputable def fresh (n : Nat) (h : AH) : AH := only (fun i => n ≤ i) h
theorem fresh_sub (n : Nat) (h : AH) : Le (fresh n h) h := only_le _ h
theorem fresh_le {n : Nat} {a b : AH} (hl : Le a b) : Le (fresh n a) (fresh n b) :=
  ⟨by unfold fresh; rw [only_length, only_length]; exact hl.len, fun i x e => by
    unfold fresh at e ⊢
    rw [only_some] at e ⊢
    exact ⟨e.1, hl.at_ _ _ e.2⟩⟩
theorem SepL.mono {B B' : Nat → Prop} {h : AH} {Rs : List Res} {G : Nat → Prop} (S : SepL B h Rs G) (hB : ∀ i, B i → i < h.length → B' i) : SepL B' h Rs G := by
  induction S with
  | nil => exact .nil
  | cons a1 a2 a3 a4 ih => exact .cons a1 (fun i hi => ⟨hB i (a2 i hi).1 (a2 i hi).2, (a2 i hi).2⟩) a3 ih
section
variable {M : Nat → Prop} {n : Nat} {hb h : AH} {Rs : List Res}
/-- what a call has laid anew joins the base -/
theorem SepM.adopt (S : SepM M n hb h Rs) {h' : AH} (L : Le h h') : ∃ (M' : Nat → Prop) (hb' : AH), SepM M' n hb' h' Rs ∧ Le hb hb' ∧ Le (fresh h.length h') hb' := by
  have hlen : (hide (fun i => i < h.length ∧ look hb i = none) h').length = h'.length := only_length _ _
  refine ⟨fun i => i < h.length, hide (fun i => i < h.length ∧ look hb i = none) h', ⟨hide_le _ h', Nat.le_trans S.nl L.len, ?_⟩, ⟨?_, ?_⟩, ⟨?_, ?_⟩⟩
  · obtain ⟨K, hK⟩ := S.ex
    exact ⟨K, (hK.mono fun i hi hl => ⟨hide_none ⟨hl, hi.1⟩, hi.2.1, .inl hl⟩).keep L.len fun i b _ e => L.at_ i b e⟩
  · rw [hlen]; exact Nat.le_trans S.le.len L.len
  · intro i b e
    exact hide_some.2 ⟨fun hh => (by rw [e] at hh; cases hh.2), L.at_ _ _ (S.le.at_ _ _ e)⟩
  · rw [hlen]; unfold fresh; rw [only_length]; exact Nat.le_refl _
  · intro i b e
    obtain ⟨e1, e2⟩ := only_some.1 e
    exact hide_some.2 ⟨fun hh => (by have := hh.1; omega), e2⟩
theorem SepM.rdcF (S : SepM M n hb h Rs) (j : Nat) {e : TypeId} {m : Nat} {v : Value} {k : Nat} {xs : List Int} (hj : gt Rs j = some (.rc e 1 m v k (xs.map (.int .i64)))) (hm : k ≤ 9223372036854775807) : RI (fresh m h) v xs := by
  obtain ⟨G, b, h1, h2⟩ := S.get hj
  have h3 : NS (fresh m h) e 1 b v k (xs.map (.int .i64)) := by
    rcases h1 with ⟨a1, a2, a3⟩ | h1
    · exact .inl ⟨a1, only_some.2 ⟨h2, (only_some.1 a2).2⟩, a3⟩
    · exact .inr h1
  have hk : k = xs.length := by rcases h1 with ⟨_, _, hh⟩ | ⟨_, rfl, hh⟩; simpa using hh.symm; have := congrArg List.length hh; simpa using this.symm
  obtain ⟨l, a1, _⟩ := Leaf.ns h3 hk h2 (by omega)
  exact Leaf.reads a1
theorem SepM.rdNF {α : Type} {s : Nat} {E : AH → List Value → α → Prop} (S : SepM M n hb h Rs) (j : Nat) {e : TypeId} {m : Nat} {v : Value} {k : Nat} {cells : List Value} {xs : List α} (hj : gt Rs j = some (.rc e s m v k cells)) (ht : TellN s E (fresh m h) cells xs) (hm : k ≤ 9223372036854775807) (hs : 0 < s := by decide) : RN s E (fresh m h) v xs := by
  obtain ⟨F, ⟨b, h1, h0⟩, _⟩ := S.step hj
  rcases h1 with ⟨rfl, h3, h5⟩ | ⟨rfl, rfl, rfl⟩
  · obtain ⟨_, h3⟩ := only_some.1 h3
    have hxs : xs.length = k := by
      have h6 : cells.length = k * s := h5
      rw [ht.len] at h6
      exact Nat.eq_of_mul_eq_mul_right hs h6
    refine ⟨by omega, b, 0, by rw [hxs]; exact Wk.weak _ _ _ _, fun i x hi => ?_⟩
    obtain ⟨us, a1, a2, a3⟩ := ht.el i x hi
    exact ⟨_, us, only_some.2 ⟨h0, h3⟩, a1, by rw [Nat.zero_add, mulE_eq]; exact a2, a3⟩
  · have : xs = [] := List.length_eq_zero_iff.1 (by
      have h6 : 0 = xs.length * s := by simpa using ht.len
      rcases Nat.eq_zero_or_pos xs.length with z | z
      · exact z
      · have := Nat.mul_pos z hs
        omega)
    subst this
    exact ⟨by simp, 0, 0, Wk.nil _, fun i x hi => by simp at hi⟩
end
/-- a fresh row of structures that is only read -/
def ShownN {α : Type} (s : Nat) (E : AH → List Value → α → Prop) (h : AH) (x : List α) (r : Value) (h' : AH) : Prop := ∃ b o, r = .slice (some ⟨b, o, none⟩) x.length 0 ∧ RN s E (fresh h.length h') r x ∧ Le h h'
theorem ACalls.shownN {P : Program} {f : FuncId} {args : List Value} {h : AH} {α : Type} {s : Nat} {E : AH → List Value → α → Prop} {x : List α} (hc : ACalls P f args h (fun r h' => RN s E (fresh h.length h') r x ∧ Le h h')) : ACalls P f args h (ShownN s E h x) :=
  hc.can fun r h' ⟨h1, h2⟩ => by
    obtain ⟨b, o, k1, k2⟩ := h1.can
    exact ⟨_, k1, b, o, rfl, k2, h2⟩
end Go.Gl

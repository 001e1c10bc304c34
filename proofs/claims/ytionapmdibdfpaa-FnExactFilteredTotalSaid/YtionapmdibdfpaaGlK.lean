/- The plain view of memory: trees of slices that nobody else holds, and what marks in them do. No condition. -/
import Derived.Test.YtionapmdibdfpaaGlJ
set_option linter.unusedVariables false
set_option linter.unusedSimpArgs false
namespace Go.Gl

theorem QCall.of {P : Program} {f : FuncId} {args : List Value} {h : AH} {K : Value → Prop} {r : Value} (hc : ∀ h2, Le h h2 → ACalls P f args h2 (fun r' h' => r' = r ∧ h' = h2)) (hr : plainV r = true) (hk : K r) : QCall P f args h K :=
  ⟨⟨r, args, WkL.refl _, VR.const hr, fun h2 hl => (hc h2 hl).mono fun v h' ⟨e1, e2⟩ => by subst e1 e2; exact ⟨Wk.refl _, Le.refl _⟩, hk⟩⟩

/-- the same, for a result that refers to nothing -/
theorem QCall.low {P : Program} {f : FuncId} {args : List Value} {h : AH} {K : Value → Prop} {r : Value} (hc : ∀ h2, Le h h2 → ACalls P f args h2 (fun r' h' => r' = r ∧ h' = h2)) (hr : Below0 0 r) (hk : K r) : QCall P f args h K :=
  ⟨⟨r, args, WkL.refl _, hr, fun h2 hl => (hc h2 hl).mono fun v h' ⟨e1, e2⟩ => by subst e1 e2; exact ⟨Wk.refl _, Le.refl _⟩, hk⟩⟩
theorem FinX.low {h0 hf : AH} {Q : Value → AH → Prop} {r : Value} (hw : WfH h0) (hle : Le h0 hf) (hr : Below0 0 r) (hq : Q r h0) : FinX h0 Q r hf :=
  ⟨.inl ⟨idIo, r, h0, RA.sub hw hle.at_ hle.len, VR.idn hr (Nat.zero_le _), hq⟩⟩

/-- a predicate on trees: n: all its blocks lie from n on; l: the blocks of its rows of numbers -/
abbrev Tr (α : Type) := Nat → AH → Value → α → List Nat → Prop

/-- ti: the type of the numbers; S: the types of the inner rows -/
structure Fr (ti : TypeId) (S : List TypeId) {α : Type} (E : Tr α) : Prop where
  keep : ∀ n h h' v x l, E n h v x l → (∀ i b, look h i = some b → n ≤ i → (i ∈ l ∨ ∃ ty ∈ S, ∃ s, b.own = some (ty, s)) → look h' i = some b) → E n h' v x l
  low : ∀ n m h v x l, E n h v x l → m ≤ n → E m h v x l
  leaf : ∀ n h v x l, E n h v x l → ∀ i ∈ l, n ≤ i ∧ ∃ blk s, look h i = some blk ∧ blk.own = some (ti, s)
  nd : ∀ n h v x l, E n h v x l → l.Nodup

/-- a row of numbers -/
def Leaf (ti : TypeId) : Tr (List Int) := fun n h v xs l =>
  xs.length ≤ 9223372036854775807 ∧ ((xs = [] ∧ l = [] ∧ Wk v (.slice (some ⟨0, 0, none⟩) 0 0)) ∨
    ∃ b o blk, Wk v (.slice (some ⟨b, o, none⟩) xs.length 0) ∧ n ≤ b ∧ l = [b] ∧ look h b = some blk ∧ blk.own = some (ti, 1) ∧ o + xs.length ≤ blk.cells.length ∧ ∀ (k : Nat) x, xs[k]? = some x → blk.cells[o + k]? = some (.int .i64 x))

/-- the trees of a row -/
structure Row {α : Type} (E : Tr α) (n : Nat) (h : AH) (us : List Value) (xs : List α) (ls : List (List Nat)) : Prop where
  lu : us.length = xs.length
  ll : ls.length = xs.length
  nd : ls.flatten.Nodup
  el : ∀ (k : Nat) u x m, us[k]? = some u → xs[k]? = some x → ls[k]? = some m → E n h u x m

/-- a row of trees -/
def Node (tr : TypeId) {α : Type} (E : Tr α) : Tr (List α) := fun n h v xs l =>
  xs.length ≤ 9223372036854775807 ∧ ∃ b o, ∃ us : List Value, ∃ ls : List (List Nat), Wk v (.slice (some ⟨b, o, none⟩) xs.length 0) ∧ Row E n h us xs ls ∧ l = ls.flatten ∧
    (xs = [] ∨ (n ≤ b ∧ ∃ blk, look h b = some blk ∧ blk.own = some (tr, 1) ∧ ∀ (k : Nat) u, us[k]? = some u → blk.cells[o + k]? = some u))

theorem Row.nil {α : Type} (E : Tr α) (n : Nat) (h : AH) : Row E n h [] [] [] := ⟨rfl, rfl, by simp, fun k u x m e => by simp at e⟩
theorem Row.keep {α : Type} {E : Tr α} {ti : TypeId} {S : List TypeId} (hE : Fr ti S E) {n : Nat} {h h' : AH} {us : List Value} {xs : List α} {ls : List (List Nat)} (hr : Row E n h us xs ls)
    (hk : ∀ i b, look h i = some b → n ≤ i → (i ∈ ls.flatten ∨ ∃ ty ∈ S, ∃ s, b.own = some (ty, s)) → look h' i = some b) : Row E n h' us xs ls :=
  ⟨hr.lu, hr.ll, hr.nd, fun k u x m a1 a2 a3 => hE.keep _ _ _ _ _ _ (hr.el k u x m a1 a2 a3) fun i b e1 e2 e3 => hk i b e1 e2 (e3.imp (fun hi => List.mem_flatten.2 ⟨m, List.mem_of_getElem? a3, hi⟩) id)⟩
theorem Row.le {α : Type} {E : Tr α} {ti : TypeId} {S : List TypeId} (hE : Fr ti S E) {n : Nat} {h h' : AH} {us : List Value} {xs : List α} {ls : List (List Nat)} (hr : Row E n h us xs ls) (hl : Le h h') : Row E n h' us xs ls :=
  hr.keep hE fun i b e _ _ => hl.at_ i b e
theorem Row.leaf {α : Type} {E : Tr α} {ti : TypeId} {S : List TypeId} (hE : Fr ti S E) {n : Nat} {h : AH} {us : List Value} {xs : List α} {ls : List (List Nat)} (hr : Row E n h us xs ls) : ∀ i ∈ ls.flatten, n ≤ i ∧ ∃ blk s, look h i = some blk ∧ blk.own = some (ti, s) := by
  intro i hi
  obtain ⟨m, hm1, hm2⟩ := List.mem_flatten.1 hi
  obtain ⟨k, hk, e⟩ := List.getElem_of_mem hm1
  have h1 := hr.lu; have h2 := hr.ll
  exact hE.leaf _ _ _ _ _ (hr.el k us[k] xs[k] m (List.getElem?_eq_getElem (by omega)) (List.getElem?_eq_getElem (by omega)) (by rw [List.getElem?_eq_getElem hk, e])) i hm2
theorem Row.low {α : Type} {E : Tr α} {ti : TypeId} {S : List TypeId} (hE : Fr ti S E) {n m : Nat} {h : AH} {us : List Value} {xs : List α} {ls : List (List Nat)} (hr : Row E n h us xs ls) (hm : m ≤ n) : Row E m h us xs ls :=
  ⟨hr.lu, hr.ll, hr.nd, fun k u x l a1 a2 a3 => hE.low _ _ _ _ _ _ (hr.el k u x l a1 a2 a3) hm⟩
theorem Row.push {α : Type} {E : Tr α} {ti : TypeId} {S : List TypeId} (hE : Fr ti S E) {n : Nat} {h0 h : AH} {us : List Value} {xs : List α} {ls : List (List Nat)} (hr : Row E n h0 us xs ls) (hl : Le h0 h) (hn : n ≤ h0.length)
    {u : Value} {x : α} {l : List Nat} (he : E h0.length h u x l) : Row E n h (us ++ [u]) (xs ++ [x]) (ls ++ [l]) where
  lu := by simp [hr.lu]
  ll := by simp [hr.ll]
  nd := by
    rw [List.flatten_append, List.nodup_append]
    refine ⟨hr.nd, by simpa using hE.nd _ _ _ _ _ he, fun a ha b hb e => ?_⟩
    simp at hb
    obtain ⟨_, blk, s, h1, _⟩ := hr.leaf hE a ha
    have := look_lt h1
    have := (hE.leaf _ _ _ _ _ he b hb).1
    omega
  el := by
    intro k u' x' m a1 a2 a3
    have hlu := hr.lu
    have hll := hr.ll
    by_cases hk : k < us.length
    · rw [List.getElem?_append_left hk] at a1
      rw [List.getElem?_append_left (by omega)] at a2 a3
      exact (hr.le hE hl).el k u' x' m a1 a2 a3
    · rw [List.getElem?_append_right (by omega)] at a1 a2 a3
      have hk1 : k - us.length = 0 := by
        rcases Nat.eq_zero_or_pos (k - us.length) with h | h
        · exact h
        · rw [List.getElem?_eq_none (by simp only [List.length_cons, List.length_nil]; omega)] at a1; cases a1
      rw [hk1] at a1
      rw [show k - xs.length = 0 by omega] at a2
      rw [show k - ls.length = 0 by omega] at a3
      simp at a1 a2 a3
      subst a1 a2 a3
      exact hE.low _ _ _ _ _ _ he hn
/-- the outer row's block changes -/
theorem Row.set {α : Type} {E : Tr α} {ti : TypeId} {S : List TypeId} (hE : Fr ti S E) {n : Nat} {h : AH} {us : List Value} {xs : List α} {ls : List (List Nat)} (hr : Row E n h us xs ls) {b : Nat} {cs : List Value} {tr : TypeId} {s : Nat} {y : Option Blk}
    (hb : look h b = some ⟨cs, some (tr, s)⟩) (h1 : (tr :: S).all (fun t => !Nat.beq t ti) = true) (h2 : S.all (fun t => !Nat.beq t tr) = true) : Row E n (h.set b y) us xs ls := by
  refine hr.keep hE fun i b' e1 _ e3 => ?_
  rw [look_set (look_lt hb), if_neg ?_]
  · exact e1
  · rintro rfl
    rw [hb] at e1
    injection e1 with e1
    subst e1
    rcases e3 with e3 | ⟨ty, e3, s', e4⟩
    · obtain ⟨_, blk, s', e5, e6⟩ := hr.leaf hE _ e3
      rw [hb] at e5
      injection e5 with e5
      subst e5
      simp at e6
      simp [e6.1] at h1
    · simp at e4
      have := List.all_eq_true.1 h2 _ e3
      simp [e4.1] at this
theorem Row.node {α : Type} {E : Tr α} {n : Nat} {h : AH} {us : List Value} {xs : List α} {ls : List (List Nat)} (hr : Row E n h us xs ls) {b o : Nat} {cs : List Value} {tr : TypeId} (hb : look h b = some ⟨cs, some (tr, 1)⟩) (hn : n ≤ b)
    (hc : ∀ (k : Nat) u, us[k]? = some u → cs[o + k]? = some u) (hm : xs.length ≤ 9223372036854775807) (c : Nat) : Node tr E n h (.slice (some ⟨b, o, none⟩) xs.length c) xs ls.flatten :=
  ⟨hm, b, o, us, ls, Wk.weak _ _ _ _, hr, rfl, .inr ⟨hn, _, hb, rfl, hc⟩⟩

theorem Leaf.fr (ti : TypeId) : Fr ti [] (Leaf ti) where
  keep := by
    rintro n h h' v x l ⟨hm, h1 | ⟨b, o, blk, h1, h2, rfl, h4, h5⟩⟩ hk
    · exact ⟨hm, .inl h1⟩
    · exact ⟨hm, .inr ⟨b, o, blk, h1, h2, rfl, hk b _ h4 h2 (.inl (by simp)), h5⟩⟩
  low := by
    rintro n m h v x l ⟨hm, h1 | ⟨b, o, blk, h1, h2, h3⟩⟩ hmn
    · exact ⟨hm, .inl h1⟩
    · exact ⟨hm, .inr ⟨b, o, blk, h1, Nat.le_trans hmn h2, h3⟩⟩
  leaf := by
    rintro n h v x l ⟨hm, ⟨_, rfl, _⟩ | ⟨b, o, blk, h1, h2, rfl, h4, h5, _⟩⟩ i hi
    · cases hi
    · simp at hi; subst hi; exact ⟨h2, blk, 1, h4, h5⟩
  nd := by
    rintro n h v x l ⟨hm, ⟨_, rfl, _⟩ | ⟨b, o, blk, h1, h2, rfl, h4, h5, _⟩⟩ <;> simp

theorem Node.fr {ti : TypeId} {S : List TypeId} (tr : TypeId) {α : Type} {E : Tr α} (hE : Fr ti S E) : Fr ti (tr :: S) (Node tr E) where
  keep := by
    rintro n h h' v x l ⟨hm, b, o, us, ls, h1, h2, rfl, h5⟩ hk
    refine ⟨hm, b, o, us, ls, h1, h2.keep hE fun i b e1 e2 e3 => hk i b e1 e2 (e3.imp id fun ⟨ty, h6, s, h7⟩ => ⟨ty, List.mem_cons_of_mem _ h6, s, h7⟩), rfl, ?_⟩
    rcases h5 with h5 | ⟨h5, blk, h7, h8⟩
    · exact .inl h5
    · exact .inr ⟨h5, blk, hk b _ h7 h5 (.inr ⟨tr, by simp, 1, h8.1⟩), h8⟩
  low := by
    rintro n m h v x l ⟨hm, b, o, us, ls, h1, h2, rfl, h5⟩ hmn
    refine ⟨hm, b, o, us, ls, h1, h2.low hE hmn, rfl, ?_⟩
    rcases h5 with h5 | ⟨h5, h7⟩
    · exact .inl h5
    · exact .inr ⟨Nat.le_trans hmn h5, h7⟩
  leaf := by
    rintro n h v x l ⟨hm, b, o, us, ls, h1, h2, rfl, h5⟩ i hi
    exact h2.leaf hE i hi
  nd := by
    rintro n h v x l ⟨hm, b, o, us, ls, h1, h2, rfl, h5⟩
    exact h2.nd

theorem Leaf.can {ti : TypeId} {n : Nat} {h : AH} {u : Value} {x : List Int} {l : List Nat} (he : Leaf ti n h u x l) : ∃ b o, Wk u (.slice (some ⟨b, o, none⟩) x.length 0) ∧ Leaf ti n h (.slice (some ⟨b, o, none⟩) x.length 0) x l := by
  obtain ⟨hm, ⟨rfl, h1, h2⟩ | ⟨b, o, blk, h1, h2⟩⟩ := he
  · exact ⟨0, 0, h2, hm, .inl ⟨rfl, h1, Wk.refl _⟩⟩
  · exact ⟨b, o, h1, hm, .inr ⟨b, o, blk, Wk.refl _, h2⟩⟩
theorem Leaf.wk {ti : TypeId} {n : Nat} {h : AH} {u w : Value} {x : List Int} {l : List Nat} (hw : Wk u w) (he : Leaf ti n h w x l) : Leaf ti n h u x l := by
  obtain ⟨hm, ⟨h0, h1, h2⟩ | ⟨b, o, blk, h1, h2⟩⟩ := he
  · exact ⟨hm, .inl ⟨h0, h1, fun _ _ _ h => h2 _ _ _ (hw _ _ _ h)⟩⟩
  · exact ⟨hm, .inr ⟨b, o, blk, fun _ _ _ h => h1 _ _ _ (hw _ _ _ h), h2⟩⟩
theorem Node.can {tr : TypeId} {α : Type} {E : Tr α} {n : Nat} {h : AH} {u : Value} {x : List α} {l : List Nat} (he : Node tr E n h u x l) : ∃ b o, Wk u (.slice (some ⟨b, o, none⟩) x.length 0) ∧ Node tr E n h (.slice (some ⟨b, o, none⟩) x.length 0) x l := by
  obtain ⟨hm, b, o, us, ls, h1, h2⟩ := he
  exact ⟨b, o, h1, hm, b, o, us, ls, Wk.refl _, h2⟩
theorem Node.wk {tr : TypeId} {α : Type} {E : Tr α} {n : Nat} {h : AH} {u w : Value} {x : List α} {l : List Nat} (hw : Wk u w) (he : Node tr E n h w x l) : Node tr E n h u x l := by
  obtain ⟨hm, b, o, us, ls, h1, h2⟩ := he
  exact ⟨hm, b, o, us, ls, fun _ _ _ h => h1 _ _ _ (hw _ _ _ h), h2⟩
theorem Fr.le {ti : TypeId} {S : List TypeId} {α : Type} {E : Tr α} (hE : Fr ti S E) {n : Nat} {h h' : AH} {v : Value} {x : α} {l : List Nat} (he : E n h v x l) (hl : Le h h') : E n h' v x l :=
  hE.keep _ _ _ _ _ _ he fun i b hb _ _ => hl.at_ _ _ hb

/-- reading -/
theorem Leaf.reads {ti : TypeId} {n : Nat} {h : AH} {v : Value} {xs : List Int} {l : List Nat} (he : Leaf ti n h v xs l) : RI h v xs := by
  obtain ⟨hm, ⟨rfl, _, hw⟩ | ⟨b, o, blk, h1, h2, rfl, h4, h5, h6, h7⟩⟩ := he
  · exact ⟨hm, 0, 0, hw, fun k x hk => by simp at hk⟩
  · exact ⟨hm, b, o, h1, fun k x hk => ⟨blk, _, h4, h7 k x hk, rfl⟩⟩
theorem Node.reads {tr : TypeId} {α : Type} {E : Tr α} {F : AH → Value → α → Prop} (hEF : ∀ n h v x l, E n h v x l → F h v x) {n : Nat} {h : AH} {v : Value} {xs : List α} {l : List Nat} (he : Node tr E n h v xs l) : RS F h v xs := by
  obtain ⟨hm, b, o, us, ls, h1, hr, rfl, h5⟩ := he
  have h2 := hr.lu; have h3 := hr.ll
  refine ⟨hm, b, o, h1, fun k x hk => ?_⟩
  have hlt := (List.getElem?_eq_some_iff.1 hk).1
  rcases h5 with h5 | ⟨_, blk, h7, _, h9⟩
  · subst h5; simp at hk
  · have hu : us[k]? = some us[k] := List.getElem?_eq_getElem (by omega)
    have hl : ls[k]? = some ls[k] := List.getElem?_eq_getElem (by omega)
    exact ⟨blk, _, h7, h9 k _ hu, hEF _ _ _ _ _ (hr.el k _ x _ hu hk hl)⟩

/-! ### numbers one after the other -/
def numI (k : Int) (xs : List Int) : List Int := (List.range xs.length).map fun (i : Nat) => k + (i : Int)
def cnI (xs : List Int) : Nat := xs.length
def numL {α : Type} (num : Int → α → α) (cn : α → Nat) : Int → List α → List α
  | _, [] => []
  | k, x :: xs => num k x :: numL num cn (k + cn x) xs
def cnL {α : Type} (cn : α → Nat) (xs : List α) : Nat := (xs.map cn).sum

theorem numL_length {α : Type} (num : Int → α → α) (cn : α → Nat) (k : Int) (xs : List α) : (numL num cn k xs).length = xs.length := by
  induction xs generalizing k with
  | nil => rfl
  | cons x xs ih => simp [numL, ih]
theorem numL_get {α : Type} (num : Int → α → α) (cn : α → Nat) (k : Int) (xs : List α) (j : Nat) : (numL num cn k xs)[j]? = (xs[j]?).map (num (k + cnL cn (xs.take j))) := by
  induction xs generalizing k j with
  | nil => simp [numL]
  | cons x xs ih =>
    cases j with
    | zero => simp [numL, cnL]
    | succ j => simp only [numL, List.getElem?_cons_succ, ih]; simp [cnL, Int.add_assoc]
theorem cnL_take {α : Type} (cn : α → Nat) (xs : List α) (j : Nat) (hj : j < xs.length) : cnL cn (xs.take (j + 1)) = cnL cn (xs.take j) + cn xs[j] := by
  unfold cnL
  rw [List.take_succ_eq_append_getElem hj, List.map_append, List.sum_append]
  simp
theorem cnL_take_le {α : Type} (cn : α → Nat) (xs : List α) (j : Nat) : cnL cn (xs.take j) ≤ cnL cn xs := by
  unfold cnL
  conv => rhs; rw [← List.take_append_drop j xs]
  rw [List.map_append, List.sum_append]
  omega

/-- what marks do to the view -/
structure Mk (h h' : AH) (l : List Nat) : Prop where
  len : h.length ≤ h'.length
  out : ∀ i b, i ∉ l → look h i = some b → look h' i = some b
  own : ∀ i b, look h i = some b → ∃ b', look h' i = some b' ∧ b'.own = b.own
theorem Mk.refl (h : AH) (l : List Nat) : Mk h h l := ⟨Nat.le_refl _, fun _ _ _ e => e, fun i b hb => ⟨b, hb, rfl⟩⟩
theorem Mk.ofLe {h h' : AH} (hl : Le h h') (l : List Nat) : Mk h h' l := ⟨hl.len, fun i b _ e => hl.at_ i b e, fun i b hb => ⟨b, hl.at_ i b hb, rfl⟩⟩
theorem Mk.trans {a b c : AH} {l m k : List Nat} (h : Mk a b l) (h' : Mk b c m) (hl : ∀ i ∈ l, i ∈ k) (hm : ∀ i ∈ m, i ∈ k) : Mk a c k :=
  ⟨Nat.le_trans h.len h'.len, fun i x hi e => h'.out i x (fun hh => hi (hm i hh)) (h.out i x (fun hh => hi (hl i hh)) e), fun i b hb => by
    obtain ⟨b1, h1, h2⟩ := h.own i b hb
    obtain ⟨b2, h3, h4⟩ := h'.own i b1 h1
    exact ⟨b2, h3, h4.trans h2⟩⟩
theorem Mk.le {h0 h h' : AH} {l : List Nat} (hm : Mk h h' l) (hl : Le h0 h) (hd : ∀ i ∈ l, h0.length ≤ i) : Le h0 h' :=
  ⟨Nat.le_trans hl.len hm.len, fun i b hb => hm.out i b (fun hi => by have := hd i hi; have := look_lt hb; omega) (hl.at_ i b hb)⟩
theorem Mk.stay {h h' : AH} {l : List Nat} (hm : Mk h h' l) {b : Nat} {blk : Blk} (hb : look h b = some blk) (hl : ∀ i ∈ l, i < b) : look h' b = some blk :=
  hm.out b blk (fun hi => by have := hl b hi; omega) hb
def Dj (a b : List Nat) : Prop := ∀ i ∈ a, i ∉ b
theorem Dj.symm {a b : List Nat} (h : Dj a b) : Dj b a := fun i hi hj => h i hj hi
theorem Dj.left {a b c : List Nat} (h : Dj a (b ++ c)) : Dj a b := fun i hi hj => h i hi (List.mem_append_left _ hj)
theorem Dj.right {a b c : List Nat} (h : Dj a (b ++ c)) : Dj a c := fun i hi hj => h i hi (List.mem_append_right _ hj)
theorem Dj.app {a b c : List Nat} (h : Dj a b) (h' : Dj a c) : Dj a (b ++ c) := fun i hi hj => (List.mem_append.1 hj).elim (h i hi) (h' i hi)
theorem Dj.of {a b : List Nat} (h : (a ++ b).Nodup) : Dj a b := fun i hi hj => (List.nodup_append.1 h).2.2 i hi i hj rfl
theorem nodup_left {a b : List Nat} (h : (a ++ b).Nodup) : a.Nodup := (List.nodup_append.1 h).1
theorem nodup_right {a b : List Nat} (h : (a ++ b).Nodup) : b.Nodup := (List.nodup_append.1 h).2.1
theorem nodup_app {a b : List Nat} (ha : a.Nodup) (hb : b.Nodup) (h : Dj a b) : (a ++ b).Nodup := List.nodup_append.2 ⟨ha, hb, fun x hx y hy e => h x hx (e ▸ hy)⟩
theorem Fr.lt {ti : TypeId} {S : List TypeId} {α : Type} {E : Tr α} (hE : Fr ti S E) {n : Nat} {h : AH} {v : Value} {x : α} {l : List Nat} (he : E n h v x l) : ∀ i ∈ l, i < h.length := fun i hi => by
  obtain ⟨_, _, _, h1, _⟩ := hE.leaf _ _ _ _ _ he i hi
  exact look_lt h1
theorem Fr.dj {ti : TypeId} {S : List TypeId} {α β : Type} {E : Tr α} (hE : Fr ti S E) {n : Nat} {h : AH} {v : Value} {x : α} {l : List Nat} (he : E n h v x l) {ti' : TypeId} {S' : List TypeId} {F : Tr β} (hF : Fr ti' S' F) {n' : Nat} {h' : AH} {v' : Value} {x' : β} {l' : List Nat} (he' : F n' h' v' x' l') (hn : h.length ≤ n') : Dj l l' := fun i hi hj => by
  have h1 := hE.lt he i hi
  have h2 := (hF.leaf _ _ _ _ _ he' i hj).1
  omega
theorem Fr.mark {ti : TypeId} {S : List TypeId} {α : Type} {E : Tr α} (hE : Fr ti S E) (hS : S.all (fun t => !Nat.beq t ti) = true) {h h' : AH} {l m : List Nat} (hm : Mk h h' m) {n : Nat} {v : Value} {x : α} (he : E n h v x l) (hd : Dj m l) (ht : ∀ i ∈ m, ∃ blk s, look h i = some blk ∧ blk.own = some (ti, s)) : E n h' v x l :=
  hE.keep _ _ _ _ _ _ he fun i b e1 _ e3 => hm.out i b (fun hi => by
      rcases e3 with e3 | ⟨ty, e3, s, e4⟩
      · exact hd i hi e3
      · obtain ⟨blk, s', e5, e6⟩ := ht i hi
        rw [e1] at e5
        injection e5 with e5
        subst e5
        rw [e4] at e6
        simp at e6
        have := List.all_eq_true.1 hS _ e3
        simp [e6.1] at this) e1
theorem sub_of {S S' : List Nat} (h : S.all (fun t => S'.any (Nat.beq t)) = true) : ∀ t ∈ S, t ∈ S' := fun t ht => by
  have := List.all_eq_true.1 h t ht
  obtain ⟨u, hu, e⟩ := List.any_eq_true.1 this
  rw [Nat.eq_of_beq_eq_true e]
  exact hu
theorem Fr.aside {ti : TypeId} {S : List TypeId} {α : Type} {E : Tr α} (hE : Fr ti S E) {h h' : AH} {l : List Nat} {n : Nat} {v : Value} {x : α} (he : E n h v x l) {b : Nat} {cs : List Value} {tr : TypeId} {s : Nat}
    (hb : look h b = some ⟨cs, some (tr, s)⟩) (h1 : (!Nat.beq tr ti) = true) (h2 : S.all (fun t => !Nat.beq t tr) = true) (ho : ∀ i, i ≠ b → look h' i = look h i) : E n h' v x l :=
  hE.keep _ _ _ _ _ _ he fun i b' e1 _ e3 => (ho i (fun e => by
    subst e
    rw [hb] at e1
    injection e1 with e1
    subst e1
    rcases e3 with e3 | ⟨ty, e3, s', e4⟩
    · obtain ⟨_, blk, s', e5, e6⟩ := hE.leaf _ _ _ _ _ he _ e3
      rw [hb] at e5
      injection e5 with e5
      subst e5
      simp at e6
      simp [e6.1] at h1
    · simp at e4
      have := List.all_eq_true.1 h2 _ e3
      simp [e4.1] at this)).trans e1

/-- one tree of a row is marked -/
theorem Row.upd {ti : TypeId} {S : List TypeId} {α : Type} {E : Tr α} (hE : Fr ti S E) (hS : S.all (fun t => !Nat.beq t ti) = true) {n : Nat} {h h' : AH} {xs : List α} {us : List Value} {ls : List (List Nat)} (hr : Row E n h us xs ls)
    {j : Nat} {m : List Nat} (hj : ls[j]? = some m) (hm : Mk h h' m)
    {x' : α} (hx : ∀ u, us[j]? = some u → E n h' u x' m) : Row E n h' us (xs.set j x') ls where
  lu := by simp [hr.lu]
  ll := by simp [hr.ll]
  nd := hr.nd
  el := by
    have ht : ∀ i ∈ m, ∃ blk s, look h i = some blk ∧ blk.own = some (ti, s) := fun i hi => (hr.leaf hE i (List.mem_flatten.2 ⟨m, List.mem_of_getElem? hj, hi⟩)).2
    intro k u x m' a1 a2 a3
    by_cases hkj : k = j
    · subst hkj
      rw [hj] at a3
      injection a3 with a3
      subst a3
      have : x = x' := by
        rw [List.getElem?_set] at a2
        simp only [if_true] at a2
        split at a2
        · injection a2 with a2; exact a2.symm
        · cases a2
      subst this
      exact hx u a1
    · rw [List.getElem?_set_ne (Ne.symm hkj)] at a2
      refine hE.mark hS hm (hr.el k u x m' a1 a2 a3) (fun i hi hi2 => ?_) ht
      -- two rows of one list without doubles share nothing
      have hpw := (List.pairwise_flatten.1 (List.nodup_iff_pairwise_ne.1 hr.nd)).2
      have hk1 := (List.getElem?_eq_some_iff.1 a3); have hj1 := (List.getElem?_eq_some_iff.1 hj)
      rcases Nat.lt_or_ge k j with hlt | hge
      · have := List.pairwise_iff_getElem.1 hpw k j hk1.1 hj1.1 hlt
        rw [hk1.2, hj1.2] at this
        exact this i hi2 i hi rfl
      · have := List.pairwise_iff_getElem.1 hpw j k hj1.1 hk1.1 (by omega)
        rw [hk1.2, hj1.2] at this
        exact this i hi i hi2 rfl

/-- counting all cells -/
def ctI (xs : List Int) : Nat := xs.length
def ctL {α : Type} (c : α → Nat) (xs : List α) : Nat := xs.length + (xs.map c).sum
theorem cnL_get {α : Type} (c : α → Nat) (xs : List α) (j : Nat) (hj : j < xs.length) : c xs[j] ≤ cnL c xs := by
  have h1 := cnL_take c xs j hj
  have h2 := cnL_take_le c xs (j + 1)
  omega
theorem ctL_eq {α : Type} (c : α → Nat) (xs : List α) : ctL c xs = xs.length + cnL c xs := rfl
theorem cnL_all {α : Type} (c : α → Nat) (xs : List α) : cnL c (xs.take xs.length) = cnL c xs := by rw [List.take_length]
theorem cnL_zero {α : Type} (c : α → Nat) (xs : List α) : cnL c (xs.take 0) = 0 := by simp [cnL]
theorem numI_length (k : Int) (xs : List Int) : (numI k xs).length = xs.length := by simp [numI]
theorem numI_getElem (k : Int) (xs : List Int) (j : Nat) (hj : j < (numI k xs).length) : (numI k xs)[j] = k + j := by simp [numI]
theorem numL_getElem {α : Type} (num : Int → α → α) (cn : α → Nat) (k : Int) (xs : List α) (j : Nat) (hj : j < (numL num cn k xs).length) : (numL num cn k xs)[j] = num (k + cnL cn (xs.take j)) (xs[j]'(by rw [numL_length] at hj; exact hj)) := by
  have h1 : j < xs.length := by rw [numL_length] at hj; exact hj
  have := numL_get num cn k xs j
  rw [List.getElem?_eq_getElem hj, List.getElem?_eq_getElem h1] at this
  simpa using this
/-- a row filled from the front -/
theorem setCells_next (us : List Value) (m : Nat) (z u : Value) (k : Nat) (hk : us.length = k) (hm : 0 < m) : setCells (us ++ List.replicate m z) k [u] = (us ++ [u]) ++ List.replicate (m - 1) z := by
  unfold setCells
  subst hk
  obtain ⟨m, rfl⟩ : ∃ m', m = m' + 1 := ⟨m - 1, by omega⟩
  simp [List.replicate_succ]
/-- a list with its first numbers changed -/
theorem half_set {α : Type} (a b : List α) (hab : a.length = b.length) (j : Nat) (hj : j < b.length) : (a.take j ++ b.drop j).set j (a[j]'(by omega)) = a.take (j + 1) ++ b.drop (j + 1) := by
  apply List.ext_getElem?
  intro i
  rw [List.getElem?_set]
  have h1 : (a.take j).length = j := by simp; omega
  have h2 : (a.take (j + 1)).length = j + 1 := by simp; omega
  by_cases hi : j = i
  · subst hi
    rw [if_pos rfl, if_pos (by simp; omega), List.getElem?_append_left (by omega)]
    simp
  · rw [if_neg hi]
    by_cases hlt : i < j
    · rw [List.getElem?_append_left (by omega), List.getElem?_append_left (by omega)]
      simp [List.getElem?_take, hlt]
      intro; omega
    · rw [List.getElem?_append_right (by omega), List.getElem?_append_right (by omega), h1, h2]
      simp only [List.getElem?_drop]
      rw [show j + (i - j) = j + 1 + (i - (j + 1)) by omega]
theorem cnL_le_ctL {α : Type} {cn ct : α → Nat} (h : ∀ x, cn x ≤ ct x) (xs : List α) : cnL cn xs ≤ ctL ct xs := by
  unfold cnL ctL
  induction xs with
  | nil => simp
  | cons x xs ih => have := h x; simp only [List.map_cons, List.sum_cons, List.length_cons]; omega
/-- an element, 0 behind the end -/
def nth (xs : List Int) (i : Nat) : Int := xs.getD i 0
theorem nth_get {xs : List Int} {i : Nat} (h : i < xs.length) : xs[i] = nth xs i := by simp [nth, List.getD_eq_getElem?_getD, h]
end Go.Gl

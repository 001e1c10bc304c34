/- Words for walks: fresh rows handed back, numbers and rows by their places. No condition. -/
import Derived.Test.YtionapmdibdfpaaGlS
import Derived.Test.YtionapmdibdfpaaFnStruct
import Derived.Test.YtionapmdibdfpaaPlA
set_option linter.unusedVariables false
set_option linter.unusedSimpArgs false
namespace Go.Gl
open Go.Pl

/-- a slice that is told by its place has one place alone -/
theorem Wk.place0 {b o b' o' k : Nat} (hw : Wk (.slice (some ⟨b, o, none⟩) k 0) (.slice (some ⟨b', o', none⟩) k 0)) (hk : 0 < k) : b' = b ∧ o' = o := by
  have h := hw idIo (b + 1) _ (.slW b o k k (by omega) (.inl (Nat.le_refl _)))
  generalize hu : Value.slice (some ⟨(idIo b).blk, (idIo b).off + o, none⟩) k k = u at h
  cases h with
  | slZ a A c => omega
  | slW _ _ _ c _ _ =>
    simp only [Value.slice.injEq, Option.some.injEq, Addr.mk.injEq] at hu
    obtain ⟨⟨h1, h2, _⟩, _⟩ := hu
    simp only [idIo] at h1 h2
    omega
theorem Wk.place1 {b b' o' k : Nat} (hw : Wk (.slice (some ⟨b, 0, none⟩) k 1) (.slice (some ⟨b', o', none⟩) k 0)) (hk : 0 < k) : b' = b ∧ o' = 0 := by
  have h := hw idIo (b + 1) _ (.slS b k (by omega) (.inr rfl))
  generalize hu : Value.slice (some ⟨(idIo b).blk, (idIo b).off, none⟩) k (idIo b).cap = u at h
  cases h with
  | slZ a A c => omega
  | slW _ _ _ c _ _ =>
    simp only [Value.slice.injEq, Option.some.injEq, Addr.mk.injEq] at hu
    obtain ⟨⟨h1, h2, _⟩, _⟩ := hu
    simp only [idIo] at h1 h2
    omega
/-- the cells of a row that is told by its place -/
theorem RS.cells {α : Type} {E : AH → Value → α → Prop} {h : AH} {b o k : Nat} {xs : List α} (hr : RS E h (.slice (some ⟨b, o, none⟩) k 0) xs) (hk : k = xs.length) : CS E h b o xs := by
  obtain ⟨hm, b', o', hw, hc⟩ := hr
  intro j x hj
  have hjl := (List.getElem?_eq_some_iff.1 hj).1
  subst hk
  obtain ⟨rfl, rfl⟩ := Wk.place0 hw (by omega)
  exact hc j x hj
theorem RS.cells1 {α : Type} {E : AH → Value → α → Prop} {h : AH} {b k : Nat} {xs : List α} (hr : RS E h (.slice (some ⟨b, 0, none⟩) k 1) xs) (hk : k = xs.length) : CS E h b 0 xs := by
  obtain ⟨hm, b', o', hw, hc⟩ := hr
  intro j x hj
  have hjl := (List.getElem?_eq_some_iff.1 hj).1
  subst hk
  obtain ⟨rfl, rfl⟩ := Wk.place1 hw (by omega)
  exact hc j x hj
/-- two plain results: the view is as it was -/
theorem FinX.keep2 {h0 hf : AH} {Q : Value → AH → Prop} {a b : Value} (hw : WfH h0) (hle : Le h0 hf) (ha : plainV a = true) (hb : plainV b = true) (hq : Q (.tuple #[a, b]) h0) : FinX h0 Q (.tuple #[a, b]) hf :=
  ⟨.inl ⟨idIo, _, h0, RA.sub hw hle.at_ hle.len, .tuple _ _ rfl fun i hi => by
    match i, hi with
    | 0, _ => exact VR.const ha
    | 1, _ => exact VR.const hb
    | i + 2, hi => exact absurd hi (by simp), hq⟩⟩
/-- a fresh row, handed back -/
def Made {α : Type} (E : Tr (List α)) (h : AH) (x : List α) (r : Value) (h' : AH) : Prop := ∃ b o l, r = .slice (some ⟨b, o, none⟩) x.length 0 ∧ E h.length h' r x l ∧ Le h h'
theorem ACalls.madeI {P : Program} {f : FuncId} {args : List Value} {h : AH} {x : List Int} {ti : TypeId} (hc : ACalls P f args h (fun r h' => ∃ l, Leaf ti h.length h' r x l ∧ Le h h')) : ACalls P f args h (Made (Leaf ti) h x) :=
  hc.can fun r h' ⟨l, h1, h2⟩ => by
    obtain ⟨b, o, k1, k2⟩ := Leaf.can h1
    exact ⟨_, k1, b, o, l, rfl, k2, h2⟩
theorem ACalls.madeN {P : Program} {f : FuncId} {args : List Value} {h : AH} {α : Type} {x : List α} {tr : TypeId} {E : Tr α} (hc : ACalls P f args h (fun r h' => ∃ l, Node tr E h.length h' r x l ∧ Le h h')) : ACalls P f args h (Made (Node tr E) h x) :=
  hc.can fun r h' ⟨l, h1, h2⟩ => by
    obtain ⟨b, o, k1, k2⟩ := Node.can h1
    exact ⟨_, k1, b, o, l, rfl, k2, h2⟩
/-- a fresh row and a number, handed back -/
def MadeC {α : Type} (E : Tr (List α)) (h : AH) (x : List α) (c : Int) (r : Value) (h' : AH) : Prop := ∃ v l, r = .tuple #[v, .int .i64 c] ∧ E h.length h' v x l ∧ Le h h'

section
variable {M : Nat → Prop} {n : Nat} {hb h : AH} {Rs : List Res}

theorem SepM.made (S : SepM M n hb h Rs) {ti : TypeId} {T : List TypeId} {α : Type} {E : Tr (List α)} (hE : Fr ti T E) {P : Program} {f : FuncId} {args : List Value} {x : List α} {K : Value → AH → Prop} (hc : ACalls P f args h (Made E h x))
    (hk : ∀ b o h', SepM M n hb h' (.tr hE n (.slice (some ⟨b, o, none⟩) x.length 0) x :: Rs) → K (.slice (some ⟨b, o, none⟩) x.length 0) h') : CallX P f args h K :=
  CallX.same hc fun r h' ⟨b, o, l, e, o', g⟩ => by subst e; exact hk b o h' (S.tree hE o' g)
theorem SepM.madeL (S : SepM M n hb h Rs) {ti : TypeId} {T : List TypeId} {α : Type} {E : Tr (List α)} (hE : Fr ti T E) {P : Program} {f : FuncId} {args : List Value} {x : List α} {K : Value → AH → Prop} (hc : ACalls P f args h (Made E h x))
    (hk : ∀ b o h', Le h h' → SepM M n hb h' (.tr hE n (.slice (some ⟨b, o, none⟩) x.length 0) x :: Rs) → K (.slice (some ⟨b, o, none⟩) x.length 0) h') : CallX P f args h K :=
  CallX.same hc fun r h' ⟨b, o, l, e, o', g⟩ => by subst e; exact hk b o h' g (S.tree hE o' g)
theorem SepM.fin {h0 : AH} (S : Sep h0.length h0 h Rs) (j : Nat) {ti : TypeId} {T : List TypeId} {α : Type} {E : Tr α} {hE : Fr ti T E} {v : Value} {x : α} (hj : gt Rs j = some (.tr hE h0.length v x)) : FinX h0 (fun r h' => ∃ l, E h0.length h' r x l ∧ Le h0 h') v h :=
  FinX.here S.le.len (by obtain ⟨l, o⟩ := S.tre j hj; exact ⟨l, o, S.le⟩)
theorem SepM.finC {h0 : AH} (S : Sep h0.length h0 h Rs) (j : Nat) {ti : TypeId} {T : List TypeId} {α : Type} {E : Tr (List α)} {hE : Fr ti T E} {v : Value} {x : List α} {c : Int} (hj : gt Rs j = some (.tr hE h0.length v x)) : FinX h0 (MadeC E h0 x c) (.tuple #[v, .int .i64 c]) h :=
  FinX.here S.le.len (by obtain ⟨l, o⟩ := S.tre j hj; exact ⟨v, l, rfl, o, S.le⟩)

theorem SepM.nilC {h0 : AH} (S : Sep h0.length h0 h Rs) {tr : TypeId} {α : Type} {E : Tr α} {c : Int} : FinX h0 (MadeC (Node tr E) h0 [] c) (.tuple #[.slice none 0 0, .int .i64 c]) h :=
  FinX.here S.le.len ⟨_, [], rfl, ⟨by simp, 0, 0, [], [], Wk.nil _, Row.nil _ _ _, rfl, .inl rfl⟩, S.le⟩
theorem SepM.nilCI {h0 : AH} (S : Sep h0.length h0 h Rs) {ti : TypeId} {c : Int} : FinX h0 (MadeC (Leaf ti) h0 [] c) (.tuple #[.slice none 0 0, .int .i64 c]) h :=
  FinX.here S.le.len ⟨_, [], rfl, ⟨by simp, .inl ⟨rfl, rfl, Wk.nil _⟩⟩, S.le⟩
/-! ### numbers and rows by their places -/
theorem CS.ith {h g : AH} {b o : Nat} {xs : List Int} (hc : CS EI h b o xs) (hl : Le h g) {i : TI} {k a : Nat} {K : Value → Prop} (hk : k < xs.length) (hK : K (.int .i64 (ith xs k))) (ha : a = o + k := by rfl) (hi : i.agg = false := by rfl) : LoadX g i b a K := by
  subst ha
  exact (hc.le EI.le hl).loadI hi hk (by rw [ith_get hk]; exact hK)
/-- a row of rows, read where it was first told -/
theorem CS.rowY {h g : AH} {b o : Nat} {xs : List (List Int)} (hc : CS RI h b o xs) (hl : Le h g) {i : TI} {k a : Nat} {K : Value → Prop} (hk : k < xs.length)
    (hK : ∀ b' o', RI h (.slice (some ⟨b', o', none⟩) (row xs k).length 0) (row xs k) → K (.slice (some ⟨b', o', none⟩) (row xs k).length 0)) (ha : a = o + k := by rfl) (hi : i.agg = false := by rfl) : LoadX g i b a K := by
  subst ha
  obtain ⟨blk, u, h1, h2, hm, b', o', h3, h4⟩ := hc k xs[k] (List.getElem?_eq_getElem hk)
  rw [row_get hk] at hm h3 h4
  refine LoadX.one (hl.at_ _ _ h1) ?_ h3 (hK b' o' ⟨hm, b', o', Wk.refl _, h4⟩)
  unfold ldv
  rw [hi]
  exact h2
theorem CS.row {h g : AH} {b o : Nat} {xs : List (List Int)} (hc : CS RI h b o xs) (hl : Le h g) {i : TI} {k a : Nat} {K : Value → Prop} (hk : k < xs.length)
    (hK : ∀ b' o', CS EI h b' o' (row xs k) → K (.slice (some ⟨b', o', none⟩) (row xs k).length 0)) (ha : a = o + k := by rfl) (hi : i.agg = false := by rfl) : LoadX g i b a K :=
  hc.rowY hl hk (fun b' o' hr => hK b' o' (hr.cells rfl)) ha hi
theorem CSI.le {h h' : AH} {b o : Nat} {xs : List Int} (hc : CS EI h b o xs) (hl : Le h h') : CS EI h' b o xs := CS.le EI.le hl hc
theorem CSII.le {h h' : AH} {b o : Nat} {xs : List (List Int)} (hc : CS RI h b o xs) (hl : Le h h') : CS RI h' b o xs := CS.le RI.le hl hc
end
/-- the cells of a tree that is a row -/
theorem SepM.cells {M : Nat → Prop} {n : Nat} {hb h : AH} {Rs : List Res} (S : SepM M n hb h Rs) {ti : TypeId} {T : List TypeId} {α : Type} {E : Tr (List α)} {F : AH → Value → α → Prop} (hEF : ∀ n h v x l, E n h v x l → RS F h v x) (j : Nat) {hE : Fr ti T E} {m b o : Nat} {x : List α} (hj : gt Rs j = some (.tr hE m (.slice (some ⟨b, o, none⟩) x.length 0) x)) : CS F h b o x :=
  (S.rd hEF j hj).cells rfl
theorem SepM.cellsI {M : Nat → Prop} {n : Nat} {hb h : AH} {Rs : List Res} (S : SepM M n hb h Rs) (j : Nat) {m b o : Nat} {x : List Int} (hj : gt Rs j = some (.tr OI.fr m (.slice (some ⟨b, o, none⟩) x.length 0) x)) : CS EI h b o x := S.cells OI.reads j hj
theorem SepM.cellsII {M : Nat → Prop} {n : Nat} {hb h : AH} {Rs : List Res} (S : SepM M n hb h Rs) (j : Nat) {m b o : Nat} {x : List (List Int)} (hj : gt Rs j = some (.tr OII.fr m (.slice (some ⟨b, o, none⟩) x.length 0) x)) : CS RI h b o x := S.cells OII.reads j hj

/-- a number is put into a row of numbers that is a tree -/
theorem SepM.storeL {M : Nat → Prop} {n : Nat} {hb h : AH} {Rs : List Res} (S : SepM M n hb h Rs) (j : Nat) {m b o k q a : Nat} {xs : List Int} {y : Int} {K : AH → Prop} (hj : gt Rs j = some (.tr OI.fr m (.slice (some ⟨b, o, none⟩) q 0) xs)) (hq : xs.length = q) (hk : k < q)
    (hK : ∀ h', SepM M n hb h' (st Rs j (.tr OI.fr m (.slice (some ⟨b, o, none⟩) q 0) (xs.set k y))) → K h') (ha : a = o + k := by rfl) : StoreX h b a [.int .i64 y] K := by
  subst hq ha
  obtain ⟨F, ⟨l, h1⟩, h2, _, _, h4⟩ := S.step hj
  obtain ⟨hm, hx⟩ := h1
  rcases hx with ⟨rfl, _⟩ | ⟨b', o', blk, hw, hn, rfl, e4, e5, e6, e7⟩
  · simp at hk
  obtain ⟨rfl, rfl⟩ := Wk.place0 hw (by omega)
  obtain ⟨f1, f2⟩ := only_some.1 e4
  refine StoreX.intro f2 (by rw [e5]; rfl) (by simp; omega) fun h' g1 g2 g3 _ => hK h' ?_
  refine h4 h' _ F (Nat.le_of_eq g1.symm) ⟨[b'], by simpa using hm, .inr ⟨b', o', _, by simpa using Wk.refl _, hn, rfl, only_some.2 ⟨f1, g2⟩, e5, ?_, ?_⟩⟩ (fun i hi => ⟨by rw [g1]; exact (h2 i hi).1, .inl hi⟩) fun i b hf e => ?_
  · rw [setCells_length _ _ _ (by simp; omega)]; simpa using e6
  · intro i x hi
    rw [setCells_get _ _ _ (by simp; omega)]
    simp only [List.length_singleton]
    rw [List.getElem?_set] at hi
    by_cases hik : k = i
    · subst hik
      rw [if_pos rfl, if_pos hk] at hi
      injection hi with hi
      subst hi
      rw [if_pos (by omega)]
      simp
    · rw [if_neg hik] at hi
      rw [if_neg (by omega)]
      exact e7 i x hi
  · rw [g3 i (fun hh => by subst hh; exact hf f1)]; exact e
/-- append numbers to a row of our own -/
theorem SepM.appI {M : Nat → Prop} {n : Nat} {hb h : AH} {Rs : List Res} (S : SepM M n hb h Rs) (j : Nat) {e : TypeId} {b k : Nat} {cells : List Value} {ie : TI} (hj : gt Rs j = some (.rc e 1 n (.slice (some ⟨b, 0, none⟩) k 1) k cells)) {b2 o2 c : Nat} {xs : List Int} {K : Value → AH → Prop}
    (hx : CS EI h b2 o2 xs) (hl : k + xs.length ≤ 10000000000)
    (hk : ∀ b' h', SepM M n hb h' (st Rs j (.rc e 1 n (.slice (some ⟨b', 0, none⟩) (k + xs.length) 1) (k + xs.length) (cells ++ xs.map (.int .i64)))) → K (.slice (some ⟨b', 0, none⟩) (k + xs.length) 1) h') (hs : ie.size = 1 := by rfl) (hby : ie.bytes ≤ 8192 := by decide) :
    AppG h e ie (.slice (some ⟨b, 0, none⟩) k 1) (.slice (some ⟨b2, o2, none⟩) xs.length c) K := by
  obtain ⟨F, ⟨b0, h1, h0⟩, h2, _, _, h4⟩ := S.step hj
  have hbk : look h b = some ⟨cells, some (e, 1)⟩ ∧ cells.length = k ∧ F b := by
    rcases h1 with ⟨h1, h3, h5⟩ | ⟨h1, _⟩
    · simp only [Value.slice.injEq, Option.some.injEq, Addr.mk.injEq] at h1
      obtain ⟨⟨rfl, _⟩, _⟩ := h1
      exact ⟨(only_some.1 h3).2, by simpa using h5, (only_some.1 h3).1⟩
    · cases h1
  refine AppG.rowI hbk.1 hbk.2.1 hx hl c (fun b' h' e1 e2 e3 => hk b' h' ?_) hs hby
  have hlt := look_lt e2
  refine h4 h' _ (fun i => F i ∨ i = b') e3.len ⟨b', .inl ⟨rfl, only_some.2 ⟨.inr rfl, e2⟩, by simp [hbk.2.1]⟩, Nat.le_trans S.nl e1⟩ (fun i hi => ?_) fun i blk hi e => e3.other e (fun hh => by subst hh; exact hi hbk.2.2)
  rcases hi with hi | rfl
  · exact ⟨Nat.lt_of_lt_of_le (h2 i hi).1 e3.len, .inl hi⟩
  · exact ⟨hlt, .inr e1⟩

/-! ### tables of numbers in boxes -/
section
variable {M : Nat → Prop} {n : Nat} {hb h : AH} {Rs : List Res}
theorem SepM.loadT (S : SepM M n hb h Rs) (j : Nat) {b k a m s : Nat} {ty : TypeId} {f : Nat → Int} {y : Int} {i : TI} {K : Value → Prop} (hj : gt Rs j = some (.bx b ty s ((tab m f).map (.int .i64)))) (hk : k < m) (hy : f k = y) (hK : K (.int .i64 y)) (ha : a = 0 + k := by rfl) (hi : i.agg = false := by rfl) : LoadX h i b a K := by
  subst hy ha
  exact S.loadI j hj (by rw [tab_length]; exact hk) (by rw [tab_get]; exact hK) hi
theorem SepM.storeT (S : SepM M n hb h Rs) (j : Nat) {b k a m s : Nat} {ty : TypeId} {f : Nat → Int} {y : Int} {K : AH → Prop} (hj : gt Rs j = some (.bx b ty s ((tab m f).map (.int .i64)))) (hk : k < m)
    (hK : ∀ h', SepM M n hb h' (st Rs j (.bx b ty s ((tab m (fun i => if i = k then y else f i)).map (.int .i64)))) → K h') (ha : a = 0 + k := by rfl) : StoreX h b a [.int .i64 y] K := by
  subst ha
  exact S.storeI j hj (by rw [tab_length]; exact hk) fun h' S' => hK h' (by rw [tab_set] at S'; exact S')
/-- a made slice of numbers -/
theorem zeros_tab (k : Nat) : (List.replicate k [Value.int .i64 0]).flatten = (tab k (fun _ => 0)).map (.int .i64) := by
  rw [← tab_zero]
  induction k with
  | zero => rfl
  | succ k ih => rw [List.replicate_succ, List.replicate_succ, List.flatten_cons, ih]; rfl
theorem SepM.recast (S : SepM M n hb h Rs) (j : Nat) {b s : Nat} {ty : TypeId} {cells cells' : List Value} (hj : gt Rs j = some (.bx b ty s cells)) (e : cells = cells') : SepM M n hb h (st Rs j (.bx b ty s cells')) := by
  subst e
  exact S.as j hj fun F _ h => h
end
/-- a fresh row of trees, handed back as a row of our own -/
def MadeW {ti : TypeId} {T : List TypeId} {α : Type} {E : Tr α} (hE : Fr ti T E) (e : TypeId) (h : AH) (xs : List α) (r : Value) (h' : AH) : Prop :=
  ∃ b us ls, NS h' e 1 b r xs.length us ∧ h.length ≤ b ∧ Row E h.length (only (fun i => i ≠ b) h') us xs ls ∧ Le h h'
section
variable {M : Nat → Prop} {n : Nat} {hb h : AH} {Rs : List Res}
theorem SepM.madeW (S : SepM M n hb h Rs) {ti : TypeId} {T : List TypeId} {α : Type} {E : Tr α} {hE : Fr ti T E} {e : TypeId} {xs : List α} {P : Program} {f : FuncId} {args : List Value} {K : Value → AH → Prop} (hc : ACalls P f args h (MadeW hE e h xs))
    (hk : ∀ A c h', Le h h' → SepM M n hb h' (.rw hE e n (.slice A xs.length c) xs.length xs :: Rs) → K (.slice A xs.length c) h') : CallX P f args h K :=
  CallX.same hc fun r h' ⟨b, us, ls, hn, hge, hr, g⟩ => by
    have hG : Row E n (only (fun i => (h.length ≤ i ∧ i < h'.length) ∧ i ≠ b) h') us xs ls := (hr.keep hE fun i blk e1 e2 _ => by
      rw [only_some] at e1 ⊢
      exact ⟨⟨⟨e2, look_lt e1.2⟩, e1.1⟩, e1.2⟩).low hE S.nl
    rcases hn with ⟨rfl, h1, h2⟩ | ⟨rfl, h1, h2⟩
    · have hlt := look_lt h1
      exact hk _ _ h' g (S.add g (F := fun i => h.length ≤ i ∧ i < h'.length) ⟨b, us, ls, fun i => (h.length ≤ i ∧ i < h'.length) ∧ i ≠ b, fun hh => hh.2 rfl, fun i hi => hi.1, .inl ⟨rfl, only_some.2 ⟨⟨hge, hlt⟩, h1⟩, h2⟩, Nat.le_trans S.nl hge, hG⟩ fun i hi => hi)
    · have : xs = [] := List.length_eq_zero_iff.1 h1
      subst this
      exact hk none 0 h' g (S.add g (F := fun i => h.length ≤ i ∧ i < h'.length) ⟨b, us, ls, fun i => (h.length ≤ i ∧ i < h'.length) ∧ i ≠ b, fun hh => hh.2 rfl, fun i hi => hi.1, .inr ⟨rfl, rfl, h2⟩, Nat.le_trans S.nl hge, hG⟩ fun i hi => hi)
theorem SepM.finW {h0 : AH} (S : Sep h0.length h0 h Rs) (j : Nat) {ti : TypeId} {T : List TypeId} {α : Type} {E : Tr α} {hE : Fr ti T E} {e : TypeId} {v : Value} {k : Nat} {xs : List α} (hj : gt Rs j = some (.rw hE e h0.length v k xs)) : FinX h0 (MadeW hE e h0 xs) v h :=
  FinX.here S.le.len (by
    have hk := S.rw_len j hj
    obtain ⟨F, b, us, ls, G, h1, h2, h3, h4, h5⟩ := S.get hj
    subst hk
    exact ⟨b, us, ls, h3.only, h4, h5.up hE fun i blk e => by rw [only_some] at e ⊢; exact ⟨fun hh => h1 (by rw [← hh]; exact e.1), e.2⟩, S.le⟩)
end
theorem ACalls.ofW {P : Program} {f : FuncId} {args : List Value} {h : AH} {ti : TypeId} {T : List TypeId} {α : Type} {E : Tr α} {hE : Fr ti T E} {e : TypeId} {xs : List α} (hc : ACalls P f args h (MadeW hE e h xs)) (hm : xs.length ≤ 9223372036854775807) : ACalls P f args h (Made (Node e E) h xs) :=
  ACalls.madeN (hc.mono fun r h' ⟨b, us, ls, hn, hge, hr, g⟩ => ⟨_, Row.ns (hr.up hE fun i blk e1 => (only_some.1 e1).2) hn rfl hge hm, g⟩)
end Go.Gl

/- The plain view of memory: calls, and what a call hands back. No condition. -/
import Derived.Test.YtionapmdibdfpaaGlB
import Derived.Shelf.Abstract
set_option linter.unusedVariables false
set_option linter.unusedSimpArgs false
namespace Go.Gl

/-- the view has grown -/
structure Le (h h' : AH) : Prop where
  len : h.length ≤ h'.length
  at_ : ∀ i b, look h i = some b → look h' i = some b
theorem Le.refl (h : AH) : Le h h := ⟨Nat.le_refl _, fun _ _ e => e⟩
theorem Le.trans {a b c : AH} (h : Le a b) (k : Le b c) : Le a c := ⟨Nat.le_trans h.len k.len, fun i x e => k.at_ i x (h.at_ i x e)⟩
theorem Le.push (h : AH) (b : Option Blk) : Le h (h ++ [b]) := ⟨by simp, fun i x e => look_app e⟩
theorem Le.store {h0 h : AH} {b : Nat} {x : Option Blk} (e : Le h0 h) (hb : h0.length ≤ b) : Le h0 (h.set b x) :=
  ⟨by rw [List.length_set]; exact e.len, fun i y hi => by
    have h1 := look_lt hi
    have h2 := e.at_ i y hi
    have h3 := look_lt h2
    by_cases hbl : b < h.length
    · rw [look_set hbl, if_neg (by omega)]; exact h2
    · rw [List.set_eq_of_length_le (by omega)]; exact h2⟩

/-- how the view behind a call stands to that ahead of it -/
structure CRel (ι : Nat → Io) (h : AH) (w : World) (ι' : Nat → Io) (h' : AH) (w' : World) : Prop where
  hr : HR ι' h' w'
  agree : ∀ i, i < h.length → ι' i = ι i
  len : h.length ≤ h'.length
  fr : ∀ k, k < w.heap.size → (∀ i b, look h i = some b → b.own.isSome = true → (ι i).blk ≠ k) → w'.heap[k]? = w.heap[k]?
  ow : ∀ i b, look h' i = some b → b.own.isSome = true → w.heap.size ≤ (ι' i).blk ∨ ∃ j bj, look h j = some bj ∧ bj.own.isSome = true ∧ (ι j).blk = (ι' i).blk
  sz : w.heap.size ≤ w'.heap.size
  os : w'.os = w.os
  tape : w'.tape = w.tape
  output : w'.output = w.output

def RetOK (ι : Nat → Io) (h : AH) (w : World) (Q : Value → AH → Prop) (e : Ending) (w' : World) : Prop :=
  ∃ r u h' ι', e = .returned u ∧ Q r h' ∧ VR ι' h'.length r u ∧ CRel ι h w ι' h' w'

/-- v' may stand where v stands -/
def Wk (v v' : Value) : Prop := ∀ (ι : Nat → Io) (n : Nat) (u : Value), VR ι n v u → VR ι n v' u
theorem Wk.refl (v : Value) : Wk v v := fun _ _ _ h => h
theorem Wk.nil (a : Addr) : Wk (.slice none 0 0) (.slice (some a) 0 0) := fun _ _ _ h => by cases h; exact .slZ _ _ _
theorem Wk.weak (b o k c : Nat) : Wk (.slice (some ⟨b, o, none⟩) k c) (.slice (some ⟨b, o, none⟩) k 0) := fun ι n _ h => by
  cases h with
  | slZ => exact .slZ _ _ _
  | slW b o k c hb ha => exact .slW b o k c hb ha
  | slS b k hb ha => exact .slW b 0 k _ hb ha
theorem Wk.empty (a a' : Addr) (c : Nat) : Wk (.slice (some a) 0 c) (.slice (some a') 0 0) := fun ι n _ h => by
  cases h <;> exact .slZ _ _ _
inductive WkL : List Value → List Value → Prop
  | nil : WkL [] []
  | cons {v v' : Value} {l l' : List Value} : Wk v v' → WkL l l' → WkL (v :: l) (v' :: l')
theorem WkL.refl : ∀ l, WkL l l
  | [] => .nil
  | v :: l => .cons (Wk.refl v) (WkL.refl l)
theorem WkL.length {l l' : List Value} (h : WkL l l') : l.length = l'.length := by
  induction h with
  | nil => rfl
  | cons _ _ ih => simp [ih]
theorem WkL.get {l l' : List Value} (h : WkL l l') : ∀ (i : Nat) v', l'[i]? = some v' → ∃ v, l[i]? = some v ∧ Wk v v' := by
  induction h with
  | nil => intro i v hi; simp at hi
  | cons hv _ ih => intro i v hi; cases i with
    | zero => simp at hi; subst hi; exact ⟨_, rfl, hv⟩
    | succ i => exact ih i v (by simpa using hi)

theorem Wk.agg {l l' : List Value} (hw : WkL l l') : Wk (.agg l.toArray) (.agg l'.toArray) := fun ι n u h => by
  cases h with
  | agg _ ys h1 h2 =>
    refine .agg _ _ (by simpa [hw.length] using h1) fun i hi => ?_
    have hi' : i < l'.length := by simpa using hi
    obtain ⟨v, h3, h4⟩ := hw.get i l'[i] (List.getElem?_eq_getElem hi')
    have h5 := h2 i (by rw [List.size_toArray, hw.length]; exact hi')
    have e1 : l'.toArray.getD i (.tuple #[]) = l'[i] := by simp [Array.getD_eq_getD_getElem?, List.getElem?_eq_getElem hi']
    have e2 : l.toArray.getD i (.tuple #[]) = v := by simp [Array.getD_eq_getD_getElem?, h3]
    rw [e1]
    rw [e2] at h5
    exact h4 _ _ _ h5
theorem Wk.tuple {l l' : List Value} (hw : WkL l l') : Wk (.tuple l.toArray) (.tuple l'.toArray) := fun ι n u h => by
  cases h with
  | tuple _ ys h1 h2 =>
    refine .tuple _ _ (by simpa [hw.length] using h1) fun i hi => ?_
    have hi' : i < l'.length := by simpa using hi
    obtain ⟨v, h3, h4⟩ := hw.get i l'[i] (List.getElem?_eq_getElem hi')
    have h5 := h2 i (by rw [List.size_toArray, hw.length]; exact hi')
    have e1 : l'.toArray.getD i (.tuple #[]) = l'[i] := by simp [Array.getD_eq_getD_getElem?, List.getElem?_eq_getElem hi']
    have e2 : l.toArray.getD i (.tuple #[]) = v := by simp [Array.getD_eq_getD_getElem?, h3]
    rw [e1]
    rw [e2] at h5
    exact h4 _ _ _ h5

/-- the contract of a function, over the view -/
structure ACalls (P : Program) (f : FuncId) (args : List Value) (h : AH) (Q : Value → AH → Prop) : Prop where
  enters : ∀ (xs : Array Value) (w : World), (callFunc f xs).run P w = .ok (.enter f xs) w
  calls : ∀ ι w cargs, HR ι h w → cargs.size = args.length → (∀ (i : Nat) v, args[i]? = some v → ∃ u, cargs[i]? = some u ∧ VR ι h.length v u) → Calls P f cargs w (RetOK ι h w Q)

section
variable {P : Program} {ι : Nat → Io} {h : AH} {w : World}

theorem ACalls.mono {f : FuncId} {args : List Value} {Q Q' : Value → AH → Prop} (hc : ACalls P f args h Q) (hq : ∀ r h', Q r h' → Q' r h') : ACalls P f args h Q' :=
  ⟨hc.enters, fun ι w cargs hr hs ha => (hc.calls ι w cargs hr hs ha).mono fun e w' ⟨r, u, h', ι', he, q, rest⟩ => ⟨r, u, h', ι', he, hq _ _ q, rest⟩⟩

theorem ACalls.can {f : FuncId} {args : List Value} {Q Q' : Value → AH → Prop} (hc : ACalls P f args h Q) (hq : ∀ r h', Q r h' → ∃ r', Wk r r' ∧ Q' r' h') : ACalls P f args h Q' :=
  ⟨hc.enters, fun ι w cargs hr hs ha => (hc.calls ι w cargs hr hs ha).mono fun e w' ⟨r, u, h', ι', he, q, hv, rest⟩ => by
    obtain ⟨r', h1, h2⟩ := hq _ _ q
    exact ⟨r', u, h', ι', he, h2, h1 _ _ _ hv, rest⟩⟩
theorem ACalls.wk {f : FuncId} {args args' : List Value} {Q : Value → AH → Prop} (hc : ACalls P f args' h Q) (hw : WkL args args') : ACalls P f args h Q :=
  ⟨hc.enters, fun ι w cargs hr hs ha => hc.calls ι w cargs hr (by rw [hs, hw.length]) fun i v' hi => by
    obtain ⟨v, h1, h2⟩ := hw.get i v' hi
    obtain ⟨u, h3, h4⟩ := ha i v h1
    exact ⟨u, h3, h2 _ _ _ h4⟩⟩

theorem Rel.call {Γ : Cx} {N : Nat} {t : Nat → Value} {a : Act} (hr : Rel Γ ι N t h a w) {ι' : Nat → Io} {h' : AH} {w' : World} (hc : CRel ι h w ι' h' w') : Rel Γ ι' N t h' a w' where
  defers := hr.defers
  len := hr.len
  tm := fun i hi => (hr.tm i hi).ext hc.len hc.agree
  hr := hc.hr
  agree := fun i hi => (hc.agree i (Nat.lt_of_lt_of_le hi hr.n0)).trans (hr.agree i hi)
  n0 := Nat.le_trans hr.n0 hc.len
  fr := fun k hk hS => by
    rw [hc.fr k (Nat.lt_of_lt_of_le hk hr.sz) (fun i b hl ho he => ?_)]
    · exact hr.fr k hk hS
    · rcases hr.ow i b hl ho with h1 | h1
      · omega
      · rw [he] at h1; exact hS h1
  ow := fun i b hl ho => by
    rcases hc.ow i b hl ho with h1 | ⟨j, bj, h1, h2, h3⟩
    · exact .inl (Nat.le_trans hr.sz h1)
    · rw [← h3]; exact hr.ow j bj h1 h2
  sz := Nat.le_trans hr.sz hc.sz
  os := hc.os.trans hr.os
  tape := hc.tape.trans hr.tape
  output := hc.output.trans hr.output

/-! ### a view of a view -/

structure RA (π : Nat → Io) (n0 : Nat) (h' h : AH) : Prop where
  blk : ∀ i b', look h' i = some b' → ∃ b, look h (π i).blk = some b ∧ (∀ (k : Nat) v, b'.cells[k]? = some v → ∃ u, b.cells[(π i).off + k]? = some u ∧ VR π h'.length v u) ∧
    (∀ ts, b'.own = some ts → b.own = some ts ∧ (π i).off = 0 ∧ b'.cells.length ≤ b.cells.length)
  inj : ∀ i j bi bj, look h' i = some bi → look h' j = some bj → bi.own.isSome = true → i ≠ j → (π i).blk ≠ (π j).blk
  idn : ∀ i, i < n0 → (π i).blk = i ∧ (π i).off = 0
  cap : ∀ i, (π i).cap = 1
  abs : ∀ i, (π i).abs = true
  lt : ∀ i, i < h'.length → (π i).blk < h.length
  len : n0 ≤ h'.length

def comp (ι π : Nat → Io) : Nat → Io := fun i => ⟨(ι (π i).blk).blk, (ι (π i).blk).off + (π i).off, (ι (π i).blk).cap, (ι (π i).blk).abs⟩

theorem VR.comp {π : Nat → Io} {n n' : Nat} (hcap : ∀ i, (π i).cap = 1) (hab : ∀ i, (π i).abs = true) {v u : Value} (h1 : VR π n' v u) : ∀ {x : Value}, VR ι n u x → VR (comp ι π) n' v x := by
  induction h1 with
  | any u => intro x _; exact .any x
  | bool b => intro x h2; rw [h2.bool_inv]; exact .bool b
  | int k y => intro x h2; rw [h2.int_inv]; exact .int k y
  | string s => intro x h2; rw [h2.string_inv]; exact .string s
  | nilFunc => intro x h2; cases h2; exact .nilFunc
  | nilIface => intro x h2; cases h2; exact .nilIface
  | err t v h =>
    intro x h2
    cases h2 with
    | errA => exact absurd rfl (h _)
    | err => exact absurd rfl (h _)
    | glbC => exact absurd rfl (h _)
    | glbA => exact absurd rfl (h _)
  | errA => intro x h2; cases h2 with
    | err t v h => exact .err t v h
    | errA => exact .errA
  | glbC b c k u hb h1 h2 h3 h4 => intro x h5; rw [hab b] at h3; cases h3
  | glbA b c k hb h1 h2 =>
    intro x h4
    generalize hy : (π b).blk = y at h4
    cases h4 with
    | glbC b' c' k' u' q1 q2 q3 q5 q4 => exact .glbC (ι := Gl.comp ι π) b c k x hb (by simp only [Gl.comp, hy]; exact q2) (by simp only [Gl.comp, hy, h1]; omega) (by simp only [Gl.comp, hy]; exact q5) q4
    | glbA b' c' k' q1 q2 q3 =>
      have := VR.glbA (ι := Gl.comp ι π) b c k hb (by simp only [Gl.comp, hy, h1]; omega) (by simp only [Gl.comp, hy]; exact q3)
      simp only [Gl.comp, hy] at this
      exact this
  | ptrN => intro x h2; cases h2; exact .ptrN
  | ptr b o hb =>
    intro x h2
    rw [h2.ptr_inv, ← Nat.add_assoc]
    exact .ptr (ι := Gl.comp ι π) b o hb
  | slN => intro x h2; cases h2; exact .slN
  | slZ a A c =>
    intro x h2
    cases h2 with
    | slN => exact .slZ _ _ _
    | slZ => exact .slZ _ _ _
    | slW => exact .slZ _ _ _
    | slS => exact .slZ _ _ _
    | slD => exact .slZ _ _ _
  | slD k c A =>
    intro x h2
    cases h2 <;> exact .slD _ _ _
  | mapN => intro x h2; cases h2; exact .mapN
  | map b hb =>
    intro x h2
    generalize hy : (π b).blk = y at h2
    cases h2 with
    | map b' hb' => rw [← hy]; exact VR.map (ι := Gl.comp ι π) b hb
  | slW b o k c hb ha =>
    intro x h2
    generalize hz : (π b).off + o = z at h2
    generalize hy : (π b).blk = y at h2
    cases h2 with
    | slZ a A c' => exact .slZ _ _ _
    | slW b' o' k' c' hb' ha' =>
      have := VR.slW (ι := Gl.comp ι π) b o k c' hb (by simp only [Gl.comp, hy]; exact ha')
      rw [show (Gl.comp ι π b).off + o = (ι (π b).blk).off + z by simp only [Gl.comp]; omega] at this
      rw [← hy]
      exact this
    | slS b' k' hb' ha' =>
      have e : (ι (π b).blk).off = (Gl.comp ι π b).off + o := by simp only [Gl.comp]; omega
      rw [← hy] at ha' ⊢
      rw [e]
      exact .slW (ι := Gl.comp ι π) b o k _ hb ha'
  | slS b k hb ha =>
    intro x h2
    rw [hcap b] at h2
    generalize hoff : (π b).off = of at h2
    generalize hy : (π b).blk = y at h2
    cases h2 with
    | slS b' k' hb' ha' =>
      have e : (ι (π b).blk).off = (Gl.comp ι π b).off := by simp only [Gl.comp]; omega
      rw [← hy] at ha' ⊢
      rw [e]
      exact .slS (ι := Gl.comp ι π) b k hb ha'
  | fn f xs ys zs ws e1 _ e2 _ i1 i2 =>
    intro x h2
    cases h2 with
    | fn _ _ _ zs' ws' e1' p1 e2' p2 => exact .fn f xs ys zs' ws' (e1.trans e1') (fun i hi => i1 i hi (p1 i (by omega))) (e2.trans e2') (fun i hi => i2 i hi (p2 i (by omega)))
  | agg xs ys e1 _ i1 =>
    intro x h2
    cases h2 with
    | agg _ zs e1' p1 => exact .agg xs zs (e1.trans e1') fun i hi => i1 i hi (p1 i (by omega))
  | tuple xs ys e1 _ i1 =>
    intro x h2
    cases h2 with
    | tuple _ zs e1' p1 => exact .tuple xs zs (e1.trans e1') fun i hi => i1 i hi (p1 i (by omega))

theorem HR.comp {π : Nat → Io} {n0 : Nat} {h' : AH} (hr : HR ι h w) (ra : RA π n0 h' h) : HR (comp ι π) h' w := by
  constructor
  · intro i b' hl
    obtain ⟨b, h1, h2, h3⟩ := ra.blk i b' hl
    rcases hr.blk _ b h1 with hm | ⟨g0, cs, e, fr, g1, g2, g3⟩
    · refine .inl ⟨?_, ?_⟩
      · cases hc : b'.cells with
        | nil => rfl
        | cons v l =>
          obtain ⟨u, a1, _⟩ := h2 0 v (by rw [hc]; rfl)
          rw [hm.nil] at a1; simp at a1
      · obtain ⟨es, clk, q1, q2⟩ := hm.ob
        refine ⟨es, clk, q1, fun t s hts => ?_⟩
        obtain ⟨a1, a2, _⟩ := h3 _ hts
        obtain ⟨c1, c2, c3⟩ := q2 t s a1
        exact ⟨c1, by simp only [Gl.comp]; omega, c3⟩
    refine .inr ⟨fun c hc => g0 c (h3 _ hc).1, cs, e, fr, g1, fun k v hk => ?_, fun t s hts => ?_⟩
    · obtain ⟨u, a1, a2⟩ := h2 k v hk
      obtain ⟨x, a3, a4⟩ := g2 _ u a1
      refine ⟨x, ?_, a2.comp ra.cap ra.abs a4⟩
      simp only [Gl.comp]
      rw [Nat.add_assoc]; exact a3
    · obtain ⟨a1, a2, a5⟩ := h3 _ hts
      obtain ⟨c1, c2, c3, c4, c5, c6⟩ := g3 t s a1
      exact ⟨c1, c2, by simp only [Gl.comp]; omega, c4, by omega, c6⟩
  · intro i j bi bj hi hj ho hne
    obtain ⟨b, h1, _, h3⟩ := ra.blk i bi hi
    obtain ⟨b2, h4, _, _⟩ := ra.blk j bj hj
    have hne' := ra.inj i j bi bj hi hj ho hne
    obtain ⟨ts, hts⟩ := Option.isSome_iff_exists.1 ho
    have := (h3 ts hts).1
    exact hr.inj _ _ b b2 h1 h4 (by rw [this]; rfl) hne'
  · intro i; exact hr.conc _

/-- the view h', of which cells at the ends of blocks may have been forgotten -/
structure Trunc (h' h : AH) : Prop where
  len : h'.length = h.length
  blk : ∀ i b', look h' i = some b' → ∃ b, look h i = some b ∧ b'.own = b.own ∧ b'.cells.length ≤ b.cells.length ∧ ∀ (k : Nat) v, b'.cells[k]? = some v → b.cells[k]? = some v
theorem Trunc.refl (h : AH) : Trunc h h := ⟨rfl, fun i b e => ⟨b, e, rfl, Nat.le_refl _, fun _ _ h => h⟩⟩
/-- what a function hands back, in a view of the caller's choosing -/
structure FinX (h0 : AH) (Q : Value → AH → Prop) (r : Value) (hf : AH) : Prop where
  ex : (∃ π r' h', RA π h0.length h' hf ∧ VR π h'.length r' r ∧ Q r' h') ∨ (h0.length ≤ hf.length ∧ ∃ h', Trunc h' hf ∧ Q r h')

/-- a plain result, no memory: the view is as it was -/
def idIo : Nat → Io := fun i => ⟨i, 0, 1, true⟩
theorem VR.idn {n : Nat} {v u : Value} (hv : VR ι n v u) : ∀ {m : Nat}, n ≤ m → VR idIo m v v := by
  induction hv with
  | any u => intro m hm; exact .any _
  | bool b => intro m hm; exact .bool b
  | int k x => intro m hm; exact .int k x
  | string s => intro m hm; exact .string s
  | nilFunc => intro m hm; exact .nilFunc
  | nilIface => intro m hm; exact .nilIface
  | err t v h => intro m hm; exact .errA
  | errA => intro m hm; exact .errA
  | glbC b c k u hb h1 h2 h3 h4 => intro m hm; exact VR.glbA (ι := idIo) (n := m) b c k (by omega) rfl rfl
  | glbA b c k hb h1 h2 => intro m hm; exact VR.glbA (ι := idIo) (n := m) b c k (by omega) rfl rfl
  | ptrN => intro m hm; exact .ptrN
  | ptr b o hb => intro m hm; have := VR.ptr (ι := idIo) (n := m) b o (by omega); simpa [idIo] using this
  | slN => intro m hm; exact .slN
  | slZ a A c => intro m hm; exact .slZ _ _ _
  | slW b o k c hb ha => intro m hm; have := VR.slW (ι := idIo) (n := m) b o k 0 (by omega) (.inr rfl); simpa [idIo] using this
  | slS b k hb ha => intro m hm; exact VR.slS (ι := idIo) (n := m) b k (by omega) (.inr rfl)
  | slD k c A => intro m hm; exact .slD _ _ _
  | mapN => intro m hm; exact .mapN
  | map b hb => intro m hm; exact VR.map (ι := idIo) (n := m) b (by omega)
  | fn f xs ys zs ws e1 _ e2 _ i1 i2 => intro m hm; exact .fn f _ _ _ _ rfl (fun i hi => i1 i hi hm) rfl (fun i hi => i2 i hi hm)
  | agg xs ys e1 _ i1 => intro m hm; exact .agg _ _ rfl fun i hi => i1 i hi hm
  | tuple xs ys e1 _ i1 => intro m hm; exact .tuple _ _ rfl fun i hi => i1 i hi hm

/-- all references of a value lie below n -/
def Below0 (n : Nat) (v : Value) : Prop := VR idIo n v v

/-- the view is well made: what lies in it refers to what lies in it -/
structure WfH (h : AH) : Prop where
  wf : ∀ i b, look h i = some b → ∀ v ∈ b.cells, Below0 h.length v

theorem HR.wf (hr : HR ι h w) : WfH h :=
  ⟨fun i b hl v hv => by
    obtain ⟨k, hk, e⟩ := List.getElem_of_mem hv
    obtain ⟨cs, _, _, _, g2, _⟩ := hr.cel hl (.inl (by intro e; rw [e] at hk; simp at hk))
    obtain ⟨u, _, h2⟩ := g2 k v (by rw [List.getElem?_eq_getElem hk, e])
    exact h2.idn (Nat.le_refl _)⟩

theorem RA.sub {h0 hf : AH} (hw : WfH h0) (hsub : ∀ i b, look h0 i = some b → look hf i = some b) (hlen : h0.length ≤ hf.length) : RA idIo h0.length h0 hf := by
  constructor
  · intro i b hl
    refine ⟨b, hsub i b hl, fun k v hk => ⟨v, by simpa [idIo] using hk, ?_⟩, fun ts hts => ⟨hts, rfl, Nat.le_refl _⟩⟩
    exact hw.wf i b hl v (List.mem_of_getElem? hk)
  · intro i j bi bj hi hj ho hne; exact hne
  · intro i _; exact ⟨rfl, rfl⟩
  · intro i; rfl
  · intro i; rfl
  · intro i hi; exact Nat.lt_of_lt_of_le hi hlen
  · exact Nat.le_refl _

theorem FinX.here {h0 hf : AH} {Q : Value → AH → Prop} {r : Value} (hlen : h0.length ≤ hf.length) (hq : Q r hf) : FinX h0 Q r hf := ⟨.inr ⟨hlen, hf, Trunc.refl hf, hq⟩⟩
theorem FinX.trunc {h0 hf h' : AH} {Q : Value → AH → Prop} {r : Value} (hlen : h0.length ≤ hf.length) (ht : Trunc h' hf) (hq : Q r h') : FinX h0 Q r hf := ⟨.inr ⟨hlen, h', ht, hq⟩⟩
theorem RA.trunc {hf h' : AH} (hw : WfH hf) (ht : Trunc h' hf) {n0 : Nat} (hn : n0 ≤ hf.length) : RA idIo n0 h' hf := by
  constructor
  · intro i b' hl
    obtain ⟨b, h1, h2, h3, h4⟩ := ht.blk i b' hl
    refine ⟨b, h1, fun k v hk => ⟨v, by simpa [idIo] using h4 k v hk, ?_⟩, fun ts hts => ⟨by rw [← h2]; exact hts, rfl, h3⟩⟩
    rw [ht.len]
    exact hw.wf i b h1 v (List.mem_of_getElem? (h4 k v hk))
  · intro i j bi bj hi hj ho hne; exact hne
  · intro i _; exact ⟨rfl, rfl⟩
  · intro i; rfl
  · intro i; rfl
  · intro i hi; rw [ht.len] at hi; exact hi
  · rw [ht.len]; exact hn
theorem RA.self {hf : AH} (hw : WfH hf) {n0 : Nat} (hn : n0 ≤ hf.length) : RA idIo n0 hf hf := by
  have h := RA.sub hw (fun i b e => e) (Nat.le_refl _)
  exact ⟨h.blk, h.inj, fun i hi => h.idn i (Nat.lt_of_lt_of_le hi hn), h.cap, h.abs, h.lt, hn⟩
theorem FinX.plain {h0 hf : AH} {Q : Value → AH → Prop} {r : Value} (hw : WfH h0) (hsub : ∀ i b, look h0 i = some b → look hf i = some b) (hlen : h0.length ≤ hf.length) (hr : plainV r = true) (hq : Q r h0) : FinX h0 Q r hf :=
  ⟨.inl ⟨idIo, r, h0, RA.sub hw hsub hlen, VR.const hr, hq⟩⟩

theorem fin_ι {Γι : Nat → Io} {h0 : AH} {w0 : World} {N : Nat} {t : Nat → Value} {a : Act} {ι : Nat → Io} {hf : AH} {w : World} {π : Nat → Io} {h' : AH}
    (hr : Rel ⟨w0, fun k => ∃ i b, look h0 i = some b ∧ b.own.isSome = true ∧ (Γι i).blk = k, Γι, h0.length⟩ ι N t hf a w) (ra : RA π h0.length h' hf) : (fun i => if i < h0.length then Γι i else comp ι π i) = comp ι π := by
  have hag : ∀ i, i < h0.length → (comp ι π i).blk = (Γι i).blk ∧ (comp ι π i).off = (Γι i).off ∧ (comp ι π i).cap = (Γι i).cap ∧ (comp ι π i).abs = (Γι i).abs := by
    intro i hi
    obtain ⟨h1, h2⟩ := ra.idn i hi
    have h3 := hr.agree i hi
    simp only at h3
    refine ⟨?_, ?_, ?_, ?_⟩
    · show (ι (π i).blk).blk = _; rw [h1, h3]
    · show (ι (π i).blk).off + (π i).off = _; rw [h1, h2, h3]; rfl
    · show (ι (π i).blk).cap = _; rw [h1, h3]
    · show (ι (π i).blk).abs = _; rw [h1, h3]
  funext i
  split
  · rename_i hi
    obtain ⟨e1, e2, e3, e4⟩ := hag i hi
    cases hc : comp ι π i
    cases hg : Γι i
    rw [hc, hg] at e1 e2 e3 e4
    simp only at e1 e2 e3 e4
    rw [e1, e2, e3, e4]
  · rfl

theorem CRel.fin {Γι : Nat → Io} {h0 : AH} {w0 : World} {N : Nat} {t : Nat → Value} {a : Act} {ι : Nat → Io} {hf : AH} {w : World} {π : Nat → Io} {h' : AH} (hr0 : HR Γι h0 w0)
    (hr : Rel ⟨w0, fun k => ∃ i b, look h0 i = some b ∧ b.own.isSome = true ∧ (Γι i).blk = k, Γι, h0.length⟩ ι N t hf a w) (ra : RA π h0.length h' hf) : CRel Γι h0 w0 (fun i => if i < h0.length then Γι i else comp ι π i) h' w := by
  have heq := fin_ι hr ra
  rw [heq]
  refine ⟨hr.hr.comp ra, fun i hi => ?_, ra.len, fun k hk hne => hr.fr k hk ?_, fun i b hl ho => ?_, hr.sz, hr.os, hr.tape, hr.output⟩
  · have := congrFun heq i
    simp only [hi, if_true] at this
    exact this.symm
  · rintro ⟨i, b, h1, h2, h3⟩
    exact hne i b h1 h2 h3
  · obtain ⟨b2, h1, _, h3⟩ := ra.blk i b hl
    obtain ⟨ts, hts⟩ := Option.isSome_iff_exists.1 ho
    have ho2 : b2.own.isSome = true := by rw [(h3 ts hts).1]; rfl
    rcases hr.ow _ b2 h1 ho2 with h4 | ⟨j, bj, h4, h5, h6⟩
    · exact .inl h4
    · exact .inr ⟨j, bj, h4, h5, h6⟩
end
end Go.Gl

/- The plain view of memory: what a function owns, in parts that stay apart. No condition. -/
import Derived.Test.YtionapmdibdfpaaGlL
set_option linter.unusedVariables false
set_option linter.unusedSimpArgs false
namespace Go.Gl

section
open Classical
/-- the view, as far as F goes -/
noncomputable def only : (Nat → Prop) → AH → AH
  | _, [] => []
  | F, b :: h => (if F 0 then b else none) :: only (fun i => F (i + 1)) h
theorem only_some {F : Nat → Prop} {h : AH} {i : Nat} {b : Blk} : look (only F h) i = some b ↔ F i ∧ look h i = some b := by
  induction h generalizing F i with
  | nil => cases i <;> simp [only, look]
  | cons x h ih =>
    cases i with
    | zero =>
      simp only [only, look]
      by_cases hf : F 0
      · simp [hf]
      · simp [hf]
    | succ i => simp only [only, look]; exact ih
theorem only_length (F : Nat → Prop) (h : AH) : (only F h).length = h.length := by
  induction h generalizing F with
  | nil => rfl
  | cons x h ih => simp [only, ih]
end
/-- the view without F -/
noncomputable def hide (F : Nat → Prop) (h : AH) : AH := only (fun i => ¬ F i) h
theorem only_le (F : Nat → Prop) (h : AH) : Le (only F h) h := ⟨by rw [only_length]; exact Nat.le_refl _, fun i b e => (only_some.1 e).2⟩
theorem hide_le (F : Nat → Prop) (h : AH) : Le (hide F h) h := only_le _ h
theorem hide_some {F : Nat → Prop} {h : AH} {i : Nat} {b : Blk} : look (hide F h) i = some b ↔ ¬ F i ∧ look h i = some b := only_some

/-- a part -/
inductive Res : Type 1
  | bx (b : Nat) (ty : TypeId) (s : Nat) (cells : List Value)
  | tr {ti : TypeId} {S : List TypeId} {α : Type} {E : Tr α} (hE : Fr ti S E) (n : Nat) (v : Value) (x : α)
  | rc (e : TypeId) (s n : Nat) (v : Value) (k : Nat) (cells : List Value)
  | rw {ti : TypeId} {S : List TypeId} {α : Type} {E : Tr α} (hE : Fr ti S E) (e : TypeId) (n : Nat) (v : Value) (k : Nat) (xs : List α)
  | rv {ti : TypeId} {S : List TypeId} {α : Type} {E : Tr α} (hE : Fr ti S E) (e : TypeId) (n : Nat) (v : Value) (k : Nat) (us : List Value) (xs : List α)

def Res.at_ : Res → AH → (Nat → Prop) → Prop
  | .bx b ty s cells, h, F => F b ∧ look h b = some ⟨cells, some (ty, s)⟩
  | .tr (E := E) _ n v x, h, F => ∃ l, E n (only F h) v x l
  | .rc e s n v k cells, h, F => ∃ b, NS (only F h) e s b v k cells ∧ n ≤ b
  | .rw (E := E) _ e n v k xs, h, F => ∃ b us ls, ∃ G : Nat → Prop, ¬ G b ∧ (∀ i, G i → F i) ∧ NS (only F h) e 1 b v k us ∧ n ≤ b ∧ Row E n (only G h) us xs ls
  | .rv (E := E) _ e n v k us xs, h, F => ∃ b ls, ∃ G : Nat → Prop, ¬ G b ∧ (∀ i, G i → F i) ∧ NS (only F h) e 1 b v k us ∧ n ≤ b ∧ Row E n (only G h) us xs ls

theorem Row.up {α : Type} {E : Tr α} {ti : TypeId} {S : List TypeId} (hE : Fr ti S E) {n : Nat} {h h' : AH} {us : List Value} {xs : List α} {ls : List (List Nat)} (hr : Row E n h us xs ls) (hl : ∀ i b, look h i = some b → look h' i = some b) : Row E n h' us xs ls :=
  hr.keep hE fun i b e _ _ => hl i b e
theorem Fr.up {α : Type} {E : Tr α} {ti : TypeId} {S : List TypeId} (hE : Fr ti S E) {n : Nat} {h h' : AH} {v : Value} {x : α} {l : List Nat} (he : E n h v x l) (hl : ∀ i b, look h i = some b → look h' i = some b) : E n h' v x l :=
  hE.keep _ _ _ _ _ _ he fun i b hb _ _ => hl _ _ hb

theorem Res.keep : ∀ (R : Res) (h h' : AH) (F : Nat → Prop), R.at_ h F → (∀ i b, F i → look h i = some b → look h' i = some b) → R.at_ h' F
  | .bx b ty s cells, h, h', F, ⟨h1, h2⟩, hk => ⟨h1, hk _ _ h1 h2⟩
  | .tr hE n v x, h, h', F, ⟨l, h1⟩, hk => ⟨l, hE.up h1 fun i b e => by rw [only_some] at e ⊢; exact ⟨e.1, hk _ _ e.1 e.2⟩⟩
  | .rc e s n v k cells, h, h', F, ⟨b, h1, h2⟩, hk => ⟨b, h1.keep fun e => by rw [only_some] at e ⊢; exact ⟨e.1, hk _ _ e.1 e.2⟩, h2⟩
  | .rw hE e n v k xs, h, h', F, ⟨b, us, ls, G, h1, h2, h3, h4, h5⟩, hk =>
    ⟨b, us, ls, G, h1, h2, h3.keep (fun e => by rw [only_some] at e ⊢; exact ⟨e.1, hk _ _ e.1 e.2⟩), h4, h5.up hE fun i b e => by rw [only_some] at e ⊢; exact ⟨e.1, hk _ _ (h2 _ e.1) e.2⟩⟩
  | .rv hE e n v k us xs, h, h', F, ⟨b, ls, G, h1, h2, h3, h4, h5⟩, hk =>
    ⟨b, ls, G, h1, h2, h3.keep (fun e => by rw [only_some] at e ⊢; exact ⟨e.1, hk _ _ e.1 e.2⟩), h4, h5.up hE fun i b e => by rw [only_some] at e ⊢; exact ⟨e.1, hk _ _ (h2 _ e.1) e.2⟩⟩

inductive SepL (B : Nat → Prop) (h : AH) : List Res → (Nat → Prop) → Prop
  | nil : SepL B h [] (fun _ => False)
  | cons {R : Res} {Rs : List Res} {F G : Nat → Prop} : R.at_ h F → (∀ i, F i → B i ∧ i < h.length) → (∀ i, F i → ¬ G i) → SepL B h Rs G → SepL B h (R :: Rs) (fun i => F i ∨ G i)

theorem SepL.inv {B : Nat → Prop} {h : AH} {R : Res} {Rs : List Res} {G : Nat → Prop} (S : SepL B h (R :: Rs) G) : ∃ F G', R.at_ h F ∧ (∀ i, F i → B i ∧ i < h.length) ∧ (∀ i, F i → ¬ G' i) ∧ SepL B h Rs G' ∧ ∀ i, G i ↔ F i ∨ G' i := by
  cases S with
  | cons h1 h2 h3 h4 => exact ⟨_, _, h1, h2, h3, h4, fun i => Iff.rfl⟩
theorem SepL.lt {B : Nat → Prop} {h : AH} {Rs : List Res} {G : Nat → Prop} (S : SepL B h Rs G) : ∀ i, G i → B i ∧ i < h.length := by
  induction S with
  | nil => exact fun i h => h.elim
  | cons h1 h2 h3 h4 ih => exact fun i hi => hi.elim (h2 i) (ih i)
theorem SepL.keep {B : Nat → Prop} {h h' : AH} {Rs : List Res} {G : Nat → Prop} (S : SepL B h Rs G) (hl : h.length ≤ h'.length) (hk : ∀ i b, G i → look h i = some b → look h' i = some b) : SepL B h' Rs G := by
  induction S with
  | nil => exact .nil
  | cons h1 h2 h3 h4 ih => exact .cons (Res.keep _ _ _ _ h1 fun i b hi => hk i b (.inl hi)) (fun i hi => ⟨(h2 i hi).1, Nat.lt_of_lt_of_le (h2 i hi).2 hl⟩) h3 (ih fun i b hi => hk i b (.inr hi))

def gt : List Res → Nat → Option Res
  | [], _ => none
  | R :: _, 0 => some R
  | _ :: Rs, j + 1 => gt Rs j
def st : List Res → Nat → Res → List Res
  | [], _, _ => []
  | _ :: Rs, 0, R => R :: Rs
  | R :: Rs, j + 1, x => R :: st Rs j x
def rm : List Res → Nat → List Res
  | [], _ => []
  | _ :: Rs, 0 => Rs
  | R :: Rs, j + 1 => R :: rm Rs j

/-- one part, and what the others are without it -/
theorem SepL.out {B : Nat → Prop} {h : AH} {Rs : List Res} {G : Nat → Prop} (S : SepL B h Rs G) {j : Nat} {R : Res} (hj : gt Rs j = some R) :
    ∃ F G', R.at_ h F ∧ (∀ i, F i → B i ∧ i < h.length) ∧ (∀ i, F i → ¬ G' i) ∧ SepL B h (rm Rs j) G' ∧ (∀ i, G i ↔ F i ∨ G' i) ∧
      ∀ h' R' F', h.length ≤ h'.length → R'.at_ h' F' → (∀ i, F' i → B i ∧ i < h'.length ∧ ¬ G' i) → (∀ i b, G' i → look h i = some b → look h' i = some b) → SepL B h' (st Rs j R') (fun i => F' i ∨ G' i) := by
  induction Rs generalizing j G with
  | nil => cases hj
  | cons Q Rs ih =>
    obtain ⟨F0, G0, h1, h2, h3, h4, h5⟩ := S.inv
    cases j with
    | zero =>
      simp only [gt, Option.some.injEq] at hj
      subst hj
      exact ⟨F0, G0, h1, h2, h3, h4, h5, fun h' R' F' a1 a2 a3 a4 => .cons a2 (fun i hi => ⟨(a3 i hi).1, (a3 i hi).2.1⟩) (fun i hi => (a3 i hi).2.2) (h4.keep a1 a4)⟩
    | succ j =>
      obtain ⟨F, G', k1, k2, k3, k4, k5, k6⟩ := ih h4 (j := j) hj
      refine ⟨F, fun i => F0 i ∨ G' i, k1, k2, fun i hi hh => ?_, ?_, fun i => ?_, fun h' R' F' a1 a2 a3 a4 => ?_⟩
      · rcases hh with hh | hh
        · exact h3 i hh ((k5 i).2 (.inl hi))
        · exact k3 i hi hh
      · exact .cons h1 h2 (fun i hi hh => h3 i hi ((k5 i).2 (.inr hh))) k4
      · rw [h5, k5]; exact ⟨fun hh => by rcases hh with a | a | a; exact .inr (.inl a); exact .inl a; exact .inr (.inr a), fun hh => by rcases hh with a | a | a; exact .inr (.inl a); exact .inl a; exact .inr (.inr a)⟩
      · have := k6 h' R' F' a1 a2 (fun i hi => ⟨(a3 i hi).1, (a3 i hi).2.1, fun hh => (a3 i hi).2.2 (.inr hh)⟩) (fun i b hi => a4 i b (.inr hi))
        have hc : SepL B h' (Q :: st Rs j R') (fun i => F0 i ∨ (F' i ∨ G' i)) := .cons (Res.keep _ _ _ _ h1 fun i b hi => a4 i b (.inl hi)) (fun i hi => ⟨(h2 i hi).1, Nat.lt_of_lt_of_le (h2 i hi).2 a1⟩) (fun i hi hh => by
          rcases hh with hh | hh
          · exact (a3 i hh).2.2 (.inl hi)
          · exact h3 i hi ((k5 i).2 (.inr hh))) this
        have he : (fun i => F' i ∨ (F0 i ∨ G' i)) = (fun i => F0 i ∨ (F' i ∨ G' i)) := by
          funext i; exact propext ⟨fun hh => by rcases hh with a | a | a; exact .inr (.inl a); exact .inl a; exact .inr (.inr a), fun hh => by rcases hh with a | a | a; exact .inr (.inl a); exact .inl a; exact .inr (.inr a)⟩
        rw [he]
        exact hc

/-- the view h holds the parts Rs, all of them from n on and apart from the view hb, which stays -/
structure SepM (M : Nat → Prop) (n : Nat) (hb h : AH) (Rs : List Res) : Prop where
  le : Le hb h
  nl : n ≤ h.length
  ex : ∃ G, SepL (fun i => look hb i = none ∧ n ≤ i ∧ (M i ∨ hb.length ≤ i)) h Rs G

section
variable {M : Nat → Prop} {n : Nat} {hb h : AH} {Rs : List Res}

theorem look_ge {h : AH} {i : Nat} (hi : h.length ≤ i) : look h i = none := by
  cases e : look h i with
  | none => rfl
  | some b => have := look_lt e; omega
theorem SepM.start (M : Nat → Prop) (h : AH) : SepM M h.length h h [] := ⟨Le.refl _, Nat.le_refl _, _, .nil⟩
theorem SepM.new_ok (S : SepM M n hb h Rs) {i : Nat} (hi : h.length ≤ i) : look hb i = none ∧ n ≤ i ∧ (M i ∨ hb.length ≤ i) := ⟨look_ge (Nat.le_trans S.le.len hi), Nat.le_trans S.nl hi, .inr (Nat.le_trans S.le.len hi)⟩
/-- nothing is borrowed -/
abbrev Sep (n : Nat) (hb h : AH) (Rs : List Res) : Prop := SepM (fun _ => False) n hb h Rs
theorem Sep.start (h : AH) : Sep h.length h h [] := SepM.start _ h
/-- the view grows by what is not ours -/
theorem SepM.grow (S : SepM M n hb h Rs) {h' : AH} (g : Le h h') : SepM M n hb h' Rs := by
  obtain ⟨G, hG⟩ := S.ex
  exact ⟨S.le.trans g, Nat.le_trans S.nl g.len, G, hG.keep g.len fun i b _ e => g.at_ i b e⟩
/-- one more part -/
theorem SepM.add (S : SepM M n hb h Rs) {h' : AH} (g : Le h h') {R : Res} {F : Nat → Prop} (hR : R.at_ h' F) (hF : ∀ i, F i → h.length ≤ i ∧ i < h'.length) : SepM M n hb h' (R :: Rs) := by
  obtain ⟨G, hG⟩ := S.ex
  refine ⟨S.le.trans g, Nat.le_trans S.nl g.len, _, .cons hR (fun i hi => ⟨S.new_ok (hF i hi).1, (hF i hi).2⟩) (fun i hi hg => ?_) (hG.keep g.len fun i b _ e => g.at_ i b e)⟩
  have := (hF i hi).1
  have := (hG.lt i hg).2
  omega
/-- a part changes -/
theorem SepM.step (S : SepM M n hb h Rs) {j : Nat} {R : Res} (hj : gt Rs j = some R) : ∃ F, R.at_ h F ∧ (∀ i, F i → i < h.length ∧ n ≤ i) ∧ Le hb (hide F h) ∧ SepM M n hb (hide F h) (rm Rs j) ∧
    ∀ h' R' F', h.length ≤ h'.length → R'.at_ h' F' → (∀ i, F' i → i < h'.length ∧ (F i ∨ h.length ≤ i)) → (∀ i b, ¬ F i → look h i = some b → look h' i = some b) → SepM M n hb h' (st Rs j R') := by
  obtain ⟨G, hG⟩ := S.ex
  obtain ⟨F, G', h1, h2, h3, h4, h5, h6⟩ := hG.out hj
  have hle : Le hb (hide F h) := ⟨by rw [hide, only_length]; exact S.le.len, fun i b e => hide_some.2 ⟨fun hf => (by rw [(h2 i hf).1.1] at e; cases e), S.le.at_ i b e⟩⟩
  refine ⟨F, h1, fun i hi => ⟨(h2 i hi).2, (h2 i hi).1.2.1⟩, hle, ⟨hle, by rw [hide, only_length]; exact S.nl, G', h4.keep (by rw [hide, only_length]; exact Nat.le_refl _) fun i b hi e => hide_some.2 ⟨fun hf => h3 i hf hi, e⟩⟩, fun h' R' F' a1 a2 a3 a4 => ?_⟩
  refine ⟨⟨Nat.le_trans S.le.len a1, fun i b e => a4 i b (fun hf => by rw [(h2 i hf).1.1] at e; cases e) (S.le.at_ i b e)⟩, Nat.le_trans S.nl a1, _, h6 h' R' F' a1 a2 (fun i hi => ?_) (fun i b hi e => a4 i b (fun hf => h3 i hf hi) e)⟩
  obtain ⟨k1, k2⟩ := a3 i hi
  rcases k2 with k2 | k2
  · exact ⟨(h2 i k2).1, k1, h3 i k2⟩
  · exact ⟨S.new_ok k2, k1, fun hg => by have := (h4.lt i hg).2; omega⟩
theorem SepM.get (S : SepM M n hb h Rs) {j : Nat} {R : Res} (hj : gt Rs j = some R) : ∃ F, R.at_ h F := by
  obtain ⟨F, h1, _⟩ := S.step hj
  exact ⟨F, h1⟩
theorem SepM.at_ (S : SepM M n hb h Rs) (j : Nat) {b : Nat} {ty : TypeId} {s : Nat} {cells : List Value} (hj : gt Rs j = some (.bx b ty s cells)) : look h b = some ⟨cells, some (ty, s)⟩ := by
  obtain ⟨F, _, h2⟩ := S.get hj
  exact h2
theorem SepM.ge (S : SepM M n hb h Rs) (j : Nat) {b : Nat} {ty : TypeId} {s : Nat} {cells : List Value} (hj : gt Rs j = some (.bx b ty s cells)) : n ≤ b := by
  obtain ⟨F, h1, h2, _⟩ := S.step hj
  exact (h2 _ h1.1).2
theorem SepM.tre (S : SepM M n hb h Rs) (j : Nat) {ti : TypeId} {T : List TypeId} {α : Type} {E : Tr α} {hE : Fr ti T E} {m : Nat} {v : Value} {x : α} (hj : gt Rs j = some (.tr hE m v x)) : ∃ l, E m h v x l := by
  obtain ⟨F, l, h1⟩ := S.get hj
  exact ⟨l, hE.up h1 fun i b e => (only_some.1 e).2⟩
theorem SepM.rd (S : SepM M n hb h Rs) {ti : TypeId} {T : List TypeId} {α : Type} {E : Tr α} {F : AH → Value → α → Prop} (hEF : ∀ n h v x l, E n h v x l → F h v x) (j : Nat) {hE : Fr ti T E} {m : Nat} {v : Value} {x : α} (hj : gt Rs j = some (.tr hE m v x)) : F h v x := by
  obtain ⟨l, h1⟩ := S.tre j hj
  exact hEF _ _ _ _ _ h1
theorem SepM.drop (S : SepM M n hb h Rs) (j : Nat) : SepM M n hb h (rm Rs j) := by
  cases hj : gt Rs j with
  | some R =>
    obtain ⟨G, hG⟩ := S.ex
    obtain ⟨F, G', _, _, _, h4, _⟩ := hG.out hj
    exact ⟨S.le, S.nl, G', h4⟩
  | none =>
    have : rm Rs j = Rs := by
      clear S
      induction Rs generalizing j with
      | nil => rfl
      | cons R Rs ih => cases j with
        | zero => cases hj
        | succ j => simp only [rm]; rw [ih j hj]
    rw [this]; exact S
theorem SepM.tail {R : Res} (S : SepM M n hb h (R :: Rs)) : SepM M n hb h Rs := S.drop 0
theorem SepM.front (S : SepM M n hb h Rs) (j : Nat) {R : Res} (hj : gt Rs j = some R) : SepM M n hb h (R :: rm Rs j) := by
  obtain ⟨G, hG⟩ := S.ex
  obtain ⟨F, G', h1, h2, h3, h4, _⟩ := hG.out hj
  exact ⟨S.le, S.nl, _, .cons h1 h2 h3 h4⟩
/-- a part is looked at in another way -/
theorem SepM.as (S : SepM M n hb h Rs) (j : Nat) {R R' : Res} (hj : gt Rs j = some R) (hR : ∀ F, (∀ i, F i → n ≤ i) → R.at_ h F → R'.at_ h F) : SepM M n hb h (st Rs j R') := by
  obtain ⟨F, h1, h2, _, _, h4⟩ := S.step hj
  exact h4 h R' F (Nat.le_refl _) (hR F (fun i hi => (h2 i hi).2) h1) (fun i hi => ⟨(h2 i hi).1, .inl hi⟩) (fun i b _ e => e)
/-- two parts become one -/
theorem SepM.join {R1 R2 R : Res} (S : SepM M n hb h (R1 :: R2 :: Rs)) (hR : ∀ F G, (∀ i, F i → ¬ G i) → R1.at_ h F → R2.at_ h G → R.at_ h (fun i => F i ∨ G i)) : SepM M n hb h (R :: Rs) := by
  obtain ⟨G, hG⟩ := S.ex
  obtain ⟨F1, G1, a1, a2, a3, a4, _⟩ := hG.inv
  obtain ⟨F2, G2, b1, b2, b3, b4, b5⟩ := a4.inv
  refine ⟨S.le, S.nl, _, .cons (hR F1 F2 (fun i hi hh => a3 i hi ((b5 i).2 (.inl hh))) a1 b1) (fun i hi => hi.elim (a2 i) (b2 i)) (fun i hi hg => ?_) b4⟩
  rcases hi with hi | hi
  · exact a3 i hi ((b5 i).2 (.inr hg))
  · exact b3 i hi hg

/-! ### operations -/

theorem SepM.box (S : SepM M n hb h Rs) {h' : AH} {b : Nat} {cells : List Value} {ty : TypeId} {s : Nat} (g : Le h h') (l : look h' b = some ⟨cells, some (ty, s)⟩) (e : h.length ≤ b) : SepM M n hb h' (.bx b ty s cells :: Rs) :=
  S.add g (F := fun i => i = b) ⟨rfl, l⟩ fun i hi => by subst hi; exact ⟨e, look_lt l⟩
theorem SepM.new (S : SepM M n hb h Rs) {cells : List Value} {ty : TypeId} {s : Nat} {K : Nat → AH → Prop} (hk : ∀ b h', SepM M n hb h' (.bx b ty s cells :: Rs) → K b h') : NewX h ⟨cells, some (ty, s)⟩ K :=
  NewX.intro fun b h' g l e => hk b h' (S.box g l e)
theorem SepM.newL (S : SepM M n hb h Rs) {cells : List Value} {ty : TypeId} {s : Nat} {K : Nat → AH → Prop} (hk : ∀ b h', Le h h' → SepM M n hb h' (.bx b ty s cells :: Rs) → K b h') : NewX h ⟨cells, some (ty, s)⟩ K :=
  NewX.intro fun b h' g l e => hk b h' g (S.box g l e)
theorem SepM.tree (S : SepM M n hb h Rs) {ti : TypeId} {T : List TypeId} {α : Type} {E : Tr α} (hE : Fr ti T E) {h' : AH} {v : Value} {x : α} {l : List Nat} (o : E h.length h' v x l) (g : Le h h') : SepM M n hb h' (.tr hE n v x :: Rs) := by
  refine S.add g (F := fun i => h.length ≤ i ∧ i < h'.length) ⟨l, hE.low _ _ _ _ _ _ (hE.keep _ _ (only (fun i => h.length ≤ i ∧ i < h'.length) h') _ _ _ o fun i b e hi _ => only_some.2 ⟨⟨hi, look_lt e⟩, e⟩) S.nl⟩ fun i hi => hi
theorem SepM.call (S : SepM M n hb h Rs) {ti : TypeId} {T : List TypeId} {α : Type} {E : Tr α} (hE : Fr ti T E) {P : Program} {f : FuncId} {args : List Value} {x : α} {Q K : Value → AH → Prop} (hc : ACalls P f args h Q)
    (hk : ∀ r h', Q r h' → ∃ v l, E h.length h' v x l ∧ Le h h' ∧ (SepM M n hb h' (.tr hE n v x :: Rs) → K r h')) : CallX P f args h K :=
  CallX.same hc fun r h' q => by
    obtain ⟨v, l, o, g, hk⟩ := hk r h' q
    exact hk (S.tree hE o g)
theorem SepM.store (S : SepM M n hb h Rs) (j : Nat) {b o : Nat} {ty : TypeId} {s : Nat} {cells vs : List Value} {K : AH → Prop} (hj : gt Rs j = some (.bx b ty s cells)) (hf : o + vs.length ≤ cells.length)
    (hk : ∀ h', SepM M n hb h' (st Rs j (.bx b ty s (setCells cells o vs))) → K h') : StoreX h b o vs K := by
  obtain ⟨F, h1, h2, _, _, h4⟩ := S.step hj
  refine StoreX.intro h1.2 rfl hf fun h' e1 e2 e3 _ => hk h' (h4 h' _ F (Nat.le_of_eq e1.symm) ⟨h1.1, e2⟩ (fun i hi => ⟨by rw [e1]; exact (h2 i hi).1, .inl hi⟩) fun i b' hf e => ?_)
  rw [e3 i (fun hh => by subst hh; exact hf h1.1)]; exact e

theorem SepM.put (S : SepM M n hb h Rs) (j : Nat) {b o : Nat} {ty : TypeId} {s : Nat} {cells vs : List Value} {K : AH → Prop} (hj : gt Rs j = some (.bx b ty s cells))
    (hk : ∀ h', SepM M n hb h' (st Rs j (.bx b ty s (setCells cells o vs))) → K h') (hf : Nat.ble (o + vs.length) cells.length = true := by rfl) : StoreX h b o vs K :=
  S.store j hj (Nat.le_of_ble_eq_true hf) hk
theorem NS.only {F : Nat → Prop} {e : TypeId} {s b k : Nat} {v : Value} {cells : List Value} (hn : NS (only F h) e s b v k cells) : NS h e s b v k cells := hn.keep fun e => (only_some.1 e).2

/-- append to a row of cells -/
theorem SepM.appN (S : SepM M n hb h Rs) (j : Nat) {e : TypeId} {m0 : Nat} {v : Value} {k : Nat} {cells : List Value} {ie : TI} (hj : gt Rs j = some (.rc e ie.size m0 v k cells)) (hm0 : m0 ≤ h.length)
    {m : Nat} {x : Value} {news : List Value} {K : Value → AH → Prop} (hm : 0 < m) (hx : Src h x m ie.size news) (hby : (k + m) * ie.bytes ≤ 140737488355328) (hmx : k + m ≤ maxLen)
    (hk : ∀ b' h', SepM M n hb h' (st Rs j (.rc e ie.size m0 (.slice (some ⟨b', 0, none⟩) (k + m) 1) (k + m) (cells ++ news))) → K (.slice (some ⟨b', 0, none⟩) (k + m) 1) h') : AppG h e ie v x K := by
  obtain ⟨F, ⟨b, h1, h0⟩, h2, _, _, h4⟩ := S.step hj
  refine AppG.ns h1.only hm hx hby hmx fun b' h' e1 e2 e3 => hk b' h' ?_
  have hlt := look_lt e2.blk
  refine h4 h' _ (fun i => F i ∨ i = b') e3.len ⟨b', e2.keep fun e => only_some.2 ⟨.inr rfl, e⟩, Nat.le_trans hm0 e1⟩ (fun i hi => ?_) fun i blk hi e => e3.keep i blk e fun b2 n2 ev hib => ?_
  · rcases hi with hi | rfl
    · exact ⟨Nat.lt_of_lt_of_le (h2 i hi).1 e3.len, .inl hi⟩
    · exact ⟨hlt, .inr e1⟩
  · rcases h1 with ⟨rfl, h1, _⟩ | ⟨rfl, _⟩
    · simp only [Value.slice.injEq, Option.some.injEq, Addr.mk.injEq] at ev
      obtain ⟨⟨rfl, _⟩, _⟩ := ev
      subst hib
      exact hi (only_some.1 h1).1
    · cases ev
/-- one more element, out of the box ahead -/
theorem SepM.app {b0 : Nat} {ty0 : TypeId} {s0 : Nat} {news : List Value} (S : SepM M n hb h (.bx b0 ty0 s0 news :: Rs)) (j : Nat) {e : TypeId} {s : Nat} {v : Value} {k : Nat} {cells : List Value} {ie : TI} (hj : gt Rs j = some (.rc e s n v k cells))
    {c : Nat} {K : Value → AH → Prop} (hlen : news.length = s) (hone : news.all one1 = true) (hb1 : k ≤ 10000000000)
    (hk : ∀ b' h', SepM M n hb h' (st Rs j (.rc e s n (.slice (some ⟨b', 0, none⟩) (k + 1) 1) (k + 1) (cells ++ news))) → K (.slice (some ⟨b', 0, none⟩) (k + 1) 1) h') (hs : ie.size = s := by rfl) (hby : ie.bytes ≤ 8192 := by decide) : AppG h e ie v (.slice (some ⟨b0, 0, none⟩) 1 c) K := by
  subst hs
  refine SepM.appN (Rs := .bx b0 ty0 s0 news :: Rs) S (j + 1) (m := 1) (news := news) hj S.nl (by omega) (Src.agg (S.at_ 0 rfl) hlen hone) ?_ (by simp only [maxLen]; omega) fun b' h' S => hk b' h' S.tail
  calc (k + 1) * ie.bytes ≤ (10000000000 + 1) * 8192 := Nat.mul_le_mul (by omega) hby
    _ ≤ 140737488355328 := by decide

theorem Row.snoc {α : Type} {E : Tr α} {n : Nat} {h : AH} {us : List Value} {xs : List α} {ls : List (List Nat)} (hr : Row E n h us xs ls) {u : Value} {x : α} {l : List Nat} (he : E n h u x l) (hnd : (ls ++ [l]).flatten.Nodup) : Row E n h (us ++ [u]) (xs ++ [x]) (ls ++ [l]) where
  lu := by simp [hr.lu]
  ll := by simp [hr.ll]
  nd := hnd
  el := by
    intro k u' x' m a1 a2 a3
    have hlu := hr.lu
    have hll := hr.ll
    by_cases hk : k < us.length
    · rw [List.getElem?_append_left hk] at a1
      rw [List.getElem?_append_left (by omega)] at a2 a3
      exact hr.el k u' x' m a1 a2 a3
    · rw [List.getElem?_append_right (by omega)] at a1 a2 a3
      have hk1 : k - us.length = 0 := by
        have := (List.getElem?_eq_some_iff.1 a1).1; simp at this; omega
      rw [hk1] at a1
      rw [show k - xs.length = 0 by omega] at a2
      rw [show k - ls.length = 0 by omega] at a3
      simp at a1 a2 a3; subst a1 a2 a3; exact he

theorem SepM.pair {R1 R2 : Res} (S : SepM M n hb h (R1 :: R2 :: Rs)) : ∃ F G, R1.at_ h F ∧ R2.at_ h G ∧ (∀ i, F i → ¬ G i) := by
  obtain ⟨G, hG⟩ := S.ex
  obtain ⟨F1, G1, a1, a2, a3, a4, _⟩ := hG.inv
  obtain ⟨F2, G2, b1, b2, b3, b4, b5⟩ := a4.inv
  exact ⟨F1, F2, a1, b1, fun i hi hh => a3 i hi ((b5 i).2 (.inl hh))⟩

/-- a tree joins a row of trees: its value stands in the box ahead -/
theorem SepM.appT {b0 : Nat} {ty0 : TypeId} {s0 : Nat} {u : Value} {ti : TypeId} {T : List TypeId} {α : Type} {E : Tr α} {hE : Fr ti T E} {x : α} (S : SepM M n hb h (.bx b0 ty0 s0 [u] :: .tr hE n u x :: Rs)) (j : Nat) {e : TypeId} {v : Value} {k : Nat} {xs : List α} {ie : TI} (hj : gt Rs j = some (.rw hE e n v k xs))
    {c : Nat} {K : Value → AH → Prop} (hone : one1 u = true) (hb1 : k ≤ 10000000000)
    (hk : ∀ b' h', SepM M n hb h' (st Rs j (.rw hE e n (.slice (some ⟨b', 0, none⟩) (k + 1) 1) (k + 1) (xs ++ [x]))) → K (.slice (some ⟨b', 0, none⟩) (k + 1) 1) h') (hs : ie.size = 1 := by rfl) (hby : ie.bytes ≤ 8192 := by decide) : AppG h e ie v (.slice (some ⟨b0, 0, none⟩) 1 c) K := by
  have hl0 := S.at_ 0 rfl
  have S := S.tail
  obtain ⟨G0, hG0⟩ := S.ex
  obtain ⟨F1, G1, a1, a2, a3, a4, _⟩ := hG0.inv
  obtain ⟨F, G', h1, h2, h3, h4, h5, h6⟩ := a4.out hj
  obtain ⟨b, us, ls, G, g1, g2, g3, g4, g5⟩ := h1
  obtain ⟨l, a1⟩ := a1
  have hus : us.length = k := by rcases g3 with ⟨_, _, hh⟩ | ⟨_, rfl, rfl⟩; simpa using hh; rfl
  refine AppG.ns1 g3.only (Src.one1 hl0 hone) hb1 (fun b' h' e1 e2 e3 => hk b' h' ?_) hs hby
  have hlt := look_lt e2.blk
  have hkeep : ∀ i blk, ¬ F i → look h i = some blk → look h' i = some blk := fun i blk hi e => e3.keep i blk e fun b2 n2 ev hib => by
    rcases g3 with ⟨rfl, g3, _⟩ | ⟨rfl, _⟩
    · simp only [Value.slice.injEq, Option.some.injEq, Addr.mk.injEq] at ev
      obtain ⟨⟨rfl, _⟩, _⟩ := ev
      subst hib
      exact hi (only_some.1 g3).1
    · cases ev
  have hkeepG : ∀ i blk, G i → look h i = some blk → look h' i = some blk := fun i blk hi e => e3.keep i blk e fun b2 n2 ev hib => by
    rcases g3 with ⟨rfl, g3, _⟩ | ⟨rfl, _⟩
    · simp only [Value.slice.injEq, Option.some.injEq, Addr.mk.injEq] at ev
      obtain ⟨⟨rfl, _⟩, _⟩ := ev
      subst hib
      exact g1 hi
    · cases ev
  have hF1 : ∀ i, F1 i → ¬ F i := fun i hi hf => a3 i hi ((h5 i).2 (.inl hf))
  refine ⟨⟨Nat.le_trans S.le.len e3.len, fun i blk e => hkeep i blk (fun hf => by rw [(h2 i hf).1.1] at e; cases e) (S.le.at_ i blk e)⟩, Nat.le_trans S.nl e3.len, _, h6 h' _ (fun i => (F i ∨ F1 i) ∨ i = b') e3.len ⟨b', us ++ [u], ls ++ [l], fun i => G i ∨ F1 i, ?_, ?_, e2.keep fun e => only_some.2 ⟨.inr rfl, e⟩, Nat.le_trans S.nl e1, ?_⟩ (fun i hi => ?_) (fun i blk hi e => hkeep i blk (fun hf => h3 i hf hi) e)⟩
  · rintro (hh | hh)
    · have := (h2 _ (g2 _ hh)).2; omega
    · have := (a2 _ hh).2; omega
  · rintro i (hi | hi)
    · exact .inl (.inl (g2 i hi))
    · exact .inl (.inr hi)
  · refine (g5.up hE (h' := only (fun i => G i ∨ F1 i) h') fun i blk e => ?_).snoc (hE.up a1 fun i blk e => ?_) ?_
    · rw [only_some] at e ⊢; exact ⟨.inl e.1, hkeepG i blk e.1 e.2⟩
    · rw [only_some] at e ⊢; exact ⟨.inr e.1, hkeep i blk (hF1 i e.1) e.2⟩
    · rw [List.flatten_append, List.nodup_append]
      refine ⟨g5.nd, by simpa using hE.nd _ _ _ _ _ a1, fun i hi i' hi' e => ?_⟩
      subst e
      simp at hi'
      obtain ⟨_, blk, _, k1, _⟩ := g5.leaf hE i hi
      obtain ⟨_, blk', _, k2, _⟩ := hE.leaf _ _ _ _ _ a1 i hi'
      exact hF1 i (only_some.1 k2).1 (g2 i (only_some.1 k1).1)
  · rcases hi with (hi | hi) | rfl
    · exact ⟨(h2 i hi).1, Nat.lt_of_lt_of_le (h2 i hi).2 e3.len, h3 i hi⟩
    · exact ⟨(a2 i hi).1, Nat.lt_of_lt_of_le (a2 i hi).2 e3.len, fun hg => a3 i hi ((h5 i).2 (.inr hg))⟩
    · exact ⟨S.new_ok e1, hlt, fun hg => by have := (h4.lt i hg).2; omega⟩

/-- a tree joins a row of trees with values that are told -/
theorem SepM.appV {b0 : Nat} {ty0 : TypeId} {s0 : Nat} {u : Value} {ti : TypeId} {T : List TypeId} {α : Type} {E : Tr α} {hE : Fr ti T E} {x : α} (S : SepM M n hb h (.bx b0 ty0 s0 [u] :: .tr hE n u x :: Rs)) (j : Nat) {e : TypeId} {v : Value} {k : Nat} {us : List Value} {xs : List α} {ie : TI} (hj : gt Rs j = some (.rv hE e n v k us xs))
    {c : Nat} {K : Value → AH → Prop} (hone : one1 u = true) (hb1 : k ≤ 10000000000)
    (hk : ∀ b' h', SepM M n hb h' (st Rs j (.rv hE e n (.slice (some ⟨b', 0, none⟩) (k + 1) 1) (k + 1) (us ++ [u]) (xs ++ [x]))) → K (.slice (some ⟨b', 0, none⟩) (k + 1) 1) h') (hs : ie.size = 1 := by rfl) (hby : ie.bytes ≤ 8192 := by decide) : AppG h e ie v (.slice (some ⟨b0, 0, none⟩) 1 c) K := by
  have hl0 := S.at_ 0 rfl
  have S := S.tail
  obtain ⟨G0, hG0⟩ := S.ex
  obtain ⟨F1, G1, a1, a2, a3, a4, _⟩ := hG0.inv
  obtain ⟨F, G', h1, h2, h3, h4, h5, h6⟩ := a4.out hj
  obtain ⟨b, ls, G, g1, g2, g3, g4, g5⟩ := h1
  obtain ⟨l, a1⟩ := a1
  have hus : us.length = k := by rcases g3 with ⟨_, _, hh⟩ | ⟨_, rfl, rfl⟩; simpa using hh; rfl
  refine AppG.ns1 g3.only (Src.one1 hl0 hone) hb1 (fun b' h' e1 e2 e3 => hk b' h' ?_) hs hby
  have hlt := look_lt e2.blk
  have hkeep : ∀ i blk, ¬ F i → look h i = some blk → look h' i = some blk := fun i blk hi e => e3.keep i blk e fun b2 n2 ev hib => by
    rcases g3 with ⟨rfl, g3, _⟩ | ⟨rfl, _⟩
    · simp only [Value.slice.injEq, Option.some.injEq, Addr.mk.injEq] at ev
      obtain ⟨⟨rfl, _⟩, _⟩ := ev
      subst hib
      exact hi (only_some.1 g3).1
    · cases ev
  have hkeepG : ∀ i blk, G i → look h i = some blk → look h' i = some blk := fun i blk hi e => e3.keep i blk e fun b2 n2 ev hib => by
    rcases g3 with ⟨rfl, g3, _⟩ | ⟨rfl, _⟩
    · simp only [Value.slice.injEq, Option.some.injEq, Addr.mk.injEq] at ev
      obtain ⟨⟨rfl, _⟩, _⟩ := ev
      subst hib
      exact g1 hi
    · cases ev
  have hF1 : ∀ i, F1 i → ¬ F i := fun i hi hf => a3 i hi ((h5 i).2 (.inl hf))
  refine ⟨⟨Nat.le_trans S.le.len e3.len, fun i blk e => hkeep i blk (fun hf => by rw [(h2 i hf).1.1] at e; cases e) (S.le.at_ i blk e)⟩, Nat.le_trans S.nl e3.len, _, h6 h' _ (fun i => (F i ∨ F1 i) ∨ i = b') e3.len ⟨b', ls ++ [l], fun i => G i ∨ F1 i, ?_, ?_, e2.keep fun e => only_some.2 ⟨.inr rfl, e⟩, Nat.le_trans S.nl e1, ?_⟩ (fun i hi => ?_) (fun i blk hi e => hkeep i blk (fun hf => h3 i hf hi) e)⟩
  · rintro (hh | hh)
    · have := (h2 _ (g2 _ hh)).2; omega
    · have := (a2 _ hh).2; omega
  · rintro i (hi | hi)
    · exact .inl (.inl (g2 i hi))
    · exact .inl (.inr hi)
  · refine (g5.up hE (h' := only (fun i => G i ∨ F1 i) h') fun i blk e => ?_).snoc (hE.up a1 fun i blk e => ?_) ?_
    · rw [only_some] at e ⊢; exact ⟨.inl e.1, hkeepG i blk e.1 e.2⟩
    · rw [only_some] at e ⊢; exact ⟨.inr e.1, hkeep i blk (hF1 i e.1) e.2⟩
    · rw [List.flatten_append, List.nodup_append]
      refine ⟨g5.nd, by simpa using hE.nd _ _ _ _ _ a1, fun i hi i' hi' e => ?_⟩
      subst e
      simp at hi'
      obtain ⟨_, blk, _, k1, _⟩ := g5.leaf hE i hi
      obtain ⟨_, blk', _, k2, _⟩ := hE.leaf _ _ _ _ _ a1 i hi'
      exact hF1 i (only_some.1 k2).1 (g2 i (only_some.1 k1).1)
  · rcases hi with (hi | hi) | rfl
    · exact ⟨(h2 i hi).1, Nat.lt_of_lt_of_le (h2 i hi).2 e3.len, h3 i hi⟩
    · exact ⟨(a2 i hi).1, Nat.lt_of_lt_of_le (a2 i hi).2 e3.len, fun hg => a3 i hi ((h5 i).2 (.inr hg))⟩
    · exact ⟨S.new_ok e1, hlt, fun hg => by have := (h4.lt i hg).2; omega⟩

/-! ### views of parts -/

theorem SepM.rc_bx (S : SepM M n hb h Rs) (j : Nat) {e : TypeId} {s m b k c : Nat} {cells : List Value} (hj : gt Rs j = some (.rc e s m (.slice (some ⟨b, 0, none⟩) k c) k cells)) : SepM M n hb h (st Rs j (.bx b e s cells)) :=
  S.as j hj fun F hF ⟨b', h1, h2⟩ => by
    rcases h1 with ⟨h1, h3, h4⟩ | ⟨h1, _⟩
    · simp only [Value.slice.injEq, Option.some.injEq, Addr.mk.injEq] at h1
      obtain ⟨⟨rfl, _⟩, _⟩ := h1
      exact only_some.1 h3
    · cases h1
theorem SepM.bx_rc (S : SepM M n hb h Rs) (j : Nat) {e : TypeId} {s b k : Nat} {cells : List Value} (hj : gt Rs j = some (.bx b e s cells)) (hk : cells.length = k * s) : SepM M n hb h (st Rs j (.rc e s n (.slice (some ⟨b, 0, none⟩) k 1) k cells)) :=
  S.as j hj fun F hF ⟨h1, h2⟩ => ⟨b, .inl ⟨rfl, only_some.2 ⟨h1, h2⟩, hk⟩, hF b h1⟩
/-- nil, as a row of our own -/
theorem SepM.nilrc (S : SepM M n hb h Rs) (e : TypeId) (s : Nat) : SepM M n hb h (.rc e s n (.slice none 0 0) 0 [] :: Rs) :=
  S.add (Le.refl _) (F := fun _ => False) ⟨n, .inr ⟨rfl, rfl, rfl⟩, Nat.le_refl _⟩ fun i hi => hi.elim
theorem SepM.nilrw (S : SepM M n hb h Rs) {ti : TypeId} {T : List TypeId} {α : Type} {E : Tr α} (hE : Fr ti T E) (e : TypeId) : SepM M n hb h (.rw hE e n (.slice none 0 0) 0 [] :: Rs) :=
  S.add (Le.refl _) (F := fun _ => False) ⟨n, [], [], fun _ => False, fun h => h, fun i hi => hi, .inr ⟨rfl, rfl, rfl⟩, Nat.le_refl _, Row.nil _ _ _⟩ fun i hi => hi.elim
/-- a new row, empty -/
theorem SepM.bx_rw (S : SepM M n hb h Rs) (j : Nat) {ti : TypeId} {T : List TypeId} {α : Type} {E : Tr α} (hE : Fr ti T E) {e : TypeId} {b : Nat} (hj : gt Rs j = some (.bx b e 1 [])) : SepM M n hb h (st Rs j (.rw hE e n (.slice (some ⟨b, 0, none⟩) 0 1) 0 [])) :=
  S.as j hj fun F hF ⟨h1, h2⟩ => ⟨b, [], [], fun _ => False, fun h => h, fun i hi => hi.elim, .inl ⟨rfl, only_some.2 ⟨h1, h2⟩, rfl⟩, hF b h1, Row.nil _ _ _⟩
/-- rows as trees -/
theorem SepM.rc_tr (S : SepM M n hb h Rs) (j : Nat) {ti : TypeId} {m k : Nat} {v : Value} {xs : List Int} (hj : gt Rs j = some (.rc ti 1 m v k (xs.map (.int .i64)))) (hm : xs.length ≤ 9223372036854775807) : SepM M n hb h (st Rs j (.tr (Leaf.fr ti) m v xs)) :=
  S.as j hj fun F hF ⟨b, h1, h2⟩ => by
    have hk : k = xs.length := by rcases h1 with ⟨_, _, hh⟩ | ⟨_, rfl, hh⟩; simpa using hh.symm; have := congrArg List.length hh; simpa using this.symm
    obtain ⟨l, a1, _⟩ := Leaf.ns h1 hk h2 hm
    exact ⟨l, a1⟩
theorem SepM.bx_tr (S : SepM M n hb h Rs) (j : Nat) {ti : TypeId} {b : Nat} {xs : List Int} (hj : gt Rs j = some (.bx b ti 1 (xs.map (.int .i64)))) (hm : xs.length ≤ 9223372036854775807) (c : Nat) : SepM M n hb h (st Rs j (.tr (Leaf.fr ti) n (.slice (some ⟨b, 0, none⟩) xs.length c) xs)) :=
  S.as j hj fun F hF ⟨h1, h2⟩ => ⟨[b], Leaf.of (only_some.2 ⟨h1, h2⟩) (hF b h1) hm c⟩
theorem SepM.rw_tr (S : SepM M n hb h Rs) (j : Nat) {ti : TypeId} {T : List TypeId} {α : Type} {E : Tr α} {hE : Fr ti T E} {e : TypeId} {m : Nat} {v : Value} {k : Nat} {xs : List α} (hj : gt Rs j = some (.rw hE e m v k xs)) (hm : k ≤ 9223372036854775807) : SepM M n hb h (st Rs j (.tr (Node.fr e hE) m v xs)) :=
  S.as j hj fun F hF ⟨b, us, ls, G, h1, h2, h3, h4, h5⟩ => by
    have hus : us.length = k := by rcases h3 with ⟨_, _, hh⟩ | ⟨_, rfl, rfl⟩; simpa using hh; rfl
    exact ⟨_, Row.ns (h5.up hE fun i b e => by rw [only_some] at e ⊢; exact ⟨h2 _ e.1, e.2⟩) h3 (by rw [← hus, h5.lu]) h4 (by rw [← h5.lu, hus]; exact hm)⟩
/-- what a row of trees reads as -/
theorem SepM.rdw (S : SepM M n hb h Rs) {ti : TypeId} {T : List TypeId} {α : Type} {E : Tr α} {F : AH → Value → α → Prop} (hEF : ∀ n h v x l, E n h v x l → F h v x) (j : Nat) {hE : Fr ti T E} {e : TypeId} {m : Nat} {v : Value} {k : Nat} {xs : List α} (hj : gt Rs j = some (.rw hE e m v k xs)) (hm : k ≤ 9223372036854775807) : RS F h v xs := by
  obtain ⟨G, b, us, ls, G', h1, h2, h3, h4, h5⟩ := S.get hj
  have hus : us.length = k := by rcases h3 with ⟨_, _, hh⟩ | ⟨_, rfl, rfl⟩; simpa using hh; rfl
  exact Node.reads hEF (Row.ns (h5.up hE fun i b e => (only_some.1 e).2) h3.only (by rw [← hus, h5.lu]) h4 (by rw [← h5.lu, hus]; exact hm))
theorem SepM.rdc (S : SepM M n hb h Rs) (j : Nat) {e : TypeId} {m : Nat} {v : Value} {k : Nat} {xs : List Int} (hj : gt Rs j = some (.rc e 1 m v k (xs.map (.int .i64)))) (hm : k ≤ 9223372036854775807) : RI h v xs := by
  obtain ⟨G, b, h1, h2⟩ := S.get hj
  have hk : k = xs.length := by rcases h1 with ⟨_, _, hh⟩ | ⟨_, rfl, hh⟩; simpa using hh.symm; have := congrArg List.length hh; simpa using this.symm
  obtain ⟨l, a1, _⟩ := Leaf.ns h1.only hk h2 (by omega)
  exact Leaf.reads a1
/-- the values of a row of trees -/
theorem SepM.rw_rv (S : SepM M n hb h Rs) (j : Nat) {ti : TypeId} {T : List TypeId} {α : Type} {E : Tr α} {hE : Fr ti T E} {e : TypeId} {m : Nat} {v : Value} {k : Nat} {xs : List α} (hj : gt Rs j = some (.rw hE e m v k xs)) : ∃ us, SepM M n hb h (st Rs j (.rv hE e m v k us xs)) := by
  obtain ⟨F, ⟨b, us, ls, G, h1⟩, h2, _, _, h4⟩ := S.step hj
  exact ⟨us, h4 h _ F (Nat.le_refl _) ⟨b, ls, G, h1⟩ (fun i hi => ⟨(h2 i hi).1, .inl hi⟩) (fun i b _ e => e)⟩
theorem SepM.rv_rw (S : SepM M n hb h Rs) (j : Nat) {ti : TypeId} {T : List TypeId} {α : Type} {E : Tr α} {hE : Fr ti T E} {e : TypeId} {m : Nat} {v : Value} {k : Nat} {us : List Value} {xs : List α} (hj : gt Rs j = some (.rv hE e m v k us xs)) : SepM M n hb h (st Rs j (.rw hE e m v k xs)) :=
  S.as j hj fun F _ ⟨b, ls, G, h1⟩ => ⟨b, us, ls, G, h1⟩
theorem SepM.rv_len (S : SepM M n hb h Rs) (j : Nat) {ti : TypeId} {T : List TypeId} {α : Type} {E : Tr α} {hE : Fr ti T E} {e : TypeId} {m : Nat} {v : Value} {k : Nat} {us : List Value} {xs : List α} (hj : gt Rs j = some (.rv hE e m v k us xs)) : us.length = k ∧ xs.length = k := by
  obtain ⟨F, b, ls, G, h1, h2, h3, h4, h5⟩ := S.get hj
  have hus : us.length = k := by rcases h3 with ⟨_, _, hh⟩ | ⟨_, rfl, rfl⟩; simpa using hh; rfl
  exact ⟨hus, by rw [← h5.lu]; exact hus⟩
theorem SepM.rw_len (S : SepM M n hb h Rs) (j : Nat) {ti : TypeId} {T : List TypeId} {α : Type} {E : Tr α} {hE : Fr ti T E} {e : TypeId} {m : Nat} {v : Value} {k : Nat} {xs : List α} (hj : gt Rs j = some (.rw hE e m v k xs)) : xs.length = k := by
  obtain ⟨F, b, us, ls, G, h1, h2, h3, h4, h5⟩ := S.get hj
  have hus : us.length = k := by rcases h3 with ⟨_, _, hh⟩ | ⟨_, rfl, rfl⟩; simpa using hh; rfl
  rw [← h5.lu]; exact hus
/-- what an element reads as -/
theorem SepM.rdE (S : SepM M n hb h Rs) {ti : TypeId} {T : List TypeId} {α : Type} {E : Tr α} {F : AH → Value → α → Prop} (hEF : ∀ n h v x l, E n h v x l → F h v x) (j : Nat) {hE : Fr ti T E} {e : TypeId} {m : Nat} {v : Value} {k : Nat} {us : List Value} {xs : List α} (hj : gt Rs j = some (.rv hE e m v k us xs)) {i : Nat} {u : Value} {x : α} (hu : us[i]? = some u) (hx : xs[i]? = some x) : F h u x := by
  obtain ⟨G, b, ls, G', h1, h2, h3, h4, h5⟩ := S.get hj
  have hil := (List.getElem?_eq_some_iff.1 hx).1
  obtain ⟨l, hl⟩ : ∃ l, ls[i]? = some l := ⟨ls[i]'(by rw [h5.ll]; exact hil), List.getElem?_eq_getElem _⟩
  exact hEF _ _ _ _ _ (hE.up (h5.el i u x l hu hx hl) fun i b e => (only_some.1 e).2)
/-- a new row, empty, its values told -/
theorem SepM.bx_rv (S : SepM M n hb h Rs) (j : Nat) {ti : TypeId} {T : List TypeId} {α : Type} {E : Tr α} (hE : Fr ti T E) {e : TypeId} {b : Nat} (hj : gt Rs j = some (.bx b e 1 [])) : SepM M n hb h (st Rs j (.rv hE e n (.slice (some ⟨b, 0, none⟩) 0 1) 0 [] [])) :=
  S.as j hj fun F hF ⟨h1, h2⟩ => ⟨b, [], fun _ => False, fun h => h, fun i hi => hi.elim, .inl ⟨rfl, only_some.2 ⟨h1, h2⟩, rfl⟩, hF b h1, Row.nil _ _ _⟩
/-- a tree is told in another way -/
theorem SepM.retell (S : SepM M n hb h Rs) (j : Nat) {ti : TypeId} {T : List TypeId} {α : Type} {E : Tr α} {hE : Fr ti T E} {m : Nat} {v : Value} {x x' : α} (hj : gt Rs j = some (.tr hE m v x)) (e : x = x') : SepM M n hb h (st Rs j (.tr hE m v x')) := by
  subst e
  exact S.as j hj fun F _ h => h
/-- two trees and their places -/
theorem SepM.two {ti : TypeId} {T1 T2 : List TypeId} {α β : Type} {E1 : Tr α} {E2 : Tr β} {h1 : Fr ti T1 E1} {h2 : Fr ti T2 E2} {m1 m2 : Nat} {v1 v2 : Value} {x1 : α} {x2 : β} (S : SepM M n hb h (.tr h1 m1 v1 x1 :: .tr h2 m2 v2 x2 :: Rs)) :
    ∃ l1 l2, E1 m1 h v1 x1 l1 ∧ E2 m2 h v2 x2 l2 ∧ (l1 ++ l2).Nodup := by
  obtain ⟨F, G, ⟨l1, a1⟩, ⟨l2, a2⟩, a3⟩ := S.pair
  refine ⟨l1, l2, h1.up a1 fun i b e => (only_some.1 e).2, h2.up a2 fun i b e => (only_some.1 e).2, ?_⟩
  rw [List.nodup_append]
  refine ⟨h1.nd _ _ _ _ _ a1, h2.nd _ _ _ _ _ a2, fun i hi i' hi' e => ?_⟩
  subst e
  obtain ⟨_, _, _, k1, _⟩ := h1.leaf _ _ _ _ _ a1 i hi
  obtain ⟨_, _, _, k2, _⟩ := h2.leaf _ _ _ _ _ a2 i hi'
  exact a3 i (only_some.1 k1).1 (only_some.1 k2).1
theorem SepM.three {ti : TypeId} {T1 T2 T3 : List TypeId} {α β γ : Type} {E1 : Tr α} {E2 : Tr β} {E3 : Tr γ} {h1 : Fr ti T1 E1} {h2 : Fr ti T2 E2} {h3 : Fr ti T3 E3} {m1 m2 m3 : Nat} {v1 v2 v3 : Value} {x1 : α} {x2 : β} {x3 : γ} (S : SepM M n hb h (.tr h1 m1 v1 x1 :: .tr h2 m2 v2 x2 :: .tr h3 m3 v3 x3 :: Rs)) :
    ∃ l1 l2 l3, E1 m1 h v1 x1 l1 ∧ E2 m2 h v2 x2 l2 ∧ E3 m3 h v3 x3 l3 ∧ (l1 ++ (l2 ++ l3)).Nodup := by
  obtain ⟨G, hG⟩ := S.ex
  obtain ⟨F1, G1, ⟨l1, a1⟩, a2, a3, a4, _⟩ := hG.inv
  obtain ⟨F2, G2, ⟨l2, b1⟩, b2, b3, b4, b5⟩ := a4.inv
  obtain ⟨F3, G3, ⟨l3, c1⟩, c2, c3, c4, c5⟩ := b4.inv
  have f1 : ∀ i ∈ l1, F1 i := fun i hi => by obtain ⟨_, _, _, k1, _⟩ := h1.leaf _ _ _ _ _ a1 i hi; exact (only_some.1 k1).1
  have f2 : ∀ i ∈ l2, F2 i := fun i hi => by obtain ⟨_, _, _, k1, _⟩ := h2.leaf _ _ _ _ _ b1 i hi; exact (only_some.1 k1).1
  have f3 : ∀ i ∈ l3, F3 i := fun i hi => by obtain ⟨_, _, _, k1, _⟩ := h3.leaf _ _ _ _ _ c1 i hi; exact (only_some.1 k1).1
  refine ⟨l1, l2, l3, h1.up a1 fun i b e => (only_some.1 e).2, h2.up b1 fun i b e => (only_some.1 e).2, h3.up c1 fun i b e => (only_some.1 e).2, ?_⟩
  rw [List.nodup_append, List.nodup_append]
  refine ⟨h1.nd _ _ _ _ _ a1, ⟨h2.nd _ _ _ _ _ b1, h3.nd _ _ _ _ _ c1, fun i hi i' hi' e => ?_⟩, fun i hi i' hi' e => ?_⟩
  · subst e; exact b3 i (f2 i hi) ((c5 i).2 (.inl (f3 i hi')))
  · subst e
    rcases List.mem_append.1 hi' with hi' | hi'
    · exact a3 i (f1 i hi) ((b5 i).2 (.inl (f2 i hi')))
    · exact a3 i (f1 i hi) ((b5 i).2 (.inr ((c5 i).2 (.inl (f3 i hi')))))

/-! ### numbers in boxes -/

theorem ldv_int {i : TI} (hi : i.agg = false) {xs : List Int} {k : Nat} (hk : k < xs.length) : ldv i (xs.map (Value.int .i64)) (0 + k) = some (.int .i64 xs[k]) := by
  unfold ldv
  rw [hi]
  simp [hk]
theorem setCells_int {xs : List Int} {k : Nat} (hk : k < xs.length) (y : Int) : setCells (xs.map (Value.int .i64)) k [.int .i64 y] = (xs.set k y).map (Value.int .i64) := by
  apply List.ext_getElem?
  intro i
  rw [setCells_get _ _ _ (by simp; omega)]
  simp only [List.length_singleton, List.getElem?_map, List.getElem?_set]
  by_cases h1 : k ≤ i ∧ i < k + 1
  · have : i = k := by omega
    subst this
    simp [hk]
  · rw [if_neg h1, if_neg (by omega)]
theorem SepM.loadI (S : SepM M n hb h Rs) (j : Nat) {b a : Nat} {ty : TypeId} {s : Nat} {xs : List Int} {i : TI} {K : Value → Prop} (hj : gt Rs j = some (.bx b ty s (xs.map (.int .i64)))) (hk : a < xs.length) (hK : K (.int .i64 xs[a])) (hi : i.agg = false := by rfl) : LoadX h i b (0 + a) K :=
  LoadX.same (S.at_ j hj) (ldv_int hi hk) hK
theorem SepM.storeI (S : SepM M n hb h Rs) (j : Nat) {b a : Nat} {ty : TypeId} {s : Nat} {xs : List Int} {y : Int} {K : AH → Prop} (hj : gt Rs j = some (.bx b ty s (xs.map (.int .i64)))) (hk : a < xs.length)
    (hK : ∀ h', SepM M n hb h' (st Rs j (.bx b ty s ((xs.set a y).map (.int .i64)))) → K h') : StoreX h b (0 + a) [.int .i64 y] K :=
  S.store j hj (by simp; omega) fun h' S' => hK h' (by rw [Nat.zero_add, setCells_int hk] at S'; exact S')

/-! ### trees that are lent -/
/-- a tree, within F -/
def Held {α : Type} (E : Tr α) (m : Nat) (h : AH) (F : Nat → Prop) (v : Value) (x : α) : Prop := ∃ l, E m (only F h) v x l
/-- a tree within F has become x, nothing else has changed -/
def Upd {α : Type} (E : Tr α) (m : Nat) (h : AH) (F : Nat → Prop) (v : Value) (x : α) (h' : AH) : Prop := Le (hide F h) h' ∧ ∃ F', Held E m h' F' v x ∧ ∀ i, F' i → F i ∨ h.length ≤ i
theorem hide_none {F : Nat → Prop} {h : AH} {i : Nat} (hi : F i) : look (hide F h) i = none := by
  cases e : look (hide F h) i with
  | none => rfl
  | some b => exact absurd hi (hide_some.1 e).1
/-- in the function that borrows -/
theorem SepM.lent {F : Nat → Prop} {h : AH} {ti : TypeId} {T : List TypeId} {α : Type} {E : Tr α} (hE : Fr ti T E) {m : Nat} {v : Value} {x : α} (hx : Held E m h F v x) : SepM F 0 (hide F h) h [.tr hE m v x] := by
  obtain ⟨l, hx⟩ := hx
  refine ⟨hide_le F h, Nat.zero_le _, _, .cons (F := fun i => F i ∧ i < h.length) ⟨l, hE.up hx fun i b e => ?_⟩ (fun i hi => ⟨⟨hide_none hi.1, Nat.zero_le _, .inl hi.1⟩, hi.2⟩) (fun i _ hh => hh) .nil⟩
  rw [only_some] at e ⊢
  exact ⟨⟨e.1, look_lt e.2⟩, e.2⟩
theorem SepM.updated {F : Nat → Prop} {n : Nat} {h h' : AH} {Rs : List Res} (S : SepM F n (hide F h) h' Rs) (j : Nat) {ti : TypeId} {T : List TypeId} {α : Type} {E : Tr α} {hE : Fr ti T E} {m : Nat} {v : Value} {x : α} (hj : gt Rs j = some (.tr hE m v x)) : Upd E m h F v x h' := by
  obtain ⟨G, hG⟩ := S.ex
  obtain ⟨F', G', h1, h2, _⟩ := hG.out hj
  exact ⟨S.le, F', h1, fun i hi => by have := (h2 i hi).1.2.2; rwa [show (hide F h).length = h.length from only_length _ _] at this⟩
/-- in the function that lends -/
theorem SepM.lend (S : SepM M n hb h Rs) (j : Nat) {ti : TypeId} {T : List TypeId} {α : Type} {E : Tr α} {hE : Fr ti T E} {m : Nat} {v : Value} {x : α} (hj : gt Rs j = some (.tr hE m v x)) :
    ∃ F, Held E m h F v x ∧ SepM M n hb (hide F h) (rm Rs j) ∧ ∀ h' x', Upd E m h F v x' h' → SepM M n hb h' (st Rs j (.tr hE m v x')) := by
  obtain ⟨F, h1, h2, h3, h4, h5⟩ := S.step hj
  refine ⟨F, h1, h4, fun h' x' ⟨u1, F', ⟨l, u2⟩, u3⟩ => ?_⟩
  refine h5 h' _ (fun i => F' i ∧ i < h'.length) (by have := u1.len; rwa [show (hide F h).length = h.length from only_length _ _] at this) ⟨l, hE.up u2 fun i b e => ?_⟩ (fun i hi => ⟨hi.2, u3 i hi.1⟩) fun i b hf e => u1.at_ i b (hide_some.2 ⟨hf, e⟩)
  rw [only_some] at e ⊢
  exact ⟨⟨e.1, look_lt e.2⟩, e.2⟩
end

end Go.Gl

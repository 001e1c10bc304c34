/- A plain view of memory for the proofs of this seat: blocks under numbers of our own, related to Go's memory by an embedding. No condition. -/
import Derived.Calls
import Derived.Laws.AppendOwn
set_option linter.unusedVariables false
namespace Go.Gl

/-- where a block of the view lies: Go's block, the place in it, its capacity -/
structure Io where
  blk : Nat
  off : Nat
  cap : Nat
  abs : Bool := false

/-- what a variable of a package holds: a number, or an error -/
def GK (k : Nat) (u : Value) : Prop := (k = 0 ∧ ∃ m, u = .int .i64 m) ∨ (k = 1 ∧ (u = .nilIface ∨ ∃ t v, u = .iface t v ∧ ∀ a, v ≠ .tuple a))
/-- the content of the variable that lies at Go's block c: in the view's block b -/
abbrev vGlb (b c k : Nat) : Value := .iface (c + 1) (.tuple #[.int .i64 b, .int .i64 k])
/-- some error -/
abbrev vErr : Value := .iface 0 (.tuple #[])
inductive VR (ι : Nat → Io) (n : Nat) : Value → Value → Prop
  | any (u : Value) : VR ι n (.chan none) u
  | bool (b : Bool) : VR ι n (.bool b) (.bool b)
  | int (k : IntKind) (x : Int) : VR ι n (.int k x) (.int k x)
  | string (s : ByteArray) : VR ι n (.string s) (.string s)
  | nilFunc : VR ι n .nilFunc .nilFunc
  | nilIface : VR ι n .nilIface .nilIface
  | err (t : TypeId) (v : Value) : (∀ a, v ≠ .tuple a) → VR ι n vErr (.iface t v)
  | errA : VR ι n vErr vErr
  | glbC (b c k : Nat) (u : Value) : b < n → (ι b).blk = c → (ι b).off = 0 → (ι b).abs = false → GK k u → VR ι n (vGlb b c k) u
  | glbA (b c k : Nat) : b < n → (ι b).off = 0 → (ι b).abs = true → VR ι n (vGlb b c k) (vGlb (ι b).blk c k)
  | ptrN : VR ι n (.pointer none) (.pointer none)
  | ptr (b o : Nat) : b < n → VR ι n (.pointer (some ⟨b, o, none⟩)) (.pointer (some ⟨(ι b).blk, (ι b).off + o, none⟩))
  | slN : VR ι n (.slice none 0 0) (.slice none 0 0)
  | slZ (a : Addr) (A : Option Addr) (c : Nat) : VR ι n (.slice (some a) 0 0) (.slice A 0 c)
  | slW (b o k c : Nat) : b < n → (k ≤ c ∨ (ι b).abs = true) → VR ι n (.slice (some ⟨b, o, none⟩) k 0) (.slice (some ⟨(ι b).blk, (ι b).off + o, none⟩) k c)
  | slS (b k : Nat) : b < n → (k ≤ (ι b).cap ∨ (ι b).abs = true) → VR ι n (.slice (some ⟨b, 0, none⟩) k 1) (.slice (some ⟨(ι b).blk, (ι b).off, none⟩) k (ι b).cap)
  | slD (k c : Nat) (A : Option Addr) : VR ι n (.slice (some ⟨0, 0, some 0⟩) k 0) (.slice A k c)
  | mapN : VR ι n (.map none) (.map none)
  | map (b : Nat) : b < n → VR ι n (.map (some b)) (.map (some (ι b).blk))
  | fn (f : Fn) (xs ys zs ws : Array Value) : xs.size = zs.size → (∀ i, i < xs.size → VR ι n (xs.getD i (.tuple #[])) (zs.getD i (.tuple #[]))) →
      ys.size = ws.size → (∀ i, i < ys.size → VR ι n (ys.getD i (.tuple #[])) (ws.getD i (.tuple #[]))) → VR ι n (.func f xs ys) (.func f zs ws)
  | agg (xs ys : Array Value) : xs.size = ys.size → (∀ i, i < xs.size → VR ι n (xs.getD i (.tuple #[])) (ys.getD i (.tuple #[]))) → VR ι n (.agg xs) (.agg ys)
  | tuple (xs ys : Array Value) : xs.size = ys.size → (∀ i, i < xs.size → VR ι n (xs.getD i (.tuple #[])) (ys.getD i (.tuple #[]))) → VR ι n (.tuple xs) (.tuple ys)

theorem VR.ext {ι ι' : Nat → Io} {n n' : Nat} (hn : n ≤ n') (hι : ∀ i, i < n → ι' i = ι i) {v u : Value} (h : VR ι n v u) : VR ι' n' v u := by
  induction h with
  | any u => exact .any u
  | bool b => exact .bool b
  | int k x => exact .int k x
  | string s => exact .string s
  | nilFunc => exact .nilFunc
  | nilIface => exact .nilIface
  | err t v h => exact .err t v h
  | errA => exact .errA
  | glbC b c k u hb h1 h2 h3 h4 => rw [← hι b hb] at h1 h2 h3; exact .glbC b c k u (by omega) h1 h2 h3 h4
  | glbA b c k hb h1 h2 => rw [← hι b hb] at h1 h2 ⊢; exact .glbA b c k (by omega) h1 h2
  | ptrN => exact .ptrN
  | ptr b o hb => rw [← hι b hb]; exact .ptr b o (by omega)
  | slN => exact .slN
  | slZ a A c => exact .slZ a A c
  | slW b o k c hb ha => rw [← hι b hb] at ha ⊢; exact .slW b o k c (by omega) ha
  | slS b k hb ha => rw [← hι b hb] at ha ⊢; exact .slS b k (by omega) ha
  | slD k c A => exact .slD k c A
  | mapN => exact .mapN
  | map b hb => rw [← hι b hb]; exact .map b (by omega)
  | fn f xs ys zs ws h1 _ h2 _ i1 i2 => exact .fn f xs ys zs ws h1 i1 h2 i2
  | agg xs ys h1 _ i1 => exact .agg xs ys h1 i1
  | tuple xs ys h1 _ i1 => exact .tuple xs ys h1 i1

structure Blk where
  cells : List Value
  own : Option (TypeId × Nat)

abbrev AH := List (Option Blk)

def look (h : AH) (i : Nat) : Option Blk :=
  match h, i with
  | [], _ => none
  | b :: _, 0 => b
  | _ :: h, i + 1 => look h i

theorem look_lt {h : AH} {i : Nat} {b : Blk} (e : look h i = some b) : i < h.length := by
  induction h generalizing i with
  | nil => cases i <;> simp [look] at e
  | cons x h ih => cases i with
    | zero => simp
    | succ i => simp only [look] at e; have := ih e; simp; omega

theorem look_app {h g : AH} {i : Nat} {b : Blk} (e : look h i = some b) : look (h ++ g) i = some b := by
  induction h generalizing i with
  | nil => cases i <;> simp [look] at e
  | cons x h ih => cases i with
    | zero => simpa [look] using e
    | succ i => simp only [look, List.cons_append] at e ⊢; exact ih e

theorem look_app_lt {h g : AH} {i : Nat} (hi : i < h.length) : look (h ++ g) i = look h i := by
  induction h generalizing i with
  | nil => simp at hi
  | cons x h ih => cases i with
    | zero => simp [look]
    | succ i => simp only [look, List.cons_append]; exact ih (by simpa using hi)

theorem look_app_ge (h g : AH) (j : Nat) : look (h ++ g) (h.length + j) = look g j := by
  induction h with
  | nil => simp
  | cons x h ih => rw [List.cons_append, List.length_cons, show h.length + 1 + j = (h.length + j) + 1 by omega]; simpa [look] using ih

theorem look_set {h : AH} {i j : Nat} {x : Option Blk} (hi : i < h.length) : look (h.set i x) j = if j = i then x else look h j := by
  induction h generalizing i j with
  | nil => simp at hi
  | cons y h ih => cases i with
    | zero => cases j <;> simp [look]
    | succ i => cases j with
      | zero => simp [look]
      | succ j => simp only [List.set_cons_succ, look]; rw [ih (by simpa using hi)]; simp

/-- a list of pairs of numbers with numbers, as one number -/
def pr2 (x y : Nat) : Nat := 2 ^ x * (2 * y + 1)
def z2n : Int → Nat
  | .ofNat n => 2 * n
  | .negSucc n => 2 * n + 1
def encM : List ((Int × Int) × Int) → Nat
  | [] => 0
  | p :: l => pr2 (z2n p.1.1) (pr2 (z2n p.1.2) (pr2 (z2n p.2) (encM l)))
/-- an entry of a map from pairs of numbers to numbers -/
def kvM (p : (Int × Int) × Int) : Value × Value := (.agg #[.int .i64 p.1.1, .int .i64 p.1.2], .int .i64 p.2)
/-- the entries of a map are those that the number c tells -/
def MapC (c : Nat) (es : Array MapEntry) : Prop := ∃ l, encM l = c ∧ es.toList.map (fun e => (e.key, e.val)) = l.map kvM
/-- a block that is a map: it has no cells; its content stands where other blocks have the type of their elements, and the size of these is told as 0 -/
structure MapOK (b : Blk) (ob : Option Obj) (off : Nat) : Prop where
  nil : b.cells = []
  ob : ∃ es clk, ob = some (.map es clk) ∧ ∀ t s, b.own = some (t, s) → s = 0 ∧ off = 0 ∧ MapC t es
structure HR (ι : Nat → Io) (h : AH) (w : World) : Prop where
  blk : ∀ i b, look h i = some b → MapOK b w.heap[(ι i).blk]? (ι i).off ∨ (∀ c, b.own ≠ some (c, 0)) ∧ ∃ cs e fr, w.heap[(ι i).blk]? = some (.cells cs e fr) ∧ (∀ k v, b.cells[k]? = some v → ∃ u, cs[(ι i).off + k]? = some u ∧ VR ι h.length v u) ∧
    (∀ t s, b.own = some (t, s) → e = t ∧ fr = (0, 0) ∧ (ι i).off = 0 ∧ cs.size = (ι i).cap * s ∧ b.cells.length ≤ cs.size ∧ (ι i).cap ≤ maxLen)
  inj : ∀ i j bi bj, look h i = some bi → look h j = some bj → bi.own.isSome = true → i ≠ j → (ι i).blk ≠ (ι j).blk
  conc : ∀ i, (ι i).abs = false

theorem HR.cel {ι : Nat → Io} {h : AH} {w : World} (hr : HR ι h w) {i : Nat} {b : Blk} (hl : look h i = some b) (hb : b.cells ≠ [] ∨ ∃ t s, b.own = some (t, s) ∧ s ≠ 0) :
    ∃ cs e fr, w.heap[(ι i).blk]? = some (.cells cs e fr) ∧ (∀ (k : Nat) v, b.cells[k]? = some v → ∃ u, cs[(ι i).off + k]? = some u ∧ VR ι h.length v u) ∧
    (∀ t s, b.own = some (t, s) → e = t ∧ fr = (0, 0) ∧ (ι i).off = 0 ∧ cs.size = (ι i).cap * s ∧ b.cells.length ≤ cs.size ∧ (ι i).cap ≤ maxLen) := by
  rcases hr.blk i b hl with hm | hm
  · exfalso
    obtain ⟨es, clk, _, h3⟩ := hm.ob
    rcases hb with hb | ⟨t, s, h1, h2⟩
    · exact hb hm.nil
    · exact h2 (h3 t s h1).1
  · exact hm.2

structure Cx where
  w0 : World
  S : Nat → Prop
  ι0 : Nat → Io
  n0 : Nat

structure Rel (Γ : Cx) (ι : Nat → Io) (N : Nat) (t : Nat → Value) (h : AH) (a : Act) (w : World) : Prop where
  defers : a.defers = []
  len : a.tmps.size = N
  tm : ∀ i, i < N → VR ι h.length (t i) (a.tmps.getD i undef)
  hr : HR ι h w
  agree : ∀ i, i < Γ.n0 → ι i = Γ.ι0 i
  n0 : Γ.n0 ≤ h.length
  fr : ∀ k, k < Γ.w0.heap.size → ¬ Γ.S k → w.heap[k]? = Γ.w0.heap[k]?
  ow : ∀ i b, look h i = some b → b.own.isSome = true → Γ.w0.heap.size ≤ (ι i).blk ∨ Γ.S (ι i).blk
  sz : Γ.w0.heap.size ≤ w.heap.size
  os : w.os = Γ.w0.os
  tape : w.tape = Γ.w0.tape
  output : w.output = Γ.w0.output

abbrev APost := Exit → (Nat → Value) → AH → Prop

def Post (Γ : Cx) (N : Nat) (Q : APost) : Exit → Act → World → Prop
  | .panic _, _, _ => False
  | .outgrown, _, _ => False
  | e, a, w => ∃ ι t h, Rel Γ ι N t h a w ∧ Q e t h

def AWp (P : Program) (N : Nat) (c : Code) (Q : APost) (t : Nat → Value) (h : AH) : Prop :=
  ∀ Γ ι a w, Rel Γ ι N t h a w → c.wp P (Post Γ N Q) a w

section
variable {P : Program} {N : Nat} {Q : APost} {t : Nat → Value} {h : AH}

theorem Post.intro {Γ : Cx} {e : Exit} {ι : Nat → Io} {t : Nat → Value} {h : AH} {a : Act} {w : World} (he : (∀ c, e ≠ .panic c) ∧ e ≠ .outgrown) (hr : Rel Γ ι N t h a w) (hq : Q e t h) : Post Γ N Q e a w := by
  cases e with
  | panic c => exact absurd rfl (he.1 c)
  | outgrown => exact absurd rfl he.2
  | _ => exact ⟨ι, t, h, hr, hq⟩

def ok1 : Exit → Prop
  | .panic _ => False
  | .outgrown => False
  | _ => True

theorem Post.mono {Γ : Cx} {Q' : APost} (hh : ∀ e t h, Q e t h → Q' e t h) : ∀ e a w, Post Γ N Q e a w → Post Γ N Q' e a w := by
  intro e a w hp
  cases e with
  | panic c => exact hp
  | outgrown => exact hp
  | _ => obtain ⟨ι, t, h, hr, hq⟩ := hp; exact ⟨ι, t, h, hr, hh _ _ _ hq⟩

theorem AWp.mono {c : Code} {Q' : APost} (hh : ∀ e t h, Q e t h → Q' e t h) (hc : AWp P N c Q t h) : AWp P N c Q' t h :=
  fun Γ ι a w hr => wp_mono (hc Γ ι a w hr) (Post.mono hh)

theorem AWp.skip (hq : Q .normal t h) : AWp P N .skip Q t h := fun Γ ι a w hr => wp_skip ⟨ι, t, h, hr, hq⟩
theorem AWp.exit {id : Nat} (hq : Q (.exit id) t h) : AWp P N (.exit id) Q t h := fun Γ ι a w hr => wp_exit ⟨ι, t, h, hr, hq⟩
theorem AWp.label {l : Nat} (hq : Q .normal t h) : AWp P N (.label l) Q t h := fun Γ ι a w hr => wp_label ⟨ι, t, h, hr, hq⟩
theorem AWp.ret (hq : Q .ret t h) : AWp P N .ret Q t h := fun Γ ι a w hr => wp_ret ⟨ι, t, h, hr, hq⟩

def thenQ (next : (Nat → Value) → AH → Prop) (Q : APost) : APost
  | .normal, t, h => next t h
  | e, t, h => Q e t h

theorem AWp.seq {x y : Code} (hx : AWp P N x (thenQ (AWp P N y Q) Q) t h) : AWp P N (.seq x y) Q t h := by
  intro Γ ι a w hr
  refine wp_seq (wp_mono (hx Γ ι a w hr) ?_)
  intro e a w hp
  cases e with
  | normal => obtain ⟨ι, t, h, hr, hq⟩ := hp; exact hq Γ ι a w hr
  | panic c => exact hp
  | outgrown => exact hp
  | exit id => obtain ⟨ι, t, h, hr, hq⟩ := hp; exact ⟨ι, t, h, hr, hq⟩
  | goto l => obtain ⟨ι, t, h, hr, hq⟩ := hp; exact ⟨ι, t, h, hr, hq⟩
  | ret => obtain ⟨ι, t, h, hr, hq⟩ := hp; exact ⟨ι, t, h, hr, hq⟩

def blockQ (id : Nat) (Q : APost) : APost
  | .exit id', t, h => match Nat.beq id' id with | true => Q .normal t h | false => Q (.exit id') t h
  | e, t, h => Q e t h

theorem AWp.block {id : Nat} {c : Code} (hc : AWp P N c (blockQ id Q) t h) : AWp P N (.block id c) Q t h := by
  intro Γ ι a w hr
  refine wp_block (wp_mono (hc Γ ι a w hr) ?_)
  intro e a w hp
  cases e with
  | exit id' =>
    obtain ⟨ι, t, h, hr, hq⟩ := hp
    simp only [Exit.inBlock]
    simp only [blockQ] at hq
    split
    · rename_i e; subst e; rw [Nat.beq_refl] at hq; exact ⟨ι, t, h, hr, hq⟩
    · rename_i e
      have : Nat.beq id' id = false := by rw [← Bool.not_eq_true]; intro hb; exact e (Nat.eq_of_beq_eq_true hb)
      rw [this] at hq
      exact ⟨ι, t, h, hr, hq⟩
  | normal => exact hp
  | panic c => exact hp
  | outgrown => exact hp
  | goto l => exact hp
  | ret => exact hp

theorem wp_loop_n {c : Code} {Q : Exit → Act → World → Prop} (I : Nat → Act → World → Prop)
    (round : ∀ n a w, I n a w → c.wp P (Exit.then (fun a' w' => ∃ m, m < n ∧ I m a' w') Q) a w) : ∀ n a w, I n a w → (Code.loop c).wp P Q a w := by
  intro n0 a w h0 b k cs
  have key : ∀ n a w, I n a w → ∃ e a' w', Q e a' w' ∧ Arrives P (lone (b.at a (.code c :: .inLoop c :: k)) cs w) b k cs e a' w' := by
    intro n
    induction n using Nat.strongRecOn with
    | _ n ih =>
      intro a w hI
      obtain ⟨e, a₁, w₁, hq, harr⟩ := round n a w hI b (.inLoop c :: k) cs
      cases e with
      | normal =>
        obtain ⟨m, hlt, hI₁⟩ := hq
        obtain ⟨e₂, a₂, w₂, hq₂, harr₂⟩ := ih m hlt a₁ w₁ hI₁
        exact ⟨e₂, a₂, w₂, hq₂, .of_steps (Steps.trans harr (.one step_inLoop)) harr₂⟩
      | exit id => exact ⟨_, a₁, w₁, hq, .pass (x := .inLoop c) rfl (fun _ _ => .inl (by simp)) harr⟩
      | goto l => exact ⟨_, a₁, w₁, hq, .pass (x := .inLoop c) rfl (fun _ _ => .inl (by simp)) harr⟩
      | ret => exact ⟨_, a₁, w₁, hq, .pass (x := .inLoop c) rfl (fun _ _ => .inl (by simp)) harr⟩
      | panic ch => exact ⟨_, a₁, w₁, hq, .pass (x := .inLoop c) rfl (fun _ _ => .inl (by simp)) harr⟩
      | outgrown => exact ⟨_, a₁, w₁, hq, .pass (x := .inLoop c) rfl (fun _ _ => .inl (by simp)) harr⟩
  obtain ⟨e, a', w', hq, harr⟩ := key n0 a w h0
  exact ⟨e, a', w', hq, .of_steps (.one step_loop) harr⟩

/-- a frame in which the slots ks alone are known -/
def mkT : List Nat → List Value → Nat → Value
  | k :: ks, v :: vs => fun i => match Nat.beq i k with | true => v | false => mkT ks vs i
  | _, _ => fun _ => .chan none
def getT (t : Nat → Value) : List Nat → List Value
  | [] => []
  | k :: ks => t k :: getT t ks

theorem mkT_getT (t : Nat → Value) (ks : List Nat) (i : Nat) : mkT ks (getT t ks) i = t i ∨ mkT ks (getT t ks) i = .chan none := by
  induction ks with
  | nil => right; rfl
  | cons k ks ih =>
    simp only [getT, mkT]
    cases e : Nat.beq i k with
    | true => left; rw [Nat.eq_of_beq_eq_true e]
    | false => exact ih

theorem Rel.forget {Γ : Cx} {ι : Nat → Io} {t t' : Nat → Value} {a : Act} {w : World} (hr : Rel Γ ι N t h a w) (ht : ∀ i, t' i = t i ∨ t' i = .chan none) : Rel Γ ι N t' h a w :=
  { hr with tm := fun i hi => by rcases ht i with e | e <;> rw [e]; exact hr.tm i hi; exact .any _ }

/-- a loop: ks: the slots that live at its head; I: what holds there, with a number that goes down -/
theorem AWp.loop {c : Code} (ks : List Nat) (I : Nat → List Value → AH → Prop) (n : Nat) (h0 : I n (getT t ks) h)
    (round : ∀ n vs h, I n vs h → AWp P N c (thenQ (fun t' h' => ∃ m, m < n ∧ I m (getT t' ks) h') Q) (mkT ks vs) h) : AWp P N (.loop c) Q t h := by
  intro Γ ι a w hr
  refine wp_loop_n (fun n a w => ∃ ι vs h, Rel Γ ι N (mkT ks vs) h a w ∧ I n vs h) ?_ n a w ⟨ι, _, h, hr.forget (mkT_getT t ks), h0⟩
  rintro n a w ⟨ι, vs, h, hr, hI⟩
  refine wp_mono (round n vs h hI Γ ι a w hr) ?_
  intro e a w hp
  cases e with
  | normal =>
    obtain ⟨ι, t, h, hr, m, hm, hq⟩ := hp
    exact ⟨m, hm, ι, _, h, hr.forget (mkT_getT t ks), hq⟩
  | panic c => exact hp
  | outgrown => exact hp
  | exit id => obtain ⟨ι, t, h, hr, hq⟩ := hp; exact ⟨ι, t, h, hr, hq⟩
  | goto l => obtain ⟨ι, t, h, hr, hq⟩ := hp; exact ⟨ι, t, h, hr, hq⟩
  | ret => obtain ⟨ι, t, h, hr, hq⟩ := hp; exact ⟨ι, t, h, hr, hq⟩

def ev (t : Nat → Value) : Operand → Value
  | .tmp i => t i
  | .const v => v
  | .global g => .chan none
  | .func f => .func (.func f) #[] #[]

/-- constants that may stand in the code -/
def plainV : Value → Bool
  | .bool _ | .int _ _ | .string _ | .nilFunc | .nilIface | .pointer none | .slice none 0 0 | .map none => true
  | _ => false

theorem VR.const {ι : Nat → Io} {n : Nat} {v : Value} (hv : plainV v = true) : VR ι n v v := by
  cases v with
  | bool b => exact .bool b
  | int k x => exact .int k x
  | string s => exact .string s
  | nilFunc => exact .nilFunc
  | nilIface => exact .nilIface
  | pointer a => cases a with
    | none => exact .ptrN
    | some a => simp [plainV] at hv
  | slice a n c =>
    cases a with
    | none => cases n <;> cases c <;> first | exact .slN | simp [plainV] at hv
    | some a => simp [plainV] at hv
  | map a => cases a with
    | none => exact .mapN
    | some a => simp [plainV] at hv
  | _ => simp [plainV] at hv

theorem VR.und {ι : Nat → Io} {n : Nat} : VR ι n (.tuple #[]) undef := .tuple #[] #[] rfl fun i hi => absurd hi (by simp)
theorem VR.und_inv {ι : Nat → Io} {n : Nat} {u : Value} (h : VR ι n (.tuple #[]) u) : u = undef := by
  cases h with
  | tuple _ ys h1 _ =>
    have : ys = #[] := Array.eq_empty_of_size_eq_zero h1.symm
    rw [this]; rfl
theorem VR.bool_inv {ι : Nat → Io} {n : Nat} {b : Bool} {u : Value} (h : VR ι n (.bool b) u) : u = .bool b := by cases h; rfl
theorem VR.int_inv {ι : Nat → Io} {n : Nat} {k : IntKind} {x : Int} {u : Value} (h : VR ι n (.int k x) u) : u = .int k x := by cases h; rfl
theorem VR.string_inv {ι : Nat → Io} {n : Nat} {s : ByteArray} {u : Value} (h : VR ι n (.string s) u) : u = .string s := by cases h; rfl
theorem VR.ptr_inv {ι : Nat → Io} {n b o : Nat} {u : Value} (h : VR ι n (.pointer (some ⟨b, o, none⟩)) u) : u = .pointer (some ⟨(ι b).blk, (ι b).off + o, none⟩) := by cases h; rfl

/-- an operand's value in a frame of N slots -/
def evN (N : Nat) (t : Nat → Value) : Operand → Value
  | .tmp i => match Nat.blt i N with | true => t i | false => .chan none
  | .const v => match plainV v with | true => v | false => .chan none
  | .global _ => .chan none
  | .func f => .func (.func f) #[] #[]

theorem Rel.ev {Γ : Cx} {ι : Nat → Io} {a : Act} {w : World} (hr : Rel Γ ι N t h a w) (x : Operand) : VR ι h.length (evN N t x) (a.eval x) := by
  cases x with
  | tmp i =>
    simp only [evN, Act.eval]
    split
    · rename_i e; exact hr.tm i (by simpa [Nat.blt_eq] using e)
    · exact .any _
  | const v =>
    simp only [evN, Act.eval]
    split
    · rename_i e; exact VR.const e
    · exact .any _
  | global g => exact .any _
  | func f => exact .fn _ _ _ _ _ rfl (by simp) rfl (by simp)

theorem AWp.cond {c : Operand} {x y : Code} (b : Bool) (hc : evN N t c = .bool b) (hx : b = true → AWp P N x Q t h) (hy : b = false → AWp P N y Q t h) : AWp P N (.cond c x y) Q t h := by
  intro Γ ι a w hr
  have := hr.ev c
  rw [hc] at this
  refine wp_cond this.bool_inv ?_
  cases b with
  | true => exact hx rfl Γ ι a w hr
  | false => exact hy rfl Γ ι a w hr

def upd (t : Nat → Value) (d : Nat) (v : Value) : Nat → Value := fun i => match Nat.beq i d with | true => v | false => t i

theorem Rel.put {Γ : Cx} {ι : Nat → Io} {a : Act} {w : World} (hr : Rel Γ ι N t h a w) {v u : Value} (hv : VR ι h.length v u) (d : Nat) (hd : d < N) : Rel Γ ι N (upd t d v) h (a.put (some d) u) w := by
  refine { hr with len := by simpa [Act.put] using hr.len, tm := fun i hi => ?_ }
  simp only [upd, Act.put]
  split
  · rename_i e
    have := Nat.eq_of_beq_eq_true e
    subst this
    simpa [Array.getD_eq_getD_getElem?, hr.len, hi] using hv
  · rename_i e
    have hne : i ≠ d := fun he => by subst he; rw [Nat.beq_refl] at e; cases e
    have := hr.tm i hi
    simpa [Array.getD_eq_getD_getElem?, Array.getElem?_setIfInBounds, Ne.symm hne] using this

end
end Go.Gl

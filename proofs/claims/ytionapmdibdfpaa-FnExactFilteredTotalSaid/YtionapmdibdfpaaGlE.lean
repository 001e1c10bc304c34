/- The plain view of memory: the code, run over the view. No condition. -/
import Derived.Test.YtionapmdibdfpaaGlD
import Derived.Test.YtionapmdibdfpaaGlMp
import Derived.Great.BuildSlice
set_option linter.unusedVariables false
set_option linter.unusedSimpArgs false
namespace Go.Gl

def kEq : IntKind → IntKind → Bool
  | .i64, .i64 => true
  | .i32, .i32 => true
  | .i16, .i16 => true
  | .i8, .i8 => true
  | .u64, .u64 => true
  | .u32, .u32 => true
  | .u16, .u16 => true
  | .u8, .u8 => true
  | _, _ => false
theorem kEq_eq {a b : IntKind} (h : kEq a b = true) : a = b := by cases a <;> cases b <;> first | rfl | simp [kEq] at h
def onT (b : Bool) (p : Prop) : Prop := match b with | true => p | false => False
theorem onT_inv {b : Bool} {p : Prop} (h : onT b p) : b = true ∧ p := by cases b <;> simp [onT] at h; exact ⟨rfl, h⟩

structure BIf (c : Bool) (x y : Prop) : Prop where
  t : c = true → x
  f : c = false → y
theorem BIf.yes {c : Bool} {x y : Prop} (hc : c = true) (h : x) : BIf c x y := ⟨fun _ => h, fun e => by rw [hc] at e; cases e⟩
theorem BIf.no {c : Bool} {x y : Prop} (hc : c = false) (h : y) : BIf c x y := ⟨fun e => (by rw [hc] at e; cases e), fun _ => h⟩

/-- an integer that has to fit -/
structure WR (k : IntKind) (x : Int) (f : Int → Prop) : Prop where
  out : f (k.wrap x)
theorem WR.i64 {x : Int} {f : Int → Prop} (h : f x) (h1 : -9223372036854775808 ≤ x := by omega) (h2 : x ≤ 9223372036854775807 := by omega) : WR .i64 x f :=
  ⟨by rw [show IntKind.i64.wrap x = x by rw [IntKind.wrap_i64]; omega]; exact h⟩
theorem WR.as {x r : Int} {f : Int → Prop} (hr : x = r) (h : f r) (h1 : -9223372036854775808 ≤ r := by omega) (h2 : r ≤ 9223372036854775807 := by omega) : WR .i64 x f := by
  subst hr; exact WR.i64 h
structure TM (a b : Int) (f : Int → Prop) : Prop where
  nz : b ≠ 0
  out : f (a.tmod b)
theorem TM.pos {a b : Int} {f : Int → Prop} (h : f (a % b)) (ha : 0 ≤ a := by omega) (hb : 0 < b := by omega) : TM a b f :=
  ⟨by omega, by rw [Int.tmod_eq_emod_of_nonneg ha]; exact h⟩
structure TD (a b : Int) (f : Int → Prop) : Prop where
  nz : b ≠ 0
  out : f (a.tdiv b)

/-- two strings, one behind the other -/
structure AddS (a b : ByteArray) (f : ByteArray → Prop) : Prop where
  le : a.size + b.size ≤ 9223372036854775807
  out : f (a ++ b)
def binX (isB : Bool) (ar : Option (Nat × IntKind)) (op : BinOp) (x y : Value) (K : Value → Prop) : Prop :=
  match op, x, y with
  | .add, .int k a, .int k' b => onT (kEq k k') (WR k (a + b) fun r => K (.int k r))
  | .sub, .int k a, .int k' b => onT (kEq k k') (WR k (a - b) fun r => K (.int k r))
  | .mul, .int k a, .int k' b => onT (kEq k k') (WR k (a * b) fun r => K (.int k r))
  | .rem, .int k a, .int k' b => onT (kEq k k') (TM a b fun r => K (.int k r))
  | .quo, .int k a, .int k' b => onT (kEq k k') (TD a b fun q => WR k q fun r => K (.int k r))
  | .eql, .int k a, .int k' b => onT (kEq k k') (K (.bool (a == b)))
  | .neq, .int k a, .int k' b => onT (kEq k k') (K (.bool (a != b)))
  | .lss, .int k a, .int k' b => onT (kEq k k') (K (.bool (decide (a < b))))
  | .leq, .int k a, .int k' b => onT (kEq k k') (K (.bool (decide (a ≤ b))))
  | .gtr, .int k a, .int k' b => onT (kEq k k') (K (.bool (decide (a > b))))
  | .geq, .int k a, .int k' b => onT (kEq k k') (K (.bool (decide (a ≥ b))))
  | .add, .string a, .string b => AddS a b fun s => K (.string s)
  | .eql, .string a, .string b => K (.bool (a.toList == b.toList))
  | .neq, .string a, .string b => K (.bool !(a.toList == b.toList))
  | .eql, .bool a, .bool b => onT isB (K (.bool (a == b)))
  | .neq, .bool a, .bool b => onT isB (K (.bool (a != b)))
  | .eql, .agg a, .agg b => eqA ar a.toList b.toList fun r => K (.bool r)
  | .neq, .agg a, .agg b => eqA ar a.toList b.toList fun r => K (.bool !r)
  | .shr, .int k a, .int _ b => 0 ≤ b ∧ K (.int k (a.fdiv (2 ^ min b.toNat k.bits)))
  | .and, .int k a, .int k' b => onT (kEq k k') (K (.int k (k.wrap (BitVec.ofInt k.bits a &&& BitVec.ofInt k.bits b).toNat)))
  | _, _, _ => False

theorem equal_bool {P : Program} {ty : TypeId} (hk : P.underlying ty = some .bool) (a b : Bool) (w : World) : (Op.equal ty (.bool a) (.bool b)).run P w = .ok (a == b) w := by
  have : ∀ d, (Op.equalIn (d + 1) ty (.bool a) (.bool b)).run P w = .ok (a == b) w := by
    intro d
    simp [Op.equalIn, run_underlying hk]
  exact this 9999
theorem binX_ok {isB : Bool} {ar : Option (Nat × IntKind)} {P : Program} {ι : Nat → Io} {n : Nat} {op : BinOp} {ty : TypeId} {x y : Operand} {a b u v : Value} {K : Value → Prop} {w : World} (hB : isB = true → P.underlying ty = some .bool) (hA : ∀ n k, ar = some (n, k) → ∃ e, P.underlying ty = some (.array n e) ∧ P.underlying e = some (.int k) ∧ P.cellsOf e = 1) (h : binX isB ar op a b K) (hu : VR ι n a u) (hv : VR ι n b v) :
    ∃ r, (do eqGuard op ty x y u v; binOp op ty u v : Sem Value).run P w = .ok r w ∧ VR ι n r r ∧ K r := by
  unfold binX at h
  split at h
  case h_12 a b =>
    rw [hu.string_inv, hv.string_inv]
    refine ⟨_, ?_, .string _, h.out⟩
    have h1 : (a.size : Int) + b.size ≤ 9223372036854775807 := by have := h.le; omega
    simp [eqGuard, binOp, Op.stringOp]
    exact h1
  case h_13 => rw [hu.string_inv, hv.string_inv]; exact ⟨_, by simp [eqGuard, binOp, Op.stringOp], .bool _, h⟩
  case h_14 => rw [hu.string_inv, hv.string_inv]; exact ⟨_, by simp [eqGuard, binOp, Op.stringOp], .bool _, h⟩
  case h_15 =>
    obtain ⟨hk, h2⟩ := onT_inv h
    rw [hu.bool_inv, hv.bool_inv]
    exact ⟨_, by simp [eqGuard, binOp, equal_bool (hB hk)], .bool _, h2⟩
  case h_16 a' b' =>
    obtain ⟨hk, h2⟩ := onT_inv h
    rw [hu.bool_inv, hv.bool_inv]
    exact ⟨_, by cases a' <;> cases b' <;> simp [eqGuard, binOp, equal_bool (hB hk)], .bool _, h2⟩
  case h_17 a' b' =>
    obtain ⟨r, h1, h2, h3, a2, b2, rfl, rfl⟩ := eqA_ok hA h hu hv
    exact ⟨_, by simp [binOp, h2, h3], .bool _, h1⟩
  case h_18 a' b' =>
    obtain ⟨r, h1, h2, h3, a2, b2, rfl, rfl⟩ := eqA_ok hA h hu hv
    exact ⟨_, by simp [binOp, h2, h3], .bool _, h1⟩
  case h_19 =>
    rw [hu.int_inv, hv.int_inv]
    have h0 := h.1
    exact ⟨_, by simp [eqGuard, binOp, Op.shift, show ¬ _ < (0 : Int) from Int.not_lt.2 h0], .int _ _, h.2⟩
  case h_21 => exact h.elim
  all_goals
    obtain ⟨hk, h2⟩ := onT_inv h
    clear h
    have := kEq_eq hk
    subst this
    rw [hu.int_inv, hv.int_inv]
  case h_1 => exact ⟨_, by simp [eqGuard, binOp, Op.intArith], .int _ _, h2.out⟩
  case h_2 => exact ⟨_, by simp [eqGuard, binOp, Op.intArith], .int _ _, h2.out⟩
  case h_3 => exact ⟨_, by simp [eqGuard, binOp, Op.intArith], .int _ _, h2.out⟩
  case h_4 => exact ⟨_, by simp [eqGuard, binOp, Op.intDiv, h2.nz], .int _ _, h2.out⟩
  case h_5 => exact ⟨_, by simp [eqGuard, binOp, Op.intDiv, h2.nz], .int _ _, h2.out.out⟩
  case h_6 => exact ⟨_, by simp [eqGuard, binOp, Op.intCmp], .bool _, h2⟩
  case h_7 => exact ⟨_, by simp [eqGuard, binOp, Op.intCmp], .bool _, h2⟩
  case h_8 => exact ⟨_, by simp [eqGuard, binOp, Op.intCmp], .bool _, h2⟩
  case h_9 => exact ⟨_, by simp [eqGuard, binOp, Op.intCmp], .bool _, h2⟩
  case h_10 => exact ⟨_, by simp [eqGuard, binOp, Op.intCmp], .bool _, h2⟩
  case h_11 => exact ⟨_, by simp [eqGuard, binOp, Op.intCmp], .bool _, h2⟩
  case h_20 => exact ⟨_, by simp [eqGuard, binOp, Op.intBits], .int _ _, h2⟩

def unX (op : UnOp) (x : Value) (K : Value → Prop) : Prop :=
  match op, x with
  | .not, .bool b => K (.bool !b)
  | .neg, .int k n => WR k (0 - n) fun r => K (.int k r)
  | _, _ => False

theorem unX_ok {P : Program} {ι : Nat → Io} {n : Nat} {op : UnOp} {a u : Value} {K : Value → Prop} {w : World} (h : unX op a K) (hu : VR ι n a u) :
    ∃ r, (Op.unary op u).run P w = .ok r w ∧ VR ι n r r ∧ K r := by
  unfold unX at h
  split at h
  · rw [hu.bool_inv]; exact ⟨_, by simp [Op.unary], .bool _, h⟩
  · rw [hu.int_inv]; exact ⟨_, by simp [Op.unary, Op.intArith], .int _ _, h.out⟩
  · exact h.elim

/-- is it a type of truth values -/
def isBool (T : TypeId → Option TI) (ty : TypeId) : Bool := match T ty with
  | some i => match i.kind with
    | .bool => true
    | _ => false
  | none => false
/-- is it a type of arrays of whole numbers -/
def arrInt (T : TypeId → Option TI) (ty : TypeId) : Option (Nat × IntKind) := match T ty with
  | some i => match i.kind with
    | .arr n e => match T e with
      | some ie => match ie.kind with
        | .int k => some (n, k)
        | _ => none
      | none => none
    | _ => none
  | none => none
/-- a type of maps from pairs of whole numbers: what its elements are -/
def mapOf (T : TypeId → Option TI) (ty : TypeId) : Option TI := match T ty with
  | some i => match i.kind with
    | .mp k e => match arrInt T k with
      | some (n, q) => match Nat.beq n 2 && kEq q .i64 with
        | true => T e
        | false => none
      | none => none
    | _ => none
  | none => none
/-! ### operations -/

structure LoadX (h : AH) (i : TI) (b o : Nat) (K : Value → Prop) : Prop where
  ex : ∃ blk v v', look h b = some blk ∧ ldv i blk.cells o = some v ∧ Wk v v' ∧ K v'
structure StoreX (h : AH) (b o : Nat) (vs : List Value) (K : AH → Prop) : Prop where
  ex : ∃ blk, look h b = some blk ∧ blk.own.isSome = true ∧ o + vs.length ≤ blk.cells.length ∧ ∀ h', h' = h.set b (some ⟨setCells blk.cells o vs, blk.own⟩) → K h'
/-- a new block -/
structure NewX (h : AH) (blk : Blk) (K : Nat → AH → Prop) : Prop where
  out : ∀ b h', b = h.length → h' = h ++ [some blk] → K b h'
structure IdxX (k : Int) (n : Nat) (K : Prop) : Prop where
  lo : 0 ≤ k
  hi : k < n
  out : K
/-- a slice, compared with nil -/
structure NilX (n c : Nat) (neg : Bool) (K : Value → Prop) : Prop where
  t : n = 0 → c ≠ 1 → K (.bool !neg)
  f : K (.bool neg)
def nilC : Operand → Bool
  | .const (.slice none 0 0) => true
  | _ => false
def nilI : Operand → Bool
  | .const .nilIface => true
  | _ => false
/-- an error: is it nil? -/
def ifcN : Value → Option Bool
  | .nilIface => some true
  | .iface t (.tuple _) => match t with
    | 0 => some false
    | _ + 1 => none
  | _ => none
theorem ifcN_rel {ι : Nat → Io} {m : Nat} {v u : Value} {n : Bool} (h : ifcN v = some n) (hv : VR ι m v u) : (n = true ∧ u = .nilIface) ∨ (n = false ∧ ∃ t d, u = .iface t d) := by
  unfold ifcN at h
  split at h
  · injection h with h; subst h; cases hv; exact .inl ⟨rfl, rfl⟩
  · split at h
    · injection h with h; subst h
      cases hv
      · exact .inr ⟨rfl, _, _, rfl⟩
      · exact .inr ⟨rfl, _, _, rfl⟩
    · cases h
  · cases h
def ifcV (op : BinOp) (v : Value) (K : Value → Prop) : Prop :=
  match ifcN v with
  | some n => match op with
    | .eql => K (.bool n)
    | .neq => K (.bool !n)
    | _ => False
  | none => False
def isIfc (T : TypeId → Option TI) (ty : TypeId) : Bool := match T ty with
  | some i => match i.kind with
    | .ifc => true
    | _ => false
  | none => false
def nilV (v : Value) (neg : Bool) (K : Value → Prop) : Prop :=
  match v with
  | .slice none 0 0 => K (.bool !neg)
  | .slice (some ⟨_, _, none⟩) n c => NilX n c neg K
  | _ => False
/-- the bounds of a part -/
structure SlcX (l r : Int) (n : Nat) (K : Prop) : Prop where
  lo : 0 ≤ l
  mid : l ≤ r
  hi : r ≤ n
  out : K
def mulE (k : Nat) : Nat → Nat
  | 1 => k
  | e => k * e
theorem mulE_eq (k e : Nat) : mulE k e = k * e := by unfold mulE; split <;> simp
/-- bytes of a row, as a string -/
structure StrX (h : AH) (b o n : Nat) (K : ByteArray → Prop) : Prop where
  ex : ∃ blk, ∃ bs : List UInt8, look h b = some blk ∧ (blk.cells.drop o).take n = bs.map (fun c => .int .u8 (c.toNat : Int)) ∧ bs.length = n ∧ K ⟨bs.toArray⟩
/-- a byte of a string -/
def strB (s : ByteArray) (k : Nat) : Int := ((s.data.toList.getD k 0).toNat : Int)
/-- a part of a slice: from its start, it may be appended to -/
def slcV (lo : Option Operand) (c b o k l s : Nat) : Value :=
  match c with
  | 1 => match lo with
    | none => match o with
      | 0 => .slice (some ⟨b, 0, none⟩) k 1
      | _ => .slice (some ⟨b, o + mulE l s, none⟩) k 0
    | some _ => .slice (some ⟨b, o + mulE l s, none⟩) k 0
  | _ => .slice (some ⟨b, o + mulE l s, none⟩) k 0
def bndV (N : Nat) (t : Nat → Value) (d : Int) : Option Operand → Option Int
  | none => some d
  | some a => match evN N t a with
    | .int _ k => some k
    | _ => none
/-- an element of an array as a value -/
structure PartX (ie : TI) (cs : List Value) (o : Nat) (K : Value → Prop) : Prop where
  ex : ∃ v, ldv ie cs o = some v ∧ K v
/-- append: s: a row of our own, or nil -/
structure AppG (h : AH) (e : TypeId) (ie : TI) (s x : Value) (K : Value → AH → Prop) : Prop where
  ex : (∃ (kb : Option Nat) (n : Nat) (cells : List Value) (m : Nat) (news : List Value),
    (match kb with
      | some b => s = .slice (some ⟨b, 0, none⟩) n 1 ∧ look h b = some ⟨cells, some (e, ie.size)⟩ ∧ cells.length = n * ie.size
      | none => s = .slice none 0 0 ∧ n = 0 ∧ cells = [] ∧ 0 < m) ∧
    news.length = m * ie.size ∧ news.all one1 = true ∧ (n + m) * ie.bytes ≤ 140737488355328 ∧ n + m ≤ maxLen ∧
    ((∃ c, x = .slice none 0 c ∧ m = 0 ∧ news = []) ∨ (∃ A c, x = .slice (some A) 0 c ∧ m = 0 ∧ news = []) ∨ (∃ b2 o2 c blk2 raw, x = .slice (some ⟨b2, o2, none⟩) m c ∧ look h b2 = some blk2 ∧ (blk2.cells.drop o2).take (m * ie.size) = raw ∧ WkL raw news)) ∧
    ∀ b' h', b' = h.length → h' = (match kb with | some b => h.set b none | none => h) ++ [some ⟨cells ++ news, some (e, ie.size)⟩] → K (.slice (some ⟨b', 0, none⟩) (n + m) 1) h') ∨ (s = .slice none 0 0 ∧ (∃ A c, x = .slice A 0 c) ∧ K (.slice none 0 0) h)
/-- append of zeros (the number stands for as many): s: a row of our own, or nil -/
structure AppZ (h : AH) (e : TypeId) (ie : TI) (s x : Value) (K : Value → AH → Prop) : Prop where
  ex : (ie.agg = false ∧ ∃ m : Nat, x = .int .i64 m ∧ ((s = .slice none 0 0 ∧ m = 0 ∧ K (.slice none 0 0) h) ∨ ∃ (kb : Option Nat) (n : Nat) (cells : List Value),
    (match kb with
      | some b => s = .slice (some ⟨b, 0, none⟩) n 1 ∧ look h b = some ⟨cells, some (e, ie.size)⟩ ∧ cells.length = n * ie.size
      | none => s = .slice none 0 0 ∧ n = 0 ∧ cells = [] ∧ 0 < m) ∧
    (n + m) * ie.bytes ≤ 140737488355328 ∧ n + m ≤ maxLen ∧
    ∀ b' h', b' = h.length → h' = (match kb with | some b => h.set b none | none => h) ++ [some ⟨cells ++ List.replicate m ie.zval, some (e, ie.size)⟩] → K (.slice (some ⟨b', 0, none⟩) (n + m) 1) h')) ∨ (∃ m : Nat, x = .int .i64 m ∧ s = .slice none 0 0 ∧ 0 < m ∧ m * ie.bytes ≤ 140737488355328 ∧ m ≤ maxLen ∧
    ∀ b' h', b' = h.length → h' = h ++ [some ⟨(List.replicate m ie.zero).flatten, some (e, ie.size)⟩] → K (.slice (some ⟨b', 0, none⟩) m 1) h')
/-- copy: s: the size of an element -/
structure CopyX (h : AH) (s : Nat) (d x : Value) (K : Value → AH → Prop) : Prop where
  ex : (∃ A n c A2 n2 c2, d = .slice A n c ∧ x = .slice A2 n2 c2 ∧ min n2 n = 0 ∧ K (.int .i64 0) h) ∨
    ∃ (b o n c b2 o2 n2 c2 m : Nat) (news : List Value) (blk blk2 : Blk), d = .slice (some ⟨b, o, none⟩) n c ∧ x = .slice (some ⟨b2, o2, none⟩) n2 c2 ∧ m = min n2 n ∧ 0 < m ∧ look h b = some blk ∧ blk.own.isSome = true ∧ o + news.length ≤ blk.cells.length ∧
      look h b2 = some blk2 ∧ (blk2.cells.drop o2).take (m * s) = news ∧ news.length = m * s ∧ news.all one1 = true ∧ ∀ h', h' = h.set b (some ⟨setCells blk.cells o news, blk.own⟩) → K (.int .i64 m) h'
structure CallX (P : Program) (f : FuncId) (args : List Value) (h : AH) (K : Value → AH → Prop) : Prop where
  ex : ∃ args', WkL args args' ∧ ACalls P f args' h K

def fillL : List (Nat × List Value) → List Value → List Value
  | [], cs => cs
  | (o, vs) :: ps, cs => fillL ps (setCells cs o vs)


def opX (P : Program) (T : TypeId → Option TI) (N : Nat) (t : Nat → Value) (h : AH) (K : Value → AH → Prop) : Op → Prop
  | .move x => K (evN N t x) h
  | .assign x => K (evN N t x) h
  | .pick c a b => match evN N t c with
    | .bool true => K (evN N t a) h
    | .bool false => K (evN N t b) h
    | _ => False
  | .alloc ty => match T ty with
    | some i => NewX h ⟨i.zero, some (ty, i.size)⟩ fun b h' => K (.pointer (some ⟨b, 0, none⟩)) h'
    | none => False
  | .box ty x => match T ty with
    | some i => onT (Nat.beq (vcells (evN N t x)).length i.size) (onT ((vcells (evN N t x)).all one1) (NewX h ⟨vcells (evN N t x), some (ty, i.size)⟩ fun b h' => K (.pointer (some ⟨b, 0, none⟩)) h'))
    | none => False
  | .load ty x => match T ty with
    | some i => match evN N t x with
      | .pointer (some ⟨b, o, none⟩) => LoadX h i b o fun v => K v h
      | _ => False
    | none => False
  | .store ty x v => match T ty with
    | some i => match evN N t x with
      | .pointer (some ⟨b, o, none⟩) => onT (Nat.beq (vcells (evN N t v)).length i.size) (onT ((vcells (evN N t v)).all one1) (StoreX h b o (vcells (evN N t v)) fun h' => K (.tuple #[]) h'))
      | _ => False
    | none => False
  | .fieldAddr ty x j => match T ty with
    | some i => match i.kind with
      | .st offs => match evN N t x with
        | .pointer (some ⟨b, o, none⟩) => match offs[j]? with
          | some f => K (.pointer (some ⟨b, o + f, none⟩)) h
          | none => False
        | _ => False
      | _ => False
    | none => False
  | .indexAddr ty x ix => match T ty with
    | some i => match i.kind with
      | .sl e => match T e with
        | some ie => match evN N t x with
          | .slice (some ⟨b, o, none⟩) n _ => match evN N t ix with
            | .int _ k => IdxX k n (K (.pointer (some ⟨b, o + mulE k.toNat ie.size, none⟩)) h)
            | _ => False
          | _ => False
        | none => False
      | .arr n e => match T e with
        | some ie => match evN N t x with
          | .pointer (some ⟨b, o, none⟩) => match evN N t ix with
            | .int _ k => onT (Nat.blt 1 n) (IdxX k n (K (.pointer (some ⟨b, o + mulE k.toNat ie.size, none⟩)) h))
            | _ => False
          | _ => False
        | none => False
      | _ => False
    | none => False
  | .extract x j => match evN N t x with
    | .tuple vs => match vs.toList[j]? with
      | some v => K v h
      | none => False
    | _ => False
  | .binOp op ty x y _ => match nilC y with
    | true => match T ty with
      | some i => match i.kind with
        | .sl _ => match op with
          | .eql => nilV (evN N t x) false fun v => K v h
          | .neq => nilV (evN N t x) true fun v => K v h
          | _ => False
        | _ => False
      | none => False
    | false => match nilI y with
      | true => onT (isIfc T ty) (ifcV op (evN N t x) fun v => K v h)
      | false => binX (isBool T ty) (arrInt T ty) op (evN N t x) (evN N t y) fun v => K v h
  | .build ty parts => match T ty with
    | some i => match i.kind with
      | .st offs => onT (parts.toList.all fun p => Nat.blt p.1 offs.length && Nat.beq (vcells (evN N t p.2)).length (gap offs i.size p.1) && (vcells (evN N t p.2)).all one1 && Nat.ble (offs.getD p.1 0 + gap offs i.size p.1) i.size)
          (K (.agg (fillL (parts.toList.map fun p => (offs.getD p.1 0, vcells (evN N t p.2))) i.zero).toArray) h)
      | .arr n e => match T e with
        | some ie => onT (parts.toList.all fun p => Nat.beq (vcells (evN N t p.2)).length ie.size && (vcells (evN N t p.2)).all one1 && Nat.ble (mulE p.1 ie.size + ie.size) i.size)
            (K (.agg (fillL (parts.toList.map fun p => (mulE p.1 ie.size, vcells (evN N t p.2))) i.zero).toArray) h)
        | none => False
      | _ => False
    | none => False
  | .slice ty x lo hi mx => match mx with
    | some _ => False
    | none => match T ty with
      | some i => match i.kind with
        | .sl e => match T e with
          | some ie => match evN N t x with
            | .slice none 0 0 => match bndV N t 0 lo with
              | some l => match bndV N t 0 hi with
                | some r => SlcX l r 0 (K (.slice none 0 0) h)
                | none => False
              | none => False
            | .slice (some ⟨b, o, none⟩) n c => match bndV N t 0 lo with
              | some l => match bndV N t n hi with
                | some r => SlcX l r n (K (slcV lo c b o (r.toNat - l.toNat) l.toNat ie.size) h)
                | none => False
              | none => False
            | _ => False
          | none => False
        | .str => match evN N t x with
          | .string s => match bndV N t 0 lo with
            | some l => match bndV N t s.size hi with
              | some r => SlcX l r s.size (K (.string (s.extract l.toNat r.toNat)) h)
              | none => False
            | none => False
          | _ => False
        | _ => False
      | none => False
  | .convert src dst x => match T dst with
    | some i => match i.kind with
      | .int k => match T src with
        | some j => match j.kind with
          | .int _ => match evN N t x with
            | .int _ n => WR k n fun r => K (.int k r) h
            | _ => False
          | _ => False
        | none => False
      | .str => match T src with
        | some j => match j.kind with
          | .sl e => match T e with
            | some ie => match ie.kind with
              | .int .u8 => match evN N t x with
                | .slice (some ⟨b, o, none⟩) n _ => StrX h b o n fun r => K (.string r) h
                | _ => False
              | _ => False
            | none => False
          | _ => False
        | none => False
      | _ => False
    | none => False
  | .index ty x ix => match T ty with
    | some i => match i.kind with
      | .arr n e => match T e with
        | some ie => match evN N t x with
          | .agg cs => match evN N t ix with
            | .int _ k => IdxX k n (PartX ie cs.toList (mulE k.toNat ie.size) fun v => K v h)
            | _ => False
          | _ => False
        | none => False
      | .str => match evN N t x with
        | .string s => match evN N t ix with
          | .int _ k => IdxX k s.size (K (.int .u8 (strB s k.toNat)) h)
          | _ => False
        | _ => False
      | _ => False
    | none => False
  | .unOp op _ x => unX op (evN N t x) fun v => K v h
  | .makeFunc fn first cap => K (.func fn (first.toList.map (evN N t)).toArray (cap.toList.map (evN N t)).toArray) h
  | .buildSlice ty len parts => match T ty with
    | some i => match i.kind with
      | .sl e => match T e with
        | some ie => onT (Nat.ble (len * ie.size) 4096) (onT (parts.toList.all fun p => Nat.beq (vcells (evN N t p.2)).length ie.size && (vcells (evN N t p.2)).all one1 && Nat.blt p.1 len)
            (NewX h ⟨fillL (parts.toList.map fun p => (mulE p.1 ie.size, vcells (evN N t p.2))) (List.replicate len ie.zero).flatten, some (e, ie.size)⟩ fun b h' => K (.slice (some ⟨b, 0, none⟩) len 1) h'))
        | none => False
      | _ => False
    | none => False
  | .makeSlice ty l c => match T ty with
    | some i => match i.kind with
      | .sl e => match T e with
        | some ie => match evN N t l with
          | .int _ x => match evN N t c with
            | .int _ y => 0 ≤ x ∧ x = y ∧ x ≤ 140737488355328 ∧ x * ie.bytes ≤ 140737488355328 ∧ NewX h ⟨(List.replicate x.toNat ie.zero).flatten, some (e, ie.size)⟩ fun b h' => K (.slice (some ⟨b, 0, none⟩) x.toNat 1) h'
            | _ => False
          | _ => False
        | none => False
      | _ => False
    | none => False
  | .call c => match c.callee with
    | .value f => match evN N t f with
      | .func (.func g) first cap => CallX P g (first.toList ++ c.args.toList.map (evN N t) ++ cap.toList) h K
      | _ => False
    | .builtin .len => match c.args.toList with
      | [x] => match c.argTypes.toList with
        | [ty] => match T ty with
          | some i => match i.kind with
            | .sl _ => match evN N t x with
              | .slice _ n _ => K (.int .i64 n) h
              | _ => False
            | .str => match evN N t x with
              | .string s => K (.int .i64 s.size) h
              | _ => False
            | _ => False
          | none => False
        | _ => False
      | _ => False
    | .builtin .append => match c.args.toList with
      | [s, x] => match c.argTypes.toList with
        | [ty, ty2] => match T ty with
          | some i => match i.kind with
            | .sl e => match T e with
              | some ie => match Nat.beq ty ty2 with
                | true => AppG h e ie (evN N t s) (evN N t x) K
                | false => match T ty2 with
                  | some i2 => match i2.kind with
                    | .int _ => AppZ h e ie (evN N t s) (evN N t x) K
                    | _ => False
                  | none => False
              | none => False
            | _ => False
          | none => False
        | _ => False
      | _ => False
    | .builtin .cap => match c.args.toList with
      | [x] => match c.argTypes.toList with
        | [ty] => match T ty with
          | some i => match i.kind with
            | .sl _ => match evN N t x with
              | .slice none 0 0 => K (.int .i64 0) h
              | _ => False
            | _ => False
          | none => False
        | _ => False
      | _ => False
    | .builtin .max => match c.args.toList with
      | [x, y] => match evN N t x with
        | .int k a => match evN N t y with
          | .int _ b => K (.int k (if b > a then b else a)) h
          | _ => False
        | _ => False
      | _ => False
    | .builtin .min => match c.args.toList with
      | [x, y] => match evN N t x with
        | .int k a => match evN N t y with
          | .int _ b => K (.int k (if b < a then b else a)) h
          | _ => False
        | _ => False
      | _ => False
    | .builtin .copy => match c.args.toList with
      | [d, x] => match c.argTypes.toList with
        | [ty, _] => match T ty with
          | some i => match i.kind with
            | .sl e => match T e with
              | some ie => CopyX h ie.size (evN N t d) (evN N t x) K
              | none => False
            | _ => False
          | none => False
        | _ => False
      | _ => False
    | _ => False
  | .makeMap _ r => match r with
    | none => NewX h ⟨[], some (encM [], 0)⟩ fun b h' => K (.map (some b)) h'
    | some _ => False
  | .lookup ty m k ok => match ok with
    | true => False
    | false => match mapOf T ty with
      | some ie => match evN N t m with
        | .map (some b) => match evN N t k with
          | .agg cs => LookM h b cs.toList ie.zval fun v => K v h
          | _ => False
        | _ => False
      | none => False
  | .mapUpdate ty m k v => match mapOf T ty with
    | some _ => match evN N t m with
      | .map (some b) => match evN N t k with
        | .agg cs => match evN N t v with
          | .int q x => onT (kEq q .i64) (PutM h b cs.toList x fun h' => K (.tuple #[]) h')
          | _ => False
        | _ => False
      | _ => False
    | none => False
  | .nilCheck x => match evN N t x with
    | .pointer (some ⟨b, o, none⟩) => K (.pointer (some ⟨b, o, none⟩)) h
    | _ => False
  | _ => False
end Go.Gl

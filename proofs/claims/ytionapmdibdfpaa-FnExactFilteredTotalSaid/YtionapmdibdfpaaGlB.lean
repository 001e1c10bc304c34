/- The plain view of memory: loads, stores, new blocks, calls. No condition. -/
import Derived.Test.YtionapmdibdfpaaGlA
import Derived.Laws.CopyRow
import Derived.Laws.Cells
import Derived.Laws.Rows
import Derived.Laws.MakeOwn
set_option linter.unusedVariables false
set_option linter.unusedSimpArgs false
namespace Go.Gl

inductive TK where
  | sl (e : TypeId)
  | arr (n : Nat) (e : TypeId)
  | st (offs : List Nat)
  | int (k : IntKind)
  | bool
  | str
  | ifc
  | mp (k e : TypeId)
  | oth
structure TI where
  size : Nat
  bytes : Nat
  agg : Bool
  zero : List Value
  kind : TK

def TI.zval (i : TI) : Value := match i.agg with
  | true => .agg i.zero.toArray
  | false => match i.zero with
    | v :: _ => v
    | [] => .chan none

def vcells : Value → List Value
  | .agg cs => cs.toList
  | v => [v]
def one1 : Value → Bool
  | .agg _ => false
  | .iface _ _ => false
  | .tuple _ => false
  | .chan _ => false
  | _ => true

/-- the cells of a field -/
def gap (offs : List Nat) (n j : Nat) : Nat := offs.getD (j + 1) n - offs.getD j 0

structure TOK (P : Program) (t : TypeId) (i : TI) : Prop where
  info : ∃ inf, P.info? t = some inf ∧ inf.size = i.size ∧ inf.bytes = i.bytes ∧ inf.zero = some i.zval
  agg : ∀ w, (isAgg t).run P w = .ok i.agg w
  zp : i.zero.all plainV = true ∧ i.zero.length = i.size ∧ (i.agg = false → i.size = 1) ∧ i.size ≠ 0
  kind : match i.kind with
    | .sl e => P.underlying t = some (.slice e)
    | .arr n e => P.underlying t = some (.array n e)
    | .st offs => ∃ fs, P.underlying t = some (.struct fs) ∧ fs.toList.map (·.offset) = offs ∧ ∀ (j : Nat) f, fs[j]? = some f → ∃ inf, P.info? f.type = some inf ∧ inf.size = gap offs i.size j ∧ inf.size ≠ 0
    | .int k => P.underlying t = some (.int k)
    | .bool => P.underlying t = some .bool
    | .str => P.underlying t = some .string
    | .ifc => ∃ ms, P.underlying t = some (.interface ms)
    | .mp k e => P.underlying t = some (.map k e)
    | .oth => True

section
variable {P : Program} {ι : Nat → Io} {h : AH} {w : World}

theorem TOK.size {t : TypeId} {i : TI} (hT : TOK P t i) (w : World) : (sizeOf t).run P w = .ok i.size w := by
  obtain ⟨inf, h1, h2, _⟩ := hT.info
  simp [sizeOf, typeInfo, h1, h2]

theorem TOK.zval {t : TypeId} {i : TI} (hT : TOK P t i) (w : World) : (zeroValue t).run P w = .ok i.zval w := by
  obtain ⟨inf, h1, _, _, h4⟩ := hT.info
  simp [zeroValue, typeInfo, h1, h4]

theorem HR.cell (hr : HR ι h w) {b : Nat} {blk : Blk} (hl : look h b = some blk) {k : Nat} {v : Value} (hk : blk.cells[k]? = some v) :
    ∃ u, w.cell? ⟨(ι b).blk, (ι b).off + k, none⟩ = some u ∧ VR ι h.length v u := by
  obtain ⟨cs, e, fr, h1, h2, _⟩ := hr.cel hl (.inl (by intro e; rw [e] at hk; simp at hk))
  obtain ⟨u, h3, h4⟩ := h2 k v hk
  exact ⟨u, by simp [World.cell?, h1, h3], h4⟩

def ldv (i : TI) (cells : List Value) (o : Nat) : Option Value :=
  match i.agg with
  | true => match Nat.beq ((cells.drop o).take i.size).length i.size with
    | true => some (.agg ((cells.drop o).take i.size).toArray)
    | false => none
  | false => cells[o]?

theorem add_addr (b o k : Nat) : (⟨b, o, none⟩ : Addr).add k = ⟨b, o + k, none⟩ := by unfold Addr.add; split <;> simp_all

theorem load_ok (hr : HR ι h w) {t : TypeId} {i : TI} (hT : TOK P t i) {b o : Nat} {blk : Blk} (hl : look h b = some blk) {v : Value} (hv : ldv i blk.cells o = some v) :
    ∃ u, (loadVar t ⟨(ι b).blk, (ι b).off + o, none⟩).run P w = .ok u w ∧ VR ι h.length v u := by
  unfold ldv at hv
  cases ha : i.agg with
  | false =>
    rw [ha] at hv
    obtain ⟨u, h1, h2⟩ := hr.cell hl hv
    refine ⟨u, ?_, h2⟩
    have := hT.agg w
    rw [ha] at this
    simp [loadVar, this, load, Sem.run, h1]
  | true =>
    rw [ha] at hv
    simp only at hv
    split at hv
    · rename_i hlen
      have hlen := Nat.eq_of_beq_eq_true hlen
      injection hv with hv
      subst hv
      obtain ⟨cs, e, fr, h1, h2, _⟩ := hr.cel hl (.inl (by intro e; have := hT.zp.2.2.2; rw [e] at hlen; simp at hlen; omega))
      have hk : ∀ j, j < i.size → ∃ v u, blk.cells[o + j]? = some v ∧ cs[(ι b).off + (o + j)]? = some u ∧ VR ι h.length v u := by
        intro j hj
        have : ((blk.cells.drop o).take i.size)[j]? = blk.cells[o + j]? := by simp [List.getElem?_take, hj, List.getElem?_drop]
        have h3 : j < ((blk.cells.drop o).take i.size).length := by omega
        rw [List.getElem?_eq_getElem h3] at this
        obtain ⟨u, h4, h5⟩ := h2 (o + j) _ this.symm
        exact ⟨_, u, this.symm, h4, h5⟩
      let us := (cs.toList.drop ((ι b).off + o)).take i.size
      have hus : us.length = i.size := by
        have hpos : i.size ≠ 0 := hT.zp.2.2.2
        obtain ⟨v, u, _, h4, _⟩ := hk (i.size - 1) (by omega)
        have := (Array.getElem?_eq_some_iff.1 h4).1
        simp [us]
        omega
      have hget : ∀ j, j < i.size → us[j]? = cs[(ι b).off + (o + j)]? := by
        intro j hj
        simp only [us, List.getElem?_take, hj, if_true, List.getElem?_drop, Array.getElem?_toList, Nat.add_assoc]
      refine ⟨.agg us.toArray, ?_, ?_⟩
      · have ha' := hT.agg w
        rw [ha] at ha'
        have hs := hT.size w
        have hld := run_loadCells_list (P := P) w ⟨(ι b).blk, (ι b).off + o, none⟩ us (fun j v hj => by
          have hjl : j < i.size := by have := (List.getElem?_eq_some_iff.1 hj).1; omega
          rw [add_addr, Nat.add_assoc]
          rw [hget j hjl] at hj
          simp [World.cell?, h1, hj])
        rw [hus] at hld
        simp [loadVar, ha', hs, hld]
      · refine .agg _ _ (by simpa [hus] using hlen) fun j hj => ?_
        have hj' : j < i.size := by simpa [hlen] using hj
        obtain ⟨v, u, h3, h4, h5⟩ := hk j hj'
        have e1 : ((blk.cells.drop o).take i.size).toArray.getD j (.tuple #[]) = v := by
          simp [Array.getD_eq_getD_getElem?, List.getElem?_take, hj', List.getElem?_drop, h3]
        have e2 : us.toArray.getD j (.tuple #[]) = u := by
          rw [Array.getD_eq_getD_getElem?, List.getElem?_toArray, hget j hj', h4]; rfl
        rw [e1, e2]; exact h5
    · cases hv

/-! ### new blocks -/

def upι (ι : Nat → Io) (n : Nat) (x : Io) : Nat → Io := fun i => if i = n then x else ι i
theorem upι_lt {ι : Nat → Io} {n : Nat} {x : Io} {i : Nat} (hi : i < n) : upι ι n x i = ι i := by unfold upι; rw [if_neg (by omega)]
theorem upι_self {ι : Nat → Io} {n : Nat} {x : Io} : upι ι n x n = x := by unfold upι; rw [if_pos rfl]

theorem heap_push_old (w : World) (o : Obj) {k : Nat} (hk : k < w.heap.size) : (w.alloc o).heap[k]? = w.heap[k]? := heap_alloc_old w o k hk

theorem HR.lt (hr : HR ι h w) {i : Nat} {b : Blk} (hl : look h i = some b) : (ι i).blk < w.heap.size := by
  rcases hr.blk i b hl with hm | ⟨_, cs, e, fr, h1, _⟩
  · obtain ⟨es, clk, h1, _⟩ := hm.ob
    exact (Array.getElem?_eq_some_iff.1 h1).1
  · exact (Array.getElem?_eq_some_iff.1 h1).1

theorem HR.alloc (hr : HR ι h w) {cs : List Value} {us : Array Value} (t : TypeId) (s cap : Nat) (hs0 : s ≠ 0) (hs : us.size = cap * s) (hcap : cap ≤ maxLen)
    (hv : ∀ (k : Nat) v, cs[k]? = some v → ∃ u, us[k]? = some u ∧ VR ι h.length v u) :
    HR (upι ι h.length ⟨w.heap.size, 0, cap, false⟩) (h ++ [some ⟨cs, some (t, s)⟩]) (w.alloc (.cells us t)) := by
  have hle : cs.length ≤ us.size := by
    rcases Nat.lt_or_ge us.size cs.length with hlt | hge
    · obtain ⟨u, h1, _⟩ := hv us.size _ (List.getElem?_eq_getElem hlt)
      simp at h1
    · exact hge
  have hold : ∀ i, i < h.length → look (h ++ [some ⟨cs, some (t, s)⟩]) i = look h i := fun i hi => look_app_lt hi
  have hnew : look (h ++ [some ⟨cs, some (t, s)⟩]) h.length = some ⟨cs, some (t, s)⟩ := by
    have := look_app_ge h [some ⟨cs, some (t, s)⟩] 0
    simpa [look] using this
  have hcase : ∀ i b, look (h ++ [some ⟨cs, some (t, s)⟩]) i = some b → (i < h.length ∧ look h i = some b) ∨ (i = h.length ∧ b = ⟨cs, some (t, s)⟩) := by
    intro i b hl
    have hi := look_lt hl
    simp at hi
    rcases Nat.lt_or_ge i h.length with hlt | hge
    · exact .inl ⟨hlt, (hold i hlt).symm.trans hl⟩
    · have : i = h.length := by omega
      subst this
      rw [hnew] at hl
      exact .inr ⟨rfl, by injection hl with hl; exact hl.symm⟩
  have hn : h.length ≤ (h ++ [some (⟨cs, some (t, s)⟩ : Blk)]).length := by simp
  constructor
  · intro i b hl
    rcases hcase i b hl with ⟨hi, hl⟩ | ⟨rfl, rfl⟩
    · rw [upι_lt hi]
      rw [heap_push_old w _ (hr.lt hl)]
      rcases hr.blk i b hl with hm | ⟨h0, c, e, fr, h1, h2, h3⟩
      · exact .inl hm
      refine .inr ⟨h0, c, e, fr, h1, fun k v hk => ?_, h3⟩
      obtain ⟨u, h4, h5⟩ := h2 k v hk
      exact ⟨u, h4, h5.ext hn fun j hj => upι_lt hj⟩
    · rw [upι_self]
      refine .inr ⟨fun c hc => hs0 (by injection hc with hc; injection hc), us, t, (0, 0), heap_alloc_new w _, fun k v hk => ?_, ?_⟩
      · obtain ⟨u, h1, h2⟩ := hv k v hk
        exact ⟨u, by simpa using h1, h2.ext hn fun j hj => upι_lt hj⟩
      · intro t' s' e
        simp only [Option.some.injEq, Prod.mk.injEq] at e
        obtain ⟨rfl, rfl⟩ := e
        exact ⟨rfl, rfl, rfl, hs, hle, hcap⟩
  · intro i j bi bj hi hj ho hne
    rcases hcase i bi hi with ⟨hi', hi⟩ | ⟨rfl, rfl⟩ <;> rcases hcase j bj hj with ⟨hj', hj⟩ | ⟨rfl, rfl⟩
    · rw [upι_lt hi', upι_lt hj']; exact hr.inj i j bi bj hi hj ho hne
    · rw [upι_lt hi', upι_self]; have := hr.lt hi; simp; omega
    · rw [upι_lt hj', upι_self]; have := hr.lt hj; simp; omega
    · exact absurd rfl hne
  · intro i; unfold upι; split
    · rfl
    · exact hr.conc i

theorem Rel.alloc {Γ : Cx} {N : Nat} {t : Nat → Value} {a : Act} (hr : Rel Γ ι N t h a w) {cs : List Value} {us : Array Value} (ty : TypeId) (s cap : Nat) (hs0 : s ≠ 0) (hs : us.size = cap * s) (hcap : cap ≤ maxLen)
    (hv : ∀ (k : Nat) v, cs[k]? = some v → ∃ u, us[k]? = some u ∧ VR ι h.length v u) :
    Rel Γ (upι ι h.length ⟨w.heap.size, 0, cap, false⟩) N t (h ++ [some ⟨cs, some (ty, s)⟩]) a (w.alloc (.cells us ty)) := by
  have hn : h.length ≤ (h ++ [some (⟨cs, some (ty, s)⟩ : Blk)]).length := by simp
  refine { hr with tm := fun i hi => (hr.tm i hi).ext hn fun j hj => upι_lt hj, hr := hr.hr.alloc ty s cap hs0 hs hcap hv, agree := fun i hi => ?_, n0 := Nat.le_trans hr.n0 hn, fr := fun k hk hS => ?_, ow := fun i b hl ho => ?_, sz := ?_ }
  · rw [upι_lt (Nat.lt_of_lt_of_le hi hr.n0)]; exact hr.agree i hi
  · rw [heap_push_old w _ (Nat.lt_of_lt_of_le hk hr.sz)]; exact hr.fr k hk hS
  · have hi := look_lt hl
    simp at hi
    rcases Nat.lt_or_ge i h.length with hlt | hge
    · rw [upι_lt hlt]
      rw [look_app_lt hlt] at hl
      exact hr.ow i b hl ho
    · have : i = h.length := by omega
      subst this
      rw [upι_self]
      exact .inl hr.sz
  · exact Nat.le_trans hr.sz (by show w.heap.size ≤ (w.heap.push _).size; simp)

/-! ### stores -/

def setCells (cells : List Value) (o : Nat) (vs : List Value) : List Value := cells.take o ++ vs ++ cells.drop (o + vs.length)

theorem setCells_length (cells : List Value) (o : Nat) (vs : List Value) (ho : o + vs.length ≤ cells.length) : (setCells cells o vs).length = cells.length := by
  unfold setCells
  simp
  omega
theorem setCells_get (cells : List Value) (o : Nat) (vs : List Value) (ho : o + vs.length ≤ cells.length) (k : Nat) :
    (setCells cells o vs)[k]? = if o ≤ k ∧ k < o + vs.length then vs[k - o]? else cells[k]? := by
  unfold setCells
  have h1 : (cells.take o).length = o := by simp; omega
  rw [List.append_assoc]
  by_cases hk : k < o
  · rw [List.getElem?_append_left (by omega), if_neg (by omega), List.getElem?_take, if_pos hk]
  · rw [List.getElem?_append_right (by omega), h1]
    by_cases hk2 : k < o + vs.length
    · rw [if_pos ⟨by omega, hk2⟩, List.getElem?_append_left (by omega)]
    · rw [if_neg (by omega), List.getElem?_append_right (by omega), List.getElem?_drop]
      congr 1; omega

theorem setRow_size (w : World) (g : Nat) (cs : Array Value) : (w.setRow g cs).heap.size = w.heap.size := by simp [World.setRow]
theorem setRow_self' (w : World) (g : Nat) (cs cur : Array Value) (e : TypeId) (fr : Nat × Nat) (hg : w.heap[g]? = some (.cells cur e fr)) : (w.setRow g cs).heap[g]? = some (.cells cs e fr) := by
  have hlt := (Array.getElem?_eq_some_iff.1 hg).1
  simp [World.setRow, Array.getElem?_modify, hg]
theorem setRow_other (w : World) (g k : Nat) (cs : Array Value) (hne : k ≠ g) : (w.setRow g cs).heap[k]? = w.heap[k]? := by
  simp [World.setRow, Array.getElem?_modify, Ne.symm hne]

theorem HR.store (hr : HR ι h w) {b o : Nat} {blk : Blk} {ty : TypeId} {s : Nat} (hl : look h b = some blk) (hown : blk.own = some (ty, s)) {vs us : List Value} (hlen : vs.length = us.length)
    (hfit : o + vs.length ≤ blk.cells.length) (hv : ∀ (k : Nat) v, vs[k]? = some v → ∃ u, us[k]? = some u ∧ VR ι h.length v u)
    {cs : Array Value} {e : TypeId} {fr : Nat × Nat} (hg : w.heap[(ι b).blk]? = some (.cells cs e fr)) :
    HR ι (h.set b (some ⟨setCells blk.cells o vs, blk.own⟩)) (w.setRow (ι b).blk (cs.toList.take o ++ us ++ cs.toList.drop (o + us.length)).toArray) := by
  have hb := look_lt hl
  rcases hr.blk b blk hl with hm | ⟨h0, cs', e', fr', h1, h2, h3⟩
  · obtain ⟨es, clk, h1, _⟩ := hm.ob
    rw [hg] at h1; cases h1
  rw [hg] at h1
  injection h1 with h1
  injection h1 with h1a h1b h1c
  subst h1a h1b h1c
  obtain ⟨he, hfr, hoff, hsz, hcl, hcap⟩ := h3 ty s hown
  have hL : ((cs.toList.take o ++ us ++ cs.toList.drop (o + us.length)).toArray).size = cs.size := by
    simp; omega
  constructor
  · intro i bi hi
    rw [look_set hb] at hi
    rw [List.length_set]
    by_cases hib : i = b
    · subst hib
      rw [if_pos rfl] at hi
      injection hi with hi
      subst hi
      refine .inr ⟨h0, _, e, fr, setRow_self' w _ _ cs e fr hg, fun k v hk => ?_, fun t' s' hts => ?_⟩
      · rw [setCells_get _ _ _ hfit] at hk
        rw [hoff, Nat.zero_add]
        have hg2 := setCells_get cs.toList o us (by simp; omega) k
        unfold setCells at hg2
        rw [List.getElem?_toArray, hg2, ← hlen]
        split at hk
        · rename_i hc
          rw [if_pos hc]
          exact hv _ _ hk
        · rename_i hc
          rw [if_neg hc]
          obtain ⟨u, h4, h5⟩ := h2 k v hk
          rw [hoff, Nat.zero_add] at h4
          exact ⟨u, by simpa using h4, h5⟩
      · rw [hown] at hts
        obtain ⟨a1, a2, a3, a4, a5, a6⟩ := h3 t' s' (hown.trans hts)
        refine ⟨a1, a2, a3, by rw [hL]; exact a4, ?_, a6⟩
        rw [hL]
        simp only [setCells, List.length_append, List.length_take, List.length_drop]
        omega
    · rw [if_neg hib] at hi
      have hne : (ι i).blk ≠ (ι b).blk := (hr.inj b i blk bi hl hi (by rw [hown]; rfl) (Ne.symm hib)).symm
      rw [setRow_other _ _ _ _ hne]
      exact hr.blk i bi hi
  · intro i j bi bj hi hj ho hne
    rw [look_set hb] at hi hj
    have hi' : ∃ bi', look h i = some bi' ∧ bi'.own.isSome = true := by
      by_cases hib : i = b
      · subst hib; exact ⟨blk, hl, by rw [hown]; rfl⟩
      · rw [if_neg hib] at hi; exact ⟨bi, hi, ho⟩
    have hj' : ∃ bj', look h j = some bj' := by
      by_cases hjb : j = b
      · subst hjb; exact ⟨blk, hl⟩
      · rw [if_neg hjb] at hj; exact ⟨bj, hj⟩
    obtain ⟨bi', hi', ho'⟩ := hi'
    obtain ⟨bj', hj'⟩ := hj'
    exact hr.inj i j bi' bj' hi' hj' ho' hne
  · exact hr.conc

theorem Rel.store {Γ : Cx} {N : Nat} {t : Nat → Value} {a : Act} (hr : Rel Γ ι N t h a w) {b o : Nat} {blk : Blk} {ty : TypeId} {s : Nat} (hl : look h b = some blk) (hown : blk.own = some (ty, s)) {vs us : List Value} (hlen : vs.length = us.length)
    (hfit : o + vs.length ≤ blk.cells.length) (hv : ∀ (k : Nat) v, vs[k]? = some v → ∃ u, us[k]? = some u ∧ VR ι h.length v u)
    {cs : Array Value} {e : TypeId} {fr : Nat × Nat} (hg : w.heap[(ι b).blk]? = some (.cells cs e fr)) :
    Rel Γ ι N t (h.set b (some ⟨setCells blk.cells o vs, blk.own⟩)) a (w.setRow (ι b).blk (cs.toList.take o ++ us ++ cs.toList.drop (o + us.length)).toArray) := by
  have hb := look_lt hl
  refine { hr with tm := fun i hi => by rw [List.length_set]; exact hr.tm i hi, hr := hr.hr.store hl hown hlen hfit hv hg, n0 := by rw [List.length_set]; exact hr.n0, fr := fun k hk hS => ?_, ow := fun i bi hi ho => ?_, sz := by rw [setRow_size]; exact hr.sz }
  · have : k ≠ (ι b).blk := by
      rcases hr.ow b blk hl (by rw [hown]; rfl) with h1 | h1
      · omega
      · intro e; subst e; exact hS h1
    rw [setRow_other _ _ _ _ this]; exact hr.fr k hk hS
  · rw [look_set hb] at hi
    by_cases hib : i = b
    · subst hib; exact hr.ow i blk hl (by rw [hown]; rfl)
    · rw [if_neg hib] at hi; exact hr.ow i bi hi ho

theorem vcells_rel {n : Nat} {v u : Value} (hv : VR ι n v u) (h1 : (vcells v).all one1 = true) :
    u.cells.toList.length = (vcells v).length ∧ (∀ (k : Nat) x, (vcells v)[k]? = some x → ∃ y, u.cells.toList[k]? = some y ∧ VR ι n x y) ∧ (∀ y ∈ u.cells.toList, y.oneCell' = true) := by
  have key : ∀ {x y : Value}, one1 x = true → VR ι n x y → y.oneCell' = true ∧ y.cells = #[y] := by
    intro x y hx hxy
    cases hxy <;> first | exact ⟨rfl, rfl⟩ | simp [one1] at hx
  cases hone : one1 v with
  | true =>
    have hc : vcells v = [v] := by cases v <;> first | rfl | simp [one1] at hone
    obtain ⟨k1, k2⟩ := key hone hv
    rw [hc, k2]
    refine ⟨rfl, fun k x hk => ?_, fun y hy => ?_⟩
    · cases k with
      | zero => simp at hk; subst hk; exact ⟨u, rfl, hv⟩
      | succ k => simp at hk
    · simp at hy; subst hy; exact k1
  | false =>
    cases v with
    | agg xs =>
      cases hv with
      | agg _ ys hs hp =>
      simp only [vcells, Value.cells] at *
      refine ⟨by simp [hs], fun k x hk => ?_, fun y hy => ?_⟩
      · have hk' : k < xs.size := by have := (List.getElem?_eq_some_iff.1 hk).1; simpa using this
        have := hp k hk'
        have e1 : xs.getD k (.tuple #[]) = x := by
          rw [Array.getElem?_toList] at hk
          simp [Array.getD_eq_getD_getElem?, hk]
        rw [e1] at this
        have hk2 : k < ys.size := by omega
        refine ⟨ys[k], by simp [hk2], ?_⟩
        simpa [Array.getD_eq_getD_getElem?, hk2] using this
      · obtain ⟨k, hk, e⟩ := List.getElem_of_mem hy
        simp at hk
        have hk' : k < xs.size := by omega
        have h2 := hp k hk'
        have hx : one1 (xs.getD k (.tuple #[])) = true := by
          have := List.all_eq_true.1 h1 (xs[k]) (by simp)
          simpa [Array.getD_eq_getD_getElem?, hk'] using this
        have := (key hx h2).1
        rw [← e]
        simpa [Array.getD_eq_getD_getElem?, hk] using this
    | tuple xs => simp [vcells, one1] at h1
    | chan a => simp [vcells, one1] at h1
    | iface a b => simp [vcells, one1] at h1
    | _ => simp [one1] at hone
end
end Go.Gl

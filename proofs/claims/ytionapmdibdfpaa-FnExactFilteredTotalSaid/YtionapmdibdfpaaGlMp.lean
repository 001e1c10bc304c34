/- Maps from pairs of whole numbers to whole numbers. No condition. -/
import Derived.Test.YtionapmdibdfpaaGlEq
import Derived.WideKeyRuns
import Derived.MapKept
set_option linter.unusedVariables false
set_option linter.unusedSimpArgs false
namespace Go.Gl

theorem pr2_inj : ∀ {x y x' y' : Nat}, pr2 x y = pr2 x' y' → x = x' ∧ y = y'
  | 0, y, 0, y', h => by unfold pr2 at h; omega
  | 0, y, x' + 1, y', h => by
    unfold pr2 at h
    rw [Nat.pow_succ, Nat.mul_comm (2 ^ x') 2, Nat.mul_assoc] at h
    omega
  | x + 1, y, 0, y', h => by
    unfold pr2 at h
    rw [Nat.pow_succ, Nat.mul_comm (2 ^ x) 2, Nat.mul_assoc] at h
    omega
  | x + 1, y, x' + 1, y', h => by
    unfold pr2 at h
    rw [Nat.pow_succ, Nat.mul_comm (2 ^ x) 2, Nat.mul_assoc, Nat.pow_succ, Nat.mul_comm (2 ^ x') 2, Nat.mul_assoc] at h
    obtain ⟨e1, e2⟩ := pr2_inj (x := x) (y := y) (x' := x') (y' := y') (by unfold pr2; omega)
    exact ⟨by omega, e2⟩
theorem pr2_pos (x y : Nat) : 0 < pr2 x y := Nat.mul_pos (Nat.pow_pos (by omega)) (by omega)
theorem z2n_inj {a b : Int} (h : z2n a = z2n b) : a = b := by
  cases a <;> cases b <;> simp only [z2n] at h <;> first | (congr 1; omega) | omega
theorem encM_inj : ∀ {l l' : List ((Int × Int) × Int)}, encM l = encM l' → l = l'
  | [], [], _ => rfl
  | [], p :: l, h => by have := pr2_pos (z2n p.1.1) (pr2 (z2n p.1.2) (pr2 (z2n p.2) (encM l))); simp only [encM] at h; omega
  | p :: l, [], h => by have := pr2_pos (z2n p.1.1) (pr2 (z2n p.1.2) (pr2 (z2n p.2) (encM l))); simp only [encM] at h; omega
  | ((a, b), c) :: l, ((a', b'), c') :: l', h => by
    simp only [encM] at h
    obtain ⟨h1, h⟩ := pr2_inj h
    obtain ⟨h2, h⟩ := pr2_inj h
    obtain ⟨h3, h⟩ := pr2_inj h
    rw [z2n_inj h1, z2n_inj h2, z2n_inj h3, encM_inj h]

/-- what a map tells at a pair -/
def getM : List ((Int × Int) × Int) → Int → Int → Option Int
  | [], _, _ => none
  | p :: l, x, y => match p.1.1 == x && p.1.2 == y with
    | true => some p.2
    | false => getM l x y

section
variable {P : Program} {kt e : TypeId}
theorem run_checkKey_one (he : P.underlying e = some (.int .i64)) (z : Int) (em : Bool) (n : Nat) (w : World) : (Instr.checkKey em (n + 1) e (.int .i64 z)).run P w = .ok () w := by
  simp [Instr.checkKey, run_underlying he]
theorem run_checkKey_two (hu : P.underlying kt = some (.array 2 e)) (he : P.underlying e = some (.int .i64)) (hc : P.cellsOf e = 1) (x y : Int) (em : Bool) (n : Nat) (w : World) :
    (Instr.checkKey em (n + 1 + 1) kt (.agg #[.int .i64 x, .int .i64 y])).run P w = .ok () w := by
  have hpk : P.plainKey e = true := by simp [Program.plainKey, he]
  obtain ⟨i, hi⟩ := info_of_underlying he
  have hs : (sizeOf e).run P w = .ok 1 w := by
    have : i.size = 1 := by simpa [Program.cellsOf, hi] using hc
    simp [sizeOf, typeInfo, hi, this]
  have p1 : (part e #[.int .i64 x, .int .i64 y] 0).run P w = .ok (.int .i64 x) w := run_part_plain w hpk (by simp)
  have p2 : (part e #[.int .i64 x, .int .i64 y] 1).run P w = .ok (.int .i64 y) w := run_part_plain w hpk (by simp)
  have c1 : ∀ z, (Instr.checkKey em (n + 1) e (.int .i64 z)).run P w = .ok () w := fun z => run_checkKey_one he z em n w
  rw [Instr.checkKey]
  generalize Instr.checkKey em (n + 1) = f at c1
  simp [run_underlying hu, Std.Legacy.Range.forIn_eq_forIn_range', Std.Legacy.Range.size, List.range', hs, p1, p2, c1]
theorem run_checkKey_pair (hu : P.underlying kt = some (.array 2 e)) (he : P.underlying e = some (.int .i64)) (hc : P.cellsOf e = 1) (x y : Int) (em : Bool) (w : World) :
    (Instr.checkKey em 10000 kt (.agg #[.int .i64 x, .int .i64 y])).run P w = .ok () w := run_checkKey_two hu he hc x y em 9998 w
theorem run_find_pair (hu : P.underlying kt = some (.array 2 e)) (he : P.underlying e = some (.int .i64)) (hc : P.cellsOf e = 1) (x y : Int) (w : World) : ∀ (es : List MapEntry) (l : List ((Int × Int) × Int)) (i : Nat), es.map (fun e => (e.key, e.val)) = l.map kvM →
    match getM l x y with
    | some v => ∃ j, (Instr.findAsking kt (.agg #[.int .i64 x, .int .i64 y]) es i).run P w = .ok (some (j, .int .i64 v)) w
    | none => (Instr.findAsking kt (.agg #[.int .i64 x, .int .i64 y]) es i).run P w = .ok none w
  | [], [], i, _ => by simp [getM, Instr.findAsking]
  | [], _ :: _, i, h => by simp at h
  | _ :: _, [], i, h => by simp at h
  | en :: es, ((a, b), c) :: l, i, h => by
    simp only [List.map_cons, List.cons.injEq, kvM, Prod.mk.injEq] at h
    obtain ⟨⟨h1, h2⟩, h3⟩ := h
    have hq : (Op.equal kt (.agg #[.int .i64 x, .int .i64 y]) en.key).run P w = .ok (decide ([x, y] = [a, b])) w := by
      rw [h1]
      exact equal_arr hu he hc (k := .i64) (xs := [x, y]) (ys := [a, b]) rfl rfl w
    have ih := run_find_pair hu he hc x y w es l (i + 1) h3
    simp only [getM]
    by_cases hx : a = x ∧ b = y
    · obtain ⟨rfl, rfl⟩ := hx
      simp [Instr.findAsking, hq, h2]
    · have e1 : (a == x && b == y) = false := by
        rw [Bool.and_eq_false_iff]
        rcases Classical.em (a = x) with q | q
        · right; simpa using fun q2 => hx ⟨q, q2⟩
        · left; simpa using q
      have e2 : ¬ ([x, y] = [a, b]) := fun q => by simp at q; exact hx ⟨q.1.symm, q.2.symm⟩
      rw [e1]
      simp only [Instr.findAsking, Sem.run_bind, hq, e2, decide_false, Result.andThen_ok, Bool.false_eq_true, if_false]
      exact ih
theorem run_findKey_pair (hu : P.underlying kt = some (.array 2 e)) (x : Value) (es : List MapEntry) (w : World) : (Instr.findKey kt x es).run P w = (Instr.findAsking kt x es).run P w :=
  run_findKey_eq w (by rw [hu]) x es
theorem run_lookup_pair {mt et : TypeId} (hm : P.underlying mt = some (.map kt et)) (hu : P.underlying kt = some (.array 2 e)) (he : P.underlying e = some (.int .i64)) (hc : P.cellsOf e = 1) {z : Value} {w : World} (hz : (zeroValue et).run P w = .ok z w) {r : Nat} {es : Array MapEntry} {clk : Nat} (hr : w.heap[r]? = some (.map es clk)) {l : List ((Int × Int) × Int)} (hl : es.toList.map (fun e => (e.key, e.val)) = l.map kvM) (x y : Int) :
    (Instr.lookup mt (.map (some r)) (.agg #[.int .i64 x, .int .i64 y]) false).run P w = .ok (match getM l x y with | some v => .int .i64 v | none => z) w := by
  have h1 := run_find_pair hu he hc x y w es.toList l 0 hl
  cases hg : getM l x y with
  | some v =>
    rw [hg] at h1
    obtain ⟨j, h1⟩ := h1
    simp [Instr.lookup, run_underlying hm, MapKept.run_getObj_map hr, run_checkKey_pair hu he hc, run_findKey_pair hu, h1]
  | none =>
    rw [hg] at h1
    simp only at h1
    simp [Instr.lookup, run_underlying hm, MapKept.run_getObj_map hr, run_checkKey_pair hu he hc, run_findKey_pair hu, h1, hz]
theorem run_update_pair {mt et : TypeId} (hm : P.underlying mt = some (.map kt et)) (hu : P.underlying kt = some (.array 2 e)) (he : P.underlying e = some (.int .i64)) (hc : P.cellsOf e = 1) {w : World} {r : Nat} {es : Array MapEntry} {clk : Nat} (hr : w.heap[r]? = some (.map es clk)) {l : List ((Int × Int) × Int)} (hl : es.toList.map (fun e => (e.key, e.val)) = l.map kvM) (x y : Int) (hg : getM l x y = none) (v : Value) :
    (Instr.mapUpdate mt (.map (some r)) (.agg #[.int .i64 x, .int .i64 y]) v).run P w = .ok () { w with heap := w.heap.setIfInBounds r (.map (es.push { key := .agg #[.int .i64 x, .int .i64 y], val := v, born := clk }) (clk + 1)) } := by
  have h1 := run_find_pair hu he hc x y w es.toList l 0 hl
  rw [hg] at h1
  simp only at h1
  simp [Instr.mapUpdate, run_underlying hm, MapKept.run_getObj_map hr, run_checkKey_pair hu he hc, run_findKey_pair hu, h1, MapKept.run_setObj_map _ hr]
end
section
variable {P : Program} {ι : Nat → Io} {h : AH} {w : World}
theorem HR.newMap (hr : HR ι h w) : HR (upι ι h.length ⟨w.heap.size, 0, 0, false⟩) (h ++ [some ⟨[], some (encM [], 0)⟩]) (w.alloc (.map #[] 0)) := by
  have hcase : ∀ i b, look (h ++ [some ⟨[], some (encM [], 0)⟩]) i = some b → (i < h.length ∧ look h i = some b) ∨ (i = h.length ∧ b = ⟨[], some (encM [], 0)⟩) := by
    intro i b hl
    have hi := look_lt hl
    simp at hi
    rcases Nat.lt_or_ge i h.length with hlt | hge
    · exact .inl ⟨hlt, (look_app_lt hlt).symm.trans hl⟩
    · have : i = h.length := by omega
      subst this
      have := look_app_ge h [some ⟨[], some (encM [], 0)⟩] 0
      rw [Nat.add_zero] at this
      rw [this] at hl
      exact .inr ⟨rfl, by simp only [look, Option.some.injEq] at hl; exact hl.symm⟩
  have hn : h.length ≤ (h ++ [some (⟨[], some (encM [], 0)⟩ : Blk)]).length := by simp
  constructor
  · intro i b hl
    rcases hcase i b hl with ⟨hi, hl⟩ | ⟨rfl, rfl⟩
    · rw [upι_lt hi, heap_push_old w _ (hr.lt hl)]
      rcases hr.blk i b hl with hm | ⟨h0, c, e, fr, h1, h2, h3⟩
      · exact .inl hm
      refine .inr ⟨h0, c, e, fr, h1, fun k v hk => ?_, h3⟩
      obtain ⟨u, h4, h5⟩ := h2 k v hk
      exact ⟨u, h4, h5.ext hn fun j hj => upι_lt hj⟩
    · rw [upι_self]
      refine .inl ⟨rfl, #[], 0, heap_alloc_new w _, fun t s hts => ?_⟩
      simp only [Option.some.injEq, Prod.mk.injEq] at hts
      obtain ⟨rfl, rfl⟩ := hts
      exact ⟨rfl, rfl, [], rfl, rfl⟩
  · intro i j bi bj hi hj ho hne
    rcases hcase i bi hi with ⟨hi', hi⟩ | ⟨rfl, rfl⟩ <;> rcases hcase j bj hj with ⟨hj', hj⟩ | ⟨rfl, rfl⟩
    · rw [upι_lt hi', upι_lt hj']; exact hr.inj i j bi bj hi hj ho hne
    · rw [upι_lt hi', upι_self]; have := hr.lt hi; simp; omega
    · rw [upι_lt hj', upι_self]; have := hr.lt hj; simp; omega
    · exact absurd rfl hne
  · intro i; unfold upι; split
    · rfl
    · exact hr.conc i
theorem Rel.newMap {Γ : Cx} {N : Nat} {t : Nat → Value} {a : Act} (hr : Rel Γ ι N t h a w) :
    Rel Γ (upι ι h.length ⟨w.heap.size, 0, 0, false⟩) N t (h ++ [some ⟨[], some (encM [], 0)⟩]) a (w.alloc (.map #[] 0)) := by
  have hn : h.length ≤ (h ++ [some (⟨[], some (encM [], 0)⟩ : Blk)]).length := by simp
  refine { hr with tm := fun i hi => (hr.tm i hi).ext hn fun j hj => upι_lt hj, hr := hr.hr.newMap, agree := fun i hi => ?_, n0 := Nat.le_trans hr.n0 hn, fr := fun k hk hS => ?_, ow := fun i b hl ho => ?_, sz := ?_ }
  · rw [upι_lt (Nat.lt_of_lt_of_le hi hr.n0)]; exact hr.agree i hi
  · rw [heap_push_old w _ (Nat.lt_of_lt_of_le hk hr.sz)]; exact hr.fr k hk hS
  · have hi := look_lt hl
    simp at hi
    rcases Nat.lt_or_ge i h.length with hlt | hge
    · rw [upι_lt hlt]
      rw [look_app_lt hlt] at hl
      exact hr.ow i b hl ho
    · have : i = h.length := by omega
      subst this
      rw [upι_self]
      exact .inl hr.sz
  · exact Nat.le_trans hr.sz (by show w.heap.size ≤ (w.heap.push _).size; simp)
/-- a map of the view, in Go's memory -/
theorem HR.mapAt (hr : HR ι h w) {b : Nat} {l : List ((Int × Int) × Int)} (hl : look h b = some ⟨[], some (encM l, 0)⟩) : ∃ es clk, w.heap[(ι b).blk]? = some (.map es clk) ∧ (ι b).off = 0 ∧ es.toList.map (fun e => (e.key, e.val)) = l.map kvM := by
  rcases hr.blk b _ hl with hm | ⟨h0, _⟩
  · obtain ⟨es, clk, h1, h2⟩ := hm.ob
    obtain ⟨_, h3, l', h4, h5⟩ := h2 _ _ rfl
    rw [encM_inj h4] at h5
    exact ⟨es, clk, h1, h3, h5⟩
  · exact absurd rfl (h0 _)
theorem HR.putMap (hr : HR ι h w) {b c : Nat} (hl : look h b = some ⟨[], some (c, 0)⟩) (hoff : (ι b).off = 0) {es : Array MapEntry} {clk c' : Nat} (hc : MapC c' es) :
    HR ι (h.set b (some ⟨[], some (c', 0)⟩)) { w with heap := w.heap.setIfInBounds (ι b).blk (.map es clk) } := by
  have hb := look_lt hl
  have hlt := hr.lt hl
  have hother : ∀ k, k ≠ (ι b).blk → (w.heap.setIfInBounds (ι b).blk (.map es clk))[k]? = w.heap[k]? := fun k hk => by rw [Array.getElem?_setIfInBounds_ne (Ne.symm hk)]
  constructor
  · intro i bi hi
    rw [look_set hb] at hi
    rw [List.length_set]
    by_cases hib : i = b
    · subst hib
      rw [if_pos rfl] at hi
      injection hi with hi
      subst hi
      refine .inl ⟨rfl, es, clk, by simp [hlt], fun t s hts => ?_⟩
      simp only [Option.some.injEq, Prod.mk.injEq] at hts
      obtain ⟨rfl, rfl⟩ := hts
      exact ⟨rfl, hoff, hc⟩
    · rw [if_neg hib] at hi
      have hne : (ι i).blk ≠ (ι b).blk := (hr.inj b i _ bi hl hi rfl (Ne.symm hib)).symm
      show MapOK bi (w.heap.setIfInBounds (ι b).blk (.map es clk))[(ι i).blk]? (ι i).off ∨ (∀ c, bi.own ≠ some (c, 0)) ∧ ∃ cs e fr, (w.heap.setIfInBounds (ι b).blk (.map es clk))[(ι i).blk]? = some (.cells cs e fr) ∧ _
      rw [hother _ hne]
      exact hr.blk i bi hi
  · intro i j bi bj hi hj ho hne
    rw [look_set hb] at hi hj
    have hi' : ∃ bi', look h i = some bi' ∧ bi'.own.isSome = true := by
      by_cases hib : i = b
      · subst hib; exact ⟨_, hl, rfl⟩
      · rw [if_neg hib] at hi; exact ⟨bi, hi, ho⟩
    have hj' : ∃ bj', look h j = some bj' := by
      by_cases hjb : j = b
      · subst hjb; exact ⟨_, hl⟩
      · rw [if_neg hjb] at hj; exact ⟨bj, hj⟩
    obtain ⟨bi', hi', ho'⟩ := hi'
    obtain ⟨bj', hj'⟩ := hj'
    exact hr.inj i j bi' bj' hi' hj' ho' hne
  · exact hr.conc
theorem Rel.putMap {Γ : Cx} {N : Nat} {t : Nat → Value} {a : Act} (hr : Rel Γ ι N t h a w) {b c : Nat} (hl : look h b = some ⟨[], some (c, 0)⟩) (hoff : (ι b).off = 0) {es : Array MapEntry} {clk c' : Nat} (hc : MapC c' es) :
    Rel Γ ι N t (h.set b (some ⟨[], some (c', 0)⟩)) a { w with heap := w.heap.setIfInBounds (ι b).blk (.map es clk) } := by
  have hb := look_lt hl
  refine { hr with tm := fun i hi => by rw [List.length_set]; exact hr.tm i hi, hr := hr.hr.putMap hl hoff hc, n0 := by rw [List.length_set]; exact hr.n0, fr := fun k hk hS => ?_, ow := fun i bi hi ho => ?_, sz := by simpa using hr.sz }
  · have : k ≠ (ι b).blk := by
      rcases hr.ow b _ hl rfl with h1 | h1
      · omega
      · intro e; subst e; exact hS h1
    show (w.heap.setIfInBounds (ι b).blk (.map es clk))[k]? = _
    rw [Array.getElem?_setIfInBounds_ne (Ne.symm this)]; exact hr.fr k hk hS
  · rw [look_set hb] at hi
    by_cases hib : i = b
    · subst hib; exact hr.ow i _ hl rfl
    · rw [if_neg hib] at hi; exact hr.ow i bi hi ho
end
/-- what a map tells at a pair, or what it tells elsewhere -/
def valM (l : List ((Int × Int) × Int)) (x y : Int) (z : Value) : Value := match getM l x y with
  | some v => .int .i64 v
  | none => z
structure LookM (h : AH) (b : Nat) (cs : List Value) (z : Value) (K : Value → Prop) : Prop where
  ex : ∃ l x y v, look h b = some ⟨[], some (encM l, 0)⟩ ∧ cs = [.int .i64 x, .int .i64 y] ∧ v = valM l x y z ∧ K v
structure PutM (h : AH) (b : Nat) (cs : List Value) (v : Int) (K : AH → Prop) : Prop where
  ex : ∃ l x y, look h b = some ⟨[], some (encM l, 0)⟩ ∧ cs = [.int .i64 x, .int .i64 y] ∧ getM l x y = none ∧ ∀ h', h' = h.set b (some ⟨[], some (encM (l ++ [((x, y), v)]), 0)⟩) → K h'
end Go.Gl

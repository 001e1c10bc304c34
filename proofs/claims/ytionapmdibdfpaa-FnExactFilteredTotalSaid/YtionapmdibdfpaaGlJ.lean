/- The plain view of memory: what comes in, xs a view. No condition. -/
import Derived.Test.YtionapmdibdfpaaGlH
import Derived.Deep.Slices
import Derived.ChangeArms
import Derived.Below
set_option linter.unusedVariables false
set_option linter.unusedSimpArgs false
namespace Go.Gl
open Go.RowKit

def Imm (h : AH) : Prop := ∀ i b, look h i = some b → b.own = none
def VRL (ι : Nat → Io) (n : Nat) (vs us : List Value) : Prop := vs.length = us.length ∧ ∀ (k : Nat) v, vs[k]? = some v → ∃ u, us[k]? = some u ∧ VR ι n v u

theorem VRL.ext {ι ι' : Nat → Io} {n n' : Nat} (hn : n ≤ n') (hι : ∀ i, i < n → ι' i = ι i) {vs us : List Value} (h : VRL ι n vs us) : VRL ι' n' vs us :=
  ⟨h.1, fun k v hk => by obtain ⟨u, h1, h2⟩ := h.2 k v hk; exact ⟨u, h1, h2.ext hn hι⟩⟩
theorem VRL.append {ι : Nat → Io} {n : Nat} {vs us vs' us' : List Value} (h : VRL ι n vs us) (h' : VRL ι n vs' us') : VRL ι n (vs ++ vs') (us ++ us') := by
  refine ⟨by simp [h.1, h'.1], fun k v hk => ?_⟩
  rw [List.getElem?_append] at hk
  split at hk
  · rename_i hlt
    obtain ⟨u, h1, h2⟩ := h.2 k v hk
    exact ⟨u, by rw [List.getElem?_append_left (by rw [← h.1]; exact hlt)]; exact h1, h2⟩
  · rename_i hge
    obtain ⟨u, h1, h2⟩ := h'.2 _ v hk
    exact ⟨u, by rw [List.getElem?_append_right (by rw [← h.1]; omega), ← h.1]; exact h1, h2⟩

/-- cells that can be taken into a view -/
def ImpC (w : World) (cs : List Value) {α : Type} (E : AH → List Value → α → Prop) : Prop :=
  ∃ a : α, ∀ ι h, HR ι h w → Imm h → ∃ ι' h' vs, Le h h' ∧ (∀ i, i < h.length → ι' i = ι i) ∧ HR ι' h' w ∧ Imm h' ∧ VRL ι' h'.length vs cs ∧ E h' vs a

def One {α : Type} (E : AH → Value → α → Prop) (h : AH) (vs : List Value) (a : α) : Prop := ∃ v, vs = [v] ∧ E h v a
def Two {α β : Type} (E : AH → List Value → α → Prop) (F : AH → List Value → β → Prop) (h : AH) (vs : List Value) (a : α × β) : Prop := ∃ v1 v2, vs = v1 ++ v2 ∧ E h v1 a.1 ∧ F h v2 a.2

theorem ImpC.two {w : World} {cs ds : List Value} {α β : Type} {E : AH → List Value → α → Prop} {F : AH → List Value → β → Prop} (hE : ∀ h h' v x, Le h h' → E h v x → E h' v x)
    (h1 : ImpC w cs E) (h2 : ImpC w ds F) : ImpC w (cs ++ ds) (Two E F) := by
  obtain ⟨a, h1⟩ := h1
  obtain ⟨b, h2⟩ := h2
  refine ⟨(a, b), fun ι h hr hi => ?_⟩
  obtain ⟨ι1, g1, v1, l1, e1, r1, i1, q1, p1⟩ := h1 ι h hr hi
  obtain ⟨ι2, g2, v2, l2, e2, r2, i2, q2, p2⟩ := h2 ι1 g1 r1 i1
  exact ⟨ι2, g2, v1 ++ v2, l1.trans l2, fun i hi => (e2 i (Nat.lt_of_lt_of_le hi l1.len)).trans (e1 i hi), r2, i2, (q1.ext l2.len e2).append q2, v1, v2, rfl, hE _ _ _ _ l2 p1, p2⟩

theorem HR.addImm {ι : Nat → Io} {h : AH} {w : World} (hr : HR ι h w) (hi : Imm h) {blk off : Nat} {cs : Array Value} {e : TypeId} {fr : Nat × Nat} (hb : w.heap[blk]? = some (.cells cs e fr)) {vs : List Value}
    (hv : ∀ (k : Nat) v, vs[k]? = some v → ∃ u, cs[off + k]? = some u ∧ VR ι h.length v u) :
    HR (upι ι h.length ⟨blk, off, 0, false⟩) (h ++ [some ⟨vs, none⟩]) w ∧ Imm (h ++ [some ⟨vs, none⟩]) ∧ look (h ++ [some ⟨vs, none⟩]) h.length = some ⟨vs, none⟩ := by
  have hnew : look (h ++ [some ⟨vs, none⟩]) h.length = some ⟨vs, none⟩ := by
    have := look_app_ge h [some ⟨vs, none⟩] 0
    simpa [look] using this
  have hcase : ∀ i b, look (h ++ [some ⟨vs, none⟩]) i = some b → (i < h.length ∧ look h i = some b) ∨ (i = h.length ∧ b = ⟨vs, none⟩) := by
    intro i b hl
    have hi := look_lt hl
    simp at hi
    rcases Nat.lt_or_ge i h.length with hlt | hge
    · exact .inl ⟨hlt, (look_app_lt hlt).symm.trans hl⟩
    · have : i = h.length := by omega
      subst this
      rw [hnew] at hl
      exact .inr ⟨rfl, by injection hl with hl; exact hl.symm⟩
  have himm : Imm (h ++ [some ⟨vs, none⟩]) := by
    intro i b hl
    rcases hcase i b hl with ⟨_, hl⟩ | ⟨_, rfl⟩
    · exact hi i b hl
    · rfl
  refine ⟨⟨fun i b hl => ?_, fun i j bi bj h1 h2 ho => ?_, fun i => by unfold upι; split; rfl; exact hr.conc i⟩, himm, hnew⟩
  · rcases hcase i b hl with ⟨hlt, hl⟩ | ⟨rfl, rfl⟩
    · rw [upι_lt hlt]
      rcases hr.blk i b hl with hm | ⟨g0, c, e', fr', g1, g2, g3⟩
      · exact .inl hm
      refine .inr ⟨g0, c, e', fr', g1, fun k v hk => ?_, g3⟩
      obtain ⟨u, a1, a2⟩ := g2 k v hk
      exact ⟨u, a1, a2.ext (by simp) fun j hj => upι_lt hj⟩
    · rw [upι_self]
      refine .inr ⟨fun c hc => by simp at hc, cs, e, fr, hb, fun k v hk => ?_, fun t s hts => by simp at hts⟩
      obtain ⟨u, a1, a2⟩ := hv k v hk
      exact ⟨u, a1, a2.ext (by simp) fun j hj => upι_lt hj⟩
  · rw [himm i bi h1] at ho; cases ho

section
variable {H : Type} {enc : TypeId × Value → H} {P : Program} {w : World} {base : Nat} {spare : Nat → Bool} {held : Bool}

/-- every cell list that reads xs a value of type t can be taken into a view -/
def ImpT (enc : TypeId × Value → H) (P : Program) (w : World) (base : Nat) (spare : Nat → Bool) (held : Bool) (t : TypeId) {α : Type} (E : AH → List Value → α → Prop) : Prop :=
  ∀ fuel cs x, DataW.trod enc P w base spare held fuel t cs = some x → ImpC w cs E

theorem ImpT.int {t : TypeId} (ht : P.underlying t = some (.int .i64)) : ImpT enc P w base spare held t (One EI) := by
  intro fuel cs x h
  obtain ⟨n, rfl, _⟩ := DataW.trod_int ht h
  exact ⟨n, fun ι h hr hi => ⟨ι, h, [.int .i64 n], Le.refl _, fun _ _ => rfl, hr, hi, ⟨rfl, fun k v hk => ⟨v, hk, by
    cases k with
    | zero => simp at hk; subst hk; exact .int _ _
    | succ k => simp at hk⟩⟩, _, rfl, rfl⟩⟩

theorem One.le {α : Type} {E : AH → Value → α → Prop} (hE : ∀ h h' v x, Le h h' → E h v x → E h' v x) : ∀ h h' v x, Le h h' → One E h v x → One E h' v x := by
  rintro h h' v x hl ⟨v', e, hx⟩
  exact ⟨v', e, hE _ _ _ _ hl hx⟩

/-- many cells, one after the other -/
theorem imp_many {α : Type} {E : AH → Value → α → Prop} (hE : ∀ h h' v x, Le h h' → E h v x → E h' v x) : ∀ (us : List Value), (∀ u ∈ us, ImpC w [u] (One E)) →
    ImpC w us (fun h vs (xs : List α) => vs.length = xs.length ∧ ∀ (k : Nat) x, xs[k]? = some x → ∃ v, vs[k]? = some v ∧ E h v x)
  | [], _ => ⟨[], fun ι h hr hi => ⟨ι, h, [], Le.refl _, fun _ _ => rfl, hr, hi, ⟨rfl, fun k v hk => by simp at hk⟩, rfl, fun k x hk => by simp at hk⟩⟩
  | u :: us, hu => by
    obtain ⟨a, h1⟩ := hu u List.mem_cons_self
    obtain ⟨xs, h2⟩ := imp_many hE us fun u hm => hu u (List.mem_cons_of_mem _ hm)
    refine ⟨a :: xs, fun ι h hr hi => ?_⟩
    obtain ⟨ι1, g1, v1, l1, e1, r1, i1, q1, v, rfl, p1⟩ := h1 ι h hr hi
    obtain ⟨ι2, g2, v2, l2, e2, r2, i2, q2, p2, p3⟩ := h2 ι1 g1 r1 i1
    refine ⟨ι2, g2, v :: v2, l1.trans l2, fun i hi => (e2 i (Nat.lt_of_lt_of_le hi l1.len)).trans (e1 i hi), r2, i2, (q1.ext l2.len e2).append q2, by simp [p2], fun k x hk => ?_⟩
    cases k with
    | zero => simp at hk; subst hk; exact ⟨v, rfl, hE _ _ _ _ l2 p1⟩
    | succ k => exact p3 k x (by simpa using hk)

theorem ImpT.slice {t e : TypeId} (ht : P.underlying t = some (.slice e)) (hc : P.cellsOf e = 1) {α : Type} {E : AH → Value → α → Prop} (hE : ∀ h h' v x, Le h h' → E h v x → E h' v x) (he : ImpT enc P w base spare held e (One E)) :
    ImpT enc P w base spare held t (One (RS E)) := by
  intro fuel cs x h
  rcases Go.Deep.open_slice ht h with ⟨rfl, _⟩ | ⟨a, len, cap, m, n, D, Pl, rfl, hb, hl, hm, hmm, _, hel⟩
  · refine ⟨[], fun ι h hr hi => ⟨ι, h, [.slice none 0 0], Le.refl _, fun _ _ => rfl, hr, hi, ⟨rfl, fun k v hk => ⟨v, hk, by
      cases k with
      | zero => simp at hk; subst hk; exact .slN
      | succ k => simp at hk⟩⟩, _, rfl, by simp, 0, 0, Wk.nil _, fun k x hk => by simp at hk⟩⟩
  · rw [hc] at hel
    simp only [Nat.mul_one] at hel
    have hlm : len ≤ m := by rw [hmm]; split <;> omega
    have hcell : ∀ i, i < len → ∃ u, w.cell? (a.add i) = some u ∧ ImpC w [u] (One E) := by
      intro i hi
      obtain ⟨cs', h1, h2⟩ := hel i (by omega)
      have : ∃ u, cs' = [u] ∧ w.cell? (a.add i) = some u := by
        unfold World.cells? at h1
        simp [List.range_succ] at h1
        cases hc : w.cell? ((a.add i).add 0) with
        | none => simp [hc] at h1
        | some u =>
          simp [hc] at h1
          exact ⟨u, h1.2.symm, by rw [← hc]; simp [Addr.add]⟩
      obtain ⟨u, rfl, h3⟩ := this
      exact ⟨u, h3, he n [u] _ h2⟩
    rcases Nat.eq_zero_or_pos len with h0 | hpos
    · subst h0
      refine ⟨[], fun ι h hr hi => ⟨ι, h, [.slice (some ⟨0, 0, none⟩) 0 0], Le.refl _, fun _ _ => rfl, hr, hi, ⟨rfl, fun k v hk => ?_⟩, _, rfl, by simp, 0, 0, Wk.refl _, fun k x hk => by simp at hk⟩⟩
      cases k with
      | zero => simp at hk; subst hk; exact ⟨_, rfl, .slZ _ _ _⟩
      | succ k => simp at hk
    · obtain ⟨f, hf⟩ := Go.Deep.choose_lt (α := Value) hcell
      let us := (List.range len).map f
      have hus : ∀ k u, us[k]? = some u → w.cell? (a.add k) = some u := by
        intro k u hk
        simp only [us, List.getElem?_map, Option.map_eq_some_iff] at hk
        obtain ⟨i, h1, h2⟩ := hk
        have hlt := (List.getElem?_eq_some_iff.1 h1).1
        simp at hlt
        have : i = k := by rw [List.getElem?_range hlt] at h1; injection h1 with h1; exact h1.symm
        subst this
        rw [← h2]; exact (hf i hlt).1
      obtain ⟨xs, himp⟩ := imp_many hE us (fun u hu => by
        simp only [us, List.mem_map, List.mem_range] at hu
        obtain ⟨i, hi, rfl⟩ := hu
        exact (hf i hi).2)
      obtain ⟨c0, h0⟩ := hcell 0 hpos
      have hblk : ∃ cs e' fr, w.heap[a.block]? = some (.cells cs e' fr) ∧ a.spot = none := by
        have h1 := h0.1
        unfold World.cell? at h1
        have : (a.add 0) = a := by simp [Addr.add]
        rw [this] at h1
        split at h1
        · rename_i cs e' fr hh
          split at h1
          · cases h1
          · rename_i hs
            refine ⟨cs, e', fr, hh, ?_⟩
            cases hsp : a.spot with
            | none => rfl
            | some _ => rw [hsp] at hs; simp at hs
        · cases h1
      obtain ⟨cs, e', fr, hh, hsp⟩ := hblk
      have ha : a = ⟨a.block, a.off, none⟩ := by cases a; simp at hsp; subst hsp; rfl
      refine ⟨xs, fun ι h hr hi => ?_⟩
      obtain ⟨ι1, g1, vs, l1, e1, r1, i1, q1, p1, p2⟩ := himp ι h hr hi
      have hcells : ∀ (k : Nat) v, vs[k]? = some v → ∃ u, cs[a.off + k]? = some u ∧ VR ι1 g1.length v u := by
        intro k v hk
        obtain ⟨u, h1, h2⟩ := q1.2 k v hk
        have h3 := hus k u h1
        rw [ha, add_addr] at h3
        simp [World.cell?, hh] at h3
        exact ⟨u, h3, h2⟩
      obtain ⟨z1, z2, z3⟩ := r1.addImm i1 hh hcells
      have hlen : xs.length = len := by rw [← p1, q1.1]; simp [us]
      refine ⟨_, _, [.slice (some ⟨g1.length, 0, none⟩) xs.length 0], l1.trans (Le.push _ _), fun i hi => ?_, z1, z2, ⟨rfl, fun k v hk => ?_⟩, _, rfl, ?_, g1.length, 0, Wk.refl _, fun k x hk => ?_⟩
      · rw [upι_lt (Nat.lt_of_lt_of_le hi l1.len)]; exact e1 i hi
      · cases k with
        | zero =>
          simp at hk; subst hk
          refine ⟨_, rfl, ?_⟩
          rw [hlen, ha]
          have := VR.slW (ι := upι ι1 g1.length ⟨a.block, a.off, 0, false⟩) (n := (g1 ++ [some (⟨vs, none⟩ : Blk)]).length) g1.length 0 len cap (by simp) (.inl hl)
          rw [upι_self] at this
          exact this
        | succ k => simp at hk
      · simp only [maxLen] at hm; omega
      · obtain ⟨v, h1, h2⟩ := p2 k x hk
        exact ⟨_, v, z3, by simpa using h1, hE _ _ _ _ (Le.push _ _) h2⟩
end

/-- a law, met in memory xs it came -/
theorem law_meets {P : Program} {f : FuncId} {W : World} {ι : Nat → Io} {h : AH} {args : List Value} {cargs : Array Value} (hr : HR ι h W) (hi : Imm h) (ha : VRL ι h.length args cargs.toList)
    (hc : ACalls P f args h (fun r h' => r = .bool true ∧ h' = h)) : Calls P f cargs W (fun e w' => e = .returned (.bool true) ∧ Below W.heap.size W w') := by
  refine (hc.calls ι W cargs hr (by rw [ha.1]; simp) (fun i v hk => by
    obtain ⟨u, h1, h2⟩ := ha.2 i v hk
    exact ⟨u, by simpa using h1, h2⟩)).mono ?_
  rintro e w' ⟨r, u, h', ι', rfl, ⟨rfl, rfl⟩, hv, hcr⟩
  refine ⟨by rw [hv.bool_inv], ⟨hcr.os, hcr.tape, hcr.output, hcr.sz, fun k hk => hcr.fr k hk fun i b hl ho => ?_⟩⟩
  rw [hi i b hl] at ho; cases ho

theorem HR.empty (w : World) : HR (fun _ => ⟨0, 0, 0, false⟩) [] w := ⟨fun i b hl => by cases i <;> simp [look] at hl, fun i j bi bj hl => by cases i <;> simp [look] at hl, fun _ => rfl⟩
theorem Imm.empty : Imm [] := fun i b hl => by cases i <;> simp [look] at hl
end Go.Gl

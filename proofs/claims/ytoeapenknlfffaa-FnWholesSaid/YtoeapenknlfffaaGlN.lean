/- The plain view of memory: rows of structures. No condition. -/
import Derived.Test.YtoeapenknlfffaaGlM
import Derived.Test.YtoeapenknlfffaaGlT
set_option linter.unusedVariables false
set_option linter.unusedSimpArgs false
namespace Go.Gl
open Go.RowKit Go.ChangeShapes Go.WideShapes

/-- rows of structures with s cells each -/
def CN {α : Type} (s : Nat) (E : AH → List Value → α → Prop) (h : AH) (b o : Nat) (xs : List α) : Prop :=
  ∀ (k : Nat) x, xs[k]? = some x → ∃ blk us, look h b = some blk ∧ us.length = s ∧ (blk.cells.drop (o + mulE k s)).take s = us ∧ E h us x
def RN {α : Type} (s : Nat) (E : AH → List Value → α → Prop) (h : AH) (v : Value) (xs : List α) : Prop :=
  xs.length ≤ 9223372036854775807 ∧ ∃ b o, Wk v (.slice (some ⟨b, o, none⟩) xs.length 0) ∧ CN s E h b o xs
theorem CN.le {α : Type} {s : Nat} {E : AH → List Value → α → Prop} (hE : ∀ h h' v x, Le h h' → E h v x → E h' v x) {h h' : AH} (hl : Le h h') {b o : Nat} {xs : List α} (hc : CN s E h b o xs) : CN s E h' b o xs := by
  intro k x hk
  obtain ⟨blk, us, h1, h2, h3, h4⟩ := hc k x hk
  exact ⟨blk, us, hl.at_ _ _ h1, h2, h3, hE _ _ _ _ hl h4⟩
theorem RN.le {α : Type} {s : Nat} {E : AH → List Value → α → Prop} (hE : ∀ h h' v x, Le h h' → E h v x → E h' v x) : ∀ h h' v xs, Le h h' → RN s E h v xs → RN s E h' v xs := by
  rintro h h' v xs hl ⟨h1, b, o, h2, h3⟩
  exact ⟨h1, b, o, h2, h3.le hE hl⟩
theorem RN.can {α : Type} {s : Nat} {E : AH → List Value → α → Prop} {h : AH} {v : Value} {xs : List α} (hr : RN s E h v xs) : ∃ b o, Wk v (.slice (some ⟨b, o, none⟩) xs.length 0) ∧ RN s E h (.slice (some ⟨b, o, none⟩) xs.length 0) xs := by
  obtain ⟨h1, b, o, h2, h3⟩ := hr
  exact ⟨b, o, h2, h1, b, o, Wk.refl _, h3⟩
/-- the load of a whole structure -/
theorem CN.load {α : Type} {s : Nat} {E : AH → List Value → α → Prop} {h g : AH} {b o : Nat} {xs : List α} (hc : CN s E h b o xs) (hl : Le h g) {i : TI} {k a : Nat} {x : α} (hx : xs[k]? = some x) {K : Value → Prop}
    (hK : ∀ us, us.length = s → E h us x → K (.agg us.toArray)) (ha : a = o + mulE k s := by rfl) (hi : i.agg = true := by rfl) (hs : i.size = s := by rfl) : LoadX g i b a K := by
  obtain ⟨blk, us, h1, h2, h3, h4⟩ := hc k x hx
  subst ha
  refine LoadX.same (hl.at_ _ _ h1) ?_ (hK us h2 h4)
  unfold ldv
  rw [hi, hs, h3, h2]
  simp
/-- the load of a field -/
theorem CN.field {α : Type} {s : Nat} {E : AH → List Value → α → Prop} {h g : AH} {b o : Nat} {xs : List α} (hc : CN s E h b o xs) (hl : Le h g) {i : TI} {k f a : Nat} {x : α} (hx : xs[k]? = some x) (hf : f < s) {K : Value → Prop} {v : Value}
    (hv : ∀ us, us.length = s → E h us x → us[f]? = some v) (hK : K v) (ha : a = o + mulE k s + f := by rfl) (hi : i.agg = false := by rfl) : LoadX g i b a K := by
  obtain ⟨blk, us, h1, h2, h3, h4⟩ := hc k x hx
  subst ha
  refine LoadX.same (hl.at_ _ _ h1) ?_ hK
  unfold ldv
  rw [hi]
  have := hv us h2 h4
  rw [← h3, List.getElem?_take, if_pos hf, List.getElem?_drop] at this
  exact this

/-- a slice that is told by its place has one place alone -/
theorem RN.cells {α : Type} {s : Nat} {E : AH → List Value → α → Prop} {h : AH} {b o k : Nat} {xs : List α} (hr : RN s E h (.slice (some ⟨b, o, none⟩) k 0) xs) (hk : k = xs.length) : CN s E h b o xs := by
  obtain ⟨hm, b', o', hw, hc⟩ := hr
  intro j x hj
  have hjl := (List.getElem?_eq_some_iff.1 hj).1
  subst hk
  obtain ⟨rfl, rfl⟩ := Wk.place0 hw (by omega)
  exact hc j x hj
theorem flat_get {β : Type} {s : Nat} (hs : 0 < s) : ∀ (ls : List (List β)), (∀ l ∈ ls, l.length = s) → ∀ i j, j < s → ls.flatten[i * s + j]? = (ls[i]?).bind (·[j]?)
  | [], _, i, j, _ => by simp
  | l :: ls, h, i, j, hj => by
    have hl := h l List.mem_cons_self
    cases i with
    | zero =>
      rw [List.flatten_cons, Nat.zero_mul, Nat.zero_add, List.getElem?_append_left (by omega)]
      simp
    | succ i =>
      rw [List.flatten_cons, List.getElem?_append_right (by rw [hl, Nat.succ_mul]; omega), show (i + 1) * s + j - l.length = i * s + j by rw [hl, Nat.succ_mul]; omega]
      rw [flat_get hs ls (fun l hm => h l (List.mem_cons_of_mem _ hm)) i j hj]
      simp
theorem flat_chunk {β : Type} {s : Nat} : ∀ (ls : List (List β)), (∀ l ∈ ls, l.length = s) → ∀ (i : Nat) l, ls[i]? = some l → (ls.flatten.drop (i * s)).take s = l
  | [], _, i, l, hl => by simp at hl
  | x :: ls, h, i, l, hl => by
    have hx := h x List.mem_cons_self
    cases i with
    | zero =>
      simp at hl; subst hl
      simp [← hx]
    | succ i =>
      have := flat_chunk ls (fun l hm => h l (List.mem_cons_of_mem _ hm)) i l (by simpa using hl)
      rw [List.flatten_cons, show (i + 1) * s = x.length + i * s by rw [hx, Nat.succ_mul]; omega, List.drop_append, List.drop_eq_nil_of_le (by omega), List.nil_append]
      simpa using this

section
variable {H : Type} {enc : TypeId × Value → H} {P : Program} {w : World} {base : Nat} {spare : Nat → Bool} {held : Bool}
theorem imp_manyN {α : Type} {s : Nat} {E : AH → List Value → α → Prop} (hE : ∀ h h' v x, Le h h' → E h v x → E h' v x) : ∀ (cs : List (List Value)), (∀ c ∈ cs, c.length = s ∧ ImpC w c E) →
    ImpC w cs.flatten (fun h vs (xs : List α) => ∃ vss : List (List Value), vs = vss.flatten ∧ vss.length = xs.length ∧ (∀ l ∈ vss, l.length = s) ∧ ∀ (k : Nat) x, xs[k]? = some x → ∃ v, vss[k]? = some v ∧ E h v x)
  | [], _ => ⟨[], fun ι h hr hi => ⟨ι, h, [], Le.refl _, fun _ _ => rfl, hr, hi, ⟨rfl, fun k v hk => by simp at hk⟩, [], rfl, rfl, (fun l hl => (List.not_mem_nil hl).elim), fun k x hk => by simp at hk⟩⟩
  | c :: cs, hu => by
    obtain ⟨hc, a, h1⟩ := hu c List.mem_cons_self
    obtain ⟨xs, h2⟩ := imp_manyN hE cs fun u hm => hu u (List.mem_cons_of_mem _ hm)
    refine ⟨a :: xs, fun ι h hr hi => ?_⟩
    obtain ⟨ι1, g1, v1, l1, e1, r1, i1, q1, p1⟩ := h1 ι h hr hi
    obtain ⟨ι2, g2, v2, l2, e2, r2, i2, q2, vss, rfl, p2, p3, p4⟩ := h2 ι1 g1 r1 i1
    refine ⟨ι2, g2, v1 ++ vss.flatten, l1.trans l2, fun i hi => (e2 i (Nat.lt_of_lt_of_le hi l1.len)).trans (e1 i hi), r2, i2, (q1.ext l2.len e2).append q2, v1 :: vss, rfl, by simp [p2], fun l hl => ?_, fun k x hk => ?_⟩
    · rcases List.mem_cons.1 hl with rfl | hl
      · rw [q1.1, hc]
      · exact p3 l hl
    · cases k with
      | zero => simp at hk; subst hk; exact ⟨v1, rfl, hE _ _ _ _ l2 p1⟩
      | succ k => exact p4 k x (by simpa using hk)
theorem ImpT.sliceN {t e : TypeId} {s : Nat} (hs : 0 < s) (ht : P.underlying t = some (.slice e)) (hc : P.cellsOf e = s) {α : Type} {E : AH → List Value → α → Prop} (hE : ∀ h h' v x, Le h h' → E h v x → E h' v x) (he : ImpT enc P w base spare held e E) :
    ImpT enc P w base spare held t (One (RN s E)) := by
  intro fuel cs x h
  rcases Go.Deep.open_slice ht h with ⟨rfl, _⟩ | ⟨a, len, cap, m, n, D, Pl, rfl, hb, hl, hm, hmm, _, hel⟩
  · refine ⟨[], fun ι h hr hi => ⟨ι, h, [.slice none 0 0], Le.refl _, fun _ _ => rfl, hr, hi, ⟨rfl, fun k v hk => ⟨v, hk, by
      cases k with
      | zero => simp at hk; subst hk; exact .slN
      | succ k => simp at hk⟩⟩, _, rfl, by simp, 0, 0, Wk.nil _, fun k x hk => by simp at hk⟩⟩
  · rw [hc] at hel
    have hlm : len ≤ m := by rw [hmm]; split <;> omega
    have hcell : ∀ i, i < len → ∃ c : List Value, c.length = s ∧ (∀ j u, c[j]? = some u → w.cell? ((a.add (i * s)).add j) = some u) ∧ ImpC w c E := by
      intro i hi
      obtain ⟨cs', h1, h2⟩ := hel i (by omega)
      obtain ⟨_, h3, h4⟩ := World.cells?_some h1
      exact ⟨cs', h3, fun j u hj => by
        have hjl := (List.getElem?_eq_some_iff.1 hj).1
        have := h4 j (by omega)
        rw [hj] at this
        exact this, he n cs' _ h2⟩
    rcases Nat.eq_zero_or_pos len with h0 | hpos
    · subst h0
      refine ⟨[], fun ι h hr hi => ⟨ι, h, [.slice (some ⟨0, 0, none⟩) 0 0], Le.refl _, fun _ _ => rfl, hr, hi, ⟨rfl, fun k v hk => ?_⟩, _, rfl, by simp, 0, 0, Wk.refl _, fun k x hk => by simp at hk⟩⟩
      cases k with
      | zero => simp at hk; subst hk; exact ⟨_, rfl, .slZ _ _ _⟩
      | succ k => simp at hk
    · obtain ⟨f, hf⟩ := Go.Deep.choose_lt (α := List Value) hcell
      let us := (List.range len).map f
      have husl : ∀ c ∈ us, c.length = s := fun c hm => by
        simp only [us, List.mem_map, List.mem_range] at hm
        obtain ⟨i, hi, rfl⟩ := hm
        exact (hf i hi).1
      have hus : ∀ k u, us.flatten[k]? = some u → w.cell? ((a.add (k / s * s)).add (k % s)) = some u := by
        intro k u hk
        have hk' : us.flatten[k / s * s + k % s]? = some u := by rw [Nat.div_add_mod']; exact hk
        rw [flat_get hs us husl _ _ (Nat.mod_lt _ hs)] at hk'
        obtain ⟨c, h1, h2⟩ := Option.bind_eq_some_iff.1 hk'
        simp only [us, List.getElem?_map, Option.map_eq_some_iff] at h1
        obtain ⟨i, h3, h4⟩ := h1
        have hlt := (List.getElem?_eq_some_iff.1 h3).1
        simp at hlt
        have : i = k / s := by rw [List.getElem?_range hlt] at h3; injection h3 with h3; exact h3.symm
        subst this
        rw [← h4] at h2
        exact (hf _ hlt).2.1 _ _ h2
      obtain ⟨xs, himp⟩ := imp_manyN hE us (fun c hm => by
        refine ⟨husl c hm, ?_⟩
        simp only [us, List.mem_map, List.mem_range] at hm
        obtain ⟨i, hi, rfl⟩ := hm
        exact (hf i hi).2.2)
      obtain ⟨c0, h00, h0, _⟩ := hcell 0 hpos
      have hblk : ∃ cs e' fr, w.heap[a.block]? = some (.cells cs e' fr) ∧ a.spot = none := by
        have h1 := h0 0 c0[0] (List.getElem?_eq_getElem (by omega))
        unfold World.cell? at h1
        have : ((a.add (0 * s)).add 0) = a := by simp [Addr.add]
        rw [this] at h1
        split at h1
        · rename_i cs e' fr hh
          split at h1
          · cases h1
          · rename_i hs
            refine ⟨cs, e', fr, hh, ?_⟩
            cases hsp : a.spot with
            | none => rfl
            | some _ => rw [hsp] at hs; simp at hs
        · cases h1
      obtain ⟨cs, e', fr, hh, hsp⟩ := hblk
      have ha : a = ⟨a.block, a.off, none⟩ := by cases a; simp at hsp; subst hsp; rfl
      refine ⟨xs, fun ι h hr hi => ?_⟩
      obtain ⟨ι1, g1, vs, l1, e1, r1, i1, q1, vss, rfl, p1, p3, p2⟩ := himp ι h hr hi
      have hcells : ∀ (k : Nat) v, vss.flatten[k]? = some v → ∃ u, cs[a.off + k]? = some u ∧ VR ι1 g1.length v u := by
        intro k v hk
        obtain ⟨u, h1, h2⟩ := q1.2 k v hk
        have h3 := hus k u h1
        rw [ha, add_addr, add_addr, Nat.add_assoc, Nat.div_add_mod'] at h3
        simp [World.cell?, hh] at h3
        exact ⟨u, h3, h2⟩
      obtain ⟨z1, z2, z3⟩ := r1.addImm i1 hh hcells
      have hlen : xs.length = len := by
        have e2 : vss.flatten.length = us.flatten.length := q1.1
        have e3 : ∀ (l : List (List Value)), (∀ c ∈ l, c.length = s) → l.flatten.length = l.length * s := by
          intro l
          induction l with
          | nil => simp
          | cons c l ih => intro hc; rw [List.flatten_cons, List.length_append, hc c List.mem_cons_self, ih (fun c hm => hc c (List.mem_cons_of_mem _ hm)), List.length_cons, Nat.succ_mul]; omega
        rw [e3 vss p3, e3 us husl] at e2
        have := Nat.eq_of_mul_eq_mul_right hs e2
        rw [← p1, this]; simp [us]
      refine ⟨_, _, [.slice (some ⟨g1.length, 0, none⟩) xs.length 0], l1.trans (Le.push _ _), fun i hi => ?_, z1, z2, ⟨rfl, fun k v hk => ?_⟩, _, rfl, ?_, g1.length, 0, Wk.refl _, fun k x hk => ?_⟩
      · rw [upι_lt (Nat.lt_of_lt_of_le hi l1.len)]; exact e1 i hi
      · cases k with
        | zero =>
          simp at hk; subst hk
          refine ⟨_, rfl, ?_⟩
          rw [hlen, ha]
          have := VR.slW (ι := upι ι1 g1.length ⟨a.block, a.off, 0, false⟩) (n := (g1 ++ [some (⟨vss.flatten, none⟩ : Blk)]).length) g1.length 0 len cap (by simp) (.inl hl)
          rw [upι_self] at this
          exact this
        | succ k => simp at hk
      · simp only [maxLen] at hm; omega
      · obtain ⟨v, h1, h2⟩ := p2 k x hk
        refine ⟨_, v, z3, p3 v (List.mem_of_getElem? h1), ?_, hE _ _ _ _ (Le.push _ _) h2⟩
        rw [mulE_eq, Nat.zero_add]
        exact flat_chunk vss p3 k v h1
end
end Go.Gl

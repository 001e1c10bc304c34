/- A number is put deep into a tree. No condition. -/
import Derived.Test.YtionapmdibdfpaaGlW
set_option linter.unusedVariables false
namespace Go.Gl
open Go.Proofs Go.Proofs.Ytionapmdibdfpaa Go.Pl

/-- h' is h with a number at the cell a of the block b -/
structure Put (h : AH) (b a : Nat) (y : Int) (h' : AH) : Prop where
  ex : ∀ blk, look h b = some blk → look h' b = some ⟨setCells blk.cells a [.int .i64 y], blk.own⟩
  out : ∀ i, i ≠ b → look h' i = look h i
/-- the cell a of the block b is a number of the tree -/
structure Cell {α : Type} (E : Tr α) (n : Nat) (h : AH) (v : Value) (l : List Nat) (b a : Nat) (up : Int → α) (y0 : Int) : Prop where
  mem : b ∈ l
  at_ : ∃ blk, look h b = some blk ∧ blk.own = some (tI, 1) ∧ blk.cells[a]? = some (.int .i64 y0)
  put : ∀ y h', Put h b a y h' → E n h' v (up y) l
theorem Leaf.cell {n : Nat} {h : AH} {v : Value} {xs : List Int} {l : List Nat} (he : Leaf tI n h v xs l) {k : Nat} (hk : k < xs.length) :
    ∃ b o, Wk v (.slice (some ⟨b, o, none⟩) xs.length 0) ∧ Cell (Leaf tI) n h v l b (o + k) (fun y => xs.set k y) (ith xs k) := by
  obtain ⟨hm, hx⟩ := he
  rcases hx with ⟨rfl, _⟩ | ⟨b, o, blk, hw, hn, rfl, e4, e5, e6, e7⟩
  · simp at hk
  refine ⟨b, o, hw, ⟨by simp, ⟨blk, e4, e5, e7 k _ (by rw [List.getElem?_eq_getElem hk, ith_get hk])⟩, fun y h' hp => ?_⟩⟩
  refine ⟨by simpa using hm, .inr ⟨b, o, _, by simpa using hw, hn, rfl, hp.ex blk e4, e5, ?_, fun i x hi => ?_⟩⟩
  · rw [setCells_length _ _ _ (by simp; omega)]; simpa using e6
  · rw [setCells_get _ _ _ (by simp; omega)]
    simp only [List.length_singleton]
    rw [List.getElem?_set] at hi
    by_cases hik : k = i
    · subst hik
      rw [if_pos rfl, if_pos hk] at hi
      injection hi with hi
      subst hi
      rw [if_pos (by omega)]
      simp
    · rw [if_neg hik] at hi
      rw [if_neg (by omega)]
      exact e7 i x hi
theorem Node.cell {tr : TypeId} {α : Type} {E : Tr α} {T : List TypeId} (hE : Fr tI T E) (hT : (!(tr :: T).contains tI) = true) {n : Nat} {h : AH} {v : Value} {xs : List α} {l : List Nat} (he : Node tr E n h v xs l) {k : Nat} {x : α} (hx : xs[k]? = some x) :
    ∃ b o blk u m, Wk v (.slice (some ⟨b, o, none⟩) xs.length 0) ∧ look h b = some blk ∧ blk.cells[o + k]? = some u ∧ E n h u x m ∧
      ∀ b2 a up y0, Cell E n h u m b2 a up y0 → Cell (Node tr E) n h v l b2 a (fun y => xs.set k (up y)) y0 := by
  obtain ⟨hm, b, o, us, ls, hw, hr, rfl, h0 | ⟨hb, blk, e1, e2, e3⟩⟩ := he
  · subst h0; simp at hx
  have hkl := (List.getElem?_eq_some_iff.1 hx).1
  obtain ⟨u, hu⟩ : ∃ u, us[k]? = some u := ⟨us[k]'(by rw [hr.lu]; exact hkl), List.getElem?_eq_getElem _⟩
  obtain ⟨m, hl⟩ : ∃ m, ls[k]? = some m := ⟨ls[k]'(by rw [hr.ll]; exact hkl), List.getElem?_eq_getElem _⟩
  have hno : ∀ ty ∈ tr :: T, ty ≠ tI := fun ty hty e => by
    subst e
    rw [List.contains_iff_mem.2 hty] at hT
    simp at hT
  refine ⟨b, o, blk, u, m, hw, e1, e3 k u hu, hr.el k u x m hu hx hl, fun b2 a up y0 hc => ⟨List.mem_flatten.2 ⟨m, List.mem_of_getElem? hl, hc.mem⟩, hc.at_, fun y h' hp => ?_⟩⟩
  obtain ⟨blk2, f1, f2, _⟩ := hc.at_
  have hne : ∀ i bb s ty, look h i = some bb → bb.own = some (ty, s) → ty ∈ tr :: T → i ≠ b2 := fun i bb s ty g1 g2 g3 e => by
    subst e
    rw [f1] at g1; injection g1 with g1; subst g1
    rw [f2] at g2; injection g2 with g2; injection g2 with g2 _
    exact hno ty g3 g2.symm
  obtain ⟨_, fj⟩ := flat_nodup.1 hr.nd
  refine ⟨by rw [List.length_set]; exact hm, b, o, us, ls, by rw [List.length_set]; exact hw, ⟨by rw [List.length_set]; exact hr.lu, by rw [List.length_set]; exact hr.ll, hr.nd, fun i u' x' m' a1 a2 a3 => ?_⟩, rfl, .inr ⟨hb, blk, ?_, e2, e3⟩⟩
  · rw [List.getElem?_set] at a2
    by_cases hik : k = i
    · subst hik
      rw [if_pos rfl, if_pos hkl] at a2
      injection a2 with a2; subst a2
      rw [hu] at a1; injection a1 with a1; subst a1
      rw [hl] at a3; injection a3 with a3; subst a3
      exact hc.put y h' hp
    · rw [if_neg hik] at a2
      refine hE.keep _ _ _ _ _ _ (hr.el i u' x' m' a1 a2 a3) fun i2 bb z1 z2 z3 => ?_
      rw [hp.out i2 ?_]
      · exact z1
      · rcases z3 with z3 | ⟨ty, z3, s, z4⟩
        · intro e; subst e
          exact hik (fj k i m m' i2 hl a3 hc.mem z3)
        · exact hne i2 bb s ty z1 z4 (List.mem_cons_of_mem _ z3)
  · rw [hp.out b (hne b blk 1 tr e1 e2 List.mem_cons_self)]
    exact e1
theorem Put.only {h h' : AH} {b a : Nat} {y : Int} {blk : Blk} {F : Nat → Prop} (hl : look h b = some blk) (hf : F b) (w2 : look h' b = some ⟨setCells blk.cells a [.int .i64 y], blk.own⟩) (w3 : ∀ i, i ≠ b → look h' i = look h i) : Put (only F h) b a y (only F h') :=
  ⟨fun bb e => by
    have e := (only_some.1 e).2
    rw [hl] at e; injection e with e; subst e
    exact only_some.2 ⟨hf, w2⟩, fun i hne => by
    cases e1 : look (Go.Gl.only F h) i with
    | some z => rw [only_some] at e1 ⊢; exact ⟨e1.1, by rw [w3 i hne]; exact e1.2⟩
    | none =>
      cases e2 : look (Go.Gl.only F h') i with
      | none => rfl
      | some z =>
        rw [only_some, w3 i hne] at e2
        have := only_some.2 e2
        rw [this] at e1; cases e1⟩
section
variable {M : Nat → Prop} {n : Nat} {hb h : AH} {Rs : List Res}
/-- one number of a list of tables: the loads on the way, and the store -/
theorem SepM.cell3 (S : SepM M n hb h Rs) (j : Nat) {m b o q : Nat} {x : List (List (List Int))} (hj : gt Rs j = some (.tr OIII.fr m (.slice (some ⟨b, o, none⟩) q 0) x)) (hq : x.length = q) {k i t : Nat} (hk : k < x.length) (hi : i < (mat x k).length) (ht : t < (row (mat x k) i).length) :
    ∃ b1 o1 b2 o2, (∀ (i' : TI) (K : Value → Prop), i'.agg = false → K (.slice (some ⟨b1, o1, none⟩) (mat x k).length 0) → LoadX h i' b (o + k) K) ∧
      (∀ (i' : TI) (K : Value → Prop), i'.agg = false → K (.slice (some ⟨b2, o2, none⟩) (row (mat x k) i).length 0) → LoadX h i' b1 (o1 + i) K) ∧
      (∀ (i' : TI) (K : Value → Prop), i'.agg = false → K (.int .i64 (ent (mat x k) i t)) → LoadX h i' b2 (o2 + t) K) ∧
      ∀ (y : Int) (K : AH → Prop), (∀ h', SepM M n hb h' (st Rs j (.tr OIII.fr m (.slice (some ⟨b, o, none⟩) q 0) (x.set k ((mat x k).set i ((row (mat x k) i).set t y))))) → K h') → StoreX h b2 (o2 + t) [.int .i64 y] K := by
  subst hq
  obtain ⟨F, ⟨l, h1⟩, h2, _, _, h4⟩ := S.step hj
  obtain ⟨c0, p0, k0, u0, m0, w0, a0, d0, g0, r0⟩ := Node.cell OII.fr rfl h1 (k := k) (x := mat x k) (by rw [List.getElem?_eq_getElem hk, mat_get hk])
  obtain ⟨rfl, rfl⟩ := Wk.place0 w0 (by omega)
  obtain ⟨b1, o1, k1, u1, m1, w1, a1, d1, g1, r1⟩ := Node.cell OI.fr rfl g0 (k := i) (x := row (mat x k) i) (by rw [List.getElem?_eq_getElem hi, row_get hi])
  obtain ⟨b2, o2, w2, r2⟩ := Leaf.cell g1 ht
  have rr := r0 _ _ _ _ (r1 _ _ _ _ r2)
  obtain ⟨k2, a2, s2, d2⟩ := r2.at_
  have f0 := (only_some.1 a0).2
  have f1 := (only_some.1 a1).2
  obtain ⟨hf2, f2⟩ := only_some.1 a2
  have hlt : o2 + t < k2.cells.length := (List.getElem?_eq_some_iff.1 d2).1
  refine ⟨b1, o1, b2, o2, fun i' K ha hK => LoadX.one f0 (by unfold ldv; rw [ha]; exact d0) w1 hK, fun i' K ha hK => LoadX.one f1 (by unfold ldv; rw [ha]; exact d1) w2 hK, fun i' K ha hK => LoadX.same f2 (by unfold ldv; rw [ha]; exact d2) hK, fun y K hK => ?_⟩
  refine StoreX.intro f2 (by rw [s2]; rfl) (by simp; omega) fun h' q1 q2 q3 _ => hK h' ?_
  refine h4 h' _ F (Nat.le_of_eq q1.symm) ⟨l, rr.put y _ (Put.only f2 hf2 q2 q3)⟩ (fun i hi => ⟨by rw [q1]; exact (h2 i hi).1, .inl hi⟩) fun i bb hf e => ?_
  rw [q3 i (fun hh => by subst hh; exact hf hf2)]
  exact e
end
/-- one row of numbers of a table, changed in its place -/
theorem Node.leafAt {tr : TypeId} (ht : (!Nat.beq tr tI) = true) {n : Nat} {h : AH} {v : Value} {xs : List (List Int)} {l : List Nat} (he : Node tr (Leaf tI) n h v xs l) {k : Nat} (hk : k < xs.length) :
    ∃ b o blk u m, Wk v (.slice (some ⟨b, o, none⟩) xs.length 0) ∧ look h b = some blk ∧ blk.cells[o + k]? = some u ∧ Leaf tI n h u (row xs k) m ∧
      ∀ b2 h' y, b2 ∈ m → (∀ i bb, i ≠ b2 → look h i = some bb → look h' i = some bb) → Leaf tI n h' u y m → Node tr (Leaf tI) n h' v (xs.set k y) l := by
  obtain ⟨hm, b, o, us, ls, hw, hr, rfl, h0 | ⟨hb, blk, e1, e2, e3⟩⟩ := he
  · subst h0; simp at hk
  have hx : xs[k]? = some (row xs k) := by rw [List.getElem?_eq_getElem hk, row_get hk]
  obtain ⟨u, hu⟩ : ∃ u, us[k]? = some u := ⟨us[k]'(by rw [hr.lu]; exact hk), List.getElem?_eq_getElem _⟩
  obtain ⟨m, hl⟩ : ∃ m, ls[k]? = some m := ⟨ls[k]'(by rw [hr.ll]; exact hk), List.getElem?_eq_getElem _⟩
  have hel := hr.el k u _ m hu hx hl
  refine ⟨b, o, blk, u, m, hw, e1, e3 k u hu, hel, fun b2 h' y hb2 hp hy => ?_⟩
  obtain ⟨_, blk2, s2, f1, f2⟩ := (Leaf.fr tI).leaf _ _ _ _ _ hel b2 hb2
  have hne : b ≠ b2 := fun e => by
    subst e
    rw [e1] at f1; injection f1 with f1; subst f1
    rw [e2] at f2; injection f2 with f2; injection f2 with f2 _
    rw [f2] at ht; simp at ht
  obtain ⟨_, fj⟩ := flat_nodup.1 hr.nd
  refine ⟨by rw [List.length_set]; exact hm, b, o, us, ls, by rw [List.length_set]; exact hw, ⟨by rw [List.length_set]; exact hr.lu, by rw [List.length_set]; exact hr.ll, hr.nd, fun i u' x' m' a1 a2 a3 => ?_⟩, rfl, .inr ⟨hb, blk, hp b blk hne e1, e2, e3⟩⟩
  rw [List.getElem?_set] at a2
  by_cases hik : k = i
  · subst hik
    rw [if_pos rfl, if_pos hk] at a2
    injection a2 with a2; subst a2
    rw [hu] at a1; injection a1 with a1; subst a1
    rw [hl] at a3; injection a3 with a3; subst a3
    exact hy
  · rw [if_neg hik] at a2
    refine (Leaf.fr tI).keep _ _ _ _ _ _ (hr.el i u' x' m' a1 a2 a3) fun i2 bb z1 z2 z3 => hp i2 bb ?_ z1
    rcases z3 with z3 | ⟨ty, z3, _⟩
    · intro e; subst e
      exact hik (fj k i m m' i2 hl a3 hb2 z3)
    · cases z3
section
variable {M : Nat → Prop} {n : Nat} {hb h : AH} {Rs : List Res}
/-- a row of a table is lent -/
theorem SepM.lendRow (S : SepM M n hb h Rs) (j : Nat) {m b o q : Nat} {x : List (List Int)} (hj : gt Rs j = some (.tr OII.fr m (.slice (some ⟨b, o, none⟩) q 0) x)) (hq : x.length = q) {k : Nat} (hk : k < x.length) (h0 : 0 < (row x k).length) :
    ∃ b2 o2, (∀ (i' : TI) (K : Value → Prop), i'.agg = false → K (.slice (some ⟨b2, o2, none⟩) (row x k).length 0) → LoadX h i' b (o + k) K) ∧
      ∃ F, Held OI m h F (.slice (some ⟨b2, o2, none⟩) (row x k).length 0) (row x k) ∧ Le hb (hide F h) ∧
        ∀ h' y, y.length = (row x k).length → Upd OI m h F (.slice (some ⟨b2, o2, none⟩) (row x k).length 0) y h' → SepM M n hb h' (st Rs j (.tr OII.fr m (.slice (some ⟨b, o, none⟩) q 0) (x.set k y))) := by
  subst hq
  obtain ⟨F, ⟨l, h1⟩, h2, hle, _, h4⟩ := S.step hj
  obtain ⟨c0, p0, blk, u, ml, w0, a0, d0, g0, r0⟩ := Node.leafAt rfl h1 hk
  obtain ⟨rfl, rfl⟩ := Wk.place0 w0 (by omega)
  obtain ⟨hm, hx⟩ := g0
  rcases hx with ⟨hx, _⟩ | ⟨b2, o2, blk2, hw, hn, rfl, e4, e5, e6, e7⟩
  · rw [hx] at h0; simp at h0
  have f0 := (only_some.1 a0).2
  obtain ⟨hf2, f2⟩ := only_some.1 e4
  refine ⟨b2, o2, fun i' K ha hK => LoadX.one f0 (by unfold ldv; rw [ha]; exact d0) hw hK, fun i => i = b2, ⟨[b2], hm, .inr ⟨b2, o2, blk2, Wk.refl _, hn, rfl, only_some.2 ⟨rfl, f2⟩, e5, e6, e7⟩⟩, ?_, fun h' y hy hu => ?_⟩
  · refine ⟨by rw [show (hide (fun i => i = b2) h).length = h.length from only_length _ _]; exact S.le.len, fun i bb e => hide_some.2 ⟨fun hh => ?_, S.le.at_ _ _ e⟩⟩
    have e := hle.at_ _ _ e
    subst hh
    exact (hide_some.1 e).1 hf2
  · obtain ⟨u1, F', ⟨l', hm', hx'⟩, u3⟩ := hu
    have hlen : h.length ≤ h'.length := by have := u1.len; rwa [show (hide (fun i => i = b2) h).length = h.length from only_length _ _] at this
    have hkeep : ∀ i bb, i ≠ b2 → look h i = some bb → look h' i = some bb := fun i bb hne e => u1.at_ _ _ (hide_some.2 ⟨hne, e⟩)
    rcases hx' with ⟨rfl, _⟩ | ⟨b3, o3, blk3, hw3, hn3, rfl, t4, t5, t6, t7⟩
    · simp at hy; omega
    rw [← hy] at hw3
    obtain ⟨rfl, rfl⟩ := Wk.place0 hw3 (by omega)
    have f3 := (only_some.1 t4).2
    refine h4 h' _ F hlen ⟨l, r0 b3 _ y (by simp) (fun i bb hne e => ?_) ⟨hm', .inr ⟨b3, o3, blk3, by rw [hy]; exact hw, hn, rfl, only_some.2 ⟨hf2, f3⟩, t5, t6, t7⟩⟩⟩ (fun i hi => ⟨Nat.lt_of_lt_of_le (h2 i hi).1 hlen, .inl hi⟩) fun i bb hf e => hkeep i bb (fun hh => by subst hh; exact hf hf2) e
    rw [only_some] at e ⊢
    exact ⟨e.1, hkeep i bb hne e.2⟩
end
end Go.Gl

/- Rows of rows that change in place: swapping, storing, lending. No condition. -/
import Derived.Test.YtionapmdibdfpaaGlT
import Derived.Test.YtionapmdibdfpaaPlG
set_option linter.unusedVariables false
set_option linter.unusedSimpArgs false
namespace Go.Gl
open Go.Pl

theorem flat_nodup {α : Type} : ∀ {ls : List (List α)}, ls.flatten.Nodup ↔ (∀ (i : Nat) l, ls[i]? = some l → l.Nodup) ∧ ∀ (i j : Nat) l m x, ls[i]? = some l → ls[j]? = some m → x ∈ l → x ∈ m → i = j
  | [] => ⟨fun _ => ⟨fun i l h => by simp at h, fun i j l m x h => by simp at h⟩, fun _ => by simp⟩
  | a :: ls => by
    rw [List.flatten_cons, List.nodup_append, flat_nodup (ls := ls)]
    constructor
    · rintro ⟨h1, ⟨h2, h3⟩, h4⟩
      refine ⟨fun i l h => ?_, fun i j l m x h5 h6 h7 h8 => ?_⟩
      · cases i with
        | zero => simp at h; subst h; exact h1
        | succ i => exact h2 i l (by simpa using h)
      · cases i with
        | zero => cases j with
          | zero => rfl
          | succ j =>
            simp at h5; subst h5
            exact absurd rfl (h4 x h7 x (List.mem_flatten.2 ⟨m, List.mem_of_getElem? (by simpa using h6), h8⟩))
        | succ i => cases j with
          | zero =>
            simp at h6; subst h6
            exact absurd rfl (h4 x h8 x (List.mem_flatten.2 ⟨l, List.mem_of_getElem? (by simpa using h5), h7⟩))
          | succ j => exact congrArg (· + 1) (h3 i j l m x (by simpa using h5) (by simpa using h6) h7 h8)
    · rintro ⟨h1, h2⟩
      refine ⟨h1 0 a rfl, ⟨fun i l h => h1 (i + 1) l (by simpa using h), fun i j l m x h3 h4 h5 h6 => ?_⟩, fun x hx y hy e => ?_⟩
      · have := h2 (i + 1) (j + 1) l m x (by simpa using h3) (by simpa using h4) h5 h6; omega
      · subst e
        obtain ⟨m, hm, hxm⟩ := List.mem_flatten.1 hy
        obtain ⟨j, hj, e⟩ := List.getElem_of_mem hm
        have := h2 0 (j + 1) a m x rfl (by simp [hj, e]) hx hxm
        omega

section
variable {M : Nat → Prop} {n : Nat} {hb h : AH} {Rs : List Res}

/-- the raw value of an element -/
theorem SepM.loadU (S : SepM M n hb h Rs) (j : Nat) {ti : TypeId} {T : List TypeId} {α : Type} {E : Tr α} {hE : Fr ti T E} {e : TypeId} {m b k c : Nat} {us : List Value} {xs : List α} (hj : gt Rs j = some (.rv hE e m (.slice (some ⟨b, 0, none⟩) k c) k us xs)) {i : Nat} {u : Value} (hu : us[i]? = some u) {ty : TI} {a : Nat} {K : Value → Prop} (hK : K u) (ha : a = 0 + i := by rfl) (hi : ty.agg = false := by rfl) : LoadX h ty b a K := by
  subst ha
  obtain ⟨F, b', ls, G, h1, h2, h3, h4, h5⟩ := S.get hj
  have hl := h3.only
  rcases hl with ⟨e1, e2, _⟩ | ⟨e1, _⟩
  · simp only [Value.slice.injEq, Option.some.injEq, Addr.mk.injEq] at e1
    obtain ⟨⟨rfl, _⟩, _⟩ := e1
    refine LoadX.same e2 ?_ hK
    unfold ldv
    rw [hi, Nat.zero_add]
    exact hu
  · cases e1
/-- a weaker value of an element -/
theorem SepM.loadW (S : SepM M n hb h Rs) (j : Nat) {ti : TypeId} {T : List TypeId} {α : Type} {E : Tr α} {hE : Fr ti T E} {e : TypeId} {m b k c : Nat} {us : List Value} {xs : List α} (hj : gt Rs j = some (.rv hE e m (.slice (some ⟨b, 0, none⟩) k c) k us xs)) {i : Nat} {u u' : Value} (hu : us[i]? = some u) (hw : Wk u u') {ty : TI} {a : Nat} {K : Value → Prop} (hK : K u') (ha : a = 0 + i := by rfl) (hi : ty.agg = false := by rfl) : LoadX h ty b a K := by
  obtain ⟨blk, v, v', e1, e2, e3, e4⟩ := (S.loadU j hj hu (K := fun v => v = u) rfl ha hi).ex
  subst e4
  exact ⟨⟨blk, v, u', e1, e2, fun ι n x hx => hw ι n x (e3 ι n x hx), hK⟩⟩
theorem Opq.d {b : Bool} {v : Value} {K : Value → Prop} (h : K v) (hb : b = false := by rfl) : brX b v (fun v => strictV v K) := by
  subst hb
  exact strictV.mk h
/-- the row's block and what it holds -/
theorem SepM.blkV (S : SepM M n hb h Rs) (j : Nat) {ti : TypeId} {T : List TypeId} {α : Type} {E : Tr α} {hE : Fr ti T E} {e : TypeId} {m b k c : Nat} {us : List Value} {xs : List α} (hj : gt Rs j = some (.rv hE e m (.slice (some ⟨b, 0, none⟩) k c) k us xs)) : look h b = some ⟨us, some (e, 1)⟩ := by
  obtain ⟨F, b', ls, G, h1, h2, h3, h4, h5⟩ := S.get hj
  exact (show NS h e 1 b' (.slice (some ⟨b, 0, none⟩) k c) k us from h3.only) |> fun hl => by
    rcases hl with ⟨e1, e2, _⟩ | ⟨e1, _⟩
    · simp only [Value.slice.injEq, Option.some.injEq, Addr.mk.injEq] at e1
      obtain ⟨⟨rfl, _⟩, _⟩ := e1
      exact e2
    · cases e1
/-- the elements come in another order -/
theorem SepM.reord (S : SepM M n hb h Rs) (j : Nat) {ti : TypeId} {T : List TypeId} {α : Type} {E : Tr α} {hE : Fr ti T E} {e : TypeId} {m b k : Nat} {us : List Value} {xs : List α} (hj : gt Rs j = some (.rv hE e m (.slice (some ⟨b, 0, none⟩) k 1) k us xs))
    {h' : AH} {us' : List Value} {xs' : List α} (σ : Nat → Nat) (hσ : ∀ i, i < k → σ i < k) (hinj : ∀ i i', i < k → i' < k → σ i = σ i' → i = i') (hu : ∀ i, i < k → us'[i]? = us[σ i]?) (hx : ∀ i, i < k → xs'[i]? = xs[σ i]?) (hul : us'.length = k) (hxl : xs'.length = k)
    (hl : look h' b = some ⟨us', some (e, 1)⟩) (hlen : h'.length = h.length) (ho : ∀ i, i ≠ b → look h' i = look h i) : SepM M n hb h' (st Rs j (.rv hE e m (.slice (some ⟨b, 0, none⟩) k 1) k us' xs')) := by
  obtain ⟨F, ⟨b', ls, G, h1, h2, h3, h4, h5⟩, g2, _, _, g4⟩ := S.step hj
  have hb' : b' = b ∧ us.length = k ∧ F b := by
    rcases h3 with ⟨e1, e2, e3⟩ | ⟨e1, _⟩
    · simp only [Value.slice.injEq, Option.some.injEq, Addr.mk.injEq] at e1
      obtain ⟨⟨rfl, _⟩, _⟩ := e1
      exact ⟨rfl, by simpa using e3, (only_some.1 e2).1⟩
    · cases e1
  obtain ⟨rfl, husl, hFb⟩ := hb'
  have hxsl : xs.length = k := by rw [← h5.lu]; exact husl
  have hlsl : ls.length = k := by rw [h5.ll]; exact hxsl
  have hls : ∀ i, i < k → ls[σ i]? = some (ls.getD (σ i) []) := fun i hi => by simp [hlsl, hσ i hi]
  let ls' := (List.range k).map fun i => ls.getD (σ i) []
  have hls' : ∀ i, i < k → ls'[i]? = ls[σ i]? := fun i hi => by rw [hls i hi]; simp [ls', hi]
  have hls'l : ls'.length = k := by simp [ls']
  refine g4 h' _ F (Nat.le_of_eq hlen.symm) ⟨b', ls', G, h1, h2, .inl ⟨rfl, only_some.2 ⟨hFb, hl⟩, by simp [hul]⟩, h4, ?_⟩ (fun i hi => ⟨by rw [hlen]; exact (g2 i hi).1, .inl hi⟩) (fun i blk hi e => by rw [ho i (fun hh => by subst hh; exact hi hFb)]; exact e)
  have hrow : Row E m (only G h') us xs ls := h5.up hE fun i blk e => by
    rw [only_some] at e ⊢
    exact ⟨e.1, by rw [ho i (fun hh => by subst hh; exact h1 e.1)]; exact e.2⟩
  refine ⟨by rw [hul, hxl], by rw [hls'l, hxl], ?_, fun i u x l a1 a2 a3 => ?_⟩
  · obtain ⟨f1, f2⟩ := flat_nodup.1 hrow.nd
    refine flat_nodup.2 ⟨fun i l hi => ?_, fun i i' l l' x a1 a2 a3 a4 => ?_⟩
    · have hik := (List.getElem?_eq_some_iff.1 hi).1
      rw [hls'l] at hik
      rw [hls' i hik] at hi
      exact f1 _ l hi
    · have hik := (List.getElem?_eq_some_iff.1 a1).1
      have hik' := (List.getElem?_eq_some_iff.1 a2).1
      rw [hls'l] at hik hik'
      rw [hls' i hik] at a1
      rw [hls' i' hik'] at a2
      exact hinj i i' hik hik' (f2 _ _ l l' x a1 a2 a3 a4)
  · have hik := (List.getElem?_eq_some_iff.1 a2).1
    rw [hxl] at hik
    rw [hu i hik] at a1
    rw [hx i hik] at a2
    rw [hls' i hik] at a3
    exact hrow.el _ u x l a1 a2 a3

/-- an element that is a row of numbers: where it lies, and how to put a number into it -/
theorem SepM.leafV (S : SepM M n hb h Rs) (j : Nat) {e : TypeId} {m k : Nat} {v : Value} {us : List Value} {xs : List (List Int)} (hj : gt Rs j = some (.rv OI.fr e m v k us xs)) (he : (!Nat.beq e tI) = true) {i : Nat} {u : Value} {x : List Int} (hu : us[i]? = some u) (hx : xs[i]? = some x) :
    ∃ bi oi, Wk u (.slice (some ⟨bi, oi, none⟩) x.length 0) ∧ CS EI h bi oi x ∧ ∀ (q a : Nat) (y : Int) (K : AH → Prop), q < x.length → a = oi + q → (∀ h', SepM M n hb h' (st Rs j (.rv OI.fr e m v k us (xs.set i (x.set q y)))) → K h') → StoreX h bi a [.int .i64 y] K := by
  obtain ⟨F, ⟨b, ls, G, h1, h2, h3, h4, h5⟩, g2, _, _, g4⟩ := S.step hj
  have hil := (List.getElem?_eq_some_iff.1 hx).1
  obtain ⟨l, hl⟩ : ∃ l, ls[i]? = some l := ⟨ls[i]'(by rw [h5.ll]; exact hil), List.getElem?_eq_getElem _⟩
  have hel := h5.el i u x l hu hx hl
  obtain ⟨hm, hh⟩ := hel
  rcases hh with ⟨rfl, rfl, hw⟩ | ⟨bi, oi, blk, hw, hn, rfl, e4, e5, e6, e7⟩
  · exact ⟨0, 0, hw, fun k x hk => by simp at hk, fun q a y K hq => by simp at hq⟩
  obtain ⟨f1, f2⟩ := only_some.1 e4
  refine ⟨bi, oi, hw, fun q y hq => ⟨blk, _, f2, e7 q y hq, rfl⟩, fun q a y K hq ha hK => ?_⟩
  subst ha
  refine StoreX.intro f2 (by rw [e5]; rfl) (by simp; omega) fun h' w1 w2 w3 _ => hK h' ?_
  have hbi : bi ≠ b := fun hh => by subst hh; exact h1 f1
  refine g4 h' _ F (Nat.le_of_eq w1.symm) ⟨b, ls, G, h1, h2, h3.keep (fun ee => ?_), h4, ?_⟩ (fun i hi => ⟨by rw [w1]; exact (g2 i hi).1, .inl hi⟩) fun i' blk' hf ee => ?_
  · rw [only_some] at ee ⊢
    exact ⟨ee.1, by rw [w3 b (Ne.symm hbi)]; exact ee.2⟩
  · have hnew : look (only G h') bi = some ⟨setCells blk.cells (oi + q) [.int .i64 y], blk.own⟩ := only_some.2 ⟨f1, w2⟩
    have hold : ∀ i', i' ≠ bi → look (only G h') i' = look (only G h) i' := fun i' hne => by
      cases e1 : look (only G h) i' with
      | some z => rw [only_some] at e1 ⊢; exact ⟨e1.1, by rw [w3 i' hne]; exact e1.2⟩
      | none =>
        cases e2 : look (only G h') i' with
        | none => rfl
        | some z =>
          rw [only_some, w3 i' hne] at e2
          have := only_some.2 e2
          rw [this] at e1; cases e1
    obtain ⟨_, fj⟩ := flat_nodup.1 h5.nd
    refine ⟨by rw [List.length_set]; exact h5.lu, by rw [List.length_set]; exact h5.ll, h5.nd, fun i' u' x' l' a1 a2 a3 => ?_⟩
    rw [List.getElem?_set] at a2
    by_cases hii : i = i'
    · subst hii
      rw [if_pos rfl, if_pos hil] at a2
      injection a2 with a2
      subst a2
      rw [hu] at a1; injection a1 with a1; subst a1
      rw [hl] at a3; injection a3 with a3; subst a3
      refine ⟨by simpa using hm, .inr ⟨bi, oi, _, by simpa using hw, hn, rfl, hnew, e5, ?_, fun q' z hz => ?_⟩⟩
      · rw [setCells_length _ _ _ (by simp; omega)]; simpa using e6
      · rw [setCells_get _ _ _ (by simp; omega)]
        simp only [List.length_singleton]
        rw [List.getElem?_set] at hz
        by_cases hqq : q = q'
        · subst hqq
          rw [if_pos rfl, if_pos hq] at hz
          injection hz with hz
          subst hz
          rw [if_pos (by omega)]
          simp
        · rw [if_neg hqq] at hz
          rw [if_neg (by omega)]
          exact e7 q' z hz
    · rw [if_neg hii] at a2
      refine OI.fr.keep _ _ _ _ _ _ (h5.el i' u' x' l' a1 a2 a3) fun i2 b2 z1 z2 z3 => ?_
      rw [hold i2 (fun hh => ?_)]
      · exact z1
      · subst hh
        rcases z3 with z3 | ⟨ty, z3, _⟩
        · exact hii (fj i i' [i2] l' i2 hl a3 (by simp) z3)
        · cases z3
  · rw [w3 i' (fun hh => by subst hh; exact hf (h2 _ f1))]; exact ee

/-- an element that is a row of numbers is lent -/
theorem SepM.lendV (S : SepM M n hb h Rs) (j : Nat) {e : TypeId} {m k : Nat} {v : Value} {us : List Value} {xs : List (List Int)} (hj : gt Rs j = some (.rv OI.fr e m v k us xs)) {i : Nat} {u : Value} {x : List Int} (hu : us[i]? = some u) (hx : xs[i]? = some x) :
    ∃ (F : Nat → Prop) (bi oi : Nat), Wk u (.slice (some ⟨bi, oi, none⟩) x.length 0) ∧ Held OI m h F (.slice (some ⟨bi, oi, none⟩) x.length 0) x ∧ Le hb (hide F h) ∧ (∀ i' u' x', i' ≠ i → us[i']? = some u' → xs[i']? = some x' → RI (hide F h) u' x') ∧
      (∀ j' b ty s cells, j' ≠ j → gt Rs j' = some (.bx b ty s cells) → look (hide F h) b = some ⟨cells, some (ty, s)⟩) ∧
      ∀ h' x', Upd OI m h F (.slice (some ⟨bi, oi, none⟩) x.length 0) x' h' → x'.length = x.length → SepM M n hb h' (st Rs j (.rv OI.fr e m v k us (xs.set i x'))) := by
  obtain ⟨F, ⟨b, ls, G, h1, h2, h3, h4, h5⟩, g2, g3, g5, g4⟩ := S.step hj
  have hil := (List.getElem?_eq_some_iff.1 hx).1
  obtain ⟨l, hl⟩ : ∃ l, ls[i]? = some l := ⟨ls[i]'(by rw [h5.ll]; exact hil), List.getElem?_eq_getElem _⟩
  have hel := h5.el i u x l hu hx hl
  obtain ⟨_, fj⟩ := flat_nodup.1 h5.nd
  have hlG : ∀ i ∈ l, G i := fun i hi => by
    obtain ⟨_, _, _, e1, _⟩ := OI.fr.leaf _ _ _ _ _ hel i hi
    exact (only_some.1 e1).1
  obtain ⟨bi, oi, hw, hcan⟩ := Leaf.can hel
  have hheld : Leaf tI m (only (fun i => i ∈ l) h) (.slice (some ⟨bi, oi, none⟩) x.length 0) x l := OI.fr.keep _ _ _ _ _ _ hcan fun i' b' e1 _ e3 => by
    rcases e3 with e3 | ⟨_, e3, _⟩
    · exact only_some.2 ⟨e3, (only_some.1 e1).2⟩
    · cases e3
  have hFl : ∀ i, ¬ F i → ¬ i ∈ l := fun i hf hi => hf (h2 _ (hlG i hi))
  have hidele : ∀ i b, look (hide F h) i = some b → look (hide (fun i => i ∈ l) h) i = some b := fun i b e1 => by
    rw [hide_some] at e1 ⊢; exact ⟨hFl i e1.1, e1.2⟩
  refine ⟨fun i => i ∈ l, bi, oi, hw, ⟨l, hheld⟩, ⟨by rw [hide, only_length]; exact S.le.len, fun i b e1 => hidele i b (g3.at_ i b e1)⟩, fun i' u' x' hne a1 a2 => ?_, fun j' b' ty s cells hne hj' => ?_, fun h' x' hU hxl => ?_⟩
  · obtain ⟨l', hl'⟩ : ∃ l', ls[i']? = some l' := ⟨ls[i']'(by rw [h5.ll]; exact (List.getElem?_eq_some_iff.1 a2).1), List.getElem?_eq_getElem _⟩
    refine OI.reads m _ _ _ l' (OI.fr.keep _ _ _ _ _ _ (h5.el i' u' x' l' a1 a2 hl') fun i2 b2 z1 _ z3 => ?_)
    rcases z3 with z3 | ⟨_, z3, _⟩
    · exact hide_some.2 ⟨fun hh => hne (fj i' i l' l i2 hl' hl z3 hh), (only_some.1 z1).2⟩
    · cases z3
  · have : ∃ j2, gt (rm Rs j) j2 = some (.bx b' ty s cells) := by
      clear hj S g2 g3 g5 g4
      induction Rs generalizing j j' with
      | nil => cases hj'
      | cons R Rs ih =>
        cases j with
        | zero => cases j' with
          | zero => exact absurd rfl hne
          | succ j' => exact ⟨j', hj'⟩
        | succ j => cases j' with
          | zero => exact ⟨0, hj'⟩
          | succ j' =>
            obtain ⟨j2, h⟩ := ih j j' (by omega) hj'
            exact ⟨j2 + 1, h⟩
    obtain ⟨j2, hj2⟩ := this
    exact hidele _ _ (g5.at_ j2 hj2)
  · obtain ⟨u1, F', ⟨l', u2⟩, u3⟩ := hU
    have hlen : h.length ≤ h'.length := by have := u1.len; rwa [show (hide (fun i => i ∈ l) h).length = h.length from only_length _ _] at this
    have hkeep : ∀ i b, ¬ i ∈ l → look h i = some b → look h' i = some b := fun i b hi e1 => u1.at_ i b (hide_some.2 ⟨hi, e1⟩)
    have hbG : ¬ b ∈ l := fun hh => h1 (hlG b hh)
    -- the new part: G without l, and the new leaf
    have hl'F : ∀ i ∈ l', F' i ∧ i < h'.length := fun i hi => by
      obtain ⟨_, _, _, e1, _⟩ := OI.fr.leaf _ _ _ _ _ u2 i hi
      exact ⟨(only_some.1 e1).1, look_lt (only_some.1 e1).2⟩
    have hl'old : ∀ i ∈ l', i ∈ l ∨ h.length ≤ i := fun i hi => u3 i (hl'F i hi).1
    have hltG : ∀ i, G i → i < h.length := fun i hi => (g2 i (h2 i hi)).1
    refine g4 h' _ (fun i => F i ∨ i ∈ l') hlen ⟨b, ls.set i l', fun i => G i ∨ i ∈ l', ?_, ?_, h3.keep (fun ee => ?_), h4, ?_⟩ (fun i hi => ?_) fun i b hf e1 => hkeep i b (hFl i hf) e1
    · rintro (hh | hh)
      · exact h1 hh
      · rcases hl'old b hh with h6 | h6
        · exact hbG h6
        · rcases h3 with ⟨_, e2, _⟩ | ⟨rfl, rfl, rfl⟩
          · have := look_lt (only_some.1 e2).2; omega
          · have := h5.lu; simp at this; rw [← this] at hil; omega
    · rintro i (hh | hh)
      · exact .inl (h2 i hh)
      · exact .inr hh
    · rw [only_some] at ee ⊢
      exact ⟨.inl ee.1, hkeep b _ hbG ee.2⟩
    · have hnd := flat_nodup.1 h5.nd
      refine ⟨by rw [List.length_set]; exact h5.lu, by rw [List.length_set, List.length_set]; exact h5.ll, flat_nodup.2 ⟨fun i' m' hm' => ?_, fun i1 i2 m1 m2 z a1 a2 a3 a4 => ?_⟩, fun i' u' x2 m' a1 a2 a3 => ?_⟩
      · rw [List.getElem?_set] at hm'
        by_cases hii : i = i'
        · subst hii
          rw [if_pos rfl] at hm'
          split at hm'
          · injection hm' with hm'; subst hm'; exact OI.fr.nd _ _ _ _ _ u2
          · cases hm'
        · rw [if_neg hii] at hm'; exact hnd.1 i' m' hm'
      · have old : ∀ i' m', i ≠ i' → ls[i']? = some m' → z ∈ m' → z ∈ l' → False := fun i' m' hne e1 e2 e3 => by
          have hm' : G z := by
            have hi' := (List.getElem?_eq_some_iff.1 e1).1
            obtain ⟨u2', hu2⟩ : ∃ u2', us[i']? = some u2' := ⟨us[i']'(by rw [h5.lu, ← h5.ll]; exact hi'), List.getElem?_eq_getElem _⟩
            obtain ⟨x2', hx2⟩ : ∃ x2', xs[i']? = some x2' := ⟨xs[i']'(by rw [← h5.ll]; exact hi'), List.getElem?_eq_getElem _⟩
            obtain ⟨_, _, _, e4, _⟩ := OI.fr.leaf _ _ _ _ _ (h5.el i' _ _ m' hu2 hx2 e1) z e2
            exact (only_some.1 e4).1
          rcases hl'old z e3 with h6 | h6
          · exact hne (fj i i' l m' z hl e1 h6 e2)
          · have := hltG z hm'; omega
        rw [List.getElem?_set] at a1 a2
        by_cases e1 : i = i1 <;> by_cases e2 : i = i2
        · omega
        · rw [if_pos e1] at a1
          split at a1
          · injection a1 with a1; subst a1; rw [if_neg e2] at a2; exact (old i2 m2 e2 a2 a4 a3).elim
          · cases a1
        · rw [if_pos e2] at a2
          split at a2
          · injection a2 with a2; subst a2; rw [if_neg e1] at a1; exact (old i1 m1 e1 a1 a3 a4).elim
          · cases a2
        · rw [if_neg e1] at a1; rw [if_neg e2] at a2; exact hnd.2 i1 i2 m1 m2 z a1 a2 a3 a4
      · rw [List.getElem?_set] at a2 a3
        by_cases hii : i = i'
        · subst hii
          rw [if_pos rfl] at a2 a3
          split at a2
          · injection a2 with a2; subst a2
            split at a3
            · injection a3 with a3; subst a3
              rw [hu] at a1; injection a1 with a1; subst a1
              refine Leaf.wk (by rw [← hxl] at hw; exact hw) ?_
              rw [hxl]
              refine OI.fr.keep _ _ _ _ _ _ u2 fun i2 b2 z1 _ z3 => ?_
              rcases z3 with z3 | ⟨_, z3, _⟩
              · exact only_some.2 ⟨.inr z3, (only_some.1 z1).2⟩
              · cases z3
            · cases a3
          · rename_i hno; exact absurd hil hno
        · rw [if_neg hii] at a2 a3
          refine OI.fr.keep _ _ _ _ _ _ (h5.el i' u' x2 m' a1 a2 a3) fun i2 b2 z1 _ z3 => ?_
          rcases z3 with z3 | ⟨_, z3, _⟩
          · obtain ⟨z4, z5⟩ := only_some.1 z1
            exact only_some.2 ⟨.inl z4, hkeep i2 b2 (fun hh => hii (fj i i' l m' i2 hl a3 hh z3)) z5⟩
          · cases z3
    · rcases hi with hi | hi
      · exact ⟨Nat.lt_of_lt_of_le (g2 i hi).1 hlen, .inl hi⟩
      · refine ⟨(hl'F i hi).2, ?_⟩
        rcases hl'old i hi with h6 | h6
        · exact .inl (h2 _ (hlG i h6))
        · exact .inr h6

theorem setCells_one {us : List Value} {k : Nat} (hk : k < us.length) (y : Value) : setCells us k [y] = us.set k y := by
  apply List.ext_getElem?
  intro i
  rw [setCells_get _ _ _ (by simp; omega), List.getElem?_set]
  simp only [List.length_singleton]
  by_cases h : k = i
  · subst h; simp [hk]
  · rw [if_neg (by omega), if_neg h]
/-- two elements change places -/
theorem SepM.swapC (S : SepM M n hb h Rs) (j : Nat) {e : TypeId} {m b k : Nat} {us : List Value} {xs : List (List Int)} (hj : gt Rs j = some (.rv OI.fr e m (.slice (some ⟨b, 0, none⟩) k 1) k us xs)) {i1 i2 : Nat} {u1 u2 : Value} {x1 x2 : List Int}
    (hu1 : us[i1]? = some u1) (hu2 : us[i2]? = some u2) (hx1 : xs[i1]? = some x1) (hx2 : xs[i2]? = some x2) :
    ∃ b1 o1 b2 o2, Wk u1 (.slice (some ⟨b1, o1, none⟩) x1.length 0) ∧ Wk u2 (.slice (some ⟨b2, o2, none⟩) x2.length 0) ∧ ∀ h' xs', look h' b = some ⟨(us.set i1 (.slice (some ⟨b2, o2, none⟩) x2.length 0)).set i2 (.slice (some ⟨b1, o1, none⟩) x1.length 0), some (e, 1)⟩ → h'.length = h.length → (∀ i, i ≠ b → look h' i = look h i) →
      xs' = (xs.set i1 x2).set i2 x1 → ∃ us', SepM M n hb h' (st Rs j (.rv OI.fr e m (.slice (some ⟨b, 0, none⟩) k 1) k us' xs')) := by
  obtain ⟨F, ⟨b', ls, G, h1, h2, h3, h4, h5⟩, g2, _, _, g4⟩ := S.step hj
  have hb' : b' = b ∧ us.length = k ∧ F b := by
    rcases h3 with ⟨e1, e2, e3⟩ | ⟨e1, _⟩
    · simp only [Value.slice.injEq, Option.some.injEq, Addr.mk.injEq] at e1
      obtain ⟨⟨rfl, _⟩, _⟩ := e1
      exact ⟨rfl, by simpa using e3, (only_some.1 e2).1⟩
    · cases e1
  obtain ⟨rfl, husl, hFb⟩ := hb'
  have hxsl : xs.length = k := by rw [← h5.lu]; exact husl
  have hlsl : ls.length = k := by rw [h5.ll]; exact hxsl
  have k1 := (List.getElem?_eq_some_iff.1 hu1).1
  have k2 := (List.getElem?_eq_some_iff.1 hu2).1
  have hl1 : ls[i1]? = some (ls.getD i1 []) := by simp [show i1 < ls.length by omega]
  have hl2 : ls[i2]? = some (ls.getD i2 []) := by simp [show i2 < ls.length by omega]
  obtain ⟨b1, o1, w1, e1⟩ := Leaf.can (h5.el i1 u1 x1 _ hu1 hx1 hl1)
  obtain ⟨b2, o2, w2, e2⟩ := Leaf.can (h5.el i2 u2 x2 _ hu2 hx2 hl2)
  refine ⟨b1, o1, b2, o2, w1, w2, fun h' xs' hl hlen ho hxs => ⟨_, g4 h' _ F (Nat.le_of_eq hlen.symm) ⟨b', (ls.set i1 (ls.getD i2 [])).set i2 (ls.getD i1 []), G, h1, h2, .inl ⟨rfl, only_some.2 ⟨hFb, hl⟩, by simp [husl]⟩, h4, ?_⟩ (fun i hi => ⟨by rw [hlen]; exact (g2 i hi).1, .inl hi⟩) (fun i blk hi e => by rw [ho i (fun hh => by subst hh; exact hi hFb)]; exact e)⟩⟩
  subst hxs
  have hup : ∀ u x l, OI m (only G h) u x l → OI m (only G h') u x l := fun u x l he => OI.fr.up he fun i blk e => by
    rw [only_some] at e ⊢
    exact ⟨e.1, by rw [ho i (fun hh => by subst hh; exact h1 e.1)]; exact e.2⟩
  refine ⟨by simp [husl, hxsl], by simp [hlsl, hxsl], ?_, fun i u x l a1 a2 a3 => ?_⟩
  · obtain ⟨f1, f2⟩ := flat_nodup.1 h5.nd
    -- a place of the new list is a place of the old one
    have old : ∀ (i : Nat) l, ((ls.set i1 (ls.getD i2 [])).set i2 (ls.getD i1 []))[i]? = some l → ls[swp i1 i2 i]? = some l := fun i l hi => by
      rw [List.getElem?_set, List.getElem?_set] at hi
      unfold swp
      by_cases z2 : i2 = i
      · subst z2
        rw [if_pos rfl] at hi
        split at hi
        · injection hi with hi; subst hi
          by_cases z1 : i2 = i1
          · subst z1; rw [if_pos rfl]; exact hl1
          · rw [if_neg z1, if_pos rfl]; exact hl1
        · cases hi
      · rw [if_neg z2] at hi
        by_cases z1 : i1 = i
        · subst z1
          rw [if_pos rfl] at hi
          split at hi
          · injection hi with hi; subst hi; rw [if_pos rfl]; exact hl2
          · cases hi
        · rw [if_neg z1] at hi
          rw [if_neg (Ne.symm z1), if_neg (Ne.symm z2)]; exact hi
    have inv : ∀ i, swp i1 i2 (swp i1 i2 i) = i := fun i => by
      unfold swp
      by_cases e1 : i = i1
      · subst e1; rw [if_pos rfl]; by_cases e2 : i2 = i
        · rw [if_pos e2, e2]
        · rw [if_neg e2, if_pos rfl]
      · rw [if_neg e1]; by_cases e2 : i = i2
        · rw [if_pos e2, if_pos rfl, e2]
        · rw [if_neg e2, if_neg e1, if_neg e2]
    refine flat_nodup.2 ⟨fun i l hi => f1 _ l (old i l hi), fun i i' l l' x a1 a2 a3 a4 => ?_⟩
    have := f2 _ _ l l' x (old i l a1) (old i' l' a2) a3 a4
    rw [← inv i, ← inv i', this]
  · rw [List.getElem?_set, List.getElem?_set] at a1 a2 a3
    by_cases z2 : i2 = i
    · subst z2
      rw [if_pos rfl, if_pos (by simpa using k2)] at a1
      rw [if_pos rfl, if_pos (by simp; omega)] at a2
      rw [if_pos rfl, if_pos (by simp; omega)] at a3
      injection a1 with a1; injection a2 with a2; injection a3 with a3
      subst a1 a2 a3
      exact hup _ _ _ e1
    · rw [if_neg z2] at a1 a2 a3
      by_cases z1 : i1 = i
      · subst z1
        rw [if_pos rfl, if_pos k1] at a1
        rw [if_pos rfl, if_pos (by omega)] at a2
        rw [if_pos rfl, if_pos (by omega)] at a3
        injection a1 with a1; injection a2 with a2; injection a3 with a3
        subst a1 a2 a3
        exact hup _ _ _ e2
      · rw [if_neg z1] at a1 a2 a3
        exact hup _ _ _ (h5.el i u x l a1 a2 a3)
/-- what a row of trees reads as, its values told -/
theorem SepM.rdv (S : SepM M n hb h Rs) {ti : TypeId} {T : List TypeId} {α : Type} {E : Tr α} {F : AH → Value → α → Prop} (hEF : ∀ n h v x l, E n h v x l → F h v x) (j : Nat) {hE : Fr ti T E} {e : TypeId} {m : Nat} {v : Value} {k : Nat} {us : List Value} {xs : List α} (hj : gt Rs j = some (.rv hE e m v k us xs)) (hm : k ≤ 9223372036854775807) : RS F h v xs := by
  obtain ⟨G, b, ls, G', h1, h2, h3, h4, h5⟩ := S.get hj
  have hus : us.length = k := by rcases h3 with ⟨_, _, hh⟩ | ⟨_, rfl, rfl⟩; simpa using hh; rfl
  exact Node.reads hEF (Row.ns (h5.up hE fun i b e => (only_some.1 e).2) h3.only (by rw [← hus, h5.lu]) h4 (by rw [← h5.lu, hus]; exact hm))
/-- the first elements alone, as a tree -/
theorem SepM.prefixV (S : SepM M n hb h Rs) (j : Nat) {ti : TypeId} {T : List TypeId} {α : Type} {E : Tr α} {hE : Fr ti T E} {e : TypeId} {m b k c : Nat} {us : List Value} {xs : List α} (hj : gt Rs j = some (.rv hE e m (.slice (some ⟨b, 0, none⟩) k c) k us xs)) {d : Nat} (hd : d ≤ k) (hm : k ≤ 9223372036854775807) :
    SepM M n hb h (st Rs j (.tr (Node.fr e hE) m (.slice (some ⟨b, 0, none⟩) d 1) (xs.take d))) :=
  S.as j hj fun F hF ⟨b', ls, G, h1, h2, h3, h4, h5⟩ => by
    rcases h3 with ⟨e1, e2, e3⟩ | ⟨e1, _⟩
    · simp only [Value.slice.injEq, Option.some.injEq, Addr.mk.injEq] at e1
      obtain ⟨⟨rfl, _⟩, _⟩ := e1
      have hus : us.length = k := by simpa using e3
      have hxs : xs.length = k := by rw [← h5.lu]; exact hus
      have hls : ls.length = k := by rw [h5.ll]; exact hxs
      have hxd : (xs.take d).length = d := by rw [List.length_take]; omega
      have hr : Row E m (only F h) (us.take d) (xs.take d) (ls.take d) := by
        refine ⟨by simp [hus, hxs], by simp [hls, hxs], ?_, fun i u x l a1 a2 a3 => ?_⟩
        · obtain ⟨f1, f2⟩ := flat_nodup.1 h5.nd
          refine flat_nodup.2 ⟨fun i l hi => ?_, fun i i' l l' x a1 a2 a3 a4 => ?_⟩
          · rw [List.getElem?_take] at hi
            split at hi
            · exact f1 i l hi
            · cases hi
          · rw [List.getElem?_take] at a1 a2
            split at a1
            · split at a2
              · exact f2 i i' l l' x a1 a2 a3 a4
              · cases a2
            · cases a1
        · rw [List.getElem?_take] at a1 a2 a3
          by_cases hi : i < d
          · rw [if_pos hi] at a1 a2 a3
            exact hE.up (h5.el i u x l a1 a2 a3) fun i b e => by rw [only_some] at e ⊢; exact ⟨h2 _ e.1, e.2⟩
          · rw [if_neg hi] at a1; cases a1
      have := Row.node hr (b := b) (o := 0) (cs := us) (tr := e) e2 h4 (fun k u hk => by
        rw [List.getElem?_take] at hk
        split at hk
        · simpa using hk
        · cases hk) (by rw [hxd]; omega) 1
      rw [hxd] at this
      exact ⟨_, this⟩
    · cases e1
end
end Go.Gl

/- The plain view of memory: rows that grow. No condition. -/
import Derived.Test.YtionapmdibdfpaaGlK
set_option linter.unusedVariables false
set_option linter.unusedSimpArgs false
namespace Go.Gl

/-- the new cells of an append -/
structure Src (h : AH) (x : Value) (m s : Nat) (news : List Value) : Prop where
  len : news.length = m * s
  one : news.all one1 = true
  at_ : ∃ b o c blk, x = .slice (some ⟨b, o, none⟩) m c ∧ look h b = some blk ∧ (blk.cells.drop o).take (m * s) = news
theorem Src.one1 {h : AH} {u : Value} {b : Nat} {own : Option (TypeId × Nat)} {c : Nat} (hl : look h b = some ⟨[u], own⟩) (hu : Gl.one1 u = true) : Src h (.slice (some ⟨b, 0, none⟩) 1 c) 1 1 [u] :=
  ⟨rfl, by simp [hu], b, 0, c, _, rfl, hl, rfl⟩
theorem Src.agg {h : AH} {us : List Value} {s : Nat} {b : Nat} {own : Option (TypeId × Nat)} {c : Nat} (hl : look h b = some ⟨us, own⟩) (hs : us.length = s) (hu : us.all Gl.one1 = true) : Src h (.slice (some ⟨b, 0, none⟩) 1 c) 1 s us :=
  ⟨by simp [hs], hu, b, 0, c, _, rfl, hl, by simp [← hs]⟩

/-- a row of our own, or nil -/
def NS (h : AH) (e : TypeId) (s : Nat) (b : Nat) (v : Value) (n : Nat) (cells : List Value) : Prop :=
  (v = .slice (some ⟨b, 0, none⟩) n 1 ∧ look h b = some ⟨cells, some (e, s)⟩ ∧ cells.length = n * s) ∨ (v = .slice none 0 0 ∧ n = 0 ∧ cells = [])
/-- what an append does to the view -/
structure Gr (h h' : AH) (v : Value) : Prop where
  len : h.length ≤ h'.length
  keep : ∀ i blk, look h i = some blk → (∀ b n, v = .slice (some ⟨b, 0, none⟩) n 1 → i ≠ b) → look h' i = some blk
theorem Gr.other {h h' : AH} {b n : Nat} (hg : Gr h h' (.slice (some ⟨b, 0, none⟩) n 1)) {i : Nat} {blk : Blk} (hi : look h i = some blk) (hne : i ≠ b) : look h' i = some blk :=
  hg.keep i blk hi fun b' n' e => by
    simp only [Value.slice.injEq, Option.some.injEq, Addr.mk.injEq] at e
    omega
theorem Gr.typed {h h' : AH} {v : Value} (hg : Gr h h' v) {e : TypeId} {s b n : Nat} {cells : List Value} (hn : NS h e s b v n cells) {i : Nat} {blk : Blk} (hi : look h i = some blk) (ht : ∀ s', blk.own ≠ some (e, s')) : look h' i = some blk :=
  hg.keep i blk hi fun b' n' e' hib => by
    subst hib
    rcases hn with ⟨rfl, h1, _⟩ | ⟨rfl, _⟩
    · simp only [Value.slice.injEq, Option.some.injEq, Addr.mk.injEq] at e'
      obtain ⟨⟨rfl, _⟩, _⟩ := e'
      rw [h1] at hi
      injection hi with hi
      subst hi
      exact ht _ rfl
    · cases e'
theorem Gr.le {h0 h h' : AH} {v : Value} (hg : Gr h h' v) {e : TypeId} {s b n : Nat} {cells : List Value} (hn : NS h e s b v n cells) (hl : Le h0 h) (hb : h0.length ≤ b) : Le h0 h' :=
  ⟨Nat.le_trans hl.len hg.len, fun i blk hi => hg.keep i blk (hl.at_ i blk hi) fun b' n' e' hib => by
    have := look_lt hi
    subst hib
    rcases hn with ⟨rfl, _⟩ | ⟨rfl, _⟩
    · simp only [Value.slice.injEq, Option.some.injEq, Addr.mk.injEq] at e'
      omega
    · cases e'⟩
theorem Fr.gr {ti : TypeId} {S : List TypeId} {α : Type} {E : Tr α} (hE : Fr ti S E) {h h' : AH} {l : List Nat} {m : Nat} {v' : Value} {x : α} (he : E m h v' x l) {v : Value} (hg : Gr h h' v) {e : TypeId} {s b n : Nat} {cells : List Value} (hn : NS h e s b v n cells)
    (h1 : (!Nat.beq e ti) = true) (h2 : S.all (fun t => !Nat.beq t e) = true) : E m h' v' x l :=
  hE.keep _ _ _ _ _ _ he fun i blk e1 _ e3 => hg.typed hn e1 fun s' e4 => by
    rcases e3 with e3 | ⟨ty, e3, s'', e5⟩
    · obtain ⟨_, blk', s'', e5, e6⟩ := hE.leaf _ _ _ _ _ he _ e3
      rw [e1] at e5
      injection e5 with e5
      subst e5
      rw [e4] at e6
      simp at e6
      simp [e6.1] at h1
    · rw [e4] at e5
      simp at e5
      have := List.all_eq_true.1 h2 _ e3
      simp [e5.1] at this
theorem Row.gr {ti : TypeId} {S : List TypeId} {α : Type} {E : Tr α} (hE : Fr ti S E) {h h' : AH} {m : Nat} {us : List Value} {xs : List α} {ls : List (List Nat)} (hr : Row E m h us xs ls) {v : Value} (hg : Gr h h' v) {e : TypeId} {s b n : Nat} {cells : List Value} (hn : NS h e s b v n cells)
    (h1 : (!Nat.beq e ti) = true) (h2 : S.all (fun t => !Nat.beq t e) = true) : Row E m h' us xs ls :=
  ⟨hr.lu, hr.ll, hr.nd, fun k u x l a1 a2 a3 => hE.gr (hr.el k u x l a1 a2 a3) hg hn h1 h2⟩
theorem Row.aside {ti : TypeId} {S : List TypeId} {α : Type} {E : Tr α} (hE : Fr ti S E) {h h' : AH} {m : Nat} {us : List Value} {xs : List α} {ls : List (List Nat)} (hr : Row E m h us xs ls) {b : Nat} {cs : List Value} {tr : TypeId} {s : Nat}
    (hb : look h b = some ⟨cs, some (tr, s)⟩) (h1 : (!Nat.beq tr ti) = true) (h2 : S.all (fun t => !Nat.beq t tr) = true) (ho : ∀ i, i ≠ b → look h' i = look h i) : Row E m h' us xs ls :=
  ⟨hr.lu, hr.ll, hr.nd, fun k u x l a1 a2 a3 => hE.aside (hr.el k u x l a1 a2 a3) hb h1 h2 ho⟩

theorem Fr.grL {ti : TypeId} {S : List TypeId} {α : Type} {E : Tr α} (hE : Fr ti S E) {h h' : AH} {l : List Nat} {m : Nat} {v' : Value} {x : α} (he : E m h v' x l) {v : Value} (hg : Gr h h' v) {e : TypeId} {s b n : Nat} {cells : List Value} (hn : NS h e s b v n cells)
    (h1 : b ∉ l) (h2 : S.all (fun t => !Nat.beq t e) = true) : E m h' v' x l :=
  hE.keep _ _ _ _ _ _ he fun i blk e1 _ e3 => by
    rcases e3 with e3 | ⟨ty, e3, s'', e5⟩
    · refine hg.keep i blk e1 fun b' n' e4 hib => ?_
      rcases hn with ⟨rfl, _⟩ | ⟨rfl, _⟩
      · simp only [Value.slice.injEq, Option.some.injEq, Addr.mk.injEq] at e4
        obtain ⟨⟨rfl, _⟩, _⟩ := e4
        subst hib
        exact h1 e3
      · cases e4
    · refine hg.typed hn e1 fun s' e4 => ?_
      rw [e4] at e5
      simp at e5
      have := List.all_eq_true.1 h2 _ e3
      simp [e5.1] at this
theorem Row.grL {ti : TypeId} {S : List TypeId} {α : Type} {E : Tr α} (hE : Fr ti S E) {h h' : AH} {m : Nat} {us : List Value} {xs : List α} {ls : List (List Nat)} (hr : Row E m h us xs ls) {v : Value} (hg : Gr h h' v) {e : TypeId} {s b n : Nat} {cells : List Value} (hn : NS h e s b v n cells)
    (h1 : b ∉ ls.flatten) (h2 : S.all (fun t => !Nat.beq t e) = true) : Row E m h' us xs ls :=
  ⟨hr.lu, hr.ll, hr.nd, fun k u x l a1 a2 a3 => hE.grL (hr.el k u x l a1 a2 a3) hg hn (fun hb => h1 (List.mem_flatten.2 ⟨l, List.mem_of_getElem? a3, hb⟩)) h2⟩
theorem Row.one {α : Type} {E : Tr α} {n : Nat} {h : AH} {u : Value} {x : α} {l : List Nat} (he : E n h u x l) (hn : l.Nodup) : Row E n h [u] [x] [l] :=
  ⟨rfl, rfl, by simpa using hn, fun k u' x' l' a1 a2 a3 => by
    cases k with
    | zero => simp at a1 a2 a3; subst a1 a2 a3; exact he
    | succ k => simp at a1⟩
theorem Row.lt {ti : TypeId} {S : List TypeId} {α : Type} {E : Tr α} (hE : Fr ti S E) {h : AH} {m : Nat} {us : List Value} {xs : List α} {ls : List (List Nat)} (hr : Row E m h us xs ls) : ∀ i ∈ ls.flatten, i < h.length := fun i hi => by
  obtain ⟨_, _, _, h1, _⟩ := hr.leaf hE i hi
  exact look_lt h1

theorem NS.nil (h : AH) (e : TypeId) (s b : Nat) : NS h e s b (.slice none 0 0) 0 [] := .inr ⟨rfl, rfl, rfl⟩
theorem NS.own {h : AH} {e : TypeId} {s b n : Nat} {cells : List Value} (hl : look h b = some ⟨cells, some (e, s)⟩) (hc : cells.length = n * s) : NS h e s b (.slice (some ⟨b, 0, none⟩) n 1) n cells := .inl ⟨rfl, hl, hc⟩
theorem NS.blk {h : AH} {e : TypeId} {s b n m c : Nat} {cells : List Value} (hn : NS h e s b (.slice (some ⟨b, 0, none⟩) m c) n cells) : look h b = some ⟨cells, some (e, s)⟩ := by
  rcases hn with ⟨_, h, _⟩ | ⟨h, _⟩
  · exact h
  · cases h
theorem NS.wk {h : AH} {e : TypeId} {s b n : Nat} {v : Value} {cells : List Value} (hn : NS h e s b v n cells) : Wk v (.slice (some ⟨b, 0, none⟩) n 0) := by
  rcases hn with ⟨rfl, _⟩ | ⟨rfl, rfl, _⟩
  · exact Wk.weak _ _ _ _
  · exact Wk.nil _
theorem NS.keep {h h' : AH} {e : TypeId} {s b n : Nat} {v : Value} {cells : List Value} (hn : NS h e s b v n cells) (hk : look h b = some ⟨cells, some (e, s)⟩ → look h' b = some ⟨cells, some (e, s)⟩) : NS h' e s b v n cells := by
  rcases hn with ⟨rfl, h1, h2⟩ | ⟨rfl, rfl, rfl⟩
  · exact .inl ⟨rfl, hk h1, h2⟩
  · exact .inr ⟨rfl, rfl, rfl⟩
theorem NS.le {h h' : AH} {e : TypeId} {s b n : Nat} {v : Value} {cells : List Value} (hn : NS h e s b v n cells) (hl : Le h h') : NS h' e s b v n cells := hn.keep fun e => hl.at_ _ _ e
theorem NS.gr {h h' : AH} {e e' : TypeId} {s s' b b' n n' : Nat} {v v' : Value} {cells cells' : List Value} (hn : NS h e s b v n cells) (hg : Gr h h' v') (hn' : NS h e' s' b' v' n' cells') (hne : (!Nat.beq e e') = true) : NS h' e s b v n cells :=
  hn.keep fun e1 => hg.typed hn' e1 fun s2 e2 => by
    simp at e2
    simp [e2.1] at hne
theorem NS.aside {h h' : AH} {e : TypeId} {s b n : Nat} {v : Value} {cells : List Value} (hn : NS h e s b v n cells) {b2 : Nat} {cs : List Value} {tr : TypeId} {s2 : Nat} (hb : look h b2 = some ⟨cs, some (tr, s2)⟩) (hne : (!Nat.beq tr e) = true) (ho : ∀ i, i ≠ b2 → look h' i = look h i) : NS h' e s b v n cells :=
  hn.keep fun e1 => (ho b (fun hh => by
    subst hh
    rw [e1] at hb
    simp at hb
    simp [hb.2.1] at hne)).trans e1
theorem NS.one {h : AH} {e : TypeId} {s b n : Nat} {v : Value} {cells : List Value} (hn : NS h e s b v n cells) : one1 v = true := by
  rcases hn with ⟨rfl, _⟩ | ⟨rfl, _⟩ <;> rfl
theorem Gr.at_ {h h' : AH} {v : Value} (hg : Gr h h' v) {e : TypeId} {s b n : Nat} {cells : List Value} (hn : NS h e s b v n cells) {i : Nat} {cs : List Value} {t : TypeId} {s2 : Nat} (hi : look h i = some ⟨cs, some (t, s2)⟩) (ht : (!Nat.beq t e) = true) : look h' i = some ⟨cs, some (t, s2)⟩ :=
  hg.typed hn hi fun s' e => by
    simp at e
    simp [e.1] at ht
theorem strictV.mk {v : Value} {K : Value → Prop} (h : K v) : strictV v K := by rw [strictV_eq]; exact h

/-- a value that is not looked into -/
theorem Opq.mk {b : Bool} {N d : Nat} {t : Nat → Value} {v : Value} {K : (Nat → Value) → Prop} (hk : K (upd t d v)) (hb : b = false := by rfl) (hd : Nat.blt d N = true := by rfl) : brX b v (fun v => putX N (some d) t v K) := by
  subst hb
  show onT (Nat.blt d N) (strictV v fun v => K (upd t d v))
  rw [hd]
  show strictV v fun v => K (upd t d v)
  rw [strictV_eq]
  exact hk
theorem AppG.ns {h : AH} {e : TypeId} {ie : TI} {v x : Value} {K : Value → AH → Prop} {b n m : Nat} {cells news : List Value} (hn : NS h e ie.size b v n cells) (hm0 : 0 < m) (hx : Src h x m ie.size news)
    (hb : (n + m) * ie.bytes ≤ 140737488355328) (hm : n + m ≤ maxLen)
    (hk : ∀ b' h', h.length ≤ b' → NS h' e ie.size b' (.slice (some ⟨b', 0, none⟩) (n + m) 1) (n + m) (cells ++ news) → Gr h h' v → K (.slice (some ⟨b', 0, none⟩) (n + m) 1) h') :
    AppG h e ie v x K := by
  have hlx := hx.len
  obtain ⟨h1, h2, b2, o2, c, blk2, rfl, h3, h4⟩ := hx
  rcases hn with ⟨rfl, hl, hc⟩ | ⟨rfl, rfl, rfl⟩
  · refine ⟨.inl ⟨some b, n, cells, m, news, ⟨rfl, hl, hc⟩, h1, h2, hb, hm, .inr (.inr ⟨b2, o2, c, blk2, _, rfl, h3, h4, WkL.refl _⟩), ?_⟩⟩
    intro b' h' e1 e2
    simp only at e2
    subst e1 e2
    have hbl := look_lt hl
    refine hk _ _ (Nat.le_refl _) (.inl ⟨rfl, ?_, by rw [List.length_append, hc, hlx, Nat.add_mul]⟩) ⟨by simp, fun i blk hi hne => ?_⟩
    · have := look_app_ge (h.set b none) [some (⟨cells ++ news, some (e, ie.size)⟩ : Blk)] 0
      simpa [look] using this
    · have hil := look_lt hi
      rw [look_app_lt (by simpa using hil), look_set hbl, if_neg (hne b n rfl)]
      exact hi
  · refine ⟨.inl ⟨none, 0, [], m, news, ⟨rfl, rfl, rfl, hm0⟩, h1, h2, hb, hm, .inr (.inr ⟨b2, o2, c, blk2, _, rfl, h3, h4, WkL.refl _⟩), ?_⟩⟩
    intro b' h' e1 e2
    simp only at e2
    subst e1 e2
    refine hk _ _ (Nat.le_refl _) (.inl ⟨rfl, ?_, by simp [hlx]⟩) ⟨by simp, fun i blk hi hne => look_app hi⟩
    have := look_app_ge h [some (⟨[] ++ news, some (e, ie.size)⟩ : Blk)] 0
    simpa [look] using this
theorem AppG.own {h : AH} {e : TypeId} {ie : TI} {x : Value} {K : Value → AH → Prop} {b n m : Nat} {cells news : List Value} (hl : look h b = some ⟨cells, some (e, ie.size)⟩) (hc : cells.length = n * ie.size) (hx : Src h x m ie.size news) (hm0 : 0 < m)
    (hb : (n + m) * ie.bytes ≤ 140737488355328) (hm : n + m ≤ maxLen)
    (hk : ∀ b' h', h.length ≤ b' → look h' b' = some ⟨cells ++ news, some (e, ie.size)⟩ → Gr h h' (.slice (some ⟨b, 0, none⟩) n 1) → K (.slice (some ⟨b', 0, none⟩) (n + m) 1) h') :
    AppG h e ie (.slice (some ⟨b, 0, none⟩) n 1) x K :=
  AppG.ns (.inl ⟨rfl, hl, hc⟩) hm0 hx hb hm fun b' h' e1 e2 e3 => hk b' h' e1 e2.blk e3

/-- one more cell -/
theorem AppG.ns1 {h : AH} {e : TypeId} {ie : TI} {v x : Value} {K : Value → AH → Prop} {b n : Nat} {cells : List Value} {u : Value} (hn : NS h e 1 b v n cells) (hx : Src h x 1 1 [u]) (hb : n ≤ 10000000000)
    (hk : ∀ b' h', h.length ≤ b' → NS h' e 1 b' (.slice (some ⟨b', 0, none⟩) (n + 1) 1) (n + 1) (cells ++ [u]) → Gr h h' v → K (.slice (some ⟨b', 0, none⟩) (n + 1) 1) h') (hs : ie.size = 1 := by rfl) (hby : ie.bytes ≤ 8192 := by decide) :
    AppG h e ie v x K := by
  refine AppG.ns (n := n) (m := 1) (news := [u]) (by rw [hs]; exact hn) (by omega) (by rw [hs]; exact hx) ?_ (by simp only [maxLen]; omega) (fun b' h' e1 e2 e3 => hk b' h' e1 (by rw [hs] at e2; exact e2) e3)
  calc (n + 1) * ie.bytes ≤ (10000000000 + 1) * 8192 := Nat.mul_le_mul (by omega) hby
    _ ≤ 140737488355328 := by decide
theorem AppG.own1 {h : AH} {e : TypeId} {ie : TI} {x : Value} {K : Value → AH → Prop} {b n : Nat} {cells : List Value} {u : Value} (hl : look h b = some ⟨cells, some (e, 1)⟩) (hc : cells.length = n) (hx : Src h x 1 1 [u]) (hb : n ≤ 10000000000)
    (hk : ∀ b' h', h.length ≤ b' → look h' b' = some ⟨cells ++ [u], some (e, 1)⟩ → Gr h h' (.slice (some ⟨b, 0, none⟩) n 1) → K (.slice (some ⟨b', 0, none⟩) (n + 1) 1) h') (hs : ie.size = 1 := by rfl) (hby : ie.bytes ≤ 8192 := by decide) :
    AppG h e ie (.slice (some ⟨b, 0, none⟩) n 1) x K :=
  AppG.ns1 (.inl ⟨rfl, hl, by omega⟩) hx hb (fun b' h' e1 e2 e3 => hk b' h' e1 e2.blk e3) hs hby
theorem NS.own1 {h : AH} {e : TypeId} {b n : Nat} {cells : List Value} (hl : look h b = some ⟨cells, some (e, 1)⟩) (hc : cells.length = n) : NS h e 1 b (.slice (some ⟨b, 0, none⟩) n 1) n cells := .inl ⟨rfl, hl, by omega⟩

/-- the row of a row of numbers -/
theorem Leaf.of {ti : TypeId} {h : AH} {b n : Nat} {xs : List Int} (hl : look h b = some ⟨xs.map (Value.int .i64), some (ti, 1)⟩) (hn : n ≤ b) (hm : xs.length ≤ 9223372036854775807) (c : Nat) : Leaf ti n h (.slice (some ⟨b, 0, none⟩) xs.length c) xs [b] :=
  ⟨hm, .inr ⟨b, 0, _, Wk.weak _ _ _ _, hn, rfl, hl, rfl, by simp, fun k x hk => by simp [hk]⟩⟩
theorem Leaf.ns {ti : TypeId} {h : AH} {b n k : Nat} {v : Value} {xs : List Int} (hl : NS h ti 1 b v k (xs.map (Value.int .i64))) (hk : k = xs.length) (hn : n ≤ b) (hm : xs.length ≤ 9223372036854775807) : ∃ l, Leaf ti n h v xs l ∧ l.length ≤ 1 ∧ (∀ i ∈ l, i = b) := by
  subst hk
  rcases hl with ⟨rfl, h1, h2⟩ | ⟨rfl, h1, h2⟩
  · exact ⟨[b], Leaf.of h1 hn hm 1, by simp, by simp⟩
  · have : xs = [] := by simpa using h2
    subst this
    exact ⟨[], ⟨hm, .inl ⟨rfl, rfl, Wk.nil _⟩⟩, by simp, by simp⟩
theorem Row.ns {tr : TypeId} {α : Type} {E : Tr α} {n : Nat} {h : AH} {us : List Value} {xs : List α} {ls : List (List Nat)} (hr : Row E n h us xs ls) {b k : Nat} {v : Value} (hl : NS h tr 1 b v k us) (hk : k = xs.length) (hn : n ≤ b) (hm : xs.length ≤ 9223372036854775807) : Node tr E n h v xs ls.flatten := by
  subst hk
  refine ⟨hm, b, 0, us, ls, hl.wk, hr, rfl, ?_⟩
  rcases hl with ⟨rfl, h1, h2⟩ | ⟨rfl, h1, h2⟩
  · exact .inr ⟨hn, _, h1, rfl, fun k u hk => by simpa using hk⟩
  · exact .inl (List.length_eq_zero_iff.1 h1)

/-- all numbers of a row, behind a row of our own -/
theorem AppG.rowI {h : AH} {e : TypeId} {ie : TI} {K : Value → AH → Prop} {b n b2 o2 : Nat} {cells : List Value} {xs : List Int} (hl : look h b = some ⟨cells, some (e, 1)⟩) (hc : cells.length = n) (hx : CS EI h b2 o2 xs) (hb : n + xs.length ≤ 10000000000) (c : Nat)
    (hk : ∀ b' h', h.length ≤ b' → look h' b' = some ⟨cells ++ xs.map (Value.int .i64), some (e, 1)⟩ → Gr h h' (.slice (some ⟨b, 0, none⟩) n 1) → K (.slice (some ⟨b', 0, none⟩) (n + xs.length) 1) h') (hs : ie.size = 1 := by rfl) (hby : ie.bytes ≤ 8192 := by decide) :
    AppG h e ie (.slice (some ⟨b, 0, none⟩) n 1) (.slice (some ⟨b2, o2, none⟩) xs.length c) K := by
  have hbl := look_lt hl
  refine ⟨.inl ⟨some b, n, cells, xs.length, xs.map (Value.int .i64), ⟨rfl, by rw [hs]; exact hl, by rw [hs]; omega⟩, by simp [hs], by simp [one1], ?_, by simp only [maxLen]; omega, ?_, ?_⟩⟩
  · calc (n + xs.length) * ie.bytes ≤ 10000000000 * 8192 := Nat.mul_le_mul (by omega) hby
      _ ≤ 140737488355328 := by decide
  · by_cases h0 : xs = []
    · subst h0
      exact .inr (.inl ⟨_, c, rfl, rfl, rfl⟩)
    · have hpos : 0 < xs.length := List.length_pos_iff.2 h0
      obtain ⟨blk, u, h1, _, _⟩ := hx 0 xs[0] (List.getElem?_eq_getElem hpos)
      refine .inr (.inr ⟨b2, o2, c, blk, _, rfl, h1, ?_, WkL.refl _⟩)
      rw [hs, Nat.mul_one]
      apply List.ext_getElem?
      intro k
      by_cases hk : k < xs.length
      · obtain ⟨blk', u', h3, h4, h5⟩ := hx k xs[k] (List.getElem?_eq_getElem hk)
        rw [h1] at h3
        injection h3 with h3
        subst h3
        rw [List.getElem?_take, if_pos hk, List.getElem?_drop, h4, show u' = _ from h5]
        simp [hk]
      · rw [List.getElem?_take, if_neg hk, List.getElem?_eq_none (by simp; omega)]
  · intro b' h' e1 e2
    simp only at e2
    rw [hs] at e2
    subst e1 e2
    refine hk _ _ (Nat.le_refl _) ?_ ⟨by simp, fun i blk hi hne => ?_⟩
    · have := look_app_ge (h.set b none) [some (⟨cells ++ xs.map (Value.int .i64), some (e, 1)⟩ : Blk)] 0
      simpa [look] using this
    · have hil := look_lt hi
      rw [look_app_lt (by simpa using hil), look_set hbl, if_neg (hne b n rfl)]
      exact hi
end Go.Gl

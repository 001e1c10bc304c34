/- The plain view of memory, in parts: rows of slices that are read and not owned; what is forgotten at the end. No condition. -/
import Derived.Test.YtionapmdibdfpaaGlV
import Derived.Test.YtionapmdibdfpaaGlU
set_option linter.unusedVariables false
set_option linter.unusedSimpArgs false
namespace Go.Gl
open Go.Pl

/-- the values us read as xs -/
def Tell {α : Type} (E : AH → Value → α → Prop) (h : AH) (us : List Value) (xs : List α) : Prop :=
  us.length = xs.length ∧ ∀ (i : Nat) u x, us[i]? = some u → xs[i]? = some x → E h u x
section
variable {α : Type} {E : AH → Value → α → Prop}
theorem Tell.nil (h : AH) : Tell E h [] [] := ⟨rfl, fun i u x e => by simp at e⟩
theorem Tell.append {h : AH} {us vs : List Value} {xs ys : List α} (a : Tell E h us xs) (b : Tell E h vs ys) : Tell E h (us ++ vs) (xs ++ ys) := by
  refine ⟨by simp [a.1, b.1], fun i u x e1 e2 => ?_⟩
  by_cases hi : i < us.length
  · rw [List.getElem?_append_left hi] at e1
    rw [List.getElem?_append_left (by rw [← a.1]; exact hi)] at e2
    exact a.2 i u x e1 e2
  · rw [List.getElem?_append_right (by omega)] at e1
    rw [List.getElem?_append_right (by rw [← a.1]; omega), ← a.1] at e2
    exact b.2 _ u x e1 e2
theorem Tell.one {h : AH} {u : Value} {x : α} (e : E h u x) : Tell E h [u] [x] := ⟨rfl, fun i u' x' e1 e2 => by
  cases i with
  | zero => simp at e1 e2; subst e1 e2; exact e
  | succ i => simp at e1⟩
theorem Tell.snoc {h : AH} {us : List Value} {xs : List α} (a : Tell E h us xs) {u : Value} {x : α} (e : E h u x) : Tell E h (us ++ [u]) (xs ++ [x]) := a.append (Tell.one e)
theorem Tell.le (hE : ∀ h h' v x, Le h h' → E h v x → E h' v x) {h h' : AH} {us : List Value} {xs : List α} (a : Tell E h us xs) (l : Le h h') : Tell E h' us xs := ⟨a.1, fun i u x e1 e2 => hE _ _ _ _ l (a.2 i u x e1 e2)⟩
end
/-- a row of slices, told by its values -/
theorem CS.news {α : Type} {E : AH → Value → α → Prop} {h : AH} {b o : Nat} {xs : List (List α)} (hc : CS (RS E) h b o xs) (h0 : xs ≠ []) :
    ∃ blk raw news, look h b = some blk ∧ (blk.cells.drop o).take xs.length = raw ∧ WkL raw news ∧ news.all one1 = true ∧ Tell (RS E) h news xs := by
  have hpos : 0 < xs.length := List.length_pos_iff.2 h0
  obtain ⟨blk, u, h1, _, _⟩ := hc 0 xs[0] (List.getElem?_eq_getElem hpos)
  have hget : ∀ (k : Nat) x, xs[k]? = some x → ∃ u b' o', blk.cells[o + k]? = some u ∧ Wk u (.slice (some ⟨b', o', none⟩) x.length 0) ∧ RS E h (.slice (some ⟨b', o', none⟩) x.length 0) x := by
    intro k x hk
    obtain ⟨blk', u', h3, h4, hm, b', o', h5, h6⟩ := hc k x hk
    rw [h1] at h3
    injection h3 with h3
    subst h3
    exact ⟨u', b', o', h4, h5, hm, b', o', Wk.refl _, h6⟩
  have : ∀ n, n ≤ xs.length → ∃ news, WkL ((blk.cells.drop o).take n) news ∧ news.all one1 = true ∧ Tell (RS E) h news (xs.take n) := by
    intro n
    induction n with
    | zero => intro _; exact ⟨[], by simpa using WkL.nil, rfl, by simpa using Tell.nil h⟩
    | succ n ih =>
      intro hn
      obtain ⟨news, a1, a2, a3⟩ := ih (by omega)
      obtain ⟨u, b', o', k1, k2, k3⟩ := hget n xs[n] (List.getElem?_eq_getElem (by omega))
      have k1' : (blk.cells.drop o)[n]? = some u := by rw [List.getElem?_drop]; exact k1
      have hlt := (List.getElem?_eq_some_iff.1 k1').1
      have hu : (blk.cells.drop o)[n] = u := (List.getElem?_eq_some_iff.1 k1').2
      refine ⟨news ++ [.slice (some ⟨b', o', none⟩) xs[n].length 0], ?_, by simp [a2, one1], ?_⟩
      · rw [List.take_succ_eq_append_getElem hlt, hu]
        clear a2 a3
        generalize (blk.cells.drop o).take n = l at a1
        induction a1 with
        | nil => exact .cons k2 .nil
        | cons hv _ ih => exact .cons hv ih
      · rw [List.take_succ_eq_append_getElem (by omega)]
        exact a3.snoc k3
  obtain ⟨news, a1, a2, a3⟩ := this xs.length (Nat.le_refl _)
  rw [List.take_length] at a3
  exact ⟨blk, _, news, h1, rfl, a1, a2, a3⟩
section
variable {M : Nat → Prop} {n : Nat} {hb h : AH} {Rs : List Res}
/-- what is owned stays as it is from here on -/
theorem SepM.freeze (S : SepM M n hb h Rs) : SepM M n h h [] := ⟨Le.refl _, S.nl, _, .nil⟩
/-- one part alone goes on, the others stay as they are from here on -/
theorem SepM.alone (S : SepM M n hb h Rs) (j : Nat) {R : Res} (hj : gt Rs j = some R) : ∃ F, Le hb (hide F h) ∧ SepM M n hb (hide F h) (rm Rs j) ∧ SepM F n (hide F h) h [R] := by
  obtain ⟨F, h1, h2, hle, S1, _⟩ := S.step hj
  exact ⟨F, hle, S1, ⟨hide_le F h, S.nl, _, .cons h1 (fun i hi => ⟨⟨hide_none hi, (h2 i hi).2, .inl hi⟩, (h2 i hi).1⟩) (fun i _ hh => hh) .nil⟩⟩
theorem SepM.finB {h0 : AH} (S : SepM M h0.length hb h Rs) (hl : Le h0 hb) (j : Nat) {ti : TypeId} {T : List TypeId} {α : Type} {E : Tr α} {hE : Fr ti T E} {v : Value} {x : α} (hj : gt Rs j = some (.tr hE h0.length v x)) : FinX h0 (fun r h' => ∃ l, E h0.length h' r x l ∧ Le h0 h') v h :=
  FinX.here (hl.trans S.le).len (by obtain ⟨l, o⟩ := S.tre j hj; exact ⟨l, o, hl.trans S.le⟩)
/-- append cells that are read to a row of our own -/
theorem SepM.appC (S : SepM M n hb h Rs) (j : Nat) {e : TypeId} {v : Value} {k : Nat} {cells : List Value} {ie : TI} (hj : gt Rs j = some (.rc e 1 n v k cells)) {g : AH} (hg : Le g h) {b2 o2 c m : Nat} {news : List Value} {K : Value → AH → Prop}
    (hlen : news.length = m) (hone : news.all one1 = true) (hsrc : 0 < m → ∃ blk raw, look g b2 = some blk ∧ (blk.cells.drop o2).take m = raw ∧ WkL raw news) (hl : k + m ≤ 10000000000)
    (hk : ∀ A c h', SepM M n hb h' (st Rs j (.rc e 1 n (.slice A (k + m) c) (k + m) (cells ++ news))) → K (.slice A (k + m) c) h') (hs : ie.size = 1 := by rfl) (hby : ie.bytes ≤ 8192 := by decide) :
    AppG h e ie v (.slice (some ⟨b2, o2, none⟩) m c) K := by
  obtain ⟨F, ⟨b, h1, h0⟩, h2, _, _, h4⟩ := S.step hj
  rcases Nat.eq_zero_or_pos m with h0' | hpos
  · subst h0'
    have hn0 : news = [] := List.length_eq_zero_iff.1 hlen
    subst hn0
    rcases h1 with ⟨rfl, h3, h5⟩ | ⟨rfl, rfl, rfl⟩
    · obtain ⟨h3a, h3⟩ := only_some.1 h3
      refine ⟨.inl ⟨some b, k, cells, 0, [], ⟨rfl, by rw [hs]; exact h3, by rw [hs]; exact h5⟩, by simp, rfl, ?_, by simp only [maxLen]; simp at hl; omega, .inr (.inl ⟨_, c, rfl, rfl, rfl⟩), ?_⟩⟩
      · calc (k + 0) * ie.bytes ≤ 10000000000 * 8192 := Nat.mul_le_mul (by simpa using hl) hby
          _ ≤ 140737488355328 := by decide
      · intro b' h' e1 e2
        simp only at e2
        rw [hs] at e2
        have hbl := look_lt h3
        have hnew : look h' b' = some ⟨cells ++ [], some (e, 1)⟩ := by
          rw [e1, e2]
          have := look_app_ge (h.set b none) [some (⟨cells ++ [], some (e, 1)⟩ : Blk)] 0
          simpa [look] using this
        refine hk _ _ _ (h4 h' _ (fun i => F i ∨ i = b') (by rw [e2]; simp) ⟨b', .inl ⟨rfl, only_some.2 ⟨.inr rfl, hnew⟩, by simpa using h5⟩, by rw [e1]; exact S.nl⟩ (fun i hi => ?_) fun i blk hi e' => ?_)
        · rcases hi with hi | rfl
          · exact ⟨by rw [e2]; simp; exact Nat.lt_of_lt_of_le (h2 i hi).1 (by omega), .inl hi⟩
          · exact ⟨look_lt hnew, .inr (by omega)⟩
        · rw [e2, look_app_lt (by simpa using look_lt e'), look_set hbl, if_neg (fun hh => hi (by rw [hh]; exact h3a))]
          exact e'
    · refine ⟨.inr ⟨rfl, ⟨_, c, rfl⟩, ?_⟩⟩
      exact hk none 0 h (h4 h _ F (Nat.le_refl _) ⟨b, .inr ⟨rfl, rfl, rfl⟩, h0⟩ (fun i hi => ⟨(h2 i hi).1, .inl hi⟩) fun i blk _ e => e)
  · obtain ⟨blk, raw, g1, g2, g3⟩ := hsrc hpos
    have hby' : (k + m) * ie.bytes ≤ 140737488355328 := by
      calc (k + m) * ie.bytes ≤ 10000000000 * 8192 := Nat.mul_le_mul hl hby
        _ ≤ 140737488355328 := by decide
    have fin : ∀ b' h', h.length ≤ b' → look h' b' = some ⟨cells ++ news, some (e, 1)⟩ → h.length ≤ h'.length → (∀ i blk, ¬ F i → look h i = some blk → look h' i = some blk) → cells.length = k → K (.slice (some ⟨b', 0, none⟩) (k + m) 1) h' := by
      intro b' h' e1 e2 e3 e4 e5
      refine hk _ _ _ (h4 h' _ (fun i => F i ∨ i = b') e3 ⟨b', .inl ⟨rfl, only_some.2 ⟨.inr rfl, e2⟩, by simp [e5, hlen]⟩, Nat.le_trans S.nl e1⟩ (fun i hi => ?_) e4)
      rcases hi with hi | rfl
      · exact ⟨Nat.lt_of_lt_of_le (h2 i hi).1 e3, .inl hi⟩
      · exact ⟨look_lt e2, .inr e1⟩
    rcases h1 with ⟨rfl, h3, h5⟩ | ⟨rfl, rfl, rfl⟩
    · obtain ⟨h3a, h3⟩ := only_some.1 h3
      refine ⟨.inl ⟨some b, k, cells, m, news, ⟨rfl, by rw [hs]; exact h3, by rw [hs]; exact h5⟩, by rw [hs, hlen, Nat.mul_one], hone, hby', by simp only [maxLen]; omega, .inr (.inr ⟨b2, o2, c, blk, raw, rfl, hg.at_ _ _ g1, by rw [hs, Nat.mul_one]; exact g2, g3⟩), ?_⟩⟩
      intro b' h' e1 e2
      simp only at e2
      rw [hs] at e2
      have hbl := look_lt h3
      have hnew : look h' b' = some ⟨cells ++ news, some (e, 1)⟩ := by
        rw [e1, e2]
        have := look_app_ge (h.set b none) [some (⟨cells ++ news, some (e, 1)⟩ : Blk)] 0
        simpa [look] using this
      refine fin b' h' (by omega) hnew (by rw [e2]; simp) (fun i blk hi e' => ?_) (by simpa using h5)
      rw [e2, look_app_lt (by simpa using look_lt e'), look_set hbl, if_neg (fun hh => hi (by rw [hh]; exact h3a))]
      exact e'
    · refine ⟨.inl ⟨none, 0, [], m, news, ⟨rfl, rfl, rfl, hpos⟩, by rw [hs, hlen, Nat.mul_one], hone, hby', by simp only [maxLen]; omega, .inr (.inr ⟨b2, o2, c, blk, raw, rfl, hg.at_ _ _ g1, by rw [hs, Nat.mul_one]; exact g2, g3⟩), ?_⟩⟩
      intro b' h' e1 e2
      simp only at e2
      rw [hs] at e2
      have hnew : look h' b' = some ⟨[] ++ news, some (e, 1)⟩ := by
        rw [e1, e2]
        have := look_app_ge h [some (⟨[] ++ news, some (e, 1)⟩ : Blk)] 0
        simpa [look] using this
      refine fin b' h' (by omega) hnew (by rw [e2]; simp) (fun i blk hi e' => ?_) rfl
      rw [e2]
      exact look_app e'
/-- append the slices of a row to a row of our own -/
theorem SepM.appW (S : SepM M n hb h Rs) (j : Nat) {e : TypeId} {v : Value} {k : Nat} {cells : List Value} {ie : TI} (hj : gt Rs j = some (.rc e 1 n v k cells)) {α : Type} {E : AH → Value → α → Prop} (hE : ∀ h h' v x, Le h h' → E h v x → E h' v x) {g : AH} (hg : Le g h) {b2 o2 c : Nat} {xs : List (List α)} {K : Value → AH → Prop}
    (hx : CS (RS E) g b2 o2 xs) (hl : k + xs.length ≤ 10000000000)
    (hk : ∀ A c h' news, Tell (RS E) g news xs → SepM M n hb h' (st Rs j (.rc e 1 n (.slice A (k + xs.length) c) (k + xs.length) (cells ++ news))) → K (.slice A (k + xs.length) c) h') (hs : ie.size = 1 := by rfl) (hby : ie.bytes ≤ 8192 := by decide) :
    AppG h e ie v (.slice (some ⟨b2, o2, none⟩) xs.length c) K := by
  by_cases hxs : xs = []
  · subst hxs
    exact S.appC j hj hg (news := []) rfl rfl (fun h => absurd h (by simp)) hl (fun A c h' S' => hk A c h' [] (Tell.nil g) S') hs hby
  · obtain ⟨blk, raw, news, g1, g2, g3, g4, g5⟩ := hx.news hxs
    exact S.appC j hj hg (news := news) g5.1 g4 (fun _ => ⟨blk, raw, g1, g2, g3⟩) hl (fun A c h' S' => hk A c h' news g5 S') hs hby
/-- append numbers that are read to a row of our own -/
theorem SepM.appNs (S : SepM M n hb h Rs) (j : Nat) {e : TypeId} {v : Value} {k : Nat} {cells : List Value} {ie : TI} (hj : gt Rs j = some (.rc e 1 n v k cells)) {g : AH} (hg : Le g h) {b2 o2 c m : Nat} {xs : List Int} {K : Value → AH → Prop}
    (hx : CS EI g b2 o2 xs) (hm : xs.length = m) (hl : k + m ≤ 10000000000)
    (hk : ∀ A c h', SepM M n hb h' (st Rs j (.rc e 1 n (.slice A (k + m) c) (k + m) (cells ++ xs.map (.int .i64)))) → K (.slice A (k + m) c) h') (hs : ie.size = 1 := by rfl) (hby : ie.bytes ≤ 8192 := by decide) :
    AppG h e ie v (.slice (some ⟨b2, o2, none⟩) m c) K := by
  refine S.appC j hj hg (news := xs.map (.int .i64)) (by simpa using hm) (by simp [one1]) (fun hpos => ?_) hl hk hs hby
  obtain ⟨blk, u, h1, _, _⟩ := hx 0 xs[0] (List.getElem?_eq_getElem (by omega))
  refine ⟨blk, _, h1, rfl, ?_⟩
  have : (blk.cells.drop o2).take m = xs.map (.int .i64) := by
    apply List.ext_getElem?
    intro k
    by_cases hk : k < m
    · obtain ⟨blk', u', h3, h4, h5⟩ := hx k xs[k] (List.getElem?_eq_getElem (by omega))
      rw [h1] at h3
      injection h3 with h3
      subst h3
      rw [List.getElem?_take, if_pos hk, List.getElem?_drop, h4, show u' = _ from h5]
      simp [show k < xs.length by omega]
    · rw [List.getElem?_take, if_neg hk, List.getElem?_eq_none (by simp; omega)]
  rw [this]
  exact WkL.refl _
/-- what a row of slices reads as -/
theorem SepM.rdF (S : SepM M n hb h Rs) (j : Nat) {e : TypeId} {m : Nat} {v : Value} {k : Nat} {us : List Value} {α : Type} {E : AH → Value → α → Prop} {xs : List α} (hj : gt Rs j = some (.rc e 1 m v k us)) (ht : Tell E h us xs) (hm : k ≤ 9223372036854775807) : RS E h v xs := by
  obtain ⟨F, ⟨b, h1, h0⟩, _⟩ := S.step hj
  rcases h1 with ⟨rfl, h3, h5⟩ | ⟨rfl, rfl, rfl⟩
  · obtain ⟨_, h3⟩ := only_some.1 h3
    have hus : us.length = k := by simpa using h5
    have hxs : xs.length = k := by rw [← ht.1]; exact hus
    refine ⟨by omega, b, 0, by rw [hxs]; exact Wk.weak _ _ _ _, fun i x hi => ?_⟩
    have hil := (List.getElem?_eq_some_iff.1 hi).1
    obtain ⟨u, hu⟩ : ∃ u, us[i]? = some u := ⟨us[i]'(by omega), List.getElem?_eq_getElem _⟩
    exact ⟨_, u, h3, by rw [Nat.zero_add]; exact hu, ht.2 i u x hu hi⟩
  · have : xs = [] := List.length_eq_zero_iff.1 (by rw [← ht.1]; rfl)
    subst this
    exact ⟨by simp, 0, 0, Wk.nil _, fun i x hi => by simp at hi⟩
/-- the beginning of a row of our own, handed back -/
theorem SepM.finT {h0 : AH} (S : Sep h0.length h0 h Rs) (j : Nat) {e : TypeId} {s k c : Nat} {b : Nat} {cells : List Value} (hj : gt Rs j = some (.rc e s h0.length (.slice (some ⟨b, 0, none⟩) k c) k cells)) {d : Nat} (hd : d ≤ k) : FinX h0 (MadeR e s h0 d (cells.take (d * s))) (.slice (some ⟨b, 0, none⟩) d 1) h := by
  obtain ⟨F, ⟨b', h1, hge⟩, h2, hle, _, _⟩ := S.step hj
  rcases h1 with ⟨h1, h3, h5⟩ | ⟨h1, _⟩
  · simp only [Value.slice.injEq, Option.some.injEq, Addr.mk.injEq] at h1
    obtain ⟨⟨rfl, _⟩, _, rfl⟩ := h1
    obtain ⟨h3a, h3⟩ := only_some.1 h3
    have hbl := look_lt h3
    have hlen : d * s ≤ cells.length := by rw [h5]; exact Nat.mul_le_mul_right _ hd
    refine FinX.trunc (h' := h.set b (some ⟨cells.take (d * s), some (e, s)⟩)) S.le.len ⟨by simp, fun i blk' hl => ?_⟩ ⟨b, .inl ⟨rfl, by rw [look_set hbl, if_pos rfl], by rw [List.length_take]; omega⟩, hge, ⟨by simpa using S.le.len, fun i blk hi => ?_⟩⟩
    · rw [look_set hbl] at hl
      split at hl
      · rename_i e; subst e
        injection hl with hl
        subst hl
        refine ⟨_, h3, rfl, by simp; omega, fun k v hk => ?_⟩
        rw [List.getElem?_take] at hk
        split at hk
        · exact hk
        · cases hk
      · exact ⟨blk', hl, rfl, Nat.le_refl _, fun _ _ h => h⟩
    · have := S.le.at_ _ _ hi
      rw [look_set hbl, if_neg]
      · exact this
      · rintro rfl
        have h6 := look_lt hi
        omega
  · cases h1
end
/-- a part of a row of numbers -/
theorem RI.part {h : AH} {b o : Nat} {xs : List Int} (hc : CS EI h b o xs) (hl : xs.length ≤ 9223372036854775807) {d k a q : Nat} (hd : d + k ≤ xs.length) (ha : a = o + d := by rfl) (hq : q = k := by rfl) : RI h (.slice (some ⟨b, a, none⟩) q 0) ((xs.drop d).take k) := by
  subst ha hq
  have hlen : ((xs.drop d).take q).length = q := by simp; omega
  refine ⟨by omega, b, o + d, by rw [hlen]; exact Wk.refl _, fun i x hi => ?_⟩
  rw [List.getElem?_take] at hi
  split at hi
  · rw [List.getElem?_drop] at hi
    obtain ⟨blk, u, h1, h2, h3⟩ := hc (d + i) x hi
    exact ⟨blk, u, h1, by rw [Nat.add_assoc]; exact h2, h3⟩
  · cases hi
/-- a fresh row that is only read -/
def Shown {α : Type} (E : AH → Value → α → Prop) (h : AH) (x : List α) (r : Value) (h' : AH) : Prop := ∃ b o, r = .slice (some ⟨b, o, none⟩) x.length 0 ∧ RS E h' r x ∧ Le h h'
theorem ACalls.shown {P : Program} {f : FuncId} {args : List Value} {h : AH} {α : Type} {E : AH → Value → α → Prop} {x : List α} (hc : ACalls P f args h (fun r h' => RS E h' r x ∧ Le h h')) : ACalls P f args h (Shown E h x) :=
  hc.can fun r h' ⟨h1, h2⟩ => by
    obtain ⟨b, o, k1, k2⟩ := h1.can
    exact ⟨_, k1, b, o, rfl, k2, h2⟩
section
variable {M : Nat → Prop} {n : Nat} {hb h : AH} {Rs : List Res}
theorem SepM.recastR (S : SepM M n hb h Rs) (j : Nat) {e : TypeId} {s m k : Nat} {v : Value} {cells cells' : List Value} (hj : gt Rs j = some (.rc e s m v k cells)) (ec : cells = cells') : SepM M n hb h (st Rs j (.rc e s m v k cells')) := by
  subst ec
  exact S.as j hj fun F _ h => h
/-- a number is put into a row of our own -/
theorem SepM.storeR (S : SepM M n hb h Rs) (j : Nat) {e : TypeId} {b k c a m : Nat} {xs : List Int} {y : Int} {K : AH → Prop} (hj : gt Rs j = some (.rc e 1 m (.slice (some ⟨b, 0, none⟩) k c) k (xs.map (.int .i64)))) (ha : a < xs.length)
    (hK : ∀ h', SepM M n hb h' (st Rs j (.rc e 1 m (.slice (some ⟨b, 0, none⟩) k c) k ((xs.set a y).map (.int .i64)))) → K h') {a' : Nat} (ea : a' = 0 + a := by rfl) : StoreX h b a' [.int .i64 y] K := by
  subst ea
  obtain ⟨F, ⟨b', h1, hge⟩, h2, _, _, h4⟩ := S.step hj
  rcases h1 with ⟨h1, h3, h5⟩ | ⟨h1, _⟩
  · simp only [Value.slice.injEq, Option.some.injEq, Addr.mk.injEq] at h1
    obtain ⟨⟨rfl, _⟩, _, rfl⟩ := h1
    obtain ⟨h3a, h3⟩ := only_some.1 h3
    refine StoreX.intro h3 rfl (by simp; omega) fun h' e1 e2 e3 _ => hK h' (h4 h' _ F (Nat.le_of_eq e1.symm) ⟨b, .inl ⟨rfl, only_some.2 ⟨h3a, ?_⟩, by simpa using h5⟩, hge⟩ (fun i hi => ⟨by rw [e1]; exact (h2 i hi).1, .inl hi⟩) fun i b' hf e => ?_)
    · rw [e2, Nat.zero_add, setCells_int ha]
    · rw [e3 i (fun hh => by subst hh; exact hf h3a)]; exact e
  · cases h1
end
end Go.Gl

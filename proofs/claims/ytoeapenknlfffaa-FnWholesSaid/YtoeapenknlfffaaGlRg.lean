/- Rows and tables of numbers whose content is of no account: what is kept of them is their shape and a bound. No condition. -/
import Derived.Test.YtoeapenknlfffaaFnV4
set_option linter.unusedVariables false
set_option linter.unusedSimpArgs false
namespace Go.Gl
open Go.Proofs Go.Proofs.Ytoeapenknlfffaa Go.Pl

/-- a block holds a row of c numbers from place o on, or a table of k rows of c numbers each -/
inductive Kd where
  | I (o c : Nat)
  | R (o k c : Nat)
abbrev Sig := Nat → Option Kd
def Sig.up (T : Sig) (b : Nat) (κ : Kd) : Sig := fun i => if i = b then some κ else T i
def Ext (T T' : Sig) : Prop := ∀ b κ, T b = some κ → T' b = some κ
theorem Ext.refl (T : Sig) : Ext T T := fun _ _ h => h
theorem Ext.trans {A B C : Sig} (h : Ext A B) (k : Ext B C) : Ext A C := fun b κ e => k b κ (h b κ e)
theorem Ext.up {T : Sig} {b : Nat} {κ : Kd} (hn : T b = none) : Ext T (T.up b κ) := fun i κ' e => by
  unfold Sig.up
  by_cases h : i = b
  · subst h; rw [hn] at e; cases e
  · rw [if_neg h]; exact e
theorem Sig.up_at (T : Sig) (b : Nat) (κ : Kd) : T.up b κ b = some κ := if_pos rfl
def KdOK (T : Sig) (B : Int) (h : AH) (b : Nat) : Kd → Prop
  | .I o c => ∃ blk, look h b = some blk ∧ blk.own = some (tI, 1) ∧ o + c ≤ blk.cells.length ∧ ∀ i, i < c → ∃ x, blk.cells[o + i]? = some (.int .i64 x) ∧ -B ≤ x ∧ x ≤ B
  | .R o k c => ∃ blk, look h b = some blk ∧ blk.own = some (tII, 1) ∧ ∀ i, i < k → ∃ u b' o', blk.cells[o + i]? = some u ∧ Wk u (.slice (some ⟨b', o', none⟩) c 0) ∧ (c = 0 ∨ T b' = some (.I o' c))
def Shaped (T : Sig) (B : Int) (h : AH) : Prop := ∀ b κ, T b = some κ → KdOK T B h b κ
theorem KdOK.blk_ {T : Sig} {B : Int} {h : AH} {b : Nat} {κ : Kd} (k : KdOK T B h b κ) : ∃ blk, look h b = some blk ∧ ∃ ty ∈ [tI, tII], ∃ s, blk.own = some (ty, s) := by
  cases κ with
  | I o c => obtain ⟨blk, h1, h2, _⟩ := k; exact ⟨blk, h1, tI, by simp, 1, h2⟩
  | R o k' c => obtain ⟨blk, h1, h2, _⟩ := k; exact ⟨blk, h1, tII, by simp, 1, h2⟩
theorem KdOK.keep {T T' : Sig} {B B' : Int} {h h' : AH} {b : Nat} {κ : Kd} (k : KdOK T B h b κ) (hT : Ext T T') (hB : B ≤ B') (hk : ∀ blk, look h b = some blk → (∃ ty ∈ [tI, tII], ∃ s, blk.own = some (ty, s)) → look h' b = some blk) : KdOK T' B' h' b κ := by
  cases κ with
  | I o c =>
    obtain ⟨blk, h1, h2, h3, h4⟩ := k
    exact ⟨blk, hk blk h1 ⟨tI, by simp, 1, h2⟩, h2, h3, fun i hi => by obtain ⟨x, a1, a2, a3⟩ := h4 i hi; exact ⟨x, a1, by omega, by omega⟩⟩
  | R o k' c =>
    obtain ⟨blk, h1, h2, h4⟩ := k
    exact ⟨blk, hk blk h1 ⟨tII, by simp, 1, h2⟩, h2, fun i hi => by obtain ⟨u, b', o', a1, a2, a3⟩ := h4 i hi; exact ⟨u, b', o', a1, a2, a3.imp id (hT _ _)⟩⟩
theorem Shaped.le {T : Sig} {B : Int} {h h' : AH} (s : Shaped T B h) (l : Le h h') : Shaped T B h' := fun b κ e => (s b κ e).keep (Ext.refl T) (Int.le_refl B) fun blk e _ => l.at_ _ _ e
theorem Shaped.row {T : Sig} {B : Int} {h : AH} (hs : Shaped T B h) {b o k c i : Nat} (hb : T b = some (.R o k c)) (hi : i < k) {ti : TI} {K : Value → Prop} (hK : ∀ b' o', (c = 0 ∨ T b' = some (.I o' c)) → K (.slice (some ⟨b', o', none⟩) c 0)) (ha : ti.agg = false := by rfl) : LoadX h ti b (o + i) K := by
  obtain ⟨blk, h1, _, h3⟩ := hs b _ hb
  obtain ⟨u, b', o', a1, a2, a3⟩ := h3 i hi
  exact LoadX.one h1 (by unfold ldv; rw [ha]; exact a1) a2 (hK b' o' a3)
theorem Shaped.int {T : Sig} {B : Int} {h : AH} (hs : Shaped T B h) {b o c i : Nat} (hb : T b = some (.I o c)) (hi : i < c) {ti : TI} {K : Value → Prop} (hK : ∀ x, -B ≤ x → x ≤ B → K (.int .i64 x)) (ha : ti.agg = false := by rfl) : LoadX h ti b (o + i) K := by
  obtain ⟨blk, h1, _, _, h3⟩ := hs b _ hb
  obtain ⟨x, a1, a2, a3⟩ := h3 i hi
  exact LoadX.same h1 (by unfold ldv; rw [ha]; exact a1) (hK x a2 a3)
def Reg : Tr (Sig × Int) := fun n h _ x l => l = [] ∧ (∀ b κ, x.1 b = some κ → n ≤ b) ∧ Shaped x.1 x.2 h
theorem Reg.fr : Fr tI [tI, tII] Reg where
  keep := by
    rintro n h h' v x l ⟨rfl, h1, h2⟩ hk
    exact ⟨rfl, h1, fun b κ e => (h2 b κ e).keep (Ext.refl _) (Int.le_refl _) fun blk e1 e2 => hk b blk e1 (h1 b κ e) (.inr e2)⟩
  low := by
    rintro n m h v x l ⟨rfl, h1, h2⟩ hm
    exact ⟨rfl, fun b κ e => Nat.le_trans hm (h1 b κ e), h2⟩
  leaf := by
    rintro n h v x l ⟨rfl, h1, h2⟩ i hi
    cases hi
  nd := by
    rintro n h v x l ⟨rfl, h1, h2⟩
    exact List.nodup_nil
/-- the part -/
abbrev rg (n : Nat) (T : Sig) (B : Int) : Res := .tr Reg.fr n .nilFunc (T, B)
section
variable {M : Nat → Prop} {n : Nat} {hb h : AH} {Rs : List Res}
theorem SepM.shp (S : SepM M n hb h Rs) (j : Nat) {m : Nat} {T : Sig} {B : Int} (hj : gt Rs j = some (rg m T B)) : Shaped T B h := by
  obtain ⟨l, h1⟩ := S.tre j hj
  exact h1.2.2
theorem Res.rgAt {m : Nat} {T : Sig} {B : Int} {h : AH} (hR : ∃ F, (rg m T B).at_ h F) : Shaped T B h := by
  obtain ⟨F, l, _, _, h2⟩ := hR
  exact h2.le (only_le _ _)
theorem SepM.rgNone (S : SepM M n hb h Rs) : SepM M n hb h (rg n (fun _ => none) 0 :: Rs) := by
  obtain ⟨G, hG⟩ := S.ex
  exact ⟨S.le, S.nl, _, .cons (F := fun _ => False) ⟨[], rfl, fun b κ e => (by cases e), fun b κ e => (by cases e)⟩ (fun i hi => hi.elim) (fun i hi => hi.elim) hG⟩
theorem SepM.rgWide (S : SepM M n hb h Rs) (j : Nat) {m : Nat} {T : Sig} {B : Int} (hj : gt Rs j = some (rg m T B)) (B' : Int) (hB : B ≤ B') : SepM M n hb h (st Rs j (rg m T B')) :=
  S.as j hj fun F _ ⟨l, h1, h2, h3⟩ => ⟨l, h1, h2, fun b κ e => (h3 b κ e).keep (Ext.refl _) hB fun _ e _ => e⟩
/-- a number is stored -/
theorem SepM.rgStore (S : SepM M n hb h Rs) (j : Nat) {m : Nat} {T : Sig} {B : Int} (hj : gt Rs j = some (rg m T B)) {b o c i : Nat} (hb1 : T b = some (.I o c)) (hi : i < c) {y : Int} (hy : -B ≤ y ∧ y ≤ B) {K : AH → Prop} (hK : ∀ h', SepM M n hb h' (st Rs j (rg m T B)) → K h') : StoreX h b (o + i) [.int .i64 y] K := by
  obtain ⟨F, ⟨l, h0, h1, hs⟩, h2, _, _, h4⟩ := S.step hj
  obtain ⟨blk, k1, k2, k3, k4⟩ := hs b _ hb1
  obtain ⟨hFb, k1'⟩ := only_some.1 k1
  refine StoreX.intro k1' (by rw [k2]; rfl) (by simp; omega) fun h' q1 q2 q3 _ => hK h' ?_
  refine h4 h' _ F (Nat.le_of_eq q1.symm) ⟨l, h0, h1, fun b2 κ e => ?_⟩ (fun i hi => ⟨by rw [q1]; exact (h2 i hi).1, .inl hi⟩) fun i2 bb hf e => ?_
  · by_cases hbb : b2 = b
    · subst hbb
      have e : κ = .I o c := by
        have e : T b2 = some κ := e
        rw [hb1] at e; injection e with e; exact e.symm
      subst e
      refine ⟨⟨setCells blk.cells (o + i) [.int .i64 y], blk.own⟩, only_some.2 ⟨hFb, q2⟩, k2, ?_, fun i2 hi2 => ?_⟩
      · show o + c ≤ (setCells blk.cells (o + i) [.int .i64 y]).length
        rw [setCells_length _ _ _ (by simp; omega)]; exact k3
      · show ∃ x, (setCells blk.cells (o + i) [.int .i64 y])[o + i2]? = _ ∧ _
        rw [setCells_get _ _ _ (by simp; omega)]
        by_cases h5 : i2 = i
        · subst h5
          exact ⟨y, by simp, hy⟩
        · rw [if_neg (by simp; omega)]
          exact k4 i2 hi2
    · refine (hs b2 κ e).keep (Ext.refl _) (Int.le_refl _) fun bl e1 _ => ?_
      obtain ⟨g1, g2⟩ := only_some.1 e1
      exact only_some.2 ⟨g1, by rw [q3 b2 hbb]; exact g2⟩
  · rw [q3 i2 (fun hh => by subst hh; exact hf hFb)]
    exact e
theorem SepL.perm {A : Nat → Prop} {h : AH} {Rs Rs' : List Res} (p : Rs.Perm Rs') : ∀ {G : Nat → Prop}, SepL A h Rs G → ∃ G', SepL A h Rs' G' ∧ ∀ i, G' i ↔ G i := by
  induction p with
  | nil => exact fun S => ⟨_, S, fun i => Iff.rfl⟩
  | cons x p ih =>
    intro G S
    obtain ⟨F, G1, h1, h2, h3, h4, h5⟩ := S.inv
    obtain ⟨G2, S2, e2⟩ := ih h4
    exact ⟨_, .cons h1 h2 (fun i hi hg => h3 i hi ((e2 i).1 hg)) S2, fun i => by rw [h5, e2]⟩
  | swap x y l =>
    intro G S
    obtain ⟨F, G1, h1, h2, h3, h4, h5⟩ := S.inv
    obtain ⟨F', G2, k1, k2, k3, k4, k5⟩ := h4.inv
    refine ⟨_, .cons (F := F') (G := fun i => F i ∨ G2 i) k1 k2 (fun i hi hg => ?_) (.cons h1 h2 (fun i hi hg => h3 i hi ((k5 i).2 (.inr hg))) k4), fun i => ?_⟩
    · rcases hg with hg | hg
      · exact h3 i hg ((k5 i).2 (.inl hi))
      · exact k3 i hi hg
    · rw [h5, k5]
      constructor
      · rintro (a | a | a)
        · exact .inr (.inl a)
        · exact .inl a
        · exact .inr (.inr a)
      · rintro (a | a | a)
        · exact .inr (.inl a)
        · exact .inl a
        · exact .inr (.inr a)
  | trans p q ih1 ih2 =>
    intro G S
    obtain ⟨G1, S1, e1⟩ := ih1 S
    obtain ⟨G2, S2, e2⟩ := ih2 S1
    exact ⟨G2, S2, fun i => (e2 i).trans (e1 i)⟩
theorem SepM.perm {Rs' : List Res} (S : SepM M n hb h Rs) (p : Rs.Perm Rs') : SepM M n hb h Rs' := by
  obtain ⟨G, hG⟩ := S.ex
  obtain ⟨G', hG', _⟩ := hG.perm p
  exact ⟨S.le, S.nl, G', hG'⟩
theorem rm_eq : ∀ (l : List Res) (j : Nat), rm l j = l.eraseIdx j
  | [], j => by cases j <;> rfl
  | x :: l, 0 => rfl
  | x :: l, j + 1 => by simp only [rm, List.eraseIdx_cons_succ]; rw [rm_eq l j]
theorem set_perm {R : Res} : ∀ {l : List Res} {j : Nat}, j < l.length → (R :: l.eraseIdx j).Perm (l.set j R)
  | x :: l, 0, _ => List.Perm.refl _
  | x :: l, j + 1, h => by
    rw [List.eraseIdx_cons_succ, List.set_cons_succ]
    exact (List.Perm.swap x R _).trans ((set_perm (by simpa using h)).cons x)
/-- a row takes the place of another one -/
theorem SepM.rowSet {R X : Res} {i j : Nat} {f : Nat → Res} {Ls : List Res} (S : SepM M n hb h (R :: X :: (rowsR i f ++ Ls))) (hj : j < i) : SepM M n hb h (X :: (rowsR i (fun k => if k = j then R else f k) ++ Ls)) := by
  have hl : (rowsR i f).length = i := by simp [rowsR]
  have S := S.drop (j + 2)
  rw [rm_eq, List.eraseIdx_cons_succ, List.eraseIdx_cons_succ, List.eraseIdx_append_of_lt_length (by omega)] at S
  refine S.perm ((List.Perm.swap X R _).trans (List.Perm.cons X ?_))
  have e : rowsR i (fun k => if k = j then R else f k) = (rowsR i f).set j R := range_set.symm
  rw [e, ← List.cons_append]
  exact (set_perm (by omega)).append_right Ls
/-- two regions become one -/
theorem SepM.rgJoin {m : Nat} {T T2 : Sig} {B : Int} (S : SepM M n hb h (rg m T2 B :: rg m T B :: Rs)) : ∃ T', Ext T T' ∧ Ext T2 T' ∧ SepM M n hb h (rg m T' B :: Rs) := by
  obtain ⟨F0, G0, ⟨l1, _, _, hs1⟩, ⟨l2, _, _, hs2⟩, hd⟩ := S.pair
  have hdj : ∀ b κ κ', T2 b = some κ → T b = some κ' → False := fun b κ κ' e1 e2 => by
    obtain ⟨bl1, k1, _⟩ := (hs1 b κ e1).blk_
    obtain ⟨bl2, k2, _⟩ := (hs2 b κ' e2).blk_
    exact hd b (only_some.1 k1).1 (only_some.1 k2).1
  let T' : Sig := fun b => match T2 b with | some κ => some κ | none => T b
  have e2 : Ext T2 T' := fun b κ e => by show (match T2 b with | some κ => some κ | none => T b) = _; rw [e]
  have e1 : Ext T T' := fun b κ e => by
    show (match T2 b with | some κ => some κ | none => T b) = _
    cases h2 : T2 b with
    | none => exact e
    | some κ' => exact (hdj b κ' κ h2 e).elim
  refine ⟨T', e1, e2, S.join fun F G _ ⟨l1, _, n1, s1⟩ ⟨l2, _, n2, s2⟩ => ⟨[], rfl, fun b κ e => ?_, fun b κ e => ?_⟩⟩
  · have e : (match T2 b with | some κ => some κ | none => T b) = some κ := e
    cases h2 : T2 b with
    | none => rw [h2] at e; exact n2 b κ e
    | some κ' => exact n1 b κ' h2
  · have e : (match T2 b with | some κ => some κ | none => T b) = some κ := e
    cases h2 : T2 b with
    | none =>
      rw [h2] at e
      exact (s2 b κ e).keep e1 (Int.le_refl _) fun bl e _ => by rw [only_some] at e ⊢; exact ⟨.inr e.1, e.2⟩
    | some κ' =>
      rw [h2] at e
      injection e with e
      subst e
      exact (s1 b κ' h2).keep e2 (Int.le_refl _) fun bl e _ => by rw [only_some] at e ⊢; exact ⟨.inl e.1, e.2⟩
/-- a row of numbers joins -/
theorem SepM.rgBox {m b : Nat} {xs : List Int} {T : Sig} {B : Int} (S : SepM M n hb h (.bx b tI 1 (xs.map (.int .i64)) :: rg m T B :: Rs)) (hm : m ≤ n) (hx : ∀ x ∈ xs, -B ≤ x ∧ x ≤ B) : ∃ T', Ext T T' ∧ T' b = some (.I 0 xs.length) ∧ SepM M n hb h (rg m T' B :: Rs) := by
  have hge := S.ge 0 rfl
  obtain ⟨F0, G0, ⟨f1, f2⟩, ⟨l2, _, _, hs2⟩, hd⟩ := S.pair
  have hn : T b = none := by
    cases e : T b with
    | none => rfl
    | some κ =>
      obtain ⟨bl, k1, _⟩ := (hs2 b κ e).blk_
      exact (hd b f1 (only_some.1 k1).1).elim
  refine ⟨T.up b (.I 0 xs.length), Ext.up hn, Sig.up_at _ _ _, S.join fun F G _ ⟨g1, g2⟩ ⟨l2, _, n2, s2⟩ => ⟨[], rfl, fun b2 κ e => ?_, fun b2 κ e => ?_⟩⟩
  · by_cases hb2 : b2 = b
    · subst hb2; omega
    · exact n2 b2 κ (by have e : (if b2 = b then _ else _) = _ := e; rwa [if_neg hb2] at e)
  · by_cases hb2 : b2 = b
    · subst hb2
      have e : (if b2 = b2 then some (Kd.I 0 xs.length) else T b2) = some κ := e
      rw [if_pos rfl] at e; injection e with e; subst e
      refine ⟨_, only_some.2 ⟨.inl g1, g2⟩, rfl, by simp, fun i hi => ⟨xs[i], by simp [hi], hx _ (List.getElem_mem hi)⟩⟩
    · have e : (if b2 = b then some (Kd.I 0 xs.length) else T b2) = some κ := e
      rw [if_neg hb2] at e
      exact (s2 b2 κ e).keep (Ext.up hn) (Int.le_refl _) fun bl e _ => by rw [only_some] at e ⊢; exact ⟨.inr e.1, e.2⟩
/-- a row of numbers, as a tree, joins -/
theorem SepM.rgLeaf {m b o c cc : Nat} {xs : List Int} {T : Sig} {B : Int} (S : SepM M n hb h (.tr OI.fr m (.slice (some ⟨b, o, none⟩) c cc) xs :: rg m T B :: Rs)) (hc : xs.length = c) (hw : Wk (.slice (some ⟨b, o, none⟩) c cc) (.slice (some ⟨b, o, none⟩) c 0)) (hp : ∀ b' o', 0 < c → Wk (.slice (some ⟨b, o, none⟩) c cc) (.slice (some ⟨b', o', none⟩) c 0) → b' = b ∧ o' = o) (hx : ∀ x ∈ xs, -B ≤ x ∧ x ≤ B) : ∃ T', Ext T T' ∧ (c = 0 ∨ T' b = some (.I o c)) ∧ SepM M n hb h (rg m T' B :: Rs) := by
  subst hc
  rcases Nat.eq_zero_or_pos xs.length with h0 | h0
  · exact ⟨T, Ext.refl T, .inl h0, S.tail⟩
  obtain ⟨F0, G0, ⟨l1, hmx, hcase⟩, ⟨l2, _, _, hs2⟩, hd⟩ := S.pair
  have open_ : ∀ {l : List Nat} {F : Nat → Prop}, OI m (only F h) (.slice (some ⟨b, o, none⟩) xs.length cc) xs l → ∃ blk, m ≤ b ∧ look (only F h) b = some blk ∧ blk.own = some (tI, 1) ∧ o + xs.length ≤ blk.cells.length ∧ ∀ (k : Nat) x, xs[k]? = some x → blk.cells[o + k]? = some (.int .i64 x) := by
    rintro l F ⟨_, ⟨rfl, _⟩ | ⟨b2, o2, blk, w, a1, _, a2, a3, a4, a5⟩⟩
    · simp at h0
    · obtain ⟨rfl, rfl⟩ := hp b2 o2 h0 w
      exact ⟨blk, a1, a2, a3, a4, a5⟩
  obtain ⟨blk0, _, f2, _⟩ := open_ ⟨hmx, hcase⟩
  have hn : T b = none := by
    cases e : T b with
    | none => rfl
    | some κ =>
      obtain ⟨bl, k1, _⟩ := (hs2 b κ e).blk_
      exact (hd b (only_some.1 f2).1 (only_some.1 k1).1).elim
  refine ⟨T.up b (.I o xs.length), Ext.up hn, .inr (Sig.up_at _ _ _), S.join fun F G _ ⟨l1, g1⟩ ⟨l2, _, n2, s2⟩ => ⟨[], rfl, fun b2 κ e => ?_, fun b2 κ e => ?_⟩⟩
  · by_cases hb2 : b2 = b
    · subst hb2; exact (open_ g1).choose_spec.1
    · exact n2 b2 κ (by have e : (if b2 = b then _ else _) = _ := e; rwa [if_neg hb2] at e)
  · by_cases hb2 : b2 = b
    · subst hb2
      have e : (if b2 = b2 then some (Kd.I o xs.length) else T b2) = some κ := e
      rw [if_pos rfl] at e; injection e with e; subst e
      obtain ⟨blk, _, a2, a3, a4, a5⟩ := open_ g1
      refine ⟨blk, by rw [only_some] at a2 ⊢; exact ⟨.inl a2.1, a2.2⟩, a3, a4, fun i hi => ⟨xs[i], a5 i _ (List.getElem?_eq_getElem hi), hx _ (List.getElem_mem hi)⟩⟩
    · have e : (if b2 = b then some (Kd.I o xs.length) else T b2) = some κ := e
      rw [if_neg hb2] at e
      exact (s2 b2 κ e).keep (Ext.up hn) (Int.le_refl _) fun bl e _ => by rw [only_some] at e ⊢; exact ⟨.inr e.1, e.2⟩
/-- the rows of a table -/
def RowsOK (T : Sig) (c : Nat) (us : List Value) : Prop := ∀ u ∈ us, ∃ b' o', Wk u (.slice (some ⟨b', o', none⟩) c 0) ∧ (c = 0 ∨ T b' = some (.I o' c))
theorem RowsOK.ext {T T' : Sig} {c : Nat} {us : List Value} (h : RowsOK T c us) (e : Ext T T') : RowsOK T' c us := fun u hu => by
  obtain ⟨b', o', h1, h2⟩ := h u hu
  exact ⟨b', o', h1, h2.imp id (e _ _)⟩
theorem RowsOK.nil (T : Sig) (c : Nat) : RowsOK T c [] := fun u hu => by cases hu
theorem RowsOK.snoc {T : Sig} {c : Nat} {us : List Value} {u : Value} {b o : Nat} (h : RowsOK T c us) (hw : Wk u (.slice (some ⟨b, o, none⟩) c 0)) (hT : c = 0 ∨ T b = some (.I o c)) : RowsOK T c (us ++ [u]) := fun v hv => by
  rcases List.mem_append.1 hv with hv | hv
  · exact h v hv
  · rw [List.mem_singleton.1 hv]; exact ⟨b, o, hw, hT⟩
/-- a table joins -/
theorem SepM.rgTab {m b c : Nat} {us : List Value} {T : Sig} {B : Int} (S : SepM M n hb h (.bx b tII 1 us :: rg m T B :: Rs)) (hm : m ≤ n) (hu : RowsOK T c us) : ∃ T', Ext T T' ∧ T' b = some (.R 0 us.length c) ∧ SepM M n hb h (rg m T' B :: Rs) := by
  have hge := S.ge 0 rfl
  obtain ⟨F0, G0, ⟨f1, f2⟩, ⟨l2, _, _, hs2⟩, hd⟩ := S.pair
  have hn : T b = none := by
    cases e : T b with
    | none => rfl
    | some κ =>
      obtain ⟨bl, k1, _⟩ := (hs2 b κ e).blk_
      exact (hd b f1 (only_some.1 k1).1).elim
  refine ⟨T.up b (.R 0 us.length c), Ext.up hn, Sig.up_at _ _ _, S.join fun F G _ ⟨g1, g2⟩ ⟨l2, _, n2, s2⟩ => ⟨[], rfl, fun b2 κ e => ?_, fun b2 κ e => ?_⟩⟩
  · by_cases hb2 : b2 = b
    · subst hb2; omega
    · exact n2 b2 κ (by have e : (if b2 = b then _ else _) = _ := e; rwa [if_neg hb2] at e)
  · by_cases hb2 : b2 = b
    · subst hb2
      have e : (if b2 = b2 then some (Kd.R 0 us.length c) else T b2) = some κ := e
      rw [if_pos rfl] at e; injection e with e; subst e
      refine ⟨_, only_some.2 ⟨.inl g1, g2⟩, rfl, fun i hi => ?_⟩
      obtain ⟨b', o', w1, w2⟩ := hu us[i] (List.getElem_mem hi)
      exact ⟨us[i], b', o', by simp [hi], w1, w2.imp id (Ext.up hn _ _)⟩
    · have e : (if b2 = b then some (Kd.R 0 us.length c) else T b2) = some κ := e
      rw [if_neg hb2] at e
      exact (s2 b2 κ e).keep (Ext.up hn) (Int.le_refl _) fun bl e _ => by rw [only_some] at e ⊢; exact ⟨.inr e.1, e.2⟩
end
/-! ### what it reads as -/
theorem RS.ofAll {α : Type} {E : AH → Value → α → Prop} {h : AH} {v : Value} {b o k : Nat} (hw : Wk v (.slice (some ⟨b, o, none⟩) k 0)) (hk : k ≤ 9223372036854775807) (hc : ∀ i, i < k → ∃ blk u x, look h b = some blk ∧ blk.cells[o + i]? = some u ∧ E h u x) : ∃ xs : List α, xs.length = k ∧ RS E h v xs := by
  rcases Nat.eq_zero_or_pos k with h0 | h0
  · subst h0
    exact ⟨[], rfl, by simp, b, o, hw, fun i x e => by simp at e⟩
  · obtain ⟨_, _, x0, _⟩ := hc 0 h0
    have key : ∀ m, m ≤ k → ∃ xs : List α, xs.length = m ∧ ∀ (i : Nat) x, xs[i]? = some x → ∃ blk u, look h b = some blk ∧ blk.cells[o + i]? = some u ∧ E h u x := by
      intro m
      induction m with
      | zero => exact fun _ => ⟨[], rfl, fun i x e => by simp at e⟩
      | succ m ih =>
        intro hm
        obtain ⟨xs, e1, e2⟩ := ih (by omega)
        obtain ⟨blk, u, x, a1, a2, a3⟩ := hc m (by omega)
        refine ⟨xs ++ [x], by simp [e1], fun i y e => ?_⟩
        rcases Nat.lt_or_ge i xs.length with hi | hi
        · rw [List.getElem?_append_left hi] at e
          exact e2 i y e
        · have : i = xs.length := by
            have := (List.getElem?_eq_some_iff.1 e).1
            simp at this; omega
          subst this
          rw [List.getElem?_append_right (Nat.le_refl _)] at e
          simp at e
          subst e
          rw [e1]
          exact ⟨blk, u, a1, a2, a3⟩
    obtain ⟨xs, e1, e2⟩ := key k (Nat.le_refl _)
    subst e1
    exact ⟨xs, rfl, hk, b, o, hw, e2⟩
theorem Shaped.readI {T : Sig} {B : Int} {h : AH} (hs : Shaped T B h) {v : Value} {b o c : Nat} (hw : Wk v (.slice (some ⟨b, o, none⟩) c 0)) (hc : c ≤ 1000000) (hb : c = 0 ∨ T b = some (.I o c)) : ∃ xs : List Int, xs.length = c ∧ RI h v xs ∧ ∀ x ∈ xs, -B ≤ x ∧ x ≤ B := by
  obtain ⟨xs, e, hm, b2, o2, w, hcs⟩ := RS.ofAll (E := fun h v (x : Int) => v = .int .i64 x ∧ -B ≤ x ∧ x ≤ B) (h := h) hw (by omega) fun i hi => by
    rcases hb with hb | hb
    · omega
    · obtain ⟨blk, h1, _, _, h3⟩ := hs b _ hb
      obtain ⟨x, a1, a2⟩ := h3 i hi
      exact ⟨blk, _, x, h1, a1, rfl, a2⟩
  refine ⟨xs, e, ⟨hm, b2, o2, w, fun k x hk => ?_⟩, fun x hx => ?_⟩
  · obtain ⟨blk, u, a1, a2, a3, _⟩ := hcs k x hk
    exact ⟨blk, u, a1, a2, a3⟩
  · obtain ⟨i, hi, e⟩ := List.getElem_of_mem hx
    obtain ⟨blk, u, a1, a2, a3, a4⟩ := hcs i x (by rw [List.getElem?_eq_getElem hi, e])
    exact a4
theorem Shaped.readII {T : Sig} {B : Int} {h : AH} (hs : Shaped T B h) {v : Value} {b o k c : Nat} (hw : Wk v (.slice (some ⟨b, o, none⟩) k 0)) (hk : k ≤ 1000000) (hc : c ≤ 1000000) (hb : k = 0 ∨ T b = some (.R o k c)) : ∃ xs : List (List Int), xs.length = k ∧ RII h v xs := by
  refine RS.ofAll hw (by omega) fun i hi => ?_
  rcases hb with hb | hb
  · omega
  · obtain ⟨blk, h1, _, h3⟩ := hs b _ hb
    obtain ⟨u, b', o', a1, a2, a3⟩ := h3 i hi
    obtain ⟨xs, _, r, _⟩ := hs.readI a2 hc a3
    exact ⟨blk, u, xs, h1, a1, r⟩
end Go.Gl

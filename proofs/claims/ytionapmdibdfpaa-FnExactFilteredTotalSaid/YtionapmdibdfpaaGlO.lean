/- Tables whose rows grow each for itself: many parts at once. No condition. -/
import Derived.Test.YtionapmdibdfpaaGlQ
set_option linter.unusedVariables false
set_option linter.unusedSimpArgs false
namespace Go.Gl
open Go.Pl

theorem gt_eq : ∀ (Rs : List Res) (j : Nat), gt Rs j = Rs[j]?
  | [], j => by simp [gt]
  | R :: Rs, 0 => by simp [gt]
  | R :: Rs, j + 1 => by simp only [gt, List.getElem?_cons_succ]; exact gt_eq Rs j
theorem st_eq : ∀ (Rs : List Res) (j : Nat) (R : Res), st Rs j R = Rs.set j R
  | [], j, R => by simp [st]
  | Q :: Rs, 0, R => by simp [st]
  | Q :: Rs, j + 1, R => by simp only [st, List.set_cons_succ]; rw [st_eq Rs j R]
def rowsR (H : Nat) (f : Nat → Res) : List Res := (List.range H).map f
theorem gt_rowsR {H : Nat} {f : Nat → Res} {j : Nat} (hj : j < H) : gt (rowsR H f) j = some (f j) := by rw [gt_eq]; simp [rowsR, hj]
theorem range_set {α : Type _} {H : Nat} {f : Nat → α} {j : Nat} {y : α} : ((List.range H).map f).set j y = (List.range H).map fun i => if i = j then y else f i := by
  refine List.ext_getElem (by simp) fun i h1 h2 => ?_
  simp [List.getElem_set, eq_comm]
theorem st_rowsR {H : Nat} {f : Nat → Res} {j : Nat} {R : Res} : st (rowsR H f) j R = rowsR H fun i => if i = j then R else f i := by rw [st_eq]; exact range_set
theorem SepL.app_inv {B : Nat → Prop} {h : AH} : ∀ {As Bs : List Res} {G : Nat → Prop}, SepL B h (As ++ Bs) G → ∃ GA GB, SepL B h As GA ∧ SepL B h Bs GB ∧ (∀ i, GA i → ¬ GB i) ∧ ∀ i, G i ↔ GA i ∨ GB i
  | [], Bs, G, S => ⟨fun _ => False, G, .nil, S, fun i hi => hi.elim, fun i => ⟨.inr, fun hh => hh.elim False.elim id⟩⟩
  | A :: As, Bs, G, S => by
    obtain ⟨F, G1, h1, h2, h3, h4, h5⟩ := SepL.inv S
    obtain ⟨GA, GB, k1, k2, k3, k4⟩ := SepL.app_inv h4
    refine ⟨_, GB, .cons h1 h2 (fun i hi hg => h3 i hi ((k4 i).2 (.inl hg))) k1, k2, fun i hi hg => ?_, fun i => ?_⟩
    · rcases hi with hi | hi
      · exact h3 i hi ((k4 i).2 (.inr hg))
      · exact k3 i hi hg
    · rw [h5, k4, or_assoc]
theorem SepL.app {B : Nat → Prop} {h : AH} {As Bs : List Res} {GA GB : Nat → Prop} (a : SepL B h As GA) (b : SepL B h Bs GB) (hd : ∀ i, GA i → ¬ GB i) : SepL B h (As ++ Bs) (fun i => GA i ∨ GB i) := by
  induction a with
  | nil =>
    have : (fun i => False ∨ GB i) = GB := by funext i; simp
    rw [this]; exact b
  | @cons R Rs F G h1 h2 h3 h4 ih =>
    have e : (fun i => (F i ∨ G i) ∨ GB i) = (fun i => F i ∨ (G i ∨ GB i)) := by funext i; rw [or_assoc]
    rw [e]
    exact .cons h1 h2 (fun i hi hh => hh.elim (h3 i hi) (hd i (.inl hi))) (ih fun i hi => hd i (.inr hi))
theorem SepL.conv {B : Nat → Prop} {h : AH} : ∀ {Rs Rs' : List Res} {G : Nat → Prop}, SepL B h Rs G → Rs.length = Rs'.length →
    (∀ (j : Nat) R R', Rs[j]? = some R → Rs'[j]? = some R' → ∀ F, (∀ i, F i → B i) → R.at_ h F → R'.at_ h F) → SepL B h Rs' G
  | [], Rs', G, S, hl, hc => by
    have : Rs' = [] := List.length_eq_zero_iff.1 hl.symm
    subst this; exact S
  | R :: Rs, [], G, S, hl, hc => by simp at hl
  | R :: Rs, R' :: Rs', G, S, hl, hc => by
    cases S with
    | cons h1 h2 h3 h4 =>
      exact .cons (hc 0 R R' rfl rfl _ (fun i hi => (h2 i hi).1) h1) h2 h3 (SepL.conv h4 (by simpa using hl) fun j Q Q' e1 e2 => hc (j + 1) Q Q' (by simpa using e1) (by simpa using e2))
theorem SepL.nils {B : Nat → Prop} {h : AH} {f : Nat → Res} (hf : ∀ j, (f j).at_ h fun _ => False) : ∀ l : List Nat, SepL B h (l.map f) fun _ => False
  | [] => .nil
  | a :: l => by
    have e : (fun _ : Nat => False ∨ False) = fun _ => False := by funext i; simp
    have := SepL.cons (B := B) (hf a) (fun i hi => hi.elim) (fun i hi => hi.elim) (SepL.nils hf l)
    rw [e] at this
    exact this
theorem ldv_map {i : TI} (hi : i.agg = false) {H : Nat} {v : Nat → Value} {j : Nat} (hj : j < H) : ldv i ((List.range H).map v) (0 + j) = some (v j) := by
  unfold ldv
  rw [hi]
  simp [hj]
theorem setCells_map {H : Nat} {v : Nat → Value} {j : Nat} (hj : j < H) (y : Value) : setCells ((List.range H).map v) (0 + j) [y] = (List.range H).map fun i => if i = j then y else v i := by
  rw [← range_set]
  apply List.ext_getElem?
  intro i
  rw [setCells_get _ _ _ (by simp; omega), List.getElem?_set]
  simp only [List.length_singleton]
  by_cases h : j = i
  · subst h; simp [hj]
  · rw [if_neg (by omega), if_neg h]
section
variable {M : Nat → Prop} {n : Nat} {hb h : AH} {Rs : List Res}
theorem SepM.eq {Rs' : List Res} (S : SepM M n hb h Rs) (e : Rs = Rs') : SepM M n hb h Rs' := by rw [← e]; exact S
theorem SepM.conv {Rs' : List Res} (S : SepM M n hb h Rs) (hl : Rs.length = Rs'.length) (hc : ∀ (j : Nat) R R', Rs[j]? = some R → Rs'[j]? = some R' → ∀ F, (∀ i, F i → n ≤ i) → R.at_ h F → R'.at_ h F) : SepM M n hb h Rs' := by
  obtain ⟨G, hG⟩ := S.ex
  exact ⟨S.le, S.nl, G, hG.conv hl fun j R R' e1 e2 F hF => hc j R R' e1 e2 F fun i hi => (hF i hi).2.1⟩
/-- the rows behind are looked at in another way -/
theorem SepM.rowsAs {Ls : List Res} {H : Nat} {f f' : Nat → Res} (S : SepM M n hb h (Ls ++ rowsR H f)) (hc : ∀ j, j < H → ∀ F, (∀ i, F i → n ≤ i) → (f j).at_ h F → (f' j).at_ h F) : SepM M n hb h (Ls ++ rowsR H f') := by
  refine S.conv (by simp [rowsR]) fun j R R' e1 e2 F hF hR => ?_
  rw [List.getElem?_append] at e1 e2
  split at e1
  · rename_i hj
    rw [if_pos hj] at e2
    rw [e1] at e2; injection e2 with e2; subst e2
    exact hR
  · rename_i hj
    rw [if_neg hj] at e2
    have hlt := (List.getElem?_eq_some_iff.1 e1).1
    simp only [rowsR, List.length_map, List.length_range] at hlt
    simp only [rowsR, List.getElem?_map, List.getElem?_range hlt, Option.map_some, Option.some.injEq] at e1 e2
    subst e1 e2
    exact hc _ hlt F hF hR
theorem SepM.appSwap {As Bs : List Res} (S : SepM M n hb h (As ++ Bs)) : SepM M n hb h (Bs ++ As) := by
  obtain ⟨G, hG⟩ := S.ex
  obtain ⟨GA, GB, k1, k2, k3, _⟩ := hG.app_inv
  exact ⟨S.le, S.nl, _, SepL.app k2 k1 fun i hi hg => k3 i hg hi⟩
/-- empty rows -/
theorem SepM.nilsW {Ls : List Res} (S : SepM M n hb h Ls) {ti : TypeId} {T : List TypeId} {α : Type} {E : Tr α} (hE : Fr ti T E) (e : TypeId) (H : Nat) : SepM M n hb h (Ls ++ rowsR H fun _ => .rw hE e n (.slice none 0 0) 0 []) := by
  obtain ⟨G, hG⟩ := S.ex
  exact ⟨S.le, S.nl, _, SepL.app hG (SepL.nils (f := fun _ => .rw hE e n (.slice none 0 0) 0 []) (fun j => ⟨n, [], [], fun _ => False, fun h => h, fun i hi => hi, .inr ⟨rfl, rfl, rfl⟩, Nat.le_refl _, Row.nil _ _ _⟩) _) fun i _ hg => hg⟩
theorem SepM.nilsC {Ls : List Res} (S : SepM M n hb h Ls) (e : TypeId) (s H : Nat) : SepM M n hb h (Ls ++ rowsR H fun _ => .rc e s n (.slice none 0 0) 0 []) := by
  obtain ⟨G, hG⟩ := S.ex
  exact ⟨S.le, S.nl, _, SepL.app hG (SepL.nils (f := fun _ => .rc e s n (.slice none 0 0) 0 []) (fun j => ⟨n, .inr ⟨rfl, rfl, rfl⟩, Nat.le_refl _⟩) _) fun i _ hg => hg⟩
theorem Res.rw_tr {ti : TypeId} {T : List TypeId} {α : Type} {E : Tr α} {hE : Fr ti T E} {e : TypeId} {m : Nat} {v : Value} {k : Nat} {xs : List α} (hm : k ≤ 9223372036854775807) {F : Nat → Prop} (hR : (Res.rw hE e m v k xs).at_ h F) : (Res.tr (Node.fr e hE) m v xs).at_ h F := by
  obtain ⟨b, us, ls, G, h1, h2, h3, h4, h5⟩ := hR
  have hus : us.length = k := by rcases h3 with ⟨_, _, hh⟩ | ⟨_, rfl, rfl⟩; simpa using hh; rfl
  exact ⟨_, Row.ns (h5.up hE fun i b e => by rw [only_some] at e ⊢; exact ⟨h2 _ e.1, e.2⟩) h3 (by rw [← hus, h5.lu]) h4 (by rw [← h5.lu, hus]; exact hm)⟩
theorem Res.rc_tr {ti : TypeId} {m k : Nat} {v : Value} {xs : List Int} (hm : xs.length ≤ 9223372036854775807) {F : Nat → Prop} (hR : (Res.rc ti 1 m v k (xs.map (.int .i64))).at_ h F) : (Res.tr (Leaf.fr ti) m v xs).at_ h F := by
  obtain ⟨b, h1, h2⟩ := hR
  have hk : k = xs.length := by rcases h1 with ⟨_, _, hh⟩ | ⟨_, rfl, hh⟩; simpa using hh.symm; have := congrArg List.length hh; simpa using this.symm
  obtain ⟨l, a1, _⟩ := Leaf.ns h1 hk h2 hm
  exact ⟨l, a1⟩
theorem SepL.gather {B : Nat → Prop} {ti : TypeId} {T : List TypeId} {α : Type} {E : Tr α} (hE : Fr ti T E) {m : Nat} : ∀ (us : List Value) (xs : List α) {Rs : List Res} {G : Nat → Prop}, SepL B h Rs G → us.length = xs.length → Rs.length = xs.length →
    (∀ (j : Nat) R u x, Rs[j]? = some R → us[j]? = some u → xs[j]? = some x → R = .tr hE m u x) → ∃ ls, Row E m (only G h) us xs ls
  | [], [], Rs, G, S, _, _, _ => ⟨[], Row.nil _ _ _⟩
  | [], x :: xs, Rs, G, S, hu, _, _ => by simp at hu
  | u :: us, [], Rs, G, S, hu, _, _ => by simp at hu
  | u :: us, x :: xs, [], G, S, _, hl, _ => by simp at hl
  | u :: us, x :: xs, R :: Rs, G, S, hu, hl, hc => by
    obtain ⟨F, G1, h1, h2, h3, h4, h5⟩ := SepL.inv S
    have e := hc 0 R u x rfl rfl rfl
    subst e
    obtain ⟨l, h1⟩ := h1
    obtain ⟨ls, hr⟩ := SepL.gather hE us xs h4 (by simpa using hu) (by simpa using hl) fun j R u x a1 a2 a3 => hc (j + 1) R u x (by simpa using a1) (by simpa using a2) (by simpa using a3)
    refine ⟨l :: ls, by simp [hr.lu], by simp [hr.ll], ?_, fun k u' x' m' a1 a2 a3 => ?_⟩
    · rw [List.flatten_cons, List.nodup_append]
      refine ⟨hE.nd _ _ _ _ _ h1, hr.nd, fun i hi i' hi' e => ?_⟩
      subst e
      obtain ⟨_, _, _, k1, _⟩ := hE.leaf _ _ _ _ _ h1 i hi
      obtain ⟨_, _, _, k2, _⟩ := hr.leaf hE i hi'
      exact h3 i (only_some.1 k1).1 (only_some.1 k2).1
    · cases k with
      | zero =>
        simp at a1 a2 a3
        subst a1 a2 a3
        exact hE.up h1 fun i b e => by rw [only_some] at e ⊢; exact ⟨(h5 i).2 (.inl e.1), e.2⟩
      | succ k =>
        exact hE.up (hr.el k u' x' m' (by simpa using a1) (by simpa using a2) (by simpa using a3)) fun i b e => by rw [only_some] at e ⊢; exact ⟨(h5 i).2 (.inr e.1), e.2⟩
/-- a table and its rows become one -/
theorem SepM.gather {Ls : List Res} {ti : TypeId} {T : List TypeId} {α : Type} {E : Tr α} {hE : Fr ti T E} {e : TypeId} {b H : Nat} {v : Nat → Value} {x : Nat → α} (S : SepM M n hb h (.bx b e 1 ((List.range H).map v) :: (rowsR H (fun j => .tr hE n (v j) (x j)) ++ Ls))) :
    SepM M n hb h (.rw hE e n (.slice (some ⟨b, 0, none⟩) H 1) H ((List.range H).map x) :: Ls) := by
  obtain ⟨G, hG⟩ := S.ex
  obtain ⟨F, G1, ⟨h1, h1'⟩, h2, h3, h4, _⟩ := hG.inv
  obtain ⟨GA, GB, k1, k2, k3, k4⟩ := h4.app_inv
  obtain ⟨ls, hr⟩ := SepL.gather (h := h) hE ((List.range H).map v) ((List.range H).map x) k1 (by simp) (by simp [rowsR]) fun j R u y a1 a2 a3 => by
    have hj := (List.getElem?_eq_some_iff.1 a1).1
    simp only [rowsR, List.length_map, List.length_range] at hj
    simp only [rowsR, List.getElem?_map, List.getElem?_range hj, Option.map_some, Option.some.injEq] at a1 a2 a3
    subst a1 a2 a3
    rfl
  refine ⟨S.le, S.nl, _, .cons (F := fun i => F i ∨ GA i) ⟨b, _, ls, GA, fun hg => h3 b h1 ((k4 b).2 (.inl hg)), fun i hi => .inr hi, .inl ⟨rfl, only_some.2 ⟨.inl h1, h1'⟩, by simp⟩, (h2 b h1).1.2.1, hr⟩ (fun i hi => ?_) (fun i hi hg => ?_) k2⟩
  · rcases hi with hi | hi
    · exact h2 i hi
    · exact k1.lt i hi
  · rcases hi with hi | hi
    · exact h3 i hi ((k4 i).2 (.inr hg))
    · exact k3 i hi hg
theorem SepM.gatherE {Ls : List Res} {ti : TypeId} {T : List TypeId} {α : Type} {E : Tr α} {hE : Fr ti T E} {e : TypeId} {b H : Nat} {v : Nat → Value} {x : Nat → α} (S : SepM M n hb h (.bx b e 1 ((List.range H).map v) :: (Ls ++ rowsR H (fun j => .tr hE n (v j) (x j))))) :
    SepM M n hb h (.rw hE e n (.slice (some ⟨b, 0, none⟩) H 1) H ((List.range H).map x) :: Ls) := by
  refine SepM.gather (v := v) (hE := hE) ?_
  obtain ⟨G, hG⟩ := S.ex
  obtain ⟨F, G1, h1, h2, h3, h4, _⟩ := hG.inv
  obtain ⟨GA, GB, k1, k2, k3, k4⟩ := h4.app_inv
  exact ⟨S.le, S.nl, _, .cons h1 h2 (fun i hi hg => h3 i hi ((k4 i).2 hg.symm)) (SepL.app k2 k1 fun i hi hg => k3 i hg hi)⟩
end
end Go.Gl

/- The plain view of memory: statements whose order Go leaves open: one walk in the order of the text serves every order. No condition. -/
import Derived.Test.YtionapmdibdfpaaGlG
import Derived.Orders
set_option linter.unusedVariables false
set_option linter.unusedSimpArgs false
namespace Go.Gl

inductive Cl where
  | q | g | l | p

section
variable {P : Program} {N : Nat} {ops : Array Oper} {qk : Nat → Cl}

def lookSame (ops : Array Oper) (o : Oper) (t t2 : Nat → Value) : Prop := ∀ s, s ∈ o.looksAt ops → t2 s = t s

/-- whatever the slots that it does not look at hold: the operation yields v, and leaves the view as it is -/
def SQ (P : Program) (N : Nat) (ops : Array Oper) (h : AH) (o : Oper) (v : Value) (t : Nat → Value) : Prop :=
  ∀ t2 h2, lookSame ops o t t2 → Le h h2 → ∀ Γ ι a w K' Q', Rel Γ ι N t2 h2 a w → (∀ ι' u w', VR ι' h2.length v u → Rel Γ ι' N t2 h2 a w' → K' (a.put o.dst u) w') → o.wp P a w K' Q'

/-- the same, whatever the view -/
def SP (P : Program) (N : Nat) (ops : Array Oper) (o : Oper) (v : Value) (t : Nat → Value) : Prop :=
  ∀ t2 h2, lookSame ops o t t2 → ∀ Γ ι a w K' Q', Rel Γ ι N t2 h2 a w → (∀ ι' u w', VR ι' h2.length v u → Rel Γ ι' N t2 h2 a w' → K' (a.put o.dst u) w') → o.wp P a w K' Q'

/-- an operation that lays new blocks: what it yields, and what the view is then, is told by G, whatever the slots that it does not look at hold -/
def GQ (P : Program) (N : Nat) (ops : Array Oper) (h : AH) (o : Oper) (G : Value → AH → Prop) (t : Nat → Value) : Prop :=
  ∀ t2, lookSame ops o t t2 → ∀ Γ ι a w K' Q', Rel Γ ι N t2 h a w → (∀ ι' v u h' w', VR ι' h'.length v u → Rel Γ ι' N t2 h' a w' → G v h' → K' (a.put o.dst u) w') → o.wp P a w K' Q'

def wantA (N : Nat) (ops : Array Oper) (o : Oper) (t : Nat → Value) : Option Bool :=
  match o.guard with
  | none => some true
  | some (j, b) => match (ops[j]?).bind (·.dst) with
    | none => none
    | some d => match Nat.blt d N with
      | true => match t d with
        | .bool c => some (c == b)
        | .tuple vs => match vs.toList with
          | [] => some false
          | _ => none
        | _ => none
      | false => none

theorem wantA_ok {Γ : Cx} {ι : Nat → Io} {t : Nat → Value} {h : AH} {a : Act} {w : World} {o : Oper} {b : Bool} (hr : Rel Γ ι N t h a w) (hw : wantA N ops o t = some b) : Region.wanted o (yielded ops a.tmps) = b := by
  unfold wantA at hw
  unfold Region.wanted
  split at hw
  · rename_i e; rw [e]; injection hw
  · rename_i j b' e
    rw [e]
    split at hw
    · cases hw
    · rename_i d hd
      split at hw
      · rename_i hdN
        have hdN : d < N := by simpa [Nat.blt_eq] using hdN
        have hv := hr.tm d hdN
        split at hw
        · rename_i c hc
          rw [hc] at hv
          have hu := hv.bool_inv
          have hlt : d < a.tmps.size := by rw [hr.len]; exact hdN
          rw [Array.getD_eq_getD_getElem?, Array.getElem?_eq_getElem hlt] at hu
          simp only [Option.getD_some] at hu
          injection hw with hw
          simp only [yielded, hd, Option.bind_some, Array.getElem?_eq_getElem hlt, hu]
          rw [← hw]
          cases c <;> cases b' <;> rfl
        · rename_i vs hc
          split at hw
          · rename_i hvs
            have hvs : vs = #[] := by simpa using hvs
            subst hvs
            rw [hc] at hv
            have hu := hv.und_inv
            have hlt : d < a.tmps.size := by rw [hr.len]; exact hdN
            rw [Array.getD_eq_getD_getElem?, Array.getElem?_eq_getElem hlt] at hu
            simp only [Option.getD_some] at hu
            injection hw with hw
            simp only [yielded, hd, Option.bind_some, Array.getElem?_eq_getElem hlt, hu, undef]
            rw [← hw]
            rfl
          · cases hw
        · cases hw
      · cases hw

theorem wantA_congr {o : Oper} {t t2 : Nat → Value} (hl : lookSame ops o t t2) : wantA N ops o t2 = wantA N ops o t := by
  unfold wantA
  cases hg : o.guard with
  | none => rfl
  | some g =>
    obtain ⟨j, b⟩ := g
    simp only
    cases hd : (ops[j]?).bind (·.dst) with
    | none => rfl
    | some d =>
      simp only
      rw [hl d (by unfold Oper.looksAt; rw [hg]; simp [hd])]

def QI (P : Program) (N : Nat) (ops : Array Oper) (h : AH) (o : Oper) (v : Value) (t : Nat → Value) : Prop :=
  (wantA N ops o t = some true ∧ SQ P N ops h o v t) ∨ (wantA N ops o t = some false ∧ v = .tuple #[])

theorem QI.congr {h : AH} {o : Oper} {v : Value} {t t2 : Nat → Value} (hq : QI P N ops h o v t) (hl : lookSame ops o t t2) : QI P N ops h o v t2 := by
  rcases hq with ⟨h1, h2⟩ | ⟨h1, h2⟩
  · exact .inl ⟨by rw [wantA_congr hl]; exact h1, fun t3 h3 hl3 => h2 t3 h3 fun s hs => (hl3 s hs).trans (hl s hs)⟩
  · exact .inr ⟨by rw [wantA_congr hl]; exact h1, h2⟩
theorem QI.le {h h' : AH} {o : Oper} {v : Value} {t : Nat → Value} (hq : QI P N ops h o v t) (hl : Le h h') : QI P N ops h' o v t := by
  rcases hq with ⟨h1, h2⟩ | ⟨h1, h2⟩
  · exact .inl ⟨h1, fun t3 h3 hl3 hh => h2 t3 h3 hl3 (hl.trans hh)⟩
  · exact .inr ⟨h1, h2⟩
def PI (P : Program) (N : Nat) (ops : Array Oper) (o : Oper) (v : Value) (t : Nat → Value) : Prop :=
  (wantA N ops o t = some true ∧ SP P N ops o v t) ∨ (wantA N ops o t = some false ∧ v = .tuple #[])
theorem PI.congr {o : Oper} {v : Value} {t t2 : Nat → Value} (hq : PI P N ops o v t) (hl : lookSame ops o t t2) : PI P N ops o v t2 := by
  rcases hq with ⟨h1, h2⟩ | ⟨h1, h2⟩
  · exact .inl ⟨by rw [wantA_congr hl]; exact h1, fun t3 h3 hl3 => h2 t3 h3 fun s hs => (hl3 s hs).trans (hl s hs)⟩
  · exact .inr ⟨by rw [wantA_congr hl]; exact h1, h2⟩
/-- the same for what lays blocks -/
def GI (P : Program) (N : Nat) (ops : Array Oper) (h : AH) (o : Oper) (G : Value → AH → Prop) (t : Nat → Value) : Prop :=
  (wantA N ops o t = some true ∧ GQ P N ops h o G t) ∨ (wantA N ops o t = some false ∧ G (.tuple #[]) h)
theorem GI.congr {h : AH} {o : Oper} {G : Value → AH → Prop} {t t2 : Nat → Value} (hq : GI P N ops h o G t) (hl : lookSame ops o t t2) : GI P N ops h o G t2 := by
  rcases hq with ⟨h1, h2⟩ | ⟨h1, h2⟩
  · exact .inl ⟨by rw [wantA_congr hl]; exact h1, fun t3 hl3 => h2 t3 fun s hs => (hl3 s hs).trans (hl s hs)⟩
  · exact .inr ⟨by rw [wantA_congr hl]; exact h1, h2⟩

def putA (t : Nat → Value) (dst : Option Nat) (v : Value) : Nat → Value :=
  match dst with
  | none => t
  | some d => upd t d v

theorem putA_look {o : Oper} {t : Nat → Value} {dst : Option Nat} {v : Value} (hd : ∀ d, dst = some d → d ∉ o.looksAt ops) : lookSame ops o t (putA t dst v) := by
  intro s hs
  unfold putA
  split
  · rfl
  · rename_i d
    unfold upd
    split
    · rename_i e
      rw [Nat.eq_of_beq_eq_true e] at hs
      exact absurd hs (hd d rfl)
    · rfl

theorem putA_comm (t : Nat → Value) {x y : Option Nat} (v u : Value) (h : ∀ d, x = some d → y ≠ some d) : putA (putA t x v) y u = putA (putA t y u) x v := by
  cases x with
  | none => rfl
  | some d =>
    cases y with
    | none => rfl
    | some e =>
      funext i
      simp only [putA, upd]
      have hne : d ≠ e := fun hde => h d rfl (by rw [hde])
      cases h1 : Nat.beq i e <;> cases h2 : Nat.beq i d <;> simp only
      have := Nat.eq_of_beq_eq_true h1
      have := Nat.eq_of_beq_eq_true h2
      omega

def AStep (P : Program) (N : Nat) (ops : Array Oper) (qk : Nat → Cl) (j : Nat) (K : (Nat → Value) → AH → Prop) (t : Nat → Value) (h : AH) : Prop :=
  match ops[j]? with
  | none => K t h
  | some o => match qk j with
    | .q => ∃ v, QI P N ops h o v t ∧ K (putA t o.dst v) h
    | .g => ∃ G, GI P N ops h o G t ∧ ∀ v h', G v h' → Le h h' ∧ K (putA t o.dst v) h'
    | .l => ∃ G, GI P N ops h o G t ∧ ∀ v h', G v h' → K (putA t o.dst v) h'
    | .p => ∃ v, PI P N ops o v t ∧ K (putA t o.dst v) h

def AAny (P : Program) (N : Nat) (ops : Array Oper) (qk : Nat → Cl) (Q : (Nat → Value) → AH → Prop) : Nat → Array Bool → (Nat → Value) → AH → Prop
  | 0, listed, t, h => Region.ready .any ops listed = [] ∧ Q t h
  | fuel + 1, listed, t, h => (Region.ready .any ops listed = [] → Q t h) ∧
    ∀ i ∈ Region.ready .any ops listed, AStep P N ops qk i (AAny P N ops qk Q fuel (listed.setIfInBounds i true)) t h

theorem Rel.putO {Γ : Cx} {ι : Nat → Io} {t : Nat → Value} {h : AH} {a : Act} {w : World} (hr : Rel Γ ι N t h a w) {v u : Value} (hv : VR ι h.length v u) (dst : Option Nat) (hd : ∀ d, dst = some d → d < N) : Rel Γ ι N (putA t dst v) h (a.put dst u) w := by
  cases dst with
  | none => exact hr
  | some d => exact hr.put hv d (hd d rfl)

theorem AAny_sound (hdst : ∀ (j : Nat) o, ops[j]? = some o → ∀ d, o.dst = some d → d < N) {Γ : Cx} {Q : (Nat → Value) → AH → Prop} {Q' : Exit → Act → World → Prop}
    (hQ : ∀ ι t h a w, Rel Γ ι N t h a w → Q t h → Q' .normal a w) : ∀ (fuel : Nat) (listed : Array Bool) (t : Nat → Value) (h : AH) ι a w, Rel Γ ι N t h a w → AAny P N ops qk Q fuel listed t h → wpAny P .any ops Q' fuel listed a w
  | 0, listed, t, h, ι, a, w, hr, hx => ⟨hx.1, hQ _ _ _ _ _ hr hx.2⟩
  | fuel + 1, listed, t, h, ι, a, w, hr, hx => by
    refine ⟨fun h0 => hQ _ _ _ _ _ hr (hx.1 h0), fun i hi => ?_⟩
    have hs := hx.2 i hi
    unfold AStep at hs
    cases ho : ops[i]? with
    | none => rw [ho] at hs; unfold wpOp; rw [ho]; exact AAny_sound hdst hQ fuel _ t h ι a w hr hs
    | some o =>
      rw [ho] at hs
      simp only at hs
      split at hs
      · obtain ⟨v, hq, hk⟩ := hs
        unfold wpOp; rw [ho]
        simp only
        rcases hq with ⟨h1, h2⟩ | ⟨h1, rfl⟩
        · rw [if_pos (wantA_ok hr h1)]
          refine .inl (h2 t h (fun _ _ => rfl) (Le.refl _) Γ ι a w _ _ hr fun ι' u w' hv hr' => ?_)
          exact AAny_sound hdst hQ fuel _ _ h ι' _ w' (hr'.putO hv o.dst (hdst i o ho)) hk
        · rw [if_neg (by rw [wantA_ok hr h1]; simp)]
          exact AAny_sound hdst hQ fuel _ _ h ι _ w (hr.putO .und o.dst (hdst i o ho)) hk
      · obtain ⟨G, hq, hk⟩ := hs
        unfold wpOp; rw [ho]
        simp only
        rcases hq with ⟨h1, h2⟩ | ⟨h1, h2⟩
        · rw [if_pos (wantA_ok hr h1)]
          refine .inl (h2 t (fun _ _ => rfl) Γ ι a w _ _ hr fun ι' v u h' w' hv hr' hG => ?_)
          exact AAny_sound hdst hQ fuel _ _ h' ι' _ w' (hr'.putO hv o.dst (hdst i o ho)) (hk v h' hG).2
        · rw [if_neg (by rw [wantA_ok hr h1]; simp)]
          exact AAny_sound hdst hQ fuel _ _ h ι _ w (hr.putO .und o.dst (hdst i o ho)) (hk _ _ h2).2
      · obtain ⟨G, hq, hk⟩ := hs
        unfold wpOp; rw [ho]
        simp only
        rcases hq with ⟨h1, h2⟩ | ⟨h1, h2⟩
        · rw [if_pos (wantA_ok hr h1)]
          refine .inl (h2 t (fun _ _ => rfl) Γ ι a w _ _ hr fun ι' v u h' w' hv hr' hG => ?_)
          exact AAny_sound hdst hQ fuel _ _ h' ι' _ w' (hr'.putO hv o.dst (hdst i o ho)) (hk v h' hG)
        · rw [if_neg (by rw [wantA_ok hr h1]; simp)]
          exact AAny_sound hdst hQ fuel _ _ h ι _ w (hr.putO .und o.dst (hdst i o ho)) (hk _ _ h2)
      · obtain ⟨v, hq, hk⟩ := hs
        unfold wpOp; rw [ho]
        simp only
        rcases hq with ⟨h1, h2⟩ | ⟨h1, rfl⟩
        · rw [if_pos (wantA_ok hr h1)]
          refine .inl (h2 t h (fun _ _ => rfl) Γ ι a w _ _ hr fun ι' u w' hv hr' => ?_)
          exact AAny_sound hdst hQ fuel _ _ h ι' _ w' (hr'.putO hv o.dst (hdst i o ho)) hk
        · rw [if_neg (by rw [wantA_ok hr h1]; simp)]
          exact AAny_sound hdst hQ fuel _ _ h ι _ w (hr.putO .und o.dst (hdst i o ho)) hk

/-- operations not listed yet that wait, through others of their kind, for k -/
def reach (ops : Array Oper) (listed : Array Bool) (k : Nat) : Nat → Nat → Bool
  | 0, _ => false
  | f + 1, j => !listed.getD j true && (match ops[j]? with | some oj => oj.after.any (fun e => Region.binds .any e && (e.on == k || reach ops listed k f e.on)) | none => false)
theorem reach_succ {listed : Array Bool} {k : Nat} : ∀ {f j : Nat}, reach ops listed k f j = true → listed.getD j true = false ∧ ∃ oj, ops[j]? = some oj ∧ ∃ e ∈ oj.after, Region.binds .any e = true ∧ (e.on = k ∨ ∃ f', reach ops listed k f' e.on = true)
  | 0, j, h => by cases h
  | f + 1, j, h => by
    simp only [reach, Bool.and_eq_true, Bool.not_eq_true'] at h
    obtain ⟨h1, h2⟩ := h
    split at h2
    · rename_i oj ho
      obtain ⟨e, he, hb⟩ := Array.any_eq_true'.1 h2
      simp only [Bool.and_eq_true, Bool.or_eq_true, beq_iff_eq] at hb
      exact ⟨h1, oj, ho, e, he, hb.1, hb.2.imp id fun h => ⟨f, h⟩⟩
    · cases h2
theorem AAny_first {Q : (Nat → Value) → AH → Prop} {i : Nat} {oi : Oper} {v : Value} (hi : ops[i]? = some oi) (I : AH → (Nat → Value) → Prop) (pure : Prop)
    (hIc : ∀ h t t2, I h t → lookSame ops oi t t2 → I h t2) (hIl : ∀ h h' t, I h t → Le h h' → I h' t) (hIp : pure → ∀ h h' t, I h t → I h' t)
    (hIs : ∀ (K : (Nat → Value) → AH → Prop) t h, I h t → K (putA t oi.dst v) h → AStep P N ops qk i K t h)
    (D : Nat → Prop) (hD : ∀ j oj, ops[j]? = some oj → D j → ∃ e ∈ oj.after, Region.binds .any e = true ∧ (e.on = i ∨ D e.on)) :
    ∀ (fuel : Nat) (listed : Array Bool) (t : Nat → Value) (h : AH),
      (∀ j oj, ops[j]? = some oj → j ≠ i → listed.getD j true = false → (∀ e ∈ oj.after, Region.binds .any e = true → e.on ≠ i) → (qk j ≠ .l ∨ D j ∨ pure) ∧ oi.apart ops oj = true) →
      (∀ j, D j → listed.getD j true = false) →
      i ∈ Region.ready .any ops listed → I h t →
      AAny P N ops qk Q fuel (listed.setIfInBounds i true) (putA t oi.dst v) h → AAny P N ops qk Q (fuel + 1) listed t h := by
  intro fuel
  induction fuel with
  | zero =>
    intro listed t h _ _ hr hy H
    refine ⟨fun h => (by rw [h] at hr; cases hr), fun j hj => ?_⟩
    by_cases hji : j = i
    · subst hji
      exact hIs _ _ _ hy H
    · have := ready_mono hj hji
      rw [H.1] at this
      cases this
  | succ fuel ih =>
    intro listed t h hfree hDl hr hy H
    refine ⟨fun h => (by rw [h] at hr; cases hr), fun j hj => ?_⟩
    by_cases hji : j = i
    · subst hji
      exact hIs _ _ _ hy H
    · have h1 := H.2 j (ready_mono hj hji)
      obtain ⟨hjun, oj, hoj, hall⟩ := mem_ready.1 hj
      have hnot : ∀ e ∈ oj.after, Region.binds .any e = true → e.on ≠ i := fun e he hb heq => by
        have h1 := hall e he hb
        have h0 := (mem_ready.1 hr).1
        rw [heq] at h1
        rcases Nat.lt_or_ge i listed.size with h' | h'
        · simp [h'] at h0 h1; rw [h0] at h1; cases h1
        · simp [Array.getElem?_eq_none h'] at h1
      obtain ⟨hqj, hap⟩ := hfree j oj hoj hji hjun hnot
      have hnD : ¬ D j := fun hd => by
        obtain ⟨e, he, hb, h2⟩ := hD j oj hoj hd
        rcases h2 with h2 | h2
        · exact hnot e he hb h2
        · have h1 := hall e he hb
          have h0 := hDl _ h2
          rcases Nat.lt_or_ge e.on listed.size with h' | h'
          · simp [h'] at h0 h1; rw [h0] at h1; cases h1
          · simp [Array.getElem?_eq_none h'] at h1
      have hqj : qk j ≠ .l ∨ pure := by
        rcases hqj with h | h | h
        · exact .inl h
        · exact absurd h hnD
        · exact .inr h
      have hDl' : ∀ k, D k → (listed.setIfInBounds j true).getD k true = false := fun k hk => by
        rw [getD_set_ne true (fun hjk => hnD (by rw [hjk]; exact hk))]; exact hDl k hk
      obtain ⟨a1, a2, a3⟩ := Oper.apart_spec hap
      have hback : lookSame ops oj (putA t oi.dst v) t := fun s hs => (putA_look (t := t) (v := v) a1 s hs).symm
      have hfree' : ∀ k ok, ops[k]? = some ok → k ≠ i → (listed.setIfInBounds j true).getD k true = false → (∀ e ∈ ok.after, Region.binds .any e = true → e.on ≠ i) → (qk k ≠ .l ∨ D k ∨ pure) ∧ oi.apart ops ok = true := fun k ok hk hki hun hno => by
        refine hfree k ok hk hki ?_ hno
        by_cases hjk : j = k
        · subst hjk; exact hjun
        · rw [getD_set_ne true hjk] at hun; exact hun
      unfold AStep at h1 ⊢
      rw [hoj] at h1 ⊢
      simp only at h1 ⊢
      cases hqk : qk j with
      | l =>
        rw [hqk] at h1
        obtain ⟨G, hyj, hk⟩ := h1
        refine ⟨G, hyj.congr hback, fun vj h' hG => ?_⟩
        have hk := hk vj h' hG
        refine ih (listed.setIfInBounds j true) _ h' hfree' hDl' (ready_mono hr (Ne.symm hji)) (hIp (hqj.resolve_left (fun hn => hn hqk)) _ _ _ (hIc _ _ _ hy (putA_look a3))) ?_
        rw [← putA_comm t v vj a2, Array.setIfInBounds_comm _ _ hji]
        exact hk
      | p =>
        rw [hqk] at h1
        obtain ⟨vj, hyj, hk⟩ := h1
        refine ⟨vj, hyj.congr hback, ?_⟩
        refine ih (listed.setIfInBounds j true) _ h hfree' hDl' (ready_mono hr (Ne.symm hji)) (hIc _ _ _ hy (putA_look a3)) ?_
        rw [← putA_comm t v vj a2, Array.setIfInBounds_comm _ _ hji]
        exact hk
      | q =>
        rw [hqk] at h1
        obtain ⟨vj, hyj, hk⟩ := h1
        refine ⟨vj, hyj.congr hback, ?_⟩
        refine ih (listed.setIfInBounds j true) _ h hfree' hDl' (ready_mono hr (Ne.symm hji)) (hIc _ _ _ hy (putA_look a3)) ?_
        rw [← putA_comm t v vj a2, Array.setIfInBounds_comm _ _ hji]
        exact hk
      | g =>
        rw [hqk] at h1
        obtain ⟨G, hyj, hk⟩ := h1
        refine ⟨G, hyj.congr hback, fun vj h' hG => ?_⟩
        obtain ⟨hle, hk⟩ := hk vj h' hG
        refine ⟨hle, ih (listed.setIfInBounds j true) _ h' hfree' hDl' (ready_mono hr (Ne.symm hji)) (hIl _ _ _ (hIc _ _ _ hy (putA_look a3)) hle) ?_⟩
        rw [← putA_comm t v vj a2, Array.setIfInBounds_comm _ _ hji]
        exact hk

def Cl.isP : Cl → Bool
  | .p => true
  | _ => false
def Cl.isQ : Cl → Bool
  | .q => true
  | _ => false
def Cl.isL : Cl → Bool
  | .l => true
  | _ => false
/-- the check on a region, along an order: each operation may come up in its turn; a quiet one stands apart from whatever may come up beside it, and that is not loud; another one comes up alone -/
def lexD (ops : Array Oper) (qk : Nat → Cl) : List Nat → Array Bool → Bool
  | [], listed => (Region.ready .any ops listed).isEmpty
  | k :: ks, listed => (match (qk k).isP with
      | true => (Region.ready .any ops listed).contains k && Region.free .any ops listed k
      | false => match (qk k).isQ with
      | true => (Region.ready .any ops listed).contains k && Region.free .any ops listed k && (List.range ops.size).all fun j => j == k || listed.getD j true || !(qk j).isL || (match ops[j]? with | some oj => oj.after.any (fun e => Region.binds .any e && e.on == k) || reach ops listed k 24 j | none => true)
      | false => Region.ready .any ops listed == [k]) && lexD ops qk ks (listed.setIfInBounds k true)

/-- the walk along an order -/
def walkD (P : Program) (N : Nat) (ops : Array Oper) (qk : Nat → Cl) (Q : (Nat → Value) → AH → Prop) : List Nat → (Nat → Value) → AH → Prop
  | [], t, h => Q t h
  | k :: l, t, h => AStep P N ops qk k (walkD P N ops qk Q l) t h

theorem AStep_mono {j : Nat} {K K' : (Nat → Value) → AH → Prop} (hk : ∀ t h, K t h → K' t h) {t : Nat → Value} {h : AH} (hs : AStep P N ops qk j K t h) : AStep P N ops qk j K' t h := by
  unfold AStep at *
  split
  · rename_i e; rw [e] at hs; exact hk _ _ hs
  · rename_i o e
    rw [e] at hs
    simp only at hs
    split
    · rename_i q; rw [q] at hs
      obtain ⟨v, h1, h2⟩ := hs
      exact ⟨v, h1, hk _ _ h2⟩
    · rename_i q; rw [q] at hs
      obtain ⟨G, h1, h2⟩ := hs
      exact ⟨G, h1, fun v h' hG => ⟨(h2 v h' hG).1, hk _ _ (h2 v h' hG).2⟩⟩
    · rename_i q; rw [q] at hs
      obtain ⟨G, h1, h2⟩ := hs
      exact ⟨G, h1, fun v h' hG => hk _ _ (h2 v h' hG)⟩
    · rename_i q; rw [q] at hs
      obtain ⟨v, h1, h2⟩ := hs
      exact ⟨v, h1, hk _ _ h2⟩

theorem AAny_lex {Q : (Nat → Value) → AH → Prop} : ∀ (l : List Nat) (listed : Array Bool) (t : Nat → Value) (h : AH),
    lexD ops qk l listed = true → walkD P N ops qk Q l t h → AAny P N ops qk Q l.length listed t h
  | [], _, _, _, hB, hx => ⟨by simpa [lexD] using hB, hx⟩
  | k :: l, listed, t, h, hB, hx => by
    simp only [lexD, Bool.and_eq_true] at hB
    obtain ⟨hB1, hB2⟩ := hB
    have hrest : ∀ t h, walkD P N ops qk Q l t h → AAny P N ops qk Q l.length (listed.setIfInBounds k true) t h := fun t h hx => AAny_lex l _ t h hB2 hx
    simp only [walkD] at hx
    have alone : Region.ready .any ops listed = [k] → AAny P N ops qk Q (l.length + 1) listed t h := by
      intro hB1
      refine ⟨fun h => (by rw [h] at hB1; cases hB1), fun i hi => ?_⟩
      rw [hB1] at hi
      simp at hi
      subst hi
      exact AStep_mono hrest hx
    split at hB1
    · rename_i hqq
      have hq : qk k = .p := by cases hc : qk k <;> rw [hc] at hqq <;> first | rfl | cases hqq
      simp only [Bool.and_eq_true] at hB1
      obtain ⟨hr, hf⟩ := hB1
      have hr : k ∈ Region.ready .any ops listed := by simpa using hr
      obtain ⟨_, o, h0, _⟩ := mem_ready.1 hr
      unfold AStep at hx
      rw [h0, hq] at hx
      obtain ⟨v, hy, hk⟩ := hx
      exact AAny_first h0 (fun _ t => PI P N ops o v t) True (fun _ _ _ h1 h2 => h1.congr h2) (fun _ _ _ h1 _ => h1) (fun _ _ _ _ h1 => h1)
        (fun K t h h1 h2 => by unfold AStep; rw [h0, hq]; exact ⟨v, h1, h2⟩) (fun _ => False) (fun _ _ _ hd => hd.elim) l.length listed t h (fun j oj hj hne hun hno => ⟨.inr (.inr trivial), Region.free_spec h0 hf j oj hj hne hun hno⟩) (fun _ hd => hd.elim) hr hy (hrest _ _ hk)
    split at hB1
    · rename_i hqq
      have hq : qk k = .q := by cases hc : qk k <;> rw [hc] at hqq <;> first | rfl | cases hqq
      simp only [Bool.and_eq_true] at hB1
      obtain ⟨⟨hr, hf⟩, ha⟩ := hB1
      have hr : k ∈ Region.ready .any ops listed := by simpa using hr
      obtain ⟨_, o, h0, _⟩ := mem_ready.1 hr
      unfold AStep at hx
      rw [h0, hq] at hx
      obtain ⟨v, hy, hk⟩ := hx
      refine AAny_first h0 (fun h t => QI P N ops h o v t) False (fun _ _ _ h1 h2 => h1.congr h2) (fun _ _ _ h1 h2 => h1.le h2) (fun hf => hf.elim)
        (fun K t h h1 h2 => by unfold AStep; rw [h0, hq]; exact ⟨v, h1, h2⟩) (fun j => ∃ f, reach ops listed k f j = true) (fun j oj hj ⟨f, hd⟩ => ?_) l.length listed t h (fun j oj hj hne hun hno => ⟨?_, Region.free_spec h0 hf j oj hj hne hun hno⟩) (fun j ⟨f, hd⟩ => (reach_succ hd).1) hr hy (hrest _ _ hk)
      · obtain ⟨_, oj', ho, e, he, hb, h2⟩ := reach_succ hd
        rw [hj] at ho
        injection ho with ho
        subst ho
        exact ⟨e, he, hb, h2⟩
      have h1 := List.all_eq_true.1 ha j (by simpa using (Array.getElem?_eq_some_iff.1 hj).1)
      simp only [hj, Bool.or_eq_true, beq_iff_eq, hne, false_or, hun, Bool.false_eq_true] at h1
      rcases h1 with h1 | h1 | h1
      · left; intro hl; rw [hl] at h1; cases h1
      · obtain ⟨e, he, hb⟩ := Array.any_eq_true'.1 h1
        simp only [Bool.and_eq_true, beq_iff_eq] at hb
        exact absurd hb.2 (hno e he hb.1)
      · exact .inr (.inl ⟨24, h1⟩)
    · exact alone (by simpa using hB1)

theorem AWp.draw {id : Nat} {Q : APost} {t : Nat → Value} {h : AH} (hm : P.follows .mixedOrders = true) (ord : List Nat) (hlen : ord.length = ops.size) (hB : lexD ops qk ord (Array.replicate ops.size false) = true)
    (hdst : (ops.all fun o => match o.dst with | some d => Nat.blt d N | none => true) = true)
    (hx : walkD P N ops qk (fun t h => Q .normal t h) ord t h) : AWp P N (.region id ops true) Q t h := by
  intro Γ ι a w hr
  have hd : ∀ (j : Nat) o, ops[j]? = some o → ∀ d, o.dst = some d → d < N := by
    intro j o hj d hd
    have hlt := (Array.getElem?_eq_some_iff.1 hj).1
    have := (Array.all_eq_true.1 hdst) j hlt
    have he : ops[j] = o := (Array.getElem?_eq_some_iff.1 hj).2
    rw [he, hd] at this
    simpa [Nat.blt_eq] using this
  have hr' : Rel Γ ι N t h a { w with drawn := w.drawn + 1 } := { hr with hr := ⟨hr.hr.blk, hr.hr.inj, hr.hr.conc⟩, fr := hr.fr, sz := hr.sz, os := hr.os, tape := hr.tape, output := hr.output }
  refine wp_region_any hm (AAny_sound (qk := qk) hd (Q := fun t h => Q .normal t h) (fun ι t h a w hr hq => ⟨ι, t, h, hr, hq⟩) ops.size _ t h ι a _ hr' ?_)
  have := AAny_lex (P := P) (N := N) (qk := qk) (Q := fun t h => Q .normal t h) ord (Array.replicate ops.size false) t h hB hx
  rw [hlen] at this
  exact this
end

/-! ### the walk, over the code -/

def qop : Op → Bool
  | .move _ => true
  | .assign _ => true
  | .pick _ _ _ => true
  | .load _ _ => true
  | .fieldAddr _ _ _ => true
  | .indexAddr _ _ _ => true
  | .extract _ _ => true
  | .binOp _ _ _ y _ => !nilC y
  | .unOp _ _ _ => true
  | .build _ _ => true
  | .slice _ _ _ _ _ => true
  | .convert _ _ _ => true
  | .index _ _ _ => true
  | .makeFunc _ _ _ => true
  | .nilCheck _ => true
  | .lookup _ _ _ _ => true
  | .call c => match c.callee with
    | .builtin .len => true
    | _ => false
  | _ => false

/-- operations that do not look at memory -/
def isIntT (T : TypeId → Option TI) (ty : TypeId) : Bool := match T ty with
  | some i => match i.kind with
    | .int _ => true
    | _ => false
  | none => false
def pop (T : TypeId → Option TI) : Op → Bool
  | .load _ _ => false
  | .lookup _ _ _ _ => false
  | .convert _ dst _ => isIntT T dst
  | op => qop op

/-- a call that leaves the view as it is (what it lays is forgotten), with a result that is told ahead -/
structure QCall (P : Program) (f : FuncId) (args : List Value) (h : AH) (K : Value → Prop) : Prop where
  ex : ∃ r args', WkL args args' ∧ Below0 0 r ∧ (∀ h2, Le h h2 → ACalls P f args' h2 (fun v h' => Wk v r ∧ Le h2 h')) ∧ K r

def opD (P : Program) (T : TypeId → Option TI) (N : Nat) (t : Nat → Value) (h : AH) (K : Value → Prop) (op : Op) : Prop :=
  match qop op with
  | true => opX P T N t h (fun v _ => K v) op
  | false => match op with
    | .call c => match c.callee with
      | .value f => match evN N t f with
        | .func (.func g) first cap => QCall P g (first.toList ++ c.args.toList.map (evN N t) ++ cap.toList) h K
        | _ => False
      | _ => False
    | _ => False

theorem WR.det {k : IntKind} {x : Int} {f : Int → Prop} (h : WR k x f) : ∃ r, f r ∧ WR k x (fun q => q = r) := ⟨_, h.out, ⟨rfl⟩⟩

theorem binX_det {isB : Bool} {ar : Option (Nat × IntKind)} {op : BinOp} {x y : Value} {K : Value → Prop} (h : binX isB ar op x y K) : ∃ v, K v ∧ binX isB ar op x y (fun u => u = v) := by
  unfold binX at *
  split at h <;> simp only [] at *
  all_goals first
    | exact h.elim
    | (obtain ⟨hk, h2⟩ := onT_inv h; rw [hk]; first
        | exact ⟨_, h2.out, ⟨rfl⟩⟩
        | exact ⟨_, h2.out, ⟨h2.nz, rfl⟩⟩
        | exact ⟨_, h2.out.out, ⟨h2.nz, ⟨rfl⟩⟩⟩
        | exact ⟨_, h2, rfl⟩)
    | exact ⟨_, h.2, h.1, rfl⟩
    | exact ⟨_, h.out, ⟨h.le, rfl⟩⟩
    | exact ⟨_, h, rfl⟩
    | exact eqA_det h

theorem unX_det {op : UnOp} {x : Value} {K : Value → Prop} (h : unX op x K) : ∃ v, K v ∧ unX op x (fun u => u = v) := by
  unfold unX at *
  split at h
  · exact ⟨_, h, rfl⟩
  · exact ⟨_, h.out, ⟨rfl⟩⟩
  · exact h.elim

section
variable {P : Program} {T : TypeId → Option TI} {N : Nat}

theorem LookM.le {h h2 : AH} {b : Nat} {cs : List Value} {z : Value} {K : Value → Prop} (hl : Le h h2) (hx : LookM h b cs z K) : LookM h2 b cs z K := by
  obtain ⟨l, x, y, v, h1, h2, h3, h4⟩ := hx.ex
  exact ⟨⟨l, x, y, v, hl.at_ _ _ h1, h2, h3, h4⟩⟩
theorem LoadX.le {h h2 : AH} {i : TI} {b o : Nat} {K : Value → Prop} (hl : Le h h2) (hx : LoadX h i b o K) : LoadX h2 i b o K := by
  obtain ⟨blk, v, v', e1, e2, e3, hx⟩ := hx.ex
  exact ⟨⟨blk, v, v', hl.at_ _ _ e1, e2, e3, hx⟩⟩
theorem opX_det {t : Nat → Value} {h : AH} {K : Value → Prop} {op : Op} (hq : qop op = true) (hx : opX P T N t h (fun v _ => K v) op) : ∃ v, K v ∧ opX P T N t h (fun u h' => u = v ∧ h' = h) op := by
  cases op <;> simp only [qop] at hq <;> first | (cases hq; done) | skip
  case move x => exact ⟨_, hx, by first | (simp [*]; done) | exact ⟨rfl, rfl⟩⟩
  case assign x => exact ⟨_, hx, by first | (simp [*]; done) | exact ⟨rfl, rfl⟩⟩
  case pick c a b =>
    simp only [opX] at *
    split at hx
    · exact ⟨_, hx, by first | (simp [*]; done) | exact ⟨rfl, rfl⟩⟩
    · exact ⟨_, hx, by first | (simp [*]; done) | exact ⟨rfl, rfl⟩⟩
    · exact hx.elim
  case load ty x =>
    simp only [opX] at *
    split at hx
    · split at hx
      · obtain ⟨blk, v, v', e1, e2, e3, hx⟩ := hx.ex
        exact ⟨v', hx, ⟨⟨blk, v, v', e1, e2, e3, by simp⟩⟩⟩
      · exact hx.elim
    · exact hx.elim
  case lookup ty m k ok =>
    simp only [opX] at *
    split at hx
    · exact hx.elim
    · split at hx
      · split at hx
        · split at hx
          · obtain ⟨l, x, y, v, e1, e2, e3, hx⟩ := hx.ex
            exact ⟨v, hx, ⟨⟨l, x, y, v, e1, e2, e3, by simp⟩⟩⟩
          · exact hx.elim
        · exact hx.elim
      · exact hx.elim
  case fieldAddr ty x j =>
    simp only [opX] at *
    split at hx
    · split at hx
      · split at hx
        · split at hx
          · exact ⟨_, hx, by first | (simp [*]; done) | exact ⟨rfl, rfl⟩⟩
          · exact hx.elim
        · exact hx.elim
      · exact hx.elim
    · exact hx.elim
  case indexAddr ty x ix =>
    simp only [opX] at *
    split at hx
    · split at hx
      · split at hx
        · split at hx
          · split at hx
            · exact ⟨_, hx.out, ⟨hx.lo, hx.hi, by simp⟩⟩
            · exact hx.elim
          · exact hx.elim
        · exact hx.elim
      · split at hx
        · split at hx
          · split at hx
            · obtain ⟨h1, h2⟩ := onT_inv hx
              rw [h1]
              exact ⟨_, h2.out, ⟨h2.lo, h2.hi, by simp⟩⟩
            · exact hx.elim
          · exact hx.elim
        · exact hx.elim
      · exact hx.elim
    · exact hx.elim
  case extract x j =>
    simp only [opX] at *
    split at hx
    · split at hx
      · exact ⟨_, hx, by first | (simp [*]; done) | exact ⟨rfl, rfl⟩⟩
      · exact hx.elim
    · exact hx.elim
  case binOp op ty x y ty2 =>
    have hq : nilC y = false := by simpa using hq
    simp only [opX, hq] at *
    split at hx
    · obtain ⟨h1, hx⟩ := onT_inv hx
      unfold ifcV at *
      split at hx
      · split at hx
        · exact ⟨_, hx, by simp [h1, onT]⟩
        · exact ⟨_, hx, by simp [h1, onT]⟩
        · exact hx.elim
      · exact hx.elim
    obtain ⟨v, h1, h2⟩ := binX_det hx
    exact ⟨v, h1, by simpa using h2⟩
  case build ty parts =>
    simp only [opX] at *
    split at hx
    · split at hx
      · obtain ⟨h1, h2⟩ := onT_inv hx
        rw [h1]
        exact ⟨_, h2, by simp [onT]⟩
      · split at hx
        · obtain ⟨h1, h2⟩ := onT_inv hx
          exact ⟨_, h2, by simp [onT, h1]⟩
        · exact hx.elim
      · exact hx.elim
    · exact hx.elim
  case nilCheck x =>
    simp only [opX] at *
    split at hx
    · exact ⟨_, hx, by first | (simp [*]; done) | exact ⟨rfl, rfl⟩⟩
    · exact hx.elim
  case slice ty x lo hi mx =>
    simp only [opX] at *
    split at hx
    · exact hx.elim
    · split at hx
      · split at hx
        · split at hx
          · split at hx
            · split at hx
              · split at hx
                · exact ⟨_, hx.out, ⟨hx.lo, hx.mid, hx.hi, by simp⟩⟩
                · exact hx.elim
              · exact hx.elim
            · split at hx
              · split at hx
                · exact ⟨_, hx.out, ⟨hx.lo, hx.mid, hx.hi, by simp⟩⟩
                · exact hx.elim
              · exact hx.elim
            · exact hx.elim
          · exact hx.elim
        · split at hx
          · split at hx
            · split at hx
              · exact ⟨_, hx.out, ⟨hx.lo, hx.mid, hx.hi, by simp⟩⟩
              · exact hx.elim
            · exact hx.elim
          · exact hx.elim
        · exact hx.elim
      · exact hx.elim
  case convert src dst x =>
    simp only [opX] at *
    split at hx
    · split at hx
      · split at hx
        · split at hx
          · split at hx
            · exact ⟨_, hx.out, ⟨by simp⟩⟩
            · exact hx.elim
          · exact hx.elim
        · exact hx.elim
      · split at hx
        · split at hx
          · split at hx
            · split at hx
              · split at hx
                · obtain ⟨blk, bs, e1, e2, e3, hx⟩ := hx.ex
                  exact ⟨_, hx, ⟨⟨blk, bs, e1, e2, e3, by simp⟩⟩⟩
                · exact hx.elim
              · exact hx.elim
            · exact hx.elim
          · exact hx.elim
        · exact hx.elim
      · exact hx.elim
    · exact hx.elim
  case index ty x ix =>
    simp only [opX] at *
    split at hx
    · split at hx
      · split at hx
        · split at hx
          · split at hx
            · obtain ⟨v, e1, e2⟩ := hx.out.ex
              exact ⟨v, e2, ⟨hx.lo, hx.hi, ⟨v, e1, by simp⟩⟩⟩
            · exact hx.elim
          · exact hx.elim
        · exact hx.elim
      · split at hx
        · split at hx
          · exact ⟨_, hx.out, ⟨hx.lo, hx.hi, by simp⟩⟩
          · exact hx.elim
        · exact hx.elim
      · exact hx.elim
    · exact hx.elim
  case unOp op ty x =>
    simp only [opX] at *
    obtain ⟨v, h1, h2⟩ := unX_det hx
    exact ⟨v, h1, by simpa using h2⟩
  case makeFunc fn a b => exact ⟨_, hx, by first | (simp [*]; done) | exact ⟨rfl, rfl⟩⟩
  case call c =>
    simp only [opX] at *
    split at hq
    · rename_i hc
      rw [hc] at hx
      simp only at hx
      simp only [hc]
      split at hx
      · split at hx
        · split at hx
          · split at hx
            · split at hx
              · exact ⟨_, hx, by first | (simp [*]; done) | exact ⟨rfl, rfl⟩⟩
              · exact hx.elim
            · split at hx
              · exact ⟨_, hx, by first | (simp [*]; done) | exact ⟨rfl, rfl⟩⟩
              · exact hx.elim
            · exact hx.elim
          · exact hx.elim
        · exact hx.elim
      · exact hx.elim
    · cases hq

theorem opX_le {t : Nat → Value} {h h2 : AH} {v : Value} {op : Op} (hq : qop op = true) (hl : Le h h2) (hx : opX P T N t h (fun u h' => u = v ∧ h' = h) op) : opX P T N t h2 (fun u h' => u = v ∧ h' = h2) op := by
  cases op <;> simp only [qop] at hq <;> first | (cases hq; done) | skip
  case load ty x =>
    simp only [opX] at *
    split at hx
    · split at hx
      · have := hx.le hl
        obtain ⟨blk, v, v', e1, e2, e3, hx⟩ := this.ex
        exact ⟨⟨blk, v, v', e1, e2, e3, by simpa using hx⟩⟩
      · exact hx.elim
    · exact hx.elim
  case lookup ty m k ok =>
    simp only [opX] at *
    split at hx
    · exact hx.elim
    · split at hx
      · split at hx
        · split at hx
          · have := hx.le hl
            obtain ⟨l, x, y, v, e1, e2, e3, hx⟩ := this.ex
            exact ⟨⟨l, x, y, v, e1, e2, e3, by simpa using hx⟩⟩
          · exact hx.elim
        · exact hx.elim
      · exact hx.elim
  case call c =>
    simp only [opX] at *
    split at hq
    · rename_i hc
      rw [hc] at hx
      simp only at hx
      simp only [hc]
      simpa using hx
    · cases hq
  case convert src dst x =>
    simp only [opX] at *
    split at hx
    · split at hx
      · split at hx
        · split at hx
          · split at hx
            · exact ⟨by simpa using hx.out⟩
            · exact hx.elim
          · exact hx.elim
        · exact hx.elim
      · split at hx
        · split at hx
          · split at hx
            · split at hx
              · split at hx
                · obtain ⟨blk, bs, e1, e2, e3, hx⟩ := hx.ex
                  exact ⟨⟨blk, bs, hl.at_ _ _ e1, e2, e3, by simpa using hx⟩⟩
                · exact hx.elim
              · exact hx.elim
            · exact hx.elim
          · exact hx.elim
        · exact hx.elim
      · exact hx.elim
    · exact hx.elim
  all_goals (simp only [opX] at *; simpa using hx)

theorem pop_q {op : Op} (h : pop T op = true) : qop op = true := by cases op <;> first | rfl | exact h | (simp [pop] at h)
theorem opX_any {t : Nat → Value} {h h2 : AH} {v : Value} {op : Op} (hq : pop T op = true) (hx : opX P T N t h (fun u h' => u = v ∧ h' = h) op) : opX P T N t h2 (fun u h' => u = v ∧ h' = h2) op := by
  cases op <;> simp only [pop, qop] at hq <;> first | (cases hq; done) | skip
  case call c =>
    simp only [opX] at *
    split at hq
    · rename_i hc
      rw [hc] at hx
      simp only at hx
      simp only [hc]
      simpa using hx
    · cases hq
  case convert src dst x =>
    unfold isIntT at hq
    simp only [opX] at *
    split at hx
    · rename_i i hi
      rw [hi] at hq
      simp only at hq
      split at hx
      · split at hx
        · split at hx
          · split at hx
            · exact ⟨by simpa using hx.out⟩
            · exact hx.elim
          · exact hx.elim
        · exact hx.elim
      · rename_i hk
        rw [hk] at hq
        cases hq
      · exact hx.elim
    · exact hx.elim
  all_goals (simp only [opX] at *; simpa using hx)
theorem opX_congr {t t2 : Nat → Value} {h : AH} {K : Value → AH → Prop} {op : Op} (hq : qop op = true) (he : ∀ x ∈ op.operands.toList, evN N t2 x = evN N t x) : opX P T N t2 h K op = opX P T N t h K op := by
  cases op <;> simp only [qop] at hq <;> first | (cases hq; done) | skip
  case move x => simp only [opX]; rw [he x (by simp [Op.operands])]
  case assign x => simp only [opX]; rw [he x (by simp [Op.operands])]
  case pick c a b => simp only [opX]; rw [he c (by simp [Op.operands]), he a (by simp [Op.operands]), he b (by simp [Op.operands])]
  case load ty x => simp only [opX]; rw [he x (by simp [Op.operands])]
  case nilCheck x => simp only [opX]; rw [he x (by simp [Op.operands])]
  case lookup ty m k ok => simp only [opX]; rw [he m (by simp [Op.operands]), he k (by simp [Op.operands])]
  case fieldAddr ty x j => simp only [opX]; rw [he x (by simp [Op.operands])]
  case indexAddr ty x ix => simp only [opX]; rw [he x (by simp [Op.operands]), he ix (by simp [Op.operands])]
  case extract x j => simp only [opX]; rw [he x (by simp [Op.operands])]
  case binOp op ty x y ty2 =>
    have hq : nilC y = false := by simpa using hq
    simp only [opX, hq]; rw [he x (by simp [Op.operands]), he y (by simp [Op.operands])]
  case build ty parts =>
    have hp : ∀ p ∈ parts.toList, evN N t2 p.2 = evN N t p.2 := fun p hp => he p.2 (by simp [Op.operands]; exact ⟨p.1, by simpa using hp⟩)
    simp only [opX]
    have hall : ∀ (offs : List Nat) (n : Nat), (parts.toList.all fun p => Nat.blt p.1 offs.length && Nat.beq (vcells (evN N t2 p.2)).length (gap offs n p.1) && (vcells (evN N t2 p.2)).all one1 && Nat.ble (offs.getD p.1 0 + gap offs n p.1) n) = (parts.toList.all fun p => Nat.blt p.1 offs.length && Nat.beq (vcells (evN N t p.2)).length (gap offs n p.1) && (vcells (evN N t p.2)).all one1 && Nat.ble (offs.getD p.1 0 + gap offs n p.1) n) := by
      intro offs n
      rw [Bool.eq_iff_iff, List.all_eq_true, List.all_eq_true]
      exact ⟨fun h p hpm => by rw [← hp p hpm]; exact h p hpm, fun h p hpm => by rw [hp p hpm]; exact h p hpm⟩
    have hmap : ∀ (offs : List Nat), (parts.toList.map fun p => (offs.getD p.1 0, vcells (evN N t2 p.2))) = (parts.toList.map fun p => (offs.getD p.1 0, vcells (evN N t p.2))) := fun s => List.map_congr_left fun p hpm => by rw [hp p hpm]
    have hall2 : ∀ (s m : Nat), (parts.toList.all fun p => Nat.beq (vcells (evN N t2 p.2)).length s && (vcells (evN N t2 p.2)).all one1 && Nat.ble (mulE p.1 s + s) m) = (parts.toList.all fun p => Nat.beq (vcells (evN N t p.2)).length s && (vcells (evN N t p.2)).all one1 && Nat.ble (mulE p.1 s + s) m) := by
      intro s m
      rw [Bool.eq_iff_iff, List.all_eq_true, List.all_eq_true]
      exact ⟨fun h p hpm => by rw [← hp p hpm]; exact h p hpm, fun h p hpm => by rw [hp p hpm]; exact h p hpm⟩
    have hmap2 : ∀ (s : Nat), (parts.toList.map fun p => (mulE p.1 s, vcells (evN N t2 p.2))) = (parts.toList.map fun p => (mulE p.1 s, vcells (evN N t p.2))) := fun s => List.map_congr_left fun p hpm => by rw [hp p hpm]
    simp only [hall, hmap, hall2, hmap2]
  case slice ty x lo hi mx =>
    have h1 : evN N t2 x = evN N t x := he x (by simp [Op.operands])
    have h2 : ∀ d, bndV N t2 d lo = bndV N t d lo := by
      intro d
      cases lo with
      | none => rfl
      | some y => simp only [bndV]; rw [he y (by simp [Op.operands])]
    have h3 : ∀ d, bndV N t2 d hi = bndV N t d hi := by
      intro d
      cases hi with
      | none => rfl
      | some y => simp only [bndV]; rw [he y (by simp [Op.operands])]
    simp only [opX, h1, h2, h3]
  case convert src dst x => simp only [opX]; rw [he x (by simp [Op.operands])]
  case index ty x ix => simp only [opX]; rw [he x (by simp [Op.operands]), he ix (by simp [Op.operands])]
  case unOp op ty x => simp only [opX]; rw [he x (by simp [Op.operands])]
  case makeFunc fn a b =>
    simp only [opX]
    rw [List.map_congr_left (fun x hx => he x (by simp [Op.operands]; exact .inl (by simpa using hx))), List.map_congr_left (fun x hx => he x (by simp [Op.operands]; exact .inr (by simpa using hx)))]
  case call c =>
    simp only [opX]
    split at hq
    · rename_i hc
      simp only [hc]
      split
      · rename_i x hargs
        have : evN N t2 x = evN N t x := he x (by
          simp only [Op.operands, Call.operands, hc]
          simp [hargs])
        rw [this]
      · rfl
    · cases hq

theorem VR.down {ι : Nat → Io} {m n : Nat} {v u : Value} (h1 : VR idIo n v v) (h : VR ι m v u) : VR ι n v u := by
  induction h with
  | any u => exact .any u
  | bool b => exact .bool b
  | int k x => exact .int k x
  | string s => exact .string s
  | nilFunc => exact .nilFunc
  | nilIface => exact .nilIface
  | err t v h => exact .err t v h
  | errA => exact .errA
  | glbC b c k u hb q1 q2 q3 q4 => exact .glbC b c k u (by cases h1 <;> assumption) q1 q2 q3 q4
  | glbA b c k hb q1 q2 => exact .glbA b c k (by cases h1 <;> assumption) q1 q2
  | ptrN => exact .ptrN
  | ptr b o hb => exact .ptr b o h1.ptr_lt
  | slN => exact .slN
  | slZ a A c => exact .slZ a A c
  | slD k c A => exact .slD k c A
  | mapN => exact .mapN
  | map b hb => exact .map b (by cases h1 <;> assumption)
  | slW b o k c hb ha =>
    obtain ⟨_, _, _, hA⟩ := h1.sl_inv
    rcases Nat.eq_zero_or_pos k with h0 | h0
    · subst h0; exact .slZ _ _ _
    · exact .slW b o k c (hA h0).2.1 ha
  | slS b k hb ha =>
    exact .slS b k h1.slS_inv.2.1 ha
  | fn f xs ys zs ws e1 _ e2 _ i1 i2 =>
    cases h1 with
    | fn _ _ _ _ _ _ p1 _ p2 => exact .fn f xs ys zs ws e1 (fun i hi => i1 i hi (p1 i hi)) e2 (fun i hi => i2 i hi (p2 i hi))
  | agg xs ys e1 _ i1 =>
    cases h1 with
    | agg _ _ _ p1 => exact .agg xs ys e1 fun i hi => i1 i hi (p1 i hi)
  | tuple xs ys e1 _ i1 =>
    cases h1 with
    | tuple _ _ _ p1 => exact .tuple xs ys e1 fun i hi => i1 i hi (p1 i hi)

theorem VR.lower {ι : Nat → Io} {m n : Nat} {r u : Value} (hr : Below0 0 r) (h : VR ι m r u) : VR ι n r u := VR.down (VR.idn hr (Nat.zero_le _)) h

/-- what a call has laid is forgotten -/
theorem CRel.forget {ι ι' : Nat → Io} {h h' : AH} {w w' : World} (hw : WfH h) (hc : CRel ι h w ι' h' w') (hsub : ∀ i b, look h i = some b → look h' i = some b) : CRel ι h w ι' h w' := by
  refine ⟨⟨fun i b hl => ?_, fun i j bi bj hi hj ho hne => hc.hr.inj i j bi bj (hsub _ _ hi) (hsub _ _ hj) ho hne, hc.hr.conc⟩, hc.agree, Nat.le_refl _, hc.fr, fun i b hl ho => hc.ow i b (hsub _ _ hl) ho, hc.sz, hc.os, hc.tape, hc.output⟩
  rcases hc.hr.blk i b (hsub i b hl) with hm | ⟨g0, cs, e, fr, g1, g2, g3⟩
  · exact .inl hm
  refine .inr ⟨g0, cs, e, fr, g1, fun k v hk => ?_, g3⟩
  obtain ⟨u, a1, a2⟩ := g2 k v hk
  exact ⟨u, a1, VR.down (hw.wf i b hl v (List.mem_of_getElem? hk)) a2⟩

theorem opD_ok (hT : Tab P T) {ops : Array Oper} {t : Nat → Value} {h : AH} {K : Value → Prop} {o : Oper} (hx : opD P T N t h K o.op) : ∃ v, K v ∧ SQ P N ops h o v t := by
  have hev : ∀ t2, lookSame ops o t t2 → ∀ x ∈ o.op.operands.toList, evN N t2 x = evN N t x := by
    intro t2 hl x hxm
    cases x with
    | tmp s =>
      simp only [evN]
      rw [hl s (by
        unfold Oper.looksAt
        refine List.mem_append_left _ ?_
        rw [List.mem_filterMap]
        exact ⟨_, hxm, rfl⟩)]
    | _ => rfl
  unfold opD at hx
  split at hx
  · rename_i hq
    obtain ⟨v, hk, hx⟩ := opX_det hq hx
    refine ⟨v, hk, fun t2 h2 hl hle Γ ι a w K' Q' hr hn => ?_⟩
    replace hx := opX_le hq hle hx
    rw [← opX_congr hq (hev t2 hl)] at hx
    refine opX_ok hT hr hx ?_
    rintro ι' v' u h' w' hv hr' ⟨rfl, rfl⟩
    exact hn ι' u w' hv hr'
  · split at hx
    · rename_i c hop
      split at hx
      · rename_i f hcal
        split at hx
        · rename_i g first cap hf
          obtain ⟨r, args', h1, h2, h3, hk⟩ := hx.ex
          refine ⟨r, hk, fun t2 h2' hl hle Γ ι a w K' Q' hr hn => ?_⟩
          replace h3 := h3 h2' hle
          have he := hev t2 hl
          rw [hop] at he
          have hf2 : evN N t2 f = .func (.func g) first cap := by rw [he f (by simp [Op.operands, Call.operands, hcal]), hf]
          have hargs : c.args.toList.map (evN N t2) = c.args.toList.map (evN N t) := List.map_congr_left fun x hxm => he x (by simp [Op.operands, Call.operands, hcal]; exact .inr (by simpa using hxm))
          have hfull : ACalls P g (first.toList ++ c.args.toList.map (evN N t2) ++ cap.toList) h2' (fun v h' => v = r ∧ h' = h2') := by
            rw [hargs]
            refine ⟨h3.enters, fun ι w cargs hr hs ha => ((h3.wk h1).calls ι w cargs hr hs ha).mono ?_⟩
            rintro e w' ⟨v, u, h', ι', rfl, ⟨q1, q2⟩, hv, hcr⟩
            exact ⟨r, u, h2', ι', rfl, ⟨rfl, rfl⟩, (q1 _ _ _ hv).lower h2, hcr.forget hr.wf q2.at_⟩
          refine op_call (K := fun v h' => v = r ∧ h' = h2') hr hop hcal hf2 hfull ?_
          rintro ι' v u h' w' hv hr' ⟨rfl, rfl⟩
          exact hn ι' u w' hv hr'
        · exact hx.elim
      · exact hx.elim
    · exact hx.elim

/-- an operation that lays blocks looks at its operands alone -/
theorem opX_congrG {t t2 : Nat → Value} {h : AH} {K : Value → AH → Prop} {op : Op} (hg : (match op with | .alloc _ | .box _ _ | .buildSlice _ _ _ | .makeSlice _ _ _ | .call _ | .store _ _ _ | .makeMap _ _ | .mapUpdate _ _ _ _ => true | _ => false) = true) (he : ∀ x ∈ op.operands.toList, evN N t2 x = evN N t x) : opX P T N t2 h K op = opX P T N t h K op := by
  cases op <;> simp only at hg <;> first | (cases hg; done) | skip
  case alloc ty => rfl
  case makeMap ty r => rfl
  case mapUpdate ty m k v => simp only [opX]; rw [he m (by simp [Op.operands]), he k (by simp [Op.operands]), he v (by simp [Op.operands])]
  case store ty x v => simp only [opX]; rw [he x (by simp [Op.operands]), he v (by simp [Op.operands])]
  case box ty x => simp only [opX]; rw [he x (by simp [Op.operands])]
  case makeSlice ty l c => simp only [opX]; rw [he l (by simp [Op.operands]), he c (by simp [Op.operands])]
  case buildSlice ty len parts =>
    have hp : ∀ p ∈ parts.toList, evN N t2 p.2 = evN N t p.2 := fun p hp => he p.2 (by simp [Op.operands]; exact ⟨p.1, by simpa using hp⟩)
    simp only [opX]
    have hall : ∀ (s len : Nat), (parts.toList.all fun p => Nat.beq (vcells (evN N t2 p.2)).length s && (vcells (evN N t2 p.2)).all one1 && Nat.blt p.1 len) = (parts.toList.all fun p => Nat.beq (vcells (evN N t p.2)).length s && (vcells (evN N t p.2)).all one1 && Nat.blt p.1 len) := by
      intro s len
      rw [Bool.eq_iff_iff, List.all_eq_true, List.all_eq_true]
      exact ⟨fun h p hpm => by rw [← hp p hpm]; exact h p hpm, fun h p hpm => by rw [hp p hpm]; exact h p hpm⟩
    have hmap : ∀ (s : Nat), (parts.toList.map fun p => (mulE p.1 s, vcells (evN N t2 p.2))) = (parts.toList.map fun p => (mulE p.1 s, vcells (evN N t p.2))) := fun s => List.map_congr_left fun p hpm => by rw [hp p hpm]
    simp only [hall, hmap]
  case call c =>
    simp only [opX]
    have ha : ∀ x ∈ c.args.toList, evN N t2 x = evN N t x := fun x hx => he x (by simp [Op.operands, Call.operands]; exact .inr (by simpa using hx))
    have hm : c.args.toList.map (evN N t2) = c.args.toList.map (evN N t) := List.map_congr_left ha
    split
    · rename_i f hcal
      rw [he f (by simp [Op.operands, Call.operands, hcal]), hm]
    · split
      · rename_i x hargs
        rw [ha x (by rw [hargs]; simp)]
      · rfl
    · split
      · rename_i s x hargs
        rw [ha s (by rw [hargs]; simp), ha x (by rw [hargs]; simp)]
      · rfl
    · split
      · rename_i x hargs
        rw [ha x (by rw [hargs]; simp)]
      · rfl
    · split
      · rename_i x y hargs
        rw [ha x (by rw [hargs]; simp), ha y (by rw [hargs]; simp)]
      · rfl
    · split
      · rename_i x y hargs
        rw [ha x (by rw [hargs]; simp), ha y (by rw [hargs]; simp)]
      · rfl
    · split
      · rename_i x y hargs
        rw [ha x (by rw [hargs]; simp), ha y (by rw [hargs]; simp)]
      · rfl
    · rfl

def gop : Op → Bool
  | .alloc _ => true
  | .box _ _ => true
  | .buildSlice _ _ _ => true
  | .makeSlice _ _ _ => true
  | .makeMap _ _ => true
  | .call _ => true
  | _ => false

def lop : Op → Bool
  | .store _ _ _ => true
  | .mapUpdate _ _ _ _ => true
  | op => gop op
/-- the walk of a region that draws, along an order -/
def stepD (P : Program) (T : TypeId → Option TI) (N : Nat) (all : List Oper) (qk : Nat → Cl) (i : Nat) (t : Nat → Value) (h : AH) (next : (Nat → Value) → AH → Prop) : Prop :=
    match all[i]? with
    | none => False
    | some o => match wantA N all.toArray o t with
      | some true => match qk i with
        | .q => opD P T N t h (fun v => brX (isTgt all i) v fun v => strictV v fun v => next (putA t o.dst v) h) o.op
        | .g => onT (gop o.op) (opX P T N t h (fun v h' => Le h h' ∧ strictV v fun v => next (putA t o.dst v) h') o.op)
        | .l => onT (lop o.op) (opX P T N t h (fun v h' => strictV v fun v => next (putA t o.dst v) h') o.op)
        | .p => onT (pop T o.op) (opX P T N t h (fun v _ => brX (isTgt all i) v fun v => strictV v fun v => next (putA t o.dst v) h) o.op)
      | some false => next (putA t o.dst (.tuple #[])) h
      | none => False
def opsD (P : Program) (T : TypeId → Option TI) (N : Nat) (all : List Oper) (qk : Nat → Cl) : List Nat → (Nat → Value) → AH → ((Nat → Value) → AH → Prop) → Prop
  | [], t, h, K => K t h
  | i :: rest, t, h, K => stepD P T N all qk i t h fun t h => opsD P T N all qk rest t h K

theorem opsD_ok (hT : Tab P T) {qk : Nat → Cl} {Q : (Nat → Value) → AH → Prop} (all : List Oper) (hdst : (all.toArray.all fun o => match o.dst with | some d => Nat.blt d N | none => true) = true) : ∀ (l : List Nat) (t : Nat → Value) (h : AH),
    opsD P T N all qk l t h Q → walkD P N all.toArray qk Q l t h
  | [], _, _, hx => hx
  | i :: rest, t, h, hx => by
    simp only [opsD, stepD] at hx
    split at hx
    · exact hx.elim
    · rename_i o h0'
      have h0 : all.toArray[i]? = some o := by simpa using h0'
      have hrest : ∀ t h, opsD P T N all qk rest t h Q → walkD P N all.toArray qk Q rest t h := fun t h hx => opsD_ok hT all hdst rest t h hx
      simp only [walkD, AStep]
      rw [h0]
      simp only
      have hd : ∀ d, o.dst = some d → d < N := by
        intro d hd
        have hlt := (Array.getElem?_eq_some_iff.1 h0).1
        have := (Array.all_eq_true.1 hdst) i hlt
        have he : all.toArray[i] = o := (Array.getElem?_eq_some_iff.1 h0).2
        rw [he, hd] at this
        simpa [Nat.blt_eq] using this
      split at hx
      · rename_i hwa
        cases hq : qk i with
        | q =>
          rw [hq] at hx
          simp only at hx ⊢
          obtain ⟨v, hk, hs⟩ := opD_ok hT (ops := all.toArray) hx
          have fin : ∀ v, SQ P N all.toArray h o v t → strictV v (fun v => opsD P T N all qk rest (putA t o.dst v) h Q) → ∃ v, QI P N all.toArray h o v t ∧ walkD P N all.toArray qk Q rest (putA t o.dst v) h := by
            intro v hs hk
            rw [strictV_eq] at hk
            exact ⟨v, .inl ⟨hwa, hs⟩, hrest _ _ hk⟩
          unfold brX at hk
          split at hk
          · exact fin v hs hk
          · split at hk
            · rename_i c
              cases c with
              | true => exact fin _ hs (hk.t rfl)
              | false => exact fin _ hs (hk.f rfl)
            · exact hk.elim
        | g =>
          rw [hq] at hx
          simp only at hx ⊢
          obtain ⟨hg, hx⟩ := onT_inv hx
          refine ⟨fun v h' => Le h h' ∧ walkD P N all.toArray qk Q rest (putA t o.dst v) h', .inl ⟨hwa, fun t2 hl Γ ι a w K' Q' hr hn => ?_⟩, fun v h' hG => hG⟩
          have hev : ∀ x ∈ o.op.operands.toList, evN N t2 x = evN N t x := by
            intro x hxm
            cases x with
            | tmp s =>
              simp only [evN]
              rw [hl s (by
                unfold Oper.looksAt
                refine List.mem_append_left _ ?_
                rw [List.mem_filterMap]
                exact ⟨_, hxm, rfl⟩)]
            | _ => rfl
          rw [← opX_congrG (by cases hop : o.op <;> rw [hop] at hg <;> first | rfl | simp [gop] at hg) hev] at hx
          refine opX_ok hT hr hx ?_
          rintro ι' v u h' w' hv hr' ⟨hle, hk⟩
          rw [strictV_eq] at hk
          exact hn ι' v u h' w' hv hr' ⟨hle, hrest _ _ hk⟩
        | l =>
          rw [hq] at hx
          simp only at hx ⊢
          obtain ⟨hg, hx⟩ := onT_inv hx
          have hev : ∀ t2, lookSame all.toArray o t t2 → ∀ x ∈ o.op.operands.toList, evN N t2 x = evN N t x := by
            intro t2 hl x hxm
            cases x with
            | tmp s =>
              simp only [evN]
              rw [hl s (by
                unfold Oper.looksAt
                refine List.mem_append_left _ ?_
                rw [List.mem_filterMap]
                exact ⟨_, hxm, rfl⟩)]
            | _ => rfl
          refine ⟨fun v h' => walkD P N all.toArray qk Q rest (putA t o.dst v) h', .inl ⟨hwa, fun t2 hl Γ ι a w K' Q' hr hn => ?_⟩, fun v h' hG => hG⟩
          rw [← opX_congrG (by cases hop : o.op <;> rw [hop] at hg <;> first | rfl | simp [lop, gop] at hg) (hev t2 hl)] at hx
          refine opX_ok hT hr hx ?_
          intro ι' v u h' w' hv hr' hk
          rw [strictV_eq] at hk
          exact hn ι' v u h' w' hv hr' (hrest _ _ hk)
        | p =>
          rw [hq] at hx
          simp only at hx ⊢
          obtain ⟨hg, hx⟩ := onT_inv hx
          have hgq : qop o.op = true := pop_q hg
          have hev : ∀ t2, lookSame all.toArray o t t2 → ∀ x ∈ o.op.operands.toList, evN N t2 x = evN N t x := by
            intro t2 hl x hxm
            cases x with
            | tmp s =>
              simp only [evN]
              rw [hl s (by
                unfold Oper.looksAt
                refine List.mem_append_left _ ?_
                rw [List.mem_filterMap]
                exact ⟨_, hxm, rfl⟩)]
            | _ => rfl
          obtain ⟨v, hk, hx⟩ := opX_det hgq hx
          have hs : SP P N all.toArray o v t := fun t2 h2 hl Γ ι a w K' Q' hr hn => by
            have hx := opX_any (h2 := h2) hg hx
            rw [← opX_congr hgq (hev t2 hl)] at hx
            refine opX_ok hT hr hx ?_
            rintro ι' v' u h' w' hv hr' ⟨rfl, rfl⟩
            exact hn ι' u w' hv hr'
          have fin : ∀ v, SP P N all.toArray o v t → strictV v (fun v => opsD P T N all qk rest (putA t o.dst v) h Q) → ∃ v, PI P N all.toArray o v t ∧ walkD P N all.toArray qk Q rest (putA t o.dst v) h := by
            intro v hs hk
            rw [strictV_eq] at hk
            exact ⟨v, .inl ⟨hwa, hs⟩, hrest _ _ hk⟩
          unfold brX at hk
          split at hk
          · exact fin v hs hk
          · split at hk
            · rename_i c
              cases c with
              | true => exact fin _ hs (hk.t rfl)
              | false => exact fin _ hs (hk.f rfl)
            · exact hk.elim
      · rename_i hwa
        cases hq : qk i with
        | q =>
          simp only
          exact ⟨_, .inr ⟨hwa, rfl⟩, hrest _ _ hx⟩
        | g =>
          simp only
          exact ⟨fun v h' => v = .tuple #[] ∧ h' = h, .inr ⟨hwa, rfl, rfl⟩, by rintro v h' ⟨rfl, rfl⟩; exact ⟨Le.refl _, hrest _ _ hx⟩⟩
        | l =>
          simp only
          exact ⟨fun v h' => v = .tuple #[] ∧ h' = h, .inr ⟨hwa, rfl, rfl⟩, by rintro v h' ⟨rfl, rfl⟩; exact hrest _ _ hx⟩
        | p =>
          simp only
          exact ⟨_, .inr ⟨hwa, rfl⟩, hrest _ _ hx⟩
      · exact hx.elim

/-- a region that draws, met in a walk: gs: the places of what lays blocks; ls: of what writes; ord: the order of the walk -/
def clOf (T : TypeId → Option TI) (ops : List Oper) (gs ls : List Nat) (i : Nat) : Cl :=
  match ls.any (Nat.beq i) with
  | true => .l
  | false => match gs.any (Nat.beq i) with
    | true => .g
    | false => match ops[i]? with
      | some o => match pop T o.op with
        | true => .p
        | false => .q
      | none => .q
theorem DrawX.of (hT : Tab P T) (hm : P.follows .mixedOrders = true) (gs ls ord : List Nat) {id : Nat} {ops : Array Oper} {Q : APost} {t : Nat → Value} {h : AH} (hlen : ord.length = ops.size) (hB : lexD ops (clOf T ops.toList gs ls) ord (Array.replicate ops.size false) = true)
    (hdst : (ops.all fun o => match o.dst with | some d => Nat.blt d N | none => true) = true)
    (hx : opsD P T N ops.toList (clOf T ops.toList gs ls) ord t h fun t h => Q .normal t h) : DrawX P N id ops Q t h := by
  refine ⟨AWp.draw (qk := clOf T ops.toList gs ls) hm ord hlen hB hdst ?_⟩
  have := opsD_ok (Q := fun t h => Q .normal t h) hT (qk := clOf T ops.toList gs ls) ops.toList (by simpa using hdst) ord t h hx
  simpa using this
end
end Go.Gl

/- The plain view of memory: statements whose order Go leaves open, where several operations that lay blocks may come first: a tree of orders, and a cut behind it. No condition. -/
import Derived.Test.YtionapmdibdfpaaGlI
set_option linter.unusedVariables false
namespace Go.Gl

inductive OTree where
  | nil
  | op (k : Nat) (next : OTree)
  | alt (a b : OTree)
def OTree.heads : OTree → List Nat
  | .nil => []
  | .op k _ => [k]
  | .alt a b => a.heads ++ b.heads
section
variable {P : Program} {T : TypeId → Option TI} {N : Nat} {ops : Array Oper} {qk : Nat → Cl}
/-- the check on a region, along a tree of orders -/
def lexT (ops : Array Oper) (qk : Nat → Cl) : OTree → Nat → Bool → Array Bool → Bool
  | .nil, f, _, listed => Nat.beq f 0 && (Region.ready .any ops listed).isEmpty
  | .op k next, f, inA, listed => (match f with
    | 0 => false
    | f + 1 => (match inA with
      | true => true
      | false => match (qk k).isP with
        | true => (Region.ready .any ops listed).contains k && Region.free .any ops listed k
        | false => match (qk k).isQ with
        | true => (Region.ready .any ops listed).contains k && Region.free .any ops listed k && (List.range ops.size).all fun j => j == k || listed.getD j true || !(qk j).isL || (match ops[j]? with | some oj => oj.after.any (fun e => Region.binds .any e && e.on == k) || reach ops listed k 24 j | none => true)
        | false => Region.ready .any ops listed == [k]) && lexT ops qk next f false (listed.setIfInBounds k true))
  | .alt a b, f, inA, listed => (match inA with
    | true => true
    | false => Region.ready .any ops listed == (OTree.alt a b).heads && !(OTree.alt a b).heads.isEmpty) && lexT ops qk a f true listed && lexT ops qk b f true listed
def walkT (P : Program) (N : Nat) (ops : Array Oper) (qk : Nat → Cl) (Q : (Nat → Value) → AH → Prop) : OTree → (Nat → Value) → AH → Prop
  | .nil, t, h => Q t h
  | .op k next, t, h => AStep P N ops qk k (walkT P N ops qk Q next) t h
  | .alt a b, t, h => walkT P N ops qk Q a t h ∧ walkT P N ops qk Q b t h
theorem AAny_tree {Q : (Nat → Value) → AH → Prop} : ∀ (D : OTree) (f : Nat) (listed : Array Bool) (t : Nat → Value) (h : AH), walkT P N ops qk Q D t h →
    (lexT ops qk D f false listed = true → AAny P N ops qk Q f listed t h) ∧ (lexT ops qk D f true listed = true → ∀ i ∈ D.heads, ∃ f', f = f' + 1 ∧ AStep P N ops qk i (AAny P N ops qk Q f' (listed.setIfInBounds i true)) t h)
  | .nil, f, listed, t, h, hx => by
    refine ⟨fun hB => ?_, fun _ i hi => by cases hi⟩
    simp only [lexT, Bool.and_eq_true] at hB
    have h0 : f = 0 := Nat.eq_of_beq_eq_true hB.1
    subst h0
    exact ⟨by simpa using hB.2, hx⟩
  | .alt a b, f, listed, t, h, hx => by
    have ia := AAny_tree a f listed t h hx.1
    have ib := AAny_tree b f listed t h hx.2
    refine ⟨fun hB => ?_, fun hB i hi => ?_⟩
    · simp only [lexT, Bool.and_eq_true] at hB
      obtain ⟨⟨⟨h1, h0⟩, h2⟩, h3⟩ := hB
      have h1 : Region.ready .any ops listed = (OTree.alt a b).heads := by simpa using h1
      have hne : (OTree.alt a b).heads ≠ [] := by simpa using h0
      have key : ∀ i ∈ (OTree.alt a b).heads, ∃ f', f = f' + 1 ∧ AStep P N ops qk i (AAny P N ops qk Q f' (listed.setIfInBounds i true)) t h := fun i hi => by
        rcases List.mem_append.1 hi with hi | hi
        · exact ia.2 h2 i hi
        · exact ib.2 h3 i hi
      cases f with
      | zero =>
        cases hh : (OTree.alt a b).heads with
        | nil => exact absurd hh hne
        | cons i l =>
          obtain ⟨f', e, _⟩ := key i (by rw [hh]; simp)
          omega
      | succ f =>
        refine ⟨fun h0 => absurd (h1 ▸ h0) hne, fun i hi => ?_⟩
        rw [h1] at hi
        obtain ⟨f', e, hs⟩ := key i hi
        have : f' = f := by omega
        subst this
        exact hs
    · simp only [lexT, Bool.and_eq_true] at hB
      rcases List.mem_append.1 hi with hi | hi
      · exact ia.2 hB.1.2 i hi
      · exact ib.2 hB.2 i hi
  | .op k next, 0, listed, t, h, hx => by
    refine ⟨fun hB => ?_, fun hB i hi => ?_⟩
    · simp [lexT] at hB
    · simp [lexT] at hB
  | .op k next, f + 1, listed, t, h, hx => by
    have hrest : lexT ops qk next f false (listed.setIfInBounds k true) = true → ∀ t h, walkT P N ops qk Q next t h → AAny P N ops qk Q f (listed.setIfInBounds k true) t h := fun hB t h hx => (AAny_tree next f _ t h hx).1 hB
    simp only [walkT] at hx
    refine And.symm ⟨fun hB i hi => ?_, fun hB => ?_⟩
    · simp only [lexT, Bool.and_eq_true] at hB
      have hi : i = k := by simpa [OTree.heads] using hi
      subst hi
      exact ⟨f, rfl, AStep_mono (hrest hB.2) hx⟩
    simp only [lexT, Bool.and_eq_true] at hB
    obtain ⟨hB1, hB2⟩ := hB
    have hrest := hrest hB2
    have alone : Region.ready .any ops listed = [k] → AAny P N ops qk Q (f + 1) listed t h := by
      intro hB1
      refine ⟨fun h => (by rw [h] at hB1; cases hB1), fun i hi => ?_⟩
      rw [hB1] at hi
      simp at hi
      subst hi
      exact AStep_mono hrest hx
    split at hB1
    · rename_i hqq
      have hq : qk k = .p := by cases hc : qk k <;> rw [hc] at hqq <;> first | rfl | cases hqq
      simp only [Bool.and_eq_true] at hB1
      obtain ⟨hr, hf⟩ := hB1
      have hr : k ∈ Region.ready .any ops listed := by simpa using hr
      obtain ⟨_, o, h0, _⟩ := mem_ready.1 hr
      unfold AStep at hx
      rw [h0, hq] at hx
      obtain ⟨v, hy, hk⟩ := hx
      exact AAny_first h0 (fun _ t => PI P N ops o v t) True (fun _ _ _ h1 h2 => h1.congr h2) (fun _ _ _ h1 _ => h1) (fun _ _ _ _ h1 => h1)
        (fun K t h h1 h2 => by unfold AStep; rw [h0, hq]; exact ⟨v, h1, h2⟩) (fun _ => False) (fun _ _ _ hd => hd.elim) f listed t h (fun j oj hj hne hun hno => ⟨.inr (.inr trivial), Region.free_spec h0 hf j oj hj hne hun hno⟩) (fun _ hd => hd.elim) hr hy (hrest _ _ hk)
    split at hB1
    · rename_i hqq
      have hq : qk k = .q := by cases hc : qk k <;> rw [hc] at hqq <;> first | rfl | cases hqq
      simp only [Bool.and_eq_true] at hB1
      obtain ⟨⟨hr, hf⟩, ha⟩ := hB1
      have hr : k ∈ Region.ready .any ops listed := by simpa using hr
      obtain ⟨_, o, h0, _⟩ := mem_ready.1 hr
      unfold AStep at hx
      rw [h0, hq] at hx
      obtain ⟨v, hy, hk⟩ := hx
      refine AAny_first h0 (fun h t => QI P N ops h o v t) False (fun _ _ _ h1 h2 => h1.congr h2) (fun _ _ _ h1 h2 => h1.le h2) (fun hf => hf.elim)
        (fun K t h h1 h2 => by unfold AStep; rw [h0, hq]; exact ⟨v, h1, h2⟩) (fun j => ∃ f, reach ops listed k f j = true) (fun j oj hj ⟨f, hd⟩ => ?_) f listed t h (fun j oj hj hne hun hno => ⟨?_, Region.free_spec h0 hf j oj hj hne hun hno⟩) (fun j ⟨f, hd⟩ => (reach_succ hd).1) hr hy (hrest _ _ hk)
      · obtain ⟨_, oj', ho, e, he, hb, h2⟩ := reach_succ hd
        rw [hj] at ho
        injection ho with ho
        subst ho
        exact ⟨e, he, hb, h2⟩
      have h1 := List.all_eq_true.1 ha j (by simpa using (Array.getElem?_eq_some_iff.1 hj).1)
      simp only [hj, Bool.or_eq_true, beq_iff_eq, hne, false_or, hun, Bool.false_eq_true] at h1
      rcases h1 with h1 | h1 | h1
      · left; intro hl; rw [hl] at h1; cases h1
      · obtain ⟨e, he, hb⟩ := Array.any_eq_true'.1 h1
        simp only [Bool.and_eq_true, beq_iff_eq] at hb
        exact absurd hb.2 (hno e he hb.1)
      · exact .inr (.inl ⟨24, h1⟩)
    · exact alone (by simpa using hB1)

/-- the walk of a region, along a tree of orders -/
def opsT (P : Program) (T : TypeId → Option TI) (N : Nat) (all : List Oper) (qk : Nat → Cl) : OTree → (Nat → Value) → AH → ((Nat → Value) → AH → Prop) → Prop
  | .nil, t, h, K => K t h
  | .op i next, t, h, K => stepD P T N all qk i t h fun t h => opsT P T N all qk next t h K
  | .alt a b, t, h, K => opsT P T N all qk a t h K ∧ opsT P T N all qk b t h K
theorem stepD_ok {P : Program} {T : TypeId → Option TI} {N : Nat} (hT : Tab P T) {qk : Nat → Cl} (all : List Oper) (hdst : (all.toArray.all fun o => match o.dst with | some d => Nat.blt d N | none => true) = true) {i : Nat} {t : Nat → Value} {h : AH} {next W : (Nat → Value) → AH → Prop}
    (hx : stepD P T N all qk i t h next) (hrest : ∀ t h, next t h → W t h) : AStep P N all.toArray qk i W t h := by
    simp only [stepD] at hx
    split at hx
    · exact hx.elim
    · rename_i o h0'
      have h0 : all.toArray[i]? = some o := by simpa using h0'
      simp only [AStep]
      rw [h0]
      simp only
      have hd : ∀ d, o.dst = some d → d < N := by
        intro d hd
        have hlt := (Array.getElem?_eq_some_iff.1 h0).1
        have := (Array.all_eq_true.1 hdst) i hlt
        have he : all.toArray[i] = o := (Array.getElem?_eq_some_iff.1 h0).2
        rw [he, hd] at this
        simpa [Nat.blt_eq] using this
      split at hx
      · rename_i hwa
        cases hq : qk i with
        | q =>
          rw [hq] at hx
          simp only at hx ⊢
          obtain ⟨v, hk, hs⟩ := opD_ok hT (ops := all.toArray) hx
          have fin : ∀ v, SQ P N all.toArray h o v t → strictV v (fun v => next (putA t o.dst v) h) → ∃ v, QI P N all.toArray h o v t ∧ W (putA t o.dst v) h := by
            intro v hs hk
            rw [strictV_eq] at hk
            exact ⟨v, .inl ⟨hwa, hs⟩, hrest _ _ hk⟩
          unfold brX at hk
          split at hk
          · exact fin v hs hk
          · split at hk
            · rename_i c
              cases c with
              | true => exact fin _ hs (hk.t rfl)
              | false => exact fin _ hs (hk.f rfl)
            · exact hk.elim
        | g =>
          rw [hq] at hx
          simp only at hx ⊢
          obtain ⟨hg, hx⟩ := onT_inv hx
          refine ⟨fun v h' => Le h h' ∧ W (putA t o.dst v) h', .inl ⟨hwa, fun t2 hl Γ ι a w K' Q' hr hn => ?_⟩, fun v h' hG => hG⟩
          have hev : ∀ x ∈ o.op.operands.toList, evN N t2 x = evN N t x := by
            intro x hxm
            cases x with
            | tmp s =>
              simp only [evN]
              rw [hl s (by
                unfold Oper.looksAt
                refine List.mem_append_left _ ?_
                rw [List.mem_filterMap]
                exact ⟨_, hxm, rfl⟩)]
            | _ => rfl
          rw [← opX_congrG (by cases hop : o.op <;> rw [hop] at hg <;> first | rfl | simp [gop] at hg) hev] at hx
          refine opX_ok hT hr hx ?_
          rintro ι' v u h' w' hv hr' ⟨hle, hk⟩
          rw [strictV_eq] at hk
          exact hn ι' v u h' w' hv hr' ⟨hle, hrest _ _ hk⟩
        | l =>
          rw [hq] at hx
          simp only at hx ⊢
          obtain ⟨hg, hx⟩ := onT_inv hx
          have hev : ∀ t2, lookSame all.toArray o t t2 → ∀ x ∈ o.op.operands.toList, evN N t2 x = evN N t x := by
            intro t2 hl x hxm
            cases x with
            | tmp s =>
              simp only [evN]
              rw [hl s (by
                unfold Oper.looksAt
                refine List.mem_append_left _ ?_
                rw [List.mem_filterMap]
                exact ⟨_, hxm, rfl⟩)]
            | _ => rfl
          refine ⟨fun v h' => W (putA t o.dst v) h', .inl ⟨hwa, fun t2 hl Γ ι a w K' Q' hr hn => ?_⟩, fun v h' hG => hG⟩
          rw [← opX_congrG (by cases hop : o.op <;> rw [hop] at hg <;> first | rfl | simp [lop, gop] at hg) (hev t2 hl)] at hx
          refine opX_ok hT hr hx ?_
          intro ι' v u h' w' hv hr' hk
          rw [strictV_eq] at hk
          exact hn ι' v u h' w' hv hr' (hrest _ _ hk)
        | p =>
          rw [hq] at hx
          simp only at hx ⊢
          obtain ⟨hg, hx⟩ := onT_inv hx
          have hgq : qop o.op = true := pop_q hg
          have hev : ∀ t2, lookSame all.toArray o t t2 → ∀ x ∈ o.op.operands.toList, evN N t2 x = evN N t x := by
            intro t2 hl x hxm
            cases x with
            | tmp s =>
              simp only [evN]
              rw [hl s (by
                unfold Oper.looksAt
                refine List.mem_append_left _ ?_
                rw [List.mem_filterMap]
                exact ⟨_, hxm, rfl⟩)]
            | _ => rfl
          obtain ⟨v, hk, hx⟩ := opX_det hgq hx
          have hs : SP P N all.toArray o v t := fun t2 h2 hl Γ ι a w K' Q' hr hn => by
            have hx := opX_any (h2 := h2) hg hx
            rw [← opX_congr hgq (hev t2 hl)] at hx
            refine opX_ok hT hr hx ?_
            rintro ι' v' u h' w' hv hr' ⟨rfl, rfl⟩
            exact hn ι' u w' hv hr'
          have fin : ∀ v, SP P N all.toArray o v t → strictV v (fun v => next (putA t o.dst v) h) → ∃ v, PI P N all.toArray o v t ∧ W (putA t o.dst v) h := by
            intro v hs hk
            rw [strictV_eq] at hk
            exact ⟨v, .inl ⟨hwa, hs⟩, hrest _ _ hk⟩
          unfold brX at hk
          split at hk
          · exact fin v hs hk
          · split at hk
            · rename_i c
              cases c with
              | true => exact fin _ hs (hk.t rfl)
              | false => exact fin _ hs (hk.f rfl)
            · exact hk.elim
      · rename_i hwa
        cases hq : qk i with
        | q =>
          simp only
          exact ⟨_, .inr ⟨hwa, rfl⟩, hrest _ _ hx⟩
        | g =>
          simp only
          exact ⟨fun v h' => v = .tuple #[] ∧ h' = h, .inr ⟨hwa, rfl, rfl⟩, by rintro v h' ⟨rfl, rfl⟩; exact ⟨Le.refl _, hrest _ _ hx⟩⟩
        | l =>
          simp only
          exact ⟨fun v h' => v = .tuple #[] ∧ h' = h, .inr ⟨hwa, rfl, rfl⟩, by rintro v h' ⟨rfl, rfl⟩; exact hrest _ _ hx⟩
        | p =>
          simp only
          exact ⟨_, .inr ⟨hwa, rfl⟩, hrest _ _ hx⟩
      · exact hx.elim

theorem opsT_ok (hT : Tab P T) {qk : Nat → Cl} {Q : (Nat → Value) → AH → Prop} (all : List Oper) (hdst : (all.toArray.all fun o => match o.dst with | some d => Nat.blt d N | none => true) = true) : ∀ (D : OTree) (t : Nat → Value) (h : AH),
    opsT P T N all qk D t h Q → walkT P N all.toArray qk Q D t h
  | .nil, _, _, hx => hx
  | .alt a b, t, h, hx => ⟨opsT_ok hT all hdst a t h hx.1, opsT_ok hT all hdst b t h hx.2⟩
  | .op i next, t, h, hx => stepD_ok hT all hdst hx fun t h hx => opsT_ok hT all hdst next t h hx
theorem AWp.drawT {id : Nat} {Q : APost} {t : Nat → Value} {h : AH} (hm : P.follows .mixedOrders = true) (D : OTree) (hB : lexT ops qk D ops.size false (Array.replicate ops.size false) = true)
    (hdst : (ops.all fun o => match o.dst with | some d => Nat.blt d N | none => true) = true)
    (hx : walkT P N ops qk (fun t h => Q .normal t h) D t h) : AWp P N (.region id ops true) Q t h := by
  intro Γ ι a w hr
  have hd : ∀ (j : Nat) o, ops[j]? = some o → ∀ d, o.dst = some d → d < N := by
    intro j o hj d hd
    have hlt := (Array.getElem?_eq_some_iff.1 hj).1
    have := (Array.all_eq_true.1 hdst) j hlt
    have he : ops[j] = o := (Array.getElem?_eq_some_iff.1 hj).2
    rw [he, hd] at this
    simpa [Nat.blt_eq] using this
  have hr' : Rel Γ ι N t h a { w with drawn := w.drawn + 1 } := { hr with hr := ⟨hr.hr.blk, hr.hr.inj, hr.hr.conc⟩, fr := hr.fr, sz := hr.sz, os := hr.os, tape := hr.tape, output := hr.output }
  exact wp_region_any hm (AAny_sound (qk := qk) hd (Q := fun t h => Q .normal t h) (fun ι t h a w hr hq => ⟨ι, t, h, hr, hq⟩) ops.size _ t h ι a _ hr' ((AAny_tree (P := P) (N := N) (qk := qk) (Q := fun t h => Q .normal t h) D ops.size (Array.replicate ops.size false) t h hx).1 hB))
/-- a region that draws: ks: the slots that are needed behind it; I: what holds there -/
theorem DrawX.tree (hT : Tab P T) (hm : P.follows .mixedOrders = true) (gs ls : List Nat) (D : OTree) (ks : List Nat) (I : List Value → AH → Prop) {id : Nat} {ops : Array Oper} {Q : APost} {t : Nat → Value} {h : AH}
    (hB : lexT ops (clOf T ops.toList gs ls) D ops.size false (Array.replicate ops.size false) = true)
    (hdst : (ops.all fun o => match o.dst with | some d => Nat.blt d N | none => true) = true)
    (hx : opsT P T N ops.toList (clOf T ops.toList gs ls) D t h fun t h => I (getT t ks) h) (hk : ∀ vs h, I vs h → Q .normal (mkT ks vs) h) : DrawX P N id ops Q t h := by
  refine ⟨?_⟩
  have hw : AWp P N (.region id ops true) (fun e t h => match e with | .normal => I (getT t ks) h | _ => False) t h := by
    refine AWp.drawT (qk := clOf T ops.toList gs ls) hm D hB hdst ?_
    have := opsT_ok (Q := fun t h => I (getT t ks) h) hT (qk := clOf T ops.toList gs ls) ops.toList (by simpa using hdst) D t h hx
    simpa using this
  intro Γ ι a w hr
  refine wp_mono (hw Γ ι a w hr) ?_
  intro e a w hp
  cases e with
  | normal => obtain ⟨ι, t, h, hr, hq⟩ := hp; exact ⟨ι, _, h, hr.forget (mkT_getT t ks), hk _ _ hq⟩
  | panic c => exact hp
  | outgrown => exact hp
  | exit id => obtain ⟨_, _, _, _, hq⟩ := hp; exact hq.elim
  | goto l => obtain ⟨_, _, _, _, hq⟩ := hp; exact hq.elim
  | ret => obtain ⟨_, _, _, _, hq⟩ := hp; exact hq.elim
end
end Go.Gl

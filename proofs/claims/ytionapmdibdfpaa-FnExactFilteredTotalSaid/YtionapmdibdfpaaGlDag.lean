/- The plain view of memory: a region whose order is drawn, told by what holds for the SET of operations that were done. No condition. -/
import Derived.Test.YtionapmdibdfpaaGlR
set_option linter.unusedVariables false
set_option linter.unusedSimpArgs false
namespace Go.Gl
section
variable {P : Program} {T : TypeId → Option TI} {N : Nat} {ops : Array Oper} {qk : Nat → Cl}
def open1 (listed : Array Bool) (n : Nat) : List Nat := (List.range n).filter fun j => !listed.getD j true
theorem open1_set {listed : Array Bool} {n k : Nat} (hk : k < n) (hl : listed.getD k true = false) : (open1 (listed.setIfInBounds k true) n).length < (open1 listed n).length := by
  have hkl : k < listed.size := by
    by_cases h : k < listed.size
    · exact h
    · simp [Array.getD_eq_getD_getElem?, h] at hl
  have hsub : ∀ j, j ∈ open1 (listed.setIfInBounds k true) n ↔ j ∈ open1 listed n ∧ j ≠ k := by
    intro j
    unfold open1
    rw [List.mem_filter, List.mem_filter]
    by_cases hj : j = k
    · subst hj; simp [Array.getD_eq_getD_getElem?, hkl]
    · simp [Array.getD_eq_getD_getElem?, Array.getElem?_setIfInBounds, Ne.symm hj, hj]
  have hkm : k ∈ open1 listed n := by unfold open1; rw [List.mem_filter]; exact ⟨List.mem_range.2 hk, by simp [hl]⟩
  have h1 : open1 (listed.setIfInBounds k true) n = (open1 listed n).filter (fun j => !(j == k)) := by
    unfold open1
    rw [List.filter_filter]
    refine List.filter_congr fun j hj => ?_
    by_cases hjk : j = k
    · subst hjk; simp [Array.getD_eq_getD_getElem?, hkl]
    · simp [Array.getD_eq_getD_getElem?, Array.getElem?_setIfInBounds, Ne.symm hjk, hjk]
  rw [h1]
  exact List.length_filter_lt_length_iff_exists.2 ⟨k, hkm, by simp⟩
theorem AAny_inv {Q : (Nat → Value) → AH → Prop} (Inv : Array Bool → (Nat → Value) → AH → Prop)
    (he : ∀ listed t h, Inv listed t h → Region.ready .any ops listed = [] → Q t h)
    (hs : ∀ listed t h k, Inv listed t h → k ∈ Region.ready .any ops listed → AStep P N ops qk k (Inv (listed.setIfInBounds k true)) t h) :
    ∀ (f : Nat) (listed : Array Bool) (t : Nat → Value) (h : AH), (open1 listed ops.size).length ≤ f → Inv listed t h → AAny P N ops qk Q f listed t h
  | 0, listed, t, h, hf, hi => by
    have h0 : Region.ready .any ops listed = [] := by
      cases hr : Region.ready .any ops listed with
      | nil => rfl
      | cons k l =>
        obtain ⟨h1, o, h2, _⟩ := mem_ready.1 (show k ∈ Region.ready .any ops listed by rw [hr]; simp)
        have hk := (Array.getElem?_eq_some_iff.1 h2).1
        have : k ∈ open1 listed ops.size := by unfold open1; rw [List.mem_filter]; exact ⟨List.mem_range.2 hk, by simp [h1]⟩
        have := List.length_pos_of_mem this
        omega
    exact ⟨h0, he _ _ _ hi h0⟩
  | f + 1, listed, t, h, hf, hi => by
    refine ⟨fun h0 => he _ _ _ hi h0, fun k hk => AStep_mono (fun t' h' hi' => ?_) (hs _ _ _ _ hi hk)⟩
    obtain ⟨h1, o, h2, _⟩ := mem_ready.1 hk
    have hkn := (Array.getElem?_eq_some_iff.1 h2).1
    exact AAny_inv Inv he hs f _ t' h' (by have := open1_set hkn h1; omega) hi'
/-- the waits of a region go to what stands ahead -/
def aheadB (ops : Array Oper) : Bool := (List.range ops.size).all fun k => match ops[k]? with
  | some o => o.after.all fun e => Nat.blt e.on k
  | none => false
/-- these waits are among those of the region -/
def waitsB (ops : Array Oper) (W : List (List Nat)) : Bool := (List.range ops.size).all fun k => match ops[k]? with
  | some o => (W.getD k []).all fun d => o.after.any fun e => Region.binds .any e && Nat.beq e.on d
  | none => false
theorem ready_all (ha : aheadB ops = true) {listed : Array Bool} (hsz : listed.size = ops.size) (h0 : Region.ready .any ops listed = []) : ∀ k, k < ops.size → listed.getD k false = true := by
  intro k
  induction k using Nat.strongRecOn with
  | _ k ih =>
    intro hk
    cases hl : listed.getD k false with
    | true => rfl
    | false =>
      exfalso
      have hkl : k < listed.size := by omega
      have h1 : listed.getD k true = false := by
        rw [Array.getD_eq_getD_getElem?, Array.getElem?_eq_getElem hkl] at hl ⊢
        simpa using hl
      have hm : k ∈ Region.ready .any ops listed := mem_ready.2 ⟨h1, ops[k], Array.getElem?_eq_getElem hk, fun e he _ => by
        have := List.all_eq_true.1 ha k (List.mem_range.2 hk)
        rw [Array.getElem?_eq_getElem hk] at this
        simp only [Array.all_eq_true'] at this
        have hlt := this e he
        have hlt : e.on < k := by simpa [Nat.blt_eq] using hlt
        exact ih _ hlt (by omega)⟩
      rw [h0] at hm; cases hm
/-- a region that draws: L: what was done; W: what an operation waits for (as much as is needed) -/
theorem DrawX.dag (hT : Tab P T) (hm : P.follows .mixedOrders = true) (gs ls : List Nat) (W : List (List Nat)) (ks : List Nat) (Inv : (Nat → Bool) → (Nat → Value) → AH → Prop) (I : List Value → AH → Prop) {id : Nat} {ops : Array Oper} {Q : APost} {t : Nat → Value} {h : AH}
    (ha : aheadB ops = true) (hW : waitsB ops W = true)
    (hdst : (ops.all fun o => match o.dst with | some d => Nat.blt d N | none => true) = true)
    (h0 : Inv (fun _ => false) t h)
    (hs : ∀ L t h k, k < ops.size → L k = false → (∀ d ∈ W.getD k [], L d = true) → Inv L t h → opsD P T N ops.toList (clOf T ops.toList gs ls) [k] t h (Inv fun i => Nat.beq i k || L i))
    (he : ∀ L t h, (∀ k, k < ops.size → L k = true) → Inv L t h → I (getT t ks) h)
    (hL : ∀ L L' t h, (∀ k, k < ops.size → L k = L' k) → Inv L t h → Inv L' t h)
    (hk : ∀ vs h, I vs h → Q .normal (mkT ks vs) h) : DrawX P N id ops Q t h := by
  refine ⟨?_⟩
  have hw : AWp P N (.region id ops true) (fun e t h => match e with | .normal => I (getT t ks) h | _ => False) t h := by
    intro Γ ι a w hr
    have hd : ∀ (j : Nat) o, ops[j]? = some o → ∀ d, o.dst = some d → d < N := by
      intro j o hj d hd
      have hlt := (Array.getElem?_eq_some_iff.1 hj).1
      have := (Array.all_eq_true.1 hdst) j hlt
      have he : ops[j] = o := (Array.getElem?_eq_some_iff.1 hj).2
      rw [he, hd] at this
      simpa [Nat.blt_eq] using this
    have hr' : Rel Γ ι N t h a { w with drawn := w.drawn + 1 } := { hr with hr := ⟨hr.hr.blk, hr.hr.inj, hr.hr.conc⟩, fr := hr.fr, sz := hr.sz, os := hr.os, tape := hr.tape, output := hr.output }
    refine wp_region_any hm (AAny_sound (qk := clOf T ops.toList gs ls) hd (Q := fun t h => I (getT t ks) h) (fun ι t h a w hr hq => ⟨ι, t, h, hr, hq⟩) ops.size _ t h ι a _ hr' ?_)
    refine AAny_inv (fun listed t h => listed.size = ops.size ∧ Inv (fun k => listed.getD k false) t h) (fun listed t h hi hr => ?_) (fun listed t h k hi hr => ?_) ops.size _ t h (Nat.le_trans (List.length_filter_le ..) (by simp)) ⟨by simp, hL _ _ _ _ (fun k hk => by simp [Array.getD_eq_getD_getElem?, hk]) h0⟩
    · exact he _ _ _ (ready_all ha hi.1 hr) hi.2
    · obtain ⟨h1, o, h2, h3⟩ := mem_ready.1 hr
      have hkn := (Array.getElem?_eq_some_iff.1 h2).1
      have hkl : k < listed.size := by rw [hi.1]; exact hkn
      have hstep := hs (fun k => listed.getD k false) t h k hkn (by
        rw [Array.getD_eq_getD_getElem?, Array.getElem?_eq_getElem hkl] at h1 ⊢
        simpa using h1) (fun d hd => by
        have := List.all_eq_true.1 hW k (List.mem_range.2 hkn)
        rw [h2] at this
        simp only at this
        have := List.all_eq_true.1 this d hd
        rw [Array.any_eq_true'] at this
        obtain ⟨e, he1, he2⟩ := this
        simp only [Bool.and_eq_true] at he2
        have h4 := h3 e he1 he2.1
        rw [Nat.eq_of_beq_eq_true he2.2] at h4
        exact h4) hi.2
      have := opsD_ok (Q := Inv fun i => Nat.beq i k || listed.getD i false) hT (qk := clOf T ops.toList gs ls) ops.toList (by rw [Array.toArray_toList]; exact hdst) [k] t h hstep
      simp only [walkD] at this
      refine AStep_mono (fun t' h' hi' => ⟨by simpa using hi.1, hL _ _ _ _ (fun i hik => ?_) hi'⟩) this
      by_cases e : i = k
      · subst e; simp [Array.getD_eq_getD_getElem?, hkl]
      · have e2 : Nat.beq i k = false := by rw [← Bool.not_eq_true]; exact fun h => e (Nat.eq_of_beq_eq_true h)
        simp [Array.getD_eq_getD_getElem?, Array.getElem?_setIfInBounds, Ne.symm e, e2]
  intro Γ ι a w hr
  refine wp_mono (hw Γ ι a w hr) ?_
  intro e a w hp
  cases e with
  | normal => obtain ⟨ι, t, h, hr, hq⟩ := hp; exact ⟨ι, _, h, hr.forget (mkT_getT t ks), hk _ _ hq⟩
  | panic c => exact hp
  | outgrown => exact hp
  | exit id => obtain ⟨_, _, _, _, hq⟩ := hp; exact hq.elim
  | goto l => obtain ⟨_, _, _, _, hq⟩ := hp; exact hq.elim
  | ret => obtain ⟨_, _, _, _, hq⟩ := hp; exact hq.elim
end
end Go.Gl

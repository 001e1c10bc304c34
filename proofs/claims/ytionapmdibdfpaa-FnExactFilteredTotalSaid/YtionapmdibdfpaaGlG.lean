/- The plain view of memory: regions, code, functions. No condition. -/
import Derived.Test.YtionapmdibdfpaaGlF
set_option linter.unusedVariables false
set_option linter.unusedSimpArgs false
namespace Go.Gl

/-- a value, looked at first -/
def strictV (v : Value) (K : Value → Prop) : Prop :=
  match v with
  | .bool b => K (.bool b)
  | .int k n => K (.int k n)
  | .float k n => K (.float k n)
  | .complex k a b => K (.complex k a b)
  | .string s => K (.string s)
  | .pointer a => K (.pointer a)
  | .slice a n c => K (.slice a n c)
  | .map r => K (.map r)
  | .chan r => K (.chan r)
  | .func f a b => K (.func f a b)
  | .nilFunc => K .nilFunc
  | .iface t v => K (.iface t v)
  | .nilIface => K .nilIface
  | .agg cs => K (.agg cs)
  | .tuple vs => K (.tuple vs)
theorem strictV_eq (v : Value) (K : Value → Prop) : strictV v K = K v := by cases v <;> rfl

def putX (N : Nat) (dst : Option Nat) (t : Nat → Value) (v : Value) (K : (Nat → Value) → Prop) : Prop :=
  match dst with
  | none => K t
  | some d => onT (Nat.blt d N) (strictV v fun v => K (upd t d v))

/-- is operation i asked by a guard -/
def isTgt (ops : List Oper) (i : Nat) : Bool := ops.any fun o => match o.guard with | some (j, _) => Nat.beq j i | none => false

def brX (b : Bool) (v : Value) (K : Value → Prop) : Prop :=
  match b with
  | false => K v
  | true => match v with
    | .bool c => BIf c (K (.bool true)) (K (.bool false))
    | _ => False

/-- the operations of a region, in the order of the text; 'all': the region's own -/
def stepX (P : Program) (T : TypeId → Option TI) (N : Nat) (all : List Oper) (i : Nat) (o : Oper) (t : Nat → Value) (h : AH) (next : Nat → (Nat → Value) → AH → Prop) : Prop :=
    match o.guard with
    | none => opX P T N t h (fun v h' => brX (isTgt all i) v fun v => putX N o.dst t v fun t' => next (i + 1) t' h') o.op
    | some (j, b) => match (all[j]?).bind (·.dst) with
      | none => False
      | some d => onT (Nat.blt d N) (match t d with
        | .bool c => match c, b with
          | true, true => opX P T N t h (fun v h' => brX (isTgt all i) v fun v => putX N o.dst t v fun t' => next (i + 1) t' h') o.op
          | false, false => opX P T N t h (fun v h' => brX (isTgt all i) v fun v => putX N o.dst t v fun t' => next (i + 1) t' h') o.op
          | _, _ => putX N o.dst t (.tuple #[]) fun t' => next (i + 1) t' h
        | _ => False)
def opsX (P : Program) (T : TypeId → Option TI) (N : Nat) (all : List Oper) : Nat → List Oper → (Nat → Value) → AH → ((Nat → Value) → AH → Prop) → Prop
  | _, [], t, h, K => K t h
  | i, o :: rest, t, h, K => stepX P T N all i o t h fun i t h => opsX P T N all i rest t h K

/-- the slots of operations that were not asked -/
def memN : List Nat → Nat → Bool
  | [], _ => false
  | x :: xs, d => match Nat.beq x d with
    | true => true
    | false => memN xs d
def delN : List Nat → Nat → List Nat
  | [], _ => []
  | x :: xs, d => match Nat.beq x d with
    | true => delN xs d
    | false => x :: delN xs d
def skO (sk : List Nat) (dst : Option Nat) (skip : Bool) : List Nat :=
  match dst with
  | none => sk
  | some d => match skip with
    | true => d :: sk
    | false => delN sk d
theorem memN_delN {x d : Nat} : ∀ {sk : List Nat}, memN (delN sk x) d = true → memN sk d = true ∧ d ≠ x
  | [], h => by cases h
  | y :: sk, h => by
    simp only [delN] at h
    split at h
    · rename_i e
      obtain ⟨h1, h2⟩ := memN_delN h
      refine ⟨?_, h2⟩
      simp only [memN]
      split
      · rfl
      · exact h1
    · rename_i e
      simp only [memN] at h ⊢
      split at h
      · rename_i e2
        refine ⟨rfl, fun hh => ?_⟩
        have := Nat.eq_of_beq_eq_true e2
        subst hh; subst this
        rw [Nat.beq_refl] at e; cases e
      · exact memN_delN h
/-- the same, where an asking operation may itself not be asked -/
def stepY (P : Program) (T : TypeId → Option TI) (N : Nat) (all : List Oper) (i : Nat) (sk : List Nat) (o : Oper) (t : Nat → Value) (h : AH) (next : Nat → List Nat → (Nat → Value) → AH → Prop) : Prop :=
    match o.guard with
    | none => opX P T N t h (fun v h' => brX (isTgt all i) v fun v => putX N o.dst t v fun t' => next (i + 1) (skO sk o.dst false) t' h') o.op
    | some (j, b) => match (all[j]?).bind (·.dst) with
      | none => False
      | some d => onT (Nat.blt d N) (match memN sk d with
        | true => putX N o.dst t (.tuple #[]) fun t' => next (i + 1) (skO sk o.dst true) t' h
        | false => match t d with
          | .bool c => match c, b with
            | true, true => opX P T N t h (fun v h' => brX (isTgt all i) v fun v => putX N o.dst t v fun t' => next (i + 1) (skO sk o.dst false) t' h') o.op
            | false, false => opX P T N t h (fun v h' => brX (isTgt all i) v fun v => putX N o.dst t v fun t' => next (i + 1) (skO sk o.dst false) t' h') o.op
            | _, _ => putX N o.dst t (.tuple #[]) fun t' => next (i + 1) (skO sk o.dst true) t' h
          | _ => False)
def opsY (P : Program) (T : TypeId → Option TI) (N : Nat) (all : List Oper) : Nat → List Nat → List Oper → (Nat → Value) → AH → ((Nat → Value) → AH → Prop) → Prop
  | _, _, [], t, h, K => K t h
  | i, sk, o :: rest, t, h, K => stepY P T N all i sk o t h fun i sk t h => opsY P T N all i sk rest t h K
/-- what lies in them -/
def Unasked (sk : List Nat) (a : Act) : Prop := ∀ d, memN sk d = true → a.tmps.getD d undef = undef
theorem Unasked.put {sk : List Nat} {a : Act} (h : Unasked sk a) (dst : Option Nat) (u : Value) : Unasked (skO sk dst false) (a.put dst u) := by
  cases dst with
  | none => exact h
  | some x =>
    intro d hd
    obtain ⟨h1, h2⟩ := memN_delN hd
    have := h d h1
    simp only [Act.put]
    simpa [Array.getD_eq_getD_getElem?, Array.getElem?_setIfInBounds, Ne.symm h2] using this
theorem Unasked.skip {sk : List Nat} {a : Act} (h : Unasked sk a) (dst : Option Nat) : Unasked (skO sk dst true) (a.put dst undef) := by
  cases dst with
  | none => exact h
  | some x =>
    intro d hd
    simp only [Act.put]
    by_cases e : d = x
    · subst e
      rw [Array.getD_eq_getD_getElem?, Array.getElem?_setIfInBounds]
      simp only [if_true]
      split <;> rfl
    · have hd' : memN sk d = true := by
        simp only [skO, memN] at hd
        split at hd
        · rename_i e2; exact absurd (Nat.eq_of_beq_eq_true e2).symm e
        · exact hd
      have := h d hd'
      simpa [Array.getD_eq_getD_getElem?, Array.getElem?_setIfInBounds, Ne.symm e] using this

/-- does an operation ask one that may itself not be asked -/
def nestG (ops : List Oper) : Bool := ops.any fun o => match o.guard with | some (j, _) => (match ops[j]? with | some q => q.guard.isSome | none => true) | none => false
section
variable {P : Program} {T : TypeId → Option TI} {N : Nat}

theorem opsX_ok (hT : Tab P T) {Γ : Cx} {Q : APost} (all : List Oper) : ∀ (l : List Oper) (i : Nat) (t : Nat → Value) (h : AH) (ι : Nat → Io) (a : Act) (w : World), Rel Γ ι N t h a w →
    opsX P T N all i l t h (fun t h => Q .normal t h) → wpList P all.toArray (Post Γ N Q) l a w
  | [], i, t, h, ι, a, w, hr, hx => ⟨ι, t, h, hr, hx⟩
  | o :: rest, i, t, h, ι, a, w, hr, hx => by
    have key : ∀ (hx : opX P T N t h (fun v h' => brX (isTgt all i) v fun v => putX N o.dst t v fun t' => opsX P T N all (i + 1) rest t' h' (fun t h => Q .normal t h)) o.op), o.wp P a w (wpList P all.toArray (Post Γ N Q) rest) (Post Γ N Q) := by
      intro hx
      refine opX_ok hT hr hx ?_
      intro ι' v u h' w' hv hr' hK
      have fin : ∀ v, VR ι' h'.length v u → putX N o.dst t v (fun t' => opsX P T N all (i + 1) rest t' h' (fun t h => Q .normal t h)) → wpList P all.toArray (Post Γ N Q) rest (a.put o.dst u) w' := by
        intro v hv hp
        unfold putX at hp
        split at hp
        · rename_i e; rw [e]; exact opsX_ok hT all rest (i + 1) t h' ι' _ w' hr' hp
        · rename_i d e
          obtain ⟨hd, hp⟩ := onT_inv hp
          rw [strictV_eq] at hp
          rw [e]
          exact opsX_ok hT all rest (i + 1) _ h' ι' _ w' (hr'.put hv d (by simpa [Nat.blt_eq] using hd)) hp
      unfold brX at hK
      split at hK
      · exact fin v hv hK
      · split at hK
        · rename_i c
          have := hv.bool_inv
          subst this
          cases c with
          | true => exact fin _ (.bool true) (hK.t rfl)
          | false => exact fin _ (.bool false) (hK.f rfl)
        · exact hK.elim
    simp only [opsX, stepX] at hx
    simp only [wpList]
    split at hx
    · rename_i e
      rw [if_pos (by simp [Region.wanted, e])]
      exact .inl (key hx)
    · rename_i j b e
      split at hx
      · exact hx.elim
      · rename_i d hd
        obtain ⟨hdN, hx'⟩ := onT_inv hx
        clear hx
        have hdN : d < N := by simpa [Nat.blt_eq] using hdN
        have hv := hr.tm d hdN
        split at hx'
        · rename_i c hc
          rw [hc] at hv
          have hu := hv.bool_inv
          have hy : yielded all.toArray a.tmps j = some c := by
            unfold yielded
            have hd' : (all.toArray[j]?).bind (·.dst) = some d := by simpa using hd
            rw [hd']
            have hlt : d < a.tmps.size := by rw [hr.len]; exact hdN
            simp only [Option.bind_some]
            rw [Array.getD_eq_getD_getElem?, Array.getElem?_eq_getElem hlt] at hu
            rw [Array.getElem?_eq_getElem hlt]
            simp only [Option.getD_some] at hu
            rw [hu]
          have skip : putX N o.dst t (.tuple #[]) (fun t' => opsX P T N all (i + 1) rest t' h (fun t h => Q .normal t h)) → wpList P all.toArray (Post Γ N Q) rest (a.put o.dst undef) w := by
            intro hp
            unfold putX at hp
            split at hp
            · rename_i e; rw [e]; exact opsX_ok hT all rest (i + 1) t h ι _ w hr hp
            · rename_i d e
              obtain ⟨hd, hp⟩ := onT_inv hp
              rw [strictV_eq] at hp
              rw [e]
              exact opsX_ok hT all rest (i + 1) _ h ι _ w (hr.put .und d (by simpa [Nat.blt_eq] using hd)) hp
          split at hx'
          · rw [if_pos (by simp [Region.wanted, e, hy])]; exact .inl (key hx')
          · rw [if_pos (by simp [Region.wanted, e, hy])]; exact .inl (key hx')
          · rename_i n1 n2
            rw [if_neg (by
              simp only [Region.wanted, e, hy]
              cases c <;> cases b <;> simp
              · exact n2 rfl rfl
              · exact n1 rfl rfl)]
            exact skip hx'
        · exact hx'.elim

theorem opsY_ok (hT : Tab P T) {Γ : Cx} {Q : APost} (all : List Oper) : ∀ (l : List Oper) (i : Nat) (sk : List Nat) (t : Nat → Value) (h : AH) (ι : Nat → Io) (a : Act) (w : World), Rel Γ ι N t h a w → Unasked sk a →
    opsY P T N all i sk l t h (fun t h => Q .normal t h) → wpList P all.toArray (Post Γ N Q) l a w
  | [], i, sk, t, h, ι, a, w, hr, hun, hx => ⟨ι, t, h, hr, hx⟩
  | o :: rest, i, sk, t, h, ι, a, w, hr, hun, hx => by
    have key : ∀ (hx : opX P T N t h (fun v h' => brX (isTgt all i) v fun v => putX N o.dst t v fun t' => opsY P T N all (i + 1) (skO sk o.dst false) rest t' h' (fun t h => Q .normal t h)) o.op), o.wp P a w (wpList P all.toArray (Post Γ N Q) rest) (Post Γ N Q) := by
      intro hx
      refine opX_ok hT hr hx ?_
      intro ι' v u h' w' hv hr' hK
      have fin : ∀ v, VR ι' h'.length v u → putX N o.dst t v (fun t' => opsY P T N all (i + 1) (skO sk o.dst false) rest t' h' (fun t h => Q .normal t h)) → wpList P all.toArray (Post Γ N Q) rest (a.put o.dst u) w' := by
        intro v hv hp
        unfold putX at hp
        split at hp
        · rename_i e; have hu := hun.put o.dst u; rw [e] at hp hu ⊢; exact opsY_ok hT all rest (i + 1) _ t h' ι' _ w' hr' hu hp
        · rename_i d e
          obtain ⟨hd, hp⟩ := onT_inv hp
          rw [strictV_eq] at hp
          have hu := hun.put o.dst u
          rw [e] at hp hu ⊢
          exact opsY_ok hT all rest (i + 1) _ _ h' ι' _ w' (hr'.put hv d (by simpa [Nat.blt_eq] using hd)) hu hp
      unfold brX at hK
      split at hK
      · exact fin v hv hK
      · split at hK
        · rename_i c
          have := hv.bool_inv
          subst this
          cases c with
          | true => exact fin _ (.bool true) (hK.t rfl)
          | false => exact fin _ (.bool false) (hK.f rfl)
        · exact hK.elim
    simp only [opsY, stepY] at hx
    simp only [wpList]
    split at hx
    · rename_i e
      rw [if_pos (by simp [Region.wanted, e])]
      exact .inl (key hx)
    · rename_i j b e
      split at hx
      · exact hx.elim
      · rename_i d hd
        obtain ⟨hdN, hx'⟩ := onT_inv hx
        clear hx
        have hdN : d < N := by simpa [Nat.blt_eq] using hdN
        have hv := hr.tm d hdN
        have skip : putX N o.dst t (.tuple #[]) (fun t' => opsY P T N all (i + 1) (skO sk o.dst true) rest t' h (fun t h => Q .normal t h)) → wpList P all.toArray (Post Γ N Q) rest (a.put o.dst undef) w := by
          intro hp
          unfold putX at hp
          split at hp
          · rename_i e; have hu := hun.skip o.dst; rw [e] at hp hu ⊢; exact opsY_ok hT all rest (i + 1) _ t h ι _ w hr hu hp
          · rename_i d e
            obtain ⟨hd, hp⟩ := onT_inv hp
            rw [strictV_eq] at hp
            have hu := hun.skip o.dst
            rw [e] at hp hu ⊢
            exact opsY_ok hT all rest (i + 1) _ _ h ι _ w (hr.put .und d (by simpa [Nat.blt_eq] using hd)) hu hp
        split at hx'
        · rename_i hm
          have hu := hun d hm
          have hy : yielded all.toArray a.tmps j = none := by
            unfold yielded
            have hd' : (all.toArray[j]?).bind (·.dst) = some d := by simpa using hd
            rw [hd']
            have hlt : d < a.tmps.size := by rw [hr.len]; exact hdN
            simp only [Option.bind_some]
            rw [Array.getD_eq_getD_getElem?, Array.getElem?_eq_getElem hlt] at hu
            rw [Array.getElem?_eq_getElem hlt]
            simp only [Option.getD_some] at hu
            rw [hu]
            rfl
          rw [if_neg (by simp only [Region.wanted, e, hy]; simp)]
          exact skip hx'
        split at hx'
        · rename_i c hc
          rw [hc] at hv
          have hu := hv.bool_inv
          have hy : yielded all.toArray a.tmps j = some c := by
            unfold yielded
            have hd' : (all.toArray[j]?).bind (·.dst) = some d := by simpa using hd
            rw [hd']
            have hlt : d < a.tmps.size := by rw [hr.len]; exact hdN
            simp only [Option.bind_some]
            rw [Array.getD_eq_getD_getElem?, Array.getElem?_eq_getElem hlt] at hu
            rw [Array.getElem?_eq_getElem hlt]
            simp only [Option.getD_some] at hu
            rw [hu]
          split at hx'
          · rw [if_pos (by simp [Region.wanted, e, hy])]; exact .inl (key hx')
          · rw [if_pos (by simp [Region.wanted, e, hy])]; exact .inl (key hx')
          · rename_i n1 n2
            rw [if_neg (by
              simp only [Region.wanted, e, hy]
              cases c <;> cases b <;> simp
              · exact n2 rfl rfl
              · exact n1 rfl rfl)]
            exact skip hx'
        · exact hx'.elim

/-- a loop -/
structure LoopX (body : APost → (Nat → Value) → AH → Prop) (Q : APost) (t : Nat → Value) (h : AH) : Prop where
  ex : ∃ (ks : List Nat) (I : Nat → List Value → AH → Prop) (n : Nat), I n (getT t ks) h ∧
    ∀ n vs h, I n vs h → body (thenQ (fun t' h' => ∃ m, m < n ∧ I m (getT t' ks) h') Q) (mkT ks vs) h
structure DrawX (P : Program) (N : Nat) (id : Nat) (ops : Array Oper) (Q : APost) (t : Nat → Value) (h : AH) : Prop where
  out : AWp P N (.region id ops true) Q t h

def codeX (P : Program) (T : TypeId → Option TI) (N : Nat) : Code → APost → (Nat → Value) → AH → Prop
  | .skip, Q, t, h => Q .normal t h
  | .label _, Q, t, h => Q .normal t h
  | .region id ops draw, Q, t, h => match draw with
    | false => match nestG ops.toList with
      | false => opsX P T N ops.toList 0 ops.toList t h fun t h => Q .normal t h
      | true => opsY P T N ops.toList 0 [] ops.toList t h fun t h => Q .normal t h
    | true => DrawX P N id ops Q t h
  | .seq a b, Q, t, h => codeX P T N a (thenQ (codeX P T N b Q) Q) t h
  | .cond c x y, Q, t, h => match evN N t c with
    | .bool b => BIf b (codeX P T N x Q t h) (codeX P T N y Q t h)
    | _ => False
  | .block id c, Q, t, h => codeX P T N c (blockQ id Q) t h
  | .loop c, Q, t, h => LoopX (codeX P T N c) Q t h
  | .exit id, Q, t, h => Q (.exit id) t h
  | .ret, Q, t, h => Q .ret t h
  | _, _, _, _ => False

theorem thenQ_mono {K K' : (Nat → Value) → AH → Prop} {Q : APost} (h : ∀ t h, K t h → K' t h) : ∀ e t h, thenQ K Q e t h → thenQ K' Q e t h := by
  intro e t hh hx
  cases e with
  | normal => exact h _ _ hx
  | _ => exact hx

theorem codeX_ok (hT : Tab P T) : ∀ (c : Code) (Q : APost) (t : Nat → Value) (h : AH), codeX P T N c Q t h → AWp P N c Q t h
  | .skip, Q, t, h, hx => AWp.skip hx
  | .label _, Q, t, h, hx => AWp.label hx
  | .region id ops draw, Q, t, h, hx => by
    cases draw with
    | false =>
      intro Γ ι a w hr
      simp only [codeX] at hx
      have := (show wpList P ops.toList.toArray (Post Γ N Q) ops.toList a w by
        split at hx
        · exact opsX_ok (Γ := Γ) (Q := Q) hT ops.toList ops.toList 0 t h ι a w hr hx
        · exact opsY_ok (Γ := Γ) (Q := Q) hT ops.toList ops.toList 0 [] t h ι a w hr (fun d hd => by cases hd) hx)
      rw [Array.toArray_toList] at this
      exact wp_region_list this
    | true => exact hx.out
  | .seq a b, Q, t, h, hx => AWp.seq ((codeX_ok hT a _ t h hx).mono (thenQ_mono fun t h hx => codeX_ok hT b Q t h hx))
  | .cond c x y, Q, t, h, hx => by
    simp only [codeX] at hx
    split at hx
    · rename_i b e
      exact AWp.cond b e (fun hb => codeX_ok hT x Q t h (hx.t hb)) (fun hb => codeX_ok hT y Q t h (hx.f hb))
    · exact hx.elim
  | .block id c, Q, t, h, hx => AWp.block (codeX_ok hT c _ t h hx)
  | .loop c, Q, t, h, hx => by
    obtain ⟨ks, I, n, h0, round⟩ := hx.ex
    exact AWp.loop ks I n h0 fun n vs h hI => codeX_ok hT c _ _ h (round n vs h hI)
  | .exit id, Q, t, h, hx => AWp.exit hx
  | .ret, Q, t, h, hx => AWp.ret hx
  | .rangeFunc _ _ _ _, _, _, _, hx => hx.elim
  | .scope _, _, _, _, hx => hx.elim
  | .goto _, _, _, _, hx => hx.elim
  | .refuse _, _, _, _, hx => hx.elim

/-- the results -/
def resX (T : TypeId → Option TI) (N : Nat) (t : Nat → Value) (h : AH) : List ResultVar → (List Value → Prop) → Prop
  | [], K => K []
  | .tmp i :: rs, K => onT (Nat.blt i N) (strictV (t i) fun v => resX T N t h rs fun vs => K (v :: vs))
  | .cell i ty :: rs, K => onT (Nat.blt i N) (match T ty with
    | some ti => match t i with
      | .pointer (some ⟨b, o, none⟩) => LoadX h ti b o fun v => strictV v fun v => resX T N t h rs fun vs => K (v :: vs)
      | _ => False
    | none => False)

def retV : List Value → Value
  | [v] => v
  | vs => .tuple vs.toArray

def resSem (a : Act) (r : ResultVar) : Sem Value := match r with
  | .tmp t => pure (a.tmps.getD t undef)
  | .cell p ty => do loadVar ty (← asAddr (a.tmps.getD p undef))

theorem resX_ok (hT : Tab P T) {Γ : Cx} {ι : Nat → Io} {t : Nat → Value} {h : AH} {a : Act} {w : World} (hr : Rel Γ ι N t h a w) : ∀ (rs : List ResultVar) (K : List Value → Prop), resX T N t h rs K →
    ∃ vs us : List Value, K vs ∧ us.length = vs.length ∧ (∀ (i : Nat) v, vs[i]? = some v → ∃ u, us[i]? = some u ∧ VR ι h.length v u) ∧
      (rs.mapM (resSem a)).run P w = .ok us w
  | [], K, hx => ⟨[], [], hx, rfl, fun i v hi => by simp at hi, by simp⟩
  | .tmp i :: rs, K, hx => by
    obtain ⟨hi, hx⟩ := onT_inv hx
    rw [strictV_eq] at hx
    have hi : i < N := by simpa [Nat.blt_eq] using hi
    obtain ⟨vs, us, hK, hl, hv, hrun⟩ := resX_ok hT hr rs _ hx
    refine ⟨t i :: vs, a.tmps.getD i undef :: us, hK, by simp [hl], fun k v hk => ?_, ?_⟩
    · cases k with
      | zero => simp at hk; subst hk; exact ⟨_, rfl, hr.tm i hi⟩
      | succ k => exact hv k v (by simpa using hk)
    · rw [List.mapM_cons]; simp [resSem, hrun]
  | .cell i ty :: rs, K, hx => by
    obtain ⟨hi, hx⟩ := onT_inv hx
    have hi : i < N := by simpa [Nat.blt_eq] using hi
    have hp := hr.tm i hi
    split at hx
    · rename_i ti hti
      split at hx
      · rename_i b o e
        rw [e] at hp
        obtain ⟨blk, v0, v, e1, e2, e3, hx⟩ := hx.ex
        obtain ⟨u, r1, r2⟩ := load_ok hr.hr (hT _ _ hti) e1 e2
        replace r2 := e3 _ _ _ r2
        rw [strictV_eq] at hx
        obtain ⟨vs, us, hK, hl, hv, hrun⟩ := resX_ok hT hr rs _ hx
        refine ⟨v :: vs, u :: us, hK, by simp [hl], fun k v hk => ?_, ?_⟩
        · cases k with
          | zero => simp at hk; subst hk; exact ⟨_, rfl, r2⟩
          | succ k => exact hv k v (by simpa using hk)
        · rw [List.mapM_cons]; simp [resSem, hrun, hp.ptr_inv, asAddr, r1]
      · exact hx.elim
    · exact hx.elim

def finV (h0 : AH) (Q : Value → AH → Prop) (h : AH) : List Value → Prop
  | [v] => FinX h0 Q v h
  | vs => FinX h0 Q (.tuple vs.toArray) h
theorem finV_eq (h0 : AH) (Q : Value → AH → Prop) (h : AH) (vs : List Value) (hx : finV h0 Q h vs) : FinX h0 Q (retV vs) h := by
  unfold finV at hx
  split at hx
  · exact hx
  · rename_i h1
    have : retV vs = .tuple vs.toArray := by
      match vs with
      | [] => rfl
      | [v] => exact absurd rfl (h1 v)
      | _ :: _ :: _ => rfl
    rw [this]; exact hx
def retQ (T : TypeId → Option TI) (N : Nat) (rs : List ResultVar) (h0 : AH) (Q : Value → AH → Prop) : APost := fun e t h =>
  match e with
  | .normal => resX T N t h rs fun vs => finV h0 Q h vs
  | .ret => resX T N t h rs fun vs => finV h0 Q h vs
  | _ => False

def argT : List Value → Nat → Value
  | [], _ => .chan none
  | v :: _, 0 => v
  | _ :: vs, i + 1 => argT vs i

theorem argT_eq (l : List Value) (i : Nat) : argT l i = l.getD i (.chan none) := by
  induction l generalizing i with
  | nil => rfl
  | cons v l ih => cases i with
    | zero => rfl
    | succ i => simp only [argT, ih]; rfl

/-- a function, by a run over the view; the caller's view is well made -/
theorem ACalls.of {f : FuncId} {fn : Func} {c : Code} {args : List Value} {h0 : AH} {Q : Value → AH → Prop} (hT : Tab P T) (hf : P.funcs[f]? = some fn) (hb : fn.body = some c) (hname : (fn.name == "runtime.NumGoroutine") = false)
    (hN : fn.ntmps = N) (rs : List ResultVar) (hrs : fn.results.toList = rs) (hargs : Nat.ble args.length N = true)
    (hx : WfH h0 → codeX P T N c (retQ T N rs h0 Q) (argT args) h0) : ACalls P f args h0 Q := by
  have hargs := Nat.le_of_ble_eq_true hargs
  refine ⟨fun xs w => ?_, fun ι w cargs hr hs ha => ?_⟩
  · have h1 : fn.name ≠ "runtime.NumGoroutine" := by simpa using hname
    simp [callFunc, hf, h1, hb, mark]
  · refine calls_of_wp hf hb ?_
    let Γ : Cx := ⟨w, fun k => ∃ i b, look h0 i = some b ∧ b.own.isSome = true ∧ (ι i).blk = k, ι, h0.length⟩
    have hr0 : Rel Γ ι N (argT args) h0 { tmps := cargs ++ Array.replicate (fn.ntmps - cargs.size) undef, defers := [] } w := by
      refine ⟨rfl, by simp; omega, fun i hi => ?_, hr, fun i _ => rfl, Nat.le_refl _, fun k _ _ => rfl, fun i b hl ho => .inr ⟨i, b, hl, ho, rfl⟩, Nat.le_refl _, rfl, rfl, rfl⟩
      rw [argT_eq]
      by_cases hlt : i < args.length
      · obtain ⟨u, h1, h2⟩ := ha i _ (List.getElem?_eq_getElem hlt)
        have hlt2 : i < cargs.size := by omega
        have e1 : args.getD i (.chan none) = args[i] := by simp [List.getD, hlt]
        have e2 : (cargs ++ Array.replicate (fn.ntmps - cargs.size) undef).getD i undef = u := by
          rw [Array.getD_eq_getD_getElem?, Array.getElem?_append_left hlt2, h1]; rfl
        show VR ι h0.length _ ((cargs ++ Array.replicate (fn.ntmps - cargs.size) undef).getD i undef)
        rw [e1, e2]; exact h2
      · have e1 : args.getD i (.chan none) = .chan none := by simp [List.getD, List.getElem?_eq_none (Nat.le_of_not_lt hlt)]
        rw [e1]; exact .any _
    refine wp_mono (codeX_ok hT c _ _ _ (hx hr.wf) Γ ι _ w hr0) ?_
    have fin : ∀ (a : Act) (w' : World) ι' t h, Rel Γ ι' N t h a w' → resX T N t h rs (fun vs => finV h0 Q h vs) → a.defers = [] ∧ ∃ v, (results fn a.tmps).run P w' = .ok v w' ∧ RetOK ι h0 w Q (.returned v) w' := by
      intro a w' ι' t h hr' hres
      obtain ⟨vs, us, hK, hl, hv, hrun⟩ := resX_ok hT hr' rs _ hres
      replace hK := finV_eq _ _ _ _ hK
      have hfin : ∃ π r' h', RA π h0.length h' h ∧ (∀ u, VR ι' h.length (retV vs) u → VR (comp ι' π) h'.length r' u) ∧ Q r' h' := by
        rcases hK.ex with ⟨π, r', h', ra, hvr, hq⟩ | ⟨hle, hh, ht, hq⟩
        · exact ⟨π, r', h', ra, fun u hu => hvr.comp ra.cap ra.abs hu, hq⟩
        · refine ⟨idIo, retV vs, hh, RA.trunc hr'.hr.wf ht hle, fun u hu => ?_, hq⟩
          have : comp ι' idIo = ι' := by
            funext i
            show (⟨(ι' i).blk, (ι' i).off + 0, (ι' i).cap, (ι' i).abs⟩ : Io) = ι' i
            simp
          rw [this, ht.len]; exact hu
      obtain ⟨π, r', h', ra, hvr, hq⟩ := hfin
      have hm : (fn.results.mapM (resSem a)).run P w' = .ok us.toArray w' := by
        have : fn.results = rs.toArray := by rw [← hrs]
        rw [this, List.mapM_toArray]
        simp [hrun]
      have hres2 : (results fn a.tmps).run P w' = .ok (if h : us.length = 1 then us[0] else .tuple us.toArray) w' := by
        have e0 : results fn a.tmps = (do let vs ← fn.results.mapM (resSem a); pure (if h : vs.size = 1 then vs[0] else .tuple vs)) := rfl
        rw [e0]
        simp [hm]
      have hret : VR ι' h.length (retV vs) (if h : us.length = 1 then us[0] else .tuple us.toArray) := by
        by_cases h1 : us.length = 1
        · rw [dif_pos h1]
          obtain ⟨u, rfl⟩ := List.length_eq_one_iff.1 h1
          obtain ⟨v, rfl⟩ := List.length_eq_one_iff.1 (hl.symm.trans h1)
          obtain ⟨u', e1, e2⟩ := hv 0 v rfl
          simp at e1
          subst e1
          exact e2
        · rw [dif_neg h1]
          have : retV vs = .tuple vs.toArray := by
            match vs, hl with
            | [], _ => rfl
            | [v], hl => exact absurd hl h1
            | _ :: _ :: _, _ => rfl
          rw [this]
          refine .tuple _ _ (by simp [hl]) fun i hi => ?_
          have hi' : i < vs.length := by simpa using hi
          obtain ⟨u, e1, e2⟩ := hv i _ (List.getElem?_eq_getElem hi')
          have a1 : vs.toArray.getD i (.tuple #[]) = vs[i] := by simp [Array.getD_eq_getD_getElem?, hi']
          have a2 : us.toArray.getD i (.tuple #[]) = u := by simp [Array.getD_eq_getD_getElem?, e1]
          rw [a1, a2]; exact e2
      refine ⟨hr'.defers, _, hres2, r', _, h', _, rfl, hq, ?_, CRel.fin hr hr' ra⟩
      rw [fin_ι hr' ra]
      exact hvr _ hret
    intro e a w' hp
    cases e with
    | normal => obtain ⟨ι', t, h, hr', hq⟩ := hp; exact fin a w' ι' t h hr' hq
    | ret => obtain ⟨ι', t, h, hr', hq⟩ := hp; exact fin a w' ι' t h hr' hq
    | panic c => exact hp.elim
    | outgrown => exact hp.elim
    | exit id => obtain ⟨ι', t, h, hr', hq⟩ := hp; exact hq.elim
    | goto l => obtain ⟨ι', t, h, hr', hq⟩ := hp; exact hq.elim
end
end Go.Gl

/- The plain view of memory: what the code does over the view, Go does. No condition. -/
import Derived.Test.YtionapmdibdfpaaGlZ
import Derived.Test.YtionapmdibdfpaaGlE
import Derived.Laws.BytesString
set_option linter.unusedVariables false
set_option linter.unusedSimpArgs false
namespace Go.Gl

def Tab (P : Program) (T : TypeId → Option TI) : Prop := ∀ t i, T t = some i → TOK P t i

section
variable {P : Program} {T : TypeId → Option TI} {N : Nat} {t : Nat → Value} {h : AH} {Γ : Cx} {ι : Nat → Io} {a : Act} {w : World} {o : Oper}
  {next : Act → World → Prop} {Q : Exit → Act → World → Prop} {K : Value → AH → Prop}

/-- what an operation may hand on -/
def NextOK (Γ : Cx) (N : Nat) (t : Nat → Value) (a : Act) (o : Oper) (K : Value → AH → Prop) (next : Act → World → Prop) : Prop :=
  ∀ ι' v u h' w', VR ι' h'.length v u → Rel Γ ι' N t h' a w' → K v h' → next (a.put o.dst u) w'

theorem upon_val {u : Value} {w' : World} (hrun : (execOp a.eval o).run P w = .ok (.value u) w') (hn : next (a.put o.dst u) w') : o.wp P a w next Q := by
  unfold Oper.wp; rw [hrun]; exact hn

theorem run_val {x : Sem Value} {u : Value} {w w' : World} (hx : x.run P w = .ok u w') : (do pure (Next.value (← x)) : Sem Next).run P w = .ok (.value u) w' := by
  simp [hx]

theorem op_call (hr : Rel Γ ι N t h a w) {g : Nat} {first cap : Array Value} {c : Call} (hc : o.op = .call c) {fo : Operand} (hcal : c.callee = .value fo) (hf : evN N t fo = .func (.func g) first cap)
    (hcall : ACalls P g (first.toList ++ c.args.toList.map (evN N t) ++ cap.toList) h K) (hK : NextOK Γ N t a o K next) : o.wp P a w next Q := by
  have hv := hr.ev fo
  rw [hf] at hv
  generalize hu : a.eval fo = u at hv
  cases hv with
  | fn _ _ _ zs ws e1 p1 e2 p2 =>
    unfold Oper.wp
    have hrun : (execOp a.eval o).run P w = .ok (.enter g (zs ++ c.args.map a.eval ++ ws)) w := by
      unfold execOp
      rw [hc]
      simp [resolve, hcal, hu, Deferred.ofValue, invoke, hcall.enters]
    rw [hrun]
    simp only [Oper.upon]
    have hsz : (zs ++ c.args.map a.eval ++ ws).size = (first.toList ++ c.args.toList.map (evN N t) ++ cap.toList).length := by
      simp [e1, e2]
    refine (hcall.calls ι w _ hr.hr hsz ?_).mono ?_
    · intro i v hi
      have hlt := (List.getElem?_eq_some_iff.1 hi).1
      simp only [List.length_append, List.length_map, Array.length_toList] at hlt
      rw [List.getElem?_append] at hi
      split at hi
      · rename_i h1
        rw [List.getElem?_append] at hi
        simp only [List.length_append, Array.length_toList, List.length_map] at h1
        split at hi
        · rename_i h2
          simp only [Array.length_toList] at h2
          have := p1 i h2
          have e3 : first.getD i (.tuple #[]) = v := by rw [Array.getElem?_toList] at hi; simp [Array.getD_eq_getD_getElem?, hi]
          rw [e3] at this
          have h3 : i < zs.size := by omega
          refine ⟨zs[i], by rw [Array.getElem?_append_left (by simp; omega), Array.getElem?_append_left h3, Array.getElem?_eq_getElem h3], ?_⟩
          simpa [Array.getD_eq_getD_getElem?, h3] using this
        · rename_i h2
          simp only [Array.length_toList, Nat.not_lt] at h2
          rw [List.getElem?_map] at hi
          obtain ⟨x, hx, rfl⟩ := Option.map_eq_some_iff.1 hi
          refine ⟨a.eval x, ?_, hr.ev x⟩
          rw [Array.getElem?_append_left (by simp; omega), Array.getElem?_append_right (by omega), Array.getElem?_map]
          simp only [Array.length_toList, Array.getElem?_toList] at hx
          rw [← e1, hx]; rfl
      · rename_i h1
        simp only [List.length_append, Array.length_toList, List.length_map, Nat.not_lt] at h1
        simp only [List.length_append, Array.length_toList, List.length_map, Array.getElem?_toList] at hi
        have hlt2 : i - (first.size + c.args.size) < cap.size := by omega
        have := p2 _ hlt2
        have e3 : cap.getD (i - (first.size + c.args.size)) (.tuple #[]) = v := by simp [Array.getD_eq_getD_getElem?, hi]
        rw [e3] at this
        have h3 : i - (first.size + c.args.size) < ws.size := by omega
        refine ⟨ws[i - (first.size + c.args.size)], ?_, ?_⟩
        · rw [Array.getElem?_append_right (by simp; omega)]
          simp only [Array.size_append, Array.size_map, ← e1]
          rw [Array.getElem?_eq_getElem h3]
        · simpa [Array.getD_eq_getD_getElem?, h3] using this
    · rintro e w' ⟨r, x, h', ι', rfl, hq, hv, hcr⟩
      exact hK ι' r x h' w' hv (hr.call hcr) hq

theorem zeros_rel {n : Nat} {ie : TI} {e : TypeId} (hT : TOK P e ie) (m : Nat) :
    ∀ (k : Nat) v, (List.replicate m ie.zero).flatten[k]? = some v → ∃ u, (madeCells ie.zval.cells (m * ie.size))[k]? = some u ∧ VR ι n v u := by
  have hzc : ie.zval.cells = ie.zero.toArray := by
    unfold TI.zval
    cases ha : ie.agg with
    | true => simp [Value.cells]
    | false =>
      have h1 := hT.zp.2.2.1 ha
      have h2 := hT.zp.2.1
      cases hz : ie.zero with
      | nil => rw [hz] at h2; simp at h2; omega
      | cons v vs =>
        have h3 := hT.zp.1
        rw [hz] at h3
        simp only [List.all_cons, Bool.and_eq_true] at h3
        have : v.cells = #[v] := by cases v <;> first | rfl | simp [plainV] at h3
        rw [hz] at h2
        have : vs = [] := by
          cases vs with
          | nil => rfl
          | cons _ _ => simp at h2; omega
        subst this
        simp [*]
  intro k v hk
  have hl := hT.zp.2.1
  have hpos : ie.size ≠ 0 := hT.zp.2.2.2
  have hklt := (List.getElem?_eq_some_iff.1 hk).1
  have hfl : (List.replicate m ie.zero).flatten.length = m * ie.size := by simp [hl]
  have hk2 : k < m * ie.size := by omega
  have hmod : k % ie.size < ie.zero.length := by rw [hl]; exact Nat.mod_lt _ (Nat.pos_of_ne_zero hpos)
  have hval : v = ie.zero[k % ie.size] := by
    have : ∀ (m k : Nat) (v : Value), (List.replicate m ie.zero).flatten[k]? = some v → some v = ie.zero[k % ie.size]? := by
      intro m
      induction m with
      | zero => intro k v hk; simp at hk
      | succ m ih =>
        intro k v hk
        rw [List.replicate_succ, List.flatten_cons, List.getElem?_append] at hk
        split at hk
        · rename_i hlt
          rw [Nat.mod_eq_of_lt (by omega)]; exact hk.symm
        · rename_i hge
          have := ih _ v hk
          rw [this, hl]
          have hge' : ie.size ≤ k := by omega
          rw [Nat.mod_eq_sub_mod hge']
    have := this m k v hk
    rw [List.getElem?_eq_getElem hmod] at this
    injection this
  have hpl : plainV v = true := by rw [hval]; exact List.all_eq_true.1 hT.zp.1 _ (List.getElem_mem hmod)
  refine ⟨v, ?_, VR.const hpl⟩
  rw [hzc]
  unfold madeCells
  rw [hval]
  have hz : ie.zero[k % ie.size]? = some ie.zero[k % ie.size] := List.getElem?_eq_getElem hmod
  simp [hk2, hl, hz]

theorem fill_rel {n : Nat} {place : Nat → Option (Nat × Nat)} : ∀ (ps : List (Nat × Value)) (qs : List (Nat × List Value)) (cs : List Value) (us : Array Value), cs.length = us.size →
    (∀ (k : Nat) v, cs[k]? = some v → ∃ u, us[k]? = some u ∧ VR ι n v u) → ps.length = qs.length →
    (∀ (j : Nat) p q, ps[j]? = some p → qs[j]? = some q → ∃ s, place p.1 = some (q.1, s) ∧ p.2.cells.size = s ∧ q.2.length = s ∧ q.1 + s ≤ cs.length ∧ ∀ (k : Nat) v, q.2[k]? = some v → ∃ u, p.2.cells.toList[k]? = some u ∧ VR ι n v u) →
    ∃ us', Instr.fill place us ps = some us' ∧ us'.size = us.size ∧ ∀ (k : Nat) v, (fillL qs cs)[k]? = some v → ∃ u, us'[k]? = some u ∧ VR ι n v u
  | [], [], cs, us, hl, hv, _, _ => ⟨us, rfl, rfl, hv⟩
  | [], _ :: _, _, _, _, _, hq, _ => by simp at hq
  | _ :: _, [], _, _, _, _, hq, _ => by simp at hq
  | (i, v) :: ps, (o, vs) :: qs, cs, us, hl, hv, hq, hp => by
    obtain ⟨s, ho, hvs, hqs, hfit, hrel⟩ := hp 0 (i, v) (o, vs) rfl rfl
    simp only at ho hvs hqs hfit hrel
    have hst : ∀ (l : List Value) (o : Nat) (us : Array Value) (j : Nat), (l.zipIdx.foldl (fun cs (x : Value × Nat) => cs.setIfInBounds (o + x.2) x.1) us).size = us.size := by
      intro l
      generalize l.zipIdx = zl
      induction zl with
      | nil => intro o us j; rfl
      | cons z zl ih => intro o us j; simp only [List.foldl_cons]; rw [ih o _ j]; simp
    have hget : ∀ (l : List Value) (b o : Nat) (us : Array Value) (k : Nat), o + b + l.length ≤ us.size →
        (((l.zipIdx b).foldl (fun cs (x : Value × Nat) => cs.setIfInBounds (o + x.2) x.1) us))[k]? = if o + b ≤ k ∧ k < o + b + l.length then l[k - (o + b)]? else us[k]? := by
      intro l
      induction l with
      | nil => intro b o us k hle; simp; intro h1 h2; omega
      | cons z l ih =>
        intro b o us k hle
        simp only [List.zipIdx_cons, List.foldl_cons, List.length_cons] at hle ⊢
        rw [ih (b + 1) o _ k (by simp; omega)]
        by_cases h1 : k = o + b
        · subst h1
          rw [if_neg (by omega), if_pos (by omega)]
          simp
          rw [Array.getElem?_setIfInBounds_self_of_lt (by omega)]
        · rw [Array.getElem?_setIfInBounds_ne (Ne.symm h1)]
          by_cases h2 : o + (b + 1) ≤ k ∧ k < o + (b + 1) + l.length
          · rw [if_pos h2, if_pos (by omega), show k - (o + b) = (k - (o + (b + 1))) + 1 by omega, List.getElem?_cons_succ]
          · rw [if_neg h2, if_neg (by omega)]
    let us1 := v.cells.zipIdx.foldl (fun cs (x : Value × Nat) => cs.setIfInBounds (o + x.2) x.1) us
    have hus1 : us1 = v.cells.toList.zipIdx.foldl (fun cs (x : Value × Nat) => cs.setIfInBounds (o + x.2) x.1) us := by
      simp only [us1]
      rw [← Array.foldl_toList]
      simp
    have hs1 : us1.size = us.size := by rw [hus1]; exact hst _ _ _ 0
    have hg1 : ∀ k, us1[k]? = if o ≤ k ∧ k < o + s then v.cells.toList[k - o]? else us[k]? := by
      intro k
      rw [hus1]
      have := hget v.cells.toList 0 (o) us k (by simp; omega)
      rw [show v.cells.toList.zipIdx = v.cells.toList.zipIdx 0 by rfl, this]
      simp [hvs]
    have hsl : (setCells cs (o) vs).length = cs.length := by simp [setCells]; omega
    obtain ⟨us', e1, e2, e3⟩ := fill_rel (place := place) ps qs (setCells cs (o) vs) us1 (by rw [hsl, hs1, hl]) (fun k x hk => by
        rw [setCells_get _ _ _ (by omega)] at hk
        rw [hg1]
        rw [hqs] at hk
        split at hk
        · rename_i hc
          rw [if_pos hc]
          exact hrel _ _ hk
        · rename_i hc
          rw [if_neg hc]
          exact hv _ _ hk) (by simpa using hq) (fun j p q h1 h2 => by
        obtain ⟨s', a1, a2, a3, a4, a5⟩ := hp (j + 1) p q (by simpa using h1) (by simpa using h2)
        exact ⟨s', a1, a2, a3, by rw [hsl]; exact a4, a5⟩)
    refine ⟨us', ?_, by rw [e2, hs1], e3⟩
    have c1 : ¬ us.size < o + s := by omega
    simp only [Instr.fill, ho]
    rw [if_neg (by simp [hvs]; omega)]
    exact e1

theorem mulE_add (b o k e : Nat) : (⟨b, o, none⟩ : Addr).add (k * e) = ⟨b, o + mulE k e, none⟩ := by rw [mulE_eq, add_addr]

theorem VR.ptr_lt {n b o : Nat} {u : Value} (h : VR ι n (.pointer (some ⟨b, o, none⟩)) u) : b < n := by cases h; assumption

theorem VR.sl_inv {n b o k c : Nat} {u : Value} (h : VR ι n (.slice (some ⟨b, o, none⟩) k c) u) : ∃ A c', u = .slice A k c' ∧ (0 < k → A = some ⟨(ι b).blk, (ι b).off + o, none⟩ ∧ b < n ∧ (k ≤ c' ∨ (ι b).abs = true)) := by
  cases h with
  | slZ a A c => exact ⟨A, c, rfl, fun h0 => by omega⟩
  | slW b o k c hb ha => exact ⟨_, c, rfl, fun _ => ⟨rfl, hb, ha⟩⟩
  | slS b k hb ha => exact ⟨_, _, rfl, fun _ => ⟨rfl, hb, ha⟩⟩

theorem VR.slS_inv {n b k : Nat} {u : Value} (h : VR ι n (.slice (some ⟨b, 0, none⟩) k 1) u) : u = .slice (some ⟨(ι b).blk, (ι b).off, none⟩) k (ι b).cap ∧ b < n ∧ (k ≤ (ι b).cap ∨ (ι b).abs = true) := by
  cases h with
  | slS b k hb ha => exact ⟨rfl, hb, ha⟩

theorem VR.sl_len {n k c : Nat} {A : Option Addr} {u : Value} (h : VR ι n (.slice A k c) u) : ∃ A' c', u = .slice A' k c' := by
  cases h <;> exact ⟨_, _, rfl⟩

theorem equal_slice_nil {ty e : TypeId} (hkk : P.underlying ty = some (.slice e)) (A : Option Addr) (n c : Nat) (w : World) : (Op.equal ty (.slice A n c) (.slice none 0 0)).run P w = .ok A.isNone w := by
  have : ∀ d, (Op.equalIn (d + 1) ty (.slice A n c) (.slice none 0 0)).run P w = .ok A.isNone w := by
    intro d
    cases A <;> simp [Op.equalIn, run_underlying hkk]
  exact this 9999

theorem mapM_some {α β : Type} (g : α → Option β) : ∀ (l : List α), (∀ f ∈ l, ∃ y, g f = some y) → ∃ ys, l.mapM g = some ys ∧ ∀ (j : Nat) f y, l[j]? = some f → g f = some y → ys[j]? = some y
  | [], _ => ⟨[], rfl, fun j f y h => by simp at h⟩
  | a :: l, h => by
    obtain ⟨y, hy⟩ := h a (by simp)
    obtain ⟨ys, h1, h2⟩ := mapM_some g l (fun f hf => h f (List.mem_cons_of_mem _ hf))
    refine ⟨y :: ys, by simp [List.mapM_cons, hy, h1], fun j f z hj hz => ?_⟩
    cases j with
    | zero => simp at hj; subst hj; rw [hy] at hz; simpa using hz
    | succ j => simpa using h2 j f z (by simpa using hj) hz

theorem zval_rel {n : Nat} {ie : TI} {e : TypeId} (hT : TOK P e ie) : ie.zval.cells.size = ie.size ∧ ∀ (k : Nat) v, ie.zero[k]? = some v → ∃ u, ie.zval.cells[k]? = some u ∧ VR ι n v u := by
  have hzc : ie.zval.cells = ie.zero.toArray := by
    unfold TI.zval
    cases ha : ie.agg with
    | true => simp [Value.cells]
    | false =>
      have h1 := hT.zp.2.2.1 ha
      have h2 := hT.zp.2.1
      cases hz : ie.zero with
      | nil => rw [hz] at h2; simp at h2; omega
      | cons v vs =>
        have h3 := hT.zp.1
        rw [hz] at h3
        simp only [List.all_cons, Bool.and_eq_true] at h3
        have : v.cells = #[v] := by cases v <;> first | rfl | simp [plainV] at h3
        rw [hz] at h2
        have : vs = [] := by
          cases vs with
          | nil => rfl
          | cons _ _ => simp at h2; omega
        subst this
        simp [*]
  refine ⟨by rw [hzc]; simpa using hT.zp.2.1, fun k v hk => ⟨v, by rw [hzc]; simpa using hk, VR.const (List.all_eq_true.1 hT.zp.1 _ (List.mem_of_getElem? hk))⟩⟩

theorem slice_run {ty e : TypeId} {size : Nat} (hkk : P.underlying ty = some (.slice e)) (hs : ∀ w, (sizeOf e).run P w = .ok size w) (A : Option Addr) (n c : Nat) (lo hi : Option Value) (l r : Nat)
    (hlo : (lo = none ∧ l = 0) ∨ ∃ k, lo = some (.int k l)) (hhi : (hi = none ∧ r = n) ∨ ∃ k, hi = some (.int k r)) (h1 : l ≤ r) (h2 : r ≤ n) (h3 : n ≤ c) (w : World) :
    (Instr.sliceAt ty (.slice A n c) lo hi none).run P w = .ok (.slice (if c = l then A else A.map (·.add (l * size))) (r - l) (c - l)) w := by
  have h4 : r ≤ c := Nat.le_trans h2 h3
  have e1 : ((r : Int) ≤ (c : Int)) = True := by simp; exact h4
  have e2 : ((l : Int) ≤ (r : Int)) = True := by simp; exact h1
  rcases hlo with ⟨rfl, rfl⟩ | ⟨k, rfl⟩ <;> rcases hhi with ⟨rfl, rfl⟩ | ⟨k', rfl⟩ <;>
    simp [Instr.sliceAt, Instr.slice, run_underlying hkk, Instr.sliceBounds, Instr.sliceBound, asIntOf, hs, h1, h4]

theorem isIfc_ok (hT : Tab P T) {ty : TypeId} (h : isIfc T ty = true) : ∃ ms, P.underlying ty = some (.interface ms) := by
  unfold isIfc at h
  split at h
  · rename_i i hi
    split at h
    · rename_i hk
      have a1 := (hT _ _ hi).kind
      rw [hk] at a1
      exact a1
    · cases h
  · cases h
theorem sliceStr_run {ty : TypeId} (hkk : P.underlying ty = some .string) (s : ByteArray) (lo hi : Option Value) (l r : Nat)
    (hlo : (lo = none ∧ l = 0) ∨ ∃ k, lo = some (.int k l)) (hhi : (hi = none ∧ r = s.size) ∨ ∃ k, hi = some (.int k r)) (h1 : l ≤ r) (h2 : r ≤ s.size) (w : World) :
    (Instr.sliceAt ty (.string s) lo hi none).run P w = .ok (.string (s.extract l r)) w := by
  rcases hlo with ⟨rfl, rfl⟩ | ⟨k, rfl⟩ <;> rcases hhi with ⟨rfl, rfl⟩ | ⟨k', rfl⟩ <;>
    simp [Instr.sliceAt, Instr.slice, run_underlying hkk, Instr.sliceBounds, Instr.sliceBound, asIntOf, h1, h2]
theorem foldl_bytes (bs : List UInt8) : ∀ r : ByteArray, (bs.map (fun c => (c.toNat : Int))).foldl (fun r n => r.push (UInt8.ofNat n.toNat)) r = ⟨r.data ++ bs.toArray⟩ := by
  induction bs with
  | nil => intro r; simp
  | cons b bs ih =>
    intro r
    rw [List.map_cons, List.foldl_cons, ih]
    simp [ByteArray.push]
theorem arrInt_ok (hT : Tab P T) {ty : TypeId} {n : Nat} {k : IntKind} (h : arrInt T ty = some (n, k)) : ∃ e, P.underlying ty = some (.array n e) ∧ P.underlying e = some (.int k) ∧ P.cellsOf e = 1 := by
  unfold arrInt at h
  split at h
  · rename_i i hi
    split at h
    · rename_i n' e hk
      split at h
      · rename_i ie hie
        split at h
        · rename_i k' hk2
          injection h with h; injection h with h1 h2
          subst h1 h2
          have a1 := (hT _ _ hi).kind
          rw [hk] at a1
          have t2 := hT _ _ hie
          have a2 := t2.kind
          rw [hk2] at a2
          refine ⟨e, a1, a2, ?_⟩
          obtain ⟨inf, b1, b2, _⟩ := t2.info
          have b3 := t2.agg default
          have b4 : ie.agg = false := by
            simp [isAgg, run_underlying a2] at b3
            exact b3
          simp [Program.cellsOf, b1, b2, t2.zp.2.2.1 b4]
        · cases h
      · cases h
    · cases h
  · cases h
theorem mapOf_ok (hT : Tab P T) {ty : TypeId} {ie : TI} (h : mapOf T ty = some ie) : ∃ kt et e, P.underlying ty = some (.map kt et) ∧ P.underlying kt = some (.array 2 e) ∧ P.underlying e = some (.int .i64) ∧ P.cellsOf e = 1 ∧ TOK P et ie := by
  unfold mapOf at h
  split at h
  · rename_i i hi
    split at h
    · rename_i k e hk
      split at h
      · rename_i n q ha
        split at h
        · rename_i hb
          simp only [Bool.and_eq_true] at hb
          have h1 := Nat.eq_of_beq_eq_true hb.1
          have h2 := kEq_eq hb.2
          subst h1 h2
          have a1 := (hT _ _ hi).kind
          rw [hk] at a1
          obtain ⟨e', b1, b2, b3⟩ := arrInt_ok hT ha
          exact ⟨k, e, e', a1, b1, b2, b3, hT _ _ h⟩
        · cases h
      · cases h
    · cases h
  · cases h
theorem run_makeMap (ty : TypeId) (w : World) : (Instr.makeMap ty none).run P w = .ok (.map (some w.heap.size)) (w.alloc (.map #[] 0)) := by
  simp [Instr.makeMap, Result.andThen]
theorem VR.map_inv {n b : Nat} {u : Value} (h : VR ι n (.map (some b)) u) : u = .map (some (ι b).blk) := by cases h; rfl
theorem zval_VR {ie : TI} {e : TypeId} (hT : TOK P e ie) (n : Nat) : VR ι n ie.zval ie.zval := by
  unfold TI.zval
  cases ha : ie.agg with
  | true =>
    refine .agg _ _ rfl fun i hi => ?_
    have hi2 : i < ie.zero.length := by simpa using hi
    rw [show ie.zero.toArray.getD i (.tuple #[]) = ie.zero[i] by simp [Array.getD_eq_getD_getElem?, hi2]]
    exact VR.const (List.all_eq_true.1 hT.zp.1 _ (List.getElem_mem hi2))
  | false =>
    cases hz : ie.zero with
    | nil => exact .any _
    | cons v vs => exact VR.const (List.all_eq_true.1 hT.zp.1 v (by rw [hz]; simp))
theorem isBool_ok (hT : Tab P T) {ty : TypeId} (h : isBool T ty = true) : P.underlying ty = some .bool := by
  unfold isBool at h
  split at h
  · rename_i i hi
    split at h
    · rename_i hk
      have := (hT _ _ hi).kind
      rw [hk] at this
      exact this
    · cases h
  · cases h

theorem zeroCells_made (z : Array Value) (m : Nat) : Builtin.zeroCells z m = madeCells z (m * z.size) := rfl
theorem run_append_zeros_nil (w : World) (ty ti rty e : TypeId) (k : IntKind) (inf : TypeInfo) (z : Value) (hty : P.underlying ty = some (.slice e)) (hti : P.underlying ti = some (.int k)) (hi : P.info? e = some inf) (hz : inf.zero = some z) (hs : z.cells.size = inf.size) (hs0 : 0 < inf.size)
    (m : Nat) (hm : 0 < m) (h63 : m ≤ maxLen) (hbytes : m * inf.bytes ≤ 140737488355328) :
    ∃ v' w', (Builtin.append_ #[ty, ti] rty #[.slice none 0 0, .int .i64 (m : Int)]).run P w = .ok v' w' ∧ w'.ownsRow 0 e inf.size v' m (madeCells z.cells (m * inf.size)).toList ∧ w.grownBy w' none ∧ v' ≠ .slice none 0 0 ∧ (v'.ownBlock = none ∨ v'.ownBlock = some w.heap.size) := by
  have hsmall : m ≤ 9223372036854775807 := by simp only [maxLen] at h63; omega
  have hw : IntKind.i64.wrap (m : Int) = (m : Int) := by rw [IntKind.wrap_i64]; omega
  have hnn : ¬ ((m : Int) < 0) := by omega
  have hbig : ¬ (281474976710656 < (m : Int) * (inf.bytes : Int)) := by
    have : ((m * inf.bytes : Nat) : Int) ≤ 140737488355328 := by omega
    rw [Int.natCast_mul] at this
    omega
  have hm0 : m ≠ 0 := by omega
  have hms : m * inf.size ≠ 0 := Nat.mul_ne_zero hm0 (by omega)
  have h63' : ¬ (9223372036854775807 < (m : Int)) := by omega
  have h48' : ¬ (281474976710656 < Builtin.nextslicecap m 0 * inf.bytes) := by rw [nextslicecap_zero hm]; omega
  have hge := grownCap_ge w m 0 e
  have hcm : grownCap w m 0 e ≤ maxLen := grownCap_le_maxLen w m 0 e h63
  refine ⟨.slice (some ⟨w.heap.size, 0, none⟩) m (grownCap w m 0 e), w.drew.alloc (.cells (Builtin.zeroCells z.cells m ++ Builtin.zeroCells z.cells (grownCap w m 0 e - m)) e), ?_, ⟨by simp [size_madeCells], .inr ⟨w.heap.size, _, _, rfl, Nat.zero_le _, heap_alloc_new w.drew _, hge, hcm, ?_, ?_⟩⟩, ⟨rfl, rfl, rfl, by simp, fun k hk _ => heap_alloc_old w.drew _ k hk⟩, by simp, Or.inr rfl⟩
  · simp [Builtin.append_, run_underlying hty, run_underlying hti, sizeOf, typeInfo, zeroValue, hi, hz, asInt, asIntOf, hw, hnn, hbig, hm0, hms, h63', h48', Question.forced, run_firstCells_none, newRow, grownCap]
  · rw [Array.size_append, size_zeroCells, size_zeroCells, hs, ← Nat.add_mul]
    congr 1; omega
  · rw [Array.toList_append, zeroCells_made, hs]
    exact List.take_left' (by simp [size_madeCells])
/-- zeros behind nil, of any size -/
theorem appendZ_nil_all {Γ : Cx} {N : Nat} {t : Nat → Value} {a : Act} (hr : Rel Γ ι N t h a w) {ty ti rty e : TypeId} {kk : IntKind} {ie : TI} (hty : P.underlying ty = some (.slice e)) (hti : P.underlying ti = some (.int kk)) (hie : TOK P e ie)
    {m : Nat} {news : List Value} (hm0 : 0 < m) (hnews : news = (List.replicate m ie.zero).flatten) (hbytes : m * ie.bytes ≤ 140737488355328) (h63 : m ≤ maxLen) :
    ∃ w' ι' u, (Builtin.append_ #[ty, ti] rty #[.slice none 0 0, .int .i64 (m : Int)]).run P w = .ok u w' ∧
      VR ι' (h.length + 1) (.slice (some ⟨h.length, 0, none⟩) m 1) u ∧ Rel Γ ι' N t (h ++ [some ⟨news, some (e, ie.size)⟩]) a w' := by
  have hpos : ie.size ≠ 0 := hie.zp.2.2.2
  have hnl : news.length = m * ie.size := by rw [hnews]; simp [hie.zp.2.1]
  obtain ⟨inf, i1, i2, i3, i4⟩ := hie.info
  obtain ⟨zs, _⟩ := zval_rel (ι := ι) (n := h.length) hie
  obtain ⟨v', w', r1, r2, r3, hne0, r5⟩ := run_append_zeros_nil (P := P) w ty ti rty e kk inf ie.zval hty hti i1 i4 (by rw [i2, zs]) (by rw [i2]; exact Nat.pos_of_ne_zero hpos) m hm0 h63 (by rw [i3]; exact hbytes)
  obtain ⟨us, hus⟩ : ∃ us, us = (madeCells ie.zval.cells (m * ie.size)).toList := ⟨_, rfl⟩
  rw [i2, ← hus] at r2
  have hul : us.length = news.length := by rw [hus, hnl]; simp [size_madeCells]
  have hrel : ∀ (k : Nat) v, news[k]? = some v → ∃ u, us[k]? = some u ∧ VR ι h.length v u := fun k v hk => by
    rw [hnews] at hk
    obtain ⟨u, u1, u2⟩ := zeros_rel (ι := ι) (n := h.length) hie m k v hk
    exact ⟨u, by rw [hus, Array.getElem?_toList]; exact u1, u2⟩
  rcases r2.2 with ⟨rfl, h0⟩ | ⟨g, cap, cur, rfl, _, hg, hnc, hcapm, hcsz, htake⟩
  · omega
  · simp only [Value.ownBlock] at r5
    have r5 : g = w.heap.size := by
      rcases r5 with r5 | r5
      · cases r5
      · injection r5
    subst r5
    have hcells : ∀ (k : Nat) v, news[k]? = some v → ∃ u, cur[k]? = some u ∧ VR ι h.length v u := by
      intro k v hk
      obtain ⟨u, e1, e2⟩ := hrel _ v hk
      refine ⟨u, ?_, e2⟩
      have hkl := (List.getElem?_eq_some_iff.1 e1).1
      have : cur.toList[k]? = us[k]? := by
        have ht : us = cur.toList.take (m * ie.size) := htake.symm
        have hk3 : k < m * ie.size := by omega
        rw [ht, List.getElem?_take, if_pos hk3]
      rw [← Array.getElem?_toList, this, e1]
    have HH := hr.hr.grow (h1 := h) (w' := w') (fun i x hi => hi) rfl (fun i x hi => r3.block _ (hr.hr.lt hi) (by simp [Value.ownBlock])) hg (fun i x hi => by have := hr.hr.lt hi; omega) hpos hcsz hcapm (cs := news) hcells
    have hn : h.length ≤ (h ++ [some (⟨news, some (e, ie.size)⟩ : Blk)]).length := by simp
    refine ⟨w', upι ι h.length ⟨w.heap.size, 0, cap, false⟩, _, r1, ?_, ?_⟩
    · have := VR.slS (ι := upι ι h.length ⟨w.heap.size, 0, cap, false⟩) (n := h.length + 1) h.length m (by omega) (.inl (by rw [upι_self]; exact hnc))
      rw [upι_self] at this
      exact this
    · refine { defers := hr.defers, len := hr.len, tm := fun i hi => (hr.tm i hi).ext hn fun j hj => upι_lt hj, hr := HH, agree := fun i hi => ?_, n0 := Nat.le_trans hr.n0 hn, fr := fun k hk hS => ?_, ow := fun i x hi ho => ?_, sz := Nat.le_trans hr.sz r3.size, os := r3.os.trans hr.os, tape := r3.tape.trans hr.tape, output := r3.output.trans hr.output }
      · rw [upι_lt (Nat.lt_of_lt_of_le hi hr.n0)]; exact hr.agree i hi
      · rw [r3.block k (Nat.lt_of_lt_of_le hk hr.sz) (by simp [Value.ownBlock])]
        exact hr.fr k hk hS
      · have hi1 := look_lt hi
        simp at hi1
        rcases Nat.lt_or_ge i h.length with hlt | hge
        · rw [upι_lt hlt]
          rw [look_app_lt (by omega)] at hi
          exact hr.ow i x hi ho
        · have : i = h.length := by omega
          subst this
          rw [upι_self]
          exact .inl hr.sz
theorem run_copy_zero (w : World) {ty ty2 rty e : TypeId} {s : Nat} (hty : P.underlying ty = some (.slice e)) (hs : (sizeOf e).run P w = .ok s w) (A : Option Addr) {n : Nat} (c : Nat) (A2 : Option Addr) {n2 : Nat} (c2 : Nat) (hm : min n2 n = 0) :
    (Builtin.copy_ #[ty, ty2] rty #[.slice A n c, .slice A2 n2 c2]).run P w = .ok (.int .i64 0) w := by
  have hm : Nat.min n2 n = 0 := hm
  have h1 : (Builtin.firstCells s 0 (.slice A2 n2 c2)).run P w = .ok #[] w := by
    cases A2 with
    | none => exact run_firstCells_none w s 0 n2 c2
    | some a => exact run_firstCells_some (P := P) w s 0 a n2 c2 [] (by simp) (by simp)
  cases A <;> simp [Builtin.copy_, run_underlying hty, Builtin.lenOf, hs, hm, h1, storeCells, goInt]
theorem run_copy_some {w : World} {ty ty2 rty e : TypeId} {s : Nat} (hty : P.underlying ty = some (.slice e)) (hs : (sizeOf e).run P w = .ok s w) {g o n c n2 c2 m : Nat} {A2 : Addr} {us : List Value} {cs : Array Value} {et : TypeId} (hm : m = min n2 n) (hl : us.length = m * s)
    (hg : w.heap[g]? = some (.cells cs et (0, 0))) (hfit : o + us.length ≤ cs.size) (hc : ∀ (j : Nat) u, us[j]? = some u → w.cell? (A2.add j) = some u) (hone : ∀ y ∈ us, y.oneCell' = true) :
    (Builtin.copy_ #[ty, ty2] rty #[.slice (some ⟨g, o, none⟩) n c, .slice (some A2) n2 c2]).run P w = .ok (.int .i64 m) (w.setRow g (cs.toList.take o ++ us ++ cs.toList.drop (o + us.length)).toArray) := by
  have hm : Nat.min n2 n = m := hm.symm
  have h1 := run_firstCells_some (P := P) w s m A2 n2 c2 us hl hc
  have h2 := run_storeCells_at P g o et us 0 cs w hg (by omega) hone
  simp only [Nat.add_zero] at h2
  simp [Builtin.copy_, run_underlying hty, Builtin.lenOf, hs, hm, h1, h2, goInt]
theorem take_rel (hr : HR ι h w) {b o : Nat} {blk : Blk} {news : List Value} (hl : look h b = some blk) (hp : 0 < news.length) (hn : (blk.cells.drop o).take news.length = news) :
    ∃ us : List Value, us.length = news.length ∧ (∀ (j : Nat) u, us[j]? = some u → w.cell? ((⟨(ι b).blk, (ι b).off + o, none⟩ : Addr).add j) = some u) ∧ ∀ (k : Nat) v, news[k]? = some v → ∃ u, us[k]? = some u ∧ VR ι h.length v u := by
  have hdl : o + news.length ≤ blk.cells.length := by
    have := congrArg List.length hn
    simp at this
    omega
  obtain ⟨cs, e', fr, g1, g2, _⟩ := hr.cel hl (.inl (by intro en; have h8 : blk.cells.length = 0 := (by rw [en]; rfl); omega))
  refine ⟨(cs.toList.drop ((ι b).off + o)).take news.length, ?_, fun j u hj => ?_, fun k v hk => ?_⟩
  · obtain ⟨u, q1, q2⟩ := g2 (o + (news.length - 1)) _ (List.getElem?_eq_getElem (by omega))
    have := (Array.getElem?_eq_some_iff.1 q1).1
    simp
    omega
  · rw [List.getElem?_take] at hj
    split at hj
    · rw [List.getElem?_drop] at hj
      rw [add_addr]
      simp only [World.cell?, g1]
      simpa using hj
    · cases hj
  · have hkl := (List.getElem?_eq_some_iff.1 hk).1
    have h1 : blk.cells[o + k]? = some v := by
      rw [← hn, List.getElem?_take, if_pos hkl, List.getElem?_drop] at hk
      exact hk
    obtain ⟨u, q1, q2⟩ := g2 _ _ h1
    refine ⟨u, ?_, q2⟩
    rw [List.getElem?_take, if_pos hkl, List.getElem?_drop]
    rw [← Nat.add_assoc] at q1
    simpa using q1
theorem opX_ok (hT : Tab P T) (hr : Rel Γ ι N t h a w) (hx : opX P T N t h K o.op) (hK : NextOK Γ N t a o K next) : o.wp P a w next Q := by
  cases hop : o.op with
  | move x => rw [hop] at hx; exact upon_val (by unfold execOp; rw [hop]; rfl) (hK _ _ _ _ _ (hr.ev x) hr hx)
  | assign x => rw [hop] at hx; exact upon_val (by unfold execOp; rw [hop]; rfl) (hK _ _ _ _ _ (hr.ev x) hr hx)
  | pick c x y =>
    rw [hop] at hx
    simp only [opX] at hx
    have hc := hr.ev c
    split at hx
    · rename_i e; rw [e] at hc
      exact upon_val (by unfold execOp; rw [hop]; simp [hc.bool_inv, asBool]) (hK _ _ _ _ _ (hr.ev x) hr hx)
    · rename_i e; rw [e] at hc
      exact upon_val (by unfold execOp; rw [hop]; simp [hc.bool_inv, asBool]) (hK _ _ _ _ _ (hr.ev y) hr hx)
    · exact hx.elim
  | alloc ty =>
    rw [hop] at hx
    simp only [opX] at hx
    split at hx
    · rename_i i hi
      have ht := hT _ _ hi
      have hz := ht.zval w
      have hzr := zeros_rel (ι := ι) (n := h.length) ht 1
      simp only [List.replicate_one, List.flatten_singleton, Nat.one_mul] at hzr
      have hzc : madeCells i.zval.cells i.size = i.zval.cells := by
        have hs : i.zval.cells.size = i.size := by
          unfold TI.zval
          cases ha : i.agg with
          | true => simp [Value.cells, ht.zp.2.1]
          | false =>
            have h1 := ht.zp.2.2.1 ha
            have h2 := ht.zp.2.1
            cases hz : i.zero with
            | nil => rw [hz] at h2; simp at h2; omega
            | cons v vs =>
              have h3 := ht.zp.1
              rw [hz] at h3
              simp only [List.all_cons, Bool.and_eq_true] at h3
              have : v.cells = #[v] := by cases v <;> first | rfl | simp [plainV] at h3
              simp [this, h1]
        unfold madeCells
        apply Array.ext
        · simp [hs]
        · intro j h1 h2
          have hj : j < i.zval.cells.size := h2
          simp [Nat.mod_eq_of_lt hj, hj]
      rw [hzc] at hzr
      have hs2 : i.zval.cells.size = 1 * i.size := by rw [← hzc, size_madeCells]; omega
      have hra := hr.alloc ty i.size 1 ht.zp.2.2.2 hs2 (by decide) hzr
      refine upon_val (w' := w.alloc (.cells i.zval.cells ty)) (u := .pointer (some ⟨w.heap.size, 0, none⟩)) ?_ (hK _ _ _ _ _ ?_ hra (hx.out _ _ rfl rfl))
      · unfold execOp; rw [hop]; simp [Instr.alloc, hz, newVar, newRow]
      · have := VR.ptr (ι := upι ι h.length ⟨w.heap.size, 0, 1, false⟩) (n := (h ++ [some (⟨i.zero, some (ty, i.size)⟩ : Blk)]).length) h.length 0 (by simp)
        rw [upι_self] at this
        exact this
    · exact hx.elim
  | box ty x =>
    rw [hop] at hx
    simp only [opX] at hx
    split at hx
    · rename_i i hi
      have ht := hT _ _ hi
      obtain ⟨h1, hx⟩ := onT_inv hx
      obtain ⟨h2, hx⟩ := onT_inv hx
      have h1 := Nat.eq_of_beq_eq_true h1
      obtain ⟨v1, v2, v3⟩ := vcells_rel (hr.ev x) h2
      have hra := hr.alloc (cs := vcells (evN N t x)) (us := (a.eval x).cells) ty i.size 1 ht.zp.2.2.2 (by simp at v1; omega) (by decide) (fun k v hk => by simpa using v2 k v hk)
      refine upon_val (w' := w.alloc (.cells (a.eval x).cells ty)) (u := .pointer (some ⟨w.heap.size, 0, none⟩)) ?_ (hK _ _ _ _ _ ?_ hra (hx.out _ _ rfl rfl))
      · unfold execOp; rw [hop]; simp [Instr.box, newVar, newRow]
      · have := VR.ptr (ι := upι ι h.length ⟨w.heap.size, 0, 1, false⟩) (n := (h ++ [some (⟨vcells (evN N t x), some (ty, i.size)⟩ : Blk)]).length) h.length 0 (by simp)
        rw [upι_self] at this
        exact this
    · exact hx.elim
  | load ty x =>
    rw [hop] at hx
    simp only [opX] at hx
    split at hx
    · rename_i i hi
      have ht := hT _ _ hi
      have hv := hr.ev x
      split at hx
      · rename_i b of e
        rw [e] at hv
        obtain ⟨blk, v, v', e1, e2, e3, hx⟩ := hx.ex
        obtain ⟨u, r1, r2⟩ := load_ok hr.hr ht e1 e2
        refine upon_val ?_ (hK _ _ _ _ _ (e3 _ _ _ r2) hr hx)
        unfold execOp; rw [hop]; simp [hv.ptr_inv, Instr.loadAt, Instr.sureAddr, r1]
      · exact hx.elim
    · exact hx.elim
  | store ty x y =>
    rw [hop] at hx
    simp only [opX] at hx
    split at hx
    · rename_i i hi
      have ht := hT _ _ hi
      have hv := hr.ev x
      split at hx
      · rename_i b of e
        rw [e] at hv
        obtain ⟨h1, hx⟩ := onT_inv hx
        obtain ⟨h2, hx⟩ := onT_inv hx
        have h1 := Nat.eq_of_beq_eq_true h1
        obtain ⟨blk, e1, e2, e3, hx⟩ := hx.ex
        obtain ⟨v1, v2, v3⟩ := vcells_rel (hr.ev y) h2
        obtain ⟨⟨ot, os⟩, how⟩ := Option.isSome_iff_exists.1 e2
        obtain ⟨cs, e', fr, g1, g2, g3⟩ := hr.hr.cel e1 (.inl (by intro en; have h9 := ht.zp.2.2.2; have h8 : blk.cells.length = 0 := (by rw [en]; rfl); omega))
        obtain ⟨rfl, rfl, hoff, hsz, hcle, hcap⟩ := g3 _ _ how
        have hst := hr.store (o := of) e1 how v1.symm e3 v2 g1
        have hrun := run_storeCells_at P (ι b).blk of e' (a.eval y).cells.toList 0 cs w g1 (by simp at v1 ⊢; omega) v3
        simp only [Nat.add_zero] at hrun
        unfold Oper.wp
        have hru : (execOp a.eval o).run P w = .ok .skip (w.setRow (ι b).blk (cs.toList.take of ++ (a.eval y).cells.toList ++ cs.toList.drop (of + (a.eval y).cells.toList.length)).toArray) := by
          unfold execOp; rw [hop]
          have hsz2 : (a.eval y).cells.size = i.size := by simp at v1; omega
          have e0 : (ι b).off + of = of := by omega
          simp [hv.ptr_inv, Instr.storeAt, Instr.sureAddr, storeVar, ht.size w, hsz2, e0]
          simp at hrun
          rw [hrun, hsz2]
          rfl
        rw [hru]
        exact hK _ _ _ _ _ .und hst (hx _ rfl)
      · exact hx.elim
    · exact hx.elim
  | extract x j =>
    rw [hop] at hx
    simp only [opX] at hx
    have hv := hr.ev x
    split at hx
    · rename_i vs e
      rw [e] at hv
      split at hx
      · rename_i v hj
        generalize hu : a.eval x = u at hv
        have hj' : j < vs.size := by have := (List.getElem?_eq_some_iff.1 hj).1; simpa using this
        cases hv with
        | tuple _ us e1 p1 =>
          have := p1 j hj'
          have e3 : vs.getD j (.tuple #[]) = v := by rw [Array.getElem?_toList] at hj; simp [Array.getD_eq_getD_getElem?, hj]
          rw [e3] at this
          have h3 : j < us.size := by omega
          refine upon_val (u := us[j]) (w' := w) ?_ (hK _ _ _ _ _ ?_ hr hx)
          · unfold execOp; rw [hop]; simp [hu, Instr.extract, h3]
          · simpa [Array.getD_eq_getD_getElem?, h3] using this
      · exact hx.elim
    · exact hx.elim
  | binOp op ty x y ty2 =>
    rw [hop] at hx
    simp only [opX] at hx
    split at hx
    · rename_i hy
      have hyc : y = .const (.slice none 0 0) := by
        unfold nilC at hy
        split at hy
        · rfl
        · cases hy
      subst hyc
      split at hx
      · rename_i i hi
        have ht := hT _ _ hi
        split at hx
        · rename_i e hk
          have hkk := ht.kind
          rw [hk] at hkk
          simp only at hkk
          have hv := hr.ev x
          have key : ∀ (neg : Bool), nilV (evN N t x) neg (fun v => K v h) → ∃ z : Bool, (∃ A n c, a.eval x = .slice A n c ∧ A.isNone = z) ∧ K (.bool (z != neg)) h := by
            intro neg hx
            unfold nilV at hx
            split at hx
            · rename_i ex
              rw [ex] at hv
              generalize a.eval x = u at hv
              cases hv
              exact ⟨true, ⟨_, _, _, rfl, rfl⟩, by cases neg <;> exact hx⟩
            · rename_i b of n c ex
              rw [ex] at hv
              generalize a.eval x = u at hv
              cases hv with
              | slZ _ A c =>
                cases A with
                | none => exact ⟨true, ⟨_, _, _, rfl, rfl⟩, by have := hx.t rfl (by omega); cases neg <;> exact this⟩
                | some _ => exact ⟨false, ⟨_, _, _, rfl, rfl⟩, by have := hx.f; cases neg <;> exact this⟩
              | slW => exact ⟨false, ⟨_, _, _, rfl, rfl⟩, by have := hx.f; cases neg <;> exact this⟩
              | slS => exact ⟨false, ⟨_, _, _, rfl, rfl⟩, by have := hx.f; cases neg <;> exact this⟩
            · exact hx.elim
          have hev : a.eval (.const (.slice none 0 0)) = .slice none 0 0 := rfl
          split at hx
          · obtain ⟨z, ⟨A, n, c, hu, hA⟩, hx⟩ := key _ hx
            refine upon_val (u := .bool (z != false)) (w' := w) ?_ (hK _ _ _ _ _ (.bool _) hr hx)
            unfold execOp; rw [hop]
            subst hA
            simp [hu, hev, eqGuard, binOp, equal_slice_nil hkk]
          · obtain ⟨z, ⟨A, n, c, hu, hA⟩, hx⟩ := key _ hx
            refine upon_val (u := .bool (z != true)) (w' := w) ?_ (hK _ _ _ _ _ (.bool _) hr hx)
            unfold execOp; rw [hop]
            subst hA
            simp [hu, hev, eqGuard, binOp, equal_slice_nil hkk]
          · exact hx.elim
        · exact hx.elim
      · exact hx.elim
    · split at hx
      · rename_i hy
        have hyc : y = .const .nilIface := by
          unfold nilI at hy
          split at hy
          · rfl
          · cases hy
        subst hyc
        obtain ⟨hI, hx⟩ := onT_inv hx
        obtain ⟨ms, hkk⟩ := isIfc_ok hT hI
        have hv := hr.ev x
        have hnn : ∀ w : World, (Op.equal ty .nilIface .nilIface).run P w = .ok true w := fun w => by
          have : ∀ d, (Op.equalIn (d + 1) ty .nilIface .nilIface).run P w = .ok true w := fun d => by simp [Op.equalIn, run_underlying hkk]
          exact this 9999
        have hen : ∀ (w : World) t v, (Op.equal ty (.iface t v) .nilIface).run P w = .ok false w := fun w t v => by
          have : ∀ d, (Op.equalIn (d + 1) ty (.iface t v) .nilIface).run P w = .ok false w := fun d => by simp [Op.equalIn, run_underlying hkk]
          exact this 9999
        unfold ifcV at hx
        split at hx
        · rename_i n en
          generalize hu : a.eval x = u at hv
          split at hx
          · rcases ifcN_rel en hv with ⟨rfl, rfl⟩ | ⟨rfl, t, d, rfl⟩
            · exact upon_val (u := .bool true) (w' := w) (by unfold execOp; rw [hop]; simp [hu, show a.eval (.const .nilIface) = .nilIface from rfl, eqGuard, binOp, hnn]) (hK _ _ _ _ _ (.bool _) hr hx)
            · exact upon_val (u := .bool false) (w' := w) (by unfold execOp; rw [hop]; simp [hu, show a.eval (.const .nilIface) = .nilIface from rfl, eqGuard, binOp, hen]) (hK _ _ _ _ _ (.bool _) hr hx)
          · rcases ifcN_rel en hv with ⟨rfl, rfl⟩ | ⟨rfl, t, d, rfl⟩
            · exact upon_val (u := .bool false) (w' := w) (by unfold execOp; rw [hop]; simp [hu, show a.eval (.const .nilIface) = .nilIface from rfl, eqGuard, binOp, hnn]) (hK _ _ _ _ _ (.bool _) hr hx)
            · exact upon_val (u := .bool true) (w' := w) (by unfold execOp; rw [hop]; simp [hu, show a.eval (.const .nilIface) = .nilIface from rfl, eqGuard, binOp, hen]) (hK _ _ _ _ _ (.bool _) hr hx)
          · exact hx.elim
        · exact hx.elim
      obtain ⟨r, r1, r2, r3⟩ := binX_ok (P := P) (ty := ty) (x := x) (y := y) (w := w) (fun hB => isBool_ok hT hB) (fun n k hA => arrInt_ok hT hA) hx (hr.ev x) (hr.ev y)
      exact upon_val (by unfold execOp; rw [hop]; exact run_val r1) (hK _ _ _ _ _ r2 hr r3)
  | unOp op ty x =>
    rw [hop] at hx
    simp only [opX] at hx
    obtain ⟨r, r1, r2, r3⟩ := unX_ok (P := P) (w := w) hx (hr.ev x)
    exact upon_val (by unfold execOp; rw [hop]; exact run_val r1) (hK _ _ _ _ _ r2 hr r3)
  | makeFunc fn first cap =>
    rw [hop] at hx
    simp only [opX] at hx
    refine upon_val (u := .func fn (first.map a.eval) (cap.map a.eval)) (w' := w) (by unfold execOp; rw [hop]; simp [Instr.makeFunc]) (hK _ _ _ _ _ ?_ hr hx)
    refine .fn _ _ _ _ _ (by simp) (fun i hi => ?_) (by simp) (fun i hi => ?_)
    · simp at hi
      simp only [Array.getD_eq_getD_getElem?, List.getElem?_toArray, List.getElem?_map, Array.getElem?_toList, Array.getElem?_map, Array.getElem?_eq_getElem hi, Option.map_some, Option.getD_some]
      exact hr.ev _
    · simp at hi
      simp only [Array.getD_eq_getD_getElem?, List.getElem?_toArray, List.getElem?_map, Array.getElem?_toList, Array.getElem?_map, Array.getElem?_eq_getElem hi, Option.map_some, Option.getD_some]
      exact hr.ev _
  | fieldAddr ty x j =>
    rw [hop] at hx
    simp only [opX] at hx
    split at hx
    · rename_i i hi
      have ht := hT _ _ hi
      have hv := hr.ev x
      split at hx
      · rename_i offs hk
        have hkk := ht.kind
        rw [hk] at hkk
        simp only at hkk
        obtain ⟨fs, f1, f2, f3⟩ := hkk
        split at hx
        · rename_i b of e
          rw [e] at hv
          split at hx
          · rename_i f hf
            rw [← f2, List.getElem?_map, Array.getElem?_toList] at hf
            obtain ⟨fd, h1, h2⟩ := Option.map_eq_some_iff.1 hf
            obtain ⟨inf, i1, _, i2⟩ := f3 j fd h1
            refine upon_val (u := .pointer (some ⟨(ι b).blk, (ι b).off + (of + f), none⟩)) (w' := w) ?_ (hK _ _ _ _ _ ?_ hr hx)
            · unfold execOp; rw [hop]
              simp [hv.ptr_inv, Instr.fieldAt, run_underlying f1, h1, Instr.sureAddr, fieldPlace, sizeOf, typeInfo, i1, i2]
              rw [← h2, add_addr, Nat.add_assoc]
            · exact .ptr b (of + f) hv.ptr_lt
          · exact hx.elim
        · exact hx.elim
      · exact hx.elim
    · exact hx.elim
  | indexAddr ty x ix =>
    rw [hop] at hx
    simp only [opX] at hx
    split at hx
    · rename_i i hi
      have ht := hT _ _ hi
      have hv := hr.ev x
      have hiv := hr.ev ix
      split at hx
      · rename_i e hk
        have hkk := ht.kind
        rw [hk] at hkk
        simp only at hkk
        split at hx
        · rename_i ie hie
          have hte := hT _ _ hie
          split at hx
          · rename_i b of n c ee
            rw [ee] at hv
            split at hx
            · rename_i kk k ek
              rw [ek] at hiv
              obtain ⟨A, c', hu, hA⟩ := hv.sl_inv
              have hlo := hx.lo
              have hhi := hx.hi
              obtain ⟨rfl, hb, _⟩ := hA (by omega)
              refine upon_val (u := .pointer (some ⟨(ι b).blk, (ι b).off + (of + mulE k.toNat ie.size), none⟩)) (w' := w) ?_ (hK _ _ _ _ _ (.ptr b _ hb) hr hx.out)
              unfold execOp; rw [hop]
              simp [hu, hiv.int_inv, Instr.indexAt, asIntOf, run_underlying hkk, hlo, hhi, hte.size w]
              rw [mulE_add, Nat.add_assoc]
            · exact hx.elim
          · exact hx.elim
        · exact hx.elim
      · rename_i n e hk
        have hkk := ht.kind
        rw [hk] at hkk
        simp only at hkk
        split at hx
        · rename_i ie hie
          have hte := hT _ _ hie
          split at hx
          · rename_i b of ee
            rw [ee] at hv
            split at hx
            · rename_i kk k ek
              rw [ek] at hiv
              obtain ⟨h1, hx⟩ := onT_inv hx
              have hlo := hx.lo
              have hhi := hx.hi
              refine upon_val (u := .pointer (some ⟨(ι b).blk, (ι b).off + (of + mulE k.toNat ie.size), none⟩)) (w' := w) ?_ (hK _ _ _ _ _ (.ptr b _ hv.ptr_lt) hr hx.out)
              unfold execOp; rw [hop]
              simp [hv.ptr_inv, hiv.int_inv, Instr.indexAt, asIntOf, run_underlying hkk, hlo, hhi, hte.size w, Instr.sureAddr]
              rw [mulE_add, Nat.add_assoc]
            · exact hx.elim
          · exact hx.elim
        · exact hx.elim
      · exact hx.elim
    · exact hx.elim
  | makeSlice ty l c =>
    rw [hop] at hx
    simp only [opX] at hx
    split at hx
    · rename_i i hi
      have ht := hT _ _ hi
      split at hx
      · rename_i e hk
        have hkk := ht.kind
        rw [hk] at hkk
        simp only at hkk
        split at hx
        · rename_i ie hie
          have hte := hT _ _ hie
          have hlv := hr.ev l
          have hcv := hr.ev c
          split at hx
          · rename_i kl x el
            rw [el] at hlv
            split at hx
            · rename_i kc y ec
              rw [ec] at hcv
              obtain ⟨h0, rfl, hb0, hb, hx⟩ := hx
              obtain ⟨inf, i1, i2, i3, i4⟩ := hte.info
              obtain ⟨m, rfl⟩ := Int.eq_ofNat_of_zero_le h0
              have hzr := zeros_rel (ι := ι) (n := h.length) hte m
              have hra := hr.alloc (us := madeCells ie.zval.cells (m * ie.size)) e ie.size m hte.zp.2.2.2 (size_madeCells _ _) (by simp only [maxLen]; omega) hzr
              have hrun := run_make (P := P) w ty e inf ie.zval hkk i1 i4 kl kc (m : Int) (m : Int) (by omega) (Int.le_refl _) (by rw [i3, Int.mul_comm]; omega) (by omega)
              rw [i2] at hrun
              simp only [Int.toNat_natCast] at hrun
              have hx := hx.out _ _ rfl rfl
              simp only [Int.toNat_natCast] at hx
              refine upon_val (u := .slice (some ⟨w.heap.size, 0, none⟩) m m) (w' := w.alloc (.cells (madeCells ie.zval.cells (m * ie.size)) e)) ?_ (hK _ _ _ _ _ ?_ hra hx)
              · unfold execOp; rw [hop]
                simp only [hlv.int_inv, hcv.int_inv]
                exact run_val hrun
              · have := VR.slS (ι := upι ι h.length ⟨w.heap.size, 0, m, false⟩) (n := (h ++ [some (⟨(List.replicate m ie.zero).flatten, some (e, ie.size)⟩ : Blk)]).length) h.length m (by simp) (.inl (by rw [upι_self]; exact Nat.le_refl _))
                rw [upι_self] at this
                exact this
            · exact hx.elim
          · exact hx.elim
        · exact hx.elim
      · exact hx.elim
    · exact hx.elim
  | buildSlice ty len parts =>
    rw [hop] at hx
    simp only [opX] at hx
    split at hx
    · rename_i i hi
      have ht := hT _ _ hi
      split at hx
      · rename_i e hk
        have hkk := ht.kind
        rw [hk] at hkk
        simp only at hkk
        split at hx
        · rename_i ie hie
          have hte := hT _ _ hie
          obtain ⟨h1, hx⟩ := onT_inv hx
          obtain ⟨h2, hx⟩ := onT_inv hx
          have h1 := Nat.le_of_ble_eq_true h1
          obtain ⟨inf, i1, i2, i3, i4⟩ := hte.info
          have hpos : ie.size ≠ 0 := hte.zp.2.2.2
          have hzr := zeros_rel (ι := ι) (n := h.length) hte len
          have hfl : (List.replicate len ie.zero).flatten.length = len * ie.size := by simp [hte.zp.2.1]
          have hparts : ∀ p ∈ parts.toList, (vcells (evN N t p.2)).length = ie.size ∧ (vcells (evN N t p.2)).all one1 = true ∧ p.1 < len := by
            intro p hp
            have := List.all_eq_true.1 h2 p hp
            simp only [Bool.and_eq_true] at this
            exact ⟨Nat.eq_of_beq_eq_true this.1.1, this.1.2, by have := this.2; simpa [Nat.blt_eq] using this⟩
          obtain ⟨us', f1, f2, f3⟩ := fill_rel (ι := ι) (n := h.length) (place := fun i => some (i * ie.size, ie.size)) (parts.toList.map fun p => (p.1, a.eval p.2)) (parts.toList.map fun p => (mulE p.1 ie.size, vcells (evN N t p.2)))
            (List.replicate len ie.zero).flatten (madeCells ie.zval.cells (len * ie.size)) (by rw [hfl, size_madeCells]) hzr (by simp) (by
              intro j p q hp hq
              rw [List.getElem?_map] at hp hq
              obtain ⟨x, hx1, rfl⟩ := Option.map_eq_some_iff.1 hp
              rw [hx1] at hq
              simp only [Option.map_some, Option.some.injEq] at hq
              subst hq
              obtain ⟨p1, p2, p3⟩ := hparts x (List.mem_of_getElem? hx1)
              obtain ⟨v1, v2, v3⟩ := vcells_rel (hr.ev x.2) p2
              refine ⟨ie.size, by simp [mulE_eq], by simp at v1 ⊢; omega, p1, ?_, v2⟩
              rw [hfl]
              simp only [mulE_eq]
              have : (x.1 + 1) * ie.size ≤ len * ie.size := Nat.mul_le_mul_right _ p3
              rw [Nat.add_mul] at this
              omega)
          have hra := hr.alloc (us := us') e ie.size len hte.zp.2.2.2 (by rw [f2, size_madeCells]) (by
            simp only [maxLen]
            have : len ≤ 4096 := Nat.le_trans (Nat.le_mul_of_pos_right _ (Nat.pos_of_ne_zero hpos)) h1
            omega) f3
          refine upon_val (u := .slice (some ⟨w.heap.size, 0, none⟩) len len) (w' := w.alloc (.cells us' e)) ?_ (hK _ _ _ _ _ ?_ hra (hx.out _ _ rfl rfl))
          · unfold execOp; rw [hop]
            refine run_val ?_
            by_cases hz : len * ie.size = 0
            · have hp0 : parts.toList = [] := by
                cases hpl : parts.toList with
                | nil => rfl
                | cons p ps =>
                  have := (hparts p (by rw [hpl]; exact List.mem_cons_self)).2.2
                  have : len * ie.size ≠ 0 := Nat.mul_ne_zero (by omega) hpos
                  exact absurd hz this
              rw [hp0] at f1
              simp only [List.map_nil, Instr.fill, Option.some.injEq] at f1
              have hp0' : parts = #[] := by simpa using hp0
              subst hp0'
              have hl0 : len = 0 := by
                rcases Nat.mul_eq_zero.1 hz with h | h
                · exact h
                · exact absurd h hpos
              subst hl0
              rw [← f1]
              simp [Instr.buildSlice, run_underlying hkk, sizeOf, typeInfo, i1, Instr.fill, newRow, madeCells, show Array.range 0 = #[] from rfl]
            · refine run_buildSlice w ty e len _ us' inf ie.zval hkk i1 i4 (by rw [i2]; omega) (by rw [i2]; exact hz) ?_
              rw [i2]
              simpa [madeCells] using f1
          · have := VR.slS (ι := upι ι h.length ⟨w.heap.size, 0, len, false⟩) (n := (h ++ [some (⟨fillL (parts.toList.map fun p => (mulE p.1 ie.size, vcells (evN N t p.2))) (List.replicate len ie.zero).flatten, some (e, ie.size)⟩ : Blk)]).length) h.length len (by simp) (.inl (by rw [upι_self]; exact Nat.le_refl _))
            rw [upι_self] at this
            exact this
        · exact hx.elim
      · exact hx.elim
    · exact hx.elim
  | call c =>
    rw [hop] at hx
    simp only [opX] at hx
    split at hx
    · rename_i f hcal
      split at hx
      · rename_i g first cap hf
        obtain ⟨args', h1, h2⟩ := hx.ex
        exact op_call hr hop hcal hf (h2.wk h1) hK
      · exact hx.elim
    · rename_i hcal
      split at hx
      · rename_i x hargs
        split at hx
        · rename_i ty htys
          split at hx
          · rename_i i hi
            have ht := hT _ _ hi
            split at hx
            · rename_i e hk
              have hkk := ht.kind
              rw [hk] at hkk
              simp only at hkk
              have hv := hr.ev x
              split at hx
              · rename_i A n cc ev
                rw [ev] at hv
                obtain ⟨A', c', hu⟩ := hv.sl_len
                have ha' : c.args = #[x] := by rw [← Array.toArray_toList (xs := c.args), hargs]
                have ht' : c.argTypes = #[ty] := by rw [← Array.toArray_toList (xs := c.argTypes), htys]
                refine upon_val (u := .int .i64 n) (w' := w) ?_ (hK _ _ _ _ _ (.int _ _) hr hx)
                unfold execOp; rw [hop]
                simp [resolve, hcal, ha', ht', hu, invoke, builtin, Builtin.len_, run_underlying hkk, goInt]
              · exact hx.elim
            · rename_i hk
              have hkk := ht.kind
              rw [hk] at hkk
              simp only at hkk
              have hv := hr.ev x
              split at hx
              · rename_i s ev
                rw [ev] at hv
                have hu := hv.string_inv
                have ha' : c.args = #[x] := by rw [← Array.toArray_toList (xs := c.args), hargs]
                have ht' : c.argTypes = #[ty] := by rw [← Array.toArray_toList (xs := c.argTypes), htys]
                refine upon_val (u := .int .i64 s.size) (w' := w) ?_ (hK _ _ _ _ _ (.int _ _) hr hx)
                unfold execOp; rw [hop]
                simp [resolve, hcal, ha', ht', hu, invoke, builtin, Builtin.len_, run_underlying hkk, goInt]
              · exact hx.elim
            · exact hx.elim
          · exact hx.elim
        · exact hx.elim
      · exact hx.elim
    · rename_i hcal
      split at hx
      · rename_i s x hargs
        split at hx
        · rename_i ty ty2 htys
          split at hx
          · rename_i i hi
            have ht := hT _ _ hi
            split at hx
            · rename_i e hk
              have hkk := ht.kind
              rw [hk] at hkk
              simp only at hkk
              split at hx
              · rename_i ie hie
                have hte := hT _ _ hie
                split at hx
                · rename_i hty
                  have hty := Nat.eq_of_beq_eq_true hty
                  subst hty
                  have hsv := hr.ev s
                  have hxv := hr.ev x
                  rcases hx.ex with ⟨kb, n, cells, m, news, e1, e4, e5, e6, e7, e8, hx⟩ | ⟨es, ⟨A, c0, ex⟩, hx⟩
                  case inr =>
                    rw [es] at hsv
                    have hus : a.eval s = .slice none 0 0 := by
                      generalize a.eval s = u at hsv
                      cases hsv
                      rfl
                    rw [ex] at hxv
                    obtain ⟨A', c', hu⟩ := hxv.sl_len
                    obtain ⟨inf, i1, i2, i3, i4⟩ := hte.info
                    have ha' : c.args = #[s, x] := by rw [← Array.toArray_toList (xs := c.args), hargs]
                    have ht' : c.argTypes = #[ty, ty] := by rw [← Array.toArray_toList (xs := c.argTypes), htys]
                    refine upon_val (u := .slice none 0 0) (w' := w) ?_ (hK _ _ _ _ _ .slN hr hx)
                    unfold execOp; rw [hop]
                    simp [resolve, hcal, ha', ht', hus, hu, invoke, builtin]
                    rw [run_append_none w hkk i1 A' c']
                    rfl
                  have hsrc : (∃ c, a.eval x = .slice none m c ∧ m = 0 ∧ news = []) ∨ (∃ ad c, ∃ us : List Value, a.eval x = .slice (some ad) m c ∧ us.length = news.length ∧ (∀ (j : Nat) u, us[j]? = some u → w.cell? (ad.add j) = some u) ∧ (∀ (k : Nat) v, news[k]? = some v → ∃ u, us[k]? = some u ∧ VR ι h.length v u)) := by
                    have hempty : ∀ u : Value, (∃ A c, u = .slice A 0 c) → m = 0 → news = [] → (∃ c, u = .slice none m c ∧ m = 0 ∧ news = []) ∨ (∃ ad c, ∃ us : List Value, u = .slice (some ad) m c ∧ us.length = news.length ∧ (∀ (j : Nat) u, us[j]? = some u → w.cell? (ad.add j) = some u) ∧ (∀ (k : Nat) v, news[k]? = some v → ∃ u, us[k]? = some u ∧ VR ι h.length v u)) := by
                      rintro u ⟨A, c, rfl⟩ hm hn
                      subst hm hn
                      cases A with
                      | none => exact .inl ⟨c, rfl, rfl, rfl⟩
                      | some ad => exact .inr ⟨ad, c, [], rfl, rfl, fun j u hj => by simp at hj, fun k v hk => by simp at hk⟩
                    rcases e8 with ⟨c0, ex, hm, hn⟩ | ⟨A, c0, ex, hm, hn⟩ | ⟨b2, o2, c0, blk2, raw, ex, el, en, ew⟩
                    · rw [ex] at hxv
                      obtain ⟨A', c', hu⟩ := hxv.sl_len
                      exact hempty _ ⟨A', c', hu⟩ hm hn
                    · rw [ex] at hxv
                      obtain ⟨A', c', hu⟩ := hxv.sl_len
                      exact hempty _ ⟨A', c', hu⟩ hm hn
                    · rw [ex] at hxv
                      obtain ⟨A', c', hu, hA⟩ := hxv.sl_inv
                      rcases Nat.eq_zero_or_pos m with hm | hm
                      · subst hm
                        exact hempty _ ⟨A', c', hu⟩ rfl (by simpa using e4)
                      · obtain ⟨rfl, hb2, _⟩ := hA hm
                        obtain ⟨cs, e', fr, g1, g2, _⟩ := hr.hr.cel el (.inl (by
                          intro en2
                          rw [en2] at en
                          have h0 : 0 < news.length := by rw [e4]; exact Nat.mul_pos hm (Nat.pos_of_ne_zero hte.zp.2.2.2)
                          have := congrArg List.length en
                          rw [ew.length] at this
                          simp at this
                          omega))
                        refine .inr ⟨_, c', (cs.toList.drop ((ι b2).off + o2)).take news.length, hu, ?_, ?_, ?_⟩
                        · have hpos : 0 < news.length := by rw [e4]; exact Nat.mul_pos hm (Nat.pos_of_ne_zero hte.zp.2.2.2)
                          have hdl : news.length ≤ (blk2.cells.drop o2).length := by
                            have := congrArg List.length en
                            rw [ew.length, List.length_take] at this
                            omega
                          have hk := List.getElem?_eq_getElem (l := blk2.cells.drop o2) (i := news.length - 1) (by omega)
                          rw [List.getElem?_drop] at hk
                          obtain ⟨u, q1, q2⟩ := g2 _ _ hk
                          have := (Array.getElem?_eq_some_iff.1 q1).1
                          simp
                          omega
                        · intro j u hj
                          rw [List.getElem?_take] at hj
                          split at hj
                          · rw [List.getElem?_drop] at hj
                            rw [add_addr]
                            simp only [World.cell?, g1]
                            simpa using hj
                          · cases hj
                        · intro k v hk
                          have hkl := (List.getElem?_eq_some_iff.1 hk).1
                          obtain ⟨v0, hk0, hw0⟩ := ew.get k v hk
                          have h1 : blk2.cells[o2 + k]? = some v0 := by
                            rw [← en, List.getElem?_take] at hk0
                            split at hk0
                            · rw [List.getElem?_drop] at hk0; exact hk0
                            · cases hk0
                          obtain ⟨u, q1, q2⟩ := g2 _ _ h1
                          refine ⟨u, ?_, hw0 _ _ _ q2⟩
                          rw [List.getElem?_take, if_pos hkl, List.getElem?_drop]
                          rw [← Nat.add_assoc] at q1
                          simpa using q1
                  have ha' : c.args = #[s, x] := by rw [← Array.toArray_toList (xs := c.args), hargs]
                  have ht' : c.argTypes = #[ty, ty] := by rw [← Array.toArray_toList (xs := c.argTypes), htys]
                  cases kb with
                  | some b =>
                    obtain ⟨es, e1, e3⟩ := e1
                    rw [es] at hsv
                    obtain ⟨hus, hbl, _⟩ := hsv.slS_inv
                    obtain ⟨w', ι', u, r1, r2, r3⟩ := append_ok hr (rty := o.type) hkk hte e1 rfl e3 hsrc e4 e5 e6 e7
                    refine upon_val (u := u) (w' := w') ?_ (hK _ _ _ _ _ (by simpa using r2) r3 (hx _ _ rfl rfl))
                    unfold execOp; rw [hop]
                    simp [resolve, hcal, ha', ht', hus, invoke, builtin]
                    rw [r1]
                    rfl
                  | none =>
                    obtain ⟨es, rfl, rfl, hm0⟩ := e1
                    rw [es] at hsv
                    have hus : a.eval s = .slice none 0 0 := by
                      generalize a.eval s = u at hsv
                      cases hsv
                      rfl
                    rcases hsrc with ⟨_, _, h0, _⟩ | hsrc
                    · omega
                    obtain ⟨w', ι', u, r1, r2, r3⟩ := append_nil_ok hr (rty := o.type) hkk hte hm0 hsrc e4 e5 (by simpa using e6) (by simpa using e7)
                    refine upon_val (u := u) (w' := w') ?_ (hK _ _ _ _ _ (by simpa using r2) r3 (hx _ _ rfl (by simp)))
                    unfold execOp; rw [hop]
                    simp [resolve, hcal, ha', ht', hus, invoke, builtin]
                    rw [r1]
                    rfl
                · split at hx
                  · rename_i i2 hi2
                    split at hx
                    · rename_i kk hk2
                      have ht2 := hT _ _ hi2
                      have hkk2 := ht2.kind
                      rw [hk2] at hkk2
                      simp only at hkk2
                      have hsv := hr.ev s
                      have hxv := hr.ev x
                      rcases hx.ex with ⟨hag, m, ex, hx⟩ | ⟨m, ex, es, hm0, e6, e7, hx⟩
                      rotate_left
                      · rw [ex] at hxv
                        have hu := hxv.int_inv
                        have ha' : c.args = #[s, x] := by rw [← Array.toArray_toList (xs := c.args), hargs]
                        have ht' : c.argTypes = #[ty, ty2] := by rw [← Array.toArray_toList (xs := c.argTypes), htys]
                        rw [es] at hsv
                        have hus : a.eval s = .slice none 0 0 := by
                          generalize a.eval s = u at hsv
                          cases hsv
                          rfl
                        obtain ⟨w', ι', u, r1, r2, r3⟩ := appendZ_nil_all hr (rty := o.type) hkk hkk2 hte hm0 rfl e6 e7
                        refine upon_val (u := u) (w' := w') ?_ (hK _ _ _ _ _ (by simpa using r2) r3 (hx _ _ rfl (by simp)))
                        unfold execOp; rw [hop]
                        simp [resolve, hcal, ha', ht', hus, hu, invoke, builtin]
                        rw [r1]
                        rfl
                      rw [ex] at hxv
                      have hu := hxv.int_inv
                      have ha' : c.args = #[s, x] := by rw [← Array.toArray_toList (xs := c.args), hargs]
                      have ht' : c.argTypes = #[ty, ty2] := by rw [← Array.toArray_toList (xs := c.argTypes), htys]
                      rcases hx with ⟨es, rfl, hx⟩ | ⟨kb, n, cells, e1, e6, e7, hx⟩
                      · rw [es] at hsv
                        have hus : a.eval s = .slice none 0 0 := by
                          generalize a.eval s = u at hsv
                          cases hsv
                          rfl
                        obtain ⟨inf, i1, i2, i3, i4⟩ := hte.info
                        refine upon_val (u := .slice none 0 0) (w' := w) ?_ (hK _ _ _ _ _ .slN hr hx)
                        unfold execOp; rw [hop]
                        simp [resolve, hcal, ha', ht', hus, hu, invoke, builtin]
                        rw [run_append_zeros_none w hkk hkk2 i1]
                        rfl
                      · cases kb with
                        | some b =>
                          obtain ⟨es, e1, e3⟩ := e1
                          rw [es] at hsv
                          obtain ⟨hus, hbl, _⟩ := hsv.slS_inv
                          obtain ⟨w', ι', u, r1, r2, r3⟩ := appendZ_ok hr (rty := o.type) hkk hkk2 hte hag e1 rfl e3 rfl e6 e7
                          refine upon_val (u := u) (w' := w') ?_ (hK _ _ _ _ _ (by simpa using r2) r3 (hx _ _ rfl rfl))
                          unfold execOp; rw [hop]
                          simp [resolve, hcal, ha', ht', hus, hu, invoke, builtin]
                          rw [r1]
                          rfl
                        | none =>
                          obtain ⟨es, rfl, rfl, hm0⟩ := e1
                          rw [es] at hsv
                          have hus : a.eval s = .slice none 0 0 := by
                            generalize a.eval s = u at hsv
                            cases hsv
                            rfl
                          obtain ⟨w', ι', u, r1, r2, r3⟩ := appendZ_nil_ok hr (rty := o.type) hkk hkk2 hte hag hm0 rfl (by simpa using e6) (by simpa using e7)
                          refine upon_val (u := u) (w' := w') ?_ (hK _ _ _ _ _ (by simpa using r2) r3 (hx _ _ rfl (by simp)))
                          unfold execOp; rw [hop]
                          simp [resolve, hcal, ha', ht', hus, hu, invoke, builtin]
                          rw [r1]
                          rfl
                    · exact hx.elim
                  · exact hx.elim
              · exact hx.elim
            · exact hx.elim
          · exact hx.elim
        · exact hx.elim
      · exact hx.elim
    · rename_i hcal
      split at hx
      · rename_i x hargs
        split at hx
        · rename_i ty htys
          split at hx
          · rename_i i hi
            have ht := hT _ _ hi
            split at hx
            · rename_i e hk
              have hkk := ht.kind
              rw [hk] at hkk
              simp only at hkk
              have hv := hr.ev x
              split at hx
              · rename_i ev
                rw [ev] at hv
                have hu : a.eval x = .slice none 0 0 := by
                  generalize a.eval x = u at hv
                  cases hv
                  rfl
                have ha' : c.args = #[x] := by rw [← Array.toArray_toList (xs := c.args), hargs]
                have ht' : c.argTypes = #[ty] := by rw [← Array.toArray_toList (xs := c.argTypes), htys]
                refine upon_val (u := .int .i64 0) (w' := w) ?_ (hK _ _ _ _ _ (.int _ _) hr hx)
                unfold execOp; rw [hop]
                simp [resolve, hcal, ha', ht', hu, invoke, builtin, Builtin.cap_, run_underlying hkk, goInt]
              · exact hx.elim
            · exact hx.elim
          · exact hx.elim
        · exact hx.elim
      · exact hx.elim
    · rename_i hcal
      split at hx
      · rename_i x y hargs
        have hv := hr.ev x
        have hv2 := hr.ev y
        split at hx
        · rename_i k p1 ev
          rw [ev] at hv
          split at hx
          · rename_i k2 p2 ev2
            rw [ev2] at hv2
            have ha' : c.args = #[x, y] := by rw [← Array.toArray_toList (xs := c.args), hargs]
            refine upon_val (u := .int k (if p2 > p1 then p2 else p1)) (w' := w) ?_ (hK _ _ _ _ _ (.int _ _) hr hx)
            unfold execOp; rw [hop]
            simp [resolve, hcal, ha', hv.int_inv, hv2.int_inv, invoke, builtin, Builtin.max_, Builtin.max2]
          · exact hx.elim
        · exact hx.elim
      · exact hx.elim
    · rename_i hcal
      split at hx
      · rename_i x y hargs
        have hv := hr.ev x
        have hv2 := hr.ev y
        split at hx
        · rename_i k p1 ev
          rw [ev] at hv
          split at hx
          · rename_i k2 p2 ev2
            rw [ev2] at hv2
            have ha' : c.args = #[x, y] := by rw [← Array.toArray_toList (xs := c.args), hargs]
            refine upon_val (u := .int k (if p2 < p1 then p2 else p1)) (w' := w) ?_ (hK _ _ _ _ _ (.int _ _) hr hx)
            unfold execOp; rw [hop]
            simp [resolve, hcal, ha', hv.int_inv, hv2.int_inv, invoke, builtin, Builtin.min_, Builtin.min2]
          · exact hx.elim
        · exact hx.elim
      · exact hx.elim
    · rename_i hcal
      split at hx
      · rename_i d x hargs
        split at hx
        · rename_i ty ty2 htys
          split at hx
          · rename_i i hi
            have ht := hT _ _ hi
            split at hx
            · rename_i e hk
              have hkk := ht.kind
              rw [hk] at hkk
              simp only at hkk
              split at hx
              · rename_i ie hie
                have hte := hT _ _ hie
                have hdv := hr.ev d
                have hxv := hr.ev x
                have ha' : c.args = #[d, x] := by rw [← Array.toArray_toList (xs := c.args), hargs]
                have ht' : c.argTypes = #[ty, ty2] := by rw [← Array.toArray_toList (xs := c.argTypes), htys]
                rcases hx.ex with ⟨A, n, cc, A2, n2, c2, ed, ex, hm, hx⟩ | ⟨b, o', n, cc, b2, o2, n2, c2, m, news, blk, blk2, ed, ex, hm, hm0, e1, e2, e3, e4, e5, e6, e7, hx⟩
                · rw [ed] at hdv
                  rw [ex] at hxv
                  obtain ⟨A', c', hu⟩ := hdv.sl_len
                  obtain ⟨A2', c2', hu2⟩ := hxv.sl_len
                  refine upon_val (u := .int .i64 0) (w' := w) ?_ (hK _ _ _ _ _ (.int _ _) hr hx)
                  unfold execOp; rw [hop]
                  have := fun rty => run_copy_zero (P := P) (ty2 := ty2) (rty := rty) w hkk (hte.size w) A' c' A2' c2' hm
                  simp [resolve, hcal, ha', ht', hu, hu2, invoke, builtin, this]
                · rw [ed] at hdv
                  rw [ex] at hxv
                  obtain ⟨A', c', hu, hA⟩ := hdv.sl_inv
                  obtain ⟨A2', c2', hu2, hA2⟩ := hxv.sl_inv
                  obtain ⟨rfl, hb1, _⟩ := hA (by omega)
                  obtain ⟨rfl, hb2, _⟩ := hA2 (by omega)
                  have hpos : 0 < news.length := by rw [e6]; exact Nat.mul_pos hm0 (Nat.pos_of_ne_zero hte.zp.2.2.2)
                  obtain ⟨⟨ot, os⟩, how⟩ := Option.isSome_iff_exists.1 e2
                  obtain ⟨cs, e', fr, g1, g2, g3⟩ := hr.hr.cel e1 (.inl (by intro en; have h8 : blk.cells.length = 0 := (by rw [en]; rfl); omega))
                  obtain ⟨rfl, rfl, hoff, hsz, hcle, hcap⟩ := g3 _ _ how
                  obtain ⟨us, u1, u2, u3⟩ := take_rel hr.hr e4 hpos (by rw [e6]; exact e5)
                  have hst := hr.store (o := o') e1 how u1.symm e3 u3 g1
                  have hone : ∀ y ∈ us, y.oneCell' = true := fun y hy => by
                    obtain ⟨k, hk, e⟩ := List.getElem_of_mem hy
                    have hk2 : k < news.length := by omega
                    obtain ⟨u', a1, a2⟩ := u3 k _ (List.getElem?_eq_getElem hk2)
                    have a3 : us[k]? = some us[k] := List.getElem?_eq_getElem hk
                    have a4 : us[k] = u' := by rw [a3] at a1; injection a1
                    rw [← e, a4]
                    exact (one1_rel (List.all_eq_true.1 e7 _ (List.getElem_mem hk2)) a2).1
                  refine upon_val (u := .int .i64 m) (w' := w.setRow (ι b).blk (cs.toList.take o' ++ us ++ cs.toList.drop (o' + us.length)).toArray) ?_ (hK _ _ _ _ _ (.int _ _) hst (hx _ rfl))
                  have e0 : (ι b).off + o' = o' := by omega
                  unfold execOp; rw [hop]
                  have := fun rty => run_copy_some (P := P) (w := w) (ty2 := ty2) (rty := rty) hkk (hte.size w) (o := o') (n := n) (c := c') (n2 := n2) (c2 := c2') (A2 := ⟨(ι b2).blk, (ι b2).off + o2, none⟩) hm (by omega) g1 (by omega) u2 hone
                  rw [e0] at hu
                  simp [resolve, hcal, ha', ht', hu, hu2, invoke, builtin, this]
              · exact hx.elim
            · exact hx.elim
          · exact hx.elim
        · exact hx.elim
      · exact hx.elim
    · exact hx.elim
  | nilCheck x =>
    rw [hop] at hx
    simp only [opX] at hx
    split at hx
    · rename_i b o ex
      have hv := hr.ev x
      rw [ex] at hv
      refine upon_val (u := a.eval x) (w' := w) ?_ (hK _ _ _ _ _ hv hr hx)
      unfold execOp; rw [hop]
      simp [hv.ptr_inv]
    · exact hx.elim
  | build ty parts =>
    rw [hop] at hx
    simp only [opX] at hx
    split at hx
    · rename_i i hi
      have ht := hT _ _ hi
      obtain ⟨inf, i1, i2, i3, i4⟩ := ht.info
      obtain ⟨z1, z2⟩ := zval_rel (ι := ι) (n := h.length) ht
      split at hx
      · rename_i offs hk
        have hkk := ht.kind
        rw [hk] at hkk
        simp only at hkk
        obtain ⟨fs, f1, f2, f3⟩ := hkk
        obtain ⟨h2, hx⟩ := onT_inv hx
        have hparts : ∀ p ∈ parts.toList, p.1 < offs.length ∧ (vcells (evN N t p.2)).length = gap offs i.size p.1 ∧ (vcells (evN N t p.2)).all one1 = true ∧ offs.getD p.1 0 + gap offs i.size p.1 ≤ i.size := by
          intro p hp
          have := List.all_eq_true.1 h2 p hp
          simp only [Bool.and_eq_true] at this
          exact ⟨by simpa [Nat.blt_eq] using this.1.1.1, Nat.eq_of_beq_eq_true this.1.1.2, this.1.2, Nat.le_of_ble_eq_true this.2⟩
        have hall : ∀ f ∈ fs.toList, ∃ y, ((P.info? f.type).map fun i => (f.offset, i.size)) = some y := by
          intro f hf
          obtain ⟨j, hj⟩ := List.mem_iff_getElem?.1 hf
          obtain ⟨inf, q1, _⟩ := f3 j f (by simpa using hj)
          exact ⟨_, by rw [q1]; rfl⟩
        obtain ⟨places, p1, p2⟩ := mapM_some _ _ hall
        have hplace : ∀ j, j < offs.length → places[j]? = some (offs.getD j 0, gap offs i.size j) := by
          intro j hj
          have hfl : j < fs.size := by rw [← f2] at hj; simpa using hj
          have hfj : fs[j]? = some fs[j] := Array.getElem?_eq_getElem hfl
          obtain ⟨inf, q1, q2, _⟩ := f3 j _ hfj
          have := p2 j fs[j] (fs[j].offset, inf.size) (by simp) (by rw [q1]; rfl)
          rw [this, q2]
          have : offs.getD j 0 = fs[j].offset := by
            rw [← f2]
            simp [List.getD_eq_getElem?_getD, hfj]
          rw [this]
        obtain ⟨us', g1, g2, g3⟩ := fill_rel (ι := ι) (n := h.length) (place := fun j => places.toArray[j]?) (parts.toList.map fun p => (p.1, a.eval p.2)) (parts.toList.map fun p => (offs.getD p.1 0, vcells (evN N t p.2)))
          i.zero i.zval.cells (by rw [z1, ht.zp.2.1]) z2 (by simp) (by
            intro j p q hp hq
            rw [List.getElem?_map] at hp hq
            obtain ⟨x, hx1, rfl⟩ := Option.map_eq_some_iff.1 hp
            rw [hx1] at hq
            simp only [Option.map_some, Option.some.injEq] at hq
            subst hq
            obtain ⟨q0, q1, q2, q3⟩ := hparts x (List.mem_of_getElem? hx1)
            obtain ⟨v1, v2, v3⟩ := vcells_rel (hr.ev x.2) q2
            refine ⟨gap offs i.size x.1, by simpa using hplace _ q0, by simp at v1 ⊢; omega, q1, ?_, v2⟩
            rw [ht.zp.2.1]
            exact q3)
        refine upon_val (u := .agg us') (w' := w) ?_ (hK _ _ _ _ _ ?_ hr hx)
        · unfold execOp; rw [hop]
          refine run_val (run_build w ty _ us' ?_)
          unfold Program.built
          simp only [i1, f1, i4, p1]
          simpa using g1
        · refine .agg _ _ ?_ fun j hj => ?_
          · have hfl : ∀ (qs : List (Nat × List Value)) (cs : List Value), (∀ q ∈ qs, q.1 + q.2.length ≤ cs.length) → (fillL qs cs).length = cs.length := by
              intro qs
              induction qs with
              | nil => intro cs _; rfl
              | cons q qs ih =>
                intro cs hq
                have h0 := setCells_length cs q.1 q.2 (hq q (by simp))
                show (fillL qs (setCells cs q.1 q.2)).length = _
                rw [ih _ (fun q' hq' => by rw [h0]; exact hq q' (List.mem_cons_of_mem _ hq')), h0]
            rw [List.size_toArray, hfl _ _ (fun q hq => by
              obtain ⟨p, hp, rfl⟩ := List.mem_map.1 hq
              obtain ⟨_, q1, _, q3⟩ := hparts p hp
              simp only
              rw [q1, ht.zp.2.1]; exact q3), g2, z1, ht.zp.2.1]
          · simp only [List.size_toArray] at hj
            obtain ⟨u, e1, e2⟩ := g3 j _ (List.getElem?_eq_getElem hj)
            simp only [Array.getD_eq_getD_getElem?, List.getElem?_toArray, List.getElem?_eq_getElem hj, e1, Option.getD_some]
            exact e2
      · rename_i n e hk
        have hkk := ht.kind
        rw [hk] at hkk
        simp only at hkk
        split at hx
        · rename_i ie hie
          obtain ⟨ine, hine, s1, _⟩ := (hT _ _ hie).info
          obtain ⟨h2, hx⟩ := onT_inv hx
          have hparts : ∀ p ∈ parts.toList, (vcells (evN N t p.2)).length = ie.size ∧ (vcells (evN N t p.2)).all one1 = true ∧ p.1 * ie.size + ie.size ≤ i.size := by
            intro p hp
            have := List.all_eq_true.1 h2 p hp
            simp only [Bool.and_eq_true] at this
            exact ⟨Nat.eq_of_beq_eq_true this.1.1, this.1.2, by have := Nat.le_of_ble_eq_true this.2; rwa [mulE_eq] at this⟩
          obtain ⟨us', g1, g2, g3⟩ := fill_rel (ι := ι) (n := h.length) (place := fun j => some (j * ie.size, ie.size)) (parts.toList.map fun p => (p.1, a.eval p.2)) (parts.toList.map fun p => (mulE p.1 ie.size, vcells (evN N t p.2)))
            i.zero i.zval.cells (by rw [z1, ht.zp.2.1]) z2 (by simp) (by
              intro j p q hp hq
              rw [List.getElem?_map] at hp hq
              obtain ⟨x, hx1, rfl⟩ := Option.map_eq_some_iff.1 hp
              rw [hx1] at hq
              simp only [Option.map_some, Option.some.injEq] at hq
              subst hq
              obtain ⟨q1, q2, q3⟩ := hparts x (List.mem_of_getElem? hx1)
              obtain ⟨v1, v2, v3⟩ := vcells_rel (hr.ev x.2) q2
              refine ⟨ie.size, by simp [mulE_eq], by simp at v1 ⊢; omega, q1, ?_, v2⟩
              rw [ht.zp.2.1]
              show mulE _ _ + _ ≤ _
              rw [mulE_eq]
              exact q3)
          refine upon_val (u := .agg us') (w' := w) ?_ (hK _ _ _ _ _ ?_ hr hx)
          · unfold execOp; rw [hop]
            refine run_val (run_build w ty _ us' ?_)
            unfold Program.built
            simp only [i1, hkk, i4, hine, s1]
            simpa using g1
          · refine .agg _ _ ?_ fun j hj => ?_
            · have hfl : ∀ (qs : List (Nat × List Value)) (cs : List Value), (∀ q ∈ qs, q.1 + q.2.length ≤ cs.length) → (fillL qs cs).length = cs.length := by
                intro qs
                induction qs with
                | nil => intro cs _; rfl
                | cons q qs ih =>
                  intro cs hq
                  have h0 := setCells_length cs q.1 q.2 (hq q (by simp))
                  show (fillL qs (setCells cs q.1 q.2)).length = _
                  rw [ih _ (fun q' hq' => by rw [h0]; exact hq q' (List.mem_cons_of_mem _ hq')), h0]
              rw [List.size_toArray, hfl _ _ (fun q hq => by
                obtain ⟨p, hp, rfl⟩ := List.mem_map.1 hq
                obtain ⟨q1, _, q3⟩ := hparts p hp
                simp only
                rw [q1, ht.zp.2.1, mulE_eq]; exact q3), g2, z1, ht.zp.2.1]
            · simp only [List.size_toArray] at hj
              obtain ⟨u, e1, e2⟩ := g3 j _ (List.getElem?_eq_getElem hj)
              simp only [Array.getD_eq_getD_getElem?, List.getElem?_toArray, List.getElem?_eq_getElem hj, e1, Option.getD_some]
              exact e2
        · exact hx.elim
      · exact hx.elim
    · exact hx.elim
  | slice ty x lo hi mx =>
    rw [hop] at hx
    simp only [opX] at hx
    split at hx
    · exact hx.elim
    · split at hx
      · rename_i i hi'
        have ht := hT _ _ hi'
        split at hx
        · rename_i e hk
          have hkk := ht.kind
          rw [hk] at hkk
          simp only at hkk
          split at hx
          · rename_i ie hie
            have hte := hT _ _ hie
            have hb : ∀ (d : Int) (y : Option Operand) (k : Int), bndV N t d y = some k → (y.map a.eval = none ∧ k = d) ∨ ∃ kk, y.map a.eval = some (.int kk k) := by
              intro d y k hy
              unfold bndV at hy
              split at hy
              · injection hy with hy; exact .inl ⟨rfl, hy.symm⟩
              · rename_i y'
                split at hy
                · rename_i kk k' ey
                  injection hy with hy
                  subst hy
                  have := hr.ev y'
                  rw [ey] at this
                  exact .inr ⟨kk, by simp [this.int_inv]⟩
                · cases hy
            split at hx
            · rename_i ex
              have hv := hr.ev x
              rw [ex] at hv
              split at hx
              · rename_i l hl
                split at hx
                · rename_i r hr'
                  have h1 := hx.lo
                  have h2 := hx.mid
                  have h3 := hx.hi
                  have hu : a.eval x = .slice none 0 0 := by
                    generalize a.eval x = u at hv
                    cases hv
                    rfl
                  have hlo : (lo.map a.eval = none ∧ l.toNat = 0) ∨ ∃ k, lo.map a.eval = some (.int k l.toNat) := by
                    rcases hb _ _ _ hl with ⟨e1, e2⟩ | ⟨kk, e1⟩
                    · exact .inl ⟨e1, by omega⟩
                    · exact .inr ⟨kk, by rw [e1, Int.toNat_of_nonneg h1]⟩
                  have hhi : (hi.map a.eval = none ∧ r.toNat = 0) ∨ ∃ k, hi.map a.eval = some (.int k r.toNat) := by
                    rcases hb _ _ _ hr' with ⟨e1, e2⟩ | ⟨kk, e1⟩
                    · exact .inl ⟨e1, by omega⟩
                    · exact .inr ⟨kk, by rw [e1, Int.toNat_of_nonneg (by omega)]⟩
                  have hrun := slice_run (P := P) hkk (fun w => hte.size w) none 0 0 (lo.map a.eval) (hi.map a.eval) l.toNat r.toNat hlo hhi (by omega) (by omega) (Nat.le_refl 0) w
                  have hl0 : l.toNat = 0 := by omega
                  have hr0 : r.toNat = 0 := by omega
                  rw [← hu, hl0, hr0] at hrun
                  exact upon_val (u := .slice none 0 0) (w' := w) (by unfold execOp; rw [hop]; exact run_val hrun) (hK _ _ _ _ _ .slN hr hx.out)
                · exact hx.elim
              · exact hx.elim
            · rename_i b of n c ex
              have hv := hr.ev x
              rw [ex] at hv
              split at hx
              · rename_i l hl
                split at hx
                · rename_i r hr'
                  have h1 := hx.lo
                  have h2 := hx.mid
                  have h3 := hx.hi
                  obtain ⟨A, c', hu, hA⟩ := hv.sl_inv
                  have hlo : (lo.map a.eval = none ∧ l.toNat = 0) ∨ ∃ k, lo.map a.eval = some (.int k l.toNat) := by
                    rcases hb _ _ _ hl with ⟨e1, e2⟩ | ⟨kk, e1⟩
                    · exact .inl ⟨e1, by omega⟩
                    · exact .inr ⟨kk, by rw [e1, Int.toNat_of_nonneg h1]⟩
                  have hhi : (hi.map a.eval = none ∧ r.toNat = n) ∨ ∃ k, hi.map a.eval = some (.int k r.toNat) := by
                    rcases hb _ _ _ hr' with ⟨e1, e2⟩ | ⟨kk, e1⟩
                    · exact .inl ⟨e1, by omega⟩
                    · exact .inr ⟨kk, by rw [e1, Int.toNat_of_nonneg (by omega)]⟩
                  have hc : n ≤ c' := by
                    rcases Nat.eq_zero_or_pos n with h0 | h0
                    · omega
                    · obtain ⟨_, hbl, h4⟩ := hA h0
                      rcases h4 with h4 | h4
                      · exact h4
                      · rw [hr.hr.conc] at h4; cases h4
                  have hrun := slice_run (P := P) hkk (fun w => hte.size w) A n c' (lo.map a.eval) (hi.map a.eval) l.toNat r.toNat hlo hhi (by omega) (by omega) hc w
                  rw [← hu] at hrun
                  refine upon_val (u := .slice (if c' = l.toNat then A else A.map (·.add (l.toNat * ie.size))) (r.toNat - l.toNat) (c' - l.toNat)) (w' := w) (by unfold execOp; rw [hop]; exact run_val hrun) (hK _ _ _ _ _ ?_ hr hx.out)
                  have weak : VR ι h.length (.slice (some ⟨b, of + mulE l.toNat ie.size, none⟩) (r.toNat - l.toNat) 0) (.slice (if c' = l.toNat then A else A.map (·.add (l.toNat * ie.size))) (r.toNat - l.toNat) (c' - l.toNat)) := by
                    rcases Nat.eq_zero_or_pos (r.toNat - l.toNat) with h0 | h0
                    · rw [h0]; exact .slZ _ _ _
                    · obtain ⟨rfl, hbl, _⟩ := hA (by omega)
                      have hne : ¬ c' = l.toNat := by omega
                      rw [if_neg hne, Option.map_some, mulE_add]
                      rw [Nat.add_assoc]
                      exact .slW b (of + mulE l.toNat ie.size) _ _ hbl (.inl (by omega))
                  unfold slcV
                  split
                  · split
                    · split
                      · obtain ⟨hu2, hbl, hcap⟩ := hv.slS_inv
                        rw [hu] at hu2
                        injection hu2 with hA2 _ hc2
                        have hl0 : l.toNat = 0 := by
                          rcases hb _ _ _ hl with ⟨_, e2⟩ | ⟨kk, e1⟩
                          · omega
                          · simp at e1
                        rw [hl0, hA2, hc2]
                        have e1 : (if (ι b).cap = 0 then some (⟨(ι b).blk, (ι b).off, none⟩ : Addr) else Option.map (fun (ad : Addr) => ad.add (0 * ie.size)) (some (⟨(ι b).blk, (ι b).off, none⟩ : Addr))) = some (⟨(ι b).blk, (ι b).off, none⟩ : Addr) := by
                          split
                          · rfl
                          · simp [Addr.add]
                        rw [e1]
                        exact .slS b _ hbl (by rcases hcap with h | h; exact .inl (by omega); exact .inr h)
                      · exact weak
                    · exact weak
                  · exact weak
                · exact hx.elim
              · exact hx.elim
            · exact hx.elim
          · exact hx.elim
        · rename_i hk
          have hkk := ht.kind
          rw [hk] at hkk
          simp only at hkk
          have hb : ∀ (d : Int) (y : Option Operand) (k : Int), bndV N t d y = some k → (y.map a.eval = none ∧ k = d) ∨ ∃ kk, y.map a.eval = some (.int kk k) := by
            intro d y k hy
            unfold bndV at hy
            split at hy
            · injection hy with hy; exact .inl ⟨rfl, hy.symm⟩
            · rename_i y'
              split at hy
              · rename_i kk k' ey
                injection hy with hy
                subst hy
                have := hr.ev y'
                rw [ey] at this
                exact .inr ⟨kk, by simp [this.int_inv]⟩
              · cases hy
          split at hx
          · rename_i sv ex
            have hv := hr.ev x
            rw [ex] at hv
            split at hx
            · rename_i l hl
              split at hx
              · rename_i r hr'
                have h1 := hx.lo
                have h2 := hx.mid
                have h3 := hx.hi
                have hlo : (lo.map a.eval = none ∧ l.toNat = 0) ∨ ∃ k, lo.map a.eval = some (.int k l.toNat) := by
                  rcases hb _ _ _ hl with ⟨e1, e2⟩ | ⟨kk, e1⟩
                  · exact .inl ⟨e1, by omega⟩
                  · exact .inr ⟨kk, by rw [e1, Int.toNat_of_nonneg h1]⟩
                have hhi : (hi.map a.eval = none ∧ r.toNat = sv.size) ∨ ∃ k, hi.map a.eval = some (.int k r.toNat) := by
                  rcases hb _ _ _ hr' with ⟨e1, e2⟩ | ⟨kk, e1⟩
                  · exact .inl ⟨e1, by omega⟩
                  · exact .inr ⟨kk, by rw [e1, Int.toNat_of_nonneg (by omega)]⟩
                have hrun := sliceStr_run (P := P) hkk sv (lo.map a.eval) (hi.map a.eval) l.toNat r.toNat hlo hhi (by omega) (by omega) w
                rw [← hv.string_inv] at hrun
                exact upon_val (u := .string (sv.extract l.toNat r.toNat)) (w' := w) (by unfold execOp; rw [hop]; exact run_val hrun) (hK _ _ _ _ _ (.string _) hr hx.out)
              · exact hx.elim
            · exact hx.elim
          · exact hx.elim
        · exact hx.elim
      · exact hx.elim
  | convert src dst x =>
    rw [hop] at hx
    simp only [opX] at hx
    split at hx
    · rename_i i hi
      have ht := (hT _ _ hi).kind
      split at hx
      · rename_i k hk
        rw [hk] at ht
        simp only at ht
        split at hx
        · rename_i j hj
          have hs := (hT _ _ hj).kind
          split at hx
          · rename_i k' hk'
            rw [hk'] at hs
            simp only at hs
            split at hx
            · rename_i kk n ex
              have hv := hr.ev x
              rw [ex] at hv
              refine upon_val (u := .int k (k.wrap n)) (w' := w) ?_ (hK _ _ _ _ _ (.int _ _) hr hx.out)
              unfold execOp; rw [hop]
              simp [hv.int_inv, convert, run_underlying ht, run_underlying hs, Conv.intToInt]
            · exact hx.elim
          · exact hx.elim
        · exact hx.elim
      · rename_i hk
        rw [hk] at ht
        simp only at ht
        split at hx
        · rename_i j hj
          have hs := (hT _ _ hj).kind
          split at hx
          · rename_i e hk'
            rw [hk'] at hs
            simp only at hs
            split at hx
            · rename_i ie hie
              have he := (hT _ _ hie).kind
              split at hx
              · rename_i hke
                rw [hke] at he
                simp only at he
                split at hx
                · rename_i b of n c ex
                  have hv := hr.ev x
                  rw [ex] at hv
                  obtain ⟨blk, bs, e1, e2, e3, hx⟩ := hx.ex
                  obtain ⟨A, c', hu, hA⟩ := hv.sl_inv
                  refine upon_val (u := .string ⟨bs.toArray⟩) (w' := w) ?_ (hK _ _ _ _ _ (.string _) hr hx)
                  unfold execOp; rw [hop]
                  have hrun : (convert src dst (a.eval x)).run P w = .ok (.string ⟨bs.toArray⟩) w := by
                    rw [hu, run_convert_bytes_string w src dst e A n c' hs he ht]
                    rcases Nat.eq_zero_or_pos n with h0 | h0
                    · subst h0
                      have : bs = [] := List.length_eq_zero_iff.1 e3
                      subst this
                      cases A with
                      | none => rfl
                      | some ad =>
                        have hld := run_loadCells_list (P := P) w ad [] (fun j v hj => by simp at hj)
                        rw [run_bytesToString w ad 0 c' [] (by simpa using hld)]
                        rfl
                    · obtain ⟨rfl, hbl, _⟩ := hA h0
                      have hld := run_loadCells_list (P := P) w ⟨(ι b).blk, (ι b).off + of, none⟩ (bs.map fun c => Value.int .u8 (c.toNat : Int)) (fun j v hj => by
                        have hjl : j < n := by have := (List.getElem?_eq_some_iff.1 hj).1; simp at this; omega
                        rw [← e2, List.getElem?_take, if_pos hjl, List.getElem?_drop] at hj
                        obtain ⟨u, h4, h5⟩ := hr.hr.cell e1 hj
                        rw [add_addr, Nat.add_assoc]
                        have hv2 : ∃ c : UInt8, v = .int .u8 (c.toNat : Int) := by
                          have : ((blk.cells.drop of).take n)[j]? = some v := by rw [List.getElem?_take, if_pos hjl, List.getElem?_drop]; exact hj
                          rw [e2, List.getElem?_map] at this
                          cases hb : bs[j]? with
                          | none => rw [hb] at this; simp at this
                          | some c => rw [hb] at this; simp at this; exact ⟨c, this.symm⟩
                        obtain ⟨c, rfl⟩ := hv2
                        rw [h5.int_inv] at h4
                        exact h4)
                      rw [List.length_map, e3] at hld
                      rw [run_bytesToString w _ n c' (bs.map fun c => (c.toNat : Int)) (by rw [hld, List.map_map]; rfl), foldl_bytes]
                      simp
                  exact run_val hrun
                · exact hx.elim
              · exact hx.elim
            · exact hx.elim
          · exact hx.elim
        · exact hx.elim
      · exact hx.elim
    · exact hx.elim
  | index ty x ix =>
    rw [hop] at hx
    simp only [opX] at hx
    split at hx
    · rename_i i hi
      have ht := (hT _ _ hi).kind
      split at hx
      · rename_i n e hk
        rw [hk] at ht
        simp only at ht
        split at hx
        · rename_i ie hie
          have hte := hT _ _ hie
          split at hx
          · rename_i cs ex
            have hv := hr.ev x
            rw [ex] at hv
            split at hx
            · rename_i kk k ek
              have hiv := hr.ev ix
              rw [ek] at hiv
              have h1 := hx.lo
              have h2 := hx.hi
              obtain ⟨v, e1, e2⟩ := hx.out.ex
              rw [mulE_eq] at e1
              generalize hu : a.eval x = u at hv
              cases hv with
              | agg _ us q1 q2 =>
                have hcell : ∀ (j : Nat) v, cs.toList[j]? = some v → ∃ u, us[j]? = some u ∧ VR ι h.length v u := by
                  intro j v hj
                  have hjl : j < cs.size := by have := (List.getElem?_eq_some_iff.1 hj).1; simpa using this
                  have := q2 j hjl
                  have h3 : j < us.size := by omega
                  rw [Array.getElem?_toList] at hj
                  simp only [Array.getD_eq_getD_getElem?, hj, Array.getElem?_eq_getElem h3, Option.getD_some] at this
                  exact ⟨_, Array.getElem?_eq_getElem h3, this⟩
                have hpart : ∃ u, (part e us (k.toNat * ie.size)).run P w = .ok u w ∧ VR ι h.length v u := by
                  unfold ldv at e1
                  cases ha : ie.agg with
                  | false =>
                    rw [ha] at e1
                    obtain ⟨u, r1, r2⟩ := hcell _ _ e1
                    have := hte.agg w
                    rw [ha] at this
                    exact ⟨u, by simp [part, this, r1], r2⟩
                  | true =>
                    rw [ha] at e1
                    simp only at e1
                    split at e1
                    · rename_i hlen
                      have hlen := Nat.eq_of_beq_eq_true hlen
                      injection e1 with e1
                      subst e1
                      have := hte.agg w
                      rw [ha] at this
                      refine ⟨.agg (us.extract (k.toNat * ie.size) (k.toNat * ie.size + ie.size)), by simp [part, this, hte.size w], ?_⟩
                      have hle : k.toNat * ie.size + ie.size ≤ us.size := by
                        have hpos := hte.zp.2.2.2
                        simp at hlen
                        omega
                      refine .agg _ _ (by simp at hlen ⊢; omega) fun j hj => ?_
                      have hj' : j < ie.size := by simp at hj; omega
                      have h4 : ((cs.toList.drop (k.toNat * ie.size)).take ie.size)[j]? = cs.toList[k.toNat * ie.size + j]? := by simp [List.getElem?_take, hj', List.getElem?_drop]
                      have h5 : k.toNat * ie.size + j < cs.toList.length := by simp; omega
                      rw [List.getElem?_eq_getElem h5] at h4
                      obtain ⟨u, r1, r2⟩ := hcell (k.toNat * ie.size + j) _ (List.getElem?_eq_getElem h5)
                      have e1 : ((cs.toList.drop (k.toNat * ie.size)).take ie.size).toArray.getD j (.tuple #[]) = cs.toList[k.toNat * ie.size + j] := by
                        rw [Array.getD_eq_getD_getElem?, List.getElem?_toArray, h4]; rfl
                      have e2 : (us.extract (k.toNat * ie.size) (k.toNat * ie.size + ie.size)).getD j (.tuple #[]) = u := by
                        rw [Array.getD_eq_getD_getElem?, Array.getElem?_extract, if_pos (by omega), r1]; rfl
                      rw [e1, e2]
                      exact r2
                    · cases e1
                obtain ⟨u, r1, r2⟩ := hpart
                refine upon_val (u := u) (w' := w) ?_ (hK _ _ _ _ _ r2 hr e2)
                unfold execOp; rw [hop]
                simp [hu, hiv.int_inv, Instr.index, asIntOf, run_underlying ht, h1, h2, hte.size w, r1]
            · exact hx.elim
          · exact hx.elim
        · exact hx.elim
      · rename_i hk
        rw [hk] at ht
        simp only at ht
        split at hx
        · rename_i sv ex
          have hv := hr.ev x
          rw [ex] at hv
          split at hx
          · rename_i kk k ek
            have hiv := hr.ev ix
            rw [ek] at hiv
            have h1 := hx.lo
            have h2 := hx.hi
            have h3 : k.toNat < sv.size := by omega
            have h4 : sv[k.toNat]? = some (sv.data.toList.getD k.toNat 0) := by
              have h5 : k.toNat < sv.data.toList.length := by simpa using h3
              rw [List.getD_eq_getElem?_getD, List.getElem?_eq_getElem h5]
              rw [getElem?_pos sv k.toNat h3]
              rfl
            refine upon_val (u := .int .u8 (strB sv k.toNat)) (w' := w) ?_ (hK _ _ _ _ _ (.int _ _) hr hx.out)
            unfold execOp; rw [hop]
            simp [hv.string_inv, hiv.int_inv, Instr.index, asIntOf, run_underlying ht, h1, h4, strB]
          · exact hx.elim
        · exact hx.elim
      · exact hx.elim
    · exact hx.elim
  | makeMap ty r =>
    rw [hop] at hx
    simp only [opX] at hx
    split at hx
    · refine upon_val (w' := w.alloc (.map #[] 0)) (u := .map (some w.heap.size)) ?_ (hK _ _ _ _ _ ?_ hr.newMap (hx.out _ _ rfl rfl))
      · unfold execOp; rw [hop]; exact run_val (run_makeMap ty w)
      · have := VR.map (ι := upι ι h.length ⟨w.heap.size, 0, 0, false⟩) (n := (h ++ [some (⟨[], some (encM [], 0)⟩ : Blk)]).length) h.length (by simp)
        rw [upι_self] at this
        exact this
    · exact hx.elim
  | lookup ty m k ok =>
    rw [hop] at hx
    simp only [opX] at hx
    split at hx
    · exact hx.elim
    · split at hx
      · rename_i ie hie
        obtain ⟨kt, et, e, hm, hu, he, hc, hT2⟩ := mapOf_ok hT hie
        split at hx
        · rename_i b eb
          have hv := hr.ev m
          rw [eb] at hv
          split at hx
          · rename_i cs ek
            have hkv := hr.ev k
            rw [ek] at hkv
            obtain ⟨l, x, y, v, h1, h2, h3, hx⟩ := hx.ex
            obtain ⟨es, clk, g1, g2, g3⟩ := hr.hr.mapAt h1
            have hks := hkv.ints (k := .i64) (xs := [x, y]) h2
            subst h3
            have hz : ∀ n, VR ι n (valM l x y ie.zval) (valM l x y ie.zval) := fun n => by
              unfold valM
              split
              · exact .int _ _
              · exact (zval_VR hT2 n)
            refine upon_val (w' := w) (u := valM l x y ie.zval) ?_ (hK _ _ _ _ _ (hz _) hr hx)
            have hlu := run_lookup_pair hm hu he hc (hT2.zval w) g1 g3 x y
            unfold execOp; rw [hop]
            simp only [hv.map_inv, hks]
            exact run_val hlu
          · exact hx.elim
        · exact hx.elim
      · exact hx.elim
  | mapUpdate ty m k v =>
    rw [hop] at hx
    simp only [opX] at hx
    split at hx
    · rename_i ie hie
      obtain ⟨kt, et, e, hm, hu, he, hc, hT2⟩ := mapOf_ok hT hie
      split at hx
      · rename_i b eb
        have hv := hr.ev m
        rw [eb] at hv
        split at hx
        · rename_i cs ek
          have hkv := hr.ev k
          rw [ek] at hkv
          split at hx
          · rename_i q z ez
            have hzv := hr.ev v
            rw [ez] at hzv
            obtain ⟨hq, hx⟩ := onT_inv hx
            have hq := kEq_eq hq
            subst hq
            obtain ⟨l, x, y, h1, h2, h3, hx⟩ := hx.ex
            obtain ⟨es, clk, g1, g2, g3⟩ := hr.hr.mapAt h1
            have hks := hkv.ints (k := .i64) (xs := [x, y]) h2
            have hup := run_update_pair hm hu he hc g1 g3 x y h3 (.int .i64 z)
            have hput := hr.putMap h1 g2 (es := es.push { key := .agg #[.int .i64 x, .int .i64 y], val := .int .i64 z, born := clk }) (clk := clk + 1) (c' := encM (l ++ [((x, y), z)])) ⟨_, rfl, by simp [g3, kvM]⟩
            unfold Oper.wp
            have hru : (execOp a.eval o).run P w = .ok .skip { w with heap := w.heap.setIfInBounds (ι b).blk (.map (es.push { key := .agg #[.int .i64 x, .int .i64 y], val := .int .i64 z, born := clk }) (clk + 1)) } := by
              unfold execOp; rw [hop]
              simp only [hv.map_inv, hks, hzv.int_inv]
              have hup2 : (Instr.mapUpdate ty (.map (some (ι b).blk)) (.agg ([x, y].map (Value.int .i64)).toArray) (.int .i64 z)).run P w = _ := hup
              simp only [Sem.run_bind, hup2, Result.andThen_ok, Sem.run_pure]
            rw [hru]
            exact hK _ _ _ _ _ .und hput (hx _ rfl)
          · exact hx.elim
        · exact hx.elim
      · exact hx.elim
    · exact hx.elim
  | _ => rw [hop] at hx; exact hx.elim
end
end Go.Gl

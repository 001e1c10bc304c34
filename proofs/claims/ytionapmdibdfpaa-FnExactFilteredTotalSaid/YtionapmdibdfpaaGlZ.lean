/- The plain view of memory: append of zeros. No condition. -/
import Derived.Test.YtionapmdibdfpaaGlD
set_option linter.unusedVariables false
set_option linter.unusedSimpArgs false
namespace Go.Gl
section
variable {P : Program} {ι : Nat → Io} {h : AH} {w : World}

/-! ### append of zeros: append(x, make([]T, n)...) -/
theorem zeroCells_one (z : Value) (m : Nat) : Builtin.zeroCells #[z] m = (List.replicate m z).toArray := by
  apply Array.ext
  · simp [Builtin.zeroCells]
  · intro i h1 h2
    simp [Builtin.zeroCells, Nat.mod_one]
theorem run_append_zeros (w : World) (ty ti rty e : TypeId) (k : IntKind) (inf : TypeInfo) (z : Value) (hty : P.underlying ty = some (.slice e)) (hti : P.underlying ti = some (.int k)) (hi : P.info? e = some inf) (hz : inf.zero = some z) (hs : inf.size = 1) (hzc : z.cells = #[z]) (h1 : z.oneCell' = true)
    (v : Value) (n : Nat) (xs : List Value) (hown : w.ownsRow 0 e 1 v n xs) (m : Nat) (h63 : n + m ≤ maxLen) (hbytes : (n + m) * inf.bytes ≤ 140737488355328) (hv : v ≠ .slice none 0 0 ∨ 0 < m) :
    ∃ v' w', (Builtin.append_ #[ty, ti] rty #[v, .int .i64 (m : Int)]).run P w = .ok v' w' ∧ w'.ownsRow 0 e 1 v' (n + m) (xs ++ List.replicate m z) ∧ w.grownBy w' v.ownBlock ∧ v' ≠ .slice none 0 0 ∧ (v'.ownBlock = v.ownBlock ∨ v'.ownBlock = some w.heap.size) := by
  have hsmall : n + m ≤ 9223372036854775807 := by simp only [maxLen] at h63; omega
  have hw : IntKind.i64.wrap (m : Int) = (m : Int) := by rw [IntKind.wrap_i64]; omega
  have hnn : ¬ ((m : Int) < 0) := by omega
  have hlen : (xs ++ List.replicate m z).length = n + m := by rw [List.length_append, hown.1]; simp
  have hbig : ¬ (281474976710656 < (m : Int) * (inf.bytes : Int)) := by
    have : m * inf.bytes ≤ (n + m) * inf.bytes := Nat.mul_le_mul_right _ (by omega)
    have : ((m * inf.bytes : Nat) : Int) ≤ 140737488355328 := by omega
    rw [Int.natCast_mul] at this
    omega
  have grown : ∀ (old : Nat), old < n + m → ∀ (row : Option Nat),
      (w.drew.alloc (.cells (xs.toArray ++ (List.replicate m z).toArray ++ Builtin.zeroCells z.cells (grownCap w (n + m) old e - (n + m))) e)).ownsRow 0 e 1
        (.slice (some ⟨w.heap.size, 0, none⟩) (n + m) (grownCap w (n + m) old e)) (n + m) (xs ++ List.replicate m z) ∧
      w.grownBy (w.drew.alloc (.cells (xs.toArray ++ (List.replicate m z).toArray ++ Builtin.zeroCells z.cells (grownCap w (n + m) old e - (n + m))) e)) row := by
    intro old ho row
    have hge := grownCap_ge w (n + m) old e
    have hcm : grownCap w (n + m) old e ≤ maxLen := grownCap_le_maxLen w (n + m) old e h63
    refine ⟨⟨by rw [hlen]; omega, .inr ⟨w.heap.size, _, _, rfl, Nat.zero_le _, heap_alloc_new w.drew _, hge, hcm, ?_, ?_⟩⟩, ⟨rfl, rfl, rfl, by simp, fun k hk _ => heap_alloc_old w.drew _ k hk⟩⟩
    · have := hown.1
      simp only [Array.size_append, List.size_toArray, size_zeroCells, hzc, List.length_replicate]
      simp
      omega
    · simp only [Array.toList_append, List.append_assoc]
      rw [← List.append_assoc, Nat.mul_one, ← hlen]
      exact List.take_left
  rcases hown.2 with ⟨rfl, rfl⟩ | ⟨g, cap, cur, rfl, hbg, hg, hnc, hcm, hcs, htake⟩
  · have hx : xs = [] := List.eq_nil_of_length_eq_zero (by simpa using hown.1)
    subst hx
    have hm : 0 < m := by rcases hv with hv | hv; exact absurd rfl hv; exact hv
    have hm0 : m ≠ 0 := by omega
    have h63' : ¬ (9223372036854775807 < (m : Int)) := by omega
    have h48' : ¬ (281474976710656 < Builtin.nextslicecap m 0 * inf.bytes) := by rw [nextslicecap_zero hm]; simp only [Nat.zero_add] at hbytes; omega
    have hgr := grown 0 (by omega) (Value.ownBlock (.slice none 0 0))
    simp only [Nat.zero_add, List.nil_append, Array.empty_append] at hgr ⊢
    refine ⟨_, _, ?_, hgr.1, hgr.2, by simp, Or.inr rfl⟩
    simp [Builtin.append_, run_underlying hty, run_underlying hti, sizeOf, typeInfo, zeroValue, hi, hz, hs, hzc, asInt, asIntOf, hw, hnn, hbig, hm0, h63', h48', Question.forced, run_firstCells_none, newRow, grownCap, zeroCells_one]
  · by_cases hroom : n + m ≤ cap
    · have hfit : n * 1 + (List.replicate m z).length ≤ cur.size := by rw [hcs]; simp; omega
      have hst := run_storeCells_at P g (n * 1) e (List.replicate m z) 0 cur w hg (by simpa using hfit) (fun u hu => by rw [List.eq_of_mem_replicate hu]; exact h1)
      simp only [Nat.add_zero] at hst
      have hr : (Builtin.append_ #[ty, ti] rty #[.slice (some ⟨g, 0, none⟩) n cap, .int .i64 (m : Int)]).run P w = .ok (.slice (some ⟨g, 0, none⟩) (n + m) cap) (w.setRow g (cur.toList.take (n * 1) ++ List.replicate m z ++ cur.toList.drop (n * 1 + (List.replicate m z).length)).toArray) := by
        rcases Nat.eq_zero_or_pos m with h0 | h0
        · subst h0
          have hw0 : IntKind.i64.wrap 0 = 0 := by rw [IntKind.wrap_i64]; rfl
          simp [Builtin.append_, run_underlying hty, run_underlying hti, sizeOf, typeInfo, zeroValue, hi, hz, hs, hzc, asInt, asIntOf, hw, Addr.add_lit] at hst ⊢
          simp [hw0, hroom, hst, hnc]
        · have hm0 : m ≠ 0 := by omega
          simp [Builtin.append_, run_underlying hty, run_underlying hti, sizeOf, typeInfo, zeroValue, hi, hz, hs, hzc, asInt, asIntOf, hw, hnn, hbig, hm0, hroom, Addr.add_lit, zeroCells_one] at hst ⊢
          simp [hst]
      refine ⟨_, _, hr, ⟨by rw [hlen]; omega, .inr ⟨g, cap, _, rfl, hbg, setRow_heap w g cur _ e _ hg, hroom, hcm, ?_, ?_⟩⟩, ⟨rfl, rfl, rfl, by simp, fun k _ hk => setRow_other w g k _ (fun e => hk (by simp [Value.ownBlock, e]))⟩, by simp, Or.inl rfl⟩
      · simp only [List.size_toArray, List.length_append, List.length_take, List.length_drop, Array.length_toList]
        omega
      · rw [htake, Nat.mul_one, ← hlen]
        exact List.take_left
    · have holds : ∀ j u, xs[j]? = some u → w.cell? ((⟨g, 0, none⟩ : Addr).add j) = some u := hown.cells (g := g) rfl
      have hfo := run_firstCells_some (P := P) w.drew 1 n ⟨g, 0, none⟩ n cap xs hown.1 (by simpa using holds)
      have hn : ¬ (n + m ≤ cap) := hroom
      have hm0 : m ≠ 0 := by omega
      have h63' : ¬ (9223372036854775807 < ((n : Int) + (m : Int))) := by omega
      have h48' : ¬ (281474976710656 < Builtin.nextslicecap (n + m) cap * inf.bytes) := by have := growslice_fits (need := n + m) (old := cap) (bytes := inf.bytes) (by omega) hbytes; omega
      have hgr := grown cap (by omega) (Value.ownBlock (.slice (some ⟨g, 0, none⟩) n cap))
      refine ⟨_, _, ?_, hgr.1, hgr.2, by simp, Or.inr rfl⟩
      simp [Builtin.append_, run_underlying hty, run_underlying hti, sizeOf, typeInfo, zeroValue, hi, hz, hs, hzc, asInt, asIntOf, hw, hnn, hbig, hm0, hn, h63', h48', Question.forced, hfo, newRow, grownCap, zeroCells_one]
theorem run_append_none (w : World) {ty rty e : TypeId} {inf : TypeInfo} (hty : P.underlying ty = some (.slice e)) (hi : P.info? e = some inf) (A : Option Addr) (c : Nat) :
    (Builtin.append_ #[ty, ty] rty #[.slice none 0 0, .slice A 0 c]).run P w = .ok (.slice none 0 0) w := by
  cases A <;> simp [Builtin.append_, run_underlying hty, sizeOf, typeInfo, hi, Builtin.lenOf, Builtin.firstCells, loadCells, loadCellsFrom]
theorem run_append_zeros_none (w : World) {ty ti rty e : TypeId} {k : IntKind} {inf : TypeInfo} (hty : P.underlying ty = some (.slice e)) (hti : P.underlying ti = some (.int k)) (hi : P.info? e = some inf) :
    (Builtin.append_ #[ty, ti] rty #[.slice none 0 0, .int .i64 0]).run P w = .ok (.slice none 0 0) w := by
  simp [Builtin.append_, run_underlying hty, run_underlying hti, sizeOf, typeInfo, hi, asInt, asIntOf, IntKind.wrap_i64]
theorem zval_self {n : Nat} {e : TypeId} {ie : TI} (hie : TOK P e ie) (hag : ie.agg = false) : ie.zval.cells = #[ie.zval] ∧ ie.zval.oneCell' = true ∧ VR ι n ie.zval ie.zval := by
  have h1 := hie.zp.2.2.1 hag
  have h2 := hie.zp.2.1
  have h3 := hie.zp.1
  unfold TI.zval
  rw [hag]
  cases hz : ie.zero with
  | nil => rw [hz] at h2; simp at h2; omega
  | cons v vs =>
    rw [hz] at h3
    simp only [List.all_cons, Bool.and_eq_true] at h3
    have hp : plainV v = true := h3.1
    refine ⟨?_, ?_, VR.const hp⟩
    · cases v <;> first | rfl | simp [plainV] at hp
    · cases v <;> first | rfl | simp [plainV] at hp
/-- zeros behind a row of our own -/
theorem appendZ_ok {Γ : Cx} {N : Nat} {t : Nat → Value} {a : Act} (hr : Rel Γ ι N t h a w) {ty ti rty e : TypeId} {kk : IntKind} {ie : TI} (hty : P.underlying ty = some (.slice e)) (hti : P.underlying ti = some (.int kk)) (hie : TOK P e ie) (hag : ie.agg = false) {b n : Nat} {blk : Blk}
    (hl : look h b = some blk) (hown : blk.own = some (e, ie.size)) (hcl : blk.cells.length = n * ie.size) {m : Nat} {news : List Value} (hnews : news = List.replicate m ie.zval)
    (hbytes : (n + m) * ie.bytes ≤ 140737488355328) (h63 : n + m ≤ maxLen) :
    ∃ w' ι' u, (Builtin.append_ #[ty, ti] rty #[.slice (some ⟨(ι b).blk, (ι b).off, none⟩) n (ι b).cap, .int .i64 (m : Int)]).run P w = .ok u w' ∧
      VR ι' (h.length + 1) (.slice (some ⟨h.length, 0, none⟩) (n + m) 1) u ∧ Rel Γ ι' N t (h.set b none ++ [some ⟨blk.cells ++ news, some (e, ie.size)⟩]) a w' := by
  have hs1 : ie.size = 1 := hie.zp.2.2.1 hag
  have hnl : news.length = m * ie.size := by rw [hnews, hs1]; simp
  obtain ⟨cs, e', fr, g1, g2, g3⟩ := hr.hr.cel hl (.inr ⟨_, _, hown, hie.zp.2.2.2⟩)
  obtain ⟨rfl, rfl, hoff, hsz, hcle, hcap⟩ := g3 _ _ hown
  have hpos : ie.size ≠ 0 := hie.zp.2.2.2
  have hncap : n ≤ (ι b).cap := by
    rw [hcl, hsz] at hcle
    exact Nat.le_of_mul_le_mul_right hcle (Nat.pos_of_ne_zero hpos)
  have hb := look_lt hl
  let xs := cs.toList.take (n * ie.size)
  have hxl : xs.length = n * ie.size := by simp [xs]; omega
  have HO : w.ownsRow 0 e' ie.size (.slice (some ⟨(ι b).blk, 0, none⟩) n (ι b).cap) n xs :=
    ⟨hxl, .inr ⟨(ι b).blk, (ι b).cap, cs, rfl, Nat.zero_le _, g1, hncap, hcap, hsz, rfl⟩⟩
  obtain ⟨inf, i1, i2, i3, i4⟩ := hie.info
  have hlen1 : (h.set b none).length = h.length := List.length_set
  have hzs : ie.zval.cells.size = ie.size := by
    unfold TI.zval
    cases ha : ie.agg with
    | true => simp [Value.cells, hie.zp.2.1]
    | false =>
      have h1 := hie.zp.2.2.1 ha
      have h2 := hie.zp.2.1
      cases hz : ie.zero with
      | nil => rw [hz] at h2; simp at h2; omega
      | cons v vs =>
        have h3 := hie.zp.1
        rw [hz] at h3
        simp only [List.all_cons, Bool.and_eq_true] at h3
        have : v.cells = #[v] := by cases v <;> first | rfl | simp [plainV] at h3
        simp [this, h1]
  obtain ⟨p1, p2, p3⟩ := zval_self (ι := ι) (n := h.length) hie hag
  have key : ∃ v' w', ∃ us : List Value, (Builtin.append_ #[ty, ti] rty #[.slice (some ⟨(ι b).blk, (ι b).off, none⟩) n (ι b).cap, .int .i64 (m : Int)]).run P w = .ok v' w' ∧ us.length = news.length ∧ (∀ (k : Nat) v, news[k]? = some v → ∃ u, us[k]? = some u ∧ VR ι h.length v u) ∧
      w'.ownsRow 0 e' ie.size v' (n + m) (xs ++ us) ∧ w.grownBy w' (some (ι b).blk) ∧ v' ≠ .slice none 0 0 ∧ (v'.ownBlock = some (ι b).blk ∨ v'.ownBlock = some w.heap.size) := by
    obtain ⟨v', w', r1, r2, r3, r4, r5⟩ := run_append_zeros (P := P) w ty ti rty e' kk inf ie.zval hty hti i1 i4 (by rw [i2, hs1]) p1 p2 (.slice (some ⟨(ι b).blk, 0, none⟩) n (ι b).cap) n xs (by rw [← hs1]; exact HO) m h63 (by rw [i3]; exact hbytes) (.inl (by simp))
    refine ⟨v', w', List.replicate m ie.zval, by rw [hoff]; exact r1, by rw [hnews], fun k v hk => ?_, by rw [hs1]; exact r2, r3, r4, r5⟩
    rw [hnews] at hk
    obtain ⟨q1, q2⟩ := List.getElem?_eq_some_iff.1 hk
    have hv : v = ie.zval := by rw [← q2]; simp
    exact ⟨ie.zval, by rw [hk, hv], by rw [hv]; exact p3⟩
  obtain ⟨v', w', us, r1, hul, hrel, r2, r3, r4, r5⟩ := key
  rcases r2.2 with ⟨rfl, h0⟩ | ⟨g, cap, cur, rfl, _, hg, hnc, hcapm, hcsz, htake⟩
  · exact absurd (by congr) r4
  · simp only [Value.ownBlock, Option.some.injEq] at r5
    have hne : ∀ i x, look (h.set b none) i = some x → (ι i).blk ≠ g := by
      intro i x hi
      obtain ⟨hi, hib⟩ := look_set_none hi
      rcases r5 with r5 | r5
      · rw [r5]; exact (hr.hr.inj b i blk x hl hi (by rw [hown]; rfl) (Ne.symm hib)).symm
      · rw [r5]; have := hr.hr.lt hi; omega
    have hcells : ∀ (k : Nat) v, (blk.cells ++ news)[k]? = some v → ∃ u, cur[k]? = some u ∧ VR ι h.length v u := by
      intro k v hk
      have hcur : ∀ j, j < (xs ++ us).length → cur[j]? = (xs ++ us)[j]? := by
        intro j hj
        rw [← htake, List.getElem?_take]
        have : j < (n + m) * ie.size := by have := r2.1; omega
        rw [if_pos this]; simp
      by_cases hk1 : k < blk.cells.length
      · rw [List.getElem?_append_left hk1] at hk
        obtain ⟨u, e1, e2⟩ := g2 k v hk
        refine ⟨u, ?_, e2⟩
        rw [hcur k (by simp; omega), List.getElem?_append_left (by omega)]
        simp only [xs]
        rw [List.getElem?_take, if_pos (by omega)]
        rw [hoff, Nat.zero_add] at e1
        simpa using e1
      · rw [List.getElem?_append_right (by omega)] at hk
        obtain ⟨u, e1, e2⟩ := hrel _ v hk
        refine ⟨u, ?_, e2⟩
        have hkl := (List.getElem?_eq_some_iff.1 e1).1
        rw [hcur k (by simp; omega), List.getElem?_append_right (by omega)]
        rw [hxl, ← hcl]; exact e1
    have HH := hr.hr.grow (h1 := h.set b none) (w' := w') (fun i x hi => (look_set_none hi).1) hlen1 (fun i x hi => by
        obtain ⟨hi', hib⟩ := look_set_none hi
        refine r3.block _ (hr.hr.lt hi') fun he => ?_
        injection he with he
        exact hr.hr.inj b i blk x hl hi' (by rw [hown]; rfl) (Ne.symm hib) he.symm) hg hne hpos hcsz hcapm (cs := blk.cells ++ news) hcells
    have hn : h.length ≤ (h.set b none ++ [some (⟨blk.cells ++ news, some (e', ie.size)⟩ : Blk)]).length := by simp
    refine ⟨w', upι ι h.length ⟨g, 0, cap, false⟩, _, r1, ?_, ?_⟩
    · have := VR.slS (ι := upι ι h.length ⟨g, 0, cap, false⟩) (n := h.length + 1) h.length (n + m) (by omega) (.inl (by rw [upι_self]; exact hnc))
      rw [upι_self] at this
      exact this
    · refine { defers := hr.defers, len := hr.len, tm := fun i hi => (hr.tm i hi).ext hn fun j hj => upι_lt hj, hr := HH, agree := fun i hi => ?_, n0 := Nat.le_trans hr.n0 hn, fr := fun k hk hS => ?_, ow := fun i x hi ho => ?_, sz := Nat.le_trans hr.sz r3.size, os := r3.os.trans hr.os, tape := r3.tape.trans hr.tape, output := r3.output.trans hr.output }
      · rw [upι_lt (Nat.lt_of_lt_of_le hi hr.n0)]; exact hr.agree i hi
      · rw [r3.block k (Nat.lt_of_lt_of_le hk hr.sz) (fun he => ?_)]
        · exact hr.fr k hk hS
        · injection he with he
          rcases hr.ow b blk hl (by rw [hown]; rfl) with h1 | h1
          · omega
          · rw [← he] at h1; exact hS h1
      · have hi1 := look_lt hi
        simp at hi1
        rcases Nat.lt_or_ge i h.length with hlt | hge
        · rw [upι_lt hlt]
          rw [look_app_lt (by omega)] at hi
          exact hr.ow i x (look_set_none hi).1 ho
        · have : i = h.length := by omega
          subst this
          rw [upι_self]
          rcases r5 with r5 | r5
          · rw [r5]; exact hr.ow b blk hl (by rw [hown]; rfl)
          · rw [r5]; exact .inl hr.sz
/-- zeros behind nil -/
theorem appendZ_nil_ok {Γ : Cx} {N : Nat} {t : Nat → Value} {a : Act} (hr : Rel Γ ι N t h a w) {ty ti rty e : TypeId} {kk : IntKind} {ie : TI} (hty : P.underlying ty = some (.slice e)) (hti : P.underlying ti = some (.int kk)) (hie : TOK P e ie) (hag : ie.agg = false)
    {m : Nat} {news : List Value} (hm0 : 0 < m) (hnews : news = List.replicate m ie.zval) (hbytes : m * ie.bytes ≤ 140737488355328) (h63 : m ≤ maxLen) :
    ∃ w' ι' u, (Builtin.append_ #[ty, ti] rty #[.slice none 0 0, .int .i64 (m : Int)]).run P w = .ok u w' ∧
      VR ι' (h.length + 1) (.slice (some ⟨h.length, 0, none⟩) m 1) u ∧ Rel Γ ι' N t (h ++ [some ⟨news, some (e, ie.size)⟩]) a w' := by
  have hs1 : ie.size = 1 := hie.zp.2.2.1 hag
  have hnl : news.length = m * ie.size := by rw [hnews, hs1]; simp
  have hpos : ie.size ≠ 0 := hie.zp.2.2.2
  obtain ⟨inf, i1, i2, i3, i4⟩ := hie.info
  obtain ⟨p1, p2, p3⟩ := zval_self (ι := ι) (n := h.length) hie hag
  obtain ⟨v', w', r1, r2, r3, hne0, r5⟩ := run_append_zeros (P := P) w ty ti rty e kk inf ie.zval hty hti i1 i4 (by rw [i2, hs1]) p1 p2 (.slice none 0 0) 0 [] ⟨by simp, .inl ⟨rfl, rfl⟩⟩ m (by omega) (by rw [i3, Nat.zero_add]; exact hbytes) (.inr hm0)
  obtain ⟨us, hus⟩ : ∃ us, us = List.replicate m ie.zval := ⟨_, rfl⟩
  rw [← hus] at r2
  have hul : us.length = news.length := by rw [hus, hnews]
  have hrel : ∀ (k : Nat) v, news[k]? = some v → ∃ u, us[k]? = some u ∧ VR ι h.length v u := fun k v hk => by
    rw [hnews] at hk
    obtain ⟨q1, q2⟩ := List.getElem?_eq_some_iff.1 hk
    have hv : v = ie.zval := by rw [← q2]; simp
    exact ⟨ie.zval, by rw [hus, hk, hv], by rw [hv]; exact p3⟩
  rw [← hs1] at r2
  rw [Nat.zero_add] at r2
  rcases r2.2 with ⟨rfl, h0⟩ | ⟨g, cap, cur, rfl, _, hg, hnc, hcapm, hcsz, htake⟩
  · omega
  · simp only [Value.ownBlock] at r5
    have r5 : g = w.heap.size := by
      rcases r5 with r5 | r5
      · cases r5
      · injection r5
    subst r5
    have hcells : ∀ (k : Nat) v, news[k]? = some v → ∃ u, cur[k]? = some u ∧ VR ι h.length v u := by
      intro k v hk
      obtain ⟨u, e1, e2⟩ := hrel _ v hk
      refine ⟨u, ?_, e2⟩
      have hkl := (List.getElem?_eq_some_iff.1 e1).1
      have : cur.toList[k]? = us[k]? := by
        have ht : us = cur.toList.take (m * ie.size) := htake.symm
        have hk3 : k < m * ie.size := by omega
        rw [ht, List.getElem?_take, if_pos hk3]
      rw [← Array.getElem?_toList, this, e1]
    have HH := hr.hr.grow (h1 := h) (w' := w') (fun i x hi => hi) rfl (fun i x hi => r3.block _ (hr.hr.lt hi) (by simp [Value.ownBlock])) hg (fun i x hi => by have := hr.hr.lt hi; omega) hpos hcsz hcapm (cs := news) hcells
    have hn : h.length ≤ (h ++ [some (⟨news, some (e, ie.size)⟩ : Blk)]).length := by simp
    refine ⟨w', upι ι h.length ⟨w.heap.size, 0, cap, false⟩, _, r1, ?_, ?_⟩
    · have := VR.slS (ι := upι ι h.length ⟨w.heap.size, 0, cap, false⟩) (n := h.length + 1) h.length m (by omega) (.inl (by rw [upι_self]; exact hnc))
      rw [upι_self] at this
      exact this
    · refine { defers := hr.defers, len := hr.len, tm := fun i hi => (hr.tm i hi).ext hn fun j hj => upι_lt hj, hr := HH, agree := fun i hi => ?_, n0 := Nat.le_trans hr.n0 hn, fr := fun k hk hS => ?_, ow := fun i x hi ho => ?_, sz := Nat.le_trans hr.sz r3.size, os := r3.os.trans hr.os, tape := r3.tape.trans hr.tape, output := r3.output.trans hr.output }
      · rw [upι_lt (Nat.lt_of_lt_of_le hi hr.n0)]; exact hr.agree i hi
      · rw [r3.block k (Nat.lt_of_lt_of_le hk hr.sz) (by simp [Value.ownBlock])]
        exact hr.fr k hk hS
      · have hi1 := look_lt hi
        simp at hi1
        rcases Nat.lt_or_ge i h.length with hlt | hge
        · rw [upι_lt hlt]
          rw [look_app_lt (by omega)] at hi
          exact hr.ow i x hi ho
        · have : i = h.length := by omega
          subst this
          rw [upι_self]
          exact .inl hr.sz
end
end Go.Gl

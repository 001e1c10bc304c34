/- The plain view of memory: append. No condition. -/
import Derived.Test.YtionapmdibdfpaaGlC
import Derived.Maps.AppendAt
set_option linter.unusedVariables false
set_option linter.unusedSimpArgs false
namespace Go.Gl
section
variable {P : Program} {ι : Nat → Io} {h : AH} {w : World}

theorem one1_rel {n : Nat} {x y : Value} (hx : one1 x = true) (hxy : VR ι n x y) : y.oneCell' = true ∧ y.cells = #[y] := by
  cases hxy <;> first | exact ⟨rfl, rfl⟩ | simp [one1] at hx

theorem HR.grow (hr : HR ι h w) {h1 : AH} {w' : World} (hsub : ∀ i b, look h1 i = some b → look h i = some b) (hlen : h1.length = h.length)
    (hkeep : ∀ i b, look h1 i = some b → w'.heap[(ι i).blk]? = w.heap[(ι i).blk]?) {g cap s : Nat} {cur : Array Value} {e : TypeId} (hg : w'.heap[g]? = some (.cells cur e (0, 0)))
    (hne : ∀ i b, look h1 i = some b → (ι i).blk ≠ g) (hs0 : s ≠ 0) (hsz : cur.size = cap * s) (hcap : cap ≤ maxLen) {cs : List Value}
    (hv : ∀ (k : Nat) v, cs[k]? = some v → ∃ u, cur[k]? = some u ∧ VR ι h.length v u) :
    HR (upι ι h.length ⟨g, 0, cap, false⟩) (h1 ++ [some ⟨cs, some (e, s)⟩]) w' := by
  have hle : cs.length ≤ cur.size := by
    rcases Nat.lt_or_ge cur.size cs.length with hlt | hge
    · obtain ⟨u, h1, _⟩ := hv cur.size _ (List.getElem?_eq_getElem hlt)
      simp at h1
    · exact hge
  have hnew : look (h1 ++ [some ⟨cs, some (e, s)⟩]) h.length = some ⟨cs, some (e, s)⟩ := by
    have := look_app_ge h1 [some ⟨cs, some (e, s)⟩] 0
    rw [hlen] at this
    simpa [look] using this
  have hcase : ∀ i b, look (h1 ++ [some ⟨cs, some (e, s)⟩]) i = some b → (i < h.length ∧ look h1 i = some b) ∨ (i = h.length ∧ b = ⟨cs, some (e, s)⟩) := by
    intro i b hl
    have hi := look_lt hl
    simp at hi
    rcases Nat.lt_or_ge i h.length with hlt | hge
    · exact .inl ⟨hlt, (look_app_lt (by omega)).symm.trans hl⟩
    · have : i = h.length := by omega
      subst this
      rw [hnew] at hl
      exact .inr ⟨rfl, by injection hl with hl; exact hl.symm⟩
  have hn : h.length ≤ (h1 ++ [some (⟨cs, some (e, s)⟩ : Blk)]).length := by simp; omega
  constructor
  · intro i b hl
    rcases hcase i b hl with ⟨hi, hl⟩ | ⟨rfl, rfl⟩
    · rw [upι_lt hi]
      rw [hkeep i b hl]
      rcases hr.blk i b (hsub i b hl) with hm | ⟨g0, c, e, fr, g1, g2, g3⟩
      · exact .inl hm
      refine .inr ⟨g0, c, e, fr, g1, fun k v hk => ?_, g3⟩
      obtain ⟨u, h4, h5⟩ := g2 k v hk
      exact ⟨u, h4, h5.ext hn fun j hj => upι_lt hj⟩
    · rw [upι_self]
      refine .inr ⟨fun c hc => hs0 (by injection hc with hc; injection hc), cur, e, (0, 0), hg, fun k v hk => ?_, ?_⟩
      · obtain ⟨u, h1, h2⟩ := hv k v hk
        exact ⟨u, by simpa using h1, h2.ext hn fun j hj => upι_lt hj⟩
      · intro t' s' e
        simp only [Option.some.injEq, Prod.mk.injEq] at e
        obtain ⟨rfl, rfl⟩ := e
        exact ⟨rfl, rfl, rfl, hsz, hle, hcap⟩
  · intro i j bi bj hi hj ho hnij
    rcases hcase i bi hi with ⟨hi', hi⟩ | ⟨rfl, rfl⟩ <;> rcases hcase j bj hj with ⟨hj', hj⟩ | ⟨rfl, rfl⟩
    · rw [upι_lt hi', upι_lt hj']; exact hr.inj i j bi bj (hsub _ _ hi) (hsub _ _ hj) ho hnij
    · rw [upι_lt hi', upι_self]; exact hne i bi hi
    · rw [upι_lt hj', upι_self]; exact (hne j bj hj).symm
    · exact absurd rfl hnij
  · intro i; unfold upι; split
    · rfl
    · exact hr.conc i

theorem look_set_none {h : AH} {b i : Nat} {x : Blk} (e : look (h.set b none) i = some x) : look h i = some x ∧ i ≠ b := by
  by_cases hb : b < h.length
  · rw [look_set hb] at e
    split at e
    · cases e
    · exact ⟨e, by assumption⟩
  · rw [List.set_eq_of_length_le (by omega)] at e
    exact ⟨e, fun hi => by subst hi; exact hb (look_lt e)⟩

/-- append to a row of our own -/
theorem append_ok {Γ : Cx} {N : Nat} {t : Nat → Value} {a : Act} (hr : Rel Γ ι N t h a w) {ty rty e : TypeId} {ie : TI} (hty : P.underlying ty = some (.slice e)) (hie : TOK P e ie) {b n : Nat} {blk : Blk}
    (hl : look h b = some blk) (hown : blk.own = some (e, ie.size)) (hcl : blk.cells.length = n * ie.size) {x : Value} {m : Nat} {news : List Value}
    (hx : (∃ c, x = .slice none m c ∧ m = 0 ∧ news = []) ∨ (∃ ad c, ∃ us : List Value, x = .slice (some ad) m c ∧ us.length = news.length ∧ (∀ (j : Nat) u, us[j]? = some u → w.cell? (ad.add j) = some u) ∧ (∀ (k : Nat) v, news[k]? = some v → ∃ u, us[k]? = some u ∧ VR ι h.length v u)))
    (hnl : news.length = m * ie.size) (hone : news.all one1 = true) (hbytes : (n + m) * ie.bytes ≤ 140737488355328) (h63 : n + m ≤ maxLen) :
    ∃ w' ι' u, (Builtin.append_ #[ty, ty] rty #[.slice (some ⟨(ι b).blk, (ι b).off, none⟩) n (ι b).cap, x]).run P w = .ok u w' ∧
      VR ι' (h.length + 1) (.slice (some ⟨h.length, 0, none⟩) (n + m) 1) u ∧ Rel Γ ι' N t (h.set b none ++ [some ⟨blk.cells ++ news, some (e, ie.size)⟩]) a w' := by
  obtain ⟨cs, e', fr, g1, g2, g3⟩ := hr.hr.cel hl (.inr ⟨_, _, hown, hie.zp.2.2.2⟩)
  obtain ⟨rfl, rfl, hoff, hsz, hcle, hcap⟩ := g3 _ _ hown
  have hpos : ie.size ≠ 0 := hie.zp.2.2.2
  have hncap : n ≤ (ι b).cap := by
    rw [hcl, hsz] at hcle
    exact Nat.le_of_mul_le_mul_right hcle (Nat.pos_of_ne_zero hpos)
  have hb := look_lt hl
  let xs := cs.toList.take (n * ie.size)
  have hxl : xs.length = n * ie.size := by simp [xs]; omega
  have HO : w.ownsRow 0 e' ie.size (.slice (some ⟨(ι b).blk, 0, none⟩) n (ι b).cap) n xs :=
    ⟨hxl, .inr ⟨(ι b).blk, (ι b).cap, cs, rfl, Nat.zero_le _, g1, hncap, hcap, hsz, rfl⟩⟩
  obtain ⟨inf, i1, i2, i3, i4⟩ := hie.info
  have hlen1 : (h.set b none).length = h.length := List.length_set
  have hzs : ie.zval.cells.size = ie.size := by
    unfold TI.zval
    cases ha : ie.agg with
    | true => simp [Value.cells, hie.zp.2.1]
    | false =>
      have h1 := hie.zp.2.2.1 ha
      have h2 := hie.zp.2.1
      cases hz : ie.zero with
      | nil => rw [hz] at h2; simp at h2; omega
      | cons v vs =>
        have h3 := hie.zp.1
        rw [hz] at h3
        simp only [List.all_cons, Bool.and_eq_true] at h3
        have : v.cells = #[v] := by cases v <;> first | rfl | simp [plainV] at h3
        simp [this, h1]
  have key : ∃ v' w', ∃ us : List Value, (Builtin.append_ #[ty, ty] rty #[.slice (some ⟨(ι b).blk, (ι b).off, none⟩) n (ι b).cap, x]).run P w = .ok v' w' ∧ us.length = news.length ∧ (∀ (k : Nat) v, news[k]? = some v → ∃ u, us[k]? = some u ∧ VR ι h.length v u) ∧
      w'.ownsRow 0 e' ie.size v' (n + m) (xs ++ us) ∧ w.grownBy w' (some (ι b).blk) ∧ v' ≠ .slice none 0 0 ∧ (v'.ownBlock = some (ι b).blk ∨ v'.ownBlock = some w.heap.size) := by
    rcases hx with ⟨c, rfl, rfl, rfl⟩ | ⟨ad, c, us, rfl, hul, hcell, hrel⟩
    · refine ⟨.slice (some ⟨(ι b).blk, 0, none⟩) n (ι b).cap, w, [], ?_, rfl, fun k v hk => by simp at hk, by simpa using HO, ⟨rfl, rfl, rfl, Nat.le_refl _, fun _ _ _ => rfl⟩, by simp, .inl rfl⟩
      rw [hoff]
      simp [Builtin.append_, run_underlying hty, sizeOf, typeInfo, i1, Builtin.lenOf, hncap, Builtin.firstCells, storeCells]
    · obtain ⟨v', w', r1, r2, r3, r4, r5⟩ := run_append_own_at (P := P) w 0 ty rty e' inf ie.zval ie.size ie.bytes hty i1 i4 i2 i3 hzs (Nat.pos_of_ne_zero hpos) (.slice (some ⟨(ι b).blk, 0, none⟩) n (ι b).cap) n xs HO ad m c us (by omega) hcell
        (fun u hu => by
          obtain ⟨k, hk, e⟩ := List.getElem_of_mem hu
          have hk2 : k < news.length := by omega
          obtain ⟨u', e1, e2⟩ := hrel k _ (List.getElem?_eq_getElem hk2)
          have e3 : us[k]? = some us[k] := List.getElem?_eq_getElem hk
          have e4 : us[k] = u' := by rw [e3] at e1; injection e1
          rw [← e, e4]
          exact (one1_rel (List.all_eq_true.1 hone _ (List.getElem_mem hk2)) e2).1) h63 hbytes (Nat.zero_le _)
      refine ⟨v', w', us, by rw [hoff]; exact r1, hul, hrel, r2, r3, fun he => ?_, r5⟩
      have := (r4.1 he).1
      simp at this
  obtain ⟨v', w', us, r1, hul, hrel, r2, r3, r4, r5⟩ := key
  rcases r2.2 with ⟨rfl, h0⟩ | ⟨g, cap, cur, rfl, _, hg, hnc, hcapm, hcsz, htake⟩
  · exact absurd (by congr) r4
  · simp only [Value.ownBlock, Option.some.injEq] at r5
    have hne : ∀ i x, look (h.set b none) i = some x → (ι i).blk ≠ g := by
      intro i x hi
      obtain ⟨hi, hib⟩ := look_set_none hi
      rcases r5 with r5 | r5
      · rw [r5]; exact (hr.hr.inj b i blk x hl hi (by rw [hown]; rfl) (Ne.symm hib)).symm
      · rw [r5]; have := hr.hr.lt hi; omega
    have hcells : ∀ (k : Nat) v, (blk.cells ++ news)[k]? = some v → ∃ u, cur[k]? = some u ∧ VR ι h.length v u := by
      intro k v hk
      have hcur : ∀ j, j < (xs ++ us).length → cur[j]? = (xs ++ us)[j]? := by
        intro j hj
        rw [← htake, List.getElem?_take]
        have : j < (n + m) * ie.size := by have := r2.1; omega
        rw [if_pos this]; simp
      by_cases hk1 : k < blk.cells.length
      · rw [List.getElem?_append_left hk1] at hk
        obtain ⟨u, e1, e2⟩ := g2 k v hk
        refine ⟨u, ?_, e2⟩
        rw [hcur k (by simp; omega), List.getElem?_append_left (by omega)]
        simp only [xs]
        rw [List.getElem?_take, if_pos (by omega)]
        rw [hoff, Nat.zero_add] at e1
        simpa using e1
      · rw [List.getElem?_append_right (by omega)] at hk
        obtain ⟨u, e1, e2⟩ := hrel _ v hk
        refine ⟨u, ?_, e2⟩
        have hkl := (List.getElem?_eq_some_iff.1 e1).1
        rw [hcur k (by simp; omega), List.getElem?_append_right (by omega)]
        rw [hxl, ← hcl]; exact e1
    have HH := hr.hr.grow (h1 := h.set b none) (w' := w') (fun i x hi => (look_set_none hi).1) hlen1 (fun i x hi => by
        obtain ⟨hi', hib⟩ := look_set_none hi
        refine r3.block _ (hr.hr.lt hi') fun he => ?_
        injection he with he
        exact hr.hr.inj b i blk x hl hi' (by rw [hown]; rfl) (Ne.symm hib) he.symm) hg hne hpos hcsz hcapm (cs := blk.cells ++ news) hcells
    have hn : h.length ≤ (h.set b none ++ [some (⟨blk.cells ++ news, some (e', ie.size)⟩ : Blk)]).length := by simp
    refine ⟨w', upι ι h.length ⟨g, 0, cap, false⟩, _, r1, ?_, ?_⟩
    · have := VR.slS (ι := upι ι h.length ⟨g, 0, cap, false⟩) (n := h.length + 1) h.length (n + m) (by omega) (.inl (by rw [upι_self]; exact hnc))
      rw [upι_self] at this
      exact this
    · refine { defers := hr.defers, len := hr.len, tm := fun i hi => (hr.tm i hi).ext hn fun j hj => upι_lt hj, hr := HH, agree := fun i hi => ?_, n0 := Nat.le_trans hr.n0 hn, fr := fun k hk hS => ?_, ow := fun i x hi ho => ?_, sz := Nat.le_trans hr.sz r3.size, os := r3.os.trans hr.os, tape := r3.tape.trans hr.tape, output := r3.output.trans hr.output }
      · rw [upι_lt (Nat.lt_of_lt_of_le hi hr.n0)]; exact hr.agree i hi
      · rw [r3.block k (Nat.lt_of_lt_of_le hk hr.sz) (fun he => ?_)]
        · exact hr.fr k hk hS
        · injection he with he
          rcases hr.ow b blk hl (by rw [hown]; rfl) with h1 | h1
          · omega
          · rw [← he] at h1; exact hS h1
      · have hi1 := look_lt hi
        simp at hi1
        rcases Nat.lt_or_ge i h.length with hlt | hge
        · rw [upι_lt hlt]
          rw [look_app_lt (by omega)] at hi
          exact hr.ow i x (look_set_none hi).1 ho
        · have : i = h.length := by omega
          subst this
          rw [upι_self]
          rcases r5 with r5 | r5
          · rw [r5]; exact hr.ow b blk hl (by rw [hown]; rfl)
          · rw [r5]; exact .inl hr.sz
/-- append to nil -/
theorem append_nil_ok {Γ : Cx} {N : Nat} {t : Nat → Value} {a : Act} (hr : Rel Γ ι N t h a w) {ty rty e : TypeId} {ie : TI} (hty : P.underlying ty = some (.slice e)) (hie : TOK P e ie)
    {x : Value} {m : Nat} {news : List Value} (hm0 : 0 < m)
    (hx : ∃ ad c, ∃ us : List Value, x = .slice (some ad) m c ∧ us.length = news.length ∧ (∀ (j : Nat) u, us[j]? = some u → w.cell? (ad.add j) = some u) ∧ (∀ (k : Nat) v, news[k]? = some v → ∃ u, us[k]? = some u ∧ VR ι h.length v u))
    (hnl : news.length = m * ie.size) (hone : news.all one1 = true) (hbytes : m * ie.bytes ≤ 140737488355328) (h63 : m ≤ maxLen) :
    ∃ w' ι' u, (Builtin.append_ #[ty, ty] rty #[.slice none 0 0, x]).run P w = .ok u w' ∧
      VR ι' (h.length + 1) (.slice (some ⟨h.length, 0, none⟩) m 1) u ∧ Rel Γ ι' N t (h ++ [some ⟨news, some (e, ie.size)⟩]) a w' := by
  have hpos : ie.size ≠ 0 := hie.zp.2.2.2
  obtain ⟨inf, i1, i2, i3, i4⟩ := hie.info
  have hzs : ie.zval.cells.size = ie.size := by
    unfold TI.zval
    cases ha : ie.agg with
    | true => simp [Value.cells, hie.zp.2.1]
    | false =>
      have h1 := hie.zp.2.2.1 ha
      have h2 := hie.zp.2.1
      cases hz : ie.zero with
      | nil => rw [hz] at h2; simp at h2; omega
      | cons v vs =>
        have h3 := hie.zp.1
        rw [hz] at h3
        simp only [List.all_cons, Bool.and_eq_true] at h3
        have : v.cells = #[v] := by cases v <;> first | rfl | simp [plainV] at h3
        simp [this, h1]
  obtain ⟨ad, c, us, rfl, hul, hcell, hrel⟩ := hx
  obtain ⟨v', w', r1, r2, r3, r4, r5⟩ := run_append_own_at (P := P) w 0 ty rty e inf ie.zval ie.size ie.bytes hty i1 i4 i2 i3 hzs (Nat.pos_of_ne_zero hpos) (.slice none 0 0) 0 [] ⟨by simp, .inl ⟨rfl, rfl⟩⟩ ad m c us (by omega) hcell
    (fun u hu => by
      obtain ⟨k, hk, e⟩ := List.getElem_of_mem hu
      have hk2 : k < news.length := by omega
      obtain ⟨u', e1, e2⟩ := hrel k _ (List.getElem?_eq_getElem hk2)
      have e3 : us[k]? = some us[k] := List.getElem?_eq_getElem hk
      have e4 : us[k] = u' := by rw [e3] at e1; injection e1
      rw [← e, e4]
      exact (one1_rel (List.all_eq_true.1 hone _ (List.getElem_mem hk2)) e2).1) (by omega) (by simpa using hbytes) (Nat.zero_le _)
  have hne0 : v' ≠ .slice none 0 0 := fun he => by
    have := (r4.1 he).2
    omega
  rw [Nat.zero_add] at r2
  rcases r2.2 with ⟨rfl, h0⟩ | ⟨g, cap, cur, rfl, _, hg, hnc, hcapm, hcsz, htake⟩
  · omega
  · simp only [Value.ownBlock] at r5
    have r5 : g = w.heap.size := by
      rcases r5 with r5 | r5
      · cases r5
      · injection r5
    subst r5
    have hcells : ∀ (k : Nat) v, news[k]? = some v → ∃ u, cur[k]? = some u ∧ VR ι h.length v u := by
      intro k v hk
      obtain ⟨u, e1, e2⟩ := hrel _ v hk
      refine ⟨u, ?_, e2⟩
      have hkl := (List.getElem?_eq_some_iff.1 e1).1
      have : cur.toList[k]? = us[k]? := by
        have ht : us = cur.toList.take (m * ie.size) := htake.symm
        have hk3 : k < m * ie.size := by omega
        rw [ht, List.getElem?_take, if_pos hk3]
      rw [← Array.getElem?_toList, this, e1]
    have HH := hr.hr.grow (h1 := h) (w' := w') (fun i x hi => hi) rfl (fun i x hi => r3.block _ (hr.hr.lt hi) (by simp [Value.ownBlock])) hg (fun i x hi => by have := hr.hr.lt hi; omega) hpos hcsz hcapm (cs := news) hcells
    have hn : h.length ≤ (h ++ [some (⟨news, some (e, ie.size)⟩ : Blk)]).length := by simp
    refine ⟨w', upι ι h.length ⟨w.heap.size, 0, cap, false⟩, _, r1, ?_, ?_⟩
    · have := VR.slS (ι := upι ι h.length ⟨w.heap.size, 0, cap, false⟩) (n := h.length + 1) h.length m (by omega) (.inl (by rw [upι_self]; exact hnc))
      rw [upι_self] at this
      exact this
    · refine { defers := hr.defers, len := hr.len, tm := fun i hi => (hr.tm i hi).ext hn fun j hj => upι_lt hj, hr := HH, agree := fun i hi => ?_, n0 := Nat.le_trans hr.n0 hn, fr := fun k hk hS => ?_, ow := fun i x hi ho => ?_, sz := Nat.le_trans hr.sz r3.size, os := r3.os.trans hr.os, tape := r3.tape.trans hr.tape, output := r3.output.trans hr.output }
      · rw [upι_lt (Nat.lt_of_lt_of_le hi hr.n0)]; exact hr.agree i hi
      · rw [r3.block k (Nat.lt_of_lt_of_le hk hr.sz) (by simp [Value.ownBlock])]
        exact hr.fr k hk hS
      · have hi1 := look_lt hi
        simp at hi1
        rcases Nat.lt_or_ge i h.length with hlt | hge
        · rw [upι_lt hlt]
          rw [look_app_lt (by omega)] at hi
          exact hr.ow i x hi ho
        · have : i = h.length := by omega
          subst this
          rw [upι_self]
          exact .inl hr.sz
end
end Go.Gl

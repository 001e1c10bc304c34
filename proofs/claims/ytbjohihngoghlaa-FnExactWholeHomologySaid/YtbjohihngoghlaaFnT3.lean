/- Lists of Torsion of our own, by their cells; changes in them. No condition. -/
import Derived.Test.YtbjohihngoghlaaFnT2
set_option linter.unusedVariables false
set_option linter.unusedSimpArgs false
namespace Go.Gl
open Go.Proofs Go.Proofs.Ytbjohihngoghlaa Go.Pl

theorem two_cells {cs : List Value} {a : Nat} {x y : Value} : (cs.drop a).take 2 = [x, y] ↔ cs[a]? = some x ∧ cs[a + 1]? = some y := by
  constructor
  · intro h
    have h0 : ((cs.drop a).take 2)[0]? = some x := by rw [h]; rfl
    have h1 : ((cs.drop a).take 2)[1]? = some y := by rw [h]; rfl
    rw [List.getElem?_take, if_pos (by omega), List.getElem?_drop] at h0 h1
    exact ⟨h0, h1⟩
  · rintro ⟨h0, h1⟩
    refine List.ext_getElem? fun i => ?_
    rw [List.getElem?_take]
    by_cases hi : i < 2
    · rw [if_pos hi, List.getElem?_drop]
      rcases (by omega : i = 0 ∨ i = 1) with rfl | rfl
      · rw [Nat.add_zero, h0]; rfl
      · rw [h1]; rfl
    · rw [if_neg hi, List.getElem?_eq_none (by simp; omega)]
/-- by the cells -/
structure TP (n : Nat) (h : AH) (b o : Nat) (cs : List Value) (xs : List STor) (ms : List (List Nat)) : Prop where
  len : ms.length = xs.length
  sz : o + xs.length * 2 ≤ cs.length
  blk : look h b = some ⟨cs, some (114, 2)⟩
  el : ∀ k, k < xs.length → ∃ u m, cs[o + k * 2]? = some (.int .i64 (tor xs k).free) ∧ cs[o + k * 2 + 1]? = some u ∧ ms[k]? = some m ∧ OI n h u (tor xs k).parts m
  nd : ms.flatten.Nodup
  out : b ∉ ms.flatten
theorem OTors.cells {n : Nat} {h : AH} {v : Value} {xs : List STor} {l : List Nat} (o : OTors n h v xs l) (h0 : xs ≠ []) : ∃ b c cs ms, Wk v (.slice (some ⟨b, c, none⟩) xs.length 0) ∧ n ≤ b ∧ l = b :: ms.flatten ∧ TP n h b c cs xs ms := by
  obtain ⟨hm, ⟨rfl, h1, h2⟩ | ⟨b, c, blk, ps, h1, h2, h3, h4, h5, h6, h7, h8⟩⟩ := o
  · exact absurd rfl h0
  have hp := h6.len
  refine ⟨b, c, blk.cells, ps.map (·.2), h1, h2, h7, by rw [List.length_map]; exact hp, h5, by rw [h3, ← h4], fun k hk => ?_, h6.nd, h8⟩
  obtain ⟨q, hq⟩ : ∃ q, ps[k]? = some q := ⟨ps[k]'(by omega), List.getElem?_eq_getElem _⟩
  have hx : q.1 = tor xs k := by
    have := tor_get hk
    have h9 := h6.fst
    rw [← h9, List.getElem?_map, hq] at this
    rw [h9] at this
    simpa using this
  obtain ⟨us, a1, a2, w, rfl, a4⟩ := h6.tell.el k q hq
  rw [part_cells (by omega)] at a2
  obtain ⟨c1, c2⟩ := two_cells.1 a2
  exact ⟨w, q.2, by rw [← hx]; exact c1, c2, by rw [List.getElem?_map, hq]; rfl, by rw [← hx]; exact a4⟩
theorem OTors.ofCells {n : Nat} {h : AH} {v : Value} {xs : List STor} {b c : Nat} {cs : List Value} {ms : List (List Nat)} (hm : xs.length ≤ 9223372036854775807) (hw : Wk v (.slice (some ⟨b, c, none⟩) xs.length 0)) (hb : n ≤ b) (t : TP n h b c cs xs ms) : OTors n h v xs (b :: ms.flatten) := by
  have hl := t.len
  have hsz := t.sz
  have e2 : (xs.zip ms).map (·.2) = ms := List.map_snd_zip (by omega)
  have e1 : (xs.zip ms).map (·.1) = xs := List.map_fst_zip (by omega)
  refine ⟨hm, .inr ⟨b, c, _, xs.zip ms, hw, hb, t.blk, rfl, t.sz, ⟨e1, ⟨?_, fun k q hq => ?_⟩, by rw [e2]; exact t.nd⟩, by rw [e2], by rw [e2]; exact t.out⟩⟩
  · rw [List.length_take, List.length_drop, List.length_zip]
    show min (xs.length * 2) (cs.length - c) = _
    rw [Nat.min_eq_left (by omega), Nat.min_eq_left (by omega)]
  · have hkl := (List.getElem?_eq_some_iff.1 hq).1
    rw [List.length_zip] at hkl
    obtain ⟨u, m, c1, c2, c3, c4⟩ := t.el k (by omega)
    rw [List.getElem?_zip_eq_some] at hq
    obtain ⟨q1, q2⟩ := hq
    rw [tor_get (by omega)] at q1
    injection q1 with q1
    rw [c3] at q2
    injection q2 with q2
    refine ⟨[.int .i64 q.1.free, u], rfl, ?_, u, rfl, by rw [← q1, ← q2]; exact c4⟩
    rw [part_cells (by omega)]
    exact two_cells.2 ⟨by rw [← q1]; exact c1, c2⟩
theorem tor_set {xs : List STor} {i k : Nat} (t : STor) (hi : i < xs.length) : tor (xs.set i t) k = if k = i then t else tor xs k := by
  unfold tor
  rw [List.getD_eq_getElem?_getD, List.getD_eq_getElem?_getD, List.getElem?_set]
  by_cases h : i = k
  · subst h; simp [hi]
  · rw [if_neg h, if_neg (Ne.symm h)]
/-- a Free is changed -/
theorem TP.free {n : Nat} {h h' : AH} {b c : Nat} {cs : List Value} {xs : List STor} {ms : List (List Nat)} (t : TP n h b c cs xs ms) {i : Nat} (hi : i < xs.length) {y : Int} (w2 : look h' b = some ⟨setCells cs (c + i * 2) [.int .i64 y], some (114, 2)⟩) (w3 : ∀ j, j ≠ b → look h' j = look h j) :
    TP n h' b c (setCells cs (c + i * 2) [.int .i64 y]) (xs.set i ⟨y, (tor xs i).parts⟩) ms := by
  have hsz := t.sz
  have hl := setCells_length cs (c + i * 2) [.int .i64 y] (by simp; omega)
  refine ⟨by rw [List.length_set]; exact t.len, by rw [List.length_set, hl]; exact t.sz, w2, fun k hk => ?_, t.nd, t.out⟩
  rw [List.length_set] at hk
  obtain ⟨u, m, c1, c2, c3, c4⟩ := t.el k hk
  have c5 : OI n h' u (tor xs k).parts m := OI.fr.keep _ _ _ _ _ _ c4 fun j bb e1 e2 e3 => by
    rw [w3 j fun e => ?_]
    · exact e1
    · subst e
      rcases e3 with e3 | ⟨ty, e3, _⟩
      · exact t.out (List.mem_flatten.2 ⟨m, List.mem_of_getElem? c3, e3⟩)
      · cases e3
  refine ⟨u, m, ?_, ?_, c3, ?_⟩
  · rw [tor_set _ hi, setCells_get _ _ _ (by simp; omega)]
    by_cases hki : k = i
    · subst hki
      rw [if_pos rfl, if_pos (by simp)]
      simp
    · rw [if_neg hki, if_neg (by simp; omega)]
      exact c1
  · rw [setCells_get _ _ _ (by simp; omega), if_neg (by simp; omega)]
    exact c2
  · rw [tor_set _ hi]
    by_cases hki : k = i
    · subst hki; rw [if_pos rfl]; exact c5
    · rw [if_neg hki]; exact c5
/-- the parts of one are changed in their place -/
theorem TP.part {n : Nat} {h h' : AH} {b c : Nat} {cs : List Value} {xs : List STor} {ms : List (List Nat)} (t : TP n h b c cs xs ms) {i : Nat} (hi : i < xs.length) {u : Value} {m : List Nat} {y : List Int} (hu : cs[c + i * 2 + 1]? = some u) (hms : ms[i]? = some m) (mk : Mk h h' m) (oy : OI n h' u y m) :
    TP n h' b c cs (xs.set i ⟨(tor xs i).free, y⟩) ms := by
  obtain ⟨_, fj⟩ := flat_nodup.1 t.nd
  refine ⟨by rw [List.length_set]; exact t.len, by rw [List.length_set]; exact t.sz, mk.out b _ (fun hb => t.out (List.mem_flatten.2 ⟨m, List.mem_of_getElem? hms, hb⟩)) t.blk, fun k hk => ?_, t.nd, t.out⟩
  rw [List.length_set] at hk
  obtain ⟨u', m', c1, c2, c3, c4⟩ := t.el k hk
  by_cases hki : k = i
  · subst hki
    rw [hu] at c2; injection c2 with c2; subst c2
    rw [hms] at c3; injection c3 with c3; subst c3
    exact ⟨u, m, by rw [tor_set _ hi, if_pos rfl]; exact c1, hu, hms, by rw [tor_set _ hi, if_pos rfl]; exact oy⟩
  · refine ⟨u', m', by rw [tor_set _ hi, if_neg hki]; exact c1, c2, c3, ?_⟩
    rw [tor_set _ hi, if_neg hki]
    refine OI.fr.keep _ _ _ _ _ _ c4 fun j bb e1 e2 e3 => mk.out j bb (fun hj => ?_) e1
    rcases e3 with e3 | ⟨ty, e3, _⟩
    · exact hki (fj k i m' m j c3 hms e3 hj)
    · cases e3
end Go.Gl

/- WholeHomology: both sides; the law's helpers that read. No condition. -/
import Derived.Test.YtbjohihngoghlaaFnT1
set_option linter.unusedVariables false
set_option linter.unusedSimpArgs false
namespace Go.Gl
open Go.Proofs Go.Proofs.Ytbjohihngoghlaa Go.Pl

theorem OTors.can {n : Nat} {h : AH} {v : Value} {xs : List STor} {l : List Nat} (o : OTors n h v xs l) : ∃ b c, Wk v (.slice (some ⟨b, c, none⟩) xs.length 0) ∧ OTors n h (.slice (some ⟨b, c, none⟩) xs.length 0) xs l := by
  obtain ⟨hm, ⟨rfl, h1, h2⟩ | ⟨b, c, blk, ps, h1, h2⟩⟩ := o
  · exact ⟨0, 0, h2, hm, .inl ⟨rfl, h1, Wk.refl _⟩⟩
  · exact ⟨b, c, h1, hm, .inr ⟨b, c, blk, ps, Wk.refl _, h2⟩⟩
theorem OTors.low {n m : Nat} {h : AH} {v : Value} {xs : List STor} {l : List Nat} (o : OTors n h v xs l) (hl : m ≤ n) : OTors m h v xs l := by
  obtain ⟨hm, h1 | ⟨b, c, blk, ps, h1, h2, h3, h4, h5, h6, h7⟩⟩ := o
  · exact ⟨hm, .inl h1⟩
  · refine ⟨hm, .inr ⟨b, c, blk, ps, h1, by omega, h3, h4, h5, ⟨h6.fst, ⟨h6.tell.len, fun k x hk => ?_⟩, h6.nd⟩, h7⟩⟩
    obtain ⟨us, a1, a2, w, a3, a4⟩ := h6.tell.el k x hk
    exact ⟨us, a1, a2, w, a3, OI.fr.low _ _ _ _ _ _ a4 hl⟩
/-- what stands from n on is enough -/
theorem OTors.far {n : Nat} {h h' : AH} {v : Value} {xs : List STor} {l : List Nat} (o : OTors n h v xs l) (hk : ∀ i b, n ≤ i → look h i = some b → look h' i = some b) : OTors n h' v xs l := by
  obtain ⟨hm, h1 | ⟨b, c, blk, ps, h1, h2, h3, h4, h5, h6, h7⟩⟩ := o
  · exact ⟨hm, .inl h1⟩
  · refine ⟨hm, .inr ⟨b, c, blk, ps, h1, h2, hk b blk h2 h3, h4, h5, ⟨h6.fst, ⟨h6.tell.len, fun k x hx => ?_⟩, h6.nd⟩, h7⟩⟩
    obtain ⟨us, a1, a2, w, a3, a4⟩ := h6.tell.el k x hx
    exact ⟨us, a1, a2, w, a3, OI.fr.keep _ _ _ _ _ _ a4 fun i bb e1 e2 _ => hk i bb e2 e1⟩
theorem OTors.le {n : Nat} {h h' : AH} {v : Value} {xs : List STor} {l : List Nat} (o : OTors n h v xs l) (hl : Le h h') : OTors n h' v xs l := o.far fun i b _ e => hl.at_ _ _ e
theorem part_cells {cs : List Value} {o N k : Nat} (h : k * 2 + 2 ≤ N) : (((cs.drop o).take N).drop (k * 2)).take 2 = (cs.drop (o + k * 2)).take 2 := by
  rw [List.drop_take, List.take_take, List.drop_drop, Nat.min_eq_left (by omega)]
theorem TO.len {n : Nat} {h : AH} {cells : List Value} {xs : List STor} {ps : List (STor × List Nat)} (t : TO n h cells xs ps) : ps.length = xs.length := by rw [← t.fst, List.length_map]
theorem OTors.reads {n : Nat} {h : AH} {v : Value} {xs : List STor} {l : List Nat} (o : OTors n h v xs l) : RT h v xs := by
  obtain ⟨hm, ⟨rfl, h1, h2⟩ | ⟨b, c, blk, ps, h1, h2, h3, h4, h5, h6, h7⟩⟩ := o
  · exact ⟨hm, 0, 0, h2, fun k x hk => by simp at hk⟩
  · refine ⟨hm, b, c, h1, fun k x hk => ?_⟩
    have hkl := (List.getElem?_eq_some_iff.1 hk).1
    have hp := h6.len
    obtain ⟨q, hq⟩ : ∃ q, ps[k]? = some q := ⟨ps[k]'(by omega), List.getElem?_eq_getElem _⟩
    have hx : q.1 = x := by
      have := h6.fst
      rw [← this, List.getElem?_map, hq] at hk
      simpa using hk
    obtain ⟨us, a1, a2, w, a3, a4⟩ := h6.tell.el k q hq
    rw [part_cells (by omega)] at a2
    exact ⟨blk, us, h3, a1, by rw [mulE_eq]; exact a2, w, by rw [← hx]; exact a3, by rw [← hx]; exact OI.reads _ _ _ _ _ a4⟩
def wholeH (x : SWhole) : List STor × Int := if wholeOk x then (homol x, 0) else ([], 1)

theorem wholeHI_c (h : AH) (v : Value) (x : SWhole) (hx : RWhole h v x) : ACalls Try.prog 17 [v] h (fun r h' => ∃ v l, r = .tuple #[v, .int .i64 (wholeH x).2] ∧ OTors h.length h' v (wholeH x).1 l ∧ Le h h') := by
  obtain ⟨b1, o1, b2, o2, kx, qx⟩ := hx.can
  refine ACalls.wk (args' := [.agg #[.slice (some ⟨b1, o1, none⟩) x.dims.length 0, .slice (some ⟨b2, o2, none⟩) x.maps.length 0]]) ?_ (.cons kx .nil)
  refine ACalls.of Tt.tab Try.func17 rfl (by kernel_rfl) Try.ntmps17 _ rfl rfl (fun hw => ?_)
  have S := Sep.start h
  refine S.new fun b3 g S => ?_
  refine LoadX.same (v := .agg #[.slice (some ⟨b1, o1, none⟩) x.dims.length 0, .slice (some ⟨b2, o2, none⟩) x.maps.length 0]) (S.at_ 0 rfl) rfl ?_
  refine CallX.same (isWholeI_c _ _ x ⟨_, _, rfl, qx.le S.le⟩) ?_
  rintro r g' ⟨rfl, rfl⟩
  unfold wholeH
  refine BIf.mk (fun e1 => ?_) (fun e1 => ?_)
  · have e1 : wholeOk x = false := by simpa using e1
    rw [e1]
    exact FinX.here S.le.len ⟨_, [], rfl, ⟨by simp, .inl ⟨rfl, rfl, Wk.nil _⟩⟩, S.le⟩
  have e1 : wholeOk x = true := by simpa using e1
  rw [if_pos e1]
  refine LoadX.same (v := .agg #[.slice (some ⟨b1, o1, none⟩) x.dims.length 0, .slice (some ⟨b2, o2, none⟩) x.maps.length 0]) (S.at_ 0 rfl) rfl ?_
  refine CallX.canon (homologyIO_c _ _ x ⟨_, _, rfl, qx.le S.le⟩ e1) ?_
  rintro r g' ⟨l, o, L⟩
  obtain ⟨b4, o4, k4, o⟩ := o.can
  refine ⟨_, k4, ?_⟩
  exact FinX.here (S.le.trans L).len ⟨_, l, rfl, o.low S.le.len, S.le.trans L⟩

theorem wholeHS_c (h : AH) (v : Value) (x : SWhole) (hx : RWhole h v x) : ACalls Try.prog 15 [v] h (fun r h' => ∃ v l, r = .tuple #[v, .int .i64 (wholeH x).2] ∧ OTors h.length h' v (wholeH x).1 l ∧ Le h h') := by
  obtain ⟨b1, o1, b2, o2, kx, qx⟩ := hx.can
  refine ACalls.wk (args' := [.agg #[.slice (some ⟨b1, o1, none⟩) x.dims.length 0, .slice (some ⟨b2, o2, none⟩) x.maps.length 0]]) ?_ (.cons kx .nil)
  refine ACalls.of Tt.tab Try.func15 rfl (by kernel_rfl) Try.ntmps15 _ rfl rfl (fun hw => ?_)
  have S := Sep.start h
  refine S.new fun b3 g S => ?_
  refine LoadX.same (v := .agg #[.slice (some ⟨b1, o1, none⟩) x.dims.length 0, .slice (some ⟨b2, o2, none⟩) x.maps.length 0]) (S.at_ 0 rfl) rfl ?_
  refine CallX.same (l07Is_c _ _ x ⟨_, _, rfl, qx.le S.le⟩) ?_
  rintro r g' ⟨rfl, rfl⟩
  unfold wholeH
  refine BIf.mk (fun e1 => ?_) (fun e1 => ?_)
  · have e1 : wholeOk x = false := by simpa using e1
    rw [e1]
    exact FinX.here S.le.len ⟨_, [], rfl, ⟨by simp, .inl ⟨rfl, rfl, Wk.nil _⟩⟩, S.le⟩
  have e1 : wholeOk x = true := by simpa using e1
  rw [if_pos e1]
  refine LoadX.same (v := .agg #[.slice (some ⟨b1, o1, none⟩) x.dims.length 0, .slice (some ⟨b2, o2, none⟩) x.maps.length 0]) (S.at_ 0 rfl) rfl ?_
  refine CallX.canon (l07HomologyO_c _ _ x ⟨_, _, rfl, qx.le S.le⟩ e1) ?_
  rintro r g' ⟨l, o, L⟩
  obtain ⟨b4, o4, k4, o⟩ := o.can
  refine ⟨_, k4, ?_⟩
  exact FinX.here (S.le.trans L).len ⟨_, l, rfl, o.low S.le.len, S.le.trans L⟩

end Go.Gl

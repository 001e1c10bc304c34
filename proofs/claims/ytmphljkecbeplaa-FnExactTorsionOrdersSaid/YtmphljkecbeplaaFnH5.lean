/- Chapter 7: TorsionOrders, TorsionExponents, LastBockstein. No condition. -/
import Derived.Test.YtmphljkecbeplaaFnH4
set_option linter.unusedVariables false
set_option linter.unusedSimpArgs false
namespace Go.Gl
open Go.Proofs Go.Proofs.Ytmphljkecbeplaa Go.Pl

def ownL (last : Bool) (parts : List Int) (i : Nat) : Int := if last then (if i = 0 then 1 else ith parts (i - 1)) else prd (parts.take i)
theorem ownL_prd (parts : List Int) : ownL false parts parts.length = prd parts := by simp [ownL]
theorem ownL_last (parts : List Int) : ownL true parts parts.length = lastP parts := by
  unfold ownL lastP
  by_cases h : parts = []
  · subst h; rfl
  · have : parts.length ≠ 0 := fun e => h (List.length_eq_zero_iff.1 e)
    simp [h]
def ordsL (last : Bool) (xs : List STor) : List Int := tab xs.length fun i => ownL last (tor xs i).parts (tor xs i).parts.length
theorem tors_prd {x : SWhole} (h : wholeOk x = true) : torsOf prd x = (ordsL false (homol x), 0) := by
  unfold torsOf ordsL
  rw [if_pos h]
  simp only [ownL_prd]
theorem tors_last {x : SWhole} (h : wholeOk x = true) : torsOf lastP x = (ordsL true (homol x), 0) := by
  unfold torsOf ordsL
  rw [if_pos h]
  simp only [ownL_last]
theorem tors_bad {φ : List Int → Int} {x : SWhole} (h : wholeOk x = false) : torsOf φ x = ([], 1) := by
  unfold torsOf
  rw [h]; rfl

theorem ordersI_c (h : AH) (v : Value) (x : SWhole) (hx : RWhole h v x) : ACalls Try.prog 40 [v] h (MadeC OI h (torsOf prd x).1 (torsOf prd x).2) := by
  obtain ⟨b1, o1, b2, o2, kx, qx⟩ := hx.can
  refine ACalls.wk (args' := [.agg #[.slice (some ⟨b1, o1, none⟩) x.dims.length 0, .slice (some ⟨b2, o2, none⟩) x.maps.length 0]]) ?_ (.cons kx .nil)
  refine ACalls.of Tt.tab Try.func40 rfl (by kernel_rfl) Try.ntmps40 _ rfl rfl (fun hw => ?_)
  have S := Sep.start h
  refine S.new fun b3 g S => ?_
  refine LoadX.same (v := .agg #[.slice (some ⟨b1, o1, none⟩) x.dims.length 0, .slice (some ⟨b2, o2, none⟩) x.maps.length 0]) (S.at_ 0 rfl) rfl ?_
  refine CallX.canon (torsion_c _ _ x ⟨_, _, rfl, qx.le S.le⟩ _ prd (fun g u t hu hk => order1_c g u t hu hk)) ?_
  rintro r g' ⟨v', l, rfl, o, gg⟩
  obtain ⟨b4, o4, k4, o5⟩ := Leaf.can o
  refine ⟨_, Wk.tuple (.cons k4 (.cons (Wk.refl _) .nil)), ?_⟩
  exact FinX.here (S.le.trans gg).len ⟨_, l, rfl, OI.fr.low _ _ _ _ _ _ o5 S.le.len, S.le.trans gg⟩

theorem exposI_c (h : AH) (v : Value) (x : SWhole) (hx : RWhole h v x) : ACalls Try.prog 36 [v] h (MadeC OI h (torsOf lastP x).1 (torsOf lastP x).2) := by
  obtain ⟨b1, o1, b2, o2, kx, qx⟩ := hx.can
  refine ACalls.wk (args' := [.agg #[.slice (some ⟨b1, o1, none⟩) x.dims.length 0, .slice (some ⟨b2, o2, none⟩) x.maps.length 0]]) ?_ (.cons kx .nil)
  refine ACalls.of Tt.tab Try.func36 rfl (by kernel_rfl) Try.ntmps36 _ rfl rfl (fun hw => ?_)
  have S := Sep.start h
  refine S.new fun b3 g S => ?_
  refine LoadX.same (v := .agg #[.slice (some ⟨b1, o1, none⟩) x.dims.length 0, .slice (some ⟨b2, o2, none⟩) x.maps.length 0]) (S.at_ 0 rfl) rfl ?_
  refine CallX.canon (torsion_c _ _ x ⟨_, _, rfl, qx.le S.le⟩ _ lastP (fun g u t hu hk => expo1_c g u t hu hk)) ?_
  rintro r g' ⟨v', l, rfl, o, gg⟩
  obtain ⟨b4, o4, k4, o5⟩ := Leaf.can o
  refine ⟨_, Wk.tuple (.cons k4 (.cons (Wk.refl _) .nil)), ?_⟩
  exact FinX.here (S.le.trans gg).len ⟨_, l, rfl, OI.fr.low _ _ _ _ _ _ o5 S.le.len, S.le.trans gg⟩

theorem l07Orders_c (h : AH) (v : Value) (x : SWhole) (hx : RWhole h v x) (hk : wholeOk x = true) (last : Bool) : ACalls Try.prog 96 [v, .bool last] h (Made OI h (ordsL last (homol x))) := by
  obtain ⟨b1, o1, b2, o2, kx, qx⟩ := hx.can
  refine ACalls.madeI (ACalls.wk (args' := [.agg #[.slice (some ⟨b1, o1, none⟩) x.dims.length 0, .slice (some ⟨b2, o2, none⟩) x.maps.length 0], .bool last]) ?_ (.cons kx (.cons (Wk.refl _) .nil)))
  refine ACalls.of Tt.tab Try.func96 rfl (by kernel_rfl) Try.ntmps96 _ rfl rfl (fun hw => ?_)
  have S := Sep.start h
  refine S.new fun b3 g S => ?_
  refine LoadX.same (v := .agg #[.slice (some ⟨b1, o1, none⟩) x.dims.length 0, .slice (some ⟨b2, o2, none⟩) x.maps.length 0]) (S.at_ 0 rfl) rfl ?_
  refine CallX.same (l07Homology_c _ _ x ⟨_, _, rfl, qx.le S.le⟩ hk) ?_
  rintro r' gl ⟨b5, o5, rfl, h4, L⟩
  have ok := homol_ok hk
  have hlen := ok.len
  have h4 := RT.le _ _ _ _ (fresh_sub _ _) h4
  generalize homol x = xs at h4 ok hlen ⊢
  have c1 := h4.cells rfl
  have Sg := S.grow L
  have hL := Sg.le
  have T := Sg.freeze
  clear S Sg
  refine T.new fun b4 g T => ?_
  have T := T.bx_rc 0 (k := 0) rfl rfl
  unfold ordsL
  refine ⟨⟨[1, 4, 5, 6, 7], fun n' vs g2 => ∃ (i b4 : Nat), n' = xs.length - i ∧ i ≤ xs.length ∧ SepM _ h.length gl g2 [.rc tI 1 h.length (.slice (some ⟨b4, 0, none⟩) i 1) i ((tab i fun i => ownL last (tor xs i).parts (tor xs i).parts.length).map (.int .i64))] ∧
    vs = [.bool last, .slice none 0 0, .slice (some ⟨b5, o5, none⟩) xs.length 0, .slice (some ⟨b4, 0, none⟩) i 1, .int .i64 i], _, ⟨0, b4, rfl, Nat.zero_le _, T, rfl⟩, ?_⟩⟩
  rintro n' vs g2 ⟨i, b4, rfl, hi, T, rfl⟩
  refine BIf.mk (fun h2 => ?_) (fun h2 => ?_)
  · have hlt : i < xs.length := by simpa using h2
    have ti := ok.el i
    have t1 := ti.few
    refine ⟨⟨[1, 4, 5, 6, 7, 8, 9], fun n' vs g3 => ∃ (j : Nat), n' = (tor xs i).parts.length - j ∧ j ≤ (tor xs i).parts.length ∧ g3 = g2 ∧
      vs = [.bool last, .slice none 0 0, .slice (some ⟨b5, o5, none⟩) xs.length 0, .slice (some ⟨b4, 0, none⟩) i 1, .int .i64 i, .int .i64 (ownL last (tor xs i).parts j), .int .i64 j], _, ⟨0, rfl, Nat.zero_le _, rfl, by cases last <;> rfl⟩, ?_⟩⟩
    rintro n' vs g3 ⟨j, rfl, hj, rfl, rfl⟩
    refine IdxX.mk (by omega) (by omega) ?_
    refine CT.parts c1 T.le hlt fun b6 o6 h6 => ?_
    refine BIf.mk (fun h3 => ?_) (fun h3 => ?_)
    · have h3 : j < (tor xs i).parts.length := by simpa using h3
      refine BIf.mk (fun h5 => ?_) (fun h5 => ?_)
      · refine IdxX.mk (by omega) (by omega) ?_
        refine CT.parts c1 T.le hlt fun b7 o7 h7 => ?_
        refine IdxX.mk (by omega) (by omega) ?_
        refine (h7.cells rfl).ith T.le h3 ?_
        refine WR.i64 ?_
        refine ⟨(tor xs i).parts.length - (j + 1), by omega, j + 1, rfl, h3, rfl, ?_⟩
        have h5 : last = true := h5
        have e : ownL last (tor xs i).parts (j + 1) = ith (tor xs i).parts j := by rw [h5]; simp [ownL]
        rw [e]; rfl
      · have h5 : last = false := h5
        have e0 : ownL last (tor xs i).parts j = prd ((tor xs i).parts.take j) := by rw [h5]; simp [ownL]
        have e1 : ownL last (tor xs i).parts (j + 1) = prd ((tor xs i).parts.take (j + 1)) := by rw [h5]; simp [ownL]
        have e2 := prd_next h3
        have e3 := prd_part ti (j + 1)
        rw [e0]
        refine IdxX.mk (by omega) (by omega) ?_
        refine CT.parts c1 T.le hlt fun b7 o7 h7 => ?_
        refine IdxX.mk (by omega) (by omega) ?_
        refine (h7.cells rfl).ith T.le h3 ?_
        refine WR.as (r := prd ((tor xs i).parts.take (j + 1))) e2.symm ?_
        refine WR.i64 ?_
        exact ⟨(tor xs i).parts.length - (j + 1), by omega, j + 1, rfl, h3, rfl, by rw [e1]; rfl⟩
    · have hj2 : j = (tor xs i).parts.length := by simp at h3; omega
      subst hj2
      refine T.new fun b7 g T => ?_
      refine T.app 0 rfl rfl rfl (by omega) fun b8 g T => ?_
      refine WR.i64 ?_
      exact ⟨xs.length - (i + 1), by omega, i + 1, b8, rfl, hlt, by rw [tab_succ, List.map_append]; exact T, rfl⟩
  · have hi2 : i = xs.length := by simp at h2; omega
    subst hi2
    exact (T.rc_tr 0 rfl (by rw [tab_length]; omega)).finB hL 0 rfl

theorem ordersS_c (h : AH) (v : Value) (x : SWhole) (hx : RWhole h v x) : ACalls Try.prog 39 [v] h (MadeC OI h (torsOf prd x).1 (torsOf prd x).2) := by
  obtain ⟨b1, o1, b2, o2, kx, qx⟩ := hx.can
  refine ACalls.wk (args' := [.agg #[.slice (some ⟨b1, o1, none⟩) x.dims.length 0, .slice (some ⟨b2, o2, none⟩) x.maps.length 0]]) ?_ (.cons kx .nil)
  refine ACalls.of Tt.tab Try.func39 rfl (by kernel_rfl) Try.ntmps39 _ rfl rfl (fun hw => ?_)
  have S := Sep.start h
  refine S.new fun b3 g S => ?_
  refine LoadX.same (v := .agg #[.slice (some ⟨b1, o1, none⟩) x.dims.length 0, .slice (some ⟨b2, o2, none⟩) x.maps.length 0]) (S.at_ 0 rfl) rfl ?_
  refine CallX.same (l07Is_c _ _ x ⟨_, _, rfl, qx.le S.le⟩) ?_
  rintro r g' ⟨rfl, rfl⟩
  refine BIf.mk (fun e1 => ?_) (fun e1 => ?_)
  · have e1 : wholeOk x = false := by simpa using e1
    rw [tors_bad e1]
    exact S.nilCI
  have e1 : wholeOk x = true := by simpa using e1
  rw [tors_prd e1]
  refine LoadX.same (v := .agg #[.slice (some ⟨b1, o1, none⟩) x.dims.length 0, .slice (some ⟨b2, o2, none⟩) x.maps.length 0]) (S.at_ 0 rfl) rfl ?_
  refine S.made OI.fr (l07Orders_c _ _ x ⟨_, _, rfl, qx.le S.le⟩ e1 false) fun b4 o4 g S => ?_
  exact S.finC 0 rfl

theorem exposS_c (h : AH) (v : Value) (x : SWhole) (hx : RWhole h v x) : ACalls Try.prog 34 [v] h (MadeC OI h (torsOf lastP x).1 (torsOf lastP x).2) := by
  obtain ⟨b1, o1, b2, o2, kx, qx⟩ := hx.can
  refine ACalls.wk (args' := [.agg #[.slice (some ⟨b1, o1, none⟩) x.dims.length 0, .slice (some ⟨b2, o2, none⟩) x.maps.length 0]]) ?_ (.cons kx .nil)
  refine ACalls.of Tt.tab Try.func34 rfl (by kernel_rfl) Try.ntmps34 _ rfl rfl (fun hw => ?_)
  have S := Sep.start h
  refine S.new fun b3 g S => ?_
  refine LoadX.same (v := .agg #[.slice (some ⟨b1, o1, none⟩) x.dims.length 0, .slice (some ⟨b2, o2, none⟩) x.maps.length 0]) (S.at_ 0 rfl) rfl ?_
  refine CallX.same (l07Is_c _ _ x ⟨_, _, rfl, qx.le S.le⟩) ?_
  rintro r g' ⟨rfl, rfl⟩
  refine BIf.mk (fun e1 => ?_) (fun e1 => ?_)
  · have e1 : wholeOk x = false := by simpa using e1
    rw [tors_bad e1]
    exact S.nilCI
  have e1 : wholeOk x = true := by simpa using e1
  rw [tors_last e1]
  refine LoadX.same (v := .agg #[.slice (some ⟨b1, o1, none⟩) x.dims.length 0, .slice (some ⟨b2, o2, none⟩) x.maps.length 0]) (S.at_ 0 rfl) rfl ?_
  refine S.made OI.fr (l07Orders_c _ _ x ⟨_, _, rfl, qx.le S.le⟩ e1 true) fun b4 o4 g S => ?_
  exact S.finC 0 rfl

end Go.Gl

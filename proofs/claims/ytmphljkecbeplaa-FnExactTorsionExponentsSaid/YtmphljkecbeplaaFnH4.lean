/- Chapter 7: torsion orders and exponents, LastBockstein. No condition. -/
import Derived.Test.YtmphljkecbeplaaFnH3
set_option linter.unusedVariables false
set_option linter.unusedSimpArgs false
namespace Go.Gl
open Go.Proofs Go.Proofs.Ytmphljkecbeplaa Go.Pl

theorem prd_next {l : List Int} {i : Nat} (h : i < l.length) : prd (l.take (i + 1)) = prd (l.take i) * ith l i := by
  rw [List.take_succ_eq_append_getElem h, prd_snoc, ith_get h]
theorem prd_part {t : STor} (ok : TorOk t) (i : Nat) : 1 ≤ prd (t.parts.take i) ∧ prd (t.parts.take i) ≤ 24794911296 :=
  ⟨prd_pos fun s hs => ok.pos s (List.mem_of_mem_take hs), Int.le_trans (prd_take i ok.pos) ok.prod⟩

theorem order1_c (h : AH) (v : Value) (t : STor) (hx : RI h v t.parts) (ok : TorOk t) : ACalls Try.prog 102 [v] h (fun r h' => r = .int .i64 (prd t.parts) ∧ h' = h) := by
  obtain ⟨b1, o1, k1, hx⟩ := hx.can
  refine ACalls.wk (args' := [.slice (some ⟨b1, o1, none⟩) t.parts.length 0]) ?_ (.cons k1 .nil)
  refine ACalls.of Tt.tab Try.func102 rfl (by kernel_rfl) Try.ntmps102 _ rfl rfl (fun hw => ?_)
  have c1 := hx.cells rfl
  have hf := ok.few
  refine ⟨⟨[2, 3, 6, 7, 8], fun n' vs g2 => ∃ i : Nat, n' = t.parts.length - i ∧ i ≤ t.parts.length ∧ g2 = h ∧ vs = [.int .i64 0, .int .i64 (prd (t.parts.take i)), .slice (some ⟨b1, o1, none⟩) t.parts.length 0, .int .i64 t.parts.length, .int .i64 i], _, ⟨0, rfl, Nat.zero_le _, rfl, rfl⟩, ?_⟩⟩
  rintro n' vs g2 ⟨i, rfl, hi, rfl, rfl⟩
  refine BIf.mk (fun h2 => ?_) (fun h2 => ?_)
  · have hlt : i < t.parts.length := by simpa using h2
    have h3 := prd_next hlt
    have h4 := prd_part ok (i + 1)
    refine IdxX.mk (by omega) (by omega) ?_
    refine c1.ith (Le.refl _) hlt ?_
    refine WR.as (r := prd (t.parts.take (i + 1))) h3.symm ?_
    refine WR.i64 ?_
    exact ⟨t.parts.length - (i + 1), by omega, i + 1, rfl, hlt, rfl, rfl⟩
  have hi2 : i = t.parts.length := by simp at h2; omega
  subst hi2
  rw [List.take_length]
  exact FinX.keep hw (Le.refl _) rfl ⟨rfl, rfl⟩

theorem expo1_c (h : AH) (v : Value) (t : STor) (hx : RI h v t.parts) (ok : TorOk t) : ACalls Try.prog 99 [v] h (fun r h' => r = .int .i64 (lastP t.parts) ∧ h' = h) := by
  obtain ⟨b1, o1, k1, hx⟩ := hx.can
  refine ACalls.wk (args' := [.slice (some ⟨b1, o1, none⟩) t.parts.length 0]) ?_ (.cons k1 .nil)
  refine ACalls.of Tt.tab Try.func99 rfl (by kernel_rfl) Try.ntmps99 _ rfl rfl (fun hw => ?_)
  have c1 := hx.cells rfl
  have hf := ok.few
  unfold lastP
  refine BIf.mk (fun h2 => ?_) (fun h2 => ?_)
  · have h2 : t.parts.length = 0 := by simp at h2; simp [h2]
    rw [if_pos (List.length_eq_zero_iff.1 h2)]
    exact FinX.keep hw (Le.refl _) rfl ⟨rfl, rfl⟩
  · have h2 : t.parts.length ≠ 0 := by simp at h2; simp [h2]
    rw [if_neg (fun e => h2 (by rw [e]; rfl))]
    refine WR.as (r := ((t.parts.length - 1 : Nat) : Int)) (by omega) ?_
    refine IdxX.mk (by omega) (by omega) ?_
    refine c1.ith (Le.refl _) (show t.parts.length - 1 < t.parts.length by omega) ?_
    exact FinX.keep hw (Le.refl _) rfl ⟨rfl, rfl⟩

theorem torsion_c (h : AH) (v : Value) (x : SWhole) (hx : RWhole h v x) (f : Nat) (φ : List Int → Int) (hf : ∀ (g : AH) (u : Value) (t : STor), RI g u t.parts → TorOk t → ACalls Try.prog f [u] g (fun r h' => r = .int .i64 (φ t.parts) ∧ h' = g)) :
    ACalls Try.prog 98 [v, .func (.func f) #[] #[]] h (MadeC OI h (torsOf φ x).1 (torsOf φ x).2) := by
  obtain ⟨b1, o1, b2, o2, kx, qx⟩ := hx.can
  refine ACalls.wk (args' := [.agg #[.slice (some ⟨b1, o1, none⟩) x.dims.length 0, .slice (some ⟨b2, o2, none⟩) x.maps.length 0], .func (.func f) #[] #[]]) ?_ (.cons kx (.cons (Wk.refl _) .nil))
  refine ACalls.of Tt.tab Try.func98 rfl (by kernel_rfl) Try.ntmps98 _ rfl rfl (fun hw => ?_)
  have S := Sep.start h
  have hbase := Le.refl h
  refine S.new fun b3 g S => ?_
  refine LoadX.same (v := .agg #[.slice (some ⟨b1, o1, none⟩) x.dims.length 0, .slice (some ⟨b2, o2, none⟩) x.maps.length 0]) (S.at_ 0 rfl) rfl ?_
  refine CallX.same (isWholeI_c _ _ x ⟨_, _, rfl, qx.le S.le⟩) ?_
  rintro r g' ⟨rfl, rfl⟩
  unfold torsOf
  refine BIf.mk (fun e1 => ?_) (fun e1 => ?_)
  · have e1 : wholeOk x = false := by simpa using e1
    rw [e1]
    exact S.nilCI
  have e1 : wholeOk x = true := by simpa using e1
  rw [if_pos e1]
  refine S.new fun b4 g S => ?_
  have S := S.bx_rc 0 (k := 0) rfl rfl
  refine LoadX.same (v := .agg #[.slice (some ⟨b1, o1, none⟩) x.dims.length 0, .slice (some ⟨b2, o2, none⟩) x.maps.length 0]) (S.at_ 1 rfl) rfl ?_
  refine CallX.same (homologyI_c _ _ x ⟨_, _, rfl, qx.le S.le⟩ e1) ?_
  rintro r' gl ⟨b5, o5, rfl, h4, L⟩
  have ok := homol_ok e1
  have hlen := ok.len
  have c1 := h4.cells rfl
  have L0 : Le h _ := S.le
  obtain ⟨M, hb, T, L1, L2⟩ := S.adopt L
  have c1 := c1.le ET.le L2
  clear S
  have T := T.drop 1
  refine ⟨⟨[1, 4, 5, 6, 14, 15, 16], fun n' vs g2 => ∃ (i b4 : Nat), n' = (homol x).length - i ∧ i ≤ (homol x).length ∧ SepM M h.length hb g2 [.rc tI 1 h.length (.slice (some ⟨b4, 0, none⟩) i 1) i ((tab i fun i => φ (tor (homol x) i).parts).map (.int .i64))] ∧
    vs = [.func (.func f) #[] #[], .slice none 0 0, .int .i64 0, .slice (some ⟨b4, 0, none⟩) i 1, .slice (some ⟨b5, o5, none⟩) (homol x).length 0, .int .i64 (homol x).length, .int .i64 i], _, ⟨0, b4, rfl, Nat.zero_le _, T, rfl⟩, ?_⟩⟩
  rintro n' vs g2 ⟨i, b4, rfl, hi, T, rfl⟩
  refine BIf.mk (fun h2 => ?_) (fun h2 => ?_)
  · have hlt : i < (homol x).length := by simpa using h2
    refine IdxX.mk (by omega) (by omega) ?_
    refine CT.load c1 T.le hlt fun b6 o6 h6 => ?_
    refine T.new fun b7 g T => ?_
    refine T.put 0 rfl fun g T => ?_
    refine LoadX.same (v := .slice (some ⟨b6, o6, none⟩) (tor (homol x) i).parts.length 0) (T.at_ 0 rfl) rfl ?_
    refine CallX.same (hf _ _ (tor (homol x) i) (RI.le _ _ _ _ T.le h6) (ok.el i)) ?_
    rintro r g' ⟨rfl, rfl⟩
    refine T.new fun b8 g T => ?_
    refine T.app 1 rfl rfl rfl (by omega) fun b9 g T => ?_
    refine WR.i64 ?_
    exact ⟨(homol x).length - (i + 1), by omega, i + 1, b9, rfl, hlt, by rw [tab_succ, List.map_append]; exact T.drop 0, rfl⟩
  · have hi2 : i = (homol x).length := by simp at h2; omega
    subst hi2
    have T := T.rc_tr 0 rfl (by rw [tab_length]; omega)
    obtain ⟨l, o⟩ := T.tre 0 rfl
    have hL := (hbase.trans L1).trans T.le
    exact FinX.here hL.len ⟨_, l, rfl, o, hL⟩

end Go.Gl

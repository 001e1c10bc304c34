/- Chapter 9: JoinBars in the reference; marks in rows of bars; the law. No condition. -/
import Derived.Test.YtblbcjemoadfpaaFnZ4
set_option linter.unusedVariables false
set_option linter.unusedSimpArgs false
namespace Go.Gl
open Go.Proofs Go.Proofs.Ytblbcjemoadfpaa Go.Pl


theorem joinS_c (h : AH) (v w : Value) (xs ys : List SBar) (hx : RB h v xs) (hy : RB h w ys) : ACalls Try.prog 22 [v, w] h (MadeRC 91 3 h (joinB xs ys).1.length (cellsB (joinB xs ys).1) (joinB xs ys).2) := by
  obtain ⟨bx, ox, kx, hx⟩ := hx.can
  obtain ⟨by_, oy, ky, hy⟩ := hy.can
  refine ACalls.wk (args' := [.slice (some ⟨bx, ox, none⟩) xs.length 0, .slice (some ⟨by_, oy, none⟩) ys.length 0]) ?_ (.cons kx (.cons ky .nil))
  have cx := RN.cells hx rfl
  have cy := RN.cells hy rfl
  refine ACalls.of Tt.tab Try.func22 rfl (by kernel_rfl) Try.ntmps22 _ rfl rfl (fun hw => ?_)
  have S := Sep.start h
  refine CallX.same (l09Are_c _ _ xs hx) ?_
  rintro r g ⟨rfl, rfl⟩
  refine BIf.mk (fun h1 => ?_) (fun h1 => ?_)
  · refine BIf.yes rfl ?_
    have h1 : areBars xs = false := by simpa using h1
    unfold joinB
    rw [if_neg (by rw [h1]; simp)]
    exact S.nilRC
  have h1 : areBars xs = true := by simpa using h1
  refine CallX.same (l09Are_c _ _ ys hy) ?_
  rintro r g ⟨rfl, rfl⟩
  refine BIf.mk (fun h2 => ?_) (fun h2 => ?_)
  · have h2 : areBars ys = false := by simpa using h2
    unfold joinB
    rw [if_neg (by rw [h2]; simp)]
    exact S.nilRC
  have h2 : areBars ys = true := by simpa using h2
  have l1 := areBars_len h1
  have l2 := areBars_len h2
  refine WR.as (r := ((xs.length + ys.length : Nat) : Int)) (by omega) ?_
  refine BIf.mk (fun h3 => ?_) (fun h3 => ?_)
  · have h3 : ¬ xs.length + ys.length ≤ 24 := by simp at h3; omega
    unfold joinB
    rw [if_pos ⟨h1, h2⟩, if_neg h3]
    exact S.nilRC
  have h3 : xs.length + ys.length ≤ 24 := by simp at h3; omega
  unfold joinB
  rw [if_pos ⟨h1, h2⟩, if_pos h3]
  have hv : Val (xs ++ ys) := fun x hx => (List.mem_append.1 hx).elim (areBars_val h1 x) (areBars_val h2 x)
  refine S.new fun bb g S => ?_
  have S := S.bx_rc 0 (k := 0) rfl rfl
  refine S.appBk (ie := Tt.ti91) 0 xs.length xs rfl S.le cx rfl (by omega) rfl (by omega) fun A1 c1 g S => ?_
  refine S.appBk (ie := Tt.ti91) 0 (xs.length + ys.length) (xs ++ ys) rfl S.le cy rfl rfl (by rw [cellsB_append]) (by omega) fun A2 c2 g S => ?_
  have el : (srt (xs ++ ys)).length = xs.length + ys.length := by rw [srt_length, List.length_append]
  have hm := sorted_c g _ (xs ++ ys) (S.rbRc 0 rfl (by rw [List.length_append]) (by omega)) hv (by rw [List.length_append]; omega)
  rw [List.length_append] at hm
  refine S.madeR hm fun A c g' L S => ?_
  rw [show (srt (xs ++ ys), (0 : Int)).1 = srt (xs ++ ys) from rfl, el]
  exact S.endRC 0 rfl
/-! ### marks -/
def mk3 (m : Int) (i : Nat) : SBar := ⟨m + 3 * i, m + 3 * i + 1, m + 3 * i + 1 + 1⟩
def markL (m : Int) (k : Nat) : List SBar := (List.range k).map (mk3 m)
theorem markL_length (m : Int) (k : Nat) : (markL m k).length = k := by simp [markL]
theorem bar_markL {m : Int} {k i : Nat} (h : i < k) : bar (markL m k) i = mk3 m i := by simp [bar, markL, h]
theorem ext_bar {L M : List SBar} (hl : L.length = M.length) (h : ∀ i, i < L.length → bar L i = bar M i) : L = M := by
  refine List.ext_getElem hl fun i h1 h2 => ?_
  rw [bar_eq h1, bar_eq h2]; exact h i h1
theorem setCells3 {X : List Value} {o : Nat} {a b c : Value} (h : o + 3 ≤ X.length) : setCells (setCells (setCells X (o + 0) [a]) (o + 1) [b]) (o + 2) [c] = setCells X o [a, b, c] := by
  have l1 : (setCells X (o + 0) [a]).length = X.length := setCells_length _ _ _ (by simp; omega)
  have l2 : (setCells (setCells X (o + 0) [a]) (o + 1) [b]).length = X.length := (setCells_length _ _ _ (by rw [l1]; simp; omega)).trans l1
  apply List.ext_getElem?
  intro i
  rw [setCells_get _ _ _ (by rw [l2]; simp; omega), setCells_get _ _ _ (by rw [l1]; simp; omega), setCells_get _ _ _ (by simp; omega), setCells_get _ _ _ (by simp; omega)]
  simp only [List.length_singleton, List.length_cons, List.length_nil]
  by_cases h2 : i = o + 2
  · subst h2; rw [if_pos (by omega), if_pos (by omega), show o + 2 - (o + 2) = 0 by omega, show o + 2 - o = 2 by omega]; rfl
  by_cases h1 : i = o + 1
  · subst h1; rw [if_neg (by omega), if_pos (by omega), if_pos (by omega), show o + 1 - (o + 1) = 0 by omega, show o + 1 - o = 1 by omega]; rfl
  by_cases h0 : i = o
  · subst h0; rw [if_neg (by omega), if_neg (by omega), if_pos (by omega), if_pos (by omega), show i - (i + 0) = 0 by omega, show i - i = 0 by omega]; rfl
  · rw [if_neg (by omega), if_neg (by omega), if_neg (by omega), if_neg (by omega)]
theorem SepM.bxDo {M : Nat → Prop} {n : Nat} {hb h : AH} {Rs : List Res} (S : SepM M n hb h Rs) (j : Nat) {b : Nat} {ty : TypeId} {s : Nat} {cells cells' : List Value} (hj : gt Rs j = some (.bx b ty s cells)) {P : Program} {f : FuncId} {args : List Value} {r0 : Value} {K : Value → AH → Prop}
    (hc : look h b = some ⟨cells, some (ty, s)⟩ → ACalls P f args h (fun r h' => r = r0 ∧ ChgB h b ⟨cells', some (ty, s)⟩ h')) (hk : ∀ h', SepM M n hb h' (st Rs j (.bx b ty s cells')) → K r0 h') : CallX P f args h K := by
  obtain ⟨F, ⟨h1, h3⟩, h2, _, _, h4⟩ := S.step hj
  refine CallX.same (hc h3) ?_
  rintro r h' ⟨rfl, L, hl⟩
  have hlen2 : h.length ≤ h'.length := by have := L.len; rwa [show (hide (fun i => i = b) h).length = h.length from only_length _ _] at this
  refine hk _ (h4 _ _ F hlen2 ⟨h1, hl⟩ (fun i hi => ⟨Nat.lt_of_lt_of_le (h2 i hi).1 hlen2, .inl hi⟩) fun i blk hf e => ?_)
  exact L.at_ i blk (hide_some.2 ⟨fun hh => hf (by subst hh; exact h1), e⟩)

theorem markB_c (h : AH) (b c : Nat) (L : List SBar) (m : Int) (hl : look h b = some ⟨cellsB L, some (91, 3)⟩) (hk : L.length ≤ 1048576) (hm : 0 ≤ m ∧ m ≤ 10000000) :
    ACalls Try.prog 26 [.slice (some ⟨b, 0, none⟩) L.length c, .int .i64 m] h (fun r h' => r = .int .i64 (m + 3 * L.length) ∧ ChgB h b ⟨cellsB (markL m L.length), some (91, 3)⟩ h') := by
  refine ACalls.of Tt.tab Try.func26 rfl (by kernel_rfl) Try.ntmps26 _ rfl rfl (fun hw => ?_)
  have S := SepM.boxB hl
  refine ⟨⟨[0, 1, 5], fun n' vs g => ∃ (i : Nat) (D : List SBar), n' = L.length - i ∧ i ≤ L.length ∧ D.length = L.length ∧ (∀ j, j < i → bar D j = mk3 m j) ∧ SepM (fun i => i = b) 0 (hide (fun i => i = b) h) g [.bx b 91 3 (cellsB D)] ∧ vs = [.slice (some ⟨b, 0, none⟩) L.length c, .int .i64 (m + 3 * i), .int .i64 i], _, ⟨0, L, rfl, Nat.zero_le _, rfl, fun j hj => by omega, S, by rw [show m + 3 * ((0 : Nat) : Int) = m by omega]; rfl⟩, ?_⟩⟩
  clear S
  rintro n' vs g ⟨i, D, rfl, hi, hD, he, S, rfl⟩
  refine BIf.mk (fun h2 => ?_) (fun h2 => ?_)
  · have hlt : i < L.length := by simpa using h2
    have hX : (cellsB D).length = L.length * 3 := by rw [cellsB_length, hD]
    have hb : 0 + mulE i 3 + 3 ≤ L.length * 3 := by rw [mulE_eq]; omega
    refine IdxX.mk (by omega) (by omega) ?_
    refine S.store (o := 0 + mulE i 3 + 0) (vs := [.int .i64 (m + 3 * i)]) 0 rfl (by rw [hX]; simp only [List.length_singleton]; omega) fun g S => ?_
    have l1 : (setCells (cellsB D) (0 + mulE i 3 + 0) [.int .i64 (m + 3 * i)]).length = L.length * 3 := (setCells_length _ _ _ (by rw [hX]; simp only [List.length_singleton]; omega)).trans hX
    refine WR.i64 ?_
    refine IdxX.mk (by omega) (by omega) ?_
    refine S.store (o := 0 + mulE i 3 + 1) (vs := [.int .i64 (m + 3 * i + 1)]) 0 rfl (by rw [l1]; simp only [List.length_singleton]; omega) fun g S => ?_
    have l2 : (setCells (setCells (cellsB D) (0 + mulE i 3 + 0) [.int .i64 (m + 3 * i)]) (0 + mulE i 3 + 1) [.int .i64 (m + 3 * i + 1)]).length = L.length * 3 := (setCells_length _ _ _ (by rw [l1]; simp only [List.length_singleton]; omega)).trans l1
    refine WR.i64 ?_
    refine IdxX.mk (by omega) (by omega) ?_
    refine S.store (o := 0 + mulE i 3 + 2) (vs := [.int .i64 (m + 3 * i + 1 + 1)]) 0 rfl (by rw [l2]; simp only [List.length_singleton]; omega) fun g S => ?_
    refine WR.as (r := m + 3 * ((i + 1 : Nat) : Int)) (by omega) ?_
    refine WR.i64 ?_
    have S := S.recast 0 (cells' := cellsB (D.set i (mk3 m i))) rfl (by rw [setCells3 (by rw [hX]; omega)]; exact set_cellsB (by omega) (mk3 m i))
    refine ⟨L.length - (i + 1), by omega, i + 1, _, rfl, hlt, by rw [List.length_set]; exact hD, fun j hj => ?_, S, rfl⟩
    rw [bar_set (by omega)]
    by_cases e : j = i
    · rw [if_pos e, e]
    · rw [if_neg e]; exact he j (by omega)
  have hi2 : i = L.length := by simp at h2; omega
  subst hi2
  have eD : D = markL m L.length := ext_bar (by rw [hD, markL_length]) fun i hi => by rw [he i (by omega), bar_markL (by omega)]
  rw [eD] at S
  exact FinX.here (by have := S.le.len; rwa [show (hide (fun i => i = b) h).length = h.length from only_length _ _] at this) ⟨rfl, S.chgB rfl⟩
theorem mark0_c (h : AH) (m : Int) : ACalls Try.prog 26 [.slice none 0 0, .int .i64 m] h (fun r h' => r = .int .i64 m ∧ h' = h) := by
  refine ACalls.of Tt.tab Try.func26 rfl (by kernel_rfl) Try.ntmps26 _ rfl rfl (fun hw => ?_)
  refine ⟨⟨[0, 1, 5], fun n' vs g => n' = 0 ∧ g = h ∧ vs = [.slice none 0 0, .int .i64 m, .int .i64 0], _, ⟨rfl, rfl, rfl⟩, ?_⟩⟩
  rintro n' vs g ⟨rfl, rfl, rfl⟩
  refine BIf.no rfl ?_
  exact FinX.here (Nat.le_refl _) ⟨rfl, rfl⟩

theorem heldB_c (h : AH) (v : Value) (m : Int) (k : Nat) (hx : RB h v (markL m k)) (hk : k ≤ 1048576) (hm : 0 ≤ m ∧ m ≤ 10000000) : ACalls Try.prog 27 [v, .int .i64 m] h (fun r h' => r = .int .i64 (m + 3 * k) ∧ h' = h) := by
  obtain ⟨b, o, k1, hx⟩ := hx.can
  refine ACalls.wk (args' := [.slice (some ⟨b, o, none⟩) (markL m k).length 0, .int .i64 m]) ?_ (.cons k1 (.cons (Wk.refl _) .nil))
  have cx := RN.cells hx rfl
  have hl := markL_length m k
  rw [hl]
  refine ACalls.of Tt.tab Try.func27 rfl (by kernel_rfl) Try.ntmps27 _ rfl rfl (fun hw => ?_)
  refine ⟨⟨[0, 1, 5], fun n' vs g => ∃ i : Nat, n' = k - i ∧ i ≤ k ∧ g = h ∧ vs = [.slice (some ⟨b, o, none⟩) k 0, .int .i64 (m + 3 * i), .int .i64 i], _, ⟨0, rfl, Nat.zero_le _, rfl, by rw [show m + 3 * ((0 : Nat) : Int) = m by omega]; rfl⟩, ?_⟩⟩
  rintro n' vs g ⟨i, rfl, hi, rfl, rfl⟩
  refine BIf.mk (fun h2 => ?_) (fun h2 => ?_)
  · have hlt : i < k := by simpa using h2
    have e := bar_markL (m := m) hlt
    refine IdxX.mk (by omega) (by omega) ?_
    refine CB.degree (k := i) cx (Le.refl _) (by omega) ?_
    rw [e]
    refine BIf.no (by simp [mk3]) ?_
    refine WR.i64 ?_
    refine IdxX.mk (by omega) (by omega) ?_
    refine CB.birth (k := i) cx (Le.refl _) (by omega) ?_
    rw [e]
    refine BIf.no (by simp [mk3]) ?_
    refine WR.i64 ?_
    refine IdxX.mk (by omega) (by omega) ?_
    refine CB.death (k := i) cx (Le.refl _) (by omega) ?_
    rw [e]
    refine BIf.no (by simp [mk3]) ?_
    refine WR.as (r := m + 3 * ((i + 1 : Nat) : Int)) (by omega) ?_
    refine WR.i64 ?_
    exact ⟨k - (i + 1), by omega, i + 1, rfl, hlt, rfl, rfl⟩
  have hi2 : i = k := by simp at h2; omega
  subst hi2
  exact FinX.keep hw (Le.refl _) rfl ⟨rfl, rfl⟩

set_option maxHeartbeats 4000000 in
theorem FnExactJoinBars_law (h : AH) (v : Value) (xs : List SBar) (hx : RB h v xs) (w : Value) (ys : List SBar) (hy : RB h w ys) : ACalls Try.prog 7 [v, w] h (fun r h' => r = .bool true ∧ h' = h) := by
  obtain ⟨bx, ox, kx, hx⟩ := hx.can
  obtain ⟨by_, oy, ky, hy⟩ := hy.can
  refine ACalls.wk (args' := [.slice (some ⟨bx, ox, none⟩) xs.length 0, .slice (some ⟨by_, oy, none⟩) ys.length 0]) ?_ (.cons kx (.cons ky .nil))
  refine ACalls.of Tt.tab Try.func7 rfl (by kernel_rfl) Try.ntmps7 _ rfl rfl (fun hw => ?_)
  have S := Sep.start h
  refine CallX.same (szBarS_c _ _ xs 1048576 hx (by omega) (by omega)) ?_
  rintro r g ⟨rfl, rfl⟩
  refine BIf.mk (fun h1 => ?_) (fun h1 => ?_)
  · exact FinX.keep hw S.le rfl ⟨rfl, rfl⟩
  have c1 : xs.length ≤ 1048576 := by
    refine Classical.byContradiction fun hn => ?_
    rw [if_neg (by omega)] at h1
    simp at h1
  rw [if_pos (by omega)]
  refine CallX.same (szBarS_c _ _ ys (1048576 - xs.length) hy (by omega) (by omega)) ?_
  rintro r g ⟨rfl, rfl⟩
  refine BIf.mk (fun h2 => ?_) (fun h2 => ?_)
  · exact FinX.keep hw S.le rfl ⟨rfl, rfl⟩
  have c2 : ys.length ≤ 1048576 := by
    refine Classical.byContradiction fun hn => ?_
    rw [if_neg (by omega)] at h2
    simp at h2
  clear h1 h2
  have jl := joinB_len xs ys
  refine CallX.same (toBarS_c _ _ xs (RB.le _ _ _ _ S.le hx) c1) ?_
  rintro r g ⟨b1, rfl, ll, ee, gg⟩
  have S := S.box gg ll ee
  refine CallX.same (toBarS_c _ _ ys (RB.le _ _ _ _ S.le hy) c2) ?_
  rintro r g ⟨b2, rfl, ll, ee, gg⟩
  have S := S.box gg ll ee
  refine S.madeRC (joinS_c _ _ _ xs ys (RB.bx (S.at_ 1 rfl) (by omega) 1) (RB.bx (S.at_ 0 rfl) (by omega) 1)) fun AW cW g _ S => ?_
  refine CallX.same (toBarS_c _ _ xs (RB.le _ _ _ _ S.le hx) c1) ?_
  rintro r g ⟨x0, rfl, ll, ee, gg⟩
  have S := S.box gg ll ee
  refine CallX.same (toBarS_c _ _ ys (RB.le _ _ _ _ S.le hy) c2) ?_
  rintro r g ⟨x1, rfl, ll, ee, gg⟩
  have S := S.box gg ll ee
  refine S.madeRC (joinI_c _ _ _ xs ys (RB.bx (S.at_ 1 rfl) (by omega) 1) (RB.bx (S.at_ 0 rfl) (by omega) 1)) fun AG cG g _ S => ?_
  refine CallX.same (eqBarS_c _ _ _ _ _ (S.rbRc 0 rfl rfl (by omega)) (S.rbRc 3 rfl rfl (by omega))) ?_
  rintro r g ⟨rfl, rfl⟩
  refine BIf.no (by simp) ?_
  refine BIf.no (by simp) ?_
  refine CallX.same (toBarS_c _ _ xs (RB.le _ _ _ _ S.le hx) c1) ?_
  rintro r g ⟨b3, rfl, ll, ee, gg⟩
  have S := S.box gg ll ee
  refine CallX.same (eqBarS_c _ _ _ xs xs (RB.bx (S.at_ 3 rfl) (by omega) 1) (RB.bx (S.at_ 0 rfl) (by omega) 1)) ?_
  rintro r g ⟨rfl, rfl⟩
  refine BIf.no (by simp) ?_
  refine CallX.same (toBarS_c _ _ ys (RB.le _ _ _ _ S.le hy) c2) ?_
  rintro r g ⟨b4, rfl, ll, ee, gg⟩
  have S := S.box gg ll ee
  refine CallX.same (eqBarS_c _ _ _ ys ys (RB.bx (S.at_ 3 rfl) (by omega) 1) (RB.bx (S.at_ 0 rfl) (by omega) 1)) ?_
  rintro r g ⟨rfl, rfl⟩
  refine BIf.no (by simp) ?_
  refine S.bxDo 4 (cells' := cellsB (markL 1 xs.length)) rfl (fun hl => markB_c _ x0 1 xs 1 hl c1 (by omega)) fun g S => ?_
  refine S.bxDo 3 (cells' := cellsB (markL (1 + 3 * xs.length) ys.length)) rfl (fun hl => markB_c _ x1 1 ys (1 + 3 * xs.length) hl c2 (by omega)) fun g S => ?_
  refine BIf.no (by simp; omega) ?_
  refine CallX.same (eqBarS_c _ _ _ _ _ (S.rbRc 2 rfl rfl (by omega)) (S.rbRc 5 rfl rfl (by omega))) ?_
  rintro r g ⟨rfl, rfl⟩
  refine BIf.no (by simp) ?_
  refine BIf.no (by simp) ?_
  refine S.rcDo 2 (cells' := cellsB (markL 1 (joinB xs ys).1.length)) (r0 := .int .i64 (1 + 3 * (joinB xs ys).1.length)) rfl (by rw [cellsB_length, markL_length]) (fun hA hk hc => ?_) (fun b hA hl => ?_) fun g S => ?_
  · subst hA hc
    rw [hk]
    exact mark0_c _ 1
  · subst hA
    exact markB_c _ b cG _ 1 hl (by omega) (by omega)
  refine CallX.same (heldB_c _ _ 1 _ (S.rbRc 2 rfl (markL_length _ _) (by omega)) (by omega) (by omega)) ?_
  rintro r g ⟨rfl, rfl⟩
  refine BIf.no (by simp; omega) ?_
  refine BIf.no (by simp) ?_
  refine CallX.same (toBarS_c _ _ xs (RB.le _ _ _ _ S.le hx) c1) ?_
  rintro r g ⟨b5, rfl, ll, ee, gg⟩
  have S := S.box gg ll ee
  refine CallX.same (toBarS_c _ _ ys (RB.le _ _ _ _ S.le hy) c2) ?_
  rintro r g ⟨b6, rfl, ll, ee, gg⟩
  have S := S.box gg ll ee
  refine S.madeRC (joinI_c _ _ _ xs ys (RB.bx (S.at_ 1 rfl) (by omega) 1) (RB.bx (S.at_ 0 rfl) (by omega) 1)) fun AH cH g _ S => ?_
  refine CallX.same (eqBarS_c _ _ _ _ _ (S.rbRc 0 rfl rfl (by omega)) (S.rbRc 8 rfl rfl (by omega))) ?_
  rintro r g ⟨rfl, rfl⟩
  refine BIf.no (by simp) ?_
  refine BIf.no (by simp) ?_
  refine CallX.same (heldB_c _ _ 1 _ (S.rbRc 5 rfl (markL_length _ _) (by omega)) (by omega) (by omega)) ?_
  rintro r g ⟨rfl, rfl⟩
  refine BIf.no (by simp; omega) ?_
  refine BIf.no (by simp) ?_
  exact FinX.keep hw S.le rfl ⟨rfl, rfl⟩

end Go.Gl

/- Chapter 9: JoinBars in the reference; marks in rows of bars; the law. No condition. -/
import Derived.Test.YthhilbeddkkigaaDoorFnZ4
set_option linter.unusedVariables false
set_option linter.unusedSimpArgs false
namespace Go.Gl
open Go.Proofs Go.Proofs.YthhilbeddkkigaaDoor Go.Pl


/-! ### marks -/
def mk3 (m : Int) (i : Nat) : SBar := ⟨m + 3 * i, m + 3 * i + 1, m + 3 * i + 1 + 1⟩
def markL (m : Int) (k : Nat) : List SBar := (List.range k).map (mk3 m)
theorem markL_length (m : Int) (k : Nat) : (markL m k).length = k := by simp [markL]
theorem bar_markL {m : Int} {k i : Nat} (h : i < k) : bar (markL m k) i = mk3 m i := by simp [bar, markL, h]
theorem ext_bar {L M : List SBar} (hl : L.length = M.length) (h : ∀ i, i < L.length → bar L i = bar M i) : L = M := by
  refine List.ext_getElem hl fun i h1 h2 => ?_
  rw [bar_eq h1, bar_eq h2]; exact h i h1
theorem setCells3 {X : List Value} {o : Nat} {a b c : Value} (h : o + 3 ≤ X.length) : setCells (setCells (setCells X (o + 0) [a]) (o + 1) [b]) (o + 2) [c] = setCells X o [a, b, c] := by
  have l1 : (setCells X (o + 0) [a]).length = X.length := setCells_length _ _ _ (by simp; omega)
  have l2 : (setCells (setCells X (o + 0) [a]) (o + 1) [b]).length = X.length := (setCells_length _ _ _ (by rw [l1]; simp; omega)).trans l1
  apply List.ext_getElem?
  intro i
  rw [setCells_get _ _ _ (by rw [l2]; simp; omega), setCells_get _ _ _ (by rw [l1]; simp; omega), setCells_get _ _ _ (by simp; omega), setCells_get _ _ _ (by simp; omega)]
  simp only [List.length_singleton, List.length_cons, List.length_nil]
  by_cases h2 : i = o + 2
  · subst h2; rw [if_pos (by omega), if_pos (by omega), show o + 2 - (o + 2) = 0 by omega, show o + 2 - o = 2 by omega]; rfl
  by_cases h1 : i = o + 1
  · subst h1; rw [if_neg (by omega), if_pos (by omega), if_pos (by omega), show o + 1 - (o + 1) = 0 by omega, show o + 1 - o = 1 by omega]; rfl
  by_cases h0 : i = o
  · subst h0; rw [if_neg (by omega), if_neg (by omega), if_pos (by omega), if_pos (by omega), show i - (i + 0) = 0 by omega, show i - i = 0 by omega]; rfl
  · rw [if_neg (by omega), if_neg (by omega), if_neg (by omega), if_neg (by omega)]
theorem SepM.bxDo {M : Nat → Prop} {n : Nat} {hb h : AH} {Rs : List Res} (S : SepM M n hb h Rs) (j : Nat) {b : Nat} {ty : TypeId} {s : Nat} {cells cells' : List Value} (hj : gt Rs j = some (.bx b ty s cells)) {P : Program} {f : FuncId} {args : List Value} {r0 : Value} {K : Value → AH → Prop}
    (hc : look h b = some ⟨cells, some (ty, s)⟩ → ACalls P f args h (fun r h' => r = r0 ∧ ChgB h b ⟨cells', some (ty, s)⟩ h')) (hk : ∀ h', SepM M n hb h' (st Rs j (.bx b ty s cells')) → K r0 h') : CallX P f args h K := by
  obtain ⟨F, ⟨h1, h3⟩, h2, _, _, h4⟩ := S.step hj
  refine CallX.same (hc h3) ?_
  rintro r h' ⟨rfl, L, hl⟩
  have hlen2 : h.length ≤ h'.length := by have := L.len; rwa [show (hide (fun i => i = b) h).length = h.length from only_length _ _] at this
  refine hk _ (h4 _ _ F hlen2 ⟨h1, hl⟩ (fun i hi => ⟨Nat.lt_of_lt_of_le (h2 i hi).1 hlen2, .inl hi⟩) fun i blk hf e => ?_)
  exact L.at_ i blk (hide_some.2 ⟨fun hh => hf (by subst hh; exact h1), e⟩)

theorem markB_c (h : AH) (b c : Nat) (L : List SBar) (m : Int) (hl : look h b = some ⟨cellsB L, some (45, 3)⟩) (hk : L.length ≤ 1048576) (hm : 0 ≤ m ∧ m ≤ 10000000) :
    ACalls Tryd.prog 8 [.slice (some ⟨b, 0, none⟩) L.length c, .int .i64 m] h (fun r h' => r = .int .i64 (m + 3 * L.length) ∧ ChgB h b ⟨cellsB (markL m L.length), some (45, 3)⟩ h') := by
  refine ACalls.of Tt.tab Tryd.func8 rfl (by kernel_rfl) Tryd.ntmps8 _ rfl rfl (fun hw => ?_)
  have S := SepM.boxB hl
  refine ⟨⟨[0, 1, 5], fun n' vs g => ∃ (i : Nat) (D : List SBar), n' = L.length - i ∧ i ≤ L.length ∧ D.length = L.length ∧ (∀ j, j < i → bar D j = mk3 m j) ∧ SepM (fun i => i = b) 0 (hide (fun i => i = b) h) g [.bx b 45 3 (cellsB D)] ∧ vs = [.slice (some ⟨b, 0, none⟩) L.length c, .int .i64 (m + 3 * i), .int .i64 i], _, ⟨0, L, rfl, Nat.zero_le _, rfl, fun j hj => by omega, S, by rw [show m + 3 * ((0 : Nat) : Int) = m by omega]; rfl⟩, ?_⟩⟩
  clear S
  rintro n' vs g ⟨i, D, rfl, hi, hD, he, S, rfl⟩
  refine BIf.mk (fun h2 => ?_) (fun h2 => ?_)
  · have hlt : i < L.length := by simpa using h2
    have hX : (cellsB D).length = L.length * 3 := by rw [cellsB_length, hD]
    have hb : 0 + mulE i 3 + 3 ≤ L.length * 3 := by rw [mulE_eq]; omega
    refine IdxX.mk (by omega) (by omega) ?_
    refine S.store (o := 0 + mulE i 3 + 0) (vs := [.int .i64 (m + 3 * i)]) 0 rfl (by rw [hX]; simp only [List.length_singleton]; omega) fun g S => ?_
    have l1 : (setCells (cellsB D) (0 + mulE i 3 + 0) [.int .i64 (m + 3 * i)]).length = L.length * 3 := (setCells_length _ _ _ (by rw [hX]; simp only [List.length_singleton]; omega)).trans hX
    refine WR.i64 ?_
    refine IdxX.mk (by omega) (by omega) ?_
    refine S.store (o := 0 + mulE i 3 + 1) (vs := [.int .i64 (m + 3 * i + 1)]) 0 rfl (by rw [l1]; simp only [List.length_singleton]; omega) fun g S => ?_
    have l2 : (setCells (setCells (cellsB D) (0 + mulE i 3 + 0) [.int .i64 (m + 3 * i)]) (0 + mulE i 3 + 1) [.int .i64 (m + 3 * i + 1)]).length = L.length * 3 := (setCells_length _ _ _ (by rw [l1]; simp only [List.length_singleton]; omega)).trans l1
    refine WR.i64 ?_
    refine IdxX.mk (by omega) (by omega) ?_
    refine S.store (o := 0 + mulE i 3 + 2) (vs := [.int .i64 (m + 3 * i + 1 + 1)]) 0 rfl (by rw [l2]; simp only [List.length_singleton]; omega) fun g S => ?_
    refine WR.as (r := m + 3 * ((i + 1 : Nat) : Int)) (by omega) ?_
    refine WR.i64 ?_
    have S := S.recast 0 (cells' := cellsB (D.set i (mk3 m i))) rfl (by rw [setCells3 (by rw [hX]; omega)]; exact set_cellsB (by omega) (mk3 m i))
    refine ⟨L.length - (i + 1), by omega, i + 1, _, rfl, hlt, by rw [List.length_set]; exact hD, fun j hj => ?_, S, rfl⟩
    rw [bar_set (by omega)]
    by_cases e : j = i
    · rw [if_pos e, e]
    · rw [if_neg e]; exact he j (by omega)
  have hi2 : i = L.length := by simp at h2; omega
  subst hi2
  have eD : D = markL m L.length := ext_bar (by rw [hD, markL_length]) fun i hi => by rw [he i (by omega), bar_markL (by omega)]
  rw [eD] at S
  exact FinX.here (by have := S.le.len; rwa [show (hide (fun i => i = b) h).length = h.length from only_length _ _] at this) ⟨rfl, S.chgB rfl⟩
theorem mark0_c (h : AH) (m : Int) : ACalls Tryd.prog 8 [.slice none 0 0, .int .i64 m] h (fun r h' => r = .int .i64 m ∧ h' = h) := by
  refine ACalls.of Tt.tab Tryd.func8 rfl (by kernel_rfl) Tryd.ntmps8 _ rfl rfl (fun hw => ?_)
  refine ⟨⟨[0, 1, 5], fun n' vs g => n' = 0 ∧ g = h ∧ vs = [.slice none 0 0, .int .i64 m, .int .i64 0], _, ⟨rfl, rfl, rfl⟩, ?_⟩⟩
  rintro n' vs g ⟨rfl, rfl, rfl⟩
  refine BIf.no rfl ?_
  exact FinX.here (Nat.le_refl _) ⟨rfl, rfl⟩

theorem heldB_c (h : AH) (v : Value) (m : Int) (k : Nat) (hx : RB h v (markL m k)) (hk : k ≤ 1048576) (hm : 0 ≤ m ∧ m ≤ 10000000) : ACalls Tryd.prog 9 [v, .int .i64 m] h (fun r h' => r = .int .i64 (m + 3 * k) ∧ h' = h) := by
  obtain ⟨b, o, k1, hx⟩ := hx.can
  refine ACalls.wk (args' := [.slice (some ⟨b, o, none⟩) (markL m k).length 0, .int .i64 m]) ?_ (.cons k1 (.cons (Wk.refl _) .nil))
  have cx := RN.cells hx rfl
  have hl := markL_length m k
  rw [hl]
  refine ACalls.of Tt.tab Tryd.func9 rfl (by kernel_rfl) Tryd.ntmps9 _ rfl rfl (fun hw => ?_)
  refine ⟨⟨[0, 1, 5], fun n' vs g => ∃ i : Nat, n' = k - i ∧ i ≤ k ∧ g = h ∧ vs = [.slice (some ⟨b, o, none⟩) k 0, .int .i64 (m + 3 * i), .int .i64 i], _, ⟨0, rfl, Nat.zero_le _, rfl, by rw [show m + 3 * ((0 : Nat) : Int) = m by omega]; rfl⟩, ?_⟩⟩
  rintro n' vs g ⟨i, rfl, hi, rfl, rfl⟩
  refine BIf.mk (fun h2 => ?_) (fun h2 => ?_)
  · have hlt : i < k := by simpa using h2
    have e := bar_markL (m := m) hlt
    refine IdxX.mk (by omega) (by omega) ?_
    refine CB.degree (k := i) cx (Le.refl _) (by omega) ?_
    rw [e]
    refine BIf.no (by simp [mk3]) ?_
    refine WR.i64 ?_
    refine IdxX.mk (by omega) (by omega) ?_
    refine CB.birth (k := i) cx (Le.refl _) (by omega) ?_
    rw [e]
    refine BIf.no (by simp [mk3]) ?_
    refine WR.i64 ?_
    refine IdxX.mk (by omega) (by omega) ?_
    refine CB.death (k := i) cx (Le.refl _) (by omega) ?_
    rw [e]
    refine BIf.no (by simp [mk3]) ?_
    refine WR.as (r := m + 3 * ((i + 1 : Nat) : Int)) (by omega) ?_
    refine WR.i64 ?_
    exact ⟨k - (i + 1), by omega, i + 1, rfl, hlt, rfl, rfl⟩
  have hi2 : i = k := by simp at h2; omega
  subst hi2
  exact FinX.keep hw (Le.refl _) rfl ⟨rfl, rfl⟩

end Go.Gl

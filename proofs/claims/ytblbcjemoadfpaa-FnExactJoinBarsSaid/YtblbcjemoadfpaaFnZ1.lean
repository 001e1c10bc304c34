/- Chapter 9: rows of bars are swapped and sorted in their place. No condition. -/
import Derived.Test.YtblbcjemoadfpaaPlSt
import Derived.Test.YtblbcjemoadfpaaFnBar
import Derived.Test.YtblbcjemoadfpaaGlS
import Derived.Test.YtblbcjemoadfpaaGlT
set_option linter.unusedVariables false
set_option linter.unusedSimpArgs false
namespace Go.Gl
open Go.Proofs Go.Proofs.Ytblbcjemoadfpaa Go.Pl

/-- a block of our caller's, as a part of our own -/
theorem SepM.boxB {h : AH} {b : Nat} {cells : List Value} {ty : TypeId} {s : Nat} (hl : look h b = some ⟨cells, some (ty, s)⟩) : SepM (fun i => i = b) 0 (hide (fun i => i = b) h) h [.bx b ty s cells] :=
  ⟨hide_le _ h, Nat.zero_le _, _, .cons (F := fun i => i = b) ⟨rfl, hl⟩ (fun i hi => by subst hi; exact ⟨⟨hide_none rfl, Nat.zero_le _, .inl rfl⟩, look_lt hl⟩) (fun i _ hh => hh) .nil⟩
/-- the block b has become another, nothing else has changed -/
def ChgB (h : AH) (b : Nat) (blk : Blk) (h' : AH) : Prop := Le (hide (fun i => i = b) h) h' ∧ look h' b = some blk
theorem SepM.chgB {M : Nat → Prop} {h h' : AH} {b b' n : Nat} {cells : List Value} {ty : TypeId} {s : Nat} (S : SepM M n (hide (fun i => i = b) h) h' [.bx b' ty s cells]) (e : b' = b) : ChgB h b ⟨cells, some (ty, s)⟩ h' := by
  subst e
  exact ⟨S.le, S.at_ 0 rfl⟩
/-- a call that changes a row of bars in its place -/
def DoesB (P : Program) (f : FuncId) (args : List Value) (h : AH) (b : Nat) (ty : TypeId) (Q : List SBar → Prop) : Prop := ACalls P f args h (fun r h' => r = .tuple #[] ∧ ∃ M, Q M ∧ ChgB h b ⟨cellsB M, some (ty, 3)⟩ h')
section
variable {M : Nat → Prop} {n : Nat} {hb h : AH} {Rs : List Res}
theorem SepM.doesB (S : SepM M n hb h Rs) (j : Nat) {b : Nat} {ty : TypeId} {cells : List Value} (hj : gt Rs j = some (.bx b ty 3 cells)) {Q : List SBar → Prop} {P : Program} {f : FuncId} {args : List Value} {K : Value → AH → Prop}
    (hc : look h b = some ⟨cells, some (ty, 3)⟩ → DoesB P f args h b ty Q) (hk : ∀ h' N, Q N → SepM M n hb h' (st Rs j (.bx b ty 3 (cellsB N))) → K (.tuple #[]) h') : CallX P f args h K := by
  obtain ⟨F, ⟨h1, h3⟩, h2, _, _, h4⟩ := S.step hj
  refine CallX.same (hc h3) ?_
  rintro r h' ⟨rfl, N, hq, L, hl⟩
  have hlen2 : h.length ≤ h'.length := by have := L.len; rwa [show (hide (fun i => i = b) h).length = h.length from only_length _ _] at this
  refine hk _ N hq (h4 _ _ F hlen2 ⟨h1, hl⟩ (fun i hi => ⟨Nat.lt_of_lt_of_le (h2 i hi).1 hlen2, .inl hi⟩) fun i blk hf e => ?_)
  exact L.at_ i blk (hide_some.2 ⟨fun hh => hf (by subst hh; exact h1), e⟩)
/-- the function's end -/
theorem SepM.endB {h g : AH} {b : Nat} {ty : TypeId} {N : List SBar} {Q : List SBar → Prop} (S : SepM (fun i => i = b) 0 (hide (fun i => i = b) h) g [.bx b ty 3 (cellsB N)]) (hq : Q N) : FinX h (fun r h' => r = .tuple #[] ∧ ∃ M, Q M ∧ ChgB h b ⟨cellsB M, some (ty, 3)⟩ h') (.tuple #[]) g :=
  FinX.here (by have := S.le.len; rwa [show (hide (fun i => i = b) h).length = h.length from only_length _ _] at this) ⟨rfl, N, hq, S.chgB rfl⟩
theorem ldB {i : TI} {L : List SBar} {k a : Nat} (hk : k < L.length) (ha : a = 0 + mulE k 3 := by rfl) (hi : i.agg = true := by rfl) (hs : i.size = 3 := by rfl) : ldv i (cellsB L) a = some (vB (bar L k)) := by
  subst ha
  have h2 : k * 3 + 3 ≤ (cellsB L).length := by rw [cellsB_length]; omega
  unfold ldv
  rw [hi, hs, Nat.zero_add, mulE_eq, cellsB_at L k _ (bar_get hk)]
  rfl
theorem set_cellsB {L : List SBar} {k : Nat} (hk : k < L.length) (x : SBar) : setCells (cellsB L) (0 + mulE k 3) [.int .i64 x.degree, .int .i64 x.birth, .int .i64 x.death] = cellsB (L.set k x) := by
  have e1 : L = L.take k ++ [bar L k] ++ L.drop (k + 1) := by
    rw [← take_succ_bar hk, List.take_append_drop]
  have e2 : L.set k x = L.take k ++ [x] ++ L.drop (k + 1) := by
    rw [List.set_eq_take_append_cons_drop, if_pos hk]; simp
  have hl : (cellsB (L.take k)).length = 0 + mulE k 3 := by rw [cellsB_length, mulE_eq]; simp; omega
  rw [e2, cellsB_append, cellsB_append]
  conv => lhs; rw [e1]
  rw [cellsB_append, cellsB_append, ← hl]
  exact setCells_mid _ _ _ _ rfl
theorem SepM.storeB (S : SepM M n hb h Rs) (j : Nat) {b k a : Nat} {ty : TypeId} {L : List SBar} {x : SBar} {K : AH → Prop} (hj : gt Rs j = some (.bx b ty 3 (cellsB L))) (hk : k < L.length)
    (hK : ∀ h', SepM M n hb h' (st Rs j (.bx b ty 3 (cellsB (L.set k x)))) → K h') (ha : a = 0 + mulE k 3 := by rfl) : StoreX h b a [.int .i64 x.degree, .int .i64 x.birth, .int .i64 x.death] K := by
  subst ha
  refine S.store j hj (by rw [cellsB_length, mulE_eq]; simp; omega) fun h' S' => hK h' ?_
  rw [set_cellsB hk] at S'
  exact S'
end
abbrev cmpV : Value := .func (.func 65) #[] #[]
abbrev slV (b n c : Nat) : Value := .slice (some ⟨b, 0, none⟩) n c

theorem swapRange_c (h : AH) (b c : Nat) (L : List SBar) (a m n : Nat) (hl : look h b = some ⟨cellsB L, some (91, 3)⟩) (h1 : a + n ≤ m) (h2 : m + n ≤ L.length) (h3 : L.length ≤ 1000) :
    DoesB Try.prog 135 [slV b L.length c, .int .i64 a, .int .i64 m, .int .i64 n, cmpV] h b 91 (fun M => M = swR L a m n) := by
  unfold DoesB
  refine ACalls.of Tt.tab Try.func135 rfl (by kernel_rfl) Try.ntmps135 _ rfl rfl (fun hw => ?_)
  have S := SepM.boxB hl
  refine ⟨⟨[0, 1, 2, 3, 10], fun n' vs g => ∃ i : Nat, n' = n - i ∧ i ≤ n ∧ SepM (fun i => i = b) 0 (hide (fun i => i = b) h) g [.bx b 91 3 (cellsB (swR L a m i))] ∧
    vs = [slV b L.length c, .int .i64 a, .int .i64 m, .int .i64 n, .int .i64 i], _, ⟨0, rfl, Nat.zero_le _, S, rfl⟩, ?_⟩⟩
  clear S
  rintro n' vs g ⟨i, rfl, hi, S, rfl⟩
  have hL := swR_length L a m i
  refine BIf.mk (fun h4 => ?_) (fun h4 => ?_)
  · have hlt : i < n := by simp at h4; omega
    refine DrawX.of Tt.tab follows_any [] [21, 23] [0, 1, 2, 3, 4, 5, 6, 7, 8, 9, 10, 11, 12, 13, 14, 15, 16, 17, 18, 19, 20, 21, 22, 23] rfl (by kernel_rfl) (by kernel_rfl) ?_
    refine WR.as (r := ((a + i : Nat) : Int)) (by omega) ?_
    refine WR.as (r := ((m + i : Nat) : Int)) (by omega) ?_
    refine WR.as (r := ((m + i : Nat) : Int)) (by omega) ?_
    refine IdxX.mk (by omega) (by omega) ?_
    refine LoadX.same (v := vB (bar (swR L a m i) (m + i))) (S.at_ 0 rfl) (ldB (by omega)) ?_
    refine WR.as (r := ((a + i : Nat) : Int)) (by omega) ?_
    refine IdxX.mk (by omega) (by omega) ?_
    refine LoadX.same (v := vB (bar (swR L a m i) (a + i))) (S.at_ 0 rfl) (ldB (by omega)) ?_
    refine IdxX.mk (by omega) (by omega) ?_
    refine S.storeB 0 (k := a + i) rfl (by omega) fun g S => ?_
    refine IdxX.mk (by omega) (by omega) ?_
    refine S.storeB 0 (k := m + i) rfl (by rw [List.length_set]; omega) fun g S => ?_
    refine WR.i64 ?_
    exact ⟨n - (i + 1), by omega, i + 1, rfl, hlt, S, rfl⟩
  have hi2 : i = n := by simp at h4; omega
  subst hi2
  exact S.endB rfl

theorem rotate_c (h : AH) (b c : Nat) (L : List SBar) (a m e : Nat) (hl : look h b = some ⟨cellsB L, some (91, 3)⟩) (h1 : a < m) (h2 : m < e) (he : e ≤ L.length) (h3 : L.length ≤ 1000) :
    DoesB Try.prog 131 [slV b L.length c, .int .i64 a, .int .i64 m, .int .i64 e, cmpV] h b 91 (fun M => M.Perm L ∧ ∀ k, bar M k = rotF (bar L) a m e k) := by
  unfold DoesB
  refine ACalls.of Tt.tab Try.func131 rfl (by kernel_rfl) Try.ntmps131 _ rfl rfl (fun hw => ?_)
  have S := SepM.boxB hl
  refine WR.as (r := ((m - a : Nat) : Int)) (by omega) ?_
  refine WR.as (r := ((e - m : Nat) : Int)) (by omega) ?_
  refine ⟨⟨[0, 2, 4, 10, 11], fun n' vs g => ∃ (i j : Nat) (C : List SBar), n' = i + j ∧ 0 < i ∧ 0 < j ∧ i ≤ m ∧ m + j ≤ L.length ∧ C.Perm L ∧ (∀ k, rotF (bar C) (m - i) m (m + j) k = rotF (bar L) a m e k) ∧ SepM (fun i => i = b) 0 (hide (fun i => i = b) h) g [.bx b 91 3 (cellsB C)] ∧
    vs = [slV b L.length c, .int .i64 m, cmpV, .int .i64 i, .int .i64 j], _, ⟨m - a, e - m, L, rfl, by omega, by omega, by omega, by omega, List.Perm.refl _, fun k => by rw [show m - (m - a) = a by omega, show m + (e - m) = e by omega], S, rfl⟩, ?_⟩⟩
  clear S
  rintro n' vs g ⟨i, j, C, rfl, hi, hj, him, hjl, hp, hr, S, rfl⟩
  have hC := hp.length_eq
  refine BIf.mk (fun h4 => ?_) (fun h4 => ?_)
  · have hne : i ≠ j := by simp at h4; omega
    refine BIf.mk (fun h5 => ?_) (fun h5 => ?_)
    · have hij : j < i := by simp at h5; omega
      refine WR.as (r := ((m - i : Nat) : Int)) (by omega) ?_
      rw [← hC]
      refine S.doesB 0 rfl (fun hl => swapRange_c _ b c C (m - i) m j hl (by omega) (by omega) (by omega)) ?_
      rintro g N rfl S
      refine WR.as (r := ((i - j : Nat) : Int)) (by omega) ?_
      refine ⟨(i - j) + j, by omega, i - j, j, swR C (m - i) m j, rfl, by omega, hj, by omega, by omega, (swR_perm j (by omega) (by omega)).trans hp, fun k => ?_, S, by rw [hC]; rfl⟩
      rw [← hr k, ← rot_more hij him hj, show m - (i - j) = m - i + j by omega]
      exact rotF_congr fun k => bar_swR j k (by omega) (by omega)
    · have hij : i < j := by simp at h5; omega
      refine WR.as (r := ((m - i : Nat) : Int)) (by omega) ?_
      refine WR.as (r := ((m + j : Nat) : Int)) (by omega) ?_
      refine WR.as (r := ((m + j - i : Nat) : Int)) (by omega) ?_
      rw [← hC]
      refine S.doesB 0 rfl (fun hl => swapRange_c _ b c C (m - i) (m + j - i) i hl (by omega) (by omega) (by omega)) ?_
      rintro g N rfl S
      refine WR.as (r := ((j - i : Nat) : Int)) (by omega) ?_
      refine ⟨i + (j - i), by omega, i, j - i, swR C (m - i) (m + j - i) i, rfl, hi, by omega, him, by omega, (swR_perm i (by omega) (by omega)).trans hp, fun k => ?_, S, by rw [hC]; rfl⟩
      rw [← hr k, ← rot_less hij him hi, show m + (j - i) = m + j - i by omega]
      exact rotF_congr fun k => bar_swR i k (by omega) (by omega)
  have hij : i = j := by simp at h4; omega
  subst hij
  refine WR.as (r := ((m - i : Nat) : Int)) (by omega) ?_
  rw [← hC]
  refine S.doesB 0 rfl (fun hl => swapRange_c _ b c C (m - i) m i hl (by omega) (by omega) (by omega)) ?_
  rintro g N rfl S
  refine S.endB ⟨(swR_perm i (by omega) (by omega)).trans hp, fun k => ?_⟩
  rw [← hr k, ← rot_same him]
  exact bar_swR i k (by omega) (by omega)

theorem insertion_c (h : AH) (b c : Nat) (L : List SBar) (a e : Nat) (hl : look h b = some ⟨cellsB L, some (91, 3)⟩) (he : e ≤ L.length) (ha : a ≤ L.length) (h3 : L.length ≤ 1000) (hv : Val L) :
    DoesB Try.prog 123 [slV b L.length c, .int .i64 a, .int .i64 e, cmpV] h b 91 (fun M => M.Perm L ∧ (∀ k, k < a ∨ e ≤ k → bar M k = bar L k) ∧ SortedOn M a e) := by
  unfold DoesB
  refine ACalls.of Tt.tab Try.func123 rfl (by kernel_rfl) Try.ntmps123 _ rfl rfl (fun hw => ?_)
  have S := SepM.boxB hl
  refine WR.as (r := ((a + 1 : Nat) : Int)) (by omega) ?_
  refine ⟨⟨[0, 1, 2, 3, 8], fun n' vs g => ∃ (i : Nat) (C : List SBar), n' = e - i ∧ a + 1 ≤ i ∧ i ≤ L.length + 1 ∧ C.Perm L ∧ (∀ k, k < a ∨ i ≤ k → bar C k = bar L k) ∧ (i ≤ e ∨ i = a + 1) ∧ (i = a + 1 → C = L) ∧ SortedOn C a i ∧ SepM (fun i => i = b) 0 (hide (fun i => i = b) h) g [.bx b 91 3 (cellsB C)] ∧
    vs = [slV b L.length c, .int .i64 a, .int .i64 e, cmpV, .int .i64 i], _, ⟨a + 1, L, rfl, Nat.le_refl _, by omega, List.Perm.refl _, fun k _ => rfl, .inr rfl, fun _ => rfl, fun p q _ _ _ => by omega, S, rfl⟩, ?_⟩⟩
  clear S
  rintro n' vs g ⟨i, C, rfl, hi, hiL, hp, ho, hie, hfirst, hs, S, rfl⟩
  refine BIf.mk (fun h4 => ?_) (fun h4 => ?_)
  · have hlt : i < e := by simp at h4; omega
    refine ⟨⟨[0, 1, 2, 3, 8, 9], fun n' vs g => ∃ (j : Nat) (D : List SBar), n' = j ∧ a ≤ j ∧ j ≤ i ∧ D.Perm L ∧ (∀ k, k < a ∨ i < k → bar D k = bar L k) ∧ Ins D a j i ∧ SepM (fun i => i = b) 0 (hide (fun i => i = b) h) g [.bx b 91 3 (cellsB D)] ∧
      vs = [slV b L.length c, .int .i64 a, .int .i64 e, cmpV, .int .i64 i, .int .i64 j], _, ⟨i, C, rfl, by omega, Nat.le_refl _, hp, fun k hk => ho k (by omega), Ins.start hs, S, rfl⟩, ?_⟩⟩
    clear S h4 hp ho hs hfirst
    rintro j vs g ⟨_, D, rfl, haj, hji, hp, ho, hin, S, rfl⟩
    have hD := hp.length_eq
    have vD := hv.perm hp
    refine DrawX.of Tt.tab follows_any [] [] [0, 1, 2, 3, 4, 5, 6, 7, 8, 9, 10, 11, 12, 13, 14, 15, 16] rfl (by kernel_rfl) (by kernel_rfl) ?_
    refine BIf.mk (fun h5 => ?_) (fun h5 => ?_)
    · have haj2 : a < j := by simp at h5; omega
      refine IdxX.mk (by omega) (by omega) ?_
      refine LoadX.same (v := vB (bar D j)) (S.at_ 0 rfl) (ldB (by omega)) ?_
      refine WR.as (r := ((j - 1 : Nat) : Int)) (by omega) ?_
      refine IdxX.mk (by omega) (by omega) ?_
      refine LoadX.same (v := vB (bar D (j - 1))) (S.at_ 0 rfl) (ldB (by omega)) ?_
      refine QCall.of (fun g2 hl => compareBars_c g2 _ _) rfl ?_
      have kk := cmp_key (vD.bar (i := j) (by omega)) (vD.bar (i := j - 1) (by omega))
      refine BIf.mk (fun h6 => ?_) (fun h6 => ?_)
      · have h6 : key (bar D j) < key (bar D (j - 1)) := kk.1 (by simpa using h6)
        refine DrawX.of Tt.tab follows_any [] [15, 17] [0, 1, 2, 3, 4, 5, 6, 7, 8, 9, 10, 11, 12, 13, 14, 15, 16, 17] rfl (by kernel_rfl) (by kernel_rfl) ?_
        refine WR.as (r := ((j - 1 : Nat) : Int)) (by omega) ?_
        refine WR.as (r := ((j - 1 : Nat) : Int)) (by omega) ?_
        refine IdxX.mk (by omega) (by omega) ?_
        refine LoadX.same (v := vB (bar D (j - 1))) (S.at_ 0 rfl) (ldB (by omega)) ?_
        refine IdxX.mk (by omega) (by omega) ?_
        refine LoadX.same (v := vB (bar D j)) (S.at_ 0 rfl) (ldB (by omega)) ?_
        refine IdxX.mk (by omega) (by omega) ?_
        refine S.storeB 0 (k := j) rfl (by omega) fun g S => ?_
        refine IdxX.mk (by omega) (by omega) ?_
        refine S.storeB 0 (k := j - 1) rfl (by rw [List.length_set]; omega) fun g S => ?_
        refine WR.as (r := ((j - 1 : Nat) : Int)) (by omega) ?_
        refine ⟨j - 1, by omega, j - 1, sw D j (j - 1), rfl, by omega, by omega, (sw_perm (by omega) (by omega)).trans hp, fun k hk => ?_, hin.step haj2 hji (by omega) h6, S, rfl⟩
        rw [bar_sw (by omega) (by omega), if_neg (by omega), if_neg (by omega)]
        exact ho k hk
      · have h6 : key (bar D (j - 1)) ≤ key (bar D j) := Int.not_lt.1 fun hh => by have := kk.2 hh; simp at h6; omega
        refine WR.as (r := ((i + 1 : Nat) : Int)) (by omega) ?_
        exact ⟨e - (i + 1), by omega, i + 1, D, rfl, by omega, by omega, hp, fun k hk => ho k (by omega), .inl hlt, fun hh => by omega, hin.done haj hji (.inr h6), S, rfl⟩
    refine BIf.no rfl ?_
    refine WR.as (r := ((i + 1 : Nat) : Int)) (by omega) ?_
    exact ⟨e - (i + 1), by omega, i + 1, D, rfl, by omega, by omega, hp, fun k hk => ho k (by omega), .inl hlt, fun hh => by omega, hin.done haj hji (.inl (by simp at h5; omega)), S, rfl⟩
  have hie2 : e ≤ i := by simp at h4; omega
  refine S.endB ⟨hp, fun k hk => ?_, fun p q h1 h2 h3 => hs p q h1 h2 (by omega)⟩
  by_cases hki : k < a ∨ i ≤ k
  · exact ho k hki
  · rw [hfirst (by omega)]

end Go.Gl

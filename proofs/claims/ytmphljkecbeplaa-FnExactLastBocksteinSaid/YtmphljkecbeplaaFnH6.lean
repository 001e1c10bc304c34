/- Chapter 7: LastBockstein. No condition. -/
import Derived.Test.YtmphljkecbeplaaFnH3
set_option linter.unusedVariables false
set_option linter.unusedSimpArgs false
namespace Go.Gl
open Go.Proofs Go.Proofs.Ytmphljkecbeplaa Go.Pl

theorem noDiv_succ (xs : List STor) (q : Int) (n : Nat) : noDiv xs q (n + 1) = (noDiv xs q n && decide (divN (tor xs n).parts q = 0)) := allN_succ _ _
theorem lastB_good {x : SWhole} {p : Int} (h1 : wholeOk x = true) (h2 : prime p = true) {k : Nat} (hk : k < 10) (h3 : allN (fun i => !lastOk (homol x) p i) k = true) (h4 : lastOk (homol x) p k = true) : lastB x p = (((k + 1 : Nat) : Int), 0) := by
  unfold lastB
  rw [if_pos h1, if_pos h2, find_some hk h3 h4]
theorem lastB_none {x : SWhole} {p : Int} (h1 : wholeOk x = true) (h2 : prime p = true) (h3 : allN (fun i => !lastOk (homol x) p i) 10 = true) : lastB x p = (0, 3) := by
  unfold lastB
  rw [if_pos h1, if_pos h2, find_none h3]

theorem equalJ_c (h : AH) (v w : Value) (xs ys : List Int) (hx : RI h v xs) (hy : RI h w ys) : ACalls Try.prog 109 [v, w] h (fun r h' => r = .bool (decide (xs = ys)) ∧ h' = h) := by
  obtain ⟨m1, b1, o1, k1, c1⟩ := hx
  obtain ⟨m2, b2, o2, k2, c2⟩ := hy
  refine ACalls.wk (args' := [.slice (some ⟨b1, o1, none⟩) xs.length 0, .slice (some ⟨b2, o2, none⟩) ys.length 0]) ?_ (.cons k1 (.cons k2 .nil))
  refine ACalls.of Tt.tab Try.func109 rfl (by kernel_rfl) Try.ntmps109 _ rfl rfl (fun hw => ?_)
  refine BIf.mk (fun h1 => ?_) (fun h1 => ?_)
  · have h1 : ¬ xs.length = ys.length := by simp at h1; omega
    exact FinX.keep hw (Le.refl _) rfl ⟨by congr 1; simp; rintro rfl; exact h1 rfl, rfl⟩
  have h1 : xs.length = ys.length := by simp at h1; omega
  refine ⟨⟨[0, 1, 12, 13], fun n' vs g => ∃ i : Nat, n' = xs.length - i ∧ i ≤ xs.length ∧ g = h ∧ (∀ k, k < i → ith xs k = ith ys k) ∧
    vs = [.slice (some ⟨b1, o1, none⟩) xs.length 0, .slice (some ⟨b2, o2, none⟩) ys.length 0, .int .i64 xs.length, .int .i64 i], _, ⟨0, rfl, Nat.zero_le _, rfl, fun k hk => by omega, rfl⟩, ?_⟩⟩
  rintro n' vs g ⟨i, rfl, hi, rfl, hz, rfl⟩
  refine BIf.mk (fun h2 => ?_) (fun h2 => ?_)
  · have hlt : i < xs.length := by simpa using h2
    refine DrawX.of Tt.tab follows_any [] [] [0, 1, 2, 3, 4, 5, 6, 7, 8] rfl (by kernel_rfl) (by kernel_rfl) ?_
    refine IdxX.mk (by omega) (by omega) ?_
    refine c1.ith (Le.refl _) hlt ?_
    refine IdxX.mk (by omega) (by omega) ?_
    refine c2.ith (Le.refl _) (show i < ys.length by omega) ?_
    refine BIf.mk (fun h3 => ?_) (fun h3 => ?_)
    · have h3 : ¬ ith xs i = ith ys i := by simpa using h3
      exact FinX.keep hw (Le.refl _) rfl ⟨by congr 1; simp; rintro rfl; exact h3 rfl, rfl⟩
    · have h3 : ith xs i = ith ys i := by simpa using h3
      refine WR.i64 ?_
      refine ⟨xs.length - (i + 1), by omega, i + 1, rfl, hlt, rfl, fun k hk => ?_, rfl⟩
      rcases (by omega : k < i ∨ k = i) with h4 | rfl
      · exact hz k h4
      · exact h3
  · have hi2 : i = xs.length := by simp at h2; omega
    subst hi2
    refine FinX.keep hw (Le.refl _) rfl ⟨?_, rfl⟩
    have : xs = ys := ext_ith h1 hz
    simp [this]

theorem lastBI_c (h : AH) (v : Value) (x : SWhole) (hx : RWhole h v x) (p : Int) : ACalls Try.prog 47 [v, .int .i64 p] h (fun r h' => r = .tuple #[.int .i64 (lastB x p).1, .int .i64 (lastB x p).2] ∧ h' = h) := by
  obtain ⟨b1, o1, b2, o2, kx, qx⟩ := hx.can
  refine ACalls.wk (args' := [.agg #[.slice (some ⟨b1, o1, none⟩) x.dims.length 0, .slice (some ⟨b2, o2, none⟩) x.maps.length 0], .int .i64 p]) ?_ (.cons kx (.cons (Wk.refl _) .nil))
  refine ACalls.of Tt.tab Try.func47 rfl (by kernel_rfl) Try.ntmps47 _ rfl rfl (fun hw => ?_)
  have S := Sep.start h
  refine S.new fun b3 g S => ?_
  refine LoadX.same (v := .agg #[.slice (some ⟨b1, o1, none⟩) x.dims.length 0, .slice (some ⟨b2, o2, none⟩) x.maps.length 0]) (S.at_ 0 rfl) rfl ?_
  refine CallX.same (isWholeI_c _ _ x ⟨_, _, rfl, qx.le S.le⟩) ?_
  rintro r' g' ⟨rfl, rfl⟩
  refine BIf.mk (fun e1 => ?_) (fun e1 => ?_)
  · have e1 : wholeOk x = false := by simpa using e1
    exact FinX.keep2 hw S.le rfl rfl ⟨by unfold lastB; rw [e1]; rfl, rfl⟩
  have e1 : wholeOk x = true := by simpa using e1
  refine CallX.same (isPrime_c _ p) ?_
  rintro r' g' ⟨rfl, rfl⟩
  refine BIf.mk (fun e2 => ?_) (fun e2 => ?_)
  · have e2 : prime p = false := by simpa using e2
    exact FinX.keep2 hw S.le rfl rfl ⟨by unfold lastB; rw [e1, e2]; rfl, rfl⟩
  have e2 : prime p = true := by simpa using e2
  refine LoadX.same (v := .agg #[.slice (some ⟨b1, o1, none⟩) x.dims.length 0, .slice (some ⟨b2, o2, none⟩) x.maps.length 0]) (S.at_ 0 rfl) rfl ?_
  refine CallX.same (homologyI_c _ _ x ⟨_, _, rfl, qx.le S.le⟩ e1) ?_
  rintro r' gl ⟨b5, o5, rfl, h4, L⟩
  have ok := homol_ok e1
  have hlen := ok.len
  have h4 := RT.le _ _ _ _ (fresh_sub _ _) h4
  have c1 := h4.cells rfl
  have Sg := S.grow L
  have hL := Sg.le
  have T := Sg.freeze
  clear S Sg
  refine T.new fun b4 g T => ?_
  have T := T.bx_rc 0 (k := 0) rfl rfl
  refine ⟨⟨[1, 4, 5, 6, 7, 22, 23, 24], fun n' vs g2 => ∃ (i b4 : Nat), n' = (homol x).length - i ∧ i ≤ (homol x).length ∧ SepM _ h.length gl g2 [.rc tI 1 h.length (.slice (some ⟨b4, 0, none⟩) i 1) i ((tab i fun i => (tor (homol x) i).free).map (.int .i64))] ∧
    vs = [.int .i64 p, .int .i64 0, .int .i64 0, .slice (some ⟨b5, o5, none⟩) (homol x).length 0, .slice (some ⟨b4, 0, none⟩) i 1, .slice (some ⟨b5, o5, none⟩) (homol x).length 0, .int .i64 (homol x).length, .int .i64 i], _, ⟨0, b4, rfl, Nat.zero_le _, T, rfl⟩, ?_⟩⟩
  rintro n' vs g2 ⟨i, b4, rfl, hi, T, rfl⟩
  refine BIf.mk (fun h2 => ?_) (fun h2 => ?_)
  · have hlt : i < (homol x).length := by simpa using h2
    refine IdxX.mk (by omega) (by omega) ?_
    refine CT.load c1 T.le hlt fun b6 o6 h6 => ?_
    refine T.new fun b7 g T => ?_
    refine T.put 0 rfl fun g T => ?_
    refine LoadX.same (v := .int .i64 (tor (homol x) i).free) (T.at_ 0 rfl) rfl ?_
    refine T.new fun b8 g T => ?_
    refine T.app 1 rfl rfl rfl (by omega) fun b9 g T => ?_
    refine WR.i64 ?_
    exact ⟨(homol x).length - (i + 1), by omega, i + 1, b9, rfl, hlt, by rw [tab_succ, List.map_append]; exact T.drop 0, rfl⟩
  have hi2 : i = (homol x).length := by simp at h2; omega
  subst hi2
  have T : SepM _ h.length gl g2 [.rc tI 1 h.length (.slice (some ⟨b4, 0, none⟩) (homol x).length 1) (homol x).length ((frees (homol x)).map (.int .i64))] := T
  refine ⟨⟨[1, 4, 5, 6, 7, 10], fun n' vs g2 => ∃ (k : Nat), n' = 10 - k ∧ k ≤ 10 ∧ SepM _ h.length gl g2 [.rc tI 1 h.length (.slice (some ⟨b4, 0, none⟩) (homol x).length 1) (homol x).length ((frees (homol x)).map (.int .i64))] ∧ allN (fun i => !lastOk (homol x) p i) k = true ∧
    vs = [.int .i64 p, .int .i64 0, .int .i64 0, .slice (some ⟨b5, o5, none⟩) (homol x).length 0, .slice (some ⟨b4, 0, none⟩) (homol x).length 1, .int .i64 ((k + 1 : Nat) : Int)], _, ⟨0, rfl, Nat.zero_le _, T, rfl, rfl⟩, ?_⟩⟩
  rintro n' vs g2 ⟨k, rfl, hk, T, ha, rfl⟩
  refine BIf.mk (fun h2 => ?_) (fun h2 => ?_)
  · have hlt : k < 10 := by simp at h2; omega
    refine T.made OI.fr (bockstein_c _ _ (homol x) p (k + 1) (RT.le _ _ _ _ T.le h4) ok (isP_of e2) (by omega)) fun b6 o6 g T => ?_
    refine CallX.same (equalJ_c g _ _ (bsPage (homol x) (pwi p (k + 1))) (frees (homol x)) (T.rd OI.reads 0 rfl) (T.rdc 1 rfl (by omega))) ?_
    rintro r' g' ⟨rfl, rfl⟩
    rw [page_frees]
    refine BIf.mk (fun h3 => ?_) (fun h3 => ?_)
    · have h3 : lastOk (homol x) p k = true := h3
      exact FinX.keep2 hw (hL.trans T.le) rfl rfl ⟨by rw [lastB_good e1 e2 hlt ha h3], rfl⟩
    · have h3 : lastOk (homol x) p k = false := h3
      refine WR.i64 ?_
      exact ⟨10 - (k + 1), by omega, k + 1, rfl, hlt, T.drop 0, by rw [allN_succ, ha, h3]; rfl, rfl⟩
  · have hk2 : k = 10 := by simp at h2; omega
    subst hk2
    exact FinX.keep2 hw (hL.trans T.le) rfl rfl ⟨by rw [lastB_none e1 e2 ha], rfl⟩

theorem lastBS_c (h : AH) (v : Value) (x : SWhole) (hx : RWhole h v x) (p : Int) : ACalls Try.prog 46 [v, .int .i64 p] h (fun r h' => r = .tuple #[.int .i64 (lastB x p).1, .int .i64 (lastB x p).2] ∧ h' = h) := by
  obtain ⟨b1, o1, b2, o2, kx, qx⟩ := hx.can
  refine ACalls.wk (args' := [.agg #[.slice (some ⟨b1, o1, none⟩) x.dims.length 0, .slice (some ⟨b2, o2, none⟩) x.maps.length 0], .int .i64 p]) ?_ (.cons kx (.cons (Wk.refl _) .nil))
  refine ACalls.of Tt.tab Try.func46 rfl (by kernel_rfl) Try.ntmps46 _ rfl rfl (fun hw => ?_)
  have S := Sep.start h
  refine S.new fun b3 g S => ?_
  refine LoadX.same (v := .agg #[.slice (some ⟨b1, o1, none⟩) x.dims.length 0, .slice (some ⟨b2, o2, none⟩) x.maps.length 0]) (S.at_ 0 rfl) rfl ?_
  refine CallX.same (l07Code_c _ _ x p ⟨_, _, rfl, qx.le S.le⟩) ?_
  rintro r' g' ⟨rfl, rfl⟩
  cases e1 : wholeOk x with
  | false =>
    refine BIf.yes rfl ?_
    exact FinX.keep2 hw S.le rfl rfl ⟨by unfold lastB; rw [e1]; rfl, rfl⟩
  | true =>
  cases e2 : prime p with
  | false =>
    refine BIf.yes rfl ?_
    exact FinX.keep2 hw S.le rfl rfl ⟨by unfold lastB; rw [e1, e2]; rfl, rfl⟩
  | true =>
  refine BIf.no rfl ?_
  refine LoadX.same (v := .agg #[.slice (some ⟨b1, o1, none⟩) x.dims.length 0, .slice (some ⟨b2, o2, none⟩) x.maps.length 0]) (S.at_ 0 rfl) rfl ?_
  refine CallX.same (l07Homology_c _ _ x ⟨_, _, rfl, qx.le S.le⟩ e1) ?_
  rintro r' gl ⟨b5, o5, rfl, h4, L⟩
  have ok := homol_ok e1
  have hlen := ok.len
  have h4 := RT.le _ _ _ _ (fresh_sub _ _) h4
  have c1 := h4.cells rfl
  have hL := (S.grow L).le
  refine ⟨⟨[1, 4, 5, 7, 8], fun n' vs g2 => ∃ (k : Nat), n' = 10 - k ∧ k ≤ 10 ∧ g2 = gl ∧ allN (fun i => !lastOk (homol x) p i) k = true ∧
    vs = [.int .i64 p, .int .i64 0, .int .i64 0, .slice (some ⟨b5, o5, none⟩) (homol x).length 0, .int .i64 ((k + 1 : Nat) : Int)], _, ⟨0, rfl, Nat.zero_le _, rfl, rfl, rfl⟩, ?_⟩⟩
  rintro n' vs g2 ⟨k, rfl, hk, rfl, ha, rfl⟩
  refine BIf.mk (fun h2 => ?_) (fun h2 => ?_)
  · have hlt : k < 10 := by simp at h2; omega
    refine ⟨⟨[1, 4, 5, 7, 8, 9, 10], fun n' vs g3 => ∃ (j : Nat), n' = (homol x).length - j ∧ j ≤ (homol x).length ∧ g3 = g2 ∧
      vs = [.int .i64 p, .int .i64 0, .int .i64 0, .slice (some ⟨b5, o5, none⟩) (homol x).length 0, .int .i64 ((k + 1 : Nat) : Int), .bool (noDiv (homol x) (pwi p (k + 1)) j), .int .i64 j], _, ⟨0, rfl, Nat.zero_le _, rfl, rfl⟩, ?_⟩⟩
    rintro n' vs g3 ⟨j, rfl, hj, rfl, rfl⟩
    refine BIf.mk (fun h3 => ?_) (fun h3 => ?_)
    · have h3 : j < (homol x).length := by simpa using h3
      have tj := ok.el j
      have e3 := noDiv_succ (homol x) (pwi p (k + 1)) j
      refine BIf.mk (fun h5 => ?_) (fun h5 => ?_)
      · have h5 : noDiv (homol x) (pwi p (k + 1)) j = true := h5
        rw [h5, Bool.true_and] at e3
        refine IdxX.mk (by omega) (by omega) ?_
        refine CT.parts c1 (Le.refl _) h3 fun b6 o6 h6 => ?_
        refine CallX.same (l07Divided_c _ _ (tor (homol x) j).parts p (k + 1) h6 (isP_of e2) (by omega) tj.few tj.pos) ?_
        rintro r' g' ⟨rfl, rfl⟩
        refine Opq.mk ?_
        refine WR.i64 ?_
        refine ⟨(homol x).length - (j + 1), by omega, j + 1, rfl, h3, rfl, ?_⟩
        rw [e3, show decide (divN (tor (homol x) j).parts (pwi p (k + 1)) = 0) = decide ((divN (tor (homol x) j).parts (pwi p (k + 1)) : Int) = 0) from decide_eq_decide.2 (by omega)]
        rfl
      · have h5 : noDiv (homol x) (pwi p (k + 1)) j = false := h5
        rw [h5, Bool.false_and] at e3
        refine WR.i64 ?_
        exact ⟨(homol x).length - (j + 1), by omega, j + 1, rfl, h3, rfl, by rw [e3]; rfl⟩
    · have hj2 : j = (homol x).length := by simp at h3; omega
      subst hj2
      refine BIf.mk (fun h5 => ?_) (fun h5 => ?_)
      · have h5 : lastOk (homol x) p k = true := h5
        exact FinX.keep2 hw hL rfl rfl ⟨by rw [lastB_good e1 e2 hlt ha h5], rfl⟩
      · have h5 : lastOk (homol x) p k = false := h5
        refine WR.i64 ?_
        exact ⟨10 - (k + 1), by omega, k + 1, rfl, hlt, rfl, by rw [allN_succ, ha, h5]; rfl, rfl⟩
  · have hk2 : k = 10 := by simp at h2; omega
    subst hk2
    exact FinX.keep2 hw hL rfl rfl ⟨by rw [lastB_none e1 e2 ha], rfl⟩

end Go.Gl

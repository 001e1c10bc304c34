/- Functions of chapter 1: combinations, remainders, first places. No condition. -/
import Derived.Test.YtionapmdibdfpaaGlT
import Derived.Test.YtionapmdibdfpaaFn1b
set_option linter.unusedVariables false
set_option linter.unusedSimpArgs false
namespace Go.Gl
open Go.Proofs Go.Proofs.Ytionapmdibdfpaa Go.Pl


theorem combine_c (h : AH) (p : Int) (n : Nat) (vv rv : Value) (v : List Int) (rows : List (List Int)) (hp : 2 ≤ p ∧ p ≤ 7) (hn : n ≤ 1000000) (hv : RI h vv v) (hr : RII h rv rows) (bv : Rng p v) (br : Mat p n rows) (hl : v.length ≤ rows.length) :
    ACalls Try.prog 77 [.int .i64 p, .int .i64 n, vv, rv] h (Made OI h (comb p n v rows)) := by
  obtain ⟨_, b1, o1, k1, c1⟩ := hv
  obtain ⟨_, b2, o2, k2, c2⟩ := hr
  refine ACalls.madeI (ACalls.wk (args' := [.int .i64 p, .int .i64 n, .slice (some ⟨b1, o1, none⟩) v.length 0, .slice (some ⟨b2, o2, none⟩) rows.length 0]) ?_ (.cons (Wk.refl _) (.cons (Wk.refl _) (.cons k1 (.cons k2 .nil)))))
  refine ACalls.of Tt.tab Try.func77 rfl (by kernel_rfl) Try.ntmps77 _ rfl rfl (fun hw => ?_)
  have S := Sep.start h
  have hpp : 0 < p := by omega
  refine ⟨by omega, rfl, by omega, by simp only [Tt.ti2]; omega, S.new fun b g S => ?_⟩
  have S := S.recast 0 (cells' := (tab n (fun k => sm 0 (fun i => ith v i * ent rows i k) % p)).map (.int .i64)) rfl ((zeros_tab n).trans (by simp [sm]))
  refine ⟨⟨[0, 3, 9, 16, 17, 18], fun n' vs g => ∃ i : Nat, n' = v.length - i ∧ i ≤ v.length ∧ Sep h.length h g [.bx b tI 1 ((tab n (fun k => sm i (fun i => ith v i * ent rows i k) % p)).map (.int .i64))] ∧
    vs = [.int .i64 p, .slice (some ⟨b2, o2, none⟩) rows.length 0, .slice (some ⟨b, 0, none⟩) n 1, .slice (some ⟨b1, o1, none⟩) v.length 0, .int .i64 v.length, .int .i64 i], _, ⟨0, rfl, Nat.zero_le _, S, rfl⟩, ?_⟩⟩
  rintro n' vs g ⟨i, rfl, hi, S, rfl⟩
  refine BIf.mk (fun hlt => ?_) (fun hlt => ?_)
  · have hlt : i < v.length := by simpa using hlt
    refine IdxX.mk (by omega) (by omega) ?_
    refine c1.ith S.le hlt ?_
    refine IdxX.mk (by omega) (by omega) ?_
    refine c2.row S.le (show i < rows.length by omega) fun b3 o3 c3 => ?_
    have hrl : (row rows i).length = n := (br.row (by omega)).1
    refine ⟨⟨[0, 3, 9, 11, 16, 17, 18, 26, 27, 28], fun n' vs g => ∃ j : Nat, n' = n - j ∧ j ≤ n ∧ Sep h.length h g [.bx b tI 1 ((tab n (fun k => if k < j then sm (i + 1) (fun i => ith v i * ent rows i k) % p else sm i (fun i => ith v i * ent rows i k) % p)).map (.int .i64))] ∧
      vs = [.int .i64 p, .slice (some ⟨b2, o2, none⟩) rows.length 0, .slice (some ⟨b, 0, none⟩) n 1, .int .i64 (ith v i), .slice (some ⟨b1, o1, none⟩) v.length 0, .int .i64 v.length, .int .i64 i, .slice (some ⟨b3, o3, none⟩) (row rows i).length 0, .int .i64 (row rows i).length, .int .i64 j], _, ⟨0, rfl, Nat.zero_le _, S.recast 0 rfl (by rw [← tab_none]), rfl⟩, ?_⟩⟩
    rintro n' vs g ⟨j, rfl, hj, S, rfl⟩
    refine BIf.mk (fun hlt2 => ?_) (fun hlt2 => ?_)
    · have hlt2 : j < n := by simpa [hrl] using hlt2
      refine IdxX.mk (by omega) (by omega) ?_
      refine c3.ith S.le (show j < (row rows i).length by omega) ?_
      refine IdxX.mk (by omega) (by omega) ?_
      refine S.loadT 0 rfl hlt2 (if_neg (Nat.lt_irrefl j)) ?_
      have e1 := mul_small (bv.ith hpp i) (br.ent hpp i j) hp.2
      unfold ent at e1
      have e2 := Int.emod_nonneg (sm i (fun i => ith v i * ent rows i j)) (by omega : p ≠ 0)
      have e3 := Int.emod_lt_of_pos (sm i (fun i => ith v i * ent rows i j)) hpp
      refine WR.i64 ?_
      refine WR.i64 ?_
      refine TM.pos ?_
      refine IdxX.mk (by omega) (by omega) ?_
      refine S.storeT 0 rfl hlt2 fun g S => ?_
      refine WR.i64 ?_
      refine ⟨n - (j + 1), by omega, j + 1, rfl, by omega, S.recast 0 rfl ?_, rfl⟩
      rw [tab_step]
      simp only [sm]
      rw [Int.emod_add_emod]
      rfl
    · have hj2 : j = n := by simp [hrl] at hlt2; omega
      subst hj2
      refine WR.i64 ?_
      exact ⟨v.length - (i + 1), by omega, i + 1, rfl, hlt, S.recast 0 rfl (by rw [tab_all (Nat.le_refl _)]), rfl⟩
  · have hi2 : i = v.length := by simp at hlt; omega
    subst hi2
    have S := S.bx_tr (xs := comb p n v rows) 0 rfl (by simp [comb, tab_length]; omega) 1
    rw [show (comb p n v rows).length = n from tab_length _ _] at S
    exact S.fin 0 rfl

theorem l01Apply_c (h : AH) (p : Int) (n : Nat) (vv rv : Value) (v : List Int) (rows : List (List Int)) (hp : 2 ≤ p ∧ p ≤ 7) (hn : n ≤ 1000000) (hv : RI h vv v) (hr : RII h rv rows) (bv : Rng p v) (br : Mat p n rows) (hl : v.length ≤ rows.length) :
    ACalls Try.prog 81 [.int .i64 p, rv, vv, .int .i64 n] h (Made OI h (comb p n v rows)) := by
  obtain ⟨_, b1, o1, k1, c1⟩ := hv
  obtain ⟨_, b2, o2, k2, c2⟩ := hr
  refine ACalls.madeI (ACalls.wk (args' := [.int .i64 p, .slice (some ⟨b2, o2, none⟩) rows.length 0, .slice (some ⟨b1, o1, none⟩) v.length 0, .int .i64 n]) ?_ (.cons (Wk.refl _) (.cons k2 (.cons k1 (.cons (Wk.refl _) .nil)))))
  refine ACalls.of Tt.tab Try.func81 rfl (by kernel_rfl) Try.ntmps81 _ rfl rfl (fun hw => ?_)
  have S := Sep.start h
  have hpp : 0 < p := by omega
  refine ⟨by omega, rfl, by omega, by simp only [Tt.ti2]; omega, S.new fun b g S => ?_⟩
  have S := S.recast 0 (cells' := (tab n (fun k => sm 0 (fun i => ith v i * ent rows i k) % p)).map (.int .i64)) rfl ((zeros_tab n).trans (by simp [sm]))
  refine ⟨⟨[0, 1, 2, 9, 10], fun n' vs g => ∃ i : Nat, n' = v.length - i ∧ i ≤ v.length ∧ Sep h.length h g [.bx b tI 1 ((tab n (fun k => sm i (fun i => ith v i * ent rows i k) % p)).map (.int .i64))] ∧
    vs = [.int .i64 p, .slice (some ⟨b2, o2, none⟩) rows.length 0, .slice (some ⟨b1, o1, none⟩) v.length 0, .slice (some ⟨b, 0, none⟩) n 1, .int .i64 i], _, ⟨0, rfl, Nat.zero_le _, S, rfl⟩, ?_⟩⟩
  rintro n' vs g ⟨i, rfl, hi, S, rfl⟩
  refine BIf.mk (fun hlt => ?_) (fun hlt => ?_)
  · have hlt : i < v.length := by simpa using hlt
    have hrl : (row rows i).length = n := (br.row (by omega)).1
    refine ⟨⟨[0, 1, 2, 9, 10, 11], fun n' vs g => ∃ j : Nat, n' = n - j ∧ j ≤ n ∧ Sep h.length h g [.bx b tI 1 ((tab n (fun k => if k < j then sm (i + 1) (fun i => ith v i * ent rows i k) % p else sm i (fun i => ith v i * ent rows i k) % p)).map (.int .i64))] ∧
      vs = [.int .i64 p, .slice (some ⟨b2, o2, none⟩) rows.length 0, .slice (some ⟨b1, o1, none⟩) v.length 0, .slice (some ⟨b, 0, none⟩) n 1, .int .i64 i, .int .i64 j], _, ⟨0, rfl, Nat.zero_le _, S.recast 0 rfl (by rw [← tab_none]), rfl⟩, ?_⟩⟩
    rintro n' vs g ⟨j, rfl, hj, S, rfl⟩
    refine BIf.mk (fun hlt2 => ?_) (fun hlt2 => ?_)
    · have hlt2 : j < n := by simpa using hlt2
      refine DrawX.of Tt.tab follows_any [] [22] [0, 1, 2, 3, 4, 5, 6, 7, 8, 9, 10, 11, 12, 13, 14, 15, 16, 17, 18, 19, 20, 21, 22] rfl (by kernel_rfl) (by kernel_rfl) ?_
      refine IdxX.mk (by omega) (by omega) ?_
      refine S.loadT 0 rfl hlt2 (if_neg (Nat.lt_irrefl j)) ?_
      refine IdxX.mk (by omega) (by omega) ?_
      refine c1.ith S.le hlt ?_
      refine IdxX.mk (by omega) (by omega) ?_
      refine c2.row S.le (show i < rows.length by omega) fun b3 o3 c3 => ?_
      refine IdxX.mk (by omega) (by omega) ?_
      refine c3.ith S.le (show j < (row rows i).length by omega) ?_
      have e1 := mul_small (bv.ith hpp i) (br.ent hpp i j) hp.2
      unfold ent at e1
      have e2 := Int.emod_nonneg (sm i (fun i => ith v i * ent rows i j)) (by omega : p ≠ 0)
      have e3 := Int.emod_lt_of_pos (sm i (fun i => ith v i * ent rows i j)) hpp
      refine WR.i64 ?_
      refine WR.i64 ?_
      refine TM.pos ?_
      refine IdxX.mk (by omega) (by omega) ?_
      refine S.storeT 0 rfl hlt2 fun g S => ?_
      refine WR.i64 ?_
      refine ⟨n - (j + 1), by omega, j + 1, rfl, by omega, S.recast 0 rfl ?_, rfl⟩
      rw [tab_step]
      simp only [sm]
      rw [Int.emod_add_emod]
      rfl
    · have hj2 : j = n := by simp at hlt2; omega
      subst hj2
      refine WR.i64 ?_
      exact ⟨v.length - (i + 1), by omega, i + 1, rfl, hlt, S.recast 0 rfl (by rw [tab_all (Nat.le_refl _)]), rfl⟩
  · have hi2 : i = v.length := by simp at hlt; omega
    subst hi2
    have S := S.bx_tr (xs := comb p n v rows) 0 rfl (by simp [comb, tab_length]; omega) 1
    rw [show (comb p n v rows).length = n from tab_length _ _] at S
    exact S.fin 0 rfl

theorem l01Mod_c (h : AH) (p x : Int) (hp : 2 ≤ p ∧ p ≤ 7) (hx : -1000000000000 ≤ x ∧ x ≤ 1000000000000) : ACalls Try.prog 82 [.int .i64 p, .int .i64 x] h (fun r h' => r = .int .i64 (x % p) ∧ h' = h) := by
  refine ACalls.of Tt.tab Try.func82 rfl (by kernel_rfl) Try.ntmps82 _ rfl rfl (fun hw => ?_)
  have e1 := Int.tmod_lt_of_pos x (by omega : 0 < p)
  have e2 := Int.lt_tmod_of_pos x (by omega : 0 < p)
  refine ⟨by omega, ?_⟩
  refine WR.i64 ?_
  refine TM.pos ?_
  refine FinX.keep hw (Le.refl _) rfl ⟨?_, rfl⟩
  rw [Int.add_emod_right, tmod_emod]

theorem l01Lead_c (h : AH) (v : Value) (xs : List Int) (hx : RI h v xs) : ACalls Try.prog 70 [v] h (fun r h' => r = .int .i64 (lead xs) ∧ h' = h) := by
  obtain ⟨hm, b, o, k1, c1⟩ := hx
  refine ACalls.wk (args' := [.slice (some ⟨b, o, none⟩) xs.length 0]) ?_ (.cons k1 .nil)
  refine ACalls.of Tt.tab Try.func70 rfl (by kernel_rfl) Try.ntmps70 _ rfl rfl (fun hw => ?_)
  refine ⟨⟨[0, 3], fun n' vs g => ∃ i : Nat, n' = xs.length - i ∧ i ≤ xs.length ∧ g = h ∧ (∀ k, k < i → ith xs k = 0) ∧ vs = [.slice (some ⟨b, o, none⟩) xs.length 0, .int .i64 i], _, ⟨0, rfl, Nat.zero_le _, rfl, fun k hk => by omega, rfl⟩, ?_⟩⟩
  rintro n' vs g ⟨i, rfl, hi, rfl, hz, rfl⟩
  refine BIf.mk (fun hlt => ?_) (fun hlt => ?_)
  · have hlt : i < xs.length := by simpa using hlt
    refine IdxX.mk (by omega) (by omega) ?_
    refine c1.ith (Le.refl _) hlt ?_
    refine BIf.mk (fun h2 => ?_) (fun h2 => ?_)
    · have h2 : ith xs i ≠ 0 := by simpa using h2
      exact FinX.keep hw (Le.refl _) rfl ⟨by rw [lead_stop hlt hz h2], rfl⟩
    · have h2 : ith xs i = 0 := by simpa using h2
      refine WR.i64 ?_
      refine ⟨xs.length - (i + 1), by omega, i + 1, rfl, hlt, rfl, fun k hk => ?_, rfl⟩
      rcases (by omega : k < i ∨ k = i) with hk | rfl
      · exact hz k hk
      · exact h2
  · have hi2 : i = xs.length := by simp at hlt; omega
    subst hi2
    exact FinX.keep hw (Le.refl _) rfl ⟨by rw [lead_none hz], rfl⟩

theorem l01Less_c (h : AH) (p k : Int) (uv vv : Value) (u v : List Int) (hp : 2 ≤ p ∧ p ≤ 7) (hu : RI h uv u) (hv : RI h vv v) (hl : u.length ≤ v.length) (hm : u.length ≤ 1000000) (hk : -1000 ≤ k ∧ k ≤ 1000) (bu : ∀ i, -1000 ≤ ith u i ∧ ith u i ≤ 1000) (bv : ∀ i, -1000 ≤ ith v i ∧ ith v i ≤ 1000) :
    ACalls Try.prog 72 [.int .i64 p, uv, vv, .int .i64 k] h (Made OI h (less p u v k)) := by
  obtain ⟨_, b1, o1, k1, c1⟩ := hu
  obtain ⟨_, b2, o2, k2, c2⟩ := hv
  refine ACalls.madeI (ACalls.wk (args' := [.int .i64 p, .slice (some ⟨b1, o1, none⟩) u.length 0, .slice (some ⟨b2, o2, none⟩) v.length 0, .int .i64 k]) ?_ (.cons (Wk.refl _) (.cons k1 (.cons k2 (.cons (Wk.refl _) .nil)))))
  refine ACalls.of Tt.tab Try.func72 rfl (by kernel_rfl) Try.ntmps72 _ rfl rfl (fun hw => ?_)
  have S := Sep.start h
  refine S.new fun b g S => ?_
  have S := S.bx_rc 0 (k := 0) rfl rfl
  refine ⟨⟨[0, 1, 2, 3, 9, 10], fun n' vs g => ∃ (i b : Nat), n' = u.length - i ∧ i ≤ u.length ∧ Sep h.length h g [.rc tI 1 h.length (.slice (some ⟨b, 0, none⟩) i 1) i ((tab i (fun i => (ith u i - k * ith v i) % p)).map (.int .i64))] ∧
    vs = [.int .i64 p, .slice (some ⟨b1, o1, none⟩) u.length 0, .slice (some ⟨b2, o2, none⟩) v.length 0, .int .i64 k, .slice (some ⟨b, 0, none⟩) i 1, .int .i64 i], _, ⟨0, b, rfl, Nat.zero_le _, S, rfl⟩, ?_⟩⟩
  rintro n' vs g ⟨i, b, rfl, hi, S, rfl⟩
  refine BIf.mk (fun hlt => ?_) (fun hlt => ?_)
  · have hlt : i < u.length := by simpa using hlt
    refine DrawX.of Tt.tab follows_any [14] [15] [0, 1, 2, 3, 4, 5, 6, 7, 8, 9, 10, 11, 12, 13, 14, 15, 16] rfl (by kernel_rfl) (by kernel_rfl) ?_
    refine IdxX.mk (by omega) (by omega) ?_
    refine c1.ith S.le hlt ?_
    refine IdxX.mk (by omega) (by omega) ?_
    refine c2.ith S.le (show i < v.length by omega) ?_
    have e1 := mul_abs hk (bv i)
    have e2 := bu i
    refine WR.i64 ?_
    refine WR.i64 ?_
    refine QCall.of (fun g2 hl => l01Mod_c g2 p _ hp (by omega)) rfl ?_
    refine S.newL fun b5 g L S => ?_
    refine ⟨L, ?_⟩
    refine S.app 0 rfl rfl rfl (by omega) fun b6 g S => ?_
    refine WR.i64 ?_
    exact ⟨u.length - (i + 1), by omega, i + 1, b6, rfl, hlt, by rw [tab_succ, List.map_append]; exact S, rfl⟩
  · have hi2 : i = u.length := by simp at hlt; omega
    subst hi2
    have S := S.rc_tr (xs := less p u v k) 0 rfl (by simp [less, tab_length]; omega)
    exact S.fin 0 rfl

end Go.Gl

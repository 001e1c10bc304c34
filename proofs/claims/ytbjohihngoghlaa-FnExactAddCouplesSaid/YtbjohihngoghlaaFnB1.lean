/- Rows beside each other: blocks. No condition. -/
import Derived.Test.YtbjohihngoghlaaFnK1
import Derived.Test.YtbjohihngoghlaaFnA3
set_option linter.unusedVariables false
set_option linter.unusedSimpArgs false
namespace Go.Gl
open Go.Proofs Go.Proofs.Ytbjohihngoghlaa Go.Pl

/-- the rows of a with zeros behind, then the rows of b with zeros ahead -/
def blocks (a b : List (List Int)) (n m : Int) : List (List Int) := (a.map fun r => r ++ zrow m.toNat) ++ b.map fun r => zrow n.toNat ++ r
theorem zeros_zrow (k : Nat) : (List.replicate k [Value.int .i64 0]).flatten = (zrow k).map (.int .i64) := by
  rw [zeros_tab, ← tab_zero]; rfl

theorem beside_c (h : AH) (va vb : Value) (a b : List (List Int)) (n m : Int) (ha : RII h va a) (hb : RII h vb b) (hn : 0 ≤ n ∧ n ≤ 1000) (hm : 0 ≤ m ∧ m ≤ 1000) (la : a.length ≤ 1000) (lb : b.length ≤ 1000) (ra : ∀ r ∈ a, r.length ≤ 1000) (rb : ∀ r ∈ b, r.length ≤ 1000) :
    ACalls Try.prog 106 [va, vb, .int .i64 n, .int .i64 m] h (Made OII h (blocks a b n m)) := by
  obtain ⟨_, b1, o1, k1, c1⟩ := ha
  obtain ⟨_, b2, o2, k2, c2⟩ := hb
  obtain ⟨n, rfl⟩ : ∃ k : Nat, n = k := ⟨n.toNat, by omega⟩
  obtain ⟨m, rfl⟩ : ∃ k : Nat, m = k := ⟨m.toNat, by omega⟩
  refine ACalls.madeN (ACalls.wk (args' := [.slice (some ⟨b1, o1, none⟩) a.length 0, .slice (some ⟨b2, o2, none⟩) b.length 0, .int .i64 n, .int .i64 m]) ?_ (.cons k1 (.cons k2 (.cons (Wk.refl _) (.cons (Wk.refl _) .nil)))))
  refine ACalls.of Tt.tab Try.func106 rfl (by kernel_rfl) Try.ntmps106 _ rfl rfl (fun hw => ?_)
  have S := Sep.start h
  refine S.new fun b3 g S => ?_
  have S := S.bx_rw 0 OI.fr rfl
  refine ⟨⟨[1, 2, 3, 9, 15, 16, 17], fun n' vs g => ∃ i b3 : Nat, n' = a.length - i ∧ i ≤ a.length ∧ Sep h.length h g [.rw OI.fr (22) h.length (.slice (some ⟨b3, 0, none⟩) i 1) i ((a.take i).map fun r => r ++ zrow m)] ∧
    vs = [.slice (some ⟨b2, o2, none⟩) b.length 0, .int .i64 n, .int .i64 m, .slice (some ⟨b3, 0, none⟩) i 1, .slice (some ⟨b1, o1, none⟩) a.length 0, .int .i64 a.length, .int .i64 i], _, ⟨0, b3, rfl, Nat.zero_le _, S, rfl⟩, ?_⟩⟩
  rintro n' vs g ⟨i, b3, rfl, hi, S, rfl⟩
  refine BIf.mk (fun h2 => ?_) (fun h2 => ?_)
  · have hlt : i < a.length := by simpa using h2
    have hrl := ra _ (row_mem hlt)
    refine IdxX.mk (by omega) (by omega) ?_
    refine c1.rowY S.le hlt fun b4 o4 h4 => ?_
    refine S.madeR (cloneR_c _ _ (row a i) (RI.le _ _ _ _ S.le h4) (by omega)) fun A c g L S => ?_
    refine S.appZ (ie := Tt.ti2) (k := (row a i).length) (m := m) 0 rfl (by omega) fun A' c' g S => ?_
    have S := S.recastR 0 (cells' := (row a i ++ zrow m).map (.int .i64)) rfl (by rw [List.map_append, ← zrow_map]; rfl)
    have S := S.rc_tr 0 rfl (by simp [zrow]; omega)
    refine S.new fun b5 g S => ?_
    refine S.appT 0 rfl rfl (by omega) fun b6 g S => ?_
    refine WR.i64 ?_
    refine ⟨a.length - (i + 1), by omega, i + 1, b6, rfl, hlt, ?_, rfl⟩
    rw [take_succ_row hlt, List.map_append]; exact S
  have hi2 : i = a.length := by simp at h2; omega
  subst hi2
  rw [List.take_length] at S
  refine ⟨⟨[2, 9, 29, 30, 31], fun n' vs g => ∃ i b3 : Nat, n' = b.length - i ∧ i ≤ b.length ∧ Sep h.length h g [.rw OI.fr (22) h.length (.slice (some ⟨b3, 0, none⟩) (a.length + i) 1) (a.length + i) ((a.map fun r => r ++ zrow m) ++ (b.take i).map fun r => zrow n ++ r)] ∧
    vs = [.int .i64 n, .slice (some ⟨b3, 0, none⟩) (a.length + i) 1, .slice (some ⟨b2, o2, none⟩) b.length 0, .int .i64 b.length, .int .i64 i], _, ⟨0, b3, rfl, Nat.zero_le _, by simpa using S, rfl⟩, ?_⟩⟩
  rintro n' vs g ⟨i, b3, rfl, hi, S, rfl⟩
  refine BIf.mk (fun h2 => ?_) (fun h2 => ?_)
  · have hlt : i < b.length := by simpa using h2
    have hrl := rb _ (row_mem hlt)
    refine IdxX.mk (by omega) (by omega) ?_
    refine c2.row S.le hlt fun b4 o4 c4 => ?_
    refine ⟨by omega, rfl, by omega, by show (n : Int) * (8 : Nat) ≤ _; omega, ?_⟩
    refine S.new fun b5 g2 S2 => ?_
    have S2 := S2.recast 0 rfl (zeros_zrow n)
    have S2 := S2.bx_rc 0 (k := n) rfl (by show ((zrow n).map _).length = n * 1; simp [zrow])
    refine S2.appNs (ie := Tt.ti2) (m := (row b i).length) 0 rfl S2.le c4 rfl (by omega) fun A c g S => ?_
    have S := S.recastR 0 (cells' := (zrow n ++ row b i).map (.int .i64)) rfl (by rw [List.map_append])
    have S := S.rc_tr 0 rfl (by simp [zrow]; omega)
    refine S.new fun b5 g S => ?_
    refine S.appT 0 rfl rfl (by omega) fun b6 g S => ?_
    refine WR.i64 ?_
    refine ⟨b.length - (i + 1), by omega, i + 1, b6, rfl, hlt, ?_, rfl⟩
    rw [take_succ_row hlt, List.map_append, ← List.append_assoc]; exact S
  have hi2 : i = b.length := by simp at h2; omega
  subst hi2
  rw [List.take_length] at S
  exact (S.rw_tr 0 rfl (by omega)).fin 0 rfl

theorem l05Blocks_c (h : AH) (va vb : Value) (a b : List (List Int)) (n m : Int) (ha : RII h va a) (hb : RII h vb b) (hn : 0 ≤ n ∧ n ≤ 1000) (hm : 0 ≤ m ∧ m ≤ 1000) (la : a.length ≤ 1000) (lb : b.length ≤ 1000) (ra : ∀ r ∈ a, r.length ≤ 1000) (rb : ∀ r ∈ b, r.length ≤ 1000) :
    ACalls Try.prog 103 [va, .int .i64 n, vb, .int .i64 m] h (Made OII h (blocks a b n m)) := by
  obtain ⟨_, b1, o1, k1, c1⟩ := ha
  obtain ⟨_, b2, o2, k2, c2⟩ := hb
  obtain ⟨n, rfl⟩ : ∃ k : Nat, n = k := ⟨n.toNat, by omega⟩
  obtain ⟨m, rfl⟩ : ∃ k : Nat, m = k := ⟨m.toNat, by omega⟩
  refine ACalls.madeN (ACalls.wk (args' := [.slice (some ⟨b1, o1, none⟩) a.length 0, .int .i64 n, .slice (some ⟨b2, o2, none⟩) b.length 0, .int .i64 m]) ?_ (.cons k1 (.cons (Wk.refl _) (.cons k2 (.cons (Wk.refl _) .nil)))))
  refine ACalls.of Tt.tab Try.func103 rfl (by kernel_rfl) Try.ntmps103 _ rfl rfl (fun hw => ?_)
  have S := Sep.start h
  refine S.new fun b3 g S => ?_
  have S := S.bx_rw 0 OI.fr rfl
  refine ⟨⟨[0, 1, 2, 3, 9, 10], fun n' vs g => ∃ i b3 : Nat, n' = a.length - i ∧ i ≤ a.length ∧ Sep h.length h g [.rw OI.fr (22) h.length (.slice (some ⟨b3, 0, none⟩) i 1) i ((a.take i).map fun r => r ++ zrow m)] ∧
    vs = [.slice (some ⟨b1, o1, none⟩) a.length 0, .int .i64 n, .slice (some ⟨b2, o2, none⟩) b.length 0, .int .i64 m, .slice (some ⟨b3, 0, none⟩) i 1, .int .i64 i], _, ⟨0, b3, rfl, Nat.zero_le _, S, rfl⟩, ?_⟩⟩
  rintro n' vs g ⟨i, b3, rfl, hi, S, rfl⟩
  refine BIf.mk (fun h2 => ?_) (fun h2 => ?_)
  · have hlt : i < a.length := by simpa using h2
    have hrl := ra _ (row_mem hlt)
    refine IdxX.mk (by omega) (by omega) ?_
    refine c1.rowY S.le hlt fun b4 o4 h4 => ?_
    refine S.madeR (l01OwnR_c _ _ (row a i) (RI.le _ _ _ _ S.le h4) (by omega)) fun A c g L S => ?_
    refine S.appZ (ie := Tt.ti2) (k := (row a i).length) (m := m) 0 rfl (by omega) fun A' c' g S => ?_
    have S := S.recastR 0 (cells' := (row a i ++ zrow m).map (.int .i64)) rfl (by rw [List.map_append, ← zrow_map]; rfl)
    have S := S.rc_tr 0 rfl (by simp [zrow]; omega)
    refine S.new fun b5 g S => ?_
    refine S.appT 0 rfl rfl (by omega) fun b6 g S => ?_
    refine WR.i64 ?_
    refine ⟨a.length - (i + 1), by omega, i + 1, b6, rfl, hlt, ?_, rfl⟩
    rw [take_succ_row hlt, List.map_append]; exact S
  have hi2 : i = a.length := by simp at h2; omega
  subst hi2
  rw [List.take_length] at S
  refine ⟨⟨[1, 2, 9, 11], fun n' vs g => ∃ i b3 : Nat, n' = b.length - i ∧ i ≤ b.length ∧ Sep h.length h g [.rw OI.fr (22) h.length (.slice (some ⟨b3, 0, none⟩) (a.length + i) 1) (a.length + i) ((a.map fun r => r ++ zrow m) ++ (b.take i).map fun r => zrow n ++ r)] ∧
    vs = [.int .i64 n, .slice (some ⟨b2, o2, none⟩) b.length 0, .slice (some ⟨b3, 0, none⟩) (a.length + i) 1, .int .i64 i], _, ⟨0, b3, rfl, Nat.zero_le _, by simpa using S, rfl⟩, ?_⟩⟩
  rintro n' vs g ⟨i, b3, rfl, hi, S, rfl⟩
  refine BIf.mk (fun h2 => ?_) (fun h2 => ?_)
  · have hlt : i < b.length := by simpa using h2
    have hrl := rb _ (row_mem hlt)
    refine DrawX.of Tt.tab follows_any [2, 8] [7, 9] [0, 1, 3, 4, 5, 6, 2, 7, 8, 9, 10] rfl (by kernel_rfl) (by kernel_rfl) ?_
    refine IdxX.mk (by omega) (by omega) ?_
    refine c2.row S.le hlt fun b4 o4 c4 => ?_
    refine ⟨by omega, rfl, by omega, by show (n : Int) * (8 : Nat) ≤ _; omega, ?_⟩
    refine S.newL fun b5 g2 L S2 => ⟨L, strictV.mk ?_⟩
    have S2 := S2.recast 0 rfl (zeros_zrow n)
    have S2 := S2.bx_rc 0 (k := n) rfl (by show ((zrow n).map _).length = n * 1; simp [zrow])
    refine S2.appNs (ie := Tt.ti2) (m := (row b i).length) 0 rfl S2.le c4 rfl (by omega) fun A c g S => strictV.mk ?_
    have S := S.recastR 0 (cells' := (zrow n ++ row b i).map (.int .i64)) rfl (by rw [List.map_append])
    have S := S.rc_tr 0 rfl (by simp [zrow]; omega)
    refine S.newL fun b5 g L S => ⟨L, strictV.mk ?_⟩
    refine S.appT 0 rfl rfl (by omega) fun b6 g S => strictV.mk ?_
    refine WR.i64 ?_
    refine ⟨b.length - (i + 1), by omega, i + 1, b6, rfl, hlt, ?_, rfl⟩
    rw [take_succ_row hlt, List.map_append, ← List.append_assoc]; exact S
  have hi2 : i = b.length := by simp at h2; omega
  subst hi2
  rw [List.take_length] at S
  exact (S.rw_tr 0 rfl (by omega)).fin 0 rfl

end Go.Gl

/- Chapter 7: the choices of the reference. No condition. Printed by mk_d4.py. -/
import Derived.Test.YtbjohihngoghlaaFnD3
set_option linter.unusedVariables false
set_option linter.unusedSimpArgs false
namespace Go.Gl
open Go.Proofs Go.Proofs.Ytbjohihngoghlaa Go.Pl

theorem flatMap_take {f : List Int → List (List Int)} {L : List (List Int)} {i : Nat} (h : i < L.length) : (L.take (i + 1)).flatMap f = (L.take i).flatMap f ++ f (row L i) := by
  rw [take_succ_row h, List.flatMap_append]; simp
theorem ext1_len (n : Nat) (l : List Int) : (ext1 n l).length = n - nxt l := by simp [ext1]
theorem flatMap_ext_len (n : Nat) : ∀ (L : List (List Int)), (L.flatMap (ext1 n)).length ≤ L.length * n
  | [] => by simp
  | l :: L => by
    have := flatMap_ext_len n L
    rw [List.flatMap_cons, List.length_append, ext1_len, List.length_cons, Nat.succ_mul]
    omega
theorem chS_len (n : Nat) : ∀ k, (chS n k).length ≤ n ^ k
  | 0 => by simp [chS]
  | k + 1 => by
    have h1 := chS_len n k
    have h2 := flatMap_ext_len n (chS n k)
    rw [Nat.pow_succ]
    exact Nat.le_trans h2 (Nat.mul_le_mul_right n h1)
theorem nxt_pos {l : List Int} {n : Nat} (h : Asc n l) (h0 : l ≠ []) : ith l (l.length - 1) + 1 = (nxt l : Nat) ∧ nxt l ≤ n := by
  have hm : ith l (l.length - 1) ∈ l := ith_mem (by have := List.length_pos_iff.2 h0; omega)
  have := h.1 _ hm
  unfold nxt
  rw [if_neg h0]
  omega

theorem l07Choices_c (h : AH) (n k : Nat) (hn : n ≤ 6) (hk : k ≤ 6) : ACalls Try.prog 196 [.int .i64 n, .int .i64 k] h (Made OII h (chS n k)) := by
  refine ACalls.madeN ?_
  refine ACalls.of Tt.tab Try.func196 rfl (by kernel_rfl) Try.ntmps196 _ rfl rfl (fun hw => ?_)
  have S := Sep.start h
  refine S.new fun b1 g S => ?_
  have S := S.bx_tr 0 (ti := 2) (xs := []) rfl (by simp) 1
  refine S.new fun b2 g S => ?_
  have S' : Sep h.length h g [.bx b2 22 1 [.slice (some ⟨b1, 0, none⟩) 0 1], .tr OI.fr h.length (.slice (some ⟨b1, 0, none⟩) 0 1) []] := S
  have S := S'.bx_rw1
  clear S'
  have hpow : ∀ j, j ≤ 6 → n ^ j ≤ 46656 := fun j hj => Nat.le_trans (Nat.pow_le_pow_left hn j) (Nat.le_trans (Nat.pow_le_pow_right (by decide) hj) (by decide))
  refine ⟨⟨[0, 1, 5], fun n' vs g => ∃ (j b : Nat), n' = k - j ∧ j ≤ k ∧ Sep h.length h g [.rw OI.fr 22 h.length (.slice (some ⟨b, 0, none⟩) (chS n j).length 1) (chS n j).length (chS n j)] ∧
    vs = [.int .i64 n, .int .i64 ((k : Int) - j), .slice (some ⟨b, 0, none⟩) (chS n j).length 1], _, ⟨0, b2, rfl, Nat.zero_le _, S, by simp only [Int.natCast_zero, Int.sub_zero]; rfl⟩, ?_⟩⟩
  rintro n' vs g ⟨j, b, rfl, hj, S, rfl⟩
  have hlj := Nat.le_trans (chS_len n j) (hpow j (by omega))
  refine BIf.mk (fun h2 => ?_) (fun h2 => ?_)
  · have h2 : j < k := by simp at h2; omega
    refine S.new fun b2 g S => ?_
    have S := S.bx_rw 0 OI.fr rfl
    refine ⟨⟨[0, 1, 5, 6, 7], fun n' vs g => ∃ (i m b' : Nat), n' = (chS n j).length - i ∧ i ≤ (chS n j).length ∧ Sep h.length h g [.rw OI.fr 22 h.length (.slice (some ⟨b', 0, none⟩) m 1) m (((chS n j).take i).flatMap (ext1 n)), .rw OI.fr 22 h.length (.slice (some ⟨b, 0, none⟩) (chS n j).length 1) (chS n j).length (chS n j)] ∧ (((chS n j).take i).flatMap (ext1 n)).length = m ∧
      vs = [.int .i64 n, .int .i64 ((k : Int) - j), .slice (some ⟨b, 0, none⟩) (chS n j).length 1, .slice (some ⟨b', 0, none⟩) m 1, .int .i64 i], _, ⟨0, 0, b2, rfl, Nat.zero_le _, S, rfl, rfl⟩, ?_⟩⟩
    rintro n' vs g ⟨i, m, b2, rfl, hi, S, hm, rfl⟩
    refine BIf.mk (fun h3 => ?_) (fun h3 => ?_)
    · have hlt : i < (chS n j).length := by simpa using h3
      obtain ⟨l, hl⟩ : ∃ l, row (chS n j) i = l := ⟨_, rfl⟩
      have hlm : l ∈ chS n j := hl ▸ row_mem hlt
      obtain ⟨hll, hla⟩ := (mem_chS n j l).1 hlm
      have hmb : m ≤ 300000 := by
        have := flatMap_ext_len n ((chS n j).take i)
        rw [hm, List.length_take] at this
        have h7 : min i (chS n j).length * n ≤ 46656 * 6 := Nat.mul_le_mul (by omega) hn
        omega
      refine IdxX.mk (by omega) (by omega) ?_
      refine ((S.rdw OI.reads 1 rfl (by omega)).cells1 rfl).rowY (Le.refl _) hlt fun b4 o4 h5 => ?_
      rw [hl] at h5 ⊢
      refine BIf.mk (fun h6 => ?_) (fun h6 => ?_)
      · have h6 : l ≠ [] := by rintro rfl; simp at h6
        have hpos := List.length_pos_iff.2 h6
        obtain ⟨hx1, hx2⟩ := nxt_pos hla h6
        refine IdxX.mk (by omega) (by omega) ?_
        refine ((S.rdw OI.reads 1 rfl (by omega)).cells1 rfl).rowY (Le.refl _) hlt fun b4 o4 h5 => ?_
        rw [hl] at h5 ⊢
        refine WR.as (r := ((l.length - 1 : Nat) : Int)) (by omega) ?_
        refine IdxX.mk (by omega) (by omega) ?_
        refine (h5.cells rfl).ith (Le.refl _) (show l.length - 1 < l.length by omega) ?_
        refine WR.as (r := (nxt l : Int)) hx1 ?_
        refine ⟨⟨[0, 1, 5, 6, 7, 10], fun n' vs g => ∃ (q b' : Nat), n' = (n - nxt l) - q ∧ q ≤ n - nxt l ∧ Sep h.length h g [.rw OI.fr 22 h.length (.slice (some ⟨b', 0, none⟩) (m + q) 1) (m + q) (((chS n j).take i).flatMap (ext1 n) ++ (List.range q).map fun j => l ++ [((nxt l + j : Nat) : Int)]), .rw OI.fr 22 h.length (.slice (some ⟨b, 0, none⟩) (chS n j).length 1) (chS n j).length (chS n j)] ∧
          vs = [.int .i64 n, .int .i64 ((k : Int) - j), .slice (some ⟨b, 0, none⟩) (chS n j).length 1, .slice (some ⟨b', 0, none⟩) (m + q) 1, .int .i64 i, .int .i64 ((nxt l + q : Nat) : Int)], _, ⟨0, b2, rfl, Nat.zero_le _, by simpa using S, rfl⟩, ?_⟩⟩
        rintro n' vs g ⟨q, b2, rfl, hq, S, rfl⟩
        refine BIf.mk (fun h4 => ?_) (fun h4 => ?_)
        · have h4 : nxt l + q < n := by simp at h4; omega
          refine IdxX.mk (by omega) (by omega) ?_
          refine ((S.rdw OI.reads 1 rfl (by omega)).cells1 rfl).rowY (Le.refl _) hlt fun b4 o4 h5 => ?_
          rw [hl] at h5 ⊢
          refine S.madeR (l01OwnR_c _ _ l h5 (by omega)) fun A c g L S => ?_
          refine S.new fun b5 g S => ?_
          refine S.app (ie := Tt.ti2) 0 rfl rfl rfl (by omega) fun b6 g S => ?_
          have S := S.recastR 0 (cells' := (l ++ [((nxt l + q : Nat) : Int)]).map (.int .i64)) rfl (by rw [List.map_append]; rfl)
          have S := S.rc_tr 0 rfl (by simp; omega)
          refine S.new fun b7 g S => ?_
          refine S.appT 0 rfl rfl (by omega) fun b8 g S => ?_
          refine WR.i64 ?_
          refine ⟨n - nxt l - (q + 1), by omega, q + 1, b8, rfl, by omega, ?_, rfl⟩
          rw [List.range_succ, List.map_append, ← List.append_assoc]
          exact S
        have hq2 : q = n - nxt l := by simp at h4; omega
        subst hq2
        refine WR.i64 ?_
        refine ⟨(chS n j).length - (i + 1), by omega, i + 1, m + (n - nxt l), b2, rfl, hlt, ?_, ?_, rfl⟩
        · rw [flatMap_take hlt, hl]; exact S
        · rw [flatMap_take hlt, List.length_append, ← hm, hl, ext1_len]
      · have h6 : l = [] := by
          have : l.length = 0 := by simpa using h6
          exact List.length_eq_zero_iff.1 this
        have hx0 : nxt l = 0 := by subst h6; rfl
        have hx2 : nxt l ≤ n := by omega
        refine ⟨⟨[0, 1, 5, 6, 7, 10], fun n' vs g => ∃ (q b' : Nat), n' = (n - nxt l) - q ∧ q ≤ n - nxt l ∧ Sep h.length h g [.rw OI.fr 22 h.length (.slice (some ⟨b', 0, none⟩) (m + q) 1) (m + q) (((chS n j).take i).flatMap (ext1 n) ++ (List.range q).map fun j => l ++ [((nxt l + j : Nat) : Int)]), .rw OI.fr 22 h.length (.slice (some ⟨b, 0, none⟩) (chS n j).length 1) (chS n j).length (chS n j)] ∧
          vs = [.int .i64 n, .int .i64 ((k : Int) - j), .slice (some ⟨b, 0, none⟩) (chS n j).length 1, .slice (some ⟨b', 0, none⟩) (m + q) 1, .int .i64 i, .int .i64 ((nxt l + q : Nat) : Int)], _, ⟨0, b2, rfl, Nat.zero_le _, by simpa using S, by rw [hx0]; rfl⟩, ?_⟩⟩
        rintro n' vs g ⟨q, b2, rfl, hq, S, rfl⟩
        refine BIf.mk (fun h4 => ?_) (fun h4 => ?_)
        · have h4 : nxt l + q < n := by simp at h4; omega
          refine IdxX.mk (by omega) (by omega) ?_
          refine ((S.rdw OI.reads 1 rfl (by omega)).cells1 rfl).rowY (Le.refl _) hlt fun b4 o4 h5 => ?_
          rw [hl] at h5 ⊢
          refine S.madeR (l01OwnR_c _ _ l h5 (by omega)) fun A c g L S => ?_
          refine S.new fun b5 g S => ?_
          refine S.app (ie := Tt.ti2) 0 rfl rfl rfl (by omega) fun b6 g S => ?_
          have S := S.recastR 0 (cells' := (l ++ [((nxt l + q : Nat) : Int)]).map (.int .i64)) rfl (by rw [List.map_append]; rfl)
          have S := S.rc_tr 0 rfl (by simp; omega)
          refine S.new fun b7 g S => ?_
          refine S.appT 0 rfl rfl (by omega) fun b8 g S => ?_
          refine WR.i64 ?_
          refine ⟨n - nxt l - (q + 1), by omega, q + 1, b8, rfl, by omega, ?_, rfl⟩
          rw [List.range_succ, List.map_append, ← List.append_assoc]
          exact S
        have hq2 : q = n - nxt l := by simp at h4; omega
        subst hq2
        refine WR.i64 ?_
        refine ⟨(chS n j).length - (i + 1), by omega, i + 1, m + (n - nxt l), b2, rfl, hlt, ?_, ?_, rfl⟩
        · rw [flatMap_take hlt, hl]; exact S
        · rw [flatMap_take hlt, List.length_append, ← hm, hl, ext1_len]
    have hi2 : i = (chS n j).length := by simp at h3; omega
    subst hi2
    rw [List.take_length] at S hm
    have hst : chS n (j + 1) = (chS n j).flatMap (ext1 n) := rfl
    rw [← hst] at S hm
    refine WR.as (r := (k : Int) - ((j + 1 : Nat) : Int)) (by omega) ?_
    exact ⟨k - (j + 1), by omega, j + 1, b2, rfl, h2, by rw [hm]; exact S.drop 1, by rw [hm]; rfl⟩
  have Sx := S
  have hj2 : k = j := by simp at h2; omega
  rw [hj2]
  exact (Sx.rw_tr 0 rfl (Nat.le_trans hlj (by decide))).fin 0 rfl

end Go.Gl

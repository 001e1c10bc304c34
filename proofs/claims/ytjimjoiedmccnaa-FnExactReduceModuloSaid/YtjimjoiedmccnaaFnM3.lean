/- Chapter 7: ReduceModulo, the reference's side. No condition. -/
import Derived.Test.YtjimjoiedmccnaaFnM2
import Derived.Test.YtjimjoiedmccnaaFnL7
set_option linter.unusedVariables false
set_option linter.unusedSimpArgs false
namespace Go.Gl
open Go.Proofs Go.Proofs.Ytjimjoiedmccnaa Go.Pl


theorem l01Rows_c (h : AH) (v : Value) (xs : List (List Int)) (hx : RII h v xs) (hl : xs.length ≤ 1000) (hw1 : ∀ i, i < xs.length → (row xs i).length ≤ 1000) : ACalls Try.prog 115 [v] h (Made OII h xs) := by
  obtain ⟨_, b1, o1, k1, c1⟩ := hx
  refine ACalls.madeN (ACalls.wk (args' := [.slice (some ⟨b1, o1, none⟩) xs.length 0]) ?_ (.cons k1 .nil))
  refine ACalls.of Tt.tab Try.func115 rfl (by kernel_rfl) Try.ntmps115 _ rfl rfl (fun hw => ?_)
  have S := Sep.start h
  refine S.new fun b g S => ?_
  have S := S.bx_rw 0 OI.fr rfl
  refine ⟨⟨[0, 2, 3, 4], fun n' vs g => ∃ (i b : Nat), n' = xs.length - i ∧ i ≤ xs.length ∧ Sep h.length h g [.rw OI.fr 42 h.length (.slice (some ⟨b, 0, none⟩) i 1) i (tabR i (row xs))] ∧
    vs = [.slice (some ⟨b1, o1, none⟩) xs.length 0, .slice none 0 0, .slice (some ⟨b, 0, none⟩) i 1, .int .i64 i], _, ⟨0, b, rfl, Nat.zero_le _, S, rfl⟩, ?_⟩⟩
  rintro n' vs g ⟨i, b, rfl, hi, S, rfl⟩
  refine BIf.mk (fun h2 => ?_) (fun h2 => ?_)
  · have hlt : i < xs.length := by simpa using h2
    have hwi := hw1 i hlt
    refine IdxX.mk (by omega) (by omega) ?_
    refine c1.rowY S.le hlt fun b2 o2 h3 => ?_
    refine S.made OI.fr (l01Own_c _ _ (row xs i) (RI.le _ _ _ _ S.le h3) (by omega)) fun b4 o4 g S => ?_
    refine S.new fun b5 g S => ?_
    refine S.appT 0 rfl rfl (by omega) fun b6 g S => ?_
    refine WR.i64 ?_
    exact ⟨xs.length - (i + 1), by omega, i + 1, b6, rfl, hlt, by rw [tabR_succ]; exact S, rfl⟩
  · have hi2 : i = xs.length := by simp at h2; omega
    subst hi2
    rw [← tabR_eq] at S
    exact (S.rw_tr 0 rfl (by omega)).fin 0 rfl

/-- a table, its first rows reduced -/
def rdM (p : Int) (M : List (List Int)) (i : Nat) : List (List Int) := tabR M.length fun b => if b < i then tab (row M b).length fun c => ith (row M b) c % p else row M b
theorem rdM_zero (p : Int) (M : List (List Int)) : rdM p M 0 = M := by
  refine Eq.trans (tabR_congr fun b _ => if_neg (by omega)) tabR_eq.symm
theorem rdM_next (p : Int) (M : List (List Int)) {i : Nat} (hi : i < M.length) : (rdM p M i).set i (tab (row M i).length fun c => ith (row M i) c % p) = rdM p M (i + 1) := by
  unfold rdM
  rw [tabR_set]
  refine tabR_congr fun b _ => ?_
  by_cases h : b = i
  · subst h; rw [if_pos rfl, if_pos (by omega)]
  · rw [if_neg h]
    by_cases h2 : b < i
    · rw [if_pos h2, if_pos (by omega)]
    · rw [if_neg h2, if_neg (by omega)]
theorem rdM_row (p : Int) (M : List (List Int)) {i : Nat} (hi : i < M.length) : row (rdM p M i) i = row M i := by
  unfold rdM
  rw [tabR_row hi, if_neg (by omega)]
theorem rdM_length (p : Int) (M : List (List Int)) (i : Nat) : (rdM p M i).length = M.length := tabR_length _ _
def redK (x : SWhole) (p : Int) (n : Nat) : List (List (List Int)) := tab3 n (rmR x) (rmW x) fun a b c => ent (mat x.maps a) b c % p
theorem redK_next {x : SWhole} (hx : wholeOk x = true) (p : Int) {k : Nat} (hk : k < x.maps.length) : redK x p k ++ [rdM p (mat x.maps k) (mat x.maps k).length] = redK x p (k + 1) := by
  obtain ⟨wh, ws⟩ := wholeOk_mk hx
  have wk := ws k hk
  unfold redK
  rw [tab3_succ]
  congr 2
  unfold rdM
  have er : rmR x k = (mat x.maps k).length := by unfold rmR; omega
  rw [er]
  refine tabR_congr fun b hb => ?_
  rw [if_pos hb]
  have := (wmat_row wk.2 hb).1
  have ew : rmW x k = (row (mat x.maps k) b).length := by unfold rmW; omega
  rw [ew]
  rfl

theorem redMS_c (h : AH) (v : Value) (x : SWhole) (hx : RWhole h v x) (p : Int) : ACalls Try.prog 49 [v, .int .i64 p] h (fun r h' => ∃ v l, r = .tuple #[v, .int .i64 (redM x p).2] ∧ OComplex h.length h' v (redM x p).1 l ∧ Le h h') := by
  obtain ⟨b1, o1, b2, o2, kx, qx⟩ := hx.can
  refine ACalls.wk (args' := [.agg #[.slice (some ⟨b1, o1, none⟩) x.dims.length 0, .slice (some ⟨b2, o2, none⟩) x.maps.length 0], .int .i64 p]) ?_ (.cons kx (.cons (Wk.refl _) .nil))
  refine ACalls.of Tt.tab Try.func49 rfl (by kernel_rfl) Try.ntmps49 _ rfl rfl (fun hw => ?_)
  have S := Sep.start h
  have c1 := RS.cells qx.1 rfl
  have c2 := RS.cells qx.2 rfl
  refine S.new fun b3 g S => ?_
  refine S.new fun b4 g S => ?_
  refine LoadX.same (v := .agg #[.slice (some ⟨b1, o1, none⟩) x.dims.length 0, .slice (some ⟨b2, o2, none⟩) x.maps.length 0]) (S.at_ 1 rfl) rfl ?_
  refine CallX.same (l07Code_c _ _ x p ⟨_, _, rfl, qx.le S.le⟩) ?_
  rintro r g' ⟨rfl, rfl⟩
  unfold redM
  cases e1 : wholeOk x with
  | false =>
    refine BIf.yes rfl ?_
    refine S.put 0 rfl fun g S => ?_
    refine LoadX.same (v := .agg #[.int .i64 0, .slice none 0 0, .slice none 0 0]) (S.at_ 0 rfl) rfl ?_
    exact FinX.here S.le.len ⟨_, [], rfl, OComplex.zero _ _, S.le⟩
  | true =>
  cases e2 : prime p with
  | false =>
    refine BIf.yes rfl ?_
    refine S.put 0 rfl fun g S => ?_
    refine LoadX.same (v := .agg #[.int .i64 0, .slice none 0 0, .slice none 0 0]) (S.at_ 0 rfl) rfl ?_
    exact FinX.here S.le.len ⟨_, [], rfl, OComplex.zero _ _, S.le⟩
  | true =>
  refine BIf.no rfl ?_
  have hp := prime_rng e2
  obtain ⟨wh, ws⟩ := wholeOk_mk e1
  have hlo := wh.lo
  have hhi := wh.hi
  have hlen := wh.len
  refine LoadX.same (v := .slice (some ⟨b1, o1, none⟩) x.dims.length 0) (S.at_ 1 rfl) rfl ?_
  refine S.made OI.fr (l01Own_c _ _ x.dims (RI.le _ _ _ _ S.le qx.1) (by omega)) fun b5 o5 g S => ?_
  refine S.new fun b6 g S => ?_
  have S := S.bx_rw 0 OII.fr rfl
  refine S.new fun b7 g S => ?_
  refine S.put 0 rfl fun g S => ?_
  refine ⟨⟨[1, 2, 4, 5, 7, 8], fun n' vs g => ∃ (k b6 : Nat), n' = x.maps.length - k ∧ k ≤ x.maps.length ∧ Sep h.length h g [.bx b7 67 3 [.int .i64 p, .slice (some ⟨b5, o5, none⟩) x.dims.length 0, .slice (some ⟨b6, 0, none⟩) k 1], .rw OII.fr 22 h.length (.slice (some ⟨b6, 0, none⟩) k 1) k (redK x p k), .tr OI.fr h.length (.slice (some ⟨b5, o5, none⟩) x.dims.length 0) x.dims, .bx b4 67 3 [.int .i64 0, .slice none 0 0, .slice none 0 0], .bx b3 47 2 [.slice (some ⟨b1, o1, none⟩) x.dims.length 0, .slice (some ⟨b2, o2, none⟩) x.maps.length 0]] ∧
    vs = [.int .i64 p, .pointer (some ⟨b3, 0, none⟩), .pointer (some ⟨b4, 0, none⟩), .int .i64 0, .pointer (some ⟨b7, 0, none⟩), .int .i64 k], _, ⟨0, b6, rfl, Nat.zero_le _, S, rfl⟩, ?_⟩⟩
  rintro n' vs g ⟨k, b6, rfl, hk, S, rfl⟩
  refine LoadX.same (v := .slice (some ⟨b2, o2, none⟩) x.maps.length 0) (S.at_ 4 rfl) rfl ?_
  refine BIf.mk (fun h2 => ?_) (fun h2 => ?_)
  · have hlt : k < x.maps.length := by simpa using h2
    have wk := ws k hlt
    have dk := wh.dims k
    have dk1 := wh.dims (k + 1)
    refine LoadX.same (v := .slice (some ⟨b2, o2, none⟩) x.maps.length 0) (S.at_ 4 rfl) rfl ?_
    refine IdxX.mk (by omega) (by omega) ?_
    refine c2.mat S.le hlt fun b8 o8 h8 => ?_
    have hrl : ∀ i, i < (mat x.maps k).length → (row (mat x.maps k) i).length ≤ 1000 := fun i hi => by have := (wmat_row wk.2 hi).1; omega
    have hre := wmat_ent wk.2
    refine S.made OII.fr (l01Rows_c _ _ (mat x.maps k) (RII.le _ _ _ _ S.le h8) (by omega) hrl) fun b9 o9 g S => ?_
    have hml : (mat x.maps k).length ≤ 6 := by omega
    have hnx := redK_next e1 p hlt
    generalize mat x.maps k = Mx at S hrl hre hml hnx ⊢
    have S := S.retell 0 rfl (rdM_zero p Mx).symm
    refine ⟨⟨[1, 2, 4, 5, 7, 8, 9, 10], fun n' vs g => ∃ (i : Nat), n' = Mx.length - i ∧ i ≤ Mx.length ∧ Sep h.length h g [.tr OII.fr h.length (.slice (some ⟨b9, o9, none⟩) Mx.length 0) (rdM p Mx i), .bx b7 67 3 [.int .i64 p, .slice (some ⟨b5, o5, none⟩) x.dims.length 0, .slice (some ⟨b6, 0, none⟩) k 1], .rw OII.fr 22 h.length (.slice (some ⟨b6, 0, none⟩) k 1) k (redK x p k), .tr OI.fr h.length (.slice (some ⟨b5, o5, none⟩) x.dims.length 0) x.dims, .bx b4 67 3 [.int .i64 0, .slice none 0 0, .slice none 0 0], .bx b3 47 2 [.slice (some ⟨b1, o1, none⟩) x.dims.length 0, .slice (some ⟨b2, o2, none⟩) x.maps.length 0]] ∧
      vs = [.int .i64 p, .pointer (some ⟨b3, 0, none⟩), .pointer (some ⟨b4, 0, none⟩), .int .i64 0, .pointer (some ⟨b7, 0, none⟩), .int .i64 k, .slice (some ⟨b9, o9, none⟩) Mx.length 0, .int .i64 i], _, ⟨0, rfl, Nat.zero_le _, S, rfl⟩, ?_⟩⟩
    rintro n' vs g ⟨i, rfl, hi, S, rfl⟩
    refine BIf.mk (fun h3 => ?_) (fun h3 => ?_)
    · have h3 : i < Mx.length := by simpa using h3
      have hri := hrl i h3
      have hnr := rdM_next p Mx h3
      have hrw := rdM_row p Mx h3
      refine IdxX.mk (by omega) (by omega) ?_
      rcases Nat.eq_zero_or_pos (row Mx i).length with hz | hz
      · have c9 : CS RI g b9 o9 (rdM p Mx i) := (show RII g _ _ from S.rd OII.reads 0 rfl).cells (rdM_length _ _ _).symm
        have hlen' := rdM_length p Mx i
        refine c9.row (Le.refl _) (show i < (rdM p Mx i).length by omega) fun b10 o10 _ => ?_
        rw [hrw, hz]
        rw [hz] at hnr
        have en : rdM p Mx (i + 1) = rdM p Mx i := by
          unfold rdM
          refine tabR_congr fun b _ => ?_
          by_cases hb : b = i
          · subst hb
            rw [if_pos (by omega), if_neg (by omega), hz]
            exact (List.length_eq_zero_iff.1 hz).symm
          · by_cases hb2 : b < i
            · rw [if_pos hb2, if_pos (by omega)]
            · rw [if_neg hb2, if_neg (by omega)]
        refine ⟨⟨[1, 2, 4, 5, 7, 8, 9, 10, 11, 12], fun n' vs g2 => n' = 0 ∧ g2 = g ∧
          vs = [.int .i64 p, .pointer (some ⟨b3, 0, none⟩), .pointer (some ⟨b4, 0, none⟩), .int .i64 0, .pointer (some ⟨b7, 0, none⟩), .int .i64 k, .slice (some ⟨b9, o9, none⟩) Mx.length 0, .int .i64 i, .slice (some ⟨b10, o10, none⟩) 0 0, .int .i64 0], _, ⟨rfl, rfl, rfl⟩, ?_⟩⟩
        rintro n' vs g2 ⟨rfl, rfl, rfl⟩
        refine BIf.no rfl ?_
        refine WR.i64 ?_
        exact ⟨Mx.length - (i + 1), by omega, i + 1, rfl, h3, by rw [en]; exact S, rfl⟩
      · obtain ⟨b10, o10, z1, F, hF, hle, z2⟩ := S.lendRow 0 rfl (rdM_length _ _ _) (k := i) (by rw [rdM_length]; exact h3) (by rw [hrw]; exact hz)
        rw [hrw] at z1 z2 hF
        refine z1 _ _ rfl ?_
        have U := SepM.lent OI.fr hF
        have U := U.retell 0 (x' := tab (row Mx i).length fun c => if c < 0 then ith (row Mx i) c % p else ith (row Mx i) c) rfl (tab_eq.trans (tab_congr fun c _ => (if_neg (by omega)).symm))
        refine ⟨⟨[1, 2, 4, 5, 7, 8, 9, 10, 11, 12], fun n' vs g2 => ∃ t : Nat, n' = (row Mx i).length - t ∧ t ≤ (row Mx i).length ∧ SepM F 0 (hide F g) g2 [.tr OI.fr h.length (.slice (some ⟨b10, o10, none⟩) (row Mx i).length 0) (tab (row Mx i).length fun c => if c < t then ith (row Mx i) c % p else ith (row Mx i) c)] ∧
          vs = [.int .i64 p, .pointer (some ⟨b3, 0, none⟩), .pointer (some ⟨b4, 0, none⟩), .int .i64 0, .pointer (some ⟨b7, 0, none⟩), .int .i64 k, .slice (some ⟨b9, o9, none⟩) Mx.length 0, .int .i64 i, .slice (some ⟨b10, o10, none⟩) (row Mx i).length 0, .int .i64 t], _, ⟨0, rfl, Nat.zero_le _, U, rfl⟩, ?_⟩⟩
        rintro n' vs g2 ⟨t, rfl, ht, U, rfl⟩
        refine BIf.mk (fun h4 => ?_) (fun h4 => ?_)
        · have h4 : t < (row Mx i).length := by simpa using h4
          have ce : CS EI g2 b10 o10 (tab (row Mx i).length fun c => if c < t then ith (row Mx i) c % p else ith (row Mx i) c) := (show RI g2 _ _ from U.rd OI.reads 0 rfl).cells (tab_length _ _).symm
          have he := hre i t
          unfold ent at he
          refine IdxX.mk (by omega) (by omega) ?_
          refine ce.ith (Le.refl _) (show t < (tab (row Mx i).length _).length by rw [tab_length]; exact h4) ?_
          rw [show ith (tab (row Mx i).length fun c => if c < t then ith (row Mx i) c % p else ith (row Mx i) c) t = ith (row Mx i) t by rw [tab_ith h4, if_neg (Nat.lt_irrefl t)]]
          refine CallX.same (l01Mod_c _ p (ith (row Mx i) t) hp (by omega)) ?_
          rintro r' g' ⟨rfl, rfl⟩
          refine IdxX.mk (by omega) (by omega) ?_
          refine U.storeL 0 (k := t) rfl (tab_length _ _) h4 fun g3 U => ?_
          have U := U.retell 0 (x' := tab (row Mx i).length fun c => if c < t + 1 then ith (row Mx i) c % p else ith (row Mx i) c) rfl (by rw [tab_set]; exact tab_step rfl)
          refine WR.i64 ?_
          exact ⟨(row Mx i).length - (t + 1), by omega, t + 1, rfl, h4, U, rfl⟩
        · have ht2 : t = (row Mx i).length := by simp at h4; omega
          have U := U.retell 0 (x' := tab (row Mx i).length fun c => ith (row Mx i) c % p) rfl (tab_congr fun c hc => if_pos (by omega))
          have T := z2 g2 _ (tab_length _ _) (U.updated 0 rfl)
          rw [hnr] at T
          refine WR.i64 ?_
          exact ⟨Mx.length - (i + 1), by omega, i + 1, rfl, h3, T, rfl⟩
    · have hi2 : i = Mx.length := by simp at h3; omega
      subst hi2
      refine LoadX.same (v := .slice (some ⟨b6, 0, none⟩) k 1) (S.at_ 1 rfl) rfl ?_
      refine S.new fun b10 g S => ?_
      refine S.appT 1 rfl rfl (by omega) fun b11 g S => ?_
      refine S.put 0 rfl fun g S => ?_
      refine WR.i64 ?_
      exact ⟨x.maps.length - (k + 1), by omega, k + 1, b11, rfl, hlt, by rw [← hnx]; exact S, rfl⟩
  · have hk2 : k = x.maps.length := by simp at h2; omega
    subst hk2
    refine LoadX.same (v := .agg #[.int .i64 p, .slice (some ⟨b5, o5, none⟩) x.dims.length 0, .slice (some ⟨b6, 0, none⟩) x.maps.length 1]) (S.at_ 0 rfl) rfl ?_
    have S := S.rw_tr 1 rfl (by omega)
    refine S.put 3 rfl fun g S => ?_
    refine LoadX.same (v := .agg #[.int .i64 p, .slice (some ⟨b5, o5, none⟩) x.dims.length 0, .slice (some ⟨b6, 0, none⟩) x.maps.length 1]) (S.at_ 3 rfl) rfl ?_
    have S := (S.tail).front 1 rfl
    exact SepM.finComplex (ti := tI) (x := ⟨p, x.dims, redMaps x p⟩) S

end Go.Gl

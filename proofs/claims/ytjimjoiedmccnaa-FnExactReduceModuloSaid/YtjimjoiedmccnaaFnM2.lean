/- Chapter 7: ReduceModulo, the program's side. No condition. -/
import Derived.Test.YtjimjoiedmccnaaFnM1
import Derived.Test.YtjimjoiedmccnaaFnW3
import Derived.Test.YtjimjoiedmccnaaFn6b
import Derived.Test.YtjimjoiedmccnaaFnF1
set_option linter.unusedVariables false
set_option linter.unusedSimpArgs false
namespace Go.Gl
open Go.Proofs Go.Proofs.Ytjimjoiedmccnaa Go.Pl

def rmR (x : SWhole) (a : Nat) : Nat := (ith x.dims (a + 1)).toNat
def rmW (x : SWhole) (a : Nat) : Nat := (ith x.dims a).toNat
/-- the maps, reduced up to a place -/
def rmS (x : SWhole) (p : Int) (k i t : Nat) : List (List (List Int)) := tab3 x.maps.length (rmR x) (rmW x) fun a b c => if a < k ∨ a = k ∧ (b < i ∨ b = i ∧ c < t) then ent (mat x.maps a) b c % p else 0
def redMaps (x : SWhole) (p : Int) : List (List (List Int)) := tab3 x.maps.length (rmR x) (rmW x) fun a b c => ent (mat x.maps a) b c % p
def redM (x : SWhole) (p : Int) : SComplex × Int := if wholeOk x then if prime p then (⟨p, x.dims, redMaps x p⟩, 0) else (noComplex, 2) else (noComplex, 1)
theorem rmS_zero (x : SWhole) (p : Int) : zeroMaps x.dims x.maps.length = rmS x p 0 0 0 := tab3_congr fun a b c _ _ _ => by rw [if_neg (by omega)]
theorem rmS_end (x : SWhole) (p : Int) : rmS x p x.maps.length 0 0 = redMaps x p := tab3_congr fun a b c ha _ _ => by rw [if_pos (.inl ha)]
theorem rmS_mat (x : SWhole) (p : Int) {k i : Nat} (h : rmR x k ≤ i) : rmS x p k i 0 = rmS x p (k + 1) 0 0 := tab3_congr fun a b c _ hb _ => by
  by_cases h2 : a = k
  · subst h2
    rw [if_pos (.inr ⟨rfl, .inl (by omega)⟩), if_pos (.inl (by omega))]
  · by_cases h1 : a < k
    · rw [if_pos (.inl h1), if_pos (.inl (by omega))]
    · rw [if_neg (by omega), if_neg (by omega)]
theorem rmS_row (x : SWhole) (p : Int) {k i t : Nat} (h : rmW x k ≤ t) : rmS x p k i t = rmS x p k (i + 1) 0 := tab3_congr fun a b c _ _ hc => by
  by_cases h1 : a < k
  · rw [if_pos (.inl h1), if_pos (.inl h1)]
  by_cases h2 : a = k
  · subst h2
    by_cases h3 : b < i + 1
    · rw [if_pos (.inr ⟨rfl, by omega⟩), if_pos (.inr ⟨rfl, .inl h3⟩)]
    · rw [if_neg (by omega), if_neg (by omega)]
  · rw [if_neg (by omega), if_neg (by omega)]
theorem rmS_ent (x : SWhole) (p : Int) {k i t : Nat} (hk : k < x.maps.length) (hi : i < rmR x k) (ht : t < rmW x k) : ent (mat (rmS x p k i t) k) i t = 0 := by
  unfold rmS ent
  rw [tab3_mat hk, tabR_row hi, tab_ith ht, if_neg (by omega)]
theorem rmS_next (x : SWhole) (p : Int) {k i t : Nat} (hk : k < x.maps.length) (hi : i < rmR x k) (ht : t < rmW x k) : addAt p (rmS x p k i t) k i t (ent (mat x.maps k) i t) = rmS x p k i (t + 1) := by
  unfold addAt
  rw [rmS_ent x p hk hi ht, Int.zero_add]
  unfold rmS
  rw [tab3_set hk hi]
  refine tab3_congr fun a b c _ _ _ => ?_
  by_cases h1 : a = k ∧ b = i ∧ c = t
  · obtain ⟨rfl, rfl, rfl⟩ := h1
    rw [if_pos ⟨rfl, rfl, rfl⟩, if_pos (.inr ⟨rfl, .inr ⟨rfl, by omega⟩⟩)]
  · rw [if_neg h1]
    by_cases h2 : a < k ∨ a = k ∧ (b < i ∨ b = i ∧ c < t)
    · rw [if_pos h2, if_pos (by omega)]
    · rw [if_neg h2, if_neg (by omega)]
theorem rmS_length (x : SWhole) (p : Int) (k i t : Nat) : (rmS x p k i t).length = x.maps.length := tab3_length _ _ _ _
theorem SepM.finComplex {h0 h : AH} {Rs : List Res} {ti : TypeId} {v1 v2 : Value} {x : SComplex} {c : Int} (S : Sep h0.length h0 h (.tr (Leaf.fr tI) h0.length v1 x.dims :: .tr OIII.fr h0.length v2 x.maps :: Rs)) :
    FinX h0 (fun r h' => ∃ v l, r = .tuple #[v, .int .i64 c] ∧ OComplex h0.length h' v x l ∧ Le h0 h') (.tuple #[.agg #[.int .i64 x.prime, v1, v2], .int .i64 c]) h := by
  obtain ⟨l1, l2, a1, a2, hd⟩ := S.two
  exact FinX.here S.le.len ⟨_, _, rfl, ⟨_, _, rfl, _, _, a1, a2, rfl, hd⟩, S.le⟩
theorem redM_cn (x : SWhole) (p : Int) : cnComplex (redM x p).1 ≤ 1000 := by
  unfold redM
  split
  · rename_i h
    split
    · obtain ⟨h1, h2⟩ := wholeOk_mk h
      have hh := h1.hi
      have hl := h1.len
      show cnI x.dims + cnIII (redMaps x p) ≤ 1000
      have e2 : cnIII (redMaps x p) ≤ x.maps.length * 36 := cnIII_range fun i hi => by
        have f2 := h1.dims (i + 1)
        have f3 := h1.dims i
        refine Nat.le_trans (cnII_tabM (m := 6) fun k hk => by rw [tab_length]; unfold rmW; omega) ?_
        calc rmR x i * 6 ≤ 6 * 6 := Nat.mul_le_mul_right _ (by unfold rmR; omega)
          _ = 36 := rfl
      have e1 : cnI x.dims = x.dims.length := rfl
      omega
    · decide
  · decide

theorem redMI_c (h : AH) (v : Value) (x : SWhole) (hx : RWhole h v x) (p : Int) : ACalls Try.prog 50 [v, .int .i64 p] h (fun r h' => ∃ v l, r = .tuple #[v, .int .i64 (redM x p).2] ∧ OComplex h.length h' v (redM x p).1 l ∧ Le h h') := by
  obtain ⟨b1, o1, b2, o2, kx, qx⟩ := hx.can
  refine ACalls.wk (args' := [.agg #[.slice (some ⟨b1, o1, none⟩) x.dims.length 0, .slice (some ⟨b2, o2, none⟩) x.maps.length 0], .int .i64 p]) ?_ (.cons kx (.cons (Wk.refl _) .nil))
  refine ACalls.of Tt.tab Try.func50 rfl (by kernel_rfl) Try.ntmps50 _ rfl rfl (fun hw => ?_)
  have S := Sep.start h
  have c1 := RS.cells qx.1 rfl
  have c2 := RS.cells qx.2 rfl
  refine S.new fun b3 g S => ?_
  refine S.new fun b4 g S => ?_
  refine LoadX.same (v := .agg #[.slice (some ⟨b1, o1, none⟩) x.dims.length 0, .slice (some ⟨b2, o2, none⟩) x.maps.length 0]) (S.at_ 1 rfl) rfl ?_
  refine CallX.same (isWholeI_c _ _ x ⟨_, _, rfl, qx.le S.le⟩) ?_
  rintro r g' ⟨rfl, rfl⟩
  unfold redM
  refine BIf.mk (fun e1 => ?_) (fun e1 => ?_)
  · have e1 : wholeOk x = false := by simpa using e1
    rw [e1]
    refine S.put 0 rfl fun g S => ?_
    refine LoadX.same (v := .agg #[.int .i64 0, .slice none 0 0, .slice none 0 0]) (S.at_ 0 rfl) rfl ?_
    exact FinX.here S.le.len ⟨_, [], rfl, OComplex.zero _ _, S.le⟩
  have e1 : wholeOk x = true := by simpa using e1
  rw [if_pos e1]
  refine CallX.same (isPrime_c _ p) ?_
  rintro r g' ⟨rfl, rfl⟩
  refine BIf.mk (fun e2 => ?_) (fun e2 => ?_)
  · have e2 : prime p = false := by simpa using e2
    rw [e2]
    refine S.put 0 rfl fun g S => ?_
    refine LoadX.same (v := .agg #[.int .i64 0, .slice none 0 0, .slice none 0 0]) (S.at_ 0 rfl) rfl ?_
    exact FinX.here S.le.len ⟨_, [], rfl, OComplex.zero _ _, S.le⟩
  have e2 : prime p = true := by simpa using e2
  rw [if_pos e2]
  have hp := prime_rng e2
  obtain ⟨wh, ws⟩ := wholeOk_mk e1
  have hlo := wh.lo
  have hhi := wh.hi
  have hlen := wh.len
  refine LoadX.same (v := .slice (some ⟨b1, o1, none⟩) x.dims.length 0) (S.at_ 1 rfl) rfl ?_
  refine S.made OI.fr (ACalls.madeI (cloneI_c _ _ x.dims (RI.le _ _ _ _ S.le qx.1) (by omega))) fun b5 o5 g S => ?_
  refine CallX.same (blankN_c g p b5 o5 x.dims (S.rd OI.reads 0 rfl) (fun i => by have := wh.dims i; omega) (by omega) (by omega)) ?_
  rintro r g' ⟨b6, o6, l6, rfl, ot, L⟩
  have S := S.tree OIII.fr ot L
  have eN : x.dims.length - 1 = x.maps.length := by omega
  rw [eN, rmS_zero x p, rmS_length] at S ⊢
  clear ot
  refine S.new fun b7 g S => ?_
  refine S.put 0 rfl fun g S => ?_
  refine LoadX.same (v := .slice (some ⟨b2, o2, none⟩) x.maps.length 0) (S.at_ 4 rfl) rfl ?_
  refine ⟨⟨[4, 5, 6, 29, 30, 31], fun n' vs g => ∃ k : Nat, n' = x.maps.length - k ∧ k ≤ x.maps.length ∧ Sep h.length h g [.bx b7 67 3 [.int .i64 p, .slice (some ⟨b5, o5, none⟩) x.dims.length 0, .slice (some ⟨b6, o6, none⟩) x.maps.length 0], .tr OIII.fr h.length (.slice (some ⟨b6, o6, none⟩) x.maps.length 0) (rmS x p k 0 0), .tr OI.fr h.length (.slice (some ⟨b5, o5, none⟩) x.dims.length 0) x.dims, .bx b4 67 3 [.int .i64 0, .slice none 0 0, .slice none 0 0], .bx b3 47 2 [.slice (some ⟨b1, o1, none⟩) x.dims.length 0, .slice (some ⟨b2, o2, none⟩) x.maps.length 0]] ∧
    vs = [.pointer (some ⟨b4, 0, none⟩), .int .i64 0, .pointer (some ⟨b7, 0, none⟩), .slice (some ⟨b2, o2, none⟩) x.maps.length 0, .int .i64 x.maps.length, .int .i64 k], _, ⟨0, rfl, Nat.zero_le _, S, rfl⟩, ?_⟩⟩
  rintro n' vs g ⟨k, rfl, hk, S, rfl⟩
  refine BIf.mk (fun h2 => ?_) (fun h2 => ?_)
  · have hlt : k < x.maps.length := by simpa using h2
    have wk := ws k hlt
    have dk := wh.dims k
    have dk1 := wh.dims (k + 1)
    have er : rmR x k = (mat x.maps k).length := by unfold rmR; omega
    refine IdxX.mk (by omega) (by omega) ?_
    refine c2.mat S.le hlt fun b8 o8 h8 => ?_
    have c8 := h8.cells rfl
    refine ⟨⟨[4, 5, 6, 7, 29, 30, 31, 36, 37, 38], fun n' vs g => ∃ i : Nat, n' = (mat x.maps k).length - i ∧ i ≤ (mat x.maps k).length ∧ Sep h.length h g [.bx b7 67 3 [.int .i64 p, .slice (some ⟨b5, o5, none⟩) x.dims.length 0, .slice (some ⟨b6, o6, none⟩) x.maps.length 0], .tr OIII.fr h.length (.slice (some ⟨b6, o6, none⟩) x.maps.length 0) (rmS x p k i 0), .tr OI.fr h.length (.slice (some ⟨b5, o5, none⟩) x.dims.length 0) x.dims, .bx b4 67 3 [.int .i64 0, .slice none 0 0, .slice none 0 0], .bx b3 47 2 [.slice (some ⟨b1, o1, none⟩) x.dims.length 0, .slice (some ⟨b2, o2, none⟩) x.maps.length 0]] ∧
      vs = [.pointer (some ⟨b4, 0, none⟩), .int .i64 0, .pointer (some ⟨b7, 0, none⟩), .int .i64 k, .slice (some ⟨b2, o2, none⟩) x.maps.length 0, .int .i64 x.maps.length, .int .i64 k, .slice (some ⟨b8, o8, none⟩) (mat x.maps k).length 0, .int .i64 (mat x.maps k).length, .int .i64 i], _, ⟨0, rfl, Nat.zero_le _, S, rfl⟩, ?_⟩⟩
    rintro n' vs g ⟨i, rfl, hi, S, rfl⟩
    refine BIf.mk (fun h3 => ?_) (fun h3 => ?_)
    · have h3 : i < (mat x.maps k).length := by simpa using h3
      obtain ⟨r1, r2⟩ := wmat_row wk.2 h3
      have ew : rmW x k = (row (mat x.maps k) i).length := by unfold rmW; omega
      refine IdxX.mk (by omega) (by omega) ?_
      refine c8.row S.le h3 fun b9 o9 c9 => ?_
      refine ⟨⟨[4, 5, 6, 7, 9, 29, 30, 31, 36, 37, 38, 43, 44, 45], fun n' vs g => ∃ t : Nat, n' = (row (mat x.maps k) i).length - t ∧ t ≤ (row (mat x.maps k) i).length ∧ Sep h.length h g [.bx b7 67 3 [.int .i64 p, .slice (some ⟨b5, o5, none⟩) x.dims.length 0, .slice (some ⟨b6, o6, none⟩) x.maps.length 0], .tr OIII.fr h.length (.slice (some ⟨b6, o6, none⟩) x.maps.length 0) (rmS x p k i t), .tr OI.fr h.length (.slice (some ⟨b5, o5, none⟩) x.dims.length 0) x.dims, .bx b4 67 3 [.int .i64 0, .slice none 0 0, .slice none 0 0], .bx b3 47 2 [.slice (some ⟨b1, o1, none⟩) x.dims.length 0, .slice (some ⟨b2, o2, none⟩) x.maps.length 0]] ∧
        vs = [.pointer (some ⟨b4, 0, none⟩), .int .i64 0, .pointer (some ⟨b7, 0, none⟩), .int .i64 k, .int .i64 i, .slice (some ⟨b2, o2, none⟩) x.maps.length 0, .int .i64 x.maps.length, .int .i64 k, .slice (some ⟨b8, o8, none⟩) (mat x.maps k).length 0, .int .i64 (mat x.maps k).length, .int .i64 i, .slice (some ⟨b9, o9, none⟩) (row (mat x.maps k) i).length 0, .int .i64 (row (mat x.maps k) i).length, .int .i64 t], _, ⟨0, rfl, Nat.zero_le _, S, rfl⟩, ?_⟩⟩
      rintro n' vs g ⟨t, rfl, ht, S, rfl⟩
      refine BIf.mk (fun h4 => ?_) (fun h4 => ?_)
      · have h4 : t < (row (mat x.maps k) i).length := by simpa using h4
        have ve := r2 t
        have hk1 : k < x.maps.length := hlt
        have hi1 : i < rmR x k := by omega
        have ht1 : t < rmW x k := by omega
        have m1 : mat (rmS x p k i t) k = tabR (rmR x k) fun b => tab (rmW x k) fun c => if k < k ∨ k = k ∧ (b < i ∨ b = i ∧ c < t) then ent (mat x.maps k) b c % p else 0 := tab3_mat hk1
        refine IdxX.mk (by omega) (by omega) ?_
        refine c9.ith S.le h4 ?_
        refine LoadX.same (v := .agg #[.int .i64 p, .slice (some ⟨b5, o5, none⟩) x.dims.length 0, .slice (some ⟨b6, o6, none⟩) x.maps.length 0]) (S.at_ 0 rfl) rfl ?_
        refine WR.as (r := ((k + 1 : Nat) : Int)) (by omega) ?_
        refine S.lendT 1 (x' := rmS x p k i (t + 1)) rfl (fun F hF => ?_) fun g S => ?_
        · have := addAt_c g p b6 o6 h.length x.maps.length b5 o5 x.dims.length (rmS x p k i t) k i t (ent (mat x.maps k) i t) F hp (rmS_length _ _ _ _ _) hF (by rw [rmS_length]; exact hk1) (by rw [m1, tabR_length]; exact hi1) (by rw [m1, tabR_row hi1, tab_length]; exact ht1) (by rw [rmS_length]; omega) (by rw [rmS_ent x p hk1 hi1 ht1]; omega) (by unfold ent; omega)
          rw [rmS_next x p hk1 hi1 ht1] at this
          exact this
        refine WR.i64 ?_
        exact ⟨(row (mat x.maps k) i).length - (t + 1), by omega, t + 1, rfl, h4, S, rfl⟩
      · have ht2 : t = (row (mat x.maps k) i).length := by simp at h4; omega
        rw [rmS_row x p (show rmW x k ≤ t by omega)] at S
        refine WR.i64 ?_
        exact ⟨(mat x.maps k).length - (i + 1), by omega, i + 1, rfl, h3, S, rfl⟩
    · have hi2 : i = (mat x.maps k).length := by simp at h3; omega
      rw [rmS_mat x p (show rmR x k ≤ i by omega)] at S
      refine WR.i64 ?_
      exact ⟨x.maps.length - (k + 1), by omega, k + 1, rfl, hlt, S, rfl⟩
  · have hk2 : k = x.maps.length := by simp at h2; omega
    subst hk2
    rw [rmS_end] at S
    refine LoadX.same (v := .agg #[.int .i64 p, .slice (some ⟨b5, o5, none⟩) x.dims.length 0, .slice (some ⟨b6, o6, none⟩) x.maps.length 0]) (S.at_ 0 rfl) rfl ?_
    refine S.put 3 rfl fun g S => ?_
    refine LoadX.same (v := .agg #[.int .i64 p, .slice (some ⟨b5, o5, none⟩) x.dims.length 0, .slice (some ⟨b6, o6, none⟩) x.maps.length 0]) (S.at_ 3 rfl) rfl ?_
    have S := (S.tail).front 1 rfl
    exact SepM.finComplex (ti := tI) (x := ⟨p, x.dims, redMaps x p⟩) S

end Go.Gl

/- Chapter 5: CoupleDifferential. No condition. -/
import Derived.Test.YtmemennccmijaaaFnA2
import Derived.Test.YtmemennccmijaaaFn5a
set_option linter.unusedVariables false
set_option linter.unusedSimpArgs false
namespace Go.Gl
open Go.Proofs Go.Proofs.Ytmemennccmijaaa Go.Pl

def diffN (c : SCouple) (k : Nat) : List (List Int) := tabR k (fun i => comb c.prime c.e.toNat (row c.k i) c.j)
def coupleDiff (c : SCouple) : List (List Int) × Int := if coupleOk c then (diffN c c.k.length, 0) else ([], 1)
structure CoupleOk (c : SCouple) : Prop where
  p : prime c.prime = true
  d : 0 ≤ c.d ∧ c.d ≤ 24
  e : 0 ≤ c.e ∧ c.e ≤ 24
  li : (c.i.length : Int) = c.d
  lj : (c.j.length : Int) = c.d
  lk : (c.k.length : Int) = c.e
  mI : Mat c.prime c.d.toNat c.i
  mJ : Mat c.prime c.e.toNat c.j
  mK : Mat c.prime c.d.toNat c.k
theorem coupleOk_mk {c : SCouple} (h : coupleOk c = true) : CoupleOk c := by
  simp only [coupleOk, Bool.and_eq_true, decide_eq_true_eq] at h
  obtain ⟨⟨⟨⟨⟨⟨⟨⟨h1, h2⟩, h3⟩, h4⟩, h5⟩, h6⟩, h7⟩, h8⟩, h9⟩ := h
  exact ⟨h1, h2, h3, h4, h5, h6, rowsOk_mat h7, rowsOk_mat h8, rowsOk_mat h9⟩
/-- the numbers of a list of rows are few -/
theorem cnII_tabR {n m : Nat} {f : Nat → List Int} (h : ∀ i, i < n → (f i).length ≤ m) : cnII (tabR n f) ≤ n * m := by
  induction n with
  | zero => simp [tabR, cnL]
  | succ n ih =>
    rw [tabR_succ]
    have h1 := ih (fun i hi => h i (by omega))
    have h2 := h n (by omega)
    unfold cnII cnL at h1 ⊢
    rw [List.map_append, List.sum_append, Nat.succ_mul]
    simp [cnI]
    omega
theorem coupleDiff_cn (c : SCouple) : cnII (coupleDiff c).1 ≤ 1000 := by
  unfold coupleDiff
  split
  · rename_i h
    have hc := coupleOk_mk h
    have := hc.e
    have := hc.lk
    refine Nat.le_trans (cnII_tabR (m := 24) fun i hi => ?_) ?_
    · rw [show (comb c.prime c.e.toNat (row c.k i) c.j).length = c.e.toNat from tab_length _ _]; omega
    · have : c.k.length ≤ 24 := by omega
      calc c.k.length * 24 ≤ 24 * 24 := Nat.mul_le_mul_right _ this
        _ ≤ 1000 := by decide
  · simp [cnL]


theorem cdiffI_c (h : AH) (v : Value) (x : SCouple) (hx : RCouple h v x) (hc : CoupleOk x) : ACalls Try.prog 79 [v] h (Made OII h (diffN x x.k.length)) := by
  obtain ⟨b1, o1, b2, o2, b3, o3, kx, q1, q2, q3⟩ := hx.can
  refine ACalls.madeN (ACalls.wk (args' := [.agg #[.int .i64 x.prime, .int .i64 x.d, .int .i64 x.e, .slice (some ⟨b1, o1, none⟩) x.i.length 0, .slice (some ⟨b2, o2, none⟩) x.j.length 0, .slice (some ⟨b3, o3, none⟩) x.k.length 0]]) ?_ (.cons kx .nil))
  refine ACalls.of Tt.tab Try.func79 rfl (by kernel_rfl) Try.ntmps79 _ rfl rfl (fun hw => ?_)
  have S := Sep.start h
  have c3 := RS.cells q3 rfl
  obtain ⟨p, d, e, li, lj, lk, mi, mj, mk⟩ := hc
  have hp := prime_rng p
  obtain ⟨en, he⟩ : ∃ m : Nat, x.e = m := ⟨x.e.toNat, by omega⟩
  have hen : x.e.toNat = en := by omega
  unfold diffN
  rw [hen]
  rw [hen] at mj
  refine S.new fun b g S => ?_
  refine S.new fun b4 g S => ?_
  have S := S.bx_rw 0 OI.fr rfl
  refine LoadX.same (v := .slice (some ⟨b3, o3, none⟩) x.k.length 0) (S.at_ 1 rfl) rfl ?_
  refine ⟨⟨[1, 3, 8, 9, 10], fun n' vs g => ∃ (i b4 : Nat), n' = x.k.length - i ∧ i ≤ x.k.length ∧ Sep h.length h g [.rw OI.fr 22 h.length (.slice (some ⟨b4, 0, none⟩) i 1) i (tabR i (fun i => comb x.prime en (row x.k i) x.j)), .bx b 40 6 [.int .i64 x.prime, .int .i64 x.d, .int .i64 x.e, .slice (some ⟨b1, o1, none⟩) x.i.length 0, .slice (some ⟨b2, o2, none⟩) x.j.length 0, .slice (some ⟨b3, o3, none⟩) x.k.length 0]] ∧
    vs = [.pointer (some ⟨b, 0, none⟩), .slice (some ⟨b4, 0, none⟩) i 1, .slice (some ⟨b3, o3, none⟩) x.k.length 0, .int .i64 x.k.length, .int .i64 i], _, ⟨0, b4, rfl, Nat.zero_le _, S, rfl⟩, ?_⟩⟩
  rintro n' vs g ⟨i, b4, rfl, hi, S, rfl⟩
  refine BIf.mk (fun hlt => ?_) (fun hlt => ?_)
  · have hlt : i < x.k.length := by simpa using hlt
    have hr := mk.row hlt
    refine IdxX.mk (by omega) (by omega) ?_
    refine c3.rowY S.le hlt fun b5 o5 h5 => ?_
    refine LoadX.same (v := .int .i64 x.prime) (S.at_ 1 rfl) rfl ?_
    refine LoadX.same (v := .int .i64 en) (S.at_ 1 rfl) (by rw [he]; rfl) ?_
    refine LoadX.same (v := .slice (some ⟨b2, o2, none⟩) x.j.length 0) (S.at_ 1 rfl) rfl ?_
    refine S.made OI.fr (combine_c _ x.prime en _ _ (row x.k i) x.j hp (by omega) (RI.le _ _ _ _ S.le h5) (RII.le _ _ _ _ S.le q2) hr.2 mj (by rw [hr.1]; omega)) fun b6 o6 g S => ?_
    refine S.new fun b7 g S => ?_
    refine S.appT 0 rfl rfl (by omega) fun b8 g S => ?_
    refine WR.i64 ?_
    exact ⟨x.k.length - (i + 1), by omega, i + 1, b8, rfl, hlt, by rw [tabR_succ]; exact S, rfl⟩
  · have hi2 : i = x.k.length := by simp at hlt; omega
    subst hi2
    have S := S.rw_tr 0 rfl (by omega)
    exact S.fin 0 rfl

theorem coupleDiffI_c (h : AH) (v : Value) (x : SCouple) (hx : RCouple h v x) : ACalls Try.prog 25 [v] h (MadeC OII h (coupleDiff x).1 (coupleDiff x).2) := by
  obtain ⟨b1, o1, b2, o2, b3, o3, kx, qx⟩ := hx.can
  refine ACalls.wk (args' := [.agg #[.int .i64 x.prime, .int .i64 x.d, .int .i64 x.e, .slice (some ⟨b1, o1, none⟩) x.i.length 0, .slice (some ⟨b2, o2, none⟩) x.j.length 0, .slice (some ⟨b3, o3, none⟩) x.k.length 0]]) ?_ (.cons kx .nil)
  refine ACalls.of Tt.tab Try.func25 rfl (by kernel_rfl) Try.ntmps25 _ rfl rfl (fun hw => ?_)
  have S := Sep.start h
  refine S.new fun b g S => ?_
  refine LoadX.same (v := .agg #[.int .i64 x.prime, .int .i64 x.d, .int .i64 x.e, .slice (some ⟨b1, o1, none⟩) x.i.length 0, .slice (some ⟨b2, o2, none⟩) x.j.length 0, .slice (some ⟨b3, o3, none⟩) x.k.length 0]) (S.at_ 0 rfl) rfl ?_
  refine CallX.same (isCoupleI_c _ _ x ⟨_, _, _, rfl, qx.le S.le⟩) ?_
  rintro r g ⟨rfl, rfl⟩
  unfold coupleDiff
  refine BIf.mk (fun h1 => ?_) (fun h1 => ?_)
  · have h1 : coupleOk x = false := by simpa using h1
    rw [h1]
    exact S.nilC
  have h1 : coupleOk x = true := by simpa using h1
  rw [if_pos h1]
  refine LoadX.same (v := .agg #[.int .i64 x.prime, .int .i64 x.d, .int .i64 x.e, .slice (some ⟨b1, o1, none⟩) x.i.length 0, .slice (some ⟨b2, o2, none⟩) x.j.length 0, .slice (some ⟨b3, o3, none⟩) x.k.length 0]) (S.at_ 0 rfl) rfl ?_
  refine S.made OII.fr (cdiffI_c _ _ x ⟨_, _, _, rfl, qx.le S.le⟩ (coupleOk_mk h1)) fun b4 o4 g S => ?_
  exact S.finC 0 rfl

theorem cdiffS_c (h : AH) (v : Value) (x : SCouple) (hx : RCouple h v x) (hc : CoupleOk x) : ACalls Try.prog 77 [v] h (Made OII h (diffN x x.k.length)) := by
  obtain ⟨b1, o1, b2, o2, b3, o3, kx, q1, q2, q3⟩ := hx.can
  refine ACalls.madeN (ACalls.wk (args' := [.agg #[.int .i64 x.prime, .int .i64 x.d, .int .i64 x.e, .slice (some ⟨b1, o1, none⟩) x.i.length 0, .slice (some ⟨b2, o2, none⟩) x.j.length 0, .slice (some ⟨b3, o3, none⟩) x.k.length 0]]) ?_ (.cons kx .nil))
  refine ACalls.of Tt.tab Try.func77 rfl (by kernel_rfl) Try.ntmps77 _ rfl rfl (fun hw => ?_)
  have S := Sep.start h
  have c3 := RS.cells q3 rfl
  obtain ⟨p, d, e, li, lj, lk, mi, mj, mk⟩ := hc
  have hp := prime_rng p
  obtain ⟨en, he⟩ : ∃ m : Nat, x.e = m := ⟨x.e.toNat, by omega⟩
  have hen : x.e.toNat = en := by omega
  unfold diffN
  rw [hen]
  rw [hen] at mj
  refine S.new fun b g S => ?_
  refine S.new fun b4 g S => ?_
  have S := S.bx_rw 0 OI.fr rfl
  refine ⟨⟨[1, 3, 4], fun n' vs g => ∃ (i b4 : Nat), n' = x.k.length - i ∧ i ≤ x.k.length ∧ Sep h.length h g [.rw OI.fr 22 h.length (.slice (some ⟨b4, 0, none⟩) i 1) i (tabR i (fun i => comb x.prime en (row x.k i) x.j)), .bx b 40 6 [.int .i64 x.prime, .int .i64 x.d, .int .i64 x.e, .slice (some ⟨b1, o1, none⟩) x.i.length 0, .slice (some ⟨b2, o2, none⟩) x.j.length 0, .slice (some ⟨b3, o3, none⟩) x.k.length 0]] ∧
    vs = [.pointer (some ⟨b, 0, none⟩), .slice (some ⟨b4, 0, none⟩) i 1, .int .i64 i], _, ⟨0, b4, rfl, Nat.zero_le _, S, rfl⟩, ?_⟩⟩
  rintro n' vs g ⟨i, b4, rfl, hi, S, rfl⟩
  refine LoadX.same (v := .slice (some ⟨b3, o3, none⟩) x.k.length 0) (S.at_ 1 rfl) rfl ?_
  refine BIf.mk (fun hlt => ?_) (fun hlt => ?_)
  · have hlt : i < x.k.length := by simpa using hlt
    have hr := mk.row hlt
    refine DrawX.of Tt.tab follows_any [12, 13] [14] [0, 1, 2, 3, 4, 5, 6, 7, 8, 9, 10, 11, 12, 13, 14, 15] rfl (by kernel_rfl) (by kernel_rfl) ?_
    refine LoadX.same (v := .int .i64 x.prime) (S.at_ 1 rfl) rfl ?_
    refine LoadX.same (v := .slice (some ⟨b2, o2, none⟩) x.j.length 0) (S.at_ 1 rfl) rfl ?_
    refine LoadX.same (v := .slice (some ⟨b3, o3, none⟩) x.k.length 0) (S.at_ 1 rfl) rfl ?_
    refine IdxX.mk (by omega) (by omega) ?_
    refine c3.rowY S.le hlt fun b5 o5 h5 => ?_
    refine LoadX.same (v := .int .i64 en) (S.at_ 1 rfl) (by rw [he]; rfl) ?_
    refine S.madeL OI.fr (l01Apply_c _ x.prime en _ _ (row x.k i) x.j hp (by omega) (RI.le _ _ _ _ S.le h5) (RII.le _ _ _ _ S.le q2) hr.2 mj (by rw [hr.1]; omega)) fun b6 o6 g L S => ?_
    refine ⟨L, ?_⟩
    refine S.newL fun b7 g L S => ?_
    refine ⟨L, ?_⟩
    refine S.appT 0 rfl rfl (by omega) fun b8 g S => ?_
    refine WR.i64 ?_
    exact ⟨x.k.length - (i + 1), by omega, i + 1, b8, rfl, hlt, by rw [tabR_succ]; exact S, rfl⟩
  · have hi2 : i = x.k.length := by simp at hlt; omega
    subst hi2
    have S := S.rw_tr 0 rfl (by omega)
    exact S.fin 0 rfl

theorem coupleDiffS_c (h : AH) (v : Value) (x : SCouple) (hx : RCouple h v x) : ACalls Try.prog 23 [v] h (MadeC OII h (coupleDiff x).1 (coupleDiff x).2) := by
  obtain ⟨b1, o1, b2, o2, b3, o3, kx, qx⟩ := hx.can
  refine ACalls.wk (args' := [.agg #[.int .i64 x.prime, .int .i64 x.d, .int .i64 x.e, .slice (some ⟨b1, o1, none⟩) x.i.length 0, .slice (some ⟨b2, o2, none⟩) x.j.length 0, .slice (some ⟨b3, o3, none⟩) x.k.length 0]]) ?_ (.cons kx .nil)
  refine ACalls.of Tt.tab Try.func23 rfl (by kernel_rfl) Try.ntmps23 _ rfl rfl (fun hw => ?_)
  have S := Sep.start h
  refine S.new fun b g S => ?_
  refine LoadX.same (v := .agg #[.int .i64 x.prime, .int .i64 x.d, .int .i64 x.e, .slice (some ⟨b1, o1, none⟩) x.i.length 0, .slice (some ⟨b2, o2, none⟩) x.j.length 0, .slice (some ⟨b3, o3, none⟩) x.k.length 0]) (S.at_ 0 rfl) rfl ?_
  refine CallX.same (l05Is_c _ _ x ⟨_, _, _, rfl, qx.le S.le⟩) ?_
  rintro r g ⟨rfl, rfl⟩
  unfold coupleDiff
  refine BIf.mk (fun h1 => ?_) (fun h1 => ?_)
  · have h1 : coupleOk x = false := by simpa using h1
    rw [h1]
    exact S.nilC
  have h1 : coupleOk x = true := by simpa using h1
  rw [if_pos h1]
  refine LoadX.same (v := .agg #[.int .i64 x.prime, .int .i64 x.d, .int .i64 x.e, .slice (some ⟨b1, o1, none⟩) x.i.length 0, .slice (some ⟨b2, o2, none⟩) x.j.length 0, .slice (some ⟨b3, o3, none⟩) x.k.length 0]) (S.at_ 0 rfl) rfl ?_
  refine S.made OII.fr (cdiffS_c _ _ x ⟨_, _, _, rfl, qx.le S.le⟩ (coupleOk_mk h1)) fun b4 o4 g S => ?_
  exact S.finC 0 rfl

end Go.Gl

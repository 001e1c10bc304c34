/- Chapters 1 and 5: ReduceRows, RanksOf. No condition. -/
import Derived.Test.YtblbcjemoadfpaaFnE2
import Derived.Test.YtblbcjemoadfpaaFnCp
set_option linter.unusedVariables false
set_option linter.unusedSimpArgs false
namespace Go.Gl
open Go.Proofs Go.Proofs.Ytblbcjemoadfpaa Go.Pl

def spaceOk (p n : Int) (ls : List (List (List Int))) : Bool := prime p && decide (0 ≤ n ∧ n ≤ 40) && ls.all fun rows => decide (rows.length ≤ 40) && rowsOk p n rows
theorem spaceOk_one {p n : Int} {ls : List (List (List Int))} (h : spaceOk p n ls = true) {rows : List (List Int)} (hm : rows ∈ ls) : IsP p ∧ (0 ≤ n ∧ n ≤ 40) ∧ rows.length ≤ 40 ∧ Mat p n.toNat rows := by
  simp only [spaceOk, Bool.and_eq_true, decide_eq_true_eq] at h
  obtain ⟨⟨h1, h2⟩, h3⟩ := h
  have := List.all_eq_true.1 h3 _ hm
  simp only [Bool.and_eq_true, decide_eq_true_eq] at this
  exact ⟨prime_isP h1, h2, this.1, rowsOk_mat this.2⟩
theorem ech_few {p : Int} (hp : IsP p) {n : Nat} {rows : List (List Int)} (hr : Mat p n rows) : (ech p rows).length ≤ rows.length ∧ Mat p n (ech p rows) := by
  refine ⟨?_, (ech_spec hp hr).1.mat⟩
  rw [← gauss_eq hp hr]
  unfold gauss
  split
  · simp
  · rename_i h
    obtain ⟨l, G⟩ := gN_inv hp hr n (Nat.le_refl _)
    rw [(hr.row (by omega)).1, List.length_take, ← G.len]
    omega
def reduceRows (p n : Int) (rows : List (List Int)) : List (List Int) × Int := if spaceOk p n [rows] then (ech p rows, 0) else ([], 2)
theorem cnII_mat {p : Int} {n : Nat} : ∀ {rows : List (List Int)}, Mat p n rows → cnII rows = rows.length * n
  | [], _ => by simp [cnL]
  | r :: rows, h => by
    have ih := cnII_mat (rows := rows) fun x hx => h x (List.mem_cons_of_mem _ hx)
    have h1 := (h r List.mem_cons_self).1
    unfold cnII cnL at ih ⊢
    rw [List.map_cons, List.sum_cons, ih, List.length_cons, Nat.succ_mul]
    simp [cnI, h1]; omega
theorem reduceRows_cn (p n : Int) (rows : List (List Int)) : cnII (reduceRows p n rows).1 ≤ 10000 := by
  unfold reduceRows
  split
  · rename_i h
    obtain ⟨h1, h2, h3, h4⟩ := spaceOk_one h (rows := rows) (by simp)
    obtain ⟨e1, e2⟩ := ech_few h1 h4
    rw [cnII_mat e2]
    calc (ech p rows).length * n.toNat ≤ 40 * 40 := Nat.mul_le_mul (by omega) (by omega)
      _ ≤ 10000 := by decide
  · simp [cnL]

/-- a list of one list of rows, of two -/
theorem RIII.one {h : AH} {b : Nat} {v : Value} {own : Option (TypeId × Nat)} {x : List (List Int)} (hl : look h b = some ⟨[v], own⟩) (hx : RII h v x) (c : Nat) : RIII h (.slice (some ⟨b, 0, none⟩) 1 c) [x] :=
  ⟨by simp, b, 0, Wk.weak _ _ _ _, fun k y hk => by
    cases k with
    | zero => simp at hk; subst hk; exact ⟨_, v, hl, rfl, hx⟩
    | succ k => simp at hk⟩
theorem RIII.two {h : AH} {b : Nat} {v w : Value} {own : Option (TypeId × Nat)} {x y : List (List Int)} (hl : look h b = some ⟨[v, w], own⟩) (hx : RII h v x) (hy : RII h w y) (c : Nat) : RIII h (.slice (some ⟨b, 0, none⟩) 2 c) [x, y] :=
  ⟨by simp, b, 0, Wk.weak _ _ _ _, fun k z hk => by
    match k, hk with
    | 0, hk => simp at hk; subst hk; exact ⟨_, v, hl, rfl, hx⟩
    | 1, hk => simp at hk; subst hk; exact ⟨_, w, hl, rfl, hy⟩
    | k + 2, hk => simp at hk⟩

theorem indexFuncIII_c (h : AH) (v : Value) (xs : List (List (List Int))) (g : Nat) (cap : Array Value) (p : (List (List Int)) → Bool) (hx : RIII h v xs)
    (hp : ∀ x ∈ xs, ∀ b o, RII h (.slice (some ⟨b, o, none⟩) x.length 0) x → ACalls Try.prog g (.slice (some ⟨b, o, none⟩) x.length 0 :: cap.toList) h (fun r h' => r = .bool (p x) ∧ h' = h)) : ACalls Try.prog 126 [v, .func (.func g) #[] cap] h (fun r h' => r = .int .i64 (idx p xs) ∧ h' = h) := by
  obtain ⟨hm, b, o, hw1, hc⟩ := hx
  refine ACalls.wk (args' := [.slice (some ⟨b, o, none⟩) xs.length 0, .func (.func g) #[] cap]) ?_ (.cons hw1 (.cons (Wk.refl _) .nil))
  refine ACalls.of Tt.tab Try.func126 rfl (by kernel_rfl) Try.ntmps126 _ rfl rfl (fun hw => ?_)
  refine ⟨⟨[0, 1, 7, 8], fun n vs h' => ∃ k : Nat, n = xs.length - k ∧ k ≤ xs.length ∧ h' = h ∧ (xs.take k).any p = false ∧ vs = [.slice (some ⟨b, o, none⟩) xs.length 0, .func (.func g) #[] cap, .int .i64 xs.length, .int .i64 k], _, ⟨0, rfl, Nat.zero_le _, rfl, rfl, rfl⟩, ?_⟩⟩
  rintro n vs h' ⟨k, rfl, hk, rfl, ht, rfl⟩
  refine BIf.mk (fun h2 => ?_) (fun h2 => ?_)
  · have hlt : k < xs.length := by simpa using h2
    refine IdxX.mk (by omega) (by omega) ?_
    refine hc.loadY rfl hlt rfl fun b3 o3 hr3 => ?_
    refine CallX.same (hp _ (List.getElem_mem hlt) _ _ hr3) ?_
    rintro r h3 ⟨rfl, rfl⟩
    refine BIf.mk (fun h4 => ?_) (fun h4 => ?_)
    · refine FinX.keep hw (Le.refl _) rfl ⟨?_, rfl⟩
      rw [idx_stop p xs k hlt ht h4]
    · refine WR.i64 ?_
      refine ⟨xs.length - (k + 1), by omega, k + 1, rfl, hlt, rfl, ?_, rfl⟩
      rw [List.take_succ_eq_append_getElem hlt, List.any_append, ht]
      simp [h4]
  · refine FinX.keep hw (Le.refl _) rfl ⟨?_, rfl⟩
    have hk2 : k = xs.length := by simp at h2; omega
    subst hk2
    rw [List.take_length] at ht
    rw [idx_none p xs ht]

theorem containsFuncIII_c (h : AH) (v : Value) (xs : List (List (List Int))) (g : Nat) (cap : Array Value) (p : (List (List Int)) → Bool) (hx : RIII h v xs)
    (hp : ∀ x ∈ xs, ∀ b o, RII h (.slice (some ⟨b, o, none⟩) x.length 0) x → ACalls Try.prog g (.slice (some ⟨b, o, none⟩) x.length 0 :: cap.toList) h (fun r h' => r = .bool (p x) ∧ h' = h)) : ACalls Try.prog 100 [v, .func (.func g) #[] cap] h (fun r h' => r = .bool (xs.any p) ∧ h' = h) := by
  obtain ⟨b, o, hw1, hx⟩ := hx.can
  refine ACalls.wk (args' := [.slice (some ⟨b, o, none⟩) xs.length 0, .func (.func g) #[] cap]) ?_ (.cons hw1 (.cons (Wk.refl _) .nil))
  refine ACalls.of Tt.tab Try.func100 rfl (by kernel_rfl) Try.ntmps100 _ rfl rfl (fun hw => ?_)
  refine CallX.same (indexFuncIII_c h _ xs g cap p hx hp) ?_
  rintro r h3 ⟨rfl, rfl⟩
  exact FinX.keep hw (Le.refl _) rfl ⟨by rw [(idx_any p xs).1], rfl⟩
theorem spaceCode1_c (h : AH) (p n : Int) (b o b1 b2 : Nat) (x : List (List Int)) (hp : 2 ≤ p ∧ p ≤ 7) (hb1 : look h b1 = some ⟨[.int .i64 p], some (tI, 1)⟩) (hb2 : look h b2 = some ⟨[.int .i64 n], some (tI, 1)⟩) (hx : RII h (.slice (some ⟨b, o, none⟩) x.length 0) x) :
    ACalls Try.prog 101 [.slice (some ⟨b, o, none⟩) x.length 0, .pointer (some ⟨b1, 0, none⟩), .pointer (some ⟨b2, 0, none⟩)] h (fun r h' => r = .bool (!(decide (x.length ≤ 40) && rowsOk p n x)) ∧ h' = h) := by
  refine ACalls.of Tt.tab Try.func101 rfl (by kernel_rfl) Try.ntmps101 _ rfl rfl (fun hw => ?_)
  refine BIf.mk (fun h1 => ?_) (fun h1 => ?_)
  · have h1 : ¬ x.length ≤ 40 := by simp at h1; omega
    exact FinX.keep hw (Le.refl _) rfl ⟨by simp [h1], rfl⟩
  · have h1 : x.length ≤ 40 := by simp at h1; omega
    refine LoadX.same hb1 rfl ?_
    refine LoadX.same hb2 rfl ?_
    refine CallX.same (areRows_c _ p n _ x hp hx) ?_
    rintro r g ⟨rfl, rfl⟩
    exact FinX.keep hw (Le.refl _) rfl ⟨by simp [h1], rfl⟩
theorem spaceCode_c (h : AH) (p n : Int) (v : Value) (ls : List (List (List Int))) (hx : RIII h v ls) : ACalls Try.prog 68 [.int .i64 p, .int .i64 n, v] h (fun r h' => r = .int .i64 (if spaceOk p n ls then 0 else 2) ∧ h' = h) := by
  obtain ⟨b, o, k1, hx⟩ := hx.can
  refine ACalls.wk (args' := [.int .i64 p, .int .i64 n, .slice (some ⟨b, o, none⟩) ls.length 0]) ?_ (.cons (Wk.refl _) (.cons (Wk.refl _) (.cons k1 .nil)))
  refine ACalls.of Tt.tab Try.func68 rfl (by kernel_rfl) Try.ntmps68 _ rfl rfl (fun hw => ?_)
  have S := Sep.start h
  refine S.new fun b1 g S => ?_
  refine S.new fun b2 g S => ?_
  refine LoadX.same (v := .int .i64 p) (S.at_ 1 rfl) rfl ?_
  refine CallX.same (isPrime_c g p) ?_
  rintro r g' ⟨rfl, rfl⟩
  refine BIf.mk (fun e1 => ?_) (fun e1 => ?_)
  · have e1 : prime p = false := by simpa using e1
    refine BIf.yes rfl (BIf.yes rfl ?_)
    exact FinX.keep hw S.le rfl ⟨by simp [spaceOk, e1], rfl⟩
  have e1 : prime p = true := by simpa using e1
  refine LoadX.same (v := .int .i64 n) (S.at_ 0 rfl) rfl ?_
  refine CallX.same (between_c _ n 0 40) ?_
  rintro r g' ⟨rfl, rfl⟩
  refine BIf.mk (fun e2 => ?_) (fun e2 => ?_)
  · have e2 : decide (0 ≤ n ∧ n ≤ 40) = false := by simpa only [Bool.not_eq_true'] using e2
    refine BIf.yes rfl ?_
    exact FinX.keep hw S.le rfl ⟨by simp only [spaceOk, e2]; simp, rfl⟩
  have e2 : decide (0 ≤ n ∧ n ≤ 40) = true := by simpa only [Bool.not_eq_false'] using e2
  refine CallX.same (containsFuncIII_c _ _ ls _ _ (fun x => !(decide (x.length ≤ 40) && rowsOk p n x)) (RIII.le _ _ _ _ S.le hx) (fun x _ b o hr => spaceCode1_c _ p n b o b1 b2 x (prime_rng e1) (S.at_ 1 rfl) (S.at_ 0 rfl) hr)) ?_
  rintro r g' ⟨rfl, rfl⟩
  have hs : spaceOk p n ls = !(ls.any fun x => !(decide (x.length ≤ 40) && rowsOk p n x)) := by
    simp only [spaceOk, e1, e2, Bool.true_and]
    rw [List.all_eq_not_any_not]
  rw [hs]
  refine BIf.mk (fun e3 => ?_) (fun e3 => ?_)
  · exact FinX.keep hw S.le rfl ⟨by rw [e3]; rfl, rfl⟩
  · exact FinX.keep hw S.le rfl ⟨by rw [e3]; rfl, rfl⟩

theorem l01Spaces_c (h : AH) (p n : Int) (v : Value) (ls : List (List (List Int))) (hx : RIII h v ls) : ACalls Try.prog 71 [.int .i64 p, .int .i64 n, v] h (fun r h' => r = .int .i64 (if spaceOk p n ls then 0 else 2) ∧ h' = h) := by
  obtain ⟨hm, b, o, k1, c1⟩ := hx
  refine ACalls.wk (args' := [.int .i64 p, .int .i64 n, .slice (some ⟨b, o, none⟩) ls.length 0]) ?_ (.cons (Wk.refl _) (.cons (Wk.refl _) (.cons k1 .nil)))
  refine ACalls.of Tt.tab Try.func71 rfl (by kernel_rfl) Try.ntmps71 _ rfl rfl (fun hw => ?_)
  refine CallX.same (l01Prime_c _ p) ?_
  rintro r g' ⟨rfl, rfl⟩
  refine BIf.mk (fun e1 => ?_) (fun e1 => ?_)
  · have e1 : prime p = false := by simpa using e1
    refine BIf.yes rfl ?_
    exact FinX.keep hw (Le.refl _) rfl ⟨by simp [spaceOk, e1], rfl⟩
  have e1 : prime p = true := by simpa using e1
  refine CallX.same (l01In_c _ n 0 40) ?_
  rintro r g' ⟨rfl, rfl⟩
  refine BIf.mk (fun e2 => ?_) (fun e2 => ?_)
  · have e2 : decide (0 ≤ n ∧ n ≤ 40) = false := by simpa only [Bool.not_eq_true'] using e2
    exact FinX.keep hw (Le.refl _) rfl ⟨by simp only [spaceOk, e2]; simp, rfl⟩
  have e2 : decide (0 ≤ n ∧ n ≤ 40) = true := by simpa only [Bool.not_eq_false'] using e2
  have bad : ∀ i, i < ls.length → (decide ((mat ls i).length ≤ 40) && rowsOk p n (mat ls i)) = false → spaceOk p n ls = false := fun i hi hf => by
    have : (ls.all fun rows => decide (rows.length ≤ 40) && rowsOk p n rows) = false := List.all_eq_false.2 ⟨mat ls i, List.mem_of_getElem? (mat_getq hi), by rw [hf]; simp⟩
    simp only [spaceOk, this, Bool.and_false]
  refine ⟨⟨[0, 1, 2, 7], fun n' vs g => ∃ i : Nat, n' = ls.length - i ∧ i ≤ ls.length ∧ g = g' ∧ (∀ k, k < i → (decide ((mat ls k).length ≤ 40) && rowsOk p n (mat ls k)) = true) ∧ vs = [.int .i64 p, .int .i64 n, .slice (some ⟨b, o, none⟩) ls.length 0, .int .i64 i], _, ⟨0, rfl, Nat.zero_le _, rfl, fun k hk => by omega, rfl⟩, ?_⟩⟩
  rintro n' vs g ⟨i, rfl, hi, rfl, hz, rfl⟩
  refine BIf.mk (fun h2 => ?_) (fun h2 => ?_)
  · have hlt : i < ls.length := by simpa using h2
    refine DrawX.of Tt.tab follows_any [] [] [0, 1, 2, 3, 4, 5, 6, 7, 8, 9, 10, 11, 12, 13, 14, 15, 16, 17, 18, 19, 20] rfl (by kernel_rfl) (by kernel_rfl) ?_
    refine IdxX.mk (by omega) (by omega) ?_
    refine c1.mat (Le.refl _) hlt fun b4 o4 h4 => ?_
    refine BIf.mk (fun h3 => ?_) (fun h3 => ?_)
    · have h3 : ¬ (mat ls i).length ≤ 40 := by simp at h3; omega
      refine BIf.yes rfl ?_
      exact FinX.keep hw (Le.refl _) rfl ⟨by rw [bad i hlt (by simp [h3])]; rfl, rfl⟩
    have h3 : (mat ls i).length ≤ 40 := by simp at h3; omega
    refine IdxX.mk (by omega) (by omega) ?_
    refine c1.mat (Le.refl _) hlt fun b5 o5 h5 => ?_
    refine IdxX.mk (by omega) (by omega) ?_
    refine c1.mat (Le.refl _) hlt fun b6 o6 h6 => ?_
    refine QCall.of (fun g2 hl => l01Table_c g2 p ((mat ls i).length : Int) n _ (mat ls i) (prime_rng e1) (RII.le _ _ _ _ hl h5)) rfl ?_
    refine BIf.mk (fun h7 => ?_) (fun h7 => ?_)
    · have h7 : rowsOk p n (mat ls i) = false := by simpa using h7
      exact FinX.keep hw (Le.refl _) rfl ⟨by rw [bad i hlt (by simp [h7])]; rfl, rfl⟩
    · have h7 : rowsOk p n (mat ls i) = true := by simpa using h7
      refine WR.i64 ?_
      refine ⟨ls.length - (i + 1), by omega, i + 1, rfl, hlt, rfl, fun k hk => ?_, rfl⟩
      rcases (by omega : k < i ∨ k = i) with hk | rfl
      · exact hz k hk
      · simp [h3, h7]
  · have hi2 : i = ls.length := by simp at h2; omega
    subst hi2
    refine FinX.keep hw (Le.refl _) rfl ⟨?_, rfl⟩
    have : (ls.all fun rows => decide (rows.length ≤ 40) && rowsOk p n rows) = true := List.all_eq_true.2 fun y hy => by
      obtain ⟨k, hk, rfl⟩ := List.getElem_of_mem hy
      rw [mat_get hk]; exact hz k hk
    simp only [spaceOk, e1, e2, this, Bool.and_self, if_true]

theorem reduceRowsI_c (h : AH) (p n : Int) (v : Value) (rows : List (List Int)) (hx : RII h v rows) : ACalls Try.prog 35 [.int .i64 p, .int .i64 n, v] h (MadeC OII h (reduceRows p n rows).1 (reduceRows p n rows).2) := by
  obtain ⟨b, o, k1, hx⟩ := hx.can
  refine ACalls.wk (args' := [.int .i64 p, .int .i64 n, .slice (some ⟨b, o, none⟩) rows.length 0]) ?_ (.cons (Wk.refl _) (.cons (Wk.refl _) (.cons k1 .nil)))
  refine ACalls.of Tt.tab Try.func35 rfl (by kernel_rfl) Try.ntmps35 _ rfl rfl (fun hw => ?_)
  have S := Sep.start h
  refine S.new fun b1 g S => ?_
  refine CallX.same (spaceCode_c _ p n _ [rows] (RIII.one (S.at_ 0 rfl) (RII.le _ _ _ _ S.le hx) 1)) ?_
  rintro r g' ⟨rfl, rfl⟩
  unfold reduceRows
  cases hs : spaceOk p n [rows] with
  | false =>
    refine BIf.yes rfl ?_
    exact S.nilC
  | true =>
    refine BIf.no rfl ?_
    obtain ⟨z1, z2, z3, z4⟩ := spaceOk_one hs (rows := rows) (by simp)
    refine S.made OII.fr (reduce_c _ p n.toNat _ rows z1 (by omega) (RII.le _ _ _ _ S.le hx) z4 (by omega)) fun b2 o2 g S => ?_
    exact S.finC 0 rfl

theorem reduceRowsS_c (h : AH) (p n : Int) (v : Value) (rows : List (List Int)) (hx : RII h v rows) : ACalls Try.prog 37 [.int .i64 p, .int .i64 n, v] h (MadeC OII h (reduceRows p n rows).1 (reduceRows p n rows).2) := by
  obtain ⟨b, o, k1, hx⟩ := hx.can
  refine ACalls.wk (args' := [.int .i64 p, .int .i64 n, .slice (some ⟨b, o, none⟩) rows.length 0]) ?_ (.cons (Wk.refl _) (.cons (Wk.refl _) (.cons k1 .nil)))
  refine ACalls.of Tt.tab Try.func37 rfl (by kernel_rfl) Try.ntmps37 _ rfl rfl (fun hw => ?_)
  have S := Sep.start h
  refine S.new fun b1 g S => ?_
  refine CallX.same (l01Spaces_c _ p n _ [rows] (RIII.one (S.at_ 0 rfl) (RII.le _ _ _ _ S.le hx) 1)) ?_
  rintro r g' ⟨rfl, rfl⟩
  unfold reduceRows
  cases hs : spaceOk p n [rows] with
  | false =>
    refine BIf.yes rfl ?_
    exact S.nilC
  | true =>
    refine BIf.no rfl ?_
    obtain ⟨z1, z2, z3, z4⟩ := spaceOk_one hs (rows := rows) (by simp)
    refine S.made OII.fr (l01Echelon_c _ p n.toNat _ rows z1 (by omega) (RII.le _ _ _ _ S.le hx) z4 (by omega)) fun b2 o2 g S => ?_
    exact S.finC 0 rfl

/-- the ranks of the maps of a couple -/
def ranks (c : SCouple) : List Int × Int := if coupleOk c then ([((ech c.prime c.i).length : Int), ((ech c.prime c.j).length : Int), ((ech c.prime c.k).length : Int)], 0) else ([], 1)
theorem ranks_cn (c : SCouple) : cnI (ranks c).1 ≤ 3 := by
  unfold ranks
  split <;> simp [cnI]

end Go.Gl

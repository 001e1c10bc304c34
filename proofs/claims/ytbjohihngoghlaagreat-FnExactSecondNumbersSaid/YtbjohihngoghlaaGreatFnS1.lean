/- Chapters 1 and 5: ReduceRows, RanksOf. No condition. -/
import Derived.Test.YtbjohihngoghlaaGreatFnE2
import Derived.Test.YtbjohihngoghlaaGreatFnCp
set_option linter.unusedVariables false
set_option linter.unusedSimpArgs false
namespace Go.Gl
open Go.Proofs Go.Proofs.YtbjohihngoghlaaGreat Go.Pl

def spaceOk (p n : Int) (ls : List (List (List Int))) : Bool := prime p && decide (0 ≤ n ∧ n ≤ 40) && ls.all fun rows => decide (rows.length ≤ 40) && rowsOk p n rows
theorem spaceOk_one {p n : Int} {ls : List (List (List Int))} (h : spaceOk p n ls = true) {rows : List (List Int)} (hm : rows ∈ ls) : IsP p ∧ (0 ≤ n ∧ n ≤ 40) ∧ rows.length ≤ 40 ∧ Mat p n.toNat rows := by
  simp only [spaceOk, Bool.and_eq_true, decide_eq_true_eq] at h
  obtain ⟨⟨h1, h2⟩, h3⟩ := h
  have := List.all_eq_true.1 h3 _ hm
  simp only [Bool.and_eq_true, decide_eq_true_eq] at this
  exact ⟨prime_isP h1, h2, this.1, rowsOk_mat this.2⟩
theorem ech_few {p : Int} (hp : IsP p) {n : Nat} {rows : List (List Int)} (hr : Mat p n rows) : (ech p rows).length ≤ rows.length ∧ Mat p n (ech p rows) := by
  refine ⟨?_, (ech_spec hp hr).1.mat⟩
  rw [← gauss_eq hp hr]
  unfold gauss
  split
  · simp
  · rename_i h
    obtain ⟨l, G⟩ := gN_inv hp hr n (Nat.le_refl _)
    rw [(hr.row (by omega)).1, List.length_take, ← G.len]
    omega
def reduceRows (p n : Int) (rows : List (List Int)) : List (List Int) × Int := if spaceOk p n [rows] then (ech p rows, 0) else ([], 2)
theorem cnII_mat {p : Int} {n : Nat} : ∀ {rows : List (List Int)}, Mat p n rows → cnII rows = rows.length * n
  | [], _ => by simp [cnL]
  | r :: rows, h => by
    have ih := cnII_mat (rows := rows) fun x hx => h x (List.mem_cons_of_mem _ hx)
    have h1 := (h r List.mem_cons_self).1
    unfold cnII cnL at ih ⊢
    rw [List.map_cons, List.sum_cons, ih, List.length_cons, Nat.succ_mul]
    simp [cnI, h1]; omega
theorem reduceRows_cn (p n : Int) (rows : List (List Int)) : cnII (reduceRows p n rows).1 ≤ 10000 := by
  unfold reduceRows
  split
  · rename_i h
    obtain ⟨h1, h2, h3, h4⟩ := spaceOk_one h (rows := rows) (by simp)
    obtain ⟨e1, e2⟩ := ech_few h1 h4
    rw [cnII_mat e2]
    calc (ech p rows).length * n.toNat ≤ 40 * 40 := Nat.mul_le_mul (by omega) (by omega)
      _ ≤ 10000 := by decide
  · simp [cnL]

/-- a list of one list of rows, of two -/
theorem RIII.one {h : AH} {b : Nat} {v : Value} {own : Option (TypeId × Nat)} {x : List (List Int)} (hl : look h b = some ⟨[v], own⟩) (hx : RII h v x) (c : Nat) : RIII h (.slice (some ⟨b, 0, none⟩) 1 c) [x] :=
  ⟨by simp, b, 0, Wk.weak _ _ _ _, fun k y hk => by
    cases k with
    | zero => simp at hk; subst hk; exact ⟨_, v, hl, rfl, hx⟩
    | succ k => simp at hk⟩
theorem RIII.two {h : AH} {b : Nat} {v w : Value} {own : Option (TypeId × Nat)} {x y : List (List Int)} (hl : look h b = some ⟨[v, w], own⟩) (hx : RII h v x) (hy : RII h w y) (c : Nat) : RIII h (.slice (some ⟨b, 0, none⟩) 2 c) [x, y] :=
  ⟨by simp, b, 0, Wk.weak _ _ _ _, fun k z hk => by
    match k, hk with
    | 0, hk => simp at hk; subst hk; exact ⟨_, v, hl, rfl, hx⟩
    | 1, hk => simp at hk; subst hk; exact ⟨_, w, hl, rfl, hy⟩
    | k + 2, hk => simp at hk⟩

/-- the ranks of the maps of a couple -/
def ranks (c : SCouple) : List Int × Int := if coupleOk c then ([((ech c.prime c.i).length : Int), ((ech c.prime c.j).length : Int), ((ech c.prime c.k).length : Int)], 0) else ([], 1)
theorem ranks_cn (c : SCouple) : cnI (ranks c).1 ≤ 3 := by
  unfold ranks
  split <;> simp [cnI]

theorem l01Rank_c (h : AH) (p : Int) (n : Nat) (rv : Value) (rows : List (List Int)) (hp : IsP p) (hn : n ≤ 100000) (hr : RII h rv rows) (br : Mat p n rows) (hl : rows.length ≤ 100000) :
    ACalls Tryz.prog 81 [.int .i64 p, rv] h (fun r h' => r = .int .i64 (ech p rows).length ∧ h' = h) := by
  obtain ⟨b, o, k1, hx⟩ := hr.can
  refine ACalls.wk (args' := [.int .i64 p, .slice (some ⟨b, o, none⟩) rows.length 0]) ?_ (.cons (Wk.refl _) (.cons k1 .nil))
  refine ACalls.of Tt.tab Tryz.func81 rfl (by kernel_rfl) Tryz.ntmps81 _ rfl rfl (fun hw => ?_)
  have S := Sep.start h
  refine S.made OII.fr (l01Echelon_c _ p n _ rows hp hn hx br hl) fun b2 o2 g S => ?_
  exact FinX.keep hw S.le rfl ⟨rfl, rfl⟩

end Go.Gl

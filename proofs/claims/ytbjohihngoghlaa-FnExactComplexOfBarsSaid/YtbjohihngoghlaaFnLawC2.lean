/- Law of ComplexOfBars, walked. No condition. -/
import Derived.Test.YtbjohihngoghlaaFnC2
set_option linter.unusedVariables false
set_option linter.unusedSimpArgs false
namespace Go.Gl
open Go.Proofs Go.Proofs.Ytbjohihngoghlaa Go.Pl

theorem cnL_rangeF {α : Type} {c : α → Nat} {f : Nat → α} {m : Nat} : ∀ n, (∀ i, i < n → c (f i) ≤ m) → cnL c ((List.range n).map f) ≤ n * m
  | 0, _ => by simp [cnL]
  | n + 1, h => by
    have := cnL_rangeF n fun i hi => h i (by omega)
    have h2 := h n (by omega)
    rw [List.range_succ, List.map_append, Nat.succ_mul]
    simp only [cnL, List.map_append, List.sum_append, List.map_cons, List.map_nil, List.sum_cons, List.sum_nil] at this ⊢
    omega
theorem cbR_cn (p top : Int) (L : List SBar) : cnFiltered (cbR p top L).1 ≤ 1000 := by
  unfold cbR
  split
  · rename_i hok
    split
    · split
      · rename_i hsm
        have hok : (prime p && decide (0 ≤ top ∧ top ≤ 5) && areBars L) = true := hok
        simp only [Bool.and_eq_true, decide_eq_true_eq] at hok
        obtain ⟨T, rfl⟩ : ∃ T : Nat, top = T := ⟨top.toNat, by omega⟩
        rw [Int.toNat_natCast] at hsm ⊢
        have hl : ∀ n, n < T + 1 → (lev L n).length ≤ 8 := fun n hn => by simpa using allN_at hsm hn
        have h1 : cnII (levels L T) ≤ (T + 1) * 8 := cnL_rangeF (T + 1) fun n hn => hl n hn
        have h2 : cnIII (cbMaps L T) ≤ T * 64 := cnL_rangeF T fun k hk => by
          have a1 := hl (k + 1) (by omega)
          have a2 := hl k (by omega)
          have : cnII (cbMap L k) ≤ (lev L (k + 1)).length * 8 := cnL_rangeF _ fun r hr => by
            show (cbRow L k r).length ≤ 8
            unfold cbRow; rw [tab_length]; exact a2
          omega
        have h3 : cnI (cbDims L T) = T + 1 := tab_length _ _
        show cnI (cbDims L T) + cnIII (cbMaps L T) + cnII (levels L T) ≤ 1000
        have : T ≤ 5 := by omega
        omega
      · decide
    · decide
  · decide
/-- a tree of our own is marked: it stands no longer among the parts -/
theorem SepM.marked {M : Nat → Prop} {n : Nat} {hb h : AH} {Rs : List Res} (S : SepM M n hb h Rs) (j : Nat) {ti : TypeId} {T : List TypeId} {α : Type} {E : Tr α} {hE : Fr ti T E} {m : Nat} {v : Value} {x x' : α} (hj : gt Rs j = some (.tr hE m v x)) {P : Program} {f : FuncId} {args : List Value} {r0 : Value} {K : Value → AH → Prop}
    (hc : ∀ l, E m h v x l → ACalls P f args h (fun r h' => r = r0 ∧ Mk h h' l ∧ E m h' v x' l)) (hk : ∀ h' l, E m h' v x' l → SepM M n hb h' (rm Rs j) → K r0 h') : CallX P f args h K := by
  obtain ⟨F, ⟨l, hx⟩, h2, h3, h4, _⟩ := S.step hj
  have hx' : E m h v x l := hE.up hx fun i b e => (only_some.1 e).2
  refine CallX.same (hc l hx') ?_
  rintro r h' ⟨rfl, mk, om⟩
  refine hk h' l om (h4.grow ⟨by rw [hide, only_length]; exact mk.len, fun i b e => ?_⟩)
  obtain ⟨e1, e2⟩ := hide_some.1 e
  refine mk.out i b (fun hi => e1 ?_) e2
  obtain ⟨_, _, _, k1, _⟩ := hE.leaf _ _ _ _ _ hx i hi
  exact (only_some.1 k1).1
theorem setC1 {cells : List Value} {N o : Nat} {y : Value} (hl : cells.length = N) (ho : o + 1 ≤ N) : (setCells cells o [y]).length = N := by
  rw [setCells_length _ _ _ (by rw [hl]; exact ho), hl]

/-- bars of our own are marked -/
theorem markBarS_c {M : Nat → Prop} {n : Nat} {hb h : AH} {Rs : List Res} {b k c : Nat} {cells : List Value} {m : Int} (S : SepM M n hb h (.bx b 121 3 cells :: Rs)) (hl : cells.length = k * 3) (hk : k ≤ 1048576) (hm : 0 ≤ m ∧ m ≤ 1000) :
    ACalls Try.prog 29 [.slice (some ⟨b, 0, none⟩) k c, .int .i64 m] h (fun r h' => r = .int .i64 (m + 3 * k) ∧ ∃ cells', SepM M n hb h' (.bx b 121 3 cells' :: Rs)) := by
  obtain ⟨G, hb', hlen, S, _, back⟩ := S.rebase
  refine ACalls.of Tt.tab Try.func29 rfl (by kernel_rfl) Try.ntmps29 _ rfl rfl (fun hw => ?_)
  refine ⟨⟨[0, 1, 5], fun n' vs g => ∃ (i : Nat) (cells : List Value), n' = k - i ∧ i ≤ k ∧ cells.length = k * 3 ∧ SepM G n hb' g (.bx b 121 3 cells :: Rs) ∧ vs = [.slice (some ⟨b, 0, none⟩) k c, .int .i64 (m + 3 * i), .int .i64 i], _, ⟨0, cells, rfl, Nat.zero_le _, hl, S, by rw [show m + 3 * ((0 : Nat) : Int) = m by omega]; rfl⟩, ?_⟩⟩
  clear S
  rintro n' vs g ⟨i, cells, rfl, hi, hl, S, rfl⟩
  refine BIf.mk (fun h2 => ?_) (fun h2 => ?_)
  · have hlt : i < k := by simpa using h2
    refine IdxX.mk (by omega) (by omega) ?_
    have hb : ∀ f, f < 3 → 0 + mulE i 3 + f + 1 ≤ k * 3 := fun f hf => by rw [mulE_eq]; omega
    refine S.store (o := 0 + mulE i 3 + 0) (vs := [.int .i64 (m + 3 * i)]) 0 rfl (by rw [hl]; exact hb 0 (by omega)) fun g S => ?_
    refine WR.i64 ?_
    refine IdxX.mk (by omega) (by omega) ?_
    refine S.store (o := 0 + mulE i 3 + 1) (vs := [.int .i64 (m + 3 * i + 1)]) 0 rfl (Nat.le_trans (hb 1 (by omega)) (Nat.le_of_eq (setC1 hl (hb 0 (by omega))).symm)) fun g S => ?_
    refine WR.i64 ?_
    refine IdxX.mk (by omega) (by omega) ?_
    refine S.store (o := 0 + mulE i 3 + 2) (vs := [.int .i64 (m + 3 * i + 1 + 1)]) 0 rfl (Nat.le_trans (hb 2 (by omega)) (Nat.le_of_eq (setC1 (setC1 hl (hb 0 (by omega))) (hb 1 (by omega))).symm)) fun g S => ?_
    refine WR.as (r := m + 3 * ((i + 1 : Nat) : Int)) (by omega) ?_
    refine WR.i64 ?_
    exact ⟨k - (i + 1), by omega, i + 1, _, rfl, hlt, setC1 (setC1 (setC1 hl (hb 0 (by omega))) (hb 1 (by omega))) (hb 2 (by omega)), S, rfl⟩
  have hi2 : i = k := by simp at h2; omega
  subst hi2
  exact FinX.here (by have := S.le.len; omega) ⟨rfl, _, back _ _ S⟩
def vF (x : SFiltered) (b1 o1 b2 o2 b3 o3 : Nat) : Value := .agg #[.int .i64 x.complex.prime, .slice (some ⟨b1, o1, none⟩) x.complex.dims.length 0, .slice (some ⟨b2, o2, none⟩) x.complex.maps.length 0, .slice (some ⟨b3, o3, none⟩) x.levels.length 0]
theorem canF {P : Program} {f : FuncId} {args : List Value} {h : AH} {x : SFiltered} {c : Int} (hc : ACalls P f args h (fun r h' => ∃ v l, r = .tuple #[v, .int .i64 c] ∧ OFiltered h.length h' v x l ∧ Le h h')) :
    ACalls P f args h (fun r h' => ∃ b1 o1 b2 o2 b3 o3 l, r = .tuple #[vF x b1 o1 b2 o2 b3 o3, .int .i64 c] ∧ OFiltered h.length h' (vF x b1 o1 b2 o2 b3 o3) x l ∧ Le h h') :=
  hc.can fun r h' ⟨v, l, e, ⟨v1, v2, v3, e2, hp⟩, gg⟩ => by
    subst e e2
    obtain ⟨b1, o1, b2, o2, b3, o3, k1, k2, k3, qx⟩ := hp.can
    exact ⟨_, Wk.tuple (.cons (Wk.agg (.cons (Wk.refl _) (.cons k1 (.cons k2 (.cons k3 .nil))))) (.cons (Wk.refl _) .nil)), b1, o1, b2, o2, b3, o3, l, rfl, ⟨_, _, _, rfl, qx⟩, gg⟩

set_option maxHeartbeats 4000000 in
theorem FnExactComplexOfBars_law (h : AH) (a0 a1 : Int) (v : Value) (xs : List SBar) (hx : RB h v xs) : ACalls Try.prog 4 [.int .i64 a0, .int .i64 a1, v] h (fun r h' => r = .bool true ∧ h' = h) := by
  obtain ⟨b, o, k1, hx⟩ := hx.can
  refine ACalls.wk (args' := [.int .i64 a0, .int .i64 a1, .slice (some ⟨b, o, none⟩) xs.length 0]) ?_ (.cons (Wk.refl _) (.cons (Wk.refl _) (.cons k1 .nil)))
  refine ACalls.of Tt.tab Try.func4 rfl (by kernel_rfl) Try.ntmps4 _ rfl rfl (fun hw => ?_)
  have hcn := cbR_cn a0 a1 xs
  generalize hX : cbR a0 a1 xs = X at hcn
  obtain ⟨X, c⟩ := X
  have hcn : cnFiltered X ≤ 1000 := hcn
  have S := Sep.start h
  refine CallX.same (szBarS_c _ _ xs 1048576 hx (by omega) (by omega)) ?_
  rintro r g ⟨rfl, rfl⟩
  refine BIf.mk (fun h1 => ?_) (fun h1 => ?_)
  · exact FinX.keep hw S.le rfl ⟨rfl, rfl⟩
  have hct : xs.length ≤ 1048576 := by
    refine Classical.byContradiction fun hn => ?_
    rw [if_neg (by omega)] at h1
    simp at h1
  refine CallX.same (toBarS_c _ _ xs (RB.le _ _ _ _ S.le hx) hct) ?_
  rintro r g ⟨b3, rfl, ll, ee, gg⟩
  have S := S.box gg ll ee
  have call1 := canF (complexBS_c g a0 a1 _ xs (RB.bx (S.at_ 0 rfl) (by omega) 1))
  rw [hX] at call1
  refine CallX.same call1 ?_
  rintro r g ⟨w1, o1, w2, o2, w3, o3, lw, rfl, ow, gg⟩
  have S := S.tree OFiltered.fr ow gg
  clear ow
  refine S.new fun bw g S => ?_
  refine S.put 0 rfl fun g S => ?_
  refine CallX.same (toBarS_c _ _ xs (RB.le _ _ _ _ S.le hx) hct) ?_
  rintro r g ⟨b4, rfl, ll, ee, gg⟩
  have S := S.box gg ll ee
  have call2 := canF (complexB_c g a0 a1 _ xs (RB.bx (S.at_ 0 rfl) (by omega) 1))
  rw [hX] at call2
  refine CallX.same call2 ?_
  rintro r g ⟨g1, p1, g2, p2, g3, p3, lg, rfl, og, gg⟩
  have S := S.tree OFiltered.fr og gg
  clear og
  refine S.new fun b11 g S => ?_
  refine S.put 0 rfl fun g S => ?_
  -- [b11, got, b4, bw, want, b3]
  refine LoadX.same (v := vF X g1 p1 g2 p2 g3 p3) (S.at_ 0 rfl) rfl ?_
  refine LoadX.same (v := vF X w1 o1 w2 o2 w3 o3) (S.at_ 3 rfl) rfl ?_
  refine CallX.same (eqFiltered_c _ _ _ X X (S.rd OFiltered.reads 1 rfl) (S.rd OFiltered.reads 4 rfl)) ?_
  rintro r g ⟨rfl, rfl⟩
  refine BIf.no (by simp) ?_
  refine BIf.no (by simp) ?_
  refine CallX.same (toBarS_c _ _ xs (RB.le _ _ _ _ S.le hx) hct) ?_
  rintro r g ⟨b5, rfl, ll, ee, gg⟩
  have S := S.box gg ll ee
  refine CallX.same (eqBarS_c _ _ _ xs xs (RB.bx (S.at_ 3 rfl) (by omega) 1) (RB.bx (S.at_ 0 rfl) (by omega) 1)) ?_
  rintro r g ⟨rfl, rfl⟩
  refine BIf.no (by simp) ?_
  have S := S.tail.front 2 rfl
  refine CallX.same (markBarS_c (k := xs.length) (c := 1) (m := 1) S (cellsB_length xs) hct (by omega)) ?_
  rintro r g ⟨rfl, cells', S⟩
  -- [b4, b11, got, bw, want, b3]
  refine BIf.no (by simp; omega) ?_
  refine LoadX.same (v := vF X g1 p1 g2 p2 g3 p3) (S.at_ 1 rfl) rfl ?_
  refine LoadX.same (v := vF X w1 o1 w2 o2 w3 o3) (S.at_ 3 rfl) rfl ?_
  refine CallX.same (eqFiltered_c _ _ _ X X (S.rd OFiltered.reads 2 rfl) (S.rd OFiltered.reads 4 rfl)) ?_
  rintro r g ⟨rfl, rfl⟩
  refine BIf.no (by simp) ?_
  refine BIf.no (by simp) ?_
  refine LoadX.same (v := vF X g1 p1 g2 p2 g3 p3) (S.at_ 1 rfl) rfl ?_
  refine S.marked 2 (x' := numFiltered 1 X) rfl (fun l hl => markFiltered_c _ _ _ X l 1 hl (by omega) (by omega)) fun g l om S => ?_
  -- [b4, b11, bw, want, b3]
  have om := OFiltered.reads _ _ _ _ _ om
  have e11 := S.at_ 1 rfl
  have ew := S.at_ 2 rfl
  have rw_ := S.rd OFiltered.reads 3 rfl
  have hl0 := S.le
  refine LoadX.same (v := vF X g1 p1 g2 p2 g3 p3) e11 rfl ?_
  refine CallX.same (heldFiltered_c _ _ X 1 om (by omega) (by omega)) ?_
  rintro r g ⟨rfl, rfl⟩
  refine BIf.no (by simp; omega) ?_
  refine BIf.no (by simp) ?_
  have S := Sep.start g
  refine CallX.same (toBarS_c _ _ xs (RB.le _ _ _ _ hl0 hx) hct) ?_
  rintro r g' ⟨b6, rfl, ll, ee, gg⟩
  have S := S.box gg ll ee
  have call3 := canF (complexB_c g' a0 a1 _ xs (RB.bx (S.at_ 0 rfl) (by omega) 1))
  rw [hX] at call3
  refine CallX.same call3 ?_
  rintro r g' ⟨t1, q1, t2, q2, t3, q3, lt, rfl, ot, gg⟩
  have S := S.tree OFiltered.fr ot gg
  clear ot
  refine S.new fun b16 g' S => ?_
  refine S.put 0 rfl fun g' S => ?_
  refine LoadX.same (v := vF X t1 q1 t2 q2 t3 q3) (S.at_ 0 rfl) rfl ?_
  refine LoadX.same (v := vF X w1 o1 w2 o2 w3 o3) (S.le.at_ _ _ ew) rfl ?_
  refine CallX.same (eqFiltered_c _ _ _ X X (S.rd OFiltered.reads 1 rfl) (RFiltered.le _ _ _ _ S.le rw_)) ?_
  rintro r g' ⟨rfl, rfl⟩
  refine BIf.no (by simp) ?_
  refine BIf.no (by simp) ?_
  refine LoadX.same (v := vF X g1 p1 g2 p2 g3 p3) (S.le.at_ _ _ e11) rfl ?_
  refine CallX.same (heldFiltered_c _ _ X 1 (RFiltered.le _ _ _ _ S.le om) (by omega) (by omega)) ?_
  rintro r g' ⟨rfl, rfl⟩
  refine BIf.no (by simp; omega) ?_
  refine BIf.no (by simp) ?_
  exact FinX.keep hw (hl0.trans S.le) rfl ⟨rfl, rfl⟩

end Go.Gl

/- Draws of the laws: lists of rows. No condition. Draws of the laws: two lists of rows; rows alike. No condition. -/
import Derived.Test.YtoeapenknlfffaaFnV2
import Derived.Test.YtoeapenknlfffaaGlR
set_option linter.unusedVariables false
set_option linter.unusedSimpArgs false
namespace Go.Gl
open Go.Proofs Go.Proofs.Ytoeapenknlfffaa Go.Pl

theorem rowsR_succ (H : Nat) (f : Nat → Res) : rowsR (H + 1) f = rowsR H f ++ [f H] := by simp [rowsR, List.range_succ]
theorem rowsR_head (H : Nat) (f : Nat → Res) : rowsR (H + 1) f = f 0 :: rowsR H (fun j => f (j + 1)) := by simp [rowsR, List.range_succ_eq_map, Function.comp_def]
theorem rowsR_congr {H : Nat} {f f' : Nat → Res} (h : ∀ j, j < H → f j = f' j) : rowsR H f = rowsR H f' := List.map_congr_left fun j hj => h j (by simpa using hj)
abbrev tII : TypeId := 26
/-- the row of number j -/
def dRow (n : Nat) (v : Nat → Value) (xs : Nat → List Int) (j : Nat) : Res := .rc tI 1 n (v j) (xs j).length ((xs j).map (.int .i64))
theorem SepM.endRows {M : Nat → Prop} {n : Nat} {hb g : AH} {i bo : Nat} {v : Nat → Value} {xs : Nat → List Int} {R : Res} (S : SepM M n hb g ((.rc tII 1 n (.slice (some ⟨bo, 0, none⟩) i 1) i ((List.range i).map v) :: rowsR i (dRow n v xs)) ++ [R])) (hl : ∀ j, j < i → (xs j).length ≤ 2000) :
    SepM M n hb g [.rw OI.fr tII n (.slice (some ⟨bo, 0, none⟩) i 1) i ((List.range i).map xs), R] := by
  have S := S.rc_bx 0 rfl
  have S : SepM M n hb g ((.bx bo tII 1 ((List.range i).map v) :: rowsR i (dRow n v xs)) ++ [R]) := S
  have S := S.appSwap
  have S := S.front 1 rfl
  have S : SepM M n hb g ([.bx bo tII 1 ((List.range i).map v), R] ++ rowsR i (dRow n v xs)) := S
  have S := S.rowsAs (f' := fun j => .tr OI.fr n (v j) (xs j)) fun j hj F _ hR => Res.rc_tr (by have := hl j hj; omega) hR
  exact SepM.gatherE (Ls := [R]) S
/-- rows are drawn -/
def RowsInv (M : Nat → Prop) (n0 : Nat) (hb : AH) (b : Nat) (g0 : AH) (p n q : Int) (n' : Nat) (vs : List Value) (g : AH) : Prop := ∃ (i bo : Nat) (v : Nat → Value) (xs : Nat → List Int) (C : List Value), n' = q.toNat - i ∧ (i : Int) ≤ q ∧ Dice g0 C ∧ (∀ j, j < i → (xs j).length ≤ 1000) ∧ (∀ j, j < i → ∃ b', v j = .slice (some ⟨b', 0, none⟩) (xs j).length 1) ∧
    SepM M n0 hb g ((.rc tII 1 n0 (.slice (some ⟨bo, 0, none⟩) i 1) i ((List.range i).map v) :: rowsR i (dRow n0 v xs)) ++ [.bx b tS 3 C]) ∧
    vs = [.pointer (some ⟨b, 0, none⟩), .int .i64 p, .int .i64 n, .slice none 0 0, .slice (some ⟨bo, 0, none⟩) i 1, .int .i64 (q - i)]
def DrawnRows (g0 : AH) (M : Nat → Prop) (n0 : Nat) (hb : AH) (b : Nat) (r : Value) (h' : AH) : Prop := ∃ C' Ns, (∃ (k b' : Nat) (xs : List (List Int)), r = .slice (some ⟨b', 0, none⟩) k 1 ∧ k ≤ 4 ∧ (∀ j, j < k → (row xs j).length ≤ 2000) ∧ Ns = [.rw OI.fr tII n0 (.slice (some ⟨b', 0, none⟩) k 1) k xs]) ∧ Dice g0 C' ∧ SepM M n0 hb h' (Ns ++ [.bx b tS 3 C'])
theorem RI.look {h : AH} {b : Nat} {xs : List Int} {own : Option (TypeId × Nat)} (hl : look h b = some ⟨xs.map (.int .i64), own⟩) (hm : xs.length ≤ 1000000) (c : Nat) : RI h (.slice (some ⟨b, 0, none⟩) xs.length c) xs :=
  ⟨by omega, b, 0, Wk.weak _ _ _ _, fun k x hk => ⟨_, .int .i64 x, hl, by simp [hk], rfl⟩⟩
theorem Res.bxAt {b : Nat} {ty : TypeId} {s : Nat} {cells : List Value} {h : AH} (hR : ∃ F, (Res.bx b ty s cells).at_ h F) : look h b = some ⟨cells, some (ty, s)⟩ := by
  obtain ⟨F, h1, h2⟩ := hR
  exact h2
/-- one of some numbers is drawn: the list lies ahead -/
theorem SepM.pick {P : Program} {f : FuncId} {M : Nat → Prop} {n : Nat} {hb h : AH} (Ls : List Res) {b bl : Nat} {C : List Value} {xs : List Int} (S : SepM M n hb h (.bx bl tI 1 (xs.map (.int .i64)) :: (Ls ++ [.bx b tS 3 C]))) {g : AH} (hs : Dice g C) (hg : Le g hb) {K : Value → AH → Prop} {k : Nat} (hk0 : xs.length = k) (h0 : 0 < k) (hl : k ≤ 1000000)
    (hf : ∀ (M : Nat → Prop) (n0 : Nat) (hb h : AH) (C : List Value) (S : SepM M n0 hb h [.bx b tS 3 C]) (hlen : hb.length = h.length) (hs : Dice g C) (hg : Le g hb) (v : Value) (xs : List Int) (hx : RI hb v xs) (h0 : 0 < xs.length) (hl : xs.length ≤ 1000000),
      ACalls P f [.pointer (some ⟨b, 0, none⟩), v] h (fun r h' => ∃ C' Ns, (∃ x ∈ xs, r = .int .i64 x ∧ Ns = []) ∧ Dice g C' ∧ SepM M n0 hb h' (Ns ++ [.bx b tS 3 C'])))
    (hk : ∀ x h' C', x ∈ xs → Dice g C' → SepM M n hb h' (Ls ++ [.bx b tS 3 C']) → K (.int .i64 x) h') : CallX P f [.pointer (some ⟨b, 0, none⟩), .slice (some ⟨bl, 0, none⟩) k 1] h K := by
  subst hk0
  refine SepM.src (.bx bl tI 1 (xs.map (.int .i64)) :: Ls) S hs hg (fun G hb' e1 e2 hR S hg' => hf G n hb' h C S e1 hs hg' _ xs (RI.look (Res.bxAt (hR _ List.mem_cons_self)) hl 1) h0 hl) ?_
  rintro r h' C' Ns ⟨x, hx, rfl, rfl⟩ hs' S
  exact hk x h' C' hx hs' (SepM.tail S)

end Go.Gl

set_option linter.unusedVariables false
set_option linter.unusedSimpArgs false
namespace Go.Gl
open Go.Proofs Go.Proofs.Ytoeapenknlfffaa Go.Pl

/-- what is drawn: a prime, a number and two lists of rows -/
def Drawn2 (h : AH) (r : Value) (h' : AH) : Prop := ∃ (p n : Int) (b1 k1 b2 k2 : Nat) (a b : List (List Int)), r = .tuple #[.int .i64 p, .int .i64 n, .slice (some ⟨b1, 0, none⟩) k1 1, .slice (some ⟨b2, 0, none⟩) k2 1] ∧ RII h' (.slice (some ⟨b1, 0, none⟩) k1 1) a ∧ RII h' (.slice (some ⟨b2, 0, none⟩) k2 1) b ∧ Le h h'
def Drawn1 (h : AH) (r : Value) (h' : AH) : Prop := ∃ (p n : Int) (b1 k1 : Nat) (a : List (List Int)), r = .tuple #[.int .i64 p, .int .i64 n, .slice (some ⟨b1, 0, none⟩) k1 1] ∧ RII h' (.slice (some ⟨b1, 0, none⟩) k1 1) a ∧ Le h h'

theorem big_c (h : AH) (v : Value) (xs : List Int) (hx : R8 h v xs) : ACalls Try.prog 6 [v] h (fun r h' => r = .bool (decide (xs.length > 4096)) ∧ h' = h) := by
  obtain ⟨bc, oc, kc, hx⟩ := hx.can
  refine ACalls.wk (args' := [.slice (some ⟨bc, oc, none⟩) xs.length 0]) ?_ (.cons kc .nil)
  refine ACalls.of Tt.tab Try.func6 rfl (by kernel_rfl) Try.ntmps6 _ rfl rfl (fun hw => ?_)
  refine FinX.keep hw (Le.refl _) rfl ⟨?_, rfl⟩
  simp
  omega

theorem likeInts_c (h : AH) (va vb : Value) (a b : List Int) (ha : RI h va a) (hb : RI h vb b) (e : a = b) : ACalls Try.prog 12 [va, vb] h (fun r h' => r = .bool true ∧ h' = h) := by
  subst e
  obtain ⟨b1, o1, k1, ha⟩ := ha.can
  obtain ⟨b2, o2, k2, hb⟩ := hb.can
  refine ACalls.wk (args' := [.slice (some ⟨b1, o1, none⟩) a.length 0, .slice (some ⟨b2, o2, none⟩) a.length 0]) ?_ (.cons k1 (.cons k2 .nil))
  have c1 := ha.cells rfl
  have hm := ha.1
  have c2 := hb.cells rfl
  refine ACalls.of Tt.tab Try.func12 rfl (by kernel_rfl) Try.ntmps12 _ rfl rfl (fun hw => ?_)
  refine BIf.no (by simp) ?_
  refine ⟨⟨[0, 1, 4, 5], fun n' vs g => ∃ i : Nat, n' = a.length - i ∧ i ≤ a.length ∧ g = h ∧ vs = [.slice (some ⟨b1, o1, none⟩) a.length 0, .slice (some ⟨b2, o2, none⟩) a.length 0, .bool false, .int .i64 i], _, ⟨0, rfl, Nat.zero_le _, rfl, rfl⟩, ?_⟩⟩
  rintro n' vs g ⟨i, rfl, hi, rfl, rfl⟩
  refine BIf.mk (fun h2 => ?_) (fun h2 => ?_)
  · have hlt : i < a.length := by simpa using h2
    refine DrawX.of Tt.tab follows_any [] [] [0, 1, 2, 3, 4, 5, 6, 7, 8] rfl (by kernel_rfl) (by kernel_rfl) ?_
    refine IdxX.mk (by omega) (by omega) ?_
    refine CS.ith c1 (Le.refl _) hlt ?_
    refine IdxX.mk (by omega) (by omega) ?_
    refine CS.ith c2 (Le.refl _) hlt ?_
    refine BIf.no (by simp) ?_
    refine WR.as (r := ((i + 1 : Nat) : Int)) (by omega) ?_
    exact ⟨a.length - (i + 1), by omega, i + 1, rfl, hlt, rfl, rfl⟩
  exact FinX.keep hw (Le.refl _) rfl ⟨rfl, rfl⟩

theorem rows5_c (h : AH) (va vb : Value) (a b : List (List Int)) (ha : RII h va a) (hb : RII h vb b) (e : a = b) : ACalls Try.prog 62 [va, vb] h (fun r h' => r = .bool true ∧ h' = h) := by
  subst e
  obtain ⟨b1, o1, k1, ha⟩ := ha.can
  obtain ⟨b2, o2, k2, hb⟩ := hb.can
  refine ACalls.wk (args' := [.slice (some ⟨b1, o1, none⟩) a.length 0, .slice (some ⟨b2, o2, none⟩) a.length 0]) ?_ (.cons k1 (.cons k2 .nil))
  have c1 := ha.cells rfl
  have hm := ha.1
  have c2 := hb.cells rfl
  refine ACalls.of Tt.tab Try.func62 rfl (by kernel_rfl) Try.ntmps62 _ rfl rfl (fun hw => ?_)
  refine BIf.no (by simp) ?_
  refine ⟨⟨[0, 1, 4, 5], fun n' vs g => ∃ i : Nat, n' = a.length - i ∧ i ≤ a.length ∧ g = h ∧ vs = [.slice (some ⟨b1, o1, none⟩) a.length 0, .slice (some ⟨b2, o2, none⟩) a.length 0, .bool false, .int .i64 i], _, ⟨0, rfl, Nat.zero_le _, rfl, rfl⟩, ?_⟩⟩
  rintro n' vs g ⟨i, rfl, hi, rfl, rfl⟩
  refine BIf.mk (fun h2 => ?_) (fun h2 => ?_)
  · have hlt : i < a.length := by simpa using h2
    refine DrawX.of Tt.tab follows_any [] [] [0, 1, 2, 3, 4, 5, 6, 7, 8, 9] rfl (by kernel_rfl) (by kernel_rfl) ?_
    refine IdxX.mk (by omega) (by omega) ?_
    refine CS.rowY c1 (Le.refl _) hlt fun b3 o3 r3 => ?_
    refine IdxX.mk (by omega) (by omega) ?_
    refine CS.rowY c2 (Le.refl _) hlt fun b4 o4 r4 => ?_
    refine QCall.of (fun g2 hl => likeInts_c g2 _ _ _ _ (RI.le _ _ _ _ hl r3) (RI.le _ _ _ _ hl r4) rfl) rfl ?_
    refine BIf.no (by simp) ?_
    refine WR.as (r := ((i + 1 : Nat) : Int)) (by omega) ?_
    exact ⟨a.length - (i + 1), by omega, i + 1, rfl, hlt, rfl, rfl⟩
  exact FinX.keep hw (Le.refl _) rfl ⟨rfl, rfl⟩

end Go.Gl

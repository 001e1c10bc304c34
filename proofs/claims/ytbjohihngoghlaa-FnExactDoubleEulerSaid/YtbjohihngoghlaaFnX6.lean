/- Chapter 3: DoubleEuler. No condition. -/
import Derived.Test.YtbjohihngoghlaaFnX5
set_option linter.unusedVariables false
set_option linter.unusedSimpArgs false
namespace Go.Gl
open Go.Proofs Go.Proofs.Ytbjohihngoghlaa Go.Pl

def deT (x : SDouble) (i j : Nat) : Int := ent x.dims i j * (1 - 2 * (((i + j : Nat) : Int) % 2))
def deC (x : SDouble) (i j : Nat) : Int := sm j (deT x i)
/-- the Euler number up to a cell -/
def deN (x : SDouble) (i j : Nat) : Int := sm i (fun i' => deC x i' (dH x)) + deC x i j
noncomputable def dEuler (x : SDouble) : Int × Int := if dOk x then (deN x (dW x) 0, 0) else (0, 1)
theorem deN_col (x : SDouble) (i : Nat) : deN x i (dH x) = deN x (i + 1) 0 := by simp [deN, sm, deC]
theorem deN_next (x : SDouble) (i j : Nat) : deN x i (j + 1) = deN x i j + deT x i j := by simp only [deN, deC, sm]; omega
theorem deT_rng {x : SDouble} (h : DHead x) {i j : Nat} (hi : i < dW x) (hj : j < dH x) : -4 ≤ deT x i j ∧ deT x i j ≤ 4 := by
  have h1 := h.num i hi j hj
  unfold deT
  rcases (by omega : (((i + j : Nat) : Int)) % 2 = 0 ∨ (((i + j : Nat) : Int)) % 2 = 1) with e | e <;> rw [e] <;> omega
theorem deC_rng {x : SDouble} (h : DHead x) {i : Nat} (hi : i < dW x) : ∀ j : Nat, j ≤ dH x → -(4 * (j : Int)) ≤ deC x i j ∧ deC x i j ≤ 4 * j
  | 0, _ => by simp [deC, sm]
  | j + 1, hj => by
    have h1 := deC_rng h hi j (by omega)
    have h2 := deT_rng h hi (show j < dH x by omega)
    have h3 : deC x i (j + 1) = deC x i j + deT x i j := rfl
    omega
theorem deN_rng {x : SDouble} (h : DHead x) {i : Nat} (hi : i ≤ dW x) {j : Nat} (hj : j ≤ dH x) (hij : i < dW x ∨ j = 0) : -100 ≤ deN x i j ∧ deN x i j ≤ 100 := by
  have hW := h.w
  have hH := h.h
  have h1 : ∀ i : Nat, i ≤ dW x → -(16 * (i : Int)) ≤ sm i (fun i' => deC x i' (dH x)) ∧ sm i (fun i' => deC x i' (dH x)) ≤ 16 * i := fun i => by
    induction i with
    | zero => intro _; simp [sm]
    | succ i ih =>
      intro hi
      have h2 := ih (by omega)
      have h3 := deC_rng h (show i < dW x by omega) (dH x) (Nat.le_refl _)
      simp only [sm]
      omega
  have h2 := h1 i hi
  have h3 : -(4 * (j : Int)) ≤ deC x i j ∧ deC x i j ≤ 4 * j := by
    rcases hij with h4 | rfl
    · exact deC_rng h h4 j hj
    · simp [deC, sm]
  unfold deN
  omega

theorem signD_c (h : AH) (k : Nat) (hk : k ≤ 1000000) : ACalls Try.prog 126 [.int .i64 k] h (fun r h' => r = .int .i64 (1 - ((k : Int) % 2) * 2) ∧ h' = h) := by
  refine ACalls.of Tt.tab Try.func126 rfl (by kernel_rfl) Try.ntmps126 _ rfl rfl (fun hw => ?_)
  refine TM.pos ?_
  refine WR.i64 ?_
  refine WR.i64 ?_
  exact FinX.keep hw (Le.refl _) rfl ⟨rfl, rfl⟩
def StEuler (x : SDouble) (P : DP) (b4 b : Nat) (i j : Nat) (Rs : List Res) : Prop := Rs = [.bx b4 2 1 [.int .i64 (deN x i j)], .bx b 71 4 (cD x P)]
theorem doubleEuler1_c (n : Nat) (h0 : AH) (x : SDouble) (P : DP) (q : QD h0 x P) (hd : DHead x) (b4 b : Nat) (i j : Nat) (hi : i < dW x) (hj : j < dH x) :
    Does Try.prog 125 [.int .i64 i, .int .i64 j, .pointer (some ⟨b4, 0, none⟩), .pointer (some ⟨b, 0, none⟩)] n h0 (StEuler x P b4 b i j) (StEuler x P b4 b i (j + 1)) := by
  refine Does.of fun M hb h Rs hlen hle hs S => ?_
  subst hs
  refine ACalls.of Tt.tab Try.func125 rfl (by kernel_rfl) Try.ntmps125 _ rfl rfl (fun hw => ?_)
  have hW := hd.w
  have hH := hd.h
  have r1 := deN_rng hd (i := i) (j := j) (by omega) (by omega) (.inl hi)
  have r2 := deT_rng hd hi hj
  have r3 := hd.num i hi j hj
  have e1 : (1 - (((i + j : Nat) : Int) % 2) * 2) * ent x.dims i j = deT x i j := by
    unfold deT
    rw [Int.mul_comm]
    congr 1
    omega
  refine DrawX.of Tt.tab follows_any [] [11] [0, 1, 2, 3, 4, 5, 6, 7, 8, 9, 10, 11] rfl (by kernel_rfl) (by kernel_rfl) ?_
  refine LoadX.same (v := .int .i64 (deN x i j)) (S.at_ 0 rfl) rfl ?_
  refine WR.as (r := ((i + j : Nat) : Int)) (by omega) ?_
  refine QCall.of (fun g2 hl => signD_c g2 (i + j) (by omega)) rfl ?_
  refine LoadX.same (v := vD x P) (S.at_ 1 rfl) rfl ?_
  refine QCall.of (fun g2 hl => dim_c g2 _ x i j (q.reads ((hle.trans S.le).trans hl)) hd) rfl ?_
  rw [dimZ_in hi hj]
  refine WR.as (r := deT x i j) e1 ?_
  refine WR.as (r := deN x i (j + 1)) (by rw [deN_next]) ?_ (by rw [deN_next]; omega) (by rw [deN_next]; omega)
  refine S.put 0 rfl fun g S => ?_
  exact FinX.here (by have := S.le.len; omega) ⟨rfl, _, rfl, S⟩
theorem dEulerI_c (h : AH) (v : Value) (x : SDouble) (hx : RDouble h v x) : ACalls Try.prog 48 [v] h (fun r h' => r = .tuple #[.int .i64 (dEuler x).1, .int .i64 (dEuler x).2] ∧ h' = h) := by
  obtain ⟨P, kx, qx⟩ := hx.at_
  refine ACalls.wk (args' := [vD x P]) ?_ (.cons kx .nil)
  refine ACalls.of Tt.tab Try.func48 rfl (by kernel_rfl) Try.ntmps48 _ rfl rfl (fun hw => ?_)
  have S := Sep.start h
  refine S.new fun b g S => ?_
  refine LoadX.same (v := vD x P) (S.at_ 0 rfl) rfl ?_
  refine CallX.same (isDoubleI_c _ _ x (qx.reads S.le)) ?_
  rintro r g ⟨rfl, rfl⟩
  unfold dEuler
  refine BIf.mk (fun h1 => ?_) (fun h1 => ?_)
  · have h1 : dOk x = false := by simpa using h1
    exact FinX.keep2 hw S.le rfl rfl ⟨by rw [h1]; rfl, rfl⟩
  have h1 : dOk x = true := by simpa using h1
  have hd := (dOk_mk h1).toDHead
  have hW := hd.w
  have hH := hd.h
  refine S.new fun b4 g S => ?_
  refine S.put 0 rfl fun g S => ?_
  refine LoadX.same (v := vD x P) (S.at_ 1 rfl) rfl ?_
  refine SepM.does [] S (eachCell_c h.length h _ x (qx.reads (Le.refl _)) ⟨hW.1, hW.2, hH.2⟩ _ _ (StEuler x P b4 b) (fun i j hi hj => doubleEuler1_c h.length h x P qx hd b4 b i j hi hj) (fun i Rs hi hs => by unfold StEuler at hs ⊢; rw [hs, deN_col])) (Le.refl _) (by show _ = _; rfl) fun g' Rs' gl hs' S => ?_
  unfold StEuler at hs'
  subst hs'
  refine LoadX.same (v := .int .i64 (deN x (dW x) 0)) (S.at_ 0 rfl) rfl ?_
  exact FinX.keep2 hw S.le rfl rfl ⟨by rw [h1]; rfl, rfl⟩

theorem dEulerS_c (h : AH) (v : Value) (x : SDouble) (hx : RDouble h v x) : ACalls Try.prog 47 [v] h (fun r h' => r = .tuple #[.int .i64 (dEuler x).1, .int .i64 (dEuler x).2] ∧ h' = h) := by
  obtain ⟨P, kx, qx⟩ := hx.at_
  refine ACalls.wk (args' := [vD x P]) ?_ (.cons kx .nil)
  refine ACalls.of Tt.tab Try.func47 rfl (by kernel_rfl) Try.ntmps47 _ rfl rfl (fun hw => ?_)
  have S := Sep.start h
  have c1 := RS.cells qx.1 rfl
  refine S.new fun b g S => ?_
  refine LoadX.same (v := vD x P) (S.at_ 0 rfl) rfl ?_
  refine CallX.same (l03Is_c _ _ x (qx.reads S.le)) ?_
  rintro r g ⟨rfl, rfl⟩
  unfold dEuler
  refine BIf.mk (fun h1 => ?_) (fun h1 => ?_)
  · have h1 : dOk x = false := by simpa using h1
    exact FinX.keep2 hw S.le rfl rfl ⟨by rw [h1]; rfl, rfl⟩
  have h1 : dOk x = true := by simpa using h1
  have hd := (dOk_mk h1).toDHead
  have hW := hd.w
  have hH := hd.h
  have eW : x.dims.length = dW x := rfl
  rename AH => g
  refine ⟨⟨[1, 4, 5], fun n' vs g2 => ∃ i : Nat, n' = dW x - i ∧ i ≤ dW x ∧ g2 = g ∧ vs = [.pointer (some ⟨b, 0, none⟩), .int .i64 (deN x i 0), .int .i64 i], _, ⟨0, rfl, Nat.zero_le _, rfl, rfl⟩, ?_⟩⟩
  rintro n' vs g2 ⟨i, rfl, hi, rfl, rfl⟩
  refine LoadX.same (v := vD1 x P) (S.at_ 0 rfl) rfl ?_
  refine BIf.mk (fun h2 => ?_) (fun h2 => ?_)
  · have hlt : i < dW x := by simp at h2; omega
    have hcol := hd.col i hlt
    refine ⟨⟨[1, 4, 5, 6], fun n' vs g3 => ∃ j : Nat, n' = dH x - j ∧ j ≤ dH x ∧ g3 = g2 ∧ vs = [.pointer (some ⟨b, 0, none⟩), .int .i64 (deN x i j), .int .i64 i, .int .i64 j], _, ⟨0, rfl, Nat.zero_le _, rfl, rfl⟩, ?_⟩⟩
    rintro n' vs g3 ⟨j, rfl, hj, rfl, rfl⟩
    refine LoadX.same (v := vD1 x P) (S.at_ 0 rfl) rfl ?_
    refine IdxX.mk (by omega) (by omega) ?_
    refine c1.row S.le (show i < x.dims.length from hlt) fun b4 o4 c4 => ?_
    refine BIf.mk (fun h3 => ?_) (fun h3 => ?_)
    · have hjl : j < dH x := by simp at h3; omega
      have r1 := deN_rng hd (i := i) (j := j) (by omega) (by omega) (.inl hlt)
      have r2 := deT_rng hd hlt hjl
      have r3 := hd.num i hlt j hjl
      refine LoadX.same (v := vD1 x P) (S.at_ 0 rfl) rfl ?_
      refine IdxX.mk (by omega) (by omega) ?_
      refine c1.row S.le (show i < x.dims.length from hlt) fun b5 o5 c5 => ?_
      refine IdxX.mk (by omega) (by omega) ?_
      refine c5.ith S.le (show j < (row x.dims i).length by omega) ?_
      refine WR.as (r := ((i + j : Nat) : Int)) (by omega) ?_
      refine TM.pos ?_
      refine WR.i64 ?_
      refine WR.i64 ?_
      refine WR.as (r := deT x i j) rfl ?_
      refine WR.as (r := deN x i (j + 1)) (by rw [deN_next]) ?_ (by rw [deN_next]; omega) (by rw [deN_next]; omega)
      refine WR.i64 ?_
      exact ⟨dH x - (j + 1), by omega, j + 1, rfl, hjl, rfl, rfl⟩
    · have hj2 : j = dH x := by simp at h3; omega
      subst hj2
      refine WR.i64 ?_
      exact ⟨dW x - (i + 1), by omega, i + 1, rfl, hlt, rfl, by rw [← deN_col]; rfl⟩
  · have hi2 : i = dW x := by simp at h2; omega
    subst hi2
    exact FinX.keep2 hw S.le rfl rfl ⟨by rw [h1]; rfl, rfl⟩

end Go.Gl

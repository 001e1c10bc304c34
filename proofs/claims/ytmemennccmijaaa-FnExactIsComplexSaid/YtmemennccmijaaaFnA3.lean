/- Chapter 1: EulerNumber. No condition. -/
import Derived.Test.YtmemennccmijaaaFnA2
set_option linter.unusedVariables false
set_option linter.unusedSimpArgs false
namespace Go.Gl
open Go.Proofs Go.Proofs.Ytmemennccmijaaa Go.Pl

def eulerN (dims : List Int) (k : Nat) : Int := sm k (fun i => ith dims i * (1 - 2 * ((i : Int) % 2)))
def euler (x : SComplex) : Int × Int := if complexOk x then (eulerN x.dims x.dims.length, 0) else (0, 1)
theorem eulerN_rng {x : SComplex} (hh : HeadOk x) : ∀ k : Nat, -(8 * (k : Int)) ≤ eulerN x.dims k ∧ eulerN x.dims k ≤ 8 * k
  | 0 => by simp [eulerN, sm]
  | k + 1 => by
    have h1 := eulerN_rng hh k
    have h2 := hh.dims k
    have h3 : eulerN x.dims (k + 1) = eulerN x.dims k + ith x.dims k * (1 - 2 * ((k : Int) % 2)) := rfl
    rw [h3]
    rcases (by omega : (k : Int) % 2 = 0 ∨ (k : Int) % 2 = 1) with e | e <;> rw [e] <;> omega
theorem complexOk_head {x : SComplex} (h : complexOk x = true) : HeadOk x := by
  simp only [complexOk, Bool.and_eq_true] at h
  exact headOk_mk h.1.1


theorem eulerI_c (h : AH) (v : Value) (x : SComplex) (hx : RComplex h v x) : ACalls Try.prog 21 [v] h (fun r h' => r = .tuple #[.int .i64 (euler x).1, .int .i64 (euler x).2] ∧ h' = h) := by
  obtain ⟨b1, o1, b2, o2, kx, qx⟩ := hx.can
  refine ACalls.wk (args' := [.agg #[.int .i64 x.prime, .slice (some ⟨b1, o1, none⟩) x.dims.length 0, .slice (some ⟨b2, o2, none⟩) x.maps.length 0]]) ?_ (.cons kx .nil)
  refine ACalls.of Tt.tab Try.func21 rfl (by kernel_rfl) Try.ntmps21 _ rfl rfl (fun hw => ?_)
  have S := Sep.start h
  have c1 := RS.cells qx.1 rfl
  refine S.new fun b g S => ?_
  refine LoadX.same (v := .agg #[.int .i64 x.prime, .slice (some ⟨b1, o1, none⟩) x.dims.length 0, .slice (some ⟨b2, o2, none⟩) x.maps.length 0]) (S.at_ 0 rfl) rfl ?_
  refine CallX.same (isComplexI_c _ _ x ⟨_, _, rfl, qx.le S.le⟩) ?_
  rintro r g ⟨rfl, rfl⟩
  unfold euler
  refine BIf.mk (fun h1 => ?_) (fun h1 => ?_)
  · have h1 : complexOk x = false := by simpa using h1
    exact FinX.keep2 hw S.le rfl rfl ⟨by rw [h1]; rfl, rfl⟩
  have h1 : complexOk x = true := by simpa using h1
  have hh := complexOk_head h1
  have hhi := hh.hi
  refine LoadX.same (v := .slice (some ⟨b1, o1, none⟩) x.dims.length 0) (S.at_ 0 rfl) rfl ?_
  refine ⟨⟨[4, 11, 12, 13], fun n' vs g2 => ∃ k : Nat, n' = x.dims.length - k ∧ k ≤ x.dims.length ∧ g2 = g ∧ vs = [.int .i64 (eulerN x.dims k), .slice (some ⟨b1, o1, none⟩) x.dims.length 0, .int .i64 x.dims.length, .int .i64 k], _, ⟨0, rfl, Nat.zero_le _, rfl, rfl⟩, ?_⟩⟩
  rintro n' vs g2 ⟨k, rfl, hk, rfl, rfl⟩
  refine BIf.mk (fun h2 => ?_) (fun h2 => ?_)
  · have hlt : k < x.dims.length := by simpa using h2
    have e1 := eulerN_rng hh k
    have e2 := hh.dims k
    have e3 := eulerN_rng hh (k + 1)
    have e4 : eulerN x.dims (k + 1) = eulerN x.dims k + ith x.dims k * (1 - 2 * ((k : Int) % 2)) := rfl
    refine IdxX.mk (by omega) (by omega) ?_
    refine c1.ith S.le hlt ?_
    refine TM.pos ?_
    refine WR.as (r := 2 * ((k : Int) % 2)) (by omega) ?_
    refine WR.i64 ?_
    refine WR.i64 ?_
    refine WR.as (r := eulerN x.dims (k + 1)) rfl ?_
    refine WR.i64 ?_
    exact ⟨x.dims.length - (k + 1), by omega, k + 1, rfl, hlt, rfl, rfl⟩
  · have hk2 : k = x.dims.length := by simp at h2; omega
    subst hk2
    exact FinX.keep2 hw S.le rfl rfl ⟨by rw [h1]; rfl, rfl⟩

theorem eulerS_c (h : AH) (v : Value) (x : SComplex) (hx : RComplex h v x) : ACalls Try.prog 20 [v] h (fun r h' => r = .tuple #[.int .i64 (euler x).1, .int .i64 (euler x).2] ∧ h' = h) := by
  obtain ⟨b1, o1, b2, o2, kx, qx⟩ := hx.can
  refine ACalls.wk (args' := [.agg #[.int .i64 x.prime, .slice (some ⟨b1, o1, none⟩) x.dims.length 0, .slice (some ⟨b2, o2, none⟩) x.maps.length 0]]) ?_ (.cons kx .nil)
  refine ACalls.of Tt.tab Try.func20 rfl (by kernel_rfl) Try.ntmps20 _ rfl rfl (fun hw => ?_)
  have S := Sep.start h
  have c1 := RS.cells qx.1 rfl
  refine S.new fun b g S => ?_
  refine LoadX.same (v := .agg #[.int .i64 x.prime, .slice (some ⟨b1, o1, none⟩) x.dims.length 0, .slice (some ⟨b2, o2, none⟩) x.maps.length 0]) (S.at_ 0 rfl) rfl ?_
  refine CallX.same (l01Is_c _ _ x ⟨_, _, rfl, qx.le S.le⟩) ?_
  rintro r g ⟨rfl, rfl⟩
  unfold euler
  refine BIf.mk (fun h1 => ?_) (fun h1 => ?_)
  · have h1 : complexOk x = false := by simpa using h1
    exact FinX.keep2 hw S.le rfl rfl ⟨by rw [h1]; rfl, rfl⟩
  have h1 : complexOk x = true := by simpa using h1
  have hh := complexOk_head h1
  have hhi := hh.hi
  refine ⟨⟨[1, 4, 5], fun n' vs g2 => ∃ k : Nat, n' = x.dims.length - k ∧ k ≤ x.dims.length ∧ g2 = g ∧ vs = [.pointer (some ⟨b, 0, none⟩), .int .i64 (eulerN x.dims k), .int .i64 k], _, ⟨0, rfl, Nat.zero_le _, rfl, rfl⟩, ?_⟩⟩
  rintro n' vs g2 ⟨k, rfl, hk, rfl, rfl⟩
  refine LoadX.same (v := .slice (some ⟨b1, o1, none⟩) x.dims.length 0) (S.at_ 0 rfl) rfl ?_
  refine BIf.mk (fun h2 => ?_) (fun h2 => ?_)
  · have hlt : k < x.dims.length := by simpa using h2
    have e1 := eulerN_rng hh k
    have e2 := hh.dims k
    have e3 := eulerN_rng hh (k + 1)
    have e4 : eulerN x.dims (k + 1) = eulerN x.dims k + ith x.dims k * (1 - 2 * ((k : Int) % 2)) := rfl
    refine LoadX.same (v := .slice (some ⟨b1, o1, none⟩) x.dims.length 0) (S.at_ 0 rfl) rfl ?_
    refine IdxX.mk (by omega) (by omega) ?_
    refine c1.ith S.le hlt ?_
    refine TM.pos ?_
    refine WR.i64 ?_
    refine WR.i64 ?_
    refine WR.i64 ?_
    refine WR.as (r := eulerN x.dims (k + 1)) rfl ?_
    refine WR.i64 ?_
    exact ⟨x.dims.length - (k + 1), by omega, k + 1, rfl, hlt, rfl, rfl⟩
  · have hk2 : k = x.dims.length := by simp at h2; omega
    subst hk2
    exact FinX.keep2 hw S.le rfl rfl ⟨by rw [h1]; rfl, rfl⟩

end Go.Gl

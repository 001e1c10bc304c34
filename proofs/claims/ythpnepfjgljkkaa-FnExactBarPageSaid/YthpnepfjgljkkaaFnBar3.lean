/- Bars: CountLasting, LongestBar. No condition. -/
import Derived.Test.YthpnepfjgljkkaaFnBar2
set_option linter.unusedVariables false
set_option linter.unusedSimpArgs false
namespace Go.Gl
open Go.Proofs Go.Proofs.Ythpnepfjgljkkaa Go.Pl


/-- counting, with a function value -/
theorem barCount_c (h : AH) (v : Value) (xs : List SBar) (g : Nat) (cap : Array Value) (p : SBar → Bool) (hx : RB h v xs) (hl : xs.length ≤ 1000000)
    (hp : ∀ h2 x, Le h h2 → ACalls Try.prog g (vB x :: cap.toList) h2 (fun r h' => r = .bool (p x) ∧ h' = h2)) : ACalls Try.prog 70 [v, .func (.func g) #[] cap] h (fun r h' => r = .int .i64 (countN p xs xs.length) ∧ Le h h') := by
  obtain ⟨hm, b, o, k1, c1⟩ := hx
  refine ACalls.wk (args' := [.slice (some ⟨b, o, none⟩) xs.length 0, .func (.func g) #[] cap]) ?_ (.cons k1 (.cons (Wk.refl _) .nil))
  refine ACalls.of Tt.tab Try.func70 rfl (by kernel_rfl) Try.ntmps70 _ rfl rfl (fun hw => ?_)
  refine ⟨⟨[1, 5, 8, 9, 10], fun n' vs h' => ∃ k : Nat, n' = xs.length - k ∧ k ≤ xs.length ∧ Le h h' ∧ vs = [.func (.func g) #[] cap, .int .i64 (countN p xs k), .slice (some ⟨b, o, none⟩) xs.length 0, .int .i64 xs.length, .int .i64 k], _, ⟨0, rfl, Nat.zero_le _, Le.refl _, rfl⟩, ?_⟩⟩
  rintro n' vs h' ⟨k, rfl, hk, L, rfl⟩
  have e1 := countN_rng p xs k
  refine BIf.mk (fun h2 => ?_) (fun h2 => ?_)
  · have hlt : k < xs.length := by simpa using h2
    have S : Sep h.length h h' [] := (Sep.start h).grow L
    refine IdxX.mk (by omega) (by omega) ?_
    refine CB.load c1 S.le hlt ?_
    refine S.new fun b3 h' S => ?_
    refine S.put 0 rfl fun h' S => ?_
    refine LoadX.same (v := vB (bar xs k)) (S.at_ 0 rfl) rfl ?_
    refine CallX.same (hp _ (bar xs k) S.le) ?_
    rintro r h3 ⟨rfl, rfl⟩
    refine BIf.mk (fun h4 => ?_) (fun h4 => ?_)
    · refine WR.i64 ?_
      refine WR.i64 ?_
      exact ⟨xs.length - (k + 1), by omega, k + 1, rfl, hlt, S.le, by simp only [countN]; rw [if_pos h4]; rfl⟩
    · refine WR.i64 ?_
      exact ⟨xs.length - (k + 1), by omega, k + 1, rfl, hlt, S.le, by simp only [countN]; rw [if_neg (by simp [h4])]; rfl⟩
  · have hk2 : k = xs.length := by simp at h2; omega
    subst hk2
    exact FinX.here L.len ⟨rfl, L⟩

end Go.Gl

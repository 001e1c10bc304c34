/- Chapter 7: the code of a whole complex and a prime. No condition. -/
import Derived.Test.YtjimjoiedmccnaaFnW3
set_option linter.unusedVariables false
set_option linter.unusedSimpArgs false
namespace Go.Gl
open Go.Proofs Go.Proofs.Ytjimjoiedmccnaa Go.Pl


theorem l07Code_c (h : AH) (v : Value) (x : SWhole) (p : Int) (hx : RWhole h v x) : ACalls Try.prog 113 [v, .int .i64 p] h (fun r h' => r = .int .i64 (if wholeOk x then if prime p then 0 else 2 else 1) ∧ h' = h) := by
  obtain ⟨b1, o1, b2, o2, kx, qx⟩ := hx.can
  refine ACalls.wk (args' := [.agg #[.slice (some ⟨b1, o1, none⟩) x.dims.length 0, .slice (some ⟨b2, o2, none⟩) x.maps.length 0], .int .i64 p]) ?_ (.cons kx (.cons (Wk.refl _) .nil))
  refine ACalls.of Tt.tab Try.func113 rfl (by kernel_rfl) Try.ntmps113 _ rfl rfl (fun hw => ?_)
  have S := Sep.start h
  refine S.new fun b3 g S => ?_
  refine LoadX.same (v := .agg #[.slice (some ⟨b1, o1, none⟩) x.dims.length 0, .slice (some ⟨b2, o2, none⟩) x.maps.length 0]) (S.at_ 0 rfl) rfl ?_
  refine CallX.same (l07Is_c _ _ x ⟨_, _, rfl, qx.le S.le⟩) ?_
  rintro r g' ⟨rfl, rfl⟩
  refine BIf.mk (fun e1 => ?_) (fun e1 => ?_)
  · have e1 : wholeOk x = false := by simpa using e1
    exact FinX.keep hw S.le rfl ⟨by rw [e1]; rfl, rfl⟩
  have e1 : wholeOk x = true := by simpa using e1
  rw [e1]
  refine CallX.same (l01Prime_c _ p) ?_
  rintro r g' ⟨rfl, rfl⟩
  refine BIf.mk (fun e2 => ?_) (fun e2 => ?_)
  · have e2 : prime p = false := by simpa using e2
    exact FinX.keep hw S.le rfl ⟨by rw [e2]; rfl, rfl⟩
  have e2 : prime p = true := by simpa using e2
  exact FinX.keep hw S.le rfl ⟨by rw [e2]; rfl, rfl⟩

end Go.Gl

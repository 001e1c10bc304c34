/- Functions of chapter 1: combinations, remainders, first places. No condition. -/
import Derived.Test.YthpnepfjgljkkaaGlT
import Derived.Test.YthpnepfjgljkkaaFn1b
set_option linter.unusedVariables false
set_option linter.unusedSimpArgs false
namespace Go.Gl
open Go.Proofs Go.Proofs.Ythpnepfjgljkkaa Go.Pl


theorem l01Mod_c (h : AH) (p x : Int) (hp : 2 ≤ p ∧ p ≤ 7) (hx : -1000000000000 ≤ x ∧ x ≤ 1000000000000) : ACalls Try.prog 112 [.int .i64 p, .int .i64 x] h (fun r h' => r = .int .i64 (x % p) ∧ h' = h) := by
  refine ACalls.of Tt.tab Try.func112 rfl (by kernel_rfl) Try.ntmps112 _ rfl rfl (fun hw => ?_)
  have e1 := Int.tmod_lt_of_pos x (by omega : 0 < p)
  have e2 := Int.lt_tmod_of_pos x (by omega : 0 < p)
  refine ⟨by omega, ?_⟩
  refine WR.i64 ?_
  refine TM.pos ?_
  refine FinX.keep hw (Le.refl _) rfl ⟨?_, rfl⟩
  rw [Int.add_emod_right, tmod_emod]

theorem l01Own_c (h : AH) (v : Value) (xs : List Int) (hx : RI h v xs) (hl : xs.length ≤ 1000000000) : ACalls Try.prog 110 [v] h (Made OI h xs) := by
  obtain ⟨hm, b, o, k1, c1⟩ := hx
  refine ACalls.madeI (ACalls.wk (args' := [.slice (some ⟨b, o, none⟩) xs.length 0]) ?_ (.cons k1 .nil))
  refine ACalls.of Tt.tab Try.func110 rfl (by kernel_rfl) Try.ntmps110 _ rfl rfl (fun hw => ?_)
  have S := Sep.start h
  refine S.new fun b1 g S => ?_
  have S := S.bx_rc 0 (k := 0) rfl rfl
  refine S.appI 0 rfl (c1.le EI.le S.le) (by omega) fun b2 g S => ?_
  have S := S.rc_tr (xs := xs) 0 rfl (by omega)
  exact S.fin 0 rfl

end Go.Gl

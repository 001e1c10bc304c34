/- Copies of rows with strong results. No condition. -/
import Derived.Test.YtoeapenknlfffaaFnA1
import Derived.Test.YtoeapenknlfffaaGlU
set_option linter.unusedVariables false
set_option linter.unusedSimpArgs false
namespace Go.Gl
open Go.Proofs Go.Proofs.Ytoeapenknlfffaa Go.Pl

theorem SepM.finR {h h0 : AH} {Rs : List Res} (S : Sep h0.length h0 h Rs) (j : Nat) {e : TypeId} {s k : Nat} {v : Value} {cells : List Value} (hj : gt Rs j = some (.rc e s h0.length v k cells)) : FinX h0 (MadeR e s h0 k cells) v h :=
  FinX.here S.le.len (by
    obtain ⟨F, b, h1, h2⟩ := S.get hj
    exact ⟨b, h1.only, h2, S.le⟩)

theorem cloneR_c (h : AH) (v : Value) (xs : List Int) (hx : RI h v xs) (hl : xs.length ≤ 1000000000) : ACalls Try.prog 57 [v] h (MadeR tI 1 h xs.length (xs.map (.int .i64))) := by
  obtain ⟨hm, b, o, hw1, hc⟩ := hx
  refine ACalls.wk (args' := [.slice (some ⟨b, o, none⟩) xs.length 0]) ?_ (.cons hw1 .nil)
  refine ACalls.of Tt.tab Try.func57 rfl (by kernel_rfl) Try.ntmps57 _ rfl rfl (fun hw => ?_)
  have S := Sep.start h
  refine ⟨fun h0 _ => ?_, ?_⟩
  · have : xs = [] := List.length_eq_zero_iff.1 h0
    subst this
    refine BIf.yes rfl ?_
    exact (S.nilrc tI 1).finR 0 rfl
  · refine BIf.no rfl ?_
    refine S.new fun b1 g S => ?_
    have S := S.bx_rc 0 (k := 0) rfl rfl
    refine S.appI 0 rfl (hc.le EI.le S.le) (by omega) fun b2 g S => ?_
    have S' : Sep h.length h g [.rc tI 1 h.length (.slice (some ⟨b2, 0, none⟩) (0 + xs.length) 1) (0 + xs.length) (xs.map (.int .i64))] := S
    have F : FinX h (MadeR tI 1 h xs.length (xs.map (.int .i64))) (.slice (some ⟨b2, 0, none⟩) (0 + xs.length) 1) g := by
      rw [Nat.zero_add] at S' ⊢
      exact S'.finR 0 rfl
    exact F

theorem l01OwnR_c (h : AH) (v : Value) (xs : List Int) (hx : RI h v xs) (hl : xs.length ≤ 1000000000) : ACalls Try.prog 92 [v] h (MadeR tI 1 h xs.length (xs.map (.int .i64))) := by
  obtain ⟨hm, b, o, k1, c1⟩ := hx
  refine ACalls.wk (args' := [.slice (some ⟨b, o, none⟩) xs.length 0]) ?_ (.cons k1 .nil)
  refine ACalls.of Tt.tab Try.func92 rfl (by kernel_rfl) Try.ntmps92 _ rfl rfl (fun hw => ?_)
  have S := Sep.start h
  refine S.new fun b1 g S => ?_
  have S := S.bx_rc 0 (k := 0) rfl rfl
  refine S.appI 0 rfl (c1.le EI.le S.le) (by omega) fun b2 g S => ?_
  have S' : Sep h.length h g [.rc tI 1 h.length (.slice (some ⟨b2, 0, none⟩) (0 + xs.length) 1) (0 + xs.length) (xs.map (.int .i64))] := S
  have F : FinX h (MadeR tI 1 h xs.length (xs.map (.int .i64))) (.slice (some ⟨b2, 0, none⟩) (0 + xs.length) 1) g := by
    rw [Nat.zero_add] at S' ⊢
    exact S'.finR 0 rfl
  exact F

end Go.Gl

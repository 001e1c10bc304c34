/- Calls of the library, whose contracts are proved over Go's own memory, seen in the plain view. No condition. -/
import Derived.Test.YthhilbeddkkigaaDoorGlG
import Derived.Below
set_option linter.unusedVariables false
namespace Go.Gl
open Go.RowKit
section
variable {P : Program} {ι : Nat → Io} {h : AH} {w : World}
theorem HR.below (hr : HR ι h w) {w' : World} (hb : Below w.heap.size w w') : HR ι h w' := by
  refine ⟨fun i b hl => ?_, hr.inj, hr.conc⟩
  obtain ⟨cs, e, fr, h1, h2⟩ := hr.blk i b hl
  exact ⟨cs, e, fr, by rw [hb.block _ (hr.lt hl)]; exact h1, h2⟩
theorem CRel.below (hr : HR ι h w) {w' : World} (hb : Below w.heap.size w w') : CRel ι h w ι h w' :=
  ⟨hr.below hb, fun _ _ => rfl, Nat.le_refl _, fun k hk _ => hb.block k hk, fun i b hl ho => .inr ⟨i, b, hl, ho, rfl⟩, hb.size, hb.os, hb.tape, hb.output⟩
/-- a function of the library that hands back a plain value and lays what nobody sees -/
theorem ACalls.lib {f : FuncId} {fn : Func} {c : Code} {args : List Value} {r : Value} (hf : P.funcs[f]? = some fn) (hb : fn.body = some c) (hname : (fn.name == "runtime.NumGoroutine") = false) (hr : ∀ (ι : Nat → Io) (n : Nat), VR ι n r r)
    (hc : ∀ ι w cargs, HR ι h w → cargs.size = args.length → (∀ (i : Nat) v, args[i]? = some v → ∃ u, cargs[i]? = some u ∧ VR ι h.length v u) → Calls P f cargs w fun e w' => e = .returned r ∧ Below w.heap.size w w') : ACalls P f args h (fun r' h' => r' = r ∧ h' = h) := by
  refine ⟨fun xs w => ?_, fun ι w cargs hr' hs ha => (hc ι w cargs hr' hs ha).mono fun e w' ⟨e1, e2⟩ => ⟨r, r, h, ι, e1, ⟨rfl, rfl⟩, hr _ _, CRel.below hr' e2⟩⟩
  have h1 : fn.name ≠ "runtime.NumGoroutine" := by simpa using hname
  simp [callFunc, hf, h1, hb, mark]
/-- the arguments are plain: Go's are the same -/
theorem plain_args {args : List Value} {cargs : Array Value} {n : Nat} (hp : args.all plainV = true) (hs : cargs.size = args.length) (ha : ∀ (i : Nat) v, args[i]? = some v → ∃ u, cargs[i]? = some u ∧ VR ι n v u) : cargs = args.toArray := by
  apply Array.ext'
  apply List.ext_getElem?
  intro i
  rcases Nat.lt_or_ge i args.length with hi | hi
  · obtain ⟨u, h1, h2⟩ := ha i _ (List.getElem?_eq_getElem hi)
    have h3 : u = args[i] := by
      have h4 := List.all_eq_true.1 hp _ (List.getElem_mem hi)
      revert h2 h4
      generalize args[i] = v
      intro h2 h4
      cases h2 <;> first | rfl | simp [plainV] at h4
    rw [h3] at h1
    simpa [List.getElem?_eq_getElem hi] using h1
  · rw [List.getElem?_eq_none (by simp; omega), List.getElem?_eq_none (by simpa using hi)]
end
end Go.Gl

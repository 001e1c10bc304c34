/- Calls of the library, whose contracts are proved over Go's own memory, seen in the plain view. No condition. -/
import Derived.Test.YthhilbeddkkigaaDoorGlG
import Derived.Test.YthhilbeddkkigaaDoorGlJ
import Derived.Below
set_option linter.unusedVariables false
namespace Go.Gl
open Go.RowKit
section
variable {P : Program} {ι : Nat → Io} {h : AH} {w : World}
theorem HR.below (hr : HR ι h w) {w' : World} (hb : Below w.heap.size w w') : HR ι h w' := by
  refine ⟨fun i b hl => ?_, hr.inj, hr.conc⟩
  obtain ⟨cs, e, fr, h1, h2⟩ := hr.blk i b hl
  exact ⟨cs, e, fr, by rw [hb.block _ (hr.lt hl)]; exact h1, h2⟩
theorem CRel.below (hr : HR ι h w) {w' : World} (hb : Below w.heap.size w w') : CRel ι h w ι h w' :=
  ⟨hr.below hb, fun _ _ => rfl, Nat.le_refl _, fun k hk _ => hb.block k hk, fun i b hl ho => .inr ⟨i, b, hl, ho, rfl⟩, hb.size, hb.os, hb.tape, hb.output⟩
/-- a function of the library that hands back a plain value and lays what nobody sees -/
theorem ACalls.lib {f : FuncId} {fn : Func} {c : Code} {args : List Value} {r : Value} (hf : P.funcs[f]? = some fn) (hb : fn.body = some c) (hname : (fn.name == "runtime.NumGoroutine") = false) (hr : ∀ (ι : Nat → Io) (n : Nat), VR ι n r r)
    (hc : ∀ ι w cargs, HR ι h w → cargs.size = args.length → (∀ (i : Nat) v, args[i]? = some v → ∃ u, cargs[i]? = some u ∧ VR ι h.length v u) → Calls P f cargs w fun e w' => e = .returned r ∧ Below w.heap.size w w') : ACalls P f args h (fun r' h' => r' = r ∧ h' = h) := by
  refine ⟨fun xs w => ?_, fun ι w cargs hr' hs ha => (hc ι w cargs hr' hs ha).mono fun e w' ⟨e1, e2⟩ => ⟨r, r, h, ι, e1, ⟨rfl, rfl⟩, hr _ _, CRel.below hr' e2⟩⟩
  have h1 : fn.name ≠ "runtime.NumGoroutine" := by simpa using hname
  simp [callFunc, hf, h1, hb, mark]
/-- the arguments are plain: Go's are the same -/
theorem plain_args {args : List Value} {cargs : Array Value} {n : Nat} (hp : args.all plainV = true) (hs : cargs.size = args.length) (ha : ∀ (i : Nat) v, args[i]? = some v → ∃ u, cargs[i]? = some u ∧ VR ι n v u) : cargs = args.toArray := by
  apply Array.ext'
  apply List.ext_getElem?
  intro i
  rcases Nat.lt_or_ge i args.length with hi | hi
  · obtain ⟨u, h1, h2⟩ := ha i _ (List.getElem?_eq_getElem hi)
    have h3 : u = args[i] := by
      have h4 := List.all_eq_true.1 hp _ (List.getElem_mem hi)
      revert h2 h4
      generalize args[i] = v
      intro h2 h4
      cases h2 <;> first | rfl | simp [plainV] at h4
    rw [h3] at h1
    simpa [List.getElem?_eq_getElem hi] using h1
  · rw [List.getElem?_eq_none (by simp; omega), List.getElem?_eq_none (by simpa using hi)]
end
end Go.Gl
namespace Go.Gl
open Go.RowKit
section
variable {P : Program} {ι : Nat → Io} {h : AH} {w : World}
/-- a package variable is taken into the view: block c of Go's memory -/
theorem HR.glob (hr : HR ι h w) (hi : Imm h) {c k : Nat} {cs : Array Value} {e : TypeId} {fr : Nat × Nat} {u : Value} (hb : w.heap[c]? = some (.cells cs e fr)) (hu : cs[0]? = some u) (hk : GK k u) :
    HR (upι ι h.length ⟨c, 0, 0, false⟩) (h ++ [some ⟨[vGlb h.length c k], none⟩]) w ∧ Imm (h ++ [some ⟨[vGlb h.length c k], none⟩]) ∧ look (h ++ [some ⟨[vGlb h.length c k], none⟩]) h.length = some ⟨[vGlb h.length c k], none⟩ := by
  have hnew : look (h ++ [some ⟨[vGlb h.length c k], none⟩]) h.length = some ⟨[vGlb h.length c k], none⟩ := by
    have := look_app_ge h [some ⟨[vGlb h.length c k], none⟩] 0
    simpa [look] using this
  have hcase : ∀ i b, look (h ++ [some ⟨[vGlb h.length c k], none⟩]) i = some b → (i < h.length ∧ look h i = some b) ∨ (i = h.length ∧ b = ⟨[vGlb h.length c k], none⟩) := by
    intro i b hl
    have hi := look_lt hl
    simp at hi
    rcases Nat.lt_or_ge i h.length with hlt | hge
    · exact .inl ⟨hlt, (look_app_lt hlt).symm.trans hl⟩
    · have : i = h.length := by omega
      subst this
      rw [hnew] at hl
      exact .inr ⟨rfl, by injection hl with hl; exact hl.symm⟩
  have himm : Imm (h ++ [some ⟨[vGlb h.length c k], none⟩]) := by
    intro i b hl
    rcases hcase i b hl with ⟨_, hl⟩ | ⟨_, rfl⟩
    · exact hi i b hl
    · rfl
  refine ⟨⟨fun i b hl => ?_, fun i j bi bj h1 h2 ho => ?_, fun i => by unfold upι; split; rfl; exact hr.conc i⟩, himm, hnew⟩
  · rcases hcase i b hl with ⟨hlt, hl⟩ | ⟨rfl, rfl⟩
    · rw [upι_lt hlt]
      obtain ⟨c', e', fr', g1, g2, g3⟩ := hr.blk i b hl
      refine ⟨c', e', fr', g1, fun k v hk => ?_, g3⟩
      obtain ⟨u, a1, a2⟩ := g2 k v hk
      exact ⟨u, a1, a2.ext (by simp) fun j hj => upι_lt hj⟩
    · rw [upι_self]
      refine ⟨cs, e, fr, hb, fun j v hj => ?_, fun t s hts => by simp at hts⟩
      cases j with
      | zero =>
        simp at hj
        subst hj
        exact ⟨u, by simpa using hu, .glbC _ _ _ _ (by simp) (by rw [upι_self]) (by rw [upι_self]) (by rw [upι_self]) hk⟩
      | succ j => simp at hj
  · rw [himm i bi h1] at ho; cases ho
/-- what a package variable holds, in Go's memory -/
theorem HR.globAt (hr : HR ι h w) {b c k : Nat} {own : Option (TypeId × Nat)} (hl : look h b = some ⟨[vGlb b c k], own⟩) : ∃ u, w.cell? ⟨c, 0, none⟩ = some u ∧ GK k u := by
  obtain ⟨u, h1, h2⟩ := hr.cell hl (k := 0) rfl
  generalize hv : vGlb b c k = v at h2
  cases h2 with
  | glbC b' c' k' u' q1 q2 q3 q4 q5 =>
    simp only [Value.iface.injEq, Value.tuple.injEq, Array.mk.injEq, List.cons.injEq, Value.int.injEq, Nat.add_right_cancel_iff] at hv
    obtain ⟨rfl, ⟨-, hb⟩, ⟨-, hk⟩, -⟩ := hv
    have hb : b = b' := by omega
    have hk : k = k' := by omega
    subst hb hk
    rw [q2, q3] at h1
    exact ⟨u, h1, q5⟩
  | glbA b' c' k' q1 q2 q3 => rw [hr.conc] at q3; cases q3
  | _ => cases hv
end
end Go.Gl
namespace Go.Gl
open Go.RowKit
section
variable {P : Program} {ι : Nat → Io} {h : AH} {w : World}
theorem CRel.alloc (hr : HR ι h w) {xs : List Value} (hx : xs.all plainV = true) (ty : TypeId) (hl : xs.length ≤ maxLen) :
    CRel ι h w (upι ι h.length ⟨w.heap.size, 0, xs.length, false⟩) (h ++ [some ⟨xs, some (ty, 1)⟩]) (w.alloc (.cells xs.toArray ty)) := by
  have hr2 := hr.alloc (cs := xs) (us := xs.toArray) ty 1 xs.length (by simp) hl (fun k v hk => ⟨v, by simpa using hk, VR.const (List.all_eq_true.1 hx _ (List.mem_of_getElem? hk))⟩)
  refine ⟨hr2, fun i hi => upι_lt hi, by simp, fun k hk _ => heap_push_old w _ hk, fun i b hb ho => ?_, by show w.heap.size ≤ (w.heap.push _).size; simp, rfl, rfl, rfl⟩
  have hi := look_lt hb
  simp at hi
  rcases Nat.lt_or_ge i h.length with hlt | hge
  · rw [look_app_lt hlt] at hb
    exact .inr ⟨i, b, hb, ho, by rw [upι_lt hlt]⟩
  · have : i = h.length := by omega
    subst this
    rw [upι_self]
    exact .inl (Nat.le_refl _)
/-- a function of the library that hands back a fresh row of plain values -/
theorem ACalls.libRow {f : FuncId} {fn : Func} {c : Code} {args : List Value} {xs : List Value} {ty : TypeId} (hf : P.funcs[f]? = some fn) (hb : fn.body = some c) (hname : (fn.name == "runtime.NumGoroutine") = false) (hx : xs.all plainV = true) (hl : xs.length ≤ maxLen)
    (hc : ∀ ι w cargs, HR ι h w → cargs.size = args.length → (∀ (i : Nat) v, args[i]? = some v → ∃ u, cargs[i]? = some u ∧ VR ι h.length v u) → Calls P f cargs w fun e w' => e = .returned (.slice (some ⟨w.heap.size, 0, none⟩) xs.length xs.length) ∧ w' = w.alloc (.cells xs.toArray ty)) :
    ACalls P f args h (fun r h' => ∃ b, r = .slice (some ⟨b, 0, none⟩) xs.length 1 ∧ look h' b = some ⟨xs, some (ty, 1)⟩ ∧ h.length ≤ b ∧ Le h h') := by
  refine ⟨fun xs w => ?_, fun ι w cargs hr' hs ha => (hc ι w cargs hr' hs ha).mono fun e w' ⟨e1, e2⟩ => ?_⟩
  · have h1 : fn.name ≠ "runtime.NumGoroutine" := by simpa using hname
    simp [callFunc, hf, h1, hb, mark]
  · subst e2
    refine ⟨.slice (some ⟨h.length, 0, none⟩) xs.length 1, _, _, _, e1, ⟨h.length, rfl, ?_, Nat.le_refl _, Le.push _ _⟩, ?_, CRel.alloc hr' hx ty hl⟩
    · have := look_app_ge h [some ⟨xs, some (ty, 1)⟩] 0
      simpa [look] using this
    · have := VR.slS (ι := upι ι h.length ⟨w.heap.size, 0, xs.length, false⟩) (n := (h ++ [some (⟨xs, some (ty, 1)⟩ : Blk)]).length) h.length xs.length (by simp) (.inl (by rw [upι_self]; exact Nat.le_refl _))
      rw [upι_self] at this
      exact this
end
end Go.Gl

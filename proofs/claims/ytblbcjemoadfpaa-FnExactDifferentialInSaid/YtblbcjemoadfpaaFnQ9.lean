/- Chapter 10: arguments that are algebras or elements, as rows of numbers. No condition. -/
import Derived.Test.YtblbcjemoadfpaaFnQ8
import Derived.Test.YtblbcjemoadfpaaGlM
set_option linter.unusedVariables false
set_option linter.unusedSimpArgs false
namespace Go.Gl
open Go.Proofs Go.Proofs.Ytblbcjemoadfpaa Go.Pl

def toI : Value → Int
  | .int _ x => x
  | _ => 0
theorem ok_cell {P : Program} {w : World} {r : Reach} {base : Nat} {t : TypeId} {k : IntKind} {v : Value} (ht : P.underlying t = some (.int k)) (h : Cell.okWide P w r base t v) : ∃ x, v = .int k x ∧ k.has x := by
  simp only [Cell.okWide, ht] at h
  cases v <;> simp_all [Cell.ok]
theorem ok_map {k : IntKind} {l : List Value} (h : ∀ v ∈ l, ∃ x, v = Value.int k x) : l = (l.map toI).map (.int k) := by
  rw [List.map_map]
  refine (List.map_id' l).symm.trans (List.map_congr_left fun v hv => ?_)
  obtain ⟨x, rfl⟩ := h v hv
  rfl
theorem VR.aggs {ι : Nat → Io} {n : Nat} {vs : List Value} (h : ∀ v ∈ vs, plainV v = true) : VR ι n (.agg vs.toArray) (.agg vs.toArray) := .agg _ _ rfl fun i hi => by
  have hi' : i < vs.length := by simpa using hi
  rw [Array.getD_eq_getD_getElem?]
  simp only [List.getElem?_toArray, List.getElem?_eq_getElem hi', Option.getD_some]
  exact VR.const (h _ (List.getElem_mem hi'))
theorem VR.vA {ι : Nat → Io} {n : Nat} (k : IntKind) (xs : List Int) : VR ι n (Gl.vA k xs) (Gl.vA k xs) := VR.aggs fun v hv => by
  obtain ⟨x, _, rfl⟩ := List.mem_map.1 hv
  rfl
theorem VR.vG {ι : Nat → Io} {n : Nat} (I B : List Int) : VR ι n (Gl.vG I B) (Gl.vG I B) := VR.aggs fun v hv => by
  rcases List.mem_append.1 hv with hv | hv <;> (obtain ⟨x, _, rfl⟩ := List.mem_map.1 hv; rfl)
theorem ith_map {l : List Value} {k : IntKind} (h : ∀ v ∈ l, ∃ x, v = Value.int k x ∧ k.has x) (h0 : k.has 0) (i : Nat) : k.has (ith (l.map toI) i) := by
  by_cases hi : i < l.length
  · obtain ⟨x, e, hx⟩ := h l[i] (List.getElem_mem hi)
    have : ith (l.map toI) i = x := by simp [ith, List.getElem?_eq_getElem hi, e, toI]
    rw [this]; exact hx
  · rw [ith_out (by simp; omega)]; exact h0
theorem has_u8 {x : Int} (h : IntKind.u8.has x) : 0 ≤ x ∧ x ≤ 255 := by
  simpa [IntKind.has, IntKind.min, IntKind.max, IntKind.bits, IntKind.signed] using h
theorem has_u8z : IntKind.u8.has 0 := by simp [IntKind.has, IntKind.min, IntKind.max, IntKind.bits, IntKind.signed]
theorem ok_elP {P : Program} {w : World} {r : Reach} {base : Nat} {v : Value} {t e m : Nat} (hu : P.underlying t = some (.array m e)) (he : P.underlying e = some (.int .u8)) (hts2 : P.cellTypes P.depth t = some (List.replicate 8 e)) (hsz2 : P.cellsOf t = 8) (h : Value.okWide P w r base t v) : ∃ u, v = vA .u8 u ∧ Byt u := by
  simp only [Value.okWide, hu] at h
  obtain ⟨cs, rfl, hsz, ts, hts, _, hc⟩ := h
  rw [hts2] at hts
  injection hts with hts
  subst hts
  rw [hsz2] at hsz
  have hl : cs.toList.length = 8 := by simpa using hsz
  have hv : ∀ v ∈ cs.toList, ∃ x, v = Value.int .u8 x ∧ IntKind.u8.has x := fun v hv => by
    obtain ⟨i, hi, e⟩ := List.getElem_of_mem hv
    have hi8 : i < 8 := by omega
    obtain ⟨u, h1, h2⟩ := hc i v (by rw [← Array.getElem?_toList, List.getElem?_eq_getElem hi, e])
    rw [List.length_replicate, List.getElem?_replicate, if_pos (Nat.mod_lt _ (by decide))] at h1
    injection h1 with h1
    subst h1
    exact ok_cell he h2
  refine ⟨cs.toList.map toI, ?_, by simpa using hl, fun i => has_u8 (ith_map hv has_u8z i)⟩
  show Value.agg cs = .agg ((cs.toList.map toI).map (.int .u8)).toArray
  rw [← ok_map fun v hh => (hv v hh).imp fun x hx => hx.1]
theorem ok_dgaP {P : Program} {w : World} {r : Reach} {base : Nat} {v : Value} {t e f : Nat} {fs : Array Field} (hu : P.underlying t = some (.struct fs)) (he : P.underlying e = some (.int .i64)) (hf : P.underlying f = some (.int .u8)) (hts2 : P.cellTypes P.depth t = some (List.replicate 18 e ++ List.replicate 576 f)) (hsz2 : P.cellsOf t = 594) (h : Value.okWide P w r base t v) : ∃ I B, v = vG I B ∧ GL I B ∧ BB B := by
  simp only [Value.okWide, hu] at h
  obtain ⟨cs, rfl, hsz, ts, hts, _, hc⟩ := h
  rw [hts2] at hts
  injection hts with hts
  subst hts
  rw [hsz2] at hsz
  have hl : cs.toList.length = 594 := by simpa using hsz
  have at_ : ∀ i, (hi : i < 594) → ∃ u, (List.replicate 18 e ++ List.replicate 576 f)[i]? = some u ∧ Cell.okWide P w r base u (cs.toList[i]'(by omega)) := fun i hi => by
    obtain ⟨u, h1, h2⟩ := hc i (cs.toList[i]'(by omega)) (by rw [← Array.getElem?_toList, List.getElem?_eq_getElem (by omega)])
    rw [List.length_append, List.length_replicate, List.length_replicate, Nat.mod_eq_of_lt (by omega)] at h1
    exact ⟨u, h1, h2⟩
  have h1 : ∀ v ∈ cs.toList.take 18, ∃ x, v = Value.int .i64 x := fun v hv => by
    obtain ⟨i, hi, ee⟩ := List.getElem_of_mem hv
    have hi8 : i < 18 := by simp at hi; omega
    obtain ⟨u, h1, h2⟩ := at_ i (by omega)
    rw [List.getElem?_append_left (by simpa using hi8), List.getElem?_replicate, if_pos hi8] at h1
    injection h1 with h1
    subst h1
    rw [List.getElem_take] at ee
    rw [ee] at h2
    exact (ok_cell he h2).imp fun x hx => hx.1
  have h2 : ∀ v ∈ cs.toList.drop 18, ∃ x, v = Value.int .u8 x ∧ IntKind.u8.has x := fun v hv => by
    obtain ⟨i, hi, ee⟩ := List.getElem_of_mem hv
    have hi8 : i < 576 := by simp at hi; omega
    obtain ⟨u, h1, h2⟩ := at_ (18 + i) (by omega)
    rw [List.getElem?_append_right (by simp), List.length_replicate, show 18 + i - 18 = i by omega, List.getElem?_replicate, if_pos hi8] at h1
    injection h1 with h1
    subst h1
    rw [List.getElem_drop] at ee
    rw [ee] at h2
    exact ok_cell hf h2
  refine ⟨(cs.toList.take 18).map toI, (cs.toList.drop 18).map toI, ?_, ⟨by simp; omega, by simp; omega⟩, fun i => has_u8 (ith_map h2 has_u8z i)⟩
  show Value.agg cs = .agg (((cs.toList.take 18).map toI).map (Value.int .i64) ++ ((cs.toList.drop 18).map toI).map (Value.int .u8)).toArray
  rw [← ok_map h1, ← ok_map fun v hh => (h2 v hh).imp fun x hx => hx.1, List.take_append_drop]

theorem ct_el : Try.prog.cellTypes Try.prog.depth 23 = some (List.replicate 8 5) := by kernel_rfl
theorem co_el : Try.prog.cellsOf 23 = 8 := by kernel_rfl
theorem ct_dga : Try.prog.cellTypes Try.prog.depth 36 = some (List.replicate 18 2 ++ List.replicate 576 5) := by kernel_rfl
theorem co_dga : Try.prog.cellsOf 36 = 594 := by kernel_rfl
set_option maxRecDepth 1000000 in
theorem ok_el {w : World} {r : Reach} {base : Nat} {v : Value} (h : Value.okWide Try.prog w r base 23 v) : ∃ u, v = vA .u8 u ∧ Byt u :=
  ok_elP (P := Try.prog) (t := 23) (e := 5) Try.underlying23 Try.underlying5 ct_el co_el h
set_option maxRecDepth 1000000 in
theorem ok_dga {w : World} {r : Reach} {base : Nat} {v : Value} (h : Value.okWide Try.prog w r base 36 v) : ∃ I B, v = vG I B ∧ GL I B ∧ BB B :=
  ok_dgaP (P := Try.prog) (t := 36) (e := 2) (f := 5) Try.underlying36 Try.underlying2 Try.underlying5 ct_dga co_dga h

end Go.Gl

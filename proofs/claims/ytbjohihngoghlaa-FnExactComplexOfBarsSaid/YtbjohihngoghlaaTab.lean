/- The types of this seat's translation, as a table: closed facts. No condition. -/
import Derived.Test.YtbjohihngoghlaaGlG
import Derived.Test.YtbjohihngoghlaaProg
import Derived.KernelRfl
set_option linter.unusedVariables false
namespace Go.Gl
theorem tok_mk {P : Program} {t : TypeId} {i : TI} (hm : (P.info? t).map (fun x => (x.size, x.bytes, x.zero)) = some (i.size, i.bytes, some i.zval)) (ha : ∀ w, (isAgg t).run P w = .ok i.agg w)
    (hz : i.zero.all plainV = true ∧ i.zero.length = i.size ∧ (i.agg = false → i.size = 1) ∧ i.size ≠ 0)
    (hk : match i.kind with
    | .sl e => P.underlying t = some (.slice e)
    | .arr n e => P.underlying t = some (.array n e)
    | .st offs => ∃ fs, P.underlying t = some (.struct fs) ∧ fs.toList.map (·.offset) = offs ∧ ∀ (j : Nat) f, fs[j]? = some f → ∃ inf, P.info? f.type = some inf ∧ inf.size = gap offs i.size j ∧ inf.size ≠ 0
    | .int k => P.underlying t = some (.int k)
    | .bool => P.underlying t = some .bool
    | .oth => True) : TOK P t i := by
  refine ⟨?_, ha, hz, hk⟩
  obtain ⟨inf, h1, h2⟩ := Option.map_eq_some_iff.1 hm
  simp only [Prod.mk.injEq] at h2
  exact ⟨inf, h1, h2.1, h2.2.1, h2.2.2⟩
theorem tok_st {P : Program} {t : TypeId} {fs : Array Field} {offs : List Nat} {n : Nat} (hu : P.underlying t = some (.struct fs)) (ho : fs.toList.map (·.offset) = offs) (hs : ((List.range fs.size).all fun j => match fs[j]? with | some f => (match P.info? f.type with | some x => Nat.beq x.size (gap offs n j) && !Nat.beq x.size 0 | none => false) | none => false) = true) :
    ∃ fs, P.underlying t = some (.struct fs) ∧ fs.toList.map (·.offset) = offs ∧ ∀ (j : Nat) f, fs[j]? = some f → ∃ inf, P.info? f.type = some inf ∧ inf.size = gap offs n j ∧ inf.size ≠ 0 := by
  refine ⟨fs, hu, ho, fun j f hj => ?_⟩
  have := List.all_eq_true.1 hs j (by have := (Array.getElem?_eq_some_iff.1 hj).1; simpa using this)
  simp only [hj] at this
  cases hi : P.info? f.type with
  | none => rw [hi] at this; cases this
  | some inf =>
    rw [hi] at this
    simp only [Bool.and_eq_true, Bool.not_eq_true'] at this
    exact ⟨inf, rfl, Nat.eq_of_beq_eq_true this.1, fun h => by rw [h] at this; simp at this⟩
def lkT : List (Nat × TI) → Nat → Option TI
  | [], _ => none
  | (k, v) :: l, t => match Nat.beq t k with
    | true => some v
    | false => lkT l t
theorem lkT_ok {P : Program} : ∀ {l : List (Nat × TI)}, (∀ p ∈ l, TOK P p.1 p.2) → Tab P (lkT l)
  | [], _, t, i, h => by simp [lkT] at h
  | (k, v) :: l, hl, t, i, h => by
    simp only [lkT] at h
    split at h
    · rename_i e
      injection h with h
      rw [Nat.eq_of_beq_eq_true e, ← h]
      exact hl (k, v) List.mem_cons_self
    · exact lkT_ok (fun p hp => hl p (List.mem_cons_of_mem _ hp)) t i h
end Go.Gl
namespace Go.Proofs.Ytbjohihngoghlaa.Tt
open Go Go.Gl Go.Proofs
def ti1 : TI := ⟨1, 8, false, [.nilFunc], .oth⟩
theorem tok1 : TOK Try.prog 1 ti1 := (tok_mk (P := Try.prog) (t := 1) (i := ti1) (by kernel_rfl) (fun w => Try.isAgg1 w) ⟨rfl, rfl, by decide, by decide⟩ trivial)
def ti2 : TI := ⟨1, 8, false, [.int .i64 0], .int .i64⟩
theorem tok2 : TOK Try.prog 2 ti2 := (tok_mk (P := Try.prog) (t := 2) (i := ti2) (by kernel_rfl) (fun w => Try.isAgg2 w) ⟨rfl, rfl, by decide, by decide⟩ Try.underlying2)
def ti3 : TI := ⟨1, 8, false, [.int .i64 0], .int .i64⟩
theorem tok3 : TOK Try.prog 3 ti3 := (tok_mk (P := Try.prog) (t := 3) (i := ti3) (by kernel_rfl) (fun w => Try.isAgg3 w) ⟨rfl, rfl, by decide, by decide⟩ Try.underlying3)
def ti4 : TI := ⟨1, 1, false, [.bool false], .bool⟩
theorem tok4 : TOK Try.prog 4 ti4 := (tok_mk (P := Try.prog) (t := 4) (i := ti4) (by kernel_rfl) (fun w => Try.isAgg4 w) ⟨rfl, rfl, by decide, by decide⟩ Try.underlying4)
def ti5 : TI := ⟨1, 1, false, [.int .u8 0], .int .u8⟩
theorem tok5 : TOK Try.prog 5 ti5 := (tok_mk (P := Try.prog) (t := 5) (i := ti5) (by kernel_rfl) (fun w => Try.isAgg5 w) ⟨rfl, rfl, by decide, by decide⟩ Try.underlying5)
def ti6 : TI := ⟨1, 1, false, [.int .u8 0], .int .u8⟩
theorem tok6 : TOK Try.prog 6 ti6 := (tok_mk (P := Try.prog) (t := 6) (i := ti6) (by kernel_rfl) (fun w => Try.isAgg6 w) ⟨rfl, rfl, by decide, by decide⟩ Try.underlying6)
def ti7 : TI := ⟨4, 24, true, [.int .i64 0, .int .i64 0, .bool false, .int .u8 0], .st [0, 1, 2, 3]⟩
theorem tok7 : TOK Try.prog 7 ti7 := (tok_mk (P := Try.prog) (t := 7) (i := ti7) (by kernel_rfl) (fun w => Try.isAgg7 w) ⟨rfl, rfl, by decide, by decide⟩ (tok_st Try.underlying7 rfl (by kernel_rfl)))
def ti8 : TI := ⟨4, 24, true, [.int .i64 0, .int .i64 0, .bool false, .int .u8 0], .st [0, 1, 2, 3]⟩
theorem tok8 : TOK Try.prog 8 ti8 := (tok_mk (P := Try.prog) (t := 8) (i := ti8) (by kernel_rfl) (fun w => Try.isAgg8 w) ⟨rfl, rfl, by decide, by decide⟩ (tok_st Try.underlying8 rfl (by kernel_rfl)))
def ti9 : TI := ⟨1, 16, false, [.string ByteArray.empty], .oth⟩
theorem tok9 : TOK Try.prog 9 ti9 := (tok_mk (P := Try.prog) (t := 9) (i := ti9) (by kernel_rfl) (fun w => Try.isAgg9 w) ⟨rfl, rfl, by decide, by decide⟩ trivial)
def ti10 : TI := ⟨1, 16, false, [.string ByteArray.empty], .oth⟩
theorem tok10 : TOK Try.prog 10 ti10 := (tok_mk (P := Try.prog) (t := 10) (i := ti10) (by kernel_rfl) (fun w => Try.isAgg10 w) ⟨rfl, rfl, by decide, by decide⟩ trivial)
def ti11 : TI := ⟨1, 16, false, [.string ByteArray.empty], .oth⟩
theorem tok11 : TOK Try.prog 11 ti11 := (tok_mk (P := Try.prog) (t := 11) (i := ti11) (by kernel_rfl) (fun w => Try.isAgg11 w) ⟨rfl, rfl, by decide, by decide⟩ trivial)
def ti12 : TI := ⟨1, 8, false, [.int .u64 0], .int .u64⟩
theorem tok12 : TOK Try.prog 12 ti12 := (tok_mk (P := Try.prog) (t := 12) (i := ti12) (by kernel_rfl) (fun w => Try.isAgg12 w) ⟨rfl, rfl, by decide, by decide⟩ Try.underlying12)
def ti13 : TI := ⟨2, 24, true, [.string ByteArray.empty, .int .u64 0], .st [0, 1]⟩
theorem tok13 : TOK Try.prog 13 ti13 := (tok_mk (P := Try.prog) (t := 13) (i := ti13) (by kernel_rfl) (fun w => Try.isAgg13 w) ⟨rfl, rfl, by decide, by decide⟩ (tok_st Try.underlying13 rfl (by kernel_rfl)))
def ti14 : TI := ⟨2, 24, true, [.string ByteArray.empty, .int .u64 0], .st [0, 1]⟩
theorem tok14 : TOK Try.prog 14 ti14 := (tok_mk (P := Try.prog) (t := 14) (i := ti14) (by kernel_rfl) (fun w => Try.isAgg14 w) ⟨rfl, rfl, by decide, by decide⟩ (tok_st Try.underlying14 rfl (by kernel_rfl)))
def ti15 : TI := ⟨1, 8, false, [.pointer none], .oth⟩
theorem tok15 : TOK Try.prog 15 ti15 := (tok_mk (P := Try.prog) (t := 15) (i := ti15) (by kernel_rfl) (fun w => Try.isAgg15 w) ⟨rfl, rfl, by decide, by decide⟩ trivial)
def ti16 : TI := ⟨1, 8, false, [.pointer none], .oth⟩
theorem tok16 : TOK Try.prog 16 ti16 := (tok_mk (P := Try.prog) (t := 16) (i := ti16) (by kernel_rfl) (fun w => Try.isAgg16 w) ⟨rfl, rfl, by decide, by decide⟩ trivial)
def ti17 : TI := ⟨1, 8, false, [.pointer none], .oth⟩
theorem tok17 : TOK Try.prog 17 ti17 := (tok_mk (P := Try.prog) (t := 17) (i := ti17) (by kernel_rfl) (fun w => Try.isAgg17 w) ⟨rfl, rfl, by decide, by decide⟩ trivial)
def ti18 : TI := ⟨1, 8, true, [.pointer none], .st [0]⟩
theorem tok18 : TOK Try.prog 18 ti18 := (tok_mk (P := Try.prog) (t := 18) (i := ti18) (by kernel_rfl) (fun w => Try.isAgg18 w) ⟨rfl, rfl, by decide, by decide⟩ (tok_st Try.underlying18 rfl (by kernel_rfl)))
def ti19 : TI := ⟨1, 8, true, [.pointer none], .st [0]⟩
theorem tok19 : TOK Try.prog 19 ti19 := (tok_mk (P := Try.prog) (t := 19) (i := ti19) (by kernel_rfl) (fun w => Try.isAgg19 w) ⟨rfl, rfl, by decide, by decide⟩ (tok_st Try.underlying19 rfl (by kernel_rfl)))
def ti21 : TI := ⟨1, 4, false, [.int .i32 0], .int .i32⟩
theorem tok21 : TOK Try.prog 21 ti21 := (tok_mk (P := Try.prog) (t := 21) (i := ti21) (by kernel_rfl) (fun w => Try.isAgg21 w) ⟨rfl, rfl, by decide, by decide⟩ Try.underlying21)
def ti22 : TI := ⟨1, 24, false, [.slice none 0 0], .sl 2⟩
theorem tok22 : TOK Try.prog 22 ti22 := (tok_mk (P := Try.prog) (t := 22) (i := ti22) (by kernel_rfl) (fun w => Try.isAgg22 w) ⟨rfl, rfl, by decide, by decide⟩ Try.underlying22)
def ti23 : TI := ⟨1, 24, false, [.slice none 0 0], .sl 41⟩
theorem tok23 : TOK Try.prog 23 ti23 := (tok_mk (P := Try.prog) (t := 23) (i := ti23) (by kernel_rfl) (fun w => Try.isAgg23 w) ⟨rfl, rfl, by decide, by decide⟩ Try.underlying23)
def ti24 : TI := ⟨2, 48, true, [.slice none 0 0, .slice none 0 0], .st [0, 1]⟩
theorem tok24 : TOK Try.prog 24 ti24 := (tok_mk (P := Try.prog) (t := 24) (i := ti24) (by kernel_rfl) (fun w => Try.isAgg24 w) ⟨rfl, rfl, by decide, by decide⟩ (tok_st Try.underlying24 rfl (by kernel_rfl)))
def ti25 : TI := ⟨2, 48, true, [.slice none 0 0, .slice none 0 0], .st [0, 1]⟩
theorem tok25 : TOK Try.prog 25 ti25 := (tok_mk (P := Try.prog) (t := 25) (i := ti25) (by kernel_rfl) (fun w => Try.isAgg25 w) ⟨rfl, rfl, by decide, by decide⟩ (tok_st Try.underlying25 rfl (by kernel_rfl)))
def ti26 : TI := ⟨1, 8, false, [.nilFunc], .oth⟩
theorem tok26 : TOK Try.prog 26 ti26 := (tok_mk (P := Try.prog) (t := 26) (i := ti26) (by kernel_rfl) (fun w => Try.isAgg26 w) ⟨rfl, rfl, by decide, by decide⟩ trivial)
def ti27 : TI := ⟨1, 24, false, [.slice none 0 0], .sl 114⟩
theorem tok27 : TOK Try.prog 27 ti27 := (tok_mk (P := Try.prog) (t := 27) (i := ti27) (by kernel_rfl) (fun w => Try.isAgg27 w) ⟨rfl, rfl, by decide, by decide⟩ Try.underlying27)
def ti29 : TI := ⟨1, 8, false, [.nilFunc], .oth⟩
theorem tok29 : TOK Try.prog 29 ti29 := (tok_mk (P := Try.prog) (t := 29) (i := ti29) (by kernel_rfl) (fun w => Try.isAgg29 w) ⟨rfl, rfl, by decide, by decide⟩ trivial)
def ti30 : TI := ⟨2, 48, true, [.slice none 0 0, .slice none 0 0], .st [0, 1]⟩
theorem tok30 : TOK Try.prog 30 ti30 := (tok_mk (P := Try.prog) (t := 30) (i := ti30) (by kernel_rfl) (fun w => Try.isAgg30 w) ⟨rfl, rfl, by decide, by decide⟩ (tok_st Try.underlying30 rfl (by kernel_rfl)))
def ti31 : TI := ⟨1, 8, false, [.nilFunc], .oth⟩
theorem tok31 : TOK Try.prog 31 ti31 := (tok_mk (P := Try.prog) (t := 31) (i := ti31) (by kernel_rfl) (fun w => Try.isAgg31 w) ⟨rfl, rfl, by decide, by decide⟩ trivial)
def ti32 : TI := ⟨1, 8, false, [.nilFunc], .oth⟩
theorem tok32 : TOK Try.prog 32 ti32 := (tok_mk (P := Try.prog) (t := 32) (i := ti32) (by kernel_rfl) (fun w => Try.isAgg32 w) ⟨rfl, rfl, by decide, by decide⟩ trivial)
def ti33 : TI := ⟨1, 8, false, [.nilFunc], .oth⟩
theorem tok33 : TOK Try.prog 33 ti33 := (tok_mk (P := Try.prog) (t := 33) (i := ti33) (by kernel_rfl) (fun w => Try.isAgg33 w) ⟨rfl, rfl, by decide, by decide⟩ trivial)
def ti34 : TI := ⟨1, 8, false, [.nilFunc], .oth⟩
theorem tok34 : TOK Try.prog 34 ti34 := (tok_mk (P := Try.prog) (t := 34) (i := ti34) (by kernel_rfl) (fun w => Try.isAgg34 w) ⟨rfl, rfl, by decide, by decide⟩ trivial)
def ti35 : TI := ⟨1, 8, false, [.nilFunc], .oth⟩
theorem tok35 : TOK Try.prog 35 ti35 := (tok_mk (P := Try.prog) (t := 35) (i := ti35) (by kernel_rfl) (fun w => Try.isAgg35 w) ⟨rfl, rfl, by decide, by decide⟩ trivial)
def ti36 : TI := ⟨1, 8, false, [.nilFunc], .oth⟩
theorem tok36 : TOK Try.prog 36 ti36 := (tok_mk (P := Try.prog) (t := 36) (i := ti36) (by kernel_rfl) (fun w => Try.isAgg36 w) ⟨rfl, rfl, by decide, by decide⟩ trivial)
def ti37 : TI := ⟨1, 24, false, [.slice none 0 0], .sl 123⟩
theorem tok37 : TOK Try.prog 37 ti37 := (tok_mk (P := Try.prog) (t := 37) (i := ti37) (by kernel_rfl) (fun w => Try.isAgg37 w) ⟨rfl, rfl, by decide, by decide⟩ Try.underlying37)
def ti38 : TI := ⟨1, 8, false, [.nilFunc], .oth⟩
theorem tok38 : TOK Try.prog 38 ti38 := (tok_mk (P := Try.prog) (t := 38) (i := ti38) (by kernel_rfl) (fun w => Try.isAgg38 w) ⟨rfl, rfl, by decide, by decide⟩ trivial)
def ti39 : TI := ⟨3, 56, true, [.int .i64 0, .slice none 0 0, .slice none 0 0], .st [0, 1, 2]⟩
theorem tok39 : TOK Try.prog 39 ti39 := (tok_mk (P := Try.prog) (t := 39) (i := ti39) (by kernel_rfl) (fun w => Try.isAgg39 w) ⟨rfl, rfl, by decide, by decide⟩ (tok_st Try.underlying39 rfl (by kernel_rfl)))
def ti40 : TI := ⟨3, 56, true, [.int .i64 0, .slice none 0 0, .slice none 0 0], .st [0, 1, 2]⟩
theorem tok40 : TOK Try.prog 40 ti40 := (tok_mk (P := Try.prog) (t := 40) (i := ti40) (by kernel_rfl) (fun w => Try.isAgg40 w) ⟨rfl, rfl, by decide, by decide⟩ (tok_st Try.underlying40 rfl (by kernel_rfl)))
def ti41 : TI := ⟨1, 24, false, [.slice none 0 0], .sl 22⟩
theorem tok41 : TOK Try.prog 41 ti41 := (tok_mk (P := Try.prog) (t := 41) (i := ti41) (by kernel_rfl) (fun w => Try.isAgg41 w) ⟨rfl, rfl, by decide, by decide⟩ Try.underlying41)
def ti42 : TI := ⟨4, 80, true, [.int .i64 0, .slice none 0 0, .slice none 0 0, .slice none 0 0], .st [0, 3]⟩
theorem tok42 : TOK Try.prog 42 ti42 := (tok_mk (P := Try.prog) (t := 42) (i := ti42) (by kernel_rfl) (fun w => Try.isAgg42 w) ⟨rfl, rfl, by decide, by decide⟩ (tok_st Try.underlying42 rfl (by kernel_rfl)))
def ti43 : TI := ⟨4, 80, true, [.int .i64 0, .slice none 0 0, .slice none 0 0, .slice none 0 0], .st [0, 3]⟩
theorem tok43 : TOK Try.prog 43 ti43 := (tok_mk (P := Try.prog) (t := 43) (i := ti43) (by kernel_rfl) (fun w => Try.isAgg43 w) ⟨rfl, rfl, by decide, by decide⟩ (tok_st Try.underlying43 rfl (by kernel_rfl)))
def ti45 : TI := ⟨1, 8, false, [.nilFunc], .oth⟩
theorem tok45 : TOK Try.prog 45 ti45 := (tok_mk (P := Try.prog) (t := 45) (i := ti45) (by kernel_rfl) (fun w => Try.isAgg45 w) ⟨rfl, rfl, by decide, by decide⟩ trivial)
def ti46 : TI := ⟨1, 24, false, [.slice none 0 0], .sl 121⟩
theorem tok46 : TOK Try.prog 46 ti46 := (tok_mk (P := Try.prog) (t := 46) (i := ti46) (by kernel_rfl) (fun w => Try.isAgg46 w) ⟨rfl, rfl, by decide, by decide⟩ Try.underlying46)
def ti47 : TI := ⟨1, 8, false, [.nilFunc], .oth⟩
theorem tok47 : TOK Try.prog 47 ti47 := (tok_mk (P := Try.prog) (t := 47) (i := ti47) (by kernel_rfl) (fun w => Try.isAgg47 w) ⟨rfl, rfl, by decide, by decide⟩ trivial)
def ti48 : TI := ⟨1, 8, false, [.nilFunc], .oth⟩
theorem tok48 : TOK Try.prog 48 ti48 := (tok_mk (P := Try.prog) (t := 48) (i := ti48) (by kernel_rfl) (fun w => Try.isAgg48 w) ⟨rfl, rfl, by decide, by decide⟩ trivial)
def ti49 : TI := ⟨1, 8, false, [.nilFunc], .oth⟩
theorem tok49 : TOK Try.prog 49 ti49 := (tok_mk (P := Try.prog) (t := 49) (i := ti49) (by kernel_rfl) (fun w => Try.isAgg49 w) ⟨rfl, rfl, by decide, by decide⟩ trivial)
def ti50 : TI := ⟨1, 8, false, [.nilFunc], .oth⟩
theorem tok50 : TOK Try.prog 50 ti50 := (tok_mk (P := Try.prog) (t := 50) (i := ti50) (by kernel_rfl) (fun w => Try.isAgg50 w) ⟨rfl, rfl, by decide, by decide⟩ trivial)
def ti51 : TI := ⟨1, 8, false, [.nilFunc], .oth⟩
theorem tok51 : TOK Try.prog 51 ti51 := (tok_mk (P := Try.prog) (t := 51) (i := ti51) (by kernel_rfl) (fun w => Try.isAgg51 w) ⟨rfl, rfl, by decide, by decide⟩ trivial)
def ti52 : TI := ⟨1, 8, false, [.nilFunc], .oth⟩
theorem tok52 : TOK Try.prog 52 ti52 := (tok_mk (P := Try.prog) (t := 52) (i := ti52) (by kernel_rfl) (fun w => Try.isAgg52 w) ⟨rfl, rfl, by decide, by decide⟩ trivial)
def ti54 : TI := ⟨1, 8, false, [.nilFunc], .oth⟩
theorem tok54 : TOK Try.prog 54 ti54 := (tok_mk (P := Try.prog) (t := 54) (i := ti54) (by kernel_rfl) (fun w => Try.isAgg54 w) ⟨rfl, rfl, by decide, by decide⟩ trivial)
def ti55 : TI := ⟨1, 8, false, [.nilFunc], .oth⟩
theorem tok55 : TOK Try.prog 55 ti55 := (tok_mk (P := Try.prog) (t := 55) (i := ti55) (by kernel_rfl) (fun w => Try.isAgg55 w) ⟨rfl, rfl, by decide, by decide⟩ trivial)
def ti56 : TI := ⟨6, 96, true, [.int .i64 0, .int .i64 0, .int .i64 0, .slice none 0 0, .slice none 0 0, .slice none 0 0], .st [0, 1, 2, 3, 4, 5]⟩
theorem tok56 : TOK Try.prog 56 ti56 := (tok_mk (P := Try.prog) (t := 56) (i := ti56) (by kernel_rfl) (fun w => Try.isAgg56 w) ⟨rfl, rfl, by decide, by decide⟩ (tok_st Try.underlying56 rfl (by kernel_rfl)))
def ti57 : TI := ⟨6, 96, true, [.int .i64 0, .int .i64 0, .int .i64 0, .slice none 0 0, .slice none 0 0, .slice none 0 0], .st [0, 1, 2, 3, 4, 5]⟩
theorem tok57 : TOK Try.prog 57 ti57 := (tok_mk (P := Try.prog) (t := 57) (i := ti57) (by kernel_rfl) (fun w => Try.isAgg57 w) ⟨rfl, rfl, by decide, by decide⟩ (tok_st Try.underlying57 rfl (by kernel_rfl)))
def ti58 : TI := ⟨1, 8, false, [.nilFunc], .oth⟩
theorem tok58 : TOK Try.prog 58 ti58 := (tok_mk (P := Try.prog) (t := 58) (i := ti58) (by kernel_rfl) (fun w => Try.isAgg58 w) ⟨rfl, rfl, by decide, by decide⟩ trivial)
def ti59 : TI := ⟨6, 96, true, [.int .i64 0, .int .i64 0, .int .i64 0, .slice none 0 0, .slice none 0 0, .slice none 0 0], .st [0, 1, 2, 3, 4, 5]⟩
theorem tok59 : TOK Try.prog 59 ti59 := (tok_mk (P := Try.prog) (t := 59) (i := ti59) (by kernel_rfl) (fun w => Try.isAgg59 w) ⟨rfl, rfl, by decide, by decide⟩ (tok_st Try.underlying59 rfl (by kernel_rfl)))
def ti61 : TI := ⟨1, 8, false, [.nilFunc], .oth⟩
theorem tok61 : TOK Try.prog 61 ti61 := (tok_mk (P := Try.prog) (t := 61) (i := ti61) (by kernel_rfl) (fun w => Try.isAgg61 w) ⟨rfl, rfl, by decide, by decide⟩ trivial)
def ti62 : TI := ⟨1, 8, false, [.nilFunc], .oth⟩
theorem tok62 : TOK Try.prog 62 ti62 := (tok_mk (P := Try.prog) (t := 62) (i := ti62) (by kernel_rfl) (fun w => Try.isAgg62 w) ⟨rfl, rfl, by decide, by decide⟩ trivial)
def ti63 : TI := ⟨1, 8, false, [.nilFunc], .oth⟩
theorem tok63 : TOK Try.prog 63 ti63 := (tok_mk (P := Try.prog) (t := 63) (i := ti63) (by kernel_rfl) (fun w => Try.isAgg63 w) ⟨rfl, rfl, by decide, by decide⟩ trivial)
def ti64 : TI := ⟨1, 8, false, [.nilFunc], .oth⟩
theorem tok64 : TOK Try.prog 64 ti64 := (tok_mk (P := Try.prog) (t := 64) (i := ti64) (by kernel_rfl) (fun w => Try.isAgg64 w) ⟨rfl, rfl, by decide, by decide⟩ trivial)
def ti65 : TI := ⟨1, 8, false, [.nilFunc], .oth⟩
theorem tok65 : TOK Try.prog 65 ti65 := (tok_mk (P := Try.prog) (t := 65) (i := ti65) (by kernel_rfl) (fun w => Try.isAgg65 w) ⟨rfl, rfl, by decide, by decide⟩ trivial)
def ti66 : TI := ⟨1, 24, false, [.slice none 0 0], .sl 23⟩
theorem tok66 : TOK Try.prog 66 ti66 := (tok_mk (P := Try.prog) (t := 66) (i := ti66) (by kernel_rfl) (fun w => Try.isAgg66 w) ⟨rfl, rfl, by decide, by decide⟩ Try.underlying66)
def ti67 : TI := ⟨4, 80, true, [.int .i64 0, .slice none 0 0, .slice none 0 0, .slice none 0 0], .st [0, 1, 2, 3]⟩
theorem tok67 : TOK Try.prog 67 ti67 := (tok_mk (P := Try.prog) (t := 67) (i := ti67) (by kernel_rfl) (fun w => Try.isAgg67 w) ⟨rfl, rfl, by decide, by decide⟩ (tok_st Try.underlying67 rfl (by kernel_rfl)))
def ti68 : TI := ⟨4, 80, true, [.int .i64 0, .slice none 0 0, .slice none 0 0, .slice none 0 0], .st [0, 1, 2, 3]⟩
theorem tok68 : TOK Try.prog 68 ti68 := (tok_mk (P := Try.prog) (t := 68) (i := ti68) (by kernel_rfl) (fun w => Try.isAgg68 w) ⟨rfl, rfl, by decide, by decide⟩ (tok_st Try.underlying68 rfl (by kernel_rfl)))
def ti69 : TI := ⟨1, 8, false, [.nilFunc], .oth⟩
theorem tok69 : TOK Try.prog 69 ti69 := (tok_mk (P := Try.prog) (t := 69) (i := ti69) (by kernel_rfl) (fun w => Try.isAgg69 w) ⟨rfl, rfl, by decide, by decide⟩ trivial)
def ti70 : TI := ⟨1, 8, false, [.nilFunc], .oth⟩
theorem tok70 : TOK Try.prog 70 ti70 := (tok_mk (P := Try.prog) (t := 70) (i := ti70) (by kernel_rfl) (fun w => Try.isAgg70 w) ⟨rfl, rfl, by decide, by decide⟩ trivial)
def ti71 : TI := ⟨4, 80, true, [.int .i64 0, .slice none 0 0, .slice none 0 0, .slice none 0 0], .st [0, 1, 2, 3]⟩
theorem tok71 : TOK Try.prog 71 ti71 := (tok_mk (P := Try.prog) (t := 71) (i := ti71) (by kernel_rfl) (fun w => Try.isAgg71 w) ⟨rfl, rfl, by decide, by decide⟩ (tok_st Try.underlying71 rfl (by kernel_rfl)))
def ti72 : TI := ⟨1, 8, false, [.nilFunc], .oth⟩
theorem tok72 : TOK Try.prog 72 ti72 := (tok_mk (P := Try.prog) (t := 72) (i := ti72) (by kernel_rfl) (fun w => Try.isAgg72 w) ⟨rfl, rfl, by decide, by decide⟩ trivial)
def ti73 : TI := ⟨1, 8, false, [.nilFunc], .oth⟩
theorem tok73 : TOK Try.prog 73 ti73 := (tok_mk (P := Try.prog) (t := 73) (i := ti73) (by kernel_rfl) (fun w => Try.isAgg73 w) ⟨rfl, rfl, by decide, by decide⟩ trivial)
def ti74 : TI := ⟨1, 8, false, [.nilFunc], .oth⟩
theorem tok74 : TOK Try.prog 74 ti74 := (tok_mk (P := Try.prog) (t := 74) (i := ti74) (by kernel_rfl) (fun w => Try.isAgg74 w) ⟨rfl, rfl, by decide, by decide⟩ trivial)
def ti76 : TI := ⟨1, 8, false, [.nilFunc], .oth⟩
theorem tok76 : TOK Try.prog 76 ti76 := (tok_mk (P := Try.prog) (t := 76) (i := ti76) (by kernel_rfl) (fun w => Try.isAgg76 w) ⟨rfl, rfl, by decide, by decide⟩ trivial)
def ti78 : TI := ⟨1, 8, false, [.nilFunc], .oth⟩
theorem tok78 : TOK Try.prog 78 ti78 := (tok_mk (P := Try.prog) (t := 78) (i := ti78) (by kernel_rfl) (fun w => Try.isAgg78 w) ⟨rfl, rfl, by decide, by decide⟩ trivial)
def ti79 : TI := ⟨1, 8, false, [.nilFunc], .oth⟩
theorem tok79 : TOK Try.prog 79 ti79 := (tok_mk (P := Try.prog) (t := 79) (i := ti79) (by kernel_rfl) (fun w => Try.isAgg79 w) ⟨rfl, rfl, by decide, by decide⟩ trivial)
def ti81 : TI := ⟨1, 8, false, [.nilFunc], .oth⟩
theorem tok81 : TOK Try.prog 81 ti81 := (tok_mk (P := Try.prog) (t := 81) (i := ti81) (by kernel_rfl) (fun w => Try.isAgg81 w) ⟨rfl, rfl, by decide, by decide⟩ trivial)
def ti82 : TI := ⟨1, 8, false, [.nilFunc], .oth⟩
theorem tok82 : TOK Try.prog 82 ti82 := (tok_mk (P := Try.prog) (t := 82) (i := ti82) (by kernel_rfl) (fun w => Try.isAgg82 w) ⟨rfl, rfl, by decide, by decide⟩ trivial)
def ti83 : TI := ⟨1, 8, false, [.nilFunc], .oth⟩
theorem tok83 : TOK Try.prog 83 ti83 := (tok_mk (P := Try.prog) (t := 83) (i := ti83) (by kernel_rfl) (fun w => Try.isAgg83 w) ⟨rfl, rfl, by decide, by decide⟩ trivial)
def ti84 : TI := ⟨8, 64, true, [.int .i64 0, .int .i64 0, .int .i64 0, .int .i64 0, .int .i64 0, .int .i64 0, .int .i64 0, .int .i64 0], .arr 8 2⟩
theorem tok84 : TOK Try.prog 84 ti84 := (tok_mk (P := Try.prog) (t := 84) (i := ti84) (by kernel_rfl) (fun w => Try.isAgg84 w) ⟨rfl, rfl, by decide, by decide⟩ Try.underlying84)
def ti85 : TI := ⟨8, 8, true, [.int .u8 0, .int .u8 0, .int .u8 0, .int .u8 0, .int .u8 0, .int .u8 0, .int .u8 0, .int .u8 0], .arr 8 5⟩
theorem tok85 : TOK Try.prog 85 ti85 := (tok_mk (P := Try.prog) (t := 85) (i := ti85) (by kernel_rfl) (fun w => Try.isAgg85 w) ⟨rfl, rfl, by decide, by decide⟩ Try.underlying85)
def ti90 : TI := ⟨8, 8, true, [.int .u8 0, .int .u8 0, .int .u8 0, .int .u8 0, .int .u8 0, .int .u8 0, .int .u8 0, .int .u8 0], .arr 8 5⟩
theorem tok90 : TOK Try.prog 90 ti90 := (tok_mk (P := Try.prog) (t := 90) (i := ti90) (by kernel_rfl) (fun w => Try.isAgg90 w) ⟨rfl, rfl, by decide, by decide⟩ Try.underlying90)
def ti92 : TI := ⟨1, 8, false, [.nilFunc], .oth⟩
theorem tok92 : TOK Try.prog 92 ti92 := (tok_mk (P := Try.prog) (t := 92) (i := ti92) (by kernel_rfl) (fun w => Try.isAgg92 w) ⟨rfl, rfl, by decide, by decide⟩ trivial)
def ti97 : TI := ⟨1, 8, false, [.nilFunc], .oth⟩
theorem tok97 : TOK Try.prog 97 ti97 := (tok_mk (P := Try.prog) (t := 97) (i := ti97) (by kernel_rfl) (fun w => Try.isAgg97 w) ⟨rfl, rfl, by decide, by decide⟩ trivial)
def ti98 : TI := ⟨1, 8, false, [.nilFunc], .oth⟩
theorem tok98 : TOK Try.prog 98 ti98 := (tok_mk (P := Try.prog) (t := 98) (i := ti98) (by kernel_rfl) (fun w => Try.isAgg98 w) ⟨rfl, rfl, by decide, by decide⟩ trivial)
def ti99 : TI := ⟨1, 8, false, [.nilFunc], .oth⟩
theorem tok99 : TOK Try.prog 99 ti99 := (tok_mk (P := Try.prog) (t := 99) (i := ti99) (by kernel_rfl) (fun w => Try.isAgg99 w) ⟨rfl, rfl, by decide, by decide⟩ trivial)
def ti100 : TI := ⟨1, 8, false, [.nilFunc], .oth⟩
theorem tok100 : TOK Try.prog 100 ti100 := (tok_mk (P := Try.prog) (t := 100) (i := ti100) (by kernel_rfl) (fun w => Try.isAgg100 w) ⟨rfl, rfl, by decide, by decide⟩ trivial)
def ti102 : TI := ⟨1, 8, false, [.nilFunc], .oth⟩
theorem tok102 : TOK Try.prog 102 ti102 := (tok_mk (P := Try.prog) (t := 102) (i := ti102) (by kernel_rfl) (fun w => Try.isAgg102 w) ⟨rfl, rfl, by decide, by decide⟩ trivial)
def ti103 : TI := ⟨1, 8, false, [.nilFunc], .oth⟩
theorem tok103 : TOK Try.prog 103 ti103 := (tok_mk (P := Try.prog) (t := 103) (i := ti103) (by kernel_rfl) (fun w => Try.isAgg103 w) ⟨rfl, rfl, by decide, by decide⟩ trivial)
def ti104 : TI := ⟨1, 8, false, [.nilFunc], .oth⟩
theorem tok104 : TOK Try.prog 104 ti104 := (tok_mk (P := Try.prog) (t := 104) (i := ti104) (by kernel_rfl) (fun w => Try.isAgg104 w) ⟨rfl, rfl, by decide, by decide⟩ trivial)
def ti105 : TI := ⟨1, 8, false, [.nilFunc], .oth⟩
theorem tok105 : TOK Try.prog 105 ti105 := (tok_mk (P := Try.prog) (t := 105) (i := ti105) (by kernel_rfl) (fun w => Try.isAgg105 w) ⟨rfl, rfl, by decide, by decide⟩ trivial)
def ti106 : TI := ⟨1, 8, false, [.nilFunc], .oth⟩
theorem tok106 : TOK Try.prog 106 ti106 := (tok_mk (P := Try.prog) (t := 106) (i := ti106) (by kernel_rfl) (fun w => Try.isAgg106 w) ⟨rfl, rfl, by decide, by decide⟩ trivial)
def ti107 : TI := ⟨1, 8, false, [.nilFunc], .oth⟩
theorem tok107 : TOK Try.prog 107 ti107 := (tok_mk (P := Try.prog) (t := 107) (i := ti107) (by kernel_rfl) (fun w => Try.isAgg107 w) ⟨rfl, rfl, by decide, by decide⟩ trivial)
def ti108 : TI := ⟨1, 8, false, [.nilFunc], .oth⟩
theorem tok108 : TOK Try.prog 108 ti108 := (tok_mk (P := Try.prog) (t := 108) (i := ti108) (by kernel_rfl) (fun w => Try.isAgg108 w) ⟨rfl, rfl, by decide, by decide⟩ trivial)
def ti109 : TI := ⟨1, 8, false, [.nilFunc], .oth⟩
theorem tok109 : TOK Try.prog 109 ti109 := (tok_mk (P := Try.prog) (t := 109) (i := ti109) (by kernel_rfl) (fun w => Try.isAgg109 w) ⟨rfl, rfl, by decide, by decide⟩ trivial)
def ti110 : TI := ⟨1, 8, false, [.nilFunc], .oth⟩
theorem tok110 : TOK Try.prog 110 ti110 := (tok_mk (P := Try.prog) (t := 110) (i := ti110) (by kernel_rfl) (fun w => Try.isAgg110 w) ⟨rfl, rfl, by decide, by decide⟩ trivial)
def ti111 : TI := ⟨1, 8, false, [.nilFunc], .oth⟩
theorem tok111 : TOK Try.prog 111 ti111 := (tok_mk (P := Try.prog) (t := 111) (i := ti111) (by kernel_rfl) (fun w => Try.isAgg111 w) ⟨rfl, rfl, by decide, by decide⟩ trivial)
def ti112 : TI := ⟨1, 8, false, [.nilFunc], .oth⟩
theorem tok112 : TOK Try.prog 112 ti112 := (tok_mk (P := Try.prog) (t := 112) (i := ti112) (by kernel_rfl) (fun w => Try.isAgg112 w) ⟨rfl, rfl, by decide, by decide⟩ trivial)
def ti113 : TI := ⟨2, 32, true, [.int .i64 0, .slice none 0 0], .st [0, 1]⟩
theorem tok113 : TOK Try.prog 113 ti113 := (tok_mk (P := Try.prog) (t := 113) (i := ti113) (by kernel_rfl) (fun w => Try.isAgg113 w) ⟨rfl, rfl, by decide, by decide⟩ (tok_st Try.underlying113 rfl (by kernel_rfl)))
def ti114 : TI := ⟨2, 32, true, [.int .i64 0, .slice none 0 0], .st [0, 1]⟩
theorem tok114 : TOK Try.prog 114 ti114 := (tok_mk (P := Try.prog) (t := 114) (i := ti114) (by kernel_rfl) (fun w => Try.isAgg114 w) ⟨rfl, rfl, by decide, by decide⟩ (tok_st Try.underlying114 rfl (by kernel_rfl)))
def ti115 : TI := ⟨1, 8, false, [.nilFunc], .oth⟩
theorem tok115 : TOK Try.prog 115 ti115 := (tok_mk (P := Try.prog) (t := 115) (i := ti115) (by kernel_rfl) (fun w => Try.isAgg115 w) ⟨rfl, rfl, by decide, by decide⟩ trivial)
def ti116 : TI := ⟨1, 8, false, [.nilFunc], .oth⟩
theorem tok116 : TOK Try.prog 116 ti116 := (tok_mk (P := Try.prog) (t := 116) (i := ti116) (by kernel_rfl) (fun w => Try.isAgg116 w) ⟨rfl, rfl, by decide, by decide⟩ trivial)
def ti117 : TI := ⟨1, 8, false, [.nilFunc], .oth⟩
theorem tok117 : TOK Try.prog 117 ti117 := (tok_mk (P := Try.prog) (t := 117) (i := ti117) (by kernel_rfl) (fun w => Try.isAgg117 w) ⟨rfl, rfl, by decide, by decide⟩ trivial)
def ti118 : TI := ⟨1, 8, false, [.nilFunc], .oth⟩
theorem tok118 : TOK Try.prog 118 ti118 := (tok_mk (P := Try.prog) (t := 118) (i := ti118) (by kernel_rfl) (fun w => Try.isAgg118 w) ⟨rfl, rfl, by decide, by decide⟩ trivial)
def ti119 : TI := ⟨1, 8, false, [.nilFunc], .oth⟩
theorem tok119 : TOK Try.prog 119 ti119 := (tok_mk (P := Try.prog) (t := 119) (i := ti119) (by kernel_rfl) (fun w => Try.isAgg119 w) ⟨rfl, rfl, by decide, by decide⟩ trivial)
def ti120 : TI := ⟨3, 24, true, [.int .i64 0, .int .i64 0, .int .i64 0], .st [0, 1, 2]⟩
theorem tok120 : TOK Try.prog 120 ti120 := (tok_mk (P := Try.prog) (t := 120) (i := ti120) (by kernel_rfl) (fun w => Try.isAgg120 w) ⟨rfl, rfl, by decide, by decide⟩ (tok_st Try.underlying120 rfl (by kernel_rfl)))
def ti121 : TI := ⟨3, 24, true, [.int .i64 0, .int .i64 0, .int .i64 0], .st [0, 1, 2]⟩
theorem tok121 : TOK Try.prog 121 ti121 := (tok_mk (P := Try.prog) (t := 121) (i := ti121) (by kernel_rfl) (fun w => Try.isAgg121 w) ⟨rfl, rfl, by decide, by decide⟩ (tok_st Try.underlying121 rfl (by kernel_rfl)))
def ti122 : TI := ⟨1, 8, false, [.nilFunc], .oth⟩
theorem tok122 : TOK Try.prog 122 ti122 := (tok_mk (P := Try.prog) (t := 122) (i := ti122) (by kernel_rfl) (fun w => Try.isAgg122 w) ⟨rfl, rfl, by decide, by decide⟩ trivial)
def ti123 : TI := ⟨3, 24, true, [.int .i64 0, .int .i64 0, .int .i64 0], .st [0, 1, 2]⟩
theorem tok123 : TOK Try.prog 123 ti123 := (tok_mk (P := Try.prog) (t := 123) (i := ti123) (by kernel_rfl) (fun w => Try.isAgg123 w) ⟨rfl, rfl, by decide, by decide⟩ (tok_st Try.underlying123 rfl (by kernel_rfl)))
def ti124 : TI := ⟨1, 24, false, [.slice none 0 0], .sl 127⟩
theorem tok124 : TOK Try.prog 124 ti124 := (tok_mk (P := Try.prog) (t := 124) (i := ti124) (by kernel_rfl) (fun w => Try.isAgg124 w) ⟨rfl, rfl, by decide, by decide⟩ Try.underlying124)
def ti125 : TI := ⟨1, 8, false, [.nilFunc], .oth⟩
theorem tok125 : TOK Try.prog 125 ti125 := (tok_mk (P := Try.prog) (t := 125) (i := ti125) (by kernel_rfl) (fun w => Try.isAgg125 w) ⟨rfl, rfl, by decide, by decide⟩ trivial)
def ti126 : TI := ⟨3, 24, true, [.int .i64 0, .int .i64 0, .int .i64 0], .st [0, 1, 2]⟩
theorem tok126 : TOK Try.prog 126 ti126 := (tok_mk (P := Try.prog) (t := 126) (i := ti126) (by kernel_rfl) (fun w => Try.isAgg126 w) ⟨rfl, rfl, by decide, by decide⟩ (tok_st Try.underlying126 rfl (by kernel_rfl)))
def ti127 : TI := ⟨3, 24, true, [.int .i64 0, .int .i64 0, .int .i64 0], .st [0, 1, 2]⟩
theorem tok127 : TOK Try.prog 127 ti127 := (tok_mk (P := Try.prog) (t := 127) (i := ti127) (by kernel_rfl) (fun w => Try.isAgg127 w) ⟨rfl, rfl, by decide, by decide⟩ (tok_st Try.underlying127 rfl (by kernel_rfl)))
def ti128 : TI := ⟨1, 8, false, [.nilFunc], .oth⟩
theorem tok128 : TOK Try.prog 128 ti128 := (tok_mk (P := Try.prog) (t := 128) (i := ti128) (by kernel_rfl) (fun w => Try.isAgg128 w) ⟨rfl, rfl, by decide, by decide⟩ trivial)
def ti129 : TI := ⟨1, 8, false, [.nilFunc], .oth⟩
theorem tok129 : TOK Try.prog 129 ti129 := (tok_mk (P := Try.prog) (t := 129) (i := ti129) (by kernel_rfl) (fun w => Try.isAgg129 w) ⟨rfl, rfl, by decide, by decide⟩ trivial)
def ti130 : TI := ⟨1, 8, false, [.nilFunc], .oth⟩
theorem tok130 : TOK Try.prog 130 ti130 := (tok_mk (P := Try.prog) (t := 130) (i := ti130) (by kernel_rfl) (fun w => Try.isAgg130 w) ⟨rfl, rfl, by decide, by decide⟩ trivial)
def ti131 : TI := ⟨1, 8, false, [.nilFunc], .oth⟩
theorem tok131 : TOK Try.prog 131 ti131 := (tok_mk (P := Try.prog) (t := 131) (i := ti131) (by kernel_rfl) (fun w => Try.isAgg131 w) ⟨rfl, rfl, by decide, by decide⟩ trivial)
def ti132 : TI := ⟨1, 8, false, [.nilFunc], .oth⟩
theorem tok132 : TOK Try.prog 132 ti132 := (tok_mk (P := Try.prog) (t := 132) (i := ti132) (by kernel_rfl) (fun w => Try.isAgg132 w) ⟨rfl, rfl, by decide, by decide⟩ trivial)
def ti133 : TI := ⟨1, 8, false, [.nilFunc], .oth⟩
theorem tok133 : TOK Try.prog 133 ti133 := (tok_mk (P := Try.prog) (t := 133) (i := ti133) (by kernel_rfl) (fun w => Try.isAgg133 w) ⟨rfl, rfl, by decide, by decide⟩ trivial)
def ti134 : TI := ⟨1, 8, false, [.nilFunc], .oth⟩
theorem tok134 : TOK Try.prog 134 ti134 := (tok_mk (P := Try.prog) (t := 134) (i := ti134) (by kernel_rfl) (fun w => Try.isAgg134 w) ⟨rfl, rfl, by decide, by decide⟩ trivial)
def ti135 : TI := ⟨1, 8, false, [.nilFunc], .oth⟩
theorem tok135 : TOK Try.prog 135 ti135 := (tok_mk (P := Try.prog) (t := 135) (i := ti135) (by kernel_rfl) (fun w => Try.isAgg135 w) ⟨rfl, rfl, by decide, by decide⟩ trivial)
def ti136 : TI := ⟨1, 8, false, [.nilFunc], .oth⟩
theorem tok136 : TOK Try.prog 136 ti136 := (tok_mk (P := Try.prog) (t := 136) (i := ti136) (by kernel_rfl) (fun w => Try.isAgg136 w) ⟨rfl, rfl, by decide, by decide⟩ trivial)
def ti137 : TI := ⟨1, 8, false, [.nilFunc], .oth⟩
theorem tok137 : TOK Try.prog 137 ti137 := (tok_mk (P := Try.prog) (t := 137) (i := ti137) (by kernel_rfl) (fun w => Try.isAgg137 w) ⟨rfl, rfl, by decide, by decide⟩ trivial)
def ti138 : TI := ⟨1, 8, false, [.nilFunc], .oth⟩
theorem tok138 : TOK Try.prog 138 ti138 := (tok_mk (P := Try.prog) (t := 138) (i := ti138) (by kernel_rfl) (fun w => Try.isAgg138 w) ⟨rfl, rfl, by decide, by decide⟩ trivial)
def ti139 : TI := ⟨1, 8, false, [.nilFunc], .oth⟩
theorem tok139 : TOK Try.prog 139 ti139 := (tok_mk (P := Try.prog) (t := 139) (i := ti139) (by kernel_rfl) (fun w => Try.isAgg139 w) ⟨rfl, rfl, by decide, by decide⟩ trivial)
def ti140 : TI := ⟨1, 8, false, [.nilFunc], .oth⟩
theorem tok140 : TOK Try.prog 140 ti140 := (tok_mk (P := Try.prog) (t := 140) (i := ti140) (by kernel_rfl) (fun w => Try.isAgg140 w) ⟨rfl, rfl, by decide, by decide⟩ trivial)
def ti141 : TI := ⟨1, 8, false, [.nilFunc], .oth⟩
theorem tok141 : TOK Try.prog 141 ti141 := (tok_mk (P := Try.prog) (t := 141) (i := ti141) (by kernel_rfl) (fun w => Try.isAgg141 w) ⟨rfl, rfl, by decide, by decide⟩ trivial)
def ti142 : TI := ⟨1, 8, false, [.nilFunc], .oth⟩
theorem tok142 : TOK Try.prog 142 ti142 := (tok_mk (P := Try.prog) (t := 142) (i := ti142) (by kernel_rfl) (fun w => Try.isAgg142 w) ⟨rfl, rfl, by decide, by decide⟩ trivial)
def ti143 : TI := ⟨1, 8, false, [.nilFunc], .oth⟩
theorem tok143 : TOK Try.prog 143 ti143 := (tok_mk (P := Try.prog) (t := 143) (i := ti143) (by kernel_rfl) (fun w => Try.isAgg143 w) ⟨rfl, rfl, by decide, by decide⟩ trivial)
def ti144 : TI := ⟨1, 8, false, [.nilFunc], .oth⟩
theorem tok144 : TOK Try.prog 144 ti144 := (tok_mk (P := Try.prog) (t := 144) (i := ti144) (by kernel_rfl) (fun w => Try.isAgg144 w) ⟨rfl, rfl, by decide, by decide⟩ trivial)
def ti145 : TI := ⟨1, 8, false, [.nilFunc], .oth⟩
theorem tok145 : TOK Try.prog 145 ti145 := (tok_mk (P := Try.prog) (t := 145) (i := ti145) (by kernel_rfl) (fun w => Try.isAgg145 w) ⟨rfl, rfl, by decide, by decide⟩ trivial)
def ti146 : TI := ⟨1, 8, false, [.nilFunc], .oth⟩
theorem tok146 : TOK Try.prog 146 ti146 := (tok_mk (P := Try.prog) (t := 146) (i := ti146) (by kernel_rfl) (fun w => Try.isAgg146 w) ⟨rfl, rfl, by decide, by decide⟩ trivial)
def ti147 : TI := ⟨1, 8, false, [.nilFunc], .oth⟩
theorem tok147 : TOK Try.prog 147 ti147 := (tok_mk (P := Try.prog) (t := 147) (i := ti147) (by kernel_rfl) (fun w => Try.isAgg147 w) ⟨rfl, rfl, by decide, by decide⟩ trivial)
def ti148 : TI := ⟨1, 8, false, [.nilFunc], .oth⟩
theorem tok148 : TOK Try.prog 148 ti148 := (tok_mk (P := Try.prog) (t := 148) (i := ti148) (by kernel_rfl) (fun w => Try.isAgg148 w) ⟨rfl, rfl, by decide, by decide⟩ trivial)
def ti149 : TI := ⟨1, 8, false, [.nilFunc], .oth⟩
theorem tok149 : TOK Try.prog 149 ti149 := (tok_mk (P := Try.prog) (t := 149) (i := ti149) (by kernel_rfl) (fun w => Try.isAgg149 w) ⟨rfl, rfl, by decide, by decide⟩ trivial)
def ti150 : TI := ⟨1, 8, false, [.nilFunc], .oth⟩
theorem tok150 : TOK Try.prog 150 ti150 := (tok_mk (P := Try.prog) (t := 150) (i := ti150) (by kernel_rfl) (fun w => Try.isAgg150 w) ⟨rfl, rfl, by decide, by decide⟩ trivial)
def ti151 : TI := ⟨1, 8, false, [.nilFunc], .oth⟩
theorem tok151 : TOK Try.prog 151 ti151 := (tok_mk (P := Try.prog) (t := 151) (i := ti151) (by kernel_rfl) (fun w => Try.isAgg151 w) ⟨rfl, rfl, by decide, by decide⟩ trivial)
def ti152 : TI := ⟨1, 8, false, [.nilFunc], .oth⟩
theorem tok152 : TOK Try.prog 152 ti152 := (tok_mk (P := Try.prog) (t := 152) (i := ti152) (by kernel_rfl) (fun w => Try.isAgg152 w) ⟨rfl, rfl, by decide, by decide⟩ trivial)
def ti153 : TI := ⟨1, 8, false, [.nilFunc], .oth⟩
theorem tok153 : TOK Try.prog 153 ti153 := (tok_mk (P := Try.prog) (t := 153) (i := ti153) (by kernel_rfl) (fun w => Try.isAgg153 w) ⟨rfl, rfl, by decide, by decide⟩ trivial)
def ti154 : TI := ⟨1, 8, false, [.nilFunc], .oth⟩
theorem tok154 : TOK Try.prog 154 ti154 := (tok_mk (P := Try.prog) (t := 154) (i := ti154) (by kernel_rfl) (fun w => Try.isAgg154 w) ⟨rfl, rfl, by decide, by decide⟩ trivial)
def ti155 : TI := ⟨1, 8, false, [.nilFunc], .oth⟩
theorem tok155 : TOK Try.prog 155 ti155 := (tok_mk (P := Try.prog) (t := 155) (i := ti155) (by kernel_rfl) (fun w => Try.isAgg155 w) ⟨rfl, rfl, by decide, by decide⟩ trivial)
def ti156 : TI := ⟨1, 8, false, [.nilFunc], .oth⟩
theorem tok156 : TOK Try.prog 156 ti156 := (tok_mk (P := Try.prog) (t := 156) (i := ti156) (by kernel_rfl) (fun w => Try.isAgg156 w) ⟨rfl, rfl, by decide, by decide⟩ trivial)
def ti157 : TI := ⟨1, 8, false, [.nilFunc], .oth⟩
theorem tok157 : TOK Try.prog 157 ti157 := (tok_mk (P := Try.prog) (t := 157) (i := ti157) (by kernel_rfl) (fun w => Try.isAgg157 w) ⟨rfl, rfl, by decide, by decide⟩ trivial)
def ti158 : TI := ⟨1, 8, false, [.nilFunc], .oth⟩
theorem tok158 : TOK Try.prog 158 ti158 := (tok_mk (P := Try.prog) (t := 158) (i := ti158) (by kernel_rfl) (fun w => Try.isAgg158 w) ⟨rfl, rfl, by decide, by decide⟩ trivial)
def ti159 : TI := ⟨1, 8, false, [.nilFunc], .oth⟩
theorem tok159 : TOK Try.prog 159 ti159 := (tok_mk (P := Try.prog) (t := 159) (i := ti159) (by kernel_rfl) (fun w => Try.isAgg159 w) ⟨rfl, rfl, by decide, by decide⟩ trivial)
def ti160 : TI := ⟨1, 8, false, [.nilFunc], .oth⟩
theorem tok160 : TOK Try.prog 160 ti160 := (tok_mk (P := Try.prog) (t := 160) (i := ti160) (by kernel_rfl) (fun w => Try.isAgg160 w) ⟨rfl, rfl, by decide, by decide⟩ trivial)
def ti161 : TI := ⟨1, 8, false, [.nilFunc], .oth⟩
theorem tok161 : TOK Try.prog 161 ti161 := (tok_mk (P := Try.prog) (t := 161) (i := ti161) (by kernel_rfl) (fun w => Try.isAgg161 w) ⟨rfl, rfl, by decide, by decide⟩ trivial)
def ti162 : TI := ⟨1, 8, false, [.nilFunc], .oth⟩
theorem tok162 : TOK Try.prog 162 ti162 := (tok_mk (P := Try.prog) (t := 162) (i := ti162) (by kernel_rfl) (fun w => Try.isAgg162 w) ⟨rfl, rfl, by decide, by decide⟩ trivial)
def ti163 : TI := ⟨1, 8, false, [.nilFunc], .oth⟩
theorem tok163 : TOK Try.prog 163 ti163 := (tok_mk (P := Try.prog) (t := 163) (i := ti163) (by kernel_rfl) (fun w => Try.isAgg163 w) ⟨rfl, rfl, by decide, by decide⟩ trivial)
def ti164 : TI := ⟨1, 8, false, [.nilFunc], .oth⟩
theorem tok164 : TOK Try.prog 164 ti164 := (tok_mk (P := Try.prog) (t := 164) (i := ti164) (by kernel_rfl) (fun w => Try.isAgg164 w) ⟨rfl, rfl, by decide, by decide⟩ trivial)
def ti165 : TI := ⟨1, 8, false, [.nilFunc], .oth⟩
theorem tok165 : TOK Try.prog 165 ti165 := (tok_mk (P := Try.prog) (t := 165) (i := ti165) (by kernel_rfl) (fun w => Try.isAgg165 w) ⟨rfl, rfl, by decide, by decide⟩ trivial)
def ti167 : TI := ⟨1, 8, false, [.nilFunc], .oth⟩
theorem tok167 : TOK Try.prog 167 ti167 := (tok_mk (P := Try.prog) (t := 167) (i := ti167) (by kernel_rfl) (fun w => Try.isAgg167 w) ⟨rfl, rfl, by decide, by decide⟩ trivial)
def ti168 : TI := ⟨1, 8, false, [.nilFunc], .oth⟩
theorem tok168 : TOK Try.prog 168 ti168 := (tok_mk (P := Try.prog) (t := 168) (i := ti168) (by kernel_rfl) (fun w => Try.isAgg168 w) ⟨rfl, rfl, by decide, by decide⟩ trivial)
def ti169 : TI := ⟨1, 8, false, [.nilFunc], .oth⟩
theorem tok169 : TOK Try.prog 169 ti169 := (tok_mk (P := Try.prog) (t := 169) (i := ti169) (by kernel_rfl) (fun w => Try.isAgg169 w) ⟨rfl, rfl, by decide, by decide⟩ trivial)
def ti170 : TI := ⟨1, 8, false, [.nilFunc], .oth⟩
theorem tok170 : TOK Try.prog 170 ti170 := (tok_mk (P := Try.prog) (t := 170) (i := ti170) (by kernel_rfl) (fun w => Try.isAgg170 w) ⟨rfl, rfl, by decide, by decide⟩ trivial)
def ti171 : TI := ⟨1, 8, false, [.nilFunc], .oth⟩
theorem tok171 : TOK Try.prog 171 ti171 := (tok_mk (P := Try.prog) (t := 171) (i := ti171) (by kernel_rfl) (fun w => Try.isAgg171 w) ⟨rfl, rfl, by decide, by decide⟩ trivial)
def ti172 : TI := ⟨1, 8, false, [.nilFunc], .oth⟩
theorem tok172 : TOK Try.prog 172 ti172 := (tok_mk (P := Try.prog) (t := 172) (i := ti172) (by kernel_rfl) (fun w => Try.isAgg172 w) ⟨rfl, rfl, by decide, by decide⟩ trivial)
def ti173 : TI := ⟨1, 8, false, [.nilFunc], .oth⟩
theorem tok173 : TOK Try.prog 173 ti173 := (tok_mk (P := Try.prog) (t := 173) (i := ti173) (by kernel_rfl) (fun w => Try.isAgg173 w) ⟨rfl, rfl, by decide, by decide⟩ trivial)
def ti174 : TI := ⟨1, 8, false, [.nilFunc], .oth⟩
theorem tok174 : TOK Try.prog 174 ti174 := (tok_mk (P := Try.prog) (t := 174) (i := ti174) (by kernel_rfl) (fun w => Try.isAgg174 w) ⟨rfl, rfl, by decide, by decide⟩ trivial)
def ti175 : TI := ⟨1, 8, false, [.nilFunc], .oth⟩
theorem tok175 : TOK Try.prog 175 ti175 := (tok_mk (P := Try.prog) (t := 175) (i := ti175) (by kernel_rfl) (fun w => Try.isAgg175 w) ⟨rfl, rfl, by decide, by decide⟩ trivial)
def ti176 : TI := ⟨1, 8, false, [.nilFunc], .oth⟩
theorem tok176 : TOK Try.prog 176 ti176 := (tok_mk (P := Try.prog) (t := 176) (i := ti176) (by kernel_rfl) (fun w => Try.isAgg176 w) ⟨rfl, rfl, by decide, by decide⟩ trivial)
def ti177 : TI := ⟨1, 8, false, [.nilFunc], .oth⟩
theorem tok177 : TOK Try.prog 177 ti177 := (tok_mk (P := Try.prog) (t := 177) (i := ti177) (by kernel_rfl) (fun w => Try.isAgg177 w) ⟨rfl, rfl, by decide, by decide⟩ trivial)
def ti178 : TI := ⟨1, 8, false, [.nilFunc], .oth⟩
theorem tok178 : TOK Try.prog 178 ti178 := (tok_mk (P := Try.prog) (t := 178) (i := ti178) (by kernel_rfl) (fun w => Try.isAgg178 w) ⟨rfl, rfl, by decide, by decide⟩ trivial)
def ti179 : TI := ⟨1, 8, false, [.nilFunc], .oth⟩
theorem tok179 : TOK Try.prog 179 ti179 := (tok_mk (P := Try.prog) (t := 179) (i := ti179) (by kernel_rfl) (fun w => Try.isAgg179 w) ⟨rfl, rfl, by decide, by decide⟩ trivial)
def ti180 : TI := ⟨1, 8, false, [.nilFunc], .oth⟩
theorem tok180 : TOK Try.prog 180 ti180 := (tok_mk (P := Try.prog) (t := 180) (i := ti180) (by kernel_rfl) (fun w => Try.isAgg180 w) ⟨rfl, rfl, by decide, by decide⟩ trivial)
def ti181 : TI := ⟨1, 8, false, [.nilFunc], .oth⟩
theorem tok181 : TOK Try.prog 181 ti181 := (tok_mk (P := Try.prog) (t := 181) (i := ti181) (by kernel_rfl) (fun w => Try.isAgg181 w) ⟨rfl, rfl, by decide, by decide⟩ trivial)
def ti182 : TI := ⟨1, 8, false, [.nilFunc], .oth⟩
theorem tok182 : TOK Try.prog 182 ti182 := (tok_mk (P := Try.prog) (t := 182) (i := ti182) (by kernel_rfl) (fun w => Try.isAgg182 w) ⟨rfl, rfl, by decide, by decide⟩ trivial)
def ti183 : TI := ⟨1, 8, false, [.pointer none], .oth⟩
theorem tok183 : TOK Try.prog 183 ti183 := (tok_mk (P := Try.prog) (t := 183) (i := ti183) (by kernel_rfl) (fun w => Try.isAgg183 w) ⟨rfl, rfl, by decide, by decide⟩ trivial)
def ti184 : TI := ⟨1, 24, false, [.slice none 0 0], .sl 46⟩
theorem tok184 : TOK Try.prog 184 ti184 := (tok_mk (P := Try.prog) (t := 184) (i := ti184) (by kernel_rfl) (fun w => Try.isAgg184 w) ⟨rfl, rfl, by decide, by decide⟩ Try.underlying184)
def ti185 : TI := ⟨1, 8, false, [.nilFunc], .oth⟩
theorem tok185 : TOK Try.prog 185 ti185 := (tok_mk (P := Try.prog) (t := 185) (i := ti185) (by kernel_rfl) (fun w => Try.isAgg185 w) ⟨rfl, rfl, by decide, by decide⟩ trivial)
def ti186 : TI := ⟨1, 8, false, [.nilFunc], .oth⟩
theorem tok186 : TOK Try.prog 186 ti186 := (tok_mk (P := Try.prog) (t := 186) (i := ti186) (by kernel_rfl) (fun w => Try.isAgg186 w) ⟨rfl, rfl, by decide, by decide⟩ trivial)
def ti187 : TI := ⟨1, 8, false, [.nilFunc], .oth⟩
theorem tok187 : TOK Try.prog 187 ti187 := (tok_mk (P := Try.prog) (t := 187) (i := ti187) (by kernel_rfl) (fun w => Try.isAgg187 w) ⟨rfl, rfl, by decide, by decide⟩ trivial)
def ti188 : TI := ⟨1, 8, false, [.nilFunc], .oth⟩
theorem tok188 : TOK Try.prog 188 ti188 := (tok_mk (P := Try.prog) (t := 188) (i := ti188) (by kernel_rfl) (fun w => Try.isAgg188 w) ⟨rfl, rfl, by decide, by decide⟩ trivial)
def ti189 : TI := ⟨1, 8, false, [.nilFunc], .oth⟩
theorem tok189 : TOK Try.prog 189 ti189 := (tok_mk (P := Try.prog) (t := 189) (i := ti189) (by kernel_rfl) (fun w => Try.isAgg189 w) ⟨rfl, rfl, by decide, by decide⟩ trivial)
def ti190 : TI := ⟨1, 8, false, [.nilFunc], .oth⟩
theorem tok190 : TOK Try.prog 190 ti190 := (tok_mk (P := Try.prog) (t := 190) (i := ti190) (by kernel_rfl) (fun w => Try.isAgg190 w) ⟨rfl, rfl, by decide, by decide⟩ trivial)
def ti191 : TI := ⟨1, 8, false, [.nilFunc], .oth⟩
theorem tok191 : TOK Try.prog 191 ti191 := (tok_mk (P := Try.prog) (t := 191) (i := ti191) (by kernel_rfl) (fun w => Try.isAgg191 w) ⟨rfl, rfl, by decide, by decide⟩ trivial)
def ti192 : TI := ⟨1, 8, false, [.nilFunc], .oth⟩
theorem tok192 : TOK Try.prog 192 ti192 := (tok_mk (P := Try.prog) (t := 192) (i := ti192) (by kernel_rfl) (fun w => Try.isAgg192 w) ⟨rfl, rfl, by decide, by decide⟩ trivial)
def ti193 : TI := ⟨1, 8, false, [.nilFunc], .oth⟩
theorem tok193 : TOK Try.prog 193 ti193 := (tok_mk (P := Try.prog) (t := 193) (i := ti193) (by kernel_rfl) (fun w => Try.isAgg193 w) ⟨rfl, rfl, by decide, by decide⟩ trivial)
def ti194 : TI := ⟨1, 8, false, [.nilFunc], .oth⟩
theorem tok194 : TOK Try.prog 194 ti194 := (tok_mk (P := Try.prog) (t := 194) (i := ti194) (by kernel_rfl) (fun w => Try.isAgg194 w) ⟨rfl, rfl, by decide, by decide⟩ trivial)
def ti195 : TI := ⟨1, 8, false, [.nilFunc], .oth⟩
theorem tok195 : TOK Try.prog 195 ti195 := (tok_mk (P := Try.prog) (t := 195) (i := ti195) (by kernel_rfl) (fun w => Try.isAgg195 w) ⟨rfl, rfl, by decide, by decide⟩ trivial)
def ti196 : TI := ⟨1, 8, false, [.nilFunc], .oth⟩
theorem tok196 : TOK Try.prog 196 ti196 := (tok_mk (P := Try.prog) (t := 196) (i := ti196) (by kernel_rfl) (fun w => Try.isAgg196 w) ⟨rfl, rfl, by decide, by decide⟩ trivial)
def ti197 : TI := ⟨1, 8, false, [.nilFunc], .oth⟩
theorem tok197 : TOK Try.prog 197 ti197 := (tok_mk (P := Try.prog) (t := 197) (i := ti197) (by kernel_rfl) (fun w => Try.isAgg197 w) ⟨rfl, rfl, by decide, by decide⟩ trivial)
def ti198 : TI := ⟨1, 24, false, [.slice none 0 0], .sl 90⟩
theorem tok198 : TOK Try.prog 198 ti198 := (tok_mk (P := Try.prog) (t := 198) (i := ti198) (by kernel_rfl) (fun w => Try.isAgg198 w) ⟨rfl, rfl, by decide, by decide⟩ Try.underlying198)
def ti199 : TI := ⟨1, 8, false, [.nilFunc], .oth⟩
theorem tok199 : TOK Try.prog 199 ti199 := (tok_mk (P := Try.prog) (t := 199) (i := ti199) (by kernel_rfl) (fun w => Try.isAgg199 w) ⟨rfl, rfl, by decide, by decide⟩ trivial)
def ti200 : TI := ⟨1, 8, false, [.nilFunc], .oth⟩
theorem tok200 : TOK Try.prog 200 ti200 := (tok_mk (P := Try.prog) (t := 200) (i := ti200) (by kernel_rfl) (fun w => Try.isAgg200 w) ⟨rfl, rfl, by decide, by decide⟩ trivial)
def ti201 : TI := ⟨1, 8, false, [.nilFunc], .oth⟩
theorem tok201 : TOK Try.prog 201 ti201 := (tok_mk (P := Try.prog) (t := 201) (i := ti201) (by kernel_rfl) (fun w => Try.isAgg201 w) ⟨rfl, rfl, by decide, by decide⟩ trivial)
def ti202 : TI := ⟨1, 8, false, [.nilFunc], .oth⟩
theorem tok202 : TOK Try.prog 202 ti202 := (tok_mk (P := Try.prog) (t := 202) (i := ti202) (by kernel_rfl) (fun w => Try.isAgg202 w) ⟨rfl, rfl, by decide, by decide⟩ trivial)
def ti203 : TI := ⟨1, 8, false, [.nilFunc], .oth⟩
theorem tok203 : TOK Try.prog 203 ti203 := (tok_mk (P := Try.prog) (t := 203) (i := ti203) (by kernel_rfl) (fun w => Try.isAgg203 w) ⟨rfl, rfl, by decide, by decide⟩ trivial)
def ti204 : TI := ⟨1, 8, false, [.nilFunc], .oth⟩
theorem tok204 : TOK Try.prog 204 ti204 := (tok_mk (P := Try.prog) (t := 204) (i := ti204) (by kernel_rfl) (fun w => Try.isAgg204 w) ⟨rfl, rfl, by decide, by decide⟩ trivial)
def ti205 : TI := ⟨1, 8, false, [.nilFunc], .oth⟩
theorem tok205 : TOK Try.prog 205 ti205 := (tok_mk (P := Try.prog) (t := 205) (i := ti205) (by kernel_rfl) (fun w => Try.isAgg205 w) ⟨rfl, rfl, by decide, by decide⟩ trivial)
def ti206 : TI := ⟨1, 8, false, [.nilFunc], .oth⟩
theorem tok206 : TOK Try.prog 206 ti206 := (tok_mk (P := Try.prog) (t := 206) (i := ti206) (by kernel_rfl) (fun w => Try.isAgg206 w) ⟨rfl, rfl, by decide, by decide⟩ trivial)
def ti207 : TI := ⟨1, 8, false, [.nilFunc], .oth⟩
theorem tok207 : TOK Try.prog 207 ti207 := (tok_mk (P := Try.prog) (t := 207) (i := ti207) (by kernel_rfl) (fun w => Try.isAgg207 w) ⟨rfl, rfl, by decide, by decide⟩ trivial)
def ti208 : TI := ⟨1, 8, false, [.nilFunc], .oth⟩
theorem tok208 : TOK Try.prog 208 ti208 := (tok_mk (P := Try.prog) (t := 208) (i := ti208) (by kernel_rfl) (fun w => Try.isAgg208 w) ⟨rfl, rfl, by decide, by decide⟩ trivial)
def ti209 : TI := ⟨1, 24, false, [.slice none 0 0], .sl 3⟩
theorem tok209 : TOK Try.prog 209 ti209 := (tok_mk (P := Try.prog) (t := 209) (i := ti209) (by kernel_rfl) (fun w => Try.isAgg209 w) ⟨rfl, rfl, by decide, by decide⟩ Try.underlying209)
def ti210 : TI := ⟨1, 8, false, [.nilFunc], .oth⟩
theorem tok210 : TOK Try.prog 210 ti210 := (tok_mk (P := Try.prog) (t := 210) (i := ti210) (by kernel_rfl) (fun w => Try.isAgg210 w) ⟨rfl, rfl, by decide, by decide⟩ trivial)
def ti211 : TI := ⟨1, 8, false, [.nilFunc], .oth⟩
theorem tok211 : TOK Try.prog 211 ti211 := (tok_mk (P := Try.prog) (t := 211) (i := ti211) (by kernel_rfl) (fun w => Try.isAgg211 w) ⟨rfl, rfl, by decide, by decide⟩ trivial)
def ti212 : TI := ⟨1, 8, false, [.nilFunc], .oth⟩
theorem tok212 : TOK Try.prog 212 ti212 := (tok_mk (P := Try.prog) (t := 212) (i := ti212) (by kernel_rfl) (fun w => Try.isAgg212 w) ⟨rfl, rfl, by decide, by decide⟩ trivial)
def ti213 : TI := ⟨1, 8, false, [.nilFunc], .oth⟩
theorem tok213 : TOK Try.prog 213 ti213 := (tok_mk (P := Try.prog) (t := 213) (i := ti213) (by kernel_rfl) (fun w => Try.isAgg213 w) ⟨rfl, rfl, by decide, by decide⟩ trivial)
def ti214 : TI := ⟨1, 8, false, [.nilFunc], .oth⟩
theorem tok214 : TOK Try.prog 214 ti214 := (tok_mk (P := Try.prog) (t := 214) (i := ti214) (by kernel_rfl) (fun w => Try.isAgg214 w) ⟨rfl, rfl, by decide, by decide⟩ trivial)
def ti215 : TI := ⟨1, 8, false, [.nilFunc], .oth⟩
theorem tok215 : TOK Try.prog 215 ti215 := (tok_mk (P := Try.prog) (t := 215) (i := ti215) (by kernel_rfl) (fun w => Try.isAgg215 w) ⟨rfl, rfl, by decide, by decide⟩ trivial)
def ti216 : TI := ⟨1, 8, false, [.nilFunc], .oth⟩
theorem tok216 : TOK Try.prog 216 ti216 := (tok_mk (P := Try.prog) (t := 216) (i := ti216) (by kernel_rfl) (fun w => Try.isAgg216 w) ⟨rfl, rfl, by decide, by decide⟩ trivial)
def ti217 : TI := ⟨1, 8, false, [.nilFunc], .oth⟩
theorem tok217 : TOK Try.prog 217 ti217 := (tok_mk (P := Try.prog) (t := 217) (i := ti217) (by kernel_rfl) (fun w => Try.isAgg217 w) ⟨rfl, rfl, by decide, by decide⟩ trivial)
def ti218 : TI := ⟨1, 8, false, [.nilFunc], .oth⟩
theorem tok218 : TOK Try.prog 218 ti218 := (tok_mk (P := Try.prog) (t := 218) (i := ti218) (by kernel_rfl) (fun w => Try.isAgg218 w) ⟨rfl, rfl, by decide, by decide⟩ trivial)
def ti219 : TI := ⟨1, 8, false, [.nilFunc], .oth⟩
theorem tok219 : TOK Try.prog 219 ti219 := (tok_mk (P := Try.prog) (t := 219) (i := ti219) (by kernel_rfl) (fun w => Try.isAgg219 w) ⟨rfl, rfl, by decide, by decide⟩ trivial)
def ti220 : TI := ⟨1, 8, false, [.nilFunc], .oth⟩
theorem tok220 : TOK Try.prog 220 ti220 := (tok_mk (P := Try.prog) (t := 220) (i := ti220) (by kernel_rfl) (fun w => Try.isAgg220 w) ⟨rfl, rfl, by decide, by decide⟩ trivial)
def ti221 : TI := ⟨1, 8, false, [.nilFunc], .oth⟩
theorem tok221 : TOK Try.prog 221 ti221 := (tok_mk (P := Try.prog) (t := 221) (i := ti221) (by kernel_rfl) (fun w => Try.isAgg221 w) ⟨rfl, rfl, by decide, by decide⟩ trivial)
def ti222 : TI := ⟨1, 8, false, [.nilFunc], .oth⟩
theorem tok222 : TOK Try.prog 222 ti222 := (tok_mk (P := Try.prog) (t := 222) (i := ti222) (by kernel_rfl) (fun w => Try.isAgg222 w) ⟨rfl, rfl, by decide, by decide⟩ trivial)
def ti223 : TI := ⟨1, 24, false, [.slice none 0 0], .sl 209⟩
theorem tok223 : TOK Try.prog 223 ti223 := (tok_mk (P := Try.prog) (t := 223) (i := ti223) (by kernel_rfl) (fun w => Try.isAgg223 w) ⟨rfl, rfl, by decide, by decide⟩ Try.underlying223)
def ti224 : TI := ⟨1, 8, false, [.nilFunc], .oth⟩
theorem tok224 : TOK Try.prog 224 ti224 := (tok_mk (P := Try.prog) (t := 224) (i := ti224) (by kernel_rfl) (fun w => Try.isAgg224 w) ⟨rfl, rfl, by decide, by decide⟩ trivial)
def ti225 : TI := ⟨1, 8, false, [.nilFunc], .oth⟩
theorem tok225 : TOK Try.prog 225 ti225 := (tok_mk (P := Try.prog) (t := 225) (i := ti225) (by kernel_rfl) (fun w => Try.isAgg225 w) ⟨rfl, rfl, by decide, by decide⟩ trivial)
def ti226 : TI := ⟨1, 8, false, [.int .u64 0], .int .u64⟩
theorem tok226 : TOK Try.prog 226 ti226 := (tok_mk (P := Try.prog) (t := 226) (i := ti226) (by kernel_rfl) (fun w => Try.isAgg226 w) ⟨rfl, rfl, by decide, by decide⟩ Try.underlying226)
def ti227 : TI := ⟨1, 8, false, [.nilFunc], .oth⟩
theorem tok227 : TOK Try.prog 227 ti227 := (tok_mk (P := Try.prog) (t := 227) (i := ti227) (by kernel_rfl) (fun w => Try.isAgg227 w) ⟨rfl, rfl, by decide, by decide⟩ trivial)
def ti228 : TI := ⟨1, 8, false, [.nilFunc], .oth⟩
theorem tok228 : TOK Try.prog 228 ti228 := (tok_mk (P := Try.prog) (t := 228) (i := ti228) (by kernel_rfl) (fun w => Try.isAgg228 w) ⟨rfl, rfl, by decide, by decide⟩ trivial)
def ti229 : TI := ⟨1, 8, false, [.nilFunc], .oth⟩
theorem tok229 : TOK Try.prog 229 ti229 := (tok_mk (P := Try.prog) (t := 229) (i := ti229) (by kernel_rfl) (fun w => Try.isAgg229 w) ⟨rfl, rfl, by decide, by decide⟩ trivial)
def ti230 : TI := ⟨1, 8, false, [.nilFunc], .oth⟩
theorem tok230 : TOK Try.prog 230 ti230 := (tok_mk (P := Try.prog) (t := 230) (i := ti230) (by kernel_rfl) (fun w => Try.isAgg230 w) ⟨rfl, rfl, by decide, by decide⟩ trivial)
def ti231 : TI := ⟨1, 8, false, [.nilFunc], .oth⟩
theorem tok231 : TOK Try.prog 231 ti231 := (tok_mk (P := Try.prog) (t := 231) (i := ti231) (by kernel_rfl) (fun w => Try.isAgg231 w) ⟨rfl, rfl, by decide, by decide⟩ trivial)
def ti232 : TI := ⟨1, 8, false, [.nilFunc], .oth⟩
theorem tok232 : TOK Try.prog 232 ti232 := (tok_mk (P := Try.prog) (t := 232) (i := ti232) (by kernel_rfl) (fun w => Try.isAgg232 w) ⟨rfl, rfl, by decide, by decide⟩ trivial)
def ti233 : TI := ⟨1, 8, false, [.nilFunc], .oth⟩
theorem tok233 : TOK Try.prog 233 ti233 := (tok_mk (P := Try.prog) (t := 233) (i := ti233) (by kernel_rfl) (fun w => Try.isAgg233 w) ⟨rfl, rfl, by decide, by decide⟩ trivial)
def ti234 : TI := ⟨4, 40, true, [.pointer none, .pointer none, .pointer none, .string ByteArray.empty], .st [0, 1, 2, 3]⟩
theorem tok234 : TOK Try.prog 234 ti234 := (tok_mk (P := Try.prog) (t := 234) (i := ti234) (by kernel_rfl) (fun w => Try.isAgg234 w) ⟨rfl, rfl, by decide, by decide⟩ (tok_st Try.underlying234 rfl (by kernel_rfl)))
def ti235 : TI := ⟨4, 40, true, [.pointer none, .pointer none, .pointer none, .string ByteArray.empty], .st [0, 1, 2, 3]⟩
theorem tok235 : TOK Try.prog 235 ti235 := (tok_mk (P := Try.prog) (t := 235) (i := ti235) (by kernel_rfl) (fun w => Try.isAgg235 w) ⟨rfl, rfl, by decide, by decide⟩ (tok_st Try.underlying235 rfl (by kernel_rfl)))
def ti239 : TI := ⟨1, 8, false, [.nilFunc], .oth⟩
theorem tok239 : TOK Try.prog 239 ti239 := (tok_mk (P := Try.prog) (t := 239) (i := ti239) (by kernel_rfl) (fun w => Try.isAgg239 w) ⟨rfl, rfl, by decide, by decide⟩ trivial)
def ti240 : TI := ⟨1, 4, false, [.int .u32 0], .int .u32⟩
theorem tok240 : TOK Try.prog 240 ti240 := (tok_mk (P := Try.prog) (t := 240) (i := ti240) (by kernel_rfl) (fun w => Try.isAgg240 w) ⟨rfl, rfl, by decide, by decide⟩ Try.underlying240)
def ti241 : TI := ⟨1, 1, false, [.int .u8 0], .int .u8⟩
theorem tok241 : TOK Try.prog 241 ti241 := (tok_mk (P := Try.prog) (t := 241) (i := ti241) (by kernel_rfl) (fun w => Try.isAgg241 w) ⟨rfl, rfl, by decide, by decide⟩ Try.underlying241)
def ti242 : TI := ⟨1, 1, false, [.int .u8 0], .int .u8⟩
theorem tok242 : TOK Try.prog 242 ti242 := (tok_mk (P := Try.prog) (t := 242) (i := ti242) (by kernel_rfl) (fun w => Try.isAgg242 w) ⟨rfl, rfl, by decide, by decide⟩ Try.underlying242)
def ti243 : TI := ⟨1, 8, false, [.nilFunc], .oth⟩
theorem tok243 : TOK Try.prog 243 ti243 := (tok_mk (P := Try.prog) (t := 243) (i := ti243) (by kernel_rfl) (fun w => Try.isAgg243 w) ⟨rfl, rfl, by decide, by decide⟩ trivial)
def ti244 : TI := ⟨1, 8, false, [.pointer none], .oth⟩
theorem tok244 : TOK Try.prog 244 ti244 := (tok_mk (P := Try.prog) (t := 244) (i := ti244) (by kernel_rfl) (fun w => Try.isAgg244 w) ⟨rfl, rfl, by decide, by decide⟩ trivial)
def ti245 : TI := ⟨1, 4, false, [.int .i32 0], .int .i32⟩
theorem tok245 : TOK Try.prog 245 ti245 := (tok_mk (P := Try.prog) (t := 245) (i := ti245) (by kernel_rfl) (fun w => Try.isAgg245 w) ⟨rfl, rfl, by decide, by decide⟩ Try.underlying245)
def ti246 : TI := ⟨1, 4, false, [.int .i32 0], .int .i32⟩
theorem tok246 : TOK Try.prog 246 ti246 := (tok_mk (P := Try.prog) (t := 246) (i := ti246) (by kernel_rfl) (fun w => Try.isAgg246 w) ⟨rfl, rfl, by decide, by decide⟩ Try.underlying246)
set_option maxRecDepth 100000 in
def T : Nat → Option TI := lkT [(1, ti1), (2, ti2), (3, ti3), (4, ti4), (5, ti5), (6, ti6), (7, ti7), (8, ti8), (9, ti9), (10, ti10), (11, ti11), (12, ti12), (13, ti13), (14, ti14), (15, ti15), (16, ti16), (17, ti17), (18, ti18), (19, ti19), (21, ti21), (22, ti22), (23, ti23), (24, ti24), (25, ti25), (26, ti26), (27, ti27), (29, ti29), (30, ti30), (31, ti31), (32, ti32), (33, ti33), (34, ti34), (35, ti35), (36, ti36), (37, ti37), (38, ti38), (39, ti39), (40, ti40), (41, ti41), (42, ti42), (43, ti43), (45, ti45), (46, ti46), (47, ti47), (48, ti48), (49, ti49), (50, ti50), (51, ti51), (52, ti52), (54, ti54), (55, ti55), (56, ti56), (57, ti57), (58, ti58), (59, ti59), (61, ti61), (62, ti62), (63, ti63), (64, ti64), (65, ti65), (66, ti66), (67, ti67), (68, ti68), (69, ti69), (70, ti70), (71, ti71), (72, ti72), (73, ti73), (74, ti74), (76, ti76), (78, ti78), (79, ti79), (81, ti81), (82, ti82), (83, ti83), (84, ti84), (85, ti85), (90, ti90), (92, ti92), (97, ti97), (98, ti98), (99, ti99), (100, ti100), (102, ti102), (103, ti103), (104, ti104), (105, ti105), (106, ti106), (107, ti107), (108, ti108), (109, ti109), (110, ti110), (111, ti111), (112, ti112), (113, ti113), (114, ti114), (115, ti115), (116, ti116), (117, ti117), (118, ti118), (119, ti119), (120, ti120), (121, ti121), (122, ti122), (123, ti123), (124, ti124), (125, ti125), (126, ti126), (127, ti127), (128, ti128), (129, ti129), (130, ti130), (131, ti131), (132, ti132), (133, ti133), (134, ti134), (135, ti135), (136, ti136), (137, ti137), (138, ti138), (139, ti139), (140, ti140), (141, ti141), (142, ti142), (143, ti143), (144, ti144), (145, ti145), (146, ti146), (147, ti147), (148, ti148), (149, ti149), (150, ti150), (151, ti151), (152, ti152), (153, ti153), (154, ti154), (155, ti155), (156, ti156), (157, ti157), (158, ti158), (159, ti159), (160, ti160), (161, ti161), (162, ti162), (163, ti163), (164, ti164), (165, ti165), (167, ti167), (168, ti168), (169, ti169), (170, ti170), (171, ti171), (172, ti172), (173, ti173), (174, ti174), (175, ti175), (176, ti176), (177, ti177), (178, ti178), (179, ti179), (180, ti180), (181, ti181), (182, ti182), (183, ti183), (184, ti184), (185, ti185), (186, ti186), (187, ti187), (188, ti188), (189, ti189), (190, ti190), (191, ti191), (192, ti192), (193, ti193), (194, ti194), (195, ti195), (196, ti196), (197, ti197), (198, ti198), (199, ti199), (200, ti200), (201, ti201), (202, ti202), (203, ti203), (204, ti204), (205, ti205), (206, ti206), (207, ti207), (208, ti208), (209, ti209), (210, ti210), (211, ti211), (212, ti212), (213, ti213), (214, ti214), (215, ti215), (216, ti216), (217, ti217), (218, ti218), (219, ti219), (220, ti220), (221, ti221), (222, ti222), (223, ti223), (224, ti224), (225, ti225), (226, ti226), (227, ti227), (228, ti228), (229, ti229), (230, ti230), (231, ti231), (232, ti232), (233, ti233), (234, ti234), (235, ti235), (239, ti239), (240, ti240), (241, ti241), (242, ti242), (243, ti243), (244, ti244), (245, ti245), (246, ti246)]
set_option maxRecDepth 100000 in
theorem tab : Tab Try.prog T := lkT_ok (List.forall_mem_cons.2 ⟨tok1, List.forall_mem_cons.2 ⟨tok2, List.forall_mem_cons.2 ⟨tok3, List.forall_mem_cons.2 ⟨tok4, List.forall_mem_cons.2 ⟨tok5, List.forall_mem_cons.2 ⟨tok6, List.forall_mem_cons.2 ⟨tok7, List.forall_mem_cons.2 ⟨tok8, List.forall_mem_cons.2 ⟨tok9, List.forall_mem_cons.2 ⟨tok10, List.forall_mem_cons.2 ⟨tok11, List.forall_mem_cons.2 ⟨tok12, List.forall_mem_cons.2 ⟨tok13, List.forall_mem_cons.2 ⟨tok14, List.forall_mem_cons.2 ⟨tok15, List.forall_mem_cons.2 ⟨tok16, List.forall_mem_cons.2 ⟨tok17, List.forall_mem_cons.2 ⟨tok18, List.forall_mem_cons.2 ⟨tok19, List.forall_mem_cons.2 ⟨tok21, List.forall_mem_cons.2 ⟨tok22, List.forall_mem_cons.2 ⟨tok23, List.forall_mem_cons.2 ⟨tok24, List.forall_mem_cons.2 ⟨tok25, List.forall_mem_cons.2 ⟨tok26, List.forall_mem_cons.2 ⟨tok27, List.forall_mem_cons.2 ⟨tok29, List.forall_mem_cons.2 ⟨tok30, List.forall_mem_cons.2 ⟨tok31, List.forall_mem_cons.2 ⟨tok32, List.forall_mem_cons.2 ⟨tok33, List.forall_mem_cons.2 ⟨tok34, List.forall_mem_cons.2 ⟨tok35, List.forall_mem_cons.2 ⟨tok36, List.forall_mem_cons.2 ⟨tok37, List.forall_mem_cons.2 ⟨tok38, List.forall_mem_cons.2 ⟨tok39, List.forall_mem_cons.2 ⟨tok40, List.forall_mem_cons.2 ⟨tok41, List.forall_mem_cons.2 ⟨tok42, List.forall_mem_cons.2 ⟨tok43, List.forall_mem_cons.2 ⟨tok45, List.forall_mem_cons.2 ⟨tok46, List.forall_mem_cons.2 ⟨tok47, List.forall_mem_cons.2 ⟨tok48, List.forall_mem_cons.2 ⟨tok49, List.forall_mem_cons.2 ⟨tok50, List.forall_mem_cons.2 ⟨tok51, List.forall_mem_cons.2 ⟨tok52, List.forall_mem_cons.2 ⟨tok54, List.forall_mem_cons.2 ⟨tok55, List.forall_mem_cons.2 ⟨tok56, List.forall_mem_cons.2 ⟨tok57, List.forall_mem_cons.2 ⟨tok58, List.forall_mem_cons.2 ⟨tok59, List.forall_mem_cons.2 ⟨tok61, List.forall_mem_cons.2 ⟨tok62, List.forall_mem_cons.2 ⟨tok63, List.forall_mem_cons.2 ⟨tok64, List.forall_mem_cons.2 ⟨tok65, List.forall_mem_cons.2 ⟨tok66, List.forall_mem_cons.2 ⟨tok67, List.forall_mem_cons.2 ⟨tok68, List.forall_mem_cons.2 ⟨tok69, List.forall_mem_cons.2 ⟨tok70, List.forall_mem_cons.2 ⟨tok71, List.forall_mem_cons.2 ⟨tok72, List.forall_mem_cons.2 ⟨tok73, List.forall_mem_cons.2 ⟨tok74, List.forall_mem_cons.2 ⟨tok76, List.forall_mem_cons.2 ⟨tok78, List.forall_mem_cons.2 ⟨tok79, List.forall_mem_cons.2 ⟨tok81, List.forall_mem_cons.2 ⟨tok82, List.forall_mem_cons.2 ⟨tok83, List.forall_mem_cons.2 ⟨tok84, List.forall_mem_cons.2 ⟨tok85, List.forall_mem_cons.2 ⟨tok90, List.forall_mem_cons.2 ⟨tok92, List.forall_mem_cons.2 ⟨tok97, List.forall_mem_cons.2 ⟨tok98, List.forall_mem_cons.2 ⟨tok99, List.forall_mem_cons.2 ⟨tok100, List.forall_mem_cons.2 ⟨tok102, List.forall_mem_cons.2 ⟨tok103, List.forall_mem_cons.2 ⟨tok104, List.forall_mem_cons.2 ⟨tok105, List.forall_mem_cons.2 ⟨tok106, List.forall_mem_cons.2 ⟨tok107, List.forall_mem_cons.2 ⟨tok108, List.forall_mem_cons.2 ⟨tok109, List.forall_mem_cons.2 ⟨tok110, List.forall_mem_cons.2 ⟨tok111, List.forall_mem_cons.2 ⟨tok112, List.forall_mem_cons.2 ⟨tok113, List.forall_mem_cons.2 ⟨tok114, List.forall_mem_cons.2 ⟨tok115, List.forall_mem_cons.2 ⟨tok116, List.forall_mem_cons.2 ⟨tok117, List.forall_mem_cons.2 ⟨tok118, List.forall_mem_cons.2 ⟨tok119, List.forall_mem_cons.2 ⟨tok120, List.forall_mem_cons.2 ⟨tok121, List.forall_mem_cons.2 ⟨tok122, List.forall_mem_cons.2 ⟨tok123, List.forall_mem_cons.2 ⟨tok124, List.forall_mem_cons.2 ⟨tok125, List.forall_mem_cons.2 ⟨tok126, List.forall_mem_cons.2 ⟨tok127, List.forall_mem_cons.2 ⟨tok128, List.forall_mem_cons.2 ⟨tok129, List.forall_mem_cons.2 ⟨tok130, List.forall_mem_cons.2 ⟨tok131, List.forall_mem_cons.2 ⟨tok132, List.forall_mem_cons.2 ⟨tok133, List.forall_mem_cons.2 ⟨tok134, List.forall_mem_cons.2 ⟨tok135, List.forall_mem_cons.2 ⟨tok136, List.forall_mem_cons.2 ⟨tok137, List.forall_mem_cons.2 ⟨tok138, List.forall_mem_cons.2 ⟨tok139, List.forall_mem_cons.2 ⟨tok140, List.forall_mem_cons.2 ⟨tok141, List.forall_mem_cons.2 ⟨tok142, List.forall_mem_cons.2 ⟨tok143, List.forall_mem_cons.2 ⟨tok144, List.forall_mem_cons.2 ⟨tok145, List.forall_mem_cons.2 ⟨tok146, List.forall_mem_cons.2 ⟨tok147, List.forall_mem_cons.2 ⟨tok148, List.forall_mem_cons.2 ⟨tok149, List.forall_mem_cons.2 ⟨tok150, List.forall_mem_cons.2 ⟨tok151, List.forall_mem_cons.2 ⟨tok152, List.forall_mem_cons.2 ⟨tok153, List.forall_mem_cons.2 ⟨tok154, List.forall_mem_cons.2 ⟨tok155, List.forall_mem_cons.2 ⟨tok156, List.forall_mem_cons.2 ⟨tok157, List.forall_mem_cons.2 ⟨tok158, List.forall_mem_cons.2 ⟨tok159, List.forall_mem_cons.2 ⟨tok160, List.forall_mem_cons.2 ⟨tok161, List.forall_mem_cons.2 ⟨tok162, List.forall_mem_cons.2 ⟨tok163, List.forall_mem_cons.2 ⟨tok164, List.forall_mem_cons.2 ⟨tok165, List.forall_mem_cons.2 ⟨tok167, List.forall_mem_cons.2 ⟨tok168, List.forall_mem_cons.2 ⟨tok169, List.forall_mem_cons.2 ⟨tok170, List.forall_mem_cons.2 ⟨tok171, List.forall_mem_cons.2 ⟨tok172, List.forall_mem_cons.2 ⟨tok173, List.forall_mem_cons.2 ⟨tok174, List.forall_mem_cons.2 ⟨tok175, List.forall_mem_cons.2 ⟨tok176, List.forall_mem_cons.2 ⟨tok177, List.forall_mem_cons.2 ⟨tok178, List.forall_mem_cons.2 ⟨tok179, List.forall_mem_cons.2 ⟨tok180, List.forall_mem_cons.2 ⟨tok181, List.forall_mem_cons.2 ⟨tok182, List.forall_mem_cons.2 ⟨tok183, List.forall_mem_cons.2 ⟨tok184, List.forall_mem_cons.2 ⟨tok185, List.forall_mem_cons.2 ⟨tok186, List.forall_mem_cons.2 ⟨tok187, List.forall_mem_cons.2 ⟨tok188, List.forall_mem_cons.2 ⟨tok189, List.forall_mem_cons.2 ⟨tok190, List.forall_mem_cons.2 ⟨tok191, List.forall_mem_cons.2 ⟨tok192, List.forall_mem_cons.2 ⟨tok193, List.forall_mem_cons.2 ⟨tok194, List.forall_mem_cons.2 ⟨tok195, List.forall_mem_cons.2 ⟨tok196, List.forall_mem_cons.2 ⟨tok197, List.forall_mem_cons.2 ⟨tok198, List.forall_mem_cons.2 ⟨tok199, List.forall_mem_cons.2 ⟨tok200, List.forall_mem_cons.2 ⟨tok201, List.forall_mem_cons.2 ⟨tok202, List.forall_mem_cons.2 ⟨tok203, List.forall_mem_cons.2 ⟨tok204, List.forall_mem_cons.2 ⟨tok205, List.forall_mem_cons.2 ⟨tok206, List.forall_mem_cons.2 ⟨tok207, List.forall_mem_cons.2 ⟨tok208, List.forall_mem_cons.2 ⟨tok209, List.forall_mem_cons.2 ⟨tok210, List.forall_mem_cons.2 ⟨tok211, List.forall_mem_cons.2 ⟨tok212, List.forall_mem_cons.2 ⟨tok213, List.forall_mem_cons.2 ⟨tok214, List.forall_mem_cons.2 ⟨tok215, List.forall_mem_cons.2 ⟨tok216, List.forall_mem_cons.2 ⟨tok217, List.forall_mem_cons.2 ⟨tok218, List.forall_mem_cons.2 ⟨tok219, List.forall_mem_cons.2 ⟨tok220, List.forall_mem_cons.2 ⟨tok221, List.forall_mem_cons.2 ⟨tok222, List.forall_mem_cons.2 ⟨tok223, List.forall_mem_cons.2 ⟨tok224, List.forall_mem_cons.2 ⟨tok225, List.forall_mem_cons.2 ⟨tok226, List.forall_mem_cons.2 ⟨tok227, List.forall_mem_cons.2 ⟨tok228, List.forall_mem_cons.2 ⟨tok229, List.forall_mem_cons.2 ⟨tok230, List.forall_mem_cons.2 ⟨tok231, List.forall_mem_cons.2 ⟨tok232, List.forall_mem_cons.2 ⟨tok233, List.forall_mem_cons.2 ⟨tok234, List.forall_mem_cons.2 ⟨tok235, List.forall_mem_cons.2 ⟨tok239, List.forall_mem_cons.2 ⟨tok240, List.forall_mem_cons.2 ⟨tok241, List.forall_mem_cons.2 ⟨tok242, List.forall_mem_cons.2 ⟨tok243, List.forall_mem_cons.2 ⟨tok244, List.forall_mem_cons.2 ⟨tok245, List.forall_mem_cons.2 ⟨tok246, fun _ h => (List.not_mem_nil h).elim⟩⟩⟩⟩⟩⟩⟩⟩⟩⟩⟩⟩⟩⟩⟩⟩⟩⟩⟩⟩⟩⟩⟩⟩⟩⟩⟩⟩⟩⟩⟩⟩⟩⟩⟩⟩⟩⟩⟩⟩⟩⟩⟩⟩⟩⟩⟩⟩⟩⟩⟩⟩⟩⟩⟩⟩⟩⟩⟩⟩⟩⟩⟩⟩⟩⟩⟩⟩⟩⟩⟩⟩⟩⟩⟩⟩⟩⟩⟩⟩⟩⟩⟩⟩⟩⟩⟩⟩⟩⟩⟩⟩⟩⟩⟩⟩⟩⟩⟩⟩⟩⟩⟩⟩⟩⟩⟩⟩⟩⟩⟩⟩⟩⟩⟩⟩⟩⟩⟩⟩⟩⟩⟩⟩⟩⟩⟩⟩⟩⟩⟩⟩⟩⟩⟩⟩⟩⟩⟩⟩⟩⟩⟩⟩⟩⟩⟩⟩⟩⟩⟩⟩⟩⟩⟩⟩⟩⟩⟩⟩⟩⟩⟩⟩⟩⟩⟩⟩⟩⟩⟩⟩⟩⟩⟩⟩⟩⟩⟩⟩⟩⟩⟩⟩⟩⟩⟩⟩⟩⟩⟩⟩⟩⟩⟩⟩⟩⟩⟩⟩⟩⟩⟩⟩⟩⟩⟩⟩⟩⟩⟩⟩⟩⟩⟩⟩⟩⟩⟩⟩⟩⟩⟩⟩)
end Go.Proofs.Ytbjohihngoghlaa.Tt

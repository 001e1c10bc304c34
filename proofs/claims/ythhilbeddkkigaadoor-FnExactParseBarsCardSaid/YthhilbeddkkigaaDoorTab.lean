/- The types of this seat's translation, as a table: closed facts. No condition. -/
import Derived.Test.YthhilbeddkkigaaDoorGlG
import Derived.Test.YthhilbeddkkigaaDoorProg
import Derived.KernelRfl
set_option linter.unusedVariables false
namespace Go.Gl
theorem tok_mk {P : Program} {t : TypeId} {i : TI} (hm : (P.info? t).map (fun x => (x.size, x.bytes, x.zero)) = some (i.size, i.bytes, some i.zval)) (ha : ∀ w, (isAgg t).run P w = .ok i.agg w)
    (hz : i.zero.all plainV = true ∧ i.zero.length = i.size ∧ (i.agg = false → i.size = 1) ∧ i.size ≠ 0)
    (hk : match i.kind with
    | .sl e => P.underlying t = some (.slice e)
    | .arr n e => P.underlying t = some (.array n e)
    | .st offs => ∃ fs, P.underlying t = some (.struct fs) ∧ fs.toList.map (·.offset) = offs ∧ ∀ (j : Nat) f, fs[j]? = some f → ∃ inf, P.info? f.type = some inf ∧ inf.size = gap offs i.size j ∧ inf.size ≠ 0
    | .int k => P.underlying t = some (.int k)
    | .bool => P.underlying t = some .bool
    | .str => P.underlying t = some .string
    | .ifc => ∃ ms, P.underlying t = some (.interface ms)
    | .oth => True) : TOK P t i := by
  refine ⟨?_, ha, hz, hk⟩
  obtain ⟨inf, h1, h2⟩ := Option.map_eq_some_iff.1 hm
  simp only [Prod.mk.injEq] at h2
  exact ⟨inf, h1, h2.1, h2.2.1, h2.2.2⟩
theorem tok_st {P : Program} {t : TypeId} {fs : Array Field} {offs : List Nat} {n : Nat} (hu : P.underlying t = some (.struct fs)) (ho : fs.toList.map (·.offset) = offs) (hs : ((List.range fs.size).all fun j => match fs[j]? with | some f => (match P.info? f.type with | some x => Nat.beq x.size (gap offs n j) && !Nat.beq x.size 0 | none => false) | none => false) = true) :
    ∃ fs, P.underlying t = some (.struct fs) ∧ fs.toList.map (·.offset) = offs ∧ ∀ (j : Nat) f, fs[j]? = some f → ∃ inf, P.info? f.type = some inf ∧ inf.size = gap offs n j ∧ inf.size ≠ 0 := by
  refine ⟨fs, hu, ho, fun j f hj => ?_⟩
  have := List.all_eq_true.1 hs j (by have := (Array.getElem?_eq_some_iff.1 hj).1; simpa using this)
  simp only [hj] at this
  cases hi : P.info? f.type with
  | none => rw [hi] at this; cases this
  | some inf =>
    rw [hi] at this
    simp only [Bool.and_eq_true, Bool.not_eq_true'] at this
    exact ⟨inf, rfl, Nat.eq_of_beq_eq_true this.1, fun h => by rw [h] at this; simp at this⟩
def lkT : List (Nat × TI) → Nat → Option TI
  | [], _ => none
  | (k, v) :: l, t => match Nat.beq t k with
    | true => some v
    | false => lkT l t
theorem lkT_ok {P : Program} : ∀ {l : List (Nat × TI)}, (∀ p ∈ l, TOK P p.1 p.2) → Tab P (lkT l)
  | [], _, t, i, h => by simp [lkT] at h
  | (k, v) :: l, hl, t, i, h => by
    simp only [lkT] at h
    split at h
    · rename_i e
      injection h with h
      rw [Nat.eq_of_beq_eq_true e, ← h]
      exact hl (k, v) List.mem_cons_self
    · exact lkT_ok (fun p hp => hl p (List.mem_cons_of_mem _ hp)) t i h
end Go.Gl
namespace Go.Proofs.YthhilbeddkkigaaDoor.Tt
open Go Go.Gl Go.Proofs
def ti1 : TI := ⟨1, 8, false, [.nilFunc], .oth⟩
theorem tok1 : TOK Tryd.prog 1 ti1 := (tok_mk (P := Tryd.prog) (t := 1) (i := ti1) (by kernel_rfl) (fun w => Tryd.isAgg1 w) ⟨rfl, rfl, by decide, by decide⟩ trivial)
def ti2 : TI := ⟨1, 8, false, [.int .i64 0], .int .i64⟩
theorem tok2 : TOK Tryd.prog 2 ti2 := (tok_mk (P := Tryd.prog) (t := 2) (i := ti2) (by kernel_rfl) (fun w => Tryd.isAgg2 w) ⟨rfl, rfl, by decide, by decide⟩ Tryd.underlying2)
def ti3 : TI := ⟨1, 8, false, [.int .i64 0], .int .i64⟩
theorem tok3 : TOK Tryd.prog 3 ti3 := (tok_mk (P := Tryd.prog) (t := 3) (i := ti3) (by kernel_rfl) (fun w => Tryd.isAgg3 w) ⟨rfl, rfl, by decide, by decide⟩ Tryd.underlying3)
def ti4 : TI := ⟨1, 1, false, [.bool false], .bool⟩
theorem tok4 : TOK Tryd.prog 4 ti4 := (tok_mk (P := Tryd.prog) (t := 4) (i := ti4) (by kernel_rfl) (fun w => Tryd.isAgg4 w) ⟨rfl, rfl, by decide, by decide⟩ Tryd.underlying4)
def ti5 : TI := ⟨1, 1, false, [.int .u8 0], .int .u8⟩
theorem tok5 : TOK Tryd.prog 5 ti5 := (tok_mk (P := Tryd.prog) (t := 5) (i := ti5) (by kernel_rfl) (fun w => Tryd.isAgg5 w) ⟨rfl, rfl, by decide, by decide⟩ Tryd.underlying5)
def ti6 : TI := ⟨1, 1, false, [.int .u8 0], .int .u8⟩
theorem tok6 : TOK Tryd.prog 6 ti6 := (tok_mk (P := Tryd.prog) (t := 6) (i := ti6) (by kernel_rfl) (fun w => Tryd.isAgg6 w) ⟨rfl, rfl, by decide, by decide⟩ Tryd.underlying6)
def ti7 : TI := ⟨4, 24, true, [.int .i64 0, .int .i64 0, .bool false, .int .u8 0], .st [0, 1, 2, 3]⟩
theorem tok7 : TOK Tryd.prog 7 ti7 := (tok_mk (P := Tryd.prog) (t := 7) (i := ti7) (by kernel_rfl) (fun w => Tryd.isAgg7 w) ⟨rfl, rfl, by decide, by decide⟩ (tok_st Tryd.underlying7 rfl (by kernel_rfl)))
def ti8 : TI := ⟨4, 24, true, [.int .i64 0, .int .i64 0, .bool false, .int .u8 0], .st [0, 1, 2, 3]⟩
theorem tok8 : TOK Tryd.prog 8 ti8 := (tok_mk (P := Tryd.prog) (t := 8) (i := ti8) (by kernel_rfl) (fun w => Tryd.isAgg8 w) ⟨rfl, rfl, by decide, by decide⟩ (tok_st Tryd.underlying8 rfl (by kernel_rfl)))
def ti9 : TI := ⟨1, 16, false, [.string ByteArray.empty], .str⟩
theorem tok9 : TOK Tryd.prog 9 ti9 := (tok_mk (P := Tryd.prog) (t := 9) (i := ti9) (by kernel_rfl) (fun w => Tryd.isAgg9 w) ⟨rfl, rfl, by decide, by decide⟩ Tryd.underlying9)
def ti10 : TI := ⟨1, 16, false, [.string ByteArray.empty], .str⟩
theorem tok10 : TOK Tryd.prog 10 ti10 := (tok_mk (P := Tryd.prog) (t := 10) (i := ti10) (by kernel_rfl) (fun w => Tryd.isAgg10 w) ⟨rfl, rfl, by decide, by decide⟩ Tryd.underlying10)
def ti11 : TI := ⟨1, 16, false, [.string ByteArray.empty], .str⟩
theorem tok11 : TOK Tryd.prog 11 ti11 := (tok_mk (P := Tryd.prog) (t := 11) (i := ti11) (by kernel_rfl) (fun w => Tryd.isAgg11 w) ⟨rfl, rfl, by decide, by decide⟩ Tryd.underlying11)
def ti12 : TI := ⟨1, 8, false, [.int .u64 0], .int .u64⟩
theorem tok12 : TOK Tryd.prog 12 ti12 := (tok_mk (P := Tryd.prog) (t := 12) (i := ti12) (by kernel_rfl) (fun w => Tryd.isAgg12 w) ⟨rfl, rfl, by decide, by decide⟩ Tryd.underlying12)
def ti13 : TI := ⟨2, 24, true, [.string ByteArray.empty, .int .u64 0], .st [0, 1]⟩
theorem tok13 : TOK Tryd.prog 13 ti13 := (tok_mk (P := Tryd.prog) (t := 13) (i := ti13) (by kernel_rfl) (fun w => Tryd.isAgg13 w) ⟨rfl, rfl, by decide, by decide⟩ (tok_st Tryd.underlying13 rfl (by kernel_rfl)))
def ti14 : TI := ⟨2, 24, true, [.string ByteArray.empty, .int .u64 0], .st [0, 1]⟩
theorem tok14 : TOK Tryd.prog 14 ti14 := (tok_mk (P := Tryd.prog) (t := 14) (i := ti14) (by kernel_rfl) (fun w => Tryd.isAgg14 w) ⟨rfl, rfl, by decide, by decide⟩ (tok_st Tryd.underlying14 rfl (by kernel_rfl)))
def ti15 : TI := ⟨1, 8, false, [.pointer none], .oth⟩
theorem tok15 : TOK Tryd.prog 15 ti15 := (tok_mk (P := Tryd.prog) (t := 15) (i := ti15) (by kernel_rfl) (fun w => Tryd.isAgg15 w) ⟨rfl, rfl, by decide, by decide⟩ trivial)
def ti16 : TI := ⟨1, 8, false, [.pointer none], .oth⟩
theorem tok16 : TOK Tryd.prog 16 ti16 := (tok_mk (P := Tryd.prog) (t := 16) (i := ti16) (by kernel_rfl) (fun w => Tryd.isAgg16 w) ⟨rfl, rfl, by decide, by decide⟩ trivial)
def ti17 : TI := ⟨1, 8, false, [.pointer none], .oth⟩
theorem tok17 : TOK Tryd.prog 17 ti17 := (tok_mk (P := Tryd.prog) (t := 17) (i := ti17) (by kernel_rfl) (fun w => Tryd.isAgg17 w) ⟨rfl, rfl, by decide, by decide⟩ trivial)
def ti18 : TI := ⟨1, 8, true, [.pointer none], .st [0]⟩
theorem tok18 : TOK Tryd.prog 18 ti18 := (tok_mk (P := Tryd.prog) (t := 18) (i := ti18) (by kernel_rfl) (fun w => Tryd.isAgg18 w) ⟨rfl, rfl, by decide, by decide⟩ (tok_st Tryd.underlying18 rfl (by kernel_rfl)))
def ti19 : TI := ⟨1, 8, true, [.pointer none], .st [0]⟩
theorem tok19 : TOK Tryd.prog 19 ti19 := (tok_mk (P := Tryd.prog) (t := 19) (i := ti19) (by kernel_rfl) (fun w => Tryd.isAgg19 w) ⟨rfl, rfl, by decide, by decide⟩ (tok_st Tryd.underlying19 rfl (by kernel_rfl)))
def ti20 : TI := ⟨1, 16, false, [.nilIface], .ifc⟩
theorem tok20 : TOK Tryd.prog 20 ti20 := (tok_mk (P := Tryd.prog) (t := 20) (i := ti20) (by kernel_rfl) (fun w => Tryd.isAgg20 w) ⟨rfl, rfl, by decide, by decide⟩ ⟨_, Tryd.underlying20⟩)
def ti21 : TI := ⟨1, 4, false, [.int .i32 0], .int .i32⟩
theorem tok21 : TOK Tryd.prog 21 ti21 := (tok_mk (P := Tryd.prog) (t := 21) (i := ti21) (by kernel_rfl) (fun w => Tryd.isAgg21 w) ⟨rfl, rfl, by decide, by decide⟩ Tryd.underlying21)
def ti22 : TI := ⟨1, 24, false, [.slice none 0 0], .sl 45⟩
theorem tok22 : TOK Tryd.prog 22 ti22 := (tok_mk (P := Tryd.prog) (t := 22) (i := ti22) (by kernel_rfl) (fun w => Tryd.isAgg22 w) ⟨rfl, rfl, by decide, by decide⟩ Tryd.underlying22)
def ti24 : TI := ⟨1, 8, false, [.nilFunc], .oth⟩
theorem tok24 : TOK Tryd.prog 24 ti24 := (tok_mk (P := Tryd.prog) (t := 24) (i := ti24) (by kernel_rfl) (fun w => Tryd.isAgg24 w) ⟨rfl, rfl, by decide, by decide⟩ trivial)
def ti25 : TI := ⟨1, 8, false, [.nilFunc], .oth⟩
theorem tok25 : TOK Tryd.prog 25 ti25 := (tok_mk (P := Tryd.prog) (t := 25) (i := ti25) (by kernel_rfl) (fun w => Tryd.isAgg25 w) ⟨rfl, rfl, by decide, by decide⟩ trivial)
def ti26 : TI := ⟨1, 8, false, [.nilFunc], .oth⟩
theorem tok26 : TOK Tryd.prog 26 ti26 := (tok_mk (P := Tryd.prog) (t := 26) (i := ti26) (by kernel_rfl) (fun w => Tryd.isAgg26 w) ⟨rfl, rfl, by decide, by decide⟩ trivial)
def ti27 : TI := ⟨1, 8, false, [.nilFunc], .oth⟩
theorem tok27 : TOK Tryd.prog 27 ti27 := (tok_mk (P := Tryd.prog) (t := 27) (i := ti27) (by kernel_rfl) (fun w => Tryd.isAgg27 w) ⟨rfl, rfl, by decide, by decide⟩ trivial)
def ti28 : TI := ⟨1, 24, false, [.slice none 0 0], .sl 50⟩
theorem tok28 : TOK Tryd.prog 28 ti28 := (tok_mk (P := Tryd.prog) (t := 28) (i := ti28) (by kernel_rfl) (fun w => Tryd.isAgg28 w) ⟨rfl, rfl, by decide, by decide⟩ Tryd.underlying28)
def ti29 : TI := ⟨1, 8, false, [.nilFunc], .oth⟩
theorem tok29 : TOK Tryd.prog 29 ti29 := (tok_mk (P := Tryd.prog) (t := 29) (i := ti29) (by kernel_rfl) (fun w => Tryd.isAgg29 w) ⟨rfl, rfl, by decide, by decide⟩ trivial)
def ti31 : TI := ⟨1, 8, false, [.nilFunc], .oth⟩
theorem tok31 : TOK Tryd.prog 31 ti31 := (tok_mk (P := Tryd.prog) (t := 31) (i := ti31) (by kernel_rfl) (fun w => Tryd.isAgg31 w) ⟨rfl, rfl, by decide, by decide⟩ trivial)
def ti32 : TI := ⟨1, 8, false, [.nilFunc], .oth⟩
theorem tok32 : TOK Tryd.prog 32 ti32 := (tok_mk (P := Tryd.prog) (t := 32) (i := ti32) (by kernel_rfl) (fun w => Tryd.isAgg32 w) ⟨rfl, rfl, by decide, by decide⟩ trivial)
def ti33 : TI := ⟨1, 8, false, [.nilFunc], .oth⟩
theorem tok33 : TOK Tryd.prog 33 ti33 := (tok_mk (P := Tryd.prog) (t := 33) (i := ti33) (by kernel_rfl) (fun w => Tryd.isAgg33 w) ⟨rfl, rfl, by decide, by decide⟩ trivial)
def ti35 : TI := ⟨1, 8, false, [.nilFunc], .oth⟩
theorem tok35 : TOK Tryd.prog 35 ti35 := (tok_mk (P := Tryd.prog) (t := 35) (i := ti35) (by kernel_rfl) (fun w => Tryd.isAgg35 w) ⟨rfl, rfl, by decide, by decide⟩ trivial)
def ti36 : TI := ⟨1, 24, false, [.slice none 0 0], .sl 9⟩
theorem tok36 : TOK Tryd.prog 36 ti36 := (tok_mk (P := Tryd.prog) (t := 36) (i := ti36) (by kernel_rfl) (fun w => Tryd.isAgg36 w) ⟨rfl, rfl, by decide, by decide⟩ Tryd.underlying36)
def ti37 : TI := ⟨1, 8, false, [.nilFunc], .oth⟩
theorem tok37 : TOK Tryd.prog 37 ti37 := (tok_mk (P := Tryd.prog) (t := 37) (i := ti37) (by kernel_rfl) (fun w => Tryd.isAgg37 w) ⟨rfl, rfl, by decide, by decide⟩ trivial)
def ti39 : TI := ⟨1, 8, false, [.nilFunc], .oth⟩
theorem tok39 : TOK Tryd.prog 39 ti39 := (tok_mk (P := Tryd.prog) (t := 39) (i := ti39) (by kernel_rfl) (fun w => Tryd.isAgg39 w) ⟨rfl, rfl, by decide, by decide⟩ trivial)
def ti40 : TI := ⟨1, 16, false, [.nilIface], .ifc⟩
theorem tok40 : TOK Tryd.prog 40 ti40 := (tok_mk (P := Tryd.prog) (t := 40) (i := ti40) (by kernel_rfl) (fun w => Tryd.isAgg40 w) ⟨rfl, rfl, by decide, by decide⟩ ⟨_, Tryd.underlying40⟩)
def ti41 : TI := ⟨1, 16, false, [.nilIface], .ifc⟩
theorem tok41 : TOK Tryd.prog 41 ti41 := (tok_mk (P := Tryd.prog) (t := 41) (i := ti41) (by kernel_rfl) (fun w => Tryd.isAgg41 w) ⟨rfl, rfl, by decide, by decide⟩ ⟨_, Tryd.underlying41⟩)
def ti43 : TI := ⟨1, 8, false, [.nilFunc], .oth⟩
theorem tok43 : TOK Tryd.prog 43 ti43 := (tok_mk (P := Tryd.prog) (t := 43) (i := ti43) (by kernel_rfl) (fun w => Tryd.isAgg43 w) ⟨rfl, rfl, by decide, by decide⟩ trivial)
def ti44 : TI := ⟨3, 24, true, [.int .i64 0, .int .i64 0, .int .i64 0], .st [0, 1, 2]⟩
theorem tok44 : TOK Tryd.prog 44 ti44 := (tok_mk (P := Tryd.prog) (t := 44) (i := ti44) (by kernel_rfl) (fun w => Tryd.isAgg44 w) ⟨rfl, rfl, by decide, by decide⟩ (tok_st Tryd.underlying44 rfl (by kernel_rfl)))
def ti45 : TI := ⟨3, 24, true, [.int .i64 0, .int .i64 0, .int .i64 0], .st [0, 1, 2]⟩
theorem tok45 : TOK Tryd.prog 45 ti45 := (tok_mk (P := Tryd.prog) (t := 45) (i := ti45) (by kernel_rfl) (fun w => Tryd.isAgg45 w) ⟨rfl, rfl, by decide, by decide⟩ (tok_st Tryd.underlying45 rfl (by kernel_rfl)))
def ti46 : TI := ⟨1, 8, false, [.nilFunc], .oth⟩
theorem tok46 : TOK Tryd.prog 46 ti46 := (tok_mk (P := Tryd.prog) (t := 46) (i := ti46) (by kernel_rfl) (fun w => Tryd.isAgg46 w) ⟨rfl, rfl, by decide, by decide⟩ trivial)
def ti47 : TI := ⟨1, 8, false, [.nilFunc], .oth⟩
theorem tok47 : TOK Tryd.prog 47 ti47 := (tok_mk (P := Tryd.prog) (t := 47) (i := ti47) (by kernel_rfl) (fun w => Tryd.isAgg47 w) ⟨rfl, rfl, by decide, by decide⟩ trivial)
def ti48 : TI := ⟨1, 8, false, [.nilFunc], .oth⟩
theorem tok48 : TOK Tryd.prog 48 ti48 := (tok_mk (P := Tryd.prog) (t := 48) (i := ti48) (by kernel_rfl) (fun w => Tryd.isAgg48 w) ⟨rfl, rfl, by decide, by decide⟩ trivial)
def ti49 : TI := ⟨1, 8, false, [.nilFunc], .oth⟩
theorem tok49 : TOK Tryd.prog 49 ti49 := (tok_mk (P := Tryd.prog) (t := 49) (i := ti49) (by kernel_rfl) (fun w => Tryd.isAgg49 w) ⟨rfl, rfl, by decide, by decide⟩ trivial)
def ti50 : TI := ⟨3, 24, true, [.int .i64 0, .int .i64 0, .int .i64 0], .st [0, 1, 2]⟩
theorem tok50 : TOK Tryd.prog 50 ti50 := (tok_mk (P := Tryd.prog) (t := 50) (i := ti50) (by kernel_rfl) (fun w => Tryd.isAgg50 w) ⟨rfl, rfl, by decide, by decide⟩ (tok_st Tryd.underlying50 rfl (by kernel_rfl)))
def ti51 : TI := ⟨1, 8, false, [.nilFunc], .oth⟩
theorem tok51 : TOK Tryd.prog 51 ti51 := (tok_mk (P := Tryd.prog) (t := 51) (i := ti51) (by kernel_rfl) (fun w => Tryd.isAgg51 w) ⟨rfl, rfl, by decide, by decide⟩ trivial)
def ti52 : TI := ⟨1, 8, false, [.nilFunc], .oth⟩
theorem tok52 : TOK Tryd.prog 52 ti52 := (tok_mk (P := Tryd.prog) (t := 52) (i := ti52) (by kernel_rfl) (fun w => Tryd.isAgg52 w) ⟨rfl, rfl, by decide, by decide⟩ trivial)
def ti53 : TI := ⟨1, 8, false, [.nilFunc], .oth⟩
theorem tok53 : TOK Tryd.prog 53 ti53 := (tok_mk (P := Tryd.prog) (t := 53) (i := ti53) (by kernel_rfl) (fun w => Tryd.isAgg53 w) ⟨rfl, rfl, by decide, by decide⟩ trivial)
def ti54 : TI := ⟨1, 8, false, [.nilFunc], .oth⟩
theorem tok54 : TOK Tryd.prog 54 ti54 := (tok_mk (P := Tryd.prog) (t := 54) (i := ti54) (by kernel_rfl) (fun w => Tryd.isAgg54 w) ⟨rfl, rfl, by decide, by decide⟩ trivial)
def ti55 : TI := ⟨1, 8, false, [.nilFunc], .oth⟩
theorem tok55 : TOK Tryd.prog 55 ti55 := (tok_mk (P := Tryd.prog) (t := 55) (i := ti55) (by kernel_rfl) (fun w => Tryd.isAgg55 w) ⟨rfl, rfl, by decide, by decide⟩ trivial)
def ti56 : TI := ⟨1, 8, false, [.nilFunc], .oth⟩
theorem tok56 : TOK Tryd.prog 56 ti56 := (tok_mk (P := Tryd.prog) (t := 56) (i := ti56) (by kernel_rfl) (fun w => Tryd.isAgg56 w) ⟨rfl, rfl, by decide, by decide⟩ trivial)
def ti57 : TI := ⟨1, 8, false, [.nilFunc], .oth⟩
theorem tok57 : TOK Tryd.prog 57 ti57 := (tok_mk (P := Tryd.prog) (t := 57) (i := ti57) (by kernel_rfl) (fun w => Tryd.isAgg57 w) ⟨rfl, rfl, by decide, by decide⟩ trivial)
def ti58 : TI := ⟨1, 8, false, [.nilFunc], .oth⟩
theorem tok58 : TOK Tryd.prog 58 ti58 := (tok_mk (P := Tryd.prog) (t := 58) (i := ti58) (by kernel_rfl) (fun w => Tryd.isAgg58 w) ⟨rfl, rfl, by decide, by decide⟩ trivial)
def ti59 : TI := ⟨1, 8, false, [.nilFunc], .oth⟩
theorem tok59 : TOK Tryd.prog 59 ti59 := (tok_mk (P := Tryd.prog) (t := 59) (i := ti59) (by kernel_rfl) (fun w => Tryd.isAgg59 w) ⟨rfl, rfl, by decide, by decide⟩ trivial)
def ti60 : TI := ⟨1, 8, false, [.nilFunc], .oth⟩
theorem tok60 : TOK Tryd.prog 60 ti60 := (tok_mk (P := Tryd.prog) (t := 60) (i := ti60) (by kernel_rfl) (fun w => Tryd.isAgg60 w) ⟨rfl, rfl, by decide, by decide⟩ trivial)
def ti61 : TI := ⟨1, 8, false, [.nilFunc], .oth⟩
theorem tok61 : TOK Tryd.prog 61 ti61 := (tok_mk (P := Tryd.prog) (t := 61) (i := ti61) (by kernel_rfl) (fun w => Tryd.isAgg61 w) ⟨rfl, rfl, by decide, by decide⟩ trivial)
def ti62 : TI := ⟨1, 8, false, [.nilFunc], .oth⟩
theorem tok62 : TOK Tryd.prog 62 ti62 := (tok_mk (P := Tryd.prog) (t := 62) (i := ti62) (by kernel_rfl) (fun w => Tryd.isAgg62 w) ⟨rfl, rfl, by decide, by decide⟩ trivial)
def ti63 : TI := ⟨1, 8, false, [.nilFunc], .oth⟩
theorem tok63 : TOK Tryd.prog 63 ti63 := (tok_mk (P := Tryd.prog) (t := 63) (i := ti63) (by kernel_rfl) (fun w => Tryd.isAgg63 w) ⟨rfl, rfl, by decide, by decide⟩ trivial)
def ti64 : TI := ⟨1, 8, false, [.int .i64 0], .int .i64⟩
theorem tok64 : TOK Tryd.prog 64 ti64 := (tok_mk (P := Tryd.prog) (t := 64) (i := ti64) (by kernel_rfl) (fun w => Tryd.isAgg64 w) ⟨rfl, rfl, by decide, by decide⟩ Tryd.underlying64)
def ti65 : TI := ⟨1, 8, false, [.int .u64 0], .int .u64⟩
theorem tok65 : TOK Tryd.prog 65 ti65 := (tok_mk (P := Tryd.prog) (t := 65) (i := ti65) (by kernel_rfl) (fun w => Tryd.isAgg65 w) ⟨rfl, rfl, by decide, by decide⟩ Tryd.underlying65)
def ti67 : TI := ⟨1, 8, false, [.nilFunc], .oth⟩
theorem tok67 : TOK Tryd.prog 67 ti67 := (tok_mk (P := Tryd.prog) (t := 67) (i := ti67) (by kernel_rfl) (fun w => Tryd.isAgg67 w) ⟨rfl, rfl, by decide, by decide⟩ trivial)
def ti68 : TI := ⟨1, 8, false, [.int .u64 0], .int .u64⟩
theorem tok68 : TOK Tryd.prog 68 ti68 := (tok_mk (P := Tryd.prog) (t := 68) (i := ti68) (by kernel_rfl) (fun w => Tryd.isAgg68 w) ⟨rfl, rfl, by decide, by decide⟩ Tryd.underlying68)
def ti69 : TI := ⟨1, 8, false, [.pointer none], .oth⟩
theorem tok69 : TOK Tryd.prog 69 ti69 := (tok_mk (P := Tryd.prog) (t := 69) (i := ti69) (by kernel_rfl) (fun w => Tryd.isAgg69 w) ⟨rfl, rfl, by decide, by decide⟩ trivial)
def ti70 : TI := ⟨1, 8, false, [.nilFunc], .oth⟩
theorem tok70 : TOK Tryd.prog 70 ti70 := (tok_mk (P := Tryd.prog) (t := 70) (i := ti70) (by kernel_rfl) (fun w => Tryd.isAgg70 w) ⟨rfl, rfl, by decide, by decide⟩ trivial)
def ti71 : TI := ⟨1, 8, false, [.nilFunc], .oth⟩
theorem tok71 : TOK Tryd.prog 71 ti71 := (tok_mk (P := Tryd.prog) (t := 71) (i := ti71) (by kernel_rfl) (fun w => Tryd.isAgg71 w) ⟨rfl, rfl, by decide, by decide⟩ trivial)
def ti72 : TI := ⟨1, 8, false, [.nilFunc], .oth⟩
theorem tok72 : TOK Tryd.prog 72 ti72 := (tok_mk (P := Tryd.prog) (t := 72) (i := ti72) (by kernel_rfl) (fun w => Tryd.isAgg72 w) ⟨rfl, rfl, by decide, by decide⟩ trivial)
def ti73 : TI := ⟨1, 8, false, [.nilFunc], .oth⟩
theorem tok73 : TOK Tryd.prog 73 ti73 := (tok_mk (P := Tryd.prog) (t := 73) (i := ti73) (by kernel_rfl) (fun w => Tryd.isAgg73 w) ⟨rfl, rfl, by decide, by decide⟩ trivial)
def ti74 : TI := ⟨1, 8, false, [.nilFunc], .oth⟩
theorem tok74 : TOK Tryd.prog 74 ti74 := (tok_mk (P := Tryd.prog) (t := 74) (i := ti74) (by kernel_rfl) (fun w => Tryd.isAgg74 w) ⟨rfl, rfl, by decide, by decide⟩ trivial)
def ti75 : TI := ⟨1, 8, false, [.nilFunc], .oth⟩
theorem tok75 : TOK Tryd.prog 75 ti75 := (tok_mk (P := Tryd.prog) (t := 75) (i := ti75) (by kernel_rfl) (fun w => Tryd.isAgg75 w) ⟨rfl, rfl, by decide, by decide⟩ trivial)
def ti76 : TI := ⟨1, 8, false, [.nilFunc], .oth⟩
theorem tok76 : TOK Tryd.prog 76 ti76 := (tok_mk (P := Tryd.prog) (t := 76) (i := ti76) (by kernel_rfl) (fun w => Tryd.isAgg76 w) ⟨rfl, rfl, by decide, by decide⟩ trivial)
def ti77 : TI := ⟨1, 8, false, [.pointer none], .oth⟩
theorem tok77 : TOK Tryd.prog 77 ti77 := (tok_mk (P := Tryd.prog) (t := 77) (i := ti77) (by kernel_rfl) (fun w => Tryd.isAgg77 w) ⟨rfl, rfl, by decide, by decide⟩ trivial)
def ti78 : TI := ⟨1, 24, false, [.slice none 0 0], .sl 5⟩
theorem tok78 : TOK Tryd.prog 78 ti78 := (tok_mk (P := Tryd.prog) (t := 78) (i := ti78) (by kernel_rfl) (fun w => Tryd.isAgg78 w) ⟨rfl, rfl, by decide, by decide⟩ Tryd.underlying78)
def ti79 : TI := ⟨2, 32, true, [.pointer none, .slice none 0 0], .st [0, 1]⟩
theorem tok79 : TOK Tryd.prog 79 ti79 := (tok_mk (P := Tryd.prog) (t := 79) (i := ti79) (by kernel_rfl) (fun w => Tryd.isAgg79 w) ⟨rfl, rfl, by decide, by decide⟩ (tok_st Tryd.underlying79 rfl (by kernel_rfl)))
def ti80 : TI := ⟨2, 32, true, [.pointer none, .slice none 0 0], .st [0, 1]⟩
theorem tok80 : TOK Tryd.prog 80 ti80 := (tok_mk (P := Tryd.prog) (t := 80) (i := ti80) (by kernel_rfl) (fun w => Tryd.isAgg80 w) ⟨rfl, rfl, by decide, by decide⟩ (tok_st Tryd.underlying80 rfl (by kernel_rfl)))
def ti81 : TI := ⟨1, 8, false, [.nilFunc], .oth⟩
theorem tok81 : TOK Tryd.prog 81 ti81 := (tok_mk (P := Tryd.prog) (t := 81) (i := ti81) (by kernel_rfl) (fun w => Tryd.isAgg81 w) ⟨rfl, rfl, by decide, by decide⟩ trivial)
def ti83 : TI := ⟨1, 8, false, [.nilFunc], .oth⟩
theorem tok83 : TOK Tryd.prog 83 ti83 := (tok_mk (P := Tryd.prog) (t := 83) (i := ti83) (by kernel_rfl) (fun w => Tryd.isAgg83 w) ⟨rfl, rfl, by decide, by decide⟩ trivial)
def ti84 : TI := ⟨1, 8, false, [.nilFunc], .oth⟩
theorem tok84 : TOK Tryd.prog 84 ti84 := (tok_mk (P := Tryd.prog) (t := 84) (i := ti84) (by kernel_rfl) (fun w => Tryd.isAgg84 w) ⟨rfl, rfl, by decide, by decide⟩ trivial)
def ti85 : TI := ⟨1, 8, false, [.nilFunc], .oth⟩
theorem tok85 : TOK Tryd.prog 85 ti85 := (tok_mk (P := Tryd.prog) (t := 85) (i := ti85) (by kernel_rfl) (fun w => Tryd.isAgg85 w) ⟨rfl, rfl, by decide, by decide⟩ trivial)
def ti86 : TI := ⟨1, 8, false, [.nilFunc], .oth⟩
theorem tok86 : TOK Tryd.prog 86 ti86 := (tok_mk (P := Tryd.prog) (t := 86) (i := ti86) (by kernel_rfl) (fun w => Tryd.isAgg86 w) ⟨rfl, rfl, by decide, by decide⟩ trivial)
def ti88 : TI := ⟨1, 8, false, [.nilFunc], .oth⟩
theorem tok88 : TOK Tryd.prog 88 ti88 := (tok_mk (P := Tryd.prog) (t := 88) (i := ti88) (by kernel_rfl) (fun w => Tryd.isAgg88 w) ⟨rfl, rfl, by decide, by decide⟩ trivial)
def ti89 : TI := ⟨1, 8, false, [.nilFunc], .oth⟩
theorem tok89 : TOK Tryd.prog 89 ti89 := (tok_mk (P := Tryd.prog) (t := 89) (i := ti89) (by kernel_rfl) (fun w => Tryd.isAgg89 w) ⟨rfl, rfl, by decide, by decide⟩ trivial)
def ti90 : TI := ⟨1, 8, false, [.nilFunc], .oth⟩
theorem tok90 : TOK Tryd.prog 90 ti90 := (tok_mk (P := Tryd.prog) (t := 90) (i := ti90) (by kernel_rfl) (fun w => Tryd.isAgg90 w) ⟨rfl, rfl, by decide, by decide⟩ trivial)
def ti91 : TI := ⟨1, 8, false, [.nilFunc], .oth⟩
theorem tok91 : TOK Tryd.prog 91 ti91 := (tok_mk (P := Tryd.prog) (t := 91) (i := ti91) (by kernel_rfl) (fun w => Tryd.isAgg91 w) ⟨rfl, rfl, by decide, by decide⟩ trivial)
def ti92 : TI := ⟨1, 8, false, [.nilFunc], .oth⟩
theorem tok92 : TOK Tryd.prog 92 ti92 := (tok_mk (P := Tryd.prog) (t := 92) (i := ti92) (by kernel_rfl) (fun w => Tryd.isAgg92 w) ⟨rfl, rfl, by decide, by decide⟩ trivial)
def ti93 : TI := ⟨3, 48, true, [.string ByteArray.empty, .string ByteArray.empty, .nilIface], .st [0, 1, 2]⟩
theorem tok93 : TOK Tryd.prog 93 ti93 := (tok_mk (P := Tryd.prog) (t := 93) (i := ti93) (by kernel_rfl) (fun w => Tryd.isAgg93 w) ⟨rfl, rfl, by decide, by decide⟩ (tok_st Tryd.underlying93 rfl (by kernel_rfl)))
def ti94 : TI := ⟨3, 48, true, [.string ByteArray.empty, .string ByteArray.empty, .nilIface], .st [0, 1, 2]⟩
theorem tok94 : TOK Tryd.prog 94 ti94 := (tok_mk (P := Tryd.prog) (t := 94) (i := ti94) (by kernel_rfl) (fun w => Tryd.isAgg94 w) ⟨rfl, rfl, by decide, by decide⟩ (tok_st Tryd.underlying94 rfl (by kernel_rfl)))
def ti95 : TI := ⟨1, 8, false, [.nilFunc], .oth⟩
theorem tok95 : TOK Tryd.prog 95 ti95 := (tok_mk (P := Tryd.prog) (t := 95) (i := ti95) (by kernel_rfl) (fun w => Tryd.isAgg95 w) ⟨rfl, rfl, by decide, by decide⟩ trivial)
def ti96 : TI := ⟨1, 8, false, [.nilFunc], .oth⟩
theorem tok96 : TOK Tryd.prog 96 ti96 := (tok_mk (P := Tryd.prog) (t := 96) (i := ti96) (by kernel_rfl) (fun w => Tryd.isAgg96 w) ⟨rfl, rfl, by decide, by decide⟩ trivial)
def ti97 : TI := ⟨1, 24, false, [.slice none 0 0], .sl 3⟩
theorem tok97 : TOK Tryd.prog 97 ti97 := (tok_mk (P := Tryd.prog) (t := 97) (i := ti97) (by kernel_rfl) (fun w => Tryd.isAgg97 w) ⟨rfl, rfl, by decide, by decide⟩ Tryd.underlying97)
def ti98 : TI := ⟨1, 8, false, [.nilFunc], .oth⟩
theorem tok98 : TOK Tryd.prog 98 ti98 := (tok_mk (P := Tryd.prog) (t := 98) (i := ti98) (by kernel_rfl) (fun w => Tryd.isAgg98 w) ⟨rfl, rfl, by decide, by decide⟩ trivial)
def ti99 : TI := ⟨1, 8, false, [.pointer none], .oth⟩
theorem tok99 : TOK Tryd.prog 99 ti99 := (tok_mk (P := Tryd.prog) (t := 99) (i := ti99) (by kernel_rfl) (fun w => Tryd.isAgg99 w) ⟨rfl, rfl, by decide, by decide⟩ trivial)
def ti100 : TI := ⟨1, 4, false, [.int .u32 0], .int .u32⟩
theorem tok100 : TOK Tryd.prog 100 ti100 := (tok_mk (P := Tryd.prog) (t := 100) (i := ti100) (by kernel_rfl) (fun w => Tryd.isAgg100 w) ⟨rfl, rfl, by decide, by decide⟩ Tryd.underlying100)
def ti102 : TI := ⟨1, 8, false, [.nilFunc], .oth⟩
theorem tok102 : TOK Tryd.prog 102 ti102 := (tok_mk (P := Tryd.prog) (t := 102) (i := ti102) (by kernel_rfl) (fun w => Tryd.isAgg102 w) ⟨rfl, rfl, by decide, by decide⟩ trivial)
def ti103 : TI := ⟨1, 8, false, [.pointer none], .oth⟩
theorem tok103 : TOK Tryd.prog 103 ti103 := (tok_mk (P := Tryd.prog) (t := 103) (i := ti103) (by kernel_rfl) (fun w => Tryd.isAgg103 w) ⟨rfl, rfl, by decide, by decide⟩ trivial)
def ti104 : TI := ⟨1, 16, true, [.string ByteArray.empty], .st [0]⟩
theorem tok104 : TOK Tryd.prog 104 ti104 := (tok_mk (P := Tryd.prog) (t := 104) (i := ti104) (by kernel_rfl) (fun w => Tryd.isAgg104 w) ⟨rfl, rfl, by decide, by decide⟩ (tok_st Tryd.underlying104 rfl (by kernel_rfl)))
def ti105 : TI := ⟨1, 16, true, [.string ByteArray.empty], .st [0]⟩
theorem tok105 : TOK Tryd.prog 105 ti105 := (tok_mk (P := Tryd.prog) (t := 105) (i := ti105) (by kernel_rfl) (fun w => Tryd.isAgg105 w) ⟨rfl, rfl, by decide, by decide⟩ (tok_st Tryd.underlying105 rfl (by kernel_rfl)))
def ti106 : TI := ⟨24, 24, true, (List.replicate 24 (.int .u8 0)), .arr 24 5⟩
theorem tok106 : TOK Tryd.prog 106 ti106 := (tok_mk (P := Tryd.prog) (t := 106) (i := ti106) (by kernel_rfl) (fun w => Tryd.isAgg106 w) ⟨by kernel_rfl, by kernel_rfl, (fun h => by cases h), (fun h => by cases h)⟩ Tryd.underlying106)
def ti107 : TI := ⟨1, 8, false, [.nilFunc], .oth⟩
theorem tok107 : TOK Tryd.prog 107 ti107 := (tok_mk (P := Tryd.prog) (t := 107) (i := ti107) (by kernel_rfl) (fun w => Tryd.isAgg107 w) ⟨rfl, rfl, by decide, by decide⟩ trivial)
def ti108 : TI := ⟨1, 8, false, [.nilFunc], .oth⟩
theorem tok108 : TOK Tryd.prog 108 ti108 := (tok_mk (P := Tryd.prog) (t := 108) (i := ti108) (by kernel_rfl) (fun w => Tryd.isAgg108 w) ⟨rfl, rfl, by decide, by decide⟩ trivial)
def ti110 : TI := ⟨1, 8, false, [.nilFunc], .oth⟩
theorem tok110 : TOK Tryd.prog 110 ti110 := (tok_mk (P := Tryd.prog) (t := 110) (i := ti110) (by kernel_rfl) (fun w => Tryd.isAgg110 w) ⟨rfl, rfl, by decide, by decide⟩ trivial)
def ti112 : TI := ⟨1, 8, false, [.nilFunc], .oth⟩
theorem tok112 : TOK Tryd.prog 112 ti112 := (tok_mk (P := Tryd.prog) (t := 112) (i := ti112) (by kernel_rfl) (fun w => Tryd.isAgg112 w) ⟨rfl, rfl, by decide, by decide⟩ trivial)
def ti113 : TI := ⟨1, 8, false, [.nilFunc], .oth⟩
theorem tok113 : TOK Tryd.prog 113 ti113 := (tok_mk (P := Tryd.prog) (t := 113) (i := ti113) (by kernel_rfl) (fun w => Tryd.isAgg113 w) ⟨rfl, rfl, by decide, by decide⟩ trivial)
def ti114 : TI := ⟨256, 256, true, (List.replicate 256 (.int .u8 0)), .arr 256 5⟩
theorem tok114 : TOK Tryd.prog 114 ti114 := (tok_mk (P := Tryd.prog) (t := 114) (i := ti114) (by kernel_rfl) (fun w => Tryd.isAgg114 w) ⟨by kernel_rfl, by kernel_rfl, (fun h => by cases h), (fun h => by cases h)⟩ Tryd.underlying114)
def ti115 : TI := ⟨2, 2, true, [.int .u8 0, .int .u8 0], .st [0, 1]⟩
theorem tok115 : TOK Tryd.prog 115 ti115 := (tok_mk (P := Tryd.prog) (t := 115) (i := ti115) (by kernel_rfl) (fun w => Tryd.isAgg115 w) ⟨rfl, rfl, by decide, by decide⟩ (tok_st Tryd.underlying115 rfl (by kernel_rfl)))
def ti116 : TI := ⟨2, 2, true, [.int .u8 0, .int .u8 0], .st [0, 1]⟩
theorem tok116 : TOK Tryd.prog 116 ti116 := (tok_mk (P := Tryd.prog) (t := 116) (i := ti116) (by kernel_rfl) (fun w => Tryd.isAgg116 w) ⟨rfl, rfl, by decide, by decide⟩ (tok_st Tryd.underlying116 rfl (by kernel_rfl)))
def ti117 : TI := ⟨32, 32, true, (List.replicate 32 (.int .u8 0)), .arr 16 116⟩
theorem tok117 : TOK Tryd.prog 117 ti117 := (tok_mk (P := Tryd.prog) (t := 117) (i := ti117) (by kernel_rfl) (fun w => Tryd.isAgg117 w) ⟨by kernel_rfl, by kernel_rfl, (fun h => by cases h), (fun h => by cases h)⟩ Tryd.underlying117)
def ti118 : TI := ⟨1, 8, false, [.nilFunc], .oth⟩
theorem tok118 : TOK Tryd.prog 118 ti118 := (tok_mk (P := Tryd.prog) (t := 118) (i := ti118) (by kernel_rfl) (fun w => Tryd.isAgg118 w) ⟨rfl, rfl, by decide, by decide⟩ trivial)
def ti119 : TI := ⟨20, 160, true, (List.replicate 20 (.int .u64 0)), .arr 20 65⟩
theorem tok119 : TOK Tryd.prog 119 ti119 := (tok_mk (P := Tryd.prog) (t := 119) (i := ti119) (by kernel_rfl) (fun w => Tryd.isAgg119 w) ⟨by kernel_rfl, by kernel_rfl, (fun h => by cases h), (fun h => by cases h)⟩ Tryd.underlying119)
def ti120 : TI := ⟨65, 65, true, (List.replicate 65 (.int .u8 0)), .arr 65 5⟩
theorem tok120 : TOK Tryd.prog 120 ti120 := (tok_mk (P := Tryd.prog) (t := 120) (i := ti120) (by kernel_rfl) (fun w => Tryd.isAgg120 w) ⟨by kernel_rfl, by kernel_rfl, (fun h => by cases h), (fun h => by cases h)⟩ Tryd.underlying120)
def ti121 : TI := ⟨1, 8, false, [.nilFunc], .oth⟩
theorem tok121 : TOK Tryd.prog 121 ti121 := (tok_mk (P := Tryd.prog) (t := 121) (i := ti121) (by kernel_rfl) (fun w => Tryd.isAgg121 w) ⟨rfl, rfl, by decide, by decide⟩ trivial)
def ti122 : TI := ⟨1, 8, false, [.nilFunc], .oth⟩
theorem tok122 : TOK Tryd.prog 122 ti122 := (tok_mk (P := Tryd.prog) (t := 122) (i := ti122) (by kernel_rfl) (fun w => Tryd.isAgg122 w) ⟨rfl, rfl, by decide, by decide⟩ trivial)
def ti123 : TI := ⟨1, 8, false, [.nilFunc], .oth⟩
theorem tok123 : TOK Tryd.prog 123 ti123 := (tok_mk (P := Tryd.prog) (t := 123) (i := ti123) (by kernel_rfl) (fun w => Tryd.isAgg123 w) ⟨rfl, rfl, by decide, by decide⟩ trivial)
def ti124 : TI := ⟨32, 32, true, (List.replicate 32 (.int .u8 0)), .arr 32 5⟩
theorem tok124 : TOK Tryd.prog 124 ti124 := (tok_mk (P := Tryd.prog) (t := 124) (i := ti124) (by kernel_rfl) (fun w => Tryd.isAgg124 w) ⟨by kernel_rfl, by kernel_rfl, (fun h => by cases h), (fun h => by cases h)⟩ Tryd.underlying124)
def ti125 : TI := ⟨64, 64, true, (List.replicate 64 (.int .u8 0)), .arr 64 5⟩
theorem tok125 : TOK Tryd.prog 125 ti125 := (tok_mk (P := Tryd.prog) (t := 125) (i := ti125) (by kernel_rfl) (fun w => Tryd.isAgg125 w) ⟨by kernel_rfl, by kernel_rfl, (fun h => by cases h), (fun h => by cases h)⟩ Tryd.underlying125)
def ti126 : TI := ⟨4, 40, true, [.pointer none, .pointer none, .pointer none, .string ByteArray.empty], .st [0, 1, 2, 3]⟩
theorem tok126 : TOK Tryd.prog 126 ti126 := (tok_mk (P := Tryd.prog) (t := 126) (i := ti126) (by kernel_rfl) (fun w => Tryd.isAgg126 w) ⟨rfl, rfl, by decide, by decide⟩ (tok_st Tryd.underlying126 rfl (by kernel_rfl)))
def ti127 : TI := ⟨4, 40, true, [.pointer none, .pointer none, .pointer none, .string ByteArray.empty], .st [0, 1, 2, 3]⟩
theorem tok127 : TOK Tryd.prog 127 ti127 := (tok_mk (P := Tryd.prog) (t := 127) (i := ti127) (by kernel_rfl) (fun w => Tryd.isAgg127 w) ⟨rfl, rfl, by decide, by decide⟩ (tok_st Tryd.underlying127 rfl (by kernel_rfl)))
def ti131 : TI := ⟨1, 8, false, [.nilFunc], .oth⟩
theorem tok131 : TOK Tryd.prog 131 ti131 := (tok_mk (P := Tryd.prog) (t := 131) (i := ti131) (by kernel_rfl) (fun w => Tryd.isAgg131 w) ⟨rfl, rfl, by decide, by decide⟩ trivial)
def ti132 : TI := ⟨1, 1, false, [.int .u8 0], .int .u8⟩
theorem tok132 : TOK Tryd.prog 132 ti132 := (tok_mk (P := Tryd.prog) (t := 132) (i := ti132) (by kernel_rfl) (fun w => Tryd.isAgg132 w) ⟨rfl, rfl, by decide, by decide⟩ Tryd.underlying132)
def ti133 : TI := ⟨1, 1, false, [.int .u8 0], .int .u8⟩
theorem tok133 : TOK Tryd.prog 133 ti133 := (tok_mk (P := Tryd.prog) (t := 133) (i := ti133) (by kernel_rfl) (fun w => Tryd.isAgg133 w) ⟨rfl, rfl, by decide, by decide⟩ Tryd.underlying133)
def ti134 : TI := ⟨1, 8, false, [.nilFunc], .oth⟩
theorem tok134 : TOK Tryd.prog 134 ti134 := (tok_mk (P := Tryd.prog) (t := 134) (i := ti134) (by kernel_rfl) (fun w => Tryd.isAgg134 w) ⟨rfl, rfl, by decide, by decide⟩ trivial)
def ti135 : TI := ⟨1, 4, false, [.int .i32 0], .int .i32⟩
theorem tok135 : TOK Tryd.prog 135 ti135 := (tok_mk (P := Tryd.prog) (t := 135) (i := ti135) (by kernel_rfl) (fun w => Tryd.isAgg135 w) ⟨rfl, rfl, by decide, by decide⟩ Tryd.underlying135)
def ti136 : TI := ⟨1, 4, false, [.int .i32 0], .int .i32⟩
theorem tok136 : TOK Tryd.prog 136 ti136 := (tok_mk (P := Tryd.prog) (t := 136) (i := ti136) (by kernel_rfl) (fun w => Tryd.isAgg136 w) ⟨rfl, rfl, by decide, by decide⟩ Tryd.underlying136)
def ti137 : TI := ⟨11, 48, true, (List.replicate 2 (.int .u64 0) ++ List.replicate 1 (.int .u32 0) ++ List.replicate 4 (.int .u8 0) ++ List.replicate 1 (.nilFunc) ++ List.replicate 1 (.pointer none) ++ List.replicate 2 (.int .i32 0)), .st [0, 1, 2, 3, 4, 5, 6, 7, 8, 9, 10]⟩
theorem tok137 : TOK Tryd.prog 137 ti137 := (tok_mk (P := Tryd.prog) (t := 137) (i := ti137) (by kernel_rfl) (fun w => Tryd.isAgg137 w) ⟨by kernel_rfl, by kernel_rfl, (fun h => by cases h), (fun h => by cases h)⟩ (tok_st Tryd.underlying137 rfl (by kernel_rfl)))
def ti138 : TI := ⟨11, 48, true, (List.replicate 2 (.int .u64 0) ++ List.replicate 1 (.int .u32 0) ++ List.replicate 4 (.int .u8 0) ++ List.replicate 1 (.nilFunc) ++ List.replicate 1 (.pointer none) ++ List.replicate 2 (.int .i32 0)), .st [0, 1, 2, 3, 4, 5, 6, 7, 8, 9, 10]⟩
theorem tok138 : TOK Tryd.prog 138 ti138 := (tok_mk (P := Tryd.prog) (t := 138) (i := ti138) (by kernel_rfl) (fun w => Tryd.isAgg138 w) ⟨by kernel_rfl, by kernel_rfl, (fun h => by cases h), (fun h => by cases h)⟩ (tok_st Tryd.underlying138 rfl (by kernel_rfl)))
set_option maxRecDepth 100000 in
def T : Nat → Option TI := lkT [(1, ti1), (2, ti2), (3, ti3), (4, ti4), (5, ti5), (6, ti6), (7, ti7), (8, ti8), (9, ti9), (10, ti10), (11, ti11), (12, ti12), (13, ti13), (14, ti14), (15, ti15), (16, ti16), (17, ti17), (18, ti18), (19, ti19), (20, ti20), (21, ti21), (22, ti22), (24, ti24), (25, ti25), (26, ti26), (27, ti27), (28, ti28), (29, ti29), (31, ti31), (32, ti32), (33, ti33), (35, ti35), (36, ti36), (37, ti37), (39, ti39), (40, ti40), (41, ti41), (43, ti43), (44, ti44), (45, ti45), (46, ti46), (47, ti47), (48, ti48), (49, ti49), (50, ti50), (51, ti51), (52, ti52), (53, ti53), (54, ti54), (55, ti55), (56, ti56), (57, ti57), (58, ti58), (59, ti59), (60, ti60), (61, ti61), (62, ti62), (63, ti63), (64, ti64), (65, ti65), (67, ti67), (68, ti68), (69, ti69), (70, ti70), (71, ti71), (72, ti72), (73, ti73), (74, ti74), (75, ti75), (76, ti76), (77, ti77), (78, ti78), (79, ti79), (80, ti80), (81, ti81), (83, ti83), (84, ti84), (85, ti85), (86, ti86), (88, ti88), (89, ti89), (90, ti90), (91, ti91), (92, ti92), (93, ti93), (94, ti94), (95, ti95), (96, ti96), (97, ti97), (98, ti98), (99, ti99), (100, ti100), (102, ti102), (103, ti103), (104, ti104), (105, ti105), (106, ti106), (107, ti107), (108, ti108), (110, ti110), (112, ti112), (113, ti113), (114, ti114), (115, ti115), (116, ti116), (117, ti117), (118, ti118), (119, ti119), (120, ti120), (121, ti121), (122, ti122), (123, ti123), (124, ti124), (125, ti125), (126, ti126), (127, ti127), (131, ti131), (132, ti132), (133, ti133), (134, ti134), (135, ti135), (136, ti136), (137, ti137), (138, ti138)]
set_option maxRecDepth 100000 in
theorem tab : Tab Tryd.prog T := lkT_ok (List.forall_mem_cons.2 ⟨tok1, List.forall_mem_cons.2 ⟨tok2, List.forall_mem_cons.2 ⟨tok3, List.forall_mem_cons.2 ⟨tok4, List.forall_mem_cons.2 ⟨tok5, List.forall_mem_cons.2 ⟨tok6, List.forall_mem_cons.2 ⟨tok7, List.forall_mem_cons.2 ⟨tok8, List.forall_mem_cons.2 ⟨tok9, List.forall_mem_cons.2 ⟨tok10, List.forall_mem_cons.2 ⟨tok11, List.forall_mem_cons.2 ⟨tok12, List.forall_mem_cons.2 ⟨tok13, List.forall_mem_cons.2 ⟨tok14, List.forall_mem_cons.2 ⟨tok15, List.forall_mem_cons.2 ⟨tok16, List.forall_mem_cons.2 ⟨tok17, List.forall_mem_cons.2 ⟨tok18, List.forall_mem_cons.2 ⟨tok19, List.forall_mem_cons.2 ⟨tok20, List.forall_mem_cons.2 ⟨tok21, List.forall_mem_cons.2 ⟨tok22, List.forall_mem_cons.2 ⟨tok24, List.forall_mem_cons.2 ⟨tok25, List.forall_mem_cons.2 ⟨tok26, List.forall_mem_cons.2 ⟨tok27, List.forall_mem_cons.2 ⟨tok28, List.forall_mem_cons.2 ⟨tok29, List.forall_mem_cons.2 ⟨tok31, List.forall_mem_cons.2 ⟨tok32, List.forall_mem_cons.2 ⟨tok33, List.forall_mem_cons.2 ⟨tok35, List.forall_mem_cons.2 ⟨tok36, List.forall_mem_cons.2 ⟨tok37, List.forall_mem_cons.2 ⟨tok39, List.forall_mem_cons.2 ⟨tok40, List.forall_mem_cons.2 ⟨tok41, List.forall_mem_cons.2 ⟨tok43, List.forall_mem_cons.2 ⟨tok44, List.forall_mem_cons.2 ⟨tok45, List.forall_mem_cons.2 ⟨tok46, List.forall_mem_cons.2 ⟨tok47, List.forall_mem_cons.2 ⟨tok48, List.forall_mem_cons.2 ⟨tok49, List.forall_mem_cons.2 ⟨tok50, List.forall_mem_cons.2 ⟨tok51, List.forall_mem_cons.2 ⟨tok52, List.forall_mem_cons.2 ⟨tok53, List.forall_mem_cons.2 ⟨tok54, List.forall_mem_cons.2 ⟨tok55, List.forall_mem_cons.2 ⟨tok56, List.forall_mem_cons.2 ⟨tok57, List.forall_mem_cons.2 ⟨tok58, List.forall_mem_cons.2 ⟨tok59, List.forall_mem_cons.2 ⟨tok60, List.forall_mem_cons.2 ⟨tok61, List.forall_mem_cons.2 ⟨tok62, List.forall_mem_cons.2 ⟨tok63, List.forall_mem_cons.2 ⟨tok64, List.forall_mem_cons.2 ⟨tok65, List.forall_mem_cons.2 ⟨tok67, List.forall_mem_cons.2 ⟨tok68, List.forall_mem_cons.2 ⟨tok69, List.forall_mem_cons.2 ⟨tok70, List.forall_mem_cons.2 ⟨tok71, List.forall_mem_cons.2 ⟨tok72, List.forall_mem_cons.2 ⟨tok73, List.forall_mem_cons.2 ⟨tok74, List.forall_mem_cons.2 ⟨tok75, List.forall_mem_cons.2 ⟨tok76, List.forall_mem_cons.2 ⟨tok77, List.forall_mem_cons.2 ⟨tok78, List.forall_mem_cons.2 ⟨tok79, List.forall_mem_cons.2 ⟨tok80, List.forall_mem_cons.2 ⟨tok81, List.forall_mem_cons.2 ⟨tok83, List.forall_mem_cons.2 ⟨tok84, List.forall_mem_cons.2 ⟨tok85, List.forall_mem_cons.2 ⟨tok86, List.forall_mem_cons.2 ⟨tok88, List.forall_mem_cons.2 ⟨tok89, List.forall_mem_cons.2 ⟨tok90, List.forall_mem_cons.2 ⟨tok91, List.forall_mem_cons.2 ⟨tok92, List.forall_mem_cons.2 ⟨tok93, List.forall_mem_cons.2 ⟨tok94, List.forall_mem_cons.2 ⟨tok95, List.forall_mem_cons.2 ⟨tok96, List.forall_mem_cons.2 ⟨tok97, List.forall_mem_cons.2 ⟨tok98, List.forall_mem_cons.2 ⟨tok99, List.forall_mem_cons.2 ⟨tok100, List.forall_mem_cons.2 ⟨tok102, List.forall_mem_cons.2 ⟨tok103, List.forall_mem_cons.2 ⟨tok104, List.forall_mem_cons.2 ⟨tok105, List.forall_mem_cons.2 ⟨tok106, List.forall_mem_cons.2 ⟨tok107, List.forall_mem_cons.2 ⟨tok108, List.forall_mem_cons.2 ⟨tok110, List.forall_mem_cons.2 ⟨tok112, List.forall_mem_cons.2 ⟨tok113, List.forall_mem_cons.2 ⟨tok114, List.forall_mem_cons.2 ⟨tok115, List.forall_mem_cons.2 ⟨tok116, List.forall_mem_cons.2 ⟨tok117, List.forall_mem_cons.2 ⟨tok118, List.forall_mem_cons.2 ⟨tok119, List.forall_mem_cons.2 ⟨tok120, List.forall_mem_cons.2 ⟨tok121, List.forall_mem_cons.2 ⟨tok122, List.forall_mem_cons.2 ⟨tok123, List.forall_mem_cons.2 ⟨tok124, List.forall_mem_cons.2 ⟨tok125, List.forall_mem_cons.2 ⟨tok126, List.forall_mem_cons.2 ⟨tok127, List.forall_mem_cons.2 ⟨tok131, List.forall_mem_cons.2 ⟨tok132, List.forall_mem_cons.2 ⟨tok133, List.forall_mem_cons.2 ⟨tok134, List.forall_mem_cons.2 ⟨tok135, List.forall_mem_cons.2 ⟨tok136, List.forall_mem_cons.2 ⟨tok137, List.forall_mem_cons.2 ⟨tok138, fun _ h => (List.not_mem_nil h).elim⟩⟩⟩⟩⟩⟩⟩⟩⟩⟩⟩⟩⟩⟩⟩⟩⟩⟩⟩⟩⟩⟩⟩⟩⟩⟩⟩⟩⟩⟩⟩⟩⟩⟩⟩⟩⟩⟩⟩⟩⟩⟩⟩⟩⟩⟩⟩⟩⟩⟩⟩⟩⟩⟩⟩⟩⟩⟩⟩⟩⟩⟩⟩⟩⟩⟩⟩⟩⟩⟩⟩⟩⟩⟩⟩⟩⟩⟩⟩⟩⟩⟩⟩⟩⟩⟩⟩⟩⟩⟩⟩⟩⟩⟩⟩⟩⟩⟩⟩⟩⟩⟩⟩⟩⟩⟩⟩⟩⟩⟩⟩⟩⟩⟩⟩⟩⟩⟩⟩⟩⟩⟩⟩⟩)
end Go.Proofs.YthhilbeddkkigaaDoor.Tt

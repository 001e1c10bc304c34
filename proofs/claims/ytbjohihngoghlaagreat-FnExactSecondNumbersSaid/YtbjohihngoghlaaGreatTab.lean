/- The types of this seat's translation, as a table: closed facts. No condition. -/
import Derived.Test.YtbjohihngoghlaaGreatGlG
import Derived.Test.YtbjohihngoghlaaGreatProg
import Derived.KernelRfl
set_option linter.unusedVariables false
namespace Go.Gl
theorem tok_mk {P : Program} {t : TypeId} {i : TI} (hm : (P.info? t).map (fun x => (x.size, x.bytes, x.zero)) = some (i.size, i.bytes, some i.zval)) (ha : ∀ w, (isAgg t).run P w = .ok i.agg w)
    (hz : i.zero.all plainV = true ∧ i.zero.length = i.size ∧ (i.agg = false → i.size = 1) ∧ i.size ≠ 0)
    (hk : match i.kind with
    | .sl e => P.underlying t = some (.slice e)
    | .arr n e => P.underlying t = some (.array n e)
    | .st offs => ∃ fs, P.underlying t = some (.struct fs) ∧ fs.toList.map (·.offset) = offs ∧ ∀ (j : Nat) f, fs[j]? = some f → ∃ inf, P.info? f.type = some inf ∧ inf.size = gap offs i.size j ∧ inf.size ≠ 0
    | .int k => P.underlying t = some (.int k)
    | .bool => P.underlying t = some .bool
    | .oth => True) : TOK P t i := by
  refine ⟨?_, ha, hz, hk⟩
  obtain ⟨inf, h1, h2⟩ := Option.map_eq_some_iff.1 hm
  simp only [Prod.mk.injEq] at h2
  exact ⟨inf, h1, h2.1, h2.2.1, h2.2.2⟩
theorem tok_st {P : Program} {t : TypeId} {fs : Array Field} {offs : List Nat} {n : Nat} (hu : P.underlying t = some (.struct fs)) (ho : fs.toList.map (·.offset) = offs) (hs : ((List.range fs.size).all fun j => match fs[j]? with | some f => (match P.info? f.type with | some x => Nat.beq x.size (gap offs n j) && !Nat.beq x.size 0 | none => false) | none => false) = true) :
    ∃ fs, P.underlying t = some (.struct fs) ∧ fs.toList.map (·.offset) = offs ∧ ∀ (j : Nat) f, fs[j]? = some f → ∃ inf, P.info? f.type = some inf ∧ inf.size = gap offs n j ∧ inf.size ≠ 0 := by
  refine ⟨fs, hu, ho, fun j f hj => ?_⟩
  have := List.all_eq_true.1 hs j (by have := (Array.getElem?_eq_some_iff.1 hj).1; simpa using this)
  simp only [hj] at this
  cases hi : P.info? f.type with
  | none => rw [hi] at this; cases this
  | some inf =>
    rw [hi] at this
    simp only [Bool.and_eq_true, Bool.not_eq_true'] at this
    exact ⟨inf, rfl, Nat.eq_of_beq_eq_true this.1, fun h => by rw [h] at this; simp at this⟩
def lkT : List (Nat × TI) → Nat → Option TI
  | [], _ => none
  | (k, v) :: l, t => match Nat.beq t k with
    | true => some v
    | false => lkT l t
theorem lkT_ok {P : Program} : ∀ {l : List (Nat × TI)}, (∀ p ∈ l, TOK P p.1 p.2) → Tab P (lkT l)
  | [], _, t, i, h => by simp [lkT] at h
  | (k, v) :: l, hl, t, i, h => by
    simp only [lkT] at h
    split at h
    · rename_i e
      injection h with h
      rw [Nat.eq_of_beq_eq_true e, ← h]
      exact hl (k, v) List.mem_cons_self
    · exact lkT_ok (fun p hp => hl p (List.mem_cons_of_mem _ hp)) t i h
end Go.Gl
namespace Go.Proofs.YtbjohihngoghlaaGreat.Tt
open Go Go.Gl Go.Proofs
def ti1 : TI := ⟨1, 8, false, [.nilFunc], .oth⟩
theorem tok1 : TOK Tryz.prog 1 ti1 := (tok_mk (P := Tryz.prog) (t := 1) (i := ti1) (by kernel_rfl) (fun w => Tryz.isAgg1 w) ⟨rfl, rfl, by decide, by decide⟩ trivial)
def ti2 : TI := ⟨1, 8, false, [.int .i64 0], .int .i64⟩
theorem tok2 : TOK Tryz.prog 2 ti2 := (tok_mk (P := Tryz.prog) (t := 2) (i := ti2) (by kernel_rfl) (fun w => Tryz.isAgg2 w) ⟨rfl, rfl, by decide, by decide⟩ Tryz.underlying2)
def ti3 : TI := ⟨1, 8, false, [.int .i64 0], .int .i64⟩
theorem tok3 : TOK Tryz.prog 3 ti3 := (tok_mk (P := Tryz.prog) (t := 3) (i := ti3) (by kernel_rfl) (fun w => Tryz.isAgg3 w) ⟨rfl, rfl, by decide, by decide⟩ Tryz.underlying3)
def ti4 : TI := ⟨1, 1, false, [.bool false], .bool⟩
theorem tok4 : TOK Tryz.prog 4 ti4 := (tok_mk (P := Tryz.prog) (t := 4) (i := ti4) (by kernel_rfl) (fun w => Tryz.isAgg4 w) ⟨rfl, rfl, by decide, by decide⟩ Tryz.underlying4)
def ti5 : TI := ⟨1, 1, false, [.int .u8 0], .int .u8⟩
theorem tok5 : TOK Tryz.prog 5 ti5 := (tok_mk (P := Tryz.prog) (t := 5) (i := ti5) (by kernel_rfl) (fun w => Tryz.isAgg5 w) ⟨rfl, rfl, by decide, by decide⟩ Tryz.underlying5)
def ti6 : TI := ⟨1, 1, false, [.int .u8 0], .int .u8⟩
theorem tok6 : TOK Tryz.prog 6 ti6 := (tok_mk (P := Tryz.prog) (t := 6) (i := ti6) (by kernel_rfl) (fun w => Tryz.isAgg6 w) ⟨rfl, rfl, by decide, by decide⟩ Tryz.underlying6)
def ti7 : TI := ⟨4, 24, true, [.int .i64 0, .int .i64 0, .bool false, .int .u8 0], .st [0, 1, 2, 3]⟩
theorem tok7 : TOK Tryz.prog 7 ti7 := (tok_mk (P := Tryz.prog) (t := 7) (i := ti7) (by kernel_rfl) (fun w => Tryz.isAgg7 w) ⟨rfl, rfl, by decide, by decide⟩ (tok_st Tryz.underlying7 rfl (by kernel_rfl)))
def ti8 : TI := ⟨4, 24, true, [.int .i64 0, .int .i64 0, .bool false, .int .u8 0], .st [0, 1, 2, 3]⟩
theorem tok8 : TOK Tryz.prog 8 ti8 := (tok_mk (P := Tryz.prog) (t := 8) (i := ti8) (by kernel_rfl) (fun w => Tryz.isAgg8 w) ⟨rfl, rfl, by decide, by decide⟩ (tok_st Tryz.underlying8 rfl (by kernel_rfl)))
def ti9 : TI := ⟨1, 16, false, [.string ByteArray.empty], .oth⟩
theorem tok9 : TOK Tryz.prog 9 ti9 := (tok_mk (P := Tryz.prog) (t := 9) (i := ti9) (by kernel_rfl) (fun w => Tryz.isAgg9 w) ⟨rfl, rfl, by decide, by decide⟩ trivial)
def ti10 : TI := ⟨1, 16, false, [.string ByteArray.empty], .oth⟩
theorem tok10 : TOK Tryz.prog 10 ti10 := (tok_mk (P := Tryz.prog) (t := 10) (i := ti10) (by kernel_rfl) (fun w => Tryz.isAgg10 w) ⟨rfl, rfl, by decide, by decide⟩ trivial)
def ti11 : TI := ⟨1, 16, false, [.string ByteArray.empty], .oth⟩
theorem tok11 : TOK Tryz.prog 11 ti11 := (tok_mk (P := Tryz.prog) (t := 11) (i := ti11) (by kernel_rfl) (fun w => Tryz.isAgg11 w) ⟨rfl, rfl, by decide, by decide⟩ trivial)
def ti12 : TI := ⟨1, 8, false, [.int .u64 0], .int .u64⟩
theorem tok12 : TOK Tryz.prog 12 ti12 := (tok_mk (P := Tryz.prog) (t := 12) (i := ti12) (by kernel_rfl) (fun w => Tryz.isAgg12 w) ⟨rfl, rfl, by decide, by decide⟩ Tryz.underlying12)
def ti13 : TI := ⟨2, 24, true, [.string ByteArray.empty, .int .u64 0], .st [0, 1]⟩
theorem tok13 : TOK Tryz.prog 13 ti13 := (tok_mk (P := Tryz.prog) (t := 13) (i := ti13) (by kernel_rfl) (fun w => Tryz.isAgg13 w) ⟨rfl, rfl, by decide, by decide⟩ (tok_st Tryz.underlying13 rfl (by kernel_rfl)))
def ti14 : TI := ⟨2, 24, true, [.string ByteArray.empty, .int .u64 0], .st [0, 1]⟩
theorem tok14 : TOK Tryz.prog 14 ti14 := (tok_mk (P := Tryz.prog) (t := 14) (i := ti14) (by kernel_rfl) (fun w => Tryz.isAgg14 w) ⟨rfl, rfl, by decide, by decide⟩ (tok_st Tryz.underlying14 rfl (by kernel_rfl)))
def ti15 : TI := ⟨1, 8, false, [.pointer none], .oth⟩
theorem tok15 : TOK Tryz.prog 15 ti15 := (tok_mk (P := Tryz.prog) (t := 15) (i := ti15) (by kernel_rfl) (fun w => Tryz.isAgg15 w) ⟨rfl, rfl, by decide, by decide⟩ trivial)
def ti16 : TI := ⟨1, 8, false, [.pointer none], .oth⟩
theorem tok16 : TOK Tryz.prog 16 ti16 := (tok_mk (P := Tryz.prog) (t := 16) (i := ti16) (by kernel_rfl) (fun w => Tryz.isAgg16 w) ⟨rfl, rfl, by decide, by decide⟩ trivial)
def ti17 : TI := ⟨1, 8, false, [.pointer none], .oth⟩
theorem tok17 : TOK Tryz.prog 17 ti17 := (tok_mk (P := Tryz.prog) (t := 17) (i := ti17) (by kernel_rfl) (fun w => Tryz.isAgg17 w) ⟨rfl, rfl, by decide, by decide⟩ trivial)
def ti18 : TI := ⟨1, 8, true, [.pointer none], .st [0]⟩
theorem tok18 : TOK Tryz.prog 18 ti18 := (tok_mk (P := Tryz.prog) (t := 18) (i := ti18) (by kernel_rfl) (fun w => Tryz.isAgg18 w) ⟨rfl, rfl, by decide, by decide⟩ (tok_st Tryz.underlying18 rfl (by kernel_rfl)))
def ti19 : TI := ⟨1, 8, true, [.pointer none], .st [0]⟩
theorem tok19 : TOK Tryz.prog 19 ti19 := (tok_mk (P := Tryz.prog) (t := 19) (i := ti19) (by kernel_rfl) (fun w => Tryz.isAgg19 w) ⟨rfl, rfl, by decide, by decide⟩ (tok_st Tryz.underlying19 rfl (by kernel_rfl)))
def ti21 : TI := ⟨1, 4, false, [.int .i32 0], .int .i32⟩
theorem tok21 : TOK Tryz.prog 21 ti21 := (tok_mk (P := Tryz.prog) (t := 21) (i := ti21) (by kernel_rfl) (fun w => Tryz.isAgg21 w) ⟨rfl, rfl, by decide, by decide⟩ Tryz.underlying21)
def ti22 : TI := ⟨1, 24, false, [.slice none 0 0], .sl 46⟩
theorem tok22 : TOK Tryz.prog 22 ti22 := (tok_mk (P := Tryz.prog) (t := 22) (i := ti22) (by kernel_rfl) (fun w => Tryz.isAgg22 w) ⟨rfl, rfl, by decide, by decide⟩ Tryz.underlying22)
def ti23 : TI := ⟨1, 24, false, [.slice none 0 0], .sl 50⟩
theorem tok23 : TOK Tryz.prog 23 ti23 := (tok_mk (P := Tryz.prog) (t := 23) (i := ti23) (by kernel_rfl) (fun w => Tryz.isAgg23 w) ⟨rfl, rfl, by decide, by decide⟩ Tryz.underlying23)
def ti24 : TI := ⟨4, 80, true, [.int .i64 0, .slice none 0 0, .slice none 0 0, .slice none 0 0], .st [0, 1, 2, 3]⟩
theorem tok24 : TOK Tryz.prog 24 ti24 := (tok_mk (P := Tryz.prog) (t := 24) (i := ti24) (by kernel_rfl) (fun w => Tryz.isAgg24 w) ⟨rfl, rfl, by decide, by decide⟩ (tok_st Tryz.underlying24 rfl (by kernel_rfl)))
def ti25 : TI := ⟨4, 80, true, [.int .i64 0, .slice none 0 0, .slice none 0 0, .slice none 0 0], .st [0, 1, 2, 3]⟩
theorem tok25 : TOK Tryz.prog 25 ti25 := (tok_mk (P := Tryz.prog) (t := 25) (i := ti25) (by kernel_rfl) (fun w => Tryz.isAgg25 w) ⟨rfl, rfl, by decide, by decide⟩ (tok_st Tryz.underlying25 rfl (by kernel_rfl)))
def ti26 : TI := ⟨1, 8, false, [.nilFunc], .oth⟩
theorem tok26 : TOK Tryz.prog 26 ti26 := (tok_mk (P := Tryz.prog) (t := 26) (i := ti26) (by kernel_rfl) (fun w => Tryz.isAgg26 w) ⟨rfl, rfl, by decide, by decide⟩ trivial)
def ti28 : TI := ⟨1, 8, false, [.nilFunc], .oth⟩
theorem tok28 : TOK Tryz.prog 28 ti28 := (tok_mk (P := Tryz.prog) (t := 28) (i := ti28) (by kernel_rfl) (fun w => Tryz.isAgg28 w) ⟨rfl, rfl, by decide, by decide⟩ trivial)
def ti29 : TI := ⟨4, 80, true, [.int .i64 0, .slice none 0 0, .slice none 0 0, .slice none 0 0], .st [0, 1, 2, 3]⟩
theorem tok29 : TOK Tryz.prog 29 ti29 := (tok_mk (P := Tryz.prog) (t := 29) (i := ti29) (by kernel_rfl) (fun w => Tryz.isAgg29 w) ⟨rfl, rfl, by decide, by decide⟩ (tok_st Tryz.underlying29 rfl (by kernel_rfl)))
def ti30 : TI := ⟨1, 8, false, [.nilFunc], .oth⟩
theorem tok30 : TOK Tryz.prog 30 ti30 := (tok_mk (P := Tryz.prog) (t := 30) (i := ti30) (by kernel_rfl) (fun w => Tryz.isAgg30 w) ⟨rfl, rfl, by decide, by decide⟩ trivial)
def ti31 : TI := ⟨1, 8, false, [.nilFunc], .oth⟩
theorem tok31 : TOK Tryz.prog 31 ti31 := (tok_mk (P := Tryz.prog) (t := 31) (i := ti31) (by kernel_rfl) (fun w => Tryz.isAgg31 w) ⟨rfl, rfl, by decide, by decide⟩ trivial)
def ti32 : TI := ⟨1, 8, false, [.nilFunc], .oth⟩
theorem tok32 : TOK Tryz.prog 32 ti32 := (tok_mk (P := Tryz.prog) (t := 32) (i := ti32) (by kernel_rfl) (fun w => Tryz.isAgg32 w) ⟨rfl, rfl, by decide, by decide⟩ trivial)
def ti33 : TI := ⟨1, 8, false, [.nilFunc], .oth⟩
theorem tok33 : TOK Tryz.prog 33 ti33 := (tok_mk (P := Tryz.prog) (t := 33) (i := ti33) (by kernel_rfl) (fun w => Tryz.isAgg33 w) ⟨rfl, rfl, by decide, by decide⟩ trivial)
def ti34 : TI := ⟨1, 8, false, [.nilFunc], .oth⟩
theorem tok34 : TOK Tryz.prog 34 ti34 := (tok_mk (P := Tryz.prog) (t := 34) (i := ti34) (by kernel_rfl) (fun w => Tryz.isAgg34 w) ⟨rfl, rfl, by decide, by decide⟩ trivial)
def ti35 : TI := ⟨1, 8, false, [.nilFunc], .oth⟩
theorem tok35 : TOK Tryz.prog 35 ti35 := (tok_mk (P := Tryz.prog) (t := 35) (i := ti35) (by kernel_rfl) (fun w => Tryz.isAgg35 w) ⟨rfl, rfl, by decide, by decide⟩ trivial)
def ti36 : TI := ⟨1, 8, false, [.nilFunc], .oth⟩
theorem tok36 : TOK Tryz.prog 36 ti36 := (tok_mk (P := Tryz.prog) (t := 36) (i := ti36) (by kernel_rfl) (fun w => Tryz.isAgg36 w) ⟨rfl, rfl, by decide, by decide⟩ trivial)
def ti37 : TI := ⟨1, 8, false, [.nilFunc], .oth⟩
theorem tok37 : TOK Tryz.prog 37 ti37 := (tok_mk (P := Tryz.prog) (t := 37) (i := ti37) (by kernel_rfl) (fun w => Tryz.isAgg37 w) ⟨rfl, rfl, by decide, by decide⟩ trivial)
def ti38 : TI := ⟨1, 8, false, [.nilFunc], .oth⟩
theorem tok38 : TOK Tryz.prog 38 ti38 := (tok_mk (P := Tryz.prog) (t := 38) (i := ti38) (by kernel_rfl) (fun w => Tryz.isAgg38 w) ⟨rfl, rfl, by decide, by decide⟩ trivial)
def ti39 : TI := ⟨1, 8, false, [.nilFunc], .oth⟩
theorem tok39 : TOK Tryz.prog 39 ti39 := (tok_mk (P := Tryz.prog) (t := 39) (i := ti39) (by kernel_rfl) (fun w => Tryz.isAgg39 w) ⟨rfl, rfl, by decide, by decide⟩ trivial)
def ti40 : TI := ⟨1, 8, false, [.nilFunc], .oth⟩
theorem tok40 : TOK Tryz.prog 40 ti40 := (tok_mk (P := Tryz.prog) (t := 40) (i := ti40) (by kernel_rfl) (fun w => Tryz.isAgg40 w) ⟨rfl, rfl, by decide, by decide⟩ trivial)
def ti41 : TI := ⟨1, 8, false, [.nilFunc], .oth⟩
theorem tok41 : TOK Tryz.prog 41 ti41 := (tok_mk (P := Tryz.prog) (t := 41) (i := ti41) (by kernel_rfl) (fun w => Tryz.isAgg41 w) ⟨rfl, rfl, by decide, by decide⟩ trivial)
def ti42 : TI := ⟨1, 8, false, [.nilFunc], .oth⟩
theorem tok42 : TOK Tryz.prog 42 ti42 := (tok_mk (P := Tryz.prog) (t := 42) (i := ti42) (by kernel_rfl) (fun w => Tryz.isAgg42 w) ⟨rfl, rfl, by decide, by decide⟩ trivial)
def ti43 : TI := ⟨1, 8, false, [.nilFunc], .oth⟩
theorem tok43 : TOK Tryz.prog 43 ti43 := (tok_mk (P := Tryz.prog) (t := 43) (i := ti43) (by kernel_rfl) (fun w => Tryz.isAgg43 w) ⟨rfl, rfl, by decide, by decide⟩ trivial)
def ti44 : TI := ⟨1, 8, false, [.nilFunc], .oth⟩
theorem tok44 : TOK Tryz.prog 44 ti44 := (tok_mk (P := Tryz.prog) (t := 44) (i := ti44) (by kernel_rfl) (fun w => Tryz.isAgg44 w) ⟨rfl, rfl, by decide, by decide⟩ trivial)
def ti45 : TI := ⟨1, 8, false, [.nilFunc], .oth⟩
theorem tok45 : TOK Tryz.prog 45 ti45 := (tok_mk (P := Tryz.prog) (t := 45) (i := ti45) (by kernel_rfl) (fun w => Tryz.isAgg45 w) ⟨rfl, rfl, by decide, by decide⟩ trivial)
def ti46 : TI := ⟨1, 24, false, [.slice none 0 0], .sl 2⟩
theorem tok46 : TOK Tryz.prog 46 ti46 := (tok_mk (P := Tryz.prog) (t := 46) (i := ti46) (by kernel_rfl) (fun w => Tryz.isAgg46 w) ⟨rfl, rfl, by decide, by decide⟩ Tryz.underlying46)
def ti47 : TI := ⟨1, 8, false, [.nilFunc], .oth⟩
theorem tok47 : TOK Tryz.prog 47 ti47 := (tok_mk (P := Tryz.prog) (t := 47) (i := ti47) (by kernel_rfl) (fun w => Tryz.isAgg47 w) ⟨rfl, rfl, by decide, by decide⟩ trivial)
def ti48 : TI := ⟨1, 8, false, [.nilFunc], .oth⟩
theorem tok48 : TOK Tryz.prog 48 ti48 := (tok_mk (P := Tryz.prog) (t := 48) (i := ti48) (by kernel_rfl) (fun w => Tryz.isAgg48 w) ⟨rfl, rfl, by decide, by decide⟩ trivial)
def ti49 : TI := ⟨1, 8, false, [.nilFunc], .oth⟩
theorem tok49 : TOK Tryz.prog 49 ti49 := (tok_mk (P := Tryz.prog) (t := 49) (i := ti49) (by kernel_rfl) (fun w => Tryz.isAgg49 w) ⟨rfl, rfl, by decide, by decide⟩ trivial)
def ti50 : TI := ⟨1, 24, false, [.slice none 0 0], .sl 22⟩
theorem tok50 : TOK Tryz.prog 50 ti50 := (tok_mk (P := Tryz.prog) (t := 50) (i := ti50) (by kernel_rfl) (fun w => Tryz.isAgg50 w) ⟨rfl, rfl, by decide, by decide⟩ Tryz.underlying50)
def ti51 : TI := ⟨1, 8, false, [.nilFunc], .oth⟩
theorem tok51 : TOK Tryz.prog 51 ti51 := (tok_mk (P := Tryz.prog) (t := 51) (i := ti51) (by kernel_rfl) (fun w => Tryz.isAgg51 w) ⟨rfl, rfl, by decide, by decide⟩ trivial)
def ti52 : TI := ⟨1, 8, false, [.nilFunc], .oth⟩
theorem tok52 : TOK Tryz.prog 52 ti52 := (tok_mk (P := Tryz.prog) (t := 52) (i := ti52) (by kernel_rfl) (fun w => Tryz.isAgg52 w) ⟨rfl, rfl, by decide, by decide⟩ trivial)
def ti53 : TI := ⟨1, 8, false, [.nilFunc], .oth⟩
theorem tok53 : TOK Tryz.prog 53 ti53 := (tok_mk (P := Tryz.prog) (t := 53) (i := ti53) (by kernel_rfl) (fun w => Tryz.isAgg53 w) ⟨rfl, rfl, by decide, by decide⟩ trivial)
def ti54 : TI := ⟨1, 8, false, [.nilFunc], .oth⟩
theorem tok54 : TOK Tryz.prog 54 ti54 := (tok_mk (P := Tryz.prog) (t := 54) (i := ti54) (by kernel_rfl) (fun w => Tryz.isAgg54 w) ⟨rfl, rfl, by decide, by decide⟩ trivial)
def ti55 : TI := ⟨1, 8, false, [.nilFunc], .oth⟩
theorem tok55 : TOK Tryz.prog 55 ti55 := (tok_mk (P := Tryz.prog) (t := 55) (i := ti55) (by kernel_rfl) (fun w => Tryz.isAgg55 w) ⟨rfl, rfl, by decide, by decide⟩ trivial)
def ti56 : TI := ⟨1, 8, false, [.nilFunc], .oth⟩
theorem tok56 : TOK Tryz.prog 56 ti56 := (tok_mk (P := Tryz.prog) (t := 56) (i := ti56) (by kernel_rfl) (fun w => Tryz.isAgg56 w) ⟨rfl, rfl, by decide, by decide⟩ trivial)
def ti57 : TI := ⟨1, 8, false, [.nilFunc], .oth⟩
theorem tok57 : TOK Tryz.prog 57 ti57 := (tok_mk (P := Tryz.prog) (t := 57) (i := ti57) (by kernel_rfl) (fun w => Tryz.isAgg57 w) ⟨rfl, rfl, by decide, by decide⟩ trivial)
def ti58 : TI := ⟨1, 8, false, [.nilFunc], .oth⟩
theorem tok58 : TOK Tryz.prog 58 ti58 := (tok_mk (P := Tryz.prog) (t := 58) (i := ti58) (by kernel_rfl) (fun w => Tryz.isAgg58 w) ⟨rfl, rfl, by decide, by decide⟩ trivial)
def ti59 : TI := ⟨1, 8, false, [.nilFunc], .oth⟩
theorem tok59 : TOK Tryz.prog 59 ti59 := (tok_mk (P := Tryz.prog) (t := 59) (i := ti59) (by kernel_rfl) (fun w => Tryz.isAgg59 w) ⟨rfl, rfl, by decide, by decide⟩ trivial)
def ti60 : TI := ⟨1, 8, false, [.nilFunc], .oth⟩
theorem tok60 : TOK Tryz.prog 60 ti60 := (tok_mk (P := Tryz.prog) (t := 60) (i := ti60) (by kernel_rfl) (fun w => Tryz.isAgg60 w) ⟨rfl, rfl, by decide, by decide⟩ trivial)
def ti61 : TI := ⟨1, 8, false, [.nilFunc], .oth⟩
theorem tok61 : TOK Tryz.prog 61 ti61 := (tok_mk (P := Tryz.prog) (t := 61) (i := ti61) (by kernel_rfl) (fun w => Tryz.isAgg61 w) ⟨rfl, rfl, by decide, by decide⟩ trivial)
def ti62 : TI := ⟨1, 8, false, [.nilFunc], .oth⟩
theorem tok62 : TOK Tryz.prog 62 ti62 := (tok_mk (P := Tryz.prog) (t := 62) (i := ti62) (by kernel_rfl) (fun w => Tryz.isAgg62 w) ⟨rfl, rfl, by decide, by decide⟩ trivial)
def ti63 : TI := ⟨1, 8, false, [.nilFunc], .oth⟩
theorem tok63 : TOK Tryz.prog 63 ti63 := (tok_mk (P := Tryz.prog) (t := 63) (i := ti63) (by kernel_rfl) (fun w => Tryz.isAgg63 w) ⟨rfl, rfl, by decide, by decide⟩ trivial)
def ti64 : TI := ⟨1, 8, false, [.nilFunc], .oth⟩
theorem tok64 : TOK Tryz.prog 64 ti64 := (tok_mk (P := Tryz.prog) (t := 64) (i := ti64) (by kernel_rfl) (fun w => Tryz.isAgg64 w) ⟨rfl, rfl, by decide, by decide⟩ trivial)
def ti65 : TI := ⟨1, 8, false, [.nilFunc], .oth⟩
theorem tok65 : TOK Tryz.prog 65 ti65 := (tok_mk (P := Tryz.prog) (t := 65) (i := ti65) (by kernel_rfl) (fun w => Tryz.isAgg65 w) ⟨rfl, rfl, by decide, by decide⟩ trivial)
def ti66 : TI := ⟨1, 8, false, [.nilFunc], .oth⟩
theorem tok66 : TOK Tryz.prog 66 ti66 := (tok_mk (P := Tryz.prog) (t := 66) (i := ti66) (by kernel_rfl) (fun w => Tryz.isAgg66 w) ⟨rfl, rfl, by decide, by decide⟩ trivial)
def ti67 : TI := ⟨1, 8, false, [.nilFunc], .oth⟩
theorem tok67 : TOK Tryz.prog 67 ti67 := (tok_mk (P := Tryz.prog) (t := 67) (i := ti67) (by kernel_rfl) (fun w => Tryz.isAgg67 w) ⟨rfl, rfl, by decide, by decide⟩ trivial)
def ti68 : TI := ⟨1, 8, false, [.nilFunc], .oth⟩
theorem tok68 : TOK Tryz.prog 68 ti68 := (tok_mk (P := Tryz.prog) (t := 68) (i := ti68) (by kernel_rfl) (fun w => Tryz.isAgg68 w) ⟨rfl, rfl, by decide, by decide⟩ trivial)
def ti69 : TI := ⟨1, 8, false, [.nilFunc], .oth⟩
theorem tok69 : TOK Tryz.prog 69 ti69 := (tok_mk (P := Tryz.prog) (t := 69) (i := ti69) (by kernel_rfl) (fun w => Tryz.isAgg69 w) ⟨rfl, rfl, by decide, by decide⟩ trivial)
def ti70 : TI := ⟨1, 8, false, [.nilFunc], .oth⟩
theorem tok70 : TOK Tryz.prog 70 ti70 := (tok_mk (P := Tryz.prog) (t := 70) (i := ti70) (by kernel_rfl) (fun w => Tryz.isAgg70 w) ⟨rfl, rfl, by decide, by decide⟩ trivial)
def ti71 : TI := ⟨1, 8, false, [.nilFunc], .oth⟩
theorem tok71 : TOK Tryz.prog 71 ti71 := (tok_mk (P := Tryz.prog) (t := 71) (i := ti71) (by kernel_rfl) (fun w => Tryz.isAgg71 w) ⟨rfl, rfl, by decide, by decide⟩ trivial)
def ti72 : TI := ⟨1, 8, false, [.nilFunc], .oth⟩
theorem tok72 : TOK Tryz.prog 72 ti72 := (tok_mk (P := Tryz.prog) (t := 72) (i := ti72) (by kernel_rfl) (fun w => Tryz.isAgg72 w) ⟨rfl, rfl, by decide, by decide⟩ trivial)
def ti73 : TI := ⟨1, 8, false, [.nilFunc], .oth⟩
theorem tok73 : TOK Tryz.prog 73 ti73 := (tok_mk (P := Tryz.prog) (t := 73) (i := ti73) (by kernel_rfl) (fun w => Tryz.isAgg73 w) ⟨rfl, rfl, by decide, by decide⟩ trivial)
def ti74 : TI := ⟨1, 8, false, [.nilFunc], .oth⟩
theorem tok74 : TOK Tryz.prog 74 ti74 := (tok_mk (P := Tryz.prog) (t := 74) (i := ti74) (by kernel_rfl) (fun w => Tryz.isAgg74 w) ⟨rfl, rfl, by decide, by decide⟩ trivial)
def ti75 : TI := ⟨1, 8, false, [.nilFunc], .oth⟩
theorem tok75 : TOK Tryz.prog 75 ti75 := (tok_mk (P := Tryz.prog) (t := 75) (i := ti75) (by kernel_rfl) (fun w => Tryz.isAgg75 w) ⟨rfl, rfl, by decide, by decide⟩ trivial)
def ti76 : TI := ⟨1, 8, false, [.nilFunc], .oth⟩
theorem tok76 : TOK Tryz.prog 76 ti76 := (tok_mk (P := Tryz.prog) (t := 76) (i := ti76) (by kernel_rfl) (fun w => Tryz.isAgg76 w) ⟨rfl, rfl, by decide, by decide⟩ trivial)
def ti77 : TI := ⟨1, 8, false, [.nilFunc], .oth⟩
theorem tok77 : TOK Tryz.prog 77 ti77 := (tok_mk (P := Tryz.prog) (t := 77) (i := ti77) (by kernel_rfl) (fun w => Tryz.isAgg77 w) ⟨rfl, rfl, by decide, by decide⟩ trivial)
def ti78 : TI := ⟨1, 8, false, [.nilFunc], .oth⟩
theorem tok78 : TOK Tryz.prog 78 ti78 := (tok_mk (P := Tryz.prog) (t := 78) (i := ti78) (by kernel_rfl) (fun w => Tryz.isAgg78 w) ⟨rfl, rfl, by decide, by decide⟩ trivial)
def ti79 : TI := ⟨1, 8, false, [.nilFunc], .oth⟩
theorem tok79 : TOK Tryz.prog 79 ti79 := (tok_mk (P := Tryz.prog) (t := 79) (i := ti79) (by kernel_rfl) (fun w => Tryz.isAgg79 w) ⟨rfl, rfl, by decide, by decide⟩ trivial)
def ti80 : TI := ⟨1, 8, false, [.nilFunc], .oth⟩
theorem tok80 : TOK Tryz.prog 80 ti80 := (tok_mk (P := Tryz.prog) (t := 80) (i := ti80) (by kernel_rfl) (fun w => Tryz.isAgg80 w) ⟨rfl, rfl, by decide, by decide⟩ trivial)
def ti81 : TI := ⟨1, 8, false, [.nilFunc], .oth⟩
theorem tok81 : TOK Tryz.prog 81 ti81 := (tok_mk (P := Tryz.prog) (t := 81) (i := ti81) (by kernel_rfl) (fun w => Tryz.isAgg81 w) ⟨rfl, rfl, by decide, by decide⟩ trivial)
def ti82 : TI := ⟨1, 8, false, [.nilFunc], .oth⟩
theorem tok82 : TOK Tryz.prog 82 ti82 := (tok_mk (P := Tryz.prog) (t := 82) (i := ti82) (by kernel_rfl) (fun w => Tryz.isAgg82 w) ⟨rfl, rfl, by decide, by decide⟩ trivial)
def ti83 : TI := ⟨1, 8, false, [.nilFunc], .oth⟩
theorem tok83 : TOK Tryz.prog 83 ti83 := (tok_mk (P := Tryz.prog) (t := 83) (i := ti83) (by kernel_rfl) (fun w => Tryz.isAgg83 w) ⟨rfl, rfl, by decide, by decide⟩ trivial)
def ti84 : TI := ⟨1, 8, false, [.nilFunc], .oth⟩
theorem tok84 : TOK Tryz.prog 84 ti84 := (tok_mk (P := Tryz.prog) (t := 84) (i := ti84) (by kernel_rfl) (fun w => Tryz.isAgg84 w) ⟨rfl, rfl, by decide, by decide⟩ trivial)
def ti85 : TI := ⟨1, 8, false, [.nilFunc], .oth⟩
theorem tok85 : TOK Tryz.prog 85 ti85 := (tok_mk (P := Tryz.prog) (t := 85) (i := ti85) (by kernel_rfl) (fun w => Tryz.isAgg85 w) ⟨rfl, rfl, by decide, by decide⟩ trivial)
def ti86 : TI := ⟨1, 8, false, [.nilFunc], .oth⟩
theorem tok86 : TOK Tryz.prog 86 ti86 := (tok_mk (P := Tryz.prog) (t := 86) (i := ti86) (by kernel_rfl) (fun w => Tryz.isAgg86 w) ⟨rfl, rfl, by decide, by decide⟩ trivial)
def ti87 : TI := ⟨1, 8, false, [.nilFunc], .oth⟩
theorem tok87 : TOK Tryz.prog 87 ti87 := (tok_mk (P := Tryz.prog) (t := 87) (i := ti87) (by kernel_rfl) (fun w => Tryz.isAgg87 w) ⟨rfl, rfl, by decide, by decide⟩ trivial)
def ti88 : TI := ⟨1, 8, false, [.nilFunc], .oth⟩
theorem tok88 : TOK Tryz.prog 88 ti88 := (tok_mk (P := Tryz.prog) (t := 88) (i := ti88) (by kernel_rfl) (fun w => Tryz.isAgg88 w) ⟨rfl, rfl, by decide, by decide⟩ trivial)
def ti89 : TI := ⟨1, 8, false, [.nilFunc], .oth⟩
theorem tok89 : TOK Tryz.prog 89 ti89 := (tok_mk (P := Tryz.prog) (t := 89) (i := ti89) (by kernel_rfl) (fun w => Tryz.isAgg89 w) ⟨rfl, rfl, by decide, by decide⟩ trivial)
def ti90 : TI := ⟨1, 8, false, [.nilFunc], .oth⟩
theorem tok90 : TOK Tryz.prog 90 ti90 := (tok_mk (P := Tryz.prog) (t := 90) (i := ti90) (by kernel_rfl) (fun w => Tryz.isAgg90 w) ⟨rfl, rfl, by decide, by decide⟩ trivial)
def ti91 : TI := ⟨1, 8, false, [.nilFunc], .oth⟩
theorem tok91 : TOK Tryz.prog 91 ti91 := (tok_mk (P := Tryz.prog) (t := 91) (i := ti91) (by kernel_rfl) (fun w => Tryz.isAgg91 w) ⟨rfl, rfl, by decide, by decide⟩ trivial)
def ti92 : TI := ⟨1, 24, false, [.slice none 0 0], .sl 3⟩
theorem tok92 : TOK Tryz.prog 92 ti92 := (tok_mk (P := Tryz.prog) (t := 92) (i := ti92) (by kernel_rfl) (fun w => Tryz.isAgg92 w) ⟨rfl, rfl, by decide, by decide⟩ Tryz.underlying92)
def ti93 : TI := ⟨1, 8, false, [.nilFunc], .oth⟩
theorem tok93 : TOK Tryz.prog 93 ti93 := (tok_mk (P := Tryz.prog) (t := 93) (i := ti93) (by kernel_rfl) (fun w => Tryz.isAgg93 w) ⟨rfl, rfl, by decide, by decide⟩ trivial)
def ti94 : TI := ⟨1, 8, false, [.nilFunc], .oth⟩
theorem tok94 : TOK Tryz.prog 94 ti94 := (tok_mk (P := Tryz.prog) (t := 94) (i := ti94) (by kernel_rfl) (fun w => Tryz.isAgg94 w) ⟨rfl, rfl, by decide, by decide⟩ trivial)
def ti95 : TI := ⟨4, 40, true, [.pointer none, .pointer none, .pointer none, .string ByteArray.empty], .st [0, 1, 2, 3]⟩
theorem tok95 : TOK Tryz.prog 95 ti95 := (tok_mk (P := Tryz.prog) (t := 95) (i := ti95) (by kernel_rfl) (fun w => Tryz.isAgg95 w) ⟨rfl, rfl, by decide, by decide⟩ (tok_st Tryz.underlying95 rfl (by kernel_rfl)))
def ti96 : TI := ⟨4, 40, true, [.pointer none, .pointer none, .pointer none, .string ByteArray.empty], .st [0, 1, 2, 3]⟩
theorem tok96 : TOK Tryz.prog 96 ti96 := (tok_mk (P := Tryz.prog) (t := 96) (i := ti96) (by kernel_rfl) (fun w => Tryz.isAgg96 w) ⟨rfl, rfl, by decide, by decide⟩ (tok_st Tryz.underlying96 rfl (by kernel_rfl)))
def ti100 : TI := ⟨1, 8, false, [.nilFunc], .oth⟩
theorem tok100 : TOK Tryz.prog 100 ti100 := (tok_mk (P := Tryz.prog) (t := 100) (i := ti100) (by kernel_rfl) (fun w => Tryz.isAgg100 w) ⟨rfl, rfl, by decide, by decide⟩ trivial)
def ti101 : TI := ⟨1, 4, false, [.int .u32 0], .int .u32⟩
theorem tok101 : TOK Tryz.prog 101 ti101 := (tok_mk (P := Tryz.prog) (t := 101) (i := ti101) (by kernel_rfl) (fun w => Tryz.isAgg101 w) ⟨rfl, rfl, by decide, by decide⟩ Tryz.underlying101)
def ti102 : TI := ⟨1, 1, false, [.int .u8 0], .int .u8⟩
theorem tok102 : TOK Tryz.prog 102 ti102 := (tok_mk (P := Tryz.prog) (t := 102) (i := ti102) (by kernel_rfl) (fun w => Tryz.isAgg102 w) ⟨rfl, rfl, by decide, by decide⟩ Tryz.underlying102)
def ti103 : TI := ⟨1, 1, false, [.int .u8 0], .int .u8⟩
theorem tok103 : TOK Tryz.prog 103 ti103 := (tok_mk (P := Tryz.prog) (t := 103) (i := ti103) (by kernel_rfl) (fun w => Tryz.isAgg103 w) ⟨rfl, rfl, by decide, by decide⟩ Tryz.underlying103)
def ti104 : TI := ⟨1, 8, false, [.nilFunc], .oth⟩
theorem tok104 : TOK Tryz.prog 104 ti104 := (tok_mk (P := Tryz.prog) (t := 104) (i := ti104) (by kernel_rfl) (fun w => Tryz.isAgg104 w) ⟨rfl, rfl, by decide, by decide⟩ trivial)
def ti105 : TI := ⟨1, 8, false, [.pointer none], .oth⟩
theorem tok105 : TOK Tryz.prog 105 ti105 := (tok_mk (P := Tryz.prog) (t := 105) (i := ti105) (by kernel_rfl) (fun w => Tryz.isAgg105 w) ⟨rfl, rfl, by decide, by decide⟩ trivial)
def ti106 : TI := ⟨1, 4, false, [.int .i32 0], .int .i32⟩
theorem tok106 : TOK Tryz.prog 106 ti106 := (tok_mk (P := Tryz.prog) (t := 106) (i := ti106) (by kernel_rfl) (fun w => Tryz.isAgg106 w) ⟨rfl, rfl, by decide, by decide⟩ Tryz.underlying106)
def ti107 : TI := ⟨1, 4, false, [.int .i32 0], .int .i32⟩
theorem tok107 : TOK Tryz.prog 107 ti107 := (tok_mk (P := Tryz.prog) (t := 107) (i := ti107) (by kernel_rfl) (fun w => Tryz.isAgg107 w) ⟨rfl, rfl, by decide, by decide⟩ Tryz.underlying107)
set_option maxRecDepth 100000 in
def T : Nat → Option TI := lkT [(1, ti1), (2, ti2), (3, ti3), (4, ti4), (5, ti5), (6, ti6), (7, ti7), (8, ti8), (9, ti9), (10, ti10), (11, ti11), (12, ti12), (13, ti13), (14, ti14), (15, ti15), (16, ti16), (17, ti17), (18, ti18), (19, ti19), (21, ti21), (22, ti22), (23, ti23), (24, ti24), (25, ti25), (26, ti26), (28, ti28), (29, ti29), (30, ti30), (31, ti31), (32, ti32), (33, ti33), (34, ti34), (35, ti35), (36, ti36), (37, ti37), (38, ti38), (39, ti39), (40, ti40), (41, ti41), (42, ti42), (43, ti43), (44, ti44), (45, ti45), (46, ti46), (47, ti47), (48, ti48), (49, ti49), (50, ti50), (51, ti51), (52, ti52), (53, ti53), (54, ti54), (55, ti55), (56, ti56), (57, ti57), (58, ti58), (59, ti59), (60, ti60), (61, ti61), (62, ti62), (63, ti63), (64, ti64), (65, ti65), (66, ti66), (67, ti67), (68, ti68), (69, ti69), (70, ti70), (71, ti71), (72, ti72), (73, ti73), (74, ti74), (75, ti75), (76, ti76), (77, ti77), (78, ti78), (79, ti79), (80, ti80), (81, ti81), (82, ti82), (83, ti83), (84, ti84), (85, ti85), (86, ti86), (87, ti87), (88, ti88), (89, ti89), (90, ti90), (91, ti91), (92, ti92), (93, ti93), (94, ti94), (95, ti95), (96, ti96), (100, ti100), (101, ti101), (102, ti102), (103, ti103), (104, ti104), (105, ti105), (106, ti106), (107, ti107)]
set_option maxRecDepth 100000 in
theorem tab : Tab Tryz.prog T := lkT_ok (List.forall_mem_cons.2 ⟨tok1, List.forall_mem_cons.2 ⟨tok2, List.forall_mem_cons.2 ⟨tok3, List.forall_mem_cons.2 ⟨tok4, List.forall_mem_cons.2 ⟨tok5, List.forall_mem_cons.2 ⟨tok6, List.forall_mem_cons.2 ⟨tok7, List.forall_mem_cons.2 ⟨tok8, List.forall_mem_cons.2 ⟨tok9, List.forall_mem_cons.2 ⟨tok10, List.forall_mem_cons.2 ⟨tok11, List.forall_mem_cons.2 ⟨tok12, List.forall_mem_cons.2 ⟨tok13, List.forall_mem_cons.2 ⟨tok14, List.forall_mem_cons.2 ⟨tok15, List.forall_mem_cons.2 ⟨tok16, List.forall_mem_cons.2 ⟨tok17, List.forall_mem_cons.2 ⟨tok18, List.forall_mem_cons.2 ⟨tok19, List.forall_mem_cons.2 ⟨tok21, List.forall_mem_cons.2 ⟨tok22, List.forall_mem_cons.2 ⟨tok23, List.forall_mem_cons.2 ⟨tok24, List.forall_mem_cons.2 ⟨tok25, List.forall_mem_cons.2 ⟨tok26, List.forall_mem_cons.2 ⟨tok28, List.forall_mem_cons.2 ⟨tok29, List.forall_mem_cons.2 ⟨tok30, List.forall_mem_cons.2 ⟨tok31, List.forall_mem_cons.2 ⟨tok32, List.forall_mem_cons.2 ⟨tok33, List.forall_mem_cons.2 ⟨tok34, List.forall_mem_cons.2 ⟨tok35, List.forall_mem_cons.2 ⟨tok36, List.forall_mem_cons.2 ⟨tok37, List.forall_mem_cons.2 ⟨tok38, List.forall_mem_cons.2 ⟨tok39, List.forall_mem_cons.2 ⟨tok40, List.forall_mem_cons.2 ⟨tok41, List.forall_mem_cons.2 ⟨tok42, List.forall_mem_cons.2 ⟨tok43, List.forall_mem_cons.2 ⟨tok44, List.forall_mem_cons.2 ⟨tok45, List.forall_mem_cons.2 ⟨tok46, List.forall_mem_cons.2 ⟨tok47, List.forall_mem_cons.2 ⟨tok48, List.forall_mem_cons.2 ⟨tok49, List.forall_mem_cons.2 ⟨tok50, List.forall_mem_cons.2 ⟨tok51, List.forall_mem_cons.2 ⟨tok52, List.forall_mem_cons.2 ⟨tok53, List.forall_mem_cons.2 ⟨tok54, List.forall_mem_cons.2 ⟨tok55, List.forall_mem_cons.2 ⟨tok56, List.forall_mem_cons.2 ⟨tok57, List.forall_mem_cons.2 ⟨tok58, List.forall_mem_cons.2 ⟨tok59, List.forall_mem_cons.2 ⟨tok60, List.forall_mem_cons.2 ⟨tok61, List.forall_mem_cons.2 ⟨tok62, List.forall_mem_cons.2 ⟨tok63, List.forall_mem_cons.2 ⟨tok64, List.forall_mem_cons.2 ⟨tok65, List.forall_mem_cons.2 ⟨tok66, List.forall_mem_cons.2 ⟨tok67, List.forall_mem_cons.2 ⟨tok68, List.forall_mem_cons.2 ⟨tok69, List.forall_mem_cons.2 ⟨tok70, List.forall_mem_cons.2 ⟨tok71, List.forall_mem_cons.2 ⟨tok72, List.forall_mem_cons.2 ⟨tok73, List.forall_mem_cons.2 ⟨tok74, List.forall_mem_cons.2 ⟨tok75, List.forall_mem_cons.2 ⟨tok76, List.forall_mem_cons.2 ⟨tok77, List.forall_mem_cons.2 ⟨tok78, List.forall_mem_cons.2 ⟨tok79, List.forall_mem_cons.2 ⟨tok80, List.forall_mem_cons.2 ⟨tok81, List.forall_mem_cons.2 ⟨tok82, List.forall_mem_cons.2 ⟨tok83, List.forall_mem_cons.2 ⟨tok84, List.forall_mem_cons.2 ⟨tok85, List.forall_mem_cons.2 ⟨tok86, List.forall_mem_cons.2 ⟨tok87, List.forall_mem_cons.2 ⟨tok88, List.forall_mem_cons.2 ⟨tok89, List.forall_mem_cons.2 ⟨tok90, List.forall_mem_cons.2 ⟨tok91, List.forall_mem_cons.2 ⟨tok92, List.forall_mem_cons.2 ⟨tok93, List.forall_mem_cons.2 ⟨tok94, List.forall_mem_cons.2 ⟨tok95, List.forall_mem_cons.2 ⟨tok96, List.forall_mem_cons.2 ⟨tok100, List.forall_mem_cons.2 ⟨tok101, List.forall_mem_cons.2 ⟨tok102, List.forall_mem_cons.2 ⟨tok103, List.forall_mem_cons.2 ⟨tok104, List.forall_mem_cons.2 ⟨tok105, List.forall_mem_cons.2 ⟨tok106, List.forall_mem_cons.2 ⟨tok107, fun _ h => (List.not_mem_nil h).elim⟩⟩⟩⟩⟩⟩⟩⟩⟩⟩⟩⟩⟩⟩⟩⟩⟩⟩⟩⟩⟩⟩⟩⟩⟩⟩⟩⟩⟩⟩⟩⟩⟩⟩⟩⟩⟩⟩⟩⟩⟩⟩⟩⟩⟩⟩⟩⟩⟩⟩⟩⟩⟩⟩⟩⟩⟩⟩⟩⟩⟩⟩⟩⟩⟩⟩⟩⟩⟩⟩⟩⟩⟩⟩⟩⟩⟩⟩⟩⟩⟩⟩⟩⟩⟩⟩⟩⟩⟩⟩⟩⟩⟩⟩⟩⟩⟩⟩⟩⟩⟩⟩)
end Go.Proofs.YtbjohihngoghlaaGreat.Tt

/- The types of this seat's translation, as a table: closed facts. No condition. -/
import Derived.Test.YtionapmdibdfpaaGlG
import Derived.Test.YtionapmdibdfpaaProg
import Derived.KernelRfl
set_option linter.unusedVariables false
namespace Go.Gl
theorem tok_mk {P : Program} {t : TypeId} {i : TI} (hm : (P.info? t).map (fun x => (x.size, x.bytes, x.zero)) = some (i.size, i.bytes, some i.zval)) (ha : ∀ w, (isAgg t).run P w = .ok i.agg w)
    (hz : i.zero.all plainV = true ∧ i.zero.length = i.size ∧ (i.agg = false → i.size = 1) ∧ i.size ≠ 0)
    (hk : match i.kind with
    | .sl e => P.underlying t = some (.slice e)
    | .arr n e => P.underlying t = some (.array n e)
    | .st offs => ∃ fs, P.underlying t = some (.struct fs) ∧ fs.toList.map (·.offset) = offs ∧ ∀ (j : Nat) f, fs[j]? = some f → ∃ inf, P.info? f.type = some inf ∧ inf.size = gap offs i.size j ∧ inf.size ≠ 0
    | .int k => P.underlying t = some (.int k)
    | .bool => P.underlying t = some .bool
    | .str => P.underlying t = some .string
    | .ifc => ∃ ms, P.underlying t = some (.interface ms)
    | .mp k e => P.underlying t = some (.map k e)
    | .oth => True) : TOK P t i := by
  refine ⟨?_, ha, hz, hk⟩
  obtain ⟨inf, h1, h2⟩ := Option.map_eq_some_iff.1 hm
  simp only [Prod.mk.injEq] at h2
  exact ⟨inf, h1, h2.1, h2.2.1, h2.2.2⟩
theorem tok_st {P : Program} {t : TypeId} {fs : Array Field} {offs : List Nat} {n : Nat} (hu : P.underlying t = some (.struct fs)) (ho : fs.toList.map (·.offset) = offs) (hs : ((List.range fs.size).all fun j => match fs[j]? with | some f => (match P.info? f.type with | some x => Nat.beq x.size (gap offs n j) && !Nat.beq x.size 0 | none => false) | none => false) = true) :
    ∃ fs, P.underlying t = some (.struct fs) ∧ fs.toList.map (·.offset) = offs ∧ ∀ (j : Nat) f, fs[j]? = some f → ∃ inf, P.info? f.type = some inf ∧ inf.size = gap offs n j ∧ inf.size ≠ 0 := by
  refine ⟨fs, hu, ho, fun j f hj => ?_⟩
  have := List.all_eq_true.1 hs j (by have := (Array.getElem?_eq_some_iff.1 hj).1; simpa using this)
  simp only [hj] at this
  cases hi : P.info? f.type with
  | none => rw [hi] at this; cases this
  | some inf =>
    rw [hi] at this
    simp only [Bool.and_eq_true, Bool.not_eq_true'] at this
    exact ⟨inf, rfl, Nat.eq_of_beq_eq_true this.1, fun h => by rw [h] at this; simp at this⟩
def lkT : List (Nat × TI) → Nat → Option TI
  | [], _ => none
  | (k, v) :: l, t => match Nat.beq t k with
    | true => some v
    | false => lkT l t
theorem lkT_ok {P : Program} : ∀ {l : List (Nat × TI)}, (∀ p ∈ l, TOK P p.1 p.2) → Tab P (lkT l)
  | [], _, t, i, h => by simp [lkT] at h
  | (k, v) :: l, hl, t, i, h => by
    simp only [lkT] at h
    split at h
    · rename_i e
      injection h with h
      rw [Nat.eq_of_beq_eq_true e, ← h]
      exact hl (k, v) List.mem_cons_self
    · exact lkT_ok (fun p hp => hl p (List.mem_cons_of_mem _ hp)) t i h
end Go.Gl
namespace Go.Proofs.Ytionapmdibdfpaa.Tt
open Go Go.Gl Go.Proofs
def ti1 : TI := ⟨1, 8, false, [.nilFunc], .oth⟩
theorem tok1 : TOK Try.prog 1 ti1 := (tok_mk (P := Try.prog) (t := 1) (i := ti1) (by kernel_rfl) (fun w => Try.isAgg1 w) ⟨rfl, rfl, by decide, by decide⟩ trivial)
def ti2 : TI := ⟨1, 8, false, [.int .i64 0], .int .i64⟩
theorem tok2 : TOK Try.prog 2 ti2 := (tok_mk (P := Try.prog) (t := 2) (i := ti2) (by kernel_rfl) (fun w => Try.isAgg2 w) ⟨rfl, rfl, by decide, by decide⟩ Try.underlying2)
def ti3 : TI := ⟨1, 8, false, [.int .i64 0], .int .i64⟩
theorem tok3 : TOK Try.prog 3 ti3 := (tok_mk (P := Try.prog) (t := 3) (i := ti3) (by kernel_rfl) (fun w => Try.isAgg3 w) ⟨rfl, rfl, by decide, by decide⟩ Try.underlying3)
def ti4 : TI := ⟨1, 1, false, [.bool false], .bool⟩
theorem tok4 : TOK Try.prog 4 ti4 := (tok_mk (P := Try.prog) (t := 4) (i := ti4) (by kernel_rfl) (fun w => Try.isAgg4 w) ⟨rfl, rfl, by decide, by decide⟩ Try.underlying4)
def ti5 : TI := ⟨1, 1, false, [.int .u8 0], .int .u8⟩
theorem tok5 : TOK Try.prog 5 ti5 := (tok_mk (P := Try.prog) (t := 5) (i := ti5) (by kernel_rfl) (fun w => Try.isAgg5 w) ⟨rfl, rfl, by decide, by decide⟩ Try.underlying5)
def ti6 : TI := ⟨1, 1, false, [.int .u8 0], .int .u8⟩
theorem tok6 : TOK Try.prog 6 ti6 := (tok_mk (P := Try.prog) (t := 6) (i := ti6) (by kernel_rfl) (fun w => Try.isAgg6 w) ⟨rfl, rfl, by decide, by decide⟩ Try.underlying6)
def ti7 : TI := ⟨4, 24, true, [.int .i64 0, .int .i64 0, .bool false, .int .u8 0], .st [0, 1, 2, 3]⟩
theorem tok7 : TOK Try.prog 7 ti7 := (tok_mk (P := Try.prog) (t := 7) (i := ti7) (by kernel_rfl) (fun w => Try.isAgg7 w) ⟨rfl, rfl, by decide, by decide⟩ (tok_st Try.underlying7 rfl (by kernel_rfl)))
def ti8 : TI := ⟨4, 24, true, [.int .i64 0, .int .i64 0, .bool false, .int .u8 0], .st [0, 1, 2, 3]⟩
theorem tok8 : TOK Try.prog 8 ti8 := (tok_mk (P := Try.prog) (t := 8) (i := ti8) (by kernel_rfl) (fun w => Try.isAgg8 w) ⟨rfl, rfl, by decide, by decide⟩ (tok_st Try.underlying8 rfl (by kernel_rfl)))
def ti9 : TI := ⟨1, 16, false, [.string ByteArray.empty], .str⟩
theorem tok9 : TOK Try.prog 9 ti9 := (tok_mk (P := Try.prog) (t := 9) (i := ti9) (by kernel_rfl) (fun w => Try.isAgg9 w) ⟨rfl, rfl, by decide, by decide⟩ Try.underlying9)
def ti10 : TI := ⟨1, 16, false, [.string ByteArray.empty], .str⟩
theorem tok10 : TOK Try.prog 10 ti10 := (tok_mk (P := Try.prog) (t := 10) (i := ti10) (by kernel_rfl) (fun w => Try.isAgg10 w) ⟨rfl, rfl, by decide, by decide⟩ Try.underlying10)
def ti11 : TI := ⟨1, 16, false, [.string ByteArray.empty], .str⟩
theorem tok11 : TOK Try.prog 11 ti11 := (tok_mk (P := Try.prog) (t := 11) (i := ti11) (by kernel_rfl) (fun w => Try.isAgg11 w) ⟨rfl, rfl, by decide, by decide⟩ Try.underlying11)
def ti12 : TI := ⟨1, 8, false, [.int .u64 0], .int .u64⟩
theorem tok12 : TOK Try.prog 12 ti12 := (tok_mk (P := Try.prog) (t := 12) (i := ti12) (by kernel_rfl) (fun w => Try.isAgg12 w) ⟨rfl, rfl, by decide, by decide⟩ Try.underlying12)
def ti13 : TI := ⟨2, 24, true, [.string ByteArray.empty, .int .u64 0], .st [0, 1]⟩
theorem tok13 : TOK Try.prog 13 ti13 := (tok_mk (P := Try.prog) (t := 13) (i := ti13) (by kernel_rfl) (fun w => Try.isAgg13 w) ⟨rfl, rfl, by decide, by decide⟩ (tok_st Try.underlying13 rfl (by kernel_rfl)))
def ti14 : TI := ⟨2, 24, true, [.string ByteArray.empty, .int .u64 0], .st [0, 1]⟩
theorem tok14 : TOK Try.prog 14 ti14 := (tok_mk (P := Try.prog) (t := 14) (i := ti14) (by kernel_rfl) (fun w => Try.isAgg14 w) ⟨rfl, rfl, by decide, by decide⟩ (tok_st Try.underlying14 rfl (by kernel_rfl)))
def ti15 : TI := ⟨1, 8, false, [.pointer none], .oth⟩
theorem tok15 : TOK Try.prog 15 ti15 := (tok_mk (P := Try.prog) (t := 15) (i := ti15) (by kernel_rfl) (fun w => Try.isAgg15 w) ⟨rfl, rfl, by decide, by decide⟩ trivial)
def ti16 : TI := ⟨1, 8, false, [.pointer none], .oth⟩
theorem tok16 : TOK Try.prog 16 ti16 := (tok_mk (P := Try.prog) (t := 16) (i := ti16) (by kernel_rfl) (fun w => Try.isAgg16 w) ⟨rfl, rfl, by decide, by decide⟩ trivial)
def ti17 : TI := ⟨1, 8, false, [.pointer none], .oth⟩
theorem tok17 : TOK Try.prog 17 ti17 := (tok_mk (P := Try.prog) (t := 17) (i := ti17) (by kernel_rfl) (fun w => Try.isAgg17 w) ⟨rfl, rfl, by decide, by decide⟩ trivial)
def ti18 : TI := ⟨1, 8, true, [.pointer none], .st [0]⟩
theorem tok18 : TOK Try.prog 18 ti18 := (tok_mk (P := Try.prog) (t := 18) (i := ti18) (by kernel_rfl) (fun w => Try.isAgg18 w) ⟨rfl, rfl, by decide, by decide⟩ (tok_st Try.underlying18 rfl (by kernel_rfl)))
def ti19 : TI := ⟨1, 8, true, [.pointer none], .st [0]⟩
theorem tok19 : TOK Try.prog 19 ti19 := (tok_mk (P := Try.prog) (t := 19) (i := ti19) (by kernel_rfl) (fun w => Try.isAgg19 w) ⟨rfl, rfl, by decide, by decide⟩ (tok_st Try.underlying19 rfl (by kernel_rfl)))
def ti20 : TI := ⟨1, 16, false, [.nilIface], .ifc⟩
theorem tok20 : TOK Try.prog 20 ti20 := (tok_mk (P := Try.prog) (t := 20) (i := ti20) (by kernel_rfl) (fun w => Try.isAgg20 w) ⟨rfl, rfl, by decide, by decide⟩ ⟨_, Try.underlying20⟩)
def ti21 : TI := ⟨1, 4, false, [.int .i32 0], .int .i32⟩
theorem tok21 : TOK Try.prog 21 ti21 := (tok_mk (P := Try.prog) (t := 21) (i := ti21) (by kernel_rfl) (fun w => Try.isAgg21 w) ⟨rfl, rfl, by decide, by decide⟩ Try.underlying21)
def ti22 : TI := ⟨1, 24, false, [.slice none 0 0], .sl 27⟩
theorem tok22 : TOK Try.prog 22 ti22 := (tok_mk (P := Try.prog) (t := 22) (i := ti22) (by kernel_rfl) (fun w => Try.isAgg22 w) ⟨rfl, rfl, by decide, by decide⟩ Try.underlying22)
def ti23 : TI := ⟨1, 24, false, [.slice none 0 0], .sl 28⟩
theorem tok23 : TOK Try.prog 23 ti23 := (tok_mk (P := Try.prog) (t := 23) (i := ti23) (by kernel_rfl) (fun w => Try.isAgg23 w) ⟨rfl, rfl, by decide, by decide⟩ Try.underlying23)
def ti24 : TI := ⟨4, 80, true, [.int .i64 0, .slice none 0 0, .slice none 0 0, .slice none 0 0], .st [0, 1, 2, 3]⟩
theorem tok24 : TOK Try.prog 24 ti24 := (tok_mk (P := Try.prog) (t := 24) (i := ti24) (by kernel_rfl) (fun w => Try.isAgg24 w) ⟨rfl, rfl, by decide, by decide⟩ (tok_st Try.underlying24 rfl (by kernel_rfl)))
def ti25 : TI := ⟨4, 80, true, [.int .i64 0, .slice none 0 0, .slice none 0 0, .slice none 0 0], .st [0, 1, 2, 3]⟩
theorem tok25 : TOK Try.prog 25 ti25 := (tok_mk (P := Try.prog) (t := 25) (i := ti25) (by kernel_rfl) (fun w => Try.isAgg25 w) ⟨rfl, rfl, by decide, by decide⟩ (tok_st Try.underlying25 rfl (by kernel_rfl)))
def ti26 : TI := ⟨1, 8, false, [.nilFunc], .oth⟩
theorem tok26 : TOK Try.prog 26 ti26 := (tok_mk (P := Try.prog) (t := 26) (i := ti26) (by kernel_rfl) (fun w => Try.isAgg26 w) ⟨rfl, rfl, by decide, by decide⟩ trivial)
def ti27 : TI := ⟨1, 24, false, [.slice none 0 0], .sl 2⟩
theorem tok27 : TOK Try.prog 27 ti27 := (tok_mk (P := Try.prog) (t := 27) (i := ti27) (by kernel_rfl) (fun w => Try.isAgg27 w) ⟨rfl, rfl, by decide, by decide⟩ Try.underlying27)
def ti28 : TI := ⟨1, 24, false, [.slice none 0 0], .sl 22⟩
theorem tok28 : TOK Try.prog 28 ti28 := (tok_mk (P := Try.prog) (t := 28) (i := ti28) (by kernel_rfl) (fun w => Try.isAgg28 w) ⟨rfl, rfl, by decide, by decide⟩ Try.underlying28)
def ti29 : TI := ⟨3, 56, true, [.int .i64 0, .slice none 0 0, .slice none 0 0], .st [0, 1, 2]⟩
theorem tok29 : TOK Try.prog 29 ti29 := (tok_mk (P := Try.prog) (t := 29) (i := ti29) (by kernel_rfl) (fun w => Try.isAgg29 w) ⟨rfl, rfl, by decide, by decide⟩ (tok_st Try.underlying29 rfl (by kernel_rfl)))
def ti30 : TI := ⟨3, 56, true, [.int .i64 0, .slice none 0 0, .slice none 0 0], .st [0, 1, 2]⟩
theorem tok30 : TOK Try.prog 30 ti30 := (tok_mk (P := Try.prog) (t := 30) (i := ti30) (by kernel_rfl) (fun w => Try.isAgg30 w) ⟨rfl, rfl, by decide, by decide⟩ (tok_st Try.underlying30 rfl (by kernel_rfl)))
def ti32 : TI := ⟨1, 8, false, [.nilFunc], .oth⟩
theorem tok32 : TOK Try.prog 32 ti32 := (tok_mk (P := Try.prog) (t := 32) (i := ti32) (by kernel_rfl) (fun w => Try.isAgg32 w) ⟨rfl, rfl, by decide, by decide⟩ trivial)
def ti33 : TI := ⟨4, 80, true, [.int .i64 0, .slice none 0 0, .slice none 0 0, .slice none 0 0], .st [0, 1, 2, 3]⟩
theorem tok33 : TOK Try.prog 33 ti33 := (tok_mk (P := Try.prog) (t := 33) (i := ti33) (by kernel_rfl) (fun w => Try.isAgg33 w) ⟨rfl, rfl, by decide, by decide⟩ (tok_st Try.underlying33 rfl (by kernel_rfl)))
def ti34 : TI := ⟨1, 8, false, [.nilFunc], .oth⟩
theorem tok34 : TOK Try.prog 34 ti34 := (tok_mk (P := Try.prog) (t := 34) (i := ti34) (by kernel_rfl) (fun w => Try.isAgg34 w) ⟨rfl, rfl, by decide, by decide⟩ trivial)
def ti35 : TI := ⟨1, 8, false, [.nilFunc], .oth⟩
theorem tok35 : TOK Try.prog 35 ti35 := (tok_mk (P := Try.prog) (t := 35) (i := ti35) (by kernel_rfl) (fun w => Try.isAgg35 w) ⟨rfl, rfl, by decide, by decide⟩ trivial)
def ti36 : TI := ⟨1, 8, false, [.nilFunc], .oth⟩
theorem tok36 : TOK Try.prog 36 ti36 := (tok_mk (P := Try.prog) (t := 36) (i := ti36) (by kernel_rfl) (fun w => Try.isAgg36 w) ⟨rfl, rfl, by decide, by decide⟩ trivial)
def ti37 : TI := ⟨1, 8, false, [.nilFunc], .oth⟩
theorem tok37 : TOK Try.prog 37 ti37 := (tok_mk (P := Try.prog) (t := 37) (i := ti37) (by kernel_rfl) (fun w => Try.isAgg37 w) ⟨rfl, rfl, by decide, by decide⟩ trivial)
def ti38 : TI := ⟨1, 8, false, [.nilFunc], .oth⟩
theorem tok38 : TOK Try.prog 38 ti38 := (tok_mk (P := Try.prog) (t := 38) (i := ti38) (by kernel_rfl) (fun w => Try.isAgg38 w) ⟨rfl, rfl, by decide, by decide⟩ trivial)
def ti39 : TI := ⟨1, 8, false, [.nilFunc], .oth⟩
theorem tok39 : TOK Try.prog 39 ti39 := (tok_mk (P := Try.prog) (t := 39) (i := ti39) (by kernel_rfl) (fun w => Try.isAgg39 w) ⟨rfl, rfl, by decide, by decide⟩ trivial)
def ti40 : TI := ⟨4, 80, true, [.int .i64 0, .slice none 0 0, .slice none 0 0, .slice none 0 0], .st [0, 3]⟩
theorem tok40 : TOK Try.prog 40 ti40 := (tok_mk (P := Try.prog) (t := 40) (i := ti40) (by kernel_rfl) (fun w => Try.isAgg40 w) ⟨rfl, rfl, by decide, by decide⟩ (tok_st Try.underlying40 rfl (by kernel_rfl)))
def ti41 : TI := ⟨4, 80, true, [.int .i64 0, .slice none 0 0, .slice none 0 0, .slice none 0 0], .st [0, 3]⟩
theorem tok41 : TOK Try.prog 41 ti41 := (tok_mk (P := Try.prog) (t := 41) (i := ti41) (by kernel_rfl) (fun w => Try.isAgg41 w) ⟨rfl, rfl, by decide, by decide⟩ (tok_st Try.underlying41 rfl (by kernel_rfl)))
def ti43 : TI := ⟨1, 8, false, [.nilFunc], .oth⟩
theorem tok43 : TOK Try.prog 43 ti43 := (tok_mk (P := Try.prog) (t := 43) (i := ti43) (by kernel_rfl) (fun w => Try.isAgg43 w) ⟨rfl, rfl, by decide, by decide⟩ trivial)
def ti44 : TI := ⟨1, 8, false, [.nilFunc], .oth⟩
theorem tok44 : TOK Try.prog 44 ti44 := (tok_mk (P := Try.prog) (t := 44) (i := ti44) (by kernel_rfl) (fun w => Try.isAgg44 w) ⟨rfl, rfl, by decide, by decide⟩ trivial)
def ti45 : TI := ⟨1, 8, false, [.nilFunc], .oth⟩
theorem tok45 : TOK Try.prog 45 ti45 := (tok_mk (P := Try.prog) (t := 45) (i := ti45) (by kernel_rfl) (fun w => Try.isAgg45 w) ⟨rfl, rfl, by decide, by decide⟩ trivial)
def ti46 : TI := ⟨1, 8, false, [.nilFunc], .oth⟩
theorem tok46 : TOK Try.prog 46 ti46 := (tok_mk (P := Try.prog) (t := 46) (i := ti46) (by kernel_rfl) (fun w => Try.isAgg46 w) ⟨rfl, rfl, by decide, by decide⟩ trivial)
def ti47 : TI := ⟨1, 8, false, [.nilFunc], .oth⟩
theorem tok47 : TOK Try.prog 47 ti47 := (tok_mk (P := Try.prog) (t := 47) (i := ti47) (by kernel_rfl) (fun w => Try.isAgg47 w) ⟨rfl, rfl, by decide, by decide⟩ trivial)
def ti48 : TI := ⟨1, 8, false, [.nilFunc], .oth⟩
theorem tok48 : TOK Try.prog 48 ti48 := (tok_mk (P := Try.prog) (t := 48) (i := ti48) (by kernel_rfl) (fun w => Try.isAgg48 w) ⟨rfl, rfl, by decide, by decide⟩ trivial)
def ti49 : TI := ⟨1, 8, false, [.nilFunc], .oth⟩
theorem tok49 : TOK Try.prog 49 ti49 := (tok_mk (P := Try.prog) (t := 49) (i := ti49) (by kernel_rfl) (fun w => Try.isAgg49 w) ⟨rfl, rfl, by decide, by decide⟩ trivial)
def ti51 : TI := ⟨1, 8, false, [.nilFunc], .oth⟩
theorem tok51 : TOK Try.prog 51 ti51 := (tok_mk (P := Try.prog) (t := 51) (i := ti51) (by kernel_rfl) (fun w => Try.isAgg51 w) ⟨rfl, rfl, by decide, by decide⟩ trivial)
def ti52 : TI := ⟨1, 8, false, [.nilFunc], .oth⟩
theorem tok52 : TOK Try.prog 52 ti52 := (tok_mk (P := Try.prog) (t := 52) (i := ti52) (by kernel_rfl) (fun w => Try.isAgg52 w) ⟨rfl, rfl, by decide, by decide⟩ trivial)
def ti53 : TI := ⟨1, 8, false, [.nilFunc], .oth⟩
theorem tok53 : TOK Try.prog 53 ti53 := (tok_mk (P := Try.prog) (t := 53) (i := ti53) (by kernel_rfl) (fun w => Try.isAgg53 w) ⟨rfl, rfl, by decide, by decide⟩ trivial)
def ti54 : TI := ⟨1, 8, false, [.nilFunc], .oth⟩
theorem tok54 : TOK Try.prog 54 ti54 := (tok_mk (P := Try.prog) (t := 54) (i := ti54) (by kernel_rfl) (fun w => Try.isAgg54 w) ⟨rfl, rfl, by decide, by decide⟩ trivial)
def ti55 : TI := ⟨1, 8, false, [.nilFunc], .oth⟩
theorem tok55 : TOK Try.prog 55 ti55 := (tok_mk (P := Try.prog) (t := 55) (i := ti55) (by kernel_rfl) (fun w => Try.isAgg55 w) ⟨rfl, rfl, by decide, by decide⟩ trivial)
def ti56 : TI := ⟨1, 8, false, [.nilFunc], .oth⟩
theorem tok56 : TOK Try.prog 56 ti56 := (tok_mk (P := Try.prog) (t := 56) (i := ti56) (by kernel_rfl) (fun w => Try.isAgg56 w) ⟨rfl, rfl, by decide, by decide⟩ trivial)
def ti57 : TI := ⟨1, 8, false, [.nilFunc], .oth⟩
theorem tok57 : TOK Try.prog 57 ti57 := (tok_mk (P := Try.prog) (t := 57) (i := ti57) (by kernel_rfl) (fun w => Try.isAgg57 w) ⟨rfl, rfl, by decide, by decide⟩ trivial)
def ti58 : TI := ⟨1, 8, false, [.nilFunc], .oth⟩
theorem tok58 : TOK Try.prog 58 ti58 := (tok_mk (P := Try.prog) (t := 58) (i := ti58) (by kernel_rfl) (fun w => Try.isAgg58 w) ⟨rfl, rfl, by decide, by decide⟩ trivial)
def ti59 : TI := ⟨1, 8, false, [.nilFunc], .oth⟩
theorem tok59 : TOK Try.prog 59 ti59 := (tok_mk (P := Try.prog) (t := 59) (i := ti59) (by kernel_rfl) (fun w => Try.isAgg59 w) ⟨rfl, rfl, by decide, by decide⟩ trivial)
def ti60 : TI := ⟨1, 8, false, [.nilFunc], .oth⟩
theorem tok60 : TOK Try.prog 60 ti60 := (tok_mk (P := Try.prog) (t := 60) (i := ti60) (by kernel_rfl) (fun w => Try.isAgg60 w) ⟨rfl, rfl, by decide, by decide⟩ trivial)
def ti61 : TI := ⟨1, 8, false, [.nilFunc], .oth⟩
theorem tok61 : TOK Try.prog 61 ti61 := (tok_mk (P := Try.prog) (t := 61) (i := ti61) (by kernel_rfl) (fun w => Try.isAgg61 w) ⟨rfl, rfl, by decide, by decide⟩ trivial)
def ti62 : TI := ⟨1, 8, false, [.nilFunc], .oth⟩
theorem tok62 : TOK Try.prog 62 ti62 := (tok_mk (P := Try.prog) (t := 62) (i := ti62) (by kernel_rfl) (fun w => Try.isAgg62 w) ⟨rfl, rfl, by decide, by decide⟩ trivial)
def ti63 : TI := ⟨1, 8, false, [.nilFunc], .oth⟩
theorem tok63 : TOK Try.prog 63 ti63 := (tok_mk (P := Try.prog) (t := 63) (i := ti63) (by kernel_rfl) (fun w => Try.isAgg63 w) ⟨rfl, rfl, by decide, by decide⟩ trivial)
def ti64 : TI := ⟨1, 8, false, [.nilFunc], .oth⟩
theorem tok64 : TOK Try.prog 64 ti64 := (tok_mk (P := Try.prog) (t := 64) (i := ti64) (by kernel_rfl) (fun w => Try.isAgg64 w) ⟨rfl, rfl, by decide, by decide⟩ trivial)
def ti65 : TI := ⟨1, 8, false, [.nilFunc], .oth⟩
theorem tok65 : TOK Try.prog 65 ti65 := (tok_mk (P := Try.prog) (t := 65) (i := ti65) (by kernel_rfl) (fun w => Try.isAgg65 w) ⟨rfl, rfl, by decide, by decide⟩ trivial)
def ti66 : TI := ⟨1, 8, false, [.nilFunc], .oth⟩
theorem tok66 : TOK Try.prog 66 ti66 := (tok_mk (P := Try.prog) (t := 66) (i := ti66) (by kernel_rfl) (fun w => Try.isAgg66 w) ⟨rfl, rfl, by decide, by decide⟩ trivial)
def ti67 : TI := ⟨1, 8, false, [.nilFunc], .oth⟩
theorem tok67 : TOK Try.prog 67 ti67 := (tok_mk (P := Try.prog) (t := 67) (i := ti67) (by kernel_rfl) (fun w => Try.isAgg67 w) ⟨rfl, rfl, by decide, by decide⟩ trivial)
def ti68 : TI := ⟨1, 8, false, [.nilFunc], .oth⟩
theorem tok68 : TOK Try.prog 68 ti68 := (tok_mk (P := Try.prog) (t := 68) (i := ti68) (by kernel_rfl) (fun w => Try.isAgg68 w) ⟨rfl, rfl, by decide, by decide⟩ trivial)
def ti69 : TI := ⟨1, 8, false, [.nilFunc], .oth⟩
theorem tok69 : TOK Try.prog 69 ti69 := (tok_mk (P := Try.prog) (t := 69) (i := ti69) (by kernel_rfl) (fun w => Try.isAgg69 w) ⟨rfl, rfl, by decide, by decide⟩ trivial)
def ti70 : TI := ⟨1, 8, false, [.nilFunc], .oth⟩
theorem tok70 : TOK Try.prog 70 ti70 := (tok_mk (P := Try.prog) (t := 70) (i := ti70) (by kernel_rfl) (fun w => Try.isAgg70 w) ⟨rfl, rfl, by decide, by decide⟩ trivial)
def ti71 : TI := ⟨1, 8, false, [.nilFunc], .oth⟩
theorem tok71 : TOK Try.prog 71 ti71 := (tok_mk (P := Try.prog) (t := 71) (i := ti71) (by kernel_rfl) (fun w => Try.isAgg71 w) ⟨rfl, rfl, by decide, by decide⟩ trivial)
def ti72 : TI := ⟨1, 8, false, [.nilFunc], .oth⟩
theorem tok72 : TOK Try.prog 72 ti72 := (tok_mk (P := Try.prog) (t := 72) (i := ti72) (by kernel_rfl) (fun w => Try.isAgg72 w) ⟨rfl, rfl, by decide, by decide⟩ trivial)
def ti73 : TI := ⟨1, 8, false, [.nilFunc], .oth⟩
theorem tok73 : TOK Try.prog 73 ti73 := (tok_mk (P := Try.prog) (t := 73) (i := ti73) (by kernel_rfl) (fun w => Try.isAgg73 w) ⟨rfl, rfl, by decide, by decide⟩ trivial)
def ti74 : TI := ⟨1, 8, false, [.nilFunc], .oth⟩
theorem tok74 : TOK Try.prog 74 ti74 := (tok_mk (P := Try.prog) (t := 74) (i := ti74) (by kernel_rfl) (fun w => Try.isAgg74 w) ⟨rfl, rfl, by decide, by decide⟩ trivial)
def ti75 : TI := ⟨1, 8, false, [.nilFunc], .oth⟩
theorem tok75 : TOK Try.prog 75 ti75 := (tok_mk (P := Try.prog) (t := 75) (i := ti75) (by kernel_rfl) (fun w => Try.isAgg75 w) ⟨rfl, rfl, by decide, by decide⟩ trivial)
def ti76 : TI := ⟨1, 8, false, [.nilFunc], .oth⟩
theorem tok76 : TOK Try.prog 76 ti76 := (tok_mk (P := Try.prog) (t := 76) (i := ti76) (by kernel_rfl) (fun w => Try.isAgg76 w) ⟨rfl, rfl, by decide, by decide⟩ trivial)
def ti77 : TI := ⟨1, 8, false, [.map none], .mp 78 2⟩
theorem tok77 : TOK Try.prog 77 ti77 := (tok_mk (P := Try.prog) (t := 77) (i := ti77) (by kernel_rfl) (fun w => Try.isAgg77 w) ⟨rfl, rfl, by decide, by decide⟩ Try.underlying77)
def ti78 : TI := ⟨2, 16, true, [.int .i64 0, .int .i64 0], .arr 2 2⟩
theorem tok78 : TOK Try.prog 78 ti78 := (tok_mk (P := Try.prog) (t := 78) (i := ti78) (by kernel_rfl) (fun w => Try.isAgg78 w) ⟨rfl, rfl, by decide, by decide⟩ Try.underlying78)
def ti79 : TI := ⟨1, 8, false, [.nilFunc], .oth⟩
theorem tok79 : TOK Try.prog 79 ti79 := (tok_mk (P := Try.prog) (t := 79) (i := ti79) (by kernel_rfl) (fun w => Try.isAgg79 w) ⟨rfl, rfl, by decide, by decide⟩ trivial)
def ti80 : TI := ⟨1, 8, false, [.nilFunc], .oth⟩
theorem tok80 : TOK Try.prog 80 ti80 := (tok_mk (P := Try.prog) (t := 80) (i := ti80) (by kernel_rfl) (fun w => Try.isAgg80 w) ⟨rfl, rfl, by decide, by decide⟩ trivial)
def ti81 : TI := ⟨1, 8, false, [.nilFunc], .oth⟩
theorem tok81 : TOK Try.prog 81 ti81 := (tok_mk (P := Try.prog) (t := 81) (i := ti81) (by kernel_rfl) (fun w => Try.isAgg81 w) ⟨rfl, rfl, by decide, by decide⟩ trivial)
def ti82 : TI := ⟨1, 8, false, [.nilFunc], .oth⟩
theorem tok82 : TOK Try.prog 82 ti82 := (tok_mk (P := Try.prog) (t := 82) (i := ti82) (by kernel_rfl) (fun w => Try.isAgg82 w) ⟨rfl, rfl, by decide, by decide⟩ trivial)
def ti83 : TI := ⟨1, 8, false, [.nilFunc], .oth⟩
theorem tok83 : TOK Try.prog 83 ti83 := (tok_mk (P := Try.prog) (t := 83) (i := ti83) (by kernel_rfl) (fun w => Try.isAgg83 w) ⟨rfl, rfl, by decide, by decide⟩ trivial)
def ti84 : TI := ⟨1, 8, false, [.nilFunc], .oth⟩
theorem tok84 : TOK Try.prog 84 ti84 := (tok_mk (P := Try.prog) (t := 84) (i := ti84) (by kernel_rfl) (fun w => Try.isAgg84 w) ⟨rfl, rfl, by decide, by decide⟩ trivial)
def ti85 : TI := ⟨1, 8, false, [.nilFunc], .oth⟩
theorem tok85 : TOK Try.prog 85 ti85 := (tok_mk (P := Try.prog) (t := 85) (i := ti85) (by kernel_rfl) (fun w => Try.isAgg85 w) ⟨rfl, rfl, by decide, by decide⟩ trivial)
def ti86 : TI := ⟨1, 8, false, [.nilFunc], .oth⟩
theorem tok86 : TOK Try.prog 86 ti86 := (tok_mk (P := Try.prog) (t := 86) (i := ti86) (by kernel_rfl) (fun w => Try.isAgg86 w) ⟨rfl, rfl, by decide, by decide⟩ trivial)
def ti87 : TI := ⟨1, 8, false, [.nilFunc], .oth⟩
theorem tok87 : TOK Try.prog 87 ti87 := (tok_mk (P := Try.prog) (t := 87) (i := ti87) (by kernel_rfl) (fun w => Try.isAgg87 w) ⟨rfl, rfl, by decide, by decide⟩ trivial)
def ti88 : TI := ⟨1, 8, false, [.nilFunc], .oth⟩
theorem tok88 : TOK Try.prog 88 ti88 := (tok_mk (P := Try.prog) (t := 88) (i := ti88) (by kernel_rfl) (fun w => Try.isAgg88 w) ⟨rfl, rfl, by decide, by decide⟩ trivial)
def ti89 : TI := ⟨1, 8, false, [.nilFunc], .oth⟩
theorem tok89 : TOK Try.prog 89 ti89 := (tok_mk (P := Try.prog) (t := 89) (i := ti89) (by kernel_rfl) (fun w => Try.isAgg89 w) ⟨rfl, rfl, by decide, by decide⟩ trivial)
def ti90 : TI := ⟨1, 8, false, [.int .u64 0], .int .u64⟩
theorem tok90 : TOK Try.prog 90 ti90 := (tok_mk (P := Try.prog) (t := 90) (i := ti90) (by kernel_rfl) (fun w => Try.isAgg90 w) ⟨rfl, rfl, by decide, by decide⟩ Try.underlying90)
def ti92 : TI := ⟨1, 8, false, [.nilFunc], .oth⟩
theorem tok92 : TOK Try.prog 92 ti92 := (tok_mk (P := Try.prog) (t := 92) (i := ti92) (by kernel_rfl) (fun w => Try.isAgg92 w) ⟨rfl, rfl, by decide, by decide⟩ trivial)
def ti93 : TI := ⟨1, 8, false, [.pointer none], .oth⟩
theorem tok93 : TOK Try.prog 93 ti93 := (tok_mk (P := Try.prog) (t := 93) (i := ti93) (by kernel_rfl) (fun w => Try.isAgg93 w) ⟨rfl, rfl, by decide, by decide⟩ trivial)
def ti94 : TI := ⟨1, 8, false, [.nilFunc], .oth⟩
theorem tok94 : TOK Try.prog 94 ti94 := (tok_mk (P := Try.prog) (t := 94) (i := ti94) (by kernel_rfl) (fun w => Try.isAgg94 w) ⟨rfl, rfl, by decide, by decide⟩ trivial)
def ti95 : TI := ⟨1, 8, false, [.nilFunc], .oth⟩
theorem tok95 : TOK Try.prog 95 ti95 := (tok_mk (P := Try.prog) (t := 95) (i := ti95) (by kernel_rfl) (fun w => Try.isAgg95 w) ⟨rfl, rfl, by decide, by decide⟩ trivial)
def ti96 : TI := ⟨1, 8, false, [.nilFunc], .oth⟩
theorem tok96 : TOK Try.prog 96 ti96 := (tok_mk (P := Try.prog) (t := 96) (i := ti96) (by kernel_rfl) (fun w => Try.isAgg96 w) ⟨rfl, rfl, by decide, by decide⟩ trivial)
def ti97 : TI := ⟨1, 4, false, [.int .u32 0], .int .u32⟩
theorem tok97 : TOK Try.prog 97 ti97 := (tok_mk (P := Try.prog) (t := 97) (i := ti97) (by kernel_rfl) (fun w => Try.isAgg97 w) ⟨rfl, rfl, by decide, by decide⟩ Try.underlying97)
def ti99 : TI := ⟨1, 8, false, [.nilFunc], .oth⟩
theorem tok99 : TOK Try.prog 99 ti99 := (tok_mk (P := Try.prog) (t := 99) (i := ti99) (by kernel_rfl) (fun w => Try.isAgg99 w) ⟨rfl, rfl, by decide, by decide⟩ trivial)
def ti100 : TI := ⟨1, 8, false, [.int .u64 0], .int .u64⟩
theorem tok100 : TOK Try.prog 100 ti100 := (tok_mk (P := Try.prog) (t := 100) (i := ti100) (by kernel_rfl) (fun w => Try.isAgg100 w) ⟨rfl, rfl, by decide, by decide⟩ Try.underlying100)
def ti102 : TI := ⟨1, 8, false, [.nilFunc], .oth⟩
theorem tok102 : TOK Try.prog 102 ti102 := (tok_mk (P := Try.prog) (t := 102) (i := ti102) (by kernel_rfl) (fun w => Try.isAgg102 w) ⟨rfl, rfl, by decide, by decide⟩ trivial)
def ti103 : TI := ⟨1, 8, false, [.nilFunc], .oth⟩
theorem tok103 : TOK Try.prog 103 ti103 := (tok_mk (P := Try.prog) (t := 103) (i := ti103) (by kernel_rfl) (fun w => Try.isAgg103 w) ⟨rfl, rfl, by decide, by decide⟩ trivial)
def ti104 : TI := ⟨1, 8, false, [.nilFunc], .oth⟩
theorem tok104 : TOK Try.prog 104 ti104 := (tok_mk (P := Try.prog) (t := 104) (i := ti104) (by kernel_rfl) (fun w => Try.isAgg104 w) ⟨rfl, rfl, by decide, by decide⟩ trivial)
def ti105 : TI := ⟨4, 40, true, [.pointer none, .pointer none, .pointer none, .string ByteArray.empty], .st [0, 1, 2, 3]⟩
theorem tok105 : TOK Try.prog 105 ti105 := (tok_mk (P := Try.prog) (t := 105) (i := ti105) (by kernel_rfl) (fun w => Try.isAgg105 w) ⟨rfl, rfl, by decide, by decide⟩ (tok_st Try.underlying105 rfl (by kernel_rfl)))
def ti106 : TI := ⟨4, 40, true, [.pointer none, .pointer none, .pointer none, .string ByteArray.empty], .st [0, 1, 2, 3]⟩
theorem tok106 : TOK Try.prog 106 ti106 := (tok_mk (P := Try.prog) (t := 106) (i := ti106) (by kernel_rfl) (fun w => Try.isAgg106 w) ⟨rfl, rfl, by decide, by decide⟩ (tok_st Try.underlying106 rfl (by kernel_rfl)))
def ti110 : TI := ⟨1, 8, false, [.nilFunc], .oth⟩
theorem tok110 : TOK Try.prog 110 ti110 := (tok_mk (P := Try.prog) (t := 110) (i := ti110) (by kernel_rfl) (fun w => Try.isAgg110 w) ⟨rfl, rfl, by decide, by decide⟩ trivial)
def ti111 : TI := ⟨1, 1, false, [.int .u8 0], .int .u8⟩
theorem tok111 : TOK Try.prog 111 ti111 := (tok_mk (P := Try.prog) (t := 111) (i := ti111) (by kernel_rfl) (fun w => Try.isAgg111 w) ⟨rfl, rfl, by decide, by decide⟩ Try.underlying111)
def ti112 : TI := ⟨1, 1, false, [.int .u8 0], .int .u8⟩
theorem tok112 : TOK Try.prog 112 ti112 := (tok_mk (P := Try.prog) (t := 112) (i := ti112) (by kernel_rfl) (fun w => Try.isAgg112 w) ⟨rfl, rfl, by decide, by decide⟩ Try.underlying112)
def ti113 : TI := ⟨1, 8, false, [.nilFunc], .oth⟩
theorem tok113 : TOK Try.prog 113 ti113 := (tok_mk (P := Try.prog) (t := 113) (i := ti113) (by kernel_rfl) (fun w => Try.isAgg113 w) ⟨rfl, rfl, by decide, by decide⟩ trivial)
def ti114 : TI := ⟨1, 8, false, [.pointer none], .oth⟩
theorem tok114 : TOK Try.prog 114 ti114 := (tok_mk (P := Try.prog) (t := 114) (i := ti114) (by kernel_rfl) (fun w => Try.isAgg114 w) ⟨rfl, rfl, by decide, by decide⟩ trivial)
def ti115 : TI := ⟨1, 4, false, [.int .i32 0], .int .i32⟩
theorem tok115 : TOK Try.prog 115 ti115 := (tok_mk (P := Try.prog) (t := 115) (i := ti115) (by kernel_rfl) (fun w => Try.isAgg115 w) ⟨rfl, rfl, by decide, by decide⟩ Try.underlying115)
def ti116 : TI := ⟨1, 4, false, [.int .i32 0], .int .i32⟩
theorem tok116 : TOK Try.prog 116 ti116 := (tok_mk (P := Try.prog) (t := 116) (i := ti116) (by kernel_rfl) (fun w => Try.isAgg116 w) ⟨rfl, rfl, by decide, by decide⟩ Try.underlying116)
def ti117 : TI := ⟨11, 48, true, (List.replicate 2 (.int .u64 0) ++ List.replicate 1 (.int .u32 0) ++ List.replicate 4 (.int .u8 0) ++ List.replicate 1 (.nilFunc) ++ List.replicate 1 (.pointer none) ++ List.replicate 2 (.int .i32 0)), .st [0, 1, 2, 3, 4, 5, 6, 7, 8, 9, 10]⟩
theorem tok117 : TOK Try.prog 117 ti117 := (tok_mk (P := Try.prog) (t := 117) (i := ti117) (by kernel_rfl) (fun w => Try.isAgg117 w) ⟨by kernel_rfl, by kernel_rfl, (fun h => by cases h), (fun h => by cases h)⟩ (tok_st Try.underlying117 rfl (by kernel_rfl)))
def ti118 : TI := ⟨11, 48, true, (List.replicate 2 (.int .u64 0) ++ List.replicate 1 (.int .u32 0) ++ List.replicate 4 (.int .u8 0) ++ List.replicate 1 (.nilFunc) ++ List.replicate 1 (.pointer none) ++ List.replicate 2 (.int .i32 0)), .st [0, 1, 2, 3, 4, 5, 6, 7, 8, 9, 10]⟩
theorem tok118 : TOK Try.prog 118 ti118 := (tok_mk (P := Try.prog) (t := 118) (i := ti118) (by kernel_rfl) (fun w => Try.isAgg118 w) ⟨by kernel_rfl, by kernel_rfl, (fun h => by cases h), (fun h => by cases h)⟩ (tok_st Try.underlying118 rfl (by kernel_rfl)))
set_option maxRecDepth 100000 in
def T : Nat → Option TI := lkT [(1, ti1), (2, ti2), (3, ti3), (4, ti4), (5, ti5), (6, ti6), (7, ti7), (8, ti8), (9, ti9), (10, ti10), (11, ti11), (12, ti12), (13, ti13), (14, ti14), (15, ti15), (16, ti16), (17, ti17), (18, ti18), (19, ti19), (20, ti20), (21, ti21), (22, ti22), (23, ti23), (24, ti24), (25, ti25), (26, ti26), (27, ti27), (28, ti28), (29, ti29), (30, ti30), (32, ti32), (33, ti33), (34, ti34), (35, ti35), (36, ti36), (37, ti37), (38, ti38), (39, ti39), (40, ti40), (41, ti41), (43, ti43), (44, ti44), (45, ti45), (46, ti46), (47, ti47), (48, ti48), (49, ti49), (51, ti51), (52, ti52), (53, ti53), (54, ti54), (55, ti55), (56, ti56), (57, ti57), (58, ti58), (59, ti59), (60, ti60), (61, ti61), (62, ti62), (63, ti63), (64, ti64), (65, ti65), (66, ti66), (67, ti67), (68, ti68), (69, ti69), (70, ti70), (71, ti71), (72, ti72), (73, ti73), (74, ti74), (75, ti75), (76, ti76), (77, ti77), (78, ti78), (79, ti79), (80, ti80), (81, ti81), (82, ti82), (83, ti83), (84, ti84), (85, ti85), (86, ti86), (87, ti87), (88, ti88), (89, ti89), (90, ti90), (92, ti92), (93, ti93), (94, ti94), (95, ti95), (96, ti96), (97, ti97), (99, ti99), (100, ti100), (102, ti102), (103, ti103), (104, ti104), (105, ti105), (106, ti106), (110, ti110), (111, ti111), (112, ti112), (113, ti113), (114, ti114), (115, ti115), (116, ti116), (117, ti117), (118, ti118)]
set_option maxRecDepth 100000 in
theorem tab : Tab Try.prog T := lkT_ok (List.forall_mem_cons.2 ⟨tok1, List.forall_mem_cons.2 ⟨tok2, List.forall_mem_cons.2 ⟨tok3, List.forall_mem_cons.2 ⟨tok4, List.forall_mem_cons.2 ⟨tok5, List.forall_mem_cons.2 ⟨tok6, List.forall_mem_cons.2 ⟨tok7, List.forall_mem_cons.2 ⟨tok8, List.forall_mem_cons.2 ⟨tok9, List.forall_mem_cons.2 ⟨tok10, List.forall_mem_cons.2 ⟨tok11, List.forall_mem_cons.2 ⟨tok12, List.forall_mem_cons.2 ⟨tok13, List.forall_mem_cons.2 ⟨tok14, List.forall_mem_cons.2 ⟨tok15, List.forall_mem_cons.2 ⟨tok16, List.forall_mem_cons.2 ⟨tok17, List.forall_mem_cons.2 ⟨tok18, List.forall_mem_cons.2 ⟨tok19, List.forall_mem_cons.2 ⟨tok20, List.forall_mem_cons.2 ⟨tok21, List.forall_mem_cons.2 ⟨tok22, List.forall_mem_cons.2 ⟨tok23, List.forall_mem_cons.2 ⟨tok24, List.forall_mem_cons.2 ⟨tok25, List.forall_mem_cons.2 ⟨tok26, List.forall_mem_cons.2 ⟨tok27, List.forall_mem_cons.2 ⟨tok28, List.forall_mem_cons.2 ⟨tok29, List.forall_mem_cons.2 ⟨tok30, List.forall_mem_cons.2 ⟨tok32, List.forall_mem_cons.2 ⟨tok33, List.forall_mem_cons.2 ⟨tok34, List.forall_mem_cons.2 ⟨tok35, List.forall_mem_cons.2 ⟨tok36, List.forall_mem_cons.2 ⟨tok37, List.forall_mem_cons.2 ⟨tok38, List.forall_mem_cons.2 ⟨tok39, List.forall_mem_cons.2 ⟨tok40, List.forall_mem_cons.2 ⟨tok41, List.forall_mem_cons.2 ⟨tok43, List.forall_mem_cons.2 ⟨tok44, List.forall_mem_cons.2 ⟨tok45, List.forall_mem_cons.2 ⟨tok46, List.forall_mem_cons.2 ⟨tok47, List.forall_mem_cons.2 ⟨tok48, List.forall_mem_cons.2 ⟨tok49, List.forall_mem_cons.2 ⟨tok51, List.forall_mem_cons.2 ⟨tok52, List.forall_mem_cons.2 ⟨tok53, List.forall_mem_cons.2 ⟨tok54, List.forall_mem_cons.2 ⟨tok55, List.forall_mem_cons.2 ⟨tok56, List.forall_mem_cons.2 ⟨tok57, List.forall_mem_cons.2 ⟨tok58, List.forall_mem_cons.2 ⟨tok59, List.forall_mem_cons.2 ⟨tok60, List.forall_mem_cons.2 ⟨tok61, List.forall_mem_cons.2 ⟨tok62, List.forall_mem_cons.2 ⟨tok63, List.forall_mem_cons.2 ⟨tok64, List.forall_mem_cons.2 ⟨tok65, List.forall_mem_cons.2 ⟨tok66, List.forall_mem_cons.2 ⟨tok67, List.forall_mem_cons.2 ⟨tok68, List.forall_mem_cons.2 ⟨tok69, List.forall_mem_cons.2 ⟨tok70, List.forall_mem_cons.2 ⟨tok71, List.forall_mem_cons.2 ⟨tok72, List.forall_mem_cons.2 ⟨tok73, List.forall_mem_cons.2 ⟨tok74, List.forall_mem_cons.2 ⟨tok75, List.forall_mem_cons.2 ⟨tok76, List.forall_mem_cons.2 ⟨tok77, List.forall_mem_cons.2 ⟨tok78, List.forall_mem_cons.2 ⟨tok79, List.forall_mem_cons.2 ⟨tok80, List.forall_mem_cons.2 ⟨tok81, List.forall_mem_cons.2 ⟨tok82, List.forall_mem_cons.2 ⟨tok83, List.forall_mem_cons.2 ⟨tok84, List.forall_mem_cons.2 ⟨tok85, List.forall_mem_cons.2 ⟨tok86, List.forall_mem_cons.2 ⟨tok87, List.forall_mem_cons.2 ⟨tok88, List.forall_mem_cons.2 ⟨tok89, List.forall_mem_cons.2 ⟨tok90, List.forall_mem_cons.2 ⟨tok92, List.forall_mem_cons.2 ⟨tok93, List.forall_mem_cons.2 ⟨tok94, List.forall_mem_cons.2 ⟨tok95, List.forall_mem_cons.2 ⟨tok96, List.forall_mem_cons.2 ⟨tok97, List.forall_mem_cons.2 ⟨tok99, List.forall_mem_cons.2 ⟨tok100, List.forall_mem_cons.2 ⟨tok102, List.forall_mem_cons.2 ⟨tok103, List.forall_mem_cons.2 ⟨tok104, List.forall_mem_cons.2 ⟨tok105, List.forall_mem_cons.2 ⟨tok106, List.forall_mem_cons.2 ⟨tok110, List.forall_mem_cons.2 ⟨tok111, List.forall_mem_cons.2 ⟨tok112, List.forall_mem_cons.2 ⟨tok113, List.forall_mem_cons.2 ⟨tok114, List.forall_mem_cons.2 ⟨tok115, List.forall_mem_cons.2 ⟨tok116, List.forall_mem_cons.2 ⟨tok117, List.forall_mem_cons.2 ⟨tok118, fun _ h => (List.not_mem_nil h).elim⟩⟩⟩⟩⟩⟩⟩⟩⟩⟩⟩⟩⟩⟩⟩⟩⟩⟩⟩⟩⟩⟩⟩⟩⟩⟩⟩⟩⟩⟩⟩⟩⟩⟩⟩⟩⟩⟩⟩⟩⟩⟩⟩⟩⟩⟩⟩⟩⟩⟩⟩⟩⟩⟩⟩⟩⟩⟩⟩⟩⟩⟩⟩⟩⟩⟩⟩⟩⟩⟩⟩⟩⟩⟩⟩⟩⟩⟩⟩⟩⟩⟩⟩⟩⟩⟩⟩⟩⟩⟩⟩⟩⟩⟩⟩⟩⟩⟩⟩⟩⟩⟩⟩⟩⟩⟩⟩⟩⟩)
end Go.Proofs.Ytionapmdibdfpaa.Tt

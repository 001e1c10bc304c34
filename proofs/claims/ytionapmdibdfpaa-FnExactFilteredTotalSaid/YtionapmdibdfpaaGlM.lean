/- From the words of a statement to the view: arguments in, the law's answer out. No condition. -/
import Derived.Test.YtionapmdibdfpaaGlJ
import Derived.WalkKit
import Derived.ProofKit
import Derived.OpenShut
import Derived.ChangeOld
import Derived.Below
import Derived.Carry
import Derived.SizedLaws
set_option linter.unusedVariables false
set_option linter.unusedSimpArgs false
namespace Go.Gl
open Go.ChangeShapes Go.WideShapes Go.RowKit

section
variable {H : Type} {enc : TypeId × Value → H} {P : Program} {w W W' : World} {base : Nat} {spare : Nat → Bool} {held : Bool}

/-- behind the call the arguments read as they did -/
theorem below_trodAll (hl : laidOutB P = true) (hb : Below W.heap.size W W') : ∀ {ts : List TypeId} {vs : List Value} {ds : List (DataW H)} {ps : List MemPlace}, (∀ t ∈ ts, P.readableRec t = true ∧ t < P.types.size) →
    DataW.TrodAll enc P W 0 (fun _ => true) true ts vs ds ps → (∀ x ∈ ps, x.block < W.heap.size) → DataW.TrodAll enc P W' 0 (fun b => decide (b < W.heap.size)) true ts vs ds ps
  | [], [], [], _, _, h, _ => h
  | t :: ts, v :: vs, d :: ds, _, hr, ⟨p, q, h1, h2, e⟩, hlt => by
    subst e
    exact ⟨p, q, Below.trod hl (hr t (by simp)).1 (hr t (by simp)).2 h1 hb (fun x hx => hlt x (List.mem_append_left _ hx)), below_trodAll hl hb (fun t ht => hr t (List.mem_cons_of_mem _ ht)) h2 (fun x hx => hlt x (List.mem_append_right _ hx)), rfl⟩
  | [], _ :: _, _, _, _, h, _ => h.elim
  | [], [], _ :: _, _, _, h, _ => h.elim
  | _ :: _, [], _, _, _, h, _ => h.elim
  | _ :: _, _ :: _, [], _, _, h, _ => h.elim

/-- a value that can be taken into a view -/
def ImpV (w : World) (v : Value) {α : Type} (R : AH → Value → α → Prop) : Prop :=
  ∃ x : α, ∀ ι h, HR ι h w → Imm h → ∃ ι' h' a, Le h h' ∧ (∀ i, i < h.length → ι' i = ι i) ∧ HR ι' h' w ∧ Imm h' ∧ VR ι' h'.length a v ∧ R h' a x

theorem ImpV.int {t : TypeId} {v : Value} {r : Reach} {b : Nat} (ht : P.underlying t = some (.int .i64)) (ho : Value.okWide P w r b t v) : ∃ n : Int, v = .int .i64 n := okWide_int ht ho
theorem ImpV.slice {t e : TypeId} {v : Value} {r : Reach} {b : Nat} {d : DataW H} {ps : List MemPlace} (ht : P.underlying t = some (.slice e)) (ho : Value.okWide P w r b t v) (hd : DataW.Trod enc P w base spare held t v d ps)
    {α : Type} {E : AH → Value → α → Prop} (hE : ImpT enc P w base spare held t (One E)) : ImpV w v E := by
  obtain ⟨a, len, cap, rfl⟩ := okWide_slice ht ho
  obtain ⟨fuel, hd⟩ := hd
  obtain ⟨x, hx⟩ := hE fuel _ _ hd
  refine ⟨x, fun ι h hr hi => ?_⟩
  obtain ⟨ι', h', vs, h1, h2, h3, h4, h5, u, rfl, h6⟩ := hx ι h hr hi
  obtain ⟨u', e1, e2⟩ := h5.2 0 u rfl
  have : u' = .slice a len cap := by simpa [Value.cells] using e1.symm
  subst this
  exact ⟨ι', h', u, h1, h2, h3, h4, e2, h6⟩
theorem ImpV.struct {t : TypeId} {fs : Array Field} {v : Value} {r : Reach} {b : Nat} {d : DataW H} {ps : List MemPlace} (ht : P.underlying t = some (.struct fs)) (ho : Value.okWide P w r b t v) (hd : DataW.Trod enc P w base spare held t v d ps)
    {α : Type} {E : AH → List Value → α → Prop} (hE : ImpT enc P w base spare held t E) : ImpV w v (fun h a x => ∃ vs, a = .agg vs.toArray ∧ E h vs x) := by
  obtain ⟨cs, rfl, _⟩ := okWide_struct ht ho
  obtain ⟨fuel, hd⟩ := hd
  obtain ⟨x, hx⟩ := hE fuel _ _ hd
  refine ⟨x, fun ι h hr hi => ?_⟩
  obtain ⟨ι', h', vs, h1, h2, h3, h4, h5, h6⟩ := hx ι h hr hi
  refine ⟨ι', h', .agg vs.toArray, h1, h2, h3, h4, .agg _ _ (by have := h5.1; simpa [Value.cells] using this) fun i hi' => ?_, vs, rfl, h6⟩
  have hi' : i < vs.length := by simpa using hi'
  obtain ⟨u, e1, e2⟩ := h5.2 i vs[i] (List.getElem?_eq_getElem hi')
  have a1 : vs.toArray.getD i (.tuple #[]) = vs[i] := by simp [Array.getD_eq_getD_getElem?, List.getElem?_eq_getElem hi']
  have a2 : cs.getD i (.tuple #[]) = u := by
    have : cs[i]? = some u := by simpa [Value.cells] using e1
    rw [Array.getD_eq_getD_getElem?, this]; rfl
  rw [a1, a2]; exact e2
theorem ImpV.map {v : Value} {α β : Type} {R : AH → Value → α → Prop} {S : AH → Value → β → Prop} (f : α → β) (h : ImpV w v R) (hf : ∀ h a x, R h a x → S h a (f x)) : ImpV w v S := by
  obtain ⟨x, hx⟩ := h
  refine ⟨f x, fun ι h hr hi => ?_⟩
  obtain ⟨ι', h', a, h1, h2, h3, h4, h5, h6⟩ := hx ι h hr hi
  exact ⟨ι', h', a, h1, h2, h3, h4, h5, hf _ _ _ h6⟩

/-- the cells of a structure of one-cell fields -/
theorem struct_cells {t : TypeId} {fs : Array Field} (ht : P.underlying t = some (.struct fs)) (n : Nat) (hc : P.cellsOf t = n) (hf : ((List.range n).all fun j => match fs[j]? with | some f => Nat.beq f.offset j && Nat.beq (P.cellsOf f.type) 1 | none => false) = true)
    {fuel : Nat} {cs : List Value} {x : DataW H × List MemPlace} (h : DataW.trod enc P w base spare held fuel t cs = some x) :
    cs.length = n ∧ ∀ (j : Nat) (f : Field) (c : Value), fs[j]? = some f → cs[j]? = some c → ∃ k y, DataW.trod enc P w base spare held k f.type [c] = some y := by
  obtain ⟨xs, m, _, _, h3, h4, h5⟩ := DataW.trod_struct ht h
  refine ⟨h3.trans hc, fun j f c hj hcj => ?_⟩
  have hjn : j < n := by have := (List.getElem?_eq_some_iff.1 hcj).1; omega
  have h6 := List.all_eq_true.1 hf j (List.mem_range.2 hjn)
  rw [hj] at h6
  simp only [Bool.and_eq_true] at h6
  have h7 := h5 j f hj
  rw [Nat.eq_of_beq_eq_true h6.1, Nat.eq_of_beq_eq_true h6.2] at h7
  have h8 : (cs.drop j).take 1 = [c] := by
    have hjl : j < cs.length := (List.getElem?_eq_some_iff.1 hcj).1
    rw [List.drop_eq_getElem_cons hjl]
    have : cs[j] = c := by rw [List.getElem?_eq_getElem hjl] at hcj; injection hcj
    simp [this]
  rw [h8] at h7
  have hjl : j < xs.length := by rw [h4]; exact (Array.getElem?_eq_some_iff.1 hj).1
  exact ⟨m, xs[j], by rw [h7, List.getElem?_eq_getElem hjl]⟩

theorem VRL.nil (ι : Nat → Io) (n : Nat) : VRL ι n [] [] := ⟨rfl, fun k v h => by simp at h⟩
theorem VRL.cons {ι : Nat → Io} {n : Nat} {a u : Value} {vs us : List Value} (h : VR ι n a u) (hl : VRL ι n vs us) : VRL ι n (a :: vs) (u :: us) :=
  ⟨by simp [hl.1], fun k v hk => by
    cases k with
    | zero => simp at hk; subst hk; exact ⟨u, rfl, h⟩
    | succ k => simpa using hl.2 k v (by simpa using hk)⟩
end
end Go.Gl

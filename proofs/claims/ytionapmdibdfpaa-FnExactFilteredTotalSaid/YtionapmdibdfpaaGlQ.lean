/- Calls of function values that change what the caller owns: parts that are lent together. No condition. -/
import Derived.Test.YtionapmdibdfpaaGlT
set_option linter.unusedVariables false
set_option linter.unusedSimpArgs false
namespace Go.Gl
open Go.Pl

theorem SepL.mono2 {B B' : Nat → Prop} {h : AH} {Rs : List Res} {G : Nat → Prop} (S : SepL B h Rs G) (hB : ∀ i, G i → B i → B' i) : SepL B' h Rs G := by
  induction S with
  | nil => exact .nil
  | cons a1 a2 a3 a4 ih => exact .cons a1 (fun i hi => ⟨hB i (.inl hi) (a2 i hi).1, (a2 i hi).2⟩) a3 (ih fun i hi => hB i (.inr hi))
section
variable {M : Nat → Prop} {n : Nat} {hb h : AH} {R : Res} {Rs : List Res}
/-- the first part stands aside, the others are lent -/
theorem SepM.lendTail (S : SepM M n hb h (R :: Rs)) : ∃ (G : Nat → Prop) (hb' : AH), SepM G n hb' h Rs ∧ Le hb hb' ∧ (∃ F, R.at_ hb' F) ∧ ∀ h' Rs', SepM G n hb' h' Rs' → SepM M n hb h' (R :: Rs') := by
  obtain ⟨H, hH⟩ := S.ex
  obtain ⟨F, G, h1, h2, h3, h4, h5⟩ := hH.inv
  have hlen : (hide G h).length = h.length := only_length _ _
  have hle : Le hb (hide G h) := ⟨by rw [hlen]; exact S.le.len, fun i b e => hide_some.2 ⟨fun hg => (by rw [(h4.lt i hg).1.1] at e; cases e), S.le.at_ i b e⟩⟩
  have hR : R.at_ (hide G h) F := Res.keep _ _ _ _ h1 fun i b hi e => hide_some.2 ⟨h3 i hi, e⟩
  refine ⟨G, hide G h, ⟨hide_le G h, S.nl, G, h4.mono2 fun i hg hi => ⟨hide_none hg, hi.2.1, .inl hg⟩⟩, hle, ⟨F, hR⟩, fun h' Rs' S' => ?_⟩
  obtain ⟨G2, hG2⟩ := S'.ex
  have hl' : h.length ≤ h'.length := by have := S'.le.len; rwa [hlen] at this
  refine ⟨hle.trans S'.le, S'.nl, _, .cons (Res.keep _ _ _ _ hR fun i b _ e => S'.le.at_ i b e) (fun i hi => ⟨(h2 i hi).1, Nat.lt_of_lt_of_le (h2 i hi).2 hl'⟩) (fun i hi hg => ?_) (hG2.mono2 fun i hg hi => ⟨?_, hi.2.1, ?_⟩)⟩
  · obtain ⟨⟨a1, a2, a3⟩, a4⟩ := hG2.lt i hg
    rcases a3 with a3 | a3
    · exact h3 i hi a3
    · rw [hlen] at a3; have := (h2 i hi).2; omega
  · obtain ⟨a1, a2, a3⟩ := hi
    rcases a3 with a3 | a3
    · exact (h4.lt i a3).1.1
    · rw [hlen] at a3; exact look_ge (Nat.le_trans S.le.len a3)
  · obtain ⟨a1, a2, a3⟩ := hi
    rcases a3 with a3 | a3
    · exact (h4.lt i a3).1.2.2
    · rw [hlen] at a3; exact .inr (Nat.le_trans S.le.len a3)
/-- the parts behind some first ones are lent -/
theorem SepM.lendRest : ∀ (Ls : List Res) {M : Nat → Prop} {hb : AH}, SepM M n hb h (Ls ++ Rs) → ∃ (G : Nat → Prop) (hb' : AH), SepM G n hb' h Rs ∧ Le hb hb' ∧ (∀ R ∈ Ls, ∃ F, R.at_ hb' F) ∧ ∀ h' Rs', SepM G n hb' h' Rs' → SepM M n hb h' (Ls ++ Rs')
  | [], M, hb, S => ⟨M, hb, S, Le.refl _, fun R hR => (by cases hR), fun h' Rs' S' => S'⟩
  | L :: Ls, M, hb, S => by
    obtain ⟨G, hb1, S1, l1, ⟨F, r1⟩, k1⟩ := SepM.lendTail (R := L) (Rs := Ls ++ Rs) S
    obtain ⟨G2, hb2, S2, l2, r2, k2⟩ := SepM.lendRest Ls S1
    refine ⟨G2, hb2, S2, l1.trans l2, fun R hR => ?_, fun h' Rs' S' => k1 h' _ (k2 h' Rs' S')⟩
    rcases List.mem_cons.1 hR with rfl | hR
    · exact ⟨F, Res.keep _ _ _ _ r1 fun i b _ e => l2.at_ i b e⟩
    · exact r2 R hR
end
section
variable {M : Nat → Prop} {n : Nat} {hb h : AH} {Rs : List Res}
/-- a base as long as the view -/
theorem SepM.rebase (S : SepM M n hb h Rs) : ∃ (G : Nat → Prop) (hb' : AH), hb'.length = h.length ∧ SepM G n hb' h Rs ∧ Le hb hb' ∧ ∀ h' Rs', SepM G n hb' h' Rs' → SepM M n hb h' Rs' := by
  obtain ⟨G, h4⟩ := S.ex
  have hlen : (hide G h).length = h.length := only_length _ _
  have hle : Le hb (hide G h) := ⟨by rw [hlen]; exact S.le.len, fun i b e => hide_some.2 ⟨fun hg => (by rw [(h4.lt i hg).1.1] at e; cases e), S.le.at_ i b e⟩⟩
  refine ⟨G, hide G h, hlen, ⟨hide_le G h, S.nl, G, h4.mono2 fun i hg hi => ⟨hide_none hg, hi.2.1, .inl hg⟩⟩, hle, fun h' Rs' S' => ?_⟩
  obtain ⟨G2, hG2⟩ := S'.ex
  have hl' : h.length ≤ h'.length := by have := S'.le.len; rwa [hlen] at this
  refine ⟨hle.trans S'.le, S'.nl, _, hG2.mono2 fun i hg hi => ⟨?_, hi.2.1, ?_⟩⟩
  · obtain ⟨a1, a2, a3⟩ := hi
    rcases a3 with a3 | a3
    · exact (h4.lt i a3).1.1
    · rw [hlen] at a3; exact look_ge (Nat.le_trans S.le.len a3)
  · obtain ⟨a1, a2, a3⟩ := hi
    rcases a3 with a3 | a3
    · exact (h4.lt i a3).1.2.2
    · rw [hlen] at a3; exact .inr (Nat.le_trans S.le.len a3)
end
/-- what a call without a result does to the parts that it is lent -/
def Does (P : Program) (f : FuncId) (args : List Value) (n : Nat) (h0 : AH) (St St' : List Res → Prop) : Prop :=
  ∀ (M : Nat → Prop) (hb h : AH) (Rs : List Res), Le h0 hb → St Rs → SepM M n hb h Rs → ACalls P f args h (fun r h' => r = .tuple #[] ∧ h.length ≤ h'.length ∧ ∃ Rs', St' Rs' ∧ SepM M n hb h' Rs')
theorem Does.of {P : Program} {f : FuncId} {args : List Value} {n : Nat} {h0 : AH} {St St' : List Res → Prop}
    (hc : ∀ (M : Nat → Prop) (hb h : AH) (Rs : List Res), hb.length = h.length → Le h0 hb → St Rs → SepM M n hb h Rs → ACalls P f args h (fun r h' => r = .tuple #[] ∧ ∃ Rs', St' Rs' ∧ SepM M n hb h' Rs')) : Does P f args n h0 St St' := by
  intro M hb h Rs hle hs S
  obtain ⟨G, hb', hl, S', l, back⟩ := S.rebase
  refine (hc G hb' h Rs hl (hle.trans l) hs S').mono fun r h' ⟨e, Rs', s', k⟩ => ⟨e, by have := k.le.len; omega, Rs', s', back h' Rs' k⟩
/-- the call, some parts stay aside -/
theorem SepM.does {M : Nat → Prop} {n : Nat} {hb h : AH} (Ls : List Res) {Rs : List Res} (S : SepM M n hb h (Ls ++ Rs)) {P : Program} {f : FuncId} {args : List Value} {h0 : AH} {St St' : List Res → Prop} (hc : Does P f args n h0 St St') (h0b : Le h0 hb) (hs : St Rs) {K : Value → AH → Prop}
    (hk : ∀ h' Rs', h.length ≤ h'.length → St' Rs' → SepM M n hb h' (Ls ++ Rs') → K (.tuple #[]) h') : CallX P f args h K := by
  obtain ⟨G, hb', S1, l1, _, k1⟩ := SepM.lendRest Ls S
  refine CallX.same (hc G hb' h Rs (h0b.trans l1) hs S1) ?_
  rintro r h' ⟨rfl, hl, Rs', s', S'⟩
  exact hk h' Rs' hl s' (k1 h' Rs' S')
end Go.Gl

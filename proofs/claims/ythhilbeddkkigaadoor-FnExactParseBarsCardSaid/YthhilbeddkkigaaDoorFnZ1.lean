/- Chapter 9: rows of bars are swapped and sorted in their place. No condition. -/
import Derived.Test.YthhilbeddkkigaaDoorPlSt
import Derived.Test.YthhilbeddkkigaaDoorFnBar
import Derived.Test.YthhilbeddkkigaaDoorGlS
import Derived.Test.YthhilbeddkkigaaDoorGlT
set_option linter.unusedVariables false
set_option linter.unusedSimpArgs false
namespace Go.Gl
open Go.Proofs Go.Proofs.YthhilbeddkkigaaDoor Go.Pl

/-- a block of our caller's, as a part of our own -/
theorem SepM.boxB {h : AH} {b : Nat} {cells : List Value} {ty : TypeId} {s : Nat} (hl : look h b = some ⟨cells, some (ty, s)⟩) : SepM (fun i => i = b) 0 (hide (fun i => i = b) h) h [.bx b ty s cells] :=
  ⟨hide_le _ h, Nat.zero_le _, _, .cons (F := fun i => i = b) ⟨rfl, hl⟩ (fun i hi => by subst hi; exact ⟨⟨hide_none rfl, Nat.zero_le _, .inl rfl⟩, look_lt hl⟩) (fun i _ hh => hh) .nil⟩
/-- the block b has become another, nothing else has changed -/
def ChgB (h : AH) (b : Nat) (blk : Blk) (h' : AH) : Prop := Le (hide (fun i => i = b) h) h' ∧ look h' b = some blk
theorem SepM.chgB {M : Nat → Prop} {h h' : AH} {b b' n : Nat} {cells : List Value} {ty : TypeId} {s : Nat} (S : SepM M n (hide (fun i => i = b) h) h' [.bx b' ty s cells]) (e : b' = b) : ChgB h b ⟨cells, some (ty, s)⟩ h' := by
  subst e
  exact ⟨S.le, S.at_ 0 rfl⟩
/-- a call that changes a row of bars in its place -/
def DoesB (P : Program) (f : FuncId) (args : List Value) (h : AH) (b : Nat) (ty : TypeId) (Q : List SBar → Prop) : Prop := ACalls P f args h (fun r h' => r = .tuple #[] ∧ ∃ M, Q M ∧ ChgB h b ⟨cellsB M, some (ty, 3)⟩ h')
section
variable {M : Nat → Prop} {n : Nat} {hb h : AH} {Rs : List Res}
theorem SepM.doesB (S : SepM M n hb h Rs) (j : Nat) {b : Nat} {ty : TypeId} {cells : List Value} (hj : gt Rs j = some (.bx b ty 3 cells)) {Q : List SBar → Prop} {P : Program} {f : FuncId} {args : List Value} {K : Value → AH → Prop}
    (hc : look h b = some ⟨cells, some (ty, 3)⟩ → DoesB P f args h b ty Q) (hk : ∀ h' N, Q N → SepM M n hb h' (st Rs j (.bx b ty 3 (cellsB N))) → K (.tuple #[]) h') : CallX P f args h K := by
  obtain ⟨F, ⟨h1, h3⟩, h2, _, _, h4⟩ := S.step hj
  refine CallX.same (hc h3) ?_
  rintro r h' ⟨rfl, N, hq, L, hl⟩
  have hlen2 : h.length ≤ h'.length := by have := L.len; rwa [show (hide (fun i => i = b) h).length = h.length from only_length _ _] at this
  refine hk _ N hq (h4 _ _ F hlen2 ⟨h1, hl⟩ (fun i hi => ⟨Nat.lt_of_lt_of_le (h2 i hi).1 hlen2, .inl hi⟩) fun i blk hf e => ?_)
  exact L.at_ i blk (hide_some.2 ⟨fun hh => hf (by subst hh; exact h1), e⟩)
/-- the function's end -/
theorem SepM.endB {h g : AH} {b : Nat} {ty : TypeId} {N : List SBar} {Q : List SBar → Prop} (S : SepM (fun i => i = b) 0 (hide (fun i => i = b) h) g [.bx b ty 3 (cellsB N)]) (hq : Q N) : FinX h (fun r h' => r = .tuple #[] ∧ ∃ M, Q M ∧ ChgB h b ⟨cellsB M, some (ty, 3)⟩ h') (.tuple #[]) g :=
  FinX.here (by have := S.le.len; rwa [show (hide (fun i => i = b) h).length = h.length from only_length _ _] at this) ⟨rfl, N, hq, S.chgB rfl⟩
theorem ldB {i : TI} {L : List SBar} {k a : Nat} (hk : k < L.length) (ha : a = 0 + mulE k 3 := by rfl) (hi : i.agg = true := by rfl) (hs : i.size = 3 := by rfl) : ldv i (cellsB L) a = some (vB (bar L k)) := by
  subst ha
  have h2 : k * 3 + 3 ≤ (cellsB L).length := by rw [cellsB_length]; omega
  unfold ldv
  rw [hi, hs, Nat.zero_add, mulE_eq, cellsB_at L k _ (bar_get hk)]
  rfl
theorem set_cellsB {L : List SBar} {k : Nat} (hk : k < L.length) (x : SBar) : setCells (cellsB L) (0 + mulE k 3) [.int .i64 x.degree, .int .i64 x.birth, .int .i64 x.death] = cellsB (L.set k x) := by
  have e1 : L = L.take k ++ [bar L k] ++ L.drop (k + 1) := by
    rw [← take_succ_bar hk, List.take_append_drop]
  have e2 : L.set k x = L.take k ++ [x] ++ L.drop (k + 1) := by
    rw [List.set_eq_take_append_cons_drop, if_pos hk]; simp
  have hl : (cellsB (L.take k)).length = 0 + mulE k 3 := by rw [cellsB_length, mulE_eq]; simp; omega
  rw [e2, cellsB_append, cellsB_append]
  conv => lhs; rw [e1]
  rw [cellsB_append, cellsB_append, ← hl]
  exact setCells_mid _ _ _ _ rfl
theorem SepM.storeB (S : SepM M n hb h Rs) (j : Nat) {b k a : Nat} {ty : TypeId} {L : List SBar} {x : SBar} {K : AH → Prop} (hj : gt Rs j = some (.bx b ty 3 (cellsB L))) (hk : k < L.length)
    (hK : ∀ h', SepM M n hb h' (st Rs j (.bx b ty 3 (cellsB (L.set k x)))) → K h') (ha : a = 0 + mulE k 3 := by rfl) : StoreX h b a [.int .i64 x.degree, .int .i64 x.birth, .int .i64 x.death] K := by
  subst ha
  refine S.store j hj (by rw [cellsB_length, mulE_eq]; simp; omega) fun h' S' => hK h' ?_
  rw [set_cellsB hk] at S'
  exact S'
end
abbrev cmpV : Value := .func (.func 31) #[] #[]
abbrev slV (b n c : Nat) : Value := .slice (some ⟨b, 0, none⟩) n c

end Go.Gl

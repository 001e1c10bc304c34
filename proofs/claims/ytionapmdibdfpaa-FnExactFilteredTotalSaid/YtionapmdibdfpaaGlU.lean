/- The plain view of memory, in parts: append of zeros, strong results. No condition. -/
import Derived.Test.YtionapmdibdfpaaGlT
set_option linter.unusedVariables false
set_option linter.unusedSimpArgs false
namespace Go.Gl

/-! ### zeros behind a row -/
section
variable {M : Nat → Prop} {n : Nat} {hb h : AH} {Rs : List Res}
theorem AppZ.ns {h : AH} {e : TypeId} {ie : TI} {v : Value} {K : Value → AH → Prop} {b n m : Nat} {cells : List Value} (hn : NS h e 1 b v n cells) (hag : ie.agg = false) (hs : ie.size = 1)
    (hb : (n + m) * ie.bytes ≤ 140737488355328) (hm : n + m ≤ maxLen)
    (hk : ∀ v' b' h', (h.length ≤ b' ∨ v' = .slice none 0 0) → NS h' e 1 b' v' (n + m) (cells ++ List.replicate m ie.zval) → Gr h h' v → K v' h') :
    AppZ h e ie v (.int .i64 (m : Int)) K := by
  rcases hn with ⟨rfl, hl, hc⟩ | ⟨rfl, rfl, rfl⟩
  · refine ⟨.inl ⟨hag, m, rfl, .inr ⟨some b, n, cells, ⟨rfl, by rw [hs]; exact hl, by rw [hs]; exact hc⟩, hb, hm, ?_⟩⟩⟩
    intro b' h' e1 e2
    simp only at e2
    subst e1 e2
    have hbl := look_lt hl
    refine hk _ _ _ (.inl (Nat.le_refl _)) (.inl ⟨rfl, ?_, by simp; omega⟩) ⟨by simp, fun i blk hi hne => ?_⟩
    · have := look_app_ge (h.set b none) [some (⟨cells ++ List.replicate m ie.zval, some (e, ie.size)⟩ : Blk)] 0
      rw [hs] at this ⊢
      simpa [look] using this
    · have hil := look_lt hi
      rw [look_app_lt (by simpa using hil), look_set hbl, if_neg (hne b n rfl)]
      exact hi
  · rcases Nat.eq_zero_or_pos m with rfl | h0
    · exact ⟨.inl ⟨hag, 0, rfl, .inl ⟨rfl, rfl, hk _ b h (.inr rfl) (.inr ⟨rfl, rfl, rfl⟩) ⟨Nat.le_refl _, fun i blk hi _ => hi⟩⟩⟩⟩
    · refine ⟨.inl ⟨hag, m, rfl, .inr ⟨none, 0, [], ⟨rfl, rfl, rfl, h0⟩, hb, hm, ?_⟩⟩⟩
      intro b' h' e1 e2
      simp only at e2
      subst e1 e2
      refine hk _ _ _ (.inl (Nat.le_refl _)) (.inl ⟨rfl, ?_, by simp⟩) ⟨by simp, fun i blk hi hne => look_app hi⟩
      have := look_app_ge h [some (⟨[] ++ List.replicate m ie.zval, some (e, ie.size)⟩ : Blk)] 0
      rw [hs] at this ⊢
      simpa [look] using this
/-- append of zeros to a row of cells -/
theorem SepM.appZ (S : SepM M n hb h Rs) (j : Nat) {e : TypeId} {v : Value} {k m : Nat} {cells : List Value} {ie : TI} (hj : gt Rs j = some (.rc e 1 n v k cells)) {K : Value → AH → Prop} (hl : k + m ≤ 10000000000)
    (hk : ∀ A c h', SepM M n hb h' (st Rs j (.rc e 1 n (.slice A (k + m) c) (k + m) (cells ++ List.replicate m ie.zval))) → K (.slice A (k + m) c) h') (hag : ie.agg = false := by rfl) (hs : ie.size = 1 := by rfl) (hby : ie.bytes ≤ 8192 := by decide) : AppZ h e ie v (.int .i64 (m : Int)) K := by
  obtain ⟨F, ⟨b, h1, h0⟩, h2, _, _, h4⟩ := S.step hj
  refine AppZ.ns h1.only hag hs ?_ (by simp only [maxLen]; omega) fun v' b' h' e1 e2 e3 => ?_
  · calc (k + m) * ie.bytes ≤ 10000000000 * 8192 := Nat.mul_le_mul (by omega) hby
      _ ≤ 140737488355328 := by decide
  have keep : ∀ i blk, ¬ F i → look h i = some blk → look h' i = some blk := fun i blk hi e => e3.keep i blk e fun b2 n2 ev hib => by
    rcases h1 with ⟨rfl, h1, _⟩ | ⟨rfl, _⟩
    · simp only [Value.slice.injEq, Option.some.injEq, Addr.mk.injEq] at ev
      obtain ⟨⟨rfl, _⟩, _⟩ := ev
      subst hib
      exact hi (only_some.1 h1).1
    · cases ev
  rcases e2 with ⟨rfl, e2, e4⟩ | ⟨rfl, e2, e4⟩
  · have hge : h.length ≤ b' := by
      rcases e1 with e1 | e1
      · exact e1
      · cases e1
    have hlt := look_lt e2
    refine hk _ _ h' (h4 h' _ (fun i => F i ∨ i = b') e3.len ⟨b', .inl ⟨rfl, only_some.2 ⟨.inr rfl, e2⟩, e4⟩, Nat.le_trans S.nl hge⟩ (fun i hi => ?_) keep)
    rcases hi with hi | rfl
    · exact ⟨Nat.lt_of_lt_of_le (h2 i hi).1 e3.len, .inl hi⟩
    · exact ⟨hlt, .inr hge⟩
  · have hkm : k = 0 ∧ m = 0 := by omega
    obtain ⟨rfl, rfl⟩ := hkm
    exact hk none 0 h' (h4 h' _ F e3.len ⟨b, .inr ⟨rfl, rfl, e4⟩, h0⟩ (fun i hi => ⟨Nat.lt_of_lt_of_le (h2 i hi).1 e3.len, .inl hi⟩) keep)
/-- a contract with a strong result: a row of our own, or nil -/
def MadeR (e : TypeId) (s : Nat) (h : AH) (k : Nat) (cells : List Value) (r : Value) (h' : AH) : Prop := ∃ b, NS h' e s b r k cells ∧ h.length ≤ b ∧ Le h h'
theorem SepM.madeR (S : SepM M n hb h Rs) {e : TypeId} {s k : Nat} {cells : List Value} {P : Program} {f : FuncId} {args : List Value} {K : Value → AH → Prop} (hc : ACalls P f args h (MadeR e s h k cells))
    (hk : ∀ A c h', Le h h' → SepM M n hb h' (.rc e s n (.slice A k c) k cells :: Rs) → K (.slice A k c) h') : CallX P f args h K :=
  CallX.same hc fun r h' ⟨b, hn, hge, g⟩ => by
    rcases hn with ⟨rfl, h1, h2⟩ | ⟨rfl, rfl, h2⟩
    · exact hk _ _ h' g (S.add g (F := fun i => i = b) ⟨b, .inl ⟨rfl, only_some.2 ⟨rfl, h1⟩, h2⟩, Nat.le_trans S.nl hge⟩ fun i hi => by subst hi; exact ⟨hge, look_lt h1⟩)
    · exact hk none 0 h' g (S.add g (F := fun _ => False) ⟨n, .inr ⟨rfl, rfl, h2⟩, Nat.le_refl _⟩ fun i hi => hi.elim)
end
end Go.Gl

/- Chapter 9: rows of bars, one behind the other. No condition. -/
import Derived.Test.YthhilbeddkkigaaDoorFnZ2
import Derived.Test.YthhilbeddkkigaaDoorFnBar2
import Derived.Test.YthhilbeddkkigaaDoorFnK0
set_option linter.unusedVariables false
set_option linter.unusedSimpArgs false
namespace Go.Gl
open Go.Proofs Go.Proofs.YthhilbeddkkigaaDoor Go.Pl

section
variable {M : Nat → Prop} {n : Nat} {hb h : AH} {Rs : List Res}
/-- append cells that are read to a row of our own -/
theorem SepM.appS (S : SepM M n hb h Rs) (j : Nat) {e : TypeId} {s : Nat} {v : Value} {k : Nat} {cells : List Value} {ie : TI} (hj : gt Rs j = some (.rc e s n v k cells)) {g : AH} (hg : Le g h) {b2 o2 c m : Nat} {news : List Value} {K : Value → AH → Prop}
    (hlen : news.length = m * s) (hone : news.all one1 = true) (hsrc : 0 < m → ∃ blk raw, look g b2 = some blk ∧ (blk.cells.drop o2).take (m * s) = raw ∧ WkL raw news) (hl : k + m ≤ 10000000000)
    (hk : ∀ A c h', SepM M n hb h' (st Rs j (.rc e s n (.slice A (k + m) c) (k + m) (cells ++ news))) → K (.slice A (k + m) c) h') (hs : ie.size = s := by rfl) (hby : ie.bytes ≤ 8192 := by decide) :
    AppG h e ie v (.slice (some ⟨b2, o2, none⟩) m c) K := by
  obtain ⟨F, ⟨b, h1, h0⟩, h2, _, _, h4⟩ := S.step hj
  rcases Nat.eq_zero_or_pos m with h0' | hpos
  · subst h0'
    have hn0 : news = [] := List.length_eq_zero_iff.1 (by rw [hlen, Nat.zero_mul])
    subst hn0
    rcases h1 with ⟨rfl, h3, h5⟩ | ⟨rfl, rfl, rfl⟩
    · obtain ⟨h3a, h3⟩ := only_some.1 h3
      refine ⟨.inl ⟨some b, k, cells, 0, [], ⟨rfl, by rw [hs]; exact h3, by rw [hs]; exact h5⟩, by simp, rfl, ?_, by simp only [maxLen]; simp at hl; omega, .inr (.inl ⟨_, c, rfl, rfl, rfl⟩), ?_⟩⟩
      · calc (k + 0) * ie.bytes ≤ 10000000000 * 8192 := Nat.mul_le_mul (by simpa using hl) hby
          _ ≤ 140737488355328 := by decide
      · intro b' h' e1 e2
        simp only at e2
        rw [hs] at e2
        have hbl := look_lt h3
        have hnew : look h' b' = some ⟨cells ++ [], some (e, s)⟩ := by
          rw [e1, e2]
          have := look_app_ge (h.set b none) [some (⟨cells ++ [], some (e, s)⟩ : Blk)] 0
          simpa [look] using this
        refine hk _ _ _ (h4 h' _ (fun i => F i ∨ i = b') (by rw [e2]; simp) ⟨b', .inl ⟨rfl, only_some.2 ⟨.inr rfl, hnew⟩, by rw [List.append_nil]; exact h5⟩, by rw [e1]; exact S.nl⟩ (fun i hi => ?_) fun i blk hi e' => ?_)
        · rcases hi with hi | rfl
          · exact ⟨by rw [e2]; simp; exact Nat.lt_of_lt_of_le (h2 i hi).1 (by omega), .inl hi⟩
          · exact ⟨look_lt hnew, .inr (by omega)⟩
        · rw [e2, look_app_lt (by simpa using look_lt e'), look_set hbl, if_neg (fun hh => hi (by rw [hh]; exact h3a))]
          exact e'
    · refine ⟨.inr ⟨rfl, ⟨_, c, rfl⟩, ?_⟩⟩
      exact hk none 0 h (h4 h _ F (Nat.le_refl _) ⟨b, .inr ⟨rfl, rfl, rfl⟩, h0⟩ (fun i hi => ⟨(h2 i hi).1, .inl hi⟩) fun i blk _ e => e)
  · obtain ⟨blk, raw, g1, g2, g3⟩ := hsrc hpos
    have hby' : (k + m) * ie.bytes ≤ 140737488355328 := by
      calc (k + m) * ie.bytes ≤ 10000000000 * 8192 := Nat.mul_le_mul hl hby
        _ ≤ 140737488355328 := by decide
    have fin : ∀ b' h', h.length ≤ b' → look h' b' = some ⟨cells ++ news, some (e, s)⟩ → h.length ≤ h'.length → (∀ i blk, ¬ F i → look h i = some blk → look h' i = some blk) → cells.length = k * s → K (.slice (some ⟨b', 0, none⟩) (k + m) 1) h' := by
      intro b' h' e1 e2 e3 e4 e5
      refine hk _ _ _ (h4 h' _ (fun i => F i ∨ i = b') e3 ⟨b', .inl ⟨rfl, only_some.2 ⟨.inr rfl, e2⟩, by simp [e5, hlen, Nat.add_mul]⟩, Nat.le_trans S.nl e1⟩ (fun i hi => ?_) e4)
      rcases hi with hi | rfl
      · exact ⟨Nat.lt_of_lt_of_le (h2 i hi).1 e3, .inl hi⟩
      · exact ⟨look_lt e2, .inr e1⟩
    rcases h1 with ⟨rfl, h3, h5⟩ | ⟨rfl, rfl, rfl⟩
    · obtain ⟨h3a, h3⟩ := only_some.1 h3
      refine ⟨.inl ⟨some b, k, cells, m, news, ⟨rfl, by rw [hs]; exact h3, by rw [hs]; exact h5⟩, by rw [hs, hlen], hone, hby', by simp only [maxLen]; omega, .inr (.inr ⟨b2, o2, c, blk, raw, rfl, hg.at_ _ _ g1, by rw [hs]; exact g2, g3⟩), ?_⟩⟩
      intro b' h' e1 e2
      simp only at e2
      rw [hs] at e2
      have hbl := look_lt h3
      have hnew : look h' b' = some ⟨cells ++ news, some (e, s)⟩ := by
        rw [e1, e2]
        have := look_app_ge (h.set b none) [some (⟨cells ++ news, some (e, s)⟩ : Blk)] 0
        simpa [look] using this
      refine fin b' h' (by omega) hnew (by rw [e2]; simp) (fun i blk hi e' => ?_) h5
      rw [e2, look_app_lt (by simpa using look_lt e'), look_set hbl, if_neg (fun hh => hi (by rw [hh]; exact h3a))]
      exact e'
    · refine ⟨.inl ⟨none, 0, [], m, news, ⟨rfl, rfl, rfl, hpos⟩, by rw [hs, hlen], hone, hby', by simp only [maxLen]; omega, .inr (.inr ⟨b2, o2, c, blk, raw, rfl, hg.at_ _ _ g1, by rw [hs]; exact g2, g3⟩), ?_⟩⟩
      intro b' h' e1 e2
      simp only at e2
      rw [hs] at e2
      have hnew : look h' b' = some ⟨[] ++ news, some (e, s)⟩ := by
        rw [e1, e2]
        have := look_app_ge h [some (⟨[] ++ news, some (e, s)⟩ : Blk)] 0
        simpa [look] using this
      refine fin b' h' (by omega) hnew (by rw [e2]; simp) (fun i blk hi e' => ?_) (by simp)
      rw [e2]
      exact look_app e'
/-- append bars that are read to a row of our own -/
theorem SepM.appBs (S : SepM M n hb h Rs) (j : Nat) {e : TypeId} {v : Value} {k : Nat} {cells : List Value} {ie : TI} (hj : gt Rs j = some (.rc e 3 n v k cells)) {g : AH} (hg : Le g h) {b2 o2 c m : Nat} {xs : List SBar} {K : Value → AH → Prop}
    (hx : CN 3 EB g b2 o2 xs) (hm : xs.length = m) (hl : k + m ≤ 10000000000)
    (hk : ∀ A c h', SepM M n hb h' (st Rs j (.rc e 3 n (.slice A (k + m) c) (k + m) (cells ++ cellsB xs))) → K (.slice A (k + m) c) h') (hs : ie.size = 3 := by rfl) (hby : ie.bytes ≤ 8192 := by decide) :
    AppG h e ie v (.slice (some ⟨b2, o2, none⟩) m c) K := by
  refine S.appS j hj hg (news := cellsB xs) (by rw [cellsB_length, hm]) (List.all_eq_true.2 fun v hv => ?_) (fun hpos => ?_) hl hk hs hby
  · unfold cellsB at hv
    obtain ⟨l, hl, hv⟩ := List.mem_flatten.1 hv
    obtain ⟨x, _, rfl⟩ := List.mem_map.1 hl
    simp at hv
    rcases hv with rfl | rfl | rfl <;> rfl
  obtain ⟨blk, us, h1, _⟩ := hx 0 xs[0] (List.getElem?_eq_getElem (by omega))
  refine ⟨blk, _, h1, rfl, ?_⟩
  have : (blk.cells.drop o2).take (m * 3) = cellsB xs := by
    apply List.ext_getElem?
    intro i
    by_cases hi : i < m * 3
    · obtain ⟨blk', us', h3, h4, h5, h6⟩ := hx (i / 3) xs[i / 3] (List.getElem?_eq_getElem (by omega))
      rw [h1] at h3
      injection h3 with h3
      subst h3
      have hc : (cellsB xs)[i]? = us'[i % 3]? := by
        have := flat_get (s := 3) (by decide) (xs.map fun x => [Value.int .i64 x.degree, .int .i64 x.birth, .int .i64 x.death]) (fun l hl => by obtain ⟨x, _, rfl⟩ := List.mem_map.1 hl; rfl) (i / 3) (i % 3) (Nat.mod_lt _ (by decide))
        rw [show i / 3 * 3 + i % 3 = i by omega] at this
        unfold cellsB
        rw [this, List.getElem?_map, List.getElem?_eq_getElem (show i / 3 < xs.length by omega)]
        rw [show us' = _ from h6]
        rfl
      rw [hc, ← h5, List.getElem?_take, if_pos hi, List.getElem?_take, if_pos (Nat.mod_lt _ (by decide)), List.getElem?_drop, List.getElem?_drop, mulE_eq]
      congr 1; omega
    · rw [List.getElem?_take, if_neg hi, List.getElem?_eq_none (by rw [cellsB_length]; omega)]
  rw [this]
  exact WkL.refl _
/-- zeros of any size behind nil -/
theorem SepM.appZn (S : SepM M n hb h Rs) {e : TypeId} {m : Nat} {ie : TI} {s : Nat} {K : Value → AH → Prop} (hm : 0 < m) (hl : m ≤ 10000000000) (hz : ie.zero.length = s)
    (hk : ∀ b h', SepM M n hb h' (.rc e s n (.slice (some ⟨b, 0, none⟩) m 1) m (List.replicate m ie.zero).flatten :: Rs) → K (.slice (some ⟨b, 0, none⟩) m 1) h') (hs : ie.size = s := by rfl) (hby : ie.bytes ≤ 8192 := by decide) : AppZ h e ie (.slice none 0 0) (.int .i64 (m : Int)) K := by
  subst hs
  refine ⟨.inr ⟨m, rfl, rfl, hm, ?_, by simp only [maxLen]; omega, fun b' h' e1 e2 => ?_⟩⟩
  · calc m * ie.bytes ≤ 10000000000 * 8192 := Nat.mul_le_mul hl hby
      _ ≤ 140737488355328 := by decide
  have hnew : look h' b' = some ⟨(List.replicate m ie.zero).flatten, some (e, ie.size)⟩ := by
    rw [e1, e2]
    have := look_app_ge h [some (⟨(List.replicate m ie.zero).flatten, some (e, ie.size)⟩ : Blk)] 0
    simpa [look] using this
  have g : Le h h' := by rw [e2]; exact Le.push _ _
  exact hk b' h' (S.add g (F := fun i => i = b') ⟨b', .inl ⟨rfl, only_some.2 ⟨rfl, hnew⟩, by simp [hz]⟩, by rw [e1]; exact S.nl⟩ fun i hi => by subst hi; exact ⟨by omega, look_lt hnew⟩)
end

end Go.Gl

/- Chapter 9: two lists of bars joined, both sides. No condition. -/
import Derived.Test.YthhilbeddkkigaaDoorFnZ3
set_option linter.unusedVariables false
set_option linter.unusedSimpArgs false
namespace Go.Pl
def insB (x : SBar) : List SBar → List SBar
  | [] => [x]
  | y :: l => if key x < key y then x :: y :: l else y :: insB x l
/-- bars in order -/
def srt : List SBar → List SBar
  | [] => []
  | x :: l => insB x (srt l)
theorem insB_perm (x : SBar) : ∀ l, (insB x l).Perm (x :: l)
  | [] => List.Perm.refl _
  | y :: l => by
    unfold insB
    split
    · exact List.Perm.refl _
    · exact (List.Perm.cons y (insB_perm x l)).trans (List.Perm.swap x y l)
theorem srt_perm : ∀ l, (srt l).Perm l
  | [] => List.Perm.refl _
  | x :: l => (insB_perm x (srt l)).trans (List.Perm.cons x (srt_perm l))
theorem sortedOn_iff {L : List SBar} : SortedOn L 0 L.length ↔ L.Pairwise fun a b => key a ≤ key b := by
  rw [List.pairwise_iff_getElem]
  refine ⟨fun h i j hi hj hij => ?_, fun h i j _ hij hj => ?_⟩
  · rw [bar_eq hi, bar_eq hj]; exact h i j (by omega) hij hj
  · rw [← bar_eq (show i < L.length by omega), ← bar_eq hj]; exact h i j (by omega) hj hij
theorem insB_sorted (x : SBar) : ∀ l : List SBar, (l.Pairwise fun a b => key a ≤ key b) → (insB x l).Pairwise fun a b => key a ≤ key b
  | [], _ => by simp [insB]
  | y :: l, h => by
    obtain ⟨h1, h2⟩ := List.pairwise_cons.1 h
    unfold insB
    split
    · rename_i hk
      refine List.pairwise_cons.2 ⟨fun z hz => ?_, h⟩
      rcases List.mem_cons.1 hz with rfl | hz
      · omega
      · have := h1 z hz; omega
    · rename_i hk
      refine List.pairwise_cons.2 ⟨fun z hz => ?_, insB_sorted x l h2⟩
      rcases List.mem_cons.1 ((insB_perm x l).mem_iff.1 hz) with rfl | hz
      · omega
      · exact h1 z hz
theorem srt_sorted : ∀ l, (srt l).Pairwise fun a b => key a ≤ key b
  | [] => List.Pairwise.nil
  | x :: l => insB_sorted x _ (srt_sorted l)
theorem srt_length (l : List SBar) : (srt l).length = l.length := (srt_perm l).length_eq
/-- whatever is in order is the same -/
theorem srt_eq {L M : List SBar} (hv : Val L) (p : M.Perm L) (h : SortedOn M 0 M.length) : M = srt L :=
  sorted_unique (srt L) M (p.trans (srt_perm L).symm) (hv.perm (srt_perm L)) (sortedOn_iff.2 (srt_sorted L)) h
/-- an element is put in at its place -/
theorem put_sorted {L : List SBar} {x : SBar} {p : Nat} (hp : p ≤ L.length) (h : SortedOn L 0 L.length) (h1 : p = 0 ∨ key (bar L (p - 1)) ≤ key x) (h2 : p = L.length ∨ key x < key (bar L p)) : SortedOn (L.take p ++ x :: L.drop p) 0 (L.take p ++ x :: L.drop p).length := by
  rw [sortedOn_iff] at h ⊢
  have e : L = L.take p ++ L.drop p := (List.take_append_drop p L).symm
  have h0 := h
  rw [e] at h
  obtain ⟨a1, a2, a3⟩ := List.pairwise_append.1 h
  have so := sortedOn_iff.2 h0
  refine List.pairwise_append.2 ⟨a1, List.pairwise_cons.2 ⟨fun y hy => ?_, a2⟩, fun y hy z hz => ?_⟩
  · obtain ⟨i, hi, e⟩ := List.getElem_of_mem hy
    rw [List.getElem_drop] at e
    have hil : p + i < L.length := by simp at hi; omega
    rw [bar_eq hil] at e
    subst e
    rcases h2 with h2 | h2
    · omega
    · exact Int.le_of_lt (Int.lt_of_lt_of_le h2 (le_of_sorted so (by omega) (by omega) hil))
  · rcases List.mem_cons.1 hz with rfl | hz
    · obtain ⟨i, hi, e⟩ := List.getElem_of_mem hy
      rw [List.getElem_take] at e
      have hip : i < p := by simp at hi; omega
      rw [bar_eq (show i < L.length by omega)] at e
      subst e
      rcases h1 with h1 | h1
      · omega
      · exact Int.le_trans (le_of_sorted so (by omega) (show i ≤ p - 1 by omega) (by omega)) h1
    · exact a3 y hy z hz
theorem put_perm {L : List SBar} {x : SBar} {p : Nat} : (L.take p ++ x :: L.drop p).Perm (x :: L) := by
  have := List.perm_middle (a := x) (l₁ := L.take p) (l₂ := L.drop p)
  rwa [List.take_append_drop] at this
theorem areBars_val {xs : List SBar} (h : areBars xs = true) : Val xs := by
  simp [areBars] at h
  exact fun x hx => h.1.2 x hx
/-- two lists joined -/
def joinB (xs ys : List SBar) : List SBar × Int := if areBars xs = true ∧ areBars ys = true then (if xs.length + ys.length ≤ 24 then (srt (xs ++ ys), 0) else ([], 3)) else ([], 2)
theorem joinB_len (xs ys : List SBar) : (joinB xs ys).1.length ≤ 24 := by
  unfold joinB
  split
  · split
    · simp only; rw [srt_length, List.length_append]; assumption
    · simp
  · simp
end Go.Pl
namespace Go.Gl
open Go.Proofs Go.Proofs.YthhilbeddkkigaaDoor Go.Pl

theorem CN.drop {α : Type} {s : Nat} {E : AH → List Value → α → Prop} {h : AH} {b o : Nat} {xs : List α} (hc : CN s E h b o xs) (p : Nat) : CN s E h b (o + mulE p s) (xs.drop p) := by
  intro k x hk
  rw [List.getElem?_drop] at hk
  obtain ⟨blk, us, h1, h2, h3, h4⟩ := hc (p + k) x hk
  refine ⟨blk, us, h1, h2, ?_, h4⟩
  rw [mulE_eq] at h3 ⊢
  rw [mulE_eq, Nat.add_assoc, ← Nat.add_mul]
  exact h3
theorem CN.take {α : Type} {s : Nat} {E : AH → List Value → α → Prop} {h : AH} {b o : Nat} {xs : List α} (hc : CN s E h b o xs) (p : Nat) : CN s E h b o (xs.take p) := by
  intro k x hk
  rw [List.getElem?_take] at hk
  split at hk
  · exact hc k x hk
  · cases hk
section
variable {M : Nat → Prop} {n : Nat} {hb h : AH} {Rs : List Res}
/-- a row of our own that is not empty has a place -/
theorem SepM.rcSome (S : SepM M n hb h Rs) (j : Nat) {e : TypeId} {s m k c : Nat} {A : Option Addr} {cells : List Value} (hj : gt Rs j = some (.rc e s m (.slice A k c) k cells)) (hk : 0 < k) : ∃ b, A = some ⟨b, 0, none⟩ ∧ c = 1 := by
  obtain ⟨F, b, h1, _⟩ := S.get hj
  rcases h1 with ⟨h1, _⟩ | ⟨_, h1, _⟩
  · injection h1 with h1 _ h2
    exact ⟨b, h1, h2⟩
  · omega
/-- append bars, told at once -/
theorem SepM.appBk (S : SepM M n hb h Rs) (j : Nat) (kk : Nat) (zs : List SBar) {e : TypeId} {v : Value} {k : Nat} {cells : List Value} {ie : TI} (hj : gt Rs j = some (.rc e 3 n v k cells)) {g : AH} (hg : Le g h) {b2 o2 c m : Nat} {xs : List SBar} {K : Value → AH → Prop}
    (hx : CN 3 EB g b2 o2 xs) (hm : xs.length = m) (hkk : k + m = kk) (hz : cells ++ cellsB xs = cellsB zs) (hl : kk ≤ 10000000000)
    (hk : ∀ A c h', SepM M n hb h' (st Rs j (.rc e 3 n (.slice A kk c) kk (cellsB zs))) → K (.slice A kk c) h') (hs : ie.size = 3 := by rfl) (hby : ie.bytes ≤ 8192 := by decide) :
    AppG h e ie v (.slice (some ⟨b2, o2, none⟩) m c) K := by
  subst hkk
  refine S.appBs j hj hg hx hm hl (fun A c h' S' => hk A c h' ?_) hs hby
  rw [hz] at S'
  exact S'
/-- the bars of a row of our own -/
theorem SepM.cnRc (S : SepM M n hb h Rs) (j : Nat) {e : TypeId} {m b k c : Nat} {zs : List SBar} (hj : gt Rs j = some (.rc e 3 m (.slice (some ⟨b, 0, none⟩) k c) k (cellsB zs))) (hz : zs.length = k) (hm : k ≤ 9223372036854775807) : CN 3 EB h b 0 zs := by
  obtain ⟨F, b', h1, _⟩ := S.get hj
  rcases h1 with ⟨h1, h2, _⟩ | ⟨h1, _⟩
  · injection h1 with h1 _ h3
    injection h1 with h1
    injection h1 with h1
    subst h1
    exact RN.cells (k := zs.length) (RB.bx (only_some.1 h2).2 (by omega) 0) rfl
  · cases h1
theorem SepM.lookRc (S : SepM M n hb h Rs) (j : Nat) {e : TypeId} {s m b k c : Nat} {cells : List Value} (hj : gt Rs j = some (.rc e s m (.slice (some ⟨b, 0, none⟩) k c) k cells)) : look h b = some ⟨cells, some (e, s)⟩ := by
  obtain ⟨F, b', h1, _⟩ := S.get hj
  rcases h1 with ⟨h1, h2, _⟩ | ⟨h1, _⟩
  · injection h1 with h1 _ h3
    injection h1 with h1
    injection h1 with h1
    subst h1
    exact (only_some.1 h2).2
  · cases h1
/-- what a row of our own reads as -/
theorem SepM.rbRc (S : SepM M n hb h Rs) (j : Nat) {e : TypeId} {m k : Nat} {v : Value} {zs : List SBar} (hj : gt Rs j = some (.rc e 3 m v k (cellsB zs))) (hz : zs.length = k) (hm : k ≤ 9223372036854775807) : RB h v zs := by
  subst hz
  obtain ⟨F, b', h1, _⟩ := S.get hj
  rcases h1 with ⟨rfl, h2, _⟩ | ⟨rfl, h1, h2⟩
  · exact RB.bx (only_some.1 h2).2 (by omega) 1
  · have : zs = [] := List.length_eq_zero_iff.1 h1
    subst this
    exact ⟨by simp, 0, 0, Wk.nil _, fun i x hi => by simp at hi⟩
/-- a call that changes a row of our own in its place, or finds nil -/
theorem SepM.rcDo (S : SepM M n hb h Rs) (j : Nat) {e : TypeId} {s m k c : Nat} {A : Option Addr} {cells cells' : List Value} (hj : gt Rs j = some (.rc e s m (.slice A k c) k cells)) (hlen : cells'.length = k * s) {P : Program} {f : FuncId} {args : List Value} {r0 : Value} {K : Value → AH → Prop}
    (h0 : A = none → k = 0 → c = 0 → ACalls P f args h (fun r h' => r = r0 ∧ h' = h)) (hc : ∀ b, A = some ⟨b, 0, none⟩ → look h b = some ⟨cells, some (e, s)⟩ → ACalls P f args h (fun r h' => r = r0 ∧ ChgB h b ⟨cells', some (e, s)⟩ h'))
    (hk : ∀ h', SepM M n hb h' (st Rs j (.rc e s m (.slice A k c) k cells')) → K r0 h') : CallX P f args h K := by
  obtain ⟨F, ⟨b', h1, hge⟩, h2, _, _, h4⟩ := S.step hj
  rcases h1 with ⟨h1, h3, h5⟩ | ⟨h1, h3, h5⟩
  · injection h1 with h1 _ h6
    obtain ⟨h3a, h3⟩ := only_some.1 h3
    refine CallX.same (hc b' h1 h3) ?_
    rintro r h' ⟨rfl, L, hl⟩
    have hlen2 : h.length ≤ h'.length := by have := L.len; rwa [show (hide (fun i => i = b') h).length = h.length from only_length _ _] at this
    refine hk _ (h4 _ _ F hlen2 ⟨b', .inl ⟨by rw [h1, h6], only_some.2 ⟨h3a, hl⟩, hlen⟩, hge⟩ (fun i hi => ⟨Nat.lt_of_lt_of_le (h2 i hi).1 hlen2, .inl hi⟩) fun i blk hf e => ?_)
    exact L.at_ i blk (hide_some.2 ⟨fun hh => hf (by subst hh; exact h3a), e⟩)
  · injection h1 with h1 h6 h7
    refine CallX.same (h0 h1 h3 h7) ?_
    rintro r h' ⟨rfl, rfl⟩
    have hc0 : cells' = [] := List.length_eq_zero_iff.1 (by rw [hlen, h3, Nat.zero_mul])
    refine hk _ (h4 _ _ F (Nat.le_refl _) ⟨b', .inr ⟨by rw [h1, h6, h7], h3, hc0⟩, hge⟩ (fun i hi => ⟨(h2 i hi).1, .inl hi⟩) fun i b _ e => e)
end
/-- a row of our own and a code -/
def MadeRC (e : TypeId) (s : Nat) (h : AH) (k : Nat) (cells : List Value) (c : Int) (r : Value) (h' : AH) : Prop := ∃ v b, r = .tuple #[v, .int .i64 c] ∧ NS h' e s b v k cells ∧ h.length ≤ b ∧ Le h h'
theorem SepM.endRC {h0 h : AH} {Rs : List Res} (S : Sep h0.length h0 h Rs) (j : Nat) {e : TypeId} {s k : Nat} {v : Value} {cells : List Value} {c : Int} (hj : gt Rs j = some (.rc e s h0.length v k cells)) : FinX h0 (MadeRC e s h0 k cells c) (.tuple #[v, .int .i64 c]) h := by
  obtain ⟨F, b, h1, h2⟩ := S.get hj
  exact FinX.here S.le.len ⟨v, b, rfl, h1.only, h2, S.le⟩
theorem SepM.nilRC {h0 h : AH} {Rs : List Res} (S : Sep h0.length h0 h Rs) {e : TypeId} {s : Nat} {c : Int} : FinX h0 (MadeRC e s h0 0 [] c) (.tuple #[.slice none 0 0, .int .i64 c]) h :=
  FinX.here S.le.len ⟨_, h0.length, rfl, .inr ⟨rfl, rfl, rfl⟩, Nat.le_refl _, S.le⟩
theorem SepM.madeRC {M : Nat → Prop} {n : Nat} {hb h : AH} {Rs : List Res} (S : SepM M n hb h Rs) {e : TypeId} {s k : Nat} {cells : List Value} {c : Int} {P : Program} {f : FuncId} {args : List Value} {K : Value → AH → Prop} (hc : ACalls P f args h (MadeRC e s h k cells c))
    (hk : ∀ A c2 h', Le h h' → SepM M n hb h' (.rc e s n (.slice A k c2) k cells :: Rs) → K (.tuple #[.slice A k c2, .int .i64 c]) h') : CallX P f args h K :=
  CallX.same hc fun r h' ⟨v, b, e1, hn, hge, g⟩ => by
    subst e1
    rcases hn with ⟨rfl, h1, h2⟩ | ⟨rfl, rfl, h2⟩
    · exact hk _ _ h' g (S.add g (F := fun i => i = b) ⟨b, .inl ⟨rfl, only_some.2 ⟨rfl, h1⟩, h2⟩, Nat.le_trans S.nl hge⟩ fun i hi => by subst hi; exact ⟨hge, look_lt h1⟩)
    · exact hk none 0 h' g (S.add g (F := fun _ => False) ⟨n, .inr ⟨rfl, rfl, h2⟩, Nat.le_refl _⟩ fun i hi => hi.elim)

end Go.Gl

/- Chapter 3: totals: the places laid in any order. No condition. -/
import Derived.Test.YtionapmdibdfpaaFnTo5
import Derived.Test.YtionapmdibdfpaaGlDag
set_option linter.unusedVariables false
set_option linter.unusedSimpArgs false
namespace Go.Gl
open Go.Proofs Go.Proofs.Ytionapmdibdfpaa Go.Pl

theorem SepL.perm {B : Nat → Prop} {h : AH} {Rs Rs' : List Res} (hp : Rs.Perm Rs') : ∀ {G : Nat → Prop}, SepL B h Rs G → ∃ G', SepL B h Rs' G' ∧ ∀ i, G' i ↔ G i := by
  induction hp with
  | nil => exact fun {G} S => ⟨G, S, fun i => Iff.rfl⟩
  | cons x _ ih =>
    intro G S
    obtain ⟨F, G1, h1, h2, h3, h4, h5⟩ := S.inv
    obtain ⟨G2, h6, h7⟩ := ih h4
    exact ⟨_, .cons h1 h2 (fun i hi hg => h3 i hi ((h7 i).1 hg)) h6, fun i => by rw [h5, h7]⟩
  | swap x y l =>
    intro G S
    obtain ⟨F, G1, h1, h2, h3, h4, h5⟩ := S.inv
    obtain ⟨F2, G2, k1, k2, k3, k4, k5⟩ := h4.inv
    refine ⟨_, .cons k1 k2 (fun i hi hg => ?_) (.cons h1 h2 (fun i hi hg => h3 i hi ((k5 i).2 (.inr hg))) k4), fun i => ?_⟩
    · rcases hg with hg | hg
      · exact h3 i hg ((k5 i).2 (.inl hi))
      · exact k3 i hi hg
    · rw [h5, k5]
      exact ⟨fun hh => by rcases hh with a | a | a; exact .inr (.inl a); exact .inl a; exact .inr (.inr a), fun hh => by rcases hh with a | a | a; exact .inr (.inl a); exact .inl a; exact .inr (.inr a)⟩
  | trans _ _ i1 i2 =>
    intro G S
    obtain ⟨G1, h1, h2⟩ := i1 S
    obtain ⟨G2, h3, h4⟩ := i2 h1
    exact ⟨G2, h3, fun i => (h4 i).trans (h2 i)⟩
theorem SepM.perm {M : Nat → Prop} {n : Nat} {hb h : AH} {Rs Rs' : List Res} (S : SepM M n hb h Rs) (hp : Rs.Perm Rs') : SepM M n hb h Rs' := by
  obtain ⟨G, hG⟩ := S.ex
  obtain ⟨G', h1, _⟩ := SepL.perm hp hG
  exact ⟨S.le, S.nl, G', h1⟩
/-- slots told -/
def withT : List (Nat × Value) → (Nat → Value) → Nat → Value
  | [], t => t
  | (k, v) :: l, t => upd (withT l t) k v
theorem withT_eq : ∀ (l : List (Nat × Value)) (t : Nat → Value), (∀ p ∈ l, t p.1 = p.2) → withT l t = t
  | [], t, _ => rfl
  | (k, v) :: l, t, h => by
    unfold withT
    rw [withT_eq l t fun p hp => h p (List.mem_cons_of_mem _ hp)]
    funext i
    unfold upd
    cases e : Nat.beq i k with
    | true => have := Nat.eq_of_beq_eq_true e; subst this; exact (h (i, v) List.mem_cons_self).symm
    | false => rfl
theorem upd_ne {t : Nat → Value} {d i : Nat} {v : Value} (h : i ≠ d) : upd t d v i = t i := by
  unfold upd
  rw [show Nat.beq i d = false by rw [← Bool.not_eq_true]; exact fun e => h (Nat.eq_of_beq_eq_true e)]
def updN (b : Nat → Nat) (k bN : Nat) : Nat → Nat := fun i => match Nat.beq i k with | true => bN | false => b i
theorem updN_ne {b : Nat → Nat} {k i bN : Nat} (h : i ≠ k) : updN b k bN i = b i := by
  unfold updN
  rw [show Nat.beq i k = false by rw [← Bool.not_eq_true]; exact fun e => h (Nat.eq_of_beq_eq_true e)]
/-- the operations that lay a place -/
def KS : List Nat := [0, 3, 6, 7, 8, 9]
def slotR : Nat → Nat
  | 0 => 20
  | 3 => 23
  | 6 => 26
  | k => k
def valR (T : Nat) (b : Nat → Nat) : Nat → Value
  | 0 => .map (some (b 0))
  | 3 => .slice (some ⟨b 3, 0, none⟩) (T + 1) 1
  | 6 => .slice (some ⟨b 6, 0, none⟩) (T + 1) 1
  | k => .pointer (some ⟨b k, 0, none⟩)
def partR (T : Nat) (b : Nat → Nat) (l10 l11 l12 : Bool) : Nat → Res
  | 0 => .bx (b 0) (encM []) 0 []
  | 3 => .bx (b 3) 2 1 ((tab (T + 1) fun _ => 0).map (.int .i64))
  | 6 => .bx (b 6) 27 1 ((List.range (T + 1)).map (slc (fun _ => none) (kk 0 0) fun _ => 0))
  | 7 => .bx (b 7) 77 1 [match l10 with | true => .map (some (b 0)) | false => .map none]
  | 8 => .bx (b 8) 27 1 [match l11 with | true => .slice (some ⟨b 3, 0, none⟩) (T + 1) 1 | false => .slice none 0 0]
  | k => .bx (b k) 22 1 [match l12 with | true => .slice (some ⟨b 6, 0, none⟩) (T + 1) 1 | false => .slice none 0 0]
/-- what is known when the operations of L have been done -/
structure InvR (n : Nat) (hb : AH) (T : Nat) (Bs : List Res) (v2 v3 v4 : Value) (L : Nat → Bool) (t : Nat → Value) (h : AH) : Prop where
  f2 : t 2 = v2
  f3 : t 3 = v3
  f4 : t 4 = v4
  f6 : t 6 = .int .i64 T
  q1 : L 1 = true → t 21 = .int .i64 T
  q2 : L 2 = true → t 22 = .int .i64 ((T + 1 : Nat) : Int)
  q4 : L 4 = true → t 24 = .int .i64 T
  q5 : L 5 = true → t 25 = .int .i64 ((T + 1 : Nat) : Int)
  w10 : L 10 = true → L 0 = true ∧ L 7 = true
  w11 : L 11 = true → L 3 = true ∧ L 8 = true
  w12 : L 12 = true → L 6 = true ∧ L 9 = true
  ex : ∃ (b : Nat → Nat) (o : List Nat), (∀ k, k ∈ KS → L k = true → t (slotR k) = valR T b k) ∧ o.Nodup ∧ (∀ k, k ∈ o ↔ k ∈ KS ∧ L k = true) ∧ Sep n hb h (o.map (partR T b (L 10) (L 11) (L 12)) ++ Bs)
theorem KS_cases {k : Nat} (h : k ∈ KS) : k = 0 ∨ k = 3 ∨ k = 6 ∨ k = 7 ∨ k = 8 ∨ k = 9 := by simpa [KS] using h
theorem beq_ne {a b : Nat} (h : a ≠ b) : Nat.beq a b = false := by rw [← Bool.not_eq_true]; exact fun e => h (Nat.eq_of_beq_eq_true e)
section
variable {n : Nat} {hb : AH} {T : Nat} {Bs : List Res} {v2 v3 v4 : Value} {L : Nat → Bool} {t : Nat → Value} {h : AH}
/-- a quiet operation -/
theorem InvR.quiet (hi : InvR n hb T Bs v2 v3 v4 L t h) {k d : Nat} {v : Value} (hc : (k = 1 ∧ d = 21 ∧ v = .int .i64 T) ∨ (k = 2 ∧ d = 22 ∧ v = .int .i64 ((T + 1 : Nat) : Int)) ∨ (k = 4 ∧ d = 24 ∧ v = .int .i64 T) ∨ (k = 5 ∧ d = 25 ∧ v = .int .i64 ((T + 1 : Nat) : Int))) :
    InvR n hb T Bs v2 v3 v4 (fun i => Nat.beq i k || L i) (upd t d v) h := by
  obtain ⟨f2, f3, f4, f6, q1, q2, q4, q5, w10, w11, w12, b, o, hs, hn, ho, S⟩ := hi
  have key : k ∉ KS ∧ k < 10 ∧ (d = 21 ∨ d = 22 ∨ d = 24 ∨ d = 25) := by
    rcases hc with ⟨rfl, rfl, _⟩ | ⟨rfl, rfl, _⟩ | ⟨rfl, rfl, _⟩ | ⟨rfl, rfl, _⟩ <;> exact ⟨by decide, by omega, by omega⟩
  obtain ⟨k1, k2, k3⟩ := key
  have hL : ∀ j, j ≠ k → (Nat.beq j k || L j) = L j := fun j hj => by rw [beq_ne hj]; rfl
  have hK : ∀ j, j ∈ KS → (Nat.beq j k || L j) = L j := fun j hj => hL j fun e => k1 (e ▸ hj)
  have y10 : (Nat.beq 10 k || L 10) = true → (Nat.beq 0 k || L 0) = true ∧ (Nat.beq 7 k || L 7) = true := by
    rw [hL 10 (by omega), hK 0 (by decide), hK 7 (by decide)]; exact w10
  have y11 : (Nat.beq 11 k || L 11) = true → (Nat.beq 3 k || L 3) = true ∧ (Nat.beq 8 k || L 8) = true := by
    rw [hL 11 (by omega), hK 3 (by decide), hK 8 (by decide)]; exact w11
  have y12 : (Nat.beq 12 k || L 12) = true → (Nat.beq 6 k || L 6) = true ∧ (Nat.beq 9 k || L 9) = true := by
    rw [hL 12 (by omega), hK 6 (by decide), hK 9 (by decide)]; exact w12
  have ex : ∃ (b : Nat → Nat) (o : List Nat), (∀ j, j ∈ KS → (Nat.beq j k || L j) = true → upd t d v (slotR j) = valR T b j) ∧ o.Nodup ∧ (∀ j, j ∈ o ↔ j ∈ KS ∧ (Nat.beq j k || L j) = true) ∧ Sep n hb h (o.map (partR T b (Nat.beq 10 k || L 10) (Nat.beq 11 k || L 11) (Nat.beq 12 k || L 12)) ++ Bs) := by
    refine ⟨b, o, fun j hj hl => ?_, hn, fun j => ⟨fun hj => ⟨((ho j).1 hj).1, by rw [hK j ((ho j).1 hj).1]; exact ((ho j).1 hj).2⟩, fun hj => (ho j).2 ⟨hj.1, by rw [← hK j hj.1]; exact hj.2⟩⟩, ?_⟩
    · rw [upd_ne (by have := KS_cases hj; rcases this with rfl | rfl | rfl | rfl | rfl | rfl <;> simp only [slotR] <;> omega)]
      exact hs j hj (by rw [← hK j hj]; exact hl)
    · rw [hL 10 (by omega), hL 11 (by omega), hL 12 (by omega)]
      exact S
  rcases hc with ⟨rfl, rfl, rfl⟩ | ⟨rfl, rfl, rfl⟩ | ⟨rfl, rfl, rfl⟩ | ⟨rfl, rfl, rfl⟩
  · exact ⟨f2, f3, f4, f6, fun _ => rfl, fun e => q2 e, fun e => q4 e, fun e => q5 e, y10, y11, y12, ex⟩
  · exact ⟨f2, f3, f4, f6, fun e => q1 e, fun _ => rfl, fun e => q4 e, fun e => q5 e, y10, y11, y12, ex⟩
  · exact ⟨f2, f3, f4, f6, fun e => q1 e, fun e => q2 e, fun _ => rfl, fun e => q5 e, y10, y11, y12, ex⟩
  · exact ⟨f2, f3, f4, f6, fun e => q1 e, fun e => q2 e, fun e => q4 e, fun _ => rfl, y10, y11, y12, ex⟩
theorem partR_ne {T : Nat} {b : Nat → Nat} {l10 l11 l12 : Bool} {k j bN : Nat} (h : j ≠ k) (h0 : k = 0 → l10 = false) (h3 : k = 3 → l11 = false) (h6 : k = 6 → l12 = false) : partR T (updN b k bN) l10 l11 l12 j = partR T b l10 l11 l12 j := by
  unfold partR
  split
  · rw [updN_ne h]
  · rw [updN_ne h]
  · rw [updN_ne h]
  · rw [updN_ne h]
    by_cases e : k = 0
    · rw [h0 e]
    · rw [updN_ne (fun q => e q.symm)]
  · rw [updN_ne h]
    by_cases e : k = 3
    · rw [h3 e]
    · rw [updN_ne (fun q => e q.symm)]
  · rw [updN_ne h]
    by_cases e : k = 6
    · rw [h6 e]
    · rw [updN_ne (fun q => e q.symm)]
theorem valR_ne {T : Nat} {b : Nat → Nat} {k j bN : Nat} (h : j ≠ k) : valR T (updN b k bN) j = valR T b j := by
  unfold valR
  split <;> simp only [updN_ne h]
/-- an operation that lays a place -/
theorem InvR.lay (hi : InvR n hb T Bs v2 v3 v4 L t h) {k : Nat} (hk : k ∈ KS) (hl : L k = false) {b : Nat → Nat} (hs : ∀ k, k ∈ KS → L k = true → t (slotR k) = valR T b k) {o : List Nat} (hn : o.Nodup) (ho : ∀ k, k ∈ o ↔ k ∈ KS ∧ L k = true) {g : AH} {bN : Nat}
    (S : Sep n hb g (partR T (updN b k bN) false false false k :: (o.map (partR T b (L 10) (L 11) (L 12)) ++ Bs))) : InvR n hb T Bs v2 v3 v4 (fun i => Nat.beq i k || L i) (upd t (slotR k) (valR T (updN b k bN) k)) g := by
  obtain ⟨f2, f3, f4, f6, q1, q2, q4, q5, w10, w11, w12, _⟩ := hi
  have hko : k ∉ o := fun hh => by have := ((ho k).1 hh).2; rw [hl] at this; cases this
  have hK := KS_cases hk
  have hL : ∀ j, j ≠ k → (Nat.beq j k || L j) = L j := fun j hj => by rw [beq_ne hj]; rfl
  have hT : (Nat.beq k k || L k) = true := by rw [show Nat.beq k k = true from Nat.beq_refl k]; rfl
  have hor : ∀ j, L j = true → (Nat.beq j k || L j) = true := fun j e => by rw [e]; exact Bool.or_true _
  have hsl : slotR k = 20 ∨ slotR k = 23 ∨ slotR k = 26 ∨ slotR k = 7 ∨ slotR k = 8 ∨ slotR k = 9 := by
    rcases hK with rfl | rfl | rfl | rfl | rfl | rfl <;> simp [slotR]
  have hinj : ∀ j, j ∈ KS → j ≠ k → slotR j ≠ slotR k := fun j hj hne => by
    have := KS_cases hj
    rcases hK with rfl | rfl | rfl | rfl | rfl | rfl <;> rcases this with rfl | rfl | rfl | rfl | rfl | rfl <;> first | exact absurd rfl hne | (simp [slotR])
  have n10 : k = 0 ∨ k = 7 → L 10 = false := fun hh => by
    cases e : L 10 with
    | false => rfl
    | true => obtain ⟨a, c⟩ := w10 e; rcases hh with rfl | rfl; rw [hl] at a; cases a; rw [hl] at c; cases c
  have n11 : k = 3 ∨ k = 8 → L 11 = false := fun hh => by
    cases e : L 11 with
    | false => rfl
    | true => obtain ⟨a, c⟩ := w11 e; rcases hh with rfl | rfl; rw [hl] at a; cases a; rw [hl] at c; cases c
  have n12 : k = 6 ∨ k = 9 → L 12 = false := fun hh => by
    cases e : L 12 with
    | false => rfl
    | true => obtain ⟨a, c⟩ := w12 e; rcases hh with rfl | rfl; rw [hl] at a; cases a; rw [hl] at c; cases c
  have hp : partR T (updN b k bN) false false false k = partR T (updN b k bN) (L 10) (L 11) (L 12) k := by
    rcases hK with rfl | rfl | rfl | rfl | rfl | rfl
    · rfl
    · rfl
    · rfl
    · rw [n10 (.inr rfl)]; rfl
    · rw [n11 (.inr rfl)]; rfl
    · rw [n12 (.inr rfl)]; rfl
  refine ⟨by rw [upd_ne (by omega)]; exact f2, by rw [upd_ne (by omega)]; exact f3, by rw [upd_ne (by omega)]; exact f4, by rw [upd_ne (by omega)]; exact f6, fun e => ?_, fun e => ?_, fun e => ?_, fun e => ?_, fun e => ?_, fun e => ?_, fun e => ?_, updN b k bN, k :: o, fun j hj e => ?_, List.nodup_cons.2 ⟨hko, hn⟩, fun j => ?_, ?_⟩
  · rw [hL 1 (by omega)] at e; rw [upd_ne (by omega)]; exact q1 e
  · rw [hL 2 (by omega)] at e; rw [upd_ne (by omega)]; exact q2 e
  · rw [hL 4 (by omega)] at e; rw [upd_ne (by omega)]; exact q4 e
  · rw [hL 5 (by omega)] at e; rw [upd_ne (by omega)]; exact q5 e
  · rw [hL 10 (by omega)] at e; exact ⟨hor _ (w10 e).1, hor _ (w10 e).2⟩
  · rw [hL 11 (by omega)] at e; exact ⟨hor _ (w11 e).1, hor _ (w11 e).2⟩
  · rw [hL 12 (by omega)] at e; exact ⟨hor _ (w12 e).1, hor _ (w12 e).2⟩
  · by_cases hjk : j = k
    · subst hjk
      unfold upd
      rw [show Nat.beq (slotR j) (slotR j) = true from Nat.beq_refl _]
    · rw [hL j hjk] at e
      rw [upd_ne (hinj j hj hjk), valR_ne hjk]
      exact hs j hj e
  · rw [List.mem_cons]
    by_cases hjk : j = k
    · subst hjk
      exact ⟨fun _ => ⟨hk, hT⟩, fun _ => .inl rfl⟩
    · rw [hL j hjk]
      exact ⟨fun hh => (ho j).1 (hh.resolve_left hjk), fun hh => .inr ((ho j).2 hh)⟩
  · rw [hL 10 (by omega), hL 11 (by omega), hL 12 (by omega)]
    have e : o.map (partR T (updN b k bN) (L 10) (L 11) (L 12)) = o.map (partR T b (L 10) (L 11) (L 12)) := List.map_congr_left fun j hj => partR_ne (fun e => hko (e ▸ hj)) (fun e => n10 (.inl e)) (fun e => n11 (.inl e)) fun e => n12 (.inl e)
    rw [List.map_cons, List.cons_append, e, ← hp]
    exact S
/-- one place up front -/
theorem InvR.front {b : Nat → Nat} {l10 l11 l12 : Bool} {o : List Nat} {j : Nat} (hj : j ∈ o) (S : Sep n hb h (o.map (partR T b l10 l11 l12) ++ Bs)) : Sep n hb h (partR T b l10 l11 l12 j :: ((o.erase j).map (partR T b l10 l11 l12) ++ Bs)) :=
  S.perm (((List.perm_cons_erase hj).map (partR T b l10 l11 l12)).append_right Bs)
/-- a store -/
theorem InvR.stored (hi : InvR n hb T Bs v2 v3 v4 L t h) {k i j : Nat} (hk : (k = 10 ∧ i = 0 ∧ j = 7) ∨ (k = 11 ∧ i = 3 ∧ j = 8) ∨ (k = 12 ∧ i = 6 ∧ j = 9)) (hwi : L i = true) (hwj : L j = true) {b : Nat → Nat} (hs : ∀ k, k ∈ KS → L k = true → t (slotR k) = valR T b k) {o : List Nat} (hn : o.Nodup) (ho : ∀ k, k ∈ o ↔ k ∈ KS ∧ L k = true) {g : AH}
    (S : Sep n hb g (partR T b (Nat.beq 10 k || L 10) (Nat.beq 11 k || L 11) (Nat.beq 12 k || L 12) j :: ((o.erase j).map (partR T b (L 10) (L 11) (L 12)) ++ Bs))) : InvR n hb T Bs v2 v3 v4 (fun i => Nat.beq i k || L i) t g := by
  obtain ⟨f2, f3, f4, f6, q1, q2, q4, q5, w10, w11, w12, _⟩ := hi
  have hk2 : 10 ≤ k ∧ k ≤ 12 ∧ j + 3 = k := by omega
  have hL : ∀ j, j ≠ k → (Nat.beq j k || L j) = L j := fun j hj => by rw [beq_ne hj]; rfl
  have hK : ∀ j, j ∈ KS → (Nat.beq j k || L j) = L j := fun j hj => hL j (by have := KS_cases hj; omega)
  have hjK : j ∈ KS := by rcases hk with ⟨_, _, rfl⟩ | ⟨_, _, rfl⟩ | ⟨_, _, rfl⟩ <;> decide
  have hjo : j ∈ o := (ho j).2 ⟨hjK, hwj⟩
  have hmem : ∀ k, k ∈ j :: o.erase j ↔ k ∈ o := fun k => (List.perm_cons_erase hjo).mem_iff.symm
  refine ⟨f2, f3, f4, f6, fun e => ?_, fun e => ?_, fun e => ?_, fun e => ?_, fun e => ?_, fun e => ?_, fun e => ?_, b, j :: o.erase j, fun j' hj' e => hs j' hj' (by rw [← hK j' hj']; exact e), (List.perm_cons_erase hjo).nodup_iff.1 hn, fun j' => ?_, ?_⟩
  · rw [hL 1 (by omega)] at e; exact q1 e
  · rw [hL 2 (by omega)] at e; exact q2 e
  · rw [hL 4 (by omega)] at e; exact q4 e
  · rw [hL 5 (by omega)] at e; exact q5 e
  · rw [hK 0 (by decide), hK 7 (by decide)]
    by_cases h10 : k = 10
    · rcases hk with ⟨_, rfl, rfl⟩ | ⟨rfl, _⟩ | ⟨rfl, _⟩
      · exact ⟨hwi, hwj⟩
      · omega
      · omega
    · rw [hL 10 (by omega)] at e; exact w10 e
  · rw [hK 3 (by decide), hK 8 (by decide)]
    by_cases h10 : k = 11
    · rcases hk with ⟨rfl, _⟩ | ⟨_, rfl, rfl⟩ | ⟨rfl, _⟩
      · omega
      · exact ⟨hwi, hwj⟩
      · omega
    · rw [hL 11 (by omega)] at e; exact w11 e
  · rw [hK 6 (by decide), hK 9 (by decide)]
    by_cases h10 : k = 12
    · rcases hk with ⟨rfl, _⟩ | ⟨rfl, _⟩ | ⟨_, rfl, rfl⟩
      · omega
      · omega
      · exact ⟨hwi, hwj⟩
    · rw [hL 12 (by omega)] at e; exact w12 e
  · rw [hmem, ho]
    constructor
    · rintro ⟨a, c⟩; exact ⟨a, by rw [hK j' a]; exact c⟩
    · rintro ⟨a, c⟩; exact ⟨a, by rw [← hK j' a]; exact c⟩
  · have e : (o.erase j).map (partR T b (Nat.beq 10 k || L 10) (Nat.beq 11 k || L 11) (Nat.beq 12 k || L 12)) = (o.erase j).map (partR T b (L 10) (L 11) (L 12)) := List.map_congr_left fun i' hi' => by
      have hne : i' ≠ j := fun e => by subst e; exact (List.Nodup.not_mem_erase hn) hi'
      have hik : i' ∈ KS := ((ho i').1 (List.mem_of_mem_erase hi')).1
      rcases KS_cases hik with rfl | rfl | rfl | rfl | rfl | rfl
      · rfl
      · rfl
      · rfl
      · rw [hL 10 (by omega)]; rfl
      · rw [hL 11 (by omega)]; rfl
      · rw [hL 12 (by omega)]; rfl
    rw [List.map_cons, List.cons_append, e]
    exact S
/-- all has been done -/
theorem InvR.all {b : Nat → Nat} {l10 l11 l12 : Bool} (ha : ∀ k, k ∈ KS → L k = true) {o : List Nat} (hn : o.Nodup) (ho : ∀ k, k ∈ o ↔ k ∈ KS ∧ L k = true) (S : Sep n hb h (o.map (partR T b l10 l11 l12) ++ Bs)) : Sep n hb h ([partR T b l10 l11 l12 8, partR T b l10 l11 l12 3, partR T b l10 l11 l12 7, partR T b l10 l11 l12 0, partR T b l10 l11 l12 9, partR T b l10 l11 l12 6] ++ Bs) := by
  have hm : ∀ k, k ∈ [8, 3, 7, 0, 9, 6] ↔ k ∈ KS := fun k => by
    unfold KS
    simp only [List.mem_cons, List.not_mem_nil, or_false]
    omega
  have hp : o.Perm [8, 3, 7, 0, 9, 6] := (List.perm_ext_iff_of_nodup hn (by decide)).2 fun k => by
    rw [ho, hm]
    exact ⟨fun hh => hh.1, fun hh => ⟨hh, ha k hh⟩⟩
  exact S.perm ((hp.map (partR T b l10 l11 l12)).append_right Bs)
theorem InvR.congr {L' : Nat → Bool} (hi : InvR n hb T Bs v2 v3 v4 L t h) (e : ∀ k, k < 13 → L k = L' k) : InvR n hb T Bs v2 v3 v4 L' t h := by
  obtain ⟨f2, f3, f4, f6, q1, q2, q4, q5, w10, w11, w12, b, o, hs, hn, ho, S⟩ := hi
  have hK : ∀ j, j ∈ KS → L j = L' j := fun j hj => e j (by have := KS_cases hj; omega)
  refine ⟨f2, f3, f4, f6, fun z => q1 (by rw [e 1 (by omega)]; exact z), fun z => q2 (by rw [e 2 (by omega)]; exact z), fun z => q4 (by rw [e 4 (by omega)]; exact z), fun z => q5 (by rw [e 5 (by omega)]; exact z), ?_, ?_, ?_, b, o, fun j hj z => hs j hj (by rw [hK j hj]; exact z), hn, fun j => ⟨fun hj => ⟨((ho j).1 hj).1, by rw [← hK j ((ho j).1 hj).1]; exact ((ho j).1 hj).2⟩, fun hj => (ho j).2 ⟨hj.1, by rw [hK j hj.1]; exact hj.2⟩⟩, ?_⟩
  · rw [← e 10 (by omega), ← e 0 (by omega), ← e 7 (by omega)]; exact w10
  · rw [← e 11 (by omega), ← e 3 (by omega), ← e 8 (by omega)]; exact w11
  · rw [← e 12 (by omega), ← e 6 (by omega), ← e 9 (by omega)]; exact w12
  · rw [← e 10 (by omega), ← e 11 (by omega), ← e 12 (by omega)]; exact S
end
end Go.Gl

/- Plain texts: cutting a text at a byte, and putting it together. No condition. -/
import Derived.Lib.SplitLaws
import Derived.Lib.Join
set_option linter.unusedVariables false
namespace Go.Pl

/-- the pieces of a text between the bytes c: those that are done, the one that is being read, and the rest -/
def splitA (c : UInt8) : List (List UInt8) → List UInt8 → List UInt8 → List (List UInt8)
  | done, cur, [] => done ++ [cur]
  | done, cur, b :: l => if b = c then splitA c (done ++ [cur]) [] l else splitA c done (cur ++ [b]) l
def splitC (c : UInt8) (l : List UInt8) : List (List UInt8) := splitA c [] [] l
theorem splitA_done (c : UInt8) : ∀ (l cur : List UInt8) (done : List (List UInt8)), splitA c done cur l = done ++ splitA c [] cur l
  | [], cur, done => by simp [splitA]
  | b :: l, cur, done => by
    unfold splitA
    split
    · rw [splitA_done c l [] (done ++ [cur]), splitA_done c l [] ([] ++ [cur])]; simp
    · exact splitA_done c l (cur ++ [b]) done
theorem splitA_miss (c : UInt8) : ∀ (l cur : List UInt8), c ∉ l → splitA c [] cur l = [cur ++ l]
  | [], cur, _ => by simp [splitA]
  | b :: l, cur, h => by
    have h1 : ¬ b = c := fun e => h (by rw [e]; exact List.mem_cons_self)
    unfold splitA
    rw [if_neg h1, splitA_miss c l _ (fun hm => h (List.mem_cons_of_mem _ hm))]
    simp
theorem splitA_hit (c : UInt8) (r : List UInt8) : ∀ (a cur : List UInt8), c ∉ a → splitA c [] cur (a ++ c :: r) = (cur ++ a) :: splitC c r
  | [], cur, _ => by
    rw [List.nil_append, splitA, if_pos rfl, splitA_done]
    simp [splitC]
  | b :: a, cur, h => by
    have h1 : ¬ b = c := fun e => h (by rw [e]; exact List.mem_cons_self)
    rw [List.cons_append, splitA, if_neg h1, splitA_hit c r a _ (fun hm => h (List.mem_cons_of_mem _ hm))]
    simp
theorem splitC_miss {c : UInt8} {l : List UInt8} (h : c ∉ l) : splitC c l = [l] := by unfold splitC; rw [splitA_miss c l [] h]; rfl
theorem splitC_hit {c : UInt8} {a r : List UInt8} (h : c ∉ a) : splitC c (a ++ c :: r) = a :: splitC c r := by unfold splitC; rw [splitA_hit c r a [] h]; rfl
/-- either there is none, or a first one -/
theorem first_c (c : UInt8) : ∀ l : List UInt8, c ∉ l ∨ ∃ a r, l = a ++ c :: r ∧ c ∉ a
  | [] => .inl (by simp)
  | b :: l => by
    by_cases hb : b = c
    · exact .inr ⟨[], l, by rw [hb]; rfl, by simp⟩
    · rcases first_c c l with h | ⟨a, r, h1, h2⟩
      · exact .inl (by simp [Ne.symm hb, h])
      · exact .inr ⟨b :: a, r, by rw [h1]; rfl, by simp [Ne.symm hb, h2]⟩
theorem splitC_ne (c : UInt8) (l : List UInt8) : splitC c l ≠ [] := by
  rcases first_c c l with h | ⟨a, r, rfl, h⟩
  · rw [splitC_miss h]; simp
  · rw [splitC_hit h]; simp
theorem join_two (c : UInt8) (x : List UInt8) {ws : List (List UInt8)} (h : ws ≠ []) : Lib.join (x :: ws) [c] = x ++ c :: Lib.join ws [c] := by
  cases ws with
  | nil => exact absurd rfl h
  | cons y r => rw [Lib.join_cons, Lib.join_cons]; simp [Lib.joinTail]
theorem splitC_join (c : UInt8) : ∀ (n : Nat) (l : List UInt8), l.length ≤ n → Lib.join (splitC c l) [c] = l ∧ ∀ w ∈ splitC c l, c ∉ w
  | n, l, hn => by
    rcases first_c c l with h | ⟨a, r, rfl, h⟩
    · rw [splitC_miss h]
      exact ⟨Lib.join_one _ _, by simpa using h⟩
    · cases n with
      | zero => simp at hn
      | succ n =>
        obtain ⟨h1, h2⟩ := splitC_join c n r (by simp at hn; omega)
        rw [splitC_hit h]
        refine ⟨by rw [join_two c a (splitC_ne c r), h1], fun w hw => ?_⟩
        rcases List.mem_cons.1 hw with rfl | hw
        · exact h
        · exact h2 w hw
theorem splitC_of (c : UInt8) : ∀ ws : List (List UInt8), ws ≠ [] → (∀ w ∈ ws, c ∉ w) → splitC c (Lib.join ws [c]) = ws
  | [], h, _ => absurd rfl h
  | [w], _, h => by rw [Lib.join_one, splitC_miss (h w (by simp))]
  | w :: v :: r, _, h => by
    rw [join_two c w (by simp), splitC_hit (h w (by simp)), splitC_of c (v :: r) (by simp) fun x hx => h x (List.mem_cons_of_mem _ hx)]
/-! ### the library's own words -/
theorem index_miss {c : UInt8} : ∀ {l : List UInt8}, c ∉ l → Lib.index l [c] = -1
  | [], _ => rfl
  | b :: l, h => by
    have h1 : ¬ c = b := fun e => h (by rw [e]; exact List.mem_cons_self)
    have h2 := index_miss (c := c) (l := l) (fun hm => h (List.mem_cons_of_mem _ hm))
    unfold Lib.index
    simp [List.isPrefixOf, h1, h2]
theorem index_hit {c : UInt8} {r : List UInt8} : ∀ {a : List UInt8}, c ∉ a → Lib.index (a ++ c :: r) [c] = a.length
  | [], _ => by simp [Lib.index, List.isPrefixOf]
  | b :: a, h => by
    have h1 : ¬ c = b := fun e => h (by rw [e]; exact List.mem_cons_self)
    have h2 := index_hit (c := c) (r := r) (a := a) (fun hm => h (List.mem_cons_of_mem _ hm))
    rw [List.cons_append, Lib.index]
    simp [List.isPrefixOf, h1, h2]
theorem cut_miss {c : UInt8} {l : List UInt8} (h : c ∉ l) : Lib.cut l [c] = (l, [], false) := by unfold Lib.cut; rw [index_miss h]; rfl
theorem cut_hit {c : UInt8} {a r : List UInt8} (h : c ∉ a) : Lib.cut (a ++ c :: r) [c] = (a, r, true) := by
  unfold Lib.cut
  rw [index_hit h, if_pos (by omega)]
  simp
theorem splitK_eq (c : UInt8) : ∀ (n : Nat) (l : List UInt8), l.length ≤ n → Lib.splitK [c] 0 (Lib.count l [c]) l = splitC c l
  | n, l, hn => by
    rcases first_c c l with h | ⟨a, r, rfl, h⟩
    · rw [Lib.count_miss (index_miss h), splitC_miss h]; rfl
    · cases n with
      | zero => simp at hn
      | succ n =>
        have hd : (a ++ c :: r).drop (a.length + 1) = r := by simp
        have hc : Lib.count (a ++ c :: r) [c] = Lib.count r [c] + 1 := by
          rw [Lib.count_hit (by simp) (index_hit h)]
          show 1 + Lib.count ((a ++ c :: r).drop (a.length + 1)) [c] = _
          rw [hd]; omega
        have hm : ¬ (((a.length : Int)) == -1) = true := fun e => by have := beq_iff_eq.1 e; omega
        rw [hc, Lib.splitK, index_hit h, splitC_hit h, if_neg hm]
        show (a ++ c :: r).take (a.length + 0) :: Lib.splitK [c] 0 (Lib.count r [c]) ((a ++ c :: r).drop (a.length + 1)) = _
        rw [hd, splitK_eq c n r (by simp at hn; omega)]
        simp
end Go.Pl

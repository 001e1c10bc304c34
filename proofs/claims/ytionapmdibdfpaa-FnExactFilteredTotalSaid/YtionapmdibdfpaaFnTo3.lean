/- Chapter 3: totals, the numbers of the maps, one after the other. No condition. -/
import Derived.Test.YtionapmdibdfpaaFnTo2
set_option linter.unusedVariables false
set_option linter.unusedSimpArgs false
namespace Go.Gl
open Go.Proofs Go.Proofs.Ytionapmdibdfpaa Go.Pl

def sideT (c i : Nat) : Nat := if c + 1 = i then 0 else 1
/-- the numbers ahead of number m0 of row k0, across (s0 = 0) or down, of the cell (i0, j0) -/
def dn (i0 j0 s0 k0 m0 : Nat) (n i k c m : Nat) : Bool := decide (i < i0 ∨ i = i0 ∧ (n - i < j0 ∨ n - i = j0 ∧ (sideT c i < s0 ∨ sideT c i = s0 ∧ (k < k0 ∨ k = k0 ∧ m < m0))))
theorem piece_zero {x : SDouble} {n i k c m : Nat} (h1 : c + 1 ≠ i) (h2 : c ≠ i) : ith (pieceT x n i k c) m = 0 := by
  unfold pieceT
  rw [if_neg h1, if_neg h2]
  by_cases h : m < dN x (n - 1) c <;> simp [ith, h]
theorem placeT {x : SDouble} {n i k i' k' : Nat} (hk : k < dN x n i) (hk' : k' < dN x n i') (e : offT x n i + k = offT x n i' + k') : i = i' ∧ k = k' :=
  off_inj (levF x false n) (by rw [levF_len]; exact hk) (by rw [levF_len]; exact hk') e
theorem TellT.same {x : SDouble} {g : Nat → Nat → Nat → Int} {d d' : Nat → Nat → Nat → Nat → Nat → Bool} (h : TellT x g d)
    (hd : ∀ n i k c m, 1 ≤ n → n ≤ topT x → k < dN x n i → c < n → m < dN x (n - 1) c → (c + 1 = i ∨ c = i) → d n i k c m = d' n i k c m) : TellT x g d' := fun n i k c m h1 h2 h3 h4 h5 => by
  rw [h n i k c m h1 h2 h3 h4 h5]
  by_cases hc : c + 1 = i ∨ c = i
  · rw [hd n i k c m h1 h2 h3 h4 h5 hc]
  · rw [piece_zero (fun e => hc (.inl e)) (fun e => hc (.inr e))]
    simp
theorem TellT.step {x : SDouble} {g : Nat → Nat → Nat → Int} {i0 j0 s0 k0 m0 c0 : Nat} {p : Int} (h : TellT x g (dn i0 j0 s0 k0 m0)) (hn : 1 ≤ i0 + j0) (ht : i0 + j0 ≤ topT x) (hk : k0 < dN x (i0 + j0) i0) (hc : c0 < i0 + j0) (hm : m0 < dN x (i0 + j0 - 1) c0)
    (hs : c0 + 1 = i0 ∧ s0 = 0 ∨ c0 = i0 ∧ s0 = 1) (hy : 0 ≤ ith (pieceT x (i0 + j0) i0 k0 c0) m0 ∧ ith (pieceT x (i0 + j0) i0 k0 c0) m0 < p) :
    g (i0 + j0 - 1) (offT x (i0 + j0) i0 + k0) (offT x (i0 + j0 - 1) c0 + m0) = 0 ∧
    TellT x (fun a b c => if a = i0 + j0 - 1 ∧ b = offT x (i0 + j0) i0 + k0 ∧ c = offT x (i0 + j0 - 1) c0 + m0 then (g a b c + ith (pieceT x (i0 + j0) i0 k0 c0) m0) % p else g a b c) (dn i0 j0 s0 k0 (m0 + 1)) := by
  have hsd : sideT c0 i0 = s0 := by unfold sideT; rcases hs with ⟨h1, h2⟩ | ⟨h1, h2⟩; rw [if_pos h1, h2]; rw [if_neg (by omega), h2]
  have h0 : g (i0 + j0 - 1) (offT x (i0 + j0) i0 + k0) (offT x (i0 + j0 - 1) c0 + m0) = 0 := by
    rw [h (i0 + j0) i0 k0 c0 m0 hn ht hk hc hm, if_neg]
    unfold dn
    rw [hsd]
    simp only [decide_eq_true_eq]
    omega
  refine ⟨h0, fun n i k c m h1 h2 h3 h4 h5 => ?_⟩
  show (if n - 1 = i0 + j0 - 1 ∧ offT x n i + k = offT x (i0 + j0) i0 + k0 ∧ offT x (n - 1) c + m = offT x (i0 + j0 - 1) c0 + m0 then (g (n - 1) (offT x n i + k) (offT x (n - 1) c + m) + ith (pieceT x (i0 + j0) i0 k0 c0) m0) % p else g (n - 1) (offT x n i + k) (offT x (n - 1) c + m)) = _
  by_cases hp : n - 1 = i0 + j0 - 1 ∧ offT x n i + k = offT x (i0 + j0) i0 + k0 ∧ offT x (n - 1) c + m = offT x (i0 + j0 - 1) c0 + m0
  · obtain ⟨e1, e2, e3⟩ := hp
    have en : n = i0 + j0 := by omega
    subst en
    obtain ⟨rfl, rfl⟩ := placeT h3 hk e2
    obtain ⟨rfl, rfl⟩ := placeT h5 hm e3
    have hd : dn i j0 s0 k (m + 1) (i + j0) i k c m = true := by
      unfold dn
      rw [hsd]
      exact decide_eq_true (.inr ⟨rfl, .inr ⟨by omega, .inr ⟨rfl, .inr ⟨rfl, by omega⟩⟩⟩⟩)
    rw [if_pos ⟨rfl, rfl, rfl⟩, h0, if_pos hd, Int.zero_add, Int.emod_eq_of_lt hy.1 hy.2]
  · rw [if_neg hp]
    refine TellT.same h (d' := dn i0 j0 s0 k0 m0) (fun _ _ _ _ _ _ _ _ _ _ _ => rfl) n i k c m h1 h2 h3 h4 h5 |>.trans ?_
    by_cases hcc : c + 1 = i ∨ c = i
    · have e : dn i0 j0 s0 k0 m0 n i k c m = dn i0 j0 s0 k0 (m0 + 1) n i k c m := by
        unfold dn
        refine decide_eq_decide.2 ?_
        by_cases q : i = i0 ∧ n - i = j0 ∧ sideT c i = s0 ∧ k = k0 ∧ m = m0
        · exfalso
          obtain ⟨q1, q2, q3, q4, q5⟩ := q
          have hi := dN_pos h3
          have qn : n = i0 + j0 := by omega
          have qc : c = c0 := by
            unfold sideT at q3
            rcases hs with ⟨a1, a2⟩ | ⟨a1, a2⟩ <;> rcases hcc with hcc | hcc <;> split at q3 <;> omega
          subst qn q1 q4 q5 qc
          exact hp ⟨rfl, rfl, rfl⟩
        · omega
      rw [e]
    · rw [piece_zero (fun e => hcc (.inl e)) (fun e => hcc (.inr e))]
      simp
end Go.Gl

/- Lists of Torsion: the law's helpers. No condition. -/
import Derived.Test.YtbjohihngoghlaaFnT3
set_option linter.unusedVariables false
set_option linter.unusedSimpArgs false
namespace Go.Gl
open Go.Proofs Go.Proofs.Ytbjohihngoghlaa Go.Pl

def offN (xs : List STor) : Nat → Nat
  | 0 => 0
  | i + 1 => offN xs i + 1 + (tor xs i).parts.length
def cnT (xs : List STor) : Nat := offN xs xs.length
theorem offN_mono (xs : List STor) {i j : Nat} (h : i ≤ j) : offN xs i ≤ offN xs j := by
  induction j with
  | zero => have : i = 0 := by omega
            subst this; exact Nat.le_refl _
  | succ j ih =>
    rcases Nat.lt_or_ge j i with h1 | h1
    · have : i = j + 1 := by omega
      subst this; exact Nat.le_refl _
    · have := ih h1; simp only [offN]; omega
def numOne (k : Int) (xs : List STor) (t : Nat) : STor := ⟨k + offN xs t, numI (k + offN xs t + 1) (tor xs t).parts⟩
/-- the first i are numbered -/
def numTo (k : Int) (xs : List STor) (i : Nat) : List STor := (List.range xs.length).map fun t => if t < i then numOne k xs t else tor xs t
def numT (k : Int) (xs : List STor) : List STor := numTo k xs xs.length
theorem numTo_length (k : Int) (xs : List STor) (i : Nat) : (numTo k xs i).length = xs.length := by simp [numTo]
theorem numTo_tor {k : Int} {xs : List STor} {i t : Nat} (h : t < xs.length) : tor (numTo k xs i) t = if t < i then numOne k xs t else tor xs t := by simp [numTo, tor, h]
theorem stor_ext {xs ys : List STor} (hl : xs.length = ys.length) (h : ∀ i, i < xs.length → tor xs i = tor ys i) : xs = ys := by
  refine List.ext_getElem? fun i => ?_
  by_cases hi : i < xs.length
  · rw [tor_get hi, tor_get (by omega), h i hi]
  · rw [List.getElem?_eq_none (by omega), List.getElem?_eq_none (by omega)]
theorem numTo_zero (k : Int) (xs : List STor) : numTo k xs 0 = xs := stor_ext (numTo_length _ _ _) fun i hi => by
  rw [numTo_length] at hi
  rw [numTo_tor hi, if_neg (by omega)]
theorem numTo_next {k : Int} {xs : List STor} {i : Nat} (hi : i < xs.length) (t : STor) (ht : t = numOne k xs i) : (numTo k xs i).set i t = numTo k xs (i + 1) := by
  subst ht
  refine stor_ext (by rw [List.length_set, numTo_length, numTo_length]) fun j hj => ?_
  rw [List.length_set, numTo_length] at hj
  rw [tor_set _ (by rw [numTo_length]; exact hi), numTo_tor hj, numTo_tor hj]
  by_cases h1 : j = i
  · subst h1; rw [if_pos rfl, if_pos (by omega)]
  · rw [if_neg h1]
    by_cases h2 : j < i
    · rw [if_pos h2, if_pos (by omega)]
    · rw [if_neg h2, if_neg (by omega)]
theorem TP.store {n : Nat} {h : AH} {b c a : Nat} {cs : List Value} {xs : List STor} {ms : List (List Nat)} (t : TP n h b c cs xs ms) {i : Nat} (hi : i < xs.length) {y : Int} {K : AH → Prop}
    (hK : ∀ h' cs', TP n h' b c cs' (xs.set i ⟨y, (tor xs i).parts⟩) ms → Mk h h' [b] → K h') (ha : a = c + mulE i 2 + 0 := by rfl) : StoreX h b a [.int .i64 y] K := by
  subst ha
  rw [mulE_eq, Nat.add_zero]
  have hsz := t.sz
  refine StoreX.intro t.blk rfl (by simp; omega) fun h' w1 w2 w3 _ => hK h' _ (t.free hi w2 w3) ⟨Nat.le_of_eq w1.symm, fun j bb hj e => by rw [w3 j (by simpa using hj)]; exact e, fun j bb e => ?_⟩
  by_cases hjb : j = b
  · subst hjb
    rw [t.blk] at e; injection e with e
    exact ⟨_, w2, by rw [← e]⟩
  · exact ⟨bb, by rw [w3 j hjb]; exact e, rfl⟩

theorem markT_c (n : Nat) (h : AH) (v : Value) (xs : List STor) (l : List Nat) (k : Int) (hx : OTors n h v xs l) (h0 : 0 ≤ k) (hm : k + cnT xs ≤ 9223372036854775807) : ACalls Try.prog 21 [v, .int .i64 k] h (fun r h' => r = .int .i64 (k + cnT xs) ∧ Mk h h' l ∧ OTors n h' v (numT k xs) l) := by
  by_cases hxs : xs = []
  · subst hxs
    obtain ⟨hmm, hh⟩ := hx
    have hl : ∃ b o, Wk v (.slice (some ⟨b, o, none⟩) 0 0) := by
      rcases hh with ⟨_, _, w⟩ | ⟨b, o, _, _, w, _⟩
      · exact ⟨_, _, w⟩
      · exact ⟨b, o, w⟩
    obtain ⟨b, o, w⟩ := hl
    refine ACalls.wk (args' := [.slice (some ⟨b, o, none⟩) 0 0, .int .i64 k]) ?_ (.cons w (.cons (Wk.refl _) .nil))
    refine ACalls.of Tt.tab Try.func21 rfl (by kernel_rfl) Try.ntmps21 _ rfl rfl (fun hw => ?_)
    refine ⟨⟨[0, 1, 4, 5], fun n vs h' => n = 0 ∧ h' = h ∧ vs = [.slice (some ⟨b, o, none⟩) 0 0, .int .i64 k, .int .i64 0, .int .i64 0], _, ⟨rfl, rfl, rfl⟩, ?_⟩⟩
    rintro n vs h' ⟨rfl, rfl, rfl⟩
    refine BIf.no rfl ?_
    exact FinX.here (Nat.le_refl _) ⟨by simp [cnT, offN], Mk.refl _ _, hmm, hh⟩
  obtain ⟨b, c, cs, ms, w, hb, rfl, t⟩ := hx.cells hxs
  have hlm := hx.1
  refine ACalls.wk (args' := [.slice (some ⟨b, c, none⟩) xs.length 0, .int .i64 k]) ?_ (.cons w (.cons (Wk.refl _) .nil))
  refine ACalls.of Tt.tab Try.func21 rfl (by kernel_rfl) Try.ntmps21 _ rfl rfl (fun hw => ?_)
  refine ⟨⟨[0, 1, 4, 5], fun n' vs g => ∃ (i : Nat) (cs : List Value), n' = xs.length - i ∧ i ≤ xs.length ∧ TP n g b c cs (numTo k xs i) ms ∧ Mk h g (b :: ms.flatten) ∧ vs = [.slice (some ⟨b, c, none⟩) xs.length 0, .int .i64 (k + offN xs i), .int .i64 0, .int .i64 i], _, ⟨0, cs, rfl, Nat.zero_le _, by rw [numTo_zero]; exact t, Mk.refl _ _, by simp [offN]; rfl⟩, ?_⟩⟩
  rintro n' vs g ⟨i, cs, rfl, hi, t, mk, rfl⟩
  refine BIf.mk (fun h2 => ?_) (fun h2 => ?_)
  · have hlt : i < xs.length := by simpa using h2
    have hlt' : i < (numTo k xs i).length := by rw [numTo_length]; exact hlt
    have e1 := offN_mono xs (show i + 1 ≤ xs.length from hlt)
    have e2 : offN xs (i + 1) = offN xs i + 1 + (tor xs i).parts.length := rfl
    unfold cnT at hm
    refine IdxX.mk (by omega) (by omega) ?_
    refine t.store hlt' fun g2 cs2 t2 mk2 => ?_
    have et : tor (numTo k xs i) i = tor xs i := by rw [numTo_tor hlt, if_neg (by omega)]
    rw [et] at t2
    have hlt2 : i < ((numTo k xs i).set i ⟨k + offN xs i, (tor xs i).parts⟩).length := by rw [List.length_set]; exact hlt'
    obtain ⟨u, m, c1, c2, c3, c4⟩ := t2.el i hlt2
    rw [tor_set _ hlt', if_pos rfl] at c1 c4
    obtain ⟨b6, o6, k6, c5⟩ := Leaf.can c4
    refine WR.i64 ?_
    refine IdxX.mk (by omega) (by omega) ?_
    refine LoadX.one t2.blk (by show cs2[_]? = _; rw [mulE_eq]; exact c2) k6 ?_
    refine CallX.same (markI_c n g2 _ (tor xs i).parts m (k + offN xs i + 1) c5 (by omega) (by unfold cnI; omega)) ?_
    rintro r g3 ⟨rfl, mk3, o3⟩
    have t3 := t2.part hlt2 c2 c3 mk3 (Leaf.wk k6 o3)
    rw [tor_set _ hlt', if_pos rfl, List.set_set] at t3
    have t3 : TP n g3 b c cs2 (numTo k xs (i + 1)) ms := by rw [← numTo_next (k := k) hlt (numOne k xs i) rfl]; exact t3
    refine WR.i64 ?_
    refine ⟨xs.length - (i + 1), by omega, i + 1, cs2, rfl, hlt, t3, (mk.trans (k := b :: ms.flatten) mk2 (fun j hj => hj) (fun j hj => by simp at hj; simp [hj])).trans mk3 (fun j hj => hj) (fun j hj => List.mem_cons_of_mem _ (List.mem_flatten.2 ⟨m, List.mem_of_getElem? c3, hj⟩)), ?_⟩
    have e3 : k + offN xs i + 1 + (cnI (tor xs i).parts : Int) = k + (offN xs (i + 1) : Int) := by unfold cnI; omega
    rw [e3]; rfl
  · have hi2 : i = xs.length := by simp at h2; omega
    subst hi2
    have hl := numTo_length k xs xs.length
    exact FinX.here mk.len ⟨rfl, mk, OTors.ofCells (by unfold numT; omega) (by unfold numT; rw [hl]; exact w) hb t⟩

end Go.Gl

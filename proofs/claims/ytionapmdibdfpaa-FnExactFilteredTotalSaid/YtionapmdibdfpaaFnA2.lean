/- Chapter 1: IsComplex and EulerNumber. No condition. -/
import Derived.Test.YtionapmdibdfpaaFnA1
import Derived.Test.YtionapmdibdfpaaPlC
set_option linter.unusedVariables false
set_option linter.unusedSimpArgs false
namespace Go.Gl
open Go.Proofs Go.Proofs.Ytionapmdibdfpaa Go.Pl

/-- a row of rows of rows, read where it was first told -/
theorem CS.mat {h g : AH} {b o : Nat} {xs : List (List (List Int))} (hc : CS RII h b o xs) (hl : Le h g) {i : TI} {k a : Nat} {K : Value → Prop} (hk : k < xs.length)
    (hK : ∀ b' o', RII h (.slice (some ⟨b', o', none⟩) (mat xs k).length 0) (mat xs k) → K (.slice (some ⟨b', o', none⟩) (mat xs k).length 0)) (ha : a = o + k := by rfl) (hi : i.agg = false := by rfl) : LoadX g i b a K := by
  subst ha
  obtain ⟨blk, u, h1, h2, hm, b', o', h3, h4⟩ := hc k xs[k] (List.getElem?_eq_getElem hk)
  rw [mat_get hk] at hm h3 h4
  refine LoadX.one (hl.at_ _ _ h1) ?_ h3 (hK b' o' ⟨hm, b', o', Wk.refl _, h4⟩)
  unfold ldv
  rw [hi]
  exact h2
theorem vecOk_vec {p n : Int} {v : List Int} (h : vecOk p n v = true) : Vec p n.toNat v := by
  simp [vecOk] at h
  exact ⟨by omega, fun x hx => by have := h.2 x hx; omega⟩
theorem rowsOk_mat {p n : Int} {rows : List (List Int)} (h : rowsOk p n rows = true) : Mat p n.toNat rows := fun r hr => vecOk_vec (List.all_eq_true.1 h r hr)
theorem prime_rng {p : Int} (h : prime p = true) : 2 ≤ p ∧ p ≤ 7 := by
  unfold prime at h
  simp at h
  omega


theorem isZero1_c (h : AH) (x : Int) : ACalls Try.prog 78 [.int .i64 x] h (fun r h' => r = .bool (decide (x ≠ 0)) ∧ h' = h) := by
  refine ACalls.of Tt.tab Try.func78 rfl (by kernel_rfl) Try.ntmps78 _ rfl rfl (fun hw => ?_)
  refine FinX.keep hw (Le.refl _) rfl ⟨?_, rfl⟩
  congr 1
  by_cases hx : x = 0
  · subst hx; rfl
  · simp [hx]
theorem isZero_c (h : AH) (v : Value) (xs : List Int) (hx : RI h v xs) : ACalls Try.prog 63 [v] h (fun r h' => r = .bool (zeroV xs) ∧ h' = h) := by
  obtain ⟨b, o, k1, hx⟩ := hx.can
  refine ACalls.wk (args' := [.slice (some ⟨b, o, none⟩) xs.length 0]) ?_ (.cons k1 .nil)
  refine ACalls.of Tt.tab Try.func63 rfl (by kernel_rfl) Try.ntmps63 _ rfl rfl (fun hw => ?_)
  refine CallX.same (containsFuncI_c h _ xs _ _ (fun x => decide (x ≠ 0)) hx (fun x _ u hu => by subst hu; exact isZero1_c _ x)) ?_
  rintro r h3 ⟨rfl, rfl⟩
  exact FinX.keep hw (Le.refl _) rfl ⟨by rw [← zeroV_any], rfl⟩

/-! ### complexes -/
/-- the map of place k has its rows -/
def shapeAt (x : SComplex) (k : Nat) : Bool := decide (((mat x.maps k).length : Int) = ith x.dims (k + 1)) && rowsOk x.prime (ith x.dims k) (mat x.maps k)
/-- the differential of the row i of the map k is 0 -/
def sqRow (x : SComplex) (k i : Nat) : Bool := zeroV (comb x.prime (ith x.dims (k - 1)).toNat (row (mat x.maps k) i) (mat x.maps (k - 1)))
def sqAt (x : SComplex) (k : Nat) : Bool := allN (sqRow x k) (mat x.maps k).length
def headOk (x : SComplex) : Bool := prime x.prime && decide (0 ≤ (x.dims.length : Int) - 1 ∧ (x.dims.length : Int) - 1 ≤ 5) && decide ((x.maps.length : Int) = x.dims.length - 1) && x.dims.all fun n => decide (0 ≤ n ∧ n ≤ 8)
def complexOk (x : SComplex) : Bool := headOk x && allN (shapeAt x) x.maps.length && allN (fun k => decide (k = 0) || sqAt x k) x.maps.length
structure HeadOk (x : SComplex) : Prop where
  p : prime x.prime = true
  lo : 1 ≤ x.dims.length
  hi : x.dims.length ≤ 6
  len : x.maps.length + 1 = x.dims.length
  dims : ∀ i, 0 ≤ ith x.dims i ∧ ith x.dims i ≤ 8
theorem headOk_mk {x : SComplex} (h : headOk x = true) : HeadOk x := by
  simp only [headOk, Bool.and_eq_true, decide_eq_true_eq] at h
  obtain ⟨⟨⟨h1, h2⟩, h3⟩, h4⟩ := h
  refine ⟨h1, by omega, by omega, by omega, fun i => ?_⟩
  by_cases hi : i < x.dims.length
  · simpa using List.all_eq_true.1 h4 _ (ith_mem hi)
  · rw [ith_out (by omega)]; omega
theorem shapeAt_mat {x : SComplex} (hh : HeadOk x) {k : Nat} (h : shapeAt x k = true) : ((mat x.maps k).length : Int) = ith x.dims (k + 1) ∧ Mat x.prime (ith x.dims k).toNat (mat x.maps k) := by
  simp only [shapeAt, Bool.and_eq_true, decide_eq_true_eq] at h
  exact ⟨h.1, rowsOk_mat h.2⟩
theorem sq_pre {x : SComplex} (hh : HeadOk x) {k i : Nat} (h1 : shapeAt x (k + 1) = true) (h0 : shapeAt x k = true) (hi : i < (mat x.maps (k + 1)).length) :
    Rng x.prime (row (mat x.maps (k + 1)) i) ∧ Mat x.prime (ith x.dims k).toNat (mat x.maps k) ∧ (row (mat x.maps (k + 1)) i).length ≤ (mat x.maps k).length := by
  obtain ⟨a1, a2⟩ := shapeAt_mat hh h1
  obtain ⟨b1, b2⟩ := shapeAt_mat hh h0
  have := a2.row hi
  exact ⟨this.2, b2, by rw [this.1]; omega⟩


end Go.Gl

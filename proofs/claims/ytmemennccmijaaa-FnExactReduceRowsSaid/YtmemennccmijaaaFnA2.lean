/- Chapter 1: IsComplex and EulerNumber. No condition. -/
import Derived.Test.YtmemennccmijaaaFnA1
import Derived.Test.YtmemennccmijaaaPlC
set_option linter.unusedVariables false
set_option linter.unusedSimpArgs false
namespace Go.Gl
open Go.Proofs Go.Proofs.Ytmemennccmijaaa Go.Pl

/-- a row of rows of rows, read where it was first told -/
theorem CS.mat {h g : AH} {b o : Nat} {xs : List (List (List Int))} (hc : CS RII h b o xs) (hl : Le h g) {i : TI} {k a : Nat} {K : Value → Prop} (hk : k < xs.length)
    (hK : ∀ b' o', RII h (.slice (some ⟨b', o', none⟩) (mat xs k).length 0) (mat xs k) → K (.slice (some ⟨b', o', none⟩) (mat xs k).length 0)) (ha : a = o + k := by rfl) (hi : i.agg = false := by rfl) : LoadX g i b a K := by
  subst ha
  obtain ⟨blk, u, h1, h2, hm, b', o', h3, h4⟩ := hc k xs[k] (List.getElem?_eq_getElem hk)
  rw [mat_get hk] at hm h3 h4
  refine LoadX.one (hl.at_ _ _ h1) ?_ h3 (hK b' o' ⟨hm, b', o', Wk.refl _, h4⟩)
  unfold ldv
  rw [hi]
  exact h2
theorem vecOk_vec {p n : Int} {v : List Int} (h : vecOk p n v = true) : Vec p n.toNat v := by
  simp [vecOk] at h
  exact ⟨by omega, fun x hx => by have := h.2 x hx; omega⟩
theorem rowsOk_mat {p n : Int} {rows : List (List Int)} (h : rowsOk p n rows = true) : Mat p n.toNat rows := fun r hr => vecOk_vec (List.all_eq_true.1 h r hr)
theorem prime_rng {p : Int} (h : prime p = true) : 2 ≤ p ∧ p ≤ 7 := by
  unfold prime at h
  simp at h
  omega


theorem isZero1_c (h : AH) (x : Int) : ACalls Try.prog 126 [.int .i64 x] h (fun r h' => r = .bool (decide (x ≠ 0)) ∧ h' = h) := by
  refine ACalls.of Tt.tab Try.func126 rfl (by kernel_rfl) Try.ntmps126 _ rfl rfl (fun hw => ?_)
  refine FinX.keep hw (Le.refl _) rfl ⟨?_, rfl⟩
  congr 1
  by_cases hx : x = 0
  · subst hx; rfl
  · simp [hx]
theorem isZero_c (h : AH) (v : Value) (xs : List Int) (hx : RI h v xs) : ACalls Try.prog 73 [v] h (fun r h' => r = .bool (zeroV xs) ∧ h' = h) := by
  obtain ⟨b, o, k1, hx⟩ := hx.can
  refine ACalls.wk (args' := [.slice (some ⟨b, o, none⟩) xs.length 0]) ?_ (.cons k1 .nil)
  refine ACalls.of Tt.tab Try.func73 rfl (by kernel_rfl) Try.ntmps73 _ rfl rfl (fun hw => ?_)
  refine CallX.same (containsFuncI_c h _ xs _ _ (fun x => decide (x ≠ 0)) hx (fun x _ u hu => by subst hu; exact isZero1_c _ x)) ?_
  rintro r h3 ⟨rfl, rfl⟩
  exact FinX.keep hw (Le.refl _) rfl ⟨by rw [← zeroV_any], rfl⟩

/-! ### complexes -/
/-- the map of place k has its rows -/
def shapeAt (x : SComplex) (k : Nat) : Bool := decide (((mat x.maps k).length : Int) = ith x.dims (k + 1)) && rowsOk x.prime (ith x.dims k) (mat x.maps k)
/-- the differential of the row i of the map k is 0 -/
def sqRow (x : SComplex) (k i : Nat) : Bool := zeroV (comb x.prime (ith x.dims (k - 1)).toNat (row (mat x.maps k) i) (mat x.maps (k - 1)))
def sqAt (x : SComplex) (k : Nat) : Bool := allN (sqRow x k) (mat x.maps k).length
def headOk (x : SComplex) : Bool := prime x.prime && decide (0 ≤ (x.dims.length : Int) - 1 ∧ (x.dims.length : Int) - 1 ≤ 5) && decide ((x.maps.length : Int) = x.dims.length - 1) && x.dims.all fun n => decide (0 ≤ n ∧ n ≤ 8)
def complexOk (x : SComplex) : Bool := headOk x && allN (shapeAt x) x.maps.length && allN (fun k => decide (k = 0) || sqAt x k) x.maps.length
structure HeadOk (x : SComplex) : Prop where
  p : prime x.prime = true
  lo : 1 ≤ x.dims.length
  hi : x.dims.length ≤ 6
  len : x.maps.length + 1 = x.dims.length
  dims : ∀ i, 0 ≤ ith x.dims i ∧ ith x.dims i ≤ 8
theorem headOk_mk {x : SComplex} (h : headOk x = true) : HeadOk x := by
  simp only [headOk, Bool.and_eq_true, decide_eq_true_eq] at h
  obtain ⟨⟨⟨h1, h2⟩, h3⟩, h4⟩ := h
  refine ⟨h1, by omega, by omega, by omega, fun i => ?_⟩
  by_cases hi : i < x.dims.length
  · simpa using List.all_eq_true.1 h4 _ (ith_mem hi)
  · rw [ith_out (by omega)]; omega
theorem shapeAt_mat {x : SComplex} (hh : HeadOk x) {k : Nat} (h : shapeAt x k = true) : ((mat x.maps k).length : Int) = ith x.dims (k + 1) ∧ Mat x.prime (ith x.dims k).toNat (mat x.maps k) := by
  simp only [shapeAt, Bool.and_eq_true, decide_eq_true_eq] at h
  exact ⟨h.1, rowsOk_mat h.2⟩
theorem sq_pre {x : SComplex} (hh : HeadOk x) {k i : Nat} (h1 : shapeAt x (k + 1) = true) (h0 : shapeAt x k = true) (hi : i < (mat x.maps (k + 1)).length) :
    Rng x.prime (row (mat x.maps (k + 1)) i) ∧ Mat x.prime (ith x.dims k).toNat (mat x.maps k) ∧ (row (mat x.maps (k + 1)) i).length ≤ (mat x.maps k).length := by
  obtain ⟨a1, a2⟩ := shapeAt_mat hh h1
  obtain ⟨b1, b2⟩ := shapeAt_mat hh h0
  have := a2.row hi
  exact ⟨this.2, b2, by rw [this.1]; omega⟩


theorem top_c (h : AH) (v : Value) (x : SComplex) (hx : RComplex h v x) : ACalls Try.prog 67 [v] h (fun r h' => r = .int .i64 ((x.dims.length : Int) - 1) ∧ h' = h) := by
  obtain ⟨b1, o1, b2, o2, kx, qx⟩ := hx.can
  refine ACalls.wk (args' := [.agg #[.int .i64 x.prime, .slice (some ⟨b1, o1, none⟩) x.dims.length 0, .slice (some ⟨b2, o2, none⟩) x.maps.length 0]]) ?_ (.cons kx .nil)
  refine ACalls.of Tt.tab Try.func67 rfl (by kernel_rfl) Try.ntmps67 _ rfl rfl (fun hw => ?_)
  have S := Sep.start h
  refine S.new fun b g S => ?_
  refine LoadX.same (S.at_ 0 rfl) rfl ?_
  refine CallX.same (sizeI_c _ _ _ _ _) ?_
  rintro r g' ⟨rfl, rfl⟩
  have := qx.1.1
  refine WR.i64 ?_
  exact FinX.keep hw S.le rfl ⟨rfl, rfl⟩

theorem differential_c (h : AH) (v wv : Value) (x : SComplex) (n : Int) (w : List Int) (hx : RComplex h v x) (hw : RI h wv w) (hh : HeadOk x) (hn : 1 ≤ n ∧ n < x.dims.length) (k : Nat) (hk : (k : Int) = n - 1) (bw : Rng x.prime w) (bm : Mat x.prime (ith x.dims k).toNat (mat x.maps k)) (hl : w.length ≤ (mat x.maps k).length) :
    ACalls Try.prog 74 [v, .int .i64 n, wv] h (Made OI h (comb x.prime (ith x.dims k).toNat w (mat x.maps k))) := by
  obtain ⟨b1, o1, b2, o2, kx, qx⟩ := hx.can
  obtain ⟨b3, o3, kw, hw'⟩ := hw.can
  refine ACalls.madeI (ACalls.wk (args' := [.agg #[.int .i64 x.prime, .slice (some ⟨b1, o1, none⟩) x.dims.length 0, .slice (some ⟨b2, o2, none⟩) x.maps.length 0], .int .i64 n, .slice (some ⟨b3, o3, none⟩) w.length 0]) ?_ (.cons kx (.cons (Wk.refl _) (.cons kw .nil))))
  refine ACalls.of Tt.tab Try.func74 rfl (by kernel_rfl) Try.ntmps74 _ rfl rfl (fun hw => ?_)
  have S := Sep.start h
  have hlen := hh.hi
  have c1 := RS.cells qx.1 rfl
  have c2 := RS.cells qx.2 rfl
  refine S.new fun b g S => ?_
  refine BIf.mk (fun h1 => ?_) (fun h1 => ?_)
  · simp at h1; omega
  refine LoadX.same (v := .agg #[.int .i64 x.prime, .slice (some ⟨b1, o1, none⟩) x.dims.length 0, .slice (some ⟨b2, o2, none⟩) x.maps.length 0]) (S.at_ 0 rfl) rfl ?_
  refine CallX.same (top_c _ _ x ⟨_, _, rfl, qx.le S.le⟩) ?_
  rintro r g' ⟨rfl, rfl⟩
  refine BIf.mk (fun h2 => ?_) (fun h2 => ?_)
  · simp at h2; omega
  have hml := hh.len
  refine DrawX.of Tt.tab follows_any [15] [] [0, 1, 2, 3, 4, 5, 6, 7, 8, 9, 10, 11, 12, 13, 14, 15, 16] rfl (by kernel_rfl) (by kernel_rfl) ?_
  refine LoadX.same (v := .int .i64 x.prime) (S.at_ 0 rfl) rfl ?_
  refine LoadX.same (v := .slice (some ⟨b1, o1, none⟩) x.dims.length 0) (S.at_ 0 rfl) rfl ?_
  refine WR.as (r := (k : Int)) (by omega) ?_
  refine IdxX.mk (by omega) (by omega) ?_
  refine c1.ith S.le (show k < x.dims.length by omega) ?_
  refine LoadX.same (v := .slice (some ⟨b2, o2, none⟩) x.maps.length 0) (S.at_ 0 rfl) rfl ?_
  refine WR.as (r := (k : Int)) (by omega) ?_
  refine IdxX.mk (by omega) (by omega) ?_
  refine c2.mat S.le (show k < x.maps.length by omega) fun b4 o4 h4 => ?_
  have hd := hh.dims k
  obtain ⟨nn, hnn⟩ : ∃ m : Nat, ith x.dims k = m := ⟨(ith x.dims k).toNat, by omega⟩
  rw [hnn] at bm ⊢
  refine S.madeL OI.fr (combine_c _ x.prime nn _ _ w (mat x.maps k) (prime_rng hh.p) (by omega) (RI.le _ _ _ _ S.le hw') (RII.le _ _ _ _ S.le h4) bw bm hl) fun b5 o5 g L S => ?_
  refine ⟨L, ?_⟩
  exact S.fin 0 rfl

theorem isComplex1_c (h : AH) (x : Int) : ACalls Try.prog 70 [.int .i64 x] h (fun r h' => r = .bool (!decide (0 ≤ x ∧ x ≤ 8)) ∧ h' = h) := by
  refine ACalls.of Tt.tab Try.func70 rfl (by kernel_rfl) Try.ntmps70 _ rfl rfl (fun hw => ?_)
  refine CallX.same (between_c _ x 0 8) ?_
  rintro r g ⟨rfl, rfl⟩
  exact FinX.keep hw (Le.refl _) rfl ⟨rfl, rfl⟩
theorem sizeIII_c (h : AH) (b o n c : Nat) : ACalls Try.prog 68 [.slice (some ⟨b, o, none⟩) n c] h (fun r h' => r = .int .i64 n ∧ h' = h) := by
  refine ACalls.of Tt.tab Try.func68 rfl (by kernel_rfl) Try.ntmps68 _ rfl rfl (fun hw => ?_)
  exact FinX.keep hw (Le.refl _) rfl ⟨rfl, rfl⟩
theorem isComplexI_c (h : AH) (v : Value) (x : SComplex) (hx : RComplex h v x) : ACalls Try.prog 18 [v] h (fun r h' => r = .bool (complexOk x) ∧ h' = h) := by
  obtain ⟨b1, o1, b2, o2, kx, qx⟩ := hx.can
  refine ACalls.wk (args' := [.agg #[.int .i64 x.prime, .slice (some ⟨b1, o1, none⟩) x.dims.length 0, .slice (some ⟨b2, o2, none⟩) x.maps.length 0]]) ?_ (.cons kx .nil)
  refine ACalls.of Tt.tab Try.func18 rfl (by kernel_rfl) Try.ntmps18 _ rfl rfl (fun hw => ?_)
  have S := Sep.start h
  have c1 := RS.cells qx.1 rfl
  have c2 := RS.cells qx.2 rfl
  refine S.new fun b g S => ?_
  have hb : look g b = some ⟨[.int .i64 x.prime, .slice (some ⟨b1, o1, none⟩) x.dims.length 0, .slice (some ⟨b2, o2, none⟩) x.maps.length 0], some (28, 3)⟩ := S.at_ 0 rfl
  have rx : ∀ g2, Le g g2 → RComplex g2 (.agg #[.int .i64 x.prime, .slice (some ⟨b1, o1, none⟩) x.dims.length 0, .slice (some ⟨b2, o2, none⟩) x.maps.length 0]) x := fun g2 L => ⟨_, _, rfl, qx.le (S.le.trans L)⟩
  have bad : headOk x = false → complexOk x = false := fun hh => by simp [complexOk, hh]
  refine DrawX.of Tt.tab follows_any [] [] [0, 1, 2, 3, 4, 5, 6, 7, 8, 9, 10, 11, 12, 13, 14, 15, 16, 17, 18, 19, 20, 21, 22] rfl (by kernel_rfl) (by kernel_rfl) ?_
  refine LoadX.same (v := .int .i64 x.prime) hb rfl ?_
  refine QCall.of (fun g2 hl => isPrime_c g2 x.prime) rfl ?_
  refine BIf.mk (fun e1 => ?_) (fun e1 => ?_)
  · have e1 : prime x.prime = false := by simpa using e1
    refine BIf.yes rfl (BIf.yes rfl (BIf.yes rfl ?_))
    exact FinX.keep hw S.le rfl ⟨by rw [bad (by simp [headOk, e1])], rfl⟩
  have e1 : prime x.prime = true := by simpa using e1
  refine LoadX.same (v := .agg #[.int .i64 x.prime, .slice (some ⟨b1, o1, none⟩) x.dims.length 0, .slice (some ⟨b2, o2, none⟩) x.maps.length 0]) hb rfl ?_
  refine QCall.of (fun g2 hl => top_c g2 _ x (rx g2 hl)) rfl ?_
  refine QCall.of (fun g2 hl => between_c g2 _ 0 5) rfl ?_
  refine BIf.mk (fun e2 => ?_) (fun e2 => ?_)
  · have e2 : decide (0 ≤ (x.dims.length : Int) - 1 ∧ (x.dims.length : Int) - 1 ≤ 5) = false := by simpa only [Bool.not_eq_true'] using e2
    refine BIf.yes rfl (BIf.yes rfl ?_)
    exact FinX.keep hw S.le rfl ⟨by rw [bad (by simp only [headOk, e2]; simp)], rfl⟩
  have e2 : decide (0 ≤ (x.dims.length : Int) - 1 ∧ (x.dims.length : Int) - 1 ≤ 5) = true := by simpa only [Bool.not_eq_false'] using e2
  refine LoadX.same (v := .slice (some ⟨b2, o2, none⟩) x.maps.length 0) hb rfl ?_
  refine QCall.of (fun g2 hl => sizeIII_c g2 _ _ _ _) rfl ?_
  refine LoadX.same (v := .agg #[.int .i64 x.prime, .slice (some ⟨b1, o1, none⟩) x.dims.length 0, .slice (some ⟨b2, o2, none⟩) x.maps.length 0]) hb rfl ?_
  refine QCall.of (fun g2 hl => top_c g2 _ x (rx g2 hl)) rfl ?_
  refine BIf.mk (fun e3 => ?_) (fun e3 => ?_)
  · have e3 : ¬ (x.maps.length : Int) = x.dims.length - 1 := by simpa using e3
    refine BIf.yes rfl ?_
    exact FinX.keep hw S.le rfl ⟨by rw [bad (by simp only [headOk, decide_eq_false e3]; simp)], rfl⟩
  have e3 : (x.maps.length : Int) = x.dims.length - 1 := by simpa using e3
  refine LoadX.same (v := .slice (some ⟨b1, o1, none⟩) x.dims.length 0) hb rfl ?_
  refine QCall.of (fun g2 hl => containsFuncI_c g2 _ x.dims _ _ (fun n => !decide (0 ≤ n ∧ n ≤ 8)) (RI.le _ _ _ _ (S.le.trans hl) qx.1) (fun n _ u hu => by subst hu; exact isComplex1_c _ n)) rfl ?_
  refine BIf.mk (fun e4 => ?_) (fun e4 => ?_)
  · refine FinX.keep hw S.le rfl ⟨?_, rfl⟩
    rw [bad (by simp only [headOk, List.all_eq_not_any_not, e4]; simp)]
  have hd : headOk x = true := by simp only [headOk, e1, e2, decide_eq_true e3, List.all_eq_not_any_not, e4]; rfl
  have hh := headOk_mk hd
  have hlen := hh.len
  have hhi := hh.hi
  have bad1 : ∀ k, k < x.maps.length → shapeAt x k = false → complexOk x = false := fun k hk hf => by simp [complexOk, allN_false hk hf]
  have bad2 : ∀ k i, k < x.maps.length → 0 < k → i < (mat x.maps k).length → sqRow x k i = false → complexOk x = false := fun k i hk h0 hi hf => by
    have : (fun k => decide (k = 0) || sqAt x k) k = false := by simp [sqAt, allN_false hi hf]; omega
    simp only [complexOk, allN_false (f := fun k => decide (k = 0) || sqAt x k) hk this, Bool.and_false]
  refine LoadX.same (v := .slice (some ⟨b2, o2, none⟩) x.maps.length 0) hb rfl ?_
  refine ⟨⟨[1, 32, 33, 34], fun n' vs g2 => ∃ k : Nat, n' = x.maps.length - k ∧ k ≤ x.maps.length ∧ Le g g2 ∧ allN (shapeAt x) k = true ∧ vs = [.pointer (some ⟨b, 0, none⟩), .slice (some ⟨b2, o2, none⟩) x.maps.length 0, .int .i64 x.maps.length, .int .i64 k], _, ⟨0, rfl, Nat.zero_le _, Le.refl _, rfl, rfl⟩, ?_⟩⟩
  rintro n' vs g2 ⟨k, rfl, hk, L, hs, rfl⟩
  have hb2 := L.at_ _ _ hb
  refine BIf.mk (fun h2 => ?_) (fun h2 => ?_)
  · have hlt : k < x.maps.length := by simpa using h2
    refine IdxX.mk (by omega) (by omega) ?_
    refine c2.mat (S.le.trans L) hlt fun b4 o4 h4 => ?_
    refine DrawX.of Tt.tab follows_any [] [] [0, 1, 2, 3, 4, 5, 6, 7, 8, 9, 10, 11, 12, 13, 14, 15, 16, 17, 18, 19, 20] rfl (by kernel_rfl) (by kernel_rfl) ?_
    refine QCall.of (fun g2 hl => sizeII_c g2 _ _ _ _) rfl ?_
    refine LoadX.same (v := .slice (some ⟨b1, o1, none⟩) x.dims.length 0) hb2 rfl ?_
    refine WR.as (r := ((k + 1 : Nat) : Int)) (by omega) ?_
    refine IdxX.mk (by omega) (by omega) ?_
    refine c1.ith (S.le.trans L) (show k + 1 < x.dims.length by omega) ?_
    refine BIf.mk (fun h3 => ?_) (fun h3 => ?_)
    · have h3 : ¬ ((mat x.maps k).length : Int) = ith x.dims (k + 1) := by simpa using h3
      refine BIf.yes rfl ?_
      exact FinX.keep hw (S.le.trans L) rfl ⟨by rw [bad1 k hlt (by simp [shapeAt, h3])], rfl⟩
    have h3 : ((mat x.maps k).length : Int) = ith x.dims (k + 1) := by simpa using h3
    refine LoadX.same (v := .int .i64 x.prime) hb2 rfl ?_
    refine LoadX.same (v := .slice (some ⟨b1, o1, none⟩) x.dims.length 0) hb2 rfl ?_
    refine IdxX.mk (by omega) (by omega) ?_
    refine c1.ith (S.le.trans L) (show k < x.dims.length by omega) ?_
    refine QCall.of (fun g2 hl => areRows_c g2 x.prime (ith x.dims k) _ (mat x.maps k) (prime_rng hh.p) (RII.le _ _ _ _ ((S.le.trans L).trans hl) h4)) rfl ?_
    refine BIf.mk (fun h5 => ?_) (fun h5 => ?_)
    · have h5 : rowsOk x.prime (ith x.dims k) (mat x.maps k) = false := by simpa using h5
      exact FinX.keep hw (S.le.trans L) rfl ⟨by rw [bad1 k hlt (by simp [shapeAt, h5])], rfl⟩
    have h5 : rowsOk x.prime (ith x.dims k) (mat x.maps k) = true := by simpa using h5
    refine WR.i64 ?_
    exact ⟨x.maps.length - (k + 1), by omega, k + 1, rfl, hlt, L, by rw [allN_succ, hs]; simp [shapeAt, h3, h5], rfl⟩
  have hk2 : k = x.maps.length := by simp at h2; omega
  subst hk2
  clear h2 hk
  refine ⟨⟨[1, 5], fun n' vs g2 => ∃ k : Nat, n' = x.maps.length - k ∧ k ≤ x.maps.length ∧ Le g g2 ∧ allN (fun k => decide (k = 0) || sqAt x k) (k + 1) = true ∧ vs = [.pointer (some ⟨b, 0, none⟩), .int .i64 ((k + 2 : Nat) : Int)], _, ⟨0, rfl, by omega, L, rfl, rfl⟩, ?_⟩⟩
  rintro n' vs g2 ⟨k, rfl, hk, L, hq, rfl⟩
  have hb2 := L.at_ _ _ hb
  refine LoadX.same (v := .agg #[.int .i64 x.prime, .slice (some ⟨b1, o1, none⟩) x.dims.length 0, .slice (some ⟨b2, o2, none⟩) x.maps.length 0]) hb2 rfl ?_
  refine CallX.same (top_c _ _ x (rx _ L)) ?_
  rintro r g3 ⟨rfl, rfl⟩
  refine BIf.mk (fun h2 => ?_) (fun h2 => ?_)
  · have h2 : ((k + 2 : Nat) : Int) ≤ x.dims.length - 1 := by simpa using h2
    have hlt : k + 1 < x.maps.length := by omega
    refine LoadX.same (v := .slice (some ⟨b2, o2, none⟩) x.maps.length 0) hb2 rfl ?_
    refine WR.as (r := ((k + 1 : Nat) : Int)) (by omega) ?_
    refine IdxX.mk (by omega) (by omega) ?_
    refine c2.mat (S.le.trans L) hlt fun b4 o4 h4 => ?_
    have c4 := h4.cells rfl
    refine ⟨⟨[1, 5, 72, 73, 74], fun n' vs g2 => ∃ i : Nat, n' = (mat x.maps (k + 1)).length - i ∧ i ≤ (mat x.maps (k + 1)).length ∧ Le g g2 ∧ allN (sqRow x (k + 1)) i = true ∧ vs = [.pointer (some ⟨b, 0, none⟩), .int .i64 ((k + 2 : Nat) : Int), .slice (some ⟨b4, o4, none⟩) (mat x.maps (k + 1)).length 0, .int .i64 (mat x.maps (k + 1)).length, .int .i64 i], _, ⟨0, rfl, by omega, L, rfl, rfl⟩, ?_⟩⟩
    rintro n' vs g3 ⟨i, rfl, hi, L, hr, rfl⟩
    have hb2 := L.at_ _ _ hb
    have hsh : shapeAt x (k + 1) = true := allN_at hs hlt
    have hsh0 : shapeAt x k = true := allN_at hs (by omega)
    obtain ⟨f1, f2⟩ := shapeAt_mat hh hsh
    have fd := hh.dims (k + 1 + 1)
    refine BIf.mk (fun h6 => ?_) (fun h6 => ?_)
    · have h6 : i < (mat x.maps (k + 1)).length := by simpa using h6
      refine IdxX.mk (by omega) (by omega) ?_
      refine c4.rowY (S.le.trans L) h6 fun b5 o5 h7 => ?_
      refine LoadX.same (v := .agg #[.int .i64 x.prime, .slice (some ⟨b1, o1, none⟩) x.dims.length 0, .slice (some ⟨b2, o2, none⟩) x.maps.length 0]) hb2 rfl ?_
      refine WR.as (r := ((k + 1 : Nat) : Int)) (by omega) ?_
      obtain ⟨z1, z2, z3⟩ := sq_pre hh hsh hsh0 h6
      refine CallX.same (differential_c _ _ _ x _ _ (rx _ L) (RI.le _ _ _ _ (S.le.trans L) h7) hh (by omega) k (by omega) z1 z2 z3) ?_
      rintro r g4 ⟨b6, o6, l6, rfl, ot, gg⟩
      have L := L.trans gg
      refine CallX.same (isZero_c _ _ _ (OI.reads _ _ _ _ _ ot)) ?_
      rintro r g5 ⟨rfl, rfl⟩
      refine BIf.mk (fun h8 => ?_) (fun h8 => ?_)
      · have h8 : sqRow x (k + 1) i = false := by
          have h8 : zeroV (comb x.prime (ith x.dims k).toNat (row (mat x.maps (k + 1)) i) (mat x.maps k)) = false := by simpa using h8
          exact h8
        exact FinX.keep hw (S.le.trans L) rfl ⟨by rw [bad2 (k + 1) i hlt (by omega) h6 h8], rfl⟩
      · have h8 : sqRow x (k + 1) i = true := by
          have h8 : zeroV (comb x.prime (ith x.dims k).toNat (row (mat x.maps (k + 1)) i) (mat x.maps k)) = true := by simpa using h8
          exact h8
        refine WR.i64 ?_
        exact ⟨(mat x.maps (k + 1)).length - (i + 1), by omega, i + 1, rfl, h6, L, by rw [allN_succ, hr, h8]; rfl, rfl⟩
    · have hi2 : i = (mat x.maps (k + 1)).length := by simp at h6; omega
      subst hi2
      refine WR.as (r := ((k + 1 + 2 : Nat) : Int)) (by omega) ?_
      exact ⟨x.maps.length - (k + 1), by omega, k + 1, rfl, by omega, L, by rw [allN_succ, hq]; simp [sqAt, hr], rfl⟩
  · have h2 : ¬ ((k + 2 : Nat) : Int) ≤ x.dims.length - 1 := by simpa using h2
    refine FinX.keep hw (S.le.trans L) rfl ⟨?_, rfl⟩
    have h3 : allN (fun k => decide (k = 0) || sqAt x k) x.maps.length = true := allN_mk fun i hi => allN_at hq (by omega)
    simp only [complexOk, hd, hs, h3, Bool.and_true]

theorem l01Is_c (h : AH) (v : Value) (x : SComplex) (hx : RComplex h v x) : ACalls Try.prog 62 [v] h (fun r h' => r = .bool (complexOk x) ∧ h' = h) := by
  obtain ⟨b1, o1, b2, o2, kx, qx⟩ := hx.can
  refine ACalls.wk (args' := [.agg #[.int .i64 x.prime, .slice (some ⟨b1, o1, none⟩) x.dims.length 0, .slice (some ⟨b2, o2, none⟩) x.maps.length 0]]) ?_ (.cons kx .nil)
  refine ACalls.of Tt.tab Try.func62 rfl (by kernel_rfl) Try.ntmps62 _ rfl rfl (fun hw => ?_)
  have S := Sep.start h
  have c1 := RS.cells qx.1 rfl
  have c2 := RS.cells qx.2 rfl
  have m1 := qx.1.1
  refine S.new fun b g S => ?_
  have hb : look g b = some ⟨[.int .i64 x.prime, .slice (some ⟨b1, o1, none⟩) x.dims.length 0, .slice (some ⟨b2, o2, none⟩) x.maps.length 0], some (28, 3)⟩ := S.at_ 0 rfl
  have bad : headOk x = false → complexOk x = false := fun hh => by simp [complexOk, hh]
  refine LoadX.same (v := .int .i64 x.prime) hb rfl ?_
  refine CallX.same (l01Prime_c g x.prime) ?_
  rintro r g ⟨rfl, rfl⟩
  refine BIf.mk (fun e1 => ?_) (fun e1 => ?_)
  · have e1 : prime x.prime = false := by simpa using e1
    refine BIf.yes rfl (BIf.yes rfl (BIf.yes rfl ?_))
    exact FinX.keep hw S.le rfl ⟨by rw [bad (by simp [headOk, e1])], rfl⟩
  have e1 : prime x.prime = true := by simpa using e1
  refine LoadX.same (v := .slice (some ⟨b1, o1, none⟩) x.dims.length 0) hb rfl ?_
  refine BIf.mk (fun e2 => ?_) (fun e2 => ?_)
  · have e2 : x.dims.length < 1 := by simp at e2; omega
    refine BIf.yes rfl (BIf.yes rfl ?_)
    exact FinX.keep hw S.le rfl ⟨by rw [bad (by simp only [headOk, decide_eq_false (show ¬ (0 ≤ (x.dims.length : Int) - 1 ∧ (x.dims.length : Int) - 1 ≤ 5) by omega)]; simp)], rfl⟩
  have e2 : ¬ x.dims.length < 1 := by simp at e2; omega
  refine LoadX.same (v := .slice (some ⟨b1, o1, none⟩) x.dims.length 0) hb rfl ?_
  refine BIf.mk (fun e2' => ?_) (fun e2' => ?_)
  · have e2' : x.dims.length > 6 := by simp at e2'; omega
    refine BIf.yes rfl ?_
    exact FinX.keep hw S.le rfl ⟨by rw [bad (by simp only [headOk, decide_eq_false (show ¬ (0 ≤ (x.dims.length : Int) - 1 ∧ (x.dims.length : Int) - 1 ≤ 5) by omega)]; simp)], rfl⟩
  have e2' : ¬ x.dims.length > 6 := by simp at e2'; omega
  refine LoadX.same (v := .slice (some ⟨b2, o2, none⟩) x.maps.length 0) hb rfl ?_
  refine LoadX.same (v := .slice (some ⟨b1, o1, none⟩) x.dims.length 0) hb rfl ?_
  refine WR.i64 ?_
  refine BIf.mk (fun e3 => ?_) (fun e3 => ?_)
  · have e3 : ¬ (x.maps.length : Int) = x.dims.length - 1 := by simpa using e3
    exact FinX.keep hw S.le rfl ⟨by rw [bad (by simp only [headOk, decide_eq_false e3]; simp)], rfl⟩
  have e3 : (x.maps.length : Int) = x.dims.length - 1 := by simpa using e3
  refine ⟨⟨[1, 3], fun n' vs g2 => ∃ k : Nat, n' = x.dims.length - k ∧ k ≤ x.dims.length ∧ g2 = g ∧ (∀ i, i < k → 0 ≤ ith x.dims i ∧ ith x.dims i ≤ 8) ∧ vs = [.pointer (some ⟨b, 0, none⟩), .int .i64 k], _, ⟨0, rfl, Nat.zero_le _, rfl, fun i hi => by omega, rfl⟩, ?_⟩⟩
  rintro n' vs g2 ⟨k, rfl, hk, rfl, hs, rfl⟩
  refine LoadX.same (v := .slice (some ⟨b1, o1, none⟩) x.dims.length 0) hb rfl ?_
  refine BIf.mk (fun h2 => ?_) (fun h2 => ?_)
  · have hlt : k < x.dims.length := by simpa using h2
    refine LoadX.same (v := .slice (some ⟨b1, o1, none⟩) x.dims.length 0) hb rfl ?_
    refine IdxX.mk (by omega) (by omega) ?_
    refine c1.ith S.le hlt ?_
    refine CallX.same (l01In_c _ _ 0 8) ?_
    rintro r g3 ⟨rfl, rfl⟩
    refine BIf.mk (fun h3 => ?_) (fun h3 => ?_)
    · have h3 : decide (0 ≤ ith x.dims k ∧ ith x.dims k ≤ 8) = false := by simpa only [Bool.not_eq_true'] using h3
      refine FinX.keep hw S.le rfl ⟨?_, rfl⟩
      rw [bad]
      have : (x.dims.all fun n => decide (0 ≤ n ∧ n ≤ 8)) = false := List.all_eq_false.2 ⟨_, ith_mem hlt, by rw [h3]; simp⟩
      simp only [headOk, this, Bool.and_false]
    · have h3 : decide (0 ≤ ith x.dims k ∧ ith x.dims k ≤ 8) = true := by simpa only [Bool.not_eq_false'] using h3
      refine WR.i64 ?_
      refine ⟨x.dims.length - (k + 1), by omega, k + 1, rfl, hlt, rfl, fun i hi => ?_, rfl⟩
      rcases (by omega : i < k ∨ i = k) with hi | rfl
      · exact hs i hi
      · simpa using h3
  have hk2 : k = x.dims.length := by simp at h2; omega
  subst hk2
  have hd : headOk x = true := by
    have : (x.dims.all fun n => decide (0 ≤ n ∧ n ≤ 8)) = true := List.all_eq_true.2 fun y hy => by
      obtain ⟨i, hi, rfl⟩ := List.getElem_of_mem hy
      rw [ith_get hi]
      exact decide_eq_true (hs i hi)
    simp only [headOk, e1, this, decide_eq_true e3, decide_eq_true (show 0 ≤ (x.dims.length : Int) - 1 ∧ (x.dims.length : Int) - 1 ≤ 5 by omega), Bool.and_true]
  have hh := headOk_mk hd
  have hlen := hh.len
  have bad1 : ∀ k, k < x.maps.length → shapeAt x k = false → complexOk x = false := fun k hk hf => by simp [complexOk, allN_false hk hf]
  have bad2 : ∀ k i, k < x.maps.length → 0 < k → i < (mat x.maps k).length → sqRow x k i = false → complexOk x = false := fun k i hk h0 hi hf => by
    have : (fun k => decide (k = 0) || sqAt x k) k = false := by simp [sqAt, allN_false hi hf]; omega
    simp only [complexOk, allN_false (f := fun k => decide (k = 0) || sqAt x k) hk this, Bool.and_false]
  clear h2 hk hs
  refine ⟨⟨[1, 4], fun n' vs g3 => ∃ k : Nat, n' = x.maps.length - k ∧ k ≤ x.maps.length ∧ Le g2 g3 ∧ allN (shapeAt x) k = true ∧ allN (fun k => decide (k = 0) || sqAt x k) k = true ∧ vs = [.pointer (some ⟨b, 0, none⟩), .int .i64 k], _, ⟨0, rfl, Nat.zero_le _, Le.refl _, rfl, rfl, rfl⟩, ?_⟩⟩
  rintro n' vs g3 ⟨k, rfl, hk, L, hs, hq, rfl⟩
  have hb2 := L.at_ _ _ hb
  refine LoadX.same (v := .slice (some ⟨b2, o2, none⟩) x.maps.length 0) hb2 rfl ?_
  refine BIf.mk (fun h2 => ?_) (fun h2 => ?_)
  · have hlt : k < x.maps.length := by simpa using h2
    refine DrawX.of Tt.tab follows_any [] [] [0, 1, 2, 3, 4, 5, 6, 7, 8, 9, 10, 11, 12, 13, 14, 15, 16, 17, 18, 19] rfl (by kernel_rfl) (by kernel_rfl) ?_
    refine LoadX.same (v := .int .i64 x.prime) hb2 rfl ?_
    refine LoadX.same (v := .slice (some ⟨b2, o2, none⟩) x.maps.length 0) hb2 rfl ?_
    refine IdxX.mk (by omega) (by omega) ?_
    refine c2.mat (S.le.trans L) hlt fun b4 o4 h4 => ?_
    refine LoadX.same (v := .slice (some ⟨b1, o1, none⟩) x.dims.length 0) hb2 rfl ?_
    refine WR.as (r := ((k + 1 : Nat) : Int)) (by omega) ?_
    refine IdxX.mk (by omega) (by omega) ?_
    refine c1.ith (S.le.trans L) (show k + 1 < x.dims.length by omega) ?_
    refine LoadX.same (v := .slice (some ⟨b1, o1, none⟩) x.dims.length 0) hb2 rfl ?_
    refine IdxX.mk (by omega) (by omega) ?_
    refine c1.ith (S.le.trans L) (show k < x.dims.length by omega) ?_
    refine QCall.of (fun g4 hl => l01Table_c g4 x.prime (ith x.dims (k + 1)) (ith x.dims k) _ (mat x.maps k) (prime_rng hh.p) (RII.le _ _ _ _ ((S.le.trans L).trans hl) h4)) rfl ?_
    refine BIf.mk (fun h3 => ?_) (fun h3 => ?_)
    · have h3 : shapeAt x k = false := by
        have h4 : (decide (((mat x.maps k).length : Int) = ith x.dims (k + 1)) && rowsOk x.prime (ith x.dims k) (mat x.maps k)) = false := by simpa only [Bool.not_eq_true'] using h3
        exact h4
      exact FinX.keep hw (S.le.trans L) rfl ⟨by rw [bad1 k hlt h3], rfl⟩
    have h3 : shapeAt x k = true := by
      have h4 : (decide (((mat x.maps k).length : Int) = ith x.dims (k + 1)) && rowsOk x.prime (ith x.dims k) (mat x.maps k)) = true := by simpa only [Bool.not_eq_false'] using h3
      exact h4
    obtain ⟨f1, f2⟩ := shapeAt_mat hh h3
    have fd := hh.dims (k + 1)
    refine ⟨⟨[1, 4, 5], fun n' vs g3 => ∃ i : Nat, n' = (mat x.maps k).length - i ∧ i ≤ (mat x.maps k).length ∧ Le g2 g3 ∧ (0 < k → allN (sqRow x k) i = true) ∧ vs = [.pointer (some ⟨b, 0, none⟩), .int .i64 k, .int .i64 i], _, ⟨0, rfl, by omega, L, fun _ => rfl, rfl⟩, ?_⟩⟩
    rintro n' vs g3 ⟨i, rfl, hi, L, hr, rfl⟩
    have hb2 := L.at_ _ _ hb
    refine LoadX.same (v := .slice (some ⟨b2, o2, none⟩) x.maps.length 0) hb2 rfl ?_
    refine IdxX.mk (by omega) (by omega) ?_
    refine c2.mat (S.le.trans L) hlt fun b5 o5 h5 => ?_
    have done : (0 < k → allN (sqRow x k) (mat x.maps k).length = true) → allN (fun k => decide (k = 0) || sqAt x k) (k + 1) = true := fun hh => by
      rw [allN_succ, hq]
      rcases Nat.eq_zero_or_pos k with h0 | h0
      · simp [h0]
      · simp [sqAt, hh h0]
    refine BIf.mk (fun h6 => ?_) (fun h6 => ?_)
    · have h6 : i < (mat x.maps k).length := by simpa using h6
      refine BIf.mk (fun h7 => ?_) (fun h7 => ?_)
      · have h7 : 0 < k := by simpa using h7
        obtain ⟨j, rfl⟩ : ∃ j, k = j + 1 := ⟨k - 1, by omega⟩
        obtain ⟨z1, z2, z3⟩ := sq_pre hh h3 (allN_at hs (by omega)) h6
        have fd0 := hh.dims j
        obtain ⟨nn, hnn⟩ : ∃ m : Nat, ith x.dims j = m := ⟨(ith x.dims j).toNat, by omega⟩
        refine DrawX.of Tt.tab follows_any [22] [] [0, 1, 2, 3, 4, 5, 6, 7, 8, 9, 10, 11, 12, 13, 14, 15, 16, 17, 18, 19, 20, 21, 22, 23, 24] rfl (by kernel_rfl) (by kernel_rfl) ?_
        refine LoadX.same (v := .int .i64 x.prime) hb2 rfl ?_
        refine LoadX.same (v := .slice (some ⟨b2, o2, none⟩) x.maps.length 0) hb2 rfl ?_
        refine WR.as (r := (j : Int)) (by omega) ?_
        refine IdxX.mk (by omega) (by omega) ?_
        refine c2.mat (S.le.trans L) (show j < x.maps.length by omega) fun b7 o7 h7 => ?_
        refine LoadX.same (v := .slice (some ⟨b2, o2, none⟩) x.maps.length 0) hb2 rfl ?_
        refine IdxX.mk (by omega) (by omega) ?_
        refine c2.mat (S.le.trans L) hlt fun b8 o8 h8 => ?_
        refine IdxX.mk (by omega) (by omega) ?_
        refine (h8.cells rfl).rowY (S.le.trans L) h6 fun b9 o9 h9 => ?_
        refine LoadX.same (v := .slice (some ⟨b1, o1, none⟩) x.dims.length 0) hb2 rfl ?_
        refine WR.as (r := (j : Int)) (by omega) ?_
        refine IdxX.mk (by omega) (by omega) ?_
        refine c1.ith (S.le.trans L) (show j < x.dims.length by omega) ?_
        rw [hnn] at z2 ⊢
        have hc := l01Apply_c g3 x.prime nn _ _ (row (mat x.maps (j + 1)) i) (mat x.maps j) (prime_rng hh.p) (by omega) (RI.le _ _ _ _ (S.le.trans L) h9) (RII.le _ _ _ _ (S.le.trans L) h7) z1 z2 z3
        refine CallX.same hc ?_
        rintro r g4 ⟨b6, o6, l6, rfl, ot, gg⟩
        refine ⟨gg, ?_⟩
        refine QCall.of (fun g5 hl => l01Lead_c g5 _ _ (RI.le _ _ _ _ hl (OI.reads _ _ _ _ _ ot))) rfl ?_
        have L := L.trans gg
        have hsq : sqRow x (j + 1) i = decide (lead (comb x.prime nn (row (mat x.maps (j + 1)) i) (mat x.maps j)) < 0) := by
          show zeroV (comb x.prime (ith x.dims j).toNat (row (mat x.maps (j + 1)) i) (mat x.maps j)) = _
          rw [hnn]; rfl
        refine BIf.mk (fun h10 => ?_) (fun h10 => ?_)
        · have h10 : lead (comb x.prime nn (row (mat x.maps (j + 1)) i) (mat x.maps j)) ≥ 0 := by simpa using h10
          exact FinX.keep hw (S.le.trans L) rfl ⟨by rw [bad2 (j + 1) i hlt (by omega) h6 (by rw [hsq]; simp; omega)], rfl⟩
        · have h10 : ¬ lead (comb x.prime nn (row (mat x.maps (j + 1)) i) (mat x.maps j)) ≥ 0 := by simpa using h10
          refine WR.i64 ?_
          exact ⟨(mat x.maps (j + 1)).length - (i + 1), by omega, i + 1, rfl, h6, L, fun h0 => by rw [allN_succ, hr h0, hsq]; simp; omega, rfl⟩
      · have h7 : k = 0 := by simp at h7; omega
        refine WR.i64 ?_
        exact ⟨x.maps.length - (k + 1), by omega, k + 1, rfl, hlt, L, by rw [allN_succ, hs, h3]; rfl, done (fun h0 => by omega), rfl⟩
    · have hi2 : i = (mat x.maps k).length := by simp at h6; omega
      refine BIf.no rfl ?_
      subst hi2
      refine WR.i64 ?_
      exact ⟨x.maps.length - (k + 1), by omega, k + 1, rfl, hlt, L, by rw [allN_succ, hs, h3]; rfl, done hr, rfl⟩
  · have hk2 : k = x.maps.length := by simp at h2; omega
    subst hk2
    refine FinX.keep hw (S.le.trans L) rfl ⟨?_, rfl⟩
    simp only [complexOk, hd, hs, hq, Bool.and_true]

theorem isComplexS_c (h : AH) (v : Value) (x : SComplex) (hx : RComplex h v x) : ACalls Try.prog 16 [v] h (fun r h' => r = .bool (complexOk x) ∧ h' = h) := by
  obtain ⟨b1, o1, b2, o2, kx, qx⟩ := hx.can
  refine ACalls.wk (args' := [.agg #[.int .i64 x.prime, .slice (some ⟨b1, o1, none⟩) x.dims.length 0, .slice (some ⟨b2, o2, none⟩) x.maps.length 0]]) ?_ (.cons kx .nil)
  refine ACalls.of Tt.tab Try.func16 rfl (by kernel_rfl) Try.ntmps16 _ rfl rfl (fun hw => ?_)
  have S := Sep.start h
  refine S.new fun b g S => ?_
  refine LoadX.same (v := .agg #[.int .i64 x.prime, .slice (some ⟨b1, o1, none⟩) x.dims.length 0, .slice (some ⟨b2, o2, none⟩) x.maps.length 0]) (S.at_ 0 rfl) rfl ?_
  refine CallX.same (l01Is_c _ _ x ⟨_, _, rfl, qx.le S.le⟩) ?_
  rintro r g ⟨rfl, rfl⟩
  exact FinX.keep hw S.le rfl ⟨rfl, rfl⟩

end Go.Gl

/- Chapter 3: IsDouble, the program's side: all cells. No condition. -/
import Derived.Test.YtbjohihngoghlaaFnX2
set_option linter.unusedVariables false
set_option linter.unusedSimpArgs false
namespace Go.Gl
open Go.Proofs Go.Proofs.Ytbjohihngoghlaa Go.Pl

/-- all is as told before a vector of a cell -/
def FineP (x : SDouble) (i j k : Nat) : Prop := ∀ i' j' k' : Nat, i' < dW x → j' < dH x → (k' : Int) < dimZ x i' j' → (i' < i ∨ i' = i ∧ (j' < j ∨ j' = j ∧ k' < k)) → sqCell x i' j' k' = true
noncomputable def fine (x : SDouble) (i j k : Nat) : Bool := @decide (FineP x i j k) (Classical.propDecidable _)
theorem fine_iff {x : SDouble} {i j k : Nat} : fine x i j k = true ↔ FineP x i j k := @decide_eq_true_iff _ (Classical.propDecidable _)
theorem fine_zero (x : SDouble) : fine x 0 0 0 = true := fine_iff.2 fun i' j' k' _ _ _ h => by omega
theorem fine_next {x : SDouble} {i j k : Nat} (hi : i < dW x) (hj : j < dH x) (hk : (k : Int) < dimZ x i j) : fine x i j (k + 1) = (fine x i j k && sqCell x i j k) := by
  rw [Bool.eq_iff_iff, Bool.and_eq_true, fine_iff, fine_iff]
  constructor
  · exact fun h => ⟨fun i' j' k' a b c d => h i' j' k' a b c (by omega), h i j k hi hj hk (by omega)⟩
  · rintro ⟨h1, h2⟩ i' j' k' a b c d
    by_cases e : i' = i ∧ j' = j ∧ k' = k
    · obtain ⟨rfl, rfl, rfl⟩ := e; exact h2
    · exact h1 i' j' k' a b c (by omega)
theorem fine_cell {x : SDouble} {i j k : Nat} (hk : dimZ x i j ≤ k) : fine x i j k = fine x i (j + 1) 0 := by
  rw [Bool.eq_iff_iff, fine_iff, fine_iff]
  constructor
  · intro h i' j' k' a b c d
    refine h i' j' k' a b c ?_
    by_cases e : i' = i ∧ j' = j
    · obtain ⟨rfl, rfl⟩ := e; omega
    · omega
  · exact fun h i' j' k' a b c d => h i' j' k' a b c (by omega)
theorem fine_col {x : SDouble} {i : Nat} : fine x i (dH x) 0 = fine x (i + 1) 0 0 := by
  rw [Bool.eq_iff_iff, fine_iff, fine_iff]
  exact ⟨fun h i' j' k' a b c d => h i' j' k' a b c (by omega), fun h i' j' k' a b c d => h i' j' k' a b c (by omega)⟩
theorem fine_all {x : SDouble} (h : DShape x) : fine x (dW x) 0 0 = dOk x := by
  rw [Bool.eq_iff_iff, fine_iff]
  constructor
  · exact fun hf => dOk_t ⟨h, fun i j k hi hj hk => hf i j k hi hj hk (.inl hi)⟩
  · exact fun hk i' j' k' a b c d => (dOk_mk hk).sq i' j' k' a b c
theorem acr_unit {x : SDouble} (h : DShape x) {i j k : Nat} (hk : (k : Int) < dimZ x i j) : acr x i j (unitv (dimZ x i j).toNat k) = row (celZ x x.across i j) k := by
  obtain ⟨t1, t2⟩ := h.acr.cell i j
  have := prime_rng h.p
  exact comb_unit (by omega) t2 (by omega) (by omega)
theorem dwn_unit {x : SDouble} (h : DShape x) {i j k : Nat} (hk : (k : Int) < dimZ x i j) : dwn x i j (unitv (dimZ x i j).toNat k) = row (celZ x x.down i j) k := by
  obtain ⟨t1, t2⟩ := h.dwn.cell i j
  have := prime_rng h.p
  exact comb_unit (by omega) t2 (by omega) (by omega)
theorem acr_vec {x : SDouble} (h : DHead x) (i j : Int) (v : List Int) : Vec x.prime (dimZ x (i - 1) j).toNat (acr x i j v) := Vec.combN (by have := prime_rng h.p; omega)
theorem dwn_vec {x : SDouble} (h : DHead x) (i j : Int) (v : List Int) : Vec x.prime (dimZ x i (j - 1)).toNat (dwn x i j v) := Vec.combN (by have := prime_rng h.p; omega)
theorem less_neg {p : Int} {u v : List Int} : less p u v (-1) = tab u.length fun k => (ith u k + ith v k) % p := by
  unfold less
  exact tab_congr fun i _ => by congr 1; omega
/-- what the box of the result says -/
def StFine (x : SDouble) (P : DP) (b7 b : Nat) (i j : Nat) (Rs : List Res) : Prop := Rs = [.bx b7 4 1 [.bool (fine x i j 0)], .bx b 71 4 (cD x P)]

theorem isDouble4_c (n : Nat) (h0 : AH) (x : SDouble) (P : DP) (q : QD h0 x P) (hd : DShape x) (b7 b : Nat) (i j : Nat) (hi : i < dW x) (hj : j < dH x) :
    Does Try.prog 119 [.int .i64 i, .int .i64 j, .pointer (some ⟨b, 0, none⟩), .pointer (some ⟨b7, 0, none⟩)] n h0 (StFine x P b7 b i j) (StFine x P b7 b i (j + 1)) := by
  refine Does.of fun M hb h Rs hlen hle hs S => ?_
  subst hs
  refine ACalls.of Tt.tab Try.func119 rfl (by kernel_rfl) Try.ntmps119 _ rfl rfl (fun hw => ?_)
  have hpr := prime_rng hd.p
  have hW := hd.w
  have hH := hd.h
  have hdm := hd.dim i j
  have hdm2 := hd.dim (i - 1) (j - 1)
  obtain ⟨m, hm⟩ : ∃ m : Nat, dimZ x i j = m := ⟨(dimZ x i j).toNat, by omega⟩
  refine LoadX.same (v := vD x P) (S.at_ 1 rfl) rfl ?_
  refine CallX.same (dim_c _ _ x i j (q.reads (hle.trans S.le)) hd.toDHead) ?_
  rintro r g' ⟨rfl, rfl⟩
  rw [hm]
  refine S.madeL OII.fr (units_c _ m (by omega)) fun b1 o1 g L S => ?_
  have eu : (unitsL m).length = m := tabR_length _ _
  rw [eu] at S ⊢
  refine ⟨⟨[0, 1, 2, 3, 17, 18, 19], fun n' vs g => ∃ k : Nat, n' = m - k ∧ k ≤ m ∧ SepM M n hb g [.tr OII.fr n (.slice (some ⟨b1, o1, none⟩) m 0) (unitsL m), .bx b7 4 1 [.bool (fine x i j k)], .bx b 71 4 (cD x P)] ∧
    vs = [.int .i64 i, .int .i64 j, .pointer (some ⟨b, 0, none⟩), .pointer (some ⟨b7, 0, none⟩), .slice (some ⟨b1, o1, none⟩) m 0, .int .i64 m, .int .i64 k], _, ⟨0, rfl, Nat.zero_le _, S, rfl⟩, ?_⟩⟩
  clear S L
  rintro n' vs g ⟨k, rfl, hk, S, rfl⟩
  refine BIf.mk (fun h2 => ?_) (fun h2 => ?_)
  · have hlt : k < m := by simpa using h2
    have hkd : (k : Int) < dimZ x i j := by omega
    have eu2 : row (unitsL m) k = unitv m k := tabR_row hlt
    have hul : (unitv m k).length = m := tab_length _ _
    have ea := acr_unit hd hkd
    have ed := dwn_unit hd hkd
    rw [hm, Int.toNat_natCast] at ea ed
    refine IdxX.mk (by omega) (by omega) ?_
    have S0 : SepM M n hb g [.tr OII.fr n (.slice (some ⟨b1, o1, none⟩) (unitsL m).length 0) (unitsL m), .bx b7 4 1 [.bool (fine x i j k)], .bx b 71 4 (cD x P)] := by rw [eu]; exact S
    have cu := S0.cellsII 0 rfl
    refine cu.rowY (Le.refl _) (show k < (unitsL m).length by omega) fun b2 o2 hr => ?_
    rw [eu2] at hr ⊢
    have hv := unitv_vec (p := x.prime) (by omega) m k
    refine DrawX.of Tt.tab follows_any [4, 9] [] [0, 1, 2, 3, 5, 6, 7, 8, 4, 9, 10, 11] rfl (by kernel_rfl) (by kernel_rfl) ?_
    refine LoadX.same (v := vD x P) (S.at_ 2 rfl) rfl ?_
    refine LoadX.same (v := vD x P) (S.at_ 2 rfl) rfl ?_
    refine S.madeL OI.fr (across_c _ _ _ x i j (unitv m k) (q.reads (hle.trans S.le)) hr hd.toDHead hd.acr (by omega) hv.2 (by omega)) fun b3 o3 g2 L S => ?_
    refine ⟨L, ?_⟩
    refine S.madeL OI.fr (down_c _ _ _ x i j (unitv m k) (q.reads (hle.trans S.le)) (RI.le _ _ _ _ L hr) hd.toDHead hd.dwn (by omega) hv.2 (by omega)) fun b4 o4 g3 L S => ?_
    refine ⟨L, ?_⟩
    clear hr cu S0
    rw [ea, ed] at S ⊢
    generalize eA : row (celZ x x.across i j) k = A at S ⊢ ea
    generalize eD : row (celZ x x.down i j) k = D at S ⊢ ed
    have vA : Vec x.prime (dimZ x (i - 1) j).toNat A := by rw [← ea]; exact acr_vec hd.toDHead _ _ _
    have vD' : Vec x.prime (dimZ x i (j - 1)).toNat D := by rw [← ed]; exact dwn_vec hd.toDHead _ _ _
    have dA := hd.dim (i - 1) j
    have dD := hd.dim i (j - 1)
    refine LoadX.same (v := vD x P) (S.at_ 4 rfl) rfl ?_
    refine WR.i64 ?_
    refine S.madeL OI.fr (down_c _ _ _ x (i - 1) j A (q.reads (hle.trans S.le)) (S.rd OI.reads 1 rfl) hd.toDHead hd.dwn (by omega) vA.2 (by have := vA.1; omega)) fun b5 o5 g4 L S => ?_
    refine LoadX.same (v := vD x P) (S.at_ 5 rfl) rfl ?_
    refine WR.i64 ?_
    refine S.madeL OI.fr (across_c _ _ _ x i (j - 1) D (q.reads (hle.trans S.le)) (S.rd OI.reads 1 rfl) hd.toDHead hd.acr (by omega) vD'.2 (by have := vD'.1; omega)) fun b6 o6 g5 L S => ?_
    generalize eO : dwn x (i - 1) j A = one at S ⊢
    generalize eT : acr x i (j - 1) D = two at S ⊢
    have v1 : Vec x.prime (dimZ x (i - 1) (j - 1)).toNat one := by rw [← eO]; exact dwn_vec hd.toDHead _ _ _
    have v2 : Vec x.prime (dimZ x (i - 1) (j - 1)).toNat two := by rw [← eT]; exact acr_vec hd.toDHead _ _ _
    have hl2 : two.length = one.length := by rw [v1.1, v2.1]
    have hl3 := v2.1
    refine ⟨⟨[0, 1, 2, 3, 8, 9, 10, 17, 18, 19, 44, 45, 46], fun n' vs g => ∃ t : Nat, n' = two.length - t ∧ t ≤ two.length ∧ SepM M n hb g [.tr OI.fr n (.slice (some ⟨b6, o6, none⟩) two.length 0) two, .tr OI.fr n (.slice (some ⟨b5, o5, none⟩) one.length 0) (tab one.length fun c => if c < t then (ith one c + ith two c) % x.prime else ith one c), .tr OI.fr n (.slice (some ⟨b4, o4, none⟩) D.length 0) D, .tr OI.fr n (.slice (some ⟨b3, o3, none⟩) A.length 0) A, .tr OII.fr n (.slice (some ⟨b1, o1, none⟩) m 0) (unitsL m), .bx b7 4 1 [.bool (fine x i j k)], .bx b 71 4 (cD x P)] ∧
      vs = [.int .i64 i, .int .i64 j, .pointer (some ⟨b, 0, none⟩), .pointer (some ⟨b7, 0, none⟩), .slice (some ⟨b3, o3, none⟩) A.length 0, .slice (some ⟨b4, o4, none⟩) D.length 0, .slice (some ⟨b5, o5, none⟩) one.length 0, .slice (some ⟨b1, o1, none⟩) m 0, .int .i64 m, .int .i64 k, .slice (some ⟨b6, o6, none⟩) two.length 0, .int .i64 two.length, .int .i64 t], _, ⟨0, rfl, Nat.zero_le _, S.retell 1 rfl (tab_eq.trans tab_none), rfl⟩, ?_⟩⟩
    clear S L
    rintro n' vs g ⟨t, rfl, ht, S, rfl⟩
    refine BIf.mk (fun h4 => ?_) (fun h4 => ?_)
    · have h4 : t < two.length := by simpa using h4
      have h5 : t < one.length := by omega
      refine IdxX.mk (by omega) (by omega) ?_
      refine (S.cellsI 0 rfl).ith (Le.refl _) h4 ?_
      have k1 := v1.2.ith (by omega) t
      have k2 := v2.2.ith (by omega) t
      refine DrawX.of Tt.tab follows_any [] [12] [0, 1, 2, 3, 4, 5, 6, 7, 8, 9, 10, 11, 12] rfl (by kernel_rfl) (by kernel_rfl) ?_
      refine IdxX.mk (by omega) (by omega) ?_
      have e0 : ith (tab one.length fun c => if c < t then (ith one c + ith two c) % x.prime else ith one c) t = ith one t := by rw [tab_ith h5, if_neg (by omega)]
      have S1 : SepM M n hb g [.tr OI.fr n (.slice (some ⟨b6, o6, none⟩) two.length 0) two, .tr OI.fr n (.slice (some ⟨b5, o5, none⟩) (tab one.length fun c => if c < t then (ith one c + ith two c) % x.prime else ith one c).length 0) (tab one.length fun c => if c < t then (ith one c + ith two c) % x.prime else ith one c), .tr OI.fr n (.slice (some ⟨b4, o4, none⟩) D.length 0) D, .tr OI.fr n (.slice (some ⟨b3, o3, none⟩) A.length 0) A, .tr OII.fr n (.slice (some ⟨b1, o1, none⟩) m 0) (unitsL m), .bx b7 4 1 [.bool (fine x i j k)], .bx b 71 4 (cD x P)] := by rw [tab_length]; exact S
      refine (S1.cellsI 1 rfl).ith (Le.refl _) (show t < (tab one.length _).length by rw [tab_length]; exact h5) ?_
      rw [e0]
      refine WR.i64 ?_
      refine LoadX.same (v := .int .i64 x.prime) (S.at_ 6 rfl) rfl ?_
      refine TM.pos ?_
      refine IdxX.mk (by omega) (by omega) ?_
      refine S.storeL 1 rfl (tab_length _ _) h5 fun g' S => ?_
      refine WR.i64 ?_
      refine ⟨two.length - (t + 1), by omega, t + 1, rfl, h4, S.retell 1 rfl ?_, rfl⟩
      rw [tab_set]
      exact tab_step rfl
    · have ht2 : t = two.length := by simp at h4; omega
      subst ht2
      have S := S.retell 1 rfl (show _ = less x.prime one two (-1) by rw [less_neg]; exact tab_all (by omega))
      have eF : fine x i j (k + 1) = (fine x i j k && sqCell x i j k) := fine_next hi hj hkd
      have eq1 : sqAcr x i j k = zeroV (acr x (i - 1) j A) := by unfold sqAcr; rw [eA]
      have eq2 : sqDwn x i j k = zeroV (dwn x i (j - 1) D) := by unfold sqDwn; rw [eD]
      have eq3 : sqBoth x i j k = zeroV (less x.prime one two (-1)) := by unfold sqBoth; rw [eA, eD, eO, eT]
      refine LoadX.same (v := .bool (fine x i j k)) (S.at_ 5 rfl) rfl ?_
      have done : ∀ (c : Bool) (g : AH), fine x i j (k + 1) = c → SepM M n hb g [.tr OI.fr n (.slice (some ⟨b6, o6, none⟩) two.length 0) two, .tr OI.fr n (.slice (some ⟨b5, o5, none⟩) one.length 0) (less x.prime one two (-1)), .tr OI.fr n (.slice (some ⟨b4, o4, none⟩) D.length 0) D, .tr OI.fr n (.slice (some ⟨b3, o3, none⟩) A.length 0) A, .tr OII.fr n (.slice (some ⟨b1, o1, none⟩) m 0) (unitsL m), .bx b7 4 1 [.bool c], .bx b 71 4 (cD x P)] → ∃ n', n' < m - k ∧ ∃ k2 : Nat, n' = m - k2 ∧ k2 ≤ m ∧ SepM M n hb g [.tr OII.fr n (.slice (some ⟨b1, o1, none⟩) m 0) (unitsL m), .bx b7 4 1 [.bool (fine x i j k2)], .bx b 71 4 (cD x P)] ∧
        ([.int .i64 i, .int .i64 j, .pointer (some ⟨b, 0, none⟩), .pointer (some ⟨b7, 0, none⟩), .slice (some ⟨b1, o1, none⟩) m 0, .int .i64 m, .int .i64 ((k : Int) + 1)] : List Value) = [.int .i64 i, .int .i64 j, .pointer (some ⟨b, 0, none⟩), .pointer (some ⟨b7, 0, none⟩), .slice (some ⟨b1, o1, none⟩) m 0, .int .i64 m, .int .i64 k2] := fun c g ec S =>
        ⟨m - (k + 1), by omega, k + 1, rfl, hlt, by rw [ec]; exact S.tail.tail.tail.tail, rfl⟩
      refine BIf.mk (fun f1 => ?_) (fun f1 => ?_)
      · refine LoadX.same (v := vD x P) (S.at_ 6 rfl) rfl ?_
        refine WR.i64 ?_
        refine S.madeL OI.fr (across_c _ _ _ x (i - 1) j A (q.reads (hle.trans S.le)) (S.rd OI.reads 3 rfl) hd.toDHead hd.acr (by omega) vA.2 (by have := vA.1; omega)) fun b8 o8 g6 L S => ?_
        refine CallX.same (isZero_c _ _ _ (S.rd OI.reads 0 rfl)) ?_
        rintro r g' ⟨rfl, rfl⟩
        refine BIf.mk (fun f2 => ?_) (fun f2 => ?_)
        · refine LoadX.same (v := vD x P) (S.at_ 7 rfl) rfl ?_
          refine WR.i64 ?_
          refine S.madeL OI.fr (down_c _ _ _ x i (j - 1) D (q.reads (hle.trans S.le)) (S.rd OI.reads 3 rfl) hd.toDHead hd.dwn (by omega) vD'.2 (by have := vD'.1; omega)) fun b9 o9 g7 L S => ?_
          refine CallX.same (isZero_c _ _ _ (S.rd OI.reads 0 rfl)) ?_
          rintro r g' ⟨rfl, rfl⟩
          refine BIf.mk (fun f3 => ?_) (fun f3 => ?_)
          · refine CallX.same (isZero_c _ _ _ (S.rd OI.reads 3 rfl)) ?_
            rintro r g' ⟨rfl, rfl⟩
            refine S.put 7 rfl fun g S => ?_
            refine WR.i64 ?_
            exact done _ _ (by rw [eF, f1, sqCell, eq1, eq2, eq3, f2, f3]; simp) S.tail.tail
          · refine S.put 7 rfl fun g S => ?_
            refine WR.i64 ?_
            exact done _ _ (by rw [eF, f1, sqCell, eq1, eq2, eq3, f2, f3]; simp) S.tail.tail
        · refine BIf.no rfl ?_
          refine S.put 6 rfl fun g S => ?_
          refine WR.i64 ?_
          exact done _ _ (by rw [eF, f1, sqCell, eq1, eq2, eq3, f2]; simp) S.tail
      · refine BIf.no rfl (BIf.no rfl ?_)
        refine S.put 5 rfl fun g S => ?_
        refine WR.i64 ?_
        exact done _ _ (by rw [eF, f1]; simp) S
  · have hk2 : k = m := by simp at h2; omega
    subst hk2
    rw [fine_cell (by omega)] at S
    exact FinX.here (by have := S.le.len; omega) ⟨rfl, _, rfl, S.tail⟩
theorem isDoubleI_c (h : AH) (v : Value) (x : SDouble) (hx : RDouble h v x) : ACalls Try.prog 45 [v] h (fun r h' => r = .bool (dOk x) ∧ h' = h) := by
  obtain ⟨P, kx, qx⟩ := hx.at_
  refine ACalls.wk (args' := [vD x P]) ?_ (.cons kx .nil)
  refine ACalls.of Tt.tab Try.func45 rfl (by kernel_rfl) Try.ntmps45 _ rfl rfl (fun hw => ?_)
  have S := Sep.start h
  have c1 := RS.cells qx.1 rfl
  refine S.new fun b g S => ?_
  have hb : look g b = some ⟨cD x P, some (71, 4)⟩ := S.at_ 0 rfl
  have no : ∀ g2, Le h g2 → ¬ DOk x → FinX h (fun r h' => r = .bool (dOk x) ∧ h' = h) (.bool false) g2 := fun g2 l hn => FinX.keep hw l rfl ⟨by rw [dOk_f hn], rfl⟩
  refine LoadX.same (v := .int .i64 x.prime) hb rfl ?_
  refine CallX.same (isPrime_c g x.prime) ?_
  rintro r g' ⟨rfl, rfl⟩
  refine BIf.mk (fun e1 => ?_) (fun e1 => ?_)
  · have e1 : prime x.prime = false := by simpa using e1
    refine BIf.yes rfl (BIf.yes rfl ?_)
    exact no _ S.le fun hh => by have := hh.p; rw [e1] at this; cases this
  have e1 : prime x.prime = true := by simpa using e1
  refine LoadX.same (v := vD x P) hb rfl ?_
  refine CallX.same (wide_c _ _ x (qx.reads S.le)) ?_
  rintro r g' ⟨rfl, rfl⟩
  refine CallX.same (between_c _ _ 1 4) ?_
  rintro r g' ⟨rfl, rfl⟩
  refine BIf.mk (fun e2 => ?_) (fun e2 => ?_)
  · have e2 : ¬ (1 ≤ dW x ∧ dW x ≤ 4) := by simp at e2; omega
    refine BIf.yes rfl ?_
    exact no _ S.le fun hh => e2 hh.w
  have e2 : 1 ≤ dW x ∧ dW x ≤ 4 := by simp at e2; omega
  refine LoadX.same (v := vD x P) hb rfl ?_
  refine CallX.same (high_c _ _ x (qx.reads S.le) e2.1) ?_
  rintro r g' ⟨rfl, rfl⟩
  refine CallX.same (between_c _ _ 1 4) ?_
  rintro r g' ⟨rfl, rfl⟩
  refine BIf.mk (fun e3 => ?_) (fun e3 => ?_)
  · have e3 : ¬ (1 ≤ dH x ∧ dH x ≤ 4) := by simp at e3; omega
    exact no _ S.le fun hh => e3 hh.h
  have e3 : 1 ≤ dH x ∧ dH x ≤ 4 := by simp at e3; omega
  refine LoadX.same (v := vD1 x P) hb rfl ?_
  rename AH => g
  refine ⟨⟨[1, 25, 26, 27], fun n' vs g2 => ∃ k : Nat, n' = dW x - k ∧ k ≤ dW x ∧ g2 = g ∧ (∀ i, i < k → (row x.dims i).length = dH x ∧ ∀ j, j < dH x → 0 ≤ ent x.dims i j ∧ ent x.dims i j ≤ 4) ∧ vs = [.pointer (some ⟨b, 0, none⟩), vD1 x P, .int .i64 (dW x), .int .i64 k], _, ⟨0, rfl, Nat.zero_le _, rfl, fun i hi => by omega, rfl⟩, ?_⟩⟩
  rintro n' vs g2 ⟨k, rfl, hk, rfl, hs, rfl⟩
  refine BIf.mk (fun h2 => ?_) (fun h2 => ?_)
  · have hlt : k < dW x := by simpa using h2
    refine IdxX.mk (by omega) (by show (k : Int) < (x.dims.length : Int); unfold dW at hlt; omega) ?_
    refine c1.rowY S.le (show k < x.dims.length from hlt) fun b4 o4 h4 => ?_
    refine DrawX.of Tt.tab follows_any [] [] [0, 1, 2, 3, 4, 5, 6, 7, 8] rfl (by kernel_rfl) (by kernel_rfl) ?_
    refine QCall.of (fun g2 hl => sizeI_c g2 _ _ _ _) rfl ?_
    refine LoadX.same (v := vD x P) hb rfl ?_
    refine QCall.of (fun g2 hl => high_c g2 _ x (qx.reads (S.le.trans hl)) e2.1) rfl ?_
    refine BIf.mk (fun e4 => ?_) (fun e4 => ?_)
    · have e4 : (row x.dims k).length ≠ dH x := by have e4 : ¬ ((row x.dims k).length : Int) = dH x := by simpa using e4
                                                   omega
      refine BIf.yes rfl ?_
      exact no _ S.le fun hh => e4 (hh.col k hlt)
    have e4 : (row x.dims k).length = dH x := by have e4 : ((row x.dims k).length : Int) = dH x := by simpa using e4
                                                 omega
    refine QCall.of (fun g2 hl => containsFuncI_c g2 _ (row x.dims k) _ _ (fun n => !decide (0 ≤ n ∧ n ≤ 4)) (RI.le _ _ _ _ (S.le.trans hl) h4) (fun n _ u hu => by subst hu; exact isDouble1_c _ n)) rfl ?_
    refine BIf.mk (fun e5 => ?_) (fun e5 => ?_)
    · refine no _ S.le fun hh => ?_
      obtain ⟨z, hz1, hz2⟩ := List.any_eq_true.1 e5
      obtain ⟨j, hj, rfl⟩ := List.getElem_of_mem hz1
      rw [ith_get hj] at hz2
      have := hh.num k hlt j (by omega)
      unfold ent at this
      simp at hz2
      omega
    refine WR.i64 ?_
    refine ⟨dW x - (k + 1), by omega, k + 1, rfl, hlt, rfl, fun i hi => ?_, rfl⟩
    by_cases hik : i = k
    · subst hik
      refine ⟨e4, fun j hj => ?_⟩
      have e5 := List.any_eq_false.1 e5 _ (ith_mem (show j < (row x.dims i).length by omega))
      unfold ent
      simp at e5
      omega
    · exact hs i (by omega)
  have hk2 : k = dW x := by simp at h2; omega
  subst hk2
  have hd : DHead x := ⟨e1, e2, e3, fun i hi => (hs i hi).1, fun i hi => (hs i hi).2⟩
  refine LoadX.same (v := vD x P) hb rfl ?_
  refine LoadX.same (v := vD2 x P) hb rfl ?_
  refine CallX.same (areTables_c _ _ _ x x.across (qx.reads S.le) (RIIII.le _ _ _ _ S.le qx.2.1) hd (fun i j => dimZ x (i - 1) j) _ _ fun g2 l i j hi hj => isDouble2_c g2 x P (QDouble.le (S.le.trans l) qx) hd b (l.at_ _ _ hb) i j (by omega)) ?_
  rintro r g' ⟨rfl, rfl⟩
  refine BIf.mk (fun e4 => ?_) (fun e4 => ?_)
  · have e4 : tabB x x.across (fun i j => dimZ x (i - 1) j) = false := by simpa using e4
    refine BIf.yes rfl ?_
    exact no _ S.le fun hh => tabB_no e4 hh.acr
  have e4 : tabB x x.across (fun i j => dimZ x (i - 1) j) = true := by simpa using e4
  refine LoadX.same (v := vD x P) hb rfl ?_
  refine LoadX.same (v := vD3 x P) hb rfl ?_
  refine CallX.same (areTables_c _ _ _ x x.down (qx.reads S.le) (RIIII.le _ _ _ _ S.le qx.2.2) hd (fun i j => dimZ x i (j - 1)) _ _ fun g2 l i j hi hj => isDouble3_c g2 x P (QDouble.le (S.le.trans l) qx) hd b (l.at_ _ _ hb) i j (by omega)) ?_
  rintro r g' ⟨rfl, rfl⟩
  refine BIf.mk (fun e5 => ?_) (fun e5 => ?_)
  · have e5 : tabB x x.down (fun i j => dimZ x i (j - 1)) = false := by simpa using e5
    exact no _ S.le fun hh => tabB_no e5 hh.dwn
  have e5 : tabB x x.down (fun i j => dimZ x i (j - 1)) = true := by simpa using e5
  have hd : DShape x := ⟨hd, tabB_mk e4, tabB_mk e5⟩
  refine S.new fun b7 g S => ?_
  refine S.put 0 rfl fun g S => ?_
  refine LoadX.same (v := vD x P) (S.at_ 1 rfl) rfl ?_
  refine SepM.does [] S (eachCell_c h.length h _ x (qx.reads (Le.refl _)) ⟨e2.1, e2.2, e3.2⟩ _ _ (StFine x P b7 b) (fun i j hi hj => isDouble4_c h.length h x P qx hd b7 b i j hi hj) (fun i Rs hi hs => by unfold StFine at hs ⊢; rw [hs, fine_col])) (Le.refl _) (by show _ = _; rw [fine_zero]; rfl) fun g' Rs' gl hs' S => ?_
  unfold StFine at hs'
  rw [fine_all hd] at hs'
  subst hs'
  refine LoadX.same (v := .bool (dOk x)) (S.at_ 0 rfl) rfl ?_
  exact FinX.keep hw S.le rfl ⟨rfl, rfl⟩

end Go.Gl

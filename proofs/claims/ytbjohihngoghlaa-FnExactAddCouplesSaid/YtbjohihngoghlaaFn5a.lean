/- Chapter 5: IsCouple. No condition. -/
import Derived.Test.YtbjohihngoghlaaFn1b
set_option linter.unusedVariables false
set_option linter.unusedSimpArgs false
namespace Go.Gl
open Go.Proofs Go.Proofs.Ytbjohihngoghlaa

def coupleOk (c : SCouple) : Bool := prime c.prime && decide (0 ≤ c.d ∧ c.d ≤ 24) && decide (0 ≤ c.e ∧ c.e ≤ 24) && decide ((c.i.length : Int) = c.d) && decide ((c.j.length : Int) = c.d) && decide ((c.k.length : Int) = c.e) && rowsOk c.prime c.d c.i && rowsOk c.prime c.e c.j && rowsOk c.prime c.d c.k
theorem prime_le {p : Int} (h : prime p = true) : 2 ≤ p ∧ p ≤ 7 := by
  unfold prime at h
  simp at h
  omega


theorem l05Is_c (h : AH) (v : Value) (x : SCouple) (hx : RCouple h v x) : ACalls Try.prog 102 [v] h (fun r h' => r = .bool (coupleOk x) ∧ h' = h) := by
  obtain ⟨b1, o1, b2, o2, b3, o3, kx, qx⟩ := hx.can
  refine ACalls.wk (args' := [.agg #[.int .i64 x.prime, .int .i64 x.d, .int .i64 x.e, .slice (some ⟨b1, o1, none⟩) x.i.length 0, .slice (some ⟨b2, o2, none⟩) x.j.length 0, .slice (some ⟨b3, o3, none⟩) x.k.length 0]]) ?_ (.cons kx .nil)
  refine ACalls.of Tt.tab Try.func102 rfl (by kernel_rfl) Try.ntmps102 _ rfl rfl (fun hw => ?_)
  refine NewX.intro fun ba h1 g1 l1 n1 => ?_
  obtain ⟨x1, x2, x3⟩ := qx.le g1
  refine LoadX.same l1 rfl ?_
  refine CallX.same (l01Prime_c _ x.prime) ?_
  rintro r hh ⟨rfl, rfl⟩
  refine BIf.mk (fun ha => ?_) (fun ha => ?_)
  · refine BIf.yes rfl (BIf.yes rfl (FinX.keep hw g1 rfl ⟨?_, rfl⟩))
    have ha : prime x.prime = false := by simpa using ha
    simp [coupleOk, ha]
  · have ha : prime x.prime = true := by simpa using ha
    refine LoadX.same l1 rfl ?_
    refine CallX.same (l01In_c _ x.d 0 24) ?_
    rintro r hh ⟨rfl, rfl⟩
    refine BIf.mk (fun hb => ?_) (fun hb => ?_)
    · refine BIf.yes rfl (FinX.keep hw g1 rfl ⟨?_, rfl⟩)
      have hb : decide (0 ≤ x.d ∧ x.d ≤ 24) = false := by simpa only [Bool.not_eq_true'] using hb
      simp [coupleOk, hb]
    · have hb : decide (0 ≤ x.d ∧ x.d ≤ 24) = true := by simpa using hb
      refine LoadX.same l1 rfl ?_
      refine CallX.same (l01In_c _ x.e 0 24) ?_
      rintro r hh ⟨rfl, rfl⟩
      refine BIf.mk (fun hc => ?_) (fun hc => ?_)
      · refine FinX.keep hw g1 rfl ⟨?_, rfl⟩
        have hc : decide (0 ≤ x.e ∧ x.e ≤ 24) = false := by simpa only [Bool.not_eq_true'] using hc
        simp [coupleOk, hc]
      · have hc : decide (0 ≤ x.e ∧ x.e ≤ 24) = true := by simpa using hc
        have hp := prime_le ha
        refine LoadX.same l1 rfl ?_
        refine LoadX.same l1 rfl ?_
        refine LoadX.same l1 rfl ?_
        refine LoadX.same l1 rfl ?_
        refine CallX.same (l01Table_c _ x.prime x.d x.d _ x.i hp x1) ?_
        rintro r hh ⟨rfl, rfl⟩
        refine BIf.mk (fun hd => ?_) (fun hd => ?_)
        · refine LoadX.same l1 rfl ?_
          refine LoadX.same l1 rfl ?_
          refine LoadX.same l1 rfl ?_
          refine LoadX.same l1 rfl ?_
          refine CallX.same (l01Table_c _ x.prime x.d x.e _ x.j hp x2) ?_
          rintro r hh ⟨rfl, rfl⟩
          refine BIf.mk (fun he => ?_) (fun he => ?_)
          · refine LoadX.same l1 rfl ?_
            refine LoadX.same l1 rfl ?_
            refine LoadX.same l1 rfl ?_
            refine LoadX.same l1 rfl ?_
            refine CallX.same (l01Table_c _ x.prime x.e x.d _ x.k hp x3) ?_
            rintro r hh ⟨rfl, rfl⟩
            refine FinX.keep hw g1 rfl ⟨?_, rfl⟩
            simp only [Bool.and_eq_true] at hd he
            simp [coupleOk, ha, hb, hc, hd, he]
          · refine FinX.keep hw g1 rfl ⟨?_, rfl⟩
            simp only [Bool.and_eq_false_iff] at he
            rcases he with he | he <;> simp [coupleOk, he]
        · refine BIf.no rfl (FinX.keep hw g1 rfl ⟨?_, rfl⟩)
          simp only [Bool.and_eq_false_iff] at hd
          rcases hd with hd | hd <;> simp [coupleOk, hd]

theorem isCoupleI_c (h : AH) (v : Value) (x : SCouple) (hx : RCouple h v x) : ACalls Try.prog 105 [v] h (fun r h' => r = .bool (coupleOk x) ∧ h' = h) := by
  obtain ⟨b1, o1, b2, o2, b3, o3, kx, qx⟩ := hx.can
  refine ACalls.wk (args' := [.agg #[.int .i64 x.prime, .int .i64 x.d, .int .i64 x.e, .slice (some ⟨b1, o1, none⟩) x.i.length 0, .slice (some ⟨b2, o2, none⟩) x.j.length 0, .slice (some ⟨b3, o3, none⟩) x.k.length 0]]) ?_ (.cons kx .nil)
  refine ACalls.of Tt.tab Try.func105 rfl (by kernel_rfl) Try.ntmps105 _ rfl rfl (fun hw => ?_)
  refine NewX.intro fun ba h1 g1 l1 n1 => ?_
  obtain ⟨x1, x2, x3⟩ := qx.le g1
  refine DrawX.of Tt.tab follows_any [] [] [0, 1, 2, 3, 4, 5, 6, 7, 8, 9, 10, 11, 12, 13, 14, 15, 16, 17, 18, 19, 20, 21, 22, 23, 24, 25, 26, 27, 28, 29, 30, 31, 32, 33, 34, 35, 36, 37, 38, 39, 40, 41, 42, 43, 44, 45, 46, 47, 48, 49, 50, 51, 52, 53, 54, 55, 56, 57, 58, 59, 60, 61, 62, 63, 64] rfl (by kernel_rfl) (by kernel_rfl) ?_
  refine LoadX.same l1 rfl ?_
  refine QCall.of (fun h2 hl => isPrime_c h2 x.prime) rfl ?_
  refine BIf.mk (fun ha => ?_) (fun ha => ?_)
  case refine_2 =>
    refine BIf.no rfl (BIf.no rfl (BIf.no rfl (BIf.no rfl (BIf.no rfl (BIf.no rfl (BIf.no rfl (FinX.keep hw g1 rfl ⟨?_, rfl⟩)))))))
    simp [coupleOk, ha]
  have hp := prime_le ha
  refine LoadX.same l1 rfl ?_
  refine QCall.of (fun h2 hl => between_c h2 x.d 0 24) rfl ?_
  refine BIf.mk (fun hb => ?_) (fun hb => ?_)
  case refine_2 =>
    refine BIf.no rfl (BIf.no rfl (BIf.no rfl (BIf.no rfl (BIf.no rfl (BIf.no rfl (FinX.keep hw g1 rfl ⟨?_, rfl⟩))))))
    simp [coupleOk, hb]
  refine LoadX.same l1 rfl ?_
  refine QCall.of (fun h2 hl => between_c h2 x.e 0 24) rfl ?_
  refine BIf.mk (fun hc => ?_) (fun hc => ?_)
  case refine_2 =>
    refine BIf.no rfl (BIf.no rfl (BIf.no rfl (BIf.no rfl (BIf.no rfl (FinX.keep hw g1 rfl ⟨?_, rfl⟩)))))
    simp [coupleOk, hc]
  refine LoadX.same l1 rfl ?_
  refine QCall.of (fun h2 hl => sizeII_c h2 _ _ _ _) rfl ?_
  refine LoadX.same l1 rfl ?_
  refine BIf.mk (fun hd => ?_) (fun hd => ?_)
  case refine_2 =>
    refine BIf.no rfl (BIf.no rfl (BIf.no rfl (BIf.no rfl (FinX.keep hw g1 rfl ⟨?_, rfl⟩))))
    have hd : ¬ (x.i.length : Int) = x.d := by simpa using hd
    simp [coupleOk, hd]
  refine LoadX.same l1 rfl ?_
  refine QCall.of (fun h2 hl => sizeII_c h2 _ _ _ _) rfl ?_
  refine LoadX.same l1 rfl ?_
  refine BIf.mk (fun he => ?_) (fun he => ?_)
  case refine_2 =>
    refine BIf.no rfl (BIf.no rfl (BIf.no rfl (FinX.keep hw g1 rfl ⟨?_, rfl⟩)))
    have he : ¬ (x.j.length : Int) = x.d := by simpa using he
    simp [coupleOk, he]
  refine LoadX.same l1 rfl ?_
  refine QCall.of (fun h2 hl => sizeII_c h2 _ _ _ _) rfl ?_
  refine LoadX.same l1 rfl ?_
  refine BIf.mk (fun hf => ?_) (fun hf => ?_)
  case refine_2 =>
    refine BIf.no rfl (BIf.no rfl (FinX.keep hw g1 rfl ⟨?_, rfl⟩))
    have hf : ¬ (x.k.length : Int) = x.e := by simpa using hf
    simp [coupleOk, hf]
  refine LoadX.same l1 rfl ?_
  refine LoadX.same l1 rfl ?_
  refine LoadX.same l1 rfl ?_
  refine QCall.of (fun h2 hl => areRows_c h2 x.prime x.d _ x.i hp (RII.le _ _ _ _ hl x1)) rfl ?_
  refine BIf.mk (fun hi => ?_) (fun hi => ?_)
  case refine_2 =>
    refine BIf.no rfl (FinX.keep hw g1 rfl ⟨?_, rfl⟩)
    simp [coupleOk, hi]
  refine LoadX.same l1 rfl ?_
  refine LoadX.same l1 rfl ?_
  refine LoadX.same l1 rfl ?_
  refine QCall.of (fun h2 hl => areRows_c h2 x.prime x.e _ x.j hp (RII.le _ _ _ _ hl x2)) rfl ?_
  refine BIf.mk (fun hj => ?_) (fun hj => ?_)
  case refine_2 =>
    refine FinX.keep hw g1 rfl ⟨?_, rfl⟩
    simp [coupleOk, hj]
  refine LoadX.same l1 rfl ?_
  refine LoadX.same l1 rfl ?_
  refine LoadX.same l1 rfl ?_
  refine QCall.of (fun h2 hl => areRows_c h2 x.prime x.d _ x.k hp (RII.le _ _ _ _ hl x3)) rfl ?_
  refine FinX.keep hw g1 rfl ⟨?_, rfl⟩
  have hd : (x.i.length : Int) = x.d := by simpa using hd
  have he : (x.j.length : Int) = x.d := by simpa using he
  have hf : (x.k.length : Int) = x.e := by simpa using hf
  have hb : 0 ≤ x.d ∧ x.d ≤ 24 := by simpa using hb
  have hc : 0 ≤ x.e ∧ x.e ≤ 24 := by simpa using hc
  simp [coupleOk, ha, hb, hc, hd, he, hf, hi, hj]

end Go.Gl

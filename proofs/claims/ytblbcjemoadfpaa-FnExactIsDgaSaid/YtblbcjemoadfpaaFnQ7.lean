/- Chapter 10: products and differentials in algebras, both sides; copies of the law's values. No condition. -/
import Derived.Test.YtblbcjemoadfpaaFnQ6
set_option linter.unusedVariables false
set_option linter.unusedSimpArgs false
namespace Go.Gl
open Go.Proofs Go.Proofs.Ytblbcjemoadfpaa Go.Pl

/-- the code of what is one or is none -/
noncomputable def codeE (p : Prop) : Int := if bo p = true then 0 else 1
noncomputable def pickE (p : Prop) (u : List Int) : List Int := if bo p = true then u else z8
theorem codeE_yes {p : Prop} (h : p) : codeE p = 0 := by unfold codeE; rw [if_pos (bo_true h)]
theorem codeE_no {p : Prop} (h : ¬ p) : codeE p = 1 := by unfold codeE; rw [if_neg (by rw [bo_false h]; decide)]
theorem pickE_yes {p : Prop} {u : List Int} (h : p) : pickE p u = u := by unfold pickE; rw [if_pos (bo_true h)]
theorem pickE_no {p : Prop} {u : List Int} (h : ¬ p) : pickE p u = z8 := by unfold pickE; rw [if_neg (by rw [bo_false h]; decide)]
theorem pickE_length {p : Prop} {u : List Int} (h : u.length = 8) : (pickE p u).length = 8 := by
  unfold pickE; split
  · exact h
  · rfl

theorem l10Code_c (h : AH) (I B : List Int) (gx : GL I B) (hB : BB B) (b k c : Nat) (xs : List Int) (own : Option (TypeId × Nat)) (hl : look h b = some ⟨xs.map (.int .u8), own⟩) (hx : xs.length = k * 8) (hk : k ≤ 2) (hb : ∀ i, i < k → Byt (sub xs (i * 8) 8)) :
    ACalls Try.prog 55 [vG I B, .slice (some ⟨b, 0, none⟩) k c] h (fun r h' => r = .int .i64 (codeE (Alg I B ∧ ∀ i, i < k → Small (pr I) (sz I) (sub xs (i * 8) 8))) ∧ h' = h) := by
  refine ACalls.of Tt.tab Try.func55 rfl (by kernel_rfl) Try.ntmps55 _ rfl rfl (fun hw => ?_)
  have S := Sep.start h
  refine S.boxG gx fun b2 g S => ?_
  refine LoadX.same (S.at_ 0 rfl) (ldGG gx) ?_
  refine CallX.same (l10Is_c _ I B gx hB) ?_
  rintro r g ⟨rfl, rfl⟩
  refine BIf.mk (fun h1 => ?_) (fun h1 => ?_)
  · refine FinX.keep hw S.le rfl ⟨congrArg (Value.int .i64) (codeE_no fun F => ?_).symm, rfl⟩
    exact not_of_bo (by simpa using h1) F.1
  have A : Alg I B := not_not_bo h1
  clear h1
  refine ⟨⟨[1, 2, 5], fun n' vs g => ∃ i : Nat, n' = k - i ∧ i ≤ k ∧ (∀ j, j < i → Small (pr I) (sz I) (sub xs (j * 8) 8)) ∧ Sep h.length h g [.bx b2 28 594 (cG I B)] ∧
    vs = [.slice (some ⟨b, 0, none⟩) k c, .pointer (some ⟨b2, 0, none⟩), .int .i64 i], _, ⟨0, rfl, Nat.zero_le _, fun j hj => by omega, S, rfl⟩, ?_⟩⟩
  clear S
  rintro n' vs g ⟨i, rfl, hi, he, S, rfl⟩
  refine BIf.mk (fun h2 => ?_) (fun h2 => ?_)
  · have hlt : i < k := by simp at h2; omega
    refine DrawX.of Tt.tab follows_any [] [] [0, 1, 2, 3, 4, 5, 6, 7, 8, 9] rfl (by kernel_rfl) (by kernel_rfl) ?_
    refine LoadX.same (v := .int .i64 (pr I)) (S.at_ 0 rfl) (ldG gx (j := 0) (by omega)) ?_
    refine LoadX.same (v := .int .i64 (sz I)) (S.at_ 0 rfl) (ldG gx (j := 1) (by omega)) ?_
    refine IdxX.mk (by omega) (by omega) ?_
    refine LoadX.same (v := vA .u8 (sub xs (i * 8) 8)) (S.le.at_ _ _ hl) (ldvA0 (j := i) (by omega)) ?_
    refine QCall.of (fun g2 hl => l10Small_c g2 _ _ _ (hb i hlt)) rfl ?_
    refine BIf.mk (fun h3 => ?_) (fun h3 => ?_)
    · refine FinX.keep hw S.le rfl ⟨congrArg (Value.int .i64) (codeE_no fun F => ?_).symm, rfl⟩
      exact not_of_bo (by simpa using h3) (F.2 i hlt)
    refine WR.i64 ?_
    exact ⟨k - (i + 1), by omega, i + 1, rfl, hlt, fun j hj => by
      by_cases e : j = i
      · subst e; exact not_not_bo h3
      · exact he j (by omega), S, rfl⟩
  have hi2 : i = k := by simp at h2; omega
  subst hi2
  refine FinX.keep hw S.le rfl ⟨congrArg (Value.int .i64) (codeE_yes ⟨A, he⟩).symm, rfl⟩

theorem isDgaS_c (h : AH) (I B : List Int) (gx : GL I B) (hB : BB B) : ACalls Try.prog 12 [vG I B] h (fun r h' => r = .bool (bo (Alg I B)) ∧ h' = h) := by
  refine ACalls.of Tt.tab Try.func12 rfl (by kernel_rfl) Try.ntmps12 _ rfl rfl (fun hw => ?_)
  have S := Sep.start h
  refine S.boxG gx fun b1 g S => ?_
  refine LoadX.same (S.at_ 0 rfl) (ldGG gx) ?_
  refine CallX.same (l10Is_c _ I B gx hB) ?_
  rintro r g ⟨rfl, rfl⟩
  exact FinX.keep hw S.le rfl ⟨rfl, rfl⟩

theorem mulI_c (h : AH) (I B u v : List Int) (gx : GL I B) (hB : BB B) (hu : Byt u) (hv : Byt v) : ACalls Try.prog 20 [vG I B, vA .u8 u, vA .u8 v] h (fun r h' => r = .tuple #[vA .u8 (pickE (Alg I B ∧ Small (pr I) (sz I) u ∧ Small (pr I) (sz I) v) (times (pr I) B u v)), .int .i64 (codeE (Alg I B ∧ Small (pr I) (sz I) u ∧ Small (pr I) (sz I) v))] ∧ h' = h) := by
  refine ACalls.of Tt.tab Try.func20 rfl (by kernel_rfl) Try.ntmps20 _ rfl rfl (fun hw => ?_)
  have S := Sep.start h
  refine S.boxG gx fun b3 g S => ?_
  refine S.boxA hu.1 fun b4 g S => ?_
  refine S.boxA hv.1 fun b5 g S => ?_
  refine S.new fun b6 g S => ?_
  refine LoadX.same (S.at_ 3 rfl) (ldGG gx) ?_
  refine CallX.same (isDgaI_c _ I B gx hB) ?_
  rintro r g ⟨rfl, rfl⟩
  refine BIf.mk (fun h1 => ?_) (fun h1 => ?_)
  · refine BIf.yes rfl ?_
    refine BIf.yes rfl ?_
    refine S.putA (ys := z8) 0 rfl rfl rfl fun g S => ?_
    refine LoadX.same (S.at_ 0 rfl) (ldAll (xs := z8) rfl) ?_
    have hn : ¬ (Alg I B ∧ Small (pr I) (sz I) u ∧ Small (pr I) (sz I) v) := fun F => not_of_bo (by simpa using h1) F.1
    exact FinX.low hw S.le (low_two (low_vA _ _) (VR.const rfl)) ⟨by rw [pickE_no hn, codeE_no hn], rfl⟩
  have A : Alg I B := not_not_bo h1
  clear h1
  refine LoadX.same (S.at_ 3 rfl) (ldGG gx) ?_
  refine LoadX.same (S.at_ 2 rfl) (ldAll hu.1) ?_
  refine CallX.same (isElement_c _ I B u gx hu) ?_
  rintro r g ⟨rfl, rfl⟩
  refine BIf.mk (fun h1 => ?_) (fun h1 => ?_)
  · refine BIf.yes rfl ?_
    refine S.putA (ys := z8) 0 rfl rfl rfl fun g S => ?_
    refine LoadX.same (S.at_ 0 rfl) (ldAll (xs := z8) rfl) ?_
    have hn : ¬ (Alg I B ∧ Small (pr I) (sz I) u ∧ Small (pr I) (sz I) v) := fun F => not_of_bo (by simpa using h1) F.2.1
    exact FinX.low hw S.le (low_two (low_vA _ _) (VR.const rfl)) ⟨by rw [pickE_no hn, codeE_no hn], rfl⟩
  have su := not_not_bo h1
  clear h1
  refine LoadX.same (S.at_ 3 rfl) (ldGG gx) ?_
  refine LoadX.same (S.at_ 1 rfl) (ldAll hv.1) ?_
  refine CallX.same (isElement_c _ I B v gx hv) ?_
  rintro r g ⟨rfl, rfl⟩
  refine BIf.mk (fun h1 => ?_) (fun h1 => ?_)
  · refine S.putA (ys := z8) 0 rfl rfl rfl fun g S => ?_
    refine LoadX.same (S.at_ 0 rfl) (ldAll (xs := z8) rfl) ?_
    have hn : ¬ (Alg I B ∧ Small (pr I) (sz I) u ∧ Small (pr I) (sz I) v) := fun F => not_of_bo (by simpa using h1) F.2.2
    exact FinX.low hw S.le (low_two (low_vA _ _) (VR.const rfl)) ⟨by rw [pickE_no hn, codeE_no hn], rfl⟩
  have sv := not_not_bo h1
  have hp := A.f.bd
  refine LoadX.same (S.at_ 3 rfl) (ldGG gx) ?_
  refine LoadX.same (S.at_ 2 rfl) (ldAll hu.1) ?_
  refine LoadX.same (S.at_ 1 rfl) (ldAll hv.1) ?_
  refine CallX.same (timesI_c _ I B u v gx hB hp hu hv ((su.red hu (by omega)).low hp.2) ((sv.red hv (by omega)).low hp.2)) ?_
  rintro r g ⟨rfl, rfl⟩
  refine S.putA 0 rfl (times_red hp |>.1) rfl fun g S => ?_
  refine LoadX.same (S.at_ 0 rfl) (ldAll (times_red hp |>.1)) ?_
  exact FinX.low hw S.le (low_two (low_vA _ _) (VR.const rfl)) ⟨by rw [pickE_yes ⟨A, su, sv⟩, codeE_yes ⟨A, su, sv⟩], rfl⟩

theorem difInI_c (h : AH) (I B u : List Int) (gx : GL I B) (hB : BB B) (hu : Byt u) : ACalls Try.prog 17 [vG I B, vA .u8 u] h (fun r h' => r = .tuple #[vA .u8 (pickE (Alg I B ∧ Small (pr I) (sz I) u) (dif (pr I) B u)), .int .i64 (codeE (Alg I B ∧ Small (pr I) (sz I) u))] ∧ h' = h) := by
  refine ACalls.of Tt.tab Try.func17 rfl (by kernel_rfl) Try.ntmps17 _ rfl rfl (fun hw => ?_)
  have S := Sep.start h
  refine S.boxG gx fun b3 g S => ?_
  refine S.boxA hu.1 fun b4 g S => ?_
  refine S.new fun b6 g S => ?_
  refine LoadX.same (S.at_ 2 rfl) (ldGG gx) ?_
  refine CallX.same (isDgaI_c _ I B gx hB) ?_
  rintro r g ⟨rfl, rfl⟩
  refine BIf.mk (fun h1 => ?_) (fun h1 => ?_)
  · refine BIf.yes rfl ?_
    refine S.putA (ys := z8) 0 rfl rfl rfl fun g S => ?_
    refine LoadX.same (S.at_ 0 rfl) (ldAll (xs := z8) rfl) ?_
    have hn : ¬ (Alg I B ∧ Small (pr I) (sz I) u) := fun F => not_of_bo (by simpa using h1) F.1
    exact FinX.low hw S.le (low_two (low_vA _ _) (VR.const rfl)) ⟨by rw [pickE_no hn, codeE_no hn], rfl⟩
  have A : Alg I B := not_not_bo h1
  clear h1
  refine LoadX.same (S.at_ 2 rfl) (ldGG gx) ?_
  refine LoadX.same (S.at_ 1 rfl) (ldAll hu.1) ?_
  refine CallX.same (isElement_c _ I B u gx hu) ?_
  rintro r g ⟨rfl, rfl⟩
  refine BIf.mk (fun h1 => ?_) (fun h1 => ?_)
  · refine S.putA (ys := z8) 0 rfl rfl rfl fun g S => ?_
    refine LoadX.same (S.at_ 0 rfl) (ldAll (xs := z8) rfl) ?_
    have hn : ¬ (Alg I B ∧ Small (pr I) (sz I) u) := fun F => not_of_bo (by simpa using h1) F.2
    exact FinX.low hw S.le (low_two (low_vA _ _) (VR.const rfl)) ⟨by rw [pickE_no hn, codeE_no hn], rfl⟩
  have su := not_not_bo h1
  have hp := A.f.bd
  refine LoadX.same (S.at_ 2 rfl) (ldGG gx) ?_
  refine LoadX.same (S.at_ 1 rfl) (ldAll hu.1) ?_
  refine CallX.same (difI_c _ I B u gx hB hp hu) ?_
  rintro r g ⟨rfl, rfl⟩
  refine S.putA 0 rfl (dif_red hp |>.1) rfl fun g S => ?_
  refine LoadX.same (S.at_ 0 rfl) (ldAll (dif_red hp |>.1)) ?_
  exact FinX.low hw S.le (low_two (low_vA _ _) (VR.const rfl)) ⟨by rw [pickE_yes ⟨A, su⟩, codeE_yes ⟨A, su⟩], rfl⟩
theorem all1 {Q : Nat → Prop} : (∀ i : Nat, i < 1 → Q i) ↔ Q 0 := by
  refine ⟨fun h => h 0 (by omega), fun h i hi => ?_⟩
  have e : i = 0 := by omega
  rw [e]; exact h
theorem all2 {Q : Nat → Prop} : (∀ i : Nat, i < 2 → Q i) ↔ Q 0 ∧ Q 1 := by
  refine ⟨fun h => ⟨h 0 (by omega), h 1 (by omega)⟩, fun h i hi => ?_⟩
  by_cases e : i = 0
  · rw [e]; exact h.1
  · have e : i = 1 := by omega
    rw [e]; exact h.2
theorem codeE_congr {p q : Prop} (h : p ↔ q) : codeE p = codeE q := by rw [propext h]
theorem fill1 {zs : List Value} {u : List Int} (hu : u.length = 8) (hz : zs.length = 8) : setCells zs 0 (u.map (Value.int .u8)) = u.map (.int .u8) := by
  unfold setCells
  rw [List.take_zero, List.nil_append, List.drop_eq_nil_of_le (by simp; omega), List.append_nil]
theorem fill2 {zs : List Value} {u v : List Int} (hu : u.length = 8) (hv : v.length = 8) (hz : zs.length = 16) : setCells (setCells zs 0 (u.map (Value.int .u8))) 8 (v.map (Value.int .u8)) = (u ++ v).map (.int .u8) := by
  have e : setCells zs 0 (u.map (Value.int .u8)) = u.map (.int .u8) ++ zs.drop 8 := by
    unfold setCells
    rw [List.take_zero, List.nil_append, List.length_map, hu]
  rw [e]
  unfold setCells
  rw [List.take_left' (by simp [hu]), List.drop_append, List.drop_eq_nil_of_le (by simp; omega), List.nil_append, List.drop_eq_nil_of_le (by simp; omega), List.append_nil, List.map_append]
theorem sub_left {u v : List Int} (hu : u.length = 8) : sub (u ++ v) (0 * 8) 8 = u := by
  unfold sub
  rw [Nat.zero_mul, List.drop_zero, ← hu, List.take_left]
theorem sub_right {u v : List Int} (hu : u.length = 8) (hv : v.length = 8) : sub (u ++ v) (1 * 8) 8 = v := by
  unfold sub
  rw [Nat.one_mul, List.drop_left' hu, List.take_of_length_le (by omega)]
theorem sub_one {u : List Int} (hu : u.length = 8) : sub u (0 * 8) 8 = u := by
  unfold sub
  rw [Nat.zero_mul, List.drop_zero, List.take_of_length_le (by omega)]

theorem mulS_c (h : AH) (I B u v : List Int) (gx : GL I B) (hB : BB B) (hu : Byt u) (hv : Byt v) : ACalls Try.prog 19 [vG I B, vA .u8 u, vA .u8 v] h (fun r h' => r = .tuple #[vA .u8 (pickE (Alg I B ∧ Small (pr I) (sz I) u ∧ Small (pr I) (sz I) v) (times (pr I) B u v)), .int .i64 (codeE (Alg I B ∧ Small (pr I) (sz I) u ∧ Small (pr I) (sz I) v))] ∧ h' = h) := by
  refine ACalls.of Tt.tab Try.func19 rfl (by kernel_rfl) Try.ntmps19 _ rfl rfl (fun hw => ?_)
  have S := Sep.start h
  refine S.boxG gx fun b3 g S => ?_
  refine S.boxA hu.1 fun b4 g S => ?_
  refine S.boxA hv.1 fun b5 g S => ?_
  refine S.new fun b6 g S => ?_
  refine LoadX.same (S.at_ 3 rfl) (ldGG gx) ?_
  refine LoadX.same (S.at_ 2 rfl) (ldAll hu.1) ?_
  refine LoadX.same (S.at_ 1 rfl) (ldAll hv.1) ?_
  refine onT_mk (by
    show ((Nat.beq (u.map (Value.int .u8)).length 8 && (u.map (Value.int .u8)).all one1 && Nat.blt 0 2) && ((Nat.beq (v.map (Value.int .u8)).length 8 && (v.map (Value.int .u8)).all one1 && Nat.blt 1 2) && true)) = true
    rw [List.length_map, List.length_map, hu.1, hv.1, onesK, onesK]; rfl) ?_
  refine S.new fun b7 g S => ?_
  have hl : look g b7 = some ⟨(u ++ v).map (.int .u8), some (24, 8)⟩ := by
    rw [← fill2 (zs := (List.replicate 2 (Tt.ti24).zero).flatten) hu.1 hv.1 rfl]
    exact S.at_ 0 rfl
  refine CallX.same (l10Code_c _ I B gx hB b7 2 1 (u ++ v) _ hl (by simp [hu.1, hv.1]) (by omega) (all2.2 ⟨by rw [sub_left hu.1]; exact hu, by rw [sub_right hu.1 hv.1]; exact hv⟩)) ?_
  rintro r g ⟨rfl, rfl⟩
  have eq : (Alg I B ∧ ∀ i : Nat, i < 2 → Small (pr I) (sz I) (sub (u ++ v) (i * 8) 8)) ↔ (Alg I B ∧ Small (pr I) (sz I) u ∧ Small (pr I) (sz I) v) := by
    rw [all2 (Q := fun i => Small (pr I) (sz I) (sub (u ++ v) (i * 8) 8)), sub_left hu.1, sub_right hu.1 hv.1]
  rw [codeE_congr eq]
  by_cases hc : Alg I B ∧ Small (pr I) (sz I) u ∧ Small (pr I) (sz I) v
  · rw [codeE_yes hc]
    obtain ⟨A, su, sv⟩ := hc
    have hp := A.f.bd
    have hs := A.f.s
    refine BIf.no rfl ?_
    refine LoadX.same (S.at_ 4 rfl) (ldGG gx) ?_
    refine LoadX.same (S.at_ 3 rfl) (ldAll hu.1) ?_
    refine LoadX.same (S.at_ 2 rfl) (ldAll hv.1) ?_
    refine CallX.same (timesS_c _ I B u v (sz I).toNat (by omega) (by omega) gx hB hp hu hv ((su.red hu (by omega)).low hp.2) ((sv.red hv (by omega)).low hp.2) su sv) ?_
    rintro r g ⟨rfl, rfl⟩
    refine S.putA 1 rfl (times_red hp |>.1) rfl fun g S => ?_
    refine LoadX.same (S.at_ 1 rfl) (ldAll (times_red hp |>.1)) ?_
    exact FinX.low hw S.le (low_two (low_vA _ _) (VR.const rfl)) ⟨by rw [pickE_yes ⟨A, su, sv⟩], rfl⟩
  · rw [codeE_no hc]
    refine BIf.yes rfl ?_
    refine S.putA (ys := z8) 1 rfl rfl rfl fun g S => ?_
    refine LoadX.same (S.at_ 1 rfl) (ldAll (xs := z8) rfl) ?_
    exact FinX.low hw S.le (low_two (low_vA _ _) (VR.const rfl)) ⟨by rw [pickE_no hc], rfl⟩

theorem difInS_c (h : AH) (I B u : List Int) (gx : GL I B) (hB : BB B) (hu : Byt u) : ACalls Try.prog 15 [vG I B, vA .u8 u] h (fun r h' => r = .tuple #[vA .u8 (pickE (Alg I B ∧ Small (pr I) (sz I) u) (dif (pr I) B u)), .int .i64 (codeE (Alg I B ∧ Small (pr I) (sz I) u))] ∧ h' = h) := by
  refine ACalls.of Tt.tab Try.func15 rfl (by kernel_rfl) Try.ntmps15 _ rfl rfl (fun hw => ?_)
  have S := Sep.start h
  refine S.boxG gx fun b3 g S => ?_
  refine S.boxA hu.1 fun b4 g S => ?_
  refine S.new fun b6 g S => ?_
  refine LoadX.same (S.at_ 2 rfl) (ldGG gx) ?_
  refine LoadX.same (S.at_ 1 rfl) (ldAll hu.1) ?_
  refine onT_mk (by
    show ((Nat.beq (u.map (Value.int .u8)).length 8 && (u.map (Value.int .u8)).all one1 && Nat.blt 0 1) && true) = true
    rw [List.length_map, hu.1, onesK]; rfl) ?_
  refine S.new fun b7 g S => ?_
  have hl : look g b7 = some ⟨u.map (.int .u8), some (24, 8)⟩ := by
    rw [← fill1 (zs := (List.replicate 1 (Tt.ti24).zero).flatten) hu.1 rfl]
    exact S.at_ 0 rfl
  refine CallX.same (l10Code_c _ I B gx hB b7 1 1 u _ hl (by simp [hu.1]) (by omega) (all1.2 (by rw [sub_one hu.1]; exact hu))) ?_
  rintro r g ⟨rfl, rfl⟩
  have eq : (Alg I B ∧ ∀ i : Nat, i < 1 → Small (pr I) (sz I) (sub u (i * 8) 8)) ↔ (Alg I B ∧ Small (pr I) (sz I) u) := by
    rw [all1 (Q := fun i => Small (pr I) (sz I) (sub u (i * 8) 8)), sub_one hu.1]
  rw [codeE_congr eq]
  by_cases hc : Alg I B ∧ Small (pr I) (sz I) u
  · rw [codeE_yes hc]
    obtain ⟨A, su⟩ := hc
    have hp := A.f.bd
    have hs := A.f.s
    refine BIf.no rfl ?_
    refine LoadX.same (S.at_ 3 rfl) (ldGG gx) ?_
    refine LoadX.same (S.at_ 2 rfl) (ldAll hu.1) ?_
    refine CallX.same (difS_c _ I B u (sz I).toNat (by omega) (by omega) gx hB hp hu su) ?_
    rintro r g ⟨rfl, rfl⟩
    refine S.putA 1 rfl (dif_red hp |>.1) rfl fun g S => ?_
    refine LoadX.same (S.at_ 1 rfl) (ldAll (dif_red hp |>.1)) ?_
    exact FinX.low hw S.le (low_two (low_vA _ _) (VR.const rfl)) ⟨by rw [pickE_yes ⟨A, su⟩], rfl⟩
  · rw [codeE_no hc]
    refine BIf.yes rfl ?_
    refine S.putA (ys := z8) 1 rfl rfl rfl fun g S => ?_
    refine LoadX.same (S.at_ 1 rfl) (ldAll (xs := z8) rfl) ?_
    exact FinX.low hw S.le (low_two (low_vA _ _) (VR.const rfl)) ⟨by rw [pickE_no hc], rfl⟩

end Go.Gl

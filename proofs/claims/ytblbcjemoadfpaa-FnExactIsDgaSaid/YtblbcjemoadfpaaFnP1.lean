/- Chapter 10: algebras as rows of numbers; the law's helpers on them. No condition. -/
import Derived.Test.YtblbcjemoadfpaaGlT
import Derived.Test.YtblbcjemoadfpaaGlN
import Derived.Test.YtblbcjemoadfpaaFn1b
set_option linter.unusedVariables false
set_option linter.unusedSimpArgs false
namespace Go.Gl
open Go.Proofs Go.Proofs.Ytblbcjemoadfpaa Go.Pl

theorem onT_mk {b : Bool} {p : Prop} (hb : b = true) (hp : p) : onT b p := by subst hb; exact hp
def sub (xs : List Int) (o n : Nat) : List Int := (xs.drop o).take n
theorem sub_length {xs : List Int} {o n : Nat} (h : o + n ≤ xs.length) : (sub xs o n).length = n := by simp [sub]; omega
theorem sub_ith {xs : List Int} {o n i : Nat} (hi : i < n) : ith (sub xs o n) i = ith xs (o + i) := by simp [ith, sub, List.getElem?_take, hi]
theorem sub_sub {xs : List Int} {o n a m : Nat} (h : a + m ≤ n) : sub (sub xs o n) a m = sub xs (o + a) m := by
  unfold sub
  rw [List.drop_take, List.drop_drop, List.take_take, Nat.min_eq_left (by omega)]
theorem sub_all {xs : List Int} {n : Nat} (h : xs.length = n) : sub xs 0 n = xs := by subst h; simp [sub]
/-- rows of numbers are equal when their parts are -/
theorem sub_ext {xs ys : List Int} {m s : Nat} (hx : xs.length = m * s) (hy : ys.length = m * s) (h : ∀ i, i < m → sub xs (i * s) s = sub ys (i * s) s) : xs = ys := by
  refine ext_ith (by rw [hx, hy]) fun j hj => ?_
  rw [hx] at hj
  have hs : 0 < s := Nat.pos_of_ne_zero fun e => by subst e; simp at hj
  have h1 : j / s < m := Nat.div_lt_of_lt_mul (by rw [Nat.mul_comm]; exact hj)
  have h2 : j % s < s := Nat.mod_lt _ hs
  have e := congrArg (fun l => ith l (j % s)) (h _ h1)
  simp only [sub_ith h2] at e
  rwa [show j / s * s + j % s = j by rw [Nat.mul_comm]; exact Nat.div_add_mod j s] at e
abbrev vA (k : IntKind) (xs : List Int) : Value := .agg (xs.map (.int k)).toArray
theorem ldvK {i : TI} {k : IntKind} {xs : List Int} {o : Nat} (ho : o < xs.length) (hi : i.agg = false := by rfl) : ldv i (xs.map (Value.int k)) o = some (.int k (ith xs o)) := by
  unfold ldv
  rw [hi]
  simp [ith, List.getElem?_eq_getElem ho]
theorem ldvA {i : TI} {k : IntKind} {xs : List Int} {o s : Nat} (ho : o + s ≤ xs.length) (hi : i.agg = true := by rfl) (hs : i.size = s := by rfl) : ldv i (xs.map (Value.int k)) o = some (vA k (sub xs o s)) := by
  subst hs
  have e : ((xs.map (Value.int k)).drop o).take i.size = (sub xs o i.size).map (.int k) := by rw [← List.map_drop, ← List.map_take]; rfl
  have hl : ((sub xs o i.size).map (Value.int k)).length = i.size := by rw [List.length_map, sub_length ho]
  unfold ldv
  rw [hi, e, hl]
  simp
theorem ldvK0 {i : TI} {k : IntKind} {xs : List Int} {a j : Nat} (ho : j < xs.length) (ha : a = 0 + j := by rfl) (hi : i.agg = false := by rfl) : ldv i (xs.map (Value.int k)) a = some (.int k (ith xs j)) := by
  subst ha
  rw [Nat.zero_add]
  exact ldvK ho hi
theorem ldvA0 {i : TI} {k : IntKind} {xs : List Int} {a j s : Nat} (ho : j * s + s ≤ xs.length) (ha : a = 0 + mulE j s := by rfl) (hi : i.agg = true := by rfl) (hs : i.size = s := by rfl) : ldv i (xs.map (Value.int k)) a = some (vA k (sub xs (j * s) s)) := by
  subst ha
  rw [Nat.zero_add, mulE_eq]
  exact ldvA ho hi hs
theorem low_agg {vs : List Value} (h : ∀ v ∈ vs, plainV v = true) : Below0 0 (.agg vs.toArray) := .agg _ _ rfl fun i hi => by
  have hi' : i < vs.length := by simpa using hi
  rw [Array.getD_eq_getD_getElem?]
  simp only [List.getElem?_toArray, List.getElem?_eq_getElem hi', Option.getD_some]
  exact VR.const (h _ (List.getElem_mem hi'))
theorem low_vA (k : IntKind) (xs : List Int) : Below0 0 (vA k xs) := low_agg fun v hv => by
  obtain ⟨x, _, rfl⟩ := List.mem_map.1 hv
  rfl
theorem onesK (k : IntKind) (xs : List Int) : (xs.map (Value.int k)).all one1 = true := by simp [one1]
section
variable {M : Nat → Prop} {n : Nat} {hb h : AH} {Rs : List Res}
/-- a row of numbers is laid into a box -/
theorem SepM.boxA (S : SepM M n hb h Rs) {k : IntKind} {xs : List Int} {s : Nat} {ty : TypeId} {K : Nat → AH → Prop} (hl : xs.length = s) (hk : ∀ b h', SepM M n hb h' (.bx b ty s (xs.map (.int k)) :: Rs) → K b h') : onT (Nat.beq (vcells (vA k xs)).length s) (onT ((vcells (vA k xs)).all one1) (NewX h ⟨vcells (vA k xs), some (ty, s)⟩ K)) :=
  onT_mk (by show Nat.beq (xs.map (Value.int k)).length s = true; rw [List.length_map, hl]; exact Nat.beq_refl s) (onT_mk (onesK k xs) (S.new hk))
end

theorem eqElement_c (h : AH) (xs ys : List Int) (hx : xs.length = 8) (hy : ys.length = 8) : ACalls Try.prog 18 [vA .u8 xs, vA .u8 ys] h (fun r h' => r = .bool (decide (xs = ys)) ∧ h' = h) := by
  refine ACalls.of Tt.tab Try.func18 rfl (by kernel_rfl) Try.ntmps18 _ rfl rfl (fun hw => ?_)
  have S := Sep.start h
  refine S.boxA hx fun b1 g S => ?_
  refine S.boxA hy fun b2 g S => ?_
  refine ⟨⟨[2, 3, 5], fun n' vs g => ∃ i : Nat, n' = 8 - i ∧ i ≤ 8 ∧ (∀ j, j < i → ith xs j = ith ys j) ∧ Sep h.length h g [.bx b2 24 8 (ys.map (.int .u8)), .bx b1 24 8 (xs.map (.int .u8))] ∧
    vs = [.pointer (some ⟨b1, 0, none⟩), .pointer (some ⟨b2, 0, none⟩), .int .i64 i], _, ⟨0, rfl, Nat.zero_le _, fun j hj => by omega, S, rfl⟩, ?_⟩⟩
  clear S
  rintro n' vs g ⟨i, rfl, hi, he, S, rfl⟩
  refine BIf.mk (fun h2 => ?_) (fun h2 => ?_)
  · have hlt : i < 8 := by simp at h2; omega
    refine DrawX.of Tt.tab follows_any [] [] [0, 1, 2, 3, 4, 5, 6] rfl (by kernel_rfl) (by kernel_rfl) ?_
    refine IdxX.mk (by omega) (by omega) ?_
    refine LoadX.same (v := .int .u8 (ith xs i)) (S.at_ 1 rfl) (ldvK0 (j := i) (by omega)) ?_
    refine IdxX.mk (by omega) (by omega) ?_
    refine LoadX.same (v := .int .u8 (ith ys i)) (S.at_ 0 rfl) (ldvK0 (j := i) (by omega)) ?_
    refine BIf.mk (fun h3 => ?_) (fun h3 => ?_)
    · refine FinX.keep hw S.le rfl ⟨?_, rfl⟩
      have h3 : ith xs i ≠ ith ys i := by simpa using h3
      rw [decide_eq_false (fun e => h3 (by rw [e]))]
    have h3 : ith xs i = ith ys i := by simpa using h3
    refine WR.i64 ?_
    exact ⟨8 - (i + 1), by omega, i + 1, rfl, hlt, fun j hj => by
      by_cases e : j = i
      · subst e; exact h3
      · exact he j (by omega), S, rfl⟩
  have hi2 : i = 8 := by simp at h2; omega
  subst hi2
  refine FinX.keep hw S.le rfl ⟨?_, rfl⟩
  rw [decide_eq_true (ext_ith (by rw [hx, hy]) fun j hj => he j (by omega))]

theorem eqInt64A8_c (h : AH) (xs ys : List Int) (hx : xs.length = 8) (hy : ys.length = 8) : ACalls Try.prog 44 [vA .i64 xs, vA .i64 ys] h (fun r h' => r = .bool (decide (xs = ys)) ∧ h' = h) := by
  refine ACalls.of Tt.tab Try.func44 rfl (by kernel_rfl) Try.ntmps44 _ rfl rfl (fun hw => ?_)
  have S := Sep.start h
  refine S.boxA hx fun b1 g S => ?_
  refine S.boxA hy fun b2 g S => ?_
  refine ⟨⟨[2, 3, 5], fun n' vs g => ∃ i : Nat, n' = 8 - i ∧ i ≤ 8 ∧ (∀ j, j < i → ith xs j = ith ys j) ∧ Sep h.length h g [.bx b2 22 8 (ys.map (.int .i64)), .bx b1 22 8 (xs.map (.int .i64))] ∧
    vs = [.pointer (some ⟨b1, 0, none⟩), .pointer (some ⟨b2, 0, none⟩), .int .i64 i], _, ⟨0, rfl, Nat.zero_le _, fun j hj => by omega, S, rfl⟩, ?_⟩⟩
  clear S
  rintro n' vs g ⟨i, rfl, hi, he, S, rfl⟩
  refine BIf.mk (fun h2 => ?_) (fun h2 => ?_)
  · have hlt : i < 8 := by simp at h2; omega
    refine DrawX.of Tt.tab follows_any [] [] [0, 1, 2, 3, 4, 5, 6] rfl (by kernel_rfl) (by kernel_rfl) ?_
    refine IdxX.mk (by omega) (by omega) ?_
    refine LoadX.same (v := .int .i64 (ith xs i)) (S.at_ 1 rfl) (ldvK0 (j := i) (by omega)) ?_
    refine IdxX.mk (by omega) (by omega) ?_
    refine LoadX.same (v := .int .i64 (ith ys i)) (S.at_ 0 rfl) (ldvK0 (j := i) (by omega)) ?_
    refine BIf.mk (fun h3 => ?_) (fun h3 => ?_)
    · refine FinX.keep hw S.le rfl ⟨?_, rfl⟩
      have h3 : ith xs i ≠ ith ys i := by simpa using h3
      rw [decide_eq_false (fun e => h3 (by rw [e]))]
    have h3 : ith xs i = ith ys i := by simpa using h3
    refine WR.i64 ?_
    exact ⟨8 - (i + 1), by omega, i + 1, rfl, hlt, fun j hj => by
      by_cases e : j = i
      · subst e; exact h3
      · exact he j (by omega), S, rfl⟩
  have hi2 : i = 8 := by simp at h2; omega
  subst hi2
  refine FinX.keep hw S.le rfl ⟨?_, rfl⟩
  rw [decide_eq_true (ext_ith (by rw [hx, hy]) fun j hj => he j (by omega))]

theorem eqElementA8_c (h : AH) (xs ys : List Int) (hx : xs.length = 64) (hy : ys.length = 64) : ACalls Try.prog 45 [vA .u8 xs, vA .u8 ys] h (fun r h' => r = .bool (decide (xs = ys)) ∧ h' = h) := by
  refine ACalls.of Tt.tab Try.func45 rfl (by kernel_rfl) Try.ntmps45 _ rfl rfl (fun hw => ?_)
  have S := Sep.start h
  refine S.boxA hx fun b1 g S => ?_
  refine S.boxA hy fun b2 g S => ?_
  refine ⟨⟨[2, 3, 5], fun n' vs g => ∃ i : Nat, n' = 8 - i ∧ i ≤ 8 ∧ (∀ j, j < i → sub xs (j * 8) 8 = sub ys (j * 8) 8) ∧ Sep h.length h g [.bx b2 25 64 (ys.map (.int .u8)), .bx b1 25 64 (xs.map (.int .u8))] ∧
    vs = [.pointer (some ⟨b1, 0, none⟩), .pointer (some ⟨b2, 0, none⟩), .int .i64 i], _, ⟨0, rfl, Nat.zero_le _, fun j hj => by omega, S, rfl⟩, ?_⟩⟩
  clear S
  rintro n' vs g ⟨i, rfl, hi, he, S, rfl⟩
  refine BIf.mk (fun h2 => ?_) (fun h2 => ?_)
  · have hlt : i < 8 := by simp at h2; omega
    refine DrawX.of Tt.tab follows_any [] [] [0, 1, 2, 3, 4, 5, 6, 7] rfl (by kernel_rfl) (by kernel_rfl) ?_
    refine IdxX.mk (by omega) (by omega) ?_
    refine LoadX.same (v := vA .u8 (sub xs (i * 8) 8)) (S.at_ 1 rfl) (ldvA0 (j := i) (by omega)) ?_
    refine IdxX.mk (by omega) (by omega) ?_
    refine LoadX.same (v := vA .u8 (sub ys (i * 8) 8)) (S.at_ 0 rfl) (ldvA0 (j := i) (by omega)) ?_
    refine QCall.of (fun g2 hl => eqElement_c g2 _ _ (sub_length (by omega)) (sub_length (by omega))) rfl ?_
    refine BIf.mk (fun h3 => ?_) (fun h3 => ?_)
    · refine FinX.keep hw S.le rfl ⟨?_, rfl⟩
      have h3 : sub xs (i * 8) 8 ≠ sub ys (i * 8) 8 := by simpa using h3
      rw [decide_eq_false (fun e => h3 (by rw [e]))]
    have h3 : sub xs (i * 8) 8 = sub ys (i * 8) 8 := by simpa using h3
    refine WR.i64 ?_
    exact ⟨8 - (i + 1), by omega, i + 1, rfl, hlt, fun j hj => by
      by_cases e : j = i
      · subst e; exact h3
      · exact he j (by omega), S, rfl⟩
  have hi2 : i = 8 := by simp at h2; omega
  subst hi2
  refine FinX.keep hw S.le rfl ⟨?_, rfl⟩
  rw [decide_eq_true (sub_ext (m := 8) (s := 8) (by omega) (by omega) fun j hj => he j hj)]

theorem eqElementA8A8_c (h : AH) (xs ys : List Int) (hx : xs.length = 512) (hy : ys.length = 512) : ACalls Try.prog 46 [vA .u8 xs, vA .u8 ys] h (fun r h' => r = .bool (decide (xs = ys)) ∧ h' = h) := by
  refine ACalls.of Tt.tab Try.func46 rfl (by kernel_rfl) Try.ntmps46 _ rfl rfl (fun hw => ?_)
  have S := Sep.start h
  refine S.boxA hx fun b1 g S => ?_
  refine S.boxA hy fun b2 g S => ?_
  refine ⟨⟨[2, 3, 5], fun n' vs g => ∃ i : Nat, n' = 8 - i ∧ i ≤ 8 ∧ (∀ j, j < i → sub xs (j * 64) 64 = sub ys (j * 64) 64) ∧ Sep h.length h g [.bx b2 26 512 (ys.map (.int .u8)), .bx b1 26 512 (xs.map (.int .u8))] ∧
    vs = [.pointer (some ⟨b1, 0, none⟩), .pointer (some ⟨b2, 0, none⟩), .int .i64 i], _, ⟨0, rfl, Nat.zero_le _, fun j hj => by omega, S, rfl⟩, ?_⟩⟩
  clear S
  rintro n' vs g ⟨i, rfl, hi, he, S, rfl⟩
  refine BIf.mk (fun h2 => ?_) (fun h2 => ?_)
  · have hlt : i < 8 := by simp at h2; omega
    refine DrawX.of Tt.tab follows_any [] [] [0, 1, 2, 3, 4, 5, 6, 7] rfl (by kernel_rfl) (by kernel_rfl) ?_
    refine IdxX.mk (by omega) (by omega) ?_
    refine LoadX.same (v := vA .u8 (sub xs (i * 64) 64)) (S.at_ 1 rfl) (ldvA0 (j := i) (by omega)) ?_
    refine IdxX.mk (by omega) (by omega) ?_
    refine LoadX.same (v := vA .u8 (sub ys (i * 64) 64)) (S.at_ 0 rfl) (ldvA0 (j := i) (by omega)) ?_
    refine QCall.of (fun g2 hl => eqElementA8_c g2 _ _ (sub_length (by omega)) (sub_length (by omega))) rfl ?_
    refine BIf.mk (fun h3 => ?_) (fun h3 => ?_)
    · refine FinX.keep hw S.le rfl ⟨?_, rfl⟩
      have h3 : sub xs (i * 64) 64 ≠ sub ys (i * 64) 64 := by simpa using h3
      rw [decide_eq_false (fun e => h3 (by rw [e]))]
    have h3 : sub xs (i * 64) 64 = sub ys (i * 64) 64 := by simpa using h3
    refine WR.i64 ?_
    exact ⟨8 - (i + 1), by omega, i + 1, rfl, hlt, fun j hj => by
      by_cases e : j = i
      · subst e; exact h3
      · exact he j (by omega), S, rfl⟩
  have hi2 : i = 8 := by simp at h2; omega
  subst hi2
  refine FinX.keep hw S.le rfl ⟨?_, rfl⟩
  rw [decide_eq_true (sub_ext (m := 8) (s := 64) (by omega) (by omega) fun j hj => he j hj)]

end Go.Gl

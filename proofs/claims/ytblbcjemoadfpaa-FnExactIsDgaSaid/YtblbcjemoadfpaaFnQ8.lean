/- Chapter 10: copies of the law's values; the laws on algebras. Printed by mk_q8.py. No condition. -/
import Derived.Test.YtblbcjemoadfpaaFnQ7
set_option linter.unusedVariables false
set_option linter.unusedSimpArgs false
namespace Go.Gl
open Go.Proofs Go.Proofs.Ytblbcjemoadfpaa Go.Pl

theorem setCells_map {k : IntKind} (xs ys : List Int) (o : Nat) : setCells (xs.map (Value.int k)) o (ys.map (.int k)) = (patch xs o ys).map (.int k) := by
  simp [setCells, patch, List.map_append, List.map_take, List.map_drop]
/-- the first part of xs, and zeros -/
def part0 (xs : List Int) (o : Nat) : List Int := xs.take o ++ List.replicate (xs.length - o) 0
theorem part0_length {xs : List Int} {o : Nat} (h : o ≤ xs.length) : (part0 xs o).length = xs.length := by simp [part0]; omega
theorem part0_all (xs : List Int) : part0 xs xs.length = xs := by simp [part0]
theorem part0_step {xs : List Int} {o s : Nat} (h : o + s ≤ xs.length) : patch (part0 xs o) o (sub xs o s) = part0 xs (o + s) := by
  have hl : (sub xs o s).length = s := sub_length h
  have ht : (xs.take o).length = o := by simp; omega
  unfold patch part0
  rw [hl, List.take_left' ht, List.drop_append, List.drop_eq_nil_of_le (by omega), List.nil_append, ht, List.drop_replicate, List.take_add]
  unfold sub
  rw [List.append_assoc, List.append_assoc, show xs.length - o - (o + s - o) = xs.length - (o + s) by omega]
theorem sub_oneI {xs : List Int} {i : Nat} (h : i < xs.length) : sub xs i 1 = [ith xs i] := by
  unfold sub
  rw [← ith_get h, List.drop_eq_getElem_cons h]
  rfl
section
variable {M : Nat → Prop} {n : Nat} {hb h : AH} {Rs : List Res}
/-- a part of a row is stored -/
theorem SepM.putK (S : SepM M n hb h Rs) (j : Nat) {b a o s : Nat} {ty : TypeId} {z : Nat} {k : IntKind} {xs ys : List Int} {K : AH → Prop} (hj : gt Rs j = some (.bx b ty z (xs.map (.int k)))) (hl : ys.length = s) (ho : o + s ≤ xs.length)
    (hk : ∀ h', SepM M n hb h' (st Rs j (.bx b ty z ((patch xs o ys).map (.int k)))) → K h') (ha : a = o := by rfl) : onT (Nat.beq (vcells (vA k ys)).length s) (onT ((vcells (vA k ys)).all one1) (StoreX h b a (vcells (vA k ys)) K)) := by
  subst ha
  refine onT_mk (by show Nat.beq (ys.map (Value.int k)).length s = true; rw [List.length_map, hl]; exact Nat.beq_refl s) (onT_mk (onesK k ys) ?_)
  refine S.store j hj (by show a + (ys.map (Value.int k)).length ≤ (xs.map (Value.int k)).length; simp; omega) fun h' S' => hk h' ?_
  rw [show vcells (vA k ys) = ys.map (.int k) from rfl, setCells_map] at S'
  exact S'
end

theorem toElement_c (h : AH) (u : List Int) (hu : u.length = 8) : ACalls Try.prog 16 [vA .u8 u] h (fun r h' => r = vA .u8 u ∧ h' = h) := by
  refine ACalls.of Tt.tab Try.func16 rfl (by kernel_rfl) Try.ntmps16 _ rfl rfl (fun hw => ?_)
  have S := Sep.start h
  refine S.boxA hu fun b1 g S => ?_
  refine S.new fun b2 g S => ?_
  refine S.new fun b3 g S => ?_
  refine ⟨⟨[1, 2, 3, 4], fun n' vs g => ∃ i : Nat, n' = 8 - i ∧ i ≤ 8 ∧ Sep h.length h g [.bx b3 24 8 ((part0 u i).map (.int .u8)), .bx b2 24 8 (z8.map (.int .u8)), .bx b1 23 8 (u.map (.int .u8))] ∧
    vs = [.pointer (some ⟨b1, 0, none⟩), .pointer (some ⟨b2, 0, none⟩), .pointer (some ⟨b3, 0, none⟩), .int .i64 i], _, ⟨0, rfl, Nat.zero_le _, S.recast 0 rfl (by unfold part0; rw [hu]; rfl), rfl⟩, ?_⟩⟩
  clear S
  rintro n' vs g ⟨i, rfl, hi, S, rfl⟩
  have hpl := part0_length (xs := u) (o := i) (by omega)
  refine BIf.mk (fun h2 => ?_) (fun h2 => ?_)
  · have hlt : i < 8 := by simp at h2; omega
    refine IdxX.mk (by omega) (by omega) ?_
    refine LoadX.same (v := .int .u8 (ith u i)) (S.at_ 2 rfl) (ldvK0 (j := i) (by omega)) ?_
    refine IdxX.mk (by omega) (by omega) ?_
    refine S.storeK 0 (o := i) rfl (by omega) fun g S => ?_
    refine WR.i64 ?_
    have e : (part0 u i).set i (ith u i) = part0 u (i + 1) := by
      rw [← part0_step (s := 1) (by omega), sub_oneI (by omega)]
      unfold patch
      rw [List.set_eq_take_append_cons_drop, if_pos (by omega)]
      simp
    rw [e] at S
    exact ⟨8 - (i + 1), by omega, i + 1, rfl, hlt, S, rfl⟩
  have hi2 : i = 8 := by simp at h2; omega
  subst hi2
  rw [show (8 : Nat) = u.length from hu.symm, part0_all, hu] at S
  refine LoadX.same (S.at_ 0 rfl) (ldAll hu) ?_
  refine S.putA 1 rfl hu rfl fun g S => ?_
  refine LoadX.same (S.at_ 1 rfl) (ldAll hu) ?_
  exact FinX.low hw S.le (low_vA _ _) ⟨rfl, rfl⟩

theorem toInt64A8_c (h : AH) (u : List Int) (hu : u.length = 8) : ACalls Try.prog 48 [vA .i64 u] h (fun r h' => r = vA .i64 u ∧ h' = h) := by
  refine ACalls.of Tt.tab Try.func48 rfl (by kernel_rfl) Try.ntmps48 _ rfl rfl (fun hw => ?_)
  have S := Sep.start h
  refine S.boxA hu fun b1 g S => ?_
  refine S.new fun b2 g S => ?_
  refine S.new fun b3 g S => ?_
  refine ⟨⟨[1, 2, 3, 4], fun n' vs g => ∃ i : Nat, n' = 8 - i ∧ i ≤ 8 ∧ Sep h.length h g [.bx b3 22 8 ((part0 u i).map (.int .i64)), .bx b2 22 8 (z8.map (.int .i64)), .bx b1 22 8 (u.map (.int .i64))] ∧
    vs = [.pointer (some ⟨b1, 0, none⟩), .pointer (some ⟨b2, 0, none⟩), .pointer (some ⟨b3, 0, none⟩), .int .i64 i], _, ⟨0, rfl, Nat.zero_le _, S.recast 0 rfl (by unfold part0; rw [hu]; rfl), rfl⟩, ?_⟩⟩
  clear S
  rintro n' vs g ⟨i, rfl, hi, S, rfl⟩
  have hpl := part0_length (xs := u) (o := i) (by omega)
  refine BIf.mk (fun h2 => ?_) (fun h2 => ?_)
  · have hlt : i < 8 := by simp at h2; omega
    refine IdxX.mk (by omega) (by omega) ?_
    refine LoadX.same (v := .int .i64 (ith u i)) (S.at_ 2 rfl) (ldvK0 (j := i) (by omega)) ?_
    refine IdxX.mk (by omega) (by omega) ?_
    refine S.storeK 0 (o := i) rfl (by omega) fun g S => ?_
    refine WR.i64 ?_
    have e : (part0 u i).set i (ith u i) = part0 u (i + 1) := by
      rw [← part0_step (s := 1) (by omega), sub_oneI (by omega)]
      unfold patch
      rw [List.set_eq_take_append_cons_drop, if_pos (by omega)]
      simp
    rw [e] at S
    exact ⟨8 - (i + 1), by omega, i + 1, rfl, hlt, S, rfl⟩
  have hi2 : i = 8 := by simp at h2; omega
  subst hi2
  rw [show (8 : Nat) = u.length from hu.symm, part0_all, hu] at S
  refine LoadX.same (S.at_ 0 rfl) (ldAll hu) ?_
  refine S.putA 1 rfl hu rfl fun g S => ?_
  refine LoadX.same (S.at_ 1 rfl) (ldAll hu) ?_
  exact FinX.low hw S.le (low_vA _ _) ⟨rfl, rfl⟩

set_option maxRecDepth 100000 in
theorem toElementA8_c (h : AH) (u : List Int) (hu : u.length = 64) : ACalls Try.prog 49 [vA .u8 u] h (fun r h' => r = vA .u8 u ∧ h' = h) := by
  refine ACalls.of Tt.tab Try.func49 rfl (by kernel_rfl) Try.ntmps49 _ rfl rfl (fun hw => ?_)
  have S := Sep.start h
  refine S.boxA hu fun b1 g S => ?_
  refine S.new fun b2 g S => ?_
  refine S.new fun b3 g S => ?_
  have S := S.recast 1 (cells' := (List.replicate 64 (0 : Int)).map (.int .u8)) rfl (by rw [List.map_replicate]; rfl)
  refine ⟨⟨[1, 2, 3, 4], fun n' vs g => ∃ i : Nat, n' = 8 - i ∧ i ≤ 8 ∧ Sep h.length h g [.bx b3 25 64 ((part0 u (i * 8)).map (.int .u8)), .bx b2 25 64 ((List.replicate 64 (0 : Int)).map (.int .u8)), .bx b1 33 64 (u.map (.int .u8))] ∧
    vs = [.pointer (some ⟨b1, 0, none⟩), .pointer (some ⟨b2, 0, none⟩), .pointer (some ⟨b3, 0, none⟩), .int .i64 i], _, ⟨0, rfl, Nat.zero_le _, S.recast 0 rfl (by unfold part0; rw [hu, Nat.zero_mul, List.take_zero, List.nil_append, List.map_replicate]; rfl), rfl⟩, ?_⟩⟩
  clear S
  rintro n' vs g ⟨i, rfl, hi, S, rfl⟩
  have hpl := part0_length (xs := u) (o := i * 8) (by omega)
  refine BIf.mk (fun h2 => ?_) (fun h2 => ?_)
  · have hlt : i < 8 := by simp at h2; omega
    have hsl : (sub u (i * 8) 8).length = 8 := sub_length (by omega)
    refine IdxX.mk (by omega) (by omega) ?_
    refine LoadX.same (v := vA .u8 (sub u (i * 8) 8)) (S.at_ 2 rfl) (ldvA0 (j := i) (by omega)) ?_
    refine CallX.same (toElement_c _ _ hsl) ?_
    rintro r g ⟨rfl, rfl⟩
    refine IdxX.mk (by omega) (by omega) ?_
    refine S.putK 0 (o := i * 8) (s := 8) rfl hsl (by omega) (fun g S => ?_) (by show 0 + i * 8 = _; omega)
    refine WR.i64 ?_
    rw [part0_step (by omega), show i * 8 + 8 = (i + 1) * 8 by omega] at S
    exact ⟨8 - (i + 1), by omega, i + 1, rfl, hlt, S, rfl⟩
  have hi2 : i = 8 := by simp at h2; omega
  subst hi2
  rw [show (8 : Nat) * 8 = u.length from hu.symm, part0_all] at S
  refine LoadX.same (S.at_ 0 rfl) (ldAll hu) ?_
  refine S.putA 1 rfl hu (by rw [List.length_map, List.length_replicate]; rfl) fun g S => ?_
  refine LoadX.same (S.at_ 1 rfl) (ldAll hu) ?_
  exact FinX.low hw S.le (low_vA _ _) ⟨rfl, rfl⟩

set_option maxRecDepth 100000 in
theorem toElementA8A8_c (h : AH) (u : List Int) (hu : u.length = 512) : ACalls Try.prog 50 [vA .u8 u] h (fun r h' => r = vA .u8 u ∧ h' = h) := by
  refine ACalls.of Tt.tab Try.func50 rfl (by kernel_rfl) Try.ntmps50 _ rfl rfl (fun hw => ?_)
  have S := Sep.start h
  refine S.boxA hu fun b1 g S => ?_
  refine S.new fun b2 g S => ?_
  refine S.new fun b3 g S => ?_
  have S := S.recast 1 (cells' := (List.replicate 512 (0 : Int)).map (.int .u8)) rfl (by rw [List.map_replicate]; rfl)
  refine ⟨⟨[1, 2, 3, 4], fun n' vs g => ∃ i : Nat, n' = 8 - i ∧ i ≤ 8 ∧ Sep h.length h g [.bx b3 26 512 ((part0 u (i * 64)).map (.int .u8)), .bx b2 26 512 ((List.replicate 512 (0 : Int)).map (.int .u8)), .bx b1 34 512 (u.map (.int .u8))] ∧
    vs = [.pointer (some ⟨b1, 0, none⟩), .pointer (some ⟨b2, 0, none⟩), .pointer (some ⟨b3, 0, none⟩), .int .i64 i], _, ⟨0, rfl, Nat.zero_le _, S.recast 0 rfl (by unfold part0; rw [hu, Nat.zero_mul, List.take_zero, List.nil_append, List.map_replicate]; rfl), rfl⟩, ?_⟩⟩
  clear S
  rintro n' vs g ⟨i, rfl, hi, S, rfl⟩
  have hpl := part0_length (xs := u) (o := i * 64) (by omega)
  refine BIf.mk (fun h2 => ?_) (fun h2 => ?_)
  · have hlt : i < 8 := by simp at h2; omega
    have hsl : (sub u (i * 64) 64).length = 64 := sub_length (by omega)
    refine IdxX.mk (by omega) (by omega) ?_
    refine LoadX.same (v := vA .u8 (sub u (i * 64) 64)) (S.at_ 2 rfl) (ldvA0 (j := i) (by omega)) ?_
    refine CallX.same (toElementA8_c _ _ hsl) ?_
    rintro r g ⟨rfl, rfl⟩
    refine IdxX.mk (by omega) (by omega) ?_
    refine S.putK 0 (o := i * 64) (s := 64) rfl hsl (by omega) (fun g S => ?_) (by show 0 + i * 64 = _; omega)
    refine WR.i64 ?_
    rw [part0_step (by omega), show i * 64 + 64 = (i + 1) * 64 by omega] at S
    exact ⟨8 - (i + 1), by omega, i + 1, rfl, hlt, S, rfl⟩
  have hi2 : i = 8 := by simp at h2; omega
  subst hi2
  rw [show (8 : Nat) * 64 = u.length from hu.symm, part0_all] at S
  refine LoadX.same (S.at_ 0 rfl) (ldAll hu) ?_
  refine S.putA 1 rfl hu (by rw [List.length_map, List.length_replicate]; rfl) fun g S => ?_
  refine LoadX.same (S.at_ 1 rfl) (ldAll hu) ?_
  exact FinX.low hw S.le (low_vA _ _) ⟨rfl, rfl⟩
theorem ith_patch {xs ys : List Int} {o j : Nat} (h : o + ys.length ≤ xs.length) : ith (patch xs o ys) j = if o ≤ j ∧ j < o + ys.length then ith ys (j - o) else ith xs j := by
  have ht : (xs.take o).length = o := by simp; omega
  unfold patch
  by_cases h1 : j < o
  · rw [if_neg (by omega), List.append_assoc, ith_append_left (by omega)]
    simp [ith, List.getElem?_take, h1]
  · rw [List.append_assoc, ith_append_right (by omega), ht]
    by_cases h2 : j < o + ys.length
    · rw [if_pos (by omega), ith_append_left (by omega)]
    · rw [if_neg (by omega), ith_append_right (by omega)]
      simp only [ith, List.getD_eq_getElem?_getD, List.getElem?_drop]
      rw [show o + ys.length + (j - o - ys.length) = j by omega]
theorem copyI {Z I : List Int} (hz : Z.length = 18) (hI : I.length = 18) : patch (patch (patch (patch Z 0 [ith I 0]) 1 [ith I 1]) 2 (sub I 2 8)) 10 (sub I 10 8) = I := by
  have l1 : (sub I 2 8).length = 8 := sub_length (by omega)
  have l2 : (sub I 10 8).length = 8 := sub_length (by omega)
  have a1 : (patch Z 0 [ith I 0]).length = 18 := (patch_length (by simp; omega)).trans hz
  have a2 : (patch (patch Z 0 [ith I 0]) 1 [ith I 1]).length = 18 := (patch_length (by simp; omega)).trans a1
  have a3 : (patch (patch (patch Z 0 [ith I 0]) 1 [ith I 1]) 2 (sub I 2 8)).length = 18 := (patch_length (by omega)).trans a2
  have a4 : (patch (patch (patch (patch Z 0 [ith I 0]) 1 [ith I 1]) 2 (sub I 2 8)) 10 (sub I 10 8)).length = 18 := (patch_length (by omega)).trans a3
  refine ext_ith (by omega) fun j hj => ?_
  rw [a4] at hj
  rw [ith_patch (by omega), l2]
  split
  · rw [sub_ith (by omega), show 10 + (j - 10) = j by omega]
  rw [ith_patch (by omega), l1]
  split
  · rw [sub_ith (by omega), show 2 + (j - 2) = j by omega]
  rw [ith_patch (by simp; omega)]
  split
  · have e : j = 1 := by simp at *; omega
    subst e; rfl
  rw [ith_patch (by simp; omega)]
  split
  · have e : j = 0 := by simp at *; omega
    subst e; rfl
  · exfalso; simp at *; omega
theorem copyB {Z B : List Int} (hz : Z.length = 576) (hB : B.length = 576) : patch (patch Z 0 (sub B 0 64)) 64 (sub B 64 512) = B := by
  have l1 : (sub B 0 64).length = 64 := sub_length (by omega)
  have l2 : (sub B 64 512).length = 512 := sub_length (by omega)
  have a1 : (patch Z 0 (sub B 0 64)).length = 576 := (patch_length (by omega)).trans hz
  have a2 : (patch (patch Z 0 (sub B 0 64)) 64 (sub B 64 512)).length = 576 := (patch_length (by omega)).trans a1
  refine ext_ith (by omega) fun j hj => ?_
  rw [a2] at hj
  rw [ith_patch (by omega), l2]
  split
  · rw [sub_ith (by omega), show 64 + (j - 64) = j by omega]
  rw [ith_patch (by omega), l1]
  split
  · rw [sub_ith (by omega), show 0 + (j - 0) = j by omega]
  · omega

set_option maxRecDepth 100000 in
theorem toDga_c (h : AH) (I B : List Int) (gx : GL I B) : ACalls Try.prog 13 [vG I B] h (fun r h' => r = vG I B ∧ h' = h) := by
  refine ACalls.of Tt.tab Try.func13 rfl (by kernel_rfl) Try.ntmps13 _ rfl rfl (fun hw => ?_)
  have S := Sep.start h
  refine S.boxG gx fun b1 g S => ?_
  refine S.new fun b2 g S => ?_
  refine S.new fun b3 g S => ?_
  have S := S.recast 0 (cells' := cG zG.1 zG.2) rfl rfl
  have gz := zG_gl
  refine LoadX.same (v := .int .i64 (ith I 0)) (S.at_ 2 rfl) (ldG gx (j := 0) (by omega)) ?_
  refine S.storeG 0 (o := 0) rfl gz (by omega) fun g S => ?_
  have gz := gz.pI (o := 0) (ys := [ith I 0]) (by simp)
  refine LoadX.same (v := .int .i64 (ith I 1)) (S.at_ 2 rfl) (ldG gx (j := 1) (by omega)) ?_
  refine S.storeG 0 (o := 1) rfl gz (by omega) fun g S => ?_
  have gz := gz.pI (o := 1) (ys := [ith I 1]) (by simp)
  have l1 : (sub I 2 8).length = 8 := sub_length (by have := gx.i; omega)
  have l2 : (sub I 10 8).length = 8 := sub_length (by have := gx.i; omega)
  have l3 : (sub B 0 64).length = 64 := sub_length (by have := gx.b; omega)
  have l4 : (sub B 64 512).length = 512 := sub_length (by have := gx.b; omega)
  refine LoadX.same (S.at_ 2 rfl) (ldGI gx (o := 2) (by omega)) ?_
  refine CallX.same (toInt64A8_c _ _ l1) ?_
  rintro r g ⟨rfl, rfl⟩
  refine S.putGI 0 (o := 2) (s := 8) rfl gz l1 (by omega) fun g S => ?_
  have gz := gz.pI (o := 2) (ys := sub I 2 8) (by omega)
  refine LoadX.same (S.at_ 2 rfl) (ldGI gx (o := 10) (by omega)) ?_
  refine CallX.same (toInt64A8_c _ _ l2) ?_
  rintro r g ⟨rfl, rfl⟩
  refine S.putGI 0 (o := 10) (s := 8) rfl gz l2 (by omega) fun g S => ?_
  have gz := gz.pI (o := 10) (ys := sub I 10 8) (by omega)
  refine LoadX.same (S.at_ 2 rfl) (ldGB gx (o := 0) (s := 64) (by omega)) ?_
  refine CallX.same (toElementA8_c _ _ l3) ?_
  rintro r g ⟨rfl, rfl⟩
  refine S.putGB 0 (o := 0) (s := 64) rfl gz l3 (by omega) fun g S => ?_
  have gz := gz.pB (o := 0) (ys := sub B 0 64) (by omega)
  refine LoadX.same (S.at_ 2 rfl) (ldGB gx (o := 64) (s := 512) (by omega)) ?_
  refine CallX.same (toElementA8A8_c _ _ l4) ?_
  rintro r g ⟨rfl, rfl⟩
  refine S.putGB 0 (o := 64) (s := 512) rfl gz l4 (by omega) fun g S => ?_
  rw [copyI rfl gx.i, copyB (by exact zG_gl.b) gx.b] at S
  refine LoadX.same (S.at_ 0 rfl) (ldGG gx) ?_
  refine S.putGG 1 rfl gx rfl fun g S => ?_
  refine LoadX.same (S.at_ 1 rfl) (ldGG gx) ?_
  exact FinX.low hw S.le (low_vG _ _) ⟨rfl, rfl⟩

theorem FnExactIsDga_law (h : AH) (I B : List Int) (gx : GL I B) (hB : BB B) : ACalls Try.prog 4 [vG I B] h (fun r h' => r = .bool true ∧ h' = h) := by
  refine ACalls.of Tt.tab Try.func4 rfl (by kernel_rfl) Try.ntmps4 _ rfl rfl (fun hw => ?_)
  have S := Sep.start h
  refine S.boxG gx fun b1 g S => ?_
  refine LoadX.same (S.at_ 0 rfl) (ldGG gx) ?_
  refine CallX.same (toDga_c _ I B gx) ?_
  rintro r g ⟨rfl, rfl⟩
  refine CallX.same (isDgaS_c _ I B gx hB) ?_
  rintro r g ⟨rfl, rfl⟩
  refine LoadX.same (S.at_ 0 rfl) (ldGG gx) ?_
  refine CallX.same (toDga_c _ I B gx) ?_
  rintro r g ⟨rfl, rfl⟩
  refine CallX.same (isDgaI_c _ I B gx hB) ?_
  rintro r g ⟨rfl, rfl⟩
  refine BIf.no (by simp) ?_
  exact FinX.keep hw S.le rfl ⟨rfl, rfl⟩

theorem rowT_length {p : Int} {B u v out : List Int} (h : out.length = 8) (i : Nat) : ∀ j, (rowT p B u v out i j).length = 8
  | 0 => h
  | j + 1 => by
    show (stepT p B u v (rowT p B u v out i j) i j).length = 8
    unfold stepT
    split
    · exact addE_length _ _ _ _
    · exact rowT_length h i j
theorem mulT_length (p : Int) (B u v : List Int) (n : Nat) : ∀ i, (mulT p B u v n i).length = 8
  | 0 => rfl
  | i + 1 => rowT_length (mulT_length p B u v n i) i n
theorem times_length (p : Int) (B u v : List Int) : (times p B u v).length = 8 := mulT_length p B u v 8 8
theorem dif_length (p : Int) (B u : List Int) : (dif p B u).length = 8 := addE_length _ _ _ _

theorem FnExactMultiplyElements_law (h : AH) (I B u v : List Int) (gx : GL I B) (hB : BB B) (hu : Byt u) (hv : Byt v) : ACalls Try.prog 6 [vG I B, vA .u8 u, vA .u8 v] h (fun r h' => r = .bool true ∧ h' = h) := by
  refine ACalls.of Tt.tab Try.func6 rfl (by kernel_rfl) Try.ntmps6 _ rfl rfl (fun hw => ?_)
  have S := Sep.start h
  refine S.boxG gx fun b1 g S => ?_
  refine S.boxA hu.1 fun b2 g S => ?_
  refine S.boxA hv.1 fun b3 g S => ?_
  have hr : (pickE (Alg I B ∧ Small (pr I) (sz I) u ∧ Small (pr I) (sz I) v) (times (pr I) B u v)).length = 8 := pickE_length (by first | exact tab_length _ _ | exact times_length _ _ _ _)
  refine DrawX.of Tt.tab follows_any [10] [11] [0, 1, 2, 3, 4, 5, 6, 7, 8, 9, 10, 11, 12] rfl (by kernel_rfl) (by kernel_rfl) ?_
  refine LoadX.same (S.at_ 2 rfl) (ldGG gx) ?_
  refine QCall.low (fun g2 hl => toDga_c g2 I B gx) (low_vG _ _) ?_
  refine LoadX.same (S.at_ 1 rfl) (ldAll hu.1) ?_
  refine QCall.low (fun g2 hl => toElement_c g2 u hu.1) (low_vA _ _) ?_
  refine LoadX.same (S.at_ 0 rfl) (ldAll hv.1) ?_
  refine QCall.low (fun g2 hl => toElement_c g2 v hv.1) (low_vA _ _) ?_
  refine QCall.low (fun g2 hl => mulS_c g2 I B u v gx hB hu hv) (low_two (low_vA _ _) (VR.const rfl)) ?_
  refine S.newL fun b7 g le1 S => ?_
  refine ⟨le1, ?_⟩
  refine S.putA 0 rfl hr rfl fun g S => ?_
  refine DrawX.of Tt.tab follows_any [10] [11] [0, 1, 2, 3, 4, 5, 6, 7, 8, 9, 10, 11, 12] rfl (by kernel_rfl) (by kernel_rfl) ?_
  refine LoadX.same (S.at_ 3 rfl) (ldGG gx) ?_
  refine QCall.low (fun g2 hl => toDga_c g2 I B gx) (low_vG _ _) ?_
  refine LoadX.same (S.at_ 2 rfl) (ldAll hu.1) ?_
  refine QCall.low (fun g2 hl => toElement_c g2 u hu.1) (low_vA _ _) ?_
  refine LoadX.same (S.at_ 1 rfl) (ldAll hv.1) ?_
  refine QCall.low (fun g2 hl => toElement_c g2 v hv.1) (low_vA _ _) ?_
  refine QCall.low (fun g2 hl => mulI_c g2 I B u v gx hB hu hv) (low_two (low_vA _ _) (VR.const rfl)) ?_
  refine S.newL fun b8 g le1 S => ?_
  refine ⟨le1, ?_⟩
  refine S.putA 0 rfl hr rfl fun g S => ?_
  refine LoadX.same (S.at_ 0 rfl) (ldAll hr) ?_
  refine LoadX.same (S.at_ 1 rfl) (ldAll hr) ?_
  refine CallX.same (eqElement_c _ _ _ hr hr) ?_
  rintro r g ⟨rfl, rfl⟩
  refine BIf.no (by simp) ?_
  refine BIf.no (by simp) ?_
  exact FinX.keep hw S.le rfl ⟨rfl, rfl⟩

theorem FnExactDifferentialIn_law (h : AH) (I B u : List Int) (gx : GL I B) (hB : BB B) (hu : Byt u) : ACalls Try.prog 5 [vG I B, vA .u8 u] h (fun r h' => r = .bool true ∧ h' = h) := by
  refine ACalls.of Tt.tab Try.func5 rfl (by kernel_rfl) Try.ntmps5 _ rfl rfl (fun hw => ?_)
  have S := Sep.start h
  refine S.boxG gx fun b1 g S => ?_
  refine S.boxA hu.1 fun b2 g S => ?_
  have hr : (pickE (Alg I B ∧ Small (pr I) (sz I) u) (dif (pr I) B u)).length = 8 := pickE_length (by first | exact tab_length _ _ | exact dif_length _ _ _)
  refine DrawX.of Tt.tab follows_any [8] [9] [0, 1, 2, 3, 4, 5, 6, 7, 8, 9, 10] rfl (by kernel_rfl) (by kernel_rfl) ?_
  refine LoadX.same (S.at_ 1 rfl) (ldGG gx) ?_
  refine QCall.low (fun g2 hl => toDga_c g2 I B gx) (low_vG _ _) ?_
  refine LoadX.same (S.at_ 0 rfl) (ldAll hu.1) ?_
  refine QCall.low (fun g2 hl => toElement_c g2 u hu.1) (low_vA _ _) ?_
  refine QCall.low (fun g2 hl => difInS_c g2 I B u gx hB hu) (low_two (low_vA _ _) (VR.const rfl)) ?_
  refine S.newL fun b7 g le1 S => ?_
  refine ⟨le1, ?_⟩
  refine S.putA 0 rfl hr rfl fun g S => ?_
  refine DrawX.of Tt.tab follows_any [8] [9] [0, 1, 2, 3, 4, 5, 6, 7, 8, 9, 10] rfl (by kernel_rfl) (by kernel_rfl) ?_
  refine LoadX.same (S.at_ 2 rfl) (ldGG gx) ?_
  refine QCall.low (fun g2 hl => toDga_c g2 I B gx) (low_vG _ _) ?_
  refine LoadX.same (S.at_ 1 rfl) (ldAll hu.1) ?_
  refine QCall.low (fun g2 hl => toElement_c g2 u hu.1) (low_vA _ _) ?_
  refine QCall.low (fun g2 hl => difInI_c g2 I B u gx hB hu) (low_two (low_vA _ _) (VR.const rfl)) ?_
  refine S.newL fun b8 g le1 S => ?_
  refine ⟨le1, ?_⟩
  refine S.putA 0 rfl hr rfl fun g S => ?_
  refine LoadX.same (S.at_ 0 rfl) (ldAll hr) ?_
  refine LoadX.same (S.at_ 1 rfl) (ldAll hr) ?_
  refine CallX.same (eqElement_c _ _ _ hr hr) ?_
  rintro r g ⟨rfl, rfl⟩
  refine BIf.no (by simp) ?_
  refine BIf.no (by simp) ?_
  exact FinX.keep hw S.le rfl ⟨rfl, rfl⟩

end Go.Gl

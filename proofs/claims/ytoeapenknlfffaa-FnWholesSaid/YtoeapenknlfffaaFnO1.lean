/- Draws of whole matrices. No condition. Draws of whole complexes: a change of basis. No condition. Draws of whole complexes: l07Draw. No condition. Draws of whole complexes: l07Spoil and what is drawn. No condition. -/
import Derived.Test.YtoeapenknlfffaaGlRg
import Derived.Test.YtoeapenknlfffaaFnR
import Derived.Test.YtoeapenknlfffaaFnW1
set_option linter.unusedVariables false
set_option linter.unusedSimpArgs false
namespace Go.Gl
open Go.Proofs Go.Proofs.Ytoeapenknlfffaa Go.Pl

/-- rows that were drawn -/
def DrawnMat (g0 : AH) (M : Nat → Prop) (n0 : Nat) (hb : AH) (b : Nat) (r : Value) (h' : AH) : Prop := ∃ C' Ns, (∃ (k b' : Nat) (xs : List (List Int)), r = .slice (some ⟨b', 0, none⟩) k 1 ∧ k ≤ 6 ∧ Ns = [.rw OI.fr tII n0 (.slice (some ⟨b', 0, none⟩) k 1) k xs]) ∧ Dice g0 C' ∧ SepM M n0 hb h' (Ns ++ [.bx b tS 3 C'])
theorem dRow_upd {n0 i j : Nat} {v : Nat → Value} {xs : Nat → List Int} {u : Value} {ys : List Int} : (rowsR i fun k => if k = j then .rc tI 1 n0 u ys.length (ys.map (.int .i64)) else dRow n0 v xs k) = rowsR i (dRow n0 (fun k => if k = j then u else v k) (fun k => if k = j then ys else xs k)) :=
  rowsR_congr fun k _ => by
    by_cases e : k = j <;> simp [dRow, e]
/-- the state between the loops -/
def MatSt (M : Nat → Prop) (n0 : Nat) (hb : AH) (b i bo L : Nat) (v : Nat → Value) (xs : Nat → List Int) (C : List Value) (g : AH) : Prop :=
  (∀ j, j < i → (xs j).length = L) ∧ (0 < i → ∃ b', v 0 = .slice (some ⟨b', 0, none⟩) (xs 0).length 1) ∧ SepM M n0 hb g ((.rc tII 1 n0 (.slice (some ⟨bo, 0, none⟩) i 1) i ((List.range i).map v) :: rowsR i (dRow n0 v xs)) ++ [.bx b tS 3 C])
theorem MatSt.step {M : Nat → Prop} {n0 : Nat} {hb : AH} {b i bo b' L : Nat} {v : Nat → Value} {xs : Nat → List Int} {ys : List Int} {C : List Value} {g : AH} (hx : ∀ j, j < i → (xs j).length = L) (hv : 0 < i → ∃ b', v 0 = .slice (some ⟨b', 0, none⟩) (xs 0).length 1) (hy : ys.length = L)
    (S : SepM M n0 hb g (.rc tI 1 n0 (.slice (some ⟨b', 0, none⟩) ys.length 1) ys.length (ys.map (.int .i64)) :: (.rc tII 1 n0 (.slice (some ⟨bo, 0, none⟩) (i + 1) 1) (i + 1) ((List.range i).map v ++ [.slice (some ⟨b', 0, none⟩) ys.length 1]) :: rowsR i (dRow n0 v xs)) ++ [.bx b tS 3 C])) :
    MatSt M n0 hb b (i + 1) bo L (fun j => if j = i then .slice (some ⟨b', 0, none⟩) ys.length 1 else v j) (fun j => if j = i then ys else xs j) C g := by
  refine ⟨fun j hj => ?_, fun _ => ?_, ?_⟩
  · by_cases e : j = i
    · simpa [e] using hy
    · simpa [e] using hx j (by omega)
  · by_cases e : i = 0
    · subst e; simp
    · obtain ⟨b1, e1⟩ := hv (by omega)
      exact ⟨b1, by simp [Ne.symm e, e1]⟩
  · rw [rowsR_succ]
    have e1 : rowsR i (dRow n0 (fun j => if j = i then .slice (some ⟨b', 0, none⟩) ys.length 1 else v j) (fun j => if j = i then ys else xs j)) = rowsR i (dRow n0 v xs) := rowsR_congr fun j hj => by
      have e : ¬ j = i := by omega
      simp [dRow, e]
    have e2 : (List.range (i + 1)).map (fun j => if j = i then .slice (some ⟨b', 0, none⟩) ys.length 1 else v j) = (List.range i).map v ++ [.slice (some ⟨b', 0, none⟩) ys.length 1] := by
      rw [List.range_succ, List.map_append]
      congr 1
      · refine List.map_congr_left fun j hj => ?_
        have e : ¬ j = i := by simp at hj; omega
        simp [e]
      · simp
    have e3 : dRow n0 (fun j => if j = i then .slice (some ⟨b', 0, none⟩) ys.length 1 else v j) (fun j => if j = i then ys else xs j) i = .rc tI 1 n0 (.slice (some ⟨b', 0, none⟩) ys.length 1) ys.length (ys.map (.int .i64)) := by simp [dRow]
    rw [e1, e2, e3]
    refine S.perm ?_
    show List.Perm ([_] ++ (_ :: (rowsR i (dRow n0 v xs) ++ [_]))) (_ :: ((rowsR i (dRow n0 v xs) ++ [_]) ++ [_]))
    refine (List.Perm.swap _ _ _).trans (List.Perm.cons _ ?_)
    rw [List.append_assoc]
    exact (List.perm_middle (l₁ := rowsR i (dRow n0 v xs)) (l₂ := [.bx b tS 3 C])).symm
theorem MatSt.open0 {M : Nat → Prop} {n0 : Nat} {hb : AH} {m bo b1 : Nat} {v : Nat → Value} {xs : Nat → List Int} {g : AH} {R : Res} (e1 : v 0 = .slice (some ⟨b1, 0, none⟩) (xs 0).length 1) (S : SepM M n0 hb g ((.rc tII 1 n0 (.slice (some ⟨bo, 0, none⟩) (m + 1) 1) (m + 1) ((List.range (m + 1)).map v) :: rowsR (m + 1) (dRow n0 v xs)) ++ [R])) :
    SepM M n0 hb g (.bx bo tII 1 ((List.range (m + 1)).map v) :: (.rc tI 1 n0 (.slice (some ⟨b1, 0, none⟩) (xs 0).length 1) (xs 0).length ((xs 0).map (.int .i64)) :: rowsR m (fun j => dRow n0 v xs (j + 1))) ++ [R]) := by
  have S := S.rc_bx 0 rfl
  refine S.eq ?_
  rw [rowsR_head, show dRow n0 v xs 0 = .rc tI 1 n0 (.slice (some ⟨b1, 0, none⟩) (xs 0).length 1) (xs 0).length ((xs 0).map (.int .i64)) by rw [dRow, e1]]
  rfl
theorem MatSt.close0 {M : Nat → Prop} {n0 : Nat} {hb : AH} {m bo b2 k : Nat} {v : Nat → Value} {xs : Nat → List Int} {ys : List Int} {g : AH} {R : Res} (hk : ys.length = k) (S : SepM M n0 hb g (.bx bo tII 1 ((List.range (m + 1)).map fun j => if j = 0 then .slice (some ⟨b2, 0, none⟩) k 1 else v j) :: (.rc tI 1 n0 (.slice (some ⟨b2, 0, none⟩) k 1) k (ys.map (.int .i64)) :: rowsR m (fun j => dRow n0 v xs (j + 1))) ++ [R])) :
    SepM M n0 hb g ((.rc tII 1 n0 (.slice (some ⟨bo, 0, none⟩) (m + 1) 1) (m + 1) ((List.range (m + 1)).map fun j => if j = 0 then .slice (some ⟨b2, 0, none⟩) k 1 else v j) :: rowsR (m + 1) (dRow n0 (fun j => if j = 0 then .slice (some ⟨b2, 0, none⟩) k 1 else v j) (fun j => if j = 0 then ys else xs j))) ++ [R]) := by
  subst hk
  have S := S.bx_rc 0 (k := m + 1) rfl (by simp)
  refine S.eq ?_
  rw [rowsR_head]
  have e3 : dRow n0 (fun j => if j = 0 then .slice (some ⟨b2, 0, none⟩) ys.length 1 else v j) (fun j => if j = 0 then ys else xs j) 0 = .rc tI 1 n0 (.slice (some ⟨b2, 0, none⟩) ys.length 1) ys.length (ys.map (.int .i64)) := by simp [dRow]
  rw [e3]
  rfl
theorem MatSt.fin {M : Nat → Prop} {n0 : Nat} {hb h : AH} {b i bo : Nat} {v : Nat → Value} {xs : Nat → List Int} {C : List Value} {g0 g : AH} (hi : i ≤ 6) (hs : Dice g0 C) (hx : ∀ j, j < i → (xs j).length ≤ 2000) (S : SepM M n0 hb g ((.rc tII 1 n0 (.slice (some ⟨bo, 0, none⟩) i 1) i ((List.range i).map v) :: rowsR i (dRow n0 v xs)) ++ [.bx b tS 3 C])) (hlen : hb.length = h.length) :
    FinX h (DrawnMat g0 M n0 hb b) (.slice (some ⟨bo, 0, none⟩) i 1) g := by
  have S := S.endRows hx
  exact FinX.here (by have := S.le.len; omega) ⟨C, _, ⟨i, bo, _, rfl, hi, rfl⟩, hs, S⟩

set_option maxHeartbeats 2000000 in
theorem l07DrawRows_c {M : Nat → Prop} {n0 : Nat} {hb h : AH} {b : Nat} {C : List Value} (S : SepM M n0 hb h [.bx b tS 3 C]) (hlen : hb.length = h.length) {g0 : AH} (hs : Dice g0 C) (hg : Le g0 hb) (n m : Int) (hn : 0 ≤ n ∧ n ≤ 6) (hm : 0 ≤ m ∧ m ≤ 6) :
    ACalls Try.prog 44 [.pointer (some ⟨b, 0, none⟩), .int .i64 n, .int .i64 m] h (DrawnMat g0 M n0 hb b) := by
  have pk := fun (M : Nat → Prop) (n0 : Nat) (hb h : AH) (C : List Value) (S : SepM M n0 hb h [.bx b tS 3 C]) (hlen : hb.length = h.length) (hs : Dice g0 C) (hg : Le g0 hb) (v : Value) (xs : List Int) (hx : RI hb v xs) (h0 : 0 < xs.length) (hl : xs.length ≤ 1000000) => l01Pick_c S hlen hs hg v xs hx h0 hl
  refine ACalls.of Tt.tab Try.func44 rfl (by kernel_rfl) Try.ntmps44 _ rfl rfl (fun hw => ?_)
  refine S.new fun bo g S => ?_
  have S := S.bx_rc 0 (k := 0) rfl rfl
  refine S.new fun bl g S => ?_
  have S := S.recast 0 (cells' := ([1, 2, 4, 9] : List Int).map (.int .i64)) rfl rfl
  refine SepM.pick [_] S hs hg rfl (by decide) (by decide) pk fun q g C1 hq hs S => ?_
  have hq : 1 ≤ q ∧ q ≤ 9 := by simp at hq; omega
  refine ⟨⟨[0, 1, 2, 7, 8, 9], fun n' vs g => ∃ (i bo : Nat) (v : Nat → Value) (xs : Nat → List Int) (C : List Value), n' = n.toNat - i ∧ (i : Int) ≤ n ∧ Dice g0 C ∧ MatSt M n0 hb b i bo m.toNat v xs C g ∧
    vs = [.pointer (some ⟨b, 0, none⟩), .int .i64 n, .int .i64 m, .slice (some ⟨bo, 0, none⟩) i 1, .int .i64 q, .int .i64 i], _, ⟨0, bo, fun _ => .nilIface, fun _ => [], C1, rfl, by omega, hs, ⟨fun j hj => by omega, fun h => by omega, S⟩, rfl⟩, ?_⟩⟩
  clear S hs
  rintro n' vs g ⟨i, bo, v, xs, C, rfl, hi, hs5, ⟨hx5, hv5, S5⟩, rfl⟩
  refine BIf.mk (fun c1 => ?_) (fun c1 => ?_)
  · have c1 : (i : Int) < n := by simpa using c1
    have S := S5
    have hs := hs5
    have hx := hx5
    have hv := hv5
    refine S.new fun b2 g S => ?_
    have S := S.bx_rc 0 (k := 0) rfl rfl
    refine ⟨⟨[0, 1, 2, 7, 8, 9, 10, 11], fun n' vs g => ∃ (k b2 : Nat) (ys : List Int) (C : List Value), n' = m.toNat - k ∧ (k : Int) ≤ m ∧ ys.length = k ∧ Dice g0 C ∧
      SepM M n0 hb g (.rc tI 1 n0 (.slice (some ⟨b2, 0, none⟩) k 1) k (ys.map (.int .i64)) :: (.rc tII 1 n0 (.slice (some ⟨bo, 0, none⟩) i 1) i ((List.range i).map v) :: rowsR i (dRow n0 v xs)) ++ [.bx b tS 3 C]) ∧
      vs = [.pointer (some ⟨b, 0, none⟩), .int .i64 n, .int .i64 m, .slice (some ⟨bo, 0, none⟩) i 1, .int .i64 q, .int .i64 i, .slice (some ⟨b2, 0, none⟩) k 1, .int .i64 k], _, ⟨0, b2, [], C, rfl, by omega, rfl, hs, S, rfl⟩, ?_⟩⟩
    clear S hs
    rintro n' vs g ⟨k, b2, ys, C, rfl, hk, hy, hs, S, rfl⟩
    refine BIf.mk (fun c2 => ?_) (fun c2 => ?_)
    · have c2 : (k : Int) < m := by simpa using c2
      refine WR.i64 ?_
      refine WR.i64 ?_
      refine S.src (_ :: _ :: rowsR i (dRow n0 v xs)) hs hg (fun G hb' e1 e2 _ S hg' => l01Next_c S e1 hs hg' _ (by omega)) ?_
      rintro r g C2 Ns ⟨x, rfl, x1, x2, x3, rfl⟩ hs S
      have x2 := x2 (by omega)
      refine WR.i64 ?_
      refine S.src (_ :: _ :: rowsR i (dRow n0 v xs)) hs hg (fun G hb' e1 e2 _ S hg' => l01Next_c S e1 hs hg' 2 (by omega)) ?_
      rintro r g C3 Ns ⟨y, rfl, y1, y2, y3, rfl⟩ hs S
      have y2 := y2 (by omega)
      have hxy : -100 ≤ (x - q) * y ∧ (x - q) * y ≤ 100 := by
        rcases (by omega : y = 0 ∨ y = 1) with e | e <;> subst e <;> omega
      refine WR.i64 ?_
      refine S.new fun b3 g S => ?_
      refine S.app (ie := Tt.ti2) 0 rfl rfl rfl (by omega) fun b4 g S => ?_
      refine WR.as (r := ((k + 1 : Nat) : Int)) (by omega) ?_
      exact ⟨m.toNat - (k + 1), by omega, k + 1, b4, ys ++ [(x - q) * y], C3, rfl, by omega, by simp [hy], hs, by rw [List.map_append]; exact S, rfl⟩
    have hk2 : (k : Int) = m := by simp at c2; omega
    subst hy
    refine S.new fun b0 g S => ?_
    refine S.app (ie := Tt.ti26) 1 rfl rfl rfl (by omega) fun b4 g S => ?_
    refine WR.as (r := ((i + 1 : Nat) : Int)) (by omega) ?_
    exact ⟨n.toNat - (i + 1), by omega, i + 1, b4, _, _, C, rfl, by omega, hs, MatSt.step hx hv (by omega) S, rfl⟩
  have c1 : (i : Int) = n := by simp at c1; omega
  subst c1
  have S := S5
  have hs := hs5
  have hx := hx5
  have hv := hv5
  have hi6 : i ≤ 6 := by omega
  have hm6 : m.toNat ≤ 6 := by omega
  refine BIf.mk (fun c2 => ?_) (fun c2 => ?_)
  have c2 : 1 < i := by simp at c2; omega
  refine BIf.mk (fun c3 => ?_) (fun c3 => ?_)
  refine S.src (_ :: rowsR i _) hs hg (fun G hb' e1 e2 _ S hg' => l01Next_c S e1 hs hg' 3 (by omega)) ?_
  rintro r g C2 Ns ⟨y, rfl, x1, x2, x3, rfl⟩ hs S
  refine BIf.mk (fun c4 => ?_) (fun c4 => ?_)
  obtain ⟨b1, e1⟩ := hv (by omega)
  obtain ⟨i', rfl⟩ : ∃ i', i = i' + 1 := ⟨i - 1, by omega⟩
  refine WR.as (r := ((i' : Nat) : Int)) (by omega) ?_
  have S0 := MatSt.open0 e1 S
  refine IdxX.mk (by omega) (by omega) ?_
  refine LoadX.same (S0.at_ 0 rfl) (ldv_map (j := 0) rfl (by omega)) ?_
  rw [e1]
  have hx0 := hx 0 (by omega)
  have hr := S0.rdc (e := tI) 1 rfl (by omega)
  refine S.rc_bx 0 rfl |>.madeR (l01OwnR_c _ _ (xs 0) hr (by omega)) fun A c g L S => ?_
  refine IdxX.mk (by omega) (by omega) ?_
  refine S.store (o := 0 + i') (vs := [.slice A (xs 0).length c]) 1 rfl (by simp) fun g S => ?_
  have S := S.recast 1 rfl (setCells_map (by omega) _)
  have S := (S.rowSet (j := i') (by omega))
  have S := S.eq (congrArg (fun l => _ :: (l ++ _)) dRow_upd)
  have S := S.bx_rc 0 (k := i' + 1) rfl (by simp)
  have hv : 0 < i' + 1 → ∃ b', (fun k => if k = i' then .slice A (xs 0).length c else v k) 0 = .slice (some ⟨b', 0, none⟩) ((fun k => if k = i' then xs 0 else xs k) 0).length 1 := fun _ => ⟨b1, by
    have e : ¬ 0 = i' := by omega
    simp [e, e1]⟩
  have hx : ∀ j, j < i' + 1 → ((fun k => if k = i' then xs 0 else xs k) j).length = m.toNat := fun j hj => by
    by_cases e : j = i'
    · simp [e, hx0]
    · simpa [e] using hx j (by omega)
  · generalize (fun k => if k = i' then Value.slice A (xs 0).length c else v k) = v2 at S hv
    generalize (fun k => if k = i' then xs 0 else xs k) = xs2 at S hv hx
    refine BIf.mk (fun c5 => ?_) (fun c5 => ?_)
    · have c5 : 0 < (i' + 1) := by simp at c5; omega
      refine S.src (_ :: rowsR _ _) hs hg (fun G hb' e1 e2 _ S hg' => l01Next_c S e1 hs hg' 40 (by omega)) ?_
      rintro r g C2 Ns ⟨y, rfl, x1, x2, x3, rfl⟩ hs S
      refine BIf.mk (fun c6 => ?_) (fun c6 => ?_)
      · refine S.src (_ :: rowsR _ _) hs hg (fun G hb' e1 e2 _ S hg' => l01Next_c S e1 hs hg' 2 (by omega)) ?_
        rintro r g C3 Ns ⟨z, rfl, x1, x2, x3, rfl⟩ hs S
        obtain ⟨b1, e1⟩ := hv c5
        have hx0 := hx 0 c5
        have ld0 : ∀ i : TI, i.agg = false → ldv i ((List.range (i' + 1)).map v2) (0 + 0) = some (.slice (some ⟨b1, 0, none⟩) (xs2 0).length 1) := fun i hi => by rw [← e1]; exact ldv_map hi (Nat.succ_pos i')
        refine BIf.mk (fun c7 => ?_) (fun c7 => ?_)
        · have S := MatSt.open0 e1 S
          refine IdxX.mk (by omega) (by omega) ?_
          refine LoadX.same (S.at_ 0 rfl) (ld0 _ rfl) ?_
          refine S.new fun bk g S => ?_
          refine S.app (ie := Tt.ti2) 1 rfl rfl rfl (by omega) fun b2 g S => ?_
          refine IdxX.mk (by omega) (by omega) ?_
          refine S.store (o := 0 + 0) (vs := [.slice (some ⟨b2, 0, none⟩) ((xs2 0).length + 1) 1]) 0 rfl (by simp) fun g S => ?_
          have S := S.recast 0 rfl (setCells_map (Nat.succ_pos i') _)
          have S := MatSt.close0 (ys := xs2 0 ++ [0]) (k := (xs2 0).length + 1) (by simp) (S.eq (by rw [List.map_append]; rfl))
          exact MatSt.fin hi6 hs (fun j hj => by
            by_cases e : j = 0
            · simp [e]; omega
            · have := hx j hj
              simp [e]; omega) S hlen
        · refine BIf.mk (fun c8 => ?_) (fun c8 => ?_)
          · have c8 : 0 < m := by simpa using c8
            have S := MatSt.open0 e1 S
            refine IdxX.mk (by omega) (by omega) ?_
            refine LoadX.same (S.at_ 0 rfl) (ld0 _ rfl) ?_
            refine S.new fun bl g S => ?_
            have S := S.recast 0 (cells' := ([10, -10] : List Int).map (.int .i64)) rfl rfl
            refine SepM.pick (k := 2) (.bx bo tII 1 _ :: .rc tI 1 n0 _ _ _ :: rowsR i' _) S hs hg rfl (by omega) (by omega) pk fun x g C4 hx4 hs S => ?_
            have S := S.rc_bx 1 rfl
            refine IdxX.mk (by omega) (by omega) ?_
            refine S.storeI (a := 0) (y := x) 1 rfl (by omega) fun g S => ?_
            have S := S.bx_rc 1 (k := (xs2 0).length) rfl (by simp)
            have ev : (List.range (i' + 1)).map v2 = (List.range (i' + 1)).map fun j => if j = 0 then .slice (some ⟨b1, 0, none⟩) (xs2 0).length 1 else v2 j := List.map_congr_left fun j _ => by
              by_cases e : j = 0
              · rw [if_pos e, e, e1]
              · rw [if_neg e]
            have S := S.recast 0 rfl ev
            have S := MatSt.close0 (ys := (xs2 0).set 0 x) (k := (xs2 0).length) (by simp) S
            exact MatSt.fin hi6 hs (fun j hj => by
              by_cases e : j = 0
              · simp [e]; omega
              · have := hx j hj
                simp [e]; omega) S hlen
          · exact MatSt.fin hi6 hs (fun j hj => by have := hx j hj; omega) S hlen
      · exact MatSt.fin hi6 hs (fun j hj => by have := hx j hj; omega) S hlen
    · repeat (first | refine BIf.yes rfl ?_ | refine BIf.no rfl ?_)
      exact MatSt.fin hi6 hs (fun j hj => by have := hx j hj; omega) S hlen
  · repeat (first | refine BIf.yes rfl ?_ | refine BIf.no rfl ?_)
    refine BIf.mk (fun c5 => ?_) (fun c5 => ?_)
    · have c5 : 0 < i := by simp at c5; omega
      refine S.src (_ :: rowsR _ _) hs hg (fun G hb' e1 e2 _ S hg' => l01Next_c S e1 hs hg' 40 (by omega)) ?_
      rintro r g C2 Ns ⟨y, rfl, x1, x2, x3, rfl⟩ hs S
      refine BIf.mk (fun c6 => ?_) (fun c6 => ?_)
      · refine S.src (_ :: rowsR _ _) hs hg (fun G hb' e1 e2 _ S hg' => l01Next_c S e1 hs hg' 2 (by omega)) ?_
        rintro r g C3 Ns ⟨z, rfl, x1, x2, x3, rfl⟩ hs S
        obtain ⟨b1, e1⟩ := hv c5
        have hx0 := hx 0 c5
        obtain ⟨i', rfl⟩ : ∃ i', i = i' + 1 := ⟨i - 1, by omega⟩
        have ld0 : ∀ i : TI, i.agg = false → ldv i ((List.range (i' + 1)).map v) (0 + 0) = some (.slice (some ⟨b1, 0, none⟩) (xs 0).length 1) := fun i hi => by rw [← e1]; exact ldv_map hi (Nat.succ_pos i')
        refine BIf.mk (fun c7 => ?_) (fun c7 => ?_)
        · have S := MatSt.open0 e1 S
          refine IdxX.mk (by omega) (by omega) ?_
          refine LoadX.same (S.at_ 0 rfl) (ld0 _ rfl) ?_
          refine S.new fun bk g S => ?_
          refine S.app (ie := Tt.ti2) 1 rfl rfl rfl (by omega) fun b2 g S => ?_
          refine IdxX.mk (by omega) (by omega) ?_
          refine S.store (o := 0 + 0) (vs := [.slice (some ⟨b2, 0, none⟩) ((xs 0).length + 1) 1]) 0 rfl (by simp) fun g S => ?_
          have S := S.recast 0 rfl (setCells_map (Nat.succ_pos i') _)
          have S := MatSt.close0 (ys := xs 0 ++ [0]) (k := (xs 0).length + 1) (by simp) (S.eq (by rw [List.map_append]; rfl))
          exact MatSt.fin hi6 hs (fun j hj => by
            by_cases e : j = 0
            · simp [e]; omega
            · have := hx j hj
              simp [e]; omega) S hlen
        · refine BIf.mk (fun c8 => ?_) (fun c8 => ?_)
          · have c8 : 0 < m := by simpa using c8
            have S := MatSt.open0 e1 S
            refine IdxX.mk (by omega) (by omega) ?_
            refine LoadX.same (S.at_ 0 rfl) (ld0 _ rfl) ?_
            refine S.new fun bl g S => ?_
            have S := S.recast 0 (cells' := ([10, -10] : List Int).map (.int .i64)) rfl rfl
            refine SepM.pick (k := 2) (.bx bo tII 1 _ :: .rc tI 1 n0 _ _ _ :: rowsR i' _) S hs hg rfl (by omega) (by omega) pk fun x g C4 hx4 hs S => ?_
            have S := S.rc_bx 1 rfl
            refine IdxX.mk (by omega) (by omega) ?_
            refine S.storeI (a := 0) (y := x) 1 rfl (by omega) fun g S => ?_
            have S := S.bx_rc 1 (k := (xs 0).length) rfl (by simp)
            have ev : (List.range (i' + 1)).map v = (List.range (i' + 1)).map fun j => if j = 0 then .slice (some ⟨b1, 0, none⟩) (xs 0).length 1 else v j := List.map_congr_left fun j _ => by
              by_cases e : j = 0
              · rw [if_pos e, e, e1]
              · rw [if_neg e]
            have S := S.recast 0 rfl ev
            have S := MatSt.close0 (ys := (xs 0).set 0 x) (k := (xs 0).length) (by simp) S
            exact MatSt.fin hi6 hs (fun j hj => by
              by_cases e : j = 0
              · simp [e]; omega
              · have := hx j hj
                simp [e]; omega) S hlen
          · exact MatSt.fin hi6 hs (fun j hj => by have := hx j hj; omega) S hlen
      · exact MatSt.fin hi6 hs (fun j hj => by have := hx j hj; omega) S hlen
    · repeat (first | refine BIf.yes rfl ?_ | refine BIf.no rfl ?_)
      exact MatSt.fin hi6 hs (fun j hj => by have := hx j hj; omega) S hlen
  · repeat (first | refine BIf.yes rfl ?_ | refine BIf.no rfl ?_)
    refine BIf.mk (fun c5 => ?_) (fun c5 => ?_)
    · have c5 : 0 < i := by simp at c5; omega
      refine S.src (_ :: rowsR _ _) hs hg (fun G hb' e1 e2 _ S hg' => l01Next_c S e1 hs hg' 40 (by omega)) ?_
      rintro r g C2 Ns ⟨y, rfl, x1, x2, x3, rfl⟩ hs S
      refine BIf.mk (fun c6 => ?_) (fun c6 => ?_)
      · refine S.src (_ :: rowsR _ _) hs hg (fun G hb' e1 e2 _ S hg' => l01Next_c S e1 hs hg' 2 (by omega)) ?_
        rintro r g C3 Ns ⟨z, rfl, x1, x2, x3, rfl⟩ hs S
        obtain ⟨b1, e1⟩ := hv c5
        have hx0 := hx 0 c5
        obtain ⟨i', rfl⟩ : ∃ i', i = i' + 1 := ⟨i - 1, by omega⟩
        have ld0 : ∀ i : TI, i.agg = false → ldv i ((List.range (i' + 1)).map v) (0 + 0) = some (.slice (some ⟨b1, 0, none⟩) (xs 0).length 1) := fun i hi => by rw [← e1]; exact ldv_map hi (Nat.succ_pos i')
        refine BIf.mk (fun c7 => ?_) (fun c7 => ?_)
        · have S := MatSt.open0 e1 S
          refine IdxX.mk (by omega) (by omega) ?_
          refine LoadX.same (S.at_ 0 rfl) (ld0 _ rfl) ?_
          refine S.new fun bk g S => ?_
          refine S.app (ie := Tt.ti2) 1 rfl rfl rfl (by omega) fun b2 g S => ?_
          refine IdxX.mk (by omega) (by omega) ?_
          refine S.store (o := 0 + 0) (vs := [.slice (some ⟨b2, 0, none⟩) ((xs 0).length + 1) 1]) 0 rfl (by simp) fun g S => ?_
          have S := S.recast 0 rfl (setCells_map (Nat.succ_pos i') _)
          have S := MatSt.close0 (ys := xs 0 ++ [0]) (k := (xs 0).length + 1) (by simp) (S.eq (by rw [List.map_append]; rfl))
          exact MatSt.fin hi6 hs (fun j hj => by
            by_cases e : j = 0
            · simp [e]; omega
            · have := hx j hj
              simp [e]; omega) S hlen
        · refine BIf.mk (fun c8 => ?_) (fun c8 => ?_)
          · have c8 : 0 < m := by simpa using c8
            have S := MatSt.open0 e1 S
            refine IdxX.mk (by omega) (by omega) ?_
            refine LoadX.same (S.at_ 0 rfl) (ld0 _ rfl) ?_
            refine S.new fun bl g S => ?_
            have S := S.recast 0 (cells' := ([10, -10] : List Int).map (.int .i64)) rfl rfl
            refine SepM.pick (k := 2) (.bx bo tII 1 _ :: .rc tI 1 n0 _ _ _ :: rowsR i' _) S hs hg rfl (by omega) (by omega) pk fun x g C4 hx4 hs S => ?_
            have S := S.rc_bx 1 rfl
            refine IdxX.mk (by omega) (by omega) ?_
            refine S.storeI (a := 0) (y := x) 1 rfl (by omega) fun g S => ?_
            have S := S.bx_rc 1 (k := (xs 0).length) rfl (by simp)
            have ev : (List.range (i' + 1)).map v = (List.range (i' + 1)).map fun j => if j = 0 then .slice (some ⟨b1, 0, none⟩) (xs 0).length 1 else v j := List.map_congr_left fun j _ => by
              by_cases e : j = 0
              · rw [if_pos e, e, e1]
              · rw [if_neg e]
            have S := S.recast 0 rfl ev
            have S := MatSt.close0 (ys := (xs 0).set 0 x) (k := (xs 0).length) (by simp) S
            exact MatSt.fin hi6 hs (fun j hj => by
              by_cases e : j = 0
              · simp [e]; omega
              · have := hx j hj
                simp [e]; omega) S hlen
          · exact MatSt.fin hi6 hs (fun j hj => by have := hx j hj; omega) S hlen
      · exact MatSt.fin hi6 hs (fun j hj => by have := hx j hj; omega) S hlen
    · repeat (first | refine BIf.yes rfl ?_ | refine BIf.no rfl ?_)
      exact MatSt.fin hi6 hs (fun j hj => by have := hx j hj; omega) S hlen
  · repeat (first | refine BIf.yes rfl ?_ | refine BIf.no rfl ?_)
    refine BIf.mk (fun c5 => ?_) (fun c5 => ?_)
    · have c5 : 0 < i := by simp at c5; omega
      refine S.src (_ :: rowsR _ _) hs hg (fun G hb' e1 e2 _ S hg' => l01Next_c S e1 hs hg' 40 (by omega)) ?_
      rintro r g C2 Ns ⟨y, rfl, x1, x2, x3, rfl⟩ hs S
      refine BIf.mk (fun c6 => ?_) (fun c6 => ?_)
      · refine S.src (_ :: rowsR _ _) hs hg (fun G hb' e1 e2 _ S hg' => l01Next_c S e1 hs hg' 2 (by omega)) ?_
        rintro r g C3 Ns ⟨z, rfl, x1, x2, x3, rfl⟩ hs S
        obtain ⟨b1, e1⟩ := hv c5
        have hx0 := hx 0 c5
        obtain ⟨i', rfl⟩ : ∃ i', i = i' + 1 := ⟨i - 1, by omega⟩
        have ld0 : ∀ i : TI, i.agg = false → ldv i ((List.range (i' + 1)).map v) (0 + 0) = some (.slice (some ⟨b1, 0, none⟩) (xs 0).length 1) := fun i hi => by rw [← e1]; exact ldv_map hi (Nat.succ_pos i')
        refine BIf.mk (fun c7 => ?_) (fun c7 => ?_)
        · have S := MatSt.open0 e1 S
          refine IdxX.mk (by omega) (by omega) ?_
          refine LoadX.same (S.at_ 0 rfl) (ld0 _ rfl) ?_
          refine S.new fun bk g S => ?_
          refine S.app (ie := Tt.ti2) 1 rfl rfl rfl (by omega) fun b2 g S => ?_
          refine IdxX.mk (by omega) (by omega) ?_
          refine S.store (o := 0 + 0) (vs := [.slice (some ⟨b2, 0, none⟩) ((xs 0).length + 1) 1]) 0 rfl (by simp) fun g S => ?_
          have S := S.recast 0 rfl (setCells_map (Nat.succ_pos i') _)
          have S := MatSt.close0 (ys := xs 0 ++ [0]) (k := (xs 0).length + 1) (by simp) (S.eq (by rw [List.map_append]; rfl))
          exact MatSt.fin hi6 hs (fun j hj => by
            by_cases e : j = 0
            · simp [e]; omega
            · have := hx j hj
              simp [e]; omega) S hlen
        · refine BIf.mk (fun c8 => ?_) (fun c8 => ?_)
          · have c8 : 0 < m := by simpa using c8
            have S := MatSt.open0 e1 S
            refine IdxX.mk (by omega) (by omega) ?_
            refine LoadX.same (S.at_ 0 rfl) (ld0 _ rfl) ?_
            refine S.new fun bl g S => ?_
            have S := S.recast 0 (cells' := ([10, -10] : List Int).map (.int .i64)) rfl rfl
            refine SepM.pick (k := 2) (.bx bo tII 1 _ :: .rc tI 1 n0 _ _ _ :: rowsR i' _) S hs hg rfl (by omega) (by omega) pk fun x g C4 hx4 hs S => ?_
            have S := S.rc_bx 1 rfl
            refine IdxX.mk (by omega) (by omega) ?_
            refine S.storeI (a := 0) (y := x) 1 rfl (by omega) fun g S => ?_
            have S := S.bx_rc 1 (k := (xs 0).length) rfl (by simp)
            have ev : (List.range (i' + 1)).map v = (List.range (i' + 1)).map fun j => if j = 0 then .slice (some ⟨b1, 0, none⟩) (xs 0).length 1 else v j := List.map_congr_left fun j _ => by
              by_cases e : j = 0
              · rw [if_pos e, e, e1]
              · rw [if_neg e]
            have S := S.recast 0 rfl ev
            have S := MatSt.close0 (ys := (xs 0).set 0 x) (k := (xs 0).length) (by simp) S
            exact MatSt.fin hi6 hs (fun j hj => by
              by_cases e : j = 0
              · simp [e]; omega
              · have := hx j hj
                simp [e]; omega) S hlen
          · exact MatSt.fin hi6 hs (fun j hj => by have := hx j hj; omega) S hlen
      · exact MatSt.fin hi6 hs (fun j hj => by have := hx j hj; omega) S hlen
    · repeat (first | refine BIf.yes rfl ?_ | refine BIf.no rfl ?_)
      exact MatSt.fin hi6 hs (fun j hj => by have := hx j hj; omega) S hlen

def DrawnII (h : AH) (r : Value) (h' : AH) : Prop := ∃ (b1 k1 : Nat) (a : List (List Int)), r = .slice (some ⟨b1, 0, none⟩) k1 1 ∧ RII h' (.slice (some ⟨b1, 0, none⟩) k1 1) a ∧ Le h h'

set_option maxHeartbeats 2000000 in
theorem drawSmith_c (h : AH) (v : Value) (xs : List Int) (hx : R8 h v xs) (hl : xs.length ≤ 1000000) : ACalls Try.prog 7 [v] h (DrawnII h) := by
  have pk := fun (b : Nat) (M : Nat → Prop) (n0 : Nat) (hb h' : AH) (C : List Value) (S : SepM M n0 hb h' [.bx b tS 3 C]) (hlen : hb.length = h'.length) (hs : Dice h C) (hg : Le h hb) (v : Value) (xs : List Int) (hx : RI hb v xs) (h0 : 0 < xs.length) (hl : xs.length ≤ 1000000) => l01Pick_c S hlen hs hg v xs hx h0 hl
  obtain ⟨bc, oc, kc, hx⟩ := hx.can
  refine ACalls.wk (args' := [.slice (some ⟨bc, oc, none⟩) xs.length 0]) ?_ (.cons kc .nil)
  refine ACalls.of Tt.tab Try.func7 rfl (by kernel_rfl) Try.ntmps7 _ rfl rfl (fun hw => ?_)
  have S := Sep.start h
  refine CallX.same (l01From_c _ _ xs hx hl) ?_
  rintro r g ⟨b, C, rfl, hlk, hge, hs, L⟩
  have S := S.box L hlk hge
  refine S.new fun bl g S => ?_
  have S := S.recast 0 (cells' := ([1, 2, 2, 3, 3, 4, 0] : List Int).map (.int .i64)) rfl rfl
  refine SepM.pick (k := 7) [] S hs (Le.refl _) rfl (by decide) (by decide) (pk b) fun q0 g C0 hq0 hs S => ?_
  have hq0 : 0 ≤ q0 ∧ q0 ≤ 6 := by simp at hq0; omega
  refine S.new fun bl g S => ?_
  have S := S.recast 0 (cells' := ([1, 2, 2, 3, 3, 4, 0] : List Int).map (.int .i64)) rfl rfl
  refine SepM.pick (k := 7) [] S hs (Le.refl _) rfl (by decide) (by decide) (pk b) fun q1 g C1 hq1 hs S => ?_
  have hq1 : 0 ≤ q1 ∧ q1 ≤ 6 := by simp at hq1; omega
  refine SepM.src [] S hs (Le.refl _) (fun G hb' e1 e2 _ S hg' => l07DrawRows_c S e1 hs hg' q0 q1 hq0 hq1) ?_
  rintro r g C9 Ns ⟨ka, ba, a, rfl, hka, rfl⟩ hs S
  exact FinX.here S.le.len ⟨_, _, a, rfl, S.rdw OI.reads 0 rfl (by omega), S.le⟩

set_option maxHeartbeats 2000000 in
theorem drawDet_c (h : AH) (v : Value) (xs : List Int) (hx : R8 h v xs) (hl : xs.length ≤ 1000000) : ACalls Try.prog 13 [v] h (DrawnII h) := by
  have pk := fun (b : Nat) (M : Nat → Prop) (n0 : Nat) (hb h' : AH) (C : List Value) (S : SepM M n0 hb h' [.bx b tS 3 C]) (hlen : hb.length = h'.length) (hs : Dice h C) (hg : Le h hb) (v : Value) (xs : List Int) (hx : RI hb v xs) (h0 : 0 < xs.length) (hl : xs.length ≤ 1000000) => l01Pick_c S hlen hs hg v xs hx h0 hl
  obtain ⟨bc, oc, kc, hx⟩ := hx.can
  refine ACalls.wk (args' := [.slice (some ⟨bc, oc, none⟩) xs.length 0]) ?_ (.cons kc .nil)
  refine ACalls.of Tt.tab Try.func13 rfl (by kernel_rfl) Try.ntmps13 _ rfl rfl (fun hw => ?_)
  have S := Sep.start h
  refine CallX.same (l01From_c _ _ xs hx hl) ?_
  rintro r g ⟨b, C, rfl, hlk, hge, hs, L⟩
  have S := S.box L hlk hge
  refine S.new fun bl g S => ?_
  have S := S.recast 0 (cells' := ([0, 1, 2, 3, 4, 5] : List Int).map (.int .i64)) rfl rfl
  refine SepM.pick (k := 6) [] S hs (Le.refl _) rfl (by decide) (by decide) (pk b) fun q0 g C0 hq0 hs S => ?_
  have hq0 : 0 ≤ q0 ∧ q0 ≤ 6 := by simp at hq0; omega
  refine SepM.src [] S hs (Le.refl _) (fun G hb' e1 e2 _ S hg' => l07DrawRows_c S e1 hs hg' q0 q0 hq0 hq0) ?_
  rintro r g C9 Ns ⟨ka, ba, a, rfl, hka, rfl⟩ hs S
  exact FinX.here S.le.len ⟨_, _, a, rfl, S.rdw OI.reads 0 rfl (by omega), S.le⟩

theorem l01Near_c {M : Nat → Prop} {n0 : Nat} {hb h : AH} {b : Nat} {C : List Value} (S : SepM M n0 hb h [.bx b tS 3 C]) (hlen : hb.length = h.length) {g0 : AH} (hs : Dice g0 C) (hg : Le g0 hb) (n : Int) (hn : 0 ≤ n ∧ n ≤ 1000) :
    ACalls Try.prog 70 [.pointer (some ⟨b, 0, none⟩), .int .i64 n] h (fun r h' => ∃ C' Ns, (∃ x, r = .int .i64 x ∧ Ns = []) ∧ Dice g0 C' ∧ SepM M n0 hb h' (Ns ++ [.bx b tS 3 C'])) := by
  have pk := fun (M : Nat → Prop) (n0 : Nat) (hb h : AH) (C : List Value) (S : SepM M n0 hb h [.bx b tS 3 C]) (hlen : hb.length = h.length) (hs : Dice g0 C) (hg : Le g0 hb) (v : Value) (xs : List Int) (hx : RI hb v xs) (h0 : 0 < xs.length) (hl : xs.length ≤ 1000000) => l01Pick_c S hlen hs hg v xs hx h0 hl
  refine ACalls.of Tt.tab Try.func70 rfl (by kernel_rfl) Try.ntmps70 _ rfl rfl (fun hw => ?_)
  refine S.src [] hs hg (fun G hb' e1 e2 _ S hg' => l01Next_c S e1 hs hg' 14 (by omega)) ?_
  rintro r g C2 Ns ⟨y, rfl, x1, x2, x3, rfl⟩ hs S
  refine BIf.mk (fun c6 => ?_) (fun c6 => ?_)
  · refine WR.i64 ?_
    refine S.new fun bl g S => ?_
    have S := S.recast 0 (cells' := ([-1, n + 1, 1099511627776, -4611686018427387904] : List Int).map (.int .i64)) rfl rfl
    refine SepM.pick (k := 4) [] S hs hg rfl (by decide) (by decide) pk fun q g C1 hq hs S => ?_
    exact FinX.here (by have := S.le.len; omega) ⟨C1, [], ⟨q, rfl, rfl⟩, hs, S⟩
  refine WR.i64 ?_
  refine S.src [] hs hg (fun G hb' e1 e2 _ S hg' => l01Next_c S e1 hs hg' (n + 1) (by omega)) ?_
  rintro r g C3 Ns ⟨z, rfl, x1, x2, x3, rfl⟩ hs S
  exact FinX.here (by have := S.le.len; omega) ⟨C3, [], ⟨z, rfl, rfl⟩, hs, S⟩

theorem drawLens_c (h : AH) (v : Value) (xs : List Int) (hx : R8 h v xs) (hl : xs.length ≤ 1000000) : ACalls Try.prog 25 [v] h (fun r h' => ∃ x y, r = .tuple #[.int .i64 x, .int .i64 y] ∧ Le h h') := by
  obtain ⟨bc, oc, kc, hx⟩ := hx.can
  refine ACalls.wk (args' := [.slice (some ⟨bc, oc, none⟩) xs.length 0]) ?_ (.cons kc .nil)
  refine ACalls.of Tt.tab Try.func25 rfl (by kernel_rfl) Try.ntmps25 _ rfl rfl (fun hw => ?_)
  have S := Sep.start h
  refine CallX.same (l01From_c _ _ xs hx hl) ?_
  rintro r g ⟨b, C, rfl, hlk, hge, hs, L⟩
  have S := S.box L hlk hge
  refine SepM.src [] S hs (Le.refl _) (fun G hb' e1 e2 _ S hg' => l01Near_c S e1 hs hg' 9 (by omega)) ?_
  rintro r g C9 Ns ⟨x, rfl, rfl⟩ hs S
  refine SepM.src [] S hs (Le.refl _) (fun G hb' e1 e2 _ S hg' => l01Near_c S e1 hs hg' 5 (by omega)) ?_
  rintro r g C9 Ns ⟨y, rfl, rfl⟩ hs S
  exact FinX.here S.le.len ⟨x, y, rfl, S.le⟩

end Go.Gl

set_option linter.unusedVariables false
set_option linter.unusedSimpArgs false
namespace Go.Gl
open Go.Proofs Go.Proofs.Ytoeapenknlfffaa Go.Pl

abbrev tIII : TypeId := 24
abbrev tW : TypeId := 34
theorem LoadX.num {g : AH} {bd k : Nat} {own : Option (TypeId × Nat)} {ds : List Int} {ti : TI} {K : Value → Prop} (hl : look g bd = some ⟨ds.map (.int .i64), own⟩) (hk : k < ds.length) (hK : K (.int .i64 (ith ds k))) (hi : ti.agg = false := by rfl) : LoadX g ti bd (0 + k) K :=
  LoadX.same hl (v := .int .i64 (ith ds k)) (by unfold ldv; rw [hi]; simp [ith, hk]) hK
/-- the tables of a whole complex, their shapes -/
structure WS (T : Sig) (ds : List Int) (us : List Value) : Prop where
  len : us.length + 1 = ds.length
  few : ds.length ≤ 6
  rng : ∀ i, 0 ≤ ith ds i ∧ ith ds i ≤ 6
  el : ∀ i, i < us.length → ∃ u b o, us[i]? = some u ∧ Wk u (.slice (some ⟨b, o, none⟩) (ith ds (i + 1)).toNat 0) ∧ ((ith ds (i + 1)).toNat = 0 ∨ T b = some (.R o (ith ds (i + 1)).toNat (ith ds i).toNat))
theorem WS.ext {T T' : Sig} {ds : List Int} {us : List Value} (w : WS T ds us) (e : Ext T T') : WS T' ds us :=
  ⟨w.len, w.few, w.rng, fun i hi => by obtain ⟨u, b, o, h1, h2, h3⟩ := w.el i hi; exact ⟨u, b, o, h1, h2, h3.imp id (e _ _)⟩⟩
theorem LoadX.val {g : AH} {b k : Nat} {own : Option (TypeId × Nat)} {us : List Value} {u w : Value} {ti : TI} {K : Value → Prop} (hl : look g b = some ⟨us, own⟩) (hu : us[k]? = some u) (hw : Wk u w) (hK : K w) (hi : ti.agg = false := by rfl) : LoadX g ti b (0 + k) K :=
  LoadX.one hl (by unfold ldv; rw [hi, Nat.zero_add]; exact hu) hw hK
theorem Res.rcAt {h : AH} {e : TypeId} {s n b k c : Nat} {cells : List Value} (hR : ∃ F, (Res.rc e s n (.slice (some ⟨b, 0, none⟩) k c) k cells).at_ h F) : look h b = some ⟨cells, some (e, s)⟩ := by
  obtain ⟨F, b', h1, _⟩ := hR
  rcases h1 with ⟨h1, h2, _⟩ | ⟨h1, _⟩
  · injection h1 with h1 _ h3
    injection h1 with h1
    injection h1 with h1
    subst h1
    exact (only_some.1 h2).2
  · cases h1
theorem Wk.places {b o c : Nat} : ∀ b' o', 0 < c → Wk (.slice (some ⟨b, o, none⟩) c 0) (.slice (some ⟨b', o', none⟩) c 0) → b' = b ∧ o' = o := fun b' o' hc hw => hw.place0 hc

theorem l01RowsG_c (h : AH) {T : Sig} {B : Int} (hs : Shaped T B h) {b o k c : Nat} (hb : k = 0 ∨ T b = some (.R o k c)) (hk : k ≤ 1000) (hc : c ≤ 1000) : ACalls Try.prog 144 [.slice (some ⟨b, o, none⟩) k 0] h (fun r h' => ∃ b' T', r = .slice (some ⟨b', 0, none⟩) k 1 ∧ Reg h.length h' .nilFunc (T', B) [] ∧ T' b' = some (.R 0 k c) ∧ Le h h') := by
  refine ACalls.of Tt.tab Try.func144 rfl (by kernel_rfl) Try.ntmps144 _ rfl rfl (fun hw => ?_)
  have S := Sep.start h
  have S := S.rgNone
  have S : Sep h.length h h [rg h.length (fun _ => none) B] := S.as 0 rfl fun F _ ⟨l, h1, h2, h3⟩ => ⟨l, h1, (fun b κ e => by cases e), fun b κ e => by cases e⟩
  refine S.new fun b5 g S => ?_
  have S := S.bx_rc 0 (k := 0) rfl rfl
  refine ⟨⟨[0, 3, 4], fun n' vs g => ∃ (i b5 : Nat) (us : List Value) (T' : Sig), n' = k - i ∧ i ≤ k ∧ us.length = i ∧ RowsOK T' c us ∧ Sep h.length h g [.rc tII 1 h.length (.slice (some ⟨b5, 0, none⟩) i 1) i us, rg h.length T' B] ∧
    vs = [.slice (some ⟨b, o, none⟩) k 0, .slice (some ⟨b5, 0, none⟩) i 1, .int .i64 i], _, ⟨0, b5, [], _, rfl, Nat.zero_le _, rfl, RowsOK.nil _ _, S, rfl⟩, ?_⟩⟩
  clear S
  rintro n' vs g ⟨i, b5, us, T', rfl, hi, hu, hr, S5, rfl⟩
  have S := S5
  refine BIf.mk (fun h2 => ?_) (fun h2 => ?_)
  · have hlt : i < k := by simpa using h2
    have hb : T b = some (.R o k c) := hb.resolve_left (by omega)
    refine IdxX.mk (by omega) (by omega) ?_
    refine (hs.le S.le).row (i := i) hb hlt fun b2 o2 hb2 => ?_
    obtain ⟨xs, e, hx, hbd⟩ := (hs.le S.le).readI (Wk.refl _) (by omega) hb2
    refine S.made OI.fr (l01Own_c _ _ xs hx (by omega)) fun b4 o4 g S => ?_
    rw [e] at S ⊢
    refine S.new fun b6 g S => ?_
    refine S.app (ie := Tt.ti26) 1 rfl rfl rfl (by omega) fun b7 g S => ?_
    have S := (S.front 2 rfl).front 1 rfl
    obtain ⟨T2, e2, h3, S⟩ := SepM.rgLeaf (cc := 0) S e (Wk.refl _) Wk.places hbd
    have S := S.front 1 rfl
    refine WR.as (r := ((i + 1 : Nat) : Int)) (by omega) ?_
    exact ⟨k - (i + 1), by omega, i + 1, b7, _, T2, rfl, hlt, by simp [hu], (hr.ext e2).snoc (Wk.refl _) h3, S, rfl⟩
  · have hi2 : i = k := by simp at h2; omega
    subst hi2
    have S := S5.rc_bx 0 rfl
    obtain ⟨T2, e2, h3, S⟩ := SepM.rgTab S (Nat.le_refl _) hr
    obtain ⟨l, hl⟩ := S.tre 0 rfl
    have hl0 : l = [] := hl.1
    subst hl0
    rw [hu] at h3
    exact FinX.here S.le.len ⟨b5, T2, rfl, hl, h3, S.le⟩

/-- a whole complex of our own: numbers, tables and a region -/
def whV (bd bm : Nat) (ds : List Int) (us : List Value) : Value := .agg #[.slice (some ⟨bd, 0, none⟩) ds.length 1, .slice (some ⟨bm, 0, none⟩) us.length 1]
def whP (n bd bm : Nat) (ds : List Int) (us : List Value) (T : Sig) (B : Int) : List Res := [.bx bd tI 1 (ds.map (.int .i64)), .bx bm tIII 1 us, rg n T B]
def ChgW (n0 : Nat) (g0 : AH) (M : Nat → Prop) (hb : AH) (b bd bm : Nat) (ds : List Int) (us : List Value) (B : Int) (r : Value) (h' : AH) : Prop := ∃ C' Ns, ((r = whV bd bm ds us ∧ Ns = []) ∨ ∃ bd' bm' ds' us' T', r = whV bd' bm' ds' us' ∧ WS T' ds' us' ∧ Ns = whP n0 bd' bm' ds' us' T' (B * 4096)) ∧ Dice g0 C' ∧ SepM M n0 hb h' (Ns ++ [.bx b tS 3 C'])
theorem pw2 (B : Int) (hB : 0 ≤ B) : ∀ c : Nat, c ≤ 12 → B ≤ B * 2 ^ c ∧ B * 2 ^ c ≤ B * 4096 := by
  intro c hc
  have h1 : (1 : Int) ≤ 2 ^ c := Int.pow_pos (by decide)
  have h2 : (2 : Int) ^ c ≤ 4096 := by
    match c, hc with
    | 0, _ | 1, _ | 2, _ | 3, _ | 4, _ | 5, _ | 6, _ | 7, _ | 8, _ | 9, _ | 10, _ | 11, _ | 12, _ => decide
  have h3 := Int.mul_le_mul_of_nonneg_left h1 hB
  have h4 := Int.mul_le_mul_of_nonneg_left h2 hB
  omega
def El (T : Sig) (ds : List Int) (us : List Value) : Prop := ∀ i, i < us.length → ∃ u b o, us[i]? = some u ∧ Wk u (.slice (some ⟨b, o, none⟩) (ith ds (i + 1)).toNat 0) ∧ ((ith ds (i + 1)).toNat = 0 ∨ T b = some (.R o (ith ds (i + 1)).toNat (ith ds i).toNat))
theorem El.ext {T T' : Sig} {ds : List Int} {us : List Value} (w : El T ds us) (e : Ext T T') : El T' ds us := fun i hi => by
  obtain ⟨u, b, o, h1, h2, h3⟩ := w i hi
  exact ⟨u, b, o, h1, h2, h3.imp id (e _ _)⟩
theorem El.nil (T : Sig) (ds : List Int) : El T ds [] := fun i hi => by simp at hi
theorem El.snoc {T : Sig} {ds : List Int} {us : List Value} {u : Value} {b o : Nat} (w : El T ds us) (hw : Wk u (.slice (some ⟨b, o, none⟩) (ith ds (us.length + 1)).toNat 0)) (hT : (ith ds (us.length + 1)).toNat = 0 ∨ T b = some (.R o (ith ds (us.length + 1)).toNat (ith ds us.length).toNat)) : El T ds (us ++ [u]) := fun i hi => by
  rcases Nat.lt_or_ge i us.length with h | h
  · obtain ⟨u, b, o, h1, h2⟩ := w i h
    exact ⟨u, b, o, by rw [List.getElem?_append_left h]; exact h1, h2⟩
  · have : i = us.length := by simp at hi; omega
    subst this
    exact ⟨u, b, o, by rw [List.getElem?_append_right (Nat.le_refl _)]; simp, hw, hT⟩
theorem rcSome' {M : Nat → Prop} {n : Nat} {hb h : AH} {Rs : List Res} (S : SepM M n hb h Rs) (j : Nat) {e : TypeId} {s m k c : Nat} {A : Option Addr} {cells : List Value} (hj : gt Rs j = some (.rc e s m (.slice A k c) k cells)) (hk : 0 < k) : ∃ b, A = some ⟨b, 0, none⟩ ∧ c = 1 := by
  obtain ⟨F, b, h1, _⟩ := S.get hj
  rcases h1 with ⟨h1, _⟩ | ⟨_, h1, _⟩
  · injection h1 with h1 _ h2
    exact ⟨b, h1, h2⟩
  · omega
/-- what such a complex reads as -/
theorem WS.reads {T : Sig} {B : Int} {h : AH} {bd bm : Nat} {ds : List Int} {us : List Value} {od om : Option (TypeId × Nat)} (hW : WS T ds us) (hT : Shaped T B h) (ld : look h bd = some ⟨ds.map (.int .i64), od⟩) (lm : look h bm = some ⟨us, om⟩) : ∃ x, RWhole h (whV bd bm ds us) x := by
  have h0 := hW.len
  have h1 := hW.few
  obtain ⟨ms, e, r⟩ := RS.ofAll (E := RII) (h := h) (v := .slice (some ⟨bm, 0, none⟩) us.length 1) (b := bm) (o := 0) (k := us.length) (Wk.weak _ _ _ _) (by omega) fun i hi => by
    obtain ⟨u, b, o, a1, a2, a3⟩ := hW.el i hi
    have r1 := hW.rng i
    have r2 := hW.rng (i + 1)
    obtain ⟨xs, _, r⟩ := hT.readII a2 (by omega) (by omega) a3
    exact ⟨_, u, xs, lm, by rw [Nat.zero_add]; exact a1, r⟩
  exact ⟨⟨ds, ms⟩, _, _, rfl, RI.look ld (by omega) 1, r⟩
theorem pw6_ (B : Int) (hB : 0 ≤ B) : ∀ c : Nat, c ≤ 6 → B ≤ B * 2 ^ c ∧ B * 2 ^ c ≤ B * 64 := by
  intro c hc
  have h1 : (1 : Int) ≤ 2 ^ c := Int.pow_pos (by decide)
  have h2 : (2 : Int) ^ c ≤ 64 := by
    match c, hc with
    | 0, _ | 1, _ | 2, _ | 3, _ | 4, _ | 5, _ | 6, _ => decide
  have h3 := Int.mul_le_mul_of_nonneg_left h1 hB
  have h4 := Int.mul_le_mul_of_nonneg_left h2 hB
  omega

set_option maxHeartbeats 4000000 in
theorem l07Change_c {M : Nat → Prop} {n0 : Nat} {hb h : AH} {b : Nat} {C : List Value} (S : SepM M n0 hb h [.bx b tS 3 C]) (hlen : hb.length = h.length) {g0 : AH} (hs : Dice g0 C) (hg : Le g0 hb) {bd bm : Nat} {ds : List Int} {us : List Value} {T : Sig} {B : Int} {od om : Option (TypeId × Nat)}
    (ld : look hb bd = some ⟨ds.map (.int .i64), od⟩) (lm : look hb bm = some ⟨us, om⟩) (hT : Shaped T B hb) (hW : WS T ds us) (hB : 1 ≤ B ∧ B ≤ 1000000000000) :
    ACalls Try.prog 135 [.pointer (some ⟨b, 0, none⟩), whV bd bm ds us] h (ChgW n0 g0 M hb b bd bm ds us B) := by
  have hl0 := hW.len
  have hl1 := hW.few
  unfold whV
  refine ACalls.of Tt.tab Try.func135 rfl (by kernel_rfl) Try.ntmps135 _ rfl rfl (fun hw => ?_)
  refine S.new fun b3 g S => ?_
  refine S.new fun b4 g S => ?_
  refine LoadX.same (S.at_ 1 rfl) rfl ?_
  refine S.src [_, _] hs hg (fun G hb' e1 e2 _ S hg' => l01Next_c S e1 hs hg' ds.length (by omega)) ?_
  rintro r g C2 Ns ⟨n, rfl, x1, x2, x3, rfl⟩ hs S
  have x2 := x2 (by omega)
  obtain ⟨n, rfl⟩ := Int.eq_ofNat_of_zero_le x1
  refine LoadX.same (S.at_ 1 rfl) rfl ?_
  refine IdxX.mk (by omega) (by omega) ?_
  refine LoadX.num (k := n) (S.le.at_ _ _ ld) (by omega) ?_
  have hdn := hW.rng n
  refine BIf.mk (fun c1 => ?_) (fun c1 => ?_)
  · refine LoadX.same (S.at_ 1 rfl) rfl ?_
    refine S.put 0 rfl fun g S => ?_
    refine LoadX.same (S.at_ 0 rfl) rfl ?_
    exact FinX.here (by have := S.le.len; omega) ⟨C2, [], .inl ⟨rfl, rfl⟩, hs, S.tail.tail⟩
  have c1 : 2 ≤ ith ds n := by simp at c1; omega
  refine S.src [_, _] hs hg (fun G hb' e1 e2 _ S hg' => l01Next_c S e1 hs hg' (ith ds n) (by omega)) ?_
  rintro r g C3 Ns ⟨a, rfl, y1, y2, y3, rfl⟩ hs S
  have y2 := y2 (by omega)
  obtain ⟨a, rfl⟩ := Int.eq_ofNat_of_zero_le y1
  refine WR.i64 ?_
  refine WR.i64 ?_
  refine S.src [_, _] hs hg (fun G hb' e1 e2 _ S hg' => l01Next_c S e1 hs hg' (ith ds n - 1) (by omega)) ?_
  rintro r g C4 Ns ⟨z, rfl, z1, z2, z3, rfl⟩ hs S
  have z2 := z2 (by omega)
  refine WR.i64 ?_
  refine TM.pos ?_
  have q1 := Int.emod_nonneg ((a : Int) + 1 + z) (show ith ds n ≠ 0 by omega)
  have q2 := Int.emod_lt_of_pos ((a : Int) + 1 + z) (show 0 < ith ds n by omega)
  generalize ((a : Int) + 1 + z) % ith ds n = bb at q1 q2 ⊢
  obtain ⟨bb, rfl⟩ := Int.eq_ofNat_of_zero_le q1
  refine LoadX.same (S.at_ 1 rfl) rfl ?_
  refine S.madeR (l01OwnR_c _ _ ds (RI.look (S.le.at_ _ _ ld) (by omega) 1) (by omega)) fun A c g L S => ?_
  obtain ⟨bd2, rfl, rfl⟩ := rcSome' S 0 rfl (by omega)
  have S := S.rc_bx 0 rfl
  refine S.new fun bm2 g S => ?_
  refine S.new fun b9 g S => ?_
  refine S.put 0 rfl fun g S => ?_
  have S := S.recast 0 (cells' := [.slice (some ⟨bd2, 0, none⟩) ds.length 1, .slice (some ⟨bm2, 0, none⟩) 0 1]) rfl rfl
  have S := S.bx_rc 1 (k := 0) rfl rfl
  have S := S.rgNone.rgWide 0 rfl B (by omega)
  refine ⟨⟨[3, 4, 5, 7, 8, 9, 10], fun n' vs g => ∃ (k bm2 : Nat) (us2 : List Value) (T2 : Sig), n' = us.length - k ∧ k ≤ us.length ∧ us2.length = k ∧ El T2 ds us2 ∧
    SepM M n0 hb g [rg n0 T2 B, .bx b9 tW 2 [.slice (some ⟨bd2, 0, none⟩) ds.length 1, .slice (some ⟨bm2, 0, none⟩) k 1], .rc tIII 1 n0 (.slice (some ⟨bm2, 0, none⟩) k 1) k us2, .bx bd2 tI 1 (ds.map (.int .i64)), .bx b4 tW 2 [.slice none 0 0, .slice none 0 0], .bx b3 tW 2 [.slice (some ⟨bd, 0, none⟩) ds.length 1, .slice (some ⟨bm, 0, none⟩) us.length 1], .bx b tS 3 C4] ∧
    vs = [.pointer (some ⟨b3, 0, none⟩), .pointer (some ⟨b4, 0, none⟩), .int .i64 n, .int .i64 a, .int .i64 bb, .pointer (some ⟨b9, 0, none⟩), .int .i64 k], _, ⟨0, bm2, [], _, rfl, Nat.zero_le _, rfl, El.nil _ _, S, rfl⟩, ?_⟩⟩
  clear S
  rintro n' vs g5 ⟨k, bm5, us2, T2, rfl, hk, hu2, hE, S5, rfl⟩
  have S := S5
  refine LoadX.same (S.at_ 5 rfl) rfl ?_
  refine BIf.mk (fun c2 => ?_) (fun c2 => ?_)
  · have c2 : k < us.length := by simp at c2; omega
    obtain ⟨u, b6, o6, e1, e2, e3⟩ := hW.el k c2
    have r1 := hW.rng k
    have r2 := hW.rng (k + 1)
    refine DrawX.of Tt.tab follows_any [7, 8] [9, 11] [0, 1, 2, 3, 4, 5, 6, 7, 8, 9, 10, 11] rfl (by kernel_rfl) (by kernel_rfl) ?_
    refine LoadX.same (S.at_ 1 rfl) rfl ?_
    refine LoadX.same (S.at_ 5 rfl) rfl ?_
    refine IdxX.mk (by omega) (by omega) ?_
    refine LoadX.val (k := k) (S.le.at_ _ _ lm) e1 e2 ?_
    refine CallX.same (l01RowsG_c _ (hT.le S.le) e3 (by omega) (by omega)) ?_
    rintro r g' ⟨b7, T7, rfl, hreg, hb7, L⟩
    refine ⟨L, strictV.mk ?_⟩
    have S := S.tree Reg.fr hreg L
    refine S.newL fun b8 g L S => ⟨L, strictV.mk ?_⟩
    have S := S.recast 0 (cells' := [.slice (some ⟨b7, 0, none⟩) (ith ds (k + 1)).toNat 1]) rfl rfl
    refine S.app (ie := Tt.ti24) 3 rfl rfl rfl (by omega) fun b10 g S => strictV.mk ?_
    refine S.put 2 rfl fun g S => ?_
    have S := S.recast 2 (cells' := [.slice (some ⟨bd2, 0, none⟩) ds.length 1, .slice (some ⟨b10, 0, none⟩) (k + 1) 1]) rfl rfl
    obtain ⟨T8, f1, f2, S⟩ := SepM.rgJoin S
    refine WR.as (r := ((k + 1 : Nat) : Int)) (by omega) ?_
    subst hu2
    exact ⟨us.length - (us2.length + 1), by omega, us2.length + 1, b10, us2 ++ [Value.slice (some ⟨b7, 0, none⟩) (ith ds (us2.length + 1)).toNat 1], T8, rfl, c2, by simp, (hE.ext f1).snoc (Wk.weak _ _ _ _) (.inr (f2 _ _ hb7)), S, rfl⟩
  have hk2 : k = us.length := by simp at c2; omega
  subst hk2
  have S := S5.rc_bx 2 rfl
  have hp0 := pw2 B (by omega)
  -- the first sums
  have S6 : SepM M n0 hb g5 [rg n0 T2 (B * 2 ^ 0), .bx b9 tW 2 [.slice (some ⟨bd2, 0, none⟩) ds.length 1, .slice (some ⟨bm5, 0, none⟩) us.length 1], .bx bm5 tIII 1 us2, .bx bd2 tI 1 (ds.map (.int .i64)), .bx b4 tW 2 [.slice none 0 0, .slice none 0 0], .bx b3 tW 2 [.slice (some ⟨bd, 0, none⟩) ds.length 1, .slice (some ⟨bm, 0, none⟩) us.length 1], .bx b tS 3 C4] := S.eq (by rw [Int.pow_zero, Int.mul_one]; rfl)
  refine BIf.mk (fun c3 => ?_) (fun c3 => ?_)
  obtain ⟨m, rfl⟩ : ∃ m, n = m + 1 := ⟨n - 1, by simp at c3; omega⟩
  have S := S6
  refine LoadX.same (S.at_ 1 rfl) rfl ?_
  refine WR.as (r := ((m : Nat) : Int)) (by omega) ?_
  refine IdxX.mk (by omega) (by omega) ?_
  obtain ⟨u, b6, o6, e1, e2, e3⟩ := hE m (by omega)
  refine LoadX.val (k := m) (S.at_ 2 rfl) e1 e2 ?_
  have e3 := e3.resolve_left (by omega)
  have r1 := hW.rng m
  refine IdxX.mk (by omega) (by omega) ?_
  refine (S.shp 0 rfl).row (i := a) e3 (by omega) fun b7 o7 h7 => ?_
  refine ⟨⟨[3, 4, 5, 7, 8, 9, 11, 12], fun n' vs g => ∃ i : Nat, n' = (ith ds m).toNat - i ∧ i ≤ (ith ds m).toNat ∧
    SepM M n0 hb g [rg n0 T2 (B * 2 ^ i), .bx b9 tW 2 [.slice (some ⟨bd2, 0, none⟩) ds.length 1, .slice (some ⟨bm5, 0, none⟩) us.length 1], .bx bm5 tIII 1 us2, .bx bd2 tI 1 (ds.map (.int .i64)), .bx b4 tW 2 [.slice none 0 0, .slice none 0 0], .bx b3 tW 2 [.slice (some ⟨bd, 0, none⟩) ds.length 1, .slice (some ⟨bm, 0, none⟩) us.length 1], .bx b tS 3 C4] ∧
    vs = [.pointer (some ⟨b3, 0, none⟩), .pointer (some ⟨b4, 0, none⟩), .int .i64 (m + 1 : Nat), .int .i64 a, .int .i64 bb, .pointer (some ⟨b9, 0, none⟩), .slice (some ⟨b7, o7, none⟩) (ith ds m).toNat 0, .int .i64 i], _, ⟨0, rfl, Nat.zero_le _, S, rfl⟩, ?_⟩⟩
  clear S
  rintro n' vs g ⟨i, rfl, hi, S, rfl⟩
  refine BIf.mk (fun c4 => ?_) (fun c4 => ?_)
  have c4 : i < (ith ds m).toNat := by simp at c4; omega
  have h7 := h7.resolve_left (by omega)
  have p1 := hp0 i (by omega)
  refine DrawX.of Tt.tab follows_any [] [20] [0, 1, 2, 3, 4, 5, 6, 7, 8, 9, 10, 11, 12, 13, 14, 15, 16, 17, 18, 19, 20] rfl (by kernel_rfl) (by kernel_rfl) ?_
  refine IdxX.mk (by omega) (by omega) ?_
  refine (S.shp 0 rfl).int (i := i) h7 c4 fun x v1 v2 => ?_
  refine LoadX.same (S.at_ 1 rfl) rfl ?_
  refine WR.as (r := ((m : Nat) : Int)) (by omega) ?_
  refine IdxX.mk (by omega) (by omega) ?_
  refine LoadX.val (k := m) (S.at_ 2 rfl) e1 e2 ?_
  refine IdxX.mk (by omega) (by omega) ?_
  refine (S.shp 0 rfl).row (i := bb) e3 (by omega) fun b8 o8 h8 => ?_
  have h8 := h8.resolve_left (by omega)
  refine IdxX.mk (by omega) (by omega) ?_
  refine (S.shp 0 rfl).int (i := i) h8 c4 fun y w1 w2 => ?_
  refine WR.i64 ?_
  refine IdxX.mk (by omega) (by omega) ?_
  refine SepM.rgStore (S.rgWide 0 rfl (B * 2 ^ (i + 1)) (by rw [Int.pow_succ, ← Int.mul_assoc]; omega)) 0 rfl (i := i) h7 c4 (by rw [Int.pow_succ, ← Int.mul_assoc]; omega) fun g S => ?_
  refine WR.as (r := ((i + 1 : Nat) : Int)) (by omega) ?_
  exact ⟨(ith ds m).toNat - (i + 1), by omega, i + 1, rfl, c4, S, rfl⟩
  · have p1 := pw6_ B (by omega) i (by omega)
    have S := S.rgWide 0 rfl (B * 64) (by omega)
    refine WR.as (r := (((m + 1) + 1 : Nat) : Int)) (by omega) ?_
    refine LoadX.same (S.at_ 5 rfl) rfl ?_
    refine BIf.mk (fun c5 => ?_) (fun c5 => ?_)
    · have c5 : (m + 1) < us.length := by simp at c5; omega
      obtain ⟨u, b6, o6, e1, e2, e3⟩ := hE (m + 1) (by omega)
      have r2 := hW.rng ((m + 1) + 1)
      refine ⟨⟨[3, 4, 5, 7, 8, 9, 13], fun n' vs g => ∃ i : Nat, n' = (ith ds ((m + 1) + 1)).toNat - i ∧ i ≤ (ith ds ((m + 1) + 1)).toNat ∧
        SepM M n0 hb g [rg n0 T2 (B * 64 * 2 ^ i), .bx b9 tW 2 [.slice (some ⟨bd2, 0, none⟩) ds.length 1, .slice (some ⟨bm5, 0, none⟩) us.length 1], .bx bm5 tIII 1 us2, .bx bd2 tI 1 (ds.map (.int .i64)), .bx b4 tW 2 [.slice none 0 0, .slice none 0 0], .bx b3 tW 2 [.slice (some ⟨bd, 0, none⟩) ds.length 1, .slice (some ⟨bm, 0, none⟩) us.length 1], .bx b tS 3 C4] ∧
        vs = [.pointer (some ⟨b3, 0, none⟩), .pointer (some ⟨b4, 0, none⟩), .int .i64 ((m + 1) : Nat), .int .i64 a, .int .i64 bb, .pointer (some ⟨b9, 0, none⟩), .int .i64 i], _, ⟨0, rfl, Nat.zero_le _, S.eq (by rw [show B * 64 * 2 ^ 0 = B * 64 by rw [Int.pow_zero, Int.mul_one]]; rfl), rfl⟩, ?_⟩⟩
      clear S
      rintro n' vs g ⟨i, rfl, hi, S, rfl⟩
      refine LoadX.same (S.at_ 1 rfl) rfl ?_
      refine IdxX.mk (by omega) (by omega) ?_
      refine LoadX.val (k := (m + 1)) (S.at_ 2 rfl) e1 e2 ?_
      have p1 := pw6_ (B * 64) (by omega) i (by omega)
      refine BIf.mk (fun c6 => ?_) (fun c6 => ?_)
      · have c6 : i < (ith ds ((m + 1) + 1)).toNat := by simp at c6; omega
        have e3 := e3.resolve_left (by omega)
        refine LoadX.same (S.at_ 1 rfl) rfl ?_
        refine IdxX.mk (by omega) (by omega) ?_
        refine LoadX.val (k := (m + 1)) (S.at_ 2 rfl) e1 e2 ?_
        refine IdxX.mk (by omega) (by omega) ?_
        refine (S.shp 0 rfl).row (i := i) e3 c6 fun b7 o7 h7 => ?_
        have h7 := h7.resolve_left (by omega)
        refine DrawX.of Tt.tab follows_any [] [12] [0, 1, 2, 3, 4, 5, 6, 7, 8, 9, 10, 11, 12] rfl (by kernel_rfl) (by kernel_rfl) ?_
        refine IdxX.mk (by omega) (by omega) ?_
        refine (S.shp 0 rfl).int (i := bb) h7 (by omega) fun x v1 v2 => ?_
        refine IdxX.mk (by omega) (by omega) ?_
        refine (S.shp 0 rfl).int (i := a) h7 (by omega) fun y w1 w2 => ?_
        refine WR.i64 ?_
        refine IdxX.mk (by omega) (by omega) ?_
        refine SepM.rgStore (S.rgWide 0 rfl (B * 64 * 2 ^ (i + 1)) (by rw [Int.pow_succ, ← Int.mul_assoc]; omega)) 0 rfl (i := bb) h7 (by omega) (by rw [Int.pow_succ, ← Int.mul_assoc]; omega) fun g S => ?_
        refine WR.as (r := ((i + 1 : Nat) : Int)) (by omega) ?_
        exact ⟨(ith ds ((m + 1) + 1)).toNat - (i + 1), by omega, i + 1, rfl, c6, S, rfl⟩
      have S := S.rgWide 0 rfl (B * 4096) (by omega)
      obtain ⟨x, hx⟩ := WS.reads ⟨by omega, hl1, hW.rng, hE⟩ (S.shp 0 rfl) (S.at_ 3 rfl) (S.at_ 2 rfl)
      have eV : whV bd2 bm5 ds us2 = .agg #[.slice (some ⟨bd2, 0, none⟩) ds.length 1, .slice (some ⟨bm5, 0, none⟩) us.length 1] := by unfold whV; rw [hu2]
      rw [eV] at hx
      refine LoadX.same (S.at_ 1 rfl) rfl ?_
      refine CallX.same (l07Is_c _ _ x hx) ?_
      rintro r g' ⟨rfl, rfl⟩
      refine BIf.mk (fun c8 => ?_) (fun c8 => ?_)
      · refine LoadX.same (S.at_ 5 rfl) rfl ?_
        refine S.put 4 rfl fun g S => ?_
        refine LoadX.same (S.at_ 4 rfl) rfl ?_
        exact FinX.here (by have := S.le.len; omega) ⟨C4, [], .inl ⟨rfl, rfl⟩, hs, S.tail.tail.tail.tail.tail.tail⟩
      · refine LoadX.same (S.at_ 1 rfl) rfl ?_
        refine S.put 4 rfl fun g S => ?_
        refine LoadX.same (S.at_ 4 rfl) rfl ?_
        exact FinX.here (by have := S.le.len; omega) ⟨C4, whP n0 bd2 bm5 ds us2 T2 (B * 4096), .inr ⟨bd2, bm5, ds, us2, T2, eV.symm, ⟨by omega, hl1, hW.rng, hE⟩, rfl⟩, hs, ((((S.drop 5).drop 4).drop 1).front 1 rfl).front 2 rfl⟩
    · have S := S.rgWide 0 rfl (B * 4096) (by omega)
      obtain ⟨x, hx⟩ := WS.reads ⟨by omega, hl1, hW.rng, hE⟩ (S.shp 0 rfl) (S.at_ 3 rfl) (S.at_ 2 rfl)
      have eV : whV bd2 bm5 ds us2 = .agg #[.slice (some ⟨bd2, 0, none⟩) ds.length 1, .slice (some ⟨bm5, 0, none⟩) us.length 1] := by unfold whV; rw [hu2]
      rw [eV] at hx
      refine LoadX.same (S.at_ 1 rfl) rfl ?_
      refine CallX.same (l07Is_c _ _ x hx) ?_
      rintro r g' ⟨rfl, rfl⟩
      refine BIf.mk (fun c8 => ?_) (fun c8 => ?_)
      · refine LoadX.same (S.at_ 5 rfl) rfl ?_
        refine S.put 4 rfl fun g S => ?_
        refine LoadX.same (S.at_ 4 rfl) rfl ?_
        exact FinX.here (by have := S.le.len; omega) ⟨C4, [], .inl ⟨rfl, rfl⟩, hs, S.tail.tail.tail.tail.tail.tail⟩
      · refine LoadX.same (S.at_ 1 rfl) rfl ?_
        refine S.put 4 rfl fun g S => ?_
        refine LoadX.same (S.at_ 4 rfl) rfl ?_
        exact FinX.here (by have := S.le.len; omega) ⟨C4, whP n0 bd2 bm5 ds us2 T2 (B * 4096), .inr ⟨bd2, bm5, ds, us2, T2, eV.symm, ⟨by omega, hl1, hW.rng, hE⟩, rfl⟩, hs, ((((S.drop 5).drop 4).drop 1).front 1 rfl).front 2 rfl⟩
  · have S := S6.rgWide 0 rfl (B * 64) (by rw [Int.pow_zero]; omega)
    refine WR.as (r := ((n + 1 : Nat) : Int)) (by omega) ?_
    refine LoadX.same (S.at_ 5 rfl) rfl ?_
    refine BIf.mk (fun c5 => ?_) (fun c5 => ?_)
    · have c5 : n < us.length := by simp at c5; omega
      obtain ⟨u, b6, o6, e1, e2, e3⟩ := hE n (by omega)
      have r2 := hW.rng (n + 1)
      refine ⟨⟨[3, 4, 5, 7, 8, 9, 13], fun n' vs g => ∃ i : Nat, n' = (ith ds (n + 1)).toNat - i ∧ i ≤ (ith ds (n + 1)).toNat ∧
        SepM M n0 hb g [rg n0 T2 (B * 64 * 2 ^ i), .bx b9 tW 2 [.slice (some ⟨bd2, 0, none⟩) ds.length 1, .slice (some ⟨bm5, 0, none⟩) us.length 1], .bx bm5 tIII 1 us2, .bx bd2 tI 1 (ds.map (.int .i64)), .bx b4 tW 2 [.slice none 0 0, .slice none 0 0], .bx b3 tW 2 [.slice (some ⟨bd, 0, none⟩) ds.length 1, .slice (some ⟨bm, 0, none⟩) us.length 1], .bx b tS 3 C4] ∧
        vs = [.pointer (some ⟨b3, 0, none⟩), .pointer (some ⟨b4, 0, none⟩), .int .i64 (n : Nat), .int .i64 a, .int .i64 bb, .pointer (some ⟨b9, 0, none⟩), .int .i64 i], _, ⟨0, rfl, Nat.zero_le _, S.eq (by rw [show B * 64 * 2 ^ 0 = B * 64 by rw [Int.pow_zero, Int.mul_one]]; rfl), rfl⟩, ?_⟩⟩
      clear S
      rintro n' vs g ⟨i, rfl, hi, S, rfl⟩
      refine LoadX.same (S.at_ 1 rfl) rfl ?_
      refine IdxX.mk (by omega) (by omega) ?_
      refine LoadX.val (k := n) (S.at_ 2 rfl) e1 e2 ?_
      have p1 := pw6_ (B * 64) (by omega) i (by omega)
      refine BIf.mk (fun c6 => ?_) (fun c6 => ?_)
      · have c6 : i < (ith ds (n + 1)).toNat := by simp at c6; omega
        have e3 := e3.resolve_left (by omega)
        refine LoadX.same (S.at_ 1 rfl) rfl ?_
        refine IdxX.mk (by omega) (by omega) ?_
        refine LoadX.val (k := n) (S.at_ 2 rfl) e1 e2 ?_
        refine IdxX.mk (by omega) (by omega) ?_
        refine (S.shp 0 rfl).row (i := i) e3 c6 fun b7 o7 h7 => ?_
        have h7 := h7.resolve_left (by omega)
        refine DrawX.of Tt.tab follows_any [] [12] [0, 1, 2, 3, 4, 5, 6, 7, 8, 9, 10, 11, 12] rfl (by kernel_rfl) (by kernel_rfl) ?_
        refine IdxX.mk (by omega) (by omega) ?_
        refine (S.shp 0 rfl).int (i := bb) h7 (by omega) fun x v1 v2 => ?_
        refine IdxX.mk (by omega) (by omega) ?_
        refine (S.shp 0 rfl).int (i := a) h7 (by omega) fun y w1 w2 => ?_
        refine WR.i64 ?_
        refine IdxX.mk (by omega) (by omega) ?_
        refine SepM.rgStore (S.rgWide 0 rfl (B * 64 * 2 ^ (i + 1)) (by rw [Int.pow_succ, ← Int.mul_assoc]; omega)) 0 rfl (i := bb) h7 (by omega) (by rw [Int.pow_succ, ← Int.mul_assoc]; omega) fun g S => ?_
        refine WR.as (r := ((i + 1 : Nat) : Int)) (by omega) ?_
        exact ⟨(ith ds (n + 1)).toNat - (i + 1), by omega, i + 1, rfl, c6, S, rfl⟩
      have S := S.rgWide 0 rfl (B * 4096) (by omega)
      obtain ⟨x, hx⟩ := WS.reads ⟨by omega, hl1, hW.rng, hE⟩ (S.shp 0 rfl) (S.at_ 3 rfl) (S.at_ 2 rfl)
      have eV : whV bd2 bm5 ds us2 = .agg #[.slice (some ⟨bd2, 0, none⟩) ds.length 1, .slice (some ⟨bm5, 0, none⟩) us.length 1] := by unfold whV; rw [hu2]
      rw [eV] at hx
      refine LoadX.same (S.at_ 1 rfl) rfl ?_
      refine CallX.same (l07Is_c _ _ x hx) ?_
      rintro r g' ⟨rfl, rfl⟩
      refine BIf.mk (fun c8 => ?_) (fun c8 => ?_)
      · refine LoadX.same (S.at_ 5 rfl) rfl ?_
        refine S.put 4 rfl fun g S => ?_
        refine LoadX.same (S.at_ 4 rfl) rfl ?_
        exact FinX.here (by have := S.le.len; omega) ⟨C4, [], .inl ⟨rfl, rfl⟩, hs, S.tail.tail.tail.tail.tail.tail⟩
      · refine LoadX.same (S.at_ 1 rfl) rfl ?_
        refine S.put 4 rfl fun g S => ?_
        refine LoadX.same (S.at_ 4 rfl) rfl ?_
        exact FinX.here (by have := S.le.len; omega) ⟨C4, whP n0 bd2 bm5 ds us2 T2 (B * 4096), .inr ⟨bd2, bm5, ds, us2, T2, eV.symm, ⟨by omega, hl1, hW.rng, hE⟩, rfl⟩, hs, ((((S.drop 5).drop 4).drop 1).front 1 rfl).front 2 rfl⟩
    · have S := S.rgWide 0 rfl (B * 4096) (by omega)
      obtain ⟨x, hx⟩ := WS.reads ⟨by omega, hl1, hW.rng, hE⟩ (S.shp 0 rfl) (S.at_ 3 rfl) (S.at_ 2 rfl)
      have eV : whV bd2 bm5 ds us2 = .agg #[.slice (some ⟨bd2, 0, none⟩) ds.length 1, .slice (some ⟨bm5, 0, none⟩) us.length 1] := by unfold whV; rw [hu2]
      rw [eV] at hx
      refine LoadX.same (S.at_ 1 rfl) rfl ?_
      refine CallX.same (l07Is_c _ _ x hx) ?_
      rintro r g' ⟨rfl, rfl⟩
      refine BIf.mk (fun c8 => ?_) (fun c8 => ?_)
      · refine LoadX.same (S.at_ 5 rfl) rfl ?_
        refine S.put 4 rfl fun g S => ?_
        refine LoadX.same (S.at_ 4 rfl) rfl ?_
        exact FinX.here (by have := S.le.len; omega) ⟨C4, [], .inl ⟨rfl, rfl⟩, hs, S.tail.tail.tail.tail.tail.tail⟩
      · refine LoadX.same (S.at_ 1 rfl) rfl ?_
        refine S.put 4 rfl fun g S => ?_
        refine LoadX.same (S.at_ 4 rfl) rfl ?_
        exact FinX.here (by have := S.le.len; omega) ⟨C4, whP n0 bd2 bm5 ds us2 T2 (B * 4096), .inr ⟨bd2, bm5, ds, us2, T2, eV.symm, ⟨by omega, hl1, hW.rng, hE⟩, rfl⟩, hs, ((((S.drop 5).drop 4).drop 1).front 1 rfl).front 2 rfl⟩

end Go.Gl

set_option linter.unusedVariables false
set_option linter.unusedSimpArgs false
namespace Go.Gl
open Go.Proofs Go.Proofs.Ytoeapenknlfffaa Go.Pl

theorem ith_rng3 {ds : List Int} (h : ∀ x ∈ ds, 0 ≤ x ∧ x ≤ 3) (i : Nat) : 0 ≤ ith ds i ∧ ith ds i ≤ 3 := by
  rcases Nat.lt_or_ge i ds.length with hi | hi
  · exact h _ (ith_mem hi)
  · rw [ith_out hi]; omega
def DrawnW (n0 : Nat) (g0 : AH) (M : Nat → Prop) (hb : AH) (b : Nat) (r : Value) (h' : AH) : Prop := ∃ C' Ns, (∃ bd bm ds us T, r = whV bd bm ds us ∧ WS T ds us ∧ Ns = whP n0 bd bm ds us T 1000000000000) ∧ Dice g0 C' ∧ SepM M n0 hb h' (Ns ++ [.bx b tS 3 C'])
theorem zeros_rep (k : Nat) : (List.replicate k [Value.int .i64 0]).flatten = (List.replicate k (0 : Int)).map (.int .i64) := by
  induction k with
  | zero => rfl
  | succ k ih => rw [List.replicate_succ, List.flatten_cons, ih, List.replicate_succ, List.map_cons]; rfl

set_option maxHeartbeats 4000000 in
theorem l07Draw_c {M : Nat → Prop} {n0 : Nat} {hb h : AH} {b : Nat} {C : List Value} (S : SepM M n0 hb h [.bx b tS 3 C]) (hlen : hb.length = h.length) {g0 : AH} (hs : Dice g0 C) (hg : Le g0 hb) :
    ACalls Try.prog 103 [.pointer (some ⟨b, 0, none⟩)] h (DrawnW n0 g0 M hb b) := by
  have pk := fun (M : Nat → Prop) (n0 : Nat) (hb h : AH) (C : List Value) (S : SepM M n0 hb h [.bx b tS 3 C]) (hlen : hb.length = h.length) (hs : Dice g0 C) (hg : Le g0 hb) (v : Value) (xs : List Int) (hx : RI hb v xs) (h0 : 0 < xs.length) (hl : xs.length ≤ 1000000) => l01Pick_c S hlen hs hg v xs hx h0 hl
  refine ACalls.of Tt.tab Try.func103 rfl (by kernel_rfl) Try.ntmps103 _ rfl rfl (fun hw => ?_)
  refine S.new fun b2 g S => ?_
  refine S.new fun bl g S => ?_
  have S := S.recast 0 (cells' := ([0, 1, 1, 2, 2, 3, 5] : List Int).map (.int .i64)) rfl rfl
  refine SepM.pick (k := 7) [_] S hs hg rfl (by omega) (by omega) pk fun top g C1 htop hs S => ?_
  have htop : 0 ≤ top ∧ top ≤ 5 := by simp at htop; omega
  obtain ⟨top, rfl⟩ := Int.eq_ofNat_of_zero_le htop.1
  refine S.new fun bd g S => ?_
  refine S.new fun bm g S => ?_
  refine S.new fun b4 g S => ?_
  refine S.put 0 rfl fun g S => ?_
  have S := S.recast 0 (cells' := [.slice (some ⟨bd, 0, none⟩) 0 1, .slice (some ⟨bm, 0, none⟩) 0 1]) rfl rfl
  have S := (S.bx_rc 1 (k := 0) rfl rfl).bx_rc 2 (k := 0) rfl rfl
  refine ⟨⟨[0, 2, 3, 4, 5], fun n' vs g => ∃ (bd : Nat) (ds : List Int) (C : List Value), n' = top + 1 - ds.length ∧ ds.length ≤ top + 1 ∧ (∀ x ∈ ds, 0 ≤ x ∧ x ≤ 3) ∧ Dice g0 C ∧
    SepM M n0 hb g [.bx b4 tW 2 [.slice (some ⟨bd, 0, none⟩) ds.length 1, .slice (some ⟨bm, 0, none⟩) 0 1], .rc tIII 1 n0 (.slice (some ⟨bm, 0, none⟩) 0 1) 0 [], .rc tI 1 n0 (.slice (some ⟨bd, 0, none⟩) ds.length 1) ds.length (ds.map (.int .i64)), .bx b2 tW 2 [.slice none 0 0, .slice none 0 0], .bx b tS 3 C] ∧
    vs = [.pointer (some ⟨b, 0, none⟩), .pointer (some ⟨b2, 0, none⟩), .int .i64 top, .pointer (some ⟨b4, 0, none⟩), .int .i64 ds.length], _, ⟨bd, [], C1, rfl, by simp, (fun x hx => by cases hx), hs, S, rfl⟩, ?_⟩⟩
  clear S hs
  rintro n' vs g5 ⟨bd5, ds, C5, rfl, hdl, hds, hs5, S5, rfl⟩
  refine BIf.mk (fun c1 => ?_) (fun c1 => ?_)
  · have c1 : ds.length ≤ top := by simp at c1; omega
    have S := S5
    have hs := hs5
    have done6 : ∀ (x : Int) (bn : Nat) (C : List Value) (g : AH), x ∈ ([0, 1, 1, 2, 2, 3] : List Int) → Dice g0 C → SepM M n0 hb g [.bx b4 tW 2 [.slice (some ⟨bn, 0, none⟩) (ds.length + 1) 1, .slice (some ⟨bm, 0, none⟩) 0 1], .rc tIII 1 n0 (.slice (some ⟨bm, 0, none⟩) 0 1) 0 [], .rc tI 1 n0 (.slice (some ⟨bn, 0, none⟩) (ds.length + 1) 1) (ds.length + 1) (ds.map (.int .i64) ++ [.int .i64 x]), .bx b2 tW 2 [.slice none 0 0, .slice none 0 0], .bx b tS 3 C] →
        ∃ (x : Int) (bn : Nat) (C : List Value), (0 ≤ x ∧ x ≤ 3) ∧ Dice g0 C ∧ SepM M n0 hb g [.bx b4 tW 2 [.slice (some ⟨bn, 0, none⟩) (ds.length + 1) 1, .slice (some ⟨bm, 0, none⟩) 0 1], .rc tIII 1 n0 (.slice (some ⟨bm, 0, none⟩) 0 1) 0 [], .rc tI 1 n0 (.slice (some ⟨bn, 0, none⟩) (ds.length + 1) 1) (ds.length + 1) (ds.map (.int .i64) ++ [.int .i64 x]), .bx b2 tW 2 [.slice none 0 0, .slice none 0 0], .bx b tS 3 C] :=
      fun x bn C g hx hs S => ⟨x, bn, C, (by simp at hx; omega), hs, S⟩
    refine DrawX.tree Tt.tab follows_any [3, 5] [4, 6, 8] (.op 0 (.op 2 (.alt (.op 1 (.op 3 (.op 4 (.op 5 (.op 6 (.op 7 (.op 8 (.nil)))))))) (.op 3 (.alt (.op 1 (.op 4 (.op 5 (.op 6 (.op 7 (.op 8 (.nil))))))) (.op 4 (.alt (.op 1 (.op 5 (.op 6 (.op 7 (.op 8 (.nil)))))) (.op 5 (.op 1 (.op 6 (.op 7 (.op 8 (.nil))))))))))))) [0, 2, 3, 4, 5] (fun vs g => vs = [.pointer (some ⟨b, 0, none⟩), .pointer (some ⟨b2, 0, none⟩), .int .i64 top, .pointer (some ⟨b4, 0, none⟩), .int .i64 ds.length] ∧ ∃ (x : Int) (bn : Nat) (C : List Value), (0 ≤ x ∧ x ≤ 3) ∧ Dice g0 C ∧ SepM M n0 hb g [.bx b4 tW 2 [.slice (some ⟨bn, 0, none⟩) (ds.length + 1) 1, .slice (some ⟨bm, 0, none⟩) 0 1], .rc tIII 1 n0 (.slice (some ⟨bm, 0, none⟩) 0 1) 0 [], .rc tI 1 n0 (.slice (some ⟨bn, 0, none⟩) (ds.length + 1) 1) (ds.length + 1) (ds.map (.int .i64) ++ [.int .i64 x]), .bx b2 tW 2 [.slice none 0 0, .slice none 0 0], .bx b tS 3 C]) (by kernel_rfl) (by kernel_rfl) ?_ ?_
    · refine ⟨?_, ?_⟩
      · refine LoadX.same (S.at_ 0 rfl) rfl ?_
        refine S.newL fun bl g L S => ⟨L, strictV.mk ?_⟩
        have S := S.recast 0 (cells' := ([0, 1, 1, 2, 2, 3] : List Int).map (.int .i64)) rfl (by kernel_rfl)
        refine SepM.pick (k := 6) [_, _, _, _] S hs hg rfl (by omega) (by omega) pk fun x g Cx hxx hs S => ?_
        refine S.newL fun bk g L S => ⟨L, strictV.mk ?_⟩
        refine S.app (ie := Tt.ti2) 2 rfl rfl rfl (by omega) fun bn g S => ?_
        refine S.put 0 rfl fun g S => ?_
        exact ⟨rfl, done6 x bn Cx g hxx hs S⟩
      · refine S.newL fun bl g L S => ⟨L, strictV.mk ?_⟩
        have S := S.recast 0 (cells' := ([0, 1, 1, 2, 2, 3] : List Int).map (.int .i64)) rfl (by kernel_rfl)
        refine ⟨?_, ?_⟩
        · refine LoadX.same (S.at_ 1 rfl) rfl ?_
          refine SepM.pick (k := 6) [_, _, _, _] S hs hg rfl (by omega) (by omega) pk fun x g Cx hxx hs S => ?_
          refine S.newL fun bk g L S => ⟨L, strictV.mk ?_⟩
          refine S.app (ie := Tt.ti2) 2 rfl rfl rfl (by omega) fun bn g S => ?_
          refine S.put 0 rfl fun g S => ?_
          exact ⟨rfl, done6 x bn Cx g hxx hs S⟩
        · refine SepM.pick (k := 6) [_, _, _, _] S hs hg rfl (by omega) (by omega) pk fun x g Cx hxx hs S => ?_
          refine ⟨?_, ?_⟩
          · refine LoadX.same (S.at_ 0 rfl) rfl ?_
            refine S.newL fun bk g L S => ⟨L, strictV.mk ?_⟩
            refine S.app (ie := Tt.ti2) 2 rfl rfl rfl (by omega) fun bn g S => ?_
            refine S.put 0 rfl fun g S => ?_
            exact ⟨rfl, done6 x bn Cx g hxx hs S⟩
          · refine S.newL fun bk g L S => ⟨L, strictV.mk ?_⟩
            refine LoadX.same (S.at_ 1 rfl) rfl ?_
            refine S.app (ie := Tt.ti2) 2 rfl rfl rfl (by omega) fun bn g S => ?_
            refine S.put 0 rfl fun g S => ?_
            exact ⟨rfl, done6 x bn Cx g hxx hs S⟩
    rintro vs g ⟨rfl, x, bn, C6, hx, hs, S⟩
    refine WR.as (r := ((ds.length + 1 : Nat) : Int)) (by omega) ?_
    refine ⟨top + 1 - (ds.length + 1), by omega, bn, ds ++ [x], C6, by simp, by simp; omega, fun y hy => ?_, hs, ?_, ?_⟩
    · rcases List.mem_append.1 hy with hy | hy
      · exact hds y hy
      · rw [List.mem_singleton.1 hy]; exact hx
    · rw [List.length_append, List.map_append]; exact S
    · rw [List.length_append]; rfl
  have hdl2 : ds.length = top + 1 := by simp at c1; omega
  have hrng := ith_rng3 hds
  have S := S5.rc_bx 2 rfl
  have S := S.rgNone.rgWide 0 rfl 9 (by omega)
  -- the tables
  refine ⟨⟨[0, 2, 3, 4, 6, 7], fun n' vs g => ∃ (m bm : Nat) (us : List Value) (T : Sig) (used : Int) (C : List Value), n' = top - m ∧ m ≤ top ∧ us.length = m ∧ El T ds us ∧ (0 ≤ used ∧ used ≤ ith ds m) ∧ Dice g0 C ∧
    SepM M n0 hb g [rg n0 T 9, .bx b4 tW 2 [.slice (some ⟨bd5, 0, none⟩) ds.length 1, .slice (some ⟨bm, 0, none⟩) m 1], .rc tIII 1 n0 (.slice (some ⟨bm, 0, none⟩) m 1) m us, .bx bd5 tI 1 (ds.map (.int .i64)), .bx b2 tW 2 [.slice none 0 0, .slice none 0 0], .bx b tS 3 C] ∧
    vs = [.pointer (some ⟨b, 0, none⟩), .pointer (some ⟨b2, 0, none⟩), .int .i64 top, .pointer (some ⟨b4, 0, none⟩), .int .i64 used, .int .i64 (m + 1 : Nat)], _, ⟨0, bm, [], _, 0, C5, rfl, Nat.zero_le _, rfl, El.nil _ _, ⟨by omega, (hrng 0).1⟩, hs5, S, rfl⟩, ?_⟩⟩
  clear S
  rintro n' vs g6 ⟨m, bm6, us, T6, used, C6, rfl, hm, hus, hE, hused, hs6, S6, rfl⟩
  refine BIf.mk (fun c2 => ?_) (fun c2 => ?_)
  · have c2 : m < top := by simp at c2; omega
    have r1 := hrng m
    have r2 := hrng (m + 1)
    have S := S6
    refine S.new fun br g S => ?_
    have S := S.bx_rc 0 (k := 0) rfl rfl
    refine ⟨⟨[0, 2, 3, 4, 6, 7, 8, 9], fun n' vs g => ∃ (i br : Nat) (ws : List Value) (T : Sig), n' = (ith ds (m + 1)).toNat - i ∧ i ≤ (ith ds (m + 1)).toNat ∧ ws.length = i ∧ RowsOK T (ith ds m).toNat ws ∧ Ext T6 T ∧
      SepM M n0 hb g [.rc tII 1 n0 (.slice (some ⟨br, 0, none⟩) i 1) i ws, rg n0 T 9, .bx b4 tW 2 [.slice (some ⟨bd5, 0, none⟩) ds.length 1, .slice (some ⟨bm6, 0, none⟩) m 1], .rc tIII 1 n0 (.slice (some ⟨bm6, 0, none⟩) m 1) m us, .bx bd5 tI 1 (ds.map (.int .i64)), .bx b2 tW 2 [.slice none 0 0, .slice none 0 0], .bx b tS 3 C6] ∧
      vs = [.pointer (some ⟨b, 0, none⟩), .pointer (some ⟨b2, 0, none⟩), .int .i64 top, .pointer (some ⟨b4, 0, none⟩), .int .i64 used, .int .i64 (m + 1 : Nat), .slice (some ⟨br, 0, none⟩) i 1, .int .i64 i], _, ⟨0, br, [], T6, rfl, Nat.zero_le _, rfl, RowsOK.nil _ _, Ext.refl _, S, rfl⟩, ?_⟩⟩
    clear S
    rintro n' vs g7 ⟨i, br7, ws, T7, rfl, hi, hws, hR, hX, S7, rfl⟩
    have S := S7
    refine LoadX.same (S.at_ 2 rfl) rfl ?_
    refine IdxX.mk (by omega) (by omega) ?_
    refine LoadX.num (k := m + 1) (S.at_ 4 rfl) (by omega) ?_
    refine BIf.mk (fun c3 => ?_) (fun c3 => ?_)
    · have c3 : i < (ith ds (m + 1)).toNat := by simp at c3; omega
      refine LoadX.same (S.at_ 2 rfl) rfl ?_
      refine WR.as (r := ((m : Nat) : Int)) (by omega) ?_
      refine IdxX.mk (by omega) (by omega) ?_
      refine LoadX.num (k := m) (S.at_ 4 rfl) (by omega) ?_
      refine ⟨by omega, rfl, by omega, by show (ith ds m) * (8 : Nat) ≤ _; omega, ?_⟩
      refine S.new fun bz g S => ?_
      have S := S.recast 0 rfl (zeros_rep _)
      refine S.new fun bk g S => ?_
      have S := S.recast 0 (cells' := [.slice (some ⟨bz, 0, none⟩) (ith ds m).toNat 1]) rfl rfl
      refine S.app (ie := Tt.ti26) 1 rfl rfl rfl (by omega) fun bn g S => ?_
      have S := (S.front 2 rfl).front 1 rfl
      obtain ⟨T8, e8, h8, S⟩ := SepM.rgBox S (Nat.le_refl _) (fun x hx => by rw [List.eq_of_mem_replicate hx]; omega)
      rw [List.length_replicate] at h8
      have S := S.front 1 rfl
      refine WR.as (r := ((i + 1 : Nat) : Int)) (by omega) ?_
      exact ⟨(ith ds (m + 1)).toNat - (i + 1), by omega, i + 1, bn, ws ++ [Value.slice (some ⟨bz, 0, none⟩) (ith ds m).toNat 1], T8, rfl, c3, by simp [hws], (hR.ext e8).snoc (Wk.weak _ _ _ _) (.inr h8), hX.trans e8, S, rfl⟩
    have hi2 : i = (ith ds (m + 1)).toNat := by simp at c3; omega
    have S := S7.rc_bx 0 rfl
    rw [hi2] at hws S ⊢
    clear c3 hi hi2 S7
    refine DrawX.tree Tt.tab follows_any [] [14, 16] (.op 0 (.op 1 (.op 2 (.op 3 (.op 4 (.op 5 (.op 6 (.op 7 (.op 8 (.op 9 (.op 10 (.op 11 (.op 12 (.op 13 (.op 14 (.op 15 (.op 16 (.op 17 (.nil))))))))))))))))))) [0, 2, 3, 4, 6, 7, 8, 10] (fun vs g => ∃ (x : Int) (C : List Value), vs = [.pointer (some ⟨b, 0, none⟩), .pointer (some ⟨b2, 0, none⟩), .int .i64 top, .pointer (some ⟨b4, 0, none⟩), .int .i64 used, .int .i64 (m + 1 : Nat), .slice (some ⟨br7, 0, none⟩) (ith ds (m + 1)).toNat 1, .int .i64 x] ∧ 0 ≤ x ∧ x < min (ith ds (m + 1)) (ith ds m - used) + 1 ∧ Dice g0 C ∧
      SepM M n0 hb g [.bx br7 tII 1 ws, rg n0 T7 9, .bx b4 tW 2 [.slice (some ⟨bd5, 0, none⟩) ds.length 1, .slice (some ⟨bm6, 0, none⟩) m 1], .rc tIII 1 n0 (.slice (some ⟨bm6, 0, none⟩) m 1) m us, .bx bd5 tI 1 (ds.map (.int .i64)), .bx b2 tW 2 [.slice none 0 0, .slice none 0 0], .bx b tS 3 C]) (by kernel_rfl) (by kernel_rfl) ?_ ?_
    · have hs := hs6
      refine LoadX.same (S.at_ 2 rfl) rfl ?_
      refine IdxX.mk (by omega) (by omega) ?_
      refine LoadX.num (k := m + 1) (S.at_ 4 rfl) (by omega) ?_
      refine LoadX.same (S.at_ 2 rfl) rfl ?_
      refine WR.as (r := ((m : Nat) : Int)) (by omega) ?_
      refine IdxX.mk (by omega) (by omega) ?_
      refine LoadX.num (k := m) (S.at_ 4 rfl) (by omega) ?_
      refine WR.i64 ?_
      refine WR.as (x := (if ith ds m - used < ith ds (m + 1) then ith ds m - used else ith ds (m + 1)) + 1) (r := min (ith ds (m + 1)) (ith ds m - used) + 1) (by show (if ith ds m - used < ith ds (m + 1) then ith ds m - used else ith ds (m + 1)) + 1 = _; split <;> omega) ?_
      refine S.src [_, _, _, _, _, _] hs hg (fun G hb' e1 e2 _ S hg' => l01Next_c S e1 hs hg' _ (by omega)) ?_
      rintro r g C6 Ns ⟨x, rfl, x1, x2, x3, rfl⟩ hs S
      exact ⟨x, C6, rfl, x1, x2 (by omega), hs, S⟩
    rintro vs g8 ⟨x, C8, rfl, hx1, hx2, hs8, S8⟩
    obtain ⟨x, rfl⟩ := Int.eq_ofNat_of_zero_le hx1
    refine ⟨⟨[0, 2, 3, 4, 6, 7, 8, 10, 11], fun n' vs g => ∃ (i : Nat) (C : List Value), n' = x - i ∧ i ≤ x ∧ Dice g0 C ∧
      SepM M n0 hb g [.bx br7 tII 1 ws, rg n0 T7 9, .bx b4 tW 2 [.slice (some ⟨bd5, 0, none⟩) ds.length 1, .slice (some ⟨bm6, 0, none⟩) m 1], .rc tIII 1 n0 (.slice (some ⟨bm6, 0, none⟩) m 1) m us, .bx bd5 tI 1 (ds.map (.int .i64)), .bx b2 tW 2 [.slice none 0 0, .slice none 0 0], .bx b tS 3 C] ∧
      vs = [.pointer (some ⟨b, 0, none⟩), .pointer (some ⟨b2, 0, none⟩), .int .i64 top, .pointer (some ⟨b4, 0, none⟩), .int .i64 used, .int .i64 (m + 1 : Nat), .slice (some ⟨br7, 0, none⟩) (ith ds (m + 1)).toNat 1, .int .i64 x, .int .i64 i], _, ⟨0, C8, rfl, Nat.zero_le _, hs8, S8, rfl⟩, ?_⟩⟩
    rintro n' vs g9 ⟨i, C9, rfl, hi, hs9, S9, rfl⟩
    have S := S9
    have hs := hs9
    refine BIf.mk (fun c4 => ?_) (fun c4 => ?_)
    · have c4 : i < x := by simp at c4; omega
      obtain ⟨u, hu⟩ : ∃ u, ws[i]? = some u := ⟨ws[i]'(by omega), List.getElem?_eq_getElem _⟩
      obtain ⟨b9, o9, hw9, h7⟩ := hR u (List.mem_of_getElem? hu)
      have h7 := h7.resolve_left (by omega)
      refine IdxX.mk (by omega) (by omega) ?_
      refine LoadX.val (k := i) (S.at_ 0 rfl) hu hw9 ?_
      refine DrawX.tree Tt.tab follows_any [11] [12, 14] (.op 0 (.op 1 (.op 3 (.op 4 (.op 8 (.op 10 (.alt (.op 2 (.op 5 (.alt (.op 6 (.op 7 (.op 9 (.op 11 (.op 12 (.op 13 (.op 14 (.nil)))))))) (.op 11 (.alt (.op 6 (.op 7 (.op 9 (.op 12 (.op 13 (.op 14 (.nil))))))) (.op 12 (.op 6 (.op 7 (.op 9 (.op 13 (.op 14 (.nil)))))))))))) (.op 11 (.alt (.op 2 (.op 5 (.alt (.op 6 (.op 7 (.op 9 (.op 12 (.op 13 (.op 14 (.nil))))))) (.op 12 (.op 6 (.op 7 (.op 9 (.op 13 (.op 14 (.nil)))))))))) (.op 12 (.op 2 (.op 5 (.op 6 (.op 7 (.op 9 (.op 13 (.op 14 (.nil)))))))))))))))))) [0, 2, 3, 4, 6, 7, 8, 10, 11] (fun vs g => vs = [.pointer (some ⟨b, 0, none⟩), .pointer (some ⟨b2, 0, none⟩), .int .i64 top, .pointer (some ⟨b4, 0, none⟩), .int .i64 used, .int .i64 (m + 1 : Nat), .slice (some ⟨br7, 0, none⟩) (ith ds (m + 1)).toNat 1, .int .i64 x, .int .i64 i] ∧ ∃ C, Dice g0 C ∧ SepM M n0 hb g [.bx br7 tII 1 ws, rg n0 T7 9, .bx b4 tW 2 [.slice (some ⟨bd5, 0, none⟩) ds.length 1, .slice (some ⟨bm6, 0, none⟩) m 1], .rc tIII 1 n0 (.slice (some ⟨bm6, 0, none⟩) m 1) m us, .bx bd5 tI 1 (ds.map (.int .i64)), .bx b2 tW 2 [.slice none 0 0, .slice none 0 0], .bx b tS 3 C]) (by kernel_rfl) (by kernel_rfl) ?_ ?_
      · refine WR.as (r := ((m : Nat) : Int)) (by omega) ?_
        refine ⟨?_, ?_⟩
        · refine LoadX.same (S.at_ 2 rfl) rfl ?_
          refine IdxX.mk (by omega) (by omega) ?_
          refine ⟨?_, ?_⟩
          · refine LoadX.num (k := m) (S.at_ 4 rfl) (by omega) ?_
            refine WR.i64 ?_
            refine WR.as (r := (((ith ds m - 1 - i).toNat : Nat) : Int)) (by omega) ?_
            refine S.newL fun bl g L S => ⟨L, strictV.mk ?_⟩
            have S := S.recast 0 (cells' := ([1, 2, 2, 3, 4, 5, 6, 7, 8, 9, -2] : List Int).map (.int .i64)) rfl (by kernel_rfl)
            refine SepM.pick (k := 11) [_, _, _, _, _, _] S hs hg rfl (by omega) (by omega) pk fun x g Cx hxx hs S => ?_
            refine IdxX.mk (by omega) (by omega) ?_
            refine SepM.rgStore S 1 rfl (i := (ith ds m - 1 - i).toNat) h7 (by omega) (by simp at hxx; omega) fun g S => ?_
            exact ⟨rfl, Cx, hs, S⟩
          · refine S.newL fun bl g L S => ⟨L, strictV.mk ?_⟩
            have S := S.recast 0 (cells' := ([1, 2, 2, 3, 4, 5, 6, 7, 8, 9, -2] : List Int).map (.int .i64)) rfl (by kernel_rfl)
            refine ⟨?_, ?_⟩
            · refine LoadX.num (k := m) (S.at_ 5 rfl) (by omega) ?_
              refine WR.i64 ?_
              refine WR.as (r := (((ith ds m - 1 - i).toNat : Nat) : Int)) (by omega) ?_
              refine SepM.pick (k := 11) [_, _, _, _, _, _] S hs hg rfl (by omega) (by omega) pk fun x g Cx hxx hs S => ?_
              refine IdxX.mk (by omega) (by omega) ?_
              refine SepM.rgStore S 1 rfl (i := (ith ds m - 1 - i).toNat) h7 (by omega) (by simp at hxx; omega) fun g S => ?_
              exact ⟨rfl, Cx, hs, S⟩
            · refine SepM.pick (k := 11) [_, _, _, _, _, _] S hs hg rfl (by omega) (by omega) pk fun x g Cx hxx hs S => ?_
              refine LoadX.num (k := m) (S.at_ 4 rfl) (by omega) ?_
              refine WR.i64 ?_
              refine WR.as (r := (((ith ds m - 1 - i).toNat : Nat) : Int)) (by omega) ?_
              refine IdxX.mk (by omega) (by omega) ?_
              refine SepM.rgStore S 1 rfl (i := (ith ds m - 1 - i).toNat) h7 (by omega) (by simp at hxx; omega) fun g S => ?_
              exact ⟨rfl, Cx, hs, S⟩
        · refine S.newL fun bl g L S => ⟨L, strictV.mk ?_⟩
          have S := S.recast 0 (cells' := ([1, 2, 2, 3, 4, 5, 6, 7, 8, 9, -2] : List Int).map (.int .i64)) rfl (by kernel_rfl)
          refine ⟨?_, ?_⟩
          · refine LoadX.same (S.at_ 3 rfl) rfl ?_
            refine IdxX.mk (by omega) (by omega) ?_
            refine ⟨?_, ?_⟩
            · refine LoadX.num (k := m) (S.at_ 5 rfl) (by omega) ?_
              refine WR.i64 ?_
              refine WR.as (r := (((ith ds m - 1 - i).toNat : Nat) : Int)) (by omega) ?_
              refine SepM.pick (k := 11) [_, _, _, _, _, _] S hs hg rfl (by omega) (by omega) pk fun x g Cx hxx hs S => ?_
              refine IdxX.mk (by omega) (by omega) ?_
              refine SepM.rgStore S 1 rfl (i := (ith ds m - 1 - i).toNat) h7 (by omega) (by simp at hxx; omega) fun g S => ?_
              exact ⟨rfl, Cx, hs, S⟩
            · refine SepM.pick (k := 11) [_, _, _, _, _, _] S hs hg rfl (by omega) (by omega) pk fun x g Cx hxx hs S => ?_
              refine LoadX.num (k := m) (S.at_ 4 rfl) (by omega) ?_
              refine WR.i64 ?_
              refine WR.as (r := (((ith ds m - 1 - i).toNat : Nat) : Int)) (by omega) ?_
              refine IdxX.mk (by omega) (by omega) ?_
              refine SepM.rgStore S 1 rfl (i := (ith ds m - 1 - i).toNat) h7 (by omega) (by simp at hxx; omega) fun g S => ?_
              exact ⟨rfl, Cx, hs, S⟩
          · refine SepM.pick (k := 11) [_, _, _, _, _, _] S hs hg rfl (by omega) (by omega) pk fun x g Cx hxx hs S => ?_
            refine LoadX.same (S.at_ 2 rfl) rfl ?_
            refine IdxX.mk (by omega) (by omega) ?_
            refine LoadX.num (k := m) (S.at_ 4 rfl) (by omega) ?_
            refine WR.i64 ?_
            refine WR.as (r := (((ith ds m - 1 - i).toNat : Nat) : Int)) (by omega) ?_
            refine IdxX.mk (by omega) (by omega) ?_
            refine SepM.rgStore S 1 rfl (i := (ith ds m - 1 - i).toNat) h7 (by omega) (by simp at hxx; omega) fun g S => ?_
            exact ⟨rfl, Cx, hs, S⟩
      rintro vs g10 ⟨rfl, C10, hs, S⟩
      refine WR.as (r := ((i + 1 : Nat) : Int)) (by omega) ?_
      exact ⟨x - (i + 1), by omega, i + 1, C10, rfl, c4, hs, S, rfl⟩
    refine LoadX.same (S.at_ 2 rfl) rfl ?_
    refine S.new fun bk g S => ?_
    have S := S.recast 0 (cells' := [.slice (some ⟨br7, 0, none⟩) (ith ds (m + 1)).toNat 1]) rfl rfl
    refine S.app (ie := Tt.ti24) 3 rfl rfl rfl (by omega) fun bn g S => ?_
    refine S.put 2 rfl fun g S => ?_
    have S := S.recast 2 (cells' := [.slice (some ⟨bd5, 0, none⟩) ds.length 1, .slice (some ⟨bn, 0, none⟩) (m + 1) 1]) rfl rfl
    obtain ⟨T9, e9, h9, S⟩ := SepM.rgTab S (Nat.le_refl _) hR
    rw [hws] at h9
    have hE2 : El T9 ds (us ++ [Value.slice (some ⟨br7, 0, none⟩) (ith ds (m + 1)).toNat 1]) := El.snoc (hE.ext (hX.trans e9)) (by rw [hus]; exact Wk.weak _ _ _ _) (by rw [hus]; exact .inr h9)
    refine WR.as (r := ((m + 1 + 1 : Nat) : Int)) (by omega) ?_
    exact ⟨top - (m + 1), by omega, m + 1, bn, us ++ [Value.slice (some ⟨br7, 0, none⟩) (ith ds (m + 1)).toNat 1], T9, x, C9, rfl, c2, by simp [hus], hE2, ⟨by omega, by omega⟩, hs, S, rfl⟩
  have hm2 : m = top := by simp at c2; omega
  have hW : WS T6 ds us := ⟨by omega, by omega, fun i => by have := hrng i; omega, hE⟩
  have S := S6.rc_bx 2 rfl
  have S := ((((S.front 2 rfl).front 3 rfl).front 4 rfl).front 4 rfl)
  have hs := hs6
  refine S.new fun bl g S => ?_
  have S := S.recast 0 (cells' := ([0, 1, 2, 3] : List Int).map (.int .i64)) rfl rfl
  refine SepM.pick (k := 4) [_, _, _, _, _] S hs hg rfl (by omega) (by omega) pk fun q g Cq hq hs S => ?_
  have hq : 0 ≤ q ∧ q ≤ 3 := by simp at hq; omega
  obtain ⟨q, rfl⟩ := Int.eq_ofNat_of_zero_le hq.1
  have hq3 : (9 : Int) * 4096 ^ q ≤ 1000000000000 := by
    have : q ≤ 3 := by omega
    match q, this with
    | 0, _ | 1, _ | 2, _ | 3, _ => decide
  refine ⟨⟨[0, 2, 4, 13], fun n' vs g => ∃ (bd bm : Nat) (ds : List Int) (us : List Value) (T : Sig) (B : Int) (C : List Value), n' ≤ 3 ∧ WS T ds us ∧ 1 ≤ B ∧ B * 4096 ^ n' ≤ 1000000000000 ∧ Dice g0 C ∧
    SepM M n0 hb g [.bx b4 tW 2 [.slice (some ⟨bd, 0, none⟩) ds.length 1, .slice (some ⟨bm, 0, none⟩) us.length 1], .bx b2 tW 2 [.slice none 0 0, .slice none 0 0], .bx bd tI 1 (ds.map (.int .i64)), .bx bm tIII 1 us, rg n0 T B, .bx b tS 3 C] ∧
    vs = [.pointer (some ⟨b, 0, none⟩), .pointer (some ⟨b2, 0, none⟩), .pointer (some ⟨b4, 0, none⟩), .int .i64 n'], _, ⟨bd5, bm6, ds, us, T6, 9, Cq, by omega, hW, by omega, hq3, hs, S.eq (by rw [hus]; rfl), rfl⟩, ?_⟩⟩
  clear S hs
  rintro k vs g11 ⟨bd, bm, ds, us, T, B, C11, hk3, hW, hB1, hB2, hs, S, rfl⟩
  have hp1 : (1 : Int) ≤ 4096 ^ k := Int.pow_pos (by decide)
  have hp2 := Int.mul_le_mul_of_nonneg_left hp1 (show 0 ≤ B by omega)
  refine BIf.mk (fun c5 => ?_) (fun c5 => ?_)
  · obtain ⟨k, rfl⟩ : ∃ k', k = k' + 1 := ⟨k - 1, by simp at c5; omega⟩
    have hB3 : B * 4096 * 4096 ^ k ≤ 1000000000000 := by
      rw [Int.pow_succ, ← Int.mul_assoc] at hB2
      rw [Int.mul_right_comm]; exact hB2
    refine LoadX.same (S.at_ 0 rfl) rfl ?_
    refine S.src [_, _, _, _, _] hs hg (fun G hb' e1 e2 hR S hg' => l07Change_c S e1 hs hg' (Res.bxAt (hR (.bx bd tI 1 (ds.map (.int .i64))) (by simp))) (Res.bxAt (hR (.bx bm tIII 1 us) (by simp))) (Res.rgAt (hR (rg n0 T B) (by simp))) hW ⟨hB1, by omega⟩) ?_
    rintro r g C' Ns (⟨rfl, rfl⟩ | ⟨bd', bm', ds', us', T', rfl, hW', rfl⟩) hs S
    · refine S.put 0 rfl fun g S => ?_
      have S := S.rgWide 4 rfl (B * 4096) (by omega)
      refine WR.as (r := ((k : Nat) : Int)) (by omega) ?_
      exact ⟨k, by omega, bd, bm, ds, us, T, B * 4096, C', by omega, hW, by omega, hB3, hs, S, rfl⟩
    · refine S.put 0 rfl fun g S => ?_
      have S := ((S.drop 2).drop 2).drop 2
      refine WR.as (r := ((k : Nat) : Int)) (by omega) ?_
      exact ⟨k, by omega, bd', bm', ds', us', T', B * 4096, C', by omega, hW', by omega, hB3, hs, S, rfl⟩
  refine LoadX.same (S.at_ 0 rfl) rfl ?_
  refine S.put 1 rfl fun g S => ?_
  refine LoadX.same (S.at_ 1 rfl) rfl ?_
  have S := S.rgWide 4 rfl 1000000000000 (by omega)
  exact FinX.here (by have := S.le.len; omega) ⟨C11, whP n0 bd bm ds us T 1000000000000, ⟨bd, bm, ds, us, T, rfl, hW, rfl⟩, hs, S.tail.tail⟩

end Go.Gl

set_option linter.unusedVariables false
set_option linter.unusedSimpArgs false
namespace Go.Gl
open Go.Proofs Go.Proofs.Ytoeapenknlfffaa Go.Pl

/-- tables of a shape, and any numbers for dimensions -/
def SpoilW (n0 : Nat) (g0 : AH) (M : Nat → Prop) (hb : AH) (b : Nat) (r : Value) (h' : AH) : Prop := ∃ C' Ns, (∃ bd bm ds ds2 us T, r = whV bd bm ds2 us ∧ WS T ds us ∧ ds2.length ≤ 1000 ∧ Ns = whP n0 bd bm ds2 us T 1000000000000) ∧ Dice g0 C' ∧ SepM M n0 hb h' (Ns ++ [.bx b tS 3 C'])
theorem WS.reads2 {T : Sig} {B : Int} {h : AH} {bd bm : Nat} {ds ds2 : List Int} {us : List Value} {od om : Option (TypeId × Nat)} (hW : WS T ds us) (hd : ds2.length ≤ 1000) (hT : Shaped T B h) (ld : look h bd = some ⟨ds2.map (.int .i64), od⟩) (lm : look h bm = some ⟨us, om⟩) : ∃ x, RWhole h (whV bd bm ds2 us) x := by
  have h0 := hW.len
  have h1 := hW.few
  obtain ⟨ms, e, r⟩ := RS.ofAll (E := RII) (h := h) (v := .slice (some ⟨bm, 0, none⟩) us.length 1) (b := bm) (o := 0) (k := us.length) (Wk.weak _ _ _ _) (by omega) fun i hi => by
    obtain ⟨u, b, o, a1, a2, a3⟩ := hW.el i hi
    have r1 := hW.rng i
    have r2 := hW.rng (i + 1)
    obtain ⟨xs, _, r⟩ := hT.readII a2 (by omega) (by omega) a3
    exact ⟨_, u, xs, lm, by rw [Nat.zero_add]; exact a1, r⟩
  exact ⟨⟨ds2, ms⟩, _, _, rfl, RI.look ld (by omega) 1, r⟩

set_option maxHeartbeats 4000000 in
theorem l07Spoil_c {M : Nat → Prop} {n0 : Nat} {hb h : AH} {b : Nat} {C : List Value} (S : SepM M n0 hb h [.bx b tS 3 C]) (hlen : hb.length = h.length) {g0 : AH} (hs : Dice g0 C) (hg : Le g0 hb) :
    ACalls Try.prog 56 [.pointer (some ⟨b, 0, none⟩)] h (SpoilW n0 g0 M hb b) := by
  have pk := fun (M : Nat → Prop) (n0 : Nat) (hb h : AH) (C : List Value) (S : SepM M n0 hb h [.bx b tS 3 C]) (hlen : hb.length = h.length) (hs : Dice g0 C) (hg : Le g0 hb) (v : Value) (xs : List Int) (hx : RI hb v xs) (h0 : 0 < xs.length) (hl : xs.length ≤ 1000000) => l01Pick_c S hlen hs hg v xs hx h0 hl
  refine ACalls.of Tt.tab Try.func56 rfl (by kernel_rfl) Try.ntmps56 _ rfl rfl (fun hw => ?_)
  refine S.new fun b2 g S => ?_
  refine S.src [_] hs hg (fun G hb' e1 e2 _ S hg' => l07Draw_c S e1 hs hg') ?_
  rintro r g C1 Ns ⟨bd, bm, ds, us, T, rfl, hW, rfl⟩ hs S
  have h0 := hW.len
  have h1 := hW.few
  refine S.new fun b3 g S => ?_
  refine S.put 0 rfl fun g S => ?_
  have S := S.recast 0 (cells' := [.slice (some ⟨bd, 0, none⟩) ds.length 1, .slice (some ⟨bm, 0, none⟩) us.length 1]) rfl rfl
  refine S.src [_, _, _, _, _] hs hg (fun G hb' e1 e2 _ S hg' => l01Next_c S e1 hs hg' 40 (by omega)) ?_
  rintro r g C2 Ns ⟨y, rfl, x1, x2, x3, rfl⟩ hs S
  refine BIf.mk (fun c1 => ?_) (fun c1 => ?_)
  · refine LoadX.same (S.at_ 0 rfl) rfl ?_
    refine S.madeR (l01OwnR_c _ _ ds (RI.look (S.at_ 2 rfl) (by omega) 1) (by omega)) fun A c g L S => ?_
    refine S.new fun bk g S => ?_
    refine S.app (ie := Tt.ti2) 0 rfl rfl rfl (by omega) fun bn g S => ?_
    refine S.put 1 rfl fun g S => ?_
    refine LoadX.same (S.at_ 1 rfl) rfl ?_
    refine S.put 2 rfl fun g S => ?_
    refine LoadX.same (S.at_ 2 rfl) rfl ?_
    have S := S.rc_bx 0 rfl
    have S := S.recast 0 (cells' := (ds ++ [0]).map (.int .i64)) rfl (by rw [List.map_append]; rfl)
    exact FinX.here (by have := S.le.len; omega) ⟨C2, whP n0 bn bm (ds ++ [0]) us T 1000000000000, ⟨bn, bm, ds, ds ++ [0], us, T, by unfold whV; rw [List.length_append]; rfl, hW, by simp; omega, rfl⟩, hs, ((S.drop 1).drop 1).drop 1⟩
  refine BIf.mk (fun c2 => ?_) (fun c2 => ?_)
  · refine LoadX.same (S.at_ 0 rfl) rfl ?_
    refine S.madeR (l01OwnR_c _ _ ds (RI.look (S.at_ 2 rfl) (by omega) 1) (by omega)) fun A c g L S => ?_
    obtain ⟨bn, rfl, rfl⟩ := rcSome' S 0 rfl (by omega)
    have S := S.rc_bx 0 rfl
    refine IdxX.mk (by omega) (by omega) ?_
    refine LoadX.num (k := 0) (S.at_ 0 rfl) (by omega) ?_
    have r0 := hW.rng 0
    refine WR.i64 ?_
    refine S.new fun bl g S => ?_
    have S := S.recast 0 (cells' := ([-1, 7, ith ds 0 + 1] : List Int).map (.int .i64)) rfl (by kernel_rfl)
    refine SepM.pick (k := 3) [_, _, _, _, _, _] S hs hg rfl (by omega) (by omega) pk fun x g C3 hx hs S => ?_
    refine IdxX.mk (by omega) (by omega) ?_
    refine S.storeI (a := 0) (y := x) 0 rfl (by omega) fun g S => ?_
    refine S.put 1 rfl fun g S => ?_
    refine LoadX.same (S.at_ 1 rfl) rfl ?_
    refine S.put 2 rfl fun g S => ?_
    refine LoadX.same (S.at_ 2 rfl) rfl ?_
    exact FinX.here (by have := S.le.len; omega) ⟨C3, whP n0 bn bm (ds.set 0 x) us T 1000000000000, ⟨bn, bm, ds, ds.set 0 x, us, T, by unfold whV; rw [List.length_set]; rfl, hW, by rw [List.length_set]; omega, rfl⟩, hs, ((S.drop 1).drop 1).drop 1⟩
  refine BIf.mk (fun c3 => ?_) (fun c3 => ?_)
  · refine ⟨⟨[0, 2, 3, 5], fun n' vs g => ∃ (k : Nat) (C : List Value), n' = us.length - k ∧ k ≤ us.length ∧ Dice g0 C ∧
      SepM M n0 hb g [.bx b3 tW 2 [.slice (some ⟨bd, 0, none⟩) ds.length 1, .slice (some ⟨bm, 0, none⟩) us.length 1], .bx b2 tW 2 [.slice none 0 0, .slice none 0 0], .bx bd tI 1 (ds.map (.int .i64)), .bx bm tIII 1 us, rg n0 T 1000000000000, .bx b tS 3 C] ∧
      vs = [.pointer (some ⟨b, 0, none⟩), .pointer (some ⟨b2, 0, none⟩), .pointer (some ⟨b3, 0, none⟩), .int .i64 k], _, ⟨0, C2, rfl, Nat.zero_le _, hs, S, rfl⟩, ?_⟩⟩
    clear S hs
    rintro n' vs g5 ⟨k, C5, rfl, hk, hs5, S5, rfl⟩
    have S := S5
    have hs := hs5
    refine LoadX.same (S.at_ 0 rfl) rfl ?_
    refine BIf.mk (fun c4 => ?_) (fun c4 => ?_)
    · have c4 : k < us.length := by simp at c4; omega
      obtain ⟨u, b6, o6, e1, e2, e3⟩ := hW.el k c4
      have r1 := hW.rng k
      have r2 := hW.rng (k + 1)
      refine ⟨⟨[0, 2, 3, 5, 6], fun n' vs g => ∃ (i : Nat) (C : List Value), n' = (ith ds (k + 1)).toNat - i ∧ i ≤ (ith ds (k + 1)).toNat ∧ Dice g0 C ∧
        SepM M n0 hb g [.bx b3 tW 2 [.slice (some ⟨bd, 0, none⟩) ds.length 1, .slice (some ⟨bm, 0, none⟩) us.length 1], .bx b2 tW 2 [.slice none 0 0, .slice none 0 0], .bx bd tI 1 (ds.map (.int .i64)), .bx bm tIII 1 us, rg n0 T 1000000000000, .bx b tS 3 C] ∧
        vs = [.pointer (some ⟨b, 0, none⟩), .pointer (some ⟨b2, 0, none⟩), .pointer (some ⟨b3, 0, none⟩), .int .i64 k, .int .i64 i], _, ⟨0, C5, rfl, Nat.zero_le _, hs, S, rfl⟩, ?_⟩⟩
      clear S hs
      rintro n' vs g6 ⟨i, C6, rfl, hi, hs, S, rfl⟩
      refine LoadX.same (S.at_ 0 rfl) rfl ?_
      refine IdxX.mk (by omega) (by omega) ?_
      refine LoadX.val (k := k) (S.at_ 3 rfl) e1 e2 ?_
      refine BIf.mk (fun c5 => ?_) (fun c5 => ?_)
      · have c5 : i < (ith ds (k + 1)).toNat := by simp at c5; omega
        have e3 := e3.resolve_left (by omega)
        refine LoadX.same (S.at_ 0 rfl) rfl ?_
        refine IdxX.mk (by omega) (by omega) ?_
        refine LoadX.val (k := k) (S.at_ 3 rfl) e1 e2 ?_
        refine IdxX.mk (by omega) (by omega) ?_
        refine (S.shp 4 rfl).row (i := i) e3 c5 fun b7 o7 h7 => ?_
        refine BIf.mk (fun c6 => ?_) (fun c6 => ?_)
        · have c6 : 0 < (ith ds k).toNat := by simp at c6; omega
          have h7 := h7.resolve_left (by omega)
          refine S.new fun bl g S => ?_
          have S := S.recast 0 (cells' := ([1, 10, -10, 3] : List Int).map (.int .i64)) rfl (by kernel_rfl)
          refine SepM.pick (k := 4) [_, _, _, _, _] S hs hg rfl (by omega) (by omega) pk fun x g C7 hx hs S => ?_
          refine IdxX.mk (by omega) (by omega) ?_
          refine SepM.rgStore S 4 rfl (i := 0) h7 c6 (by simp at hx; omega) fun g S => ?_
          refine WR.as (r := ((i + 1 : Nat) : Int)) (by omega) ?_
          exact ⟨(ith ds (k + 1)).toNat - (i + 1), by omega, i + 1, C7, rfl, c5, hs, S, rfl⟩
        · refine WR.as (r := ((i + 1 : Nat) : Int)) (by omega) ?_
          exact ⟨(ith ds (k + 1)).toNat - (i + 1), by omega, i + 1, C6, rfl, c5, hs, S, rfl⟩
      · refine WR.as (r := ((k + 1 : Nat) : Int)) (by omega) ?_
        exact ⟨us.length - (k + 1), by omega, k + 1, C6, rfl, c4, hs, S, rfl⟩
    refine LoadX.same (S.at_ 0 rfl) rfl ?_
    refine S.put 1 rfl fun g S => ?_
    refine LoadX.same (S.at_ 1 rfl) rfl ?_
    exact FinX.here (by have := S.le.len; omega) ⟨C5, whP n0 bd bm ds us T 1000000000000, ⟨bd, bm, ds, ds, us, T, rfl, hW, by omega, rfl⟩, hs, S.tail.tail⟩
  refine LoadX.same (S.at_ 0 rfl) rfl ?_
  refine S.put 1 rfl fun g S => ?_
  refine LoadX.same (S.at_ 1 rfl) rfl ?_
  exact FinX.here (by have := S.le.len; omega) ⟨C2, whP n0 bd bm ds us T 1000000000000, ⟨bd, bm, ds, ds, us, T, rfl, hW, by omega, rfl⟩, hs, S.tail.tail⟩

def DrawnWh (h : AH) (r : Value) (h' : AH) : Prop := ∃ v1 v2 x, r = .agg #[v1, v2] ∧ RWhole h' (.agg #[v1, v2]) x ∧ Le h h'

theorem l01From2_c (h0 h : AH) (hle : Le h0 h) (v : Value) (xs : List Int) (hx : R8 h0 v xs) (hl : xs.length ≤ 1000000) : ACalls Try.prog 43 [v] h (fun r h' => ∃ b C, r = .pointer (some ⟨b, 0, none⟩) ∧ look h' b = some ⟨C, some (tS, 3)⟩ ∧ h.length ≤ b ∧ Dice h0 C ∧ Le h h') := by
  obtain ⟨bc, oc, kc, hx⟩ := hx.can
  refine ACalls.wk (args' := [.slice (some ⟨bc, oc, none⟩) xs.length 0]) ?_ (.cons kc .nil)
  have cx := hx.cells rfl
  refine ACalls.of Tt.tab Try.func43 rfl (by kernel_rfl) Try.ntmps43 _ rfl rfl (fun hw => ?_)
  have S := Sep.start h
  refine ⟨?_⟩
  refine ⟨?_⟩
  refine S.new fun b g S => ?_
  refine ⟨⟨[0, 2, 3, 4], fun n' vs g => ∃ (i : Nat) (y : Int), n' = xs.length - i ∧ i ≤ xs.length ∧ Sep h.length h g [.bx b tS 3 [.slice (some ⟨bc, oc, none⟩) xs.length 0, .int .i64 (0 : Nat), .int .u64 y]] ∧
    vs = [.slice (some ⟨bc, oc, none⟩) xs.length 0, .pointer none, .pointer (some ⟨b, 0, none⟩), .int .i64 i], _, ⟨0, _, rfl, Nat.zero_le _, S, rfl⟩, ?_⟩⟩
  clear S
  rintro n' vs g ⟨i, y, rfl, hi, S, rfl⟩
  have fin : FinX h (fun r h' => ∃ b C, r = .pointer (some ⟨b, 0, none⟩) ∧ look h' b = some ⟨C, some (tS, 3)⟩ ∧ h.length ≤ b ∧ Dice h0 C ∧ Le h h') (.pointer (some ⟨b, 0, none⟩)) g :=
    FinX.here S.le.len ⟨b, _, rfl, S.at_ 0 rfl, S.ge 0 rfl, ⟨bc, oc, xs, 0, y, rfl, Nat.zero_le _, hl, cx⟩, S.le⟩
  refine BIf.mk (fun c1 => ?_) (fun c1 => ?_)
  · have c1 : i < xs.length := by simpa using c1
    refine BIf.mk (fun c2 => ?_) (fun c2 => ?_)
    · refine DrawX.of Tt.tab follows_any [] [15] [0, 1, 2, 3, 4, 5, 6, 7, 8, 9, 10, 11, 12, 13, 14, 15] rfl (by kernel_rfl) (by kernel_rfl) ?_
      refine LoadX.same (S.at_ 0 rfl) rfl ?_
      refine ⟨?_⟩
      refine IdxX.mk (by omega) (by omega) ?_
      refine CS.load8 (k := i) cx (hle.trans S.le) c1 (fun x x1 x2 => ?_) (by show oc + (i : Int).toNat = _; omega)
      refine ⟨?_⟩
      refine ⟨?_⟩
      refine ⟨?_⟩
      refine S.put 0 (o := 2) rfl fun g S => ?_
      refine WR.as (r := ((i + 1 : Nat) : Int)) (by omega) ?_
      exact ⟨xs.length - (i + 1), by omega, i + 1, _, rfl, c1, S, rfl⟩
    · exact fin
  · refine BIf.no rfl ?_
    exact fin


theorem drawDual_c (h : AH) (v : Value) (xs : List Int) (hx : R8 h v xs) (hl : xs.length ≤ 1000000) : ACalls Try.prog 16 [v] h (DrawnWh h) := by
  obtain ⟨bc, oc, kc, hx⟩ := hx.can
  refine ACalls.wk (args' := [.slice (some ⟨bc, oc, none⟩) xs.length 0]) ?_ (.cons kc .nil)
  refine ACalls.of Tt.tab Try.func16 rfl (by kernel_rfl) Try.ntmps16 _ rfl rfl (fun hw => ?_)
  have S := Sep.start h
  refine S.new fun b2 g S => ?_
  refine CallX.same (l01From2_c h _ S.le _ xs hx hl) ?_
  rintro r g ⟨b, C, rfl, hlk, hge, hs, L⟩
  have S := (S.box L hlk hge).front 1 rfl
  refine SepM.src [_] S hs (Le.refl _) (fun G hb' e1 e2 _ S hg' => l07Spoil_c S e1 hs hg') ?_
  rintro r g C2 Ns ⟨bd, bm, ds, ds2, us, T, rfl, hW, hd, rfl⟩ hs S
  refine S.put 0 rfl fun g S => ?_
  refine LoadX.same (S.at_ 0 rfl) rfl ?_
  obtain ⟨x, hx⟩ := WS.reads2 hW hd (S.shp 3 rfl) (S.at_ 1 rfl) (S.at_ 2 rfl)
  exact FinX.here S.le.len ⟨_, _, x, rfl, hx, S.le⟩

theorem drawWholeH_c (h : AH) (v : Value) (xs : List Int) (hx : R8 h v xs) (hl : xs.length ≤ 1000000) : ACalls Try.prog 23 [v] h (DrawnWh h) := by
  obtain ⟨bc, oc, kc, hx⟩ := hx.can
  refine ACalls.wk (args' := [.slice (some ⟨bc, oc, none⟩) xs.length 0]) ?_ (.cons kc .nil)
  refine ACalls.of Tt.tab Try.func23 rfl (by kernel_rfl) Try.ntmps23 _ rfl rfl (fun hw => ?_)
  have S := Sep.start h
  refine S.new fun b2 g S => ?_
  refine CallX.same (l01From2_c h _ S.le _ xs hx hl) ?_
  rintro r g ⟨b, C, rfl, hlk, hge, hs, L⟩
  have S := (S.box L hlk hge).front 1 rfl
  refine SepM.src [_] S hs (Le.refl _) (fun G hb' e1 e2 _ S hg' => l07Spoil_c S e1 hs hg') ?_
  rintro r g C2 Ns ⟨bd, bm, ds, ds2, us, T, rfl, hW, hd, rfl⟩ hs S
  refine S.put 0 rfl fun g S => ?_
  refine LoadX.same (S.at_ 0 rfl) rfl ?_
  obtain ⟨x, hx⟩ := WS.reads2 hW hd (S.shp 3 rfl) (S.at_ 1 rfl) (S.at_ 2 rfl)
  exact FinX.here S.le.len ⟨_, _, x, rfl, hx, S.le⟩

end Go.Gl

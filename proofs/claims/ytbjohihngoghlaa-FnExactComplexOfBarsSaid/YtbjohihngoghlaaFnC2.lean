/- Chapter 9: ComplexOfBars, the program's side (written by mk_c2.py). No condition. -/
import Derived.Test.YtbjohihngoghlaaFnC1
import Derived.Test.YtbjohihngoghlaaPlU
import Derived.Test.YtbjohihngoghlaaFnM1
import Derived.Test.YtbjohihngoghlaaGlO
import Derived.Test.YtbjohihngoghlaaGlR
set_option linter.unusedVariables false
set_option linter.unusedSimpArgs false
namespace Go.Gl
open Go.Proofs Go.Proofs.Ytbjohihngoghlaa Go.Pl

def slB (A : Nat → Option Addr) (xs : Nat → List Int) (c : Nat → Nat) (j : Nat) : Value := .slice (A j) (xs j).length (c j)
def lvR (n : Nat) (xs : Nat → List Int) (A : Nat → Option Addr) (c : Nat → Nat) (j : Nat) : Res := .rc 2 1 n (slB A xs c j) (xs j).length ((xs j).map (.int .i64))
theorem nilsB_map (H : Nat) : (List.replicate H [Value.slice none 0 0]).flatten = (List.range H).map (slB (fun _ => none) (fun _ => []) fun _ => 0) := by
  have : slB (fun _ => none) (fun _ => []) (fun _ => 0) = fun _ => Value.slice none 0 0 := by funext j; rfl
  rw [this]
  induction H with
  | zero => rfl
  | succ H ih => rw [List.replicate_succ', List.flatten_append, ih, List.range_succ]; simp
theorem slB_step {A : Nat → Option Addr} {xs : Nat → List Int} {c : Nat → Nat} {j b : Nat} {y : Int} : (fun i => if i = j then Value.slice (some ⟨b, 0, none⟩) ((xs j).length + 1) 1 else slB A xs c i) = slB (fun i => if i = j then some ⟨b, 0, none⟩ else A i) (fun i => if i = j then xs j ++ [y] else xs i) (fun i => if i = j then 1 else c i) := by
  funext i
  unfold slB
  by_cases h : i = j
  · subst h; simp
  · simp [h]
theorem lvR_step {n : Nat} {A : Nat → Option Addr} {xs : Nat → List Int} {c : Nat → Nat} {j b : Nat} {y : Int} : (fun i => if i = j then Res.rc 2 1 n (.slice (some ⟨b, 0, none⟩) ((xs j).length + 1) 1) ((xs j).length + 1) ((xs j).map (.int .i64) ++ [.int .i64 y]) else lvR n xs A c i) = lvR n (fun i => if i = j then xs j ++ [y] else xs i) (fun i => if i = j then some ⟨b, 0, none⟩ else A i) (fun i => if i = j then 1 else c i) := by
  funext i
  unfold lvR slB
  by_cases h : i = j
  · subst h; simp
  · simp [h]
theorem bN_le (L : List SBar) (n : Int) (t : Nat) : (bN L n t).length ≤ t := by rw [bN_len]; exact sN_le L n t
theorem levT_le (L : List SBar) (j t : Nat) : (levT L j t).length ≤ L.length + t := by
  unfold levT
  rw [List.length_append]
  have := bN_le L j L.length
  cases j with
  | zero => show (bN L ((0 : Nat) : Int) L.length).length + 0 ≤ _; omega
  | succ m => have := dN_le L m t; show _ + (dN L m t).length ≤ _; omega
def mapsO (L : List SBar) (T s : Nat) : List (List (List Int)) := tab3 T (fun a => (lev L (a + 1)).length) (fun a => (lev L a).length) (fO L s)
theorem mapsO_zero (L : List SBar) (T : Nat) : zeroMaps (cbDims L T) T = mapsO L T 0 := by
  unfold zeroMaps mapsO tab3
  refine List.map_congr_left fun a ha => ?_
  have ha := List.mem_range.1 ha
  unfold cbDims
  dsimp only
  rw [tab_ith (show a + 1 < T + 1 by omega), tab_ith (show a < T + 1 by omega), Int.toNat_natCast, Int.toNat_natCast]
  exact tabR_congr fun b _ => tab_congr fun c _ => (fO_zero L a b c).symm
theorem mapsO_end {L : List SBar} (hb0 : ∀ i, i < L.length → 0 ≤ (bar L i).degree) (T : Nat) : mapsO L T (onesT L L.length).length = cbMaps L T := by
  unfold mapsO tab3 cbMaps
  refine List.map_congr_left fun a _ => ?_
  unfold cbMap cbRow
  exact tabR_congr fun b _ => tab_congr fun c _ => fO_end hb0 a b c
theorem mapsO_ent {L : List SBar} {T s k r c : Nat} (hk : k < T) (hr : r < (lev L (k + 1)).length) (hc : c < (lev L k).length) : ent (mat (mapsO L T s) k) r c = fO L s k r c := by
  unfold ent mapsO
  rw [tab3_mat hk, tabR_row hr, tab_ith hc]
theorem mapsO_succ {L : List SBar} (hb0 : ∀ i, i < L.length → 0 ≤ (bar L i).degree) {T s k r c : Nat} {p : Int} (hp : 2 ≤ p) (hs : s < (onesT L L.length).length) (he : (onesT L L.length)[s] = at3 k r c) (hk : k < T) (hr : r < (lev L (k + 1)).length) (hc : c < (lev L k).length) :
    addAt p (mapsO L T s) k r c 1 = mapsO L T (s + 1) := by
  unfold addAt
  rw [mapsO_ent hk hr hc, fO_new hb0 hs he]
  unfold mapsO
  rw [tab3_set hk hr, show ((0 : Int) + 1) % p = 1 from Int.emod_eq_of_lt (by omega) (by omega)]
  exact tab3_congr fun a b c' _ _ _ => (fO_succ hs he a b c').symm

theorem areSmall1_c (h : AH) (x : Int) : ACalls Try.prog 164 [.int .i64 x] h (fun r h' => r = .bool (decide (8 < x)) ∧ h' = h) := by
  refine ACalls.of Tt.tab Try.func164 rfl (by kernel_rfl) Try.ntmps164 _ rfl rfl (fun hw => ?_)
  exact FinX.keep hw (Le.refl _) rfl ⟨rfl, rfl⟩
theorem areSmall_c (h : AH) (v : Value) (xs : List Int) (hx : RI h v xs) : ACalls Try.prog 90 [v] h (fun r h' => r = .bool (!xs.any fun x => decide (8 < x)) ∧ h' = h) := by
  obtain ⟨b, o, k1, hx⟩ := hx.can
  refine ACalls.wk (args' := [.slice (some ⟨b, o, none⟩) xs.length 0]) ?_ (.cons k1 .nil)
  refine ACalls.of Tt.tab Try.func90 rfl (by kernel_rfl) Try.ntmps90 _ rfl rfl (fun hw => ?_)
  refine CallX.same (containsFuncI_c h _ xs _ _ (fun x => decide (8 < x)) hx (fun x _ u hu => by subst hu; exact areSmall1_c _ x)) ?_
  rintro r h3 ⟨rfl, rfl⟩
  exact FinX.keep hw (Le.refl _) rfl ⟨rfl, rfl⟩

theorem sizeG_c (h : AH) (a : Option Addr) (n c : Nat) : ACalls Try.prog 89 [.slice a n c] h (fun r h' => r = .int .i64 n ∧ h' = h) := by
  refine ACalls.of Tt.tab Try.func89 rfl (by kernel_rfl) Try.ntmps89 _ rfl rfl (fun hw => ?_)
  exact FinX.keep hw (Le.refl _) rfl ⟨rfl, rfl⟩
set_option maxHeartbeats 4000000 in
theorem complexB_c (h : AH) (p top : Int) (v : Value) (L : List SBar) (hx : RB h v L) : ACalls Try.prog 26 [.int .i64 p, .int .i64 top, v] h (fun r h' => ∃ v l, r = .tuple #[v, .int .i64 (cbR p top L).2] ∧ OFiltered h.length h' v (cbR p top L).1 l ∧ Le h h') := by
  obtain ⟨b1, o1, k1, hx⟩ := hx.can
  refine ACalls.wk (args' := [.int .i64 p, .int .i64 top, .slice (some ⟨b1, o1, none⟩) L.length 0]) ?_ (.cons (Wk.refl _) (.cons (Wk.refl _) (.cons k1 .nil)))
  refine ACalls.of Tt.tab Try.func26 rfl (by kernel_rfl) Try.ntmps26 _ rfl rfl (fun hw => ?_)
  have S := Sep.start h
  have c1 : CN 3 EB h b1 o1 L := RN.cells hx rfl
  have bad : ∀ (c : Int) (g : AH) (Rs : List Res), (cbR p top L) = (noFiltered, c) → Sep h.length h g Rs → FinX h (fun r h' => ∃ v l, r = .tuple #[v, .int .i64 (cbR p top L).2] ∧ OFiltered h.length h' v (cbR p top L).1 l ∧ Le h h') (.tuple #[.agg #[.int .i64 0, .slice none 0 0, .slice none 0 0, .slice none 0 0], .int .i64 c]) g := fun c g Rs e S => by
    rw [e]
    exact FinX.here S.le.len ⟨_, [], rfl, OFiltered.zero _ _, S.le⟩
  refine S.new fun b2 g S => ?_
  refine CallX.same (areBarsI_c g _ L (RB.le _ _ _ _ S.le hx)) ?_
  rintro r g ⟨rfl, rfl⟩
  refine BIf.mk (fun e3 => ?_) (fun e3 => ?_)
  · have e3 : areBars L = false := by simpa using e3
    refine BIf.yes rfl (BIf.yes rfl ?_)
    refine S.put 0 rfl fun g S => ?_
    refine LoadX.same (v := .agg #[.int .i64 0, .slice none 0 0, .slice none 0 0, .slice none 0 0]) (S.at_ 0 rfl) rfl ?_
    exact bad 2 _ _ (by unfold cbR cbOk; rw [e3, Bool.and_false]; rfl) S
  have e3 : areBars L = true := by simpa using e3
  refine CallX.same (isPrime_c _ p) ?_
  rintro r g ⟨rfl, rfl⟩
  refine BIf.mk (fun e1 => ?_) (fun e1 => ?_)
  · have e1 : prime p = false := by simpa using e1
    refine BIf.yes rfl ?_
    refine S.put 0 rfl fun g S => ?_
    refine LoadX.same (v := .agg #[.int .i64 0, .slice none 0 0, .slice none 0 0, .slice none 0 0]) (S.at_ 0 rfl) rfl ?_
    exact bad 2 _ _ (by unfold cbR cbOk; rw [e1]; rfl) S
  have e1 : prime p = true := by simpa using e1
  refine CallX.same (between_c _ top 0 5) ?_
  rintro r g ⟨rfl, rfl⟩
  refine BIf.mk (fun e2 => ?_) (fun e2 => ?_)
  · have e2 : decide (0 ≤ top ∧ top ≤ 5) = false := by simpa only [Bool.not_eq_true'] using e2
    refine S.put 0 rfl fun g S => ?_
    refine LoadX.same (v := .agg #[.int .i64 0, .slice none 0 0, .slice none 0 0, .slice none 0 0]) (S.at_ 0 rfl) rfl ?_
    exact bad 2 _ _ (by unfold cbR cbOk; rw [e1, e2]; rfl) S
  have e2 : decide (0 ≤ top ∧ top ≤ 5) = true := by simpa only [Bool.not_eq_false'] using e2
  have hok : cbOk p top L = true := by unfold cbOk; rw [e1, e2, e3]; rfl
  have htop : 0 ≤ top ∧ top ≤ 5 := by simpa using e2
  obtain ⟨T, rfl⟩ : ∃ T : Nat, top = T := ⟨top.toNat, by omega⟩
  have hL := areBars_len e3
  have hpr := prime_rng e1
  have hb0 : ∀ i, i < L.length → 0 ≤ (bar L i).degree := fun i hi => (areBars_bar e3 hi).1.1
  refine DrawX.tree Tt.tab follows_any [2, 6, 7] [8] (.op 0 (.op 1 (.op 4 (.op 5 (.alt (.op 2 (.op 3 (.alt (.op 6 (.op 7 (.op 8 (.op 9 (.nil))))) (.op 7 (.alt (.op 6 (.op 8 (.op 9 (.nil)))) (.op 8 (.op 6 (.op 9 (.nil))))))))) (.alt (.op 6 (.alt (.op 2 (.op 3 (.op 7 (.op 8 (.op 9 (.nil)))))) (.op 7 (.op 2 (.op 3 (.op 8 (.op 9 (.nil)))))))) (.op 7 (.alt (.op 2 (.op 3 (.alt (.op 6 (.op 8 (.op 9 (.nil)))) (.op 8 (.op 6 (.op 9 (.nil))))))) (.op 6 (.op 2 (.op 3 (.op 8 (.op 9 (.nil)))))))))))))) [0, 1, 2, 6, 8, 9] (fun vs g => ∃ b8 b4 b5 : Nat, vs = [.int .i64 p, .int .i64 T, .slice (some ⟨b1, o1, none⟩) L.length 0, .pointer (some ⟨b2, 0, none⟩), .pointer (some ⟨b8, 0, none⟩), .slice (some ⟨b5, 0, none⟩) (T + 1) 1] ∧ Sep h.length h g [.bx b8 43 4 [.int .i64 0, .slice none 0 0, .slice none 0 0, .slice (some ⟨b4, 0, none⟩) (T + 1) 1], .bx b5 2 1 ((zt (T + 1)).map (.int .i64)), .bx b4 22 1 ((List.range (T + 1)).map (slB (fun _ => none) (fun _ => []) fun _ => 0)), .bx b2 43 4 [.int .i64 0, .slice none 0 0, .slice none 0 0, .slice none 0 0]]) (by kernel_rfl) (by kernel_rfl) ?_ ?_
  · refine WR.as (r := ((T + 1 : Nat) : Int)) (by omega) ?_
    refine WR.as (r := ((T + 1 : Nat) : Int)) (by omega) ?_
    refine ⟨?_, ?_⟩
    · refine ⟨by omega, rfl, by omega, by show ((T + 1 : Nat) : Int) * (24 : Nat) ≤ _; omega, ?_⟩
      refine S.newL fun b4 g L' S => ?_
      refine ⟨L', ?_⟩
      have S := S.recast 0 rfl (nilsB_map _)
      try rw [show (((T + 1 : Nat) : Int)).toNat = T + 1 from Int.toNat_natCast _] at S ⊢
      refine ⟨?_, ?_⟩
      · refine ⟨by omega, rfl, by omega, by show ((T + 1 : Nat) : Int) * (8 : Nat) ≤ _; omega, ?_⟩
        refine S.newL fun b5 g L' S => ?_
        refine ⟨L', ?_⟩
        have S := S.recast 0 rfl (zeros_zt _)
        try rw [show (((T + 1 : Nat) : Int)).toNat = T + 1 from Int.toNat_natCast _] at S ⊢
        refine S.newL fun b8 g L' S => ?_
        refine ⟨L', ?_⟩
        refine S.put 0 rfl fun g S => ?_
        exact ⟨b8, b4, b5, rfl, ((((S.front 3 rfl).front 3 rfl).front 3 rfl).front 3 rfl)⟩
      · refine S.newL fun b8 g L' S => ?_
        refine ⟨L', ?_⟩
        refine ⟨?_, ?_⟩
        · refine ⟨by omega, rfl, by omega, by show ((T + 1 : Nat) : Int) * (8 : Nat) ≤ _; omega, ?_⟩
          refine S.newL fun b5 g L' S => ?_
          refine ⟨L', ?_⟩
          have S := S.recast 0 rfl (zeros_zt _)
          try rw [show (((T + 1 : Nat) : Int)).toNat = T + 1 from Int.toNat_natCast _] at S ⊢
          refine S.put 1 rfl fun g S => ?_
          exact ⟨b8, b4, b5, rfl, ((((S.front 3 rfl).front 3 rfl).front 2 rfl).front 3 rfl)⟩
        · refine S.put 0 rfl fun g S => ?_
          refine ⟨by omega, rfl, by omega, by show ((T + 1 : Nat) : Int) * (8 : Nat) ≤ _; omega, ?_⟩
          refine S.newL fun b5 g L' S => ?_
          refine ⟨L', ?_⟩
          have S := S.recast 0 rfl (zeros_zt _)
          try rw [show (((T + 1 : Nat) : Int)).toNat = T + 1 from Int.toNat_natCast _] at S ⊢
          exact ⟨b8, b4, b5, rfl, ((((S.front 3 rfl).front 3 rfl).front 2 rfl).front 3 rfl)⟩
    · refine ⟨?_, ?_⟩
      · refine ⟨by omega, rfl, by omega, by show ((T + 1 : Nat) : Int) * (8 : Nat) ≤ _; omega, ?_⟩
        refine S.newL fun b5 g L' S => ?_
        refine ⟨L', ?_⟩
        have S := S.recast 0 rfl (zeros_zt _)
        try rw [show (((T + 1 : Nat) : Int)).toNat = T + 1 from Int.toNat_natCast _] at S ⊢
        refine ⟨?_, ?_⟩
        · refine ⟨by omega, rfl, by omega, by show ((T + 1 : Nat) : Int) * (24 : Nat) ≤ _; omega, ?_⟩
          refine S.newL fun b4 g L' S => ?_
          refine ⟨L', ?_⟩
          have S := S.recast 0 rfl (nilsB_map _)
          try rw [show (((T + 1 : Nat) : Int)).toNat = T + 1 from Int.toNat_natCast _] at S ⊢
          refine S.newL fun b8 g L' S => ?_
          refine ⟨L', ?_⟩
          refine S.put 0 rfl fun g S => ?_
          exact ⟨b8, b4, b5, rfl, ((((S.front 3 rfl).front 2 rfl).front 3 rfl).front 3 rfl)⟩
        · refine S.newL fun b8 g L' S => ?_
          refine ⟨L', ?_⟩
          refine ⟨by omega, rfl, by omega, by show ((T + 1 : Nat) : Int) * (24 : Nat) ≤ _; omega, ?_⟩
          refine S.newL fun b4 g L' S => ?_
          refine ⟨L', ?_⟩
          have S := S.recast 0 rfl (nilsB_map _)
          try rw [show (((T + 1 : Nat) : Int)).toNat = T + 1 from Int.toNat_natCast _] at S ⊢
          refine S.put 1 rfl fun g S => ?_
          exact ⟨b8, b4, b5, rfl, ((((S.front 3 rfl).front 1 rfl).front 3 rfl).front 3 rfl)⟩
      · refine S.newL fun b8 g L' S => ?_
        refine ⟨L', ?_⟩
        refine ⟨?_, ?_⟩
        · refine ⟨by omega, rfl, by omega, by show ((T + 1 : Nat) : Int) * (24 : Nat) ≤ _; omega, ?_⟩
          refine S.newL fun b4 g L' S => ?_
          refine ⟨L', ?_⟩
          have S := S.recast 0 rfl (nilsB_map _)
          try rw [show (((T + 1 : Nat) : Int)).toNat = T + 1 from Int.toNat_natCast _] at S ⊢
          refine ⟨?_, ?_⟩
          · refine ⟨by omega, rfl, by omega, by show ((T + 1 : Nat) : Int) * (8 : Nat) ≤ _; omega, ?_⟩
            refine S.newL fun b5 g L' S => ?_
            refine ⟨L', ?_⟩
            have S := S.recast 0 rfl (zeros_zt _)
            try rw [show (((T + 1 : Nat) : Int)).toNat = T + 1 from Int.toNat_natCast _] at S ⊢
            refine S.put 2 rfl fun g S => ?_
            exact ⟨b8, b4, b5, rfl, ((((S.front 3 rfl).front 2 rfl).front 2 rfl).front 3 rfl)⟩
          · refine S.put 1 rfl fun g S => ?_
            refine ⟨by omega, rfl, by omega, by show ((T + 1 : Nat) : Int) * (8 : Nat) ≤ _; omega, ?_⟩
            refine S.newL fun b5 g L' S => ?_
            refine ⟨L', ?_⟩
            have S := S.recast 0 rfl (zeros_zt _)
            try rw [show (((T + 1 : Nat) : Int)).toNat = T + 1 from Int.toNat_natCast _] at S ⊢
            exact ⟨b8, b4, b5, rfl, ((((S.front 3 rfl).front 2 rfl).front 2 rfl).front 3 rfl)⟩
        · refine ⟨by omega, rfl, by omega, by show ((T + 1 : Nat) : Int) * (8 : Nat) ≤ _; omega, ?_⟩
          refine S.newL fun b5 g L' S => ?_
          refine ⟨L', ?_⟩
          have S := S.recast 0 rfl (zeros_zt _)
          try rw [show (((T + 1 : Nat) : Int)).toNat = T + 1 from Int.toNat_natCast _] at S ⊢
          refine ⟨by omega, rfl, by omega, by show ((T + 1 : Nat) : Int) * (24 : Nat) ≤ _; omega, ?_⟩
          refine S.newL fun b4 g L' S => ?_
          refine ⟨L', ?_⟩
          have S := S.recast 0 rfl (nilsB_map _)
          try rw [show (((T + 1 : Nat) : Int)).toNat = T + 1 from Int.toNat_natCast _] at S ⊢
          refine S.put 2 rfl fun g S => ?_
          exact ⟨b8, b4, b5, rfl, ((((S.front 3 rfl).front 1 rfl).front 2 rfl).front 3 rfl)⟩
  rintro vs g ⟨b8, b4, b5, rfl, S⟩
  have S := (S.nilsC 2 1 (T + 1)).eq (Rs' := [.bx b8 43 4 [.int .i64 0, .slice none 0 0, .slice none 0 0, .slice (some ⟨b4, 0, none⟩) (T + 1) 1], .bx b5 2 1 ((zt (T + 1)).map (.int .i64)), .bx b4 22 1 ((List.range (T + 1)).map (slB (fun _ => none) (fun j : Nat => bN L j 0) fun _ => 0)), .bx b2 43 4 [.int .i64 0, .slice none 0 0, .slice none 0 0, .slice none 0 0]] ++ rowsR (T + 1) (lvR h.length (fun j : Nat => bN L j 0) (fun _ => none) fun _ => 0)) rfl
  refine ⟨⟨[0, 1, 2, 6, 8, 9, 42, 43, 44], fun n' vs g => ∃ (k : Nat) (A : Nat → Option Addr) (c : Nat → Nat), n' = L.length - k ∧ k ≤ L.length ∧ allN (fun i => fitB T (bar L i)) k = true ∧ Sep h.length h g ([.bx b8 43 4 [.int .i64 0, .slice none 0 0, .slice none 0 0, .slice (some ⟨b4, 0, none⟩) (T + 1) 1], .bx b5 2 1 ((zt (T + 1)).map (.int .i64)), .bx b4 22 1 ((List.range (T + 1)).map (slB A (fun j : Nat => bN L j k) c)), .bx b2 43 4 [.int .i64 0, .slice none 0 0, .slice none 0 0, .slice none 0 0]] ++ rowsR (T + 1) (lvR h.length (fun j : Nat => bN L j k) A c)) ∧
    vs = [.int .i64 p, .int .i64 T, .slice (some ⟨b1, o1, none⟩) L.length 0, .pointer (some ⟨b2, 0, none⟩), .pointer (some ⟨b8, 0, none⟩), .slice (some ⟨b5, 0, none⟩) (T + 1) 1, .slice (some ⟨b1, o1, none⟩) L.length 0, .int .i64 L.length, .int .i64 k], _, ⟨0, _, _, rfl, Nat.zero_le _, rfl, S, rfl⟩, ?_⟩⟩
  clear S
  rintro n' vs g ⟨k, A, c, rfl, hk, hf, S, rfl⟩
  refine BIf.mk (fun h2 => ?_) (fun h2 => ?_)
  · have hlt : k < L.length := by simpa using h2
    have no : fitB T (bar L k) = false → cbR p T L = (noFiltered, 2) := fun hh => by unfold cbR; rw [hok, show fitsB L T = false from allN_false hlt hh]; rfl
    have h0 := hb0 k hlt
    obtain ⟨j, hj⟩ : ∃ j : Nat, (bar L k).degree = j := ⟨(bar L k).degree.toNat, by omega⟩
    refine IdxX.mk (by omega) (by omega) ?_
    refine CB.load c1 S.le hlt ?_
    refine S.new fun b11 g S => ?_
    refine S.put 0 rfl fun g S => ?_
    refine LoadX.same (v := .int .i64 (bar L k).degree) (S.at_ 0 rfl) rfl ?_
    refine BIf.mk (fun h3 => ?_) (fun h3 => ?_)
    · have h3 : (T : Int) < (bar L k).degree := by simpa using h3
      refine BIf.yes rfl ?_
      refine S.put 4 rfl fun g S => ?_
      refine LoadX.same (v := .agg #[.int .i64 0, .slice none 0 0, .slice none 0 0, .slice none 0 0]) (S.at_ 4 rfl) rfl ?_
      exact bad 2 _ _ (no (by rw [← Bool.not_eq_true, fitB_iff]; omega)) S
    have h3 : (bar L k).degree ≤ (T : Int) := by simpa using h3
    have hjT : j < T + 1 := by omega
    refine LoadX.same (v := .int .i64 (bar L k).death) (S.at_ 0 rfl) rfl ?_
    have done : ∀ (b13 : Nat) (g : AH), Sep h.length h g (.bx b11 121 3 [.int .i64 (bar L k).degree, .int .i64 (bar L k).birth, .int .i64 (bar L k).death] :: .bx b8 43 4 [.int .i64 0, .slice none 0 0, .slice none 0 0, .slice (some ⟨b4, 0, none⟩) (T + 1) 1] :: .bx b5 2 1 ((zt (T + 1)).map (.int .i64)) :: .bx b4 22 1 (setCells ((List.range (T + 1)).map (slB A (fun j : Nat => bN L j k) c)) (0 + j) [.slice (some ⟨b13, 0, none⟩) ((bN L j k).length + 1) 1]) :: .bx b2 43 4 [.int .i64 0, .slice none 0 0, .slice none 0 0, .slice none 0 0] :: st (rowsR (T + 1) (lvR h.length (fun j : Nat => bN L j k) A c)) j (.rc 2 1 h.length (.slice (some ⟨b13, 0, none⟩) ((bN L j k).length + 1) 1) ((bN L j k).length + 1) ((bN L j k).map (.int .i64) ++ [.int .i64 (bar L k).birth]))) →
        ∃ (A : Nat → Option Addr) (c : Nat → Nat), ([.int .i64 p, .int .i64 T, .slice (some ⟨b1, o1, none⟩) L.length 0, .pointer (some ⟨b2, 0, none⟩), .pointer (some ⟨b8, 0, none⟩), .slice (some ⟨b5, 0, none⟩) (T + 1) 1, .slice (some ⟨b1, o1, none⟩) L.length 0, .int .i64 L.length, .int .i64 k] : List Value) = [.int .i64 p, .int .i64 T, .slice (some ⟨b1, o1, none⟩) L.length 0, .pointer (some ⟨b2, 0, none⟩), .pointer (some ⟨b8, 0, none⟩), .slice (some ⟨b5, 0, none⟩) (T + 1) 1, .slice (some ⟨b1, o1, none⟩) L.length 0, .int .i64 L.length, .int .i64 k] ∧ Sep h.length h g ([.bx b8 43 4 [.int .i64 0, .slice none 0 0, .slice none 0 0, .slice (some ⟨b4, 0, none⟩) (T + 1) 1], .bx b5 2 1 ((zt (T + 1)).map (.int .i64)), .bx b4 22 1 ((List.range (T + 1)).map (slB A (fun j : Nat => bN L j (k + 1)) c)), .bx b2 43 4 [.int .i64 0, .slice none 0 0, .slice none 0 0, .slice none 0 0]] ++ rowsR (T + 1) (lvR h.length (fun j : Nat => bN L j (k + 1)) A c)) := fun b13 g S => by
      refine ⟨fun i => if i = j then some ⟨b13, 0, none⟩ else A i, fun i => if i = j then 1 else c i, rfl, S.tail.eq ?_⟩
      rw [← bN_in hj]
      rw [setCells_map hjT, st_rowsR]
      have z1 : (fun i => if i = j then Value.slice (some ⟨b13, 0, none⟩) ((bN L j k).length + 1) 1 else slB A (fun j : Nat => bN L j k) c i) = slB (fun i => if i = j then some ⟨b13, 0, none⟩ else A i) (fun i : Nat => if i = j then bN L j k ++ [(bar L k).birth] else bN L i k) (fun i => if i = j then 1 else c i) := slB_step (xs := fun j : Nat => bN L j k)
      have z2 : (fun i => if i = j then Res.rc 2 1 h.length (.slice (some ⟨b13, 0, none⟩) ((bN L j k).length + 1) 1) ((bN L j k).length + 1) ((bN L j k).map (.int .i64) ++ [.int .i64 (bar L k).birth]) else lvR h.length (fun j : Nat => bN L j k) A c i) = lvR h.length (fun i : Nat => if i = j then bN L j k ++ [(bar L k).birth] else bN L i k) (fun i => if i = j then some ⟨b13, 0, none⟩ else A i) (fun i => if i = j then 1 else c i) := lvR_step (xs := fun j : Nat => bN L j k)
      rw [z1, z2]
      rfl
    refine BIf.mk (fun h4 => ?_) (fun h4 => ?_)
    · have h4 : 0 ≤ (bar L k).death := by simpa using h4
      refine LoadX.same (v := .int .i64 (bar L k).degree) (S.at_ 0 rfl) rfl ?_
      refine BIf.mk (fun h5 => ?_) (fun h5 => ?_)
      · have h5 : (T : Int) ≤ (bar L k).degree := by simpa using h5
        refine S.put 4 rfl fun g S => ?_
        refine LoadX.same (v := .agg #[.int .i64 0, .slice none 0 0, .slice none 0 0, .slice none 0 0]) (S.at_ 4 rfl) rfl ?_
        exact bad 2 _ _ (no (by rw [← Bool.not_eq_true, fitB_iff]; omega)) S
      have h5 : ¬ (T : Int) ≤ (bar L k).degree := by simpa using h5
      have hfit : fitB T (bar L k) = true := fitB_iff.2 ⟨h3, fun hh => h5 (by omega)⟩
      refine DrawX.tree Tt.tab follows_any [12] [13, 15] (.op 0 (.op 2 (.op 4 (.op 5 (.op 6 (.op 7 (.op 8 (.op 9 (.op 10 (.op 11 (.alt (.op 1 (.alt (.op 3 (.op 12 (.op 13 (.op 14 (.op 15 (.nil)))))) (.op 12 (.alt (.op 3 (.op 13 (.op 14 (.op 15 (.nil))))) (.op 13 (.op 3 (.op 14 (.op 15 (.nil))))))))) (.alt (.op 3 (.alt (.op 1 (.op 12 (.op 13 (.op 14 (.op 15 (.nil)))))) (.op 12 (.alt (.op 1 (.op 13 (.op 14 (.op 15 (.nil))))) (.op 13 (.op 1 (.op 14 (.op 15 (.nil))))))))) (.op 12 (.alt (.op 1 (.alt (.op 3 (.op 13 (.op 14 (.op 15 (.nil))))) (.op 13 (.op 3 (.op 14 (.op 15 (.nil))))))) (.alt (.op 3 (.alt (.op 1 (.op 13 (.op 14 (.op 15 (.nil))))) (.op 13 (.op 1 (.op 14 (.op 15 (.nil))))))) (.op 13 (.alt (.op 1 (.op 3 (.op 14 (.op 15 (.nil))))) (.op 3 (.op 1 (.op 14 (.op 15 (.nil)))))))))))))))))))))) [0, 1, 2, 6, 8, 9, 42, 43, 44] (fun vs g => ∃ (A : Nat → Option Addr) (c : Nat → Nat), vs = [.int .i64 p, .int .i64 T, .slice (some ⟨b1, o1, none⟩) L.length 0, .pointer (some ⟨b2, 0, none⟩), .pointer (some ⟨b8, 0, none⟩), .slice (some ⟨b5, 0, none⟩) (T + 1) 1, .slice (some ⟨b1, o1, none⟩) L.length 0, .int .i64 L.length, .int .i64 k] ∧ Sep h.length h g ([.bx b8 43 4 [.int .i64 0, .slice none 0 0, .slice none 0 0, .slice (some ⟨b4, 0, none⟩) (T + 1) 1], .bx b5 2 1 ((zt (T + 1)).map (.int .i64)), .bx b4 22 1 ((List.range (T + 1)).map (slB A (fun j : Nat => bN L j (k + 1)) c)), .bx b2 43 4 [.int .i64 0, .slice none 0 0, .slice none 0 0, .slice none 0 0]] ++ rowsR (T + 1) (lvR h.length (fun j : Nat => bN L j (k + 1)) A c))) (by kernel_rfl) (by kernel_rfl) ?_ ?_
      · refine LoadX.same (v := .slice (some ⟨b4, 0, none⟩) (T + 1) 1) (S.at_ 1 rfl) rfl ?_
        refine LoadX.same (v := .int .i64 ((j : Nat) : Int)) (S.at_ 0 rfl) (congrArg (fun z => some (Value.int .i64 z)) hj) ?_
        refine IdxX.mk (by omega) (by omega) ?_
        refine LoadX.same (v := slB A (fun j : Nat => bN L j k) c j) (S.at_ 3 rfl) (ldv_map rfl hjT) ?_
        refine LoadX.same (v := .int .i64 (bar L k).birth) (S.at_ 0 rfl) rfl ?_
        refine ⟨?_, ?_⟩
        · refine LoadX.same (v := .slice (some ⟨b4, 0, none⟩) (T + 1) 1) (S.at_ 1 rfl) rfl ?_
          refine ⟨?_, ?_⟩
          · refine LoadX.same (v := .int .i64 ((j : Nat) : Int)) (S.at_ 0 rfl) (congrArg (fun z => some (Value.int .i64 z)) hj) ?_
            refine S.newL fun b12 g L' S => ?_
            refine ⟨L', ?_⟩
            refine S.app (j + 5) (gt_rowsR hjT) rfl rfl (by have := bN_le L j k; show (bN L j k).length ≤ _; omega) fun b13 g S => ?_
            refine IdxX.mk (by omega) (by omega) ?_
            refine S.store (o := 0 + j) (vs := [.slice (some ⟨b13, 0, none⟩) ((bN L j k).length + 1) 1]) 3 rfl (by rw [List.length_map, List.length_range]; show 0 + j + 1 ≤ T + 1; omega) fun g S => ?_
            exact done b13 g S
          · refine S.newL fun b12 g L' S => ?_
            refine ⟨L', ?_⟩
            refine ⟨?_, ?_⟩
            · refine LoadX.same (v := .int .i64 ((j : Nat) : Int)) (S.at_ 1 rfl) (congrArg (fun z => some (Value.int .i64 z)) hj) ?_
              refine S.app (j + 5) (gt_rowsR hjT) rfl rfl (by have := bN_le L j k; show (bN L j k).length ≤ _; omega) fun b13 g S => ?_
              refine IdxX.mk (by omega) (by omega) ?_
              refine S.store (o := 0 + j) (vs := [.slice (some ⟨b13, 0, none⟩) ((bN L j k).length + 1) 1]) 3 rfl (by rw [List.length_map, List.length_range]; show 0 + j + 1 ≤ T + 1; omega) fun g S => ?_
              exact done b13 g S
            · refine S.app (j + 5) (gt_rowsR hjT) rfl rfl (by have := bN_le L j k; show (bN L j k).length ≤ _; omega) fun b13 g S => ?_
              refine LoadX.same (v := .int .i64 ((j : Nat) : Int)) (S.at_ 0 rfl) (congrArg (fun z => some (Value.int .i64 z)) hj) ?_
              refine IdxX.mk (by omega) (by omega) ?_
              refine S.store (o := 0 + j) (vs := [.slice (some ⟨b13, 0, none⟩) ((bN L j k).length + 1) 1]) 3 rfl (by rw [List.length_map, List.length_range]; show 0 + j + 1 ≤ T + 1; omega) fun g S => ?_
              exact done b13 g S
        · refine ⟨?_, ?_⟩
          · refine LoadX.same (v := .int .i64 ((j : Nat) : Int)) (S.at_ 0 rfl) (congrArg (fun z => some (Value.int .i64 z)) hj) ?_
            refine ⟨?_, ?_⟩
            · refine LoadX.same (v := .slice (some ⟨b4, 0, none⟩) (T + 1) 1) (S.at_ 1 rfl) rfl ?_
              refine S.newL fun b12 g L' S => ?_
              refine ⟨L', ?_⟩
              refine S.app (j + 5) (gt_rowsR hjT) rfl rfl (by have := bN_le L j k; show (bN L j k).length ≤ _; omega) fun b13 g S => ?_
              refine IdxX.mk (by omega) (by omega) ?_
              refine S.store (o := 0 + j) (vs := [.slice (some ⟨b13, 0, none⟩) ((bN L j k).length + 1) 1]) 3 rfl (by rw [List.length_map, List.length_range]; show 0 + j + 1 ≤ T + 1; omega) fun g S => ?_
              exact done b13 g S
            · refine S.newL fun b12 g L' S => ?_
              refine ⟨L', ?_⟩
              refine ⟨?_, ?_⟩
              · refine LoadX.same (v := .slice (some ⟨b4, 0, none⟩) (T + 1) 1) (S.at_ 2 rfl) rfl ?_
                refine S.app (j + 5) (gt_rowsR hjT) rfl rfl (by have := bN_le L j k; show (bN L j k).length ≤ _; omega) fun b13 g S => ?_
                refine IdxX.mk (by omega) (by omega) ?_
                refine S.store (o := 0 + j) (vs := [.slice (some ⟨b13, 0, none⟩) ((bN L j k).length + 1) 1]) 3 rfl (by rw [List.length_map, List.length_range]; show 0 + j + 1 ≤ T + 1; omega) fun g S => ?_
                exact done b13 g S
              · refine S.app (j + 5) (gt_rowsR hjT) rfl rfl (by have := bN_le L j k; show (bN L j k).length ≤ _; omega) fun b13 g S => ?_
                refine LoadX.same (v := .slice (some ⟨b4, 0, none⟩) (T + 1) 1) (S.at_ 1 rfl) rfl ?_
                refine IdxX.mk (by omega) (by omega) ?_
                refine S.store (o := 0 + j) (vs := [.slice (some ⟨b13, 0, none⟩) ((bN L j k).length + 1) 1]) 3 rfl (by rw [List.length_map, List.length_range]; show 0 + j + 1 ≤ T + 1; omega) fun g S => ?_
                exact done b13 g S
          · refine S.newL fun b12 g L' S => ?_
            refine ⟨L', ?_⟩
            refine ⟨?_, ?_⟩
            · refine LoadX.same (v := .slice (some ⟨b4, 0, none⟩) (T + 1) 1) (S.at_ 2 rfl) rfl ?_
              refine ⟨?_, ?_⟩
              · refine LoadX.same (v := .int .i64 ((j : Nat) : Int)) (S.at_ 1 rfl) (congrArg (fun z => some (Value.int .i64 z)) hj) ?_
                refine S.app (j + 5) (gt_rowsR hjT) rfl rfl (by have := bN_le L j k; show (bN L j k).length ≤ _; omega) fun b13 g S => ?_
                refine IdxX.mk (by omega) (by omega) ?_
                refine S.store (o := 0 + j) (vs := [.slice (some ⟨b13, 0, none⟩) ((bN L j k).length + 1) 1]) 3 rfl (by rw [List.length_map, List.length_range]; show 0 + j + 1 ≤ T + 1; omega) fun g S => ?_
                exact done b13 g S
              · refine S.app (j + 5) (gt_rowsR hjT) rfl rfl (by have := bN_le L j k; show (bN L j k).length ≤ _; omega) fun b13 g S => ?_
                refine LoadX.same (v := .int .i64 ((j : Nat) : Int)) (S.at_ 0 rfl) (congrArg (fun z => some (Value.int .i64 z)) hj) ?_
                refine IdxX.mk (by omega) (by omega) ?_
                refine S.store (o := 0 + j) (vs := [.slice (some ⟨b13, 0, none⟩) ((bN L j k).length + 1) 1]) 3 rfl (by rw [List.length_map, List.length_range]; show 0 + j + 1 ≤ T + 1; omega) fun g S => ?_
                exact done b13 g S
            · refine ⟨?_, ?_⟩
              · refine LoadX.same (v := .int .i64 ((j : Nat) : Int)) (S.at_ 1 rfl) (congrArg (fun z => some (Value.int .i64 z)) hj) ?_
                refine ⟨?_, ?_⟩
                · refine LoadX.same (v := .slice (some ⟨b4, 0, none⟩) (T + 1) 1) (S.at_ 2 rfl) rfl ?_
                  refine S.app (j + 5) (gt_rowsR hjT) rfl rfl (by have := bN_le L j k; show (bN L j k).length ≤ _; omega) fun b13 g S => ?_
                  refine IdxX.mk (by omega) (by omega) ?_
                  refine S.store (o := 0 + j) (vs := [.slice (some ⟨b13, 0, none⟩) ((bN L j k).length + 1) 1]) 3 rfl (by rw [List.length_map, List.length_range]; show 0 + j + 1 ≤ T + 1; omega) fun g S => ?_
                  exact done b13 g S
                · refine S.app (j + 5) (gt_rowsR hjT) rfl rfl (by have := bN_le L j k; show (bN L j k).length ≤ _; omega) fun b13 g S => ?_
                  refine LoadX.same (v := .slice (some ⟨b4, 0, none⟩) (T + 1) 1) (S.at_ 1 rfl) rfl ?_
                  refine IdxX.mk (by omega) (by omega) ?_
                  refine S.store (o := 0 + j) (vs := [.slice (some ⟨b13, 0, none⟩) ((bN L j k).length + 1) 1]) 3 rfl (by rw [List.length_map, List.length_range]; show 0 + j + 1 ≤ T + 1; omega) fun g S => ?_
                  exact done b13 g S
              · refine S.app (j + 5) (gt_rowsR hjT) rfl rfl (by have := bN_le L j k; show (bN L j k).length ≤ _; omega) fun b13 g S => ?_
                refine ⟨?_, ?_⟩
                · refine LoadX.same (v := .slice (some ⟨b4, 0, none⟩) (T + 1) 1) (S.at_ 1 rfl) rfl ?_
                  refine LoadX.same (v := .int .i64 ((j : Nat) : Int)) (S.at_ 0 rfl) (congrArg (fun z => some (Value.int .i64 z)) hj) ?_
                  refine IdxX.mk (by omega) (by omega) ?_
                  refine S.store (o := 0 + j) (vs := [.slice (some ⟨b13, 0, none⟩) ((bN L j k).length + 1) 1]) 3 rfl (by rw [List.length_map, List.length_range]; show 0 + j + 1 ≤ T + 1; omega) fun g S => ?_
                  exact done b13 g S
                · refine LoadX.same (v := .int .i64 ((j : Nat) : Int)) (S.at_ 0 rfl) (congrArg (fun z => some (Value.int .i64 z)) hj) ?_
                  refine LoadX.same (v := .slice (some ⟨b4, 0, none⟩) (T + 1) 1) (S.at_ 1 rfl) rfl ?_
                  refine IdxX.mk (by omega) (by omega) ?_
                  refine S.store (o := 0 + j) (vs := [.slice (some ⟨b13, 0, none⟩) ((bN L j k).length + 1) 1]) 3 rfl (by rw [List.length_map, List.length_range]; show 0 + j + 1 ≤ T + 1; omega) fun g S => ?_
                  exact done b13 g S
      rintro vs g ⟨A, c, rfl, S⟩
      refine WR.i64 ?_
      exact ⟨L.length - (k + 1), by omega, k + 1, A, c, rfl, hlt, by rw [allN_succ, hf, hfit]; rfl, S, rfl⟩
    · have h4 : ¬ 0 ≤ (bar L k).death := by simpa using h4
      refine BIf.no rfl ?_
      have hfit : fitB T (bar L k) = true := fitB_iff.2 ⟨h3, fun hh => h4 hh.1⟩
      refine DrawX.tree Tt.tab follows_any [12] [13, 15] (.op 0 (.op 2 (.op 4 (.op 5 (.op 6 (.op 7 (.op 8 (.op 9 (.op 10 (.op 11 (.alt (.op 1 (.alt (.op 3 (.op 12 (.op 13 (.op 14 (.op 15 (.nil)))))) (.op 12 (.alt (.op 3 (.op 13 (.op 14 (.op 15 (.nil))))) (.op 13 (.op 3 (.op 14 (.op 15 (.nil))))))))) (.alt (.op 3 (.alt (.op 1 (.op 12 (.op 13 (.op 14 (.op 15 (.nil)))))) (.op 12 (.alt (.op 1 (.op 13 (.op 14 (.op 15 (.nil))))) (.op 13 (.op 1 (.op 14 (.op 15 (.nil))))))))) (.op 12 (.alt (.op 1 (.alt (.op 3 (.op 13 (.op 14 (.op 15 (.nil))))) (.op 13 (.op 3 (.op 14 (.op 15 (.nil))))))) (.alt (.op 3 (.alt (.op 1 (.op 13 (.op 14 (.op 15 (.nil))))) (.op 13 (.op 1 (.op 14 (.op 15 (.nil))))))) (.op 13 (.alt (.op 1 (.op 3 (.op 14 (.op 15 (.nil))))) (.op 3 (.op 1 (.op 14 (.op 15 (.nil)))))))))))))))))))))) [0, 1, 2, 6, 8, 9, 42, 43, 44] (fun vs g => ∃ (A : Nat → Option Addr) (c : Nat → Nat), vs = [.int .i64 p, .int .i64 T, .slice (some ⟨b1, o1, none⟩) L.length 0, .pointer (some ⟨b2, 0, none⟩), .pointer (some ⟨b8, 0, none⟩), .slice (some ⟨b5, 0, none⟩) (T + 1) 1, .slice (some ⟨b1, o1, none⟩) L.length 0, .int .i64 L.length, .int .i64 k] ∧ Sep h.length h g ([.bx b8 43 4 [.int .i64 0, .slice none 0 0, .slice none 0 0, .slice (some ⟨b4, 0, none⟩) (T + 1) 1], .bx b5 2 1 ((zt (T + 1)).map (.int .i64)), .bx b4 22 1 ((List.range (T + 1)).map (slB A (fun j : Nat => bN L j (k + 1)) c)), .bx b2 43 4 [.int .i64 0, .slice none 0 0, .slice none 0 0, .slice none 0 0]] ++ rowsR (T + 1) (lvR h.length (fun j : Nat => bN L j (k + 1)) A c))) (by kernel_rfl) (by kernel_rfl) ?_ ?_
      · refine LoadX.same (v := .slice (some ⟨b4, 0, none⟩) (T + 1) 1) (S.at_ 1 rfl) rfl ?_
        refine LoadX.same (v := .int .i64 ((j : Nat) : Int)) (S.at_ 0 rfl) (congrArg (fun z => some (Value.int .i64 z)) hj) ?_
        refine IdxX.mk (by omega) (by omega) ?_
        refine LoadX.same (v := slB A (fun j : Nat => bN L j k) c j) (S.at_ 3 rfl) (ldv_map rfl hjT) ?_
        refine LoadX.same (v := .int .i64 (bar L k).birth) (S.at_ 0 rfl) rfl ?_
        refine ⟨?_, ?_⟩
        · refine LoadX.same (v := .slice (some ⟨b4, 0, none⟩) (T + 1) 1) (S.at_ 1 rfl) rfl ?_
          refine ⟨?_, ?_⟩
          · refine LoadX.same (v := .int .i64 ((j : Nat) : Int)) (S.at_ 0 rfl) (congrArg (fun z => some (Value.int .i64 z)) hj) ?_
            refine S.newL fun b12 g L' S => ?_
            refine ⟨L', ?_⟩
            refine S.app (j + 5) (gt_rowsR hjT) rfl rfl (by have := bN_le L j k; show (bN L j k).length ≤ _; omega) fun b13 g S => ?_
            refine IdxX.mk (by omega) (by omega) ?_
            refine S.store (o := 0 + j) (vs := [.slice (some ⟨b13, 0, none⟩) ((bN L j k).length + 1) 1]) 3 rfl (by rw [List.length_map, List.length_range]; show 0 + j + 1 ≤ T + 1; omega) fun g S => ?_
            exact done b13 g S
          · refine S.newL fun b12 g L' S => ?_
            refine ⟨L', ?_⟩
            refine ⟨?_, ?_⟩
            · refine LoadX.same (v := .int .i64 ((j : Nat) : Int)) (S.at_ 1 rfl) (congrArg (fun z => some (Value.int .i64 z)) hj) ?_
              refine S.app (j + 5) (gt_rowsR hjT) rfl rfl (by have := bN_le L j k; show (bN L j k).length ≤ _; omega) fun b13 g S => ?_
              refine IdxX.mk (by omega) (by omega) ?_
              refine S.store (o := 0 + j) (vs := [.slice (some ⟨b13, 0, none⟩) ((bN L j k).length + 1) 1]) 3 rfl (by rw [List.length_map, List.length_range]; show 0 + j + 1 ≤ T + 1; omega) fun g S => ?_
              exact done b13 g S
            · refine S.app (j + 5) (gt_rowsR hjT) rfl rfl (by have := bN_le L j k; show (bN L j k).length ≤ _; omega) fun b13 g S => ?_
              refine LoadX.same (v := .int .i64 ((j : Nat) : Int)) (S.at_ 0 rfl) (congrArg (fun z => some (Value.int .i64 z)) hj) ?_
              refine IdxX.mk (by omega) (by omega) ?_
              refine S.store (o := 0 + j) (vs := [.slice (some ⟨b13, 0, none⟩) ((bN L j k).length + 1) 1]) 3 rfl (by rw [List.length_map, List.length_range]; show 0 + j + 1 ≤ T + 1; omega) fun g S => ?_
              exact done b13 g S
        · refine ⟨?_, ?_⟩
          · refine LoadX.same (v := .int .i64 ((j : Nat) : Int)) (S.at_ 0 rfl) (congrArg (fun z => some (Value.int .i64 z)) hj) ?_
            refine ⟨?_, ?_⟩
            · refine LoadX.same (v := .slice (some ⟨b4, 0, none⟩) (T + 1) 1) (S.at_ 1 rfl) rfl ?_
              refine S.newL fun b12 g L' S => ?_
              refine ⟨L', ?_⟩
              refine S.app (j + 5) (gt_rowsR hjT) rfl rfl (by have := bN_le L j k; show (bN L j k).length ≤ _; omega) fun b13 g S => ?_
              refine IdxX.mk (by omega) (by omega) ?_
              refine S.store (o := 0 + j) (vs := [.slice (some ⟨b13, 0, none⟩) ((bN L j k).length + 1) 1]) 3 rfl (by rw [List.length_map, List.length_range]; show 0 + j + 1 ≤ T + 1; omega) fun g S => ?_
              exact done b13 g S
            · refine S.newL fun b12 g L' S => ?_
              refine ⟨L', ?_⟩
              refine ⟨?_, ?_⟩
              · refine LoadX.same (v := .slice (some ⟨b4, 0, none⟩) (T + 1) 1) (S.at_ 2 rfl) rfl ?_
                refine S.app (j + 5) (gt_rowsR hjT) rfl rfl (by have := bN_le L j k; show (bN L j k).length ≤ _; omega) fun b13 g S => ?_
                refine IdxX.mk (by omega) (by omega) ?_
                refine S.store (o := 0 + j) (vs := [.slice (some ⟨b13, 0, none⟩) ((bN L j k).length + 1) 1]) 3 rfl (by rw [List.length_map, List.length_range]; show 0 + j + 1 ≤ T + 1; omega) fun g S => ?_
                exact done b13 g S
              · refine S.app (j + 5) (gt_rowsR hjT) rfl rfl (by have := bN_le L j k; show (bN L j k).length ≤ _; omega) fun b13 g S => ?_
                refine LoadX.same (v := .slice (some ⟨b4, 0, none⟩) (T + 1) 1) (S.at_ 1 rfl) rfl ?_
                refine IdxX.mk (by omega) (by omega) ?_
                refine S.store (o := 0 + j) (vs := [.slice (some ⟨b13, 0, none⟩) ((bN L j k).length + 1) 1]) 3 rfl (by rw [List.length_map, List.length_range]; show 0 + j + 1 ≤ T + 1; omega) fun g S => ?_
                exact done b13 g S
          · refine S.newL fun b12 g L' S => ?_
            refine ⟨L', ?_⟩
            refine ⟨?_, ?_⟩
            · refine LoadX.same (v := .slice (some ⟨b4, 0, none⟩) (T + 1) 1) (S.at_ 2 rfl) rfl ?_
              refine ⟨?_, ?_⟩
              · refine LoadX.same (v := .int .i64 ((j : Nat) : Int)) (S.at_ 1 rfl) (congrArg (fun z => some (Value.int .i64 z)) hj) ?_
                refine S.app (j + 5) (gt_rowsR hjT) rfl rfl (by have := bN_le L j k; show (bN L j k).length ≤ _; omega) fun b13 g S => ?_
                refine IdxX.mk (by omega) (by omega) ?_
                refine S.store (o := 0 + j) (vs := [.slice (some ⟨b13, 0, none⟩) ((bN L j k).length + 1) 1]) 3 rfl (by rw [List.length_map, List.length_range]; show 0 + j + 1 ≤ T + 1; omega) fun g S => ?_
                exact done b13 g S
              · refine S.app (j + 5) (gt_rowsR hjT) rfl rfl (by have := bN_le L j k; show (bN L j k).length ≤ _; omega) fun b13 g S => ?_
                refine LoadX.same (v := .int .i64 ((j : Nat) : Int)) (S.at_ 0 rfl) (congrArg (fun z => some (Value.int .i64 z)) hj) ?_
                refine IdxX.mk (by omega) (by omega) ?_
                refine S.store (o := 0 + j) (vs := [.slice (some ⟨b13, 0, none⟩) ((bN L j k).length + 1) 1]) 3 rfl (by rw [List.length_map, List.length_range]; show 0 + j + 1 ≤ T + 1; omega) fun g S => ?_
                exact done b13 g S
            · refine ⟨?_, ?_⟩
              · refine LoadX.same (v := .int .i64 ((j : Nat) : Int)) (S.at_ 1 rfl) (congrArg (fun z => some (Value.int .i64 z)) hj) ?_
                refine ⟨?_, ?_⟩
                · refine LoadX.same (v := .slice (some ⟨b4, 0, none⟩) (T + 1) 1) (S.at_ 2 rfl) rfl ?_
                  refine S.app (j + 5) (gt_rowsR hjT) rfl rfl (by have := bN_le L j k; show (bN L j k).length ≤ _; omega) fun b13 g S => ?_
                  refine IdxX.mk (by omega) (by omega) ?_
                  refine S.store (o := 0 + j) (vs := [.slice (some ⟨b13, 0, none⟩) ((bN L j k).length + 1) 1]) 3 rfl (by rw [List.length_map, List.length_range]; show 0 + j + 1 ≤ T + 1; omega) fun g S => ?_
                  exact done b13 g S
                · refine S.app (j + 5) (gt_rowsR hjT) rfl rfl (by have := bN_le L j k; show (bN L j k).length ≤ _; omega) fun b13 g S => ?_
                  refine LoadX.same (v := .slice (some ⟨b4, 0, none⟩) (T + 1) 1) (S.at_ 1 rfl) rfl ?_
                  refine IdxX.mk (by omega) (by omega) ?_
                  refine S.store (o := 0 + j) (vs := [.slice (some ⟨b13, 0, none⟩) ((bN L j k).length + 1) 1]) 3 rfl (by rw [List.length_map, List.length_range]; show 0 + j + 1 ≤ T + 1; omega) fun g S => ?_
                  exact done b13 g S
              · refine S.app (j + 5) (gt_rowsR hjT) rfl rfl (by have := bN_le L j k; show (bN L j k).length ≤ _; omega) fun b13 g S => ?_
                refine ⟨?_, ?_⟩
                · refine LoadX.same (v := .slice (some ⟨b4, 0, none⟩) (T + 1) 1) (S.at_ 1 rfl) rfl ?_
                  refine LoadX.same (v := .int .i64 ((j : Nat) : Int)) (S.at_ 0 rfl) (congrArg (fun z => some (Value.int .i64 z)) hj) ?_
                  refine IdxX.mk (by omega) (by omega) ?_
                  refine S.store (o := 0 + j) (vs := [.slice (some ⟨b13, 0, none⟩) ((bN L j k).length + 1) 1]) 3 rfl (by rw [List.length_map, List.length_range]; show 0 + j + 1 ≤ T + 1; omega) fun g S => ?_
                  exact done b13 g S
                · refine LoadX.same (v := .int .i64 ((j : Nat) : Int)) (S.at_ 0 rfl) (congrArg (fun z => some (Value.int .i64 z)) hj) ?_
                  refine LoadX.same (v := .slice (some ⟨b4, 0, none⟩) (T + 1) 1) (S.at_ 1 rfl) rfl ?_
                  refine IdxX.mk (by omega) (by omega) ?_
                  refine S.store (o := 0 + j) (vs := [.slice (some ⟨b13, 0, none⟩) ((bN L j k).length + 1) 1]) 3 rfl (by rw [List.length_map, List.length_range]; show 0 + j + 1 ≤ T + 1; omega) fun g S => ?_
                  exact done b13 g S
      rintro vs g ⟨A, c, rfl, S⟩
      refine WR.i64 ?_
      exact ⟨L.length - (k + 1), by omega, k + 1, A, c, rfl, hlt, by rw [allN_succ, hf, hfit]; rfl, S, rfl⟩
  have hk2 : k = L.length := by simp at h2; omega
  subst hk2
  have hfit : fitsB L T = true := hf
  refine DrawX.tree Tt.tab follows_any [0, 3] [] (.op 1 (.op 2 (.alt (.op 0 (.op 4 (.op 3 (.op 5 (.nil))))) (.op 3 (.op 0 (.op 4 (.op 5 (.nil)))))))) [0, 2, 6, 8, 9, 12, 13] (fun vs g => ∃ b20 b21 : Nat, vs = [.int .i64 p, .slice (some ⟨b1, o1, none⟩) L.length 0, .pointer (some ⟨b2, 0, none⟩), .pointer (some ⟨b8, 0, none⟩), .slice (some ⟨b5, 0, none⟩) (T + 1) 1, .slice (some ⟨b20, 0, none⟩) 0 1, .slice (some ⟨b21, 0, none⟩) (T + 1) 1] ∧ Sep h.length h g ([.bx b21 2 1 ((zt (T + 1)).map (.int .i64)), .bx b20 127 3 [], .bx b8 43 4 [.int .i64 0, .slice none 0 0, .slice none 0 0, .slice (some ⟨b4, 0, none⟩) (T + 1) 1], .bx b5 2 1 ((zt (T + 1)).map (.int .i64)), .bx b4 22 1 ((List.range (T + 1)).map (slB A (fun j : Nat => bN L j L.length) c)), .bx b2 43 4 [.int .i64 0, .slice none 0 0, .slice none 0 0, .slice none 0 0]] ++ rowsR (T + 1) (lvR h.length (fun j : Nat => bN L j L.length) A c))) (by kernel_rfl) (by kernel_rfl) ?_ ?_
  · refine WR.as (r := ((T + 1 : Nat) : Int)) (by omega) ?_
    refine ⟨?_, ?_⟩
    · refine S.newL fun b20 g L' S => ?_
      refine ⟨L', ?_⟩
      refine ⟨by omega, rfl, by omega, by show ((T + 1 : Nat) : Int) * (8 : Nat) ≤ _; omega, ?_⟩
      refine S.newL fun b21 g L' S => ?_
      refine ⟨L', ?_⟩
      have S := S.recast 0 rfl (zeros_zt _)
      try rw [show (((T + 1 : Nat) : Int)).toNat = T + 1 from Int.toNat_natCast _] at S ⊢
      exact ⟨b20, b21, rfl, ((((((S.front 5 rfl).front 5 rfl).front 5 rfl).front 5 rfl).front 5 rfl).front 5 rfl)⟩
    · refine ⟨by omega, rfl, by omega, by show ((T + 1 : Nat) : Int) * (8 : Nat) ≤ _; omega, ?_⟩
      refine S.newL fun b21 g L' S => ?_
      refine ⟨L', ?_⟩
      have S := S.recast 0 rfl (zeros_zt _)
      try rw [show (((T + 1 : Nat) : Int)).toNat = T + 1 from Int.toNat_natCast _] at S ⊢
      refine S.newL fun b20 g L' S => ?_
      refine ⟨L', ?_⟩
      exact ⟨b20, b21, rfl, ((((((S.front 5 rfl).front 5 rfl).front 5 rfl).front 5 rfl).front 4 rfl).front 5 rfl)⟩
  rintro vs g ⟨b20, b21, rfl, S⟩
  have S := S.bx_rc 1 (k := 0) rfl rfl
  have el : (fun j : Nat => bN L j L.length) = fun j : Nat => levT L j 0 := by funext j; exact (levT_zero L j).symm
  rw [el] at S
  refine ⟨⟨[0, 6, 8, 9, 12, 13, 84, 85, 86], fun n' vs g => ∃ (t b20 : Nat) (A : Nat → Option Addr) (c : Nat → Nat), n' = L.length - t ∧ t ≤ L.length ∧ Sep h.length h g ([.bx b21 2 1 ((tab (T + 1) fun j => (sN L j t : Int)).map (.int .i64)), .rc 127 3 h.length (.slice (some ⟨b20, 0, none⟩) (onesT L t).length 1) (onesT L t).length (cellsB (onesT L t)), .bx b8 43 4 [.int .i64 0, .slice none 0 0, .slice none 0 0, .slice (some ⟨b4, 0, none⟩) (T + 1) 1], .bx b5 2 1 ((zt (T + 1)).map (.int .i64)), .bx b4 22 1 ((List.range (T + 1)).map (slB A (fun j : Nat => levT L j t) c)), .bx b2 43 4 [.int .i64 0, .slice none 0 0, .slice none 0 0, .slice none 0 0]] ++ rowsR (T + 1) (lvR h.length (fun j : Nat => levT L j t) A c)) ∧
    vs = [.int .i64 p, .pointer (some ⟨b2, 0, none⟩), .pointer (some ⟨b8, 0, none⟩), .slice (some ⟨b5, 0, none⟩) (T + 1) 1, .slice (some ⟨b20, 0, none⟩) (onesT L t).length 1, .slice (some ⟨b21, 0, none⟩) (T + 1) 1, .slice (some ⟨b1, o1, none⟩) L.length 0, .int .i64 L.length, .int .i64 t], _, ⟨0, b20, A, c, rfl, Nat.zero_le _, S, rfl⟩, ?_⟩⟩
  clear S
  rintro n' vs g ⟨t, b20, A, c, rfl, ht, S, rfl⟩
  refine BIf.mk (fun h2 => ?_) (fun h2 => ?_)
  · have hlt : t < L.length := by simpa using h2
    have h0 := hb0 t hlt
    obtain ⟨j, hj⟩ : ∃ j : Nat, (bar L t).degree = j := ⟨(bar L t).degree.toNat, by omega⟩
    have hft := fitB_iff.1 (allN_at hfit hlt)
    have hjT : j < T + 1 := by omega
    refine IdxX.mk (by omega) (by omega) ?_
    refine CB.load c1 S.le hlt ?_
    refine S.new fun b15 g S => ?_
    refine S.put 0 rfl fun g S => ?_
    refine LoadX.same (v := .int .i64 ((j : Nat) : Int)) (S.at_ 0 rfl) (congrArg (fun z => some (Value.int .i64 z)) hj) ?_
    refine LoadX.same (v := .int .i64 (bar L t).death) (S.at_ 0 rfl) rfl ?_
    refine BIf.mk (fun hd => ?_) (fun hd => ?_)
    · have hd : 0 ≤ (bar L t).death := by simpa using hd
      have hjT1 : j + 1 < T + 1 := by omega
      have hsn := sN_le L j t
      have hol := onesT_len L t
      have hll := levT_le L (j + 1) t
      refine DrawX.of Tt.tab follows_any [15] [16] [0, 1, 2, 3, 4, 5, 6, 7, 8, 9, 10, 11, 12, 13, 14, 15, 16, 17] rfl (by kernel_rfl) (by kernel_rfl) ?_
      refine WR.as (r := ((j + 1 : Nat) : Int)) (by omega) ?_
      refine LoadX.same (v := .slice (some ⟨b4, 0, none⟩) (T + 1) 1) (S.at_ 3 rfl) rfl ?_
      refine WR.as (r := ((j + 1 : Nat) : Int)) (by omega) ?_
      refine IdxX.mk (by omega) (by omega) ?_
      refine LoadX.same (v := slB A (fun j : Nat => levT L j t) c (j + 1)) (S.at_ 5 rfl) (ldv_map rfl hjT1) ?_
      refine QCall.of (fun g2 hl => sizeG_c g2 _ _ _) rfl ?_
      refine IdxX.mk (by omega) (by omega) ?_
      refine S.loadT 1 rfl hjT rfl ?_
      refine S.newL fun b16 g L' S => ⟨L', strictV.mk ?_⟩
      refine S.app (ie := Tt.ti127) 2 rfl rfl rfl (by omega) fun b20'' g S => strictV.mk ?_
      have e4 : onesT L (t + 1) = onesT L t ++ [⟨((j + 1 : Nat) : Int), ((levT L (j + 1) t).length : Nat), (sN L j t : Nat)⟩] := by
        show (if _ then _ else _) = _
        rw [if_pos hd, hj]
        have e5 : (levT L (j + 1) t).length = sN L ((j : Int) + 1) L.length + (dN L j t).length := by
          show (bN L ((j + 1 : Nat) : Int) L.length ++ dN L j t).length = _
          rw [List.length_append, bN_len, show ((j + 1 : Nat) : Int) = (j : Int) + 1 by omega]
        rw [e5, show ((j + 1 : Nat) : Int) = (j : Int) + 1 by omega]
      have S := S.eq (Rs' := [.bx b15 121 3 [.int .i64 (bar L t).degree, .int .i64 (bar L t).birth, .int .i64 (bar L t).death], .bx b21 2 1 ((tab (T + 1) fun j => (sN L j t : Int)).map (.int .i64)), .rc 127 3 h.length (.slice (some ⟨b20'', 0, none⟩) (onesT L (t + 1)).length 1) (onesT L (t + 1)).length (cellsB (onesT L (t + 1))), .bx b8 43 4 [.int .i64 0, .slice none 0 0, .slice none 0 0, .slice (some ⟨b4, 0, none⟩) (T + 1) 1], .bx b5 2 1 ((zt (T + 1)).map (.int .i64)), .bx b4 22 1 ((List.range (T + 1)).map (slB A (fun j : Nat => levT L j t) c)), .bx b2 43 4 [.int .i64 0, .slice none 0 0, .slice none 0 0, .slice none 0 0]] ++ rowsR (T + 1) (lvR h.length (fun j : Nat => levT L j t) A c)) (by rw [e4, List.length_append, cellsB_append]; rfl)
      have done : ∀ (b13 : Nat) (g : AH), Sep h.length h g (.bx b15 121 3 [.int .i64 (bar L t).degree, .int .i64 (bar L t).birth, .int .i64 (bar L t).death] :: .bx b21 2 1 ((tab (T + 1) fun j => (sN L j t : Int)).map (.int .i64)) :: .rc 127 3 h.length (.slice (some ⟨b20'', 0, none⟩) (onesT L (t + 1)).length 1) (onesT L (t + 1)).length (cellsB (onesT L (t + 1))) :: .bx b8 43 4 [.int .i64 0, .slice none 0 0, .slice none 0 0, .slice (some ⟨b4, 0, none⟩) (T + 1) 1] :: .bx b5 2 1 ((zt (T + 1)).map (.int .i64)) :: .bx b4 22 1 (setCells ((List.range (T + 1)).map (slB A (fun j : Nat => levT L j t) c)) (0 + (j + 1)) [.slice (some ⟨b13, 0, none⟩) ((levT L (j + 1) t).length + 1) 1]) :: .bx b2 43 4 [.int .i64 0, .slice none 0 0, .slice none 0 0, .slice none 0 0] :: st (rowsR (T + 1) (lvR h.length (fun j : Nat => levT L j t) A c)) (j + 1) (.rc 2 1 h.length (.slice (some ⟨b13, 0, none⟩) ((levT L (j + 1) t).length + 1) 1) ((levT L (j + 1) t).length + 1) ((levT L (j + 1) t).map (.int .i64) ++ [.int .i64 (bar L t).death]))) →
          ∃ (b20' : Nat) (A : Nat → Option Addr) (c : Nat → Nat), ([.int .i64 p, .pointer (some ⟨b2, 0, none⟩), .pointer (some ⟨b8, 0, none⟩), .slice (some ⟨b5, 0, none⟩) (T + 1) 1, .slice (some ⟨b20'', 0, none⟩) ((onesT L t).length + 1) 1, .slice (some ⟨b21, 0, none⟩) (T + 1) 1, .int .i64 ((j : Nat) : Int), .slice (some ⟨b1, o1, none⟩) L.length 0, .int .i64 L.length, .int .i64 t] : List Value) = [.int .i64 p, .pointer (some ⟨b2, 0, none⟩), .pointer (some ⟨b8, 0, none⟩), .slice (some ⟨b5, 0, none⟩) (T + 1) 1, .slice (some ⟨b20', 0, none⟩) (onesT L (t + 1)).length 1, .slice (some ⟨b21, 0, none⟩) (T + 1) 1, .int .i64 ((j : Nat) : Int), .slice (some ⟨b1, o1, none⟩) L.length 0, .int .i64 L.length, .int .i64 t] ∧ Sep h.length h g ([.bx b21 2 1 ((tab (T + 1) fun j => (sN L j t : Int)).map (.int .i64)), .rc 127 3 h.length (.slice (some ⟨b20', 0, none⟩) (onesT L (t + 1)).length 1) (onesT L (t + 1)).length (cellsB (onesT L (t + 1))), .bx b8 43 4 [.int .i64 0, .slice none 0 0, .slice none 0 0, .slice (some ⟨b4, 0, none⟩) (T + 1) 1], .bx b5 2 1 ((zt (T + 1)).map (.int .i64)), .bx b4 22 1 ((List.range (T + 1)).map (slB A (fun j : Nat => levT L j (t + 1)) c)), .bx b2 43 4 [.int .i64 0, .slice none 0 0, .slice none 0 0, .slice none 0 0]] ++ rowsR (T + 1) (lvR h.length (fun j : Nat => levT L j (t + 1)) A c)) := fun b13 g S => by
        refine ⟨b20'', fun i => if i = j + 1 then some ⟨b13, 0, none⟩ else A i, fun i => if i = j + 1 then 1 else c i, by rw [e4, List.length_append, List.length_singleton], S.tail.eq ?_⟩
        rw [← levT_in hj hd]
        rw [setCells_map hjT1, st_rowsR]
        have z1 : (fun i => if i = j + 1 then Value.slice (some ⟨b13, 0, none⟩) ((levT L (j + 1) t).length + 1) 1 else slB A (fun j : Nat => levT L j t) c i) = slB (fun i => if i = j + 1 then some ⟨b13, 0, none⟩ else A i) (fun i : Nat => if i = j + 1 then levT L (j + 1) t ++ [(bar L t).death] else levT L i t) (fun i => if i = j + 1 then 1 else c i) := slB_step (xs := fun j : Nat => levT L j t)
        have z2 : (fun i => if i = j + 1 then Res.rc 2 1 h.length (.slice (some ⟨b13, 0, none⟩) ((levT L (j + 1) t).length + 1) 1) ((levT L (j + 1) t).length + 1) ((levT L (j + 1) t).map (.int .i64) ++ [.int .i64 (bar L t).death]) else lvR h.length (fun j : Nat => levT L j t) A c i) = lvR h.length (fun i : Nat => if i = j + 1 then levT L (j + 1) t ++ [(bar L t).death] else levT L i t) (fun i => if i = j + 1 then some ⟨b13, 0, none⟩ else A i) (fun i => if i = j + 1 then 1 else c i) := lvR_step (xs := fun j : Nat => levT L j t)
        rw [z1, z2]
        rfl
      refine DrawX.tree Tt.tab follows_any [12] [13, 15] (.op 0 (.op 2 (.op 3 (.op 4 (.op 5 (.op 6 (.op 7 (.op 8 (.op 9 (.op 10 (.op 11 (.alt (.op 1 (.op 12 (.op 13 (.op 14 (.op 15 (.nil)))))) (.op 12 (.alt (.op 1 (.op 13 (.op 14 (.op 15 (.nil))))) (.op 13 (.op 1 (.op 14 (.op 15 (.nil))))))))))))))))))) [0, 6, 8, 9, 12, 13, 16, 84, 85, 86] (fun vs g => ∃ (b20' : Nat) (A : Nat → Option Addr) (c : Nat → Nat), vs = [.int .i64 p, .pointer (some ⟨b2, 0, none⟩), .pointer (some ⟨b8, 0, none⟩), .slice (some ⟨b5, 0, none⟩) (T + 1) 1, .slice (some ⟨b20', 0, none⟩) (onesT L (t + 1)).length 1, .slice (some ⟨b21, 0, none⟩) (T + 1) 1, .int .i64 ((j : Nat) : Int), .slice (some ⟨b1, o1, none⟩) L.length 0, .int .i64 L.length, .int .i64 t] ∧ Sep h.length h g ([.bx b21 2 1 ((tab (T + 1) fun j => (sN L j t : Int)).map (.int .i64)), .rc 127 3 h.length (.slice (some ⟨b20', 0, none⟩) (onesT L (t + 1)).length 1) (onesT L (t + 1)).length (cellsB (onesT L (t + 1))), .bx b8 43 4 [.int .i64 0, .slice none 0 0, .slice none 0 0, .slice (some ⟨b4, 0, none⟩) (T + 1) 1], .bx b5 2 1 ((zt (T + 1)).map (.int .i64)), .bx b4 22 1 ((List.range (T + 1)).map (slB A (fun j : Nat => levT L j (t + 1)) c)), .bx b2 43 4 [.int .i64 0, .slice none 0 0, .slice none 0 0, .slice none 0 0]] ++ rowsR (T + 1) (lvR h.length (fun j : Nat => levT L j (t + 1)) A c))) (by kernel_rfl) (by kernel_rfl) ?_ ?_
      · refine WR.as (r := ((j + 1 : Nat) : Int)) (by omega) ?_
        refine LoadX.same (v := .slice (some ⟨b4, 0, none⟩) (T + 1) 1) (S.at_ 3 rfl) rfl ?_
        refine WR.as (r := ((j + 1 : Nat) : Int)) (by omega) ?_
        refine IdxX.mk (by omega) (by omega) ?_
        refine LoadX.same (v := slB A (fun j : Nat => levT L j t) c (j + 1)) (S.at_ 5 rfl) (ldv_map rfl hjT1) ?_
        refine LoadX.same (v := .int .i64 (bar L t).death) (S.at_ 0 rfl) rfl ?_
        refine ⟨?_, ?_⟩
        · refine LoadX.same (v := .slice (some ⟨b4, 0, none⟩) (T + 1) 1) (S.at_ 3 rfl) rfl ?_
          refine S.newL fun b12 g L' S => ?_
          refine ⟨L', ?_⟩
          refine S.app (j + 1 + 7) (gt_rowsR hjT1) rfl rfl (by have := levT_le L (j + 1) t; show (levT L (j + 1) t).length ≤ _; omega) fun b13 g S => ?_
          refine IdxX.mk (by omega) (by omega) ?_
          refine S.store (o := 0 + (j + 1)) (vs := [.slice (some ⟨b13, 0, none⟩) ((levT L (j + 1) t).length + 1) 1]) 5 rfl (by rw [List.length_map, List.length_range]; show 0 + (j + 1) + 1 ≤ T + 1; omega) fun g S => ?_
          exact done b13 g S
        · refine S.newL fun b12 g L' S => ?_
          refine ⟨L', ?_⟩
          refine ⟨?_, ?_⟩
          · refine LoadX.same (v := .slice (some ⟨b4, 0, none⟩) (T + 1) 1) (S.at_ 4 rfl) rfl ?_
            refine S.app (j + 1 + 7) (gt_rowsR hjT1) rfl rfl (by have := levT_le L (j + 1) t; show (levT L (j + 1) t).length ≤ _; omega) fun b13 g S => ?_
            refine IdxX.mk (by omega) (by omega) ?_
            refine S.store (o := 0 + (j + 1)) (vs := [.slice (some ⟨b13, 0, none⟩) ((levT L (j + 1) t).length + 1) 1]) 5 rfl (by rw [List.length_map, List.length_range]; show 0 + (j + 1) + 1 ≤ T + 1; omega) fun g S => ?_
            exact done b13 g S
          · refine S.app (j + 1 + 7) (gt_rowsR hjT1) rfl rfl (by have := levT_le L (j + 1) t; show (levT L (j + 1) t).length ≤ _; omega) fun b13 g S => ?_
            refine LoadX.same (v := .slice (some ⟨b4, 0, none⟩) (T + 1) 1) (S.at_ 3 rfl) rfl ?_
            refine IdxX.mk (by omega) (by omega) ?_
            refine S.store (o := 0 + (j + 1)) (vs := [.slice (some ⟨b13, 0, none⟩) ((levT L (j + 1) t).length + 1) 1]) 5 rfl (by rw [List.length_map, List.length_range]; show 0 + (j + 1) + 1 ≤ T + 1; omega) fun g S => ?_
            exact done b13 g S
      rintro vs g ⟨b20, A, c, rfl, S⟩
      refine IdxX.mk (by omega) (by omega) ?_
      refine S.loadT 0 rfl hjT rfl ?_
      refine WR.i64 ?_
      refine IdxX.mk (by omega) (by omega) ?_
      refine S.storeT 0 (m := T + 1) (f := fun j => (sN L j t : Int)) (y := (sN L j t : Int) + 1) rfl hjT fun g S => ?_
      refine WR.i64 ?_
      rw [sN_in hj] at S
      exact ⟨L.length - (t + 1), by omega, t + 1, b20, A, c, rfl, hlt, S, rfl⟩
    · have hd : ¬ 0 ≤ (bar L t).death := by simpa using hd
      have hsn := sN_le L j t
      refine IdxX.mk (by omega) (by omega) ?_
      refine S.loadT 1 rfl hjT rfl ?_
      refine WR.i64 ?_
      refine IdxX.mk (by omega) (by omega) ?_
      refine S.storeT 1 (m := T + 1) (f := fun j => (sN L j t : Int)) (y := (sN L j t : Int) + 1) rfl hjT fun g S => ?_
      refine WR.i64 ?_
      have S := S.tail
      rw [sN_in hj] at S
      have e4 : onesT L (t + 1) = onesT L t := if_neg hd
      have e5 : (fun j : Nat => levT L j (t + 1)) = fun j : Nat => levT L j t := by funext i; exact levT_out hd i
      refine ⟨L.length - (t + 1), by omega, t + 1, b20, A, c, rfl, hlt, ?_, by rw [e4]; rfl⟩
      rw [e4, e5]
      exact S
  have ht2 : t = L.length := by simp at h2; omega
  subst ht2
  have hol := onesT_len L L.length
  have S := S.tail
  refine LoadX.same (v := .slice (some ⟨b4, 0, none⟩) (T + 1) 1) (S.at_ 1 rfl) rfl ?_
  refine ⟨⟨[0, 6, 8, 9, 12, 135, 136, 137], fun n' vs g => ∃ i : Nat, n' = T + 1 - i ∧ i ≤ T + 1 ∧ Sep h.length h g ([.rc 127 3 h.length (.slice (some ⟨b20, 0, none⟩) (onesT L L.length).length 1) (onesT L L.length).length (cellsB (onesT L L.length)), .bx b8 43 4 [.int .i64 0, .slice none 0 0, .slice none 0 0, .slice (some ⟨b4, 0, none⟩) (T + 1) 1], .bx b5 2 1 ((tab (T + 1) fun k => if k < i then ((lev L k).length : Int) else 0).map (.int .i64)), .bx b4 22 1 ((List.range (T + 1)).map (slB A (lev L) c)), .bx b2 43 4 [.int .i64 0, .slice none 0 0, .slice none 0 0, .slice none 0 0]] ++ rowsR (T + 1) (lvR h.length (lev L) A c)) ∧
    vs = [.int .i64 p, .pointer (some ⟨b2, 0, none⟩), .pointer (some ⟨b8, 0, none⟩), .slice (some ⟨b5, 0, none⟩) (T + 1) 1, .slice (some ⟨b20, 0, none⟩) (onesT L L.length).length 1, .slice (some ⟨b4, 0, none⟩) (T + 1) 1, .int .i64 ((T + 1 : Nat) : Int), .int .i64 i], _, ⟨0, rfl, Nat.zero_le _, S.eq (by rw [show (tab (T + 1) fun k => if k < 0 then ((lev L k).length : Int) else 0) = zt (T + 1) from tab_congr fun i _ => if_neg (by omega)]; rfl), rfl⟩, ?_⟩⟩
  clear S
  rintro n' vs g ⟨i, rfl, hi, S, rfl⟩
  refine BIf.mk (fun h2 => ?_) (fun h2 => ?_)
  · have hlt : i < T + 1 := by simp at h2; omega
    refine IdxX.mk (by omega) (by omega) ?_
    refine LoadX.same (v := slB A (lev L) c i) (S.at_ 3 rfl) (ldv_map rfl hlt) ?_
    refine CallX.same (sizeG_c _ _ _ _) ?_
    rintro r g ⟨rfl, rfl⟩
    refine IdxX.mk (by omega) (by omega) ?_
    refine S.storeT 2 (m := T + 1) (f := fun k => if k < i then ((lev L k).length : Int) else 0) (y := ((lev L i).length : Int)) rfl hlt fun g S => ?_
    refine WR.i64 ?_
    rw [tab_step (F := fun _ => 0) (G := fun k => ((lev L k).length : Int)) rfl] at S
    exact ⟨T + 1 - (i + 1), by omega, i + 1, rfl, hlt, S, rfl⟩
  have hi2 : i = T + 1 := by simp at h2; omega
  subst hi2
  rw [tab_all (Nat.le_refl _)] at S
  have hcl : (cbDims L T).length = T + 1 := tab_length _ _
  have S := S.bx_tr (xs := cbDims L T) 2 rfl (by omega) 0
  rw [hcl] at S
  have hri := S.rd OI.reads 2 rfl
  refine CallX.weak (areSmall_c g _ (cbDims L T) hri) (.cons (Wk.weak _ _ _ _) .nil) ?_
  rintro r g ⟨rfl, rfl⟩
  rw [small_any]
  refine BIf.mk (fun h6 => ?_) (fun h6 => ?_)
  · have h6 : smallB L T = false := by simpa using h6
    refine S.put 4 rfl fun g S => ?_
    refine LoadX.same (v := .agg #[.int .i64 0, .slice none 0 0, .slice none 0 0, .slice none 0 0]) (S.at_ 4 rfl) rfl ?_
    exact bad 3 _ _ (by unfold cbR; rw [hok, hfit, Int.toNat_natCast, h6]; rfl) S
  have h6 : smallB L T = true := by simpa using h6
  have hdm : ∀ i, 0 ≤ ith (cbDims L T) i ∧ ith (cbDims L T) i ≤ 1000 := fun i => by
    by_cases hi : i < T + 1
    · unfold cbDims
      rw [tab_ith hi]
      have : (lev L i).length ≤ 8 := by simpa using allN_at h6 hi
      omega
    · rw [ith_out (by omega)]; omega
  have hbl := blankN_c g p b5 0 (cbDims L T) (by rw [hcl]; exact hri) hdm (by omega) (by omega)
  rw [hcl] at hbl
  refine CallX.weak hbl (.cons (Wk.refl _) (.cons (Wk.weak _ _ _ _) .nil)) ?_
  rintro r g' ⟨b6, o6, l6, rfl, ot, L6⟩
  have ez : zeroMaps (cbDims L T) (T + 1 - 1) = mapsO L T 0 := mapsO_zero L T
  have hml : ∀ s, (mapsO L T s).length = T := fun s => tab3_length _ _ _ _
  rw [ez, hml] at ot ⊢
  have S := S.tree OIII.fr ot L6
  clear ot
  refine S.put 2 rfl fun g S => ?_
  have S := S.rc_bx 1 rfl
  refine ⟨⟨[6, 8, 156, 157, 158], fun n' vs g => ∃ s : Nat, n' = (onesT L L.length).length - s ∧ s ≤ (onesT L L.length).length ∧ Sep h.length h g ([.tr OIII.fr h.length (.slice (some ⟨b6, o6, none⟩) T 0) (mapsO L T s), .bx b20 127 3 (cellsB (onesT L L.length)), .bx b8 43 4 [.int .i64 p, .slice (some ⟨b5, 0, none⟩) (T + 1) 0, .slice (some ⟨b6, o6, none⟩) T 0, .slice (some ⟨b4, 0, none⟩) (T + 1) 1], .tr OI.fr h.length (.slice (some ⟨b5, 0, none⟩) (T + 1) 0) (cbDims L T), .bx b4 22 1 ((List.range (T + 1)).map (slB A (lev L) c)), .bx b2 43 4 [.int .i64 0, .slice none 0 0, .slice none 0 0, .slice none 0 0]] ++ rowsR (T + 1) (lvR h.length (lev L) A c)) ∧
    vs = [.pointer (some ⟨b2, 0, none⟩), .pointer (some ⟨b8, 0, none⟩), .slice (some ⟨b20, 0, none⟩) (onesT L L.length).length 1, .int .i64 (onesT L L.length).length, .int .i64 s], _, ⟨0, rfl, Nat.zero_le _, S, rfl⟩, ?_⟩⟩
  clear S
  rintro n' vs g ⟨s, rfl, hs, S, rfl⟩
  refine BIf.mk (fun h2 => ?_) (fun h2 => ?_)
  · have hlt : s < (onesT L L.length).length := by simpa using h2
    obtain ⟨k, r, cc, he, hk, hr, hc⟩ := ones_place hb0 hfit hlt
    have c2 : CN 3 EB g b20 0 (onesT L L.length) := RN.cells (RB.bx (S.at_ 1 rfl) (by omega) 0) rfl
    have hbs : bar (onesT L L.length) s = at3 k r cc := by rw [← he]; unfold bar; simp [hlt]
    refine IdxX.mk (by omega) (by omega) ?_
    refine CB.load c2 (Le.refl _) hlt ?_
    rw [hbs]
    refine S.new fun b22 g S => ?_
    refine S.put 0 rfl fun g S => ?_
    refine LoadX.same (v := .agg #[.int .i64 p, .slice (some ⟨b5, 0, none⟩) (T + 1) 0, .slice (some ⟨b6, o6, none⟩) T 0]) (S.at_ 3 rfl) rfl ?_
    refine LoadX.same (v := .int .i64 ((k + 1 : Nat) : Int)) (S.at_ 0 rfl) rfl ?_
    refine LoadX.same (v := .int .i64 ((r : Nat) : Int)) (S.at_ 0 rfl) rfl ?_
    refine LoadX.same (v := .int .i64 ((cc : Nat) : Int)) (S.at_ 0 rfl) rfl ?_
    refine S.lendT 1 (x' := mapsO L T (s + 1)) rfl (fun F hF => ?_) fun g S => ?_
    · have m1 : mat (mapsO L T s) k = _ := tab3_mat hk
      have := addAt_c g p b6 o6 h.length T b5 0 (T + 1) (mapsO L T s) k r cc 1 F hpr (hml s) hF (by rw [hml]; exact hk) (by rw [m1, tabR_length]; exact hr) (by rw [m1, tabR_row hr, tab_length]; exact hc) (by rw [hml]; omega) (by rw [mapsO_ent hk hr hc, fO_new hb0 hlt he]; omega) (by omega)
      rw [mapsO_succ hb0 (by omega) hlt he hk hr hc] at this
      exact this
    refine WR.i64 ?_
    exact ⟨(onesT L L.length).length - (s + 1), by omega, s + 1, rfl, hlt, S.tail, rfl⟩
  have hs2 : s = (onesT L L.length).length := by simp at h2; omega
  subst hs2
  rw [mapsO_end hb0] at S
  refine LoadX.same (v := .agg #[.int .i64 p, .slice (some ⟨b5, 0, none⟩) (T + 1) 0, .slice (some ⟨b6, o6, none⟩) T 0, .slice (some ⟨b4, 0, none⟩) (T + 1) 1]) (S.at_ 2 rfl) rfl ?_
  refine S.put 5 rfl fun g S => ?_
  refine LoadX.same (v := .agg #[.int .i64 p, .slice (some ⟨b5, 0, none⟩) (T + 1) 0, .slice (some ⟨b6, o6, none⟩) T 0, .slice (some ⟨b4, 0, none⟩) (T + 1) 1]) (S.at_ 5 rfl) rfl ?_
  have S := (((S.front 4 rfl).front 1 rfl).front 4 rfl).front 2 rfl
  have S := SepM.rowsAs (Ls := [_, _, _, _, _, _]) S (f' := fun j => .tr OI.fr h.length (slB A (lev L) c j) (lev L j)) fun j hj F hF hR => by
    have := (allN_at h6 hj)
    have : (lev L j).length ≤ 8 := by simpa using this
    exact Res.rc_tr (by omega) hR
  have S := SepM.gatherE (Ls := [_, _, _, _, _]) S
  have S := S.rw_tr 0 rfl (by omega)
  have S := (S.front 2 rfl).front 2 rfl
  have hres : cbR p T L = (⟨⟨p, cbDims L T, cbMaps L T⟩, levels L T⟩, 0) := by
    unfold cbR
    rw [hok, hfit, Int.toNat_natCast, h6]
    rfl
  rw [hres]
  obtain ⟨l, hl⟩ := SepM.finF (x := ⟨⟨p, cbDims L T, cbMaps L T⟩, levels L T⟩) S
  exact FinX.here S.le.len ⟨_, l, rfl, hl, S.le⟩

end Go.Gl

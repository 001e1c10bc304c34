/- Chapter 3: totals, the program's side. No condition. -/
import Derived.Test.YtionapmdibdfpaaFnTo6
set_option linter.unusedVariables false
set_option linter.unusedSimpArgs false
namespace Go.Gl
open Go.Proofs Go.Proofs.Ytionapmdibdfpaa Go.Pl

def noFil : SFiltered := ⟨⟨0, [], []⟩, []⟩
theorem OFiltered.nil (h : AH) (n : Nat) : OFiltered n h (.agg #[.int .i64 0, .slice none 0 0, .slice none 0 0, .slice none 0 0]) noFil [] :=
  ⟨_, _, _, rfl, [], [], ⟨[], [], ⟨by simp [noFil], .inl ⟨rfl, rfl, Wk.nil _⟩⟩, ⟨by simp [noFil], 0, 0, [], [], Wk.nil _, Row.nil _ _ _, rfl, .inl rfl⟩, rfl, by simp⟩, ⟨by simp [noFil], 0, 0, [], [], Wk.nil _, Row.nil _ _ _, rfl, .inl rfl⟩, rfl, by simp⟩
theorem SepM.finFl {h0 h : AH} {Rs : List Res} {x : SFiltered} {v1 v2 v3 : Value} (S : Sep h0.length h0 h (.tr OI.fr h0.length v1 x.complex.dims :: .tr OIII.fr h0.length v2 x.complex.maps :: .tr OII.fr h0.length v3 x.levels :: Rs)) :
    ∃ l, OFiltered h0.length h (.agg #[.int .i64 x.complex.prime, v1, v2, v3]) x l := by
  obtain ⟨l1, l2, l3, a1, a2, a3, hd⟩ := S.three
  have hd2 := hd
  rw [List.nodup_append, List.nodup_append] at hd
  refine ⟨_, _, _, _, rfl, l1 ++ l2, l3, ⟨l1, l2, a1, a2, rfl, ?_⟩, a3, rfl, by rw [List.append_assoc]; exact hd2⟩
  rw [List.nodup_append]
  exact ⟨hd.1, hd.2.1.1, fun i hi j hj => hd.2.2 i hi j (List.mem_append_left _ hj)⟩
def smallT (x : SDouble) : Bool := !(dimsT x).any fun z => decide (8 < z)
def totR (x : SDouble) (rows : Bool) : SFiltered × Int := if topT x ≤ 5 then if smallT x then (⟨⟨x.prime, dimsT x, mapsT x⟩, levelsT x rows⟩, 0) else (noFil, 3) else (noFil, 3)
theorem zero_tot (x : SDouble) : zeroMaps (dimsT x) (topT x) = tab3 (topT x) (fun a => dimT x (a + 1)) (fun a => dimT x a) fun _ _ _ => 0 := by
  unfold zeroMaps tab3
  refine List.map_congr_left fun a ha => ?_
  have ha := List.mem_range.1 ha
  unfold dimsT
  dsimp only
  rw [tab_ith (show a + 1 < topT x + 1 by omega), tab_ith (show a < topT x + 1 by omega), Int.toNat_natCast, Int.toNat_natCast]
theorem kL_zero (x : SDouble) (n : Nat) : kL x 0 0 n = 0 := by
  unfold kL upT
  rw [if_neg (by omega)]; rfl
theorem slc_zero (x : SDouble) : slc (fun _ => none) (kk 0 0) (fun _ => 0) = slc (fun _ => none) (kL x 0 0) fun _ => 0 := by
  funext n
  unfold slc
  rw [kL_zero]
  unfold kk
  rw [if_neg (by omega)]
theorem rowL_zero (m : Nat) (x : SDouble) (rows : Bool) : rowL m x rows (fun _ => none) 0 0 (fun _ => 0) = fun _ => .rc 2 1 m (.slice none 0 0) 0 [] := by
  funext n
  unfold rowL slc levS upT
  rw [kL_zero, if_neg (by omega)]
  rfl
theorem kL_col (x : SDouble) (i : Nat) : kL x i (dH x) = kL x (i + 1) 0 := by funext n; exact up_col.1
theorem rowL_col (m : Nat) (x : SDouble) (rows : Bool) (A : Nat → Option Addr) (i : Nat) (c : Nat → Nat) : rowL m x rows A i (dH x) c = rowL m x rows A (i + 1) 0 c := by
  funext n
  unfold rowL
  rw [kL_col, up_col.2 rows]

theorem smallE_c (h : AH) (x : Int) : ACalls Try.prog 80 [.int .i64 x] h (fun r h' => r = .bool (decide (8 < x)) ∧ h' = h) := by
  refine ACalls.of Tt.tab Try.func80 rfl (by kernel_rfl) Try.ntmps80 _ rfl rfl (fun hw => ?_)
  exact FinX.keep hw (Le.refl _) rfl ⟨rfl, rfl⟩
theorem smallA_c (h : AH) (v : Value) (xs : List Int) (hx : RI h v xs) : ACalls Try.prog 66 [v] h (fun r h' => r = .bool (!xs.any fun x => decide (8 < x)) ∧ h' = h) := by
  obtain ⟨b, o, k1, hx⟩ := hx.can
  refine ACalls.wk (args' := [.slice (some ⟨b, o, none⟩) xs.length 0]) ?_ (.cons k1 .nil)
  refine ACalls.of Tt.tab Try.func66 rfl (by kernel_rfl) Try.ntmps66 _ rfl rfl (fun hw => ?_)
  refine CallX.same (containsFuncI_c h _ xs _ _ (fun x => decide (8 < x)) hx (fun x _ u hu => by subst hu; exact smallE_c _ x)) ?_
  rintro r h3 ⟨rfl, rfl⟩
  exact FinX.keep hw (Le.refl _) rfl ⟨rfl, rfl⟩

set_option maxHeartbeats 4000000 in
theorem total_c (h : AH) (v : Value) (x : SDouble) (rows : Bool) (hx : RDouble h v x) (hd : DShape x) : ACalls Try.prog 36 [v, .bool rows] h (fun r h' => ∃ v l, r = .tuple #[v, .int .i64 (totR x rows).2] ∧ OFiltered h.length h' v (totR x rows).1 l ∧ Le h h') := by
  obtain ⟨P, kx, qx⟩ := hx.at_
  refine ACalls.wk (args' := [vD x P, .bool rows]) ?_ (.cons kx (.cons (Wk.refl _) .nil))
  refine ACalls.of Tt.tab Try.func36 rfl (by kernel_rfl) Try.ntmps36 _ rfl rfl (fun hw => ?_)
  have S := Sep.start h
  have hW := hd.w
  have hH := hd.h
  have ht6 : topT x ≤ 6 ∧ (topT x : Int) = dW x + dH x - 2 := by unfold topT; omega
  have bad : ∀ (g : AH) (Rs : List Res), totR x rows = (noFil, 3) → Sep h.length h g Rs → FinX h (fun r h' => ∃ v l, r = .tuple #[v, .int .i64 (totR x rows).2] ∧ OFiltered h.length h' v (totR x rows).1 l ∧ Le h h') (.tuple #[.agg #[.int .i64 0, .slice none 0 0, .slice none 0 0, .slice none 0 0], .int .i64 3]) g := fun g Rs e S => by
    rw [e]
    exact FinX.here S.le.len ⟨_, [], rfl, OFiltered.nil _ _, S.le⟩
  refine S.new fun b2 g S => ?_
  refine S.new fun b3 g S => ?_
  refine S.new fun b4 g S => ?_
  refine DrawX.of Tt.tab follows_any [] [] [0, 1, 2, 3, 4, 5, 6] rfl (by kernel_rfl) (by kernel_rfl) ?_
  refine LoadX.same (v := vD x P) (S.at_ 2 rfl) rfl ?_
  refine QCall.of (fun g2 hl => wide_c g2 _ x (qx.reads (S.le.trans hl))) rfl ?_
  refine LoadX.same (v := vD x P) (S.at_ 2 rfl) rfl ?_
  refine QCall.of (fun g2 hl => high_c g2 _ x (qx.reads (S.le.trans hl)) hW.1) rfl ?_
  refine WR.as (r := ((dW x + dH x : Nat) : Int)) (by omega) ?_
  refine WR.as (r := ((topT x : Nat) : Int)) (by omega) ?_
  refine BIf.mk (fun e1 => ?_) (fun e1 => ?_)
  · have e1 : ¬ topT x ≤ 5 := by simp at e1; omega
    refine S.put 0 rfl fun g S => ?_
    refine LoadX.same (v := .agg #[.int .i64 0, .slice none 0 0, .slice none 0 0, .slice none 0 0]) (S.at_ 0 rfl) rfl ?_
    exact bad _ _ (by unfold totR; rw [if_neg e1]) S
  have e1 : topT x ≤ 5 := by simp at e1; omega
  refine DrawX.dag Tt.tab follows_any [0, 3, 6, 7, 8, 9] [10, 11, 12] [[], [], [1], [2], [], [4], [5], [], [], [], [0, 7], [3, 8], [6, 9]] [2, 3, 4, 7, 8, 9] (InvR h.length h (topT x) [.bx b4 41 4 [.int .i64 0, .slice none 0 0, .slice none 0 0, .slice none 0 0], .bx b3 4 1 [.bool rows], .bx b2 33 4 (cD x P)] (.pointer (some ⟨b2, 0, none⟩)) (.pointer (some ⟨b3, 0, none⟩)) (.pointer (some ⟨b4, 0, none⟩)))
    (fun vs g => ∃ b7 b8 b9 bm bd bl : Nat, vs = [.pointer (some ⟨b2, 0, none⟩), .pointer (some ⟨b3, 0, none⟩), .pointer (some ⟨b4, 0, none⟩), .pointer (some ⟨b7, 0, none⟩), .pointer (some ⟨b8, 0, none⟩), .pointer (some ⟨b9, 0, none⟩)] ∧
      Sep h.length h g [.bx b8 27 1 [.slice (some ⟨bd, 0, none⟩) (topT x + 1) 1], .bx bd 2 1 ((tab (topT x + 1) fun _ => 0).map (.int .i64)), .bx b7 77 1 [.map (some bm)], .bx bm (encM []) 0 [], .bx b9 22 1 [.slice (some ⟨bl, 0, none⟩) (topT x + 1) 1], .bx bl 27 1 ((List.range (topT x + 1)).map (slc (fun _ => none) (kk 0 0) fun _ => 0)), .bx b4 41 4 [.int .i64 0, .slice none 0 0, .slice none 0 0, .slice none 0 0], .bx b3 4 1 [.bool rows], .bx b2 33 4 (cD x P)])
    (by kernel_rfl) (by kernel_rfl) (by kernel_rfl) ?_ ?_ ?_ ?_ ?_
  · exact ⟨rfl, rfl, rfl, rfl, (fun e => by cases e), (fun e => by cases e), (fun e => by cases e), (fun e => by cases e), (fun e => by cases e), (fun e => by cases e), (fun e => by cases e), ⟨fun _ => 0, [], (fun k _ e => by cases e), List.nodup_nil, fun k => ⟨(fun hh => by cases hh), (fun hh => by cases hh.2)⟩, S⟩⟩
  · clear S
    intro L t g k hk hl hwt hi
    have hk : k < 13 := hk
    obtain ⟨b, o, hs, hn, ho, S⟩ := hi.ex
    rcases (by omega : k = 0 ∨ k = 1 ∨ k = 2 ∨ k = 3 ∨ k = 4 ∨ k = 5 ∨ k = 6 ∨ k = 7 ∨ k = 8 ∨ k = 9 ∨ k = 10 ∨ k = 11 ∨ k = 12) with rfl | rfl | rfl | rfl | rfl | rfl | rfl | rfl | rfl | rfl | rfl | rfl | rfl
    · refine S.newL fun bN g' Le S => ?_
      refine ⟨Le, ?_⟩
      exact hi.lay (k := 0) (by decide) hl hs hn ho S
    · obtain ⟨t', rfl⟩ : ∃ t', t = withT [(6, .int .i64 (topT x))] t' := ⟨t, (withT_eq _ _ (by simpa using hi.f6)).symm⟩
      exact hi.quiet (.inl ⟨rfl, rfl, rfl⟩)
    · obtain ⟨t', rfl⟩ : ∃ t', t = withT [(21, .int .i64 (topT x))] t' := ⟨t, (withT_eq _ _ (by simpa using hi.q1 (hwt 1 (by decide)))).symm⟩
      refine WR.as (r := ((topT x + 1 : Nat) : Int)) (by omega) ?_
      exact hi.quiet (.inr (.inl ⟨rfl, rfl, rfl⟩))
    · obtain ⟨t', rfl⟩ : ∃ t', t = withT [(22, .int .i64 ((topT x + 1 : Nat) : Int))] t' := ⟨t, (withT_eq _ _ (by simpa using hi.q2 (hwt 2 (by decide)))).symm⟩
      refine ⟨by omega, rfl, by omega, by show ((topT x + 1 : Nat) : Int) * (8 : Nat) ≤ _; omega, ?_⟩
      refine S.newL fun bN g' Le S => ?_
      refine ⟨Le, ?_⟩
      have S := S.recast 0 rfl (zeros_tab _)
      exact hi.lay (k := 3) (by decide) hl hs hn ho S
    · obtain ⟨t', rfl⟩ : ∃ t', t = withT [(6, .int .i64 (topT x))] t' := ⟨t, (withT_eq _ _ (by simpa using hi.f6)).symm⟩
      exact hi.quiet (.inr (.inr (.inl ⟨rfl, rfl, rfl⟩)))
    · obtain ⟨t', rfl⟩ : ∃ t', t = withT [(24, .int .i64 (topT x))] t' := ⟨t, (withT_eq _ _ (by simpa using hi.q4 (hwt 4 (by decide)))).symm⟩
      refine WR.as (r := ((topT x + 1 : Nat) : Int)) (by omega) ?_
      exact hi.quiet (.inr (.inr (.inr ⟨rfl, rfl, rfl⟩)))
    · obtain ⟨t', rfl⟩ : ∃ t', t = withT [(25, .int .i64 ((topT x + 1 : Nat) : Int))] t' := ⟨t, (withT_eq _ _ (by simpa using hi.q5 (hwt 5 (by decide)))).symm⟩
      refine ⟨by omega, rfl, by omega, by show ((topT x + 1 : Nat) : Int) * (24 : Nat) ≤ _; omega, ?_⟩
      refine S.newL fun bN g' Le S => ?_
      refine ⟨Le, ?_⟩
      have S := S.recast 0 rfl (nils_map _)
      exact hi.lay (k := 6) (by decide) hl hs hn ho S
    · refine S.newL fun bN g' Le S => ?_
      refine ⟨Le, ?_⟩
      exact hi.lay (k := 7) (by decide) hl hs hn ho S
    · refine S.newL fun bN g' Le S => ?_
      refine ⟨Le, ?_⟩
      exact hi.lay (k := 8) (by decide) hl hs hn ho S
    · refine S.newL fun bN g' Le S => ?_
      refine ⟨Le, ?_⟩
      exact hi.lay (k := 9) (by decide) hl hs hn ho S
    · have w1 := hwt 0 (by decide)
      have w2 := hwt 7 (by decide)
      have s1 := hs 7 (by decide) w2
      have s2 := hs 0 (by decide) w1
      obtain ⟨t', rfl⟩ : ∃ t', t = withT [(7, .pointer (some ⟨b 7, 0, none⟩)), (20, .map (some (b 0)))] t' := ⟨t, (withT_eq _ _ (by intro p hp; simp at hp; rcases hp with rfl | rfl; exact s1; exact s2)).symm⟩
      have S := InvR.front ((ho 7).2 ⟨by decide, w2⟩) S
      refine S.put 0 rfl fun g S => ?_
      exact hi.stored (k := 10) (i := 0) (j := 7) (.inl ⟨rfl, rfl, rfl⟩) w1 w2 hs hn ho S
    · have w1 := hwt 3 (by decide)
      have w2 := hwt 8 (by decide)
      have s1 := hs 8 (by decide) w2
      have s2 := hs 3 (by decide) w1
      obtain ⟨t', rfl⟩ : ∃ t', t = withT [(8, .pointer (some ⟨b 8, 0, none⟩)), (23, .slice (some ⟨b 3, 0, none⟩) (topT x + 1) 1)] t' := ⟨t, (withT_eq _ _ (by intro p hp; simp at hp; rcases hp with rfl | rfl; exact s1; exact s2)).symm⟩
      have S := InvR.front ((ho 8).2 ⟨by decide, w2⟩) S
      refine S.put 0 rfl fun g S => ?_
      exact hi.stored (k := 11) (i := 3) (j := 8) (.inr (.inl ⟨rfl, rfl, rfl⟩)) w1 w2 hs hn ho S
    · have w1 := hwt 6 (by decide)
      have w2 := hwt 9 (by decide)
      have s1 := hs 9 (by decide) w2
      have s2 := hs 6 (by decide) w1
      obtain ⟨t', rfl⟩ : ∃ t', t = withT [(9, .pointer (some ⟨b 9, 0, none⟩)), (26, .slice (some ⟨b 6, 0, none⟩) (topT x + 1) 1)] t' := ⟨t, (withT_eq _ _ (by intro p hp; simp at hp; rcases hp with rfl | rfl; exact s1; exact s2)).symm⟩
      have S := InvR.front ((ho 9).2 ⟨by decide, w2⟩) S
      refine S.put 0 rfl fun g S => ?_
      exact hi.stored (k := 12) (i := 6) (j := 9) (.inr (.inr ⟨rfl, rfl, rfl⟩)) w1 w2 hs hn ho S
  · intro L t g ha hi
    obtain ⟨b, o, hs, hn, ho, S⟩ := hi.ex
    have hK : ∀ k, k ∈ KS → L k = true := fun k hk => ha k (by have := KS_cases hk; show k < 13; omega)
    rw [ha 10 (by show 10 < 13; omega), ha 11 (by show 11 < 13; omega), ha 12 (by show 12 < 13; omega)] at S
    have S := InvR.all hK hn ho S
    have s7 := hs 7 (by decide) (hK 7 (by decide))
    have s8 := hs 8 (by decide) (hK 8 (by decide))
    have s9 := hs 9 (by decide) (hK 9 (by decide))
    refine ⟨b 7, b 8, b 9, b 0, b 3, b 6, ?_, S⟩
    show [t 2, t 3, t 4, t 7, t 8, t 9] = _
    rw [hi.f2, hi.f3, hi.f4, show t 7 = _ from s7, show t 8 = _ from s8, show t 9 = _ from s9]
    rfl
  · exact fun L L' t g e hi => hi.congr fun k hk => e k hk
  clear S
  rintro vs g ⟨b7, b8, b9, bm, bd, bl, rfl, S⟩
  have S := S.front 6 rfl
  have S := (S.nilsC 2 1 (topT x + 1)).eq (Rs' := [.bx b4 41 4 [.int .i64 0, .slice none 0 0, .slice none 0 0, .slice none 0 0]] ++ ([.bx b8 27 1 [.slice (some ⟨bd, 0, none⟩) (topT x + 1) 1], .bx bd 2 1 ((dimsS x 0 0).map (.int .i64)), .bx b7 77 1 [.map (some bm)], .bx bm (encM (atL x 0 0)) 0 [], .bx b9 22 1 [.slice (some ⟨bl, 0, none⟩) (topT x + 1) 1], .bx bl 27 1 ((List.range (topT x + 1)).map (slc (fun _ => none) (kL x 0 0) fun _ => 0)), .bx b3 4 1 [.bool rows], .bx b2 33 4 (cD x P)] ++ rowsR (topT x + 1) (rowL h.length x rows (fun _ => none) 0 0 fun _ => 0))) (by rw [dimsS_zero, slc_zero, rowL_zero]; rfl)
  refine LoadX.same (v := vD x P) (S.at_ 8 rfl) rfl ?_
  refine SepM.does [.bx b4 41 4 [.int .i64 0, .slice none 0 0, .slice none 0 0, .slice none 0 0]] S (eachCell_c h.length h _ x (qx.reads (Le.refl _)) ⟨hW.1, hW.2, hH.2⟩ _ _ (StTo h.length x P rows b2 b3 b7 b8 b9 bm bd bl) (fun i j hi hj => total1_c h.length h x P qx hd.toDHead rows b2 b3 b7 b8 b9 bm bd bl i j hi hj) (fun i Rs hi hs => ?_)) (Le.refl _) ⟨fun _ => none, fun _ => 0, rfl⟩ fun g' Rs' gl hs' S => ?_
  · obtain ⟨A, c, rfl⟩ := hs
    exact ⟨A, c, by rw [dimsS_col, atL_col, kL_col, rowL_col]⟩
  obtain ⟨A, c, rfl⟩ := hs'
  rw [dimsS_end] at S
  clear gl
  refine LoadX.same (v := .slice (some ⟨bd, 0, none⟩) (topT x + 1) 1) (S.at_ 1 rfl) rfl ?_
  have hcl : (dimsT x).length = topT x + 1 := tab_length _ _
  have S := S.bx_tr (xs := dimsT x) 2 rfl (by omega) 0
  rw [hcl] at S
  have hri := S.rd OI.reads 2 rfl
  refine CallX.weak (smallA_c _ _ (dimsT x) hri) (.cons (Wk.weak _ _ _ _) .nil) ?_
  rintro r g ⟨rfl, hg⟩
  have hg := hg.symm
  subst hg
  refine BIf.mk (fun e2 => ?_) (fun e2 => ?_)
  · have e2 : smallT x = false := by unfold smallT; simpa using e2
    refine S.put 0 rfl fun g S => ?_
    refine LoadX.same (v := .agg #[.int .i64 0, .slice none 0 0, .slice none 0 0, .slice none 0 0]) (S.at_ 0 rfl) rfl ?_
    exact bad _ _ (by unfold totR; rw [if_pos e1, e2]; rfl) S
  have e2 : smallT x = true := by unfold smallT; simpa using e2
  have hdm : ∀ i, 0 ≤ ith (dimsT x) i ∧ ith (dimsT x) i ≤ 1000 := fun i => by
    by_cases hi : i < topT x + 1
    · unfold dimsT
      rw [tab_ith hi]
      have := offT_bd hd.toDHead i (i + 1)
      show (0 : Int) ≤ ((offT x i (i + 1) : Nat) : Int) ∧ ((offT x i (i + 1) : Nat) : Int) ≤ 1000
      omega
    · rw [ith_out (by omega)]; omega
  have hbl : ∀ g2, Le g' g2 → ACalls Try.prog 67 [.int .i64 x.prime, .slice (some ⟨bd, 0, none⟩) (topT x + 1) 0] g2 (fun r h' => ∃ b3 o3 l, r = .agg #[.int .i64 x.prime, .slice (some ⟨bd, 0, none⟩) (topT x + 1) 0, .slice (some ⟨b3, o3, none⟩) (topT x) 0] ∧ OIII g2.length h' (.slice (some ⟨b3, o3, none⟩) (topT x) 0) (tab3 (topT x) (fun a => dimT x (a + 1)) (fun a => dimT x a) fun _ _ _ => 0) l ∧ Le g2 h') := fun g2 hl => by
    have := blankN_c g2 x.prime bd 0 (dimsT x) (by rw [hcl]; exact RI.le _ _ _ _ hl hri) hdm (by omega) (by omega)
    rw [hcl, Nat.add_sub_cancel, zero_tot, tab3_length] at this
    exact this
  refine DrawX.tree Tt.tab follows_any [3, 6] [7] (.op 0 (.op 1 (.op 2 (.op 4 (.alt (.op 3 (.op 5 (.op 6 (.op 7 (.nil))))) (.op 6 (.op 3 (.op 5 (.op 7 (.nil)))))))))) [2, 4, 7, 10] (fun vs g => ∃ b10 bM oM : Nat, vs = [.pointer (some ⟨b2, 0, none⟩), .pointer (some ⟨b4, 0, none⟩), .pointer (some ⟨b7, 0, none⟩), .pointer (some ⟨b10, 0, none⟩)] ∧
      Sep h.length h g ([.bx b10 41 4 [.int .i64 x.prime, .slice (some ⟨bd, 0, none⟩) (topT x + 1) 0, .slice (some ⟨bM, oM, none⟩) (topT x) 0, .slice (some ⟨bl, 0, none⟩) (topT x + 1) 1], .tr OIII.fr h.length (.slice (some ⟨bM, oM, none⟩) (topT x) 0) (tab3 (topT x) (fun a => dimT x (a + 1)) (fun a => dimT x a) fun _ _ _ => 0), .bx b4 41 4 [.int .i64 0, .slice none 0 0, .slice none 0 0, .slice none 0 0], .bx b8 27 1 [.slice (some ⟨bd, 0, none⟩) (topT x + 1) 1], .tr OI.fr h.length (.slice (some ⟨bd, 0, none⟩) (topT x + 1) 0) (dimsT x), .bx b7 77 1 [.map (some bm)], .bx bm (encM (atL x (dW x) 0)) 0 [], .bx b9 22 1 [.slice (some ⟨bl, 0, none⟩) (topT x + 1) 1], .bx bl 27 1 ((List.range (topT x + 1)).map (slc A (kL x (dW x) 0) c)), .bx b3 4 1 [.bool rows], .bx b2 33 4 (cD x P)] ++ rowsR (topT x + 1) (rowL h.length x rows A (dW x) 0 c))) (by kernel_rfl) (by kernel_rfl) ?_ ?_
  · refine LoadX.same (v := .int .i64 x.prime) (S.at_ 8 rfl) rfl ?_
    refine LoadX.same (v := .slice (some ⟨bd, 0, none⟩) (topT x + 1) 1) (S.at_ 1 rfl) rfl ?_
    refine LoadX.same (v := .slice (some ⟨bl, 0, none⟩) (topT x + 1) 1) (S.at_ 5 rfl) rfl ?_
    refine ⟨?_, ?_⟩
    · refine CallX.weak (hbl _ (Le.refl _)) (.cons (Wk.refl _) (.cons (Wk.weak _ _ _ _) .nil)) ?_
      rintro r g2 ⟨bM, oM, l6, rfl, ot, L6⟩
      refine ⟨L6, ?_⟩
      have S := S.tree OIII.fr ot L6
      refine S.newL fun b10 g L S => ?_
      refine ⟨L, ?_⟩
      refine S.put 0 rfl fun g S => ?_
      exact ⟨b10, bM, oM, rfl, S⟩
    · refine S.newL fun b10 g L S => ?_
      refine ⟨L, ?_⟩
      refine CallX.weak (hbl _ L) (.cons (Wk.refl _) (.cons (Wk.weak _ _ _ _) .nil)) ?_
      rintro r g2 ⟨bM, oM, l6, rfl, ot, L6⟩
      refine ⟨L6, ?_⟩
      have S := S.tree OIII.fr ot L6
      refine S.put 1 rfl fun g S => ?_
      exact ⟨b10, bM, oM, rfl, S.front 1 rfl⟩
  clear S hri hbl
  rintro vs g ⟨b10, bM, oM, rfl, S⟩
  refine LoadX.same (v := vD x P) (S.at_ 10 rfl) rfl ?_
  have S := ((S.front 10 rfl).front 7 rfl).front 7 rfl
  have S := SepM.appSwap (As := RsT2 h.length x P b2 b7 b10 bm bM oM bd 0 (topT x + 1) (.slice (some ⟨bl, 0, none⟩) (topT x + 1) 1) fun _ _ _ => 0) (Bs := [.bx b4 41 4 [.int .i64 0, .slice none 0 0, .slice none 0 0, .slice none 0 0], .bx b8 27 1 [.slice (some ⟨bd, 0, none⟩) (topT x + 1) 1], .tr OI.fr h.length (.slice (some ⟨bd, 0, none⟩) (topT x + 1) 0) (dimsT x), .bx b9 22 1 [.slice (some ⟨bl, 0, none⟩) (topT x + 1) 1], .bx bl 27 1 ((List.range (topT x + 1)).map (slc A (kL x (dW x) 0) c)), .bx b3 4 1 [.bool rows]] ++ rowsR (topT x + 1) (rowL h.length x rows A (dW x) 0 c)) S
  refine SepM.does _ S (eachCell_c h.length h _ x (qx.reads (Le.refl _)) ⟨hW.1, hW.2, hH.2⟩ _ _ (StT2 h.length x P b2 b7 b10 bm bM oM bd 0 (topT x + 1) (.slice (some ⟨bl, 0, none⟩) (topT x + 1) 1)) (fun i j hi hj => total2_c h.length h x P qx hd b2 b7 b10 bm bM oM bd 0 (topT x + 1) _ i j hi hj) (fun i Rs hi hs => ?_)) (Le.refl _) ⟨_, TellT.start x, rfl⟩ fun g' Rs' gl hs' S => ?_
  · obtain ⟨f, hf, rfl⟩ := hs
    exact ⟨f, hf.col, rfl⟩
  obtain ⟨f, hf, rfl⟩ := hs'
  have S := S.appSwap
  unfold RsT2 at S
  rw [total_maps hd hf.all] at S
  refine LoadX.same (v := .agg #[.int .i64 x.prime, .slice (some ⟨bd, 0, none⟩) (topT x + 1) 0, .slice (some ⟨bM, oM, none⟩) (topT x) 0, .slice (some ⟨bl, 0, none⟩) (topT x + 1) 1]) (S.at_ 3 rfl) rfl ?_
  refine S.put 5 rfl fun g S => ?_
  refine LoadX.same (v := .agg #[.int .i64 x.prime, .slice (some ⟨bd, 0, none⟩) (topT x + 1) 0, .slice (some ⟨bM, oM, none⟩) (topT x) 0, .slice (some ⟨bl, 0, none⟩) (topT x + 1) 1]) (S.at_ 5 rfl) rfl ?_
  have S := S.front 9 rfl
  have S := SepM.rowsAs (Ls := [_, _, _, _, _, _, _, _, _, _, _]) S (f' := fun j => .tr OI.fr h.length (slc A (kL x (dW x) 0) c j) (levS x rows (dW x) 0 j)) fun j hj F hF hR => by
    refine Res.rc_tr ?_ hR
    rw [levS_len]
    have := offT_bd hd.toDHead j (upT (dW x) 0 j)
    omega
  have S := SepM.gatherE (Ls := [_, _, _, _, _, _, _, _, _, _]) S
  have S := S.rw_tr 0 rfl (by omega)
  have S := S.retell 0 (x' := levelsT x rows) rfl (List.map_congr_left fun j _ => levS_end x rows j)
  have S := (S.front 5 rfl).front 8 rfl
  have hres : totR x rows = (⟨⟨x.prime, dimsT x, mapsT x⟩, levelsT x rows⟩, 0) := by
    unfold totR
    rw [if_pos e1, if_pos e2]
  rw [hres]
  obtain ⟨l, hl⟩ := SepM.finFl (x := ⟨⟨x.prime, dimsT x, mapsT x⟩, levelsT x rows⟩) S
  exact FinX.here S.le.len ⟨_, l, rfl, hl, S.le⟩

end Go.Gl

/- Chapter 6: SphereComplex, UnitComplex. No condition. -/
import Derived.Test.YtghmdhlpoedidaaFn6a
set_option linter.unusedVariables false
set_option linter.unusedSimpArgs false
namespace Go.Gl
open Go.Proofs Go.Proofs.Ytghmdhlpoedidaa

def sphereDims (n : Nat) : List Int := List.replicate n 0 ++ [1]
theorem sphereDims_length (n : Nat) : (sphereDims n).length = n + 1 := by simp [sphereDims]
theorem sphereDims_low {n i : Nat} (h : i < n) : nth (sphereDims n) i = 0 := by
  rw [← nth_get (by rw [sphereDims_length]; omega)]
  simp [sphereDims, List.getElem_append_left, h]
theorem sphereDims_high (n : Nat) : nth (sphereDims n) n = 1 := by
  rw [← nth_get (by rw [sphereDims_length]; omega)]
  simp [sphereDims]
def noComplex : SComplex := ⟨0, [], []⟩
def sphere (p n : Int) : SComplex × Int := if prime p = true ∧ (0 ≤ n ∧ n ≤ 5) then (blank p (sphereDims n.toNat), 0) else (noComplex, 2)
theorem sphere_bad {p n : Int} (h : ¬ (prime p = true ∧ (0 ≤ n ∧ n ≤ 5))) : sphere p n = (noComplex, 2) := if_neg h
theorem sphere_good {p n : Int} (h : prime p = true ∧ (0 ≤ n ∧ n ≤ 5)) : sphere p n = (blank p (sphereDims n.toNat), 0) := if_pos h
theorem OComplex.zero (n : Nat) (h : AH) : OComplex n h (.agg #[.int .i64 0, .slice none 0 0, .slice none 0 0]) noComplex [] :=
  ⟨_, _, rfl, [], [], ⟨by simp [noComplex], .inl ⟨rfl, rfl, Wk.nil _⟩⟩, ⟨by simp [noComplex], 0, 0, [], [], Wk.nil _, Row.nil _ _ _, rfl, .inl rfl⟩, rfl, by simp⟩
theorem sphereDims_cells (n : Nat) : setCells (List.replicate (n + 1) (Value.int .i64 0)) n [.int .i64 1] = (sphereDims n).map (Value.int .i64) := by
  simp [setCells, sphereDims]


theorem sphereI_c (h : AH) (p n : Int) : ACalls Try.prog 47 [.int .i64 p, .int .i64 n] h (fun r h' => ∃ v l, r = .tuple #[v, .int .i64 (sphere p n).2] ∧ OComplex h.length h' v (sphere p n).1 l ∧ Le h h') := by
  refine ACalls.of Tt.tab Try.func47 rfl (by kernel_rfl) Try.ntmps47 _ rfl rfl (fun hw => ?_)
  refine NewX.intro fun br h1 g1 (l1 : look h1 br = some ⟨[.int .i64 0, .slice none 0 0, .slice none 0 0], some (73, 3)⟩) n1 => ?_
  refine CallX.same (isPrime_c _ p) ?_
  rintro r h2 ⟨rfl, rfl⟩
  refine BIf.mk (fun hb => ?_) (fun hb => ?_)
  · have hb' : ¬ (prime p = true ∧ (0 ≤ n ∧ n ≤ 5)) := fun hh => by simp [hh.1] at hb
    refine BIf.yes rfl ?_
    refine StoreX.intro l1 rfl (show (0 + 3 : Nat) ≤ 3 by decide) fun h3 e3 (l3 : look h3 br = some ⟨[.int .i64 0, .slice none 0 0, .slice none 0 0], some (73, 3)⟩) ao gl => ?_
    refine LoadX.same (v := .agg #[.int .i64 0, .slice none 0 0, .slice none 0 0]) l3 rfl ?_
    exact FinX.here (gl _ g1 n1).len ⟨.agg #[.int .i64 0, .slice none 0 0, .slice none 0 0], [], by simp [sphere_bad hb'], by rw [sphere_bad hb']; exact OComplex.zero _ _, gl _ g1 n1⟩
  · refine CallX.same (between_c _ n 0 5) ?_
    rintro r h3 ⟨rfl, rfl⟩
    refine BIf.mk (fun hc => ?_) (fun hc => ?_)
    · have hb' : ¬ (prime p = true ∧ (0 ≤ n ∧ n ≤ 5)) := fun hh => by simp [hh.2] at hc
      refine StoreX.intro l1 rfl (show (0 + 3 : Nat) ≤ 3 by decide) fun h3 e3 (l3 : look h3 br = some ⟨[.int .i64 0, .slice none 0 0, .slice none 0 0], some (73, 3)⟩) ao gl => ?_
      refine LoadX.same (v := .agg #[.int .i64 0, .slice none 0 0, .slice none 0 0]) l3 rfl ?_
      exact FinX.here (gl _ g1 n1).len ⟨.agg #[.int .i64 0, .slice none 0 0, .slice none 0 0], [], by simp [sphere_bad hb'], by rw [sphere_bad hb']; exact OComplex.zero _ _, gl _ g1 n1⟩
    · have hb' : prime p = true ∧ (0 ≤ n ∧ n ≤ 5) := ⟨by simpa using hb, by simpa using hc⟩
      obtain ⟨k, rfl⟩ : ∃ k : Nat, n = k := ⟨n.toNat, by omega⟩
      refine WR.as (show (k : Int) + 1 = ((k + 1 : Nat) : Int) by omega) ?_
      refine ⟨by omega, rfl, by omega, by show ((k + 1 : Nat) : Int) * 8 ≤ _; omega, NewX.intro fun b4 h4 g4 (l4 : look h4 b4 = some ⟨(List.replicate (k + 1) [.int .i64 0]).flatten, some (tI, 1)⟩) n4 => ?_⟩
      refine IdxX.mk (by omega) (by show (k : Int) < ((k + 1 : Nat) : Int); omega) ?_
      have l4 : look h4 b4 = some ⟨List.replicate (k + 1) (.int .i64 0), some (tI, 1)⟩ := by rw [l4]; simp [List.flatten_replicate_singleton]
      refine StoreX.intro l4 rfl (show 0 + k + 1 ≤ _ by simp) fun h5 e5 l5 ao gl => ?_
      have l5 : look h5 b4 = some ⟨(sphereDims k).map (.int .i64), some (tI, 1)⟩ := by
        rw [l5, ← sphereDims_cells]
        exact congrArg (fun c => some (Blk.mk c _)) (congrArg (fun i => setCells (List.replicate (k + 1) (Value.int .i64 0)) i [.int .i64 1]) (Nat.zero_add k))
      have g5 := gl _ (g1.trans g4) (by have := g1.len; omega)
      have r5 : OI h.length h5 (.slice (some ⟨b4, 0, none⟩) (sphereDims k).length 1) (sphereDims k) [b4] := Leaf.of l5 (by have := g1.len; omega) (by rw [sphereDims_length]; omega) 1
      rw [sphereDims_length] at r5
      refine CallX.canon (cloneI_c _ _ (sphereDims k) r5.reads (by rw [sphereDims_length]; omega)) ?_
      rintro r h6 ⟨l6, o6, g6⟩
      obtain ⟨b6, p6, k6, o6⟩ := Leaf.can o6
      refine ⟨_, k6, ?_⟩
      refine CallX.canon (blank_c _ p _ (sphereDims k) _ _ o6 g6.len (fun d hd => by
        simp [sphereDims] at hd
        rcases hd with ⟨_, rfl⟩ | rfl <;> omega) (by rw [sphereDims_length]; omega) (by rw [sphereDims_length]; omega)) ?_
      rintro r h7 ⟨l7, ⟨v1, v2, rfl, o7⟩, g7⟩
      obtain ⟨b1, p1, b2, p2, k1, k2, o7⟩ := o7.can
      refine ⟨_, Wk.agg (.cons (Wk.refl _) (.cons k1 (.cons k2 .nil))), ?_⟩
      have q1 := look_lt l1
      have l1 := g7.at_ _ _ (g6.at_ _ _ ((ao _ (by omega)).trans (g4.at_ _ _ l1)))
      have g := g5.trans (g6.trans g7)
      refine StoreX.intro l1 rfl (show (0 + 3 : Nat) ≤ 3 by decide) fun h8 e8 (l8 : look h8 br = some ⟨[.int .i64 p, .slice (some ⟨b1, p1, none⟩) (sphereDims k).length 0, .slice (some ⟨b2, p2, none⟩) (blankMaps (sphereDims k) ((sphereDims k).length - 1)).length 0], some (73, 3)⟩) ao8 gl8 => ?_
      refine LoadX.same (v := .agg #[.int .i64 p, .slice (some ⟨b1, p1, none⟩) (sphereDims k).length 0, .slice (some ⟨b2, p2, none⟩) (blankMaps (sphereDims k) ((sphereDims k).length - 1)).length 0]) l8 rfl ?_
      have o8 := OComplex.fr.aside (show OComplex _ h7 (.agg #[.int .i64 p, .slice (some ⟨b1, p1, none⟩) (sphereDims k).length 0, .slice (some ⟨b2, p2, none⟩) (blankMaps (sphereDims k) ((sphereDims k).length - 1)).length 0]) (blank p (sphereDims k)) l7 from ⟨_, _, rfl, o7⟩) l1 rfl rfl ao8
      exact FinX.here (gl8 _ g n1).len ⟨_, _, by simp only [sphere_good hb']; rfl, by rw [sphere_good hb']; exact OComplex.fr.low _ _ _ _ _ _ o8 g5.len, gl8 _ g n1⟩

theorem sphereS_c (h : AH) (p n : Int) : ACalls Try.prog 46 [.int .i64 p, .int .i64 n] h (fun r h' => ∃ v l, r = .tuple #[v, .int .i64 (sphere p n).2] ∧ OComplex h.length h' v (sphere p n).1 l ∧ Le h h') := by
  refine ACalls.of Tt.tab Try.func46 rfl (by kernel_rfl) Try.ntmps46 _ rfl rfl (fun hw => ?_)
  refine NewX.intro fun br h1 g1 (l1 : look h1 br = some ⟨[.int .i64 0, .slice none 0 0, .slice none 0 0], some (73, 3)⟩) n1 => ?_
  refine CallX.same (l01Prime_c _ p) ?_
  rintro r h2 ⟨rfl, rfl⟩
  refine BIf.mk (fun hb => ?_) (fun hb => ?_)
  · have hb' : ¬ (prime p = true ∧ (0 ≤ n ∧ n ≤ 5)) := fun hh => by simp [hh.1] at hb
    refine BIf.yes rfl ?_
    refine StoreX.intro l1 rfl (show (0 + 3 : Nat) ≤ 3 by decide) fun h3 e3 (l3 : look h3 br = some ⟨[.int .i64 0, .slice none 0 0, .slice none 0 0], some (73, 3)⟩) ao gl => ?_
    refine LoadX.same (v := .agg #[.int .i64 0, .slice none 0 0, .slice none 0 0]) l3 rfl ?_
    exact FinX.here (gl _ g1 n1).len ⟨.agg #[.int .i64 0, .slice none 0 0, .slice none 0 0], [], by simp [sphere_bad hb'], by rw [sphere_bad hb']; exact OComplex.zero _ _, gl _ g1 n1⟩
  · refine CallX.same (l01In_c _ n 0 5) ?_
    rintro r h3 ⟨rfl, rfl⟩
    refine BIf.mk (fun hc => ?_) (fun hc => ?_)
    · have hb' : ¬ (prime p = true ∧ (0 ≤ n ∧ n ≤ 5)) := fun hh => by simp [hh.2] at hc
      refine StoreX.intro l1 rfl (show (0 + 3 : Nat) ≤ 3 by decide) fun h3 e3 (l3 : look h3 br = some ⟨[.int .i64 0, .slice none 0 0, .slice none 0 0], some (73, 3)⟩) ao gl => ?_
      refine LoadX.same (v := .agg #[.int .i64 0, .slice none 0 0, .slice none 0 0]) l3 rfl ?_
      exact FinX.here (gl _ g1 n1).len ⟨.agg #[.int .i64 0, .slice none 0 0, .slice none 0 0], [], by simp [sphere_bad hb'], by rw [sphere_bad hb']; exact OComplex.zero _ _, gl _ g1 n1⟩
    · have hb' : prime p = true ∧ (0 ≤ n ∧ n ≤ 5) := ⟨by simpa using hb, by simpa using hc⟩
      obtain ⟨k, rfl⟩ : ∃ k : Nat, n = k := ⟨n.toNat, by omega⟩
      refine NewX.intro fun bd h4 g4 (l4 : look h4 bd = some ⟨[], some (tI, 1)⟩) n4 => ?_
      refine NewX.intro fun bm h5 g5 (l5 : look h5 bm = some ⟨[], some (50, 1)⟩) n5 => ?_
      refine NewX.intro fun bo h6 g6 (l6 : look h6 bo = some ⟨[.int .i64 0, .slice none 0 0, .slice none 0 0], some (73, 3)⟩) n6 => ?_
      refine StoreX.intro l6 rfl (show (0 + 3 : Nat) ≤ 3 by decide) fun h7 e7 (l7 : look h7 bo = some ⟨[.int .i64 p, .slice (some ⟨bd, 0, none⟩) 0 1, .slice (some ⟨bm, 0, none⟩) 0 1], some (73, 3)⟩) ao gl => ?_
      have q1 := look_lt l1; have q4 := look_lt l4; have q5 := look_lt l5; have q6 := look_lt l6; have w4 := g4.len; have w5 := g5.len; have w6 := g6.len; have w1 := g1.len
      have l1 := (ao _ (by omega)).trans (g6.at_ _ _ (g5.at_ _ _ (g4.at_ _ _ l1)))
      have l4 := (ao _ (by omega)).trans (g6.at_ _ _ (g5.at_ _ _ l4))
      have l5 := (ao _ (by omega)).trans (g6.at_ _ _ l5)
      have hbo : bo ≠ br := by omega
      have nbo : h.length ≤ bo := by omega
      have g := gl _ (g1.trans (g4.trans (g5.trans g6))) nbo
      refine ⟨⟨[0, 1, 4, 6, 7], fun n' vs h' => ∃ (i bd bm : Nat) (us : List Value) (ls : List (List Nat)), n' = k + 1 - i ∧ i ≤ k + 1 ∧ Le h h' ∧ look h' br = some ⟨[.int .i64 0, .slice none 0 0, .slice none 0 0], some (73, 3)⟩ ∧
        look h' bo = some ⟨[.int .i64 p, .slice (some ⟨bd, 0, none⟩) i 1, .slice (some ⟨bm, 0, none⟩) (i - 1) 1], some (73, 3)⟩ ∧ look h' bd = some ⟨((sphereDims k).take i).map (.int .i64), some (tI, 1)⟩ ∧ h.length ≤ bd ∧
        NS h' 50 1 bm (.slice (some ⟨bm, 0, none⟩) (i - 1) 1) (i - 1) us ∧ h.length ≤ bm ∧ Row OII h.length h' us (blankMaps (sphereDims k) (i - 1)) ls ∧ bd ∉ ls.flatten ∧
        vs = [.int .i64 p, .int .i64 k, .pointer (some ⟨br, 0, none⟩), .pointer (some ⟨bo, 0, none⟩), .int .i64 i], _, ⟨0, bd, bm, [], [], rfl, Nat.zero_le _, g, l1, l7, l4, by omega, NS.own1 l5 rfl, by omega, Row.nil _ _ _, by simp, rfl⟩, ?_⟩⟩
      clear l1 l4 l5 l6 l7 g ao gl
      rintro n' vs h7 ⟨i, bd, bm, us, ls, rfl, hi, g, l1, l6, l4, nd, hns, nm, hrow, hdj, rfl⟩
      refine BIf.mk (fun hlt => ?_) (fun hlt => ?_)
      · have hlt : i ≤ k := by simpa using hlt
        refine BIf.mk (fun hin => ?_) (fun hin => ?_)
        case refine_1 =>
          have hin : i = k := by simp at hin; omega
          refine LoadX.same l6 rfl ?_
          refine NewX.intro fun b8 h8 g8 (l8 : look h8 b8 = some ⟨[.int .i64 1], some (tI, 1)⟩) n8 => ?_
          refine AppG.own1 (g8.at_ _ _ l4) (by simp [sphereDims_length]; omega) (Src.one1 l8 rfl) (by omega) fun b9 h9 n9 l9 gr => ?_
          have nd8 := NS.own1 (n := i) (g8.at_ _ _ l4) (by simp [sphereDims_length]; omega)
          have q8 := g8.len
          have c6 := look_lt l6; have c4 := look_lt l4; have c1 := look_lt l1
          have hrow8 := hrow.le OII.fr g8
          have hrow := hrow8.grL OII.fr gr nd8 hdj rfl
          have hns := (hns.le g8).gr gr nd8 rfl
          have l6 := gr.at_ nd8 (g8.at_ _ _ l6) rfl
          have l1 := gr.at_ nd8 (g8.at_ _ _ l1) rfl
          have g9 := gr.le nd8 (g.trans g8) nd
          have l9 : look h9 b9 = some ⟨((sphereDims k).take (i + 1)).map (.int .i64), some (tI, 1)⟩ := by
            rw [l9, List.take_succ_eq_append_getElem (by rw [sphereDims_length]; omega), nth_get, show i = k from hin, sphereDims_high]
            simp
          have hdj9 : b9 ∉ ls.flatten := fun hb => by have := hrow8.lt OII.fr b9 hb; omega
          refine StoreX.intro l6 rfl (show (0 + 1 + 1 : Nat) ≤ 3 by decide) fun h10 e10 (l10 : look h10 bo = some ⟨[.int .i64 p, .slice (some ⟨b9, 0, none⟩) (i + 1) 1, .slice (some ⟨bm, 0, none⟩) (i - 1) 1], some (73, 3)⟩) ao gl => ?_
          have hrow := hrow.aside OII.fr l6 rfl rfl ao
          have hns := hns.aside l6 rfl ao
          have l9 := (ao _ (by omega)).trans l9
          have l1 := (ao _ (fun e => hbo e.symm)).trans l1
          have g10 := gl _ g9 nbo
          refine BIf.mk (fun hpos => ?_) (fun hpos => ?_)
          case refine_2 =>
            have hi0 : i = 0 := by simp at hpos; omega
            subst hi0
            refine WR.i64 ?_
            exact ⟨k + 1 - (0 + 1), by omega, 0 + 1, b9, bm, us, ls, rfl, by omega, g10, l1, l10, l9, by have := g.len; omega, hns, nm, hrow, hdj9, rfl⟩
          have hpos : 0 < i := by simp at hpos; omega
          refine NewX.intro fun b11 h11 g11 (l11 : look h11 b11 = some ⟨[], some (23, 1)⟩) n11 => ?_
          refine BIf.yes (by simp; omega) ?_
          refine LoadX.same (g11.at_ _ _ l10) rfl ?_
          refine WR.as (show (i : Int) - 1 = ((i - 1 : Nat) : Int) by omega) ?_
          refine IdxX.mk (by omega) (by omega) ?_
          have hcell : (((sphereDims k).take (i + 1)).map (Value.int .i64))[0 + (i - 1)]? = some (.int .i64 0) := by
            rw [Nat.zero_add, List.getElem?_map, List.getElem?_take, if_pos (by omega), List.getElem?_eq_getElem (by rw [sphereDims_length]; omega), nth_get, sphereDims_low (by omega)]
            rfl
          refine LoadX.same (g11.at_ _ _ l9) hcell ?_
          refine ⟨by omega, rfl, by omega, by decide, NewX.intro fun b12 h12 g12 (l12 : look h12 b12 = some ⟨[], some (tI, 1)⟩) n12 => ?_⟩
          refine NewX.intro fun b12b h12b g12b (l12b : look h12b b12b = some ⟨[.slice (some ⟨b12, 0, none⟩) 0 1], some (23, 1)⟩) n12b => ?_
          have g1112 := g12.trans g12b
          have nsl := NS.own1 (n := 0) (g1112.at_ _ _ l11) rfl
          refine AppG.own1 (n := 0) (g1112.at_ _ _ l11) rfl (Src.one1 l12b rfl) (by omega) fun bz h13 nz lz0 grz => ?_
          have g1013 := grz.le nsl (g11.trans g1112) n11
          have w11 := g11.len
          have z0 : OI h10.length h12b (.slice (some ⟨b12, 0, none⟩) 0 1) [] [b12] := Leaf.of (xs := []) (g12b.at_ _ _ l12) (by omega) (by simp) 1
          have zz : OII h10.length h13 (.slice (some ⟨bz, 0, none⟩) 1 1) [[]] [b12] := ((Row.one z0 (by simp)).gr OI.fr grz nsl rfl rfl).node (o := 0) lz0 (by have := g1112.len; omega) (fun j u hj => by simpa using hj) (by simp) 1
          have hmap : ([[]] : List (List Int)) = List.replicate (nth (sphereDims k) (i - 1 + 1)).toNat (zrow (nth (sphereDims k) (i - 1))) := by
            rw [show i - 1 + 1 = i by omega, show i = k from hin, sphereDims_high, sphereDims_low (by omega)]
            rfl
          obtain ⟨lz, hlz0⟩ : ∃ lz : List Nat, lz = [b12] := ⟨_, rfl⟩
          have hlz : ∀ j ∈ lz, h10.length ≤ j := by subst hlz0; intro j hj; simp at hj; omega
          rw [← hlz0] at zz
          have hns13 := hns.le g1013
          refine LoadX.same (g1013.at_ _ _ l10) rfl ?_
          refine NewX.intro fun b13 h14 g14 (l13 : look h14 b13 = some ⟨[.slice (some ⟨bz, 0, none⟩) 1 1], some (50, 1)⟩) n13 => ?_
          have hns14 := hns13.le g14
          refine AppG.ns1 hns14 (Src.one1 l13 rfl) (by omega) fun b15 h15 n15 hns15 gr15 => ?_
          have g1014 := g1013.trans g14
          have l10' := gr15.at_ hns14 (g1014.at_ _ _ l10) rfl
          have c10 := look_lt l10'
          have g15 := gr15.le hns14 (g10.trans g1014) nm
          refine StoreX.intro l10' rfl (show (0 + 2 + 1 : Nat) ≤ 3 by decide) fun h16 e16 (l16 : look h16 bo = some ⟨[.int .i64 p, .slice (some ⟨b9, 0, none⟩) (i + 1) 1, .slice (some ⟨b15, 0, none⟩) (i - 1 + 1) 1], some (73, 3)⟩) ao16 gl16 => ?_
          refine WR.i64 ?_
          have hl9 := gr15.at_ hns14 (g1014.at_ _ _ l9) rfl
          have hl1 := gr15.at_ hns14 (g1014.at_ _ _ l1) rfl
          have hrow14 := hrow.push OII.fr g1014 g10.len (OII.fr.le zz g14)
          have hrow16 := (hrow14.gr OII.fr gr15 hns14 rfl rfl).aside OII.fr l10' rfl rfl ao16
          have hns16 := hns15.aside l10' rfl ao16
          obtain ⟨m, rfl⟩ : ∃ m, i = m + 1 := ⟨i - 1, by omega⟩
          simp only [Nat.add_sub_cancel] at hrow16 hns16 l16 hmap
          rw [hmap, ← blankMaps_succ] at hrow16
          have hdj16 : b9 ∉ (ls ++ [lz]).flatten := by
            have c9 := look_lt l9
            simp only [List.flatten_append, List.mem_append, not_or]
            refine ⟨hdj9, ?_⟩
            simp only [List.flatten_cons, List.flatten_nil, List.append_nil]
            exact fun hh => by have := hlz b9 hh; omega
          exact ⟨k + 1 - (m + 1 + 1), by omega, m + 1 + 1, b9, b15, _, _, rfl, by omega, gl16 _ g15 nbo, (ao16 _ (fun e => hbo e.symm)).trans hl1, by simpa using l16, (ao16 _ (by omega)).trans hl9, by have := g.len; omega, by simpa using hns16, by have := g10.len; have := g1014.len; omega, by simpa using hrow16, hdj16, rfl⟩
        case refine_2 =>
          have hin : i < k := by simp at hin; omega
          refine LoadX.same l6 rfl ?_
          refine NewX.intro fun b8 h8 g8 (l8 : look h8 b8 = some ⟨[.int .i64 0], some (tI, 1)⟩) n8 => ?_
          refine AppG.own1 (g8.at_ _ _ l4) (by simp [sphereDims_length]; omega) (Src.one1 l8 rfl) (by omega) fun b9 h9 n9 l9 gr => ?_
          have nd8 := NS.own1 (n := i) (g8.at_ _ _ l4) (by simp [sphereDims_length]; omega)
          have q8 := g8.len
          have c6 := look_lt l6; have c4 := look_lt l4; have c1 := look_lt l1
          have hrow8 := hrow.le OII.fr g8
          have hrow := hrow8.grL OII.fr gr nd8 hdj rfl
          have hns := (hns.le g8).gr gr nd8 rfl
          have l6 := gr.at_ nd8 (g8.at_ _ _ l6) rfl
          have l1 := gr.at_ nd8 (g8.at_ _ _ l1) rfl
          have g9 := gr.le nd8 (g.trans g8) nd
          have l9 : look h9 b9 = some ⟨((sphereDims k).take (i + 1)).map (.int .i64), some (tI, 1)⟩ := by
            rw [l9, List.take_succ_eq_append_getElem (by rw [sphereDims_length]; omega), nth_get, sphereDims_low hin]
            simp
          have hdj9 : b9 ∉ ls.flatten := fun hb => by have := hrow8.lt OII.fr b9 hb; omega
          refine StoreX.intro l6 rfl (show (0 + 1 + 1 : Nat) ≤ 3 by decide) fun h10 e10 (l10 : look h10 bo = some ⟨[.int .i64 p, .slice (some ⟨b9, 0, none⟩) (i + 1) 1, .slice (some ⟨bm, 0, none⟩) (i - 1) 1], some (73, 3)⟩) ao gl => ?_
          have hrow := hrow.aside OII.fr l6 rfl rfl ao
          have hns := hns.aside l6 rfl ao
          have l9 := (ao _ (by omega)).trans l9
          have l1 := (ao _ (fun e => hbo e.symm)).trans l1
          have g10 := gl _ g9 nbo
          refine BIf.mk (fun hpos => ?_) (fun hpos => ?_)
          case refine_2 =>
            have hi0 : i = 0 := by simp at hpos; omega
            subst hi0
            refine WR.i64 ?_
            exact ⟨k + 1 - (0 + 1), by omega, 0 + 1, b9, bm, us, ls, rfl, by omega, g10, l1, l10, l9, by have := g.len; omega, hns, nm, hrow, hdj9, rfl⟩
          have hpos : 0 < i := by simp at hpos; omega
          refine NewX.intro fun b11 h11 g11 (l11 : look h11 b11 = some ⟨[], some (23, 1)⟩) n11 => ?_
          refine BIf.no (by simp; omega) ?_
          have g1013 := g11
          have zz : OII h10.length h11 (.slice (some ⟨b11, 0, none⟩) 0 1) [] [] := (Row.nil OI h10.length h11).node (o := 0) l11 n11 (fun j u hj => by simp at hj) (by simp) 1
          have hmap : ([] : List (List Int)) = List.replicate (nth (sphereDims k) (i - 1 + 1)).toNat (zrow (nth (sphereDims k) (i - 1))) := by
            rw [show i - 1 + 1 = i by omega, sphereDims_low hin]
            rfl
          obtain ⟨lz, hlz0⟩ : ∃ lz : List Nat, lz = [] := ⟨_, rfl⟩
          have hlz : ∀ j ∈ lz, h10.length ≤ j := by subst hlz0; intro j hj; simp at hj
          rw [← hlz0] at zz
          have hns13 := hns.le g1013
          refine LoadX.same (g1013.at_ _ _ l10) rfl ?_
          refine NewX.intro fun b13 h14 g14 (l13 : look h14 b13 = some ⟨[.slice (some ⟨b11, 0, none⟩) 0 1], some (50, 1)⟩) n13 => ?_
          have hns14 := hns13.le g14
          refine AppG.ns1 hns14 (Src.one1 l13 rfl) (by omega) fun b15 h15 n15 hns15 gr15 => ?_
          have g1014 := g1013.trans g14
          have l10' := gr15.at_ hns14 (g1014.at_ _ _ l10) rfl
          have c10 := look_lt l10'
          have g15 := gr15.le hns14 (g10.trans g1014) nm
          refine StoreX.intro l10' rfl (show (0 + 2 + 1 : Nat) ≤ 3 by decide) fun h16 e16 (l16 : look h16 bo = some ⟨[.int .i64 p, .slice (some ⟨b9, 0, none⟩) (i + 1) 1, .slice (some ⟨b15, 0, none⟩) (i - 1 + 1) 1], some (73, 3)⟩) ao16 gl16 => ?_
          refine WR.i64 ?_
          have hl9 := gr15.at_ hns14 (g1014.at_ _ _ l9) rfl
          have hl1 := gr15.at_ hns14 (g1014.at_ _ _ l1) rfl
          have hrow14 := hrow.push OII.fr g1014 g10.len (OII.fr.le zz g14)
          have hrow16 := (hrow14.gr OII.fr gr15 hns14 rfl rfl).aside OII.fr l10' rfl rfl ao16
          have hns16 := hns15.aside l10' rfl ao16
          obtain ⟨m, rfl⟩ : ∃ m, i = m + 1 := ⟨i - 1, by omega⟩
          simp only [Nat.add_sub_cancel] at hrow16 hns16 l16 hmap
          rw [hmap, ← blankMaps_succ] at hrow16
          have hdj16 : b9 ∉ (ls ++ [lz]).flatten := by
            have c9 := look_lt l9
            simp only [List.flatten_append, List.mem_append, not_or]
            refine ⟨hdj9, ?_⟩
            simp only [List.flatten_cons, List.flatten_nil, List.append_nil]
            exact fun hh => by have := hlz b9 hh; omega
          exact ⟨k + 1 - (m + 1 + 1), by omega, m + 1 + 1, b9, b15, _, _, rfl, by omega, gl16 _ g15 nbo, (ao16 _ (fun e => hbo e.symm)).trans hl1, by simpa using l16, (ao16 _ (by omega)).trans hl9, by have := g.len; omega, by simpa using hns16, by have := g10.len; have := g1014.len; omega, by simpa using hrow16, hdj16, rfl⟩
      · have hik : i = k + 1 := by simp at hlt; omega
        subst hik
        refine LoadX.same (v := .agg #[.int .i64 p, .slice (some ⟨bd, 0, none⟩) (k + 1) 1, .slice (some ⟨bm, 0, none⟩) (k + 1 - 1) 1]) l6 rfl ?_
        refine StoreX.intro l1 rfl (show (0 + 3 : Nat) ≤ 3 by decide) fun h8 e8 (l8 : look h8 br = some ⟨[.int .i64 p, .slice (some ⟨bd, 0, none⟩) (k + 1) 1, .slice (some ⟨bm, 0, none⟩) (k + 1 - 1) 1], some (73, 3)⟩) ao gl => ?_
        refine LoadX.same (v := .agg #[.int .i64 p, .slice (some ⟨bd, 0, none⟩) (k + 1) 1, .slice (some ⟨bm, 0, none⟩) (k + 1 - 1) 1]) l8 rfl ?_
        have g8 := gl _ g (by omega)
        have hne : bd ≠ br := fun e => by subst e; rw [l1] at l4; simp at l4
        have l4 := (ao _ hne).trans l4
        rw [List.take_of_length_le (by rw [sphereDims_length]; omega)] at l4
        have z1 : OI h.length h8 (.slice (some ⟨bd, 0, none⟩) (k + 1) 1) (sphereDims k) [bd] := by
          have := Leaf.of (n := h.length) l4 nd (by rw [sphereDims_length]; omega) 1
          rw [sphereDims_length] at this
          exact this
        have z2 := (hrow.aside OII.fr l1 rfl rfl ao).ns (hns.aside l1 rfl ao) (blankMaps_length _ _).symm nm (by rw [blankMaps_length]; omega)
        have hnd : ([bd] ++ ls.flatten).Nodup := nodup_app (by simp) (OIII.fr.nd _ _ _ _ _ z2) (fun j hj => by simp at hj; subst hj; exact hdj)
        have hbl : blank p (sphereDims k) = ⟨p, sphereDims k, blankMaps (sphereDims k) (k + 1 - 1)⟩ := by unfold blank; rw [sphereDims_length]
        exact FinX.here g8.len ⟨_, _, by simp only [sphere_good hb']; rfl, by rw [sphere_good hb']; show OComplex _ _ _ (blank p (sphereDims k)) _; rw [hbl]; exact ⟨_, _, rfl, _, _, z1, z2, rfl, hnd⟩, g8⟩

theorem sphere_cn (p n : Int) : cnComplex (sphere p n).1 ≤ 100 := by
  by_cases hb : prime p = true ∧ (0 ≤ n ∧ n ≤ 5)
  · rw [sphere_good hb]
    obtain ⟨kn, rfl⟩ : ∃ kn : Nat, n = kn := ⟨n.toNat, by omega⟩
    have : kn ≤ 5 := by omega
    show cnI (sphereDims kn) + cnIII (blankMaps (sphereDims kn) ((sphereDims kn).length - 1)) ≤ 100
    clear hb
    revert this
    revert kn
    decide
  · rw [sphere_bad hb]
    decide


theorem unitI_c (h : AH) (p : Int) : ACalls Try.prog 42 [.int .i64 p] h (fun r h' => ∃ v l, r = .tuple #[v, .int .i64 (sphere p 0).2] ∧ OComplex h.length h' v (sphere p 0).1 l ∧ Le h h') := by
  refine ACalls.of Tt.tab Try.func42 rfl (by kernel_rfl) Try.ntmps42 _ rfl rfl (fun hw => ?_)
  refine NewX.intro fun br h1 g1 (l1 : look h1 br = some ⟨[.int .i64 0, .slice none 0 0, .slice none 0 0], some (73, 3)⟩) n1 => ?_
  refine CallX.canon (sphereI_c _ p 0) ?_
  rintro r h2 ⟨v, l, rfl, ⟨v1, v2, rfl, o2⟩, g2⟩
  obtain ⟨b1, p1, b2, p2, k1, k2, o2⟩ := o2.can
  refine ⟨_, Wk.tuple (.cons (Wk.agg (.cons (Wk.refl _) (.cons k1 (.cons k2 .nil)))) (.cons (Wk.refl _) .nil)), ?_⟩
  have l1 := g2.at_ _ _ l1
  refine StoreX.intro l1 rfl (show (0 + 3 : Nat) ≤ 3 by decide) fun h3 e3 (l3 : look h3 br = some ⟨[.int .i64 (sphere p 0).1.prime, .slice (some ⟨b1, p1, none⟩) (sphere p 0).1.dims.length 0, .slice (some ⟨b2, p2, none⟩) (sphere p 0).1.maps.length 0], some (73, 3)⟩) ao gl => ?_
  refine LoadX.same (v := .agg #[.int .i64 (sphere p 0).1.prime, .slice (some ⟨b1, p1, none⟩) (sphere p 0).1.dims.length 0, .slice (some ⟨b2, p2, none⟩) (sphere p 0).1.maps.length 0]) l3 rfl ?_
  have o3 := OComplex.fr.aside (show OComplex _ h2 (.agg #[.int .i64 (sphere p 0).1.prime, .slice (some ⟨b1, p1, none⟩) (sphere p 0).1.dims.length 0, .slice (some ⟨b2, p2, none⟩) (sphere p 0).1.maps.length 0]) (sphere p 0).1 l from ⟨_, _, rfl, o2⟩) l1 rfl rfl ao
  exact FinX.here (gl _ (g1.trans g2) n1).len ⟨_, _, rfl, OComplex.fr.low _ _ _ _ _ _ o3 g1.len, gl _ (g1.trans g2) n1⟩

theorem l06Unit_c (h : AH) (p : Int) : ACalls Try.prog 97 [.int .i64 p] h (fun r h' => ∃ b1 b2 l, r = .agg #[.int .i64 p, .slice (some ⟨b1, 0, none⟩) 1 1, .slice (some ⟨b2, 0, none⟩) 0 1] ∧ OComplex h.length h' r (blank p (sphereDims 0)) l ∧ Le h h') := by
  refine ACalls.of Tt.tab Try.func97 rfl (by kernel_rfl) Try.ntmps97 _ rfl rfl (fun hw => ?_)
  refine NewX.intro fun br h1 g1 (l1 : look h1 br = some ⟨[.int .i64 0, .slice none 0 0, .slice none 0 0], some (73, 3)⟩) n1 => ?_
  refine NewX.intro fun b1 h2 g2 (l2 : look h2 b1 = some ⟨[.int .i64 1], some (tI, 1)⟩) n2 => ?_
  refine NewX.intro fun b2 h3 g3 (l3 : look h3 b2 = some ⟨[], some (50, 1)⟩) n3 => ?_
  have w1 := g1.len; have w2 := g2.len; have w3 := g3.len
  have l1 := g3.at_ _ _ (g2.at_ _ _ l1)
  refine StoreX.intro l1 rfl (show (0 + 3 : Nat) ≤ 3 by decide) fun h4 e4 (l4 : look h4 br = some ⟨[.int .i64 p, .slice (some ⟨b1, 0, none⟩) 1 1, .slice (some ⟨b2, 0, none⟩) 0 1], some (73, 3)⟩) ao gl => ?_
  refine LoadX.same (v := .agg #[.int .i64 p, .slice (some ⟨b1, 0, none⟩) 1 1, .slice (some ⟨b2, 0, none⟩) 0 1]) l4 rfl ?_
  have z1 : OI h.length h3 (.slice (some ⟨b1, 0, none⟩) 1 1) [1] [b1] := Leaf.of (xs := [1]) (g3.at_ _ _ l2) (by omega) (by simp) 1
  have z2 : OIII h.length h3 (.slice (some ⟨b2, 0, none⟩) 0 1) [] [] := (Row.nil OII h.length h3).node (o := 0) l3 (by omega) (fun j u hj => by simp at hj) (by simp) 1
  have o3 := OComplex.fr.aside (show OComplex h.length h3 (.agg #[.int .i64 p, .slice (some ⟨b1, 0, none⟩) 1 1, .slice (some ⟨b2, 0, none⟩) 0 1]) (blank p (sphereDims 0)) [b1] from ⟨_, _, rfl, [b1], [], z1, z2, by simp, by simp⟩) l1 rfl rfl ao
  exact FinX.here (gl _ (g1.trans (g2.trans g3)) n1).len ⟨b1, b2, _, rfl, o3, gl _ (g1.trans (g2.trans g3)) n1⟩

theorem unitS_c (h : AH) (p : Int) : ACalls Try.prog 41 [.int .i64 p] h (fun r h' => ∃ v l, r = .tuple #[v, .int .i64 (sphere p 0).2] ∧ OComplex h.length h' v (sphere p 0).1 l ∧ Le h h') := by
  refine ACalls.of Tt.tab Try.func41 rfl (by kernel_rfl) Try.ntmps41 _ rfl rfl (fun hw => ?_)
  refine NewX.intro fun br h1 g1 (l1 : look h1 br = some ⟨[.int .i64 0, .slice none 0 0, .slice none 0 0], some (73, 3)⟩) n1 => ?_
  refine CallX.same (l01Prime_c _ p) ?_
  rintro r h2 ⟨rfl, rfl⟩
  refine BIf.mk (fun hb => ?_) (fun hb => ?_)
  · have hb' : ¬ (prime p = true ∧ (0 ≤ (0 : Int) ∧ (0 : Int) ≤ 5)) := fun hh => by simp [hh.1] at hb
    refine StoreX.intro l1 rfl (show (0 + 3 : Nat) ≤ 3 by decide) fun h3 e3 (l3 : look h3 br = some ⟨[.int .i64 0, .slice none 0 0, .slice none 0 0], some (73, 3)⟩) ao gl => ?_
    refine LoadX.same (v := .agg #[.int .i64 0, .slice none 0 0, .slice none 0 0]) l3 rfl ?_
    exact FinX.here (gl _ g1 n1).len ⟨.agg #[.int .i64 0, .slice none 0 0, .slice none 0 0], [], by simp [sphere_bad hb'], by rw [sphere_bad hb']; exact OComplex.zero _ _, gl _ g1 n1⟩
  · have hb' : prime p = true ∧ (0 ≤ (0 : Int) ∧ (0 : Int) ≤ 5) := ⟨by simpa using hb, by omega, by omega⟩
    refine CallX.same (l06Unit_c _ p) ?_
    rintro r h3 ⟨b1, b2, l, rfl, o3, g3⟩
    have l1 := g3.at_ _ _ l1
    refine StoreX.intro l1 rfl (show (0 + 3 : Nat) ≤ 3 by decide) fun h4 e4 (l4 : look h4 br = some ⟨[.int .i64 p, .slice (some ⟨b1, 0, none⟩) 1 1, .slice (some ⟨b2, 0, none⟩) 0 1], some (73, 3)⟩) ao gl => ?_
    refine LoadX.same (v := .agg #[.int .i64 p, .slice (some ⟨b1, 0, none⟩) 1 1, .slice (some ⟨b2, 0, none⟩) 0 1]) l4 rfl ?_
    have o4 := OComplex.fr.aside o3 l1 rfl rfl ao
    exact FinX.here (gl _ (g1.trans g3) n1).len ⟨_, _, by simp only [sphere_good hb']; rfl, by rw [sphere_good hb']; exact OComplex.fr.low _ _ _ _ _ _ o4 g1.len, gl _ (g1.trans g3) n1⟩

end Go.Gl

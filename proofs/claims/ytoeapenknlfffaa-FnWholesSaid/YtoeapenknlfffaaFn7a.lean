/- Chapter 7: LensComplex. No condition. -/
import Derived.Test.YtoeapenknlfffaaFn1
set_option linter.unusedVariables false
set_option linter.unusedSimpArgs false
namespace Go.Gl
open Go.Proofs Go.Proofs.Ytoeapenknlfffaa

def lensMaps (n : Int) (k : Nat) : List (List (List Int)) := (List.range k).map fun (i : Nat) => [[n * ((i : Int) % 2)]]
def lens (n k : Int) : SWhole × Int := if (0 ≤ n ∧ n ≤ 9) ∧ (0 ≤ k ∧ k ≤ 5) then (⟨List.replicate (k.toNat + 1) 1, lensMaps n k.toNat⟩, 0) else (⟨[], []⟩, 2)

theorem lens_bad {n k : Int} (h : ¬ ((0 ≤ n ∧ n ≤ 9) ∧ (0 ≤ k ∧ k ≤ 5))) : lens n k = (⟨[], []⟩, 2) := if_neg h
theorem lens_good {n k : Int} (h : (0 ≤ n ∧ n ≤ 9) ∧ (0 ≤ k ∧ k ≤ 5)) : lens n k = (⟨List.replicate (k.toNat + 1) 1, lensMaps n k.toNat⟩, 0) := if_pos h
theorem lensMaps_succ (n : Int) (k : Nat) : lensMaps n (k + 1) = lensMaps n k ++ [[[n * ((k : Int) % 2)]]] := by simp [lensMaps, List.range_succ]
theorem lensMaps_length (n : Int) (k : Nat) : (lensMaps n k).length = k := by simp [lensMaps]
theorem lens_cn (n k : Int) : cnWhole (lens n k).1 ≤ 100 := by
  by_cases hb : (0 ≤ n ∧ n ≤ 9) ∧ (0 ≤ k ∧ k ≤ 5)
  · rw [lens_good hb]
    obtain ⟨kn, rfl⟩ : ∃ kn : Nat, k = kn := ⟨k.toNat, by omega⟩
    have : kn ≤ 5 := by omega
    have h1 : ∀ j : Nat, cnIII (lensMaps n j) = j := by
      intro j
      induction j with
      | zero => rfl
      | succ j ih => rw [lensMaps_succ]; unfold cnIII cnL at ih ⊢; rw [List.map_append, List.sum_append, ih]; rfl
    show cnI (List.replicate (kn + 1) 1) + cnIII (lensMaps n kn) ≤ 100
    rw [h1]
    simp [cnI]
    omega
  · rw [lens_bad hb]
    decide

/-- the empty structure -/
theorem OWhole.zero (n : Nat) (h : AH) : OWhole n h (.agg #[.slice none 0 0, .slice none 0 0]) ⟨[], []⟩ [] :=
  ⟨_, _, rfl, [], [], ⟨by simp, .inl ⟨rfl, rfl, Wk.nil _⟩⟩, ⟨by simp, 0, 0, [], [], Wk.nil _, Row.nil _ _ _, rfl, .inl rfl⟩, rfl, by simp⟩


theorem lensI_c (h : AH) (n k : Int) : ACalls Try.prog 26 [.int .i64 n, .int .i64 k] h (fun r h' => ∃ v l, r = .tuple #[v, .int .i64 (lens n k).2] ∧ OWhole h.length h' v (lens n k).1 l ∧ Le h h') := by
  refine ACalls.of Tt.tab Try.func26 rfl (by kernel_rfl) Try.ntmps26 _ rfl rfl (fun hw => ?_)
  refine NewX.intro fun br h1 g1 (l1 : look h1 br = some ⟨[.slice none 0 0, .slice none 0 0], some (34, 2)⟩) n1 => ?_
  refine CallX.same (between_c h1 n 0 9) ?_
  rintro r h2 ⟨rfl, rfl⟩
  refine BIf.mk (fun hb => ?_) (fun hb => ?_)
  · have hb' : ¬ ((0 ≤ n ∧ n ≤ 9) ∧ (0 ≤ k ∧ k ≤ 5)) := fun hh => by simp [hh.1] at hb
    refine BIf.yes rfl ?_
    refine StoreX.intro l1 rfl (show (0 + 2 : Nat) ≤ 2 by decide) fun h3 e3 (l3 : look h3 br = some ⟨[.slice none 0 0, .slice none 0 0], some (34, 2)⟩) ao gl => ?_
    refine LoadX.same (v := .agg #[.slice none 0 0, .slice none 0 0]) l3 rfl ?_
    exact FinX.here (gl _ g1 n1).len ⟨.agg #[.slice none 0 0, .slice none 0 0], [], by simp [lens_bad hb'], by rw [lens_bad hb']; exact OWhole.zero _ _, gl _ g1 n1⟩
  · refine CallX.same (between_c _ k 0 5) ?_
    rintro r h3 ⟨rfl, rfl⟩
    refine BIf.mk (fun hc => ?_) (fun hc => ?_)
    · have hb' : ¬ ((0 ≤ n ∧ n ≤ 9) ∧ (0 ≤ k ∧ k ≤ 5)) := fun hh => by simp [hh.2] at hc
      refine StoreX.intro l1 rfl (show (0 + 2 : Nat) ≤ 2 by decide) fun h3 e3 (l3 : look h3 br = some ⟨[.slice none 0 0, .slice none 0 0], some (34, 2)⟩) ao gl => ?_
      refine LoadX.same (v := .agg #[.slice none 0 0, .slice none 0 0]) l3 rfl ?_
      exact FinX.here (gl _ g1 n1).len ⟨.agg #[.slice none 0 0, .slice none 0 0], [], by simp [lens_bad hb'], by rw [lens_bad hb']; exact OWhole.zero _ _, gl _ g1 n1⟩
    · have hb' : (0 ≤ n ∧ n ≤ 9) ∧ (0 ≤ k ∧ k ≤ 5) := ⟨by simpa using hb, by simpa using hc⟩
      refine NewX.intro fun bd h4 g4 (l4 : look h4 bd = some ⟨[.int .i64 1], some (tI, 1)⟩) n4 => ?_
      refine NewX.intro fun bo h5 g5 (l5 : look h5 bo = some ⟨[.slice none 0 0, .slice none 0 0], some (34, 2)⟩) n5 => ?_
      refine StoreX.intro l5 rfl (show (0 + 2 : Nat) ≤ 2 by decide) fun h6 e6 (l6 : look h6 bo = some ⟨[.slice (some ⟨bd, 0, none⟩) 1 1, .slice none 0 0], some (34, 2)⟩) ao gl => ?_
      have q1 := look_lt l1; have q4 := look_lt l4; have q5 := look_lt l5
      have l1 := (ao _ (by omega)).trans (g5.at_ _ _ (g4.at_ _ _ l1))
      have l4 := (ao _ (by omega)).trans (g5.at_ _ _ l4)
      have g := gl _ (g1.trans (g4.trans g5)) (by have := g1.len; have := g4.len; omega)
      obtain ⟨kn, rfl⟩ : ∃ kn : Nat, k = kn := ⟨k.toNat, by omega⟩
      refine ⟨⟨[0, 4, 6, 19, 20], fun n' vs h' => ∃ (i bd bm : Nat) (mv : Value) (us : List Value) (ls : List (List Nat)), n' = kn - i ∧ i ≤ kn ∧ Le h h' ∧ look h' br = some ⟨[.slice none 0 0, .slice none 0 0], some (34, 2)⟩ ∧
        look h' bo = some ⟨[.slice (some ⟨bd, 0, none⟩) (i + 1) 1, mv], some (34, 2)⟩ ∧ look h' bd = some ⟨(List.replicate (i + 1) (1 : Int)).map (.int .i64), some (tI, 1)⟩ ∧ h.length ≤ bd ∧ NS h' 24 1 bm mv i us ∧ h.length ≤ bm ∧ Row OII h.length h' us (lensMaps n i) ls ∧ bd ∉ ls.flatten ∧
        vs = [.int .i64 n, .pointer (some ⟨br, 0, none⟩), .pointer (some ⟨bo, 0, none⟩), .int .i64 kn, .int .i64 i], _, ⟨0, bd, h.length, _, [], [], rfl, Nat.zero_le _, g, l1, l6, l4, by have := g1.len; omega, NS.nil _ _ _ _, Nat.le_refl _, Row.nil _ _ _, by simp, rfl⟩, ?_⟩⟩
      rintro n' vs h7 ⟨i, bd, bm, mv, us, ls, rfl, hi, g, l1, l6, l4, nd, hns, nm, hrow, hdj, rfl⟩
      refine BIf.mk (fun hlt => ?_) (fun hlt => ?_)
      · have hlt : i < kn := by simpa using hlt
        refine LoadX.same l6 rfl ?_
        refine NewX.intro fun b8 h8 g8 (l8 : look h8 b8 = some ⟨[.int .i64 1], some (tI, 1)⟩) n8 => ?_
        refine AppG.own1 (g8.at_ _ _ l4) (by simp) (Src.one1 l8 rfl) (by omega) fun b9 h9 n9 l9 gr => ?_
        have nd8 := NS.own1 (n := i + 1) (g8.at_ _ _ l4) (by simp)
        have q8 := g8.len
        have c6 := look_lt l6; have c4 := look_lt l4; have c1 := look_lt l1
        have hrow8 := hrow.le OII.fr g8
        have hrow := hrow8.grL OII.fr gr nd8 hdj rfl
        have hns := (hns.le g8).gr gr nd8 rfl
        have l6 := gr.at_ nd8 (g8.at_ _ _ l6) rfl
        have l1 := gr.at_ nd8 (g8.at_ _ _ l1) rfl
        have g9 := gr.le nd8 (g.trans g8) nd
        have hdj9 : b9 ∉ ls.flatten := fun hb => by have := hrow8.lt OII.fr b9 hb; omega
        refine StoreX.intro l6 rfl (show (0 + 0 + 1 : Nat) ≤ 2 by decide) fun h10 e10 (l10 : look h10 bo = some ⟨[.slice (some ⟨b9, 0, none⟩) (i + 1 + 1) 1, mv], some (34, 2)⟩) ao gl => ?_
        have hrow := hrow.aside OII.fr l6 rfl rfl ao
        have hns := hns.aside l6 rfl ao
        have l9 := (ao _ (by omega)).trans l9
        have l1 := (ao _ (fun e => by subst e; rw [l6] at l1; simp at l1)).trans l1
        have g10 := gl _ g9 (by omega)
        refine LoadX.same l10 rfl (Opq.mk ?_)
        refine TM.pos ?_
        have hm2 : -9 ≤ n * ((i : Int) % 2) ∧ n * ((i : Int) % 2) ≤ 9 := by
          rcases (by omega : (i : Int) % 2 = 0 ∨ (i : Int) % 2 = 1) with e | e <;> rw [e] <;> omega
        refine WR.i64 ?_
        refine NewX.intro fun b11 h11 g11 (l11 : look h11 b11 = some ⟨[.int .i64 (n * ((i : Int) % 2))], some (tI, 1)⟩) n11 => ?_
        refine NewX.intro fun b12 h12 g12 (l12 : look h12 b12 = some ⟨[.slice (some ⟨b11, 0, none⟩) 1 1], some (26, 1)⟩) n12 => ?_
        refine NewX.intro fun b13 h13 g13 (l13 : look h13 b13 = some ⟨[.slice (some ⟨b12, 0, none⟩) 1 1], some (24, 1)⟩) n13 => ?_
        have g1013 := g11.trans (g12.trans g13)
        have z1 : OI h10.length h13 (.slice (some ⟨b11, 0, none⟩) 1 1) [n * ((i : Int) % 2)] [b11] := Leaf.of (xs := [n * ((i : Int) % 2)]) (g13.at_ _ _ (g12.at_ _ _ l11)) n11 (by simp) 1
        have z2 : OII h10.length h13 (.slice (some ⟨b12, 0, none⟩) 1 1) [[n * ((i : Int) % 2)]] [b11] := (Row.one z1 (by simp)).node (g13.at_ _ _ l12) (by have := g11.len; omega) (fun k u hk => by simpa using hk) (by simp) 1
        have hrow13 := hrow.push OII.fr g1013 g10.len z2
        have hns13 := hns.le g1013
        refine AppG.ns1 hns13 (Src.one1 l13 rfl) (by omega) fun b14 h14 n14 hns14 gr14 => ?_
        have l10' := gr14.at_ hns13 (g1013.at_ _ _ l10) rfl
        have c10 := look_lt l10'
        have g14 := gr14.le hns13 (g10.trans g1013) nm
        refine StoreX.intro l10' rfl (show (0 + 1 + 1 : Nat) ≤ 2 by decide) fun h15 e15 (l15 : look h15 bo = some ⟨[.slice (some ⟨b9, 0, none⟩) (i + 1 + 1) 1, .slice (some ⟨b14, 0, none⟩) (i + 1) 1], some (34, 2)⟩) ao15 gl15 => ?_
        refine WR.i64 ?_
        have hl9 := gr14.at_ hns13 (g1013.at_ _ _ l9) rfl
        have hl1 := gr14.at_ hns13 (g1013.at_ _ _ l1) rfl
        refine ⟨kn - (i + 1), by omega, i + 1, b9, b14, _, _, _, rfl, hlt, gl15 _ g14 (by omega), (ao15 _ (fun e => by subst e; rw [l10'] at hl1; simp at hl1)).trans hl1, l15, ?_, by have := g.len; omega, hns14.aside l10' rfl ao15, by have := g10.len; have := g1013.len; omega,
          by rw [lensMaps_succ]; exact ((hrow13.gr OII.fr gr14 hns13 rfl rfl).aside OII.fr l10' rfl rfl ao15), ?_, rfl⟩
        · rw [ao15 _ (by omega), hl9]
          simp [List.replicate_succ' (n := i + 1)]
        · have c9 := look_lt l9
          simp only [List.flatten_append, List.mem_append, not_or]
          exact ⟨hdj9, by simp; omega⟩
      · have hi2 : i = kn := by simp at hlt; omega
        subst hi2
        have hns' := hns
        rcases hns with ⟨rfl, -, -⟩ | ⟨rfl, -, -⟩
        all_goals
          refine LoadX.same (v := .agg #[.slice (some ⟨bd, 0, none⟩) (i + 1) 1, _]) l6 rfl ?_
          refine StoreX.intro l1 rfl (show (0 + 2 : Nat) ≤ 2 by decide) fun h8 e8 (l8 : look h8 br = some ⟨[.slice (some ⟨bd, 0, none⟩) (i + 1) 1, _], some (34, 2)⟩) ao gl => ?_
          refine LoadX.same (v := .agg #[.slice (some ⟨bd, 0, none⟩) (i + 1) 1, _]) l8 rfl ?_
          have g8 := gl _ g (by have := g.len; omega)
          have z1 : OI h.length h8 (.slice (some ⟨bd, 0, none⟩) (i + 1) 1) (List.replicate (i + 1) 1) [bd] := by
            have hne : bd ≠ br := fun e => by subst e; rw [l1] at l4; simp at l4
            have := Leaf.of (n := h.length) ((ao _ hne).trans l4) nd (by simp; omega) 1
            simpa using this
          have z2 := (hrow.aside OII.fr l1 rfl rfl ao).ns (hns'.aside l1 rfl ao) (lensMaps_length n i).symm nm (by rw [lensMaps_length]; omega)
          have hnd : ([bd] ++ ls.flatten).Nodup := nodup_app (by simp) (OIII.fr.nd _ _ _ _ _ z2) (fun j hj => by simp at hj; subst hj; exact hdj)
          exact FinX.here g8.len ⟨_, _, by simp only [lens_good hb']; rfl, by rw [lens_good hb']; exact ⟨_, _, rfl, _, _, z1, z2, rfl, hnd⟩, g8⟩

theorem lensS_c (h : AH) (n k : Int) : ACalls Try.prog 27 [.int .i64 n, .int .i64 k] h (fun r h' => ∃ v l, r = .tuple #[v, .int .i64 (lens n k).2] ∧ OWhole h.length h' v (lens n k).1 l ∧ Le h h') := by
  refine ACalls.of Tt.tab Try.func27 rfl (by kernel_rfl) Try.ntmps27 _ rfl rfl (fun hw => ?_)
  refine NewX.intro fun br h1 g1 (l1 : look h1 br = some ⟨[.slice none 0 0, .slice none 0 0], some (34, 2)⟩) n1 => ?_
  refine CallX.same (l01In_c h1 n 0 9) ?_
  rintro r h2 ⟨rfl, rfl⟩
  refine BIf.mk (fun hb => ?_) (fun hb => ?_)
  · have hb' : ¬ ((0 ≤ n ∧ n ≤ 9) ∧ (0 ≤ k ∧ k ≤ 5)) := fun hh => by simp [hh.1] at hb
    refine BIf.yes rfl ?_
    refine StoreX.intro l1 rfl (show (0 + 2 : Nat) ≤ 2 by decide) fun h3 e3 (l3 : look h3 br = some ⟨[.slice none 0 0, .slice none 0 0], some (34, 2)⟩) ao gl => ?_
    refine LoadX.same (v := .agg #[.slice none 0 0, .slice none 0 0]) l3 rfl ?_
    exact FinX.here (gl _ g1 n1).len ⟨.agg #[.slice none 0 0, .slice none 0 0], [], by simp [lens_bad hb'], by rw [lens_bad hb']; exact OWhole.zero _ _, gl _ g1 n1⟩
  · refine CallX.same (l01In_c _ k 0 5) ?_
    rintro r h3 ⟨rfl, rfl⟩
    refine BIf.mk (fun hc => ?_) (fun hc => ?_)
    · have hb' : ¬ ((0 ≤ n ∧ n ≤ 9) ∧ (0 ≤ k ∧ k ≤ 5)) := fun hh => by simp [hh.2] at hc
      refine StoreX.intro l1 rfl (show (0 + 2 : Nat) ≤ 2 by decide) fun h3 e3 (l3 : look h3 br = some ⟨[.slice none 0 0, .slice none 0 0], some (34, 2)⟩) ao gl => ?_
      refine LoadX.same (v := .agg #[.slice none 0 0, .slice none 0 0]) l3 rfl ?_
      exact FinX.here (gl _ g1 n1).len ⟨.agg #[.slice none 0 0, .slice none 0 0], [], by simp [lens_bad hb'], by rw [lens_bad hb']; exact OWhole.zero _ _, gl _ g1 n1⟩
    · have hb' : (0 ≤ n ∧ n ≤ 9) ∧ (0 ≤ k ∧ k ≤ 5) := ⟨by simpa using hb, by simpa using hc⟩
      refine NewX.intro fun bd h4 g4 (l4 : look h4 bd = some ⟨[.int .i64 1], some (tI, 1)⟩) n4 => ?_
      refine NewX.intro fun bm h4b g4b (l4b : look h4b bm = some ⟨[], some (24, 1)⟩) n4b => ?_
      refine NewX.intro fun bo h5 g5 (l5 : look h5 bo = some ⟨[.slice none 0 0, .slice none 0 0], some (34, 2)⟩) n5 => ?_
      refine StoreX.intro l5 rfl (show (0 + 2 : Nat) ≤ 2 by decide) fun h6 e6 (l6 : look h6 bo = some ⟨[.slice (some ⟨bd, 0, none⟩) 1 1, .slice (some ⟨bm, 0, none⟩) 0 1], some (34, 2)⟩) ao gl => ?_
      have q1 := look_lt l1; have q4 := look_lt l4; have q4b := look_lt l4b; have q5 := look_lt l5; have w4 := g4.len; have w4b := g4b.len
      have l1 := (ao _ (by omega)).trans (g5.at_ _ _ (g4b.at_ _ _ (g4.at_ _ _ l1)))
      have l4b := (ao _ (by omega)).trans (g5.at_ _ _ l4b)
      have l4 := (ao _ (by omega)).trans (g5.at_ _ _ (g4b.at_ _ _ l4))
      have g := gl _ (g1.trans (g4.trans (g4b.trans g5))) (by have := g1.len; have := g4.len; omega)
      obtain ⟨kn, rfl⟩ : ∃ kn : Nat, k = kn := ⟨k.toNat, by omega⟩
      refine ⟨⟨[0, 1, 4, 6, 7], fun n' vs h' => ∃ (i bd bm : Nat) (mv : Value) (us : List Value) (ls : List (List Nat)), n' = kn - i ∧ i ≤ kn ∧ Le h h' ∧ look h' br = some ⟨[.slice none 0 0, .slice none 0 0], some (34, 2)⟩ ∧
        look h' bo = some ⟨[.slice (some ⟨bd, 0, none⟩) (i + 1) 1, mv], some (34, 2)⟩ ∧ look h' bd = some ⟨(List.replicate (i + 1) (1 : Int)).map (.int .i64), some (tI, 1)⟩ ∧ h.length ≤ bd ∧ NS h' 24 1 bm mv i us ∧ h.length ≤ bm ∧ Row OII h.length h' us (lensMaps n i) ls ∧ bd ∉ ls.flatten ∧
        vs = [.int .i64 n, .int .i64 kn, .pointer (some ⟨br, 0, none⟩), .pointer (some ⟨bo, 0, none⟩), .int .i64 i], _, ⟨0, bd, bm, _, [], [], rfl, Nat.zero_le _, g, l1, l6, l4, by have := g1.len; omega, NS.own1 l4b rfl, by have := g1.len; omega, Row.nil _ _ _, by simp, rfl⟩, ?_⟩⟩
      rintro n' vs h7 ⟨i, bd, bm, mv, us, ls, rfl, hi, g, l1, l6, l4, nd, hns, nm, hrow, hdj, rfl⟩
      refine BIf.mk (fun hlt => ?_) (fun hlt => ?_)
      · have hlt : i < kn := by simpa using hlt
        refine LoadX.same l6 rfl ?_
        refine NewX.intro fun b8 h8 g8 (l8 : look h8 b8 = some ⟨[.int .i64 1], some (tI, 1)⟩) n8 => ?_
        refine AppG.own1 (g8.at_ _ _ l4) (by simp) (Src.one1 l8 rfl) (by omega) fun b9 h9 n9 l9 gr => ?_
        have nd8 := NS.own1 (n := i + 1) (g8.at_ _ _ l4) (by simp)
        have q8 := g8.len
        have c6 := look_lt l6; have c4 := look_lt l4; have c1 := look_lt l1
        have hrow8 := hrow.le OII.fr g8
        have hrow := hrow8.grL OII.fr gr nd8 hdj rfl
        have hns := (hns.le g8).gr gr nd8 rfl
        have l6 := gr.at_ nd8 (g8.at_ _ _ l6) rfl
        have l1 := gr.at_ nd8 (g8.at_ _ _ l1) rfl
        have g9 := gr.le nd8 (g.trans g8) nd
        have hdj9 : b9 ∉ ls.flatten := fun hb => by have := hrow8.lt OII.fr b9 hb; omega
        refine StoreX.intro l6 rfl (show (0 + 0 + 1 : Nat) ≤ 2 by decide) fun h10 e10 (l10 : look h10 bo = some ⟨[.slice (some ⟨b9, 0, none⟩) (i + 1 + 1) 1, mv], some (34, 2)⟩) ao gl => ?_
        have hrow := hrow.aside OII.fr l6 rfl rfl ao
        have hns := hns.aside l6 rfl ao
        have l9 := (ao _ (by omega)).trans l9
        have l1 := (ao _ (fun e => by subst e; rw [l6] at l1; simp at l1)).trans l1
        have g10 := gl _ g9 (by omega)
        refine LoadX.same l10 rfl (Opq.mk ?_)
        refine TM.pos ?_
        have hm2 : -9 ≤ n * ((i : Int) % 2) ∧ n * ((i : Int) % 2) ≤ 9 := by
          rcases (by omega : (i : Int) % 2 = 0 ∨ (i : Int) % 2 = 1) with e | e <;> rw [e] <;> omega
        refine WR.i64 ?_
        refine NewX.intro fun b11 h11 g11 (l11 : look h11 b11 = some ⟨[.int .i64 (n * ((i : Int) % 2))], some (tI, 1)⟩) n11 => ?_
        refine NewX.intro fun b12 h12 g12 (l12 : look h12 b12 = some ⟨[.slice (some ⟨b11, 0, none⟩) 1 1], some (26, 1)⟩) n12 => ?_
        refine NewX.intro fun b13 h13 g13 (l13 : look h13 b13 = some ⟨[.slice (some ⟨b12, 0, none⟩) 1 1], some (24, 1)⟩) n13 => ?_
        have g1013 := g11.trans (g12.trans g13)
        have z1 : OI h10.length h13 (.slice (some ⟨b11, 0, none⟩) 1 1) [n * ((i : Int) % 2)] [b11] := Leaf.of (xs := [n * ((i : Int) % 2)]) (g13.at_ _ _ (g12.at_ _ _ l11)) n11 (by simp) 1
        have z2 : OII h10.length h13 (.slice (some ⟨b12, 0, none⟩) 1 1) [[n * ((i : Int) % 2)]] [b11] := (Row.one z1 (by simp)).node (g13.at_ _ _ l12) (by have := g11.len; omega) (fun k u hk => by simpa using hk) (by simp) 1
        have hrow13 := hrow.push OII.fr g1013 g10.len z2
        have hns13 := hns.le g1013
        refine AppG.ns1 hns13 (Src.one1 l13 rfl) (by omega) fun b14 h14 n14 hns14 gr14 => ?_
        have l10' := gr14.at_ hns13 (g1013.at_ _ _ l10) rfl
        have c10 := look_lt l10'
        have g14 := gr14.le hns13 (g10.trans g1013) nm
        refine StoreX.intro l10' rfl (show (0 + 1 + 1 : Nat) ≤ 2 by decide) fun h15 e15 (l15 : look h15 bo = some ⟨[.slice (some ⟨b9, 0, none⟩) (i + 1 + 1) 1, .slice (some ⟨b14, 0, none⟩) (i + 1) 1], some (34, 2)⟩) ao15 gl15 => ?_
        refine WR.i64 ?_
        have hl9 := gr14.at_ hns13 (g1013.at_ _ _ l9) rfl
        have hl1 := gr14.at_ hns13 (g1013.at_ _ _ l1) rfl
        refine ⟨kn - (i + 1), by omega, i + 1, b9, b14, _, _, _, rfl, hlt, gl15 _ g14 (by omega), (ao15 _ (fun e => by subst e; rw [l10'] at hl1; simp at hl1)).trans hl1, l15, ?_, by have := g.len; omega, hns14.aside l10' rfl ao15, by have := g10.len; have := g1013.len; omega,
          by rw [lensMaps_succ]; exact ((hrow13.gr OII.fr gr14 hns13 rfl rfl).aside OII.fr l10' rfl rfl ao15), ?_, rfl⟩
        · rw [ao15 _ (by omega), hl9]
          simp [List.replicate_succ' (n := i + 1)]
        · have c9 := look_lt l9
          simp only [List.flatten_append, List.mem_append, not_or]
          exact ⟨hdj9, by simp; omega⟩
      · have hi2 : i = kn := by simp at hlt; omega
        subst hi2
        have hns' := hns
        rcases hns with ⟨rfl, -, -⟩ | ⟨rfl, -, -⟩
        all_goals
          refine LoadX.same (v := .agg #[.slice (some ⟨bd, 0, none⟩) (i + 1) 1, _]) l6 rfl ?_
          refine StoreX.intro l1 rfl (show (0 + 2 : Nat) ≤ 2 by decide) fun h8 e8 (l8 : look h8 br = some ⟨[.slice (some ⟨bd, 0, none⟩) (i + 1) 1, _], some (34, 2)⟩) ao gl => ?_
          refine LoadX.same (v := .agg #[.slice (some ⟨bd, 0, none⟩) (i + 1) 1, _]) l8 rfl ?_
          have g8 := gl _ g (by have := g.len; omega)
          have z1 : OI h.length h8 (.slice (some ⟨bd, 0, none⟩) (i + 1) 1) (List.replicate (i + 1) 1) [bd] := by
            have hne : bd ≠ br := fun e => by subst e; rw [l1] at l4; simp at l4
            have := Leaf.of (n := h.length) ((ao _ hne).trans l4) nd (by simp; omega) 1
            simpa using this
          have z2 := (hrow.aside OII.fr l1 rfl rfl ao).ns (hns'.aside l1 rfl ao) (lensMaps_length n i).symm nm (by rw [lensMaps_length]; omega)
          have hnd : ([bd] ++ ls.flatten).Nodup := nodup_app (by simp) (OIII.fr.nd _ _ _ _ _ z2) (fun j hj => by simp at hj; subst hj; exact hdj)
          exact FinX.here g8.len ⟨_, _, by simp only [lens_good hb']; rfl, by rw [lens_good hb']; exact ⟨_, _, rfl, _, _, z1, z2, rfl, hnd⟩, g8⟩
end Go.Gl

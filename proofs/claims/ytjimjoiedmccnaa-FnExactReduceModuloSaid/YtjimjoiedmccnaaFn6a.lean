/- Chapters 1 and 6: complexes whose maps are 0. No condition. -/
import Derived.Test.YtjimjoiedmccnaaFn1
set_option linter.unusedVariables false
set_option linter.unusedSimpArgs false
namespace Go.Gl
open Go.Proofs Go.Proofs.Ytjimjoiedmccnaa

def zrow (d : Int) : List Int := List.replicate d.toNat 0
/-- the first k maps of 0 of a complex with some dimensions -/
def blankMaps (dims : List Int) (k : Nat) : List (List (List Int)) := (List.range k).map fun i => List.replicate (nth dims (i + 1)).toNat (zrow (nth dims i))
theorem blankMaps_succ (dims : List Int) (k : Nat) : blankMaps dims (k + 1) = blankMaps dims k ++ [List.replicate (nth dims (k + 1)).toNat (zrow (nth dims k))] := by simp [blankMaps, List.range_succ]
theorem blankMaps_length (dims : List Int) (k : Nat) : (blankMaps dims k).length = k := by simp [blankMaps]
def blank (p : Int) (dims : List Int) : SComplex := ⟨p, dims, blankMaps dims (dims.length - 1)⟩


theorem blank_c (h : AH) (p : Int) (v : Value) (dims : List Int) (n : Nat) (l : List Nat) (hx : OI n h v dims l) (hnh : n ≤ h.length) (hb : ∀ d ∈ dims, 0 ≤ d ∧ d ≤ 1000) (hd : dims.length ≤ 1000) (hd0 : 0 < dims.length) :
    ACalls Try.prog 118 [.int .i64 p, v] h (fun r h' => ∃ l', OComplex n h' r (blank p dims) l' ∧ Le h h') := by
  obtain ⟨hm, ⟨rfl, _⟩ | ⟨b, o, blk, kw, hn, rfl, hbk, hown, hsz, hcells⟩⟩ := hx
  · simp at hd0
  have hx : OI n h (.slice (some ⟨b, o, none⟩) dims.length 0) dims [b] := ⟨hm, .inr ⟨b, o, blk, Wk.refl _, hn, rfl, hbk, hown, hsz, hcells⟩⟩
  have hcs : CS EI h b o dims := fun k x hk => ⟨blk, _, hbk, hcells k x hk, rfl⟩
  refine ACalls.wk (args' := [.int .i64 p, .slice (some ⟨b, o, none⟩) dims.length 0]) ?_ (.cons (Wk.refl _) (.cons kw .nil))
  refine ACalls.of Tt.tab Try.func118 rfl (by kernel_rfl) Try.ntmps118 _ rfl rfl (fun hw => ?_)
  refine NewX.intro fun br h1 g1 (l1 : look h1 br = some ⟨[.int .i64 0, .slice none 0 0, .slice none 0 0], some (67, 3)⟩) n1 => ?_
  refine NewX.intro fun bo h2 g2 (l2 : look h2 bo = some ⟨[.int .i64 0, .slice none 0 0, .slice none 0 0], some (67, 3)⟩) n2 => ?_
  refine StoreX.intro l2 rfl (show (0 + 3 : Nat) ≤ 3 by decide) fun h3 e3 (l3 : look h3 bo = some ⟨[.int .i64 p, .slice (some ⟨b, o, none⟩) dims.length 0, .slice none 0 0], some (67, 3)⟩) ao gl => ?_
  have q1 := look_lt l1
  have q2 := look_lt l2
  have hbo : bo ≠ br := by omega
  have l1 := (ao _ (by omega)).trans (g2.at_ _ _ l1)
  have g := gl _ (g1.trans g2) (by have := g1.len; omega)
  have hlt := look_lt hbk
  have hget : ∀ j, j < dims.length → 0 ≤ nth dims j ∧ nth dims j ≤ 1000 := fun j hj => by rw [← nth_get hj]; exact hb _ (List.getElem_mem hj)
  have hgd : ∀ j (hj : j < dims.length), dims[j] = nth dims j := fun j hj => nth_get hj
  refine ⟨⟨[0, 1, 4, 5, 6], fun n' vs h' => ∃ (k bm : Nat) (mv : Value) (us : List Value) (ls : List (List Nat)), n' = dims.length - 1 - k ∧ k ≤ dims.length - 1 ∧ Le h h' ∧ look h' br = some ⟨[.int .i64 0, .slice none 0 0, .slice none 0 0], some (67, 3)⟩ ∧
    look h' bo = some ⟨[.int .i64 p, .slice (some ⟨b, o, none⟩) dims.length 0, mv], some (67, 3)⟩ ∧ NS h' 22 1 bm mv k us ∧ h.length ≤ bm ∧ Row OII h.length h' us (blankMaps dims k) ls ∧
    vs = [.int .i64 p, .slice (some ⟨b, o, none⟩) dims.length 0, .pointer (some ⟨br, 0, none⟩), .pointer (some ⟨bo, 0, none⟩), .int .i64 ((k + 1 : Nat) : Int)], _, ⟨0, h.length, _, [], [], rfl, Nat.zero_le _, g, l1, l3, NS.nil _ _ _ _, Nat.le_refl _, Row.nil _ _ _, rfl⟩, ?_⟩⟩
  clear g l1 l3 ao gl
  rintro n' vs h4 ⟨k, bm, mv, us, ls, rfl, hk, g, l1, l3, hns, nm, hrow, rfl⟩
  refine CallX.same (sizeI_c _ _ _ _ _) ?_
  rintro r h5 ⟨rfl, rfl⟩
  refine BIf.mk (fun hlt2 => ?_) (fun hlt2 => ?_)
  · have hlt2 : k + 1 < dims.length := by simp at hlt2; omega
    have x0 := hget k (by omega)
    have x1 := hget (k + 1) hlt2
    refine NewX.intro fun b6 h6 g6 (l6 : look h6 b6 = some ⟨[], some (42, 1)⟩) n6 => ?_
    refine IdxX.mk (by omega) (by omega) ?_
    refine (hcs.le EI.le (g.trans g6)).loadI rfl hlt2 ?_
    rw [hgd _ hlt2]
    have w6 := g6.len
    -- the rows of a map
    refine ⟨⟨[0, 1, 4, 5, 6, 7, 21, 22], fun n' vs h' => ∃ (j b7 : Nat) (us7 : List Value) (ls7 : List (List Nat)), n' = (nth dims (k + 1)).toNat - j ∧ j ≤ (nth dims (k + 1)).toNat ∧ Le h5 h' ∧ look h' b7 = some ⟨us7, some (42, 1)⟩ ∧ us7.length = j ∧ h5.length ≤ b7 ∧
      Row OI h5.length h' us7 (List.replicate j (zrow (nth dims k))) ls7 ∧
      vs = [.int .i64 p, .slice (some ⟨b, o, none⟩) dims.length 0, .pointer (some ⟨br, 0, none⟩), .pointer (some ⟨bo, 0, none⟩), .int .i64 ((k + 1 : Nat) : Int), .slice (some ⟨b7, 0, none⟩) j 1, .int .i64 (nth dims (k + 1)), .int .i64 j], _, ⟨0, b6, [], [], rfl, Nat.zero_le _, g6, l6, rfl, n6, Row.nil _ _ _, rfl⟩, ?_⟩⟩
    clear l6 n6
    rintro n' vs h7 ⟨j, b7, us7, ls7, rfl, hj, g7, l7, hu7, n7, hr7, rfl⟩
    refine BIf.mk (fun hlt3 => ?_) (fun hlt3 => ?_)
    · have hlt3 : j < (nth dims (k + 1)).toNat := by simp at hlt3; omega
      refine WR.as (show ((k + 1 : Nat) : Int) - 1 = k by omega) ?_
      refine IdxX.mk (by omega) (by omega) ?_
      refine (hcs.le EI.le (g.trans g7)).loadI rfl (by omega : k < dims.length) ?_
      rw [hgd _ (by omega : k < dims.length)]
      refine ⟨by omega, rfl, by omega, by show (nth dims k : Int) * 8 ≤ _; omega, NewX.intro fun b8 h8 g8 (l8 : look h8 b8 = some ⟨(List.replicate (nth dims k).toNat [.int .i64 0]).flatten, some (tI, 1)⟩) n8 => ?_⟩
      refine NewX.intro fun b9 h9 g9 (l9 : look h9 b9 = some ⟨[.slice (some ⟨b8, 0, none⟩) (nth dims k).toNat 1], some (42, 1)⟩) n9 => ?_
      have zz : OI h7.length h9 (.slice (some ⟨b8, 0, none⟩) (nth dims k).toNat 1) (zrow (nth dims k)) [b8] := by
        have := Leaf.of (n := h7.length) (xs := zrow (nth dims k)) (ti := tI) (b := b8) (h := h9) (by rw [g9.at_ _ _ l8]; simp [zrow, List.flatten_replicate_singleton]) n8 (by simp [zrow]; omega) 1
        simpa [zrow] using this
      have g79 := g8.trans g9
      have hr9 := hr7.push OI.fr g79 g7.len zz
      have nsl := NS.own1 (g79.at_ _ _ l7) hu7
      refine AppG.own1 (g79.at_ _ _ l7) hu7 (Src.one1 l9 rfl) (by omega) fun b10 h10 n10 l10 gr => ?_
      refine WR.i64 ?_
      have hr10 : Row OI h5.length h10 (us7 ++ [.slice (some ⟨b8, 0, none⟩) (nth dims k).toNat 1]) (List.replicate (j + 1) (zrow (nth dims k))) (ls7 ++ [[b8]]) := by
        rw [List.replicate_succ']
        exact hr9.gr OI.fr gr nsl rfl rfl
      exact ⟨(nth dims (k + 1)).toNat - (j + 1), by omega, j + 1, b10, _, _, rfl, hlt3, gr.le nsl (g7.trans g79) n7, l10, by simp [hu7], by have := g7.len; have := g79.len; omega, hr10, rfl⟩
    · have hj2 : j = (nth dims (k + 1)).toNat := by simp at hlt3; omega
      subst hj2
      -- the map goes behind the others
      have z7 : OII h5.length h7 (.slice (some ⟨b7, 0, none⟩) (nth dims (k + 1)).toNat 1) (List.replicate (nth dims (k + 1)).toNat (zrow (nth dims k))) ls7.flatten := by
        have := hr7.node (o := 0) l7 n7 (fun i u hi => by simpa using hi) (by simp; omega) 1
        simpa using this
      refine LoadX.same (g7.at_ _ _ l3) rfl (Opq.mk ?_)
      refine NewX.intro fun b8 h8 g8 (l8 : look h8 b8 = some ⟨[.slice (some ⟨b7, 0, none⟩) (nth dims (k + 1)).toNat 1], some (22, 1)⟩) n8 => ?_
      have g58 := g7.trans g8
      have hr8 := hrow.push OII.fr g58 g.len (OII.fr.le z7 g8)
      have hns8 := hns.le g58
      refine AppG.ns1 hns8 (Src.one1 l8 rfl) (by omega) fun b9 h9 n9 hns9 gr9 => ?_
      have l3' := gr9.at_ hns8 (g58.at_ _ _ l3) rfl
      have l1' := gr9.at_ hns8 (g58.at_ _ _ l1) rfl
      have c3 := look_lt l3'
      have g9 := gr9.le hns8 (g.trans g58) nm
      refine StoreX.intro l3' rfl (show (0 + 2 + 1 : Nat) ≤ 3 by decide) fun h10 e10 (l10 : look h10 bo = some ⟨[.int .i64 p, .slice (some ⟨b, o, none⟩) dims.length 0, .slice (some ⟨b9, 0, none⟩) (k + 1) 1], some (67, 3)⟩) ao10 gl10 => ?_
      refine WR.i64 ?_
      have hrow10 := (hr8.gr OII.fr gr9 hns8 rfl rfl).aside OII.fr l3' rfl rfl ao10
      rw [← blankMaps_succ] at hrow10
      exact ⟨dims.length - 1 - (k + 1), by omega, k + 1, b9, _, _, _, rfl, by omega, gl10 _ g9 (by omega), (ao10 _ (fun e => hbo e.symm)).trans l1', l10, hns9.aside l3' rfl ao10, by have := g.len; have := g58.len; omega, hrow10, rfl⟩
  · have hk2 : k = dims.length - 1 := by simp at hlt2; omega
    subst hk2
    have hns' := hns
    rcases hns with ⟨rfl, -, -⟩ | ⟨rfl, -, -⟩
    all_goals
      refine LoadX.same (v := .agg #[.int .i64 p, .slice (some ⟨b, o, none⟩) dims.length 0, _]) l3 rfl ?_
      refine StoreX.intro l1 rfl (show (0 + 3 : Nat) ≤ 3 by decide) fun h8 e8 (l8 : look h8 br = some ⟨[.int .i64 p, .slice (some ⟨b, o, none⟩) dims.length 0, _], some (67, 3)⟩) ao gl => ?_
      refine LoadX.same (v := .agg #[.int .i64 p, .slice (some ⟨b, o, none⟩) dims.length 0, _]) l8 rfl ?_
      have g8 := gl _ g n1
      have z1 := OI.fr.le hx g8
      have z2 := (hrow.aside OII.fr l1 rfl rfl ao).ns (hns'.aside l1 rfl ao) (blankMaps_length dims _).symm nm (by rw [blankMaps_length]; omega)
      have hnd : ([b] ++ ls.flatten).Nodup := nodup_app (by simp) (OIII.fr.nd _ _ _ _ _ z2) (fun j hj => by simp at hj; subst hj; intro hh; have := (hrow.leaf OII.fr j hh).1; omega)
      have z2 := OIII.fr.low _ _ _ _ _ _ z2 hnh
      exact FinX.here g8.len ⟨_, ⟨_, _, rfl, _, _, z1, by exact z2, rfl, hnd⟩, g8⟩
end Go.Gl

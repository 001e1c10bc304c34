/- Chapter 3: TotalOf and FilteredTotal, the reference's side. No condition. -/
import Derived.Test.YtionapmdibdfpaaFnTo8
set_option linter.unusedVariables false
set_option linter.unusedSimpArgs false
namespace Go.Gl
open Go.Proofs Go.Proofs.Ytionapmdibdfpaa Go.Pl

theorem small_at {x : SDouble} (h : smallT x = true) {n : Nat} (hn : n < topT x + 1) : dimT x n ≤ 8 := by
  unfold smallT at h
  have h2 : ((dimsT x).any fun z => decide (8 < z)) = false := by simpa using h
  have h3 := List.any_eq_false.1 h2 (dimT x n : Int) (by unfold dimsT tab; exact List.mem_map.2 ⟨n, List.mem_range.2 hn, rfl⟩)
  simp at h3
  omega
theorem small_mk {x : SDouble} (h : ∀ n, n < topT x + 1 → dimT x n ≤ 8) : smallT x = true := by
  unfold smallT
  have : ((dimsT x).any fun z => decide (8 < z)) = false := List.any_eq_false.2 fun z hz => by
    unfold dimsT tab at hz
    obtain ⟨n, h1, rfl⟩ := List.mem_map.1 hz
    have := h n (List.mem_range.1 h1)
    simp
    omega
  rw [this]; rfl
theorem levF_flat (x : SDouble) (rows : Bool) (n i : Nat) : ((List.range i).flatMap (levF x rows n)).length = offT x n i := by rw [flat_len, offL_lev]
theorem cellT_flat (x : SDouble) (n i : Nat) : ((List.range i).flatMap (cellT x n)).length = offT x n i := by
  rw [flat_len]
  exact offL_congr fun i _ => by rw [cellT, tabR_length, levF_len]
section
variable {M : Nat → Prop} {n : Nat} {hb h : AH} {Rs : List Res}
theorem SepM.recell (S : SepM M n hb h Rs) (j : Nat) {e : TypeId} {s m : Nat} {v : Value} {k : Nat} {cells cells' : List Value} (hj : gt Rs j = some (.rc e s m v k cells)) (q : cells = cells') : SepM M n hb h (st Rs j (.rc e s m v k cells')) := by
  subst q
  exact S.as j hj fun F _ h => h
theorem SepM.rerow (S : SepM M n hb h Rs) (j : Nat) {ti : TypeId} {T : List TypeId} {α : Type} {E : Tr α} {hE : Fr ti T E} {e : TypeId} {m : Nat} {v : Value} {k : Nat} {xs xs' : List α} (hj : gt Rs j = some (.rw hE e m v k xs)) (q : xs = xs') : SepM M n hb h (st Rs j (.rw hE e m v k xs')) := by
  subst q
  exact S.as j hj fun F _ h => h
end
theorem flat_succ {α : Type} (f : Nat → List α) (n : Nat) : (List.range (n + 1)).flatMap f = (List.range n).flatMap f ++ f n := by rw [List.range_succ, List.flatMap_append]; simp

set_option maxHeartbeats 4000000 in
theorem l03Total_c (h : AH) (v : Value) (x : SDouble) (rows : Bool) (hx : RDouble h v x) (hd : DShape x) : ACalls Try.prog 22 [v, .bool rows] h (fun r h' => ∃ v l, r = .tuple #[v, .bool (decide ((totR x rows).2 = 0))] ∧ OFiltered h.length h' v (totR x rows).1 l ∧ Le h h') := by
  obtain ⟨P, kx, qx⟩ := hx.at_
  refine ACalls.wk (args' := [vD x P, .bool rows]) ?_ (.cons kx (.cons (Wk.refl _) .nil))
  refine ACalls.of Tt.tab Try.func22 rfl (by kernel_rfl) Try.ntmps22 _ rfl rfl (fun hw => ?_)
  have S := Sep.start h
  have hW := hd.w
  have hH := hd.h
  have ht6 : topT x ≤ 6 ∧ (topT x : Int) = dW x + dH x - 2 := by unfold topT; omega
  have q1 := RS.cells qx.1 rfl
  have q2 := RS.cells qx.2.1 rfl
  have q3 := RS.cells qx.2.2 rfl
  have l2 : x.across.length = dW x := hd.acr.1
  have l3 : x.down.length = dW x := hd.dwn.1
  have hl : x.dims.length = dW x := rfl
  have hr0 : (row x.dims 0).length = dH x := rfl
  have bad : ∀ (g : AH) (Rs : List Res), totR x rows = (noFil, 3) → Sep h.length h g Rs → FinX h (fun r h' => ∃ v l, r = .tuple #[v, .bool (decide ((totR x rows).2 = 0))] ∧ OFiltered h.length h' v (totR x rows).1 l ∧ Le h h') (.tuple #[.agg #[.int .i64 0, .slice none 0 0, .slice none 0 0, .slice none 0 0], .bool false]) g := fun g Rs e S => by
    rw [e]
    exact FinX.here S.le.len ⟨_, [], rfl, OFiltered.nil _ _, S.le⟩
  refine S.new fun b2 g S => ?_
  refine S.new fun b4 g S => ?_
  refine DrawX.of Tt.tab follows_any [] [] [0, 1, 2, 3, 4, 5, 6, 7, 8, 9] rfl (by kernel_rfl) (by kernel_rfl) ?_
  refine LoadX.same (v := vD1 x P) (S.at_ 1 rfl) rfl ?_
  refine LoadX.same (v := vD1 x P) (S.at_ 1 rfl) rfl ?_
  refine IdxX.mk (by omega) (by omega) ?_
  refine q1.row S.le (show 0 < x.dims.length by omega) fun b5 o5 c5 => ?_
  rw [hr0, hl]
  refine LoadX.same (v := .int .i64 x.prime) (S.at_ 1 rfl) rfl ?_
  refine S.new fun d1 g S => ?_
  refine S.new fun d2 g S => ?_
  refine S.new fun b8 g S => ?_
  refine S.put 0 rfl fun g S => ?_
  refine S.new fun d3 g S => ?_
  refine WR.as (r := ((dW x + dH x : Nat) : Int)) (by omega) ?_
  refine WR.as (r := ((topT x : Nat) : Int)) (by omega) ?_
  refine BIf.mk (fun e1 => ?_) (fun e1 => ?_)
  · have e1 : ¬ topT x ≤ 5 := by simp at e1; omega
    refine S.put 4 rfl fun g S => ?_
    refine LoadX.same (v := .agg #[.int .i64 0, .slice none 0 0, .slice none 0 0, .slice none 0 0]) (S.at_ 4 rfl) rfl ?_
    exact bad _ _ (by unfold totR; rw [if_neg e1]) S
  have ft5 : topT x ≤ 5 := by simp at e1; omega
  have S := ((S.bx_rw 0 OI.fr rfl).bx_rw 2 OII.fr rfl).bx_rc 3 (k := 0) rfl rfl
  refine ⟨⟨[1, 2, 4, 5, 6, 7, 8, 9, 10], fun n' vs g => ∃ (n d1 d2 d3 : Nat), n' = topT x + 1 - n ∧ n ≤ topT x + 1 ∧ (∀ m, m < n → dimT x m ≤ 8) ∧ Sep h.length h g [.rw OI.fr 27 h.length (.slice (some ⟨d3, 0, none⟩) (n) 1) (n) (tabR (n) (levT x rows)), .bx b8 30 3 [.int .i64 x.prime, .slice (some ⟨d1, 0, none⟩) (n) 1, .slice (some ⟨d2, 0, none⟩) (n - 1) 1], .rw OII.fr 22 h.length (.slice (some ⟨d2, 0, none⟩) (n - 1) 1) (n - 1) ((List.range (n - 1)).map fun a => rowsT x (a + 1)), .rc 2 1 h.length (.slice (some ⟨d1, 0, none⟩) (n) 1) (n) ((tab (n) fun m => (dimT x m : Int)).map (.int .i64)), .bx b4 41 4 [.int .i64 0, .slice none 0 0, .slice none 0 0, .slice none 0 0], .bx b2 33 4 (cD x P)] ∧
    vs = [.bool rows, .pointer (some ⟨b2, 0, none⟩), .pointer (some ⟨b4, 0, none⟩), .bool false, .int .i64 (dW x), .int .i64 (dH x), .pointer (some ⟨b8, 0, none⟩), .slice (some ⟨d3, 0, none⟩) n 1, .int .i64 n], _, ⟨0, d1, d2, d3, rfl, Nat.zero_le _, (fun m hm => by omega), S, rfl⟩, ?_⟩⟩
  clear S
  rintro n' vs g ⟨n, d1, d2, d3, rfl, hn, hs, S, rfl⟩
  refine WR.as (r := ((dW x + dH x : Nat) : Int)) (by omega) ?_
  refine WR.as (r := ((topT x : Nat) : Int)) (by omega) ?_
  refine BIf.mk (fun h2 => ?_) (fun h2 => ?_)
  · have hlt : n < topT x + 1 := by simp at h2; omega
    refine S.new fun e1 g S => ?_
    refine S.new fun e2 g S => ?_
    have S := (S.bx_rw 0 OI.fr rfl).bx_rc 1 (k := 0) rfl rfl
    refine ⟨⟨[1, 2, 4, 5, 6, 7, 8, 9, 10, 11, 12, 13], fun n' vs g => ∃ (i e1 e2 : Nat), n' = n + 1 - i ∧ i ≤ n + 1 ∧ Sep h.length h g [.rw OI.fr 27 h.length (.slice (some ⟨e2, 0, none⟩) (offT x n i) 1) (offT x n i) ((List.range i).flatMap (cellT x n)), .rc 2 1 h.length (.slice (some ⟨e1, 0, none⟩) (offT x n i) 1) (offT x n i) (List.map (.int .i64) ((List.range i).flatMap (levF x rows n))), .rw OI.fr 27 h.length (.slice (some ⟨d3, 0, none⟩) (n) 1) (n) (tabR (n) (levT x rows)), .bx b8 30 3 [.int .i64 x.prime, .slice (some ⟨d1, 0, none⟩) (n) 1, .slice (some ⟨d2, 0, none⟩) (n - 1) 1], .rw OII.fr 22 h.length (.slice (some ⟨d2, 0, none⟩) (n - 1) 1) (n - 1) ((List.range (n - 1)).map fun a => rowsT x (a + 1)), .rc 2 1 h.length (.slice (some ⟨d1, 0, none⟩) (n) 1) (n) ((tab (n) fun m => (dimT x m : Int)).map (.int .i64)), .bx b4 41 4 [.int .i64 0, .slice none 0 0, .slice none 0 0, .slice none 0 0], .bx b2 33 4 (cD x P)] ∧
      vs = [.bool rows, .pointer (some ⟨b2, 0, none⟩), .pointer (some ⟨b4, 0, none⟩), .bool false, .int .i64 (dW x), .int .i64 (dH x), .pointer (some ⟨b8, 0, none⟩), .slice (some ⟨d3, 0, none⟩) n 1, .int .i64 n, .slice (some ⟨e1, 0, none⟩) (offT x n i) 1, .slice (some ⟨e2, 0, none⟩) (offT x n i) 1, .int .i64 i], _, ⟨0, e1, e2, rfl, Nat.zero_le _, S, rfl⟩, ?_⟩⟩
    clear S
    rintro n' vs g ⟨i, e1, e2, rfl, hi, S, rfl⟩
    have ob := offT_bd hd.toDHead n i
    have db := dN_le hd.toDHead n i
    refine BIf.mk (fun h3 => ?_) (fun h3 => ?_)
    · have hil : i < n + 1 := by simp at h3; omega
      refine ⟨⟨[1, 2, 4, 5, 6, 7, 8, 9, 10, 11, 12, 13, 14], fun n' vs g => ∃ (k e1 e2 : Nat), n' = dN x n i - k ∧ k ≤ dN x n i ∧ Sep h.length h g [.rw OI.fr 27 h.length (.slice (some ⟨e2, 0, none⟩) (offT x n i + k) 1) (offT x n i + k) ((List.range i).flatMap (cellT x n) ++ tabR k (rowT x n i)), .rc 2 1 h.length (.slice (some ⟨e1, 0, none⟩) (offT x n i + k) 1) (offT x n i + k) (List.map (.int .i64) ((List.range i).flatMap (levF x rows n) ++ List.replicate k (if rows then (n : Int) - i else i))), .rw OI.fr 27 h.length (.slice (some ⟨d3, 0, none⟩) (n) 1) (n) (tabR (n) (levT x rows)), .bx b8 30 3 [.int .i64 x.prime, .slice (some ⟨d1, 0, none⟩) (n) 1, .slice (some ⟨d2, 0, none⟩) (n - 1) 1], .rw OII.fr 22 h.length (.slice (some ⟨d2, 0, none⟩) (n - 1) 1) (n - 1) ((List.range (n - 1)).map fun a => rowsT x (a + 1)), .rc 2 1 h.length (.slice (some ⟨d1, 0, none⟩) (n) 1) (n) ((tab (n) fun m => (dimT x m : Int)).map (.int .i64)), .bx b4 41 4 [.int .i64 0, .slice none 0 0, .slice none 0 0, .slice none 0 0], .bx b2 33 4 (cD x P)] ∧
        vs = [.bool rows, .pointer (some ⟨b2, 0, none⟩), .pointer (some ⟨b4, 0, none⟩), .bool false, .int .i64 (dW x), .int .i64 (dH x), .pointer (some ⟨b8, 0, none⟩), .slice (some ⟨d3, 0, none⟩) n 1, .int .i64 n, .slice (some ⟨e1, 0, none⟩) (offT x n i + k) 1, .slice (some ⟨e2, 0, none⟩) (offT x n i + k) 1, .int .i64 i, .int .i64 k], _, ⟨0, e1, e2, rfl, Nat.zero_le _, S.eq (by simp [tabR]), rfl⟩, ?_⟩⟩
      clear S
      rintro n' vs g ⟨k, e1, e2, rfl, hk, S, rfl⟩
      refine LoadX.same (v := vD x P) (S.at_ 7 rfl) rfl ?_
      refine WR.as (r := (n : Int) - i) rfl ?_
      refine CallX.same (l03Dim_c _ _ x i _ (qx.reads S.le) hW.1 hd.col) ?_
      rintro r g' ⟨rfl, rfl⟩
      have hdz := hd.dim i ((n : Int) - i)
      have hdn : dimZ x i ((n : Int) - i) = (dN x n i : Nat) := by unfold dN; omega
      rw [hdn]
      refine BIf.mk (fun h4 => ?_) (fun h4 => ?_)
      · have hkl : k < dN x n i := by simpa using h4
        obtain ⟨p1, p2, p3, p4⟩ := dN_pos hkl
        have ra := acr_row hd (i := i) (j := n - i) p2 p3
        have rd := dwn_row hd (i := i) (j := n - i) p2 p3
        rw [show i + (n - i) = n by omega] at ra rd
        have la : (ten x.across i).length = dH x := hd.acr.2.1 i p2
        have ld : (ten x.down i).length = dH x := hd.dwn.2.1 i p2
        have hpl : ∀ c, c < n → (pieceT x n i k c).length = dN x (n - 1) c := fun c hc => piece_len hd (by omega) hkl hc
        have hfl : ∀ c, c ≤ n → ((List.range c).flatMap (pieceT x n i k)).length = offT x (n - 1) c := fun c hc => by
          rw [flat_len]
          exact offL_congr fun c' hc' => by rw [hpl c' (by omega), levF_len]
        have el : ∀ (l : List Int) (z : Int), z = (if rows then (n : Int) - i else i) → List.map (Value.int .i64) (l ++ List.replicate k (if rows then (n : Int) - i else i)) ++ [Value.int .i64 z] = List.map (Value.int .i64) (l ++ List.replicate (k + 1) (if rows then (n : Int) - i else i)) := fun l z ez => by
          rw [ez, List.replicate_succ', ← List.append_assoc, List.map_append (l₂ := [_])]
          rfl
        refine BIf.mk (fun er => ?_) (fun er => ?_)
        all_goals
          first | refine WR.as (r := (n : Int) - i) rfl ?_ | skip
          refine S.new fun b9 g S => ?_
          refine S.app 1 rfl rfl rfl (by omega) fun e1 g S => ?_
          have S := S.recell 1 rfl (el _ _ (by rw [er]; rfl))
          refine S.new fun f1 g S => ?_
          have S := S.bx_rc 0 (k := 0) rfl rfl
          refine ⟨⟨[1, 2, 4, 5, 6, 7, 8, 9, 10, 11, 12, 13, 14, 15, 16], fun n' vs g => ∃ (c : Nat) (A : Option Addr) (cc : Nat), n' = n - c ∧ c ≤ n ∧ Sep h.length h g [.rc 2 1 h.length (.slice A (offT x (n - 1) c) cc) (offT x (n - 1) c) (List.map (.int .i64) ((List.range c).flatMap (pieceT x n i k))), .rw OI.fr 27 h.length (.slice (some ⟨e2, 0, none⟩) (offT x n i + k) 1) (offT x n i + k) ((List.range i).flatMap (cellT x n) ++ tabR k (rowT x n i)), .rc 2 1 h.length (.slice (some ⟨e1, 0, none⟩) (offT x n i + k + 1) 1) (offT x n i + k + 1) (List.map (.int .i64) ((List.range i).flatMap (levF x rows n) ++ List.replicate (k + 1) (if rows then (n : Int) - i else i))), .rw OI.fr 27 h.length (.slice (some ⟨d3, 0, none⟩) (n) 1) (n) (tabR (n) (levT x rows)), .bx b8 30 3 [.int .i64 x.prime, .slice (some ⟨d1, 0, none⟩) (n) 1, .slice (some ⟨d2, 0, none⟩) (n - 1) 1], .rw OII.fr 22 h.length (.slice (some ⟨d2, 0, none⟩) (n - 1) 1) (n - 1) ((List.range (n - 1)).map fun a => rowsT x (a + 1)), .rc 2 1 h.length (.slice (some ⟨d1, 0, none⟩) (n) 1) (n) ((tab (n) fun m => (dimT x m : Int)).map (.int .i64)), .bx b4 41 4 [.int .i64 0, .slice none 0 0, .slice none 0 0, .slice none 0 0], .bx b2 33 4 (cD x P)] ∧
            vs = [.bool rows, .pointer (some ⟨b2, 0, none⟩), .pointer (some ⟨b4, 0, none⟩), .bool false, .int .i64 (dW x), .int .i64 (dH x), .pointer (some ⟨b8, 0, none⟩), .slice (some ⟨d3, 0, none⟩) n 1, .int .i64 n, .slice (some ⟨e1, 0, none⟩) (offT x n i + k + 1) 1, .slice (some ⟨e2, 0, none⟩) (offT x n i + k) 1, .int .i64 i, .int .i64 k, .slice A (offT x (n - 1) c) cc, .int .i64 c], _, ⟨0, some ⟨f1, 0, none⟩, 1, rfl, Nat.zero_le _, S, rfl⟩, ?_⟩⟩
          clear S
          rintro n' vs g ⟨c, A, cc, rfl, hc, S, rfl⟩
          have oc := offT_bd hd.toDHead (n - 1) c
          refine BIf.mk (fun h5 => ?_) (fun h5 => ?_)
          · have hcl : c < n := by simpa using h5
            have hpc := hpl c hcl
            have dc := dN_le hd.toDHead (n - 1) c
            have done : ∀ (A' : Option Addr) (c' : Nat) (g : AH), Sep h.length h g [.rc 2 1 h.length (.slice A' (offT x (n - 1) c + dN x (n - 1) c) c') (offT x (n - 1) c + dN x (n - 1) c) (List.map (.int .i64) ((List.range c).flatMap (pieceT x n i k)) ++ List.map (.int .i64) (pieceT x n i k c)), .rw OI.fr 27 h.length (.slice (some ⟨e2, 0, none⟩) (offT x n i + k) 1) (offT x n i + k) ((List.range i).flatMap (cellT x n) ++ tabR k (rowT x n i)), .rc 2 1 h.length (.slice (some ⟨e1, 0, none⟩) (offT x n i + k + 1) 1) (offT x n i + k + 1) (List.map (.int .i64) ((List.range i).flatMap (levF x rows n) ++ List.replicate (k + 1) (if rows then (n : Int) - i else i))), .rw OI.fr 27 h.length (.slice (some ⟨d3, 0, none⟩) (n) 1) (n) (tabR (n) (levT x rows)), .bx b8 30 3 [.int .i64 x.prime, .slice (some ⟨d1, 0, none⟩) (n) 1, .slice (some ⟨d2, 0, none⟩) (n - 1) 1], .rw OII.fr 22 h.length (.slice (some ⟨d2, 0, none⟩) (n - 1) 1) (n - 1) ((List.range (n - 1)).map fun a => rowsT x (a + 1)), .rc 2 1 h.length (.slice (some ⟨d1, 0, none⟩) (n) 1) (n) ((tab (n) fun m => (dimT x m : Int)).map (.int .i64)), .bx b4 41 4 [.int .i64 0, .slice none 0 0, .slice none 0 0, .slice none 0 0], .bx b2 33 4 (cD x P)] →
                ∃ n', n' < n - c ∧ ∃ (c2 : Nat) (A : Option Addr) (cc : Nat), n' = n - c2 ∧ c2 ≤ n ∧ Sep h.length h g [.rc 2 1 h.length (.slice A (offT x (n - 1) c2) cc) (offT x (n - 1) c2) (List.map (.int .i64) ((List.range c2).flatMap (pieceT x n i k))), .rw OI.fr 27 h.length (.slice (some ⟨e2, 0, none⟩) (offT x n i + k) 1) (offT x n i + k) ((List.range i).flatMap (cellT x n) ++ tabR k (rowT x n i)), .rc 2 1 h.length (.slice (some ⟨e1, 0, none⟩) (offT x n i + k + 1) 1) (offT x n i + k + 1) (List.map (.int .i64) ((List.range i).flatMap (levF x rows n) ++ List.replicate (k + 1) (if rows then (n : Int) - i else i))), .rw OI.fr 27 h.length (.slice (some ⟨d3, 0, none⟩) (n) 1) (n) (tabR (n) (levT x rows)), .bx b8 30 3 [.int .i64 x.prime, .slice (some ⟨d1, 0, none⟩) (n) 1, .slice (some ⟨d2, 0, none⟩) (n - 1) 1], .rw OII.fr 22 h.length (.slice (some ⟨d2, 0, none⟩) (n - 1) 1) (n - 1) ((List.range (n - 1)).map fun a => rowsT x (a + 1)), .rc 2 1 h.length (.slice (some ⟨d1, 0, none⟩) (n) 1) (n) ((tab (n) fun m => (dimT x m : Int)).map (.int .i64)), .bx b4 41 4 [.int .i64 0, .slice none 0 0, .slice none 0 0, .slice none 0 0], .bx b2 33 4 (cD x P)] ∧
                ([.bool rows, .pointer (some ⟨b2, 0, none⟩), .pointer (some ⟨b4, 0, none⟩), .bool false, .int .i64 (dW x), .int .i64 (dH x), .pointer (some ⟨b8, 0, none⟩), .slice (some ⟨d3, 0, none⟩) n 1, .int .i64 n, .slice (some ⟨e1, 0, none⟩) (offT x n i + k + 1) 1, .slice (some ⟨e2, 0, none⟩) (offT x n i + k) 1, .int .i64 i, .int .i64 k, .slice A' (offT x (n - 1) c + dN x (n - 1) c) c', .int .i64 ((c + 1 : Nat) : Int)] : List Value) = [.bool rows, .pointer (some ⟨b2, 0, none⟩), .pointer (some ⟨b4, 0, none⟩), .bool false, .int .i64 (dW x), .int .i64 (dH x), .pointer (some ⟨b8, 0, none⟩), .slice (some ⟨d3, 0, none⟩) n 1, .int .i64 n, .slice (some ⟨e1, 0, none⟩) (offT x n i + k + 1) 1, .slice (some ⟨e2, 0, none⟩) (offT x n i + k) 1, .int .i64 i, .int .i64 k, .slice A (offT x (n - 1) c2) cc, .int .i64 c2] := fun A' c' g S =>
              ⟨n - (c + 1), by omega, c + 1, A', c', rfl, hcl, by rw [offT_succ, flat_succ, List.map_append]; exact S, by rw [offT_succ]⟩
            refine WR.i64 ?_
            refine BIf.mk (fun h6 => ?_) (fun h6 => ?_)
            · have h6 : c + 1 = i := by simp at h6; omega
              have ep : row (mat (ten x.across i) (n - i)) k = pieceT x n i k c := by unfold pieceT; rw [if_pos h6]; rfl
              refine LoadX.same (v := vD2 x P) (S.at_ 8 rfl) rfl ?_
              refine IdxX.mk (by omega) (by omega) ?_
              refine q2.ten S.le (show i < x.across.length by omega) fun b5 o5 h7 => ?_
              refine WR.as (r := ((n - i : Nat) : Int)) (by omega) ?_
              refine IdxX.mk (by omega) (by omega) ?_
              refine (h7.cells rfl).mat S.le (show n - i < (ten x.across i).length by omega) fun b6 o6 h8 => ?_
              have hck : k < (mat (ten x.across i) (n - i)).length := by have := ra.1; show k < (cel x.across i (n - i)).length; omega
              refine IdxX.mk (by omega) (by omega) ?_
              refine (h8.cells rfl).row S.le hck fun b7 o7 c7 => ?_
              rw [ep] at c7 ⊢
              rw [hpc]
              refine S.appNs 0 rfl S.le c7 hpc (by omega) fun A' c' g S => ?_
              refine WR.as (r := ((c + 1 : Nat) : Int)) (by omega) ?_
              exact done A' c' g S
            · have h6 : c + 1 ≠ i := by simp at h6; omega
              refine BIf.mk (fun h9 => ?_) (fun h9 => ?_)
              · have h9 : c = i := by simp at h9; omega
                have ep : row (mat (ten x.down i) (n - i)) k = pieceT x n i k c := by unfold pieceT; rw [if_neg h6, if_pos h9]; rfl
                refine LoadX.same (v := vD3 x P) (S.at_ 8 rfl) rfl ?_
                refine IdxX.mk (by omega) (by omega) ?_
                refine q3.ten S.le (show i < x.down.length by omega) fun b5 o5 h7 => ?_
                refine WR.as (r := ((n - i : Nat) : Int)) (by omega) ?_
                refine IdxX.mk (by omega) (by omega) ?_
                refine (h7.cells rfl).mat S.le (show n - i < (ten x.down i).length by omega) fun b6 o6 h8 => ?_
                have hck : k < (mat (ten x.down i) (n - i)).length := by have := rd.1; show k < (cel x.down i (n - i)).length; omega
                refine IdxX.mk (by omega) (by omega) ?_
                refine (h8.cells rfl).row S.le hck fun b7 o7 c7 => ?_
                rw [ep] at c7 ⊢
                rw [hpc]
                refine S.appNs 0 rfl S.le c7 hpc (by omega) fun A' c' g S => ?_
                refine WR.as (r := ((c + 1 : Nat) : Int)) (by omega) ?_
                exact done A' c' g S
              · have h9 : c ≠ i := by simp at h9; omega
                have ep : pieceT x n i k c = List.replicate (dN x (n - 1) c) 0 := by unfold pieceT; rw [if_neg h6, if_neg h9]
                refine LoadX.same (v := vD x P) (S.at_ 8 rfl) rfl ?_
                refine WR.as (r := ((n - 1 : Nat) : Int)) (by omega) ?_
                refine WR.as (r := ((n - 1 : Nat) : Int) - c) rfl ?_
                refine CallX.same (l03Dim_c _ _ x c _ (qx.reads S.le) hW.1 hd.col) ?_
                rintro r g' ⟨rfl, rfl⟩
                have hdz2 := hd.dim c (((n - 1 : Nat) : Int) - c)
                have hdn2 : dimZ x c (((n - 1 : Nat) : Int) - c) = (dN x (n - 1) c : Nat) := by unfold dN; omega
                rw [hdn2]
                refine S.appZ 0 rfl (by omega) fun A' c' g S => ?_
                refine WR.as (r := ((c + 1 : Nat) : Int)) (by omega) ?_
                refine done A' c' g ?_
                rw [ep, List.map_replicate]
                exact S
          · have hc2 : n = c := by simp at h5; omega
            subst hc2
            have S := S.rc_tr 0 (xs := rowT x n i k) rfl (by show ((List.range n).flatMap _).length ≤ _; rw [hfl n (Nat.le_refl _)]; omega)
            refine S.new fun b9 g S => ?_
            refine S.appT 0 rfl rfl (by omega) fun e2 g S => ?_
            have S := S.rerow 0 (xs' := (List.range i).flatMap (cellT x n) ++ tabR (k + 1) (rowT x n i)) rfl (by rw [tabR_succ, List.append_assoc])
            refine WR.as (r := ((k + 1 : Nat) : Int)) (by omega) ?_
            exact ⟨dN x n i - (k + 1), by omega, k + 1, e1, e2, rfl, hkl, S, rfl⟩
      · have hk2 : k = dN x n i := by simp at h4; omega
        subst hk2
        refine WR.as (r := ((i + 1 : Nat) : Int)) (by omega) ?_
        refine ⟨n + 1 - (i + 1), by omega, i + 1, e1, e2, rfl, hil, ?_, by rw [offT_succ]; rfl⟩
        rw [offT_succ, flat_succ, flat_succ]
        exact S
    · have hi2 : i = n + 1 := by simp at h3; omega
      subst hi2
      refine BIf.mk (fun h4 => ?_) (fun h4 => ?_)
      · have h4 : 8 < dimT x n := by unfold dimT; simp at h4; omega
        refine S.put 6 rfl fun g S => ?_
        refine LoadX.same (v := .agg #[.int .i64 0, .slice none 0 0, .slice none 0 0, .slice none 0 0]) (S.at_ 6 rfl) rfl ?_
        exact bad _ _ (by unfold totR; rw [if_pos ft5, if_neg fun hh => by have := small_at hh hlt; omega]) S
      · have h4 : dimT x n ≤ 8 := by unfold dimT; simp at h4; omega
        have hs2 : ∀ m, m < n + 1 → dimT x m ≤ 8 := fun m hm => by
          by_cases hmn : m = n
          · rw [hmn]; exact h4
          · exact hs m (by omega)
        refine LoadX.same (v := .slice (some ⟨d1, 0, none⟩) n 1) (S.at_ 3 rfl) rfl ?_
        refine S.new fun b9 g S => ?_
        refine S.app 5 rfl rfl rfl (by omega) fun d1 g S => ?_
        have S := S.recell 5 (cells' := (tab (n + 1) fun m => (dimT x m : Int)).map (.int .i64)) rfl (by unfold tab; rw [List.range_succ, List.map_append, List.map_append]; rfl)
        refine S.put 3 rfl fun g S => ?_
        have S := S.front 1 rfl
        have S := S.rc_tr 0 (xs := levT x rows n) rfl (by show ((List.range (n + 1)).flatMap _).length ≤ _; rw [levF_flat]; omega)
        refine S.new fun b9 g S => ?_
        refine S.appT 1 rfl rfl (by omega) fun d3 g S => ?_
        have S := S.rerow 1 (xs' := tabR (n + 1) (levT x rows)) rfl (by rw [tabR_succ])
        refine BIf.mk (fun h5 => ?_) (fun h5 => ?_)
        · obtain ⟨m, rfl⟩ : ∃ m, n = m + 1 := ⟨n - 1, by simp at h5; omega⟩
          refine LoadX.same (v := .slice (some ⟨d2, 0, none⟩) m 1) (S.at_ 2 rfl) rfl ?_
          have S := S.rw_tr 0 rfl (by omega)
          refine S.new fun b9 g S => ?_
          refine S.appT 2 rfl rfl (by omega) fun d2 g S => ?_
          have S := S.rerow 2 (xs' := (List.range (m + 1)).map fun a => rowsT x (a + 1)) rfl (range_snoc m fun a => rowsT x (a + 1))
          refine S.put 1 rfl fun g S => ?_
          refine WR.as (r := ((m + 1 + 1 : Nat) : Int)) (by omega) ?_
          exact ⟨topT x + 1 - (m + 1 + 1), by omega, m + 1 + 1, d1, d2, d3, rfl, hlt, hs2, S, rfl⟩
        · have h5 : n = 0 := by simp at h5; omega
          subst h5
          refine WR.as (r := ((0 + 1 : Nat) : Int)) (by omega) ?_
          exact ⟨topT x + 1 - (0 + 1), by omega, 0 + 1, d1, d2, d3, rfl, hlt, hs2, S.tail, rfl⟩
  · have hn2 : n = topT x + 1 := by simp at h2; omega
    subst hn2
    refine LoadX.same (v := .agg #[.int .i64 x.prime, .slice (some ⟨d1, 0, none⟩) (topT x + 1) 1, .slice (some ⟨d2, 0, none⟩) (topT x) 1]) (S.at_ 1 rfl) rfl ?_
    refine S.put 4 rfl fun g S => ?_
    refine LoadX.same (v := .agg #[.int .i64 x.prime, .slice (some ⟨d1, 0, none⟩) (topT x + 1) 1, .slice (some ⟨d2, 0, none⟩) (topT x) 1, .slice (some ⟨d3, 0, none⟩) (topT x + 1) 1]) (S.at_ 4 rfl) rfl ?_
    have S := S.rw_tr 0 rfl (by omega)
    have S := S.rw_tr 2 rfl (by omega)
    have S := S.rc_tr 3 (xs := dimsT x) rfl (by show (tab _ _).length ≤ _; rw [tab_length]; omega)
    have S := (S.front 2 rfl).front 3 rfl
    have hres : totR x rows = (⟨⟨x.prime, dimsT x, mapsT x⟩, levelsT x rows⟩, 0) := by
      unfold totR
      rw [if_pos ft5, if_pos (small_mk hs)]
    rw [hres]
    obtain ⟨l, hl⟩ := SepM.finFl (x := ⟨⟨x.prime, dimsT x, mapsT x⟩, levelsT x rows⟩) S
    exact FinX.here S.le.len ⟨_, l, rfl, hl, S.le⟩
theorem totR_cases (x : SDouble) (rows : Bool) : (totR x rows).2 = 0 ∨ totR x rows = (noFil, 3) := by
  unfold totR
  split
  · split
    · exact .inl rfl
    · exact .inr rfl
  · exact .inr rfl
theorem OComplex.nil (h : AH) (n : Nat) : OComplex n h (.agg #[.int .i64 0, .slice none 0 0, .slice none 0 0]) noFil.complex [] :=
  ⟨_, _, rfl, [], [], ⟨by simp [noFil], .inl ⟨rfl, rfl, Wk.nil _⟩⟩, ⟨by simp [noFil], 0, 0, [], [], Wk.nil _, Row.nil _ _ _, rfl, .inl rfl⟩, rfl, by simp⟩

theorem filtS_c (h : AH) (v : Value) (x : SDouble) (hx : RDouble h v x) (rows : Bool) : ACalls Try.prog 14 [v, .bool rows] h (fun r h' => ∃ v l, r = .tuple #[v, .int .i64 (ftR x rows).2] ∧ OFiltered h.length h' v (ftR x rows).1 l ∧ Le h h') := by
  obtain ⟨P, kx, qx⟩ := hx.at_
  refine ACalls.wk (args' := [vD x P, .bool rows]) ?_ (.cons kx (.cons (Wk.refl _) .nil))
  refine ACalls.of Tt.tab Try.func14 rfl (by kernel_rfl) Try.ntmps14 _ rfl rfl (fun hw => ?_)
  have S := Sep.start h
  refine S.new fun b2 g S => ?_
  refine S.new fun b4 g S => ?_
  refine LoadX.same (v := vD x P) (S.at_ 1 rfl) rfl ?_
  refine CallX.same (l03Is_c _ _ x (qx.reads S.le)) ?_
  rintro r g' ⟨rfl, rfl⟩
  unfold ftR
  cases e1 : dOk x with
  | false =>
    refine BIf.yes rfl ?_
    refine S.put 0 rfl fun g S => ?_
    refine LoadX.same (v := .agg #[.int .i64 0, .slice none 0 0, .slice none 0 0, .slice none 0 0]) (S.at_ 0 rfl) rfl ?_
    exact FinX.here S.le.len ⟨_, [], rfl, OFiltered.nil _ _, S.le⟩
  | true =>
  refine BIf.no rfl ?_
  refine LoadX.same (v := vD x P) (S.at_ 1 rfl) rfl ?_
  refine CallX.same (canFl (l03Total_c _ _ x rows (qx.reads S.le) (dOk_mk e1).toDShape)) ?_
  rintro r g2 ⟨b5, o5, b6, o6, b7, o7, l, rfl, o, L⟩
  have S := S.tree OFiltered.fr o L
  refine S.new fun b8 g S => ?_
  refine S.put 0 rfl fun g S => ?_
  rw [if_pos rfl]
  rcases totR_cases x rows with e2 | e2
  · refine BIf.no (by simp [e2]) ?_
    refine LoadX.same (v := vFl (totR x rows).1 b5 o5 b6 o6 b7 o7) (S.at_ 0 rfl) rfl ?_
    refine S.put 2 rfl fun g S => ?_
    refine LoadX.same (v := vFl (totR x rows).1 b5 o5 b6 o6 b7 o7) (S.at_ 2 rfl) rfl ?_
    obtain ⟨l2, o2⟩ := S.tre 1 rfl
    exact FinX.here S.le.len ⟨_, l2, by rw [e2], o2, S.le⟩
  · refine BIf.yes (by simp [e2]) ?_
    refine S.put 2 rfl fun g S => ?_
    refine LoadX.same (v := .agg #[.int .i64 0, .slice none 0 0, .slice none 0 0, .slice none 0 0]) (S.at_ 2 rfl) rfl ?_
    rw [e2]
    exact FinX.here S.le.len ⟨_, [], rfl, OFiltered.nil _ _, S.le⟩

theorem totS_c (h : AH) (v : Value) (x : SDouble) (hx : RDouble h v x) : ACalls Try.prog 6 [v] h (fun r h' => ∃ v l, r = .tuple #[v, .int .i64 (toR x).2] ∧ OComplex h.length h' v (toR x).1 l ∧ Le h h') := by
  obtain ⟨P, kx, qx⟩ := hx.at_
  refine ACalls.wk (args' := [vD x P]) ?_ (.cons kx .nil)
  refine ACalls.of Tt.tab Try.func6 rfl (by kernel_rfl) Try.ntmps6 _ rfl rfl (fun hw => ?_)
  have S := Sep.start h
  refine S.new fun b2 g S => ?_
  refine S.new fun b4 g S => ?_
  refine LoadX.same (v := vD x P) (S.at_ 1 rfl) rfl ?_
  refine CallX.same (l03Is_c _ _ x (qx.reads S.le)) ?_
  rintro r g' ⟨rfl, rfl⟩
  unfold toR ftR
  cases e1 : dOk x with
  | false =>
    refine BIf.yes rfl ?_
    refine S.put 0 rfl fun g S => ?_
    refine LoadX.same (v := .agg #[.int .i64 0, .slice none 0 0, .slice none 0 0]) (S.at_ 0 rfl) rfl ?_
    exact FinX.here S.le.len ⟨_, [], rfl, OComplex.nil _ _, S.le⟩
  | true =>
  refine BIf.no rfl ?_
  refine LoadX.same (v := vD x P) (S.at_ 1 rfl) rfl ?_
  refine CallX.same (canFl (l03Total_c _ _ x false (qx.reads S.le) (dOk_mk e1).toDShape)) ?_
  rintro r g2 ⟨b5, o5, b6, o6, b7, o7, l, rfl, o, L⟩
  have S := S.tree OFiltered.fr o L
  refine S.new fun b8 g S => ?_
  refine S.put 0 rfl fun g S => ?_
  rw [if_pos rfl]
  rcases totR_cases x false with e2 | e2
  · refine BIf.no (by simp [e2]) ?_
    refine LoadX.same (v := .agg #[.int .i64 (totR x false).1.complex.prime, .slice (some ⟨b5, o5, none⟩) (totR x false).1.complex.dims.length 0, .slice (some ⟨b6, o6, none⟩) (totR x false).1.complex.maps.length 0]) (S.at_ 0 rfl) rfl ?_
    refine S.put 2 rfl fun g S => ?_
    refine LoadX.same (v := .agg #[.int .i64 (totR x false).1.complex.prime, .slice (some ⟨b5, o5, none⟩) (totR x false).1.complex.dims.length 0, .slice (some ⟨b6, o6, none⟩) (totR x false).1.complex.maps.length 0]) (S.at_ 2 rfl) rfl ?_
    obtain ⟨l2, o2⟩ := S.tre 1 rfl
    obtain ⟨_, l3, o3⟩ := OFiltered.cx o2
    exact FinX.here S.le.len ⟨_, l3, by rw [e2], o3, S.le⟩
  · refine BIf.yes (by simp [e2]) ?_
    refine S.put 2 rfl fun g S => ?_
    refine LoadX.same (v := .agg #[.int .i64 0, .slice none 0 0, .slice none 0 0]) (S.at_ 2 rfl) rfl ?_
    rw [e2]
    exact FinX.here S.le.len ⟨_, [], rfl, OComplex.nil _ _, S.le⟩

end Go.Gl

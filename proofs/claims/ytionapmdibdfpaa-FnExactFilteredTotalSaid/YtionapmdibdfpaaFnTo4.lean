/- Chapter 3: totals, the first walk over the cells: places, dimensions, levels. No condition. -/
import Derived.Test.YtionapmdibdfpaaFnTo3
import Derived.Test.YtionapmdibdfpaaFnRp
import Derived.Test.YtionapmdibdfpaaFnX9
import Derived.Test.YtionapmdibdfpaaGlW
set_option linter.unusedVariables false
set_option linter.unusedSimpArgs false
namespace Go.Gl
open Go.Proofs Go.Proofs.Ytionapmdibdfpaa Go.Pl

section
variable {M : Nat → Prop} {n : Nat} {hb h : AH} {Rs : List Res}
theorem SepM.putM (S : SepM M n hb h Rs) (j : Nat) {b : Nat} {l : List ((Int × Int) × Int)} {x y v : Int} {K : AH → Prop} (hj : gt Rs j = some (.bx b (encM l) 0 [])) (hn : getM l x y = none)
    (hk : ∀ h', SepM M n hb h' (st Rs j (.bx b (encM (l ++ [((x, y), v)])) 0 [])) → K h') : PutM h b [.int .i64 x, .int .i64 y] v K := by
  obtain ⟨F, h1, h2, _, _, h4⟩ := S.step hj
  refine ⟨⟨l, x, y, h1.2, rfl, hn, fun h' e => hk h' ?_⟩⟩
  have hb := look_lt h1.2
  subst e
  refine h4 _ _ F (by simp) ⟨h1.1, by rw [look_set hb, if_pos rfl]⟩ (fun i hi => ⟨by rw [List.length_set]; exact (h2 i hi).1, .inl hi⟩) fun i b' hf e => ?_
  rw [look_set hb, if_neg (fun hh => hf (by rw [hh]; exact h1.1))]
  exact e
theorem SepM.lookM (S : SepM M n hb h Rs) (j : Nat) {b : Nat} {l : List ((Int × Int) × Int)} {x y v : Int} {z : Value} {K : Value → Prop} (hj : gt Rs j = some (.bx b (encM l) 0 [])) (hn : getM l x y = some v) (hk : K (.int .i64 v)) : LookM h b [.int .i64 x, .int .i64 y] z K :=
  ⟨⟨l, x, y, _, S.at_ j hj, rfl, rfl, by unfold valM; rw [hn]; exact hk⟩⟩
end
/-- a row of levels -/
def kL (x : SDouble) (i j n : Nat) : Nat := offT x n (upT i j n)
def rowL (m : Nat) (x : SDouble) (rows : Bool) (A : Nat → Option Addr) (i j : Nat) (c : Nat → Nat) (n : Nat) : Res := .rc 2 1 m (slc A (kL x i j) c n) (kL x i j n) ((levS x rows i j n).map (.int .i64))
/-- what is known when the cell (i, j) is up -/
def StTo (m : Nat) (x : SDouble) (P : DP) (rows : Bool) (b2 b3 b7 b8 b9 bm bd bl : Nat) (i j : Nat) (Rs : List Res) : Prop :=
  ∃ (A : Nat → Option Addr) (c : Nat → Nat), Rs = [.bx b8 27 1 [.slice (some ⟨bd, 0, none⟩) (topT x + 1) 1], .bx bd 2 1 ((dimsS x i j).map (.int .i64)), .bx b7 77 1 [.map (some bm)], .bx bm (encM (atL x i j)) 0 [], .bx b9 22 1 [.slice (some ⟨bl, 0, none⟩) (topT x + 1) 1], .bx bl 27 1 ((List.range (topT x + 1)).map (slc A (kL x i j) c)), .bx b3 4 1 [.bool rows], .bx b2 33 4 (cD x P)] ++ rowsR (topT x + 1) (rowL m x rows A i j c)
theorem rowL_step {m : Nat} {x : SDouble} {rows : Bool} {A : Nat → Option Addr} {c : Nat → Nat} {i j : Nat} {A' : Option Addr} {c' : Nat} :
    (fun n => if n = i + j then Res.rc 2 1 m (.slice A' (kL x i j (i + j) + dN x (i + j) i) c') (kL x i j (i + j) + dN x (i + j) i) ((levS x rows i j (i + j)).map (.int .i64) ++ (levF x rows (i + j) i).map (.int .i64)) else rowL m x rows A i j c n) =
      rowL m x rows (fun n => if n = i + j then A' else A n) i (j + 1) (fun n => if n = i + j then c' else c n) := by
  funext n
  by_cases h : n = i + j
  · subst h
    rw [if_pos rfl]
    unfold rowL slc kL
    rw [(upT_here i j).1, (upT_here i j).2, offT_succ, ← List.map_append, levS_step]
    simp only [↓reduceIte]
  · rw [if_neg h]
    unfold rowL slc kL levS
    simp only [if_neg h, upT_same h]
theorem slcL_step {x : SDouble} {A : Nat → Option Addr} {c : Nat → Nat} {i j : Nat} {A' : Option Addr} {c' : Nat} :
    (fun n => if n = i + j then Value.slice A' (kL x i j (i + j) + dN x (i + j) i) c' else slc A (kL x i j) c n) = slc (fun n => if n = i + j then A' else A n) (kL x i (j + 1)) (fun n => if n = i + j then c' else c n) := by
  funext n
  by_cases h : n = i + j
  · subst h
    unfold slc kL
    rw [(upT_here i j).1, (upT_here i j).2, offT_succ]
    simp only [↓reduceIte]
  · unfold slc kL
    simp only [if_neg h, upT_same h]
theorem kL_le {x : SDouble} (h : DHead x) (i j n : Nat) : kL x i j n ≤ 1000 := by
  have h1 := offT_le x n (upT i j n)
  have h2 : ∀ k, offT x n k ≤ 4 * k := fun k => by
    induction k with
    | zero => exact Nat.le_refl _
    | succ k ih => rw [offT_succ]; have := dN_le h n k; omega
  have h3 : dimT x n = offT x n (dW x) := (dimT_eq x (.inr (Nat.le_refl _))).symm
  have := h2 (dW x)
  have := h.w
  unfold kL; omega

set_option maxHeartbeats 4000000 in
theorem total1_c (m : Nat) (h0 : AH) (x : SDouble) (P : DP) (q : QD h0 x P) (hd : DHead x) (rows : Bool) (b2 b3 b7 b8 b9 bm bd bl : Nat) (i j : Nat) (hi : i < dW x) (hj : j < dH x) :
    Does Try.prog 64 [.int .i64 i, .int .i64 j, .pointer (some ⟨b8, 0, none⟩), .pointer (some ⟨b7, 0, none⟩), .pointer (some ⟨b2, 0, none⟩), .pointer (some ⟨b3, 0, none⟩), .pointer (some ⟨b9, 0, none⟩)] m h0 (StTo m x P rows b2 b3 b7 b8 b9 bm bd bl i j) (StTo m x P rows b2 b3 b7 b8 b9 bm bd bl i (j + 1)) := by
  refine Does.of fun M hb h Rs hlen hle hs S => ?_
  obtain ⟨A, c, rfl⟩ := hs
  refine ACalls.of Tt.tab Try.func64 rfl (by kernel_rfl) Try.ntmps64 _ rfl rfl (fun hw => ?_)
  have hW := hd.w
  have hH := hd.h
  have r3 := hd.dim i j
  have hdN : dimZ x i j = dN x (i + j) i := by rw [dN_in]; omega
  have hn : i + j < topT x + 1 := by unfold topT; omega
  have k0 : kL x i j (i + j) = offT x (i + j) i := by unfold kL; rw [(upT_here i j).1]
  have kle := kL_le hd i j (i + j)
  have dle := dN_le hd (i + j) i
  refine DrawX.of Tt.tab follows_any [] [10] [0, 1, 2, 3, 4, 5, 6, 7, 8, 9, 10] rfl (by kernel_rfl) (by kernel_rfl) ?_
  refine LoadX.same (v := .map (some bm)) (S.at_ 2 rfl) rfl ?_
  refine LoadX.same (v := .slice (some ⟨bd, 0, none⟩) (topT x + 1) 1) (S.at_ 0 rfl) rfl ?_
  refine WR.as (r := ((i + j : Nat) : Int)) (by omega) ?_
  refine IdxX.mk (by omega) (by omega) ?_
  refine S.loadT 1 (f := fun n => (offT x n (upT i j n) : Int)) (y := (offT x (i + j) i : Int)) rfl hn (by rw [(upT_here i j).1]) ?_
  refine S.putM 3 rfl (atL_new x i j) fun g S => ?_
  rw [atL_step] at S
  refine DrawX.of Tt.tab follows_any [] [12] [0, 1, 2, 3, 4, 5, 6, 7, 8, 9, 10, 11, 12] rfl (by kernel_rfl) (by kernel_rfl) ?_
  refine LoadX.same (v := .slice (some ⟨bd, 0, none⟩) (topT x + 1) 1) (S.at_ 0 rfl) rfl ?_
  refine WR.as (r := ((i + j : Nat) : Int)) (by omega) ?_
  refine IdxX.mk (by omega) (by omega) ?_
  refine S.loadT 1 (f := fun n => (offT x n (upT i j n) : Int)) (y := (offT x (i + j) i : Int)) rfl hn (by rw [(upT_here i j).1]) ?_
  refine LoadX.same (v := vD x P) (S.at_ 7 rfl) rfl ?_
  refine QCall.of (fun g2 hl => dim_c g2 _ x i j (q.reads ((hle.trans S.le).trans hl)) hd) rfl ?_
  rw [hdN]
  refine WR.as (r := ((offT x (i + j) i + dN x (i + j) i : Nat) : Int)) (by omega) ?_
  refine IdxX.mk (by omega) (by omega) ?_
  refine S.storeT 1 (k := i + j) (f := fun n => (offT x n (upT i j n) : Int)) rfl hn (fun g S => ?_)
  rw [dimsS_step] at S
  refine LoadX.same (v := .bool rows) (S.at_ 6 rfl) rfl ?_
  have done : ∀ (y : Int) (A' : Option Addr) (c' : Nat) (g : AH), y = (if rows then (j : Int) else i) → SepM M m hb g ([.bx b8 27 1 [.slice (some ⟨bd, 0, none⟩) (topT x + 1) 1], .bx bd 2 1 ((dimsS x i (j + 1)).map (.int .i64)), .bx b7 77 1 [.map (some bm)], .bx bm (encM (atL x i (j + 1))) 0 [], .bx b9 22 1 [.slice (some ⟨bl, 0, none⟩) (topT x + 1) 1], .bx bl 27 1 (setCells ((List.range (topT x + 1)).map (slc A (kL x i j) c)) (0 + (i + j)) [.slice A' (kL x i j (i + j) + dN x (i + j) i) c']), .bx b3 4 1 [.bool rows], .bx b2 33 4 (cD x P)] ++ st (rowsR (topT x + 1) (rowL m x rows A i j c)) (i + j) (.rc 2 1 m (.slice A' (kL x i j (i + j) + dN x (i + j) i) c') (kL x i j (i + j) + dN x (i + j) i) ((levS x rows i j (i + j)).map (.int .i64) ++ (tab (dN x (i + j) i) fun _ => y).map (.int .i64)))) →
      ∃ Rs', StTo m x P rows b2 b3 b7 b8 b9 bm bd bl i (j + 1) Rs' ∧ SepM M m hb g Rs' := fun y A' c' g hy S => by
    refine ⟨_, ⟨fun n => if n = i + j then A' else A n, fun n => if n = i + j then c' else c n, rfl⟩, S.eq ?_⟩
    have el : (tab (dN x (i + j) i) fun _ => y) = levF x rows (i + j) i := by
      unfold levF
      rw [show (if rows then (((i + j : Nat) : Int) - i) else (i : Int)) = y by rw [hy]; cases rows <;> simp; omega]
      refine List.ext_getElem (by simp [tab]) fun k h1 h2 => ?_
      simp [tab]
    rw [setCells_map hn, st_rowsR, slcL_step, el]
    exact congrArg (fun l => _ :: _ :: _ :: _ :: _ :: _ :: _ :: _ :: l) (congrArg (rowsR (topT x + 1)) rowL_step)
  refine BIf.mk (fun er => ?_) (fun er => ?_)
  all_goals
    refine DrawX.tree Tt.tab follows_any [11, 16] [17, 19] (.op 1 (.op 2 (.op 3 (.op 4 (.op 5 (.op 6 (.op 7 (.op 8 (.op 9 (.op 10 (.op 12 (.op 13 (.op 14 (.op 15 (.alt (.op 0 (.op 11 (.op 16 (.op 17 (.op 18 (.op 19 (.nil))))))) (.op 11 (.alt (.op 0 (.op 16 (.op 17 (.op 18 (.op 19 (.nil)))))) (.op 16 (.alt (.op 0 (.op 17 (.op 18 (.op 19 (.nil))))) (.op 17 (.op 0 (.op 18 (.op 19 (.nil)))))))))))))))))))))))) [] (fun vs g => ∃ Rs', StTo m x P rows b2 b3 b7 b8 b9 bm bd bl i (j + 1) Rs' ∧ SepM M m hb g Rs') (by kernel_rfl) (by kernel_rfl) ?_ ?_
    · refine WR.as (r := ((i + j : Nat) : Int)) (by omega) ?_
      refine LoadX.same (v := .slice (some ⟨bl, 0, none⟩) (topT x + 1) 1) (S.at_ 4 rfl) rfl ?_
      refine WR.as (r := ((i + j : Nat) : Int)) (by omega) ?_
      refine IdxX.mk (by omega) (by omega) ?_
      refine LoadX.same (v := slc A (kL x i j) c (i + j)) (S.at_ 5 rfl) (ldv_map rfl hn) ?_
      refine LoadX.same (v := vD x P) (S.at_ 7 rfl) rfl ?_
      refine QCall.of (fun g2 hl => dim_c g2 _ x i j (q.reads ((hle.trans S.le).trans hl)) hd) rfl ?_
      rw [hdN]
      refine ⟨?_, ?_⟩
      · refine LoadX.same (v := .slice (some ⟨bl, 0, none⟩) (topT x + 1) 1) (S.at_ 4 rfl) rfl ?_
        refine S.newL fun b4 g L S => ?_
        refine ⟨L, ?_⟩
        refine S.madeL OI.fr (repeat_c _ _ _ _ _ _ (S.at_ 0 rfl) (by omega)) fun b5 o5 g L S => ?_
        have cc := S.cellsI 0 rfl
        rw [tab_length] at S ⊢
        refine ⟨L, ?_⟩
        refine S.appNs (i + j + 10) (gt_rowsR hn) (Le.refl _) cc (tab_length _ _) (by omega) fun A' c' g S => ?_
        refine IdxX.mk (by omega) (by omega) ?_
        refine S.store (o := 0 + (i + j)) (vs := [.slice A' (kL x i j (i + j) + dN x (i + j) i) c']) 7 rfl (by rw [List.length_map, List.length_range]; show 0 + (i + j) + 1 ≤ topT x + 1; omega) fun g S => ?_
        exact done _ A' c' g (by simp [er]) S.tail.tail
      · refine S.newL fun b4 g L S => ?_
        refine ⟨L, ?_⟩
        refine ⟨?_, ?_⟩
        · refine LoadX.same (v := .slice (some ⟨bl, 0, none⟩) (topT x + 1) 1) (S.at_ 5 rfl) rfl ?_
          refine S.madeL OI.fr (repeat_c _ _ _ _ _ _ (S.at_ 0 rfl) (by omega)) fun b5 o5 g L S => ?_
          have cc := S.cellsI 0 rfl
          rw [tab_length] at S ⊢
          refine ⟨L, ?_⟩
          refine S.appNs (i + j + 10) (gt_rowsR hn) (Le.refl _) cc (tab_length _ _) (by omega) fun A' c' g S => ?_
          refine IdxX.mk (by omega) (by omega) ?_
          refine S.store (o := 0 + (i + j)) (vs := [.slice A' (kL x i j (i + j) + dN x (i + j) i) c']) 7 rfl (by rw [List.length_map, List.length_range]; show 0 + (i + j) + 1 ≤ topT x + 1; omega) fun g S => ?_
          exact done _ A' c' g (by simp [er]) S.tail.tail
        · refine S.madeL OI.fr (repeat_c _ _ _ _ _ _ (S.at_ 0 rfl) (by omega)) fun b5 o5 g L S => ?_
          have cc := S.cellsI 0 rfl
          rw [tab_length] at S ⊢
          refine ⟨L, ?_⟩
          refine ⟨?_, ?_⟩
          · refine LoadX.same (v := .slice (some ⟨bl, 0, none⟩) (topT x + 1) 1) (S.at_ 6 rfl) rfl ?_
            refine S.appNs (i + j + 10) (gt_rowsR hn) (Le.refl _) cc (tab_length _ _) (by omega) fun A' c' g S => ?_
            refine IdxX.mk (by omega) (by omega) ?_
            refine S.store (o := 0 + (i + j)) (vs := [.slice A' (kL x i j (i + j) + dN x (i + j) i) c']) 7 rfl (by rw [List.length_map, List.length_range]; show 0 + (i + j) + 1 ≤ topT x + 1; omega) fun g S => ?_
            exact done _ A' c' g (by simp [er]) S.tail.tail
          · refine S.appNs (i + j + 10) (gt_rowsR hn) (Le.refl _) cc (tab_length _ _) (by omega) fun A' c' g S => ?_
            refine LoadX.same (v := .slice (some ⟨bl, 0, none⟩) (topT x + 1) 1) (S.at_ 6 rfl) rfl ?_
            refine IdxX.mk (by omega) (by omega) ?_
            refine S.store (o := 0 + (i + j)) (vs := [.slice A' (kL x i j (i + j) + dN x (i + j) i) c']) 7 rfl (by rw [List.length_map, List.length_range]; show 0 + (i + j) + 1 ≤ topT x + 1; omega) fun g S => ?_
            exact done _ A' c' g (by simp [er]) S.tail.tail
    · rintro vs g ⟨Rs', hs', S⟩
      exact FinX.here (by have := S.le.len; omega) ⟨rfl, Rs', hs', S⟩

end Go.Gl

/- Chapter 3: TransposeDouble, the reference's side. No condition. -/
import Derived.Test.YtbjohihngoghlaaFnX8
set_option linter.unusedVariables false
set_option linter.unusedSimpArgs false
namespace Go.Gl
open Go.Proofs Go.Proofs.Ytbjohihngoghlaa Go.Pl


theorem l01RowsX_c (h : AH) (v : Value) (xs : List (List Int)) (hx : RII h v xs) (hl : xs.length ≤ 1000) (hw1 : ∀ i, i < xs.length → (row xs i).length ≤ 1000) : ACalls Try.prog 181 [v] h (Made OII h xs) := by
  obtain ⟨_, b1, o1, k1, c1⟩ := hx
  refine ACalls.madeN (ACalls.wk (args' := [.slice (some ⟨b1, o1, none⟩) xs.length 0]) ?_ (.cons k1 .nil))
  refine ACalls.of Tt.tab Try.func181 rfl (by kernel_rfl) Try.ntmps181 _ rfl rfl (fun hw => ?_)
  have S := Sep.start h
  refine S.new fun b g S => ?_
  have S := S.bx_rw 0 OI.fr rfl
  refine ⟨⟨[0, 2, 3, 4], fun n' vs g => ∃ (i b : Nat), n' = xs.length - i ∧ i ≤ xs.length ∧ Sep h.length h g [.rw OI.fr 22 h.length (.slice (some ⟨b, 0, none⟩) i 1) i (tabR i (row xs))] ∧
    vs = [.slice (some ⟨b1, o1, none⟩) xs.length 0, .slice none 0 0, .slice (some ⟨b, 0, none⟩) i 1, .int .i64 i], _, ⟨0, b, rfl, Nat.zero_le _, S, rfl⟩, ?_⟩⟩
  rintro n' vs g ⟨i, b, rfl, hi, S, rfl⟩
  refine BIf.mk (fun h2 => ?_) (fun h2 => ?_)
  · have hlt : i < xs.length := by simpa using h2
    have hwi := hw1 i hlt
    refine IdxX.mk (by omega) (by omega) ?_
    refine c1.rowY S.le hlt fun b2 o2 h3 => ?_
    refine S.made OI.fr (l01Own_c _ _ (row xs i) (RI.le _ _ _ _ S.le h3) (by omega)) fun b4 o4 g S => ?_
    refine S.new fun b5 g S => ?_
    refine S.appT 0 rfl rfl (by omega) fun b6 g S => ?_
    refine WR.i64 ?_
    exact ⟨xs.length - (i + 1), by omega, i + 1, b6, rfl, hlt, by rw [tabR_succ]; exact S, rfl⟩
  · have hi2 : i = xs.length := by simp at h2; omega
    subst hi2
    rw [← tabR_eq] at S
    exact (S.rw_tr 0 rfl (by omega)).fin 0 rfl

theorem l03Flip_c (h : AH) (v : Value) (x : SDouble) (hx : RDouble h v x) (hd : DShape x) : ACalls Try.prog 127 [v] h (fun r h' => ∃ (P' : DP) (l : List Nat), r = vD (flipD x) P' ∧ ODouble h.length h' (vD (flipD x) P') (flipD x) l ∧ Le h h') := by
  suffices hh : ACalls Try.prog 127 [v] h (fun r h' => ∃ l, ODouble h.length h' r (flipD x) l ∧ Le h h') from hh.can fun r h' ⟨l, ⟨v1, v2, v3, e, p⟩, L⟩ => by
    subst e
    obtain ⟨b1, o1, b2, o2, b3, o3, k1, k2, k3, p⟩ := p.can
    exact ⟨_, Wk.agg (.cons (Wk.refl _) (.cons k1 (.cons k2 (.cons k3 .nil)))), ⟨b1, o1, b2, o2, b3, o3⟩, l, rfl, ⟨_, _, _, rfl, p⟩, L⟩
  obtain ⟨P, kx, qx⟩ := hx.at_
  refine ACalls.wk (args' := [vD x P]) ?_ (.cons kx .nil)
  refine ACalls.of Tt.tab Try.func127 rfl (by kernel_rfl) Try.ntmps127 _ rfl rfl (fun hw => ?_)
  have S := Sep.start h
  have c1 := RS.cells qx.1 rfl
  have c2 := RS.cells qx.2.1 rfl
  have c3 := RS.cells qx.2.2 rfl
  have hW := hd.w
  have hH := hd.h
  have h1 : 0 < x.dims.length := hW.1
  have eW : x.dims.length = dW x := rfl
  have eH : (row x.dims 0).length = dH x := rfl
  have szs : ∀ t w, TabOk x t w → (∀ i j, 0 ≤ w i j ∧ w i j ≤ 4) → ∀ i j, i < dW x → j < dH x → (cel t i j).length ≤ 1000 ∧ ∀ k, k < (cel t i j).length → (row (cel t i j) k).length ≤ 1000 := fun t w ht hw i j hi hj => by
    obtain ⟨t1, t2⟩ := ht.cell i j
    rw [celZ_in hi hj] at t1 t2
    have := hd.dim i j
    refine ⟨by omega, fun k hk => ?_⟩
    have := (t2.row hk).1
    have := hw i j
    omega
  have szA := szs x.across _ hd.acr fun i j => hd.dim (i - 1) j
  have szD := szs x.down _ hd.dwn fun i j => hd.dim i (j - 1)
  refine S.new fun b g S => ?_
  refine S.new fun b2 g S => ?_
  refine DrawX.of Tt.tab follows_any [] [] [0, 1, 2, 3, 4, 5, 6, 7, 8, 9] rfl (by kernel_rfl) (by kernel_rfl) ?_
  refine LoadX.same (v := vD1 x P) (S.at_ 1 rfl) rfl ?_
  refine LoadX.same (v := vD1 x P) (S.at_ 1 rfl) rfl ?_
  refine IdxX.mk (by omega) (by omega) ?_
  refine c1.rowY S.le h1 fun b4 o4 r4 => ?_
  refine LoadX.same (v := .int .i64 x.prime) (S.at_ 1 rfl) rfl ?_
  refine S.new fun d1 g S => ?_
  have S := S.bx_rw 0 OI.fr rfl
  refine S.new fun d2 g S => ?_
  have S := S.bx_rw 0 OIII.fr rfl
  refine S.new fun d3 g S => ?_
  have S := S.bx_rw 0 OIII.fr rfl
  refine S.new fun b5 g S => ?_
  refine S.put 0 rfl fun g S => ?_
  refine ⟨⟨[1, 2, 3, 4, 5, 6], fun n' vs g => ∃ (j d1 d2 d3 : Nat), n' = dH x - j ∧ j ≤ dH x ∧ Sep h.length h g [.bx b5 71 4 [.int .i64 x.prime, .slice (some ⟨d1, 0, none⟩) j 1, .slice (some ⟨d2, 0, none⟩) j 1, .slice (some ⟨d3, 0, none⟩) j 1], .rw OIII.fr 23 h.length (.slice (some ⟨d3, 0, none⟩) j 1) j ((List.range j).map fun j => (List.range (dW x)).map fun i => cel x.across i j), .rw OIII.fr 23 h.length (.slice (some ⟨d2, 0, none⟩) j 1) j ((List.range j).map fun j => (List.range (dW x)).map fun i => cel x.down i j), .rw OI.fr 22 h.length (.slice (some ⟨d1, 0, none⟩) j 1) j ((List.range j).map fun j => (List.range (dW x)).map fun i => ent x.dims i j), .bx b2 71 4 [.int .i64 0, .slice none 0 0, .slice none 0 0, .slice none 0 0], .bx b 71 4 (cD x P)] ∧
    vs = [.pointer (some ⟨b, 0, none⟩), .pointer (some ⟨b2, 0, none⟩), .int .i64 (dW x), .int .i64 (dH x), .pointer (some ⟨b5, 0, none⟩), .int .i64 j], _, ⟨0, d1, d2, d3, rfl, Nat.zero_le _, S, rfl⟩, ?_⟩⟩
  clear S
  rintro n' vs g ⟨j, d1, d2, d3, rfl, hj, S, rfl⟩
  refine BIf.mk (fun h2 => ?_) (fun h2 => ?_)
  · have hjl : j < dH x := by simp at h2; omega
    refine S.new fun e1 g S => ?_
    have S := S.bx_rc 0 (k := 0) rfl rfl
    refine S.new fun e2 g S => ?_
    have S := S.bx_rw 0 OII.fr rfl
    refine S.new fun e3 g S => ?_
    have S := S.bx_rw 0 OII.fr rfl
    refine ⟨⟨[1, 2, 3, 4, 5, 6, 7, 8, 9, 10], fun n' vs g => ∃ (i e1 e2 e3 : Nat), n' = dW x - i ∧ i ≤ dW x ∧ Sep h.length h g [.rw OII.fr 41 h.length (.slice (some ⟨e3, 0, none⟩) i 1) i ((List.range i).map fun i => cel x.across i j), .rw OII.fr 41 h.length (.slice (some ⟨e2, 0, none⟩) i 1) i ((List.range i).map fun i => cel x.down i j), .rc 2 1 h.length (.slice (some ⟨e1, 0, none⟩) i 1) i (((List.range i).map fun i => ent x.dims i j).map (.int .i64)), .bx b5 71 4 [.int .i64 x.prime, .slice (some ⟨d1, 0, none⟩) j 1, .slice (some ⟨d2, 0, none⟩) j 1, .slice (some ⟨d3, 0, none⟩) j 1], .rw OIII.fr 23 h.length (.slice (some ⟨d3, 0, none⟩) j 1) j ((List.range j).map fun j => (List.range (dW x)).map fun i => cel x.across i j), .rw OIII.fr 23 h.length (.slice (some ⟨d2, 0, none⟩) j 1) j ((List.range j).map fun j => (List.range (dW x)).map fun i => cel x.down i j), .rw OI.fr 22 h.length (.slice (some ⟨d1, 0, none⟩) j 1) j ((List.range j).map fun j => (List.range (dW x)).map fun i => ent x.dims i j), .bx b2 71 4 [.int .i64 0, .slice none 0 0, .slice none 0 0, .slice none 0 0], .bx b 71 4 (cD x P)] ∧
      vs = [.pointer (some ⟨b, 0, none⟩), .pointer (some ⟨b2, 0, none⟩), .int .i64 (dW x), .int .i64 (dH x), .pointer (some ⟨b5, 0, none⟩), .int .i64 j, .slice (some ⟨e1, 0, none⟩) i 1, .slice (some ⟨e2, 0, none⟩) i 1, .slice (some ⟨e3, 0, none⟩) i 1, .int .i64 i], _, ⟨0, e1, e2, e3, rfl, Nat.zero_le _, S, rfl⟩, ?_⟩⟩
    clear S
    rintro n' vs g ⟨i, e1, e2, e3, rfl, hi, S, rfl⟩
    refine BIf.mk (fun h3 => ?_) (fun h3 => ?_)
    · have hlt : i < dW x := by simpa using h3
      have hcol := hd.col i hlt
      have hla : x.across.length = dW x := hd.acr.1
      have hlc := hd.acr.2.1 i hlt
      have hla3 : x.down.length = dW x := hd.dwn.1
      have hlc3 := hd.dwn.2.1 i hlt
      obtain ⟨sA1, sA2⟩ := szA i j hlt hjl
      obtain ⟨sD1, sD2⟩ := szD i j hlt hjl
      refine LoadX.same (v := vD1 x P) (S.at_ 8 rfl) rfl ?_
      refine IdxX.mk (by omega) (by omega) ?_
      refine c1.row S.le (show i < x.dims.length from hlt) fun b6 o6 c6 => ?_
      refine IdxX.mk (by omega) (by omega) ?_
      refine c6.ith S.le (show j < (row x.dims i).length by omega) ?_
      refine S.new fun b7 g S => ?_
      refine S.app 2 rfl rfl rfl (by omega) fun e1 g S => ?_
      refine LoadX.same (v := vD3 x P) (S.at_ 8 rfl) rfl ?_
      refine IdxX.mk (by omega) (by omega) ?_
      refine c3.ten S.le (show i < x.down.length by omega) fun b8 o8 h8 => ?_
      have c8 := h8.cells rfl
      refine IdxX.mk (by omega) (by omega) ?_
      refine c8.mat S.le (show j < (ten x.down i).length by omega) fun b9 o9 h9 => ?_
      refine S.made OII.fr (l01RowsX_c _ _ (cel x.down i j) (RII.le _ _ _ _ S.le h9) sD1 sD2) fun b10 o10 g S => ?_
      refine S.new fun b11 g S => ?_
      refine S.appT 1 rfl rfl (by omega) fun e2 g S => ?_
      refine LoadX.same (v := vD2 x P) (S.at_ 8 rfl) rfl ?_
      refine IdxX.mk (by omega) (by omega) ?_
      refine c2.ten S.le (show i < x.across.length by omega) fun b12 o12 h12 => ?_
      have c12 := h12.cells rfl
      refine IdxX.mk (by omega) (by omega) ?_
      refine c12.mat S.le (show j < (ten x.across i).length by omega) fun b13 o13 h13 => ?_
      refine S.made OII.fr (l01RowsX_c _ _ (cel x.across i j) (RII.le _ _ _ _ S.le h13) sA1 sA2) fun b14 o14 g S => ?_
      refine S.new fun b15 g S => ?_
      refine S.appT 0 rfl rfl (by omega) fun e3 g S => ?_
      refine WR.i64 ?_
      refine ⟨dW x - (i + 1), by omega, i + 1, e1, e2, e3, rfl, hlt, S.eq ?_, rfl⟩
      rw [← range_snoc i (fun i => cel x.across i j), ← range_snoc i (fun i => cel x.down i j), ← range_snoc i (fun i => ent x.dims i j), List.map_append]
      rfl
    · have hi2 : i = dW x := by simp at h3; omega
      subst hi2
      have S := S.rw_tr 0 rfl (by omega)
      have S := S.rw_tr 1 rfl (by omega)
      have S := S.rc_tr 2 rfl (by simp; omega)
      refine LoadX.same (v := .slice (some ⟨d1, 0, none⟩) j 1) (S.at_ 3 rfl) rfl ?_
      have S := S.front 2 rfl
      refine S.new fun b16 g S => ?_
      refine S.appT 5 rfl rfl (by omega) fun d1 g S => ?_
      refine S.put 2 rfl fun g S => ?_
      refine LoadX.same (v := .slice (some ⟨d2, 0, none⟩) j 1) (S.at_ 2 rfl) rfl ?_
      have S := S.front 1 rfl
      refine S.new fun b17 g S => ?_
      refine S.appT 3 rfl rfl (by omega) fun d2 g S => ?_
      refine S.put 1 rfl fun g S => ?_
      refine LoadX.same (v := .slice (some ⟨d3, 0, none⟩) j 1) (S.at_ 1 rfl) rfl ?_
      refine S.new fun b18 g S => ?_
      refine S.appT 1 rfl rfl (by omega) fun d3 g S => ?_
      refine S.put 0 rfl fun g S => ?_
      refine WR.i64 ?_
      refine ⟨dH x - (j + 1), by omega, j + 1, d1, d2, d3, rfl, hjl, S.eq ?_, rfl⟩
      rw [← range_snoc j (fun j => (List.range (dW x)).map fun i => cel x.across i j), ← range_snoc j (fun j => (List.range (dW x)).map fun i => cel x.down i j), ← range_snoc j (fun j => (List.range (dW x)).map fun i => ent x.dims i j)]
      rfl
  · have hj2 : j = dH x := by simp at h2; omega
    subst hj2
    refine LoadX.same (v := .agg #[.int .i64 x.prime, .slice (some ⟨d1, 0, none⟩) (dH x) 1, .slice (some ⟨d2, 0, none⟩) (dH x) 1, .slice (some ⟨d3, 0, none⟩) (dH x) 1]) (S.at_ 0 rfl) rfl ?_
    refine S.put 4 rfl fun g S => ?_
    refine LoadX.same (v := .agg #[.int .i64 x.prime, .slice (some ⟨d1, 0, none⟩) (dH x) 1, .slice (some ⟨d2, 0, none⟩) (dH x) 1, .slice (some ⟨d3, 0, none⟩) (dH x) 1]) (S.at_ 4 rfl) rfl ?_
    have S := S.rw_tr 1 rfl (by omega)
    have S := S.rw_tr 2 rfl (by omega)
    have S := S.rw_tr 3 rfl (by omega)
    have S := ((S.front 1 rfl).front 2 rfl).front 3 rfl
    obtain ⟨l, hl⟩ := SepM.finD (x := flipD x) S
    exact FinX.here S.le.len ⟨l, hl, S.le⟩

theorem transDS_c (h : AH) (v : Value) (x : SDouble) (hx : RDouble h v x) : ACalls Try.prog 49 [v] h (fun r h' => ∃ v l, r = .tuple #[v, .int .i64 (transD x).2] ∧ ODouble h.length h' v (transD x).1 l ∧ Le h h') := by
  obtain ⟨P, kx, qx⟩ := hx.at_
  refine ACalls.wk (args' := [vD x P]) ?_ (.cons kx .nil)
  refine ACalls.of Tt.tab Try.func49 rfl (by kernel_rfl) Try.ntmps49 _ rfl rfl (fun hw => ?_)
  have S := Sep.start h
  refine S.new fun b g S => ?_
  refine S.new fun b2 g S => ?_
  refine LoadX.same (v := vD x P) (S.at_ 1 rfl) rfl ?_
  refine CallX.same (l03Is_c _ _ x (qx.reads S.le)) ?_
  rintro r g ⟨rfl, rfl⟩
  unfold transD
  refine BIf.mk (fun h1 => ?_) (fun h1 => ?_)
  · have h1 : dOk x = false := by simpa using h1
    rw [h1]
    refine S.put 0 rfl fun g S => ?_
    refine LoadX.same (v := .agg #[.int .i64 0, .slice none 0 0, .slice none 0 0, .slice none 0 0]) (S.at_ 0 rfl) rfl ?_
    exact FinX.here S.le.len ⟨_, [], rfl, ODouble.zero _ _, S.le⟩
  have h1 : dOk x = true := by simpa using h1
  rw [if_pos h1]
  have hd := (dOk_mk h1).toDShape
  refine LoadX.same (v := vD x P) (S.at_ 1 rfl) rfl ?_
  refine CallX.same (l03Flip_c _ _ x (qx.reads S.le) hd) ?_
  rintro r g' ⟨P', l, rfl, ho, L⟩
  have S := S.tree ODouble.fr ho L
  clear ho
  refine S.put 1 rfl fun g S => ?_
  refine LoadX.same (v := vD (flipD x) P') (S.at_ 1 rfl) rfl ?_
  obtain ⟨l, t⟩ := S.tre 0 rfl
  exact FinX.here S.le.len ⟨_, l, rfl, t, S.le⟩

theorem cnL_range {α : Type} {f : α → Nat} {n m : Nat} {g : Nat → α} (h : ∀ i, i < n → f (g i) ≤ m) : cnL f ((List.range n).map g) ≤ n * m := by
  induction n with
  | zero => simp [cnL]
  | succ n ih =>
    rw [List.range_succ, List.map_append]
    have h1 := ih (fun i hi => h i (by omega))
    have h2 := h n (by omega)
    unfold cnL at h1 ⊢
    rw [List.map_append, List.sum_append, Nat.succ_mul]
    simp only [List.map_cons, List.map_nil, List.sum_cons, List.sum_nil]
    omega
theorem cnII_matX {p : Int} {n : Nat} : ∀ {rows : List (List Int)}, Mat p n rows → cnII rows = rows.length * n
  | [], _ => by simp [cnL]
  | r :: rows, h => by
    have ih := cnII_matX (rows := rows) fun x hx => h x (List.mem_cons_of_mem _ hx)
    have h1 := (h r List.mem_cons_self).1
    unfold cnII cnL at ih ⊢
    rw [List.map_cons, List.sum_cons, ih, List.length_cons, Nat.succ_mul]
    simp [cnI, h1]; omega
theorem cell_cn {x : SDouble} {t : List (List (List (List Int)))} {w : Int → Int → Int} (hd : DHead x) (ht : TabOk x t w) (hw : ∀ i j, 0 ≤ w i j ∧ w i j ≤ 4) {i j : Nat} (hi : i < dW x) (hj : j < dH x) : cnII (cel t i j) ≤ 16 := by
  obtain ⟨t1, t2⟩ := ht.cell i j
  rw [celZ_in hi hj] at t1 t2
  have h1 := hd.dim i j
  have h2 := hw i j
  rw [cnII_matX t2]
  calc (cel t i j).length * (w i j).toNat ≤ 4 * 4 := Nat.mul_le_mul (by omega) (by omega)
    _ = 16 := rfl
theorem flipT_cn {x : SDouble} {t : List (List (List (List Int)))} {w : Int → Int → Int} (hd : DHead x) (ht : TabOk x t w) (hw : ∀ i j, 0 ≤ w i j ∧ w i j ≤ 4) : cnIIII (flipT t (dW x) (dH x)) ≤ 4 * 64 := by
  have hW := hd.w
  have hH := hd.h
  refine Nat.le_trans (cnL_range (m := 64) fun j hj => ?_) (Nat.mul_le_mul_right _ hH.2)
  refine Nat.le_trans (cnL_range (f := cnII) (m := 16) fun i hi => cell_cn hd ht hw hi hj) ?_
  omega
theorem transD_cn (x : SDouble) : cnDouble (transD x).1 ≤ 1000 := by
  unfold transD
  split
  · rename_i h
    have hd := (dOk_mk h).toDShape
    have hW := hd.w
    have hH := hd.h
    have h1 := flipT_cn hd.toDHead hd.acr fun i j => hd.dim (i - 1) j
    have h2 := flipT_cn hd.toDHead hd.dwn fun i j => hd.dim i (j - 1)
    have h3 : cnII (flipII x.dims (dW x) (dH x)) ≤ dH x * 4 := cnL_range fun j hj => by simp [cnI]; omega
    show cnII (flipII x.dims (dW x) (dH x)) + cnIIII (flipT x.down (dW x) (dH x)) + cnIIII (flipT x.across (dW x) (dH x)) ≤ 1000
    omega
  · decide

end Go.Gl

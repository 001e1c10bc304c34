/- Chapter 3: transposed double complexes, the program's side. No condition. Chapter 3: TransposeDouble, the program's side. No condition. Chapter 3: TransposeDouble, the reference's side. No condition. -/
import Derived.Test.YtbjohihngoghlaaGreatFnX5
import Derived.Test.YtbjohihngoghlaaGreatGlO
import Derived.Test.YtbjohihngoghlaaGreatGlR
set_option linter.unusedVariables false
set_option linter.unusedSimpArgs false
namespace Go.Gl
open Go.Proofs Go.Proofs.YtbjohihngoghlaaGreat Go.Pl

/-- a table of cells, columns and rows exchanged -/
def flipT (t : List (List (List (List Int)))) (W H : Nat) : List (List (List (List Int))) := (List.range H).map fun j => (List.range W).map fun i => cel t i j
def flipII (d : List (List Int)) (W H : Nat) : List (List Int) := (List.range H).map fun j => (List.range W).map fun i => ent d i j
def flipD (x : SDouble) : SDouble := ⟨x.prime, flipII x.dims (dW x) (dH x), flipT x.down (dW x) (dH x), flipT x.across (dW x) (dH x)⟩
def noDouble : SDouble := ⟨0, [], [], []⟩
noncomputable def transD (x : SDouble) : SDouble × Int := if dOk x then (flipD x, 0) else (noDouble, 1)
/-- how long a row is after some columns -/
def kk (i j j' : Nat) : Nat := if j' < j then i + 1 else i
theorem kk_row (i H j' : Nat) (h : j' < H) : kk i H j' = kk (i + 1) 0 j' := by unfold kk; rw [if_pos h, if_neg (by omega)]
def slc (A : Nat → Option Addr) (k c : Nat → Nat) (j : Nat) : Value := .slice (A j) (k j) (c j)
def rowM (n : Nat) (t : List (List (List (List Int)))) (A : Nat → Option Addr) (k c : Nat → Nat) (j : Nat) : Res := .rw OII.fr 22 n (slc A k c j) (k j) ((List.range (k j)).map fun i => cel t i j)
theorem range_snoc {α : Type _} (n : Nat) (f : Nat → α) : (List.range n).map f ++ [f n] = (List.range (n + 1)).map f := by simp [List.range_succ]
theorem rowM_step {n : Nat} {t : List (List (List (List Int)))} {A : Nat → Option Addr} {c : Nat → Nat} {i j b : Nat} :
    (fun i' => if i' = j then Res.rw OII.fr 22 n (.slice (some ⟨b, 0, none⟩) (kk i j j + 1) 1) (kk i j j + 1) (((List.range (kk i j j)).map fun i => cel t i j) ++ [cel t i j]) else rowM n t A (kk i j) c i') =
      rowM n t (fun i' => if i' = j then some ⟨b, 0, none⟩ else A i') (kk i (j + 1)) (fun i' => if i' = j then 1 else c i') := by
  funext i'
  have ek : kk i j j = i := if_neg (by omega)
  by_cases h : i' = j
  · subst h
    rw [if_pos rfl]
    unfold rowM slc
    have e2 : kk i (i' + 1) i' = i + 1 := if_pos (by omega)
    simp only [↓reduceIte, e2, ek, range_snoc]
  · rw [if_neg h]
    unfold rowM slc
    have e2 : kk i (j + 1) i' = kk i j i' := by unfold kk; by_cases h2 : i' < j; rw [if_pos h2, if_pos (by omega)]; rw [if_neg h2, if_neg (by omega)]
    simp only [if_neg h, e2]
theorem slc_step {A : Nat → Option Addr} {c : Nat → Nat} {i j b : Nat} :
    (fun i' => if i' = j then Value.slice (some ⟨b, 0, none⟩) (kk i j j + 1) 1 else slc A (kk i j) c i') = slc (fun i' => if i' = j then some ⟨b, 0, none⟩ else A i') (kk i (j + 1)) (fun i' => if i' = j then 1 else c i') := by
  funext i'
  have ek : kk i j j = i := if_neg (by omega)
  by_cases h : i' = j
  · subst h
    unfold slc
    have e2 : kk i (i' + 1) i' = i + 1 := if_pos (by omega)
    simp only [↓reduceIte, e2, ek]
  · unfold slc
    have e2 : kk i (j + 1) i' = kk i j i' := by unfold kk; by_cases h2 : i' < j; rw [if_pos h2, if_pos (by omega)]; rw [if_neg h2, if_neg (by omega)]
    simp only [if_neg h, e2]
theorem nils_map (H : Nat) : (List.replicate H [Value.slice none 0 0]).flatten = (List.range H).map (slc (fun _ => none) (kk 0 0) fun _ => 0) := by
  have : slc (fun _ => none) (kk 0 0) (fun _ => 0) = fun _ => Value.slice none 0 0 := by funext j; unfold slc kk; rw [if_neg (by omega)]
  rw [this]
  induction H with
  | zero => rfl
  | succ H ih => rw [List.replicate_succ', List.flatten_append, ih, List.range_succ]; simp

theorem turned_c (h : AH) (v : Value) (t : List (List (List (List Int)))) (W H : Nat) (ht : RIIII h v t) (hl : t.length = W) (hW : 1 ≤ W ∧ W ≤ 100) (hH : ∀ i, i < W → (ten t i).length = H) (hH2 : H ≤ 100)
    (hs : ∀ i j, i < W → j < H → (cel t i j).length ≤ 1000 ∧ ∀ k, k < (cel t i j).length → (row (cel t i j) k).length ≤ 1000) : ACalls Tryz.prog 72 [v] h (Made OIIII h (flipT t W H)) := by
  obtain ⟨_, b1, o1, k1, c1⟩ := ht
  refine ACalls.madeN (ACalls.wk (args' := [.slice (some ⟨b1, o1, none⟩) t.length 0]) ?_ (.cons k1 .nil))
  refine ACalls.of Tt.tab Tryz.func72 rfl (by kernel_rfl) Tryz.ntmps72 _ rfl rfl (fun hw => ?_)
  have S := Sep.start h
  have hH0 := hH 0 (by omega)
  refine IdxX.mk (by omega) (by omega) ?_
  refine c1.ten S.le (show 0 < t.length by omega) fun b2 o2 h2 => ?_
  rw [hH0]
  refine ⟨by omega, rfl, by omega, by show (H : Int) * (24 : Nat) ≤ _; omega, ?_⟩
  refine S.new fun b3 g S => ?_
  have S := S.recast 0 rfl (nils_map _)
  rw [show ((H : Int)).toNat = H from Int.toNat_natCast H] at S ⊢
  have S := (S.nilsW OII.fr 22 H).eq (Rs' := .bx b3 50 1 ((List.range H).map (slc (fun _ => none) (kk 0 0) fun _ => 0)) :: rowsR H (rowM h.length t (fun _ => none) (kk 0 0) fun _ => 0)) (by
    have : (rowM h.length t (fun _ => none) (kk 0 0) fun _ => 0) = fun _ => Res.rw OII.fr 22 h.length (.slice none 0 0) 0 [] := by
      funext j; unfold rowM slc kk; rw [if_neg (by omega)]; rfl
    rw [this]; rfl)
  refine ⟨⟨[3, 16, 17, 18], fun n' vs g => ∃ (i : Nat) (A : Nat → Option Addr) (c : Nat → Nat), n' = W - i ∧ i ≤ W ∧ Sep h.length h g (.bx b3 50 1 ((List.range H).map (slc A (kk i 0) c)) :: rowsR H (rowM h.length t A (kk i 0) c)) ∧
    vs = [.slice (some ⟨b3, 0, none⟩) H 1, .slice (some ⟨b1, o1, none⟩) t.length 0, .int .i64 t.length, .int .i64 i], _, ⟨0, _, _, rfl, Nat.zero_le _, S, rfl⟩, ?_⟩⟩
  clear S
  rintro n' vs g ⟨i, A, c, rfl, hi, S, rfl⟩
  refine BIf.mk (fun h3 => ?_) (fun h3 => ?_)
  · have hlt : i < W := by simp at h3; omega
    have hHi := hH i hlt
    refine IdxX.mk (by omega) (by omega) ?_
    refine c1.ten S.le (show i < t.length by omega) fun b4 o4 h4 => ?_
    have c4 := h4.cells rfl
    refine ⟨⟨[3, 16, 17, 18, 22, 23, 24], fun n' vs g => ∃ (j : Nat) (A : Nat → Option Addr) (c : Nat → Nat), n' = H - j ∧ j ≤ H ∧ Sep h.length h g (.bx b3 50 1 ((List.range H).map (slc A (kk i j) c)) :: rowsR H (rowM h.length t A (kk i j) c)) ∧
      vs = [.slice (some ⟨b3, 0, none⟩) H 1, .slice (some ⟨b1, o1, none⟩) t.length 0, .int .i64 t.length, .int .i64 i, .slice (some ⟨b4, o4, none⟩) (ten t i).length 0, .int .i64 (ten t i).length, .int .i64 j], _, ⟨0, A, c, rfl, Nat.zero_le _, S, rfl⟩, ?_⟩⟩
    clear S A c
    rintro n' vs g ⟨j, A, c, rfl, hj, S, rfl⟩
    refine BIf.mk (fun h5 => ?_) (fun h5 => ?_)
    · have hjl : j < H := by simp at h5; omega
      obtain ⟨hs1, hs2⟩ := hs i j hlt hjl
      have ek : kk i j j = i := if_neg (by omega)
      refine IdxX.mk (by omega) (by omega) ?_
      refine c4.mat S.le (show j < (ten t i).length by omega) fun b5 o5 h6 => ?_
      have c5 := h6.cells rfl
      have eM : mat (ten t i) j = cel t i j := rfl
      rw [eM] at c5 ⊢
      refine S.new fun b6 g S => ?_
      have S := S.bx_rw 0 OI.fr rfl
      refine ⟨⟨[3, 6, 8, 16, 17, 18, 22, 23, 24, 30, 31, 32], fun n' vs g => ∃ (m b6 : Nat), n' = (cel t i j).length - m ∧ m ≤ (cel t i j).length ∧ Sep h.length h g (.rw OI.fr 46 h.length (.slice (some ⟨b6, 0, none⟩) m 1) m (tabR m (row (cel t i j))) :: .bx b3 50 1 ((List.range H).map (slc A (kk i j) c)) :: rowsR H (rowM h.length t A (kk i j) c)) ∧
        vs = [.slice (some ⟨b3, 0, none⟩) H 1, .int .i64 j, .slice (some ⟨b6, 0, none⟩) m 1, .slice (some ⟨b1, o1, none⟩) t.length 0, .int .i64 t.length, .int .i64 i, .slice (some ⟨b4, o4, none⟩) (ten t i).length 0, .int .i64 (ten t i).length, .int .i64 j, .slice (some ⟨b5, o5, none⟩) (cel t i j).length 0, .int .i64 (cel t i j).length, .int .i64 m], _, ⟨0, b6, rfl, Nat.zero_le _, S, rfl⟩, ?_⟩⟩
      clear S
      rintro n' vs g ⟨m, b6, rfl, hm, S, rfl⟩
      refine BIf.mk (fun h7 => ?_) (fun h7 => ?_)
      · have hml : m < (cel t i j).length := by simpa using h7
        have hw1 := hs2 m hml
        refine IdxX.mk (by omega) (by omega) ?_
        refine c5.rowY S.le hml fun b7 o7 h8 => ?_
        refine S.made OI.fr (ACalls.madeI (cloneI_c _ _ (row (cel t i j) m) (RI.le _ _ _ _ S.le h8) (by omega))) fun b8 o8 g S => ?_
        refine S.new fun b9 g S => ?_
        refine S.appT 0 rfl rfl (by omega) fun b10 g S => ?_
        refine WR.i64 ?_
        exact ⟨(cel t i j).length - (m + 1), by omega, m + 1, b10, rfl, hml, by rw [tabR_succ]; exact S, rfl⟩
      · have hm2 : m = (cel t i j).length := by simp at h7; omega
        subst hm2
        rw [← tabR_eq] at S
        have S := S.rw_tr 0 rfl (by omega)
        refine IdxX.mk (by omega) (by omega) ?_
        refine LoadX.same (v := slc A (kk i j) c j) (S.at_ 1 rfl) (ldv_map rfl hjl) ?_
        unfold slc at S ⊢
        refine S.new fun b9 g S => ?_
        refine S.appT (j + 1) (gt_rowsR hjl) rfl (by omega) fun b10 g S => ?_
        refine IdxX.mk (by omega) (by omega) ?_
        refine S.store (o := 0 + j) (vs := [.slice (some ⟨b10, 0, none⟩) (kk i j j + 1) 1]) 0 rfl (by rw [List.length_map, List.length_range]; show 0 + j + 1 ≤ H; omega) fun g S => ?_
        refine WR.i64 ?_
        refine ⟨H - (j + 1), by omega, j + 1, fun i' => if i' = j then some ⟨b10, 0, none⟩ else A i', fun i' => if i' = j then 1 else c i', rfl, hjl, S.eq ?_, rfl⟩
        show Res.bx _ _ _ (setCells ((List.range H).map (slc A (kk i j) c)) (0 + j) [_]) :: st (rowsR H (rowM h.length t A (kk i j) c)) j _ = _
        rw [setCells_map hjl, st_rowsR]
        exact congr (congrArg _ (congrArg _ (congrArg (fun f => (List.range H).map f) slc_step))) (congrArg (rowsR H) rowM_step)
    · have hj2 : j = H := by simp at h5; omega
      subst hj2
      refine WR.i64 ?_
      refine ⟨W - (i + 1), by omega, i + 1, A, c, rfl, hlt, S.eq ?_, rfl⟩
      congr 1
      · congr 1
        exact List.map_congr_left fun j' hj' => by unfold slc; rw [kk_row i j j' (List.mem_range.1 hj')]
      · exact List.map_congr_left fun j' hj' => by unfold rowM slc; rw [kk_row i j j' (List.mem_range.1 hj')]
  · have hi2 : i = W := by simp at h3; omega
    subst hi2
    have S := SepM.rowsAs (Ls := [_]) S (f' := fun j => .tr OIII.fr h.length (slc A (kk i 0) c j) ((List.range i).map fun i' => cel t i' j)) fun j hj F hF hR => by
      have ek : kk i 0 j = i := if_neg (by omega)
      unfold rowM at hR
      rw [ek] at hR
      exact Res.rw_tr (by omega) hR
    have S := (SepM.eq S (Rs' := .bx b3 50 1 ((List.range H).map (slc A (kk i 0) c)) :: (rowsR H (fun j => .tr OIII.fr h.length (slc A (kk i 0) c j) ((List.range i).map fun i' => cel t i' j)) ++ [])) (by simp)).gather
    have S := S.rw_tr 0 rfl (by omega)
    exact S.fin 0 rfl

end Go.Gl

set_option linter.unusedVariables false
set_option linter.unusedSimpArgs false
namespace Go.Gl
open Go.Proofs Go.Proofs.YtbjohihngoghlaaGreat Go.Pl

theorem ODouble.zero (h : AH) (n : Nat) : ODouble n h (.agg #[.int .i64 0, .slice none 0 0, .slice none 0 0, .slice none 0 0]) noDouble [] :=
  ⟨_, _, _, rfl, [], [], [], ⟨by simp [noDouble], 0, 0, [], [], Wk.nil _, Row.nil _ _ _, rfl, .inl rfl⟩, ⟨by simp [noDouble], 0, 0, [], [], Wk.nil _, Row.nil _ _ _, rfl, .inl rfl⟩, ⟨by simp [noDouble], 0, 0, [], [], Wk.nil _, Row.nil _ _ _, rfl, .inl rfl⟩, rfl, by simp⟩
theorem SepM.finD {h0 h : AH} {Rs : List Res} {x : SDouble} {v1 v2 v3 : Value} (S : Sep h0.length h0 h (.tr OII.fr h0.length v1 x.dims :: .tr OIIII.fr h0.length v2 x.across :: .tr OIIII.fr h0.length v3 x.down :: Rs)) :
    ∃ l, ODouble h0.length h (.agg #[.int .i64 x.prime, v1, v2, v3]) x l := by
  obtain ⟨l1, l2, l3, a1, a2, a3, hd⟩ := S.three
  exact ⟨_, _, _, _, rfl, l1, l2, l3, a1, a2, a3, rfl, hd⟩
def rowI (n : Nat) (d : List (List Int)) (A : Nat → Option Addr) (k c : Nat → Nat) (j : Nat) : Res := .rc 2 1 n (slc A k c j) (k j) (((List.range (k j)).map fun i => ent d i j).map (.int .i64))
theorem rowI_step {n : Nat} {d : List (List Int)} {A : Nat → Option Addr} {c : Nat → Nat} {i j b : Nat} :
    (fun i' => if i' = j then Res.rc 2 1 n (.slice (some ⟨b, 0, none⟩) (kk i j j + 1) 1) (kk i j j + 1) ((((List.range (kk i j j)).map fun i => ent d i j).map (.int .i64)) ++ [.int .i64 (ent d i j)]) else rowI n d A (kk i j) c i') =
      rowI n d (fun i' => if i' = j then some ⟨b, 0, none⟩ else A i') (kk i (j + 1)) (fun i' => if i' = j then 1 else c i') := by
  funext i'
  have ek : kk i j j = i := if_neg (by omega)
  by_cases h : i' = j
  · subst h
    rw [if_pos rfl]
    unfold rowI slc
    have e2 : kk i (i' + 1) i' = i + 1 := if_pos (by omega)
    simp only [↓reduceIte, e2, ek]
    rw [List.range_succ, List.map_append, List.map_append]
    rfl
  · rw [if_neg h]
    unfold rowI slc
    have e2 : kk i (j + 1) i' = kk i j i' := by unfold kk; by_cases h2 : i' < j; rw [if_pos h2, if_pos (by omega)]; rw [if_neg h2, if_neg (by omega)]
    simp only [if_neg h, e2]
/-- what the transposed one is when some cells have been told -/
def StTr (n : Nat) (x : SDouble) (P : DP) (ta td : List (List (List (List Int)))) (va vd : Value) (b b2 b3 b8 : Nat) (i j : Nat) (Rs : List Res) : Prop :=
  ∃ (A : Nat → Option Addr) (c : Nat → Nat), Rs = [.bx b3 29 4 [.int .i64 x.prime, .slice (some ⟨b8, 0, none⟩) (dH x) 1, va, vd], .tr OIIII.fr n vd td, .tr OIIII.fr n va ta, .bx b8 46 1 ((List.range (dH x)).map (slc A (kk i j) c)), .bx b2 29 4 [.int .i64 0, .slice none 0 0, .slice none 0 0, .slice none 0 0], .bx b 29 4 (cD x P)] ++ rowsR (dH x) (rowI n x.dims A (kk i j) c)

theorem transposed1_c (n : Nat) (h0 : AH) (x : SDouble) (P : DP) (q : QD h0 x P) (hd : DHead x) (ta td : List (List (List (List Int)))) (va vd : Value) (b b2 b3 b8 : Nat) (i j : Nat) (hi : i < dW x) (hj : j < dH x) :
    Does Tryz.prog 73 [.int .i64 i, .int .i64 j, .pointer (some ⟨b3, 0, none⟩), .pointer (some ⟨b, 0, none⟩)] n h0 (StTr n x P ta td va vd b b2 b3 b8 i j) (StTr n x P ta td va vd b b2 b3 b8 i (j + 1)) := by
  refine Does.of fun M hb h Rs hlen hle hs S => ?_
  obtain ⟨A, c, rfl⟩ := hs
  refine ACalls.of Tt.tab Tryz.func73 rfl (by kernel_rfl) Tryz.ntmps73 _ rfl rfl (fun hw => ?_)
  have hW := hd.w
  have hH := hd.h
  have r3 := hd.num i hi j hj
  have ek : kk i j j = i := if_neg (by omega)
  -- TREE1 BEGIN
  have done : ∀ (b10 : Nat) (g : AH), SepM M n hb g (.bx b3 29 4 [.int .i64 x.prime, .slice (some ⟨b8, 0, none⟩) (dH x) 1, va, vd] :: .tr OIIII.fr n vd td :: .tr OIIII.fr n va ta :: .bx b8 46 1 (setCells ((List.range (dH x)).map (slc A (kk i j) c)) (0 + j) [.slice (some ⟨b10, 0, none⟩) (kk i j j + 1) 1]) :: .bx b2 29 4 [.int .i64 0, .slice none 0 0, .slice none 0 0, .slice none 0 0] :: .bx b 29 4 (cD x P) :: st (rowsR (dH x) (rowI n x.dims A (kk i j) c)) j (.rc 2 1 n (.slice (some ⟨b10, 0, none⟩) (kk i j j + 1) 1) (kk i j j + 1) ((((List.range (kk i j j)).map fun i => ent x.dims i j).map (.int .i64)) ++ [.int .i64 (ent x.dims i j)]))) → ∃ Rs', StTr n x P ta td va vd b b2 b3 b8 i (j + 1) Rs' ∧ SepM M n hb g Rs' := fun b10 g S => by
    refine ⟨_, ⟨fun i' => if i' = j then some ⟨b10, 0, none⟩ else A i', fun i' => if i' = j then 1 else c i', rfl⟩, S.eq ?_⟩
    rw [setCells_map hj, st_rowsR, slc_step]
    exact congrArg (fun l => _ :: _ :: _ :: _ :: _ :: _ :: l) (congrArg (rowsR (dH x)) rowI_step)
  refine DrawX.tree Tt.tab follows_any [12] [13, 15] (.op 0 (.op 2 (.op 3 (.op 4 (.op 5 (.op 6 (.op 7 (.op 8 (.op 9 (.op 10 (.op 11 (.alt (.op 1 (.op 12 (.op 13 (.op 14 (.op 15 (.nil)))))) (.op 12 (.alt (.op 1 (.op 13 (.op 14 (.op 15 (.nil))))) (.op 13 (.op 1 (.op 14 (.op 15 (.nil))))))))))))))))))) [] (fun vs g => ∃ Rs', StTr n x P ta td va vd b b2 b3 b8 i (j + 1) Rs' ∧ SepM M n hb g Rs') (by kernel_rfl) (by kernel_rfl) ?_ ?_
  · refine LoadX.same (v := .slice (some ⟨b8, 0, none⟩) (dH x) 1) (S.at_ 0 rfl) rfl ?_
    refine IdxX.mk (by omega) (by omega) ?_
    refine LoadX.same (v := slc A (kk i j) c j) (S.at_ 3 rfl) (ldv_map rfl hj) ?_
    refine LoadX.same (v := vD x P) (S.at_ 5 rfl) rfl ?_
    refine QCall.of (fun g2 hl => dim_c g2 _ x i j (q.reads ((hle.trans S.le).trans hl)) hd) rfl ?_
    rw [dimZ_in hi hj]
    refine ⟨?_, ?_⟩
    · refine LoadX.same (v := .slice (some ⟨b8, 0, none⟩) (dH x) 1) (S.at_ 0 rfl) rfl ?_
      refine S.newL fun b9 g L S => ?_
      refine ⟨L, ?_⟩
      refine S.app (j + 6) (gt_rowsR hj) rfl rfl (by omega) fun b10 g S => ?_
      refine IdxX.mk (by omega) (by omega) ?_
      refine S.store (o := 0 + j) (vs := [.slice (some ⟨b10, 0, none⟩) (kk i j j + 1) 1]) 3 rfl (by rw [List.length_map, List.length_range]; show 0 + j + 1 ≤ dH x; omega) fun g S => ?_
      exact done b10 g S
    · refine S.newL fun b9 g L S => ?_
      refine ⟨L, ?_⟩
      refine ⟨?_, ?_⟩
      · refine LoadX.same (v := .slice (some ⟨b8, 0, none⟩) (dH x) 1) (S.at_ 1 rfl) rfl ?_
        refine S.app (j + 6) (gt_rowsR hj) rfl rfl (by omega) fun b10 g S => ?_
        refine IdxX.mk (by omega) (by omega) ?_
        refine S.store (o := 0 + j) (vs := [.slice (some ⟨b10, 0, none⟩) (kk i j j + 1) 1]) 3 rfl (by rw [List.length_map, List.length_range]; show 0 + j + 1 ≤ dH x; omega) fun g S => ?_
        exact done b10 g S
      · refine S.app (j + 6) (gt_rowsR hj) rfl rfl (by omega) fun b10 g S => ?_
        refine LoadX.same (v := .slice (some ⟨b8, 0, none⟩) (dH x) 1) (S.at_ 0 rfl) rfl ?_
        refine IdxX.mk (by omega) (by omega) ?_
        refine S.store (o := 0 + j) (vs := [.slice (some ⟨b10, 0, none⟩) (kk i j j + 1) 1]) 3 rfl (by rw [List.length_map, List.length_range]; show 0 + j + 1 ≤ dH x; omega) fun g S => ?_
        exact done b10 g S
  -- TREE1 END
  rintro vs g ⟨Rs', hs', S⟩
  exact FinX.here (by have := S.le.len; omega) ⟨rfl, Rs', hs', S⟩
set_option maxHeartbeats 4000000 in
theorem transposed_c (h : AH) (v : Value) (x : SDouble) (hx : RDouble h v x) (hd : DShape x) : ACalls Tryz.prog 24 [v] h (fun r h' => ∃ l, ODouble h.length h' r (flipD x) l ∧ Le h h') := by
  obtain ⟨P, kx, qx⟩ := hx.at_
  refine ACalls.wk (args' := [vD x P]) ?_ (.cons kx .nil)
  refine ACalls.of Tt.tab Tryz.func24 rfl (by kernel_rfl) Tryz.ntmps24 _ rfl rfl (fun hw => ?_)
  have S := Sep.start h
  have hW := hd.w
  have hH := hd.h
  have szs : ∀ t w, TabOk x t w → (∀ i j, 0 ≤ w i j ∧ w i j ≤ 4) → ∀ i j, i < dW x → j < dH x → (cel t i j).length ≤ 1000 ∧ ∀ k, k < (cel t i j).length → (row (cel t i j) k).length ≤ 1000 := fun t w ht hw i j hi hj => by
    obtain ⟨t1, t2⟩ := ht.cell i j
    rw [celZ_in hi hj] at t1 t2
    have := hd.dim i j
    refine ⟨by omega, fun k hk => ?_⟩
    have := (t2.row hk).1
    have := hw i j
    omega
  have szA := szs x.across _ hd.acr fun i j => hd.dim (i - 1) j
  have szD := szs x.down _ hd.dwn fun i j => hd.dim i (j - 1)
  refine S.new fun b g S => ?_
  refine S.new fun b2 g S => ?_
  -- TREE BEGIN
  refine DrawX.tree Tt.tab follows_any [4, 7, 10, 12] [13] (.op 0 (.op 1 (.op 2 (.op 3 (.op 5 (.op 6 (.op 8 (.op 9 (.alt (.op 4 (.alt (.op 7 (.alt (.op 10 (.op 11 (.op 12 (.op 13 (.nil))))) (.op 12 (.op 10 (.op 11 (.op 13 (.nil))))))) (.op 12 (.op 7 (.op 10 (.op 11 (.op 13 (.nil)))))))) (.alt (.op 7 (.alt (.op 4 (.alt (.op 10 (.op 11 (.op 12 (.op 13 (.nil))))) (.op 12 (.op 10 (.op 11 (.op 13 (.nil))))))) (.alt (.op 10 (.alt (.op 4 (.op 11 (.op 12 (.op 13 (.nil))))) (.op 12 (.op 4 (.op 11 (.op 13 (.nil))))))) (.op 12 (.alt (.op 4 (.op 10 (.op 11 (.op 13 (.nil))))) (.op 10 (.op 4 (.op 11 (.op 13 (.nil)))))))))) (.op 12 (.alt (.op 4 (.op 7 (.op 10 (.op 11 (.op 13 (.nil)))))) (.op 7 (.alt (.op 4 (.op 10 (.op 11 (.op 13 (.nil))))) (.op 10 (.op 4 (.op 11 (.op 13 (.nil))))))))))))))))))) [1, 2, 3] (fun vs g => ∃ b3 b4 o4 b5 o5 b8 : Nat, vs = [.pointer (some ⟨b, 0, none⟩), .pointer (some ⟨b2, 0, none⟩), .pointer (some ⟨b3, 0, none⟩)] ∧ Sep h.length h g [.bx b3 29 4 [.int .i64 x.prime, .slice (some ⟨b8, 0, none⟩) (dH x) 1, .slice (some ⟨b4, o4, none⟩) (flipT x.down (dW x) (dH x)).length 0, .slice (some ⟨b5, o5, none⟩) (flipT x.across (dW x) (dH x)).length 0], .tr OIIII.fr h.length (.slice (some ⟨b5, o5, none⟩) (flipT x.across (dW x) (dH x)).length 0) (flipT x.across (dW x) (dH x)), .tr OIIII.fr h.length (.slice (some ⟨b4, o4, none⟩) (flipT x.down (dW x) (dH x)).length 0) (flipT x.down (dW x) (dH x)), .bx b8 46 1 ((List.range (dH x)).map (slc (fun _ => none) (kk 0 0) fun _ => 0)), .bx b2 29 4 [.int .i64 0, .slice none 0 0, .slice none 0 0, .slice none 0 0], .bx b 29 4 (cD x P)]) (by kernel_rfl) (by kernel_rfl) ?_ ?_
  · refine LoadX.same (v := .int .i64 x.prime) (S.at_ 1 rfl) rfl ?_
    refine LoadX.same (v := vD x P) (S.at_ 1 rfl) rfl ?_
    refine QCall.of (fun g2 hl => high_c g2 _ x (qx.reads (S.le.trans hl)) hW.1) rfl ?_
    refine LoadX.same (v := vD3 x P) (S.at_ 1 rfl) rfl ?_
    refine LoadX.same (v := vD2 x P) (S.at_ 1 rfl) rfl ?_
    refine ⟨?_, ?_⟩
    · refine ⟨by omega, rfl, by omega, by show (dH x : Int) * (24 : Nat) ≤ _; omega, ?_⟩
      refine S.newL fun b8 g L S => ?_
      refine ⟨L, ?_⟩
      have S := S.recast 0 rfl (nils_map _)
      rw [show ((dH x : Nat) : Int).toNat = dH x from Int.toNat_natCast _] at S ⊢
      refine ⟨?_, ?_⟩
      · refine S.madeL OIIII.fr (turned_c _ _ x.down (dW x) (dH x) (RIIII.le _ _ _ _ S.le qx.2.2) hd.dwn.1 ⟨hW.1, by omega⟩ hd.dwn.2.1 (by omega) szD) fun b4 o4 g L S => ?_
        refine ⟨L, ?_⟩
        refine ⟨?_, ?_⟩
        · refine S.madeL OIIII.fr (turned_c _ _ x.across (dW x) (dH x) (RIIII.le _ _ _ _ S.le qx.2.1) hd.acr.1 ⟨hW.1, by omega⟩ hd.acr.2.1 (by omega) szA) fun b5 o5 g L S => ?_
          refine ⟨L, ?_⟩
          refine S.newL fun b3 g L S => ?_
          refine ⟨L, ?_⟩
          refine S.put 0 rfl fun g S => ?_
          exact ⟨b3, b4, o4, b5, o5, b8, rfl, ((((S.front 3 rfl).front 3 rfl).front 3 rfl).front 3 rfl)⟩
        · refine S.newL fun b3 g L S => ?_
          refine ⟨L, ?_⟩
          refine S.madeL OIIII.fr (turned_c _ _ x.across (dW x) (dH x) (RIIII.le _ _ _ _ S.le qx.2.1) hd.acr.1 ⟨hW.1, by omega⟩ hd.acr.2.1 (by omega) szA) fun b5 o5 g L S => ?_
          refine ⟨L, ?_⟩
          refine S.put 1 rfl fun g S => ?_
          exact ⟨b3, b4, o4, b5, o5, b8, rfl, ((((S.front 3 rfl).front 3 rfl).front 2 rfl).front 3 rfl)⟩
      · refine S.newL fun b3 g L S => ?_
        refine ⟨L, ?_⟩
        refine S.madeL OIIII.fr (turned_c _ _ x.down (dW x) (dH x) (RIIII.le _ _ _ _ S.le qx.2.2) hd.dwn.1 ⟨hW.1, by omega⟩ hd.dwn.2.1 (by omega) szD) fun b4 o4 g L S => ?_
        refine ⟨L, ?_⟩
        refine S.madeL OIIII.fr (turned_c _ _ x.across (dW x) (dH x) (RIIII.le _ _ _ _ S.le qx.2.1) hd.acr.1 ⟨hW.1, by omega⟩ hd.acr.2.1 (by omega) szA) fun b5 o5 g L S => ?_
        refine ⟨L, ?_⟩
        refine S.put 2 rfl fun g S => ?_
        exact ⟨b3, b4, o4, b5, o5, b8, rfl, ((((S.front 3 rfl).front 2 rfl).front 2 rfl).front 3 rfl)⟩
    · refine ⟨?_, ?_⟩
      · refine S.madeL OIIII.fr (turned_c _ _ x.down (dW x) (dH x) (RIIII.le _ _ _ _ S.le qx.2.2) hd.dwn.1 ⟨hW.1, by omega⟩ hd.dwn.2.1 (by omega) szD) fun b4 o4 g L S => ?_
        refine ⟨L, ?_⟩
        refine ⟨?_, ?_⟩
        · refine ⟨by omega, rfl, by omega, by show (dH x : Int) * (24 : Nat) ≤ _; omega, ?_⟩
          refine S.newL fun b8 g L S => ?_
          refine ⟨L, ?_⟩
          have S := S.recast 0 rfl (nils_map _)
          rw [show ((dH x : Nat) : Int).toNat = dH x from Int.toNat_natCast _] at S ⊢
          refine ⟨?_, ?_⟩
          · refine S.madeL OIIII.fr (turned_c _ _ x.across (dW x) (dH x) (RIIII.le _ _ _ _ S.le qx.2.1) hd.acr.1 ⟨hW.1, by omega⟩ hd.acr.2.1 (by omega) szA) fun b5 o5 g L S => ?_
            refine ⟨L, ?_⟩
            refine S.newL fun b3 g L S => ?_
            refine ⟨L, ?_⟩
            refine S.put 0 rfl fun g S => ?_
            exact ⟨b3, b4, o4, b5, o5, b8, rfl, ((((S.front 2 rfl).front 3 rfl).front 3 rfl).front 3 rfl)⟩
          · refine S.newL fun b3 g L S => ?_
            refine ⟨L, ?_⟩
            refine S.madeL OIIII.fr (turned_c _ _ x.across (dW x) (dH x) (RIIII.le _ _ _ _ S.le qx.2.1) hd.acr.1 ⟨hW.1, by omega⟩ hd.acr.2.1 (by omega) szA) fun b5 o5 g L S => ?_
            refine ⟨L, ?_⟩
            refine S.put 1 rfl fun g S => ?_
            exact ⟨b3, b4, o4, b5, o5, b8, rfl, ((((S.front 2 rfl).front 3 rfl).front 2 rfl).front 3 rfl)⟩
        · refine ⟨?_, ?_⟩
          · refine S.madeL OIIII.fr (turned_c _ _ x.across (dW x) (dH x) (RIIII.le _ _ _ _ S.le qx.2.1) hd.acr.1 ⟨hW.1, by omega⟩ hd.acr.2.1 (by omega) szA) fun b5 o5 g L S => ?_
            refine ⟨L, ?_⟩
            refine ⟨?_, ?_⟩
            · refine ⟨by omega, rfl, by omega, by show (dH x : Int) * (24 : Nat) ≤ _; omega, ?_⟩
              refine S.newL fun b8 g L S => ?_
              refine ⟨L, ?_⟩
              have S := S.recast 0 rfl (nils_map _)
              rw [show ((dH x : Nat) : Int).toNat = dH x from Int.toNat_natCast _] at S ⊢
              refine S.newL fun b3 g L S => ?_
              refine ⟨L, ?_⟩
              refine S.put 0 rfl fun g S => ?_
              exact ⟨b3, b4, o4, b5, o5, b8, rfl, ((((S.front 1 rfl).front 3 rfl).front 3 rfl).front 3 rfl)⟩
            · refine S.newL fun b3 g L S => ?_
              refine ⟨L, ?_⟩
              refine ⟨by omega, rfl, by omega, by show (dH x : Int) * (24 : Nat) ≤ _; omega, ?_⟩
              refine S.newL fun b8 g L S => ?_
              refine ⟨L, ?_⟩
              have S := S.recast 0 rfl (nils_map _)
              rw [show ((dH x : Nat) : Int).toNat = dH x from Int.toNat_natCast _] at S ⊢
              refine S.put 1 rfl fun g S => ?_
              exact ⟨b3, b4, o4, b5, o5, b8, rfl, ((((S.front 0 rfl).front 3 rfl).front 3 rfl).front 3 rfl)⟩
          · refine S.newL fun b3 g L S => ?_
            refine ⟨L, ?_⟩
            refine ⟨?_, ?_⟩
            · refine ⟨by omega, rfl, by omega, by show (dH x : Int) * (24 : Nat) ≤ _; omega, ?_⟩
              refine S.newL fun b8 g L S => ?_
              refine ⟨L, ?_⟩
              have S := S.recast 0 rfl (nils_map _)
              rw [show ((dH x : Nat) : Int).toNat = dH x from Int.toNat_natCast _] at S ⊢
              refine S.madeL OIIII.fr (turned_c _ _ x.across (dW x) (dH x) (RIIII.le _ _ _ _ S.le qx.2.1) hd.acr.1 ⟨hW.1, by omega⟩ hd.acr.2.1 (by omega) szA) fun b5 o5 g L S => ?_
              refine ⟨L, ?_⟩
              refine S.put 2 rfl fun g S => ?_
              exact ⟨b3, b4, o4, b5, o5, b8, rfl, ((((S.front 1 rfl).front 3 rfl).front 2 rfl).front 3 rfl)⟩
            · refine S.madeL OIIII.fr (turned_c _ _ x.across (dW x) (dH x) (RIIII.le _ _ _ _ S.le qx.2.1) hd.acr.1 ⟨hW.1, by omega⟩ hd.acr.2.1 (by omega) szA) fun b5 o5 g L S => ?_
              refine ⟨L, ?_⟩
              refine ⟨by omega, rfl, by omega, by show (dH x : Int) * (24 : Nat) ≤ _; omega, ?_⟩
              refine S.newL fun b8 g L S => ?_
              refine ⟨L, ?_⟩
              have S := S.recast 0 rfl (nils_map _)
              rw [show ((dH x : Nat) : Int).toNat = dH x from Int.toNat_natCast _] at S ⊢
              refine S.put 2 rfl fun g S => ?_
              exact ⟨b3, b4, o4, b5, o5, b8, rfl, ((((S.front 0 rfl).front 3 rfl).front 2 rfl).front 3 rfl)⟩
      · refine S.newL fun b3 g L S => ?_
        refine ⟨L, ?_⟩
        refine ⟨?_, ?_⟩
        · refine ⟨by omega, rfl, by omega, by show (dH x : Int) * (24 : Nat) ≤ _; omega, ?_⟩
          refine S.newL fun b8 g L S => ?_
          refine ⟨L, ?_⟩
          have S := S.recast 0 rfl (nils_map _)
          rw [show ((dH x : Nat) : Int).toNat = dH x from Int.toNat_natCast _] at S ⊢
          refine S.madeL OIIII.fr (turned_c _ _ x.down (dW x) (dH x) (RIIII.le _ _ _ _ S.le qx.2.2) hd.dwn.1 ⟨hW.1, by omega⟩ hd.dwn.2.1 (by omega) szD) fun b4 o4 g L S => ?_
          refine ⟨L, ?_⟩
          refine S.madeL OIIII.fr (turned_c _ _ x.across (dW x) (dH x) (RIIII.le _ _ _ _ S.le qx.2.1) hd.acr.1 ⟨hW.1, by omega⟩ hd.acr.2.1 (by omega) szA) fun b5 o5 g L S => ?_
          refine ⟨L, ?_⟩
          refine S.put 3 rfl fun g S => ?_
          exact ⟨b3, b4, o4, b5, o5, b8, rfl, ((((S.front 2 rfl).front 2 rfl).front 2 rfl).front 3 rfl)⟩
        · refine S.madeL OIIII.fr (turned_c _ _ x.down (dW x) (dH x) (RIIII.le _ _ _ _ S.le qx.2.2) hd.dwn.1 ⟨hW.1, by omega⟩ hd.dwn.2.1 (by omega) szD) fun b4 o4 g L S => ?_
          refine ⟨L, ?_⟩
          refine ⟨?_, ?_⟩
          · refine ⟨by omega, rfl, by omega, by show (dH x : Int) * (24 : Nat) ≤ _; omega, ?_⟩
            refine S.newL fun b8 g L S => ?_
            refine ⟨L, ?_⟩
            have S := S.recast 0 rfl (nils_map _)
            rw [show ((dH x : Nat) : Int).toNat = dH x from Int.toNat_natCast _] at S ⊢
            refine S.madeL OIIII.fr (turned_c _ _ x.across (dW x) (dH x) (RIIII.le _ _ _ _ S.le qx.2.1) hd.acr.1 ⟨hW.1, by omega⟩ hd.acr.2.1 (by omega) szA) fun b5 o5 g L S => ?_
            refine ⟨L, ?_⟩
            refine S.put 3 rfl fun g S => ?_
            exact ⟨b3, b4, o4, b5, o5, b8, rfl, ((((S.front 1 rfl).front 2 rfl).front 2 rfl).front 3 rfl)⟩
          · refine S.madeL OIIII.fr (turned_c _ _ x.across (dW x) (dH x) (RIIII.le _ _ _ _ S.le qx.2.1) hd.acr.1 ⟨hW.1, by omega⟩ hd.acr.2.1 (by omega) szA) fun b5 o5 g L S => ?_
            refine ⟨L, ?_⟩
            refine ⟨by omega, rfl, by omega, by show (dH x : Int) * (24 : Nat) ≤ _; omega, ?_⟩
            refine S.newL fun b8 g L S => ?_
            refine ⟨L, ?_⟩
            have S := S.recast 0 rfl (nils_map _)
            rw [show ((dH x : Nat) : Int).toNat = dH x from Int.toNat_natCast _] at S ⊢
            refine S.put 3 rfl fun g S => ?_
            exact ⟨b3, b4, o4, b5, o5, b8, rfl, ((((S.front 0 rfl).front 2 rfl).front 2 rfl).front 3 rfl)⟩
  -- TREE END
  rintro vs g ⟨b3, b4, o4, b5, o5, b8, rfl, S⟩
  refine LoadX.same (v := vD x P) (S.at_ 5 rfl) rfl ?_
  have S := S.nilsC 2 1 (dH x)
  refine SepM.does [] S (eachCell_c h.length h _ x (qx.reads (Le.refl _)) ⟨hW.1, hW.2, hH.2⟩ _ _ (StTr h.length x P (flipT x.down (dW x) (dH x)) (flipT x.across (dW x) (dH x)) (.slice (some ⟨b4, o4, none⟩) (flipT x.down (dW x) (dH x)).length 0) (.slice (some ⟨b5, o5, none⟩) (flipT x.across (dW x) (dH x)).length 0) b b2 b3 b8) (fun i j hi hj => transposed1_c h.length h x P qx hd.toDHead _ _ _ _ b b2 b3 b8 i j hi hj) (fun i Rs hi hs => ?_)) (Le.refl _) ?_ fun g' Rs' gl hs' S => ?_
  · obtain ⟨A, c, rfl⟩ := hs
    refine ⟨A, c, ?_⟩
    have e1 : (List.range (dH x)).map (slc A (kk i (dH x)) c) = (List.range (dH x)).map (slc A (kk (i + 1) 0) c) := List.map_congr_left fun j' hj' => by unfold slc; rw [kk_row i (dH x) j' (List.mem_range.1 hj')]
    have e2 : rowsR (dH x) (rowI h.length x.dims A (kk i (dH x)) c) = rowsR (dH x) (rowI h.length x.dims A (kk (i + 1) 0) c) := List.map_congr_left fun j' hj' => by unfold rowI slc; rw [kk_row i (dH x) j' (List.mem_range.1 hj')]
    rw [e1, e2]
  · refine ⟨fun _ => none, fun _ => 0, ?_⟩
    have e2 : (rowI h.length x.dims (fun _ => none) (kk 0 0) fun _ => 0) = fun _ => Res.rc 2 1 h.length (.slice none 0 0) 0 [] := by
      funext j; unfold rowI slc kk; rw [if_neg (by omega)]; rfl
    rw [e2]
    rfl
  obtain ⟨A, c, rfl⟩ := hs'
  have ek : ∀ j, kk (dW x) 0 j = dW x := fun j => if_neg (by omega)
  refine LoadX.same (v := .agg #[.int .i64 x.prime, .slice (some ⟨b8, 0, none⟩) (dH x) 1, .slice (some ⟨b4, o4, none⟩) (flipT x.down (dW x) (dH x)).length 0, .slice (some ⟨b5, o5, none⟩) (flipT x.across (dW x) (dH x)).length 0]) (S.at_ 0 rfl) rfl ?_
  refine S.put 4 rfl fun g S => ?_
  refine LoadX.same (v := .agg #[.int .i64 x.prime, .slice (some ⟨b8, 0, none⟩) (dH x) 1, .slice (some ⟨b4, o4, none⟩) (flipT x.down (dW x) (dH x)).length 0, .slice (some ⟨b5, o5, none⟩) (flipT x.across (dW x) (dH x)).length 0]) (S.at_ 4 rfl) rfl ?_
  have S := SepM.rowsAs (Ls := [_, _, _, _, _, _]) S (f' := fun j => .tr OI.fr h.length (slc A (kk (dW x) 0) c j) ((List.range (dW x)).map fun i => ent x.dims i j)) fun j hj F hF hR => by
    unfold rowI at hR
    rw [ek] at hR
    exact Res.rc_tr (by simp; omega) hR
  have S := S.front 3 rfl
  have S := SepM.gatherE (Ls := [_, _, _, _, _]) S
  have S := S.rw_tr 0 rfl (by omega)
  have S := ((S.front 3 rfl).front 1 rfl).drop 2
  obtain ⟨l, hl⟩ := SepM.finD (x := flipD x) S
  exact FinX.here S.le.len ⟨l, hl, S.le⟩
theorem transposedN_c (h : AH) (v : Value) (x : SDouble) (hx : RDouble h v x) (hd : DShape x) : ACalls Tryz.prog 24 [v] h (fun r h' => ∃ (P' : DP) (l : List Nat), r = vD (flipD x) P' ∧ ODouble h.length h' (vD (flipD x) P') (flipD x) l ∧ Le h h') :=
  (transposed_c h v x hx hd).can fun r h' ⟨l, ⟨v1, v2, v3, e, p⟩, L⟩ => by
    subst e
    obtain ⟨b1, o1, b2, o2, b3, o3, k1, k2, k3, p⟩ := p.can
    exact ⟨_, Wk.agg (.cons (Wk.refl _) (.cons k1 (.cons k2 (.cons k3 .nil)))), ⟨b1, o1, b2, o2, b3, o3⟩, l, rfl, ⟨_, _, _, rfl, p⟩, L⟩

end Go.Gl

set_option linter.unusedVariables false
set_option linter.unusedSimpArgs false
namespace Go.Gl
open Go.Proofs Go.Proofs.YtbjohihngoghlaaGreat Go.Pl


theorem l01RowsX_c (h : AH) (v : Value) (xs : List (List Int)) (hx : RII h v xs) (hl : xs.length ≤ 1000) (hw1 : ∀ i, i < xs.length → (row xs i).length ≤ 1000) : ACalls Tryz.prog 41 [v] h (Made OII h xs) := by
  obtain ⟨_, b1, o1, k1, c1⟩ := hx
  refine ACalls.madeN (ACalls.wk (args' := [.slice (some ⟨b1, o1, none⟩) xs.length 0]) ?_ (.cons k1 .nil))
  refine ACalls.of Tt.tab Tryz.func41 rfl (by kernel_rfl) Tryz.ntmps41 _ rfl rfl (fun hw => ?_)
  have S := Sep.start h
  refine S.new fun b g S => ?_
  have S := S.bx_rw 0 OI.fr rfl
  refine ⟨⟨[0, 2, 3, 4], fun n' vs g => ∃ (i b : Nat), n' = xs.length - i ∧ i ≤ xs.length ∧ Sep h.length h g [.rw OI.fr 46 h.length (.slice (some ⟨b, 0, none⟩) i 1) i (tabR i (row xs))] ∧
    vs = [.slice (some ⟨b1, o1, none⟩) xs.length 0, .slice none 0 0, .slice (some ⟨b, 0, none⟩) i 1, .int .i64 i], _, ⟨0, b, rfl, Nat.zero_le _, S, rfl⟩, ?_⟩⟩
  rintro n' vs g ⟨i, b, rfl, hi, S, rfl⟩
  refine BIf.mk (fun h2 => ?_) (fun h2 => ?_)
  · have hlt : i < xs.length := by simpa using h2
    have hwi := hw1 i hlt
    refine IdxX.mk (by omega) (by omega) ?_
    refine c1.rowY S.le hlt fun b2 o2 h3 => ?_
    refine S.made OI.fr (l01Own_c _ _ (row xs i) (RI.le _ _ _ _ S.le h3) (by omega)) fun b4 o4 g S => ?_
    refine S.new fun b5 g S => ?_
    refine S.appT 0 rfl rfl (by omega) fun b6 g S => ?_
    refine WR.i64 ?_
    exact ⟨xs.length - (i + 1), by omega, i + 1, b6, rfl, hlt, by rw [tabR_succ]; exact S, rfl⟩
  · have hi2 : i = xs.length := by simp at h2; omega
    subst hi2
    rw [← tabR_eq] at S
    exact (S.rw_tr 0 rfl (by omega)).fin 0 rfl

theorem l03Flip_c (h : AH) (v : Value) (x : SDouble) (hx : RDouble h v x) (hd : DShape x) : ACalls Tryz.prog 18 [v] h (fun r h' => ∃ (P' : DP) (l : List Nat), r = vD (flipD x) P' ∧ ODouble h.length h' (vD (flipD x) P') (flipD x) l ∧ Le h h') := by
  suffices hh : ACalls Tryz.prog 18 [v] h (fun r h' => ∃ l, ODouble h.length h' r (flipD x) l ∧ Le h h') from hh.can fun r h' ⟨l, ⟨v1, v2, v3, e, p⟩, L⟩ => by
    subst e
    obtain ⟨b1, o1, b2, o2, b3, o3, k1, k2, k3, p⟩ := p.can
    exact ⟨_, Wk.agg (.cons (Wk.refl _) (.cons k1 (.cons k2 (.cons k3 .nil)))), ⟨b1, o1, b2, o2, b3, o3⟩, l, rfl, ⟨_, _, _, rfl, p⟩, L⟩
  obtain ⟨P, kx, qx⟩ := hx.at_
  refine ACalls.wk (args' := [vD x P]) ?_ (.cons kx .nil)
  refine ACalls.of Tt.tab Tryz.func18 rfl (by kernel_rfl) Tryz.ntmps18 _ rfl rfl (fun hw => ?_)
  have S := Sep.start h
  have c1 := RS.cells qx.1 rfl
  have c2 := RS.cells qx.2.1 rfl
  have c3 := RS.cells qx.2.2 rfl
  have hW := hd.w
  have hH := hd.h
  have h1 : 0 < x.dims.length := hW.1
  have eW : x.dims.length = dW x := rfl
  have eH : (row x.dims 0).length = dH x := rfl
  have szs : ∀ t w, TabOk x t w → (∀ i j, 0 ≤ w i j ∧ w i j ≤ 4) → ∀ i j, i < dW x → j < dH x → (cel t i j).length ≤ 1000 ∧ ∀ k, k < (cel t i j).length → (row (cel t i j) k).length ≤ 1000 := fun t w ht hw i j hi hj => by
    obtain ⟨t1, t2⟩ := ht.cell i j
    rw [celZ_in hi hj] at t1 t2
    have := hd.dim i j
    refine ⟨by omega, fun k hk => ?_⟩
    have := (t2.row hk).1
    have := hw i j
    omega
  have szA := szs x.across _ hd.acr fun i j => hd.dim (i - 1) j
  have szD := szs x.down _ hd.dwn fun i j => hd.dim i (j - 1)
  refine S.new fun b g S => ?_
  refine S.new fun b2 g S => ?_
  refine DrawX.of Tt.tab follows_any [] [] [0, 1, 2, 3, 4, 5, 6, 7, 8, 9] rfl (by kernel_rfl) (by kernel_rfl) ?_
  refine LoadX.same (v := vD1 x P) (S.at_ 1 rfl) rfl ?_
  refine LoadX.same (v := vD1 x P) (S.at_ 1 rfl) rfl ?_
  refine IdxX.mk (by omega) (by omega) ?_
  refine c1.rowY S.le h1 fun b4 o4 r4 => ?_
  refine LoadX.same (v := .int .i64 x.prime) (S.at_ 1 rfl) rfl ?_
  refine S.new fun d1 g S => ?_
  have S := S.bx_rw 0 OI.fr rfl
  refine S.new fun d2 g S => ?_
  have S := S.bx_rw 0 OIII.fr rfl
  refine S.new fun d3 g S => ?_
  have S := S.bx_rw 0 OIII.fr rfl
  refine S.new fun b5 g S => ?_
  refine S.put 0 rfl fun g S => ?_
  refine ⟨⟨[1, 2, 3, 4, 5, 6], fun n' vs g => ∃ (j d1 d2 d3 : Nat), n' = dH x - j ∧ j ≤ dH x ∧ Sep h.length h g [.bx b5 29 4 [.int .i64 x.prime, .slice (some ⟨d1, 0, none⟩) j 1, .slice (some ⟨d2, 0, none⟩) j 1, .slice (some ⟨d3, 0, none⟩) j 1], .rw OIII.fr 50 h.length (.slice (some ⟨d3, 0, none⟩) j 1) j ((List.range j).map fun j => (List.range (dW x)).map fun i => cel x.across i j), .rw OIII.fr 50 h.length (.slice (some ⟨d2, 0, none⟩) j 1) j ((List.range j).map fun j => (List.range (dW x)).map fun i => cel x.down i j), .rw OI.fr 46 h.length (.slice (some ⟨d1, 0, none⟩) j 1) j ((List.range j).map fun j => (List.range (dW x)).map fun i => ent x.dims i j), .bx b2 29 4 [.int .i64 0, .slice none 0 0, .slice none 0 0, .slice none 0 0], .bx b 29 4 (cD x P)] ∧
    vs = [.pointer (some ⟨b, 0, none⟩), .pointer (some ⟨b2, 0, none⟩), .int .i64 (dW x), .int .i64 (dH x), .pointer (some ⟨b5, 0, none⟩), .int .i64 j], _, ⟨0, d1, d2, d3, rfl, Nat.zero_le _, S, rfl⟩, ?_⟩⟩
  clear S
  rintro n' vs g ⟨j, d1, d2, d3, rfl, hj, S, rfl⟩
  refine BIf.mk (fun h2 => ?_) (fun h2 => ?_)
  · have hjl : j < dH x := by simp at h2; omega
    refine S.new fun e1 g S => ?_
    have S := S.bx_rc 0 (k := 0) rfl rfl
    refine S.new fun e2 g S => ?_
    have S := S.bx_rw 0 OII.fr rfl
    refine S.new fun e3 g S => ?_
    have S := S.bx_rw 0 OII.fr rfl
    refine ⟨⟨[1, 2, 3, 4, 5, 6, 7, 8, 9, 10], fun n' vs g => ∃ (i e1 e2 e3 : Nat), n' = dW x - i ∧ i ≤ dW x ∧ Sep h.length h g [.rw OII.fr 22 h.length (.slice (some ⟨e3, 0, none⟩) i 1) i ((List.range i).map fun i => cel x.across i j), .rw OII.fr 22 h.length (.slice (some ⟨e2, 0, none⟩) i 1) i ((List.range i).map fun i => cel x.down i j), .rc 2 1 h.length (.slice (some ⟨e1, 0, none⟩) i 1) i (((List.range i).map fun i => ent x.dims i j).map (.int .i64)), .bx b5 29 4 [.int .i64 x.prime, .slice (some ⟨d1, 0, none⟩) j 1, .slice (some ⟨d2, 0, none⟩) j 1, .slice (some ⟨d3, 0, none⟩) j 1], .rw OIII.fr 50 h.length (.slice (some ⟨d3, 0, none⟩) j 1) j ((List.range j).map fun j => (List.range (dW x)).map fun i => cel x.across i j), .rw OIII.fr 50 h.length (.slice (some ⟨d2, 0, none⟩) j 1) j ((List.range j).map fun j => (List.range (dW x)).map fun i => cel x.down i j), .rw OI.fr 46 h.length (.slice (some ⟨d1, 0, none⟩) j 1) j ((List.range j).map fun j => (List.range (dW x)).map fun i => ent x.dims i j), .bx b2 29 4 [.int .i64 0, .slice none 0 0, .slice none 0 0, .slice none 0 0], .bx b 29 4 (cD x P)] ∧
      vs = [.pointer (some ⟨b, 0, none⟩), .pointer (some ⟨b2, 0, none⟩), .int .i64 (dW x), .int .i64 (dH x), .pointer (some ⟨b5, 0, none⟩), .int .i64 j, .slice (some ⟨e1, 0, none⟩) i 1, .slice (some ⟨e2, 0, none⟩) i 1, .slice (some ⟨e3, 0, none⟩) i 1, .int .i64 i], _, ⟨0, e1, e2, e3, rfl, Nat.zero_le _, S, rfl⟩, ?_⟩⟩
    clear S
    rintro n' vs g ⟨i, e1, e2, e3, rfl, hi, S, rfl⟩
    refine BIf.mk (fun h3 => ?_) (fun h3 => ?_)
    · have hlt : i < dW x := by simpa using h3
      have hcol := hd.col i hlt
      have hla : x.across.length = dW x := hd.acr.1
      have hlc := hd.acr.2.1 i hlt
      have hla3 : x.down.length = dW x := hd.dwn.1
      have hlc3 := hd.dwn.2.1 i hlt
      obtain ⟨sA1, sA2⟩ := szA i j hlt hjl
      obtain ⟨sD1, sD2⟩ := szD i j hlt hjl
      refine LoadX.same (v := vD1 x P) (S.at_ 8 rfl) rfl ?_
      refine IdxX.mk (by omega) (by omega) ?_
      refine c1.row S.le (show i < x.dims.length from hlt) fun b6 o6 c6 => ?_
      refine IdxX.mk (by omega) (by omega) ?_
      refine c6.ith S.le (show j < (row x.dims i).length by omega) ?_
      refine S.new fun b7 g S => ?_
      refine S.app 2 rfl rfl rfl (by omega) fun e1 g S => ?_
      refine LoadX.same (v := vD3 x P) (S.at_ 8 rfl) rfl ?_
      refine IdxX.mk (by omega) (by omega) ?_
      refine c3.ten S.le (show i < x.down.length by omega) fun b8 o8 h8 => ?_
      have c8 := h8.cells rfl
      refine IdxX.mk (by omega) (by omega) ?_
      refine c8.mat S.le (show j < (ten x.down i).length by omega) fun b9 o9 h9 => ?_
      refine S.made OII.fr (l01RowsX_c _ _ (cel x.down i j) (RII.le _ _ _ _ S.le h9) sD1 sD2) fun b10 o10 g S => ?_
      refine S.new fun b11 g S => ?_
      refine S.appT 1 rfl rfl (by omega) fun e2 g S => ?_
      refine LoadX.same (v := vD2 x P) (S.at_ 8 rfl) rfl ?_
      refine IdxX.mk (by omega) (by omega) ?_
      refine c2.ten S.le (show i < x.across.length by omega) fun b12 o12 h12 => ?_
      have c12 := h12.cells rfl
      refine IdxX.mk (by omega) (by omega) ?_
      refine c12.mat S.le (show j < (ten x.across i).length by omega) fun b13 o13 h13 => ?_
      refine S.made OII.fr (l01RowsX_c _ _ (cel x.across i j) (RII.le _ _ _ _ S.le h13) sA1 sA2) fun b14 o14 g S => ?_
      refine S.new fun b15 g S => ?_
      refine S.appT 0 rfl rfl (by omega) fun e3 g S => ?_
      refine WR.i64 ?_
      refine ⟨dW x - (i + 1), by omega, i + 1, e1, e2, e3, rfl, hlt, S.eq ?_, rfl⟩
      rw [← range_snoc i (fun i => cel x.across i j), ← range_snoc i (fun i => cel x.down i j), ← range_snoc i (fun i => ent x.dims i j), List.map_append]
      rfl
    · have hi2 : i = dW x := by simp at h3; omega
      subst hi2
      have S := S.rw_tr 0 rfl (by omega)
      have S := S.rw_tr 1 rfl (by omega)
      have S := S.rc_tr 2 rfl (by simp; omega)
      refine LoadX.same (v := .slice (some ⟨d1, 0, none⟩) j 1) (S.at_ 3 rfl) rfl ?_
      have S := S.front 2 rfl
      refine S.new fun b16 g S => ?_
      refine S.appT 5 rfl rfl (by omega) fun d1 g S => ?_
      refine S.put 2 rfl fun g S => ?_
      refine LoadX.same (v := .slice (some ⟨d2, 0, none⟩) j 1) (S.at_ 2 rfl) rfl ?_
      have S := S.front 1 rfl
      refine S.new fun b17 g S => ?_
      refine S.appT 3 rfl rfl (by omega) fun d2 g S => ?_
      refine S.put 1 rfl fun g S => ?_
      refine LoadX.same (v := .slice (some ⟨d3, 0, none⟩) j 1) (S.at_ 1 rfl) rfl ?_
      refine S.new fun b18 g S => ?_
      refine S.appT 1 rfl rfl (by omega) fun d3 g S => ?_
      refine S.put 0 rfl fun g S => ?_
      refine WR.i64 ?_
      refine ⟨dH x - (j + 1), by omega, j + 1, d1, d2, d3, rfl, hjl, S.eq ?_, rfl⟩
      rw [← range_snoc j (fun j => (List.range (dW x)).map fun i => cel x.across i j), ← range_snoc j (fun j => (List.range (dW x)).map fun i => cel x.down i j), ← range_snoc j (fun j => (List.range (dW x)).map fun i => ent x.dims i j)]
      rfl
  · have hj2 : j = dH x := by simp at h2; omega
    subst hj2
    refine LoadX.same (v := .agg #[.int .i64 x.prime, .slice (some ⟨d1, 0, none⟩) (dH x) 1, .slice (some ⟨d2, 0, none⟩) (dH x) 1, .slice (some ⟨d3, 0, none⟩) (dH x) 1]) (S.at_ 0 rfl) rfl ?_
    refine S.put 4 rfl fun g S => ?_
    refine LoadX.same (v := .agg #[.int .i64 x.prime, .slice (some ⟨d1, 0, none⟩) (dH x) 1, .slice (some ⟨d2, 0, none⟩) (dH x) 1, .slice (some ⟨d3, 0, none⟩) (dH x) 1]) (S.at_ 4 rfl) rfl ?_
    have S := S.rw_tr 1 rfl (by omega)
    have S := S.rw_tr 2 rfl (by omega)
    have S := S.rw_tr 3 rfl (by omega)
    have S := ((S.front 1 rfl).front 2 rfl).front 3 rfl
    obtain ⟨l, hl⟩ := SepM.finD (x := flipD x) S
    exact FinX.here S.le.len ⟨l, hl, S.le⟩

theorem cnL_range {α : Type} {f : α → Nat} {n m : Nat} {g : Nat → α} (h : ∀ i, i < n → f (g i) ≤ m) : cnL f ((List.range n).map g) ≤ n * m := by
  induction n with
  | zero => simp [cnL]
  | succ n ih =>
    rw [List.range_succ, List.map_append]
    have h1 := ih (fun i hi => h i (by omega))
    have h2 := h n (by omega)
    unfold cnL at h1 ⊢
    rw [List.map_append, List.sum_append, Nat.succ_mul]
    simp only [List.map_cons, List.map_nil, List.sum_cons, List.sum_nil]
    omega

end Go.Gl

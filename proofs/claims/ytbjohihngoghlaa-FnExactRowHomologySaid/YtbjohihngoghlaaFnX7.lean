/- Chapter 3: transposed double complexes, the program's side. No condition. -/
import Derived.Test.YtbjohihngoghlaaFnX5
import Derived.Test.YtbjohihngoghlaaGlO
set_option linter.unusedVariables false
set_option linter.unusedSimpArgs false
namespace Go.Gl
open Go.Proofs Go.Proofs.Ytbjohihngoghlaa Go.Pl

/-- a table of cells, columns and rows exchanged -/
def flipT (t : List (List (List (List Int)))) (W H : Nat) : List (List (List (List Int))) := (List.range H).map fun j => (List.range W).map fun i => cel t i j
def flipII (d : List (List Int)) (W H : Nat) : List (List Int) := (List.range H).map fun j => (List.range W).map fun i => ent d i j
def flipD (x : SDouble) : SDouble := ⟨x.prime, flipII x.dims (dW x) (dH x), flipT x.down (dW x) (dH x), flipT x.across (dW x) (dH x)⟩
def noDouble : SDouble := ⟨0, [], [], []⟩
noncomputable def transD (x : SDouble) : SDouble × Int := if dOk x then (flipD x, 0) else (noDouble, 1)
/-- how long a row is after some columns -/
def kk (i j j' : Nat) : Nat := if j' < j then i + 1 else i
theorem kk_row (i H j' : Nat) (h : j' < H) : kk i H j' = kk (i + 1) 0 j' := by unfold kk; rw [if_pos h, if_neg (by omega)]
def slc (A : Nat → Option Addr) (k c : Nat → Nat) (j : Nat) : Value := .slice (A j) (k j) (c j)
def rowM (n : Nat) (t : List (List (List (List Int)))) (A : Nat → Option Addr) (k c : Nat → Nat) (j : Nat) : Res := .rw OII.fr 41 n (slc A k c j) (k j) ((List.range (k j)).map fun i => cel t i j)
theorem range_snoc {α : Type _} (n : Nat) (f : Nat → α) : (List.range n).map f ++ [f n] = (List.range (n + 1)).map f := by simp [List.range_succ]
theorem rowM_step {n : Nat} {t : List (List (List (List Int)))} {A : Nat → Option Addr} {c : Nat → Nat} {i j b : Nat} :
    (fun i' => if i' = j then Res.rw OII.fr 41 n (.slice (some ⟨b, 0, none⟩) (kk i j j + 1) 1) (kk i j j + 1) (((List.range (kk i j j)).map fun i => cel t i j) ++ [cel t i j]) else rowM n t A (kk i j) c i') =
      rowM n t (fun i' => if i' = j then some ⟨b, 0, none⟩ else A i') (kk i (j + 1)) (fun i' => if i' = j then 1 else c i') := by
  funext i'
  have ek : kk i j j = i := if_neg (by omega)
  by_cases h : i' = j
  · subst h
    rw [if_pos rfl]
    unfold rowM slc
    have e2 : kk i (i' + 1) i' = i + 1 := if_pos (by omega)
    simp only [↓reduceIte, e2, ek, range_snoc]
  · rw [if_neg h]
    unfold rowM slc
    have e2 : kk i (j + 1) i' = kk i j i' := by unfold kk; by_cases h2 : i' < j; rw [if_pos h2, if_pos (by omega)]; rw [if_neg h2, if_neg (by omega)]
    simp only [if_neg h, e2]
theorem slc_step {A : Nat → Option Addr} {c : Nat → Nat} {i j b : Nat} :
    (fun i' => if i' = j then Value.slice (some ⟨b, 0, none⟩) (kk i j j + 1) 1 else slc A (kk i j) c i') = slc (fun i' => if i' = j then some ⟨b, 0, none⟩ else A i') (kk i (j + 1)) (fun i' => if i' = j then 1 else c i') := by
  funext i'
  have ek : kk i j j = i := if_neg (by omega)
  by_cases h : i' = j
  · subst h
    unfold slc
    have e2 : kk i (i' + 1) i' = i + 1 := if_pos (by omega)
    simp only [↓reduceIte, e2, ek]
  · unfold slc
    have e2 : kk i (j + 1) i' = kk i j i' := by unfold kk; by_cases h2 : i' < j; rw [if_pos h2, if_pos (by omega)]; rw [if_neg h2, if_neg (by omega)]
    simp only [if_neg h, e2]
theorem nils_map (H : Nat) : (List.replicate H [Value.slice none 0 0]).flatten = (List.range H).map (slc (fun _ => none) (kk 0 0) fun _ => 0) := by
  have : slc (fun _ => none) (kk 0 0) (fun _ => 0) = fun _ => Value.slice none 0 0 := by funext j; unfold slc kk; rw [if_neg (by omega)]
  rw [this]
  induction H with
  | zero => rfl
  | succ H ih => rw [List.replicate_succ', List.flatten_append, ih, List.range_succ]; simp

theorem turned_c (h : AH) (v : Value) (t : List (List (List (List Int)))) (W H : Nat) (ht : RIIII h v t) (hl : t.length = W) (hW : 1 ≤ W ∧ W ≤ 100) (hH : ∀ i, i < W → (ten t i).length = H) (hH2 : H ≤ 100)
    (hs : ∀ i j, i < W → j < H → (cel t i j).length ≤ 1000 ∧ ∀ k, k < (cel t i j).length → (row (cel t i j) k).length ≤ 1000) : ACalls Try.prog 182 [v] h (Made OIIII h (flipT t W H)) := by
  obtain ⟨_, b1, o1, k1, c1⟩ := ht
  refine ACalls.madeN (ACalls.wk (args' := [.slice (some ⟨b1, o1, none⟩) t.length 0]) ?_ (.cons k1 .nil))
  refine ACalls.of Tt.tab Try.func182 rfl (by kernel_rfl) Try.ntmps182 _ rfl rfl (fun hw => ?_)
  have S := Sep.start h
  have hH0 := hH 0 (by omega)
  refine IdxX.mk (by omega) (by omega) ?_
  refine c1.ten S.le (show 0 < t.length by omega) fun b2 o2 h2 => ?_
  rw [hH0]
  refine ⟨by omega, rfl, by omega, by show (H : Int) * (24 : Nat) ≤ _; omega, ?_⟩
  refine S.new fun b3 g S => ?_
  have S := S.recast 0 rfl (nils_map _)
  rw [show ((H : Int)).toNat = H from Int.toNat_natCast H] at S ⊢
  have S := (S.nilsW OII.fr 41 H).eq (Rs' := .bx b3 23 1 ((List.range H).map (slc (fun _ => none) (kk 0 0) fun _ => 0)) :: rowsR H (rowM h.length t (fun _ => none) (kk 0 0) fun _ => 0)) (by
    have : (rowM h.length t (fun _ => none) (kk 0 0) fun _ => 0) = fun _ => Res.rw OII.fr 41 h.length (.slice none 0 0) 0 [] := by
      funext j; unfold rowM slc kk; rw [if_neg (by omega)]; rfl
    rw [this]; rfl)
  refine ⟨⟨[3, 16, 17, 18], fun n' vs g => ∃ (i : Nat) (A : Nat → Option Addr) (c : Nat → Nat), n' = W - i ∧ i ≤ W ∧ Sep h.length h g (.bx b3 23 1 ((List.range H).map (slc A (kk i 0) c)) :: rowsR H (rowM h.length t A (kk i 0) c)) ∧
    vs = [.slice (some ⟨b3, 0, none⟩) H 1, .slice (some ⟨b1, o1, none⟩) t.length 0, .int .i64 t.length, .int .i64 i], _, ⟨0, _, _, rfl, Nat.zero_le _, S, rfl⟩, ?_⟩⟩
  clear S
  rintro n' vs g ⟨i, A, c, rfl, hi, S, rfl⟩
  refine BIf.mk (fun h3 => ?_) (fun h3 => ?_)
  · have hlt : i < W := by simp at h3; omega
    have hHi := hH i hlt
    refine IdxX.mk (by omega) (by omega) ?_
    refine c1.ten S.le (show i < t.length by omega) fun b4 o4 h4 => ?_
    have c4 := h4.cells rfl
    refine ⟨⟨[3, 16, 17, 18, 22, 23, 24], fun n' vs g => ∃ (j : Nat) (A : Nat → Option Addr) (c : Nat → Nat), n' = H - j ∧ j ≤ H ∧ Sep h.length h g (.bx b3 23 1 ((List.range H).map (slc A (kk i j) c)) :: rowsR H (rowM h.length t A (kk i j) c)) ∧
      vs = [.slice (some ⟨b3, 0, none⟩) H 1, .slice (some ⟨b1, o1, none⟩) t.length 0, .int .i64 t.length, .int .i64 i, .slice (some ⟨b4, o4, none⟩) (ten t i).length 0, .int .i64 (ten t i).length, .int .i64 j], _, ⟨0, A, c, rfl, Nat.zero_le _, S, rfl⟩, ?_⟩⟩
    clear S A c
    rintro n' vs g ⟨j, A, c, rfl, hj, S, rfl⟩
    refine BIf.mk (fun h5 => ?_) (fun h5 => ?_)
    · have hjl : j < H := by simp at h5; omega
      obtain ⟨hs1, hs2⟩ := hs i j hlt hjl
      have ek : kk i j j = i := if_neg (by omega)
      refine IdxX.mk (by omega) (by omega) ?_
      refine c4.mat S.le (show j < (ten t i).length by omega) fun b5 o5 h6 => ?_
      have c5 := h6.cells rfl
      have eM : mat (ten t i) j = cel t i j := rfl
      rw [eM] at c5 ⊢
      refine S.new fun b6 g S => ?_
      have S := S.bx_rw 0 OI.fr rfl
      refine ⟨⟨[3, 6, 8, 16, 17, 18, 22, 23, 24, 30, 31, 32], fun n' vs g => ∃ (m b6 : Nat), n' = (cel t i j).length - m ∧ m ≤ (cel t i j).length ∧ Sep h.length h g (.rw OI.fr 22 h.length (.slice (some ⟨b6, 0, none⟩) m 1) m (tabR m (row (cel t i j))) :: .bx b3 23 1 ((List.range H).map (slc A (kk i j) c)) :: rowsR H (rowM h.length t A (kk i j) c)) ∧
        vs = [.slice (some ⟨b3, 0, none⟩) H 1, .int .i64 j, .slice (some ⟨b6, 0, none⟩) m 1, .slice (some ⟨b1, o1, none⟩) t.length 0, .int .i64 t.length, .int .i64 i, .slice (some ⟨b4, o4, none⟩) (ten t i).length 0, .int .i64 (ten t i).length, .int .i64 j, .slice (some ⟨b5, o5, none⟩) (cel t i j).length 0, .int .i64 (cel t i j).length, .int .i64 m], _, ⟨0, b6, rfl, Nat.zero_le _, S, rfl⟩, ?_⟩⟩
      clear S
      rintro n' vs g ⟨m, b6, rfl, hm, S, rfl⟩
      refine BIf.mk (fun h7 => ?_) (fun h7 => ?_)
      · have hml : m < (cel t i j).length := by simpa using h7
        have hw1 := hs2 m hml
        refine IdxX.mk (by omega) (by omega) ?_
        refine c5.rowY S.le hml fun b7 o7 h8 => ?_
        refine S.made OI.fr (ACalls.madeI (cloneI_c _ _ (row (cel t i j) m) (RI.le _ _ _ _ S.le h8) (by omega))) fun b8 o8 g S => ?_
        refine S.new fun b9 g S => ?_
        refine S.appT 0 rfl rfl (by omega) fun b10 g S => ?_
        refine WR.i64 ?_
        exact ⟨(cel t i j).length - (m + 1), by omega, m + 1, b10, rfl, hml, by rw [tabR_succ]; exact S, rfl⟩
      · have hm2 : m = (cel t i j).length := by simp at h7; omega
        subst hm2
        rw [← tabR_eq] at S
        have S := S.rw_tr 0 rfl (by omega)
        refine IdxX.mk (by omega) (by omega) ?_
        refine LoadX.same (v := slc A (kk i j) c j) (S.at_ 1 rfl) (ldv_map rfl hjl) ?_
        unfold slc at S ⊢
        refine S.new fun b9 g S => ?_
        refine S.appT (j + 1) (gt_rowsR hjl) rfl (by omega) fun b10 g S => ?_
        refine IdxX.mk (by omega) (by omega) ?_
        refine S.store (o := 0 + j) (vs := [.slice (some ⟨b10, 0, none⟩) (kk i j j + 1) 1]) 0 rfl (by rw [List.length_map, List.length_range]; show 0 + j + 1 ≤ H; omega) fun g S => ?_
        refine WR.i64 ?_
        refine ⟨H - (j + 1), by omega, j + 1, fun i' => if i' = j then some ⟨b10, 0, none⟩ else A i', fun i' => if i' = j then 1 else c i', rfl, hjl, S.eq ?_, rfl⟩
        show Res.bx _ _ _ (setCells ((List.range H).map (slc A (kk i j) c)) (0 + j) [_]) :: st (rowsR H (rowM h.length t A (kk i j) c)) j _ = _
        rw [setCells_map hjl, st_rowsR]
        exact congr (congrArg _ (congrArg _ (congrArg (fun f => (List.range H).map f) slc_step))) (congrArg (rowsR H) rowM_step)
    · have hj2 : j = H := by simp at h5; omega
      subst hj2
      refine WR.i64 ?_
      refine ⟨W - (i + 1), by omega, i + 1, A, c, rfl, hlt, S.eq ?_, rfl⟩
      congr 1
      · congr 1
        exact List.map_congr_left fun j' hj' => by unfold slc; rw [kk_row i j j' (List.mem_range.1 hj')]
      · exact List.map_congr_left fun j' hj' => by unfold rowM slc; rw [kk_row i j j' (List.mem_range.1 hj')]
  · have hi2 : i = W := by simp at h3; omega
    subst hi2
    have S := SepM.rowsAs (Ls := [_]) S (f' := fun j => .tr OIII.fr h.length (slc A (kk i 0) c j) ((List.range i).map fun i' => cel t i' j)) fun j hj F hF hR => by
      have ek : kk i 0 j = i := if_neg (by omega)
      unfold rowM at hR
      rw [ek] at hR
      exact Res.rw_tr (by omega) hR
    have S := (SepM.eq S (Rs' := .bx b3 23 1 ((List.range H).map (slc A (kk i 0) c)) :: (rowsR H (fun j => .tr OIII.fr h.length (slc A (kk i 0) c j) ((List.range i).map fun i' => cel t i' j)) ++ [])) (by simp)).gather
    have S := S.rw_tr 0 rfl (by omega)
    exact S.fin 0 rfl

end Go.Gl

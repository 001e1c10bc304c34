/- Chapter 3: transposed double complexes, the program's side. No condition. Chapter 3: TransposeDouble, the program's side. No condition. Chapter 3: TransposeDouble, the reference's side. No condition. -/
import Derived.Test.YtionapmdibdfpaaFnX5
import Derived.Test.YtionapmdibdfpaaGlO
import Derived.Test.YtionapmdibdfpaaGlR
set_option linter.unusedVariables false
set_option linter.unusedSimpArgs false
namespace Go.Gl
open Go.Proofs Go.Proofs.Ytionapmdibdfpaa Go.Pl

/-- a table of cells, columns and rows exchanged -/
def flipT (t : List (List (List (List Int)))) (W H : Nat) : List (List (List (List Int))) := (List.range H).map fun j => (List.range W).map fun i => cel t i j
def flipII (d : List (List Int)) (W H : Nat) : List (List Int) := (List.range H).map fun j => (List.range W).map fun i => ent d i j
def flipD (x : SDouble) : SDouble := ⟨x.prime, flipII x.dims (dW x) (dH x), flipT x.down (dW x) (dH x), flipT x.across (dW x) (dH x)⟩
def noDouble : SDouble := ⟨0, [], [], []⟩
noncomputable def transD (x : SDouble) : SDouble × Int := if dOk x then (flipD x, 0) else (noDouble, 1)
/-- how long a row is after some columns -/
def kk (i j j' : Nat) : Nat := if j' < j then i + 1 else i
theorem kk_row (i H j' : Nat) (h : j' < H) : kk i H j' = kk (i + 1) 0 j' := by unfold kk; rw [if_pos h, if_neg (by omega)]
def slc (A : Nat → Option Addr) (k c : Nat → Nat) (j : Nat) : Value := .slice (A j) (k j) (c j)
def rowM (n : Nat) (t : List (List (List (List Int)))) (A : Nat → Option Addr) (k c : Nat → Nat) (j : Nat) : Res := .rw OII.fr 22 n (slc A k c j) (k j) ((List.range (k j)).map fun i => cel t i j)
theorem range_snoc {α : Type _} (n : Nat) (f : Nat → α) : (List.range n).map f ++ [f n] = (List.range (n + 1)).map f := by simp [List.range_succ]
theorem rowM_step {n : Nat} {t : List (List (List (List Int)))} {A : Nat → Option Addr} {c : Nat → Nat} {i j b : Nat} :
    (fun i' => if i' = j then Res.rw OII.fr 22 n (.slice (some ⟨b, 0, none⟩) (kk i j j + 1) 1) (kk i j j + 1) (((List.range (kk i j j)).map fun i => cel t i j) ++ [cel t i j]) else rowM n t A (kk i j) c i') =
      rowM n t (fun i' => if i' = j then some ⟨b, 0, none⟩ else A i') (kk i (j + 1)) (fun i' => if i' = j then 1 else c i') := by
  funext i'
  have ek : kk i j j = i := if_neg (by omega)
  by_cases h : i' = j
  · subst h
    rw [if_pos rfl]
    unfold rowM slc
    have e2 : kk i (i' + 1) i' = i + 1 := if_pos (by omega)
    simp only [↓reduceIte, e2, ek, range_snoc]
  · rw [if_neg h]
    unfold rowM slc
    have e2 : kk i (j + 1) i' = kk i j i' := by unfold kk; by_cases h2 : i' < j; rw [if_pos h2, if_pos (by omega)]; rw [if_neg h2, if_neg (by omega)]
    simp only [if_neg h, e2]
theorem slc_step {A : Nat → Option Addr} {c : Nat → Nat} {i j b : Nat} :
    (fun i' => if i' = j then Value.slice (some ⟨b, 0, none⟩) (kk i j j + 1) 1 else slc A (kk i j) c i') = slc (fun i' => if i' = j then some ⟨b, 0, none⟩ else A i') (kk i (j + 1)) (fun i' => if i' = j then 1 else c i') := by
  funext i'
  have ek : kk i j j = i := if_neg (by omega)
  by_cases h : i' = j
  · subst h
    unfold slc
    have e2 : kk i (i' + 1) i' = i + 1 := if_pos (by omega)
    simp only [↓reduceIte, e2, ek]
  · unfold slc
    have e2 : kk i (j + 1) i' = kk i j i' := by unfold kk; by_cases h2 : i' < j; rw [if_pos h2, if_pos (by omega)]; rw [if_neg h2, if_neg (by omega)]
    simp only [if_neg h, e2]
theorem nils_map (H : Nat) : (List.replicate H [Value.slice none 0 0]).flatten = (List.range H).map (slc (fun _ => none) (kk 0 0) fun _ => 0) := by
  have : slc (fun _ => none) (kk 0 0) (fun _ => 0) = fun _ => Value.slice none 0 0 := by funext j; unfold slc kk; rw [if_neg (by omega)]
  rw [this]
  induction H with
  | zero => rfl
  | succ H ih => rw [List.replicate_succ', List.flatten_append, ih, List.range_succ]; simp

end Go.Gl

set_option linter.unusedVariables false
set_option linter.unusedSimpArgs false
namespace Go.Gl
open Go.Proofs Go.Proofs.Ytionapmdibdfpaa Go.Pl

theorem ODouble.zero (h : AH) (n : Nat) : ODouble n h (.agg #[.int .i64 0, .slice none 0 0, .slice none 0 0, .slice none 0 0]) noDouble [] :=
  ⟨_, _, _, rfl, [], [], [], ⟨by simp [noDouble], 0, 0, [], [], Wk.nil _, Row.nil _ _ _, rfl, .inl rfl⟩, ⟨by simp [noDouble], 0, 0, [], [], Wk.nil _, Row.nil _ _ _, rfl, .inl rfl⟩, ⟨by simp [noDouble], 0, 0, [], [], Wk.nil _, Row.nil _ _ _, rfl, .inl rfl⟩, rfl, by simp⟩
theorem SepM.finD {h0 h : AH} {Rs : List Res} {x : SDouble} {v1 v2 v3 : Value} (S : Sep h0.length h0 h (.tr OII.fr h0.length v1 x.dims :: .tr OIIII.fr h0.length v2 x.across :: .tr OIIII.fr h0.length v3 x.down :: Rs)) :
    ∃ l, ODouble h0.length h (.agg #[.int .i64 x.prime, v1, v2, v3]) x l := by
  obtain ⟨l1, l2, l3, a1, a2, a3, hd⟩ := S.three
  exact ⟨_, _, _, _, rfl, l1, l2, l3, a1, a2, a3, rfl, hd⟩
def rowI (n : Nat) (d : List (List Int)) (A : Nat → Option Addr) (k c : Nat → Nat) (j : Nat) : Res := .rc 2 1 n (slc A k c j) (k j) (((List.range (k j)).map fun i => ent d i j).map (.int .i64))
theorem rowI_step {n : Nat} {d : List (List Int)} {A : Nat → Option Addr} {c : Nat → Nat} {i j b : Nat} :
    (fun i' => if i' = j then Res.rc 2 1 n (.slice (some ⟨b, 0, none⟩) (kk i j j + 1) 1) (kk i j j + 1) ((((List.range (kk i j j)).map fun i => ent d i j).map (.int .i64)) ++ [.int .i64 (ent d i j)]) else rowI n d A (kk i j) c i') =
      rowI n d (fun i' => if i' = j then some ⟨b, 0, none⟩ else A i') (kk i (j + 1)) (fun i' => if i' = j then 1 else c i') := by
  funext i'
  have ek : kk i j j = i := if_neg (by omega)
  by_cases h : i' = j
  · subst h
    rw [if_pos rfl]
    unfold rowI slc
    have e2 : kk i (i' + 1) i' = i + 1 := if_pos (by omega)
    simp only [↓reduceIte, e2, ek]
    rw [List.range_succ, List.map_append, List.map_append]
    rfl
  · rw [if_neg h]
    unfold rowI slc
    have e2 : kk i (j + 1) i' = kk i j i' := by unfold kk; by_cases h2 : i' < j; rw [if_pos h2, if_pos (by omega)]; rw [if_neg h2, if_neg (by omega)]
    simp only [if_neg h, e2]
/-- what the transposed one is when some cells have been told -/
def StTr (n : Nat) (x : SDouble) (P : DP) (ta td : List (List (List (List Int)))) (va vd : Value) (b b2 b3 b8 : Nat) (i j : Nat) (Rs : List Res) : Prop :=
  ∃ (A : Nat → Option Addr) (c : Nat → Nat), Rs = [.bx b3 33 4 [.int .i64 x.prime, .slice (some ⟨b8, 0, none⟩) (dH x) 1, va, vd], .tr OIIII.fr n vd td, .tr OIIII.fr n va ta, .bx b8 27 1 ((List.range (dH x)).map (slc A (kk i j) c)), .bx b2 33 4 [.int .i64 0, .slice none 0 0, .slice none 0 0, .slice none 0 0], .bx b 33 4 (cD x P)] ++ rowsR (dH x) (rowI n x.dims A (kk i j) c)

end Go.Gl

set_option linter.unusedVariables false
set_option linter.unusedSimpArgs false
namespace Go.Gl
open Go.Proofs Go.Proofs.Ytionapmdibdfpaa Go.Pl


theorem cnL_range {α : Type} {f : α → Nat} {n m : Nat} {g : Nat → α} (h : ∀ i, i < n → f (g i) ≤ m) : cnL f ((List.range n).map g) ≤ n * m := by
  induction n with
  | zero => simp [cnL]
  | succ n ih =>
    rw [List.range_succ, List.map_append]
    have h1 := ih (fun i hi => h i (by omega))
    have h2 := h n (by omega)
    unfold cnL at h1 ⊢
    rw [List.map_append, List.sum_append, Nat.succ_mul]
    simp only [List.map_cons, List.map_nil, List.sum_cons, List.sum_nil]
    omega

end Go.Gl

/- Complexes with maps of 0, and numbers added into their maps. No condition. -/
import Derived.Test.YtionapmdibdfpaaGlY
import Derived.Test.YtionapmdibdfpaaFnA1
import Derived.Test.YtionapmdibdfpaaFnStruct
set_option linter.unusedVariables false
set_option linter.unusedSimpArgs false
namespace Go.Gl
open Go.Proofs Go.Proofs.Ytionapmdibdfpaa Go.Pl

/-- tables by their numbers -/
def tab3 (n : Nat) (r w : Nat → Nat) (f : Nat → Nat → Nat → Int) : List (List (List Int)) := (List.range n).map fun a => tabR (r a) fun b => tab (w a) fun c => f a b c
theorem tab3_length (n : Nat) (r w : Nat → Nat) (f : Nat → Nat → Nat → Int) : (tab3 n r w f).length = n := by simp [tab3]
theorem tab3_mat {n : Nat} {r w : Nat → Nat} {f : Nat → Nat → Nat → Int} {k : Nat} (h : k < n) : mat (tab3 n r w f) k = tabR (r k) fun b => tab (w k) fun c => f k b c := by simp [tab3, mat, h]
theorem tab3_congr {n : Nat} {r w : Nat → Nat} {f g : Nat → Nat → Nat → Int} (h : ∀ a b c, a < n → b < r a → c < w a → f a b c = g a b c) : tab3 n r w f = tab3 n r w g := by
  unfold tab3
  refine List.map_congr_left fun a ha => ?_
  have ha := List.mem_range.1 ha
  exact tabR_congr fun b hb => tab_congr fun c hc => h a b c ha hb hc
theorem tab3_set {n : Nat} {r w : Nat → Nat} {f : Nat → Nat → Nat → Int} {k i t : Nat} (hk : k < n) (hi : i < r k) (y : Int) :
    (tab3 n r w f).set k ((mat (tab3 n r w f) k).set i ((row (mat (tab3 n r w f) k) i).set t y)) = tab3 n r w fun a b c => if a = k ∧ b = i ∧ c = t then y else f a b c := by
  rw [tab3_mat hk, tabR_row hi, tab_set, tabR_set]
  refine List.ext_getElem? fun a => ?_
  rw [List.getElem?_set]
  by_cases hak : k = a
  · subst hak
    rw [if_pos rfl, if_pos (by rw [tab3_length]; exact hk)]
    simp only [tab3, List.getElem?_map, List.getElem?_range hk, Option.map_some]
    congr 1
    refine tabR_congr fun b hb => ?_
    by_cases hbi : b = i
    · subst hbi
      rw [if_pos rfl]
      exact tab_congr fun c hc => by by_cases hct : c = t <;> simp [hct]
    · rw [if_neg hbi]
      exact tab_congr fun c hc => by rw [if_neg (by simp [hbi])]
  · rw [if_neg hak]
    by_cases ha : a < n
    · simp only [tab3, List.getElem?_map, List.getElem?_range ha, Option.map_some]
      congr 1
      exact tabR_congr fun b hb => tab_congr fun c hc => by rw [if_neg (by simp [Ne.symm hak])]
    · rw [List.getElem?_eq_none (by rw [tab3_length]; omega), List.getElem?_eq_none (by rw [tab3_length]; omega)]
/-- one number of the maps, more by another -/
def addAt (p : Int) (x : List (List (List Int))) (k i t : Nat) (y : Int) : List (List (List Int)) := x.set k ((mat x k).set i ((row (mat x k) i).set t ((ent (mat x k) i t + y) % p)))

theorem addAt_c (h : AH) (p : Int) (b o m q d0 dk qd : Nat) (x : List (List (List Int))) (k i t : Nat) (y : Int) (F : Nat → Prop) (hp : 2 ≤ p ∧ p ≤ 7) (hq : x.length = q) (hx : Held OIII m h F (.slice (some ⟨b, o, none⟩) q 0) x)
    (hk : k < x.length) (hi : i < (mat x k).length) (ht : t < (row (mat x k) i).length) (hl : x.length ≤ 1000) (h0 : -1000 ≤ ent (mat x k) i t ∧ ent (mat x k) i t ≤ 1000) (hy : -1000 ≤ y ∧ y ≤ 1000) :
    ACalls Try.prog 69 [.agg #[.int .i64 p, .slice (some ⟨d0, dk, none⟩) qd 0, .slice (some ⟨b, o, none⟩) q 0], .int .i64 ((k + 1 : Nat) : Int), .int .i64 i, .int .i64 t, .int .i64 y] h (fun r h' => r = .tuple #[] ∧ Upd OIII m h F (.slice (some ⟨b, o, none⟩) q 0) (addAt p x k i t y) h') := by
  unfold addAt
  refine ACalls.of Tt.tab Try.func69 rfl (by kernel_rfl) Try.ntmps69 _ rfl rfl (fun hw => ?_)
  have S := SepM.lent OIII.fr hx
  refine S.new fun b3 g S => ?_
  obtain ⟨b1, o1, b2, o2, z1, z2, z3, z4⟩ := S.cell3 1 rfl hq hk hi ht
  refine LoadX.same (v := .slice (some ⟨b, o, none⟩) q 0) (S.at_ 0 rfl) rfl ?_
  refine WR.as (r := (k : Int)) (by omega) ?_
  refine IdxX.mk (by omega) (by omega) ?_
  refine z1 _ _ rfl ?_
  refine IdxX.mk (by omega) (by omega) ?_
  refine z2 _ _ rfl ?_
  refine IdxX.mk (by omega) (by omega) ?_
  refine DrawX.of Tt.tab follows_any [] [16] [0, 1, 2, 3, 4, 5, 6, 7, 8, 9, 10, 11, 12, 13, 14, 15, 16] rfl (by kernel_rfl) (by kernel_rfl) ?_
  refine z3 _ _ rfl ?_
  generalize ent (mat x k) i t = e at h0 ⊢
  have e1 := Int.tmod_lt_of_pos (e + y) (by omega : 0 < p)
  have e2 := Int.lt_tmod_of_pos (e + y) (by omega : 0 < p)
  refine WR.i64 ?_
  refine LoadX.same (v := .int .i64 p) (S.at_ 0 rfl) rfl ?_
  refine ⟨by omega, ?_⟩
  refine LoadX.same (v := .int .i64 p) (S.at_ 0 rfl) rfl ?_
  refine WR.i64 ?_
  refine LoadX.same (v := .int .i64 p) (S.at_ 0 rfl) rfl ?_
  refine TM.pos ?_
  rw [Int.add_emod_right, tmod_emod]
  refine z4 _ _ fun g S => ?_
  exact FinX.here (by have := S.le.len; rwa [show (hide F h).length = h.length from only_length _ _] at this) ⟨rfl, S.updated 1 rfl⟩

/-- a call that changes a tree of our own -/
theorem SepM.lendT {M : Nat → Prop} {n : Nat} {hb h : AH} {Rs : List Res} (S : SepM M n hb h Rs) (j : Nat) {ti : TypeId} {T : List TypeId} {α : Type} {E : Tr α} {hE : Fr ti T E} {m : Nat} {v : Value} {x x' : α} (hj : gt Rs j = some (.tr hE m v x)) {K : Value → AH → Prop} {P : Program} {f : FuncId} {args : List Value}
    (hc : ∀ F, Held E m h F v x → ACalls P f args h (fun r h' => r = .tuple #[] ∧ Upd E m h F v x' h')) (hk : ∀ h', SepM M n hb h' (st Rs j (.tr hE m v x')) → K (.tuple #[]) h') : CallX P f args h K := by
  obtain ⟨F, h1, _, h3⟩ := S.lend j hj
  refine CallX.same (hc F h1) ?_
  rintro r h' ⟨rfl, u⟩
  exact hk h' (h3 h' x' u)
def zeroMaps (dims : List Int) (n : Nat) : List (List (List Int)) := tab3 n (fun a => (ith dims (a + 1)).toNat) (fun a => (ith dims a).toNat) fun _ _ _ => 0
theorem tab3_succ (n : Nat) (r w : Nat → Nat) (f : Nat → Nat → Nat → Int) : tab3 (n + 1) r w f = tab3 n r w f ++ [tabR (r n) fun b => tab (w n) fun c => f n b c] := by simp [tab3, List.range_succ]

theorem blankM_c (h : AH) (p : Int) (b1 o1 : Nat) (dims : List Int) (hx : RI h (.slice (some ⟨b1, o1, none⟩) dims.length 0) dims) (hb : ∀ i, 0 ≤ ith dims i ∧ ith dims i ≤ 1000) (hd : dims.length ≤ 1000) (hd0 : 0 < dims.length) :
    ACalls Try.prog 67 [.int .i64 p, .slice (some ⟨b1, o1, none⟩) dims.length 0] h (fun r h' => ∃ mv l, r = .agg #[.int .i64 p, .slice (some ⟨b1, o1, none⟩) dims.length 0, mv] ∧ OIII h.length h' mv (zeroMaps dims (dims.length - 1)) l ∧ Le h h') := by
  refine ACalls.of Tt.tab Try.func67 rfl (by kernel_rfl) Try.ntmps67 _ rfl rfl (fun hw => ?_)
  have c1 := hx.cells rfl
  have S := Sep.start h
  refine S.new fun b2 g S => ?_
  refine S.new fun b3 g S => ?_
  refine S.put 0 rfl fun g S => ?_
  have S := S.nilrw OII.fr 22
  refine ⟨⟨[1, 4, 5, 6], fun n' vs g => ∃ (i : Nat) (A : Option Addr) (c : Nat), n' = dims.length - 1 - i ∧ i + 1 ≤ dims.length ∧ Sep h.length h g [.rw OII.fr 22 h.length (.slice A i c) i (zeroMaps dims i), .bx b3 30 3 [.int .i64 p, .slice (some ⟨b1, o1, none⟩) dims.length 0, .slice A i c], .bx b2 30 3 [.int .i64 0, .slice none 0 0, .slice none 0 0]] ∧
    vs = [.slice (some ⟨b1, o1, none⟩) dims.length 0, .pointer (some ⟨b2, 0, none⟩), .pointer (some ⟨b3, 0, none⟩), .int .i64 ((i + 1 : Nat) : Int)], _, ⟨0, none, 0, rfl, by omega, S, rfl⟩, ?_⟩⟩
  rintro n' vs g ⟨i, A, c, rfl, hi, S, rfl⟩
  refine CallX.same (sizeI_c _ _ _ _ _) ?_
  rintro r g' ⟨rfl, rfl⟩
  refine BIf.mk (fun h2 => ?_) (fun h2 => ?_)
  · have hlt : i + 1 < dims.length := by simp at h2; omega
    have d0 := hb i
    have d1 := hb (i + 1)
    obtain ⟨w, hw'⟩ : ∃ w : Nat, ith dims i = w := ⟨(ith dims i).toNat, by omega⟩
    obtain ⟨q, hq⟩ : ∃ q : Nat, ith dims (i + 1) = q := ⟨(ith dims (i + 1)).toNat, by omega⟩
    refine S.new fun b4 g S => ?_
    have S := S.bx_rw 0 OI.fr rfl
    refine IdxX.mk (by omega) (by omega) ?_
    refine c1.ith S.le hlt ?_
    rw [hq]
    refine ⟨⟨[1, 4, 5, 6, 7, 21, 22], fun n' vs g => ∃ (j b4 : Nat), n' = q - j ∧ j ≤ q ∧ Sep h.length h g [.rw OI.fr 27 h.length (.slice (some ⟨b4, 0, none⟩) j 1) j (tabR j fun _ => tab w fun _ => 0), .rw OII.fr 22 h.length (.slice A i c) i (zeroMaps dims i), .bx b3 30 3 [.int .i64 p, .slice (some ⟨b1, o1, none⟩) dims.length 0, .slice A i c], .bx b2 30 3 [.int .i64 0, .slice none 0 0, .slice none 0 0]] ∧
      vs = [.slice (some ⟨b1, o1, none⟩) dims.length 0, .pointer (some ⟨b2, 0, none⟩), .pointer (some ⟨b3, 0, none⟩), .int .i64 ((i + 1 : Nat) : Int), .slice (some ⟨b4, 0, none⟩) j 1, .int .i64 q, .int .i64 j], _, ⟨0, b4, rfl, Nat.zero_le _, S, rfl⟩, ?_⟩⟩
    rintro n' vs g ⟨j, b4, rfl, hj, S, rfl⟩
    refine BIf.mk (fun h3 => ?_) (fun h3 => ?_)
    · have h3 : j < q := by simpa using h3
      refine WR.as (r := (i : Int)) (by omega) ?_
      refine IdxX.mk (by omega) (by omega) ?_
      refine c1.ith S.le (show i < dims.length by omega) ?_
      rw [hw']
      refine ⟨by omega, rfl, by omega, by show (w : Int) * (8 : Nat) ≤ _; omega, ?_⟩
      refine S.new fun b5 g S => ?_
      have S := S.recast 0 rfl (zeros_tab _)
      have S := S.bx_rc 0 (k := w) rfl (by rw [List.length_map, tab_length]; show (w : Int).toNat = w * 1; omega)
      have S := S.rc_tr 0 rfl (by rw [tab_length]; omega)
      refine S.new fun b6 g S => ?_
      refine S.appT 0 rfl rfl (by omega) fun b7 g S => ?_
      refine WR.i64 ?_
      exact ⟨q - (j + 1), by omega, j + 1, b7, rfl, h3, by rw [tabR_succ]; exact S, rfl⟩
    · have hj2 : j = q := by simp at h3; omega
      subst hj2
      refine LoadX.same (v := .slice A i c) (S.at_ 2 rfl) rfl ?_
      have S := S.rw_tr 0 rfl (by omega)
      refine S.new fun b6 g S => ?_
      refine S.appT 0 rfl rfl (by omega) fun b7 g S => ?_
      refine S.put 1 rfl fun g S => ?_
      refine WR.i64 ?_
      refine ⟨dims.length - 1 - (i + 1), by omega, i + 1, some ⟨b7, 0, none⟩, 1, rfl, by omega, ?_, rfl⟩
      unfold zeroMaps
      rw [tab3_succ, hq, hw', Int.toNat_natCast, Int.toNat_natCast]
      exact S
  · have hi2 : i = dims.length - 1 := by simp at h2; omega
    subst hi2
    refine LoadX.same (v := .agg #[.int .i64 p, .slice (some ⟨b1, o1, none⟩) dims.length 0, .slice A (dims.length - 1) c]) (S.at_ 1 rfl) rfl ?_
    have S := S.rw_tr 0 rfl (by omega)
    refine S.put 2 rfl fun g S => ?_
    refine LoadX.same (v := .agg #[.int .i64 p, .slice (some ⟨b1, o1, none⟩) dims.length 0, .slice A (dims.length - 1) c]) (S.at_ 2 rfl) rfl ?_
    obtain ⟨l, t⟩ := S.tre 0 rfl
    exact FinX.here S.le.len ⟨_, l, rfl, t, S.le⟩
/-- a complex whose maps are 0, the dimensions as they were given -/
theorem blankN_c (h : AH) (p : Int) (b1 o1 : Nat) (dims : List Int) (hx : RI h (.slice (some ⟨b1, o1, none⟩) dims.length 0) dims) (hb : ∀ i, 0 ≤ ith dims i ∧ ith dims i ≤ 1000) (hd : dims.length ≤ 1000) (hd0 : 0 < dims.length) :
    ACalls Try.prog 67 [.int .i64 p, .slice (some ⟨b1, o1, none⟩) dims.length 0] h (fun r h' => ∃ b3 o3 l, r = .agg #[.int .i64 p, .slice (some ⟨b1, o1, none⟩) dims.length 0, .slice (some ⟨b3, o3, none⟩) (zeroMaps dims (dims.length - 1)).length 0] ∧ OIII h.length h' (.slice (some ⟨b3, o3, none⟩) (zeroMaps dims (dims.length - 1)).length 0) (zeroMaps dims (dims.length - 1)) l ∧ Le h h') :=
  (blankM_c h p b1 o1 dims hx hb hd hd0).can fun r h' ⟨mv, l, e, o, g⟩ => by
    subst e
    obtain ⟨b3, o3, k, o'⟩ := Node.can o
    exact ⟨_, Wk.agg (.cons (Wk.refl _) (.cons (Wk.refl _) (.cons k .nil))), b3, o3, l, rfl, o', g⟩

end Go.Gl

/- Bars as texts: numbers of one digit, a text out of words. No condition. -/
import Derived.Test.YthhilbeddkkigaaDoorFnBar2
import Derived.Test.YthhilbeddkkigaaDoorGlLib
import Derived.Test.YthhilbeddkkigaaDoorGlO
import Derived.Test.YthhilbeddkkigaaDoorShelf1
set_option linter.unusedVariables false
set_option linter.unusedSimpArgs false
namespace Go.Gl
open Go.Proofs Go.Proofs.YthhilbeddkkigaaDoor Go.Pl Go.RowKit

/-- a digit -/
def dgL (n : Int) : List UInt8 := [UInt8.ofNat (48 + n.toNat)]
abbrev str (l : List UInt8) : Value := .string ⟨l.toArray⟩
theorem str_app (a b : List UInt8) : (⟨a.toArray⟩ : ByteArray) ++ ⟨b.toArray⟩ = ⟨(a ++ b).toArray⟩ := by
  apply ByteArray.ext
  simp
theorem str_size (a : List UInt8) : (⟨a.toArray⟩ : ByteArray).size = a.length := by simp [ByteArray.size]
theorem AddS.str {a b : List UInt8} {f : ByteArray → Prop} (hl : a.length + b.length ≤ 1000000) (hk : f ⟨(a ++ b).toArray⟩) : AddS ⟨a.toArray⟩ ⟨b.toArray⟩ f :=
  ⟨by rw [str_size, str_size]; omega, by rw [str_app]; exact hk⟩
theorem WR.u8 {x : Int} {f : Int → Prop} (h : f x) (h1 : 0 ≤ x := by omega) (h2 : x ≤ 255 := by omega) : WR .u8 x f :=
  ⟨by rw [show IntKind.u8.wrap x = x by show x % 256 = x; omega]; exact h⟩
/-- the word of a bar -/
def wordL (x : SBar) : List UInt8 := (dgL x.degree ++ [58] ++ dgL x.birth ++ [45]) ++ (if 0 ≤ x.death then dgL x.death else [])
def textL (xs : List SBar) : Nat → List UInt8
  | 0 => []
  | k + 1 => textL xs k ++ (if 0 < k then [44] else []) ++ wordL (bar xs k)
theorem wordL_len (x : SBar) : (wordL x).length ≤ 5 := by
  unfold wordL dgL
  split <;> simp
theorem textL_len (xs : List SBar) : ∀ k, (textL xs k).length ≤ 6 * k
  | 0 => by simp [textL]
  | k + 1 => by
    have := textL_len xs k
    have := wordL_len (bar xs k)
    simp only [textL, List.length_append]
    split <;> simp <;> omega
theorem join_last (sep w : List UInt8) : ∀ ws : List (List UInt8), Lib.join (ws ++ [w]) sep = Lib.join ws sep ++ (if ws = [] then [] else sep) ++ w
  | [] => by simp [Lib.join_one, Lib.join_nil]
  | x :: r => by
    rw [List.cons_append, Lib.join_cons, Lib.join_cons]
    simp [Lib.joinTail]
theorem textL_join (xs : List SBar) : ∀ k, k ≤ xs.length → Lib.join ((xs.take k).map wordL) [44] = textL xs k
  | 0, _ => rfl
  | k + 1, hk => by
    rw [take_succ_bar (by omega), List.map_append, List.map_singleton, join_last, textL_join xs k (by omega)]
    have : ((xs.take k).map wordL = []) = (k = 0) := by
      rw [eq_iff_iff]
      constructor
      · intro h
        have h2 : ((xs.take k).map wordL).length = k := by rw [List.length_map, List.length_take]; omega
        rw [h] at h2
        exact h2.symm
      · rintro rfl; rfl
    rw [show (if (xs.take k).map wordL = [] then ([] : List UInt8) else [44]) = if 0 < k then [44] else [] by
      by_cases h : k = 0
      · rw [if_pos (by rw [this]; exact h), if_neg (by omega)]
      · rw [if_neg (by rw [this]; exact h), if_pos (by omega)]]
    rfl
theorem decDigits_one {n : Nat} (h : n < 10) : Lib.decDigits n = [UInt8.ofNat (48 + n)] := by
  rw [Lib.decDigits, dif_pos h]

theorem fmtInt_c (h : AH) (n : Int) (h0 : 0 ≤ n) (h1 : n ≤ 9) : ACalls Tryd.prog 54 [.int .i64 n, .int .i64 10] h (fun r h' => r = str (dgL n) ∧ h' = h) := by
  obtain ⟨k, rfl⟩ := Int.eq_ofNat_of_zero_le h0
  refine ACalls.lib Tryd.func54 rfl (by kernel_rfl) (fun _ _ => .string _) fun ι w cargs hr hs ha => ?_
  rw [plain_args rfl hs ha]
  refine (Tryd.strconv_FormatInt_10_small k (by omega) w).mono fun e w' ⟨e1, e2⟩ => ⟨?_, ?_⟩
  · rw [e1, decDigits_one (by omega)]; rfl
  · rw [e2]; exact Below.refl _ _

theorem decimal_c (h : AH) (n : Int) (h0 : 0 ≤ n) (h1 : n ≤ 9) : ACalls Tryd.prog 35 [.int .i64 n] h (fun r h' => r = str (dgL n) ∧ h' = h) := by
  refine ACalls.of Tt.tab Tryd.func35 rfl (by kernel_rfl) Tryd.ntmps35 _ rfl rfl (fun hw => ?_)
  refine CallX.same (fmtInt_c h n h0 h1) ?_
  rintro r g ⟨rfl, rfl⟩
  exact FinX.keep hw (Le.refl _) rfl ⟨rfl, rfl⟩

theorem join_c (h : AH) (b o c : Nat) (ws : List (List UInt8)) (sep : List UInt8) (hl : ∀ (j : Nat) x, ws[j]? = some x → ∃ blk, look h b = some blk ∧ blk.cells[o + j]? = some (str x)) (hn : ws.length ≤ 1000) (hm : (Lib.join ws sep).length ≤ 1000000) :
    ACalls Tryd.prog 36 [.slice (some ⟨b, o, none⟩) ws.length 0, str sep] h (fun r h' => r = str (Lib.join ws sep) ∧ h' = h) := by
  refine ACalls.lib Tryd.func36 rfl (by kernel_rfl) (fun _ _ => .string _) fun ι w cargs hr hs ha => ?_
  obtain ⟨u0, e0, v0⟩ := ha 0 _ rfl
  obtain ⟨u1, e1, v1⟩ := ha 1 _ rfl
  have hc : cargs = #[u0, u1] := by
    apply Array.ext'
    apply List.ext_getElem?
    intro i
    match i with
    | 0 => simpa using e0
    | 1 => simpa using e1
    | i + 2 => rw [List.getElem?_eq_none (by simp at hs ⊢; omega), List.getElem?_eq_none (by simp)]
  rw [hc, v1.string_inv]
  obtain ⟨A, c', rfl, hA⟩ := v0.sl_inv
  rcases Nat.eq_zero_or_pos ws.length with h0 | h0
  · have : ws = [] := List.length_eq_zero_iff.1 h0
    subst this
    exact (Tryd.strings_Join_none A c' _ w).mono fun e w' ⟨a1, a2⟩ => ⟨a1, by rw [a2]; exact Below.refl _ _⟩
  · obtain ⟨rfl, _, h4⟩ := hA h0
    have hc' : ws.length ≤ c' := by
      rcases h4 with h4 | h4
      · exact h4
      · rw [hr.conc] at h4; cases h4
    obtain ⟨blk, hb1, _⟩ := hl 0 ws[0] (List.getElem?_eq_getElem h0)
    have key := Tryd.strings_Join (ι b).blk ((ι b).off + o) c' (ws.map fun x => ⟨x.toArray⟩) ⟨sep.toArray⟩ w (fun j x hj => by
      rw [List.getElem?_map] at hj
      cases hw : ws[j]? with
      | none => rw [hw] at hj; cases hj
      | some y =>
        rw [hw] at hj
        simp only [Option.map_some, Option.some.injEq] at hj
        subst hj
        obtain ⟨blk, k1, k2⟩ := hl j y hw
        obtain ⟨u, k3, k4⟩ := hr.cell k1 k2
        rw [k4.string_inv, ← Nat.add_assoc] at k3
        exact k3) (hr.lt hb1) (by rw [List.length_map]; omega) (by rw [List.length_map]; exact hc') (by simp only [List.map_map, Function.comp_def, List.map_id']; omega)
    rw [List.length_map] at key
    simp only [List.map_map, Function.comp_def, List.map_id'] at key
    exact key

end Go.Gl

/- Draws of the laws: the source of numbers. No condition. Draws of the laws: vectors and rows. No condition. -/
import Derived.Test.YtoeapenknlfffaaGlO
import Derived.Test.YtoeapenknlfffaaGlW
import Derived.Test.YtoeapenknlfffaaFnR
set_option linter.unusedVariables false
set_option linter.unusedSimpArgs false
namespace Go.Gl
open Go.Proofs Go.Proofs.Ytoeapenknlfffaa Go.Pl

/-- a byte -/
def E8 (_ : AH) (v : Value) (x : Int) : Prop := v = .int .u8 x ∧ 0 ≤ x ∧ x ≤ 255
abbrev R8 := RS E8
theorem E8.le : ∀ h h' v x, Le h h' → E8 h v x → E8 h' v x := fun _ _ _ _ _ h => h
theorem R8.le : ∀ h h' v xs, Le h h' → R8 h v xs → R8 h' v xs := RS.le E8.le
theorem CS.load8 {h g : AH} {b o : Nat} {xs : List Int} (hc : CS E8 h b o xs) (hl : Le h g) {i : TI} {k a : Nat} {K : Value → Prop} (hk : k < xs.length) (hK : ∀ x, 0 ≤ x → x ≤ 255 → K (.int .u8 x)) (ha : a = o + k := by rfl) (hi : i.agg = false := by rfl) : LoadX g i b a K := by
  subst ha
  exact CS.load (hc.le E8.le hl) hi hk fun u hu => ⟨u, Wk.refl _, by rw [hu.1]; exact hK _ hu.2.1 hu.2.2⟩
theorem and_u64 (a : Int) : 0 ≤ IntKind.u64.wrap ((BitVec.ofInt IntKind.u64.bits a &&& BitVec.ofInt IntKind.u64.bits 16777215).toNat : Int) ∧ IntKind.u64.wrap ((BitVec.ofInt IntKind.u64.bits a &&& BitVec.ofInt IntKind.u64.bits 16777215).toNat : Int) ≤ 16777215 := by
  have h1 : (BitVec.ofInt IntKind.u64.bits a &&& BitVec.ofInt IntKind.u64.bits 16777215).toNat ≤ 16777215 := by
    rw [BitVec.toNat_and]
    exact Nat.le_trans Nat.and_le_right (by decide)
  have h2 : IntKind.u64.wrap ((BitVec.ofInt IntKind.u64.bits a &&& BitVec.ofInt IntKind.u64.bits 16777215).toNat : Int) = ((BitVec.ofInt IntKind.u64.bits a &&& BitVec.ofInt IntKind.u64.bits 16777215).toNat : Int) := by
    generalize (BitVec.ofInt IntKind.u64.bits a &&& BitVec.ofInt IntKind.u64.bits 16777215).toNat = m at *
    show (m : Int) % 18446744073709551616 = m
    omega
  rw [h2]
  omega
theorem WR.and24 {a : Int} {f : Int → Prop} (h : ∀ y, 0 ≤ y → y ≤ 16777215 → f y) : WR .i64 (IntKind.u64.wrap ((BitVec.ofInt IntKind.u64.bits a &&& BitVec.ofInt IntKind.u64.bits 16777215).toNat : Int)) f := by
  obtain ⟨h1, h2⟩ := and_u64 a
  exact WR.i64 (h _ h1 h2)

/-- what the source holds: the code, the place in it, and a number -/
def Dice (h : AH) (C : List Value) : Prop := ∃ (b o : Nat) (xs : List Int) (at_ : Nat) (y : Int), C = [.slice (some ⟨b, o, none⟩) xs.length 0, .int .i64 at_, .int .u64 y] ∧ at_ ≤ xs.length ∧ xs.length ≤ 1000000 ∧ CS E8 h b o xs
theorem Dice.le {h h' : AH} {C : List Value} (s : Dice h C) (l : Le h h') : Dice h' C := by
  obtain ⟨b, o, xs, a, y, h1, h2, h3, h4⟩ := s
  exact ⟨b, o, xs, a, y, h1, h2, h3, h4.le E8.le l⟩
abbrev tS : TypeId := 109

/-- a call that draws: the source stands last among the parts -/
theorem SepM.src {M : Nat → Prop} {n : Nat} {hb h : AH} (Ls : List Res) {b : Nat} {C : List Value} (S : SepM M n hb h (Ls ++ [.bx b tS 3 C])) {g : AH} (hs : Dice g C) (hg : Le g hb) {P : Program} {f : FuncId} {args : List Value} {K : Value → AH → Prop} {New : Value → List Res → Prop}
    (hc : ∀ G hb', hb'.length = h.length → Le hb hb' → (∀ R ∈ Ls, ∃ F, R.at_ hb' F) → SepM G n hb' h [.bx b tS 3 C] → Le g hb' → ACalls P f args h (fun r h' => ∃ C' Ns, New r Ns ∧ Dice g C' ∧ SepM G n hb' h' (Ns ++ [.bx b tS 3 C'])))
    (hk : ∀ r h' C' Ns, New r Ns → Dice g C' → SepM M n hb h' (Ls ++ (Ns ++ [.bx b tS 3 C'])) → K r h') : CallX P f args h K := by
  obtain ⟨G, hb1, S1, l1, r1, k1⟩ := SepM.lendRest Ls S
  obtain ⟨G2, hb2, e2, S2, l2, k2⟩ := SepM.rebase S1
  refine CallX.same (hc G2 hb2 e2 (l1.trans l2) (fun R hR => ?_) S2 (hg.trans (l1.trans l2))) ?_
  · obtain ⟨F, hF⟩ := r1 R hR
    exact ⟨F, Res.keep _ _ _ _ hF fun i b _ e => l2.at_ i b e⟩
  · rintro r h' ⟨C', Ns, q1, q2, q4⟩
    exact hk r h' C' Ns q1 q2 (k1 h' _ (k2 h' _ q4))

theorem l01Next_c {M : Nat → Prop} {n0 : Nat} {hb h : AH} {b : Nat} {C : List Value} (S : SepM M n0 hb h [.bx b tS 3 C]) (hlen : hb.length = h.length) {g0 : AH} (hs : Dice g0 C) (hg : Le g0 hb) (n : Int) (hn : n ≤ 1000000) :
    ACalls Try.prog 91 [.pointer (some ⟨b, 0, none⟩), .int .i64 n] h (fun r h' => ∃ C' Ns, (∃ x, r = .int .i64 x ∧ 0 ≤ x ∧ (1 ≤ n → x < n) ∧ x ≤ 1000000 ∧ Ns = []) ∧ Dice g0 C' ∧ SepM M n0 hb h' (Ns ++ [.bx b tS 3 C'])) := by
  obtain ⟨bc, oc, xs, a, y, rfl, h2, h3, h4⟩ := hs
  refine ACalls.of Tt.tab Try.func91 rfl (by kernel_rfl) Try.ntmps91 _ rfl rfl (fun hw => ?_)
  have fin : ∀ (g : AH) (a' : Nat) (y' x : Int), SepM M n0 hb g [.bx b tS 3 [.slice (some ⟨bc, oc, none⟩) xs.length 0, .int .i64 a', .int .u64 y']] → a' ≤ xs.length → 0 ≤ x → (1 ≤ n → x < n) → x ≤ 1000000 →
      FinX h (fun r h' => ∃ C' Ns, (∃ x, r = .int .i64 x ∧ 0 ≤ x ∧ (1 ≤ n → x < n) ∧ x ≤ 1000000 ∧ Ns = []) ∧ Dice g0 C' ∧ SepM M n0 hb h' (Ns ++ [.bx b tS 3 C'])) (.int .i64 x) g := fun g a' y' x S ha h0 h1 h5 => by
    exact FinX.here (by have := S.le.len; omega) ⟨_, [], ⟨x, rfl, h0, h1, h5, rfl⟩, ⟨bc, oc, xs, a', y', rfl, ha, h3, h4⟩, S⟩
  refine BIf.mk (fun c1 => ?_) (fun c1 => ?_)
  · exact fin _ a y 0 S h2 (by omega) (by simp at c1; omega) (by omega)
  have c1 : 1 ≤ n := by simp at c1; omega
  refine LoadX.same (S.at_ 0 rfl) rfl ?_
  refine ⟨?_⟩
  refine ⟨?_⟩
  refine S.put 0 (o := 2) rfl fun g S => ?_
  refine LoadX.same (S.at_ 0 rfl) rfl ?_
  refine ⟨by decide, ?_⟩
  refine WR.and24 fun z z1 z2 => ?_
  refine DrawX.of Tt.tab follows_any [] [] [0, 1, 2, 3, 4, 5, 6, 7, 8, 9] rfl (by kernel_rfl) (by kernel_rfl) ?_
  refine LoadX.same (S.at_ 0 rfl) rfl ?_
  refine LoadX.same (S.at_ 0 rfl) rfl ?_
  refine BIf.mk (fun c2 => ?_) (fun c2 => ?_)
  · have c2 : a < xs.length := by simpa using c2
    refine DrawX.of Tt.tab follows_any [] [] [0, 1, 2, 3, 4, 5, 6, 7, 8, 9, 10, 11, 12, 13] rfl (by kernel_rfl) (by kernel_rfl) ?_
    refine LoadX.same (S.at_ 0 rfl) rfl ?_
    refine LoadX.same (S.at_ 0 rfl) rfl ?_
    refine IdxX.mk (by omega) (by omega) ?_
    refine CS.load8 (k := a) h4 (hg.trans S.le) c2 (fun x x1 x2 => ?_) (by show oc + (a : Int).toNat = _; omega)
    refine WR.i64 ?_
    refine WR.i64 ?_
    refine LoadX.same (S.at_ 0 rfl) rfl ?_
    refine WR.as (r := ((a + 1 : Nat) : Int)) (by omega) ?_
    refine S.put 0 (o := 1) rfl fun g S => ?_
    refine TM.pos ?_
    have := Int.emod_nonneg (z + x) (show n ≠ 0 by omega)
    have := Int.emod_lt_of_pos (z + x) (show 0 < n by omega)
    exact fin _ (a + 1) _ _ S (by omega) (by omega) (by omega) (by omega)
  refine TM.pos ?_
  have := Int.emod_nonneg z (show n ≠ 0 by omega)
  have := Int.emod_lt_of_pos z (show 0 < n by omega)
  exact fin _ a _ _ S (by omega) (by omega) (by omega) (by omega)

end Go.Gl

set_option linter.unusedVariables false
set_option linter.unusedSimpArgs false
namespace Go.Gl
open Go.Proofs Go.Proofs.Ytoeapenknlfffaa Go.Pl


theorem l01From_c (h : AH) (v : Value) (xs : List Int) (hx : R8 h v xs) (hl : xs.length ≤ 1000000) : ACalls Try.prog 43 [v] h (fun r h' => ∃ b C, r = .pointer (some ⟨b, 0, none⟩) ∧ look h' b = some ⟨C, some (tS, 3)⟩ ∧ h.length ≤ b ∧ Dice h C ∧ Le h h') := by
  obtain ⟨bc, oc, kc, hx⟩ := hx.can
  refine ACalls.wk (args' := [.slice (some ⟨bc, oc, none⟩) xs.length 0]) ?_ (.cons kc .nil)
  have cx := hx.cells rfl
  refine ACalls.of Tt.tab Try.func43 rfl (by kernel_rfl) Try.ntmps43 _ rfl rfl (fun hw => ?_)
  have S := Sep.start h
  refine ⟨?_⟩
  refine ⟨?_⟩
  refine S.new fun b g S => ?_
  refine ⟨⟨[0, 2, 3, 4], fun n' vs g => ∃ (i : Nat) (y : Int), n' = xs.length - i ∧ i ≤ xs.length ∧ Sep h.length h g [.bx b tS 3 [.slice (some ⟨bc, oc, none⟩) xs.length 0, .int .i64 (0 : Nat), .int .u64 y]] ∧
    vs = [.slice (some ⟨bc, oc, none⟩) xs.length 0, .pointer none, .pointer (some ⟨b, 0, none⟩), .int .i64 i], _, ⟨0, _, rfl, Nat.zero_le _, S, rfl⟩, ?_⟩⟩
  clear S
  rintro n' vs g ⟨i, y, rfl, hi, S, rfl⟩
  have fin : FinX h (fun r h' => ∃ b C, r = .pointer (some ⟨b, 0, none⟩) ∧ look h' b = some ⟨C, some (tS, 3)⟩ ∧ h.length ≤ b ∧ Dice h C ∧ Le h h') (.pointer (some ⟨b, 0, none⟩)) g :=
    FinX.here S.le.len ⟨b, _, rfl, S.at_ 0 rfl, S.ge 0 rfl, ⟨bc, oc, xs, 0, y, rfl, Nat.zero_le _, hl, cx⟩, S.le⟩
  refine BIf.mk (fun c1 => ?_) (fun c1 => ?_)
  · have c1 : i < xs.length := by simpa using c1
    refine BIf.mk (fun c2 => ?_) (fun c2 => ?_)
    · refine DrawX.of Tt.tab follows_any [] [15] [0, 1, 2, 3, 4, 5, 6, 7, 8, 9, 10, 11, 12, 13, 14, 15] rfl (by kernel_rfl) (by kernel_rfl) ?_
      refine LoadX.same (S.at_ 0 rfl) rfl ?_
      refine ⟨?_⟩
      refine IdxX.mk (by omega) (by omega) ?_
      refine CS.load8 (k := i) cx S.le c1 (fun x x1 x2 => ?_) (by show oc + (i : Int).toNat = _; omega)
      refine ⟨?_⟩
      refine ⟨?_⟩
      refine ⟨?_⟩
      refine S.put 0 (o := 2) rfl fun g S => ?_
      refine WR.as (r := ((i + 1 : Nat) : Int)) (by omega) ?_
      exact ⟨xs.length - (i + 1), by omega, i + 1, _, rfl, c1, S, rfl⟩
    · exact fin
  · refine BIf.no rfl ?_
    exact fin

theorem l01Pick_c {M : Nat → Prop} {n0 : Nat} {hb h : AH} {b : Nat} {C : List Value} (S : SepM M n0 hb h [.bx b tS 3 C]) (hlen : hb.length = h.length) {g0 : AH} (hs : Dice g0 C) (hg : Le g0 hb) (v : Value) (xs : List Int) (hx : RI hb v xs) (h0 : 0 < xs.length) (hl : xs.length ≤ 1000000) :
    ACalls Try.prog 45 [.pointer (some ⟨b, 0, none⟩), v] h (fun r h' => ∃ C' Ns, (∃ x ∈ xs, r = .int .i64 x ∧ Ns = []) ∧ Dice g0 C' ∧ SepM M n0 hb h' (Ns ++ [.bx b tS 3 C'])) := by
  obtain ⟨bc, oc, kc, hx⟩ := hx.can
  refine ACalls.wk (args' := [.pointer (some ⟨b, 0, none⟩), .slice (some ⟨bc, oc, none⟩) xs.length 0]) ?_ (.cons (Wk.refl _) (.cons kc .nil))
  have cx := hx.cells rfl
  refine ACalls.of Tt.tab Try.func45 rfl (by kernel_rfl) Try.ntmps45 _ rfl rfl (fun hw => ?_)
  refine CallX.same (l01Next_c S hlen hs hg xs.length (by omega)) ?_
  rintro r g ⟨C', Ns, ⟨x, rfl, x1, x2, x3, rfl⟩, q1, S⟩
  have x2 := x2 (by omega)
  obtain ⟨k, rfl⟩ := Int.eq_ofNat_of_zero_le x1
  have hk : k < xs.length := by omega
  refine IdxX.mk (by omega) (by omega) ?_
  refine CS.ith cx S.le hk ?_ (by show oc + (k : Int).toNat = _; omega)
  exact FinX.here (by have := S.le.len; omega) ⟨C', [], ⟨_, ith_mem hk, rfl, rfl⟩, q1, S⟩

def VecInv (M : Nat → Prop) (n0 : Nat) (hb : AH) (b : Nat) (g0 : AH) (p n calm : Int) (n' : Nat) (vs : List Value) (g : AH) : Prop := ∃ (i b2 : Nat) (xs : List Int) (C : List Value), n' = n.toNat - i ∧ (i : Int) ≤ max n 0 ∧ xs.length = i ∧ Dice g0 C ∧ SepM M n0 hb g [.rc tI 1 n0 (.slice (some ⟨b2, 0, none⟩) i 1) i (xs.map (.int .i64)), .bx b tS 3 C] ∧
    vs = [.pointer (some ⟨b, 0, none⟩), .int .i64 p, .int .i64 (n - i), .slice none 0 0, .slice (some ⟨b2, 0, none⟩) i 1, .int .i64 calm]

end Go.Gl

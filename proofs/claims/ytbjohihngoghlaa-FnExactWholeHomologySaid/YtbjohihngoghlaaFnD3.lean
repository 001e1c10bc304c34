/- Chapter 7: choices and greatest common divisors. No condition. -/
import Derived.Test.YtbjohihngoghlaaFnD2
set_option linter.unusedVariables false
set_option linter.unusedSimpArgs false
namespace Go.Gl
open Go.Proofs Go.Proofs.Ytbjohihngoghlaa Go.Pl

/-- a fresh row of trees, handed back as a row of our own -/
def MadeW {ti : TypeId} {T : List TypeId} {α : Type} {E : Tr α} (hE : Fr ti T E) (e : TypeId) (h : AH) (xs : List α) (r : Value) (h' : AH) : Prop :=
  ∃ b us ls, NS h' e 1 b r xs.length us ∧ h.length ≤ b ∧ Row E h.length (only (fun i => i ≠ b) h') us xs ls ∧ Le h h'
section
variable {M : Nat → Prop} {n : Nat} {hb h : AH} {Rs : List Res}
theorem SepM.madeW (S : SepM M n hb h Rs) {ti : TypeId} {T : List TypeId} {α : Type} {E : Tr α} {hE : Fr ti T E} {e : TypeId} {xs : List α} {P : Program} {f : FuncId} {args : List Value} {K : Value → AH → Prop} (hc : ACalls P f args h (MadeW hE e h xs))
    (hk : ∀ A c h', Le h h' → SepM M n hb h' (.rw hE e n (.slice A xs.length c) xs.length xs :: Rs) → K (.slice A xs.length c) h') : CallX P f args h K :=
  CallX.same hc fun r h' ⟨b, us, ls, hn, hge, hr, g⟩ => by
    have hG : Row E n (only (fun i => (h.length ≤ i ∧ i < h'.length) ∧ i ≠ b) h') us xs ls := (hr.keep hE fun i blk e1 e2 _ => by
      rw [only_some] at e1 ⊢
      exact ⟨⟨⟨e2, look_lt e1.2⟩, e1.1⟩, e1.2⟩).low hE S.nl
    rcases hn with ⟨rfl, h1, h2⟩ | ⟨rfl, h1, h2⟩
    · have hlt := look_lt h1
      exact hk _ _ h' g (S.add g (F := fun i => h.length ≤ i ∧ i < h'.length) ⟨b, us, ls, fun i => (h.length ≤ i ∧ i < h'.length) ∧ i ≠ b, fun hh => hh.2 rfl, fun i hi => hi.1, .inl ⟨rfl, only_some.2 ⟨⟨hge, hlt⟩, h1⟩, h2⟩, Nat.le_trans S.nl hge, hG⟩ fun i hi => hi)
    · have : xs = [] := List.length_eq_zero_iff.1 h1
      subst this
      exact hk none 0 h' g (S.add g (F := fun i => h.length ≤ i ∧ i < h'.length) ⟨b, us, ls, fun i => (h.length ≤ i ∧ i < h'.length) ∧ i ≠ b, fun hh => hh.2 rfl, fun i hi => hi.1, .inr ⟨rfl, rfl, h2⟩, Nat.le_trans S.nl hge, hG⟩ fun i hi => hi)
theorem SepM.finW {h0 : AH} (S : Sep h0.length h0 h Rs) (j : Nat) {ti : TypeId} {T : List TypeId} {α : Type} {E : Tr α} {hE : Fr ti T E} {e : TypeId} {v : Value} {k : Nat} {xs : List α} (hj : gt Rs j = some (.rw hE e h0.length v k xs)) : FinX h0 (MadeW hE e h0 xs) v h :=
  FinX.here S.le.len (by
    have hk := S.rw_len j hj
    obtain ⟨F, b, us, ls, G, h1, h2, h3, h4, h5⟩ := S.get hj
    subst hk
    exact ⟨b, us, ls, h3.only, h4, h5.up hE fun i blk e => by rw [only_some] at e ⊢; exact ⟨fun hh => h1 (by rw [← hh]; exact e.1), e.2⟩, S.le⟩)
theorem SepM.rw_lit (S : SepM M n hb h Rs) (j : Nat) {ti : TypeId} {T : List TypeId} {α : Type} {E : Tr α} {hE : Fr ti T E} {e : TypeId} {m k : Nat} {A : Option Addr} {c : Nat} {xs : List α} (hj : gt Rs j = some (.rw hE e m (.slice A k c) k xs)) (h0 : 0 < k) : ∃ b, A = some ⟨b, 0, none⟩ ∧ c = 1 := by
  obtain ⟨F, b, us, ls, G, h1, h2, h3, h4, h5⟩ := S.get hj
  rcases h3 with ⟨h3, _⟩ | ⟨_, h3, _⟩
  · injection h3 with h3 _ h6
    exact ⟨b, h3, h6⟩
  · omega
/-- a row of one tree -/
theorem SepM.bx_rw1 {b : Nat} {e : TypeId} {u : Value} {ti : TypeId} {T : List TypeId} {α : Type} {E : Tr α} {hE : Fr ti T E} {x : α} (S : SepM M n hb h (.bx b e 1 [u] :: .tr hE n u x :: Rs)) : SepM M n hb h (.rw hE e n (.slice (some ⟨b, 0, none⟩) 1 1) 1 [x] :: Rs) := by
  have hge := S.ge 0 rfl
  refine S.join fun F G hd h1 h2 => ?_
  obtain ⟨h1a, h1⟩ := h1
  obtain ⟨l, h2⟩ := h2
  exact ⟨b, [u], [l], G, hd b h1a, fun i hi => .inr hi, .inl ⟨rfl, only_some.2 ⟨.inl h1a, h1⟩, rfl⟩, hge, Row.one h2 (hE.nd _ _ _ _ _ h2)⟩
end
abbrev OJ : Tr (List Int) := Leaf 3
theorem OJ.fr : Fr 3 [] OJ := Leaf.fr 3
theorem OJ.reads : ∀ n h v x l, OJ n h v x l → RI h v x := fun _ _ _ _ _ h => Leaf.reads h

theorem choices_c : ∀ (n k : Nat) (h : AH), n ≤ 6 → k ≤ 1000 → ACalls Try.prog 227 [.int .i64 n, .int .i64 k] h (MadeW OJ.fr 209 h (chI n k))
  | n, 0, h, hn, hk => by
    refine ACalls.of Tt.tab Try.func227 rfl (by kernel_rfl) Try.ntmps227 _ rfl rfl (fun hw => ?_)
    have S := Sep.start h
    refine BIf.yes rfl ?_
    have e : chI n 0 = [[]] := by cases n <;> rfl
    rw [e]
    refine S.new fun b1 g S => ?_
    have S := S.bx_tr 0 (ti := 3) (xs := []) rfl (by simp) 1
    refine S.new fun b2 g S => ?_
    have S' : Sep h.length h g [.bx b2 209 1 [.slice (some ⟨b1, 0, none⟩) 0 1], .tr OJ.fr h.length (.slice (some ⟨b1, 0, none⟩) 0 1) []] := S
    exact S'.bx_rw1.finW 0 rfl
  | 0, k + 1, h, hn, hk => by
    refine ACalls.of Tt.tab Try.func227 rfl (by kernel_rfl) Try.ntmps227 _ rfl rfl (fun hw => ?_)
    have S := Sep.start h
    refine BIf.no (by simp; omega) ?_
    refine BIf.yes (by simp) ?_
    exact (S.nilrw OJ.fr 209).finW 0 rfl
  | n + 1, k + 1, h, hn, hk => by
    refine ACalls.of Tt.tab Try.func227 rfl (by kernel_rfl) Try.ntmps227 _ rfl rfl (fun hw => ?_)
    have S := Sep.start h
    refine BIf.no (by simp; omega) ?_
    refine BIf.mk (fun h1 => ?_) (fun h1 => ?_)
    · have h1 : n + 1 < k + 1 := by simp at h1; omega
      rw [chI_few h1]
      exact (S.nilrw OJ.fr 209).finW 0 rfl
    refine WR.as (r := (n : Int)) (by omega) ?_
    have l1 := chI_len n (k + 1)
    have l2 := chI_len n k
    have l3 : 2 ^ n ≤ 2 ^ 6 := Nat.pow_le_pow_right (by decide) (by omega)
    have l4 : (2 : Nat) ^ 6 = 64 := rfl
    refine S.madeW (choices_c n (k + 1) h (by omega) hk) fun A c g L S => ?_
    refine WR.as (r := (n : Int)) (by omega) ?_
    refine WR.as (r := (k : Int)) (by omega) ?_
    refine S.madeW (choices_c n k g (by omega) (by omega)) fun A2 c2 g L S => ?_
    refine ⟨⟨[0, 5, 23, 24, 25], fun n' vs g => ∃ (i : Nat) (A : Option Addr) (c : Nat), n' = (chI n k).length - i ∧ i ≤ (chI n k).length ∧ Sep h.length h g [.rw OJ.fr 209 h.length (.slice A2 (chI n k).length c2) (chI n k).length (chI n k), .rw OJ.fr 209 h.length (.slice A ((chI n (k + 1)).length + i) c) ((chI n (k + 1)).length + i) (chI n (k + 1) ++ ((chI n k).take i).map (· ++ [(n : Int)]))] ∧
      vs = [.int .i64 ((n + 1 : Nat) : Int), .slice A ((chI n (k + 1)).length + i) c, .slice A2 (chI n k).length c2, .int .i64 (chI n k).length, .int .i64 i], _, ⟨0, A, c, rfl, Nat.zero_le _, by simpa using S, rfl⟩, ?_⟩⟩
    rintro n' vs g ⟨i, A, c, rfl, hi, S, rfl⟩
    refine BIf.mk (fun h2 => ?_) (fun h2 => ?_)
    · have hlt : i < (chI n k).length := by simpa using h2
      obtain ⟨b2, rfl, rfl⟩ := S.rw_lit 0 rfl (by omega)
      have hrl := ((mem_chI n k _).1 (row_mem hlt)).1
      refine IdxX.mk (by omega) (by omega) ?_
      refine ((S.rdw OJ.reads 0 rfl (by omega)).cells1 rfl).rowY (Le.refl _) hlt fun b4 o4 h4 => ?_
      refine S.madeR (cloneInt_c _ _ (row (chI n k) i) h4 (by omega)) fun A3 c3 g L S => ?_
      refine WR.as (r := (n : Int)) (by omega) ?_
      refine S.new fun b5 g S => ?_
      refine S.app (ie := Tt.ti3) 0 rfl rfl rfl (by omega) fun b6 g S => ?_
      have S := S.recastR 0 (cells' := (row (chI n k) i ++ [(n : Int)]).map (.int .i64)) rfl (by rw [List.map_append]; rfl)
      have S := S.rc_tr 0 rfl (by simp; omega)
      refine S.new fun b7 g S => ?_
      refine S.appT (ie := Tt.ti209) 1 rfl rfl (by omega) fun b8 g S => ?_
      refine WR.i64 ?_
      refine ⟨(chI n k).length - (i + 1), by omega, i + 1, _, _, rfl, hlt, ?_, rfl⟩
      rw [take_succ_row hlt, List.map_append, ← List.append_assoc]
      exact S
    have hi2 : i = (chI n k).length := by simp at h2; omega
    subst hi2
    rw [List.take_length] at S
    exact S.finW 1 rfl
/-- the program's and the reference's greatest common divisor -/
theorem gcd_step (a b : Int) : Int.gcd b (a.tmod b) = Int.gcd a b := by
  unfold Int.gcd
  rw [Int.natAbs_tmod, Nat.gcd_comm, ← Nat.gcd_rec, Nat.gcd_comm]
theorem abs_max (a : Int) : (if -a > a then -a else a) = (Int.gcd a 0 : Nat) := by
  rw [Int.gcd_zero_right]
  split <;> omega
theorem tmod_rng {a b : Int} (hb : b ≠ 0) : (a.tmod b).natAbs < b.natAbs := by
  rw [Int.natAbs_tmod]
  exact Nat.mod_lt _ (by omega)

theorem divisor_c (h : AH) (a b : Int) (ha : a.natAbs ≤ 1000000000000) (hb : b.natAbs ≤ 1000000000000) : ACalls Try.prog 228 [.int .i64 a, .int .i64 b] h (fun r h' => r = .int .i64 (Int.gcd a b) ∧ h' = h) := by
  refine ACalls.of Tt.tab Try.func228 rfl (by kernel_rfl) Try.ntmps228 _ rfl rfl (fun hw => ?_)
  refine ⟨⟨[0, 1], fun n' vs g => ∃ x y : Int, n' = y.natAbs ∧ x.natAbs ≤ 1000000000000 ∧ y.natAbs ≤ 1000000000000 ∧ Int.gcd x y = Int.gcd a b ∧ g = h ∧ vs = [.int .i64 x, .int .i64 y], _, ⟨a, b, rfl, ha, hb, rfl, rfl, rfl⟩, ?_⟩⟩
  rintro n' vs g ⟨x, y, rfl, hx, hy, he, rfl, rfl⟩
  refine BIf.mk (fun h2 => ?_) (fun h2 => ?_)
  · have h2 : y ≠ 0 := by simpa using h2
    have h3 := tmod_rng (a := x) h2
    refine DrawX.of Tt.tab follows_any [] [] [0, 1, 2, 3, 4, 5] rfl (by kernel_rfl) (by kernel_rfl) ?_
    refine ⟨h2, ?_⟩
    exact ⟨(x.tmod y).natAbs, h3, y, x.tmod y, rfl, hy, by omega, by rw [gcd_step]; exact he, rfl, rfl⟩
  · have h2 : y = 0 := by simpa using h2
    subst h2
    refine WR.as (r := -x) (by omega) ?_
    refine FinX.keep hw (Le.refl _) rfl ⟨?_, rfl⟩
    show Value.int .i64 (if -x > x then -x else x) = _
    rw [abs_max, he]

theorem l07Gcd_c (h : AH) (a b : Int) (ha : a.natAbs ≤ 1000000000000) (hb : b.natAbs ≤ 1000000000000) : ACalls Try.prog 197 [.int .i64 a, .int .i64 b] h (fun r h' => r = .int .i64 (Int.gcd a b) ∧ h' = h) := by
  refine ACalls.of Tt.tab Try.func197 rfl (by kernel_rfl) Try.ntmps197 _ rfl rfl (fun hw => ?_)
  refine ⟨⟨[0, 1], fun n' vs g => ∃ x y : Int, n' = y.natAbs ∧ x.natAbs ≤ 1000000000000 ∧ y.natAbs ≤ 1000000000000 ∧ Int.gcd x y = Int.gcd a b ∧ g = h ∧ vs = [.int .i64 x, .int .i64 y], _, ⟨a, b, rfl, ha, hb, rfl, rfl, rfl⟩, ?_⟩⟩
  rintro n' vs g ⟨x, y, rfl, hx, hy, he, rfl, rfl⟩
  refine BIf.mk (fun h2 => ?_) (fun h2 => ?_)
  · have h2 : y ≠ 0 := by simpa using h2
    have h3 := tmod_rng (a := x) h2
    refine ⟨h2, ?_⟩
    exact ⟨(x.tmod y).natAbs, h3, y, x.tmod y, rfl, hy, by omega, by rw [gcd_step]; exact he, rfl, rfl⟩
  · have h2 : y = 0 := by simpa using h2
    subst h2
    refine WR.as (r := -x) (by omega) ?_
    refine FinX.keep hw (Le.refl _) rfl ⟨?_, rfl⟩
    show Value.int .i64 (if -x > x then -x else x) = _
    rw [abs_max, he]

end Go.Gl

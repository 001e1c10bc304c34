/- Draws of the laws: lists of rows. No condition. Draws of the laws: two lists of rows; rows alike. No condition. -/
import Derived.Test.YtblbcjemoadfpaaFnV2
import Derived.Test.YtblbcjemoadfpaaGlR
set_option linter.unusedVariables false
set_option linter.unusedSimpArgs false
namespace Go.Gl
open Go.Proofs Go.Proofs.Ytblbcjemoadfpaa Go.Pl

theorem rowsR_succ (H : Nat) (f : Nat → Res) : rowsR (H + 1) f = rowsR H f ++ [f H] := by simp [rowsR, List.range_succ]
theorem rowsR_head (H : Nat) (f : Nat → Res) : rowsR (H + 1) f = f 0 :: rowsR H (fun j => f (j + 1)) := by simp [rowsR, List.range_succ_eq_map, Function.comp_def]
theorem rowsR_congr {H : Nat} {f f' : Nat → Res} (h : ∀ j, j < H → f j = f' j) : rowsR H f = rowsR H f' := List.map_congr_left fun j hj => h j (by simpa using hj)
abbrev tII : TypeId := 71
/-- the row of number j -/
def dRow (n : Nat) (v : Nat → Value) (xs : Nat → List Int) (j : Nat) : Res := .rc tI 1 n (v j) (xs j).length ((xs j).map (.int .i64))
theorem SepM.endRows {M : Nat → Prop} {n : Nat} {hb g : AH} {i bo : Nat} {v : Nat → Value} {xs : Nat → List Int} {R : Res} (S : SepM M n hb g ((.rc tII 1 n (.slice (some ⟨bo, 0, none⟩) i 1) i ((List.range i).map v) :: rowsR i (dRow n v xs)) ++ [R])) (hl : ∀ j, j < i → (xs j).length ≤ 2000) :
    SepM M n hb g [.rw OI.fr tII n (.slice (some ⟨bo, 0, none⟩) i 1) i ((List.range i).map xs), R] := by
  have S := S.rc_bx 0 rfl
  have S : SepM M n hb g ((.bx bo tII 1 ((List.range i).map v) :: rowsR i (dRow n v xs)) ++ [R]) := S
  have S := S.appSwap
  have S := S.front 1 rfl
  have S : SepM M n hb g ([.bx bo tII 1 ((List.range i).map v), R] ++ rowsR i (dRow n v xs)) := S
  have S := S.rowsAs (f' := fun j => .tr OI.fr n (v j) (xs j)) fun j hj F _ hR => Res.rc_tr (by have := hl j hj; omega) hR
  exact SepM.gatherE (Ls := [R]) S
/-- rows are drawn -/
def RowsInv (M : Nat → Prop) (n0 : Nat) (hb : AH) (b : Nat) (g0 : AH) (p n q : Int) (n' : Nat) (vs : List Value) (g : AH) : Prop := ∃ (i bo : Nat) (v : Nat → Value) (xs : Nat → List Int) (C : List Value), n' = q.toNat - i ∧ (i : Int) ≤ q ∧ Dice g0 C ∧ (∀ j, j < i → (xs j).length ≤ 1000) ∧ (∀ j, j < i → ∃ b', v j = .slice (some ⟨b', 0, none⟩) (xs j).length 1) ∧
    SepM M n0 hb g ((.rc tII 1 n0 (.slice (some ⟨bo, 0, none⟩) i 1) i ((List.range i).map v) :: rowsR i (dRow n0 v xs)) ++ [.bx b tS 3 C]) ∧
    vs = [.pointer (some ⟨b, 0, none⟩), .int .i64 p, .int .i64 n, .slice none 0 0, .slice (some ⟨bo, 0, none⟩) i 1, .int .i64 (q - i)]
def DrawnRows (g0 : AH) (M : Nat → Prop) (n0 : Nat) (hb : AH) (b : Nat) (r : Value) (h' : AH) : Prop := ∃ C' Ns, (∃ (k b' : Nat) (xs : List (List Int)), r = .slice (some ⟨b', 0, none⟩) k 1 ∧ k ≤ 4 ∧ (∀ j, j < k → (row xs j).length ≤ 2000) ∧ Ns = [.rw OI.fr tII n0 (.slice (some ⟨b', 0, none⟩) k 1) k xs]) ∧ Dice g0 C' ∧ SepM M n0 hb h' (Ns ++ [.bx b tS 3 C'])
theorem RI.look {h : AH} {b : Nat} {xs : List Int} {own : Option (TypeId × Nat)} (hl : look h b = some ⟨xs.map (.int .i64), own⟩) (hm : xs.length ≤ 1000000) (c : Nat) : RI h (.slice (some ⟨b, 0, none⟩) xs.length c) xs :=
  ⟨by omega, b, 0, Wk.weak _ _ _ _, fun k x hk => ⟨_, .int .i64 x, hl, by simp [hk], rfl⟩⟩
theorem Res.bxAt {b : Nat} {ty : TypeId} {s : Nat} {cells : List Value} {h : AH} (hR : ∃ F, (Res.bx b ty s cells).at_ h F) : look h b = some ⟨cells, some (ty, s)⟩ := by
  obtain ⟨F, h1, h2⟩ := hR
  exact h2
/-- one of some numbers is drawn: the list lies ahead -/
theorem SepM.pick {P : Program} {f : FuncId} {M : Nat → Prop} {n : Nat} {hb h : AH} (Ls : List Res) {b bl : Nat} {C : List Value} {xs : List Int} (S : SepM M n hb h (.bx bl tI 1 (xs.map (.int .i64)) :: (Ls ++ [.bx b tS 3 C]))) {g : AH} (hs : Dice g C) (hg : Le g hb) {K : Value → AH → Prop} {k : Nat} (hk0 : xs.length = k) (h0 : 0 < k) (hl : k ≤ 1000000)
    (hf : ∀ (M : Nat → Prop) (n0 : Nat) (hb h : AH) (C : List Value) (S : SepM M n0 hb h [.bx b tS 3 C]) (hlen : hb.length = h.length) (hs : Dice g C) (hg : Le g hb) (v : Value) (xs : List Int) (hx : RI hb v xs) (h0 : 0 < xs.length) (hl : xs.length ≤ 1000000),
      ACalls P f [.pointer (some ⟨b, 0, none⟩), v] h (fun r h' => ∃ C' Ns, (∃ x ∈ xs, r = .int .i64 x ∧ Ns = []) ∧ Dice g C' ∧ SepM M n0 hb h' (Ns ++ [.bx b tS 3 C'])))
    (hk : ∀ x h' C', x ∈ xs → Dice g C' → SepM M n hb h' (Ls ++ [.bx b tS 3 C']) → K (.int .i64 x) h') : CallX P f [.pointer (some ⟨b, 0, none⟩), .slice (some ⟨bl, 0, none⟩) k 1] h K := by
  subst hk0
  refine SepM.src (.bx bl tI 1 (xs.map (.int .i64)) :: Ls) S hs hg (fun G hb' e1 e2 hR S hg' => hf G n hb' h C S e1 hs hg' _ xs (RI.look (Res.bxAt (hR _ List.mem_cons_self)) hl 1) h0 hl) ?_
  rintro r h' C' Ns ⟨x, hx, rfl, rfl⟩ hs' S
  exact hk x h' C' hx hs' (SepM.tail S)

theorem l01DrawRows_c {M : Nat → Prop} {n0 : Nat} {hb h : AH} {b : Nat} {C : List Value} (S : SepM M n0 hb h [.bx b tS 3 C]) (hlen : hb.length = h.length) {g0 : AH} (hs : Dice g0 C) (hg : Le g0 hb) (p n : Int) (hp : p ≤ 1000000) (hn : n ≤ 1000) :
    ACalls Try.prog 78 [.pointer (some ⟨b, 0, none⟩), .int .i64 p, .int .i64 n] h (DrawnRows g0 M n0 hb b) := by
  have pk := fun (M : Nat → Prop) (n0 : Nat) (hb h : AH) (C : List Value) (S : SepM M n0 hb h [.bx b tS 3 C]) (hlen : hb.length = h.length) (hs : Dice g0 C) (hg : Le g0 hb) (v : Value) (xs : List Int) (hx : RI hb v xs) (h0 : 0 < xs.length) (hl : xs.length ≤ 1000000) => l01Pick_c S hlen hs hg v xs hx h0 hl
  refine ACalls.of Tt.tab Try.func78 rfl (by kernel_rfl) Try.ntmps78 _ rfl rfl (fun hw => ?_)
  refine S.new fun bo g S => ?_
  have S := S.bx_rc 0 (k := 0) rfl rfl
  refine S.new fun bl g S => ?_
  have S := S.recast 0 (cells' := ([0, 1, 2, 3, 4] : List Int).map (.int .i64)) rfl rfl
  refine SepM.pick [_] S hs hg rfl (by decide) (by decide) pk fun q g C1 hq hs S => ?_
  have hq : 0 ≤ q ∧ q ≤ 4 := by simp at hq; omega
  refine ⟨⟨[0, 1, 2, 6, 7, 8], RowsInv M n0 hb b g0 p n q, _, ⟨0, bo, fun _ => .nilIface, fun _ => [], C1, rfl, by omega, hs, fun j hj => by omega, fun j hj => by omega, S, by rw [show q - ((0 : Nat) : Int) = q by omega]; rfl⟩, ?_⟩⟩
  clear S hs
  rintro n' vs g ⟨i, bo, v, xs, C, rfl, hi, hs, hx, hv, S, rfl⟩
  refine BIf.mk (fun c1 => ?_) (fun c1 => ?_)
  · have c1 : (i : Int) < q := by simp at c1; omega
    refine S.src (_ :: rowsR i (dRow n0 v xs)) hs hg (fun G hb' e1 e2 _ S hg' => l01DrawVector_c S e1 hs hg' p n hp hn) ?_
    rintro r g C2 Ns ⟨b', ys, rfl, hy, rfl⟩ hs S
    refine S.new fun b0 g S => ?_
    refine S.app (ie := Tt.ti71) 0 rfl rfl rfl (by omega) fun b4 g S => ?_
    refine WR.as (r := q - ((i + 1 : Nat) : Int)) (by omega) ?_
    refine ⟨q.toNat - (i + 1), by omega, i + 1, b4, fun j => if j = i then .slice (some ⟨b', 0, none⟩) ys.length 1 else v j, fun j => if j = i then ys else xs j, C2, rfl, by omega, hs, fun j hj => ?_, fun j hj => ?_, S.eq ?_, rfl⟩
    · by_cases e : j = i
      · simpa [e] using hy
      · simpa [e] using hx j (by omega)
    · by_cases e : j = i
      · simp [e]
      · simpa [e] using hv j (by omega)
    · rw [rowsR_succ]
      have e1 : rowsR i (dRow n0 (fun j => if j = i then .slice (some ⟨b', 0, none⟩) ys.length 1 else v j) (fun j => if j = i then ys else xs j)) = rowsR i (dRow n0 v xs) := rowsR_congr fun j hj => by
        have e : ¬ j = i := by omega
        simp [dRow, e]
      have e2 : (List.range (i + 1)).map (fun j => if j = i then .slice (some ⟨b', 0, none⟩) ys.length 1 else v j) = (List.range i).map v ++ [.slice (some ⟨b', 0, none⟩) ys.length 1] := by
        rw [List.range_succ, List.map_append]
        congr 1
        · refine List.map_congr_left fun j hj => ?_
          have e : ¬ j = i := by simp at hj; omega
          simp [e]
        · simp
      rw [e1, e2]
      have e3 : dRow n0 (fun j => if j = i then .slice (some ⟨b', 0, none⟩) ys.length 1 else v j) (fun j => if j = i then ys else xs j) i = .rc tI 1 n0 (.slice (some ⟨b', 0, none⟩) ys.length 1) ys.length (ys.map (.int .i64)) := by simp [dRow]
      rw [e3]
      simp only [List.cons_append, List.append_assoc]
      rfl
  have fin : ∀ (g : AH) (i bo : Nat) (v : Nat → Value) (xs : Nat → List Int) (C : List Value), i ≤ 4 → Dice g0 C → (∀ j, j < i → (xs j).length ≤ 2000) → SepM M n0 hb g ((.rc tII 1 n0 (.slice (some ⟨bo, 0, none⟩) i 1) i ((List.range i).map v) :: rowsR i (dRow n0 v xs)) ++ [.bx b tS 3 C]) →
      FinX h (DrawnRows g0 M n0 hb b) (.slice (some ⟨bo, 0, none⟩) i 1) g := fun g i bo v xs C hi hs hx S => by
    have S := S.endRows hx
    exact FinX.here (by have := S.le.len; omega) ⟨C, _, ⟨i, bo, _, rfl, hi, fun j hj => by rw [show row ((List.range i).map xs) j = xs j by simp [row, hj]]; exact hx j hj, rfl⟩, hs, S⟩
  refine BIf.mk (fun c2 => ?_) (fun c2 => ?_)
  · have c2 : 0 < i := by simpa using c2
    refine S.src (_ :: rowsR i (dRow n0 v xs)) hs hg (fun G hb' e1 e2 _ S hg' => l01Next_c S e1 hs hg' 40 (by omega)) ?_
    rintro r g C2 Ns ⟨y, rfl, x1, x2, x3, rfl⟩ hs S
    refine BIf.mk (fun c3 => ?_) (fun c3 => ?_)
    · obtain ⟨m, rfl⟩ : ∃ m, i = m + 1 := ⟨i - 1, by omega⟩
      obtain ⟨b1, e1⟩ := hv 0 (by omega)
      have hx0 := hx 0 (by omega)
      have S := S.rc_bx 0 rfl
      have S : SepM M n0 hb g (.bx bo tII 1 ((List.range (m + 1)).map v) :: (.rc tI 1 n0 (.slice (some ⟨b1, 0, none⟩) (xs 0).length 1) (xs 0).length ((xs 0).map (.int .i64)) :: rowsR m (fun j => dRow n0 v xs (j + 1))) ++ [.bx b tS 3 C2]) := S.eq (by
        rw [rowsR_head, show dRow n0 v xs 0 = .rc tI 1 n0 (.slice (some ⟨b1, 0, none⟩) (xs 0).length 1) (xs 0).length ((xs 0).map (.int .i64)) by rw [dRow, e1]]
        rfl)
      have ld0 : ∀ i : TI, i.agg = false → ldv i ((List.range (m + 1)).map v) (0 + 0) = some (.slice (some ⟨b1, 0, none⟩) (xs 0).length 1) := fun i hi => by rw [← e1]; exact ldv_map hi (Nat.succ_pos m)
      have end_ : ∀ (g : AH) (x : Int) (C' : List Value) (b2 : Nat), Dice g0 C' → SepM M n0 hb g (.bx bo tII 1 ((List.range (m + 1)).map v) :: (.rc tI 1 n0 (.slice (some ⟨b2, 0, none⟩) ((xs 0).length + 1) 1) ((xs 0).length + 1) ((xs 0).map (.int .i64) ++ [.int .i64 x]) :: rowsR m (fun j => dRow n0 v xs (j + 1))) ++ [.bx b tS 3 C']) →
          ∀ K : AH → Prop, (∀ g', (∃ (x : Int) (C' : List Value) (b2 : Nat), Dice g0 C' ∧ SepM M n0 hb g' (.bx bo tII 1 ((List.range (m + 1)).map fun j => if j = 0 then .slice (some ⟨b2, 0, none⟩) ((xs 0).length + 1) 1 else v j) :: (.rc tI 1 n0 (.slice (some ⟨b2, 0, none⟩) ((xs 0).length + 1) 1) ((xs 0).length + 1) ((xs 0).map (.int .i64) ++ [.int .i64 x]) :: rowsR m (fun j => dRow n0 v xs (j + 1))) ++ [.bx b tS 3 C'])) → K g') →
          StoreX g bo (0 + 0) [.slice (some ⟨b2, 0, none⟩) ((xs 0).length + 1) 1] K := by
        intro g x C' b2 hs S K hK
        refine S.store 0 rfl (by simp) fun g S => ?_
        exact hK g ⟨x, C', b2, hs, S.recast 0 rfl (setCells_map (Nat.succ_pos m) _)⟩
      refine DrawX.tree Tt.tab follows_any [6, 8] [7, 9, 11] (.op 0 (.op 1 (.op 2 (.op 4 (.op 5 (.alt (.op 3 (.op 6 (.op 7 (.op 8 (.op 9 (.op 10 (.op 11 (.nil)))))))) (.op 6 (.alt (.op 3 (.op 7 (.op 8 (.op 9 (.op 10 (.op 11 (.nil))))))) (.op 7 (.alt (.op 3 (.op 8 (.op 9 (.op 10 (.op 11 (.nil)))))) (.op 8 (.op 3 (.op 9 (.op 10 (.op 11 (.nil))))))))))))))))
        [7] (fun vs g' => vs = [.slice (some ⟨bo, 0, none⟩) (m + 1) 1] ∧ ∃ (x : Int) (C' : List Value) (b2 : Nat), Dice g0 C' ∧ SepM M n0 hb g' (.bx bo tII 1 ((List.range (m + 1)).map fun j => if j = 0 then .slice (some ⟨b2, 0, none⟩) ((xs 0).length + 1) 1 else v j) :: (.rc tI 1 n0 (.slice (some ⟨b2, 0, none⟩) ((xs 0).length + 1) 1) ((xs 0).length + 1) ((xs 0).map (.int .i64) ++ [.int .i64 x]) :: rowsR m (fun j => dRow n0 v xs (j + 1))) ++ [.bx b tS 3 C'])) (by kernel_rfl) (by kernel_rfl) ?_ ?_
      · refine IdxX.mk (by omega) (by omega) ?_
        refine ⟨?_, ?_⟩
        · refine LoadX.same (S.at_ 0 rfl) (ld0 _ rfl) ?_
          refine S.newL fun bl g L S => ⟨L, strictV.mk ?_⟩
          have S := S.recast 0 (cells' := ([0, p] : List Int).map (.int .i64)) rfl rfl
          refine SepM.pick (k := 2) (.bx bo tII 1 _ :: .rc tI 1 n0 _ _ _ :: rowsR m _) S hs hg rfl (by omega) (by omega) pk fun x g C3 hx hs S => ?_
          refine S.newL fun bk g L S => ⟨L, strictV.mk ?_⟩
          refine S.app (ie := Tt.ti2) 1 rfl rfl rfl (by omega) fun b2 g S => ?_
          refine IdxX.mk (by omega) (by omega) ?_
          exact end_ g x C3 b2 hs S _ fun g' hg' => ⟨rfl, hg'⟩
        · refine S.newL fun bl g L S => ⟨L, strictV.mk ?_⟩
          have S := S.recast 0 (cells' := ([0, p] : List Int).map (.int .i64)) rfl rfl
          refine ⟨?_, ?_⟩
          · refine LoadX.same (S.at_ 1 rfl) (ld0 _ rfl) ?_
            refine SepM.pick (k := 2) (.bx bo tII 1 _ :: .rc tI 1 n0 _ _ _ :: rowsR m _) S hs hg rfl (by omega) (by omega) pk fun x g C3 hx hs S => ?_
            refine S.newL fun bk g L S => ⟨L, strictV.mk ?_⟩
            refine S.app (ie := Tt.ti2) 1 rfl rfl rfl (by omega) fun b2 g S => ?_
            refine IdxX.mk (by omega) (by omega) ?_
            exact end_ g x C3 b2 hs S _ fun g' hg' => ⟨rfl, hg'⟩
          · refine SepM.pick (k := 2) (.bx bo tII 1 _ :: .rc tI 1 n0 _ _ _ :: rowsR m _) S hs hg rfl (by omega) (by omega) pk fun x g C3 hx hs S => ?_
            refine ⟨?_, ?_⟩
            · refine LoadX.same (S.at_ 0 rfl) (ld0 _ rfl) ?_
              refine S.newL fun bk g L S => ⟨L, strictV.mk ?_⟩
              refine S.app (ie := Tt.ti2) 1 rfl rfl rfl (by omega) fun b2 g S => ?_
              refine IdxX.mk (by omega) (by omega) ?_
              exact end_ g x C3 b2 hs S _ fun g' hg' => ⟨rfl, hg'⟩
            · refine S.newL fun bk g L S => ⟨L, strictV.mk ?_⟩
              refine LoadX.same (S.at_ 1 rfl) (ld0 _ rfl) ?_
              refine S.app (ie := Tt.ti2) 1 rfl rfl rfl (by omega) fun b2 g S => ?_
              refine IdxX.mk (by omega) (by omega) ?_
              exact end_ g x C3 b2 hs S _ fun g' hg' => ⟨rfl, hg'⟩
      · rintro vs g ⟨rfl, x, C3, b2, hs, S⟩
        have S := S.bx_rc 0 (k := m + 1) rfl (by simp)
        refine fin g (m + 1) bo (fun j => if j = 0 then .slice (some ⟨b2, 0, none⟩) ((xs 0).length + 1) 1 else v j) (fun j => if j = 0 then xs 0 ++ [x] else xs j) C3 (by omega) hs (fun j hj => ?_) (S.eq ?_)
        · have := hx j hj
          by_cases e : j = 0
          · simp [e]; omega
          · simp [e]; omega
        · rw [rowsR_head]
          have e3 : dRow n0 (fun j => if j = 0 then .slice (some ⟨b2, 0, none⟩) ((xs 0).length + 1) 1 else v j) (fun j => if j = 0 then xs 0 ++ [x] else xs j) 0 = .rc tI 1 n0 (.slice (some ⟨b2, 0, none⟩) ((xs 0).length + 1) 1) ((xs 0).length + 1) ((xs 0).map (.int .i64) ++ [.int .i64 x]) := by simp [dRow]
          rw [e3]
          rfl
    · refine fin g i bo v xs C2 (by omega) hs (fun j hj => by have := hx j hj; omega) S
  · refine BIf.no rfl ?_
    exact fin g i bo v xs C (by omega) hs (fun j hj => by have := hx j hj; omega) S

end Go.Gl

set_option linter.unusedVariables false
set_option linter.unusedSimpArgs false
namespace Go.Gl
open Go.Proofs Go.Proofs.Ytblbcjemoadfpaa Go.Pl

/-- what is drawn: a prime, a number and two lists of rows -/
def Drawn2 (h : AH) (r : Value) (h' : AH) : Prop := ∃ (p n : Int) (b1 k1 b2 k2 : Nat) (a b : List (List Int)), r = .tuple #[.int .i64 p, .int .i64 n, .slice (some ⟨b1, 0, none⟩) k1 1, .slice (some ⟨b2, 0, none⟩) k2 1] ∧ RII h' (.slice (some ⟨b1, 0, none⟩) k1 1) a ∧ RII h' (.slice (some ⟨b2, 0, none⟩) k2 1) b ∧ Le h h'
def Drawn1 (h : AH) (r : Value) (h' : AH) : Prop := ∃ (p n : Int) (b1 k1 : Nat) (a : List (List Int)), r = .tuple #[.int .i64 p, .int .i64 n, .slice (some ⟨b1, 0, none⟩) k1 1] ∧ RII h' (.slice (some ⟨b1, 0, none⟩) k1 1) a ∧ Le h h'

set_option maxHeartbeats 2000000 in
theorem l01Two_c (h : AH) (v : Value) (xs : List Int) (hx : R8 h v xs) (hl : xs.length ≤ 1000000) : ACalls Try.prog 67 [v] h (Drawn2 h) := by
  have pk := fun (b : Nat) (M : Nat → Prop) (n0 : Nat) (hb h' : AH) (C : List Value) (S : SepM M n0 hb h' [.bx b tS 3 C]) (hlen : hb.length = h'.length) (hs : Dice h C) (hg : Le h hb) (v : Value) (xs : List Int) (hx : RI hb v xs) (h0 : 0 < xs.length) (hl : xs.length ≤ 1000000) => l01Pick_c S hlen hs hg v xs hx h0 hl
  obtain ⟨bc, oc, kc, hx⟩ := hx.can
  refine ACalls.wk (args' := [.slice (some ⟨bc, oc, none⟩) xs.length 0]) ?_ (.cons kc .nil)
  refine ACalls.of Tt.tab Try.func67 rfl (by kernel_rfl) Try.ntmps67 _ rfl rfl (fun hw => ?_)
  have S := Sep.start h
  refine CallX.same (l01From_c _ _ xs hx hl) ?_
  rintro r g ⟨b, C, rfl, hlk, hge, hs, L⟩
  have S := S.box L hlk hge
  refine S.new fun bl g S => ?_
  have S := S.recast 0 (cells' := ([2, 3, 5, 7, 2, 3, 4] : List Int).map (.int .i64)) rfl rfl
  refine SepM.pick (k := 7) [] S hs (Le.refl _) rfl (by decide) (by decide) (pk b) fun p g C1 hp hs S => ?_
  have hp : p ≤ 1000000 := by simp at hp; omega
  refine S.new fun bl g S => ?_
  have S := S.recast 0 (cells' := ([0, 1, 2, 3, 4, 5, 6] : List Int).map (.int .i64)) rfl rfl
  refine SepM.pick (k := 7) [] S hs (Le.refl _) rfl (by decide) (by decide) (pk b) fun n g C1 hn hs S => ?_
  have hn : n ≤ 1000 := by simp at hn; omega
  refine SepM.src [] S hs (Le.refl _) (fun G hb' e1 e2 _ S hg' => l01DrawRows_c S e1 hs hg' p n hp hn) ?_
  rintro r g C2 Ns ⟨ka, ba, a, rfl, hka, ma, rfl⟩ hs S
  refine SepM.src [_] S hs (Le.refl _) (fun G hb' e1 e2 _ S hg' => l01DrawRows_c S e1 hs hg' p n hp hn) ?_
  rintro r g C3 Ns ⟨kb, bb, bs, rfl, hkb, mb, rfl⟩ hs S
  have la := S.rw_len 0 rfl
  refine BIf.mk (fun c1 => ?_) (fun c1 => ?_)
  · have c1 : 0 < ka := by simpa using c1
    refine SepM.src [_, _] S hs (Le.refl _) (fun G hb' e1 e2 _ S hg' => l01Next_c S e1 hs hg' 2 (by omega)) ?_
    rintro r g C4 Ns ⟨y, rfl, x1, x2, x3, rfl⟩ hs S
    refine BIf.mk (fun c2 => ?_) (fun c2 => ?_)
    · have ra := S.rdw OI.reads 0 rfl (by omega)
      have ca := ra.cells1 la.symm
      refine IdxX.mk (by omega) (by omega) ?_
      refine CS.rowY ca (Le.refl _) (k := 0) (by omega) fun b9 o9 r9 => ?_
      have lr := ma 0 c1
      refine S.made OI.fr (l01Own_c _ _ _ r9 (by omega)) fun b5 o5 g S => ?_
      refine S.new fun b6 g S => ?_
      refine S.appT 1 rfl rfl (by omega) fun b7 g S => ?_
      exact FinX.here S.le.len ⟨p, n, _, _, _, _, a, _, rfl, S.rdw OI.reads 0 rfl (by omega), S.rdw OI.reads 1 rfl (by omega), S.le⟩
    · exact FinX.here S.le.len ⟨p, n, _, _, _, _, a, bs, rfl, S.rdw OI.reads 0 rfl (by omega), S.rdw OI.reads 1 rfl (by omega), S.le⟩
  · refine BIf.no rfl ?_
    exact FinX.here S.le.len ⟨p, n, _, _, _, _, a, bs, rfl, S.rdw OI.reads 0 rfl (by omega), S.rdw OI.reads 1 rfl (by omega), S.le⟩

theorem drawMeet_c (h : AH) (v : Value) (xs : List Int) (hx : R8 h v xs) (hl : xs.length ≤ 1000000) : ACalls Try.prog 29 [v] h (Drawn2 h) := by
  obtain ⟨bc, oc, kc, hx⟩ := hx.can
  refine ACalls.wk (args' := [.slice (some ⟨bc, oc, none⟩) xs.length 0]) ?_ (.cons kc .nil)
  refine ACalls.of Tt.tab Try.func29 rfl (by kernel_rfl) Try.ntmps29 _ rfl rfl (fun hw => ?_)
  refine CallX.same (l01Two_c _ _ xs hx hl) ?_
  rintro r g ⟨p, n, b1, k1, b2, k2, a, b, rfl, h1, h2, L⟩
  exact FinX.here L.len ⟨p, n, _, _, _, _, a, b, rfl, h1, h2, L⟩

set_option maxHeartbeats 2000000 in
theorem drawReduce_c (h : AH) (v : Value) (xs : List Int) (hx : R8 h v xs) (hl : xs.length ≤ 1000000) : ACalls Try.prog 36 [v] h (Drawn1 h) := by
  have pk := fun (b : Nat) (M : Nat → Prop) (n0 : Nat) (hb h' : AH) (C : List Value) (S : SepM M n0 hb h' [.bx b tS 3 C]) (hlen : hb.length = h'.length) (hs : Dice h C) (hg : Le h hb) (v : Value) (xs : List Int) (hx : RI hb v xs) (h0 : 0 < xs.length) (hl : xs.length ≤ 1000000) => l01Pick_c S hlen hs hg v xs hx h0 hl
  obtain ⟨bc, oc, kc, hx⟩ := hx.can
  refine ACalls.wk (args' := [.slice (some ⟨bc, oc, none⟩) xs.length 0]) ?_ (.cons kc .nil)
  refine ACalls.of Tt.tab Try.func36 rfl (by kernel_rfl) Try.ntmps36 _ rfl rfl (fun hw => ?_)
  have S := Sep.start h
  refine CallX.same (l01From_c _ _ xs hx hl) ?_
  rintro r g ⟨b, C, rfl, hlk, hge, hs, L⟩
  have S := S.box L hlk hge
  refine S.new fun bl g S => ?_
  have S := S.recast 0 (cells' := ([2, 3, 5, 7, 2, 3, 4] : List Int).map (.int .i64)) rfl rfl
  refine SepM.pick (k := 7) [] S hs (Le.refl _) rfl (by decide) (by decide) (pk b) fun p g C1 hp hs S => ?_
  have hp : p ≤ 1000000 := by simp at hp; omega
  refine S.new fun bl g S => ?_
  have S := S.recast 0 (cells' := ([0, 1, 2, 3, 4, 5, 8, 41] : List Int).map (.int .i64)) rfl rfl
  refine SepM.pick (k := 8) [] S hs (Le.refl _) rfl (by decide) (by decide) (pk b) fun n g C1 hn hs S => ?_
  have hn : n ≤ 1000 := by simp at hn; omega
  refine SepM.src [] S hs (Le.refl _) (fun G hb' e1 e2 _ S hg' => l01DrawRows_c S e1 hs hg' p n hp hn) ?_
  rintro r g C2 Ns ⟨ka, ba, a, rfl, hka, ma, rfl⟩ hs S
  exact FinX.here S.le.len ⟨p, n, _, _, a, rfl, S.rdw OI.reads 0 rfl (by omega), S.le⟩

theorem big_c (h : AH) (v : Value) (xs : List Int) (hx : R8 h v xs) : ACalls Try.prog 28 [v] h (fun r h' => r = .bool (decide (xs.length > 4096)) ∧ h' = h) := by
  obtain ⟨bc, oc, kc, hx⟩ := hx.can
  refine ACalls.wk (args' := [.slice (some ⟨bc, oc, none⟩) xs.length 0]) ?_ (.cons kc .nil)
  refine ACalls.of Tt.tab Try.func28 rfl (by kernel_rfl) Try.ntmps28 _ rfl rfl (fun hw => ?_)
  refine FinX.keep hw (Le.refl _) rfl ⟨?_, rfl⟩
  simp
  omega

theorem likeInts_c (h : AH) (va vb : Value) (a b : List Int) (ha : RI h va a) (hb : RI h vb b) (e : a = b) : ACalls Try.prog 75 [va, vb] h (fun r h' => r = .bool true ∧ h' = h) := by
  subst e
  obtain ⟨b1, o1, k1, ha⟩ := ha.can
  obtain ⟨b2, o2, k2, hb⟩ := hb.can
  refine ACalls.wk (args' := [.slice (some ⟨b1, o1, none⟩) a.length 0, .slice (some ⟨b2, o2, none⟩) a.length 0]) ?_ (.cons k1 (.cons k2 .nil))
  have c1 := ha.cells rfl
  have hm := ha.1
  have c2 := hb.cells rfl
  refine ACalls.of Tt.tab Try.func75 rfl (by kernel_rfl) Try.ntmps75 _ rfl rfl (fun hw => ?_)
  refine BIf.no (by simp) ?_
  refine ⟨⟨[0, 1, 4, 5], fun n' vs g => ∃ i : Nat, n' = a.length - i ∧ i ≤ a.length ∧ g = h ∧ vs = [.slice (some ⟨b1, o1, none⟩) a.length 0, .slice (some ⟨b2, o2, none⟩) a.length 0, .bool false, .int .i64 i], _, ⟨0, rfl, Nat.zero_le _, rfl, rfl⟩, ?_⟩⟩
  rintro n' vs g ⟨i, rfl, hi, rfl, rfl⟩
  refine BIf.mk (fun h2 => ?_) (fun h2 => ?_)
  · have hlt : i < a.length := by simpa using h2
    refine DrawX.of Tt.tab follows_any [] [] [0, 1, 2, 3, 4, 5, 6, 7, 8] rfl (by kernel_rfl) (by kernel_rfl) ?_
    refine IdxX.mk (by omega) (by omega) ?_
    refine CS.ith c1 (Le.refl _) hlt ?_
    refine IdxX.mk (by omega) (by omega) ?_
    refine CS.ith c2 (Le.refl _) hlt ?_
    refine BIf.no (by simp) ?_
    refine WR.as (r := ((i + 1 : Nat) : Int)) (by omega) ?_
    exact ⟨a.length - (i + 1), by omega, i + 1, rfl, hlt, rfl, rfl⟩
  exact FinX.keep hw (Le.refl _) rfl ⟨rfl, rfl⟩

theorem rows5_c (h : AH) (va vb : Value) (a b : List (List Int)) (ha : RII h va a) (hb : RII h vb b) (e : a = b) : ACalls Try.prog 34 [va, vb] h (fun r h' => r = .bool true ∧ h' = h) := by
  subst e
  obtain ⟨b1, o1, k1, ha⟩ := ha.can
  obtain ⟨b2, o2, k2, hb⟩ := hb.can
  refine ACalls.wk (args' := [.slice (some ⟨b1, o1, none⟩) a.length 0, .slice (some ⟨b2, o2, none⟩) a.length 0]) ?_ (.cons k1 (.cons k2 .nil))
  have c1 := ha.cells rfl
  have hm := ha.1
  have c2 := hb.cells rfl
  refine ACalls.of Tt.tab Try.func34 rfl (by kernel_rfl) Try.ntmps34 _ rfl rfl (fun hw => ?_)
  refine BIf.no (by simp) ?_
  refine ⟨⟨[0, 1, 4, 5], fun n' vs g => ∃ i : Nat, n' = a.length - i ∧ i ≤ a.length ∧ g = h ∧ vs = [.slice (some ⟨b1, o1, none⟩) a.length 0, .slice (some ⟨b2, o2, none⟩) a.length 0, .bool false, .int .i64 i], _, ⟨0, rfl, Nat.zero_le _, rfl, rfl⟩, ?_⟩⟩
  rintro n' vs g ⟨i, rfl, hi, rfl, rfl⟩
  refine BIf.mk (fun h2 => ?_) (fun h2 => ?_)
  · have hlt : i < a.length := by simpa using h2
    refine DrawX.of Tt.tab follows_any [] [] [0, 1, 2, 3, 4, 5, 6, 7, 8, 9] rfl (by kernel_rfl) (by kernel_rfl) ?_
    refine IdxX.mk (by omega) (by omega) ?_
    refine CS.rowY c1 (Le.refl _) hlt fun b3 o3 r3 => ?_
    refine IdxX.mk (by omega) (by omega) ?_
    refine CS.rowY c2 (Le.refl _) hlt fun b4 o4 r4 => ?_
    refine QCall.of (fun g2 hl => likeInts_c g2 _ _ _ _ (RI.le _ _ _ _ hl r3) (RI.le _ _ _ _ hl r4) rfl) rfl ?_
    refine BIf.no (by simp) ?_
    refine WR.as (r := ((i + 1 : Nat) : Int)) (by omega) ?_
    exact ⟨a.length - (i + 1), by omega, i + 1, rfl, hlt, rfl, rfl⟩
  exact FinX.keep hw (Le.refl _) rfl ⟨rfl, rfl⟩

end Go.Gl

/- Chapter 7: DualWhole. No condition. -/
import Derived.Test.YtoeapenknlfffaaFnW1
import Derived.Test.YtoeapenknlfffaaFnD1
import Derived.Test.YtoeapenknlfffaaFnR
import Derived.Test.YtoeapenknlfffaaFn7a
set_option linter.unusedVariables false
set_option linter.unusedSimpArgs false
namespace Go.Gl
open Go.Proofs Go.Proofs.Ytoeapenknlfffaa Go.Pl

/-- columns as rows -/
def colsN (M : List (List Int)) (m : Nat) : List (List Int) := tabR m fun i => tab M.length fun j => ent M j i
def revI (xs : List Int) : List Int := tab xs.length fun k => ith xs (xs.length - 1 - k)
def dualMap (x : SWhole) (k : Nat) : List (List Int) := colsN (mat x.maps (x.maps.length - 1 - k)) (ith x.dims (x.maps.length - 1 - k)).toNat
def dualMaps (x : SWhole) (n : Nat) : List (List (List Int)) := (List.range n).map (dualMap x)
theorem dualMaps_succ (x : SWhole) (n : Nat) : dualMaps x (n + 1) = dualMaps x n ++ [dualMap x n] := by simp [dualMaps, List.range_succ]
def dualW (x : SWhole) : SWhole × Int := if wholeOk x then (⟨revI x.dims, dualMaps x x.maps.length⟩, 0) else (⟨[], []⟩, 1)
theorem wholeOk_mk {x : SWhole} (h : wholeOk x = true) : WHead x ∧ ∀ k, k < x.maps.length → ((mat x.maps k).length : Int) = ith x.dims (k + 1) ∧ wmat (ith x.dims k) (mat x.maps k) = true := by
  simp only [wholeOk, Bool.and_eq_true] at h
  obtain ⟨⟨h1, h2⟩, _⟩ := h
  exact ⟨wHead_mk h1, fun k hk => wShape_mk (allN_at h2 hk)⟩
theorem cnII_tabM {n m : Nat} {f : Nat → List Int} (h : ∀ i, i < n → (f i).length ≤ m) : cnII (tabR n f) ≤ n * m := by
  induction n with
  | zero => simp [tabR, cnL]
  | succ n ih =>
    rw [tabR_succ]
    have h1 := ih (fun i hi => h i (by omega))
    have h2 := h n (by omega)
    unfold cnII cnL at h1 ⊢
    rw [List.map_append, List.sum_append, Nat.succ_mul]
    simp [cnI]
    omega
theorem cnIII_range {n m : Nat} {f : Nat → List (List Int)} (h : ∀ i, i < n → cnII (f i) ≤ m) : cnIII ((List.range n).map f) ≤ n * m := by
  induction n with
  | zero => simp [cnL]
  | succ n ih =>
    rw [List.range_succ, List.map_append]
    have h1 := ih (fun i hi => h i (by omega))
    have h2 := h n (by omega)
    unfold cnIII cnL at h1 ⊢
    rw [List.map_append, List.sum_append, Nat.succ_mul]
    simp only [List.map_cons, List.map_nil, List.sum_cons, List.sum_nil]
    omega
theorem dualW_cn (x : SWhole) : cnWhole (dualW x).1 ≤ 1000 := by
  unfold dualW
  split
  · rename_i h
    obtain ⟨h1, h2⟩ := wholeOk_mk h
    have hh := h1.hi
    have hl := h1.len
    show cnI (revI x.dims) + cnIII (dualMaps x x.maps.length) ≤ 1000
    have e1 : cnI (revI x.dims) = x.dims.length := by simp [cnI, revI, tab_length]
    have e2 : cnIII (dualMaps x x.maps.length) ≤ x.maps.length * 36 := cnIII_range fun i hi => by
      have f1 := (h2 (x.maps.length - 1 - i) (by omega)).1
      have f2 := h1.dims (x.maps.length - 1 - i + 1)
      have f3 := h1.dims (x.maps.length - 1 - i)
      refine Nat.le_trans (cnII_tabM (m := 6) fun k hk => by rw [tab_length]; omega) ?_
      calc (ith x.dims (x.maps.length - 1 - i)).toNat * 6 ≤ 6 * 6 := Nat.mul_le_mul_right _ (by omega)
        _ = 36 := rfl
    omega
  · decide
/-- a block of our caller's, as a part of our own -/
theorem SepM.boxed {h : AH} {b : Nat} {cells : List Value} {ty : TypeId} {s : Nat} (hl : look h b = some ⟨cells, some (ty, s)⟩) : SepM (fun i => i = b) 0 (hide (fun i => i = b) h) h [.bx b ty s cells] :=
  ⟨hide_le _ h, Nat.zero_le _, _, .cons (F := fun i => i = b) ⟨rfl, hl⟩ (fun i hi => by subst hi; exact ⟨⟨hide_none rfl, Nat.zero_le _, .inl rfl⟩, look_lt hl⟩) (fun i _ hh => hh) .nil⟩
/-- the block b has become another, nothing else has changed -/
def Chg (h : AH) (b : Nat) (blk : Blk) (h' : AH) : Prop := Le (hide (fun i => i = b) h) h' ∧ look h' b = some blk
/-- a call that changes a row of our own in its place -/
theorem SepM.chgR {M : Nat → Prop} {n : Nat} {hb h : AH} {Rs : List Res} (S : SepM M n hb h Rs) (j : Nat) {m b k c : Nat} {e : TypeId} {s : Nat} {cells cells' : List Value} (hj : gt Rs j = some (.rc e s m (.slice (some ⟨b, 0, none⟩) k c) k cells)) (hlen : cells'.length = cells.length) {K : Value → AH → Prop} {P : Program} {f : FuncId} {args : List Value}
    (hc : look h b = some ⟨cells, some (e, s)⟩ → ACalls P f args h (fun r h' => r = .tuple #[] ∧ Chg h b ⟨cells', some (e, s)⟩ h'))
    (hk : ∀ h', SepM M n hb h' (st Rs j (.rc e s m (.slice (some ⟨b, 0, none⟩) k c) k cells')) → K (.tuple #[]) h') : CallX P f args h K := by
  obtain ⟨F, ⟨b', h1, hge⟩, h2, _, _, h4⟩ := S.step hj
  rcases h1 with ⟨h1, h3, h5⟩ | ⟨h1, _⟩
  · simp only [Value.slice.injEq, Option.some.injEq, Addr.mk.injEq] at h1
    obtain ⟨⟨rfl, _⟩, _, rfl⟩ := h1
    obtain ⟨h3a, h3⟩ := only_some.1 h3
    refine CallX.same (hc h3) ?_
    rintro r h' ⟨rfl, L, hl⟩
    have hlen2 : h.length ≤ h'.length := by have := L.len; rwa [show (hide (fun i => i = b) h).length = h.length from only_length _ _] at this
    refine hk _ (h4 _ _ F hlen2 ⟨b, .inl ⟨rfl, only_some.2 ⟨h3a, hl⟩, by rw [hlen]; exact h5⟩, hge⟩ (fun i hi => ⟨Nat.lt_of_lt_of_le (h2 i hi).1 hlen2, .inl hi⟩) fun i blk hf e => ?_)
    exact L.at_ i blk (hide_some.2 ⟨fun hh => hf (by subst hh; exact h3a), e⟩)
  · cases h1
theorem SepM.chg {M : Nat → Prop} {h h' : AH} {b b' n : Nat} {cells : List Value} {ty : TypeId} {s : Nat} (S : SepM M n (hide (fun i => i = b) h) h' [.bx b' ty s cells]) (e : b' = b) : Chg h b ⟨cells, some (ty, s)⟩ h' := by
  subst e
  exact ⟨S.le, S.at_ 0 rfl⟩

theorem reverse_c (h : AH) (b : Nat) (xs : List Int) (hl : look h b = some ⟨xs.map (.int .i64), some (tI, 1)⟩) (hm : xs.length ≤ 1000000) : ACalls Try.prog 58 [.slice (some ⟨b, 0, none⟩) xs.length 1] h (fun r h' => r = .tuple #[] ∧ Chg h b ⟨(revI xs).map (.int .i64), some (tI, 1)⟩ h') := by
  refine ACalls.of Tt.tab Try.func58 rfl (by kernel_rfl) Try.ntmps58 _ rfl rfl (fun hw => ?_)
  have S := SepM.boxed hl
  have S := S.recast 0 rfl (congrArg (List.map (Value.int .i64)) (show xs = tab xs.length (fun k => if k < 0 ∨ xs.length - 1 - k < 0 then ith xs (xs.length - 1 - k) else ith xs k) from by
    refine tab_eq.trans (tab_congr fun i hi => ?_)
    rw [if_neg (by omega)]))
  refine WR.i64 ?_
  refine ⟨⟨[0, 2, 3], fun n' vs g => ∃ i : Nat, n' = xs.length - i ∧ 2 * i ≤ xs.length ∧ SepM (fun i => i = b) 0 (hide (fun i => i = b) h) g [.bx b tI 1 ((tab xs.length (fun k => if k < i ∨ xs.length - 1 - k < i then ith xs (xs.length - 1 - k) else ith xs k)).map (.int .i64))] ∧
    vs = [.slice (some ⟨b, 0, none⟩) xs.length 1, .int .i64 i, .int .i64 ((xs.length : Int) - 1 - i)], _, ⟨0, rfl, by omega, S, by rw [show (xs.length : Int) - 1 - ((0 : Nat) : Int) = xs.length - 1 by omega]; rfl⟩, ?_⟩⟩
  rintro n' vs g ⟨i, rfl, hi, S, rfl⟩
  refine BIf.mk (fun h2 => ?_) (fun h2 => ?_)
  · have h2 : (i : Int) < (xs.length : Int) - 1 - i := by simpa using h2
    obtain ⟨j, hj⟩ : ∃ j : Nat, j = xs.length - 1 - i := ⟨_, rfl⟩
    have ej : (xs.length : Int) - 1 - i = j := by omega
    rw [ej] at h2 ⊢
    refine DrawX.of Tt.tab follows_any [] [13, 15] [0, 1, 4, 5, 6, 7, 8, 9, 10, 11, 2, 3, 12, 13, 14, 15] rfl (by kernel_rfl) (by kernel_rfl) ?_
    refine IdxX.mk (by omega) (by omega) ?_
    refine S.loadT 0 (k := j) (y := ith xs j) rfl (by omega) (if_neg (by omega)) ?_
    refine IdxX.mk (by omega) (by omega) ?_
    refine S.loadT 0 (k := i) (y := ith xs i) rfl (by omega) (if_neg (by omega)) ?_
    refine IdxX.mk (by omega) (by omega) ?_
    refine S.storeT 0 (k := i) rfl (by omega) fun g S => ?_
    refine IdxX.mk (by omega) (by omega) ?_
    refine S.storeT 0 (k := j) rfl (by omega) fun g S => ?_
    refine WR.i64 ?_
    refine WR.i64 ?_
    refine ⟨xs.length - (i + 1), by omega, i + 1, rfl, by omega, S.recast 0 rfl (congrArg (List.map (Value.int .i64)) (tab_congr fun k hk => ?_)), ?_⟩
    · by_cases e1 : k = j
      · subst e1
        rw [if_pos rfl, if_pos (by omega), show xs.length - 1 - k = i by omega]
      rw [if_neg e1]
      by_cases e2 : k = i
      · subst e2
        rw [if_pos rfl, if_pos (by omega), ← hj]
      rw [if_neg e2]
      by_cases e3 : k < i ∨ xs.length - 1 - k < i
      · rw [if_pos e3, if_pos (by omega)]
      · rw [if_neg e3, if_neg (by omega)]
    · rw [show (j : Int) - 1 = (xs.length : Int) - 1 - ((i + 1 : Nat) : Int) by omega]; rfl
  · have h2 : ¬ (i : Int) < (xs.length : Int) - 1 - i := by simpa using h2
    have S := S.recast 0 (cells' := (revI xs).map (.int .i64)) rfl (congrArg (List.map (Value.int .i64)) (tab_congr fun k hk => by
      by_cases e3 : k < i ∨ xs.length - 1 - k < i
      · rw [if_pos e3]
      · rw [if_neg e3, show xs.length - 1 - k = k by omega]))
    exact FinX.here (by have := S.le.len; rwa [show (hide (fun i => i = b) h).length = h.length from only_length _ _] at this) ⟨rfl, S.chg rfl⟩

theorem l01Flip_c (h : AH) (v : Value) (M : List (List Int)) (m : Int) (hM : RII h v M) (hl : M.length ≤ 1000) (h0 : 0 ≤ m) (h1 : m ≤ 1000) (hwd : ∀ i, i < M.length → m ≤ ((row M i).length : Int)) : ACalls Try.prog 61 [v, .int .i64 m] h (Made OII h (colsN M m.toNat)) := by
  obtain ⟨_, b1, o1, k1, c1⟩ := hM
  obtain ⟨mn, rfl⟩ : ∃ mn : Nat, m = mn := ⟨m.toNat, by omega⟩
  rw [Int.toNat_natCast]
  refine ACalls.madeN (ACalls.wk (args' := [.slice (some ⟨b1, o1, none⟩) M.length 0, .int .i64 mn]) ?_ (.cons k1 (.cons (Wk.refl _) .nil)))
  refine ACalls.of Tt.tab Try.func61 rfl (by kernel_rfl) Try.ntmps61 _ rfl rfl (fun hw => ?_)
  have S := Sep.start h
  refine S.new fun b g S => ?_
  have S := S.bx_rw 0 OI.fr rfl
  refine ⟨⟨[0, 1, 4, 5, 6], fun n' vs g => ∃ (i b : Nat), n' = mn - i ∧ i ≤ mn ∧ Sep h.length h g [.rw OI.fr 26 h.length (.slice (some ⟨b, 0, none⟩) i 1) i (tabR i (fun i => tab M.length fun j => ent M j i))] ∧
    vs = [.slice (some ⟨b1, o1, none⟩) M.length 0, .int .i64 mn, .slice none 0 0, .slice (some ⟨b, 0, none⟩) i 1, .int .i64 i], _, ⟨0, b, rfl, Nat.zero_le _, S, rfl⟩, ?_⟩⟩
  rintro n' vs g ⟨i, b, rfl, hi, S, rfl⟩
  refine BIf.mk (fun h2 => ?_) (fun h2 => ?_)
  · have hlt : i < mn := by simpa using h2
    refine S.new fun b3 g S => ?_
    have S := S.bx_rc 0 (k := 0) rfl rfl
    refine ⟨⟨[0, 1, 4, 5, 6, 7, 8], fun n' vs g => ∃ (j b3 : Nat), n' = M.length - j ∧ j ≤ M.length ∧ Sep h.length h g [.rc 2 1 h.length (.slice (some ⟨b3, 0, none⟩) j 1) j ((tab j fun j => ent M j i).map (.int .i64)), .rw OI.fr 26 h.length (.slice (some ⟨b, 0, none⟩) i 1) i (tabR i (fun i => tab M.length fun j => ent M j i))] ∧
      vs = [.slice (some ⟨b1, o1, none⟩) M.length 0, .int .i64 mn, .slice none 0 0, .slice (some ⟨b, 0, none⟩) i 1, .int .i64 i, .slice (some ⟨b3, 0, none⟩) j 1, .int .i64 j], _, ⟨0, b3, rfl, Nat.zero_le _, S, rfl⟩, ?_⟩⟩
    rintro n' vs g ⟨j, b3, rfl, hj, S, rfl⟩
    refine BIf.mk (fun h3 => ?_) (fun h3 => ?_)
    · have h3 : j < M.length := by simpa using h3
      have hwj := hwd j h3
      refine IdxX.mk (by omega) (by omega) ?_
      refine c1.row S.le h3 fun b4 o4 c4 => ?_
      refine IdxX.mk (by omega) (by omega) ?_
      refine c4.ith S.le (show i < (row M j).length by omega) ?_
      refine S.new fun b5 g S => ?_
      refine S.app 0 rfl rfl rfl (by omega) fun b6 g S => ?_
      refine WR.i64 ?_
      exact ⟨M.length - (j + 1), by omega, j + 1, b6, rfl, h3, by rw [tab_succ, List.map_append]; exact S, rfl⟩
    · have hj2 : j = M.length := by simp at h3; omega
      subst hj2
      have S := S.rc_tr 0 rfl (by rw [tab_length]; omega)
      refine S.new fun b4 g S => ?_
      refine S.appT 0 rfl rfl (by omega) fun b5 g S => ?_
      refine WR.i64 ?_
      exact ⟨mn - (i + 1), by omega, i + 1, b5, rfl, hlt, by rw [tabR_succ]; exact S, rfl⟩
  · have hi2 : i = mn := by simp at h2; omega
    have T := S
    subst hi2
    exact (T.rw_tr 0 rfl (by omega)).fin 0 rfl

theorem SepM.finWhole {h0 h : AH} {Rs : List Res} {ti : TypeId} {v1 v2 : Value} {x : SWhole} {c : Int} (S : Sep h0.length h0 h (.tr (Leaf.fr tI) h0.length v1 x.dims :: .tr OIII.fr h0.length v2 x.maps :: Rs)) :
    FinX h0 (fun r h' => ∃ v l, r = .tuple #[v, .int .i64 c] ∧ OWhole h0.length h' v x l ∧ Le h0 h') (.tuple #[.agg #[v1, v2], .int .i64 c]) h := by
  obtain ⟨l1, l2, a1, a2, hd⟩ := S.two
  exact FinX.here S.le.len ⟨_, _, rfl, ⟨_, _, rfl, _, _, a1, a2, rfl, hd⟩, S.le⟩

theorem dualWS_c (h : AH) (v : Value) (x : SWhole) (hx : RWhole h v x) : ACalls Try.prog 18 [v] h (fun r h' => ∃ v l, r = .tuple #[v, .int .i64 (dualW x).2] ∧ OWhole h.length h' v (dualW x).1 l ∧ Le h h') := by
  obtain ⟨b1, o1, b2, o2, kx, qx⟩ := hx.can
  refine ACalls.wk (args' := [.agg #[.slice (some ⟨b1, o1, none⟩) x.dims.length 0, .slice (some ⟨b2, o2, none⟩) x.maps.length 0]]) ?_ (.cons kx .nil)
  refine ACalls.of Tt.tab Try.func18 rfl (by kernel_rfl) Try.ntmps18 _ rfl rfl (fun hw => ?_)
  have S := Sep.start h
  have c1 := RS.cells qx.1 rfl
  have c2 := RS.cells qx.2 rfl
  refine S.new fun b3 g S => ?_
  refine S.new fun b4 g S => ?_
  refine LoadX.same (v := .agg #[.slice (some ⟨b1, o1, none⟩) x.dims.length 0, .slice (some ⟨b2, o2, none⟩) x.maps.length 0]) (S.at_ 1 rfl) rfl ?_
  refine CallX.same (l07Is_c _ _ x ⟨_, _, rfl, qx.le S.le⟩) ?_
  rintro r g' ⟨rfl, rfl⟩
  unfold dualW
  refine BIf.mk (fun e1 => ?_) (fun e1 => ?_)
  · have e1 : wholeOk x = false := by simpa using e1
    rw [e1]
    refine S.put 0 rfl fun g S => ?_
    refine LoadX.same (v := .agg #[.slice none 0 0, .slice none 0 0]) (S.at_ 0 rfl) rfl ?_
    exact FinX.here S.le.len ⟨_, [], rfl, OWhole.zero _ _, S.le⟩
  have e1 : wholeOk x = true := by simpa using e1
  rw [if_pos e1]
  obtain ⟨wh, ws⟩ := wholeOk_mk e1
  have hlo := wh.lo
  have hhi := wh.hi
  have hlen := wh.len
  refine LoadX.same (v := .slice (some ⟨b1, o1, none⟩) x.dims.length 0) (S.at_ 1 rfl) rfl ?_
  refine WR.as (r := (x.maps.length : Int)) (by omega) ?_
  refine S.new fun b5 g S => ?_
  refine S.new fun b6 g S => ?_
  refine S.new fun b7 g S => ?_
  refine S.put 0 rfl fun g S => ?_
  have S := S.bx_rw 1 OII.fr rfl
  have S := S.bx_rc 2 (k := 0) rfl rfl
  refine ⟨⟨[1, 2, 3, 4, 5, 6], fun n' vs g => ∃ (i b5 : Nat), n' = x.dims.length - i ∧ i ≤ x.dims.length ∧ Sep h.length h g [.bx b7 34 2 [.slice (some ⟨b5, 0, none⟩) i 1, .slice (some ⟨b6, 0, none⟩) 0 1], .rw OII.fr 24 h.length (.slice (some ⟨b6, 0, none⟩) 0 1) 0 [], .rc 2 1 h.length (.slice (some ⟨b5, 0, none⟩) i 1) i ((tab i fun k => ith x.dims (x.dims.length - 1 - k)).map (.int .i64)), .bx b4 34 2 [.slice none 0 0, .slice none 0 0], .bx b3 34 2 [.slice (some ⟨b1, o1, none⟩) x.dims.length 0, .slice (some ⟨b2, o2, none⟩) x.maps.length 0]] ∧
    vs = [.pointer (some ⟨b3, 0, none⟩), .pointer (some ⟨b4, 0, none⟩), .int .i64 0, .int .i64 x.maps.length, .pointer (some ⟨b7, 0, none⟩), .int .i64 i], _, ⟨0, b5, rfl, Nat.zero_le _, S, rfl⟩, ?_⟩⟩
  rintro n' vs g ⟨i, b5, rfl, hi, S, rfl⟩
  refine BIf.mk (fun h2 => ?_) (fun h2 => ?_)
  · have hlt : i < x.dims.length := by simp at h2; omega
    refine DrawX.of Tt.tab follows_any [9] [10, 12] [0, 1, 2, 3, 4, 5, 6, 7, 8, 9, 10, 11, 12] rfl (by kernel_rfl) (by kernel_rfl) ?_
    refine LoadX.same (v := .slice (some ⟨b5, 0, none⟩) i 1) (S.at_ 0 rfl) rfl ?_
    refine LoadX.same (v := .slice (some ⟨b1, o1, none⟩) x.dims.length 0) (S.at_ 4 rfl) rfl ?_
    refine WR.as (r := ((x.dims.length - 1 - i : Nat) : Int)) (by omega) ?_
    refine IdxX.mk (by omega) (by omega) ?_
    refine c1.ith S.le (show x.dims.length - 1 - i < x.dims.length by omega) ?_
    refine S.newL fun b8 g L S => ?_
    refine ⟨L, ?_⟩
    refine S.app 2 rfl rfl rfl (by omega) fun b9 g S => ?_
    refine S.put 0 rfl fun g S => ?_
    refine WR.i64 ?_
    exact ⟨x.dims.length - (i + 1), by omega, i + 1, b9, rfl, hlt, by rw [tab_succ, List.map_append]; exact S, rfl⟩
  have hi2 : i = x.dims.length := by simp at h2; omega
  subst hi2
  have S := S.rc_tr 2 rfl (by rw [tab_length]; omega)
  refine ⟨⟨[1, 2, 3, 4, 5, 7], fun n' vs g => ∃ (i b6 : Nat), n' = x.maps.length - i ∧ i ≤ x.maps.length ∧ Sep h.length h g [.bx b7 34 2 [.slice (some ⟨b5, 0, none⟩) x.dims.length 1, .slice (some ⟨b6, 0, none⟩) i 1], .rw OII.fr 24 h.length (.slice (some ⟨b6, 0, none⟩) i 1) i (dualMaps x i), .tr (Leaf.fr tI) h.length (.slice (some ⟨b5, 0, none⟩) x.dims.length 1) (revI x.dims), .bx b4 34 2 [.slice none 0 0, .slice none 0 0], .bx b3 34 2 [.slice (some ⟨b1, o1, none⟩) x.dims.length 0, .slice (some ⟨b2, o2, none⟩) x.maps.length 0]] ∧
    vs = [.pointer (some ⟨b3, 0, none⟩), .pointer (some ⟨b4, 0, none⟩), .int .i64 0, .int .i64 x.maps.length, .pointer (some ⟨b7, 0, none⟩), .int .i64 i], _, ⟨0, b6, rfl, Nat.zero_le _, S, rfl⟩, ?_⟩⟩
  rintro n' vs g ⟨i, b6, rfl, hi, S, rfl⟩
  refine BIf.mk (fun h2 => ?_) (fun h2 => ?_)
  · have hlt : i < x.maps.length := by simpa using h2
    obtain ⟨k, hk⟩ : ∃ k : Nat, k = x.maps.length - 1 - i := ⟨_, rfl⟩
    have wk := ws k (by omega)
    have wd := wh.dims k
    have wd1 := wh.dims (k + 1)
    refine WR.as (r := (x.maps.length : Int) - 1) rfl ?_
    refine WR.as (r := (k : Int)) (by omega) ?_
    refine DrawX.of Tt.tab follows_any [12, 13] [14, 16] [0, 1, 2, 3, 4, 5, 6, 7, 8, 9, 10, 11, 12, 13, 14, 15, 16] rfl (by kernel_rfl) (by kernel_rfl) ?_
    refine LoadX.same (v := .slice (some ⟨b6, 0, none⟩) i 1) (S.at_ 0 rfl) rfl ?_
    refine LoadX.same (v := .slice (some ⟨b2, o2, none⟩) x.maps.length 0) (S.at_ 4 rfl) rfl ?_
    refine IdxX.mk (by omega) (by omega) ?_
    refine c2.mat S.le (show k < x.maps.length by omega) fun b8 o8 h8 => ?_
    refine LoadX.same (v := .slice (some ⟨b1, o1, none⟩) x.dims.length 0) (S.at_ 4 rfl) rfl ?_
    refine IdxX.mk (by omega) (by omega) ?_
    refine c1.ith S.le (show k < x.dims.length by omega) ?_
    refine S.madeL OII.fr (l01Flip_c _ _ (mat x.maps k) (ith x.dims k) (RII.le _ _ _ _ S.le h8) (by omega) (by omega) (by omega) (fun j hj => by have := (wmat_row wk.2 hj).1; omega)) fun b9 o9 g L S => ?_
    refine ⟨L, ?_⟩
    refine S.newL fun b10 g L S => ?_
    refine ⟨L, ?_⟩
    refine S.appT 1 rfl rfl (by omega) fun b11 g S => ?_
    refine S.put 0 rfl fun g S => ?_
    refine WR.i64 ?_
    refine ⟨x.maps.length - (i + 1), by omega, i + 1, b11, rfl, hlt, ?_, rfl⟩
    rw [dualMaps_succ]
    unfold dualMap
    rw [← hk]
    exact S
  have hi2 : i = x.maps.length := by simp at h2; omega
  subst hi2
  refine LoadX.same (v := .agg #[.slice (some ⟨b5, 0, none⟩) x.dims.length 1, .slice (some ⟨b6, 0, none⟩) x.maps.length 1]) (S.at_ 0 rfl) rfl ?_
  have S := S.rw_tr 1 rfl (by omega)
  refine S.put 3 rfl fun g S => ?_
  refine LoadX.same (v := .agg #[.slice (some ⟨b5, 0, none⟩) x.dims.length 1, .slice (some ⟨b6, 0, none⟩) x.maps.length 1]) (S.at_ 3 rfl) rfl ?_
  have S := (S.tail).front 1 rfl
  exact SepM.finWhole (ti := tI) (x := ⟨revI x.dims, dualMaps x x.maps.length⟩) S

theorem dualWI_c (h : AH) (v : Value) (x : SWhole) (hx : RWhole h v x) : ACalls Try.prog 17 [v] h (fun r h' => ∃ v l, r = .tuple #[v, .int .i64 (dualW x).2] ∧ OWhole h.length h' v (dualW x).1 l ∧ Le h h') := by
  obtain ⟨b1, o1, b2, o2, kx, qx⟩ := hx.can
  refine ACalls.wk (args' := [.agg #[.slice (some ⟨b1, o1, none⟩) x.dims.length 0, .slice (some ⟨b2, o2, none⟩) x.maps.length 0]]) ?_ (.cons kx .nil)
  refine ACalls.of Tt.tab Try.func17 rfl (by kernel_rfl) Try.ntmps17 _ rfl rfl (fun hw => ?_)
  have S := Sep.start h
  have c1 := RS.cells qx.1 rfl
  have c2 := RS.cells qx.2 rfl
  refine S.new fun b3 g S => ?_
  refine S.new fun b4 g S => ?_
  refine LoadX.same (v := .agg #[.slice (some ⟨b1, o1, none⟩) x.dims.length 0, .slice (some ⟨b2, o2, none⟩) x.maps.length 0]) (S.at_ 1 rfl) rfl ?_
  refine CallX.same (isWholeI_c _ _ x ⟨_, _, rfl, qx.le S.le⟩) ?_
  rintro r g' ⟨rfl, rfl⟩
  unfold dualW
  refine BIf.mk (fun e1 => ?_) (fun e1 => ?_)
  · have e1 : wholeOk x = false := by simpa using e1
    rw [e1]
    refine S.put 0 rfl fun g S => ?_
    refine LoadX.same (v := .agg #[.slice none 0 0, .slice none 0 0]) (S.at_ 0 rfl) rfl ?_
    exact FinX.here S.le.len ⟨_, [], rfl, OWhole.zero _ _, S.le⟩
  have e1 : wholeOk x = true := by simpa using e1
  rw [if_pos e1]
  obtain ⟨wh, ws⟩ := wholeOk_mk e1
  have hlo := wh.lo
  have hhi := wh.hi
  have hlen := wh.len
  refine LoadX.same (v := .slice (some ⟨b1, o1, none⟩) x.dims.length 0) (S.at_ 1 rfl) rfl ?_
  refine S.madeRp (cloneR_c _ _ x.dims (RI.le _ _ _ _ S.le qx.1) (by omega)) (by omega) fun b5 g L S => ?_
  refine S.new fun b7 g S => ?_
  refine S.put 0 rfl fun g S => ?_
  refine LoadX.same (v := .slice (some ⟨b5, 0, none⟩) x.dims.length 1) (S.at_ 0 rfl) rfl ?_
  refine S.chgR 1 (cells' := (revI x.dims).map (.int .i64)) rfl (by simp [revI, tab_length]) (fun hl => reverse_c _ b5 x.dims hl (by omega)) fun g S => ?_
  have S := S.rc_tr 1 rfl (by simp only [revI, tab_length]; omega)
  refine LoadX.same (v := .agg #[.slice (some ⟨b1, o1, none⟩) x.dims.length 0, .slice (some ⟨b2, o2, none⟩) x.maps.length 0]) (S.at_ 3 rfl) rfl ?_
  refine CallX.same (topW_c _ _ x ⟨_, _, rfl, qx.le S.le⟩) ?_
  rintro r g' ⟨rfl, rfl⟩
  rw [show (x.dims.length : Int) - 1 = x.maps.length by omega]
  have S := S.nilrw OII.fr 24
  refine ⟨⟨[1, 2, 3, 4, 23, 24], fun n' vs g => ∃ (i : Nat) (A : Option Addr) (c : Nat), n' = x.maps.length - i ∧ i ≤ x.maps.length ∧ Sep h.length h g [.rw OII.fr 24 h.length (.slice A i c) i (dualMaps x i), .bx b7 34 2 [.slice (some ⟨b5, 0, none⟩) x.dims.length 1, .slice A i c], .tr (Leaf.fr tI) h.length (.slice (some ⟨b5, 0, none⟩) x.dims.length 1) (revI x.dims), .bx b4 34 2 [.slice none 0 0, .slice none 0 0], .bx b3 34 2 [.slice (some ⟨b1, o1, none⟩) x.dims.length 0, .slice (some ⟨b2, o2, none⟩) x.maps.length 0]] ∧
    vs = [.pointer (some ⟨b3, 0, none⟩), .pointer (some ⟨b4, 0, none⟩), .int .i64 0, .pointer (some ⟨b7, 0, none⟩), .int .i64 x.maps.length, .int .i64 i], _, ⟨0, none, 0, rfl, Nat.zero_le _, S, rfl⟩, ?_⟩⟩
  rintro n' vs g ⟨i, A, c, rfl, hi, S, rfl⟩
  refine BIf.mk (fun h2 => ?_) (fun h2 => ?_)
  · have hlt : i < x.maps.length := by simpa using h2
    obtain ⟨k, hk⟩ : ∃ k : Nat, k = x.maps.length - 1 - i := ⟨_, rfl⟩
    have wk := ws k (by omega)
    have wd := wh.dims k
    have wd1 := wh.dims (k + 1)
    obtain ⟨mn, hmn⟩ : ∃ mn : Nat, ith x.dims k = mn := ⟨(ith x.dims k).toNat, by omega⟩
    refine S.new fun b8 g S => ?_
    have S := S.bx_rw 0 OI.fr rfl
    refine LoadX.same (v := .slice (some ⟨b5, 0, none⟩) x.dims.length 1) (S.at_ 2 rfl) rfl ?_
    refine WR.as (r := ((i + 1 : Nat) : Int)) (by omega) ?_
    refine IdxX.mk (by omega) (by omega) ?_
    have cd : CS EI g b5 0 (revI x.dims) := RS.cells1 (k := x.dims.length) (S.rd OI.reads 3 rfl) (by simp [revI, tab_length])
    refine cd.ith (Le.refl _) (show i + 1 < (revI x.dims).length by simp only [revI, tab_length]; omega) ?_
    have er : ith (revI x.dims) (i + 1) = mn := by
      unfold revI
      rw [tab_ith (by omega), show x.dims.length - 1 - (i + 1) = k by omega, hmn]
    rw [er]
    refine ⟨⟨[1, 2, 3, 4, 5, 6, 23, 24, 33, 34], fun n' vs g => ∃ (j b8 : Nat), n' = mn - j ∧ j ≤ mn ∧ Sep h.length h g [.rw OI.fr 26 h.length (.slice (some ⟨b8, 0, none⟩) j 1) j (colsN (mat x.maps k) j), .rw OII.fr 24 h.length (.slice A i c) i (dualMaps x i), .bx b7 34 2 [.slice (some ⟨b5, 0, none⟩) x.dims.length 1, .slice A i c], .tr (Leaf.fr tI) h.length (.slice (some ⟨b5, 0, none⟩) x.dims.length 1) (revI x.dims), .bx b4 34 2 [.slice none 0 0, .slice none 0 0], .bx b3 34 2 [.slice (some ⟨b1, o1, none⟩) x.dims.length 0, .slice (some ⟨b2, o2, none⟩) x.maps.length 0]] ∧
      vs = [.pointer (some ⟨b3, 0, none⟩), .pointer (some ⟨b4, 0, none⟩), .int .i64 0, .pointer (some ⟨b7, 0, none⟩), .int .i64 i, .slice (some ⟨b8, 0, none⟩) j 1, .int .i64 x.maps.length, .int .i64 i, .int .i64 mn, .int .i64 j], _, ⟨0, b8, rfl, Nat.zero_le _, S, rfl⟩, ?_⟩⟩
    rintro n' vs g ⟨j, b8, rfl, hj, S, rfl⟩
    refine BIf.mk (fun h3 => ?_) (fun h3 => ?_)
    · have h3 : j < mn := by simpa using h3
      refine S.new fun b9 g S => ?_
      have S := S.bx_rc 0 (k := 0) rfl rfl
      refine DrawX.of Tt.tab follows_any [] [] [0, 1, 2, 3, 4, 5, 6, 7, 8, 9, 10] rfl (by kernel_rfl) (by kernel_rfl) ?_
      refine LoadX.same (v := .slice (some ⟨b2, o2, none⟩) x.maps.length 0) (S.at_ 6 rfl) rfl ?_
      refine LoadX.same (v := .agg #[.slice (some ⟨b1, o1, none⟩) x.dims.length 0, .slice (some ⟨b2, o2, none⟩) x.maps.length 0]) (S.at_ 6 rfl) rfl ?_
      refine QCall.of (fun g2 hl => topW_c g2 _ x ⟨_, _, rfl, qx.le (S.le.trans hl)⟩) rfl ?_
      refine WR.i64 ?_
      refine WR.as (r := (k : Int)) (by omega) ?_
      refine IdxX.mk (by omega) (by omega) ?_
      refine c2.mat S.le (show k < x.maps.length by omega) fun b10 o10 h10 => ?_
      have c10 := h10.cells rfl
      refine ⟨⟨[1, 2, 3, 4, 5, 6, 7, 8, 23, 24, 33, 34, 46, 47, 48], fun n' vs g => ∃ (t b9 : Nat), n' = (mat x.maps k).length - t ∧ t ≤ (mat x.maps k).length ∧ Sep h.length h g [.rc 2 1 h.length (.slice (some ⟨b9, 0, none⟩) t 1) t ((tab t fun t => ent (mat x.maps k) t j).map (.int .i64)), .rw OI.fr 26 h.length (.slice (some ⟨b8, 0, none⟩) j 1) j (colsN (mat x.maps k) j), .rw OII.fr 24 h.length (.slice A i c) i (dualMaps x i), .bx b7 34 2 [.slice (some ⟨b5, 0, none⟩) x.dims.length 1, .slice A i c], .tr (Leaf.fr tI) h.length (.slice (some ⟨b5, 0, none⟩) x.dims.length 1) (revI x.dims), .bx b4 34 2 [.slice none 0 0, .slice none 0 0], .bx b3 34 2 [.slice (some ⟨b1, o1, none⟩) x.dims.length 0, .slice (some ⟨b2, o2, none⟩) x.maps.length 0]] ∧
        vs = [.pointer (some ⟨b3, 0, none⟩), .pointer (some ⟨b4, 0, none⟩), .int .i64 0, .pointer (some ⟨b7, 0, none⟩), .int .i64 i, .slice (some ⟨b8, 0, none⟩) j 1, .int .i64 j, .slice (some ⟨b9, 0, none⟩) t 1, .int .i64 x.maps.length, .int .i64 i, .int .i64 mn, .int .i64 j, .slice (some ⟨b10, o10, none⟩) (mat x.maps k).length 0, .int .i64 (mat x.maps k).length, .int .i64 t], _, ⟨0, b9, rfl, Nat.zero_le _, S, rfl⟩, ?_⟩⟩
      rintro n' vs g ⟨t, b9, rfl, ht, S, rfl⟩
      refine BIf.mk (fun h4 => ?_) (fun h4 => ?_)
      · have h4 : t < (mat x.maps k).length := by simpa using h4
        have hwt := (wmat_row wk.2 h4).1
        refine IdxX.mk (by omega) (by omega) ?_
        refine c10.row S.le h4 fun b11 o11 c11 => ?_
        refine IdxX.mk (by omega) (by omega) ?_
        refine c11.ith S.le (show j < (row (mat x.maps k) t).length by omega) ?_
        refine S.new fun b12 g S => ?_
        refine S.app 0 rfl rfl rfl (by omega) fun b13 g S => ?_
        refine WR.i64 ?_
        exact ⟨(mat x.maps k).length - (t + 1), by omega, t + 1, b13, rfl, h4, by rw [tab_succ, List.map_append]; exact S, rfl⟩
      · have ht2 : t = (mat x.maps k).length := by simp at h4; omega
        subst ht2
        have S := S.rc_tr 0 rfl (by rw [tab_length]; omega)
        refine S.new fun b12 g S => ?_
        refine S.appT 0 rfl rfl (by omega) fun b13 g S => ?_
        refine WR.i64 ?_
        exact ⟨mn - (j + 1), by omega, j + 1, b13, rfl, h3, by unfold colsN; rw [tabR_succ]; exact S, rfl⟩
    · have hj2 : j = mn := by simp at h3; omega
      subst hj2
      refine LoadX.same (v := .slice A i c) (S.at_ 2 rfl) rfl ?_
      have S := S.rw_tr 0 rfl (by omega)
      refine S.new fun b12 g S => ?_
      refine S.appT 0 rfl rfl (by omega) fun b13 g S => ?_
      refine S.put 1 rfl fun g S => ?_
      refine WR.i64 ?_
      refine ⟨x.maps.length - (i + 1), by omega, i + 1, some ⟨b13, 0, none⟩, 1, rfl, hlt, ?_, rfl⟩
      rw [dualMaps_succ]
      unfold dualMap
      rw [← hk, hmn, Int.toNat_natCast]
      exact S
  have hi2 : i = x.maps.length := by simp at h2; omega
  subst hi2
  refine LoadX.same (v := .agg #[.slice (some ⟨b5, 0, none⟩) x.dims.length 1, .slice A x.maps.length c]) (S.at_ 1 rfl) rfl ?_
  have S := S.rw_tr 0 rfl (by omega)
  refine S.put 3 rfl fun g S => ?_
  refine LoadX.same (v := .agg #[.slice (some ⟨b5, 0, none⟩) x.dims.length 1, .slice A x.maps.length c]) (S.at_ 3 rfl) rfl ?_
  have S := (S.drop 1).front 1 rfl
  exact SepM.finWhole (ti := tI) (x := ⟨revI x.dims, dualMaps x x.maps.length⟩) S

end Go.Gl

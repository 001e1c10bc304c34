/- The law's own helpers over the view: comparing, copying, counting, marking. No condition. -/
import Derived.Test.YtionapmdibdfpaaGlK
set_option linter.unusedVariables false
namespace Go.Gl
open Go.Proofs Go.Proofs.Ytionapmdibdfpaa

theorem follows_any : Try.prog.follows .mixedOrders = true := by kernel_rfl


theorem eqI_c (h : AH) (v w : Value) (xs ys : List Int) (hx : RI h v xs) (hy : RI h w ys) : ACalls Try.prog 25 [v, w] h (fun r h' => r = .bool (decide (xs = ys)) ∧ h' = h) := by
  obtain ⟨hm, b, o, hw1, hc⟩ := hx
  obtain ⟨hm2, b2, o2, hw2, hc2⟩ := hy
  refine ACalls.wk (args' := [.slice (some ⟨b, o, none⟩) xs.length 0, .slice (some ⟨b2, o2, none⟩) ys.length 0]) ?_ (.cons hw1 (.cons hw2 .nil))
  refine ACalls.of Tt.tab Try.func25 rfl (by kernel_rfl) Try.ntmps25 _ rfl rfl (fun hw => ?_)
  refine BIf.mk (fun h1 => ?_) (fun h1 => ?_)
  · refine FinX.keep hw (Le.refl _) rfl ⟨?_, rfl⟩
    have : xs ≠ ys := fun e => by subst e; simp at h1
    simp [this]
  · have hlen : xs.length = ys.length := by simp at h1; omega
    refine ⟨⟨[0, 1, 5], fun n vs h' => ∃ k : Nat, n = xs.length - k ∧ k ≤ xs.length ∧ h' = h ∧ xs.take k = ys.take k ∧ vs = [.slice (some ⟨b, o, none⟩) xs.length 0, .slice (some ⟨b2, o2, none⟩) ys.length 0, .int .i64 k], _, ⟨0, rfl, Nat.zero_le _, rfl, rfl, rfl⟩, ?_⟩⟩
    rintro n vs h' ⟨k, rfl, hk, rfl, ht, rfl⟩
    refine BIf.mk (fun h2 => ?_) (fun h2 => ?_)
    · have hlt : k < xs.length := by simpa using h2
      refine DrawX.of Tt.tab follows_any [] [] [0, 1, 2, 3, 4, 5, 6, 7, 8] rfl (by kernel_rfl) (by kernel_rfl) ?_
      refine IdxX.mk (by omega) (by omega) ?_
      refine hc.loadI rfl hlt ?_
      refine IdxX.mk (by omega) (by omega) ?_
      refine hc2.loadI rfl (by omega : k < ys.length) ?_
      refine BIf.mk (fun h3 => ?_) (fun h3 => ?_)
      · refine FinX.keep hw (Le.refl _) rfl ⟨?_, rfl⟩
        have : xs ≠ ys := fun e => by subst e; simp at h3
        simp [this]
      · refine WR.i64 ?_
        refine ⟨xs.length - (k + 1), by omega, k + 1, rfl, hlt, rfl, ?_, rfl⟩
        rw [List.take_succ_eq_append_getElem hlt, List.take_succ_eq_append_getElem (by omega), ht]
        simp at h3
        rw [h3]
    · refine FinX.keep hw (Le.refl _) rfl ⟨?_, rfl⟩
      have hk2 : k = xs.length := by simp at h2; omega
      subst hk2
      rw [List.take_of_length_le (by omega), List.take_of_length_le (by omega)] at ht
      simp [ht]


/-- the type int64 -/
abbrev tI : TypeId := 2
abbrev OI : Tr (List Int) := Leaf tI
abbrev OII : Tr (List (List Int)) := Node 27 OI
abbrev OIII : Tr (List (List (List Int))) := Node 22 OII
abbrev OIIII : Tr (List (List (List (List Int)))) := Node 28 OIII
abbrev sI : List TypeId := []
abbrev sII : List TypeId := [27]
abbrev sIII : List TypeId := [22, 27]
abbrev sIIII : List TypeId := [28, 22, 27]
theorem OI.fr : Fr tI sI OI := Leaf.fr tI
theorem OII.fr : Fr tI sII OII := Node.fr _ OI.fr
theorem OIII.fr : Fr tI sIII OIII := Node.fr _ OII.fr
theorem OIIII.fr : Fr tI sIIII OIIII := Node.fr _ OIII.fr
theorem OI.reads : ∀ n h v x l, OI n h v x l → RI h v x := fun _ _ _ _ _ h => Leaf.reads h
theorem OII.reads : ∀ n h v x l, OII n h v x l → RII h v x := fun _ _ _ _ _ h => Node.reads OI.reads h
theorem OIII.reads : ∀ n h v x l, OIII n h v x l → RIII h v x := fun _ _ _ _ _ h => Node.reads OII.reads h
theorem OIIII.reads : ∀ n h v x l, OIIII n h v x l → RIIII h v x := fun _ _ _ _ _ h => Node.reads OIII.reads h
abbrev numII := numL numI cnI
abbrev cnII : List (List Int) → Nat := cnL cnI
abbrev numIII := numL numII cnII
abbrev cnIII : List (List (List Int)) → Nat := cnL cnII
abbrev numIIII := numL numIII cnIII
abbrev cnIIII : List (List (List (List Int))) → Nat := cnL cnIII
abbrev ctII : List (List Int) → Nat := ctL ctI
abbrev ctIII : List (List (List Int)) → Nat := ctL ctII
abbrev ctIIII : List (List (List (List Int))) → Nat := ctL ctIII

theorem cnI_le (x : List Int) : cnI x ≤ ctI x := Nat.le_refl _
theorem cnII_le (x : List (List Int)) : cnII x ≤ ctII x := cnL_le_ctL cnI_le x
theorem cnIII_le (x : List (List (List Int))) : cnIII x ≤ ctIII x := cnL_le_ctL cnII_le x
theorem cnIIII_le (x : List (List (List (List Int)))) : cnIIII x ≤ ctIIII x := cnL_le_ctL cnIII_le x

theorem szI_c (h : AH) (v : Value) (xs : List Int) (left : Int) (hx : RI h v xs) (h0 : 0 ≤ left) (h1 : left ≤ 1048576) : ACalls Try.prog 38 [v, .int .i64 left] h (fun r h' => r = .int .i64 (if (ctI xs : Int) ≤ left then left - ctI xs else -1) ∧ h' = h) := by
  obtain ⟨hm, b, o, hw1, hc⟩ := hx
  refine ACalls.wk (args' := [.slice (some ⟨b, o, none⟩) xs.length 0, .int .i64 left]) ?_ (.cons hw1 (.cons (Wk.refl _) .nil))
  unfold ctI
  refine ACalls.of Tt.tab Try.func38 rfl (by kernel_rfl) Try.ntmps38 _ rfl rfl (fun hw => ?_)
  refine WR.i64 ?_
  refine BIf.mk (fun h2 => ?_) (fun h2 => ?_)
  · simp at h2
    refine FinX.keep hw (Le.refl _) rfl ⟨?_, rfl⟩
    rw [if_neg (by omega)]
  · simp at h2
    refine FinX.keep hw (Le.refl _) rfl ⟨?_, rfl⟩
    rw [if_pos (by omega)]


theorem toI_c (h : AH) (v : Value) (xs : List Int) (hx : RI h v xs) (hl : ctI xs ≤ 1048576) : ACalls Try.prog 45 [v] h (fun r h' => ∃ b l, r = .slice (some ⟨b, 0, none⟩) xs.length 1 ∧ OI h.length h' r xs l ∧ Le h h') := by
  obtain ⟨hm, b, o, hw1, hc⟩ := hx
  refine ACalls.wk (args' := [.slice (some ⟨b, o, none⟩) xs.length 0]) ?_ (.cons hw1 .nil)
  unfold ctI at hl
  refine ACalls.of Tt.tab Try.func45 rfl (by kernel_rfl) Try.ntmps45 _ rfl rfl (fun hw => ?_)
  refine ⟨by omega, rfl, by omega, by show (xs.length : Int) * 8 ≤ _; omega, NewX.intro fun bo h1 hle hlk hbo => ?_⟩
  refine ⟨⟨[0, 3, 4], fun n vs h' => ∃ k : Nat, n = xs.length - k ∧ k ≤ xs.length ∧ Le h h' ∧ look h' bo = some ⟨(xs.take k).map (Value.int .i64) ++ List.replicate (xs.length - k) (.int .i64 0), some (tI, 1)⟩ ∧ vs = [.slice (some ⟨b, o, none⟩) xs.length 0, .slice (some ⟨bo, 0, none⟩) xs.length 1, .int .i64 k], _, ⟨0, rfl, Nat.zero_le _, hle, ?_, rfl⟩, ?_⟩⟩
  · rw [hlk]
    have : (List.replicate xs.length [Value.int .i64 0]).flatten = (xs.take 0).map (Value.int .i64) ++ List.replicate (xs.length - 0) (.int .i64 0) := by simp [List.flatten_replicate_singleton]
    exact congrArg (fun c => some (Blk.mk c (some (tI, 1)))) this
  · rintro n vs h' ⟨k, rfl, hk, hle, hlk, rfl⟩
    refine BIf.mk (fun h2 => ?_) (fun h2 => ?_)
    · have hlt : k < xs.length := by simpa using h2
      refine IdxX.mk (by omega) (by omega) ?_
      refine (hc.le EI.le hle).loadI rfl hlt ?_
      refine IdxX.mk (by omega) (by omega) ?_
      refine ⟨⟨_, hlk, rfl, ?_, fun h2 e2 => ?_⟩⟩
      · show 0 + k + 1 ≤ _
        simp; omega
      · have hb := look_lt hlk
        refine WR.i64 ?_
        refine ⟨xs.length - (k + 1), by omega, k + 1, rfl, hlt, ?_, ?_, rfl⟩
        · rw [e2]; exact hle.store hbo
        · rw [e2, look_set hb, if_pos rfl]
          have hsc := setCells_fill (Value.int .i64) (.int .i64 0) xs k hlt
          simp only [Nat.zero_add]
          exact congrArg (fun c => some (Blk.mk c (some (tI, 1)))) hsc
    · have hk2 : k = xs.length := by simp at h2; omega
      subst hk2
      refine FinX.here hle.len ⟨bo, [bo], rfl, ⟨by omega, .inr ⟨bo, 0, _, Wk.weak _ _ _ _, hbo, rfl, hlk, rfl, by simp, fun k x hk => ?_⟩⟩, hle⟩
      simp [hk]


theorem markI_c (n : Nat) (h : AH) (v : Value) (xs : List Int) (l : List Nat) (k : Int) (hx : OI n h v xs l) (h0 : 0 ≤ k) (hm : k + cnI xs ≤ 9223372036854775807) : ACalls Try.prog 31 [v, .int .i64 k] h (fun r h' => r = .int .i64 (k + cnI xs) ∧ Mk h h' l ∧ OI n h' v (numI k xs) l) := by
  unfold cnI at hm ⊢
  obtain ⟨hlen, ⟨rfl, rfl, hw1⟩ | ⟨b, o, blk, hw1, hn, rfl, hb, hown, hsz, hcs⟩⟩ := hx
  · refine ACalls.wk (args' := [.slice (some ⟨0, 0, none⟩) 0 0, .int .i64 k]) ?_ (.cons hw1 (.cons (Wk.refl _) .nil))
    refine ACalls.of Tt.tab Try.func31 rfl (by kernel_rfl) Try.ntmps31 _ rfl rfl (fun hw => ?_)
    refine ⟨⟨[0, 1, 5], fun n vs h' => n = 0 ∧ h' = h ∧ vs = [.slice (some ⟨0, 0, none⟩) 0 0, .int .i64 k, .int .i64 0], _, ⟨rfl, rfl, rfl⟩, ?_⟩⟩
    rintro n vs h' ⟨rfl, rfl, rfl⟩
    refine BIf.no rfl ?_
    exact FinX.here (Nat.le_refl _) ⟨by simp, Mk.refl _ _, by simp [numI], .inl ⟨by simp [numI], rfl, hw1⟩⟩
  · refine ACalls.wk (args' := [.slice (some ⟨b, o, none⟩) xs.length 0, .int .i64 k]) ?_ (.cons hw1 (.cons (Wk.refl _) .nil))
    refine ACalls.of Tt.tab Try.func31 rfl (by kernel_rfl) Try.ntmps31 _ rfl rfl (fun hw => ?_)
    refine ⟨⟨[0, 1, 5], fun n vs h' => ∃ j : Nat, n = xs.length - j ∧ j ≤ xs.length ∧ (∃ cs : List Value, look h' b = some ⟨cs, some (tI, 1)⟩ ∧ cs.length = blk.cells.length ∧ ∀ (i : Nat), i < j → cs[o + i]? = some (.int .i64 (k + i))) ∧ Mk h h' [b] ∧ vs = [.slice (some ⟨b, o, none⟩) xs.length 0, .int .i64 (k + j), .int .i64 j], _, ⟨0, rfl, Nat.zero_le _, ⟨blk.cells, by rw [hb, ← hown], rfl, fun i hi => by omega⟩, Mk.refl _ _, by simp; rfl⟩, ?_⟩⟩
    rintro n vs h' ⟨j, rfl, hj, ⟨cs, hb', hcl, hcs'⟩, hmk, rfl⟩
    refine BIf.mk (fun h2 => ?_) (fun h2 => ?_)
    · have hlt : j < xs.length := by simpa using h2
      refine IdxX.mk (by omega) (by omega) ?_
      have hoj : o + j + 1 ≤ cs.length := by omega
      refine ⟨⟨_, hb', rfl, hoj, fun h3 (e3 : h3 = h'.set b (some ⟨setCells cs (o + j) [.int .i64 (k + j)], some (tI, 1)⟩)) => ?_⟩⟩
      have hbl := look_lt hb'
      refine WR.i64 ?_
      refine WR.i64 ?_
      refine ⟨xs.length - (j + 1), by omega, j + 1, rfl, hlt, ⟨_, by rw [e3, look_set hbl, if_pos rfl], by rw [setCells_length _ _ _ hoj]; exact hcl, fun i hi => ?_⟩, hmk.trans (l := [b]) (m := [b]) ⟨by rw [e3]; simp, fun i bb hi e => by rw [e3, look_set hbl, if_neg (by simpa using hi)]; exact e, fun i bb hi => ?_⟩ (fun _ h => h) (fun _ h => h), ?_⟩
      · rw [setCells_get _ _ _ hoj]
        by_cases hij : i = j
        · subst hij
          rw [if_pos (by simp)]
          simp
        · rw [if_neg (by simp; omega)]
          exact hcs' i (by omega)
      · rw [e3, look_set hbl]
        by_cases hib : i = b
        · subst hib
          rw [if_pos rfl]
          rw [hb'] at hi
          injection hi with hi
          exact ⟨_, rfl, by rw [← hi]⟩
        · rw [if_neg hib]
          exact ⟨_, hi, rfl⟩
      · simp [Int.add_assoc]; rfl
    · have hk2 : j = xs.length := by simp at h2; omega
      subst hk2
      refine FinX.here hmk.len ⟨rfl, hmk, by rw [numI_length]; exact hlen, .inr ⟨b, o, _, by rw [numI_length]; exact hw1, hn, rfl, hb', rfl, by rw [numI_length, hcl]; exact hsz, fun i x hi => ?_⟩⟩
      have hil := (List.getElem?_eq_some_iff.1 hi).1
      rw [List.getElem?_eq_getElem hil, numI_getElem] at hi
      injection hi with hi
      subst hi
      exact hcs' i (by rw [numI_length] at hil; exact hil)


theorem heldI_c (h : AH) (v : Value) (xs : List Int) (k : Int) (hx : RI h v (numI k xs)) (h0 : 0 ≤ k) (hm : k + cnI xs ≤ 9223372036854775807) : ACalls Try.prog 33 [v, .int .i64 k] h (fun r h' => r = .int .i64 (k + cnI xs) ∧ h' = h) := by
  unfold cnI at hm ⊢
  have hl := numI_length k xs
  obtain ⟨hlen, b, o, hw1, hc⟩ := hx
  refine ACalls.wk (args' := [.slice (some ⟨b, o, none⟩) (numI k xs).length 0, .int .i64 k]) ?_ (.cons hw1 (.cons (Wk.refl _) .nil))
  rw [hl]
  refine ACalls.of Tt.tab Try.func33 rfl (by kernel_rfl) Try.ntmps33 _ rfl rfl (fun hw => ?_)
  refine ⟨⟨[0, 1, 5], fun n vs h' => ∃ j : Nat, n = xs.length - j ∧ j ≤ xs.length ∧ h' = h ∧ vs = [.slice (some ⟨b, o, none⟩) xs.length 0, .int .i64 (k + j), .int .i64 j], _, ⟨0, rfl, Nat.zero_le _, rfl, by simp; rfl⟩, ?_⟩⟩
  rintro n vs h' ⟨j, rfl, hj, rfl, rfl⟩
  refine BIf.mk (fun h2 => ?_) (fun h2 => ?_)
  · have hlt : j < xs.length := by simpa using h2
    refine IdxX.mk (by omega) (by omega) ?_
    refine hc.loadI rfl (by omega : j < (numI k xs).length) ?_
    rw [numI_getElem]
    refine BIf.no (by simp) ?_
    refine WR.i64 ?_
    refine WR.i64 ?_
    refine ⟨xs.length - (j + 1), by omega, j + 1, rfl, hlt, rfl, ?_⟩
    simp [Int.add_assoc]; rfl
  · refine FinX.keep hw (Le.refl _) rfl ⟨?_, rfl⟩
    have hk2 : j = xs.length := by simp at h2; omega
    rw [hk2]


theorem eqII_c (h : AH) (v w : Value) (xs ys : List (List Int)) (hx : RII h v xs) (hy : RII h w ys) : ACalls Try.prog 27 [v, w] h (fun r h' => r = .bool (decide (xs = ys)) ∧ h' = h) := by
  obtain ⟨hm, b, o, hw1, hc⟩ := hx
  obtain ⟨hm2, b2, o2, hw2, hc2⟩ := hy
  refine ACalls.wk (args' := [.slice (some ⟨b, o, none⟩) xs.length 0, .slice (some ⟨b2, o2, none⟩) ys.length 0]) ?_ (.cons hw1 (.cons hw2 .nil))
  refine ACalls.of Tt.tab Try.func27 rfl (by kernel_rfl) Try.ntmps27 _ rfl rfl (fun hw => ?_)
  refine BIf.mk (fun h1 => ?_) (fun h1 => ?_)
  · refine FinX.keep hw (Le.refl _) rfl ⟨?_, rfl⟩
    have : xs ≠ ys := fun e => by subst e; simp at h1
    simp [this]
  · have hlen : xs.length = ys.length := by simp at h1; omega
    refine ⟨⟨[0, 1, 5], fun n vs h' => ∃ k : Nat, n = xs.length - k ∧ k ≤ xs.length ∧ h' = h ∧ xs.take k = ys.take k ∧ vs = [.slice (some ⟨b, o, none⟩) xs.length 0, .slice (some ⟨b2, o2, none⟩) ys.length 0, .int .i64 k], _, ⟨0, rfl, Nat.zero_le _, rfl, rfl, rfl⟩, ?_⟩⟩
    rintro n vs h' ⟨k, rfl, hk, rfl, ht, rfl⟩
    refine BIf.mk (fun h2 => ?_) (fun h2 => ?_)
    · have hlt : k < xs.length := by simpa using h2
      refine DrawX.of Tt.tab follows_any [] [] [0, 1, 2, 3, 4, 5, 6, 7, 8, 9] rfl (by kernel_rfl) (by kernel_rfl) ?_
      refine IdxX.mk (by omega) (by omega) ?_
      refine hc.loadY rfl hlt rfl fun bu1 ou1 hu1 => ?_
      refine IdxX.mk (by omega) (by omega) ?_
      refine hc2.loadY rfl (by omega : k < ys.length) rfl fun bu2 ou2 hu2 => ?_
      refine QCall.of (fun h2 hl => eqI_c h2 _ _ _ _ (RI.le _ _ _ _ hl hu1) (RI.le _ _ _ _ hl hu2)) rfl ?_
      refine BIf.mk (fun h3 => ?_) (fun h3 => ?_)
      · refine FinX.keep hw (Le.refl _) rfl ⟨?_, rfl⟩
        have : xs ≠ ys := fun e => by subst e; simp at h3
        simp [this]
      · refine WR.i64 ?_
        refine ⟨xs.length - (k + 1), by omega, k + 1, rfl, hlt, rfl, ?_, rfl⟩
        rw [List.take_succ_eq_append_getElem hlt, List.take_succ_eq_append_getElem (by omega), ht]
        simp at h3
        rw [h3]
    · refine FinX.keep hw (Le.refl _) rfl ⟨?_, rfl⟩
      have hk2 : k = xs.length := by simp at h2; omega
      subst hk2
      rw [List.take_of_length_le (by omega), List.take_of_length_le (by omega)] at ht
      simp [ht]


theorem szII_c (h : AH) (v : Value) (xs : List (List Int)) (left : Int) (hx : RII h v xs) (h0 : 0 ≤ left) (h1 : left ≤ 1048576) : ACalls Try.prog 19 [v, .int .i64 left] h (fun r h' => r = .int .i64 (if (ctII xs : Int) ≤ left then left - ctII xs else -1) ∧ h' = h) := by
  obtain ⟨hm, b, o, hw1, hc⟩ := hx
  refine ACalls.wk (args' := [.slice (some ⟨b, o, none⟩) xs.length 0, .int .i64 left]) ?_ (.cons hw1 (.cons (Wk.refl _) .nil))
  have hct : ctII xs = xs.length + cnL ctI xs := rfl
  refine ACalls.of Tt.tab Try.func19 rfl (by kernel_rfl) Try.ntmps19 _ rfl rfl (fun hw => ?_)
  refine WR.i64 ?_
  refine BIf.mk (fun h2 => ?_) (fun h2 => ?_)
  · simp at h2
    refine FinX.keep hw (Le.refl _) rfl ⟨?_, rfl⟩
    rw [if_neg (by omega)]
  · simp at h2
    refine ⟨⟨[0, 1, 5], fun n vs h' => ∃ (k : Nat) (z : Int), n = xs.length - k ∧ k ≤ xs.length ∧ h' = h ∧ 0 ≤ z ∧ z = left - xs.length - cnL ctI (xs.take k) ∧ vs = [.slice (some ⟨b, o, none⟩) xs.length 0, .int .i64 z, .int .i64 k], _, ⟨0, _, rfl, Nat.zero_le _, rfl, by omega, by rw [cnL_zero]; omega, rfl⟩, ?_⟩⟩
    rintro n vs h' ⟨k, z, rfl, hk, rfl, h0z, hz, rfl⟩
    refine BIf.mk (fun h3 => ?_) (fun h3 => ?_)
    · have hlt : k < xs.length := by simpa using h3
      have hst := cnL_take ctI xs k hlt
      have hle := cnL_take_le ctI xs (k + 1)
      refine IdxX.mk (by omega) (by omega) ?_
      refine hc.loadY rfl hlt rfl fun bu1 ou1 hu1 => ?_
      refine CallX.same (szI_c _ _ xs[k] _ hu1 (by omega) (by omega)) ?_
      rintro r h2 ⟨rfl, rfl⟩
      by_cases hfit : (ctI xs[k] : Int) ≤ z
      · rw [if_pos hfit]
        refine BIf.no (by simp; omega) ?_
        refine WR.i64 ?_
        exact ⟨xs.length - (k + 1), by omega, k + 1, _, rfl, hlt, rfl, by omega, by omega, rfl⟩
      · rw [if_neg hfit]
        refine BIf.yes rfl ?_
        refine FinX.keep hw (Le.refl _) rfl ⟨?_, rfl⟩
        rw [if_neg (by omega)]
    · have hk2 : k = xs.length := by simp at h3; omega
      subst hk2
      rw [cnL_all] at hz
      refine FinX.keep hw (Le.refl _) rfl ⟨?_, rfl⟩
      rw [if_pos (by omega)]
      exact congrArg _ (by omega)


theorem toII_c (h : AH) (v : Value) (xs : List (List Int)) (hx : RII h v xs) (hl : ctII xs ≤ 1048576) : ACalls Try.prog 23 [v] h (fun r h' => ∃ b l, r = .slice (some ⟨b, 0, none⟩) xs.length 1 ∧ OII h.length h' r xs l ∧ Le h h') := by
  obtain ⟨hm, b, o, hw1, hc⟩ := hx
  refine ACalls.wk (args' := [.slice (some ⟨b, o, none⟩) xs.length 0]) ?_ (.cons hw1 .nil)
  have hct : ctII xs = xs.length + cnL ctI xs := rfl
  refine ACalls.of Tt.tab Try.func23 rfl (by kernel_rfl) Try.ntmps23 _ rfl rfl (fun hw => ?_)
  refine ⟨by omega, rfl, by omega, by show (xs.length : Int) * 24 ≤ _; omega, NewX.intro fun bo h1 hle hlk hbo => ?_⟩
  refine ⟨⟨[0, 3, 4], fun n vs h' => ∃ (k : Nat) (us : List Value) (ls : List (List Nat)), n = xs.length - k ∧ k ≤ xs.length ∧ Le h h' ∧ look h' bo = some ⟨us ++ List.replicate (xs.length - k) (.slice none 0 0), some (27, 1)⟩ ∧ Row OI h.length h' us (xs.take k) ls ∧ vs = [.slice (some ⟨b, o, none⟩) xs.length 0, .slice (some ⟨bo, 0, none⟩) xs.length 1, .int .i64 k], _, ⟨0, [], [], rfl, Nat.zero_le _, hle, ?_, Row.nil _ _ _, rfl⟩, ?_⟩⟩
  · rw [hlk]
    have : (List.replicate xs.length [Value.slice none 0 0]).flatten = [] ++ List.replicate (xs.length - 0) (.slice none 0 0) := by simp [List.flatten_replicate_singleton]
    exact congrArg (fun c => some (Blk.mk c (some (27, 1)))) this
  · rintro n vs h' ⟨k, us, ls, rfl, hk, hle, hlk, hrow, rfl⟩
    have hlu : us.length = k := by rw [hrow.lu]; simp; omega
    refine BIf.mk (fun h2 => ?_) (fun h2 => ?_)
    · have hlt : k < xs.length := by simpa using h2
      have hgt := cnL_get ctI xs k hlt
      refine IdxX.mk (by omega) (by omega) ?_
      refine (hc.le RI.le hle).loadY rfl hlt rfl fun bu1 ou1 hu1 => ?_
      refine CallX.same (toI_c _ _ xs[k] hu1 (by omega)) ?_
      rintro r h2 ⟨b4, l4, rfl, ho4, hle4⟩
      refine IdxX.mk (by omega) (by omega) ?_
      have hlk2 := hle4.at_ _ _ hlk
      refine ⟨⟨_, hlk2, rfl, ?_, fun h3 (e3 : h3 = h2.set bo (some ⟨setCells (us ++ List.replicate (xs.length - k) (.slice none 0 0)) (0 + k) [.slice (some ⟨b4, 0, none⟩) xs[k].length 1], some (27, 1)⟩)) => ?_⟩⟩
      · show 0 + k + 1 ≤ _
        simp; omega
      · have hbl := look_lt hlk2
        rw [Nat.zero_add, setCells_next _ _ _ _ _ hlu (by omega)] at e3
        subst e3
        refine WR.i64 ?_
        refine ⟨xs.length - (k + 1), by omega, k + 1, us ++ [.slice (some ⟨b4, 0, none⟩) xs[k].length 1], ls ++ [l4], rfl, hlt, ?_, ?_, ?_, rfl⟩
        · exact (hle.trans hle4).store hbo
        · rw [look_set hbl, if_pos rfl]; rfl
        · rw [List.take_succ_eq_append_getElem hlt]
          exact (hrow.push OI.fr hle4 hle.len ho4).set OI.fr hlk2 rfl rfl
    · have hk2 : k = xs.length := by simp at h2; omega
      subst hk2
      rw [List.take_length] at hrow
      refine FinX.here hle.len ⟨bo, ls.flatten, rfl, hrow.node hlk hbo (fun i u hi => ?_) (by omega) 1, hle⟩
      simp [hi]


theorem markII_c (n : Nat) (h : AH) (v : Value) (xs : List (List Int)) (l : List Nat) (k : Int) (hx : OII n h v xs l) (h0 : 0 ≤ k) (hm : k + cnII xs ≤ 9223372036854775807) : ACalls Try.prog 29 [v, .int .i64 k] h (fun r h' => r = .int .i64 (k + cnII xs) ∧ Mk h h' l ∧ OII n h' v (numII k xs) l) := by
  obtain ⟨hlen, b, o, us, ls, hw1, hrow, rfl, hbk⟩ := hx
  refine ACalls.wk (args' := [.slice (some ⟨b, o, none⟩) xs.length 0, .int .i64 k]) ?_ (.cons hw1 (.cons (Wk.refl _) .nil))
  have hnl : (numII k xs).length = xs.length := numL_length _ _ _ _
  refine ACalls.of Tt.tab Try.func29 rfl (by kernel_rfl) Try.ntmps29 _ rfl rfl (fun hw => ?_)
  refine ⟨⟨[0, 1, 5], fun n' vs h' => ∃ (j : Nat) (z : Int), n' = xs.length - j ∧ j ≤ xs.length ∧ Mk h h' ls.flatten ∧ Row OI n h' us ((numII k xs).take j ++ xs.drop j) ls ∧ z = k + cnL cnI (xs.take j) ∧ vs = [.slice (some ⟨b, o, none⟩) xs.length 0, .int .i64 z, .int .i64 j], _, ⟨0, _, rfl, Nat.zero_le _, Mk.refl _ _, by rw [List.take_zero, List.drop_zero]; exact hrow, by rw [cnL_zero]; omega, rfl⟩, ?_⟩⟩
  rintro n' vs h' ⟨j, z, rfl, hj, hmk, hr, hz, rfl⟩
  have hkeep : xs ≠ [] → n ≤ b ∧ ∃ blk, look h' b = some blk ∧ blk.own = some (27, 1) ∧ ∀ (k : Nat) u, us[k]? = some u → blk.cells[o + k]? = some u := by
    intro hne
    rcases hbk with hbk | ⟨h1, blk, h2, h3, h4⟩
    · exact absurd hbk hne
    · refine ⟨h1, blk, ?_, h3, h4⟩
      refine hmk.out b blk ?_ h2
      · intro hb
        obtain ⟨_, blk', s, h5, h6⟩ := hrow.leaf OI.fr b hb
        rw [h2] at h5
        injection h5 with h5
        subst h5
        rw [h3] at h6
        simp at h6
        exact absurd h6.1 (by decide)
  refine BIf.mk (fun h2 => ?_) (fun h2 => ?_)
  · have hlt : j < xs.length := by simpa using h2
    have hst := cnL_take cnI xs j hlt
    have hle := cnL_take_le cnI xs (j + 1)
    have hm2 : k + cnL cnI xs ≤ 9223372036854775807 := hm
    obtain ⟨hnb, blk, hb, hown, hcs⟩ := hkeep (by rintro rfl; simp at hlt)
    have hlu := hr.lu; have hll := hr.ll
    simp only [List.length_append, List.length_take, List.length_drop, hnl] at hlu hll
    have hu : us[j]? = some us[j] := List.getElem?_eq_getElem (by omega)
    have hlj : ls[j]? = some ls[j] := List.getElem?_eq_getElem (by omega)
    have hel : ((numII k xs).take j ++ xs.drop j)[j]? = some xs[j] := by
      rw [List.getElem?_append_right (by rw [List.length_take]; omega), List.getElem?_drop]
      rw [show j + (j - ((numII k xs).take j).length) = j by rw [List.length_take]; omega]
      exact List.getElem?_eq_getElem hlt
    have he := hr.el j _ _ _ hu hel hlj
    refine IdxX.mk (by omega) (by omega) ?_
    obtain ⟨b4, o4, hw4, he4⟩ := Leaf.can he
    refine LoadX.one hb (show ldv _ _ _ = some us[j] from hcs j _ hu) hw4 ?_
    refine CallX.same (markI_c n _ _ _ _ _ he4 (by omega) (by omega)) ?_
    rintro r h3 ⟨rfl, hmk3, he3⟩
    refine WR.i64 ?_
    refine ⟨xs.length - (j + 1), by omega, j + 1, _, rfl, hlt, hmk.trans hmk3 (fun _ h => h) (fun i hi => List.mem_flatten.2 ⟨_, List.mem_of_getElem? hlj, hi⟩), ?_, by omega, rfl⟩
    · have hup := hr.upd OI.fr rfl hlj hmk3 (x' := (numII k xs)[j]'(by omega)) (fun u hu' => ?_)
      · rw [half_set _ _ hnl j hlt] at hup
        exact hup
      · rw [hu] at hu'
        injection hu' with hu'
        subst hu'
        rw [numL_getElem, ← hz]
        exact Leaf.wk hw4 he3
  · have hk2 : j = xs.length := by simp at h2; omega
    subst hk2
    rw [List.drop_length, List.append_nil, ← hnl, List.take_length] at hr
    refine FinX.here hmk.len ⟨by rw [hz, cnL_all], hmk, by rw [hnl]; exact hlen, b, o, us, ls, by rw [hnl]; exact hw1, hr, rfl, ?_⟩
    by_cases hne : xs = []
    · subst hne; exact .inl rfl
    · exact .inr (hkeep hne)


theorem heldII_c (h : AH) (v : Value) (xs : List (List Int)) (k : Int) (hx : RII h v (numII k xs)) (h0 : 0 ≤ k) (hm : k + cnII xs ≤ 9223372036854775807) : ACalls Try.prog 37 [v, .int .i64 k] h (fun r h' => r = .int .i64 (k + cnII xs) ∧ h' = h) := by
  have hl : (numII k xs).length = xs.length := numL_length _ _ _ _
  obtain ⟨hlen, b, o, hw1, hc⟩ := hx
  refine ACalls.wk (args' := [.slice (some ⟨b, o, none⟩) (numII k xs).length 0, .int .i64 k]) ?_ (.cons hw1 (.cons (Wk.refl _) .nil))
  rw [hl]
  refine ACalls.of Tt.tab Try.func37 rfl (by kernel_rfl) Try.ntmps37 _ rfl rfl (fun hw => ?_)
  refine ⟨⟨[0, 1, 5], fun n vs h' => ∃ (j : Nat) (z : Int), n = xs.length - j ∧ j ≤ xs.length ∧ h' = h ∧ z = k + cnL cnI (xs.take j) ∧ vs = [.slice (some ⟨b, o, none⟩) xs.length 0, .int .i64 z, .int .i64 j], _, ⟨0, _, rfl, Nat.zero_le _, rfl, by rw [cnL_zero]; omega, rfl⟩, ?_⟩⟩
  rintro n vs h' ⟨j, z, rfl, hj, rfl, hz, rfl⟩
  refine BIf.mk (fun h2 => ?_) (fun h2 => ?_)
  · have hlt : j < xs.length := by simpa using h2
    have hst := cnL_take cnI xs j hlt
    have hle := cnL_take_le cnI xs (j + 1)
    have hm2 : k + cnL cnI xs ≤ 9223372036854775807 := hm
    refine IdxX.mk (by omega) (by omega) ?_
    refine hc.loadY rfl (by omega : j < (numII k xs).length) ((numL_getElem _ _ _ _ _ _).trans (by rw [← hz])) fun bu1 ou1 hu1 => ?_
    refine CallX.same (heldI_c _ _ xs[j] _ hu1 (by omega) (by omega)) ?_
    rintro r h3 ⟨rfl, rfl⟩
    refine BIf.no (by simp; omega) ?_
    refine WR.i64 ?_
    exact ⟨xs.length - (j + 1), by omega, j + 1, _, rfl, hlt, rfl, by omega, rfl⟩
  · refine FinX.keep hw (Le.refl _) rfl ⟨?_, rfl⟩
    have hk2 : j = xs.length := by simp at h2; omega
    rw [hz, hk2, cnL_all]


theorem eqIII_c (h : AH) (v w : Value) (xs ys : List (List (List Int))) (hx : RIII h v xs) (hy : RIII h w ys) : ACalls Try.prog 26 [v, w] h (fun r h' => r = .bool (decide (xs = ys)) ∧ h' = h) := by
  obtain ⟨hm, b, o, hw1, hc⟩ := hx
  obtain ⟨hm2, b2, o2, hw2, hc2⟩ := hy
  refine ACalls.wk (args' := [.slice (some ⟨b, o, none⟩) xs.length 0, .slice (some ⟨b2, o2, none⟩) ys.length 0]) ?_ (.cons hw1 (.cons hw2 .nil))
  refine ACalls.of Tt.tab Try.func26 rfl (by kernel_rfl) Try.ntmps26 _ rfl rfl (fun hw => ?_)
  refine BIf.mk (fun h1 => ?_) (fun h1 => ?_)
  · refine FinX.keep hw (Le.refl _) rfl ⟨?_, rfl⟩
    have : xs ≠ ys := fun e => by subst e; simp at h1
    simp [this]
  · have hlen : xs.length = ys.length := by simp at h1; omega
    refine ⟨⟨[0, 1, 5], fun n vs h' => ∃ k : Nat, n = xs.length - k ∧ k ≤ xs.length ∧ h' = h ∧ xs.take k = ys.take k ∧ vs = [.slice (some ⟨b, o, none⟩) xs.length 0, .slice (some ⟨b2, o2, none⟩) ys.length 0, .int .i64 k], _, ⟨0, rfl, Nat.zero_le _, rfl, rfl, rfl⟩, ?_⟩⟩
    rintro n vs h' ⟨k, rfl, hk, rfl, ht, rfl⟩
    refine BIf.mk (fun h2 => ?_) (fun h2 => ?_)
    · have hlt : k < xs.length := by simpa using h2
      refine DrawX.of Tt.tab follows_any [] [] [0, 1, 2, 3, 4, 5, 6, 7, 8, 9] rfl (by kernel_rfl) (by kernel_rfl) ?_
      refine IdxX.mk (by omega) (by omega) ?_
      refine hc.loadY rfl hlt rfl fun bu1 ou1 hu1 => ?_
      refine IdxX.mk (by omega) (by omega) ?_
      refine hc2.loadY rfl (by omega : k < ys.length) rfl fun bu2 ou2 hu2 => ?_
      refine QCall.of (fun h2 hl => eqII_c h2 _ _ _ _ (RII.le _ _ _ _ hl hu1) (RII.le _ _ _ _ hl hu2)) rfl ?_
      refine BIf.mk (fun h3 => ?_) (fun h3 => ?_)
      · refine FinX.keep hw (Le.refl _) rfl ⟨?_, rfl⟩
        have : xs ≠ ys := fun e => by subst e; simp at h3
        simp [this]
      · refine WR.i64 ?_
        refine ⟨xs.length - (k + 1), by omega, k + 1, rfl, hlt, rfl, ?_, rfl⟩
        rw [List.take_succ_eq_append_getElem hlt, List.take_succ_eq_append_getElem (by omega), ht]
        simp at h3
        rw [h3]
    · refine FinX.keep hw (Le.refl _) rfl ⟨?_, rfl⟩
      have hk2 : k = xs.length := by simp at h2; omega
      subst hk2
      rw [List.take_of_length_le (by omega), List.take_of_length_le (by omega)] at ht
      simp [ht]


theorem szIII_c (h : AH) (v : Value) (xs : List (List (List Int))) (left : Int) (hx : RIII h v xs) (h0 : 0 ≤ left) (h1 : left ≤ 1048576) : ACalls Try.prog 39 [v, .int .i64 left] h (fun r h' => r = .int .i64 (if (ctIII xs : Int) ≤ left then left - ctIII xs else -1) ∧ h' = h) := by
  obtain ⟨hm, b, o, hw1, hc⟩ := hx
  refine ACalls.wk (args' := [.slice (some ⟨b, o, none⟩) xs.length 0, .int .i64 left]) ?_ (.cons hw1 (.cons (Wk.refl _) .nil))
  have hct : ctIII xs = xs.length + cnL ctII xs := rfl
  refine ACalls.of Tt.tab Try.func39 rfl (by kernel_rfl) Try.ntmps39 _ rfl rfl (fun hw => ?_)
  refine WR.i64 ?_
  refine BIf.mk (fun h2 => ?_) (fun h2 => ?_)
  · simp at h2
    refine FinX.keep hw (Le.refl _) rfl ⟨?_, rfl⟩
    rw [if_neg (by omega)]
  · simp at h2
    refine ⟨⟨[0, 1, 5], fun n vs h' => ∃ (k : Nat) (z : Int), n = xs.length - k ∧ k ≤ xs.length ∧ h' = h ∧ 0 ≤ z ∧ z = left - xs.length - cnL ctII (xs.take k) ∧ vs = [.slice (some ⟨b, o, none⟩) xs.length 0, .int .i64 z, .int .i64 k], _, ⟨0, _, rfl, Nat.zero_le _, rfl, by omega, by rw [cnL_zero]; omega, rfl⟩, ?_⟩⟩
    rintro n vs h' ⟨k, z, rfl, hk, rfl, h0z, hz, rfl⟩
    refine BIf.mk (fun h3 => ?_) (fun h3 => ?_)
    · have hlt : k < xs.length := by simpa using h3
      have hst := cnL_take ctII xs k hlt
      have hle := cnL_take_le ctII xs (k + 1)
      refine IdxX.mk (by omega) (by omega) ?_
      refine hc.loadY rfl hlt rfl fun bu1 ou1 hu1 => ?_
      refine CallX.same (szII_c _ _ xs[k] _ hu1 (by omega) (by omega)) ?_
      rintro r h2 ⟨rfl, rfl⟩
      by_cases hfit : (ctII xs[k] : Int) ≤ z
      · rw [if_pos hfit]
        refine BIf.no (by simp; omega) ?_
        refine WR.i64 ?_
        exact ⟨xs.length - (k + 1), by omega, k + 1, _, rfl, hlt, rfl, by omega, by omega, rfl⟩
      · rw [if_neg hfit]
        refine BIf.yes rfl ?_
        refine FinX.keep hw (Le.refl _) rfl ⟨?_, rfl⟩
        rw [if_neg (by omega)]
    · have hk2 : k = xs.length := by simp at h3; omega
      subst hk2
      rw [cnL_all] at hz
      refine FinX.keep hw (Le.refl _) rfl ⟨?_, rfl⟩
      rw [if_pos (by omega)]
      exact congrArg _ (by omega)


theorem toIII_c (h : AH) (v : Value) (xs : List (List (List Int))) (hx : RIII h v xs) (hl : ctIII xs ≤ 1048576) : ACalls Try.prog 46 [v] h (fun r h' => ∃ b l, r = .slice (some ⟨b, 0, none⟩) xs.length 1 ∧ OIII h.length h' r xs l ∧ Le h h') := by
  obtain ⟨hm, b, o, hw1, hc⟩ := hx
  refine ACalls.wk (args' := [.slice (some ⟨b, o, none⟩) xs.length 0]) ?_ (.cons hw1 .nil)
  have hct : ctIII xs = xs.length + cnL ctII xs := rfl
  refine ACalls.of Tt.tab Try.func46 rfl (by kernel_rfl) Try.ntmps46 _ rfl rfl (fun hw => ?_)
  refine ⟨by omega, rfl, by omega, by show (xs.length : Int) * 24 ≤ _; omega, NewX.intro fun bo h1 hle hlk hbo => ?_⟩
  refine ⟨⟨[0, 3, 4], fun n vs h' => ∃ (k : Nat) (us : List Value) (ls : List (List Nat)), n = xs.length - k ∧ k ≤ xs.length ∧ Le h h' ∧ look h' bo = some ⟨us ++ List.replicate (xs.length - k) (.slice none 0 0), some (22, 1)⟩ ∧ Row OII h.length h' us (xs.take k) ls ∧ vs = [.slice (some ⟨b, o, none⟩) xs.length 0, .slice (some ⟨bo, 0, none⟩) xs.length 1, .int .i64 k], _, ⟨0, [], [], rfl, Nat.zero_le _, hle, ?_, Row.nil _ _ _, rfl⟩, ?_⟩⟩
  · rw [hlk]
    have : (List.replicate xs.length [Value.slice none 0 0]).flatten = [] ++ List.replicate (xs.length - 0) (.slice none 0 0) := by simp [List.flatten_replicate_singleton]
    exact congrArg (fun c => some (Blk.mk c (some (22, 1)))) this
  · rintro n vs h' ⟨k, us, ls, rfl, hk, hle, hlk, hrow, rfl⟩
    have hlu : us.length = k := by rw [hrow.lu]; simp; omega
    refine BIf.mk (fun h2 => ?_) (fun h2 => ?_)
    · have hlt : k < xs.length := by simpa using h2
      have hgt := cnL_get ctII xs k hlt
      refine IdxX.mk (by omega) (by omega) ?_
      refine (hc.le RII.le hle).loadY rfl hlt rfl fun bu1 ou1 hu1 => ?_
      refine CallX.same (toII_c _ _ xs[k] hu1 (by omega)) ?_
      rintro r h2 ⟨b4, l4, rfl, ho4, hle4⟩
      refine IdxX.mk (by omega) (by omega) ?_
      have hlk2 := hle4.at_ _ _ hlk
      refine ⟨⟨_, hlk2, rfl, ?_, fun h3 (e3 : h3 = h2.set bo (some ⟨setCells (us ++ List.replicate (xs.length - k) (.slice none 0 0)) (0 + k) [.slice (some ⟨b4, 0, none⟩) xs[k].length 1], some (22, 1)⟩)) => ?_⟩⟩
      · show 0 + k + 1 ≤ _
        simp; omega
      · have hbl := look_lt hlk2
        rw [Nat.zero_add, setCells_next _ _ _ _ _ hlu (by omega)] at e3
        subst e3
        refine WR.i64 ?_
        refine ⟨xs.length - (k + 1), by omega, k + 1, us ++ [.slice (some ⟨b4, 0, none⟩) xs[k].length 1], ls ++ [l4], rfl, hlt, ?_, ?_, ?_, rfl⟩
        · exact (hle.trans hle4).store hbo
        · rw [look_set hbl, if_pos rfl]; rfl
        · rw [List.take_succ_eq_append_getElem hlt]
          exact (hrow.push OII.fr hle4 hle.len ho4).set OII.fr hlk2 rfl rfl
    · have hk2 : k = xs.length := by simp at h2; omega
      subst hk2
      rw [List.take_length] at hrow
      refine FinX.here hle.len ⟨bo, ls.flatten, rfl, hrow.node hlk hbo (fun i u hi => ?_) (by omega) 1, hle⟩
      simp [hi]


theorem markIII_c (n : Nat) (h : AH) (v : Value) (xs : List (List (List Int))) (l : List Nat) (k : Int) (hx : OIII n h v xs l) (h0 : 0 ≤ k) (hm : k + cnIII xs ≤ 9223372036854775807) : ACalls Try.prog 32 [v, .int .i64 k] h (fun r h' => r = .int .i64 (k + cnIII xs) ∧ Mk h h' l ∧ OIII n h' v (numIII k xs) l) := by
  obtain ⟨hlen, b, o, us, ls, hw1, hrow, rfl, hbk⟩ := hx
  refine ACalls.wk (args' := [.slice (some ⟨b, o, none⟩) xs.length 0, .int .i64 k]) ?_ (.cons hw1 (.cons (Wk.refl _) .nil))
  have hnl : (numIII k xs).length = xs.length := numL_length _ _ _ _
  refine ACalls.of Tt.tab Try.func32 rfl (by kernel_rfl) Try.ntmps32 _ rfl rfl (fun hw => ?_)
  refine ⟨⟨[0, 1, 5], fun n' vs h' => ∃ (j : Nat) (z : Int), n' = xs.length - j ∧ j ≤ xs.length ∧ Mk h h' ls.flatten ∧ Row OII n h' us ((numIII k xs).take j ++ xs.drop j) ls ∧ z = k + cnL cnII (xs.take j) ∧ vs = [.slice (some ⟨b, o, none⟩) xs.length 0, .int .i64 z, .int .i64 j], _, ⟨0, _, rfl, Nat.zero_le _, Mk.refl _ _, by rw [List.take_zero, List.drop_zero]; exact hrow, by rw [cnL_zero]; omega, rfl⟩, ?_⟩⟩
  rintro n' vs h' ⟨j, z, rfl, hj, hmk, hr, hz, rfl⟩
  have hkeep : xs ≠ [] → n ≤ b ∧ ∃ blk, look h' b = some blk ∧ blk.own = some (22, 1) ∧ ∀ (k : Nat) u, us[k]? = some u → blk.cells[o + k]? = some u := by
    intro hne
    rcases hbk with hbk | ⟨h1, blk, h2, h3, h4⟩
    · exact absurd hbk hne
    · refine ⟨h1, blk, ?_, h3, h4⟩
      refine hmk.out b blk ?_ h2
      · intro hb
        obtain ⟨_, blk', s, h5, h6⟩ := hrow.leaf OII.fr b hb
        rw [h2] at h5
        injection h5 with h5
        subst h5
        rw [h3] at h6
        simp at h6
        exact absurd h6.1 (by decide)
  refine BIf.mk (fun h2 => ?_) (fun h2 => ?_)
  · have hlt : j < xs.length := by simpa using h2
    have hst := cnL_take cnII xs j hlt
    have hle := cnL_take_le cnII xs (j + 1)
    have hm2 : k + cnL cnII xs ≤ 9223372036854775807 := hm
    obtain ⟨hnb, blk, hb, hown, hcs⟩ := hkeep (by rintro rfl; simp at hlt)
    have hlu := hr.lu; have hll := hr.ll
    simp only [List.length_append, List.length_take, List.length_drop, hnl] at hlu hll
    have hu : us[j]? = some us[j] := List.getElem?_eq_getElem (by omega)
    have hlj : ls[j]? = some ls[j] := List.getElem?_eq_getElem (by omega)
    have hel : ((numIII k xs).take j ++ xs.drop j)[j]? = some xs[j] := by
      rw [List.getElem?_append_right (by rw [List.length_take]; omega), List.getElem?_drop]
      rw [show j + (j - ((numIII k xs).take j).length) = j by rw [List.length_take]; omega]
      exact List.getElem?_eq_getElem hlt
    have he := hr.el j _ _ _ hu hel hlj
    refine IdxX.mk (by omega) (by omega) ?_
    obtain ⟨b4, o4, hw4, he4⟩ := Node.can he
    refine LoadX.one hb (show ldv _ _ _ = some us[j] from hcs j _ hu) hw4 ?_
    refine CallX.same (markII_c n _ _ _ _ _ he4 (by omega) (by omega)) ?_
    rintro r h3 ⟨rfl, hmk3, he3⟩
    refine WR.i64 ?_
    refine ⟨xs.length - (j + 1), by omega, j + 1, _, rfl, hlt, hmk.trans hmk3 (fun _ h => h) (fun i hi => List.mem_flatten.2 ⟨_, List.mem_of_getElem? hlj, hi⟩), ?_, by omega, rfl⟩
    · have hup := hr.upd OII.fr rfl hlj hmk3 (x' := (numIII k xs)[j]'(by omega)) (fun u hu' => ?_)
      · rw [half_set _ _ hnl j hlt] at hup
        exact hup
      · rw [hu] at hu'
        injection hu' with hu'
        subst hu'
        rw [numL_getElem, ← hz]
        exact Node.wk hw4 he3
  · have hk2 : j = xs.length := by simp at h2; omega
    subst hk2
    rw [List.drop_length, List.append_nil, ← hnl, List.take_length] at hr
    refine FinX.here hmk.len ⟨by rw [hz, cnL_all], hmk, by rw [hnl]; exact hlen, b, o, us, ls, by rw [hnl]; exact hw1, hr, rfl, ?_⟩
    by_cases hne : xs = []
    · subst hne; exact .inl rfl
    · exact .inr (hkeep hne)


theorem heldIII_c (h : AH) (v : Value) (xs : List (List (List Int))) (k : Int) (hx : RIII h v (numIII k xs)) (h0 : 0 ≤ k) (hm : k + cnIII xs ≤ 9223372036854775807) : ACalls Try.prog 34 [v, .int .i64 k] h (fun r h' => r = .int .i64 (k + cnIII xs) ∧ h' = h) := by
  have hl : (numIII k xs).length = xs.length := numL_length _ _ _ _
  obtain ⟨hlen, b, o, hw1, hc⟩ := hx
  refine ACalls.wk (args' := [.slice (some ⟨b, o, none⟩) (numIII k xs).length 0, .int .i64 k]) ?_ (.cons hw1 (.cons (Wk.refl _) .nil))
  rw [hl]
  refine ACalls.of Tt.tab Try.func34 rfl (by kernel_rfl) Try.ntmps34 _ rfl rfl (fun hw => ?_)
  refine ⟨⟨[0, 1, 5], fun n vs h' => ∃ (j : Nat) (z : Int), n = xs.length - j ∧ j ≤ xs.length ∧ h' = h ∧ z = k + cnL cnII (xs.take j) ∧ vs = [.slice (some ⟨b, o, none⟩) xs.length 0, .int .i64 z, .int .i64 j], _, ⟨0, _, rfl, Nat.zero_le _, rfl, by rw [cnL_zero]; omega, rfl⟩, ?_⟩⟩
  rintro n vs h' ⟨j, z, rfl, hj, rfl, hz, rfl⟩
  refine BIf.mk (fun h2 => ?_) (fun h2 => ?_)
  · have hlt : j < xs.length := by simpa using h2
    have hst := cnL_take cnII xs j hlt
    have hle := cnL_take_le cnII xs (j + 1)
    have hm2 : k + cnL cnII xs ≤ 9223372036854775807 := hm
    refine IdxX.mk (by omega) (by omega) ?_
    refine hc.loadY rfl (by omega : j < (numIII k xs).length) ((numL_getElem _ _ _ _ _ _).trans (by rw [← hz])) fun bu1 ou1 hu1 => ?_
    refine CallX.same (heldII_c _ _ xs[j] _ hu1 (by omega) (by omega)) ?_
    rintro r h3 ⟨rfl, rfl⟩
    refine BIf.no (by simp; omega) ?_
    refine WR.i64 ?_
    exact ⟨xs.length - (j + 1), by omega, j + 1, _, rfl, hlt, rfl, by omega, rfl⟩
  · refine FinX.keep hw (Le.refl _) rfl ⟨?_, rfl⟩
    have hk2 : j = xs.length := by simp at h2; omega
    rw [hz, hk2, cnL_all]


theorem eqIIII_c (h : AH) (v w : Value) (xs ys : List (List (List (List Int)))) (hx : RIIII h v xs) (hy : RIIII h w ys) : ACalls Try.prog 28 [v, w] h (fun r h' => r = .bool (decide (xs = ys)) ∧ h' = h) := by
  obtain ⟨hm, b, o, hw1, hc⟩ := hx
  obtain ⟨hm2, b2, o2, hw2, hc2⟩ := hy
  refine ACalls.wk (args' := [.slice (some ⟨b, o, none⟩) xs.length 0, .slice (some ⟨b2, o2, none⟩) ys.length 0]) ?_ (.cons hw1 (.cons hw2 .nil))
  refine ACalls.of Tt.tab Try.func28 rfl (by kernel_rfl) Try.ntmps28 _ rfl rfl (fun hw => ?_)
  refine BIf.mk (fun h1 => ?_) (fun h1 => ?_)
  · refine FinX.keep hw (Le.refl _) rfl ⟨?_, rfl⟩
    have : xs ≠ ys := fun e => by subst e; simp at h1
    simp [this]
  · have hlen : xs.length = ys.length := by simp at h1; omega
    refine ⟨⟨[0, 1, 5], fun n vs h' => ∃ k : Nat, n = xs.length - k ∧ k ≤ xs.length ∧ h' = h ∧ xs.take k = ys.take k ∧ vs = [.slice (some ⟨b, o, none⟩) xs.length 0, .slice (some ⟨b2, o2, none⟩) ys.length 0, .int .i64 k], _, ⟨0, rfl, Nat.zero_le _, rfl, rfl, rfl⟩, ?_⟩⟩
    rintro n vs h' ⟨k, rfl, hk, rfl, ht, rfl⟩
    refine BIf.mk (fun h2 => ?_) (fun h2 => ?_)
    · have hlt : k < xs.length := by simpa using h2
      refine DrawX.of Tt.tab follows_any [] [] [0, 1, 2, 3, 4, 5, 6, 7, 8, 9] rfl (by kernel_rfl) (by kernel_rfl) ?_
      refine IdxX.mk (by omega) (by omega) ?_
      refine hc.loadY rfl hlt rfl fun bu1 ou1 hu1 => ?_
      refine IdxX.mk (by omega) (by omega) ?_
      refine hc2.loadY rfl (by omega : k < ys.length) rfl fun bu2 ou2 hu2 => ?_
      refine QCall.of (fun h2 hl => eqIII_c h2 _ _ _ _ (RIII.le _ _ _ _ hl hu1) (RIII.le _ _ _ _ hl hu2)) rfl ?_
      refine BIf.mk (fun h3 => ?_) (fun h3 => ?_)
      · refine FinX.keep hw (Le.refl _) rfl ⟨?_, rfl⟩
        have : xs ≠ ys := fun e => by subst e; simp at h3
        simp [this]
      · refine WR.i64 ?_
        refine ⟨xs.length - (k + 1), by omega, k + 1, rfl, hlt, rfl, ?_, rfl⟩
        rw [List.take_succ_eq_append_getElem hlt, List.take_succ_eq_append_getElem (by omega), ht]
        simp at h3
        rw [h3]
    · refine FinX.keep hw (Le.refl _) rfl ⟨?_, rfl⟩
      have hk2 : k = xs.length := by simp at h2; omega
      subst hk2
      rw [List.take_of_length_le (by omega), List.take_of_length_le (by omega)] at ht
      simp [ht]


theorem szIIII_c (h : AH) (v : Value) (xs : List (List (List (List Int)))) (left : Int) (hx : RIIII h v xs) (h0 : 0 ≤ left) (h1 : left ≤ 1048576) : ACalls Try.prog 20 [v, .int .i64 left] h (fun r h' => r = .int .i64 (if (ctIIII xs : Int) ≤ left then left - ctIIII xs else -1) ∧ h' = h) := by
  obtain ⟨hm, b, o, hw1, hc⟩ := hx
  refine ACalls.wk (args' := [.slice (some ⟨b, o, none⟩) xs.length 0, .int .i64 left]) ?_ (.cons hw1 (.cons (Wk.refl _) .nil))
  have hct : ctIIII xs = xs.length + cnL ctIII xs := rfl
  refine ACalls.of Tt.tab Try.func20 rfl (by kernel_rfl) Try.ntmps20 _ rfl rfl (fun hw => ?_)
  refine WR.i64 ?_
  refine BIf.mk (fun h2 => ?_) (fun h2 => ?_)
  · simp at h2
    refine FinX.keep hw (Le.refl _) rfl ⟨?_, rfl⟩
    rw [if_neg (by omega)]
  · simp at h2
    refine ⟨⟨[0, 1, 5], fun n vs h' => ∃ (k : Nat) (z : Int), n = xs.length - k ∧ k ≤ xs.length ∧ h' = h ∧ 0 ≤ z ∧ z = left - xs.length - cnL ctIII (xs.take k) ∧ vs = [.slice (some ⟨b, o, none⟩) xs.length 0, .int .i64 z, .int .i64 k], _, ⟨0, _, rfl, Nat.zero_le _, rfl, by omega, by rw [cnL_zero]; omega, rfl⟩, ?_⟩⟩
    rintro n vs h' ⟨k, z, rfl, hk, rfl, h0z, hz, rfl⟩
    refine BIf.mk (fun h3 => ?_) (fun h3 => ?_)
    · have hlt : k < xs.length := by simpa using h3
      have hst := cnL_take ctIII xs k hlt
      have hle := cnL_take_le ctIII xs (k + 1)
      refine IdxX.mk (by omega) (by omega) ?_
      refine hc.loadY rfl hlt rfl fun bu1 ou1 hu1 => ?_
      refine CallX.same (szIII_c _ _ xs[k] _ hu1 (by omega) (by omega)) ?_
      rintro r h2 ⟨rfl, rfl⟩
      by_cases hfit : (ctIII xs[k] : Int) ≤ z
      · rw [if_pos hfit]
        refine BIf.no (by simp; omega) ?_
        refine WR.i64 ?_
        exact ⟨xs.length - (k + 1), by omega, k + 1, _, rfl, hlt, rfl, by omega, by omega, rfl⟩
      · rw [if_neg hfit]
        refine BIf.yes rfl ?_
        refine FinX.keep hw (Le.refl _) rfl ⟨?_, rfl⟩
        rw [if_neg (by omega)]
    · have hk2 : k = xs.length := by simp at h3; omega
      subst hk2
      rw [cnL_all] at hz
      refine FinX.keep hw (Le.refl _) rfl ⟨?_, rfl⟩
      rw [if_pos (by omega)]
      exact congrArg _ (by omega)


theorem toIIII_c (h : AH) (v : Value) (xs : List (List (List (List Int)))) (hx : RIIII h v xs) (hl : ctIIII xs ≤ 1048576) : ACalls Try.prog 24 [v] h (fun r h' => ∃ b l, r = .slice (some ⟨b, 0, none⟩) xs.length 1 ∧ OIIII h.length h' r xs l ∧ Le h h') := by
  obtain ⟨hm, b, o, hw1, hc⟩ := hx
  refine ACalls.wk (args' := [.slice (some ⟨b, o, none⟩) xs.length 0]) ?_ (.cons hw1 .nil)
  have hct : ctIIII xs = xs.length + cnL ctIII xs := rfl
  refine ACalls.of Tt.tab Try.func24 rfl (by kernel_rfl) Try.ntmps24 _ rfl rfl (fun hw => ?_)
  refine ⟨by omega, rfl, by omega, by show (xs.length : Int) * 24 ≤ _; omega, NewX.intro fun bo h1 hle hlk hbo => ?_⟩
  refine ⟨⟨[0, 3, 4], fun n vs h' => ∃ (k : Nat) (us : List Value) (ls : List (List Nat)), n = xs.length - k ∧ k ≤ xs.length ∧ Le h h' ∧ look h' bo = some ⟨us ++ List.replicate (xs.length - k) (.slice none 0 0), some (28, 1)⟩ ∧ Row OIII h.length h' us (xs.take k) ls ∧ vs = [.slice (some ⟨b, o, none⟩) xs.length 0, .slice (some ⟨bo, 0, none⟩) xs.length 1, .int .i64 k], _, ⟨0, [], [], rfl, Nat.zero_le _, hle, ?_, Row.nil _ _ _, rfl⟩, ?_⟩⟩
  · rw [hlk]
    have : (List.replicate xs.length [Value.slice none 0 0]).flatten = [] ++ List.replicate (xs.length - 0) (.slice none 0 0) := by simp [List.flatten_replicate_singleton]
    exact congrArg (fun c => some (Blk.mk c (some (28, 1)))) this
  · rintro n vs h' ⟨k, us, ls, rfl, hk, hle, hlk, hrow, rfl⟩
    have hlu : us.length = k := by rw [hrow.lu]; simp; omega
    refine BIf.mk (fun h2 => ?_) (fun h2 => ?_)
    · have hlt : k < xs.length := by simpa using h2
      have hgt := cnL_get ctIII xs k hlt
      refine IdxX.mk (by omega) (by omega) ?_
      refine (hc.le RIII.le hle).loadY rfl hlt rfl fun bu1 ou1 hu1 => ?_
      refine CallX.same (toIII_c _ _ xs[k] hu1 (by omega)) ?_
      rintro r h2 ⟨b4, l4, rfl, ho4, hle4⟩
      refine IdxX.mk (by omega) (by omega) ?_
      have hlk2 := hle4.at_ _ _ hlk
      refine ⟨⟨_, hlk2, rfl, ?_, fun h3 (e3 : h3 = h2.set bo (some ⟨setCells (us ++ List.replicate (xs.length - k) (.slice none 0 0)) (0 + k) [.slice (some ⟨b4, 0, none⟩) xs[k].length 1], some (28, 1)⟩)) => ?_⟩⟩
      · show 0 + k + 1 ≤ _
        simp; omega
      · have hbl := look_lt hlk2
        rw [Nat.zero_add, setCells_next _ _ _ _ _ hlu (by omega)] at e3
        subst e3
        refine WR.i64 ?_
        refine ⟨xs.length - (k + 1), by omega, k + 1, us ++ [.slice (some ⟨b4, 0, none⟩) xs[k].length 1], ls ++ [l4], rfl, hlt, ?_, ?_, ?_, rfl⟩
        · exact (hle.trans hle4).store hbo
        · rw [look_set hbl, if_pos rfl]; rfl
        · rw [List.take_succ_eq_append_getElem hlt]
          exact (hrow.push OIII.fr hle4 hle.len ho4).set OIII.fr hlk2 rfl rfl
    · have hk2 : k = xs.length := by simp at h2; omega
      subst hk2
      rw [List.take_length] at hrow
      refine FinX.here hle.len ⟨bo, ls.flatten, rfl, hrow.node hlk hbo (fun i u hi => ?_) (by omega) 1, hle⟩
      simp [hi]


theorem markIIII_c (n : Nat) (h : AH) (v : Value) (xs : List (List (List (List Int)))) (l : List Nat) (k : Int) (hx : OIIII n h v xs l) (h0 : 0 ≤ k) (hm : k + cnIIII xs ≤ 9223372036854775807) : ACalls Try.prog 30 [v, .int .i64 k] h (fun r h' => r = .int .i64 (k + cnIIII xs) ∧ Mk h h' l ∧ OIIII n h' v (numIIII k xs) l) := by
  obtain ⟨hlen, b, o, us, ls, hw1, hrow, rfl, hbk⟩ := hx
  refine ACalls.wk (args' := [.slice (some ⟨b, o, none⟩) xs.length 0, .int .i64 k]) ?_ (.cons hw1 (.cons (Wk.refl _) .nil))
  have hnl : (numIIII k xs).length = xs.length := numL_length _ _ _ _
  refine ACalls.of Tt.tab Try.func30 rfl (by kernel_rfl) Try.ntmps30 _ rfl rfl (fun hw => ?_)
  refine ⟨⟨[0, 1, 5], fun n' vs h' => ∃ (j : Nat) (z : Int), n' = xs.length - j ∧ j ≤ xs.length ∧ Mk h h' ls.flatten ∧ Row OIII n h' us ((numIIII k xs).take j ++ xs.drop j) ls ∧ z = k + cnL cnIII (xs.take j) ∧ vs = [.slice (some ⟨b, o, none⟩) xs.length 0, .int .i64 z, .int .i64 j], _, ⟨0, _, rfl, Nat.zero_le _, Mk.refl _ _, by rw [List.take_zero, List.drop_zero]; exact hrow, by rw [cnL_zero]; omega, rfl⟩, ?_⟩⟩
  rintro n' vs h' ⟨j, z, rfl, hj, hmk, hr, hz, rfl⟩
  have hkeep : xs ≠ [] → n ≤ b ∧ ∃ blk, look h' b = some blk ∧ blk.own = some (28, 1) ∧ ∀ (k : Nat) u, us[k]? = some u → blk.cells[o + k]? = some u := by
    intro hne
    rcases hbk with hbk | ⟨h1, blk, h2, h3, h4⟩
    · exact absurd hbk hne
    · refine ⟨h1, blk, ?_, h3, h4⟩
      refine hmk.out b blk ?_ h2
      · intro hb
        obtain ⟨_, blk', s, h5, h6⟩ := hrow.leaf OIII.fr b hb
        rw [h2] at h5
        injection h5 with h5
        subst h5
        rw [h3] at h6
        simp at h6
        exact absurd h6.1 (by decide)
  refine BIf.mk (fun h2 => ?_) (fun h2 => ?_)
  · have hlt : j < xs.length := by simpa using h2
    have hst := cnL_take cnIII xs j hlt
    have hle := cnL_take_le cnIII xs (j + 1)
    have hm2 : k + cnL cnIII xs ≤ 9223372036854775807 := hm
    obtain ⟨hnb, blk, hb, hown, hcs⟩ := hkeep (by rintro rfl; simp at hlt)
    have hlu := hr.lu; have hll := hr.ll
    simp only [List.length_append, List.length_take, List.length_drop, hnl] at hlu hll
    have hu : us[j]? = some us[j] := List.getElem?_eq_getElem (by omega)
    have hlj : ls[j]? = some ls[j] := List.getElem?_eq_getElem (by omega)
    have hel : ((numIIII k xs).take j ++ xs.drop j)[j]? = some xs[j] := by
      rw [List.getElem?_append_right (by rw [List.length_take]; omega), List.getElem?_drop]
      rw [show j + (j - ((numIIII k xs).take j).length) = j by rw [List.length_take]; omega]
      exact List.getElem?_eq_getElem hlt
    have he := hr.el j _ _ _ hu hel hlj
    refine IdxX.mk (by omega) (by omega) ?_
    obtain ⟨b4, o4, hw4, he4⟩ := Node.can he
    refine LoadX.one hb (show ldv _ _ _ = some us[j] from hcs j _ hu) hw4 ?_
    refine CallX.same (markIII_c n _ _ _ _ _ he4 (by omega) (by omega)) ?_
    rintro r h3 ⟨rfl, hmk3, he3⟩
    refine WR.i64 ?_
    refine ⟨xs.length - (j + 1), by omega, j + 1, _, rfl, hlt, hmk.trans hmk3 (fun _ h => h) (fun i hi => List.mem_flatten.2 ⟨_, List.mem_of_getElem? hlj, hi⟩), ?_, by omega, rfl⟩
    · have hup := hr.upd OIII.fr rfl hlj hmk3 (x' := (numIIII k xs)[j]'(by omega)) (fun u hu' => ?_)
      · rw [half_set _ _ hnl j hlt] at hup
        exact hup
      · rw [hu] at hu'
        injection hu' with hu'
        subst hu'
        rw [numL_getElem, ← hz]
        exact Node.wk hw4 he3
  · have hk2 : j = xs.length := by simp at h2; omega
    subst hk2
    rw [List.drop_length, List.append_nil, ← hnl, List.take_length] at hr
    refine FinX.here hmk.len ⟨by rw [hz, cnL_all], hmk, by rw [hnl]; exact hlen, b, o, us, ls, by rw [hnl]; exact hw1, hr, rfl, ?_⟩
    by_cases hne : xs = []
    · subst hne; exact .inl rfl
    · exact .inr (hkeep hne)


/- A row of one number, some times over: slices.Repeat. No condition. -/
import Derived.Test.YtionapmdibdfpaaFnA1
import Derived.Test.YtionapmdibdfpaaGlU
import Derived.Test.YtionapmdibdfpaaGlO
set_option linter.unusedVariables false
set_option linter.unusedSimpArgs false
namespace Go.Gl
open Go.Proofs Go.Proofs.Ytionapmdibdfpaa Go.Pl

theorem WR.to {k : IntKind} {x r : Int} {f : Int → Prop} (e : k.wrap x = r) (h : f r) : WR k x f := ⟨by rw [e]; exact h⟩
theorem u64_small {c : Nat} (hc : c ≤ 4) : IntKind.u64.wrap (c : Int) = c := by
  rcases (by omega : c = 0 ∨ c = 1 ∨ c = 2 ∨ c = 3 ∨ c = 4) with rfl | rfl | rfl | rfl | rfl <;> rfl

theorem mul64_c (h : AH) (c : Nat) (hc : c ≤ 4) : ACalls Try.prog 87 [.int .u64 1, .int .u64 c] h (fun r h' => r = .tuple #[.int .u64 0, .int .u64 c] ∧ h' = h) := by
  have key : ∀ c : Nat, c = 0 ∨ c = 1 ∨ c = 2 ∨ c = 3 ∨ c = 4 → ACalls Try.prog 87 [.int .u64 1, .int .u64 c] h (fun r h' => r = .tuple #[.int .u64 0, .int .u64 c] ∧ h' = h) := by
    intro c hc
    rcases hc with rfl | rfl | rfl | rfl | rfl
    all_goals
      refine ACalls.of Tt.tab Try.func87 rfl (by kernel_rfl) Try.ntmps87 _ rfl rfl (fun hw => ?_)
      refine ⟨by decide, ?_⟩
      refine ⟨by decide, ?_⟩
      refine WR.to rfl ?_
      refine WR.to rfl ?_
      refine ⟨by decide, ?_⟩
      refine WR.to rfl ?_
      refine ⟨by decide, ?_⟩
      refine WR.to rfl ?_
      refine WR.to rfl ?_
      refine WR.to rfl ?_
      refine WR.to rfl ?_
      refine ⟨by decide, ?_⟩
      refine WR.to rfl ?_
      refine WR.to rfl ?_
      exact FinX.keep2 hw (Le.refl _) rfl rfl ⟨by rfl, rfl⟩
  exact key c (by omega)

theorem mul_c (h : AH) (c : Nat) (hc : c ≤ 4) : ACalls Try.prog 79 [.int .u64 1, .int .u64 c] h (fun r h' => r = .tuple #[.int .u64 0, .int .u64 c] ∧ h' = h) := by
  refine ACalls.of Tt.tab Try.func79 rfl (by kernel_rfl) Try.ntmps79 _ rfl rfl (fun hw => ?_)
  refine BIf.no rfl ?_
  refine CallX.same (mul64_c _ c hc) ?_
  rintro r g ⟨rfl, rfl⟩
  exact FinX.keep2 hw (Le.refl _) rfl rfl ⟨rfl, rfl⟩

theorem SepM.copy {M : Nat → Prop} {n : Nat} {hb h : AH} {Rs : List Res} (S : SepM M n hb h Rs) (j : Nat) {b o b2 o2 k c k2 c2 m : Nat} {ty : TypeId} {s : Nat} {cells news : List Value} {blk2 : Blk} {K : Value → AH → Prop} (hj : gt Rs j = some (.bx b ty s cells)) (hm : m = min k2 k) (hm0 : 0 < m)
    (hf : o + news.length ≤ cells.length) (h2 : look h b2 = some blk2) (hn : (blk2.cells.drop o2).take (m * 1) = news) (hl : news.length = m * 1) (h1 : news.all one1 = true)
    (hk : ∀ h', SepM M n hb h' (st Rs j (.bx b ty s (setCells cells o news))) → K (.int .i64 m) h') : CopyX h 1 (.slice (some ⟨b, o, none⟩) k c) (.slice (some ⟨b2, o2, none⟩) k2 c2) K := by
  obtain ⟨blk, e1, e2, e3, hx⟩ := (S.store (K := fun h' => K (.int .i64 m) h') j hj hf hk).ex
  exact ⟨.inr ⟨b, o, k, c, b2, o2, k2, c2, m, news, blk, blk2, rfl, rfl, hm, hm0, e1, e2, e3, h2, hn, hl, h1, hx⟩⟩
theorem tab_take {c m o : Nat} {f : Nat → Int} (h : o + m ≤ c) : (((tab c f).map (Value.int .i64)).drop o).take (m * 1) = (tab m fun i => f (o + i)).map (Value.int .i64) := by
  refine List.ext_getElem (by simp [tab]; omega) fun i h1 h2 => ?_
  simp [tab]
theorem tab_put {c m o : Nat} {f g : Nat → Int} (h : o + m ≤ c) : setCells ((tab c f).map (Value.int .i64)) o ((tab m g).map (Value.int .i64)) = (tab c fun i => if o ≤ i ∧ i < o + m then g (i - o) else f i).map (Value.int .i64) := by
  apply List.ext_getElem?
  intro i
  rw [setCells_get _ _ _ (by simp [tab]; omega)]
  by_cases hi : o ≤ i ∧ i < o + m
  · have h1 : i - o < m := by omega
    have h2 : i < c := by omega
    simp [tab, hi, h1, h2]
  · rw [if_neg (by simpa [tab] using hi)]
    by_cases h2 : i < c
    · simp [tab, h2, hi]
    · simp [tab, h2]

theorem repeat_c (h : AH) (b cc c : Nat) (y : Int) (own : Option (TypeId × Nat)) (hb : look h b = some ⟨[.int .i64 y], own⟩) (hc : c ≤ 4) : ACalls Try.prog 65 [.slice (some ⟨b, 0, none⟩) 1 cc, .int .i64 c] h (Made OI h (tab c fun _ => y)) := by
  refine ACalls.madeI ?_
  refine ACalls.of Tt.tab Try.func65 rfl (by kernel_rfl) Try.ntmps65 _ rfl rfl (fun hw => ?_)
  have S := Sep.start h
  refine BIf.no (by simp) ?_
  refine WR.to (r := 1) rfl ?_
  refine WR.to (r := (c : Int)) (u64_small hc) ?_
  refine CallX.same (mul_c _ c hc) ?_
  rintro r g ⟨rfl, hg⟩
  have hg := hg.symm
  subst hg
  refine BIf.no rfl ?_
  refine BIf.no (by simp; omega) ?_
  refine WR.i64 ?_
  refine ⟨by omega, rfl, by omega, by show (c : Int) * (8 : Nat) ≤ _; omega, ?_⟩
  refine S.new fun b3 g S => ?_
  have S := S.recast 0 rfl (zeros_tab _)
  rw [show ((c : Int)).toNat = c from Int.toNat_natCast c] at S ⊢
  have hLo : ∀ g (n : Nat) (K : Value → AH → Prop), (∀ g, Sep h.length h g [.bx b3 2 1 ((tab c fun i => if i < min 1 c then y else 0).map (.int .i64))] → K (.int .i64 (min 1 c : Nat)) g) → Sep h.length h g [.bx b3 2 1 ((tab c fun _ => 0).map (.int .i64))] → CopyX g 1 (.slice (some ⟨b3, 0, none⟩) c 1) (.slice (some ⟨b, 0, none⟩) 1 cc) K := fun g n K hk S => by
    by_cases h0 : c = 0
    · subst h0
      exact ⟨.inl ⟨_, _, _, _, _, _, rfl, rfl, rfl, hk g S⟩⟩
    · refine S.copy 0 (m := 1) (news := [.int .i64 y]) rfl (by omega) (by omega) (by simp [tab]; omega) (S.le.at_ _ _ hb) rfl rfl rfl fun g S => ?_
      have e : min 1 c = 1 := by omega
      rw [e] at hk
      refine hk g (S.eq ?_)
      have := tab_put (c := c) (m := 1) (o := 0) (f := fun _ => 0) (g := fun _ => y) (by omega)
      show [Res.bx _ _ _ (setCells _ 0 ((tab 1 fun _ => y).map (Value.int .i64)))] = _
      rw [this]
      congr 3
      exact tab_congr fun i hi => by simp
  refine hLo _ 0 _ (fun g S => ?_) S
  refine ⟨⟨[7, 8], fun n' vs g => ∃ n : Nat, n' = c - n ∧ n ≤ c ∧ (0 < c → 0 < n) ∧ Sep h.length h g [.bx b3 2 1 ((tab c fun i => if i < n then y else 0).map (.int .i64))] ∧ vs = [.slice (some ⟨b3, 0, none⟩) c 1, .int .i64 n], _, ⟨min 1 c, rfl, by omega, by omega, S, rfl⟩, ?_⟩⟩
  clear S
  rintro n' vs g ⟨n, rfl, hn, hn0, S, rfl⟩
  refine BIf.mk (fun h3 => ?_) (fun h3 => ?_)
  · have hlt : n < c := by simpa using h3
    refine DrawX.of Tt.tab follows_any [] [7] [0, 1, 2, 3, 4, 5, 6, 7, 8, 9] rfl (by kernel_rfl) (by kernel_rfl) ?_
    refine SlcX.mk (by omega) (by omega) (by omega) ?_
    refine SlcX.mk (by omega) (by omega) (by omega) ?_
    have hm0 : 0 < min n (c - n) := by have := hn0 (by omega); omega
    have eo : 0 + mulE ((n : Int)).toNat 1 = n := by rw [mulE_eq]; omega
    refine S.copy 0 (m := min n (c - n)) (news := (tab (min n (c - n)) fun _ => y).map (.int .i64)) rfl (by omega) hm0 (by show 0 + mulE ((n : Int)).toNat 1 + _ ≤ _; rw [eo]; simp [tab]; omega) (S.at_ 0 rfl) ?_ (by simp [tab]) (by simp [tab, one1]) fun g S => ?_
    · have := tab_take (c := c) (m := min n (c - n)) (o := 0) (f := fun i => if i < n then y else 0) (by omega)
      refine this.trans ?_
      congr 1
      exact tab_congr fun i hi => by rw [if_pos (by omega)]
    refine WR.as (r := ((n + min n (c - n) : Nat) : Int)) (by omega) ?_
    refine ⟨c - (n + min n (c - n)), by omega, n + min n (c - n), rfl, by omega, by omega, S.eq ?_, rfl⟩
    show [Res.bx _ _ _ (setCells _ (0 + mulE ((n : Int)).toNat 1) _)] = _
    rw [eo, tab_put (by omega)]
    congr 3
    refine tab_congr fun i hi => ?_
    by_cases h1 : i < n
    · rw [if_neg (by omega), if_pos h1, if_pos (by omega)]
    · by_cases h2 : i < n + min n (c - n)
      · rw [if_pos (by omega), if_pos h2]
      · rw [if_neg (by omega), if_neg h1, if_neg h2]
  · have hn2 : n = c := by simp at h3; omega
    subst hn2
    have e : (tab n fun i => if i < n then y else 0) = tab n fun _ => y := tab_congr fun i hi => if_pos hi
    rw [e] at S
    have S := S.bx_rc 0 (k := n) rfl (by rw [List.length_map, tab_length]; omega)
    have S := S.rc_tr 0 rfl (by rw [tab_length]; omega)
    exact S.fin 0 rfl

end Go.Gl

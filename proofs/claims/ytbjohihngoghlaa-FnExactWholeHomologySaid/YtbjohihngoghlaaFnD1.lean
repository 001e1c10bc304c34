/- Chapter 7: determinants. No condition. -/
import Derived.Test.YtbjohihngoghlaaFnDel
import Derived.Test.YtbjohihngoghlaaFnW1
import Derived.Test.YtbjohihngoghlaaFnR
import Derived.Test.YtbjohihngoghlaaPlD
set_option linter.unusedVariables false
set_option linter.unusedSimpArgs false
namespace Go.Gl
open Go.Proofs Go.Proofs.Ytbjohihngoghlaa Go.Pl

/-- a part of a row -/
theorem RS.part {α : Type} {E : AH → Value → α → Prop} {h : AH} {b o : Nat} {xs : List α} (hc : CS E h b o xs) (hl : xs.length ≤ 9223372036854775807) {d k a q : Nat} (hd : d + k ≤ xs.length) (ha : a = o + d := by rfl) (hq : q = k := by rfl) : RS E h (.slice (some ⟨b, a, none⟩) q 0) ((xs.drop d).take k) := by
  subst ha hq
  have hlen : ((xs.drop d).take q).length = q := by simp; omega
  refine ⟨by omega, b, o + d, by rw [hlen]; exact Wk.refl _, fun i x hi => ?_⟩
  rw [List.getElem?_take] at hi
  split at hi
  · rw [List.getElem?_drop] at hi
    obtain ⟨blk, u, h1, h2, h3⟩ := hc (d + i) x hi
    exact ⟨blk, u, h1, by rw [Nat.add_assoc]; exact h2, h3⟩
  · cases hi
theorem RS.tail {α : Type} {E : AH → Value → α → Prop} {h : AH} {b o : Nat} {x : α} {xs : List α} (hc : CS E h b o (x :: xs)) (hl : xs.length ≤ 1000000) {a q : Nat} (ha : a = o + 1 := by rfl) (hq : q = xs.length := by rfl) : RS E h (.slice (some ⟨b, a, none⟩) q 0) xs := by
  have := RS.part (d := 1) (k := xs.length) hc (by simp; omega) (by simp; omega) ha hq
  simpa using this
/-- one element goes out of a row of our own -/
theorem SepM.delI {M : Nat → Prop} {n : Nat} {hb h : AH} {Rs : List Res} (S : SepM M n hb h Rs) (j : Nat) {m b k c i : Nat} {xs : List Int} (hj : gt Rs j = some (.rc 3 1 m (.slice (some ⟨b, 0, none⟩) k c) k (xs.map (.int .i64)))) (hi : i < k) {K : Value → AH → Prop} {P : Program} {f : FuncId} {args : List Value}
    (hc : look h b = some ⟨xs.map (.int .i64), some (3, 1)⟩ → xs.length = k → ACalls P f args h (fun r h' => r = .slice (some ⟨b, 0, none⟩) (k - 1) 1 ∧ h' = h.set b (some ⟨(xs.eraseIdx i).map (.int .i64), some (3, 1)⟩)))
    (hk : ∀ h', SepM M n hb h' (st Rs j (.rc 3 1 m (.slice (some ⟨b, 0, none⟩) (k - 1) 1) (k - 1) ((xs.eraseIdx i).map (.int .i64)))) → K (.slice (some ⟨b, 0, none⟩) (k - 1) 1) h') : CallX P f args h K := by
  obtain ⟨F, ⟨b', h1, hge⟩, h2, _, _, h4⟩ := S.step hj
  rcases h1 with ⟨h1, h3, h5⟩ | ⟨h1, _⟩
  · simp only [Value.slice.injEq, Option.some.injEq, Addr.mk.injEq] at h1
    obtain ⟨⟨rfl, _⟩, _, rfl⟩ := h1
    obtain ⟨h3a, h3⟩ := only_some.1 h3
    have hlen : xs.length = k := by simpa using h5
    have hbl := look_lt h3
    refine CallX.same (hc h3 hlen) ?_
    rintro r h' ⟨rfl, rfl⟩
    refine hk _ (h4 _ _ F (by simp) ⟨b, .inl ⟨rfl, only_some.2 ⟨h3a, by rw [look_set hbl, if_pos rfl]⟩, by simp [List.length_eraseIdx_of_lt (show i < xs.length by omega), hlen]⟩, hge⟩ (fun i hi => ⟨by simpa using (h2 i hi).1, .inl hi⟩) fun i blk hf e => ?_)
    rw [look_set hbl, if_neg (fun hh => hf (by rw [hh]; exact h3a))]
    exact e
  · cases h1
/-- a fresh row of our own that is not empty -/
theorem SepM.madeRp {M : Nat → Prop} {n : Nat} {hb h : AH} {Rs : List Res} (S : SepM M n hb h Rs) {e : TypeId} {s k : Nat} {cells : List Value} {P : Program} {f : FuncId} {args : List Value} {K : Value → AH → Prop} (hc : ACalls P f args h (MadeR e s h k cells)) (h0 : 0 < k)
    (hk : ∀ b h', Le h h' → SepM M n hb h' (.rc e s n (.slice (some ⟨b, 0, none⟩) k 1) k cells :: Rs) → K (.slice (some ⟨b, 0, none⟩) k 1) h') : CallX P f args h K :=
  CallX.same hc fun r h' ⟨b, hn, hge, g⟩ => by
    rcases hn with ⟨rfl, h1, h2⟩ | ⟨_, hz, _⟩
    · exact hk _ h' g (S.add g (F := fun i => i = b) ⟨b, .inl ⟨rfl, only_some.2 ⟨rfl, h1⟩, h2⟩, Nat.le_trans S.nl hge⟩ fun i hi => by subst hi; exact ⟨hge, look_lt h1⟩)
    · omega

theorem cloneInt_c (h : AH) (v : Value) (xs : List Int) (hx : RI h v xs) (hl : xs.length ≤ 1000000000) : ACalls Try.prog 238 [v] h (MadeR 3 1 h xs.length (xs.map (.int .i64))) := by
  obtain ⟨hm, b, o, hw1, hc⟩ := hx
  refine ACalls.wk (args' := [.slice (some ⟨b, o, none⟩) xs.length 0]) ?_ (.cons hw1 .nil)
  refine ACalls.of Tt.tab Try.func238 rfl (by kernel_rfl) Try.ntmps238 _ rfl rfl (fun hw => ?_)
  have S := Sep.start h
  refine ⟨fun h0 _ => ?_, ?_⟩
  · have : xs = [] := List.length_eq_zero_iff.1 h0
    subst this
    refine BIf.yes rfl ?_
    exact (S.nilrc 3 1).finR 0 rfl
  · refine BIf.no rfl ?_
    refine S.new fun b1 g S => ?_
    have S := S.bx_rc 0 (k := 0) rfl rfl
    refine S.appNs (ie := Tt.ti3) (m := xs.length) 0 rfl S.le hc rfl (by omega) fun A c g S => ?_
    have F : FinX h (MadeR 3 1 h xs.length (xs.map (.int .i64))) (.slice A (0 + xs.length) c) g := by
      have S' : Sep h.length h g [.rc 3 1 h.length (.slice A (0 + xs.length) c) (0 + xs.length) (xs.map (.int .i64))] := S
      rw [Nat.zero_add] at S' ⊢
      exact S'.finR 0 rfl
    exact F

theorem sign_c (h : AH) (k : Nat) (hk : k ≤ 1000000) : ACalls Try.prog 126 [.int .i64 k] h (fun r h' => r = .int .i64 (sgn k) ∧ h' = h) := by
  refine ACalls.of Tt.tab Try.func126 rfl (by kernel_rfl) Try.ntmps126 _ rfl rfl (fun hw => ?_)
  refine TM.pos ?_
  refine WR.i64 ?_
  refine WR.i64 ?_
  exact FinX.keep hw (Le.refl _) rfl ⟨rfl, rfl⟩

theorem determinant_c : ∀ (rows : List (List Int)) (h : AH) (rv cv : Value) (cols : List Int), rows.length ≤ 6 → RII h rv rows → RI h cv cols → (∀ r ∈ rows, Small r) → cols.length ≤ 6 → Cols rows cols →
    ACalls Try.prog 229 [rv, cv] h (fun r h' => r = .int .i64 (det rows cols) ∧ h' = h)
  | [], h, rv, cv, cols, hl, hr, hc, hs, hcl, hcc => by
    obtain ⟨_, b1, o1, k1, c1⟩ := hr
    obtain ⟨_, b2, o2, k2, c2⟩ := hc
    refine ACalls.wk (args' := [.slice (some ⟨b1, o1, none⟩) 0 0, .slice (some ⟨b2, o2, none⟩) cols.length 0]) ?_ (.cons k1 (.cons k2 .nil))
    refine ACalls.of Tt.tab Try.func229 rfl (by kernel_rfl) Try.ntmps229 _ rfl rfl (fun hw => ?_)
    refine BIf.yes rfl ?_
    exact FinX.keep hw (Le.refl _) rfl ⟨rfl, rfl⟩
  | r :: rs, h, rv, cv, cols, hl, hr, hc, hs, hcl, hcc => by
    obtain ⟨_, b1, o1, k1, c1⟩ := hr
    obtain ⟨b2, o2, k2, hc⟩ := hc.can
    have c2 := hc.cells rfl
    simp only [List.length_cons] at hl
    refine ACalls.wk (args' := [.slice (some ⟨b1, o1, none⟩) (rs.length + 1) 0, .slice (some ⟨b2, o2, none⟩) cols.length 0]) ?_ (.cons k1 (.cons k2 .nil))
    refine ACalls.of Tt.tab Try.func229 rfl (by kernel_rfl) Try.ntmps229 _ rfl rfl (fun hw => ?_)
    have S0 := Sep.start h
    have hrs : RII h (.slice (some ⟨b1, o1 + 1, none⟩) rs.length 0) rs := RS.tail c1 (by omega)
    refine BIf.no (by simp; omega) ?_
    have hpw := pw6 (m := rs.length + 1) (by omega)
    have hpw1 := pw6 (m := rs.length) (by omega)
    refine ⟨⟨[0, 1, 5, 13, 14, 15], fun n' vs g => ∃ i : Nat, n' = cols.length - i ∧ i ≤ cols.length ∧ Sep h.length h g [] ∧
      vs = [.slice (some ⟨b1, o1, none⟩) (rs.length + 1) 0, .slice (some ⟨b2, o2, none⟩) cols.length 0, .int .i64 (sm i fun k => sgn k * ith r (ith cols k).toNat * det rs (cols.eraseIdx k)), .slice (some ⟨b2, o2, none⟩) cols.length 0, .int .i64 cols.length, .int .i64 i], _, ⟨0, rfl, Nat.zero_le _, S0, rfl⟩, ?_⟩⟩
    rintro n' vs g ⟨i, rfl, hi, S, rfl⟩
    refine BIf.mk (fun h2 => ?_) (fun h2 => ?_)
    · have hlt : i < cols.length := by simpa using h2
      have hci := hcc _ (ith_mem hlt)
      have hcr := hci.2 r List.mem_cons_self
      have hsr := hs r List.mem_cons_self (ith cols i).toNat
      have hpart := part_abs (k := i) hs hcl hi
      have hnext := part_abs (k := i + 1) hs hcl hlt
      simp only [sm] at hnext
      have hdt := det_abs rs (cols.eraseIdx i) (fun x hx => hs x (List.mem_cons_of_mem _ hx)) (Nat.le_trans (List.length_eraseIdx_le ..) hcl)
      have hterm := term_abs (k := i) hsr hdt
      have hsx : -9 ≤ sgn i * ith r (ith cols i).toNat ∧ sgn i * ith r (ith cols i).toNat ≤ 9 := by
        have := sgn_rng i
        rcases (by omega : sgn i = -1 ∨ sgn i = 0 ∨ sgn i = 1) with h | h | h <;> rw [h] <;> omega
      refine IdxX.mk (by omega) (by omega) ?_
      refine c2.ith S.le hlt ?_
      refine IdxX.mk (by omega) (by omega) ?_
      refine c1.row S.le (show 0 < (r :: rs).length by simp) fun b3 o3 c3 => ?_
      change CS EI h b3 o3 r at c3
      refine IdxX.mk (by omega) (by show ith cols i < (r.length : Int); omega) ?_
      refine c3.ith S.le hcr ?_
      refine BIf.mk (fun h3 => ?_) (fun h3 => ?_)
      · refine S.madeRp (cloneInt_c _ _ cols (RI.le _ _ _ _ S.le hc) (by omega)) (by omega) fun b4 g L S => ?_
        refine WR.i64 ?_
        refine S.delI 0 rfl hlt (fun h1 h2 => deleteInt_c g b4 _ i cols h1 h2 hlt) fun g S => ?_
        have hdc := S.rdc 0 rfl (by omega)
        refine DrawX.of Tt.tab follows_any [] [] [0, 1, 2, 3, 4, 5, 6, 7, 8, 9, 10, 11] rfl (by kernel_rfl) (by kernel_rfl) ?_
        refine QCall.of (fun g2 hl => sign_c g2 i (by omega)) rfl ?_
        refine WR.i64 ?_
        refine ⟨by omega, by omega, by omega, ?_⟩
        refine QCall.of (fun g2 hl => determinant_c rs g2 _ _ (cols.eraseIdx i) (by omega) (RII.le _ _ _ _ (S.le.trans hl) hrs) (RI.le _ _ _ _ hl hdc) (fun x hx => hs x (List.mem_cons_of_mem _ hx)) (Nat.le_trans (List.length_eraseIdx_le ..) hcl) (hcc.tail i)) rfl ?_
        refine WR.i64 ?_
        refine WR.i64 ?_
        refine WR.i64 ?_
        exact ⟨cols.length - (i + 1), by omega, i + 1, rfl, hlt, S.drop 0, rfl⟩
      · have h3 : ith r (ith cols i).toNat = 0 := by simpa using h3
        refine WR.i64 ?_
        refine ⟨cols.length - (i + 1), by omega, i + 1, rfl, hlt, S, ?_⟩
        simp only [sm, h3, Int.mul_zero, Int.zero_mul, Int.add_zero]
        rfl
    · have hi2 : i = cols.length := by simp at h2; omega
      subst hi2
      exact FinX.keep hw S.le rfl ⟨rfl, rfl⟩

end Go.Gl

/- Chapter 7: torsion orders, exponents, Bockstein numbers: the walks. No condition. -/
import Derived.Test.YtmphljkecbeplaaFnH2
set_option linter.unusedVariables false
set_option linter.unusedSimpArgs false
namespace Go.Gl
open Go.Proofs Go.Proofs.Ytmphljkecbeplaa Go.Pl

theorem divN_take {parts : List Int} {q : Int} {i : Nat} (h : i < parts.length) : divN (parts.take (i + 1)) q = divN (parts.take i) q + (if ith parts i % q = 0 then 1 else 0) := by
  unfold divN
  rw [filter_take h, List.length_append]
  unfold dvq
  by_cases hq : ith parts i % q = 0 <;> simp [hq]

theorem divided_c (h : AH) (f : Int) (v : Value) (parts : List Int) (p : Int) (r : Nat) (hx : RI h v parts) (hp : IsP p) (hr : r ≤ 10) (hl : parts.length ≤ 6) (hs : ∀ s ∈ parts, 1 ≤ s) :
    ACalls Try.prog 173 [.agg #[.int .i64 f, v], .int .i64 p, .int .i64 r] h (fun r' h' => r' = .int .i64 (divN parts (pwi p r)) ∧ h' = h) := by
  obtain ⟨b1, o1, k1, hx⟩ := hx.can
  have hpp := hp.rng
  refine ACalls.wk (args' := [.agg #[.int .i64 f, .slice (some ⟨b1, o1, none⟩) parts.length 0], .int .i64 p, .int .i64 r]) ?_ (.cons (Wk.agg (.cons (Wk.refl _) (.cons k1 .nil))) (.cons (Wk.refl _) (.cons (Wk.refl _) .nil)))
  refine ACalls.of Tt.tab Try.func173 rfl (by kernel_rfl) Try.ntmps173 _ rfl rfl (fun hw => ?_)
  have c1 := hx.cells rfl
  have S := Sep.start h
  refine S.new fun b3 g S => ?_
  refine ⟨⟨[1, 3, 6, 7, 8, 11, 12], fun n' vs g2 => ∃ i : Nat, n' = r - i ∧ i ≤ r ∧ g2 = g ∧ vs = [.int .i64 p, .pointer (some ⟨b3, 0, none⟩), .int .i64 0, .int .i64 (pwi p i), .int .i64 0, .int .i64 r, .int .i64 i], _, ⟨0, rfl, Nat.zero_le _, rfl, rfl⟩, ?_⟩⟩
  rintro n' vs g2 ⟨i, rfl, hi, rfl, rfl⟩
  refine BIf.mk (fun h2 => ?_) (fun h2 => ?_)
  · have hlt : i < r := by simpa using h2
    have h3 := pwi_rng hp (show i + 1 ≤ 10 by omega)
    refine WR.as (r := pwi p (i + 1)) rfl ?_
    refine WR.i64 ?_
    exact ⟨r - (i + 1), by omega, i + 1, rfl, hlt, rfl, rfl⟩
  have hi2 : i = r := by simp at h2; omega
  subst hi2
  have h3 := pwi_rng hp hr
  refine LoadX.same (v := .slice (some ⟨b1, o1, none⟩) parts.length 0) (S.at_ 0 rfl) rfl ?_
  refine ⟨⟨[6, 7, 8, 19, 20, 21], fun n' vs g3 => ∃ j : Nat, n' = parts.length - j ∧ j ≤ parts.length ∧ g3 = g2 ∧ vs = [.int .i64 0, .int .i64 (pwi p i), .int .i64 (divN (parts.take j) (pwi p i)), .slice (some ⟨b1, o1, none⟩) parts.length 0, .int .i64 parts.length, .int .i64 j], _, ⟨0, rfl, Nat.zero_le _, rfl, rfl⟩, ?_⟩⟩
  rintro n' vs g3 ⟨j, rfl, hj, rfl, rfl⟩
  refine BIf.mk (fun h2 => ?_) (fun h2 => ?_)
  · have hlt : j < parts.length := by simpa using h2
    have h4 := hs _ (ith_mem hlt)
    have h5 := divN_take (q := pwi p i) hlt
    have h6 := divN_le (parts.take j) (pwi p i)
    rw [List.length_take] at h6
    refine IdxX.mk (by omega) (by omega) ?_
    refine c1.ith S.le hlt ?_
    refine TM.pos ?_
    refine BIf.mk (fun h7 => ?_) (fun h7 => ?_)
    · have h7 : ith parts j % pwi p i = 0 := by simpa using h7
      rw [if_pos h7] at h5
      refine WR.i64 ?_
      refine WR.i64 ?_
      exact ⟨parts.length - (j + 1), by omega, j + 1, rfl, hlt, rfl, by rw [h5]; rfl⟩
    · have h7 : ¬ ith parts j % pwi p i = 0 := by simpa using h7
      rw [if_neg h7] at h5
      refine WR.i64 ?_
      exact ⟨parts.length - (j + 1), by omega, j + 1, rfl, hlt, rfl, by rw [h5]; rfl⟩
  have hj2 : j = parts.length := by simp at h2; omega
  subst hj2
  rw [List.take_length]
  exact FinX.keep hw S.le rfl ⟨rfl, rfl⟩

theorem l07Divided_c (h : AH) (v : Value) (parts : List Int) (p : Int) (r : Nat) (hx : RI h v parts) (hp : IsP p) (hr : r ≤ 10) (hl : parts.length ≤ 6) (hs : ∀ s ∈ parts, 1 ≤ s) :
    ACalls Try.prog 108 [v, .int .i64 p, .int .i64 r] h (fun r' h' => r' = .int .i64 (divN parts (pwi p r)) ∧ h' = h) := by
  obtain ⟨b1, o1, k1, hx⟩ := hx.can
  have hpp := hp.rng
  refine ACalls.wk (args' := [.slice (some ⟨b1, o1, none⟩) parts.length 0, .int .i64 p, .int .i64 r]) ?_ (.cons k1 (.cons (Wk.refl _) (.cons (Wk.refl _) .nil)))
  refine ACalls.of Tt.tab Try.func108 rfl (by kernel_rfl) Try.ntmps108 _ rfl rfl (fun hw => ?_)
  have c1 := hx.cells rfl
  refine ⟨⟨[0, 1, 2, 6, 7, 8], fun n' vs g2 => ∃ i : Nat, n' = r - i ∧ i ≤ r ∧ g2 = h ∧ vs = [.slice (some ⟨b1, o1, none⟩) parts.length 0, .int .i64 p, .int .i64 ((r : Int) - i), .int .i64 0, .int .i64 (pwi p i), .int .i64 0], _, ⟨0, rfl, Nat.zero_le _, rfl, by simp; rfl⟩, ?_⟩⟩
  rintro n' vs g2 ⟨i, rfl, hi, rfl, rfl⟩
  refine BIf.mk (fun h2 => ?_) (fun h2 => ?_)
  · have hlt : i < r := by simp at h2; omega
    have h3 := pwi_rng hp (show i + 1 ≤ 10 by omega)
    refine WR.as (r := pwi p (i + 1)) rfl ?_
    refine WR.as (r := (r : Int) - ((i + 1 : Nat) : Int)) (by omega) ?_
    exact ⟨r - (i + 1), by omega, i + 1, rfl, hlt, rfl, rfl⟩
  have hi2 : i = r := by simp at h2; omega
  subst hi2
  have h3 := pwi_rng hp hr
  refine ⟨⟨[0, 6, 7, 8, 9], fun n' vs g3 => ∃ j : Nat, n' = parts.length - j ∧ j ≤ parts.length ∧ g3 = g2 ∧ vs = [.slice (some ⟨b1, o1, none⟩) parts.length 0, .int .i64 0, .int .i64 (pwi p i), .int .i64 (divN (parts.take j) (pwi p i)), .int .i64 j], _, ⟨0, rfl, Nat.zero_le _, rfl, rfl⟩, ?_⟩⟩
  rintro n' vs g3 ⟨j, rfl, hj, rfl, rfl⟩
  refine BIf.mk (fun h2 => ?_) (fun h2 => ?_)
  · have hlt : j < parts.length := by simpa using h2
    have h4 := hs _ (ith_mem hlt)
    have h5 := divN_take (q := pwi p i) hlt
    have h6 := divN_le (parts.take j) (pwi p i)
    rw [List.length_take] at h6
    refine IdxX.mk (by omega) (by omega) ?_
    refine c1.ith (Le.refl _) hlt ?_
    refine TM.pos ?_
    refine BIf.mk (fun h7 => ?_) (fun h7 => ?_)
    · have h7 : ith parts j % pwi p i = 0 := by simpa using h7
      rw [if_pos h7] at h5
      refine WR.i64 ?_
      refine WR.i64 ?_
      exact ⟨parts.length - (j + 1), by omega, j + 1, rfl, hlt, rfl, by rw [h5]; rfl⟩
    · have h7 : ¬ ith parts j % pwi p i = 0 := by simpa using h7
      rw [if_neg h7] at h5
      refine WR.i64 ?_
      exact ⟨parts.length - (j + 1), by omega, j + 1, rfl, hlt, rfl, by rw [h5]; rfl⟩
  have hj2 : j = parts.length := by simp at h2; omega
  subst hj2
  rw [List.take_length]
  exact FinX.keep hw (Le.refl _) rfl ⟨rfl, rfl⟩

/-- the numbers of a page, one more -/
theorem bsPage_eq (xs : List STor) (q : Int) : bsPage xs q = tab xs.length (bsOwn xs q) := rfl

theorem bockstein_c (h : AH) (v : Value) (xs : List STor) (p : Int) (r : Nat) (hx : RT h v xs) (ok : TorsOk xs) (hp : IsP p) (hr : r ≤ 10) :
    ACalls Try.prog 110 [v, .int .i64 p, .int .i64 r] h (Made OI h (bsPage xs (pwi p r))) := by
  obtain ⟨b1, o1, k1, hx⟩ := hx.can
  have c1 := hx.cells rfl
  have hlen := ok.len
  refine ACalls.madeI (ACalls.wk (args' := [.slice (some ⟨b1, o1, none⟩) xs.length 0, .int .i64 p, .int .i64 r]) ?_ (.cons k1 (.cons (Wk.refl _) (.cons (Wk.refl _) .nil))))
  refine ACalls.of Tt.tab Try.func110 rfl (by kernel_rfl) Try.ntmps110 _ rfl rfl (fun hw => ?_)
  have S := Sep.start h
  refine S.new fun b3 g S => ?_
  have S := S.bx_rc 0 (k := 0) rfl rfl
  rw [bsPage_eq]
  refine ⟨⟨[0, 1, 2, 6, 7, 12, 13, 14], fun n' vs g2 => ∃ (i b3 : Nat), n' = xs.length - i ∧ i ≤ xs.length ∧ Sep h.length h g2 [.rc tI 1 h.length (.slice (some ⟨b3, 0, none⟩) i 1) i ((tab i (bsOwn xs (pwi p r))).map (.int .i64))] ∧
    vs = [.slice (some ⟨b1, o1, none⟩) xs.length 0, .int .i64 p, .int .i64 r, .slice none 0 0, .slice (some ⟨b3, 0, none⟩) i 1, .slice (some ⟨b1, o1, none⟩) xs.length 0, .int .i64 xs.length, .int .i64 i], _, ⟨0, b3, rfl, Nat.zero_le _, S, rfl⟩, ?_⟩⟩
  rintro n' vs g2 ⟨i, b3, rfl, hi, S, rfl⟩
  refine BIf.mk (fun h2 => ?_) (fun h2 => ?_)
  · have hlt : i < xs.length := by simpa using h2
    have ti := ok.el i
    have t1 := ti.few
    have t2 := ti.free
    have t3 := divN_le (tor xs i).parts (pwi p r)
    refine IdxX.mk (by omega) (by omega) ?_
    refine CT.load c1 S.le hlt fun b4 o4 h4 => ?_
    refine S.new fun b5 g S => ?_
    refine S.put 0 rfl fun g S => ?_
    refine DrawX.of Tt.tab follows_any [] [] [0, 1, 2, 3, 4, 5, 6, 7] rfl (by kernel_rfl) (by kernel_rfl) ?_
    refine LoadX.same (v := .int .i64 (tor xs i).free) (S.at_ 0 rfl) rfl ?_
    refine LoadX.same (v := .agg #[.int .i64 (tor xs i).free, .slice (some ⟨b4, o4, none⟩) (tor xs i).parts.length 0]) (S.at_ 0 rfl) rfl ?_
    refine QCall.of (fun g2 hl => divided_c g2 _ _ (tor xs i).parts p r (RI.le _ _ _ _ (S.le.trans hl) h4) hp hr t1 ti.pos) rfl ?_
    refine WR.i64 ?_
    refine BIf.mk (fun h3 => ?_) (fun h3 => ?_)
    · have h3 : 0 < i := by simp at h3; omega
      have tj := ok.el (i - 1)
      have u1 := tj.few
      have u3 := divN_le (tor xs (i - 1)).parts (pwi p r)
      refine WR.as (r := ((i - 1 : Nat) : Int)) (by omega) ?_
      refine IdxX.mk (by omega) (by omega) ?_
      refine CT.load c1 S.le (show i - 1 < xs.length by omega) fun b6 o6 h6 => ?_
      refine CallX.same (divided_c _ _ _ (tor xs (i - 1)).parts p r (RI.le _ _ _ _ S.le h6) hp hr u1 tj.pos) ?_
      rintro r' g' ⟨rfl, rfl⟩
      have eb : bsOwn xs (pwi p r) i = (tor xs i).free + divN (tor xs i).parts (pwi p r) + divN (tor xs (i - 1)).parts (pwi p r) := by unfold bsOwn; rw [if_neg (by omega)]
      refine WR.as (r := bsOwn xs (pwi p r) i) eb.symm ?_
      refine S.new fun b7 g S => ?_
      refine S.app 1 rfl rfl rfl (by omega) fun b8 g S => ?_
      refine WR.i64 ?_
      exact ⟨xs.length - (i + 1), by omega, i + 1, b8, rfl, hlt, by rw [tab_succ, List.map_append]; exact S.drop 0, rfl⟩
    · have h3 : i = 0 := by simp at h3; omega
      refine S.new fun b7 g S => ?_
      refine S.app 1 rfl rfl rfl (by omega) fun b8 g S => ?_
      refine WR.i64 ?_
      refine ⟨xs.length - (i + 1), by omega, i + 1, b8, rfl, hlt, ?_, rfl⟩
      rw [tab_succ, List.map_append]
      have e : bsOwn xs (pwi p r) i = (tor xs i).free + divN (tor xs i).parts (pwi p r) := by unfold bsOwn; rw [if_pos h3, Int.add_zero]
      rw [e]
      exact S.drop 0
  · have hi2 : i = xs.length := by simp at h2; omega
    subst hi2
    exact (S.rc_tr 0 rfl (by rw [tab_length]; omega)).fin 0 rfl

theorem l07Page_c (h : AH) (v : Value) (xs : List STor) (p : Int) (r : Nat) (hx : RT h v xs) (ok : TorsOk xs) (hp : IsP p) (hr : r ≤ 10) :
    ACalls Try.prog 112 [v, .int .i64 p, .int .i64 r] h (Made OI h (bsPage xs (pwi p r))) := by
  obtain ⟨b1, o1, k1, hx⟩ := hx.can
  have c1 := hx.cells rfl
  have hlen := ok.len
  refine ACalls.madeI (ACalls.wk (args' := [.slice (some ⟨b1, o1, none⟩) xs.length 0, .int .i64 p, .int .i64 r]) ?_ (.cons k1 (.cons (Wk.refl _) (.cons (Wk.refl _) .nil))))
  refine ACalls.of Tt.tab Try.func112 rfl (by kernel_rfl) Try.ntmps112 _ rfl rfl (fun hw => ?_)
  have S := Sep.start h
  refine S.new fun b3 g S => ?_
  have S := S.bx_rc 0 (k := 0) rfl rfl
  rw [bsPage_eq]
  refine ⟨⟨[0, 1, 2, 6, 7, 8], fun n' vs g2 => ∃ (i b3 : Nat), n' = xs.length - i ∧ i ≤ xs.length ∧ Sep h.length h g2 [.rc tI 1 h.length (.slice (some ⟨b3, 0, none⟩) i 1) i ((tab i (bsOwn xs (pwi p r))).map (.int .i64))] ∧
    vs = [.slice (some ⟨b1, o1, none⟩) xs.length 0, .int .i64 p, .int .i64 r, .slice none 0 0, .slice (some ⟨b3, 0, none⟩) i 1, .int .i64 i], _, ⟨0, b3, rfl, Nat.zero_le _, S, rfl⟩, ?_⟩⟩
  rintro n' vs g2 ⟨i, b3, rfl, hi, S, rfl⟩
  refine BIf.mk (fun h2 => ?_) (fun h2 => ?_)
  · have hlt : i < xs.length := by simpa using h2
    have ti := ok.el i
    have t1 := ti.few
    have t2 := ti.free
    have t3 := divN_le (tor xs i).parts (pwi p r)
    refine DrawX.of Tt.tab follows_any [] [] [0, 1, 2, 3, 4, 5, 6, 7, 8, 9, 10, 11, 12, 13, 14] rfl (by kernel_rfl) (by kernel_rfl) ?_
    refine IdxX.mk (by omega) (by omega) ?_
    refine CT.free c1 S.le hlt ?_
    refine IdxX.mk (by omega) (by omega) ?_
    refine CT.parts c1 S.le hlt fun b4 o4 h4 => ?_
    refine QCall.of (fun g2 hl => l07Divided_c g2 _ (tor xs i).parts p r (RI.le _ _ _ _ (S.le.trans hl) h4) hp hr t1 ti.pos) rfl ?_
    refine WR.i64 ?_
    refine BIf.mk (fun h3 => ?_) (fun h3 => ?_)
    · have h3 : 0 < i := by simp at h3; omega
      have tj := ok.el (i - 1)
      have u1 := tj.few
      have u3 := divN_le (tor xs (i - 1)).parts (pwi p r)
      refine WR.as (r := ((i - 1 : Nat) : Int)) (by omega) ?_
      refine IdxX.mk (by omega) (by omega) ?_
      refine CT.parts c1 S.le (show i - 1 < xs.length by omega) fun b6 o6 h6 => ?_
      refine CallX.same (l07Divided_c _ _ (tor xs (i - 1)).parts p r (RI.le _ _ _ _ S.le h6) hp hr u1 tj.pos) ?_
      rintro r' g' ⟨rfl, rfl⟩
      have eb : bsOwn xs (pwi p r) i = (tor xs i).free + divN (tor xs i).parts (pwi p r) + divN (tor xs (i - 1)).parts (pwi p r) := by unfold bsOwn; rw [if_neg (by omega)]
      refine WR.as (r := bsOwn xs (pwi p r) i) eb.symm ?_
      refine S.new fun b7 g S => ?_
      refine S.app 0 rfl rfl rfl (by omega) fun b8 g S => ?_
      refine WR.i64 ?_
      exact ⟨xs.length - (i + 1), by omega, i + 1, b8, rfl, hlt, by rw [tab_succ, List.map_append]; exact S, rfl⟩
    · have h3 : i = 0 := by simp at h3; omega
      refine S.new fun b7 g S => ?_
      refine S.app 0 rfl rfl rfl (by omega) fun b8 g S => ?_
      refine WR.i64 ?_
      refine ⟨xs.length - (i + 1), by omega, i + 1, b8, rfl, hlt, ?_, rfl⟩
      rw [tab_succ, List.map_append]
      have e : bsOwn xs (pwi p r) i = (tor xs i).free + divN (tor xs i).parts (pwi p r) := by unfold bsOwn; rw [if_pos h3, Int.add_zero]
      rw [e]
      exact S
  · have hi2 : i = xs.length := by simp at h2; omega
    subst hi2
    exact (S.rc_tr 0 rfl (by rw [tab_length]; omega)).fin 0 rfl

theorem l07Code_c (h : AH) (v : Value) (x : SWhole) (p : Int) (hx : RWhole h v x) : ACalls Try.prog 107 [v, .int .i64 p] h (fun r h' => r = .int .i64 (if wholeOk x then if prime p then 0 else 2 else 1) ∧ h' = h) := by
  obtain ⟨b1, o1, b2, o2, kx, qx⟩ := hx.can
  refine ACalls.wk (args' := [.agg #[.slice (some ⟨b1, o1, none⟩) x.dims.length 0, .slice (some ⟨b2, o2, none⟩) x.maps.length 0], .int .i64 p]) ?_ (.cons kx (.cons (Wk.refl _) .nil))
  refine ACalls.of Tt.tab Try.func107 rfl (by kernel_rfl) Try.ntmps107 _ rfl rfl (fun hw => ?_)
  have S := Sep.start h
  refine S.new fun b3 g S => ?_
  refine LoadX.same (v := .agg #[.slice (some ⟨b1, o1, none⟩) x.dims.length 0, .slice (some ⟨b2, o2, none⟩) x.maps.length 0]) (S.at_ 0 rfl) rfl ?_
  refine CallX.same (l07Is_c _ _ x ⟨_, _, rfl, qx.le S.le⟩) ?_
  rintro r g' ⟨rfl, rfl⟩
  refine BIf.mk (fun e1 => ?_) (fun e1 => ?_)
  · have e1 : wholeOk x = false := by simpa using e1
    exact FinX.keep hw S.le rfl ⟨by rw [e1]; rfl, rfl⟩
  have e1 : wholeOk x = true := by simpa using e1
  rw [e1]
  refine CallX.same (l01Prime_c _ p) ?_
  rintro r g' ⟨rfl, rfl⟩
  refine BIf.mk (fun e2 => ?_) (fun e2 => ?_)
  · have e2 : prime p = false := by simpa using e2
    exact FinX.keep hw S.le rfl ⟨by rw [e2]; rfl, rfl⟩
  have e2 : prime p = true := by simpa using e2
  exact FinX.keep hw S.le rfl ⟨by rw [e2]; rfl, rfl⟩

theorem isP_of {p : Int} (h : prime p = true) : IsP p := by
  unfold prime at h
  unfold IsP
  exact of_decide_eq_true h

theorem bockNI_c (h : AH) (v : Value) (x : SWhole) (hx : RWhole h v x) (p r : Int) : ACalls Try.prog 49 [v, .int .i64 p, .int .i64 r] h (MadeC OI h (bockN x p r).1 (bockN x p r).2) := by
  obtain ⟨b1, o1, b2, o2, kx, qx⟩ := hx.can
  refine ACalls.wk (args' := [.agg #[.slice (some ⟨b1, o1, none⟩) x.dims.length 0, .slice (some ⟨b2, o2, none⟩) x.maps.length 0], .int .i64 p, .int .i64 r]) ?_ (.cons kx (.cons (Wk.refl _) (.cons (Wk.refl _) .nil)))
  refine ACalls.of Tt.tab Try.func49 rfl (by kernel_rfl) Try.ntmps49 _ rfl rfl (fun hw => ?_)
  have S := Sep.start h
  refine S.new fun b3 g S => ?_
  refine LoadX.same (v := .agg #[.slice (some ⟨b1, o1, none⟩) x.dims.length 0, .slice (some ⟨b2, o2, none⟩) x.maps.length 0]) (S.at_ 0 rfl) rfl ?_
  refine CallX.same (isWholeI_c _ _ x ⟨_, _, rfl, qx.le S.le⟩) ?_
  rintro r' g' ⟨rfl, rfl⟩
  unfold bockN
  refine BIf.mk (fun e1 => ?_) (fun e1 => ?_)
  · have e1 : wholeOk x = false := by simpa using e1
    rw [e1]
    exact S.nilCI
  have e1 : wholeOk x = true := by simpa using e1
  rw [e1]
  refine CallX.same (isPrime_c _ p) ?_
  rintro r' g' ⟨rfl, rfl⟩
  refine BIf.mk (fun e2 => ?_) (fun e2 => ?_)
  · have e2 : prime p = false := by simpa using e2
    rw [e2]
    refine BIf.yes rfl ?_
    exact S.nilCI
  have e2 : prime p = true := by simpa using e2
  rw [e2]
  refine CallX.same (between_c _ r 1 10) ?_
  rintro r' g' ⟨rfl, rfl⟩
  refine BIf.mk (fun e3 => ?_) (fun e3 => ?_)
  · have e3 : decide (1 ≤ r ∧ r ≤ 10) = false := by simpa only [Bool.not_eq_true'] using e3
    rw [e3]
    exact S.nilCI
  have e3 : decide (1 ≤ r ∧ r ≤ 10) = true := by simpa only [Bool.not_eq_false'] using e3
  rw [e3]
  have e4 := of_decide_eq_true e3
  obtain ⟨n, rfl⟩ : ∃ n : Nat, r = n := ⟨r.toNat, by omega⟩
  rw [Int.toNat_natCast]
  refine LoadX.same (v := .agg #[.slice (some ⟨b1, o1, none⟩) x.dims.length 0, .slice (some ⟨b2, o2, none⟩) x.maps.length 0]) (S.at_ 0 rfl) rfl ?_
  refine CallX.same (homologyI_c _ _ x ⟨_, _, rfl, qx.le S.le⟩ e1) ?_
  rintro r' g' ⟨b4, o4, rfl, h4, L⟩
  have S := S.grow L
  refine S.made OI.fr (bockstein_c _ _ (homol x) p n (RT.le _ _ _ _ (fresh_sub _ _) h4) (homol_ok e1) (isP_of e2) (by omega)) fun b5 o5 g S => ?_
  exact S.finC 0 rfl

theorem bockNS_c (h : AH) (v : Value) (x : SWhole) (hx : RWhole h v x) (p r : Int) : ACalls Try.prog 48 [v, .int .i64 p, .int .i64 r] h (MadeC OI h (bockN x p r).1 (bockN x p r).2) := by
  obtain ⟨b1, o1, b2, o2, kx, qx⟩ := hx.can
  refine ACalls.wk (args' := [.agg #[.slice (some ⟨b1, o1, none⟩) x.dims.length 0, .slice (some ⟨b2, o2, none⟩) x.maps.length 0], .int .i64 p, .int .i64 r]) ?_ (.cons kx (.cons (Wk.refl _) (.cons (Wk.refl _) .nil)))
  refine ACalls.of Tt.tab Try.func48 rfl (by kernel_rfl) Try.ntmps48 _ rfl rfl (fun hw => ?_)
  have S := Sep.start h
  refine S.new fun b3 g S => ?_
  refine LoadX.same (v := .agg #[.slice (some ⟨b1, o1, none⟩) x.dims.length 0, .slice (some ⟨b2, o2, none⟩) x.maps.length 0]) (S.at_ 0 rfl) rfl ?_
  refine CallX.same (l07Code_c _ _ x p ⟨_, _, rfl, qx.le S.le⟩) ?_
  rintro r' g' ⟨rfl, rfl⟩
  unfold bockN
  cases e1 : wholeOk x with
  | false =>
    refine BIf.yes rfl ?_
    exact S.nilCI
  | true =>
  cases e2 : prime p with
  | false =>
    refine BIf.yes rfl ?_
    exact S.nilCI
  | true =>
  refine BIf.no rfl ?_
  refine CallX.same (l01In_c _ r 1 10) ?_
  rintro r' g' ⟨rfl, rfl⟩
  refine BIf.mk (fun e3 => ?_) (fun e3 => ?_)
  · have e3 : decide (1 ≤ r ∧ r ≤ 10) = false := by simpa only [Bool.not_eq_true'] using e3
    rw [e3]
    exact S.nilCI
  have e3 : decide (1 ≤ r ∧ r ≤ 10) = true := by simpa only [Bool.not_eq_false'] using e3
  rw [e3]
  have e4 := of_decide_eq_true e3
  obtain ⟨n, rfl⟩ : ∃ n : Nat, r = n := ⟨r.toNat, by omega⟩
  rw [Int.toNat_natCast]
  refine LoadX.same (v := .agg #[.slice (some ⟨b1, o1, none⟩) x.dims.length 0, .slice (some ⟨b2, o2, none⟩) x.maps.length 0]) (S.at_ 0 rfl) rfl ?_
  refine CallX.same (l07Homology_c _ _ x ⟨_, _, rfl, qx.le S.le⟩ e1) ?_
  rintro r' g' ⟨b4, o4, rfl, h4, L⟩
  have S := S.grow L
  refine S.made OI.fr (l07Page_c _ _ (homol x) p n (RT.le _ _ _ _ (fresh_sub _ _) h4) (homol_ok e1) (isP_of e2) (by omega)) fun b5 o5 g S => ?_
  exact S.finC 0 rfl

end Go.Gl

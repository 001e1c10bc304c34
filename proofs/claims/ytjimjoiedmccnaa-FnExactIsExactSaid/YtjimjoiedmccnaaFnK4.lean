/- Chapter 5: IsExact. No condition. -/
import Derived.Test.YtjimjoiedmccnaaFnK2
import Derived.Test.YtjimjoiedmccnaaFnS1
set_option linter.unusedVariables false
set_option linter.unusedSimpArgs false
namespace Go.Gl
open Go.Proofs Go.Proofs.Ytjimjoiedmccnaa Go.Pl


theorem equalI_c (h : AH) (v w : Value) (xs ys : List Int) (hx : RI h v xs) (hy : RI h w ys) : ACalls Try.prog 199 [v, w] h (fun r h' => r = .bool (decide (xs = ys)) ∧ h' = h) := by
  obtain ⟨m1, b1, o1, k1, c1⟩ := hx
  obtain ⟨m2, b2, o2, k2, c2⟩ := hy
  refine ACalls.wk (args' := [.slice (some ⟨b1, o1, none⟩) xs.length 0, .slice (some ⟨b2, o2, none⟩) ys.length 0]) ?_ (.cons k1 (.cons k2 .nil))
  refine ACalls.of Tt.tab Try.func199 rfl (by kernel_rfl) Try.ntmps199 _ rfl rfl (fun hw => ?_)
  refine BIf.mk (fun h1 => ?_) (fun h1 => ?_)
  · have h1 : ¬ xs.length = ys.length := by simp at h1; omega
    exact FinX.keep hw (Le.refl _) rfl ⟨by congr 1; simp; rintro rfl; exact h1 rfl, rfl⟩
  have h1 : xs.length = ys.length := by simp at h1; omega
  refine ⟨⟨[0, 1, 12, 13], fun n' vs g => ∃ i : Nat, n' = xs.length - i ∧ i ≤ xs.length ∧ g = h ∧ (∀ k, k < i → ith xs k = ith ys k) ∧
    vs = [.slice (some ⟨b1, o1, none⟩) xs.length 0, .slice (some ⟨b2, o2, none⟩) ys.length 0, .int .i64 xs.length, .int .i64 i], _, ⟨0, rfl, Nat.zero_le _, rfl, fun k hk => by omega, rfl⟩, ?_⟩⟩
  rintro n' vs g ⟨i, rfl, hi, rfl, hz, rfl⟩
  refine BIf.mk (fun h2 => ?_) (fun h2 => ?_)
  · have hlt : i < xs.length := by simpa using h2
    refine DrawX.of Tt.tab follows_any [] [] [0, 1, 2, 3, 4, 5, 6, 7, 8] rfl (by kernel_rfl) (by kernel_rfl) ?_
    refine IdxX.mk (by omega) (by omega) ?_
    refine c1.ith (Le.refl _) hlt ?_
    refine IdxX.mk (by omega) (by omega) ?_
    refine c2.ith (Le.refl _) (show i < ys.length by omega) ?_
    refine BIf.mk (fun h3 => ?_) (fun h3 => ?_)
    · have h3 : ¬ ith xs i = ith ys i := by simpa using h3
      exact FinX.keep hw (Le.refl _) rfl ⟨by congr 1; simp; rintro rfl; exact h3 rfl, rfl⟩
    · have h3 : ith xs i = ith ys i := by simpa using h3
      refine WR.i64 ?_
      refine ⟨xs.length - (i + 1), by omega, i + 1, rfl, hlt, rfl, fun k hk => ?_, rfl⟩
      rcases (by omega : k < i ∨ k = i) with h4 | rfl
      · exact hz k h4
      · exact h3
  · have hi2 : i = xs.length := by simp at h2; omega
    subst hi2
    refine FinX.keep hw (Le.refl _) rfl ⟨?_, rfl⟩
    have : xs = ys := ext_ith h1 hz
    simp [this]

theorem equalII_c (h : AH) (v w : Value) (xs ys : List (List Int)) (hx : RII h v xs) (hy : RII h w ys) : ACalls Try.prog 198 [v, w, .func (.func 199) #[] #[]] h (fun r h' => r = .bool (sameSp xs ys) ∧ h' = h) := by
  obtain ⟨m1, b1, o1, k1, c1⟩ := hx
  obtain ⟨m2, b2, o2, k2, c2⟩ := hy
  unfold sameSp
  refine ACalls.wk (args' := [.slice (some ⟨b1, o1, none⟩) xs.length 0, .slice (some ⟨b2, o2, none⟩) ys.length 0, .func (.func 199) #[] #[]]) ?_ (.cons k1 (.cons k2 (.cons (Wk.refl _) .nil)))
  refine ACalls.of Tt.tab Try.func198 rfl (by kernel_rfl) Try.ntmps198 _ rfl rfl (fun hw => ?_)
  refine BIf.mk (fun h1 => ?_) (fun h1 => ?_)
  · have h1 : ¬ xs.length = ys.length := by simp at h1; omega
    exact FinX.keep hw (Le.refl _) rfl ⟨by congr 1; simp; rintro rfl; exact h1 rfl, rfl⟩
  have h1 : xs.length = ys.length := by simp at h1; omega
  refine ⟨⟨[1, 2, 15, 16, 17], fun n' vs g => ∃ i : Nat, n' = xs.length - i ∧ i ≤ xs.length ∧ g = h ∧ (∀ k, k < i → row xs k = row ys k) ∧
    vs = [.slice (some ⟨b2, o2, none⟩) ys.length 0, .func (.func 199) #[] #[], .slice (some ⟨b1, o1, none⟩) xs.length 0, .int .i64 xs.length, .int .i64 i], _, ⟨0, rfl, Nat.zero_le _, rfl, fun k hk => by omega, rfl⟩, ?_⟩⟩
  rintro n' vs g ⟨i, rfl, hi, rfl, hz, rfl⟩
  refine BIf.mk (fun h2 => ?_) (fun h2 => ?_)
  · have hlt : i < xs.length := by simpa using h2
    refine IdxX.mk (by omega) (by omega) ?_
    refine c1.rowY (Le.refl _) hlt fun b3 o3 h3 => ?_
    refine IdxX.mk (by omega) (by omega) ?_
    refine c2.rowY (Le.refl _) (show i < ys.length by omega) fun b4 o4 h4 => ?_
    refine CallX.same (equalI_c g _ _ (row xs i) (row ys i) h3 h4) ?_
    rintro r g ⟨rfl, rfl⟩
    refine BIf.mk (fun h5 => ?_) (fun h5 => ?_)
    · have h5 : ¬ row xs i = row ys i := by simpa using h5
      exact FinX.keep hw (Le.refl _) rfl ⟨by congr 1; simp; rintro rfl; exact h5 rfl, rfl⟩
    · have h5 : row xs i = row ys i := by simpa using h5
      refine WR.i64 ?_
      refine ⟨xs.length - (i + 1), by omega, i + 1, rfl, hlt, rfl, fun k hk => ?_, rfl⟩
      rcases (by omega : k < i ∨ k = i) with h6 | rfl
      · exact hz k h6
      · exact h5
  · have hi2 : i = xs.length := by simp at h2; omega
    subst hi2
    refine FinX.keep hw (Le.refl _) rfl ⟨?_, rfl⟩
    have : xs = ys := ext_row h1 hz
    simp [this]
/-- what one table makes is what the next one makes 0 -/
def sameAt (p : Int) (n : Nat) (a b : List (List Int)) : Bool := sameSp (ech p a) (kern p n b)

theorem sameSpace_c (h : AH) (p : Int) (m n : Nat) (va vb : Value) (a b : List (List Int)) (hp : IsP p) (hm : m ≤ 1000) (hn : n ≤ 1000) (ha : RII h va a) (hb : RII h vb b) (ma : Mat p m a) (mb : Mat p n b) (la : a.length ≤ 1000) (lb : b.length ≤ 1000) :
    ACalls Try.prog 167 [.int .i64 p, va, vb] h (fun r h' => r = .bool (sameAt p n a b) ∧ h' = h) := by
  obtain ⟨b1, o1, k1, ha⟩ := ha.can
  obtain ⟨b2, o2, k2, hb⟩ := hb.can
  refine ACalls.wk (args' := [.int .i64 p, .slice (some ⟨b1, o1, none⟩) a.length 0, .slice (some ⟨b2, o2, none⟩) b.length 0]) ?_ (.cons (Wk.refl _) (.cons k1 (.cons k2 .nil)))
  refine ACalls.of Tt.tab Try.func167 rfl (by kernel_rfl) Try.ntmps167 _ rfl rfl (fun hw => ?_)
  have S := Sep.start h
  refine S.made OII.fr (reduce_c _ p m _ a hp (by omega) ha ma (by omega)) fun b3 o3 g S => ?_
  refine S.made OII.fr (kernel_c _ p n _ b hp hn (RII.le _ _ _ _ S.le hb) mb lb) fun b4 o4 g S => ?_
  refine CallX.same (equalII_c g _ _ _ _ (S.rd OII.reads 1 rfl) (S.rd OII.reads 0 rfl)) ?_
  rintro r g' ⟨rfl, rfl⟩
  exact FinX.keep hw S.le rfl ⟨rfl, rfl⟩
def exactOk (c : SCouple) : Bool := sameAt c.prime c.e.toNat c.i c.j && sameAt c.prime c.d.toNat c.j c.k && sameAt c.prime c.d.toNat c.k c.i
def isExact (c : SCouple) : Bool × Int := if coupleOk c then (exactOk c, 0) else (false, 1)

theorem isExact_c (h : AH) (v : Value) (x : SCouple) (hx : RCouple h v x) (hc : CoupleOk x) : ACalls Try.prog 104 [v] h (fun r h' => r = .bool (exactOk x) ∧ h' = h) := by
  obtain ⟨b1, o1, b2, o2, b3, o3, kx, q1, q2, q3⟩ := hx.can
  refine ACalls.wk (args' := [.agg #[.int .i64 x.prime, .int .i64 x.d, .int .i64 x.e, .slice (some ⟨b1, o1, none⟩) x.i.length 0, .slice (some ⟨b2, o2, none⟩) x.j.length 0, .slice (some ⟨b3, o3, none⟩) x.k.length 0]]) ?_ (.cons kx .nil)
  refine ACalls.of Tt.tab Try.func104 rfl (by kernel_rfl) Try.ntmps104 _ rfl rfl (fun hw => ?_)
  have S := Sep.start h
  obtain ⟨p, d, e, li, lj, lk, mi, mj, mk⟩ := hc
  have hp := prime_isP p
  refine S.new fun b g S => ?_
  have q1 := RII.le _ _ _ _ S.le q1
  have q2 := RII.le _ _ _ _ S.le q2
  have q3 := RII.le _ _ _ _ S.le q3
  unfold exactOk
  refine LoadX.same (v := .int .i64 x.prime) (S.at_ 0 rfl) rfl ?_
  refine LoadX.same (v := .slice (some ⟨b1, o1, none⟩) x.i.length 0) (S.at_ 0 rfl) rfl ?_
  refine LoadX.same (v := .slice (some ⟨b2, o2, none⟩) x.j.length 0) (S.at_ 0 rfl) rfl ?_
  refine CallX.same (sameSpace_c _ _ x.d.toNat x.e.toNat _ _ x.i x.j hp (by omega) (by omega) q1 q2 mi mj (by omega) (by omega)) ?_
  rintro r g ⟨rfl, rfl⟩
  refine BIf.mk (fun h1 => ?_) (fun h1 => ?_)
  · rw [h1, Bool.true_and]
    refine LoadX.same (v := .int .i64 x.prime) (S.at_ 0 rfl) rfl ?_
    refine LoadX.same (v := .slice (some ⟨b2, o2, none⟩) x.j.length 0) (S.at_ 0 rfl) rfl ?_
    refine LoadX.same (v := .slice (some ⟨b3, o3, none⟩) x.k.length 0) (S.at_ 0 rfl) rfl ?_
    refine CallX.same (sameSpace_c _ _ x.e.toNat x.d.toNat _ _ x.j x.k hp (by omega) (by omega) q2 q3 mj mk (by omega) (by omega)) ?_
    rintro r g ⟨rfl, rfl⟩
    refine BIf.mk (fun h2 => ?_) (fun h2 => ?_)
    · rw [h2, Bool.true_and]
      refine LoadX.same (v := .int .i64 x.prime) (S.at_ 0 rfl) rfl ?_
      refine LoadX.same (v := .slice (some ⟨b3, o3, none⟩) x.k.length 0) (S.at_ 0 rfl) rfl ?_
      refine LoadX.same (v := .slice (some ⟨b1, o1, none⟩) x.i.length 0) (S.at_ 0 rfl) rfl ?_
      refine CallX.same (sameSpace_c _ _ x.d.toNat x.d.toNat _ _ x.k x.i hp (by omega) (by omega) q3 q1 mk mi (by omega) (by omega)) ?_
      rintro r g ⟨rfl, rfl⟩
      exact FinX.keep hw S.le rfl ⟨rfl, rfl⟩
    · rw [h2, Bool.false_and]
      exact FinX.keep hw S.le rfl ⟨rfl, rfl⟩
  · rw [h1, Bool.false_and, Bool.false_and]
    refine BIf.no rfl ?_
    exact FinX.keep hw S.le rfl ⟨rfl, rfl⟩

theorem l01Inside_c (h : AH) (p : Int) (n : Nat) (va vv : Value) (a : List (List Int)) (v : List Int) (hp : IsP p) (hn : n ≤ 1000) (ha : RII h va a) (hv : RI h vv v) (ra : RedL p n a) (bv : Vec p n v) :
    ACalls Try.prog 197 [.int .i64 p, va, vv] h (fun r h' => r = .bool (inside p a v) ∧ h' = h) := by
  obtain ⟨b1, o1, k1, ha⟩ := ha.can
  obtain ⟨b2, o2, k2, hv⟩ := hv.can
  refine ACalls.wk (args' := [.int .i64 p, .slice (some ⟨b1, o1, none⟩) a.length 0, .slice (some ⟨b2, o2, none⟩) v.length 0]) ?_ (.cons (Wk.refl _) (.cons k1 (.cons k2 .nil)))
  refine ACalls.of Tt.tab Try.func197 rfl (by kernel_rfl) Try.ntmps197 _ rfl rfl (fun hw => ?_)
  have S := Sep.start h
  refine S.made OI.fr (l01Rest_c _ p n _ _ a v hp.rng ha hv (by omega) bv ra.mat (fun i hi => by rw [(ra.lead hi).1]; omega)) fun b3 o3 g S => ?_
  refine CallX.same (l01Lead_c g _ _ (S.rd OI.reads 0 rfl)) ?_
  rintro r g' ⟨rfl, rfl⟩
  exact FinX.keep hw S.le rfl ⟨rfl, rfl⟩

theorem l05Meet_c (h : AH) (p : Int) (m n : Nat) (va vb : Value) (a b : List (List Int)) (k : Int) (hp : IsP p) (hm : m ≤ 1000) (hn : n ≤ 1000) (ha : RII h va a) (hb : RII h vb b) (ma : Mat p m a) (mb : Mat p n b) (la : a.length ≤ 1000) (lb : b.length ≤ 1000) (hk : (b.length : Int) = k) (hmb : m = b.length) :
    ACalls Try.prog 166 [.int .i64 p, va, .int .i64 k, vb] h (fun r h' => r = .bool (sameAt p n a b) ∧ h' = h) := by
  subst hk
  have hpp := hp.rng
  obtain ⟨b1, o1, k1, ha⟩ := ha.can
  obtain ⟨b2, o2, k2, hb⟩ := hb.can
  refine ACalls.wk (args' := [.int .i64 p, .slice (some ⟨b1, o1, none⟩) a.length 0, .int .i64 b.length, .slice (some ⟨b2, o2, none⟩) b.length 0]) ?_ (.cons (Wk.refl _) (.cons k1 (.cons (Wk.refl _) (.cons k2 .nil))))
  refine ACalls.of Tt.tab Try.func166 rfl (by kernel_rfl) Try.ntmps166 _ rfl rfl (fun hw => ?_)
  have S := Sep.start h
  have rA := (ech_spec hp ma).1
  have rB := kern_red hp mb
  rw [← hmb] at rB
  have e := meetSp_eq hp rA rB
  unfold sameAt
  rw [← e]
  refine S.made OII.fr (l01Echelon_c _ p m _ a hp (by omega) ha ma (by omega)) fun b3 o3 g S => ?_
  refine S.made OII.fr (l01Kernel_c _ p n _ b hp hn (RII.le _ _ _ _ S.le hb) mb lb) fun b4 o4 g S => ?_
  have hA := S.rd OII.reads 1 rfl
  have hB := S.rd OII.reads 0 rfl
  have hle := S.le
  have cA := hA.cells rfl
  have lA := rA.len
  have lB := rB.len
  refine BIf.mk (fun h1 => ?_) (fun h1 => ?_)
  · have h1 : ¬ (ech p a).length = (kern p n b).length := by simp at h1; omega
    exact FinX.keep hw hle rfl ⟨by unfold meetSp; simp [h1], rfl⟩
  have h1 : (ech p a).length = (kern p n b).length := by simp at h1; omega
  refine ⟨⟨[0, 9, 10, 11], fun n' vs g2 => ∃ i : Nat, n' = (ech p a).length - i ∧ i ≤ (ech p a).length ∧ g2 = g ∧ (∀ k, k < i → inside p (kern p n b) (row (ech p a) k) = true) ∧
    vs = [.int .i64 p, .slice (some ⟨b3, o3, none⟩) (ech p a).length 0, .slice (some ⟨b4, o4, none⟩) (kern p n b).length 0, .int .i64 i], _, ⟨0, rfl, Nat.zero_le _, rfl, fun k hk => by omega, rfl⟩, ?_⟩⟩
  rintro n' vs g2 ⟨i, rfl, hi, rfl, hz, rfl⟩
  refine BIf.mk (fun h2 => ?_) (fun h2 => ?_)
  · have hlt : i < (ech p a).length := by simpa using h2
    refine IdxX.mk (by omega) (by omega) ?_
    refine cA.rowY (Le.refl _) hlt fun b5 o5 h3 => ?_
    refine CallX.same (l01Inside_c _ p m _ _ _ (row (ech p a) i) hp hm hB h3 rB (rA.mat.row hlt)) ?_
    rintro r g3 ⟨rfl, rfl⟩
    refine BIf.mk (fun h5 => ?_) (fun h5 => ?_)
    · have h5 : inside p (kern p n b) (row (ech p a) i) = false := by simpa using h5
      refine FinX.keep hw hle rfl ⟨?_, rfl⟩
      unfold meetSp
      have : ((ech p a).all fun v => inside p (kern p n b) v) = false := by
        rw [List.all_eq_false]
        exact ⟨_, row_mem hlt, by simp [h5]⟩
      rw [this, Bool.and_false]
    · have h5 : inside p (kern p n b) (row (ech p a) i) = true := by simpa using h5
      refine WR.i64 ?_
      refine ⟨(ech p a).length - (i + 1), by omega, i + 1, rfl, hlt, rfl, fun k hk => ?_, rfl⟩
      rcases (by omega : k < i ∨ k = i) with h6 | rfl
      · exact hz k h6
      · exact h5
  · have hi2 : i = (ech p a).length := by simp at h2; omega
    subst hi2
    refine FinX.keep hw hle rfl ⟨?_, rfl⟩
    unfold meetSp
    have : ((ech p a).all fun v => inside p (kern p n b) v) = true := List.all_eq_true.2 fun v hv => by
      obtain ⟨k, hk, e⟩ := List.getElem_of_mem hv
      rw [row_get hk] at e
      rw [← e]; exact hz k hk
    rw [this]; simp [h1]

theorem l05Exact_c (h : AH) (v : Value) (x : SCouple) (hx : RCouple h v x) (hc : CoupleOk x) : ACalls Try.prog 103 [v] h (fun r h' => r = .bool (exactOk x) ∧ h' = h) := by
  obtain ⟨b1, o1, b2, o2, b3, o3, kx, q1, q2, q3⟩ := hx.can
  refine ACalls.wk (args' := [.agg #[.int .i64 x.prime, .int .i64 x.d, .int .i64 x.e, .slice (some ⟨b1, o1, none⟩) x.i.length 0, .slice (some ⟨b2, o2, none⟩) x.j.length 0, .slice (some ⟨b3, o3, none⟩) x.k.length 0]]) ?_ (.cons kx .nil)
  refine ACalls.of Tt.tab Try.func103 rfl (by kernel_rfl) Try.ntmps103 _ rfl rfl (fun hw => ?_)
  have S := Sep.start h
  obtain ⟨p, d, e, li, lj, lk, mi, mj, mk⟩ := hc
  have hp := prime_isP p
  refine S.new fun b g S => ?_
  have q1 := RII.le _ _ _ _ S.le q1
  have q2 := RII.le _ _ _ _ S.le q2
  have q3 := RII.le _ _ _ _ S.le q3
  unfold exactOk
  refine LoadX.same (v := .int .i64 x.prime) (S.at_ 0 rfl) rfl ?_
  refine LoadX.same (v := .slice (some ⟨b1, o1, none⟩) x.i.length 0) (S.at_ 0 rfl) rfl ?_
  refine LoadX.same (v := .int .i64 x.d) (S.at_ 0 rfl) rfl ?_
  refine LoadX.same (v := .slice (some ⟨b2, o2, none⟩) x.j.length 0) (S.at_ 0 rfl) rfl ?_
  refine CallX.same (l05Meet_c _ _ x.d.toNat x.e.toNat _ _ x.i x.j x.d hp (by omega) (by omega) q1 q2 mi mj (by omega) (by omega) lj (by omega)) ?_
  rintro r g ⟨rfl, rfl⟩
  refine BIf.mk (fun h1 => ?_) (fun h1 => ?_)
  · rw [h1, Bool.true_and]
    refine LoadX.same (v := .int .i64 x.prime) (S.at_ 0 rfl) rfl ?_
    refine LoadX.same (v := .slice (some ⟨b2, o2, none⟩) x.j.length 0) (S.at_ 0 rfl) rfl ?_
    refine LoadX.same (v := .int .i64 x.e) (S.at_ 0 rfl) rfl ?_
    refine LoadX.same (v := .slice (some ⟨b3, o3, none⟩) x.k.length 0) (S.at_ 0 rfl) rfl ?_
    refine CallX.same (l05Meet_c _ _ x.e.toNat x.d.toNat _ _ x.j x.k x.e hp (by omega) (by omega) q2 q3 mj mk (by omega) (by omega) lk (by omega)) ?_
    rintro r g ⟨rfl, rfl⟩
    refine BIf.mk (fun h2 => ?_) (fun h2 => ?_)
    · rw [h2, Bool.true_and]
      refine LoadX.same (v := .int .i64 x.prime) (S.at_ 0 rfl) rfl ?_
      refine LoadX.same (v := .slice (some ⟨b3, o3, none⟩) x.k.length 0) (S.at_ 0 rfl) rfl ?_
      refine LoadX.same (v := .int .i64 x.d) (S.at_ 0 rfl) rfl ?_
      refine LoadX.same (v := .slice (some ⟨b1, o1, none⟩) x.i.length 0) (S.at_ 0 rfl) rfl ?_
      refine CallX.same (l05Meet_c _ _ x.d.toNat x.d.toNat _ _ x.k x.i x.d hp (by omega) (by omega) q3 q1 mk mi (by omega) (by omega) li (by omega)) ?_
      rintro r g ⟨rfl, rfl⟩
      exact FinX.keep hw S.le rfl ⟨rfl, rfl⟩
    · rw [h2, Bool.false_and]
      exact FinX.keep hw S.le rfl ⟨rfl, rfl⟩
  · rw [h1, Bool.false_and, Bool.false_and]
    refine BIf.no rfl ?_
    exact FinX.keep hw S.le rfl ⟨rfl, rfl⟩

theorem isExactI_c (h : AH) (v : Value) (x : SCouple) (hx : RCouple h v x) : ACalls Try.prog 41 [v] h (fun r h' => r = .tuple #[.bool (isExact x).1, .int .i64 (isExact x).2] ∧ h' = h) := by
  obtain ⟨b1, o1, b2, o2, b3, o3, kx, qx⟩ := hx.can
  refine ACalls.wk (args' := [.agg #[.int .i64 x.prime, .int .i64 x.d, .int .i64 x.e, .slice (some ⟨b1, o1, none⟩) x.i.length 0, .slice (some ⟨b2, o2, none⟩) x.j.length 0, .slice (some ⟨b3, o3, none⟩) x.k.length 0]]) ?_ (.cons kx .nil)
  refine ACalls.of Tt.tab Try.func41 rfl (by kernel_rfl) Try.ntmps41 _ rfl rfl (fun hw => ?_)
  have S := Sep.start h
  refine S.new fun b g S => ?_
  refine LoadX.same (v := .agg #[.int .i64 x.prime, .int .i64 x.d, .int .i64 x.e, .slice (some ⟨b1, o1, none⟩) x.i.length 0, .slice (some ⟨b2, o2, none⟩) x.j.length 0, .slice (some ⟨b3, o3, none⟩) x.k.length 0]) (S.at_ 0 rfl) rfl ?_
  refine CallX.same (isCoupleI_c _ _ x ⟨_, _, _, rfl, qx.le S.le⟩) ?_
  rintro r g ⟨rfl, rfl⟩
  unfold isExact
  refine BIf.mk (fun h1 => ?_) (fun h1 => ?_)
  · have h1 : coupleOk x = false := by simpa using h1
    rw [h1]
    exact FinX.keep2 hw S.le rfl rfl ⟨rfl, rfl⟩
  have h1 : coupleOk x = true := by simpa using h1
  rw [if_pos h1]
  refine LoadX.same (v := .agg #[.int .i64 x.prime, .int .i64 x.d, .int .i64 x.e, .slice (some ⟨b1, o1, none⟩) x.i.length 0, .slice (some ⟨b2, o2, none⟩) x.j.length 0, .slice (some ⟨b3, o3, none⟩) x.k.length 0]) (S.at_ 0 rfl) rfl ?_
  refine CallX.same (isExact_c _ _ x ⟨_, _, _, rfl, qx.le S.le⟩ (coupleOk_mk h1)) ?_
  rintro r g ⟨rfl, rfl⟩
  exact FinX.keep2 hw S.le rfl rfl ⟨rfl, rfl⟩

theorem isExactS_c (h : AH) (v : Value) (x : SCouple) (hx : RCouple h v x) : ACalls Try.prog 40 [v] h (fun r h' => r = .tuple #[.bool (isExact x).1, .int .i64 (isExact x).2] ∧ h' = h) := by
  obtain ⟨b1, o1, b2, o2, b3, o3, kx, qx⟩ := hx.can
  refine ACalls.wk (args' := [.agg #[.int .i64 x.prime, .int .i64 x.d, .int .i64 x.e, .slice (some ⟨b1, o1, none⟩) x.i.length 0, .slice (some ⟨b2, o2, none⟩) x.j.length 0, .slice (some ⟨b3, o3, none⟩) x.k.length 0]]) ?_ (.cons kx .nil)
  refine ACalls.of Tt.tab Try.func40 rfl (by kernel_rfl) Try.ntmps40 _ rfl rfl (fun hw => ?_)
  have S := Sep.start h
  refine S.new fun b g S => ?_
  refine LoadX.same (v := .agg #[.int .i64 x.prime, .int .i64 x.d, .int .i64 x.e, .slice (some ⟨b1, o1, none⟩) x.i.length 0, .slice (some ⟨b2, o2, none⟩) x.j.length 0, .slice (some ⟨b3, o3, none⟩) x.k.length 0]) (S.at_ 0 rfl) rfl ?_
  refine CallX.same (l05Is_c _ _ x ⟨_, _, _, rfl, qx.le S.le⟩) ?_
  rintro r g ⟨rfl, rfl⟩
  unfold isExact
  refine BIf.mk (fun h1 => ?_) (fun h1 => ?_)
  · have h1 : coupleOk x = false := by simpa using h1
    rw [h1]
    exact FinX.keep2 hw S.le rfl rfl ⟨rfl, rfl⟩
  have h1 : coupleOk x = true := by simpa using h1
  rw [if_pos h1]
  refine LoadX.same (v := .agg #[.int .i64 x.prime, .int .i64 x.d, .int .i64 x.e, .slice (some ⟨b1, o1, none⟩) x.i.length 0, .slice (some ⟨b2, o2, none⟩) x.j.length 0, .slice (some ⟨b3, o3, none⟩) x.k.length 0]) (S.at_ 0 rfl) rfl ?_
  refine CallX.same (l05Exact_c _ _ x ⟨_, _, _, rfl, qx.le S.le⟩ (coupleOk_mk h1)) ?_
  rintro r g ⟨rfl, rfl⟩
  exact FinX.keep2 hw S.le rfl rfl ⟨rfl, rfl⟩

end Go.Gl

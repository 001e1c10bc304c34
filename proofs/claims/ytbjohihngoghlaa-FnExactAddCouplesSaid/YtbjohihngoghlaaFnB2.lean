/- Chapter 5: AddCouples. No condition. Printed by mk_addc.py. -/
import Derived.Test.YtbjohihngoghlaaFnB1
import Derived.Test.YtbjohihngoghlaaFnCp
set_option linter.unusedVariables false
set_option linter.unusedSimpArgs false
namespace Go.Gl
open Go.Proofs Go.Proofs.Ytbjohihngoghlaa Go.Pl

def zeroC : SCouple := ⟨0, 0, 0, [], [], []⟩
def addC (c d : SCouple) : SCouple × Int :=
  if coupleOk c = true ∧ coupleOk d = true then
    if c.prime = d.prime then
      if c.d + d.d ≤ 24 ∧ c.e + d.e ≤ 24 then (⟨c.prime, c.d + d.d, c.e + d.e, blocks c.i d.i c.d d.d, blocks c.j d.j c.e d.e, blocks c.k d.k c.d d.d⟩, 0) else (zeroC, 3)
    else (zeroC, 2)
  else (zeroC, 1)
theorem cnII_mul {m : Nat} : ∀ {rows : List (List Int)}, (∀ r ∈ rows, r.length ≤ m) → cnII rows ≤ rows.length * m
  | [], _ => by simp [cnL]
  | r :: rows, h => by
    have ih := cnII_mul (rows := rows) fun x hx => h x (List.mem_cons_of_mem _ hx)
    have h1 := h r List.mem_cons_self
    unfold cnII cnL at ih ⊢
    rw [List.map_cons, List.sum_cons, List.length_cons, Nat.succ_mul]
    simp only [cnI]; omega
theorem cnII_blocks {a b : List (List Int)} {n m : Int} {p : Int} {A B : Nat} (ha : Mat p A a) (hb : Mat p B b) (h : A + m.toNat ≤ 24 ∧ n.toNat + B ≤ 24) (hl : a.length + b.length ≤ 24) : cnII (blocks a b n m) ≤ 576 := by
  have h1 : ∀ r ∈ blocks a b n m, r.length ≤ 24 := fun r hr => by
    simp only [blocks, List.mem_append, List.mem_map] at hr
    rcases hr with ⟨x, hx, rfl⟩ | ⟨x, hx, rfl⟩
    · have := (ha x hx).1; simp [zrow]; omega
    · have := (hb x hx).1; simp [zrow]; omega
  have h2 := cnII_mul h1
  have h3 : (blocks a b n m).length ≤ 24 := by simp [blocks]; omega
  calc cnII (blocks a b n m) ≤ (blocks a b n m).length * 24 := h2
    _ ≤ 24 * 24 := Nat.mul_le_mul_right _ h3
theorem addC_cn (c d : SCouple) : cnCouple (addC c d).1 ≤ 10000 := by
  have hz : cnCouple zeroC ≤ 10000 := by simp [cnCouple, zeroC, cnL]
  unfold addC
  split
  · rename_i h
    obtain ⟨⟨p1, d1, e1, li1, lj1, lk1, mi1, mj1, mk1⟩, ⟨p2, d2, e2, li2, lj2, lk2, mi2, mj2, mk2⟩⟩ := And.intro (coupleOk_mk h.1) (coupleOk_mk h.2)
    split
    · split
      · rename_i hpe hl
        rw [← hpe] at mi2 mj2 mk2
        have q1 := cnII_blocks (n := c.d) (m := d.d) mi1 mi2 (by omega) (by omega)
        have q2 := cnII_blocks (n := c.e) (m := d.e) mj1 mj2 (by omega) (by omega)
        have q3 := cnII_blocks (n := c.d) (m := d.d) mk1 mk2 (by omega) (by omega)
        simp only [cnCouple]
        omega
      · exact hz
    · exact hz
  · exact hz
theorem zeroC_own (n : Nat) (h : AH) : OCouple n h (.agg #[.int .i64 0, .int .i64 0, .int .i64 0, .slice none 0 0, .slice none 0 0, .slice none 0 0]) zeroC [] :=
  ⟨_, _, _, rfl, [], [], [], ⟨by simp [zeroC], 0, 0, [], [], Wk.nil _, Row.nil _ _ _, rfl, .inl rfl⟩, ⟨by simp [zeroC], 0, 0, [], [], Wk.nil _, Row.nil _ _ _, rfl, .inl rfl⟩, ⟨by simp [zeroC], 0, 0, [], [], Wk.nil _, Row.nil _ _ _, rfl, .inl rfl⟩, rfl, by simp⟩
theorem nodup_rev3 {a b c : List Nat} (h : (a ++ (b ++ c)).Nodup) : (c ++ (b ++ a)).Nodup := by
  rw [List.nodup_append, List.nodup_append] at h ⊢
  obtain ⟨h1, ⟨h2, h3, h4⟩, h5⟩ := h
  refine ⟨h3, ⟨h2, h1, fun i hi i' hi' e => ?_⟩, fun i hi i' hi' e => ?_⟩
  · exact h5 i' hi' i (List.mem_append_left _ hi) e.symm
  · rcases List.mem_append.1 hi' with h | h
    · exact h4 i' h i hi e.symm
    · exact h5 i' h i (List.mem_append_right _ hi) e.symm

set_option maxHeartbeats 4000000 in
theorem addCI_c (h : AH) (v : Value) (x : SCouple) (hx : RCouple h v x) (w : Value) (y : SCouple) (hy : RCouple h w y) : ACalls Try.prog 38 [v, w] h (fun r h' => ∃ v l, r = .tuple #[v, .int .i64 (addC x y).2] ∧ OCouple h.length h' v (addC x y).1 l ∧ Le h h') := by
  obtain ⟨b1, o1, b2, o2, b3, o3, kx, qx⟩ := hx.can
  obtain ⟨b4, o4, b5, o5, b6, o6, ky, qy⟩ := hy.can
  refine ACalls.wk (args' := [.agg #[.int .i64 x.prime, .int .i64 x.d, .int .i64 x.e, .slice (some ⟨b1, o1, none⟩) x.i.length 0, .slice (some ⟨b2, o2, none⟩) x.j.length 0, .slice (some ⟨b3, o3, none⟩) x.k.length 0], .agg #[.int .i64 y.prime, .int .i64 y.d, .int .i64 y.e, .slice (some ⟨b4, o4, none⟩) y.i.length 0, .slice (some ⟨b5, o5, none⟩) y.j.length 0, .slice (some ⟨b6, o6, none⟩) y.k.length 0]]) ?_ (.cons kx (.cons ky .nil))
  refine ACalls.of Tt.tab Try.func38 rfl (by kernel_rfl) Try.ntmps38 _ rfl rfl (fun hw => ?_)
  have S := Sep.start h
  refine S.new fun c1 g S => ?_
  refine S.new fun c2 g S => ?_
  refine S.new fun c3 g S => ?_
  unfold addC
  refine LoadX.same (v := .agg #[.int .i64 x.prime, .int .i64 x.d, .int .i64 x.e, .slice (some ⟨b1, o1, none⟩) x.i.length 0, .slice (some ⟨b2, o2, none⟩) x.j.length 0, .slice (some ⟨b3, o3, none⟩) x.k.length 0]) (S.at_ 2 rfl) rfl ?_
  refine CallX.same (isCoupleI_c _ _ x ⟨_, _, _, rfl, qx.le S.le⟩) ?_
  rintro r g ⟨rfl, rfl⟩
  refine BIf.mk (fun h1 => ?_) (fun h1 => ?_)
  · have h1 : coupleOk x = false := by simpa using h1
    rw [if_neg (by simp [h1])]
    refine BIf.yes rfl ?_
    refine S.put 0 rfl fun g S => ?_
    refine LoadX.same (v := .agg #[.int .i64 0, .int .i64 0, .int .i64 0, .slice none 0 0, .slice none 0 0, .slice none 0 0]) (S.at_ 0 rfl) rfl ?_
    exact FinX.here S.le.len ⟨_, [], rfl, zeroC_own _ _, S.le⟩
  have h1 : coupleOk x = true := by simpa using h1
  refine LoadX.same (v := .agg #[.int .i64 y.prime, .int .i64 y.d, .int .i64 y.e, .slice (some ⟨b4, o4, none⟩) y.i.length 0, .slice (some ⟨b5, o5, none⟩) y.j.length 0, .slice (some ⟨b6, o6, none⟩) y.k.length 0]) (S.at_ 1 rfl) rfl ?_
  refine CallX.same (isCoupleI_c _ _ y ⟨_, _, _, rfl, qy.le S.le⟩) ?_
  rintro r g ⟨rfl, rfl⟩
  refine BIf.mk (fun h2 => ?_) (fun h2 => ?_)
  · have h2 : coupleOk y = false := by simpa using h2
    rw [if_neg (by simp [h2])]
    refine S.put 0 rfl fun g S => ?_
    refine LoadX.same (v := .agg #[.int .i64 0, .int .i64 0, .int .i64 0, .slice none 0 0, .slice none 0 0, .slice none 0 0]) (S.at_ 0 rfl) rfl ?_
    exact FinX.here S.le.len ⟨_, [], rfl, zeroC_own _ _, S.le⟩
  have h2 : coupleOk y = true := by simpa using h2
  rw [if_pos ⟨h1, h2⟩]
  refine LoadX.same (v := .int .i64 x.prime) (S.at_ 2 rfl) rfl ?_
  refine LoadX.same (v := .int .i64 y.prime) (S.at_ 1 rfl) rfl ?_
  refine BIf.mk (fun h3 => ?_) (fun h3 => ?_)
  · have h3 : ¬ x.prime = y.prime := by simpa using h3
    rw [if_neg h3]
    refine S.put 0 rfl fun g S => ?_
    refine LoadX.same (v := .agg #[.int .i64 0, .int .i64 0, .int .i64 0, .slice none 0 0, .slice none 0 0, .slice none 0 0]) (S.at_ 0 rfl) rfl ?_
    exact FinX.here S.le.len ⟨_, [], rfl, zeroC_own _ _, S.le⟩
  have h3 : x.prime = y.prime := by simpa using h3
  rw [if_pos h3]
  obtain ⟨p1, d1, e1, li1, lj1, lk1, mi1, mj1, mk1⟩ := coupleOk_mk h1
  obtain ⟨p2, d2, e2, li2, lj2, lk2, mi2, mj2, mk2⟩ := coupleOk_mk h2
  refine LoadX.same (v := .int .i64 x.d) (S.at_ 2 rfl) rfl ?_
  refine LoadX.same (v := .int .i64 y.d) (S.at_ 1 rfl) rfl ?_
  refine WR.i64 ?_
  refine BIf.mk (fun h4 => ?_) (fun h4 => ?_)
  · have h4 : x.d + y.d > 24 := by simpa using h4
    rw [if_neg (by omega)]
    refine BIf.yes rfl ?_
    refine S.put 0 rfl fun g S => ?_
    refine LoadX.same (v := .agg #[.int .i64 0, .int .i64 0, .int .i64 0, .slice none 0 0, .slice none 0 0, .slice none 0 0]) (S.at_ 0 rfl) rfl ?_
    exact FinX.here S.le.len ⟨_, [], rfl, zeroC_own _ _, S.le⟩
  have h4 : ¬ x.d + y.d > 24 := by simpa using h4
  refine LoadX.same (v := .int .i64 x.e) (S.at_ 2 rfl) rfl ?_
  refine LoadX.same (v := .int .i64 y.e) (S.at_ 1 rfl) rfl ?_
  refine WR.i64 ?_
  refine BIf.mk (fun h5 => ?_) (fun h5 => ?_)
  · have h5 : x.e + y.e > 24 := by simpa using h5
    rw [if_neg (by omega)]
    refine S.put 0 rfl fun g S => ?_
    refine LoadX.same (v := .agg #[.int .i64 0, .int .i64 0, .int .i64 0, .slice none 0 0, .slice none 0 0, .slice none 0 0]) (S.at_ 0 rfl) rfl ?_
    exact FinX.here S.le.len ⟨_, [], rfl, zeroC_own _ _, S.le⟩
  have h5 : ¬ x.e + y.e > 24 := by simpa using h5
  rw [if_pos (by omega)]
  obtain ⟨q1, q2, q3⟩ := qx
  obtain ⟨q4, q5, q6⟩ := qy
  refine DrawX.of Tt.tab follows_any [20, 29, 38] [40] [0, 1, 2, 3, 4, 5, 6, 7, 8, 9, 10, 11, 12, 13, 14, 15, 16, 17, 18, 19, 21, 22, 23, 24, 25, 26, 27, 28, 30, 31, 32, 33, 34, 35, 36, 37, 20, 29, 38, 39, 40, 41] rfl (by kernel_rfl) (by kernel_rfl) ?_
  refine LoadX.same (v := .int .i64 x.prime) (S.at_ 2 rfl) rfl ?_
  refine LoadX.same (v := .int .i64 x.d) (S.at_ 2 rfl) rfl ?_
  refine LoadX.same (v := .int .i64 y.d) (S.at_ 1 rfl) rfl ?_
  refine WR.i64 ?_
  refine LoadX.same (v := .int .i64 x.e) (S.at_ 2 rfl) rfl ?_
  refine LoadX.same (v := .int .i64 y.e) (S.at_ 1 rfl) rfl ?_
  refine WR.i64 ?_
  refine LoadX.same (v := .slice (some ⟨b1, o1, none⟩) x.i.length 0) (S.at_ 2 rfl) rfl ?_
  refine LoadX.same (v := .slice (some ⟨b4, o4, none⟩) y.i.length 0) (S.at_ 1 rfl) rfl ?_
  refine LoadX.same (v := .int .i64 x.d) (S.at_ 2 rfl) rfl ?_
  refine LoadX.same (v := .int .i64 y.d) (S.at_ 1 rfl) rfl ?_
  refine LoadX.same (v := .slice (some ⟨b2, o2, none⟩) x.j.length 0) (S.at_ 2 rfl) rfl ?_
  refine LoadX.same (v := .slice (some ⟨b5, o5, none⟩) y.j.length 0) (S.at_ 1 rfl) rfl ?_
  refine LoadX.same (v := .int .i64 x.e) (S.at_ 2 rfl) rfl ?_
  refine LoadX.same (v := .int .i64 y.e) (S.at_ 1 rfl) rfl ?_
  refine LoadX.same (v := .slice (some ⟨b3, o3, none⟩) x.k.length 0) (S.at_ 2 rfl) rfl ?_
  refine LoadX.same (v := .slice (some ⟨b6, o6, none⟩) y.k.length 0) (S.at_ 1 rfl) rfl ?_
  refine LoadX.same (v := .int .i64 x.d) (S.at_ 2 rfl) rfl ?_
  refine LoadX.same (v := .int .i64 y.d) (S.at_ 1 rfl) rfl ?_
  refine S.madeL OII.fr (beside_c _ _ _ x.i y.i x.d y.d (RII.le _ _ _ _ S.le q1) (RII.le _ _ _ _ S.le q4) (by omega) (by omega) (by omega) (by omega) (fun r hr => by have := (mi1 r hr).1; omega) (fun r hr => by have := (mi2 r hr).1; omega)) fun a0 z0 g L S => ⟨L, strictV.mk ?_⟩
  refine S.madeL OII.fr (beside_c _ _ _ x.j y.j x.e y.e (RII.le _ _ _ _ S.le q2) (RII.le _ _ _ _ S.le q5) (by omega) (by omega) (by omega) (by omega) (fun r hr => by have := (mj1 r hr).1; omega) (fun r hr => by have := (mj2 r hr).1; omega)) fun a1 z1 g L S => ⟨L, strictV.mk ?_⟩
  refine S.madeL OII.fr (beside_c _ _ _ x.k y.k x.d y.d (RII.le _ _ _ _ S.le q3) (RII.le _ _ _ _ S.le q6) (by omega) (by omega) (by omega) (by omega) (fun r hr => by have := (mk1 r hr).1; omega) (fun r hr => by have := (mk2 r hr).1; omega)) fun a2 z2 g L S => ⟨L, strictV.mk ?_⟩
  refine S.put 3 rfl fun g S => strictV.mk ?_
  obtain ⟨l1, l2, l3, t1, t2, t3, hd⟩ := S.three
  refine LoadX.same (v := .agg #[.int .i64 x.prime, .int .i64 (x.d + y.d), .int .i64 (x.e + y.e), .slice (some ⟨a0, z0, none⟩) (blocks x.i y.i x.d y.d).length 0, .slice (some ⟨a1, z1, none⟩) (blocks x.j y.j x.e y.e).length 0, .slice (some ⟨a2, z2, none⟩) (blocks x.k y.k x.d y.d).length 0]) (S.at_ 3 rfl) rfl ?_
  exact FinX.here S.le.len ⟨_, _, rfl, ⟨_, _, _, rfl, l3, l2, l1, t3, t2, t1, rfl, nodup_rev3 hd⟩, S.le⟩

set_option maxHeartbeats 4000000 in
theorem addCS_c (h : AH) (v : Value) (x : SCouple) (hx : RCouple h v x) (w : Value) (y : SCouple) (hy : RCouple h w y) : ACalls Try.prog 36 [v, w] h (fun r h' => ∃ v l, r = .tuple #[v, .int .i64 (addC x y).2] ∧ OCouple h.length h' v (addC x y).1 l ∧ Le h h') := by
  obtain ⟨b1, o1, b2, o2, b3, o3, kx, qx⟩ := hx.can
  obtain ⟨b4, o4, b5, o5, b6, o6, ky, qy⟩ := hy.can
  refine ACalls.wk (args' := [.agg #[.int .i64 x.prime, .int .i64 x.d, .int .i64 x.e, .slice (some ⟨b1, o1, none⟩) x.i.length 0, .slice (some ⟨b2, o2, none⟩) x.j.length 0, .slice (some ⟨b3, o3, none⟩) x.k.length 0], .agg #[.int .i64 y.prime, .int .i64 y.d, .int .i64 y.e, .slice (some ⟨b4, o4, none⟩) y.i.length 0, .slice (some ⟨b5, o5, none⟩) y.j.length 0, .slice (some ⟨b6, o6, none⟩) y.k.length 0]]) ?_ (.cons kx (.cons ky .nil))
  refine ACalls.of Tt.tab Try.func36 rfl (by kernel_rfl) Try.ntmps36 _ rfl rfl (fun hw => ?_)
  have S := Sep.start h
  refine S.new fun c1 g S => ?_
  refine S.new fun c2 g S => ?_
  refine S.new fun c3 g S => ?_
  unfold addC
  refine LoadX.same (v := .agg #[.int .i64 x.prime, .int .i64 x.d, .int .i64 x.e, .slice (some ⟨b1, o1, none⟩) x.i.length 0, .slice (some ⟨b2, o2, none⟩) x.j.length 0, .slice (some ⟨b3, o3, none⟩) x.k.length 0]) (S.at_ 2 rfl) rfl ?_
  refine CallX.same (l05Is_c _ _ x ⟨_, _, _, rfl, qx.le S.le⟩) ?_
  rintro r g ⟨rfl, rfl⟩
  refine BIf.mk (fun h1 => ?_) (fun h1 => ?_)
  · have h1 : coupleOk x = false := by simpa using h1
    rw [if_neg (by simp [h1])]
    refine BIf.yes rfl ?_
    refine S.put 0 rfl fun g S => ?_
    refine LoadX.same (v := .agg #[.int .i64 0, .int .i64 0, .int .i64 0, .slice none 0 0, .slice none 0 0, .slice none 0 0]) (S.at_ 0 rfl) rfl ?_
    exact FinX.here S.le.len ⟨_, [], rfl, zeroC_own _ _, S.le⟩
  have h1 : coupleOk x = true := by simpa using h1
  refine LoadX.same (v := .agg #[.int .i64 y.prime, .int .i64 y.d, .int .i64 y.e, .slice (some ⟨b4, o4, none⟩) y.i.length 0, .slice (some ⟨b5, o5, none⟩) y.j.length 0, .slice (some ⟨b6, o6, none⟩) y.k.length 0]) (S.at_ 1 rfl) rfl ?_
  refine CallX.same (l05Is_c _ _ y ⟨_, _, _, rfl, qy.le S.le⟩) ?_
  rintro r g ⟨rfl, rfl⟩
  refine BIf.mk (fun h2 => ?_) (fun h2 => ?_)
  · have h2 : coupleOk y = false := by simpa using h2
    rw [if_neg (by simp [h2])]
    refine S.put 0 rfl fun g S => ?_
    refine LoadX.same (v := .agg #[.int .i64 0, .int .i64 0, .int .i64 0, .slice none 0 0, .slice none 0 0, .slice none 0 0]) (S.at_ 0 rfl) rfl ?_
    exact FinX.here S.le.len ⟨_, [], rfl, zeroC_own _ _, S.le⟩
  have h2 : coupleOk y = true := by simpa using h2
  rw [if_pos ⟨h1, h2⟩]
  refine LoadX.same (v := .int .i64 x.prime) (S.at_ 2 rfl) rfl ?_
  refine LoadX.same (v := .int .i64 y.prime) (S.at_ 1 rfl) rfl ?_
  refine BIf.mk (fun h3 => ?_) (fun h3 => ?_)
  · have h3 : ¬ x.prime = y.prime := by simpa using h3
    rw [if_neg h3]
    refine S.put 0 rfl fun g S => ?_
    refine LoadX.same (v := .agg #[.int .i64 0, .int .i64 0, .int .i64 0, .slice none 0 0, .slice none 0 0, .slice none 0 0]) (S.at_ 0 rfl) rfl ?_
    exact FinX.here S.le.len ⟨_, [], rfl, zeroC_own _ _, S.le⟩
  have h3 : x.prime = y.prime := by simpa using h3
  rw [if_pos h3]
  obtain ⟨p1, d1, e1, li1, lj1, lk1, mi1, mj1, mk1⟩ := coupleOk_mk h1
  obtain ⟨p2, d2, e2, li2, lj2, lk2, mi2, mj2, mk2⟩ := coupleOk_mk h2
  refine LoadX.same (v := .int .i64 x.d) (S.at_ 2 rfl) rfl ?_
  refine LoadX.same (v := .int .i64 y.d) (S.at_ 1 rfl) rfl ?_
  refine WR.i64 ?_
  refine BIf.mk (fun h4 => ?_) (fun h4 => ?_)
  · have h4 : x.d + y.d > 24 := by simpa using h4
    rw [if_neg (by omega)]
    refine BIf.yes rfl ?_
    refine S.put 0 rfl fun g S => ?_
    refine LoadX.same (v := .agg #[.int .i64 0, .int .i64 0, .int .i64 0, .slice none 0 0, .slice none 0 0, .slice none 0 0]) (S.at_ 0 rfl) rfl ?_
    exact FinX.here S.le.len ⟨_, [], rfl, zeroC_own _ _, S.le⟩
  have h4 : ¬ x.d + y.d > 24 := by simpa using h4
  refine LoadX.same (v := .int .i64 x.e) (S.at_ 2 rfl) rfl ?_
  refine LoadX.same (v := .int .i64 y.e) (S.at_ 1 rfl) rfl ?_
  refine WR.i64 ?_
  refine BIf.mk (fun h5 => ?_) (fun h5 => ?_)
  · have h5 : x.e + y.e > 24 := by simpa using h5
    rw [if_neg (by omega)]
    refine S.put 0 rfl fun g S => ?_
    refine LoadX.same (v := .agg #[.int .i64 0, .int .i64 0, .int .i64 0, .slice none 0 0, .slice none 0 0, .slice none 0 0]) (S.at_ 0 rfl) rfl ?_
    exact FinX.here S.le.len ⟨_, [], rfl, zeroC_own _ _, S.le⟩
  have h5 : ¬ x.e + y.e > 24 := by simpa using h5
  rw [if_pos (by omega)]
  obtain ⟨q1, q2, q3⟩ := qx
  obtain ⟨q4, q5, q6⟩ := qy
  refine DrawX.of Tt.tab follows_any [20, 29, 38] [40] [0, 1, 2, 3, 4, 5, 6, 7, 8, 9, 10, 11, 12, 13, 14, 15, 16, 17, 18, 19, 21, 22, 23, 24, 25, 26, 27, 28, 30, 31, 32, 33, 34, 35, 36, 37, 20, 29, 38, 39, 40, 41] rfl (by kernel_rfl) (by kernel_rfl) ?_
  refine LoadX.same (v := .int .i64 x.prime) (S.at_ 2 rfl) rfl ?_
  refine LoadX.same (v := .int .i64 x.d) (S.at_ 2 rfl) rfl ?_
  refine LoadX.same (v := .int .i64 y.d) (S.at_ 1 rfl) rfl ?_
  refine WR.i64 ?_
  refine LoadX.same (v := .int .i64 x.e) (S.at_ 2 rfl) rfl ?_
  refine LoadX.same (v := .int .i64 y.e) (S.at_ 1 rfl) rfl ?_
  refine WR.i64 ?_
  refine LoadX.same (v := .slice (some ⟨b1, o1, none⟩) x.i.length 0) (S.at_ 2 rfl) rfl ?_
  refine LoadX.same (v := .int .i64 x.d) (S.at_ 2 rfl) rfl ?_
  refine LoadX.same (v := .slice (some ⟨b4, o4, none⟩) y.i.length 0) (S.at_ 1 rfl) rfl ?_
  refine LoadX.same (v := .int .i64 y.d) (S.at_ 1 rfl) rfl ?_
  refine LoadX.same (v := .slice (some ⟨b2, o2, none⟩) x.j.length 0) (S.at_ 2 rfl) rfl ?_
  refine LoadX.same (v := .int .i64 x.e) (S.at_ 2 rfl) rfl ?_
  refine LoadX.same (v := .slice (some ⟨b5, o5, none⟩) y.j.length 0) (S.at_ 1 rfl) rfl ?_
  refine LoadX.same (v := .int .i64 y.e) (S.at_ 1 rfl) rfl ?_
  refine LoadX.same (v := .slice (some ⟨b3, o3, none⟩) x.k.length 0) (S.at_ 2 rfl) rfl ?_
  refine LoadX.same (v := .int .i64 x.d) (S.at_ 2 rfl) rfl ?_
  refine LoadX.same (v := .slice (some ⟨b6, o6, none⟩) y.k.length 0) (S.at_ 1 rfl) rfl ?_
  refine LoadX.same (v := .int .i64 y.d) (S.at_ 1 rfl) rfl ?_
  refine S.madeL OII.fr (l05Blocks_c _ _ _ x.i y.i x.d y.d (RII.le _ _ _ _ S.le q1) (RII.le _ _ _ _ S.le q4) (by omega) (by omega) (by omega) (by omega) (fun r hr => by have := (mi1 r hr).1; omega) (fun r hr => by have := (mi2 r hr).1; omega)) fun a0 z0 g L S => ⟨L, strictV.mk ?_⟩
  refine S.madeL OII.fr (l05Blocks_c _ _ _ x.j y.j x.e y.e (RII.le _ _ _ _ S.le q2) (RII.le _ _ _ _ S.le q5) (by omega) (by omega) (by omega) (by omega) (fun r hr => by have := (mj1 r hr).1; omega) (fun r hr => by have := (mj2 r hr).1; omega)) fun a1 z1 g L S => ⟨L, strictV.mk ?_⟩
  refine S.madeL OII.fr (l05Blocks_c _ _ _ x.k y.k x.d y.d (RII.le _ _ _ _ S.le q3) (RII.le _ _ _ _ S.le q6) (by omega) (by omega) (by omega) (by omega) (fun r hr => by have := (mk1 r hr).1; omega) (fun r hr => by have := (mk2 r hr).1; omega)) fun a2 z2 g L S => ⟨L, strictV.mk ?_⟩
  refine S.put 3 rfl fun g S => strictV.mk ?_
  obtain ⟨l1, l2, l3, t1, t2, t3, hd⟩ := S.three
  refine LoadX.same (v := .agg #[.int .i64 x.prime, .int .i64 (x.d + y.d), .int .i64 (x.e + y.e), .slice (some ⟨a0, z0, none⟩) (blocks x.i y.i x.d y.d).length 0, .slice (some ⟨a1, z1, none⟩) (blocks x.j y.j x.e y.e).length 0, .slice (some ⟨a2, z2, none⟩) (blocks x.k y.k x.d y.d).length 0]) (S.at_ 3 rfl) rfl ?_
  exact FinX.here S.le.len ⟨_, _, rfl, ⟨_, _, _, rfl, l3, l2, l1, t3, t2, t1, rfl, nodup_rev3 hd⟩, S.le⟩

end Go.Gl

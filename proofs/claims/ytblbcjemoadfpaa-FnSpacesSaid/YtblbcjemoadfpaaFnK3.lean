/- Chapter 1: sums and meets of spaces. No condition. -/
import Derived.Test.YtblbcjemoadfpaaFnK2
import Derived.Test.YtblbcjemoadfpaaFnS1
set_option linter.unusedVariables false
set_option linter.unusedSimpArgs false
namespace Go.Gl
open Go.Proofs Go.Proofs.Ytblbcjemoadfpaa Go.Pl

def sumSp (p n : Int) (a b : List (List Int)) : List (List Int) × Int := if spaceOk p n [a, b] then (ech p (a ++ b), 0) else ([], 2)
/-- the sums of multiples of the rows of a that are such of b -/
def meetN (p : Int) (n : Nat) (a b : List (List Int)) : List (List Int) := (kern p n (ech p a ++ ech p b)).map fun v => comb p n (v.take (ech p a).length) (ech p a)
def meetP (p : Int) (n : Nat) (a b : List (List Int)) : List (List Int) := ech p (meetN p n a b)
def meetOf (p n : Int) (a b : List (List Int)) : List (List Int) × Int := if spaceOk p n [a, b] then (meetP p n.toNat a b, 0) else ([], 2)
theorem Vec.take {p : Int} {n k : Nat} {v : List Int} (hv : Vec p n v) (hk : k ≤ n) : Vec p k (v.take k) := ⟨by rw [List.length_take, hv.1]; omega, fun x hx => hv.2 x (List.mem_of_mem_take hx)⟩
theorem Vec.comb {p : Int} (hp : 0 < p) {n : Nat} {v : List Int} {rows : List (List Int)} : Vec p n (comb p n v rows) := Vec.tab fun i _ => ⟨Int.emod_nonneg _ (by omega), Int.emod_lt_of_pos _ hp⟩
theorem meetN_mat {p : Int} (hp : 0 < p) {n : Nat} {a b : List (List Int)} : Mat p n (meetN p n a b) := fun r hr => by
  simp only [meetN, List.mem_map] at hr
  obtain ⟨v, _, rfl⟩ := hr
  exact Vec.comb hp
theorem both_mat {p : Int} (hp : IsP p) {n : Nat} {a b : List (List Int)} (ha : Mat p n a) (hb : Mat p n b) : Mat p n (ech p a ++ ech p b) := (ech_few hp ha).2.append (ech_few hp hb).2
theorem meetN_len {p : Int} (hp : IsP p) {n : Nat} {a b : List (List Int)} (ha : Mat p n a) (hb : Mat p n b) : (meetN p n a b).length ≤ a.length + b.length := by
  have h1 := (kern_red hp (both_mat hp ha hb)).len
  have h2 := (ech_few hp ha).1
  have h3 := (ech_few hp hb).1
  rw [List.length_append] at h1
  simp only [meetN, List.length_map]
  omega
/-- an empty list meets in nothing -/
theorem meetP_nil {p : Int} (hp : IsP p) {n : Nat} {a b : List (List Int)} (ha : Mat p n a) (hb : Mat p n b) (h : ech p a = [] ∨ ech p b = []) : meetP p n a b = [] := by
  have hpp := hp.rng
  unfold meetP
  rcases h with h | h
  · refine ech_zero hp (meetN_mat (by omega)) fun i c hi => ?_
    have : meetN p n a b = (kern p n (ech p a ++ ech p b)).map fun v => tab n fun _ => 0 := by
      unfold meetN
      rw [h]
      refine List.map_congr_left fun v _ => ?_
      simp only [List.length_nil, List.take_zero, comb, sm]
      rfl
    rw [this] at hi ⊢
    unfold ent
    rw [row_map _ (by simpa using hi)]
    by_cases hc : c < n
    · exact tab_ith hc
    · exact ith_out (by rw [tab_length]; omega)
  · have : meetN p n a b = [] := by
      unfold meetN
      rw [h, List.append_nil, kern_indep hp (ech_spec hp ha).1]
      rfl
    rw [this]; rfl
theorem sumSp_cn (p n : Int) (a b : List (List Int)) : cnII (sumSp p n a b).1 ≤ 10000 := by
  unfold sumSp
  split
  · rename_i h
    obtain ⟨h1, h2, h3, h4⟩ := spaceOk_one h (rows := a) (by simp)
    obtain ⟨_, _, h5, h6⟩ := spaceOk_one h (rows := b) (by simp)
    obtain ⟨e1, e2⟩ := ech_few h1 (h4.append h6)
    rw [List.length_append] at e1
    rw [cnII_mat e2]
    calc (ech p (a ++ b)).length * n.toNat ≤ 80 * 40 := Nat.mul_le_mul (by omega) (by omega)
      _ ≤ 10000 := by decide
  · simp [cnL]
theorem meetOf_cn (p n : Int) (a b : List (List Int)) : cnII (meetOf p n a b).1 ≤ 10000 := by
  unfold meetOf
  split
  · rename_i h
    obtain ⟨h1, h2, h3, h4⟩ := spaceOk_one h (rows := a) (by simp)
    obtain ⟨_, _, h5, h6⟩ := spaceOk_one h (rows := b) (by simp)
    have hpp := h1.rng
    obtain ⟨e1, e2⟩ := ech_few h1 (meetN_mat (p := p) (n := n.toNat) (a := a) (b := b) (by omega))
    have e3 := meetN_len h1 h4 h6
    unfold meetP
    rw [cnII_mat e2]
    calc (ech p (meetN p n.toNat a b)).length * n.toNat ≤ 80 * 40 := Nat.mul_le_mul (by omega) (by omega)
      _ ≤ 10000 := by decide
  · simp [cnL]

theorem l01Plus_c (h : AH) (p : Int) (n : Nat) (va vb : Value) (a b : List (List Int)) (hp : IsP p) (hn : n ≤ 1000) (ha : RII h va a) (hb : RII h vb b) (ma : Mat p n a) (mb : Mat p n b) (la : a.length ≤ 1000) (lb : b.length ≤ 1000) :
    ACalls Try.prog 74 [.int .i64 p, va, vb] h (Made OII h (ech p (a ++ b))) := by
  obtain ⟨_, b1, o1, k1, c1⟩ := ha
  obtain ⟨_, b2, o2, k2, c2⟩ := hb
  refine ACalls.madeN (ACalls.wk (args' := [.int .i64 p, .slice (some ⟨b1, o1, none⟩) a.length 0, .slice (some ⟨b2, o2, none⟩) b.length 0]) ?_ (.cons (Wk.refl _) (.cons k1 (.cons k2 .nil))))
  refine ACalls.of Tt.tab Try.func74 rfl (by kernel_rfl) Try.ntmps74 _ rfl rfl (fun hw => ?_)
  have S := Sep.start h
  refine S.new fun b3 g S => ?_
  have S := S.bx_rc 0 (k := 0) rfl rfl
  refine S.appW (ie := Tt.ti71) 0 rfl EI.le S.le c1 (by omega) fun A c g us ht S => ?_
  refine S.appW (ie := Tt.ti71) 0 rfl EI.le S.le c2 (by omega) fun A c g us2 ht2 S => ?_
  refine S.made OII.fr (l01Echelon_c _ p n _ (a ++ b) hp (by omega) (S.rdF 0 rfl ((ht.append ht2).le RI.le S.le) (by omega)) (ma.append mb) (by rw [List.length_append]; omega)) fun b4 o4 g S => ?_
  exact S.fin 0 rfl

theorem sumSpI_c (h : AH) (p n : Int) (va : Value) (a : List (List Int)) (ha : RII h va a) (vb : Value) (b : List (List Int)) (hb : RII h vb b) : ACalls Try.prog 32 [.int .i64 p, .int .i64 n, va, vb] h (MadeC OII h (sumSp p n a b).1 (sumSp p n a b).2) := by
  obtain ⟨b1, o1, k1, ha⟩ := ha.can
  obtain ⟨b2, o2, k2, hb⟩ := hb.can
  refine ACalls.wk (args' := [.int .i64 p, .int .i64 n, .slice (some ⟨b1, o1, none⟩) a.length 0, .slice (some ⟨b2, o2, none⟩) b.length 0]) ?_ (.cons (Wk.refl _) (.cons (Wk.refl _) (.cons k1 (.cons k2 .nil))))
  refine ACalls.of Tt.tab Try.func32 rfl (by kernel_rfl) Try.ntmps32 _ rfl rfl (fun hw => ?_)
  have S := Sep.start h
  refine S.new fun b3 g S => ?_
  refine CallX.same (spaceCode_c _ p n _ [a, b] (RIII.two (S.at_ 0 rfl) (RII.le _ _ _ _ S.le ha) (RII.le _ _ _ _ S.le hb) 1)) ?_
  rintro r g' ⟨rfl, rfl⟩
  unfold sumSp
  cases hs : spaceOk p n [a, b] with
  | false =>
    refine BIf.yes rfl ?_
    exact S.nilC
  | true =>
    refine BIf.no rfl ?_
    obtain ⟨z1, z2, z3, z4⟩ := spaceOk_one hs (rows := a) (by simp)
    obtain ⟨_, _, z5, z6⟩ := spaceOk_one hs (rows := b) (by simp)
    refine S.new fun b4 g S => ?_
    refine CallX.same (concatII_c g _ [a, b] (RIII.two (S.at_ 0 rfl) (RII.le _ _ _ _ S.le ha) (RII.le _ _ _ _ S.le hb) 1) (by simp; omega)) ?_
    rintro r g' ⟨b5, o5, rfl, hr, L⟩
    have S := S.grow L
    have e : [a, b].flatten = a ++ b := by simp
    rw [e] at hr ⊢
    refine S.made OII.fr (reduce_c _ p n.toNat _ (a ++ b) z1 (by omega) hr (z4.append z6) (by rw [List.length_append]; omega)) fun b2 o2 g S => ?_
    exact S.finC 0 rfl

theorem sumSpS_c (h : AH) (p n : Int) (va : Value) (a : List (List Int)) (ha : RII h va a) (vb : Value) (b : List (List Int)) (hb : RII h vb b) : ACalls Try.prog 33 [.int .i64 p, .int .i64 n, va, vb] h (MadeC OII h (sumSp p n a b).1 (sumSp p n a b).2) := by
  obtain ⟨b1, o1, k1, ha⟩ := ha.can
  obtain ⟨b2, o2, k2, hb⟩ := hb.can
  refine ACalls.wk (args' := [.int .i64 p, .int .i64 n, .slice (some ⟨b1, o1, none⟩) a.length 0, .slice (some ⟨b2, o2, none⟩) b.length 0]) ?_ (.cons (Wk.refl _) (.cons (Wk.refl _) (.cons k1 (.cons k2 .nil))))
  refine ACalls.of Tt.tab Try.func33 rfl (by kernel_rfl) Try.ntmps33 _ rfl rfl (fun hw => ?_)
  have S := Sep.start h
  refine S.new fun b3 g S => ?_
  refine CallX.same (l01Spaces_c _ p n _ [a, b] (RIII.two (S.at_ 0 rfl) (RII.le _ _ _ _ S.le ha) (RII.le _ _ _ _ S.le hb) 1)) ?_
  rintro r g' ⟨rfl, rfl⟩
  unfold sumSp
  cases hs : spaceOk p n [a, b] with
  | false =>
    refine BIf.yes rfl ?_
    exact S.nilC
  | true =>
    refine BIf.no rfl ?_
    obtain ⟨z1, z2, z3, z4⟩ := spaceOk_one hs (rows := a) (by simp)
    obtain ⟨_, _, z5, z6⟩ := spaceOk_one hs (rows := b) (by simp)
    refine S.made OII.fr (l01Plus_c _ p n.toNat _ _ a b z1 (by omega) (RII.le _ _ _ _ S.le ha) (RII.le _ _ _ _ S.le hb) z4 z6 (by omega) (by omega)) fun b2 o2 g S => ?_
    exact S.finC 0 rfl

theorem meet_c (h : AH) (p : Int) (n : Nat) (va vb : Value) (a b : List (List Int)) (hp : IsP p) (hn : n ≤ 500) (ha : RII h va a) (hb : RII h vb b) (ma : Mat p n a) (mb : Mat p n b) (la : a.length ≤ 500) (lb : b.length ≤ 500) (h0 : 0 < (ech p a).length) :
    ACalls Try.prog 70 [.int .i64 p, va, vb] h (Made OII h (meetP p n a b)) := by
  have hpp := hp.rng
  obtain ⟨b1, o1, k1, ha⟩ := ha.can
  obtain ⟨b2, o2, k2, hb⟩ := hb.can
  have mN := meetN_mat (p := p) (n := n) (a := a) (b := b) (by omega)
  have lN := meetN_len hp ma mb
  unfold meetP
  unfold meetN at mN lN ⊢
  refine ACalls.madeN (ACalls.wk (args' := [.int .i64 p, .slice (some ⟨b1, o1, none⟩) a.length 0, .slice (some ⟨b2, o2, none⟩) b.length 0]) ?_ (.cons (Wk.refl _) (.cons k1 (.cons k2 .nil))))
  refine ACalls.of Tt.tab Try.func70 rfl (by kernel_rfl) Try.ntmps70 _ rfl rfl (fun hw => ?_)
  have S := Sep.start h
  obtain ⟨eA, mA⟩ := ech_few hp ma
  obtain ⟨eB, mB⟩ := ech_few hp mb
  have bm := both_mat hp ma mb
  have kR := kern_red hp bm
  refine S.made OII.fr (reduce_c _ p n _ a hp (by omega) ha ma (by omega)) fun b3 o3 ga Sa => ?_
  refine Sa.made OII.fr (reduce_c _ p n _ b hp (by omega) (RII.le _ _ _ _ Sa.le hb) mb (by omega)) fun b4 o4 g Sb => ?_
  have hA := Sb.rd OII.reads 1 rfl
  have hB := Sb.rd OII.reads 0 rfl
  have hle := Sb.le
  replace S := Sb.freeze
  clear Sa Sb
  generalize ech p a = A at *
  generalize ech p b = B at *
  refine S.new fun b5 g2 S => ?_
  have S := S.bx_rw 0 OI.fr rfl
  refine S.new fun b6 g2 S => ?_
  refine CallX.same (concatII_c g2 _ [A, B] (RIII.two (S.at_ 0 rfl) (RII.le _ _ _ _ S.le hA) (RII.le _ _ _ _ S.le hB) 1) (by simp; omega)) ?_
  rintro r g3 ⟨b7, o7, rfl, hr, L⟩
  have S := (S.grow L).tail
  have e : [A, B].flatten = A ++ B := by simp
  rw [e] at hr ⊢
  refine S.made OII.fr (kernel_c _ p n _ (A ++ B) hp (by omega) hr bm (by rw [List.length_append]; omega)) fun b8 o8 g4 S => ?_
  obtain ⟨F, hle2, S1, S2⟩ := S.alone 1 rfl
  have c3 := S1.cellsII 0 rfl
  clear S S1
  have hA : RII (hide F g4) _ _ := RII.le _ _ _ _ hle2 hA
  have hle := hle.trans hle2
  generalize kern p n (A ++ B) = N at *
  have cA := hA.cells rfl
  refine ⟨⟨[0, 1, 7, 22, 23, 24], fun n' vs g5 => ∃ (i b : Nat), n' = N.length - i ∧ i ≤ N.length ∧ SepM F h.length (hide F g4) g5 [.rw OI.fr 71 h.length (.slice (some ⟨b, 0, none⟩) i 1) i ((N.take i).map fun v => comb p n (v.take A.length) A)] ∧
    vs = [.int .i64 p, .slice (some ⟨b3, o3, none⟩) A.length 0, .slice (some ⟨b, 0, none⟩) i 1, .slice (some ⟨b8, o8, none⟩) N.length 0, .int .i64 N.length, .int .i64 i], _, ⟨0, b5, rfl, Nat.zero_le _, S2, rfl⟩, ?_⟩⟩
  rintro n' vs g5 ⟨i, b, rfl, hi, S, rfl⟩
  rw [List.length_map] at lN
  refine BIf.mk (fun h2 => ?_) (fun h2 => ?_)
  · have hlt : i < N.length := by simpa using h2
    have hri : Vec p (A.length + B.length) (row N i) := by have := kR.mat.row hlt; rwa [List.length_append] at this
    have hr1 := hri.1
    refine IdxX.mk (by omega) (by omega) ?_
    refine c3.row S.le hlt fun b9 o9 c9 => ?_
    refine DrawX.of Tt.tab follows_any [11, 12] [13] [0, 1, 2, 3, 4, 5, 6, 7, 8, 9, 10, 11, 12, 13, 14] rfl (by kernel_rfl) (by kernel_rfl) ?_
    refine IdxX.mk (by omega) (by omega) ?_
    refine cA.row S.le h0 fun ba oa ca => ?_
    rw [(mA.row h0).1]
    refine ⟨by omega, by omega, by rw [hri.1]; omega, ?_⟩
    have hv : RI (hide F g4) (.slice (some ⟨b9, o9, none⟩) A.length 0) ((row N i).take A.length) := RI.part (d := 0) (k := A.length) c9 (by omega) (by omega)
    refine S.madeL OI.fr (combine_c _ p n _ _ ((row N i).take A.length) A hpp (by omega) (RI.le _ _ _ _ S.le hv) (RII.le _ _ _ _ S.le hA) (Vec.take hri (by omega)).2 mA (by simp; omega)) fun b10 o10 g6 L S => ⟨L, strictV.mk ?_⟩
    refine S.newL fun b11 g7 L S => ⟨L, strictV.mk ?_⟩
    refine S.appT 0 rfl rfl (by omega) fun b12 g7 S => ?_
    refine WR.i64 ?_
    refine ⟨N.length - (i + 1), by omega, i + 1, b12, rfl, hlt, ?_, rfl⟩
    rw [take_succ_row hlt, List.map_append]
    exact S
  have hi2 : i = N.length := by simp at h2; omega
  subst hi2
  rw [List.take_length] at S
  have hlen := S.rw_len 0 rfl
  refine S.made OII.fr (reduce_c _ p n _ _ hp (by omega) (S.rdw OI.reads 0 rfl (by omega)) mN (by rw [hlen]; omega)) fun b13 o13 g6 S => ?_
  exact S.finB hle 0 rfl

theorem meetOfI_c (h : AH) (p n : Int) (va : Value) (a : List (List Int)) (ha : RII h va a) (vb : Value) (b : List (List Int)) (hb : RII h vb b) : ACalls Try.prog 30 [.int .i64 p, .int .i64 n, va, vb] h (MadeC OII h (meetOf p n a b).1 (meetOf p n a b).2) := by
  obtain ⟨b1, o1, k1, ha⟩ := ha.can
  obtain ⟨b2, o2, k2, hb⟩ := hb.can
  refine ACalls.wk (args' := [.int .i64 p, .int .i64 n, .slice (some ⟨b1, o1, none⟩) a.length 0, .slice (some ⟨b2, o2, none⟩) b.length 0]) ?_ (.cons (Wk.refl _) (.cons (Wk.refl _) (.cons k1 (.cons k2 .nil))))
  refine ACalls.of Tt.tab Try.func30 rfl (by kernel_rfl) Try.ntmps30 _ rfl rfl (fun hw => ?_)
  have S := Sep.start h
  refine S.new fun b3 g S => ?_
  refine CallX.same (spaceCode_c _ p n _ [a, b] (RIII.two (S.at_ 0 rfl) (RII.le _ _ _ _ S.le ha) (RII.le _ _ _ _ S.le hb) 1)) ?_
  rintro r g' ⟨rfl, rfl⟩
  unfold meetOf
  cases hs : spaceOk p n [a, b] with
  | false =>
    refine BIf.yes rfl ?_
    exact S.nilC
  | true =>
    refine BIf.no rfl ?_
    obtain ⟨z1, z2, z3, z4⟩ := spaceOk_one hs (rows := a) (by simp)
    obtain ⟨_, _, z5, z6⟩ := spaceOk_one hs (rows := b) (by simp)
    rw [if_pos rfl]
    refine S.made OII.fr (reduce_c _ p n.toNat _ a z1 (by omega) (RII.le _ _ _ _ S.le ha) z4 (by omega)) fun b4 o4 g S => ?_
    refine BIf.mk (fun h1 => ?_) (fun h1 => ?_)
    · have h1 : ech p a = [] := by simpa using h1
      rw [meetP_nil z1 z4 z6 (.inl h1)]
      refine BIf.yes rfl ?_
      exact S.nilC
    · have h1 : 0 < (ech p a).length := by simp at h1; exact List.length_pos_iff.2 h1
      refine S.made OII.fr (reduce_c _ p n.toNat _ b z1 (by omega) (RII.le _ _ _ _ S.le hb) z6 (by omega)) fun b5 o5 g S => ?_
      refine BIf.mk (fun h2 => ?_) (fun h2 => ?_)
      · have h2 : ech p b = [] := by simpa using h2
        rw [meetP_nil z1 z4 z6 (.inr h2)]
        exact S.nilC
      · refine S.made OII.fr (meet_c _ p n.toNat _ _ a b z1 (by omega) (RII.le _ _ _ _ S.le ha) (RII.le _ _ _ _ S.le hb) z4 z6 (by omega) (by omega) h1) fun b6 o6 g S => ?_
        exact S.finC 0 rfl

theorem l01Meet_c (h : AH) (p : Int) (n : Nat) (va vb : Value) (a b : List (List Int)) (hp : IsP p) (hn : n ≤ 500) (ha : RII h va a) (hb : RII h vb b) (ma : Mat p n a) (mb : Mat p n b) (la : a.length ≤ 500) (lb : b.length ≤ 500) :
    ACalls Try.prog 72 [.int .i64 p, .int .i64 n, va, vb] h (Made OII h (meetP p n a b)) := by
  have hpp := hp.rng
  obtain ⟨b1, o1, k1, ha⟩ := ha.can
  obtain ⟨b2, o2, k2, hb⟩ := hb.can
  have mN := meetN_mat (p := p) (n := n) (a := a) (b := b) (by omega)
  have lN := meetN_len hp ma mb
  unfold meetP
  unfold meetN at mN lN ⊢
  refine ACalls.madeN (ACalls.wk (args' := [.int .i64 p, .int .i64 n, .slice (some ⟨b1, o1, none⟩) a.length 0, .slice (some ⟨b2, o2, none⟩) b.length 0]) ?_ (.cons (Wk.refl _) (.cons (Wk.refl _) (.cons k1 (.cons k2 .nil)))))
  refine ACalls.of Tt.tab Try.func72 rfl (by kernel_rfl) Try.ntmps72 _ rfl rfl (fun hw => ?_)
  have S0 := Sep.start h
  obtain ⟨eA, mA⟩ := ech_few hp ma
  obtain ⟨eB, mB⟩ := ech_few hp mb
  have bm := both_mat hp ma mb
  have kR := kern_red hp bm
  refine S0.made OII.fr (l01Echelon_c _ p n _ a hp (by omega) ha ma (by omega)) fun b3 o3 g1 S1 => ?_
  refine S1.new fun b4 g2 S2 => ?_
  have S3 := S2.bx_rc 0 (k := 0) rfl rfl
  refine S3.made OII.fr (l01Echelon_c _ p n _ a hp (by omega) (RII.le _ _ _ _ S3.le ha) ma (by omega)) fun b5 o5 g3 S4 => ?_
  obtain ⟨F1, hle1, T1, U1⟩ := S4.alone 1 rfl
  have hA := T1.rd OII.reads 1 rfl
  have c1 := T1.cellsII 0 rfl
  clear S0 S1 S2 S3 S4 T1
  refine U1.appW (ie := Tt.ti71) 0 rfl EI.le U1.le c1 (by omega) fun A1 q1 g4 us1 t1 U2 => ?_
  refine U2.made OII.fr (l01Echelon_c _ p n _ b hp (by omega) (RII.le _ _ _ _ (hle1.trans U2.le) hb) mb (by omega)) fun b6 o6 g5 U3 => ?_
  obtain ⟨F2, hle2, T2, V1⟩ := U3.alone 1 rfl
  have c2 := T2.cellsII 0 rfl
  clear U1 U2 U3 T2
  refine V1.appW (ie := Tt.ti71) 0 rfl EI.le V1.le c2 (by omega) fun A2 q2 g6 us2 t2 V2 => ?_
  have t3 := (t1.le RI.le hle2).append t2
  have hA := RII.le _ _ _ _ hle2 hA
  have hle := hle1.trans hle2
  have c1 := (c1.le RI.le hle2)
  clear c1 t1 t2 c2 V1
  have hr := V2.rdF 0 rfl (t3.le RI.le V2.le) (by omega)
  have el : (0 + (ech p a).length + (ech p b).length) = (ech p a ++ ech p b).length := by rw [List.length_append]; omega
  rw [el] at hr ⊢
  refine V2.made OII.fr (l01Kernel_c _ p n _ (ech p a ++ ech p b) hp (by omega) hr bm (by rw [List.length_append]; omega)) fun b8 o8 g7 V3 => ?_
  have c3 := V3.cellsII 0 rfl
  have hA := RII.le _ _ _ _ V3.le hA
  have hle := hle.trans V3.le
  have S := V3.freeze
  clear V2 V3 hr t3
  generalize ech p a = A at *
  generalize ech p b = B at *
  generalize kern p n (A ++ B) = N at *
  have cA := hA.cells rfl
  refine S.new fun b9 g8 S => ?_
  have S := S.bx_rw 0 OI.fr rfl
  refine ⟨⟨[0, 1, 9, 11, 12, 13], fun n' vs g5 => ∃ (i b : Nat), n' = N.length - i ∧ i ≤ N.length ∧ SepM F2 h.length g7 g5 [.rw OI.fr 71 h.length (.slice (some ⟨b, 0, none⟩) i 1) i ((N.take i).map fun v => comb p n (v.take A.length) A)] ∧
    vs = [.int .i64 p, .int .i64 n, .slice (some ⟨b3, o3, none⟩) A.length 0, .slice (some ⟨b8, o8, none⟩) N.length 0, .slice (some ⟨b, 0, none⟩) i 1, .int .i64 i], _, ⟨0, b9, rfl, Nat.zero_le _, S, rfl⟩, ?_⟩⟩
  rintro n' vs g9 ⟨i, b, rfl, hi, S, rfl⟩
  rw [List.length_map] at lN
  refine BIf.mk (fun h2 => ?_) (fun h2 => ?_)
  · have hlt : i < N.length := by simpa using h2
    have hri : Vec p (A.length + B.length) (row N i) := by have := kR.mat.row hlt; rwa [List.length_append] at this
    have hr1 := hri.1
    refine IdxX.mk (by omega) (by omega) ?_
    refine c3.row S.le hlt fun b9 o9 c9 => ?_
    refine ⟨by omega, by omega, by rw [hri.1]; omega, ?_⟩
    have hv : RI g7 (.slice (some ⟨b9, o9, none⟩) A.length 0) ((row N i).take A.length) := RI.part (d := 0) (k := A.length) c9 (by omega) (by omega)
    refine S.made OI.fr (l01Apply_c _ p n _ _ ((row N i).take A.length) A hpp (by omega) (RI.le _ _ _ _ S.le hv) (RII.le _ _ _ _ S.le hA) (Vec.take hri (by omega)).2 mA (by simp; omega)) fun b10 o10 g6 S => ?_
    refine S.new fun b11 g7 S => ?_
    refine S.appT 0 rfl rfl (by omega) fun b12 g7 S => ?_
    refine WR.i64 ?_
    refine ⟨N.length - (i + 1), by omega, i + 1, b12, rfl, hlt, ?_, rfl⟩
    rw [take_succ_row hlt, List.map_append]
    exact S
  have hi2 : i = N.length := by simp at h2; omega
  subst hi2
  rw [List.take_length] at S
  have hlen := S.rw_len 0 rfl
  refine S.made OII.fr (l01Echelon_c _ p n _ _ hp (by omega) (S.rdw OI.reads 0 rfl (by omega)) mN (by rw [hlen]; omega)) fun b13 o13 g6 S => ?_
  exact S.finB hle 0 rfl

theorem meetOfS_c (h : AH) (p n : Int) (va : Value) (a : List (List Int)) (ha : RII h va a) (vb : Value) (b : List (List Int)) (hb : RII h vb b) : ACalls Try.prog 31 [.int .i64 p, .int .i64 n, va, vb] h (MadeC OII h (meetOf p n a b).1 (meetOf p n a b).2) := by
  obtain ⟨b1, o1, k1, ha⟩ := ha.can
  obtain ⟨b2, o2, k2, hb⟩ := hb.can
  refine ACalls.wk (args' := [.int .i64 p, .int .i64 n, .slice (some ⟨b1, o1, none⟩) a.length 0, .slice (some ⟨b2, o2, none⟩) b.length 0]) ?_ (.cons (Wk.refl _) (.cons (Wk.refl _) (.cons k1 (.cons k2 .nil))))
  refine ACalls.of Tt.tab Try.func31 rfl (by kernel_rfl) Try.ntmps31 _ rfl rfl (fun hw => ?_)
  have S := Sep.start h
  refine S.new fun b3 g S => ?_
  refine CallX.same (l01Spaces_c _ p n _ [a, b] (RIII.two (S.at_ 0 rfl) (RII.le _ _ _ _ S.le ha) (RII.le _ _ _ _ S.le hb) 1)) ?_
  rintro r g' ⟨rfl, rfl⟩
  unfold meetOf
  cases hs : spaceOk p n [a, b] with
  | false =>
    refine BIf.yes rfl ?_
    exact S.nilC
  | true =>
    refine BIf.no rfl ?_
    obtain ⟨z1, z2, z3, z4⟩ := spaceOk_one hs (rows := a) (by simp)
    obtain ⟨_, _, z5, z6⟩ := spaceOk_one hs (rows := b) (by simp)
    have hn : ((n.toNat : Nat) : Int) = n := by omega
    have hc := l01Meet_c g' p n.toNat _ _ a b z1 (by omega) (RII.le _ _ _ _ S.le ha) (RII.le _ _ _ _ S.le hb) z4 z6 (by omega) (by omega)
    rw [hn] at hc
    refine S.made OII.fr hc fun b2 o2 g S => ?_
    exact S.finC 0 rfl

end Go.Gl

/- Structures of the program as plain data, and the contracts of the laws' helpers on them. Written by mk_struct.py. No condition. -/
import Derived.Test.YtionapmdibdfpaaFnLaw
set_option linter.unusedVariables false
set_option linter.unusedSimpArgs false
namespace Go.Gl
open Go.Proofs Go.Proofs.Ytionapmdibdfpaa


structure SWhole where
  dims : List Int
  maps : List (List (List Int))
deriving DecidableEq

def QWhole (h : AH) (v1 v2 : Value) (x : SWhole) : Prop := RI h v1 x.dims ∧ RIII h v2 x.maps
def RWhole (h : AH) (v : Value) (x : SWhole) : Prop := ∃ v1 v2, v = .agg #[v1, v2] ∧ QWhole h v1 v2 x
theorem QWhole.le {h h' : AH} {v1 v2 : Value} {x : SWhole} (hl : Le h h') : QWhole h v1 v2 x → QWhole h' v1 v2 x := fun ⟨h1, h2⟩ => ⟨RI.le _ _ _ _ hl h1, RIII.le _ _ _ _ hl h2⟩
theorem RWhole.le : ∀ h h' v x, Le h h' → RWhole h v x → RWhole h' v x := fun _ _ _ _ hl ⟨v1, v2, e, h1⟩ => ⟨v1, v2, e, h1.le hl⟩
theorem QWhole.can {h : AH} {v1 v2 : Value} {x : SWhole} (hr : QWhole h v1 v2 x) : ∃ b1 o1 b2 o2, Wk v1 (.slice (some ⟨b1, o1, none⟩) x.dims.length 0) ∧ Wk v2 (.slice (some ⟨b2, o2, none⟩) x.maps.length 0) ∧ QWhole h (.slice (some ⟨b1, o1, none⟩) x.dims.length 0) (.slice (some ⟨b2, o2, none⟩) x.maps.length 0) x := by
  obtain ⟨h1, h2⟩ := hr
  obtain ⟨b1, o1, k1, h1⟩ := h1.can
  obtain ⟨b2, o2, k2, h2⟩ := h2.can
  exact ⟨b1, o1, b2, o2, k1, k2, h1, h2⟩

theorem RWhole.can {h : AH} {v : Value} {x : SWhole} (hr : RWhole h v x) : ∃ b1 o1 b2 o2, Wk v (.agg #[.slice (some ⟨b1, o1, none⟩) x.dims.length 0, .slice (some ⟨b2, o2, none⟩) x.maps.length 0]) ∧ QWhole h (.slice (some ⟨b1, o1, none⟩) x.dims.length 0) (.slice (some ⟨b2, o2, none⟩) x.maps.length 0) x := by
  obtain ⟨v1, v2, rfl, hq⟩ := hr
  obtain ⟨b1, o1, b2, o2, k1, k2, hq⟩ := hq.can
  exact ⟨b1, o1, b2, o2, Wk.agg (.cons k1 (.cons k2 .nil)), hq⟩

def PWhole (n : Nat) (h : AH) (v1 v2 : Value) (x : SWhole) (l : List Nat) : Prop := ∃ l1 l2, OI n h v1 x.dims l1 ∧ OIII n h v2 x.maps l2 ∧ l = l1 ++ l2 ∧ l.Nodup
def OWhole : Tr SWhole := fun n h v x l => ∃ v1 v2, v = .agg #[v1, v2] ∧ PWhole n h v1 v2 x l
theorem PWhole.wk {n : Nat} {h : AH} {v1 v2 w1 w2 : Value} {x : SWhole} {l : List Nat} (k1 : Wk v1 w1) (k2 : Wk v2 w2) : PWhole n h w1 w2 x l → PWhole n h v1 v2 x l := fun ⟨l1, l2, h1, h2, e, hd⟩ => ⟨l1, l2, Leaf.wk k1 h1, Node.wk k2 h2, e, hd⟩
theorem PWhole.can {n : Nat} {h : AH} {v1 v2 : Value} {x : SWhole} {l : List Nat} (hr : PWhole n h v1 v2 x l) : ∃ b1 o1 b2 o2, Wk v1 (.slice (some ⟨b1, o1, none⟩) x.dims.length 0) ∧ Wk v2 (.slice (some ⟨b2, o2, none⟩) x.maps.length 0) ∧ PWhole n h (.slice (some ⟨b1, o1, none⟩) x.dims.length 0) (.slice (some ⟨b2, o2, none⟩) x.maps.length 0) x l := by
  obtain ⟨l1, l2, h1, h2, e, hd⟩ := hr
  obtain ⟨b1, o1, k1, h1⟩ := Leaf.can h1
  obtain ⟨b2, o2, k2, h2⟩ := Node.can h2
  exact ⟨b1, o1, b2, o2, k1, k2, l1, l2, h1, h2, e, hd⟩

theorem PWhole.reads {n : Nat} {h : AH} {v1 v2 : Value} {x : SWhole} {l : List Nat} : PWhole n h v1 v2 x l → QWhole h v1 v2 x := fun ⟨l1, l2, h1, h2, e, hd⟩ => ⟨OI.reads _ _ _ _ _ h1, OIII.reads _ _ _ _ _ h2⟩
theorem OWhole.reads : ∀ n h v x l, OWhole n h v x l → RWhole h v x := fun _ _ _ _ _ ⟨v1, v2, e, h1⟩ => ⟨v1, v2, e, h1.reads⟩
abbrev sWhole : List TypeId := sIII
theorem OWhole.fr : Fr tI sWhole OWhole where
  keep := by
    rintro n h h' v x l ⟨v1, v2, rfl, l1, l2, h1, h2, rfl, hd⟩ hk
    exact ⟨v1, v2, rfl, l1, l2, OI.fr.keep _ _ _ _ _ _ h1 (fun i b e1 e2 e3 => hk i b e1 e2 (e3.imp (fun hi => (List.mem_append_left _ hi)) fun ⟨ty, a1, a2⟩ => ⟨ty, sub_of rfl ty a1, a2⟩)), OIII.fr.keep _ _ _ _ _ _ h2 (fun i b e1 e2 e3 => hk i b e1 e2 (e3.imp (fun hi => (List.mem_append_right _ hi)) fun ⟨ty, a1, a2⟩ => ⟨ty, sub_of rfl ty a1, a2⟩)), rfl, hd⟩
  low := by
    rintro n m h v x l ⟨v1, v2, rfl, l1, l2, h1, h2, rfl, hd⟩ hmn
    exact ⟨v1, v2, rfl, l1, l2, OI.fr.low _ _ _ _ _ _ h1 hmn, OIII.fr.low _ _ _ _ _ _ h2 hmn, rfl, hd⟩
  leaf := by
    rintro n h v x l ⟨v1, v2, rfl, l1, l2, h1, h2, rfl, hd⟩ i hi
    rcases List.mem_append.1 hi with hi | hi
    · exact OI.fr.leaf _ _ _ _ _ h1 i hi
    exact OIII.fr.leaf _ _ _ _ _ h2 i hi
  nd := by
    rintro n h v x l ⟨v1, v2, rfl, l1, l2, h1, h2, rfl, hd⟩
    exact hd
theorem OWhole.comps {n : Nat} {h : AH} {v1 v2 : Value} {x : SWhole} {l : List Nat} (he : OWhole n h (.agg #[v1, v2]) x l) : PWhole n h v1 v2 x l := by
  obtain ⟨w1, w2, e, h1⟩ := he
  cases e
  exact h1

def numWhole (k : Int) (x : SWhole) : SWhole := ⟨numI (k) x.dims, numIII (k + cnI x.dims) x.maps⟩
def cnWhole (x : SWhole) : Nat := cnI x.dims + cnIII x.maps
def ctWhole (x : SWhole) : Nat := ctI x.dims + ctIII x.maps

theorem cnWhole_le (x : SWhole) : cnWhole x ≤ ctWhole x := by
  unfold cnWhole ctWhole
  have l_dims := cnI_le x.dims
  have l_maps := cnIII_le x.maps
  omega


structure SComplex where
  prime : Int
  dims : List Int
  maps : List (List (List Int))
deriving DecidableEq

def QComplex (h : AH) (v1 v2 : Value) (x : SComplex) : Prop := RI h v1 x.dims ∧ RIII h v2 x.maps
def RComplex (h : AH) (v : Value) (x : SComplex) : Prop := ∃ v1 v2, v = .agg #[.int .i64 x.prime, v1, v2] ∧ QComplex h v1 v2 x
theorem QComplex.le {h h' : AH} {v1 v2 : Value} {x : SComplex} (hl : Le h h') : QComplex h v1 v2 x → QComplex h' v1 v2 x := fun ⟨h1, h2⟩ => ⟨RI.le _ _ _ _ hl h1, RIII.le _ _ _ _ hl h2⟩
theorem RComplex.le : ∀ h h' v x, Le h h' → RComplex h v x → RComplex h' v x := fun _ _ _ _ hl ⟨v1, v2, e, h1⟩ => ⟨v1, v2, e, h1.le hl⟩
theorem QComplex.can {h : AH} {v1 v2 : Value} {x : SComplex} (hr : QComplex h v1 v2 x) : ∃ b1 o1 b2 o2, Wk v1 (.slice (some ⟨b1, o1, none⟩) x.dims.length 0) ∧ Wk v2 (.slice (some ⟨b2, o2, none⟩) x.maps.length 0) ∧ QComplex h (.slice (some ⟨b1, o1, none⟩) x.dims.length 0) (.slice (some ⟨b2, o2, none⟩) x.maps.length 0) x := by
  obtain ⟨h1, h2⟩ := hr
  obtain ⟨b1, o1, k1, h1⟩ := h1.can
  obtain ⟨b2, o2, k2, h2⟩ := h2.can
  exact ⟨b1, o1, b2, o2, k1, k2, h1, h2⟩

theorem RComplex.can {h : AH} {v : Value} {x : SComplex} (hr : RComplex h v x) : ∃ b1 o1 b2 o2, Wk v (.agg #[.int .i64 x.prime, .slice (some ⟨b1, o1, none⟩) x.dims.length 0, .slice (some ⟨b2, o2, none⟩) x.maps.length 0]) ∧ QComplex h (.slice (some ⟨b1, o1, none⟩) x.dims.length 0) (.slice (some ⟨b2, o2, none⟩) x.maps.length 0) x := by
  obtain ⟨v1, v2, rfl, hq⟩ := hr
  obtain ⟨b1, o1, b2, o2, k1, k2, hq⟩ := hq.can
  exact ⟨b1, o1, b2, o2, Wk.agg (.cons (Wk.refl _) (.cons k1 (.cons k2 .nil))), hq⟩

def PComplex (n : Nat) (h : AH) (v1 v2 : Value) (x : SComplex) (l : List Nat) : Prop := ∃ l1 l2, OI n h v1 x.dims l1 ∧ OIII n h v2 x.maps l2 ∧ l = l1 ++ l2 ∧ l.Nodup
def OComplex : Tr SComplex := fun n h v x l => ∃ v1 v2, v = .agg #[.int .i64 x.prime, v1, v2] ∧ PComplex n h v1 v2 x l
theorem PComplex.wk {n : Nat} {h : AH} {v1 v2 w1 w2 : Value} {x : SComplex} {l : List Nat} (k1 : Wk v1 w1) (k2 : Wk v2 w2) : PComplex n h w1 w2 x l → PComplex n h v1 v2 x l := fun ⟨l1, l2, h1, h2, e, hd⟩ => ⟨l1, l2, Leaf.wk k1 h1, Node.wk k2 h2, e, hd⟩
theorem PComplex.can {n : Nat} {h : AH} {v1 v2 : Value} {x : SComplex} {l : List Nat} (hr : PComplex n h v1 v2 x l) : ∃ b1 o1 b2 o2, Wk v1 (.slice (some ⟨b1, o1, none⟩) x.dims.length 0) ∧ Wk v2 (.slice (some ⟨b2, o2, none⟩) x.maps.length 0) ∧ PComplex n h (.slice (some ⟨b1, o1, none⟩) x.dims.length 0) (.slice (some ⟨b2, o2, none⟩) x.maps.length 0) x l := by
  obtain ⟨l1, l2, h1, h2, e, hd⟩ := hr
  obtain ⟨b1, o1, k1, h1⟩ := Leaf.can h1
  obtain ⟨b2, o2, k2, h2⟩ := Node.can h2
  exact ⟨b1, o1, b2, o2, k1, k2, l1, l2, h1, h2, e, hd⟩

theorem PComplex.reads {n : Nat} {h : AH} {v1 v2 : Value} {x : SComplex} {l : List Nat} : PComplex n h v1 v2 x l → QComplex h v1 v2 x := fun ⟨l1, l2, h1, h2, e, hd⟩ => ⟨OI.reads _ _ _ _ _ h1, OIII.reads _ _ _ _ _ h2⟩
theorem OComplex.reads : ∀ n h v x l, OComplex n h v x l → RComplex h v x := fun _ _ _ _ _ ⟨v1, v2, e, h1⟩ => ⟨v1, v2, e, h1.reads⟩
abbrev sComplex : List TypeId := sIII
theorem OComplex.fr : Fr tI sComplex OComplex where
  keep := by
    rintro n h h' v x l ⟨v1, v2, rfl, l1, l2, h1, h2, rfl, hd⟩ hk
    exact ⟨v1, v2, rfl, l1, l2, OI.fr.keep _ _ _ _ _ _ h1 (fun i b e1 e2 e3 => hk i b e1 e2 (e3.imp (fun hi => (List.mem_append_left _ hi)) fun ⟨ty, a1, a2⟩ => ⟨ty, sub_of rfl ty a1, a2⟩)), OIII.fr.keep _ _ _ _ _ _ h2 (fun i b e1 e2 e3 => hk i b e1 e2 (e3.imp (fun hi => (List.mem_append_right _ hi)) fun ⟨ty, a1, a2⟩ => ⟨ty, sub_of rfl ty a1, a2⟩)), rfl, hd⟩
  low := by
    rintro n m h v x l ⟨v1, v2, rfl, l1, l2, h1, h2, rfl, hd⟩ hmn
    exact ⟨v1, v2, rfl, l1, l2, OI.fr.low _ _ _ _ _ _ h1 hmn, OIII.fr.low _ _ _ _ _ _ h2 hmn, rfl, hd⟩
  leaf := by
    rintro n h v x l ⟨v1, v2, rfl, l1, l2, h1, h2, rfl, hd⟩ i hi
    rcases List.mem_append.1 hi with hi | hi
    · exact OI.fr.leaf _ _ _ _ _ h1 i hi
    exact OIII.fr.leaf _ _ _ _ _ h2 i hi
  nd := by
    rintro n h v x l ⟨v1, v2, rfl, l1, l2, h1, h2, rfl, hd⟩
    exact hd
theorem OComplex.comps {n : Nat} {h : AH} {v1 v2 : Value} {x : SComplex} {l : List Nat} (he : OComplex n h (.agg #[.int .i64 x.prime, v1, v2]) x l) : PComplex n h v1 v2 x l := by
  obtain ⟨w1, w2, e, h1⟩ := he
  cases e
  exact h1

def numComplex (k : Int) (x : SComplex) : SComplex := ⟨x.prime, numI (k) x.dims, numIII (k + cnI x.dims) x.maps⟩
def cnComplex (x : SComplex) : Nat := cnI x.dims + cnIII x.maps
def ctComplex (x : SComplex) : Nat := ctI x.dims + ctIII x.maps

theorem cnComplex_le (x : SComplex) : cnComplex x ≤ ctComplex x := by
  unfold cnComplex ctComplex
  have l_dims := cnI_le x.dims
  have l_maps := cnIII_le x.maps
  omega


theorem eqComplex_c (h : AH) (v w : Value) (x y : SComplex) (hx : RComplex h v x) (hy : RComplex h w y) : ACalls Try.prog 9 [v, w] h (fun r h' => r = .bool (decide (x = y)) ∧ h' = h) := by
  obtain ⟨b1, o1, b2, o2, kx, qx⟩ := hx.can
  obtain ⟨c1, p1, c2, p2, ky, qy⟩ := hy.can
  refine ACalls.wk (args' := [.agg #[.int .i64 x.prime, .slice (some ⟨b1, o1, none⟩) x.dims.length 0, .slice (some ⟨b2, o2, none⟩) x.maps.length 0], .agg #[.int .i64 y.prime, .slice (some ⟨c1, p1, none⟩) y.dims.length 0, .slice (some ⟨c2, p2, none⟩) y.maps.length 0]]) ?_ (.cons kx (.cons ky .nil))
  refine ACalls.of Tt.tab Try.func9 rfl (by kernel_rfl) Try.ntmps9 _ rfl rfl (fun hw => ?_)
  refine NewX.intro fun ba h1 g1 l1 n1 => ?_
  refine NewX.intro fun bb h2 g2 l2 n2 => ?_
  have l1 := g2.at_ _ _ l1
  have g2 := g1.trans g2
  have qx := qx.le g2
  have qy := qy.le g2
  obtain ⟨x1, x2⟩ := qx
  obtain ⟨y1, y2⟩ := qy
  refine LoadX.same l1 rfl ?_
  refine LoadX.same l2 rfl ?_
  refine BIf.mk (fun hb => ?_) (fun e_prime => ?_)
  · refine FinX.keep hw g2 rfl ⟨?_, rfl⟩
    have : x ≠ y := fun e => by subst e; simp at hb
    simp [this]
  refine LoadX.same l1 rfl ?_
  refine LoadX.same l2 rfl ?_
  refine CallX.same (eqI_c _ _ _ _ _ x1 y1) ?_
  rintro r hh ⟨rfl, rfl⟩
  refine BIf.mk (fun hb => ?_) (fun e_dims => ?_)
  · refine FinX.keep hw g2 rfl ⟨?_, rfl⟩
    have : x ≠ y := fun e => by subst e; simp at hb
    simp [this]
  refine LoadX.same l1 rfl ?_
  refine LoadX.same l2 rfl ?_
  refine CallX.same (eqIII_c _ _ _ _ _ x2 y2) ?_
  rintro r hh ⟨rfl, rfl⟩
  refine BIf.mk (fun hb => ?_) (fun e_maps => ?_)
  · refine FinX.keep hw g2 rfl ⟨?_, rfl⟩
    have : x ≠ y := fun e => by subst e; simp at hb
    simp [this]
  refine FinX.keep hw g2 rfl ⟨?_, rfl⟩
  simp at e_prime e_dims e_maps
  have : x = y := by
    cases x
    cases y
    simp_all
  simp [this]


theorem markComplex_c (n : Nat) (h : AH) (v : Value) (x : SComplex) (l : List Nat) (k : Int) (hx : OComplex n h v x l) (h0 : 0 ≤ k) (hm : k + cnComplex x ≤ 9223372036854775807) : ACalls Try.prog 12 [v, .int .i64 k] h (fun r h' => r = .int .i64 (k + cnComplex x) ∧ Mk h h' l ∧ OComplex n h' v (numComplex k x) l) := by
  obtain ⟨v1, v2, rfl, hp⟩ := hx
  obtain ⟨b1, o1, b2, o2, k1, k2, qx⟩ := hp.can
  refine ACalls.wk (args' := [.agg #[.int .i64 x.prime, .slice (some ⟨b1, o1, none⟩) x.dims.length 0, .slice (some ⟨b2, o2, none⟩) x.maps.length 0], .int .i64 k]) ?_ (.cons (Wk.agg (.cons (Wk.refl _) (.cons k1 (.cons k2 .nil)))) (.cons (Wk.refl _) .nil))
  have hcn : cnComplex x = cnI x.dims + cnIII x.maps := rfl
  refine ACalls.of Tt.tab Try.func12 rfl (by kernel_rfl) Try.ntmps12 _ rfl rfl (fun hw => ?_)
  refine NewX.intro fun ba h1 g1 a1 n1 => ?_
  obtain ⟨l1, l2, x1, x2, rfl, hd⟩ := qx
  have dj1 := Dj.of hd
  have lt1 := OI.fr.lt x1
  have lt2 := OIII.fr.lt x2
  have x1 := OI.fr.le x1 g1
  have x2 := OIII.fr.le x2 g1
  refine LoadX.same a1 rfl ?_
  refine CallX.same (markI_c n _ _ _ _ _ x1 (by omega) (by omega)) ?_
  rintro r h2 ⟨rfl, m1, y1⟩
  have a1 := m1.stay a1 (fun i hi => Nat.lt_of_lt_of_le (lt1 i hi) n1)
  have tf1 := fun i hi => (OI.fr.leaf _ _ _ _ _ x1 i hi).2
  have x2 := OIII.fr.mark rfl m1 x2 dj1 tf1
  refine LoadX.same a1 rfl ?_
  refine CallX.same (markIII_c n _ _ _ _ _ x2 (by omega) (by omega)) ?_
  rintro r h3 ⟨rfl, m2, y2⟩
  have a1 := m2.stay a1 (fun i hi => Nat.lt_of_lt_of_le (lt2 i hi) n1)
  have tf2 := fun i hi => (OIII.fr.leaf _ _ _ _ _ x2 i hi).2
  have y1 := OI.fr.mark rfl m2 y1 (dj1).symm tf2
  refine FinX.here (by have t0 := g1.len; have t1 := m1.len; have t2 := m2.len; omega) ⟨?_, (Mk.trans (Mk.trans (Mk.ofLe g1 _) m1 (fun _ hi => hi) (fun i hi => List.mem_append_left _ hi)) m2 (fun _ hi => hi) (fun i hi => List.mem_append_right _ (hi))), v1, v2, rfl, l1, l2, Leaf.wk k1 y1, Node.wk k2 y2, rfl, hd⟩
  exact congrArg _ (by omega)


theorem heldComplex_c (h : AH) (v : Value) (x : SComplex) (k : Int) (hx : RComplex h v (numComplex k x)) (h0 : 0 ≤ k) (hm : k + cnComplex x ≤ 9223372036854775807) : ACalls Try.prog 13 [v, .int .i64 k] h (fun r h' => r = .int .i64 (k + cnComplex x) ∧ h' = h) := by
  have hcn : cnComplex x = cnI x.dims + cnIII x.maps := rfl
  obtain ⟨b1, o1, b2, o2, kx, qx⟩ := hx.can
  refine ACalls.wk (args' := [.agg #[.int .i64 (numComplex k x).prime, .slice (some ⟨b1, o1, none⟩) (numComplex k x).dims.length 0, .slice (some ⟨b2, o2, none⟩) (numComplex k x).maps.length 0], .int .i64 k]) ?_ (.cons kx (.cons (Wk.refl _) .nil))
  refine ACalls.of Tt.tab Try.func13 rfl (by kernel_rfl) Try.ntmps13 _ rfl rfl (fun hw => ?_)
  refine NewX.intro fun ba h1 g1 l1 n1 => ?_
  obtain ⟨x1, x2⟩ := qx.le g1
  refine LoadX.same l1 rfl ?_
  refine CallX.same (heldI_c _ _ x.dims _ x1 (by omega) (by omega)) ?_
  rintro r hh ⟨rfl, rfl⟩
  refine BIf.no (by simp; omega) ?_
  refine LoadX.same l1 rfl ?_
  refine CallX.same (heldIII_c _ _ x.maps _ x2 (by omega) (by omega)) ?_
  rintro r hh ⟨rfl, rfl⟩
  refine BIf.no (by simp; omega) ?_
  refine FinX.keep hw g1 rfl ⟨?_, rfl⟩
  exact congrArg _ (by omega)


structure SCouple where
  prime : Int
  d : Int
  e : Int
  i : List (List Int)
  j : List (List Int)
  k : List (List Int)
deriving DecidableEq

def QCouple (h : AH) (v1 v2 v3 : Value) (x : SCouple) : Prop := RII h v1 x.i ∧ RII h v2 x.j ∧ RII h v3 x.k
def RCouple (h : AH) (v : Value) (x : SCouple) : Prop := ∃ v1 v2 v3, v = .agg #[.int .i64 x.prime, .int .i64 x.d, .int .i64 x.e, v1, v2, v3] ∧ QCouple h v1 v2 v3 x
theorem QCouple.le {h h' : AH} {v1 v2 v3 : Value} {x : SCouple} (hl : Le h h') : QCouple h v1 v2 v3 x → QCouple h' v1 v2 v3 x := fun ⟨h1, h2, h3⟩ => ⟨RII.le _ _ _ _ hl h1, RII.le _ _ _ _ hl h2, RII.le _ _ _ _ hl h3⟩
theorem RCouple.le : ∀ h h' v x, Le h h' → RCouple h v x → RCouple h' v x := fun _ _ _ _ hl ⟨v1, v2, v3, e, h1⟩ => ⟨v1, v2, v3, e, h1.le hl⟩
theorem QCouple.can {h : AH} {v1 v2 v3 : Value} {x : SCouple} (hr : QCouple h v1 v2 v3 x) : ∃ b1 o1 b2 o2 b3 o3, Wk v1 (.slice (some ⟨b1, o1, none⟩) x.i.length 0) ∧ Wk v2 (.slice (some ⟨b2, o2, none⟩) x.j.length 0) ∧ Wk v3 (.slice (some ⟨b3, o3, none⟩) x.k.length 0) ∧ QCouple h (.slice (some ⟨b1, o1, none⟩) x.i.length 0) (.slice (some ⟨b2, o2, none⟩) x.j.length 0) (.slice (some ⟨b3, o3, none⟩) x.k.length 0) x := by
  obtain ⟨h1, h2, h3⟩ := hr
  obtain ⟨b1, o1, k1, h1⟩ := h1.can
  obtain ⟨b2, o2, k2, h2⟩ := h2.can
  obtain ⟨b3, o3, k3, h3⟩ := h3.can
  exact ⟨b1, o1, b2, o2, b3, o3, k1, k2, k3, h1, h2, h3⟩

theorem RCouple.can {h : AH} {v : Value} {x : SCouple} (hr : RCouple h v x) : ∃ b1 o1 b2 o2 b3 o3, Wk v (.agg #[.int .i64 x.prime, .int .i64 x.d, .int .i64 x.e, .slice (some ⟨b1, o1, none⟩) x.i.length 0, .slice (some ⟨b2, o2, none⟩) x.j.length 0, .slice (some ⟨b3, o3, none⟩) x.k.length 0]) ∧ QCouple h (.slice (some ⟨b1, o1, none⟩) x.i.length 0) (.slice (some ⟨b2, o2, none⟩) x.j.length 0) (.slice (some ⟨b3, o3, none⟩) x.k.length 0) x := by
  obtain ⟨v1, v2, v3, rfl, hq⟩ := hr
  obtain ⟨b1, o1, b2, o2, b3, o3, k1, k2, k3, hq⟩ := hq.can
  exact ⟨b1, o1, b2, o2, b3, o3, Wk.agg (.cons (Wk.refl _) (.cons (Wk.refl _) (.cons (Wk.refl _) (.cons k1 (.cons k2 (.cons k3 .nil)))))), hq⟩

def PCouple (n : Nat) (h : AH) (v1 v2 v3 : Value) (x : SCouple) (l : List Nat) : Prop := ∃ l1 l2 l3, OII n h v1 x.i l1 ∧ OII n h v2 x.j l2 ∧ OII n h v3 x.k l3 ∧ l = l1 ++ (l2 ++ l3) ∧ l.Nodup
def OCouple : Tr SCouple := fun n h v x l => ∃ v1 v2 v3, v = .agg #[.int .i64 x.prime, .int .i64 x.d, .int .i64 x.e, v1, v2, v3] ∧ PCouple n h v1 v2 v3 x l
theorem PCouple.wk {n : Nat} {h : AH} {v1 v2 v3 w1 w2 w3 : Value} {x : SCouple} {l : List Nat} (k1 : Wk v1 w1) (k2 : Wk v2 w2) (k3 : Wk v3 w3) : PCouple n h w1 w2 w3 x l → PCouple n h v1 v2 v3 x l := fun ⟨l1, l2, l3, h1, h2, h3, e, hd⟩ => ⟨l1, l2, l3, Node.wk k1 h1, Node.wk k2 h2, Node.wk k3 h3, e, hd⟩
theorem PCouple.can {n : Nat} {h : AH} {v1 v2 v3 : Value} {x : SCouple} {l : List Nat} (hr : PCouple n h v1 v2 v3 x l) : ∃ b1 o1 b2 o2 b3 o3, Wk v1 (.slice (some ⟨b1, o1, none⟩) x.i.length 0) ∧ Wk v2 (.slice (some ⟨b2, o2, none⟩) x.j.length 0) ∧ Wk v3 (.slice (some ⟨b3, o3, none⟩) x.k.length 0) ∧ PCouple n h (.slice (some ⟨b1, o1, none⟩) x.i.length 0) (.slice (some ⟨b2, o2, none⟩) x.j.length 0) (.slice (some ⟨b3, o3, none⟩) x.k.length 0) x l := by
  obtain ⟨l1, l2, l3, h1, h2, h3, e, hd⟩ := hr
  obtain ⟨b1, o1, k1, h1⟩ := Node.can h1
  obtain ⟨b2, o2, k2, h2⟩ := Node.can h2
  obtain ⟨b3, o3, k3, h3⟩ := Node.can h3
  exact ⟨b1, o1, b2, o2, b3, o3, k1, k2, k3, l1, l2, l3, h1, h2, h3, e, hd⟩

theorem PCouple.reads {n : Nat} {h : AH} {v1 v2 v3 : Value} {x : SCouple} {l : List Nat} : PCouple n h v1 v2 v3 x l → QCouple h v1 v2 v3 x := fun ⟨l1, l2, l3, h1, h2, h3, e, hd⟩ => ⟨OII.reads _ _ _ _ _ h1, OII.reads _ _ _ _ _ h2, OII.reads _ _ _ _ _ h3⟩
theorem OCouple.reads : ∀ n h v x l, OCouple n h v x l → RCouple h v x := fun _ _ _ _ _ ⟨v1, v2, v3, e, h1⟩ => ⟨v1, v2, v3, e, h1.reads⟩
abbrev sCouple : List TypeId := sII
theorem OCouple.fr : Fr tI sCouple OCouple where
  keep := by
    rintro n h h' v x l ⟨v1, v2, v3, rfl, l1, l2, l3, h1, h2, h3, rfl, hd⟩ hk
    exact ⟨v1, v2, v3, rfl, l1, l2, l3, OII.fr.keep _ _ _ _ _ _ h1 (fun i b e1 e2 e3 => hk i b e1 e2 (e3.imp (fun hi => (List.mem_append_left _ hi)) fun ⟨ty, a1, a2⟩ => ⟨ty, sub_of rfl ty a1, a2⟩)), OII.fr.keep _ _ _ _ _ _ h2 (fun i b e1 e2 e3 => hk i b e1 e2 (e3.imp (fun hi => (List.mem_append_right _ (List.mem_append_left _ hi))) fun ⟨ty, a1, a2⟩ => ⟨ty, sub_of rfl ty a1, a2⟩)), OII.fr.keep _ _ _ _ _ _ h3 (fun i b e1 e2 e3 => hk i b e1 e2 (e3.imp (fun hi => (List.mem_append_right _ (List.mem_append_right _ hi))) fun ⟨ty, a1, a2⟩ => ⟨ty, sub_of rfl ty a1, a2⟩)), rfl, hd⟩
  low := by
    rintro n m h v x l ⟨v1, v2, v3, rfl, l1, l2, l3, h1, h2, h3, rfl, hd⟩ hmn
    exact ⟨v1, v2, v3, rfl, l1, l2, l3, OII.fr.low _ _ _ _ _ _ h1 hmn, OII.fr.low _ _ _ _ _ _ h2 hmn, OII.fr.low _ _ _ _ _ _ h3 hmn, rfl, hd⟩
  leaf := by
    rintro n h v x l ⟨v1, v2, v3, rfl, l1, l2, l3, h1, h2, h3, rfl, hd⟩ i hi
    rcases List.mem_append.1 hi with hi | hi
    · exact OII.fr.leaf _ _ _ _ _ h1 i hi
    rcases List.mem_append.1 hi with hi | hi
    · exact OII.fr.leaf _ _ _ _ _ h2 i hi
    exact OII.fr.leaf _ _ _ _ _ h3 i hi
  nd := by
    rintro n h v x l ⟨v1, v2, v3, rfl, l1, l2, l3, h1, h2, h3, rfl, hd⟩
    exact hd
theorem OCouple.comps {n : Nat} {h : AH} {v1 v2 v3 : Value} {x : SCouple} {l : List Nat} (he : OCouple n h (.agg #[.int .i64 x.prime, .int .i64 x.d, .int .i64 x.e, v1, v2, v3]) x l) : PCouple n h v1 v2 v3 x l := by
  obtain ⟨w1, w2, w3, e, h1⟩ := he
  cases e
  exact h1

def numCouple (k : Int) (x : SCouple) : SCouple := ⟨x.prime, x.d, x.e, numII (k) x.i, numII (k + cnII x.i) x.j, numII (k + cnII x.i + cnII x.j) x.k⟩
def cnCouple (x : SCouple) : Nat := cnII x.i + cnII x.j + cnII x.k
def ctCouple (x : SCouple) : Nat := ctII x.i + ctII x.j + ctII x.k

theorem cnCouple_le (x : SCouple) : cnCouple x ≤ ctCouple x := by
  unfold cnCouple ctCouple
  have l_i := cnII_le x.i
  have l_j := cnII_le x.j
  have l_k := cnII_le x.k
  omega


structure SDouble where
  prime : Int
  dims : List (List Int)
  across : List (List (List (List Int)))
  down : List (List (List (List Int)))
deriving DecidableEq

def QDouble (h : AH) (v1 v2 v3 : Value) (x : SDouble) : Prop := RII h v1 x.dims ∧ RIIII h v2 x.across ∧ RIIII h v3 x.down
def RDouble (h : AH) (v : Value) (x : SDouble) : Prop := ∃ v1 v2 v3, v = .agg #[.int .i64 x.prime, v1, v2, v3] ∧ QDouble h v1 v2 v3 x
theorem QDouble.le {h h' : AH} {v1 v2 v3 : Value} {x : SDouble} (hl : Le h h') : QDouble h v1 v2 v3 x → QDouble h' v1 v2 v3 x := fun ⟨h1, h2, h3⟩ => ⟨RII.le _ _ _ _ hl h1, RIIII.le _ _ _ _ hl h2, RIIII.le _ _ _ _ hl h3⟩
theorem RDouble.le : ∀ h h' v x, Le h h' → RDouble h v x → RDouble h' v x := fun _ _ _ _ hl ⟨v1, v2, v3, e, h1⟩ => ⟨v1, v2, v3, e, h1.le hl⟩
theorem QDouble.can {h : AH} {v1 v2 v3 : Value} {x : SDouble} (hr : QDouble h v1 v2 v3 x) : ∃ b1 o1 b2 o2 b3 o3, Wk v1 (.slice (some ⟨b1, o1, none⟩) x.dims.length 0) ∧ Wk v2 (.slice (some ⟨b2, o2, none⟩) x.across.length 0) ∧ Wk v3 (.slice (some ⟨b3, o3, none⟩) x.down.length 0) ∧ QDouble h (.slice (some ⟨b1, o1, none⟩) x.dims.length 0) (.slice (some ⟨b2, o2, none⟩) x.across.length 0) (.slice (some ⟨b3, o3, none⟩) x.down.length 0) x := by
  obtain ⟨h1, h2, h3⟩ := hr
  obtain ⟨b1, o1, k1, h1⟩ := h1.can
  obtain ⟨b2, o2, k2, h2⟩ := h2.can
  obtain ⟨b3, o3, k3, h3⟩ := h3.can
  exact ⟨b1, o1, b2, o2, b3, o3, k1, k2, k3, h1, h2, h3⟩

theorem RDouble.can {h : AH} {v : Value} {x : SDouble} (hr : RDouble h v x) : ∃ b1 o1 b2 o2 b3 o3, Wk v (.agg #[.int .i64 x.prime, .slice (some ⟨b1, o1, none⟩) x.dims.length 0, .slice (some ⟨b2, o2, none⟩) x.across.length 0, .slice (some ⟨b3, o3, none⟩) x.down.length 0]) ∧ QDouble h (.slice (some ⟨b1, o1, none⟩) x.dims.length 0) (.slice (some ⟨b2, o2, none⟩) x.across.length 0) (.slice (some ⟨b3, o3, none⟩) x.down.length 0) x := by
  obtain ⟨v1, v2, v3, rfl, hq⟩ := hr
  obtain ⟨b1, o1, b2, o2, b3, o3, k1, k2, k3, hq⟩ := hq.can
  exact ⟨b1, o1, b2, o2, b3, o3, Wk.agg (.cons (Wk.refl _) (.cons k1 (.cons k2 (.cons k3 .nil)))), hq⟩

def PDouble (n : Nat) (h : AH) (v1 v2 v3 : Value) (x : SDouble) (l : List Nat) : Prop := ∃ l1 l2 l3, OII n h v1 x.dims l1 ∧ OIIII n h v2 x.across l2 ∧ OIIII n h v3 x.down l3 ∧ l = l1 ++ (l2 ++ l3) ∧ l.Nodup
def ODouble : Tr SDouble := fun n h v x l => ∃ v1 v2 v3, v = .agg #[.int .i64 x.prime, v1, v2, v3] ∧ PDouble n h v1 v2 v3 x l
theorem PDouble.wk {n : Nat} {h : AH} {v1 v2 v3 w1 w2 w3 : Value} {x : SDouble} {l : List Nat} (k1 : Wk v1 w1) (k2 : Wk v2 w2) (k3 : Wk v3 w3) : PDouble n h w1 w2 w3 x l → PDouble n h v1 v2 v3 x l := fun ⟨l1, l2, l3, h1, h2, h3, e, hd⟩ => ⟨l1, l2, l3, Node.wk k1 h1, Node.wk k2 h2, Node.wk k3 h3, e, hd⟩
theorem PDouble.can {n : Nat} {h : AH} {v1 v2 v3 : Value} {x : SDouble} {l : List Nat} (hr : PDouble n h v1 v2 v3 x l) : ∃ b1 o1 b2 o2 b3 o3, Wk v1 (.slice (some ⟨b1, o1, none⟩) x.dims.length 0) ∧ Wk v2 (.slice (some ⟨b2, o2, none⟩) x.across.length 0) ∧ Wk v3 (.slice (some ⟨b3, o3, none⟩) x.down.length 0) ∧ PDouble n h (.slice (some ⟨b1, o1, none⟩) x.dims.length 0) (.slice (some ⟨b2, o2, none⟩) x.across.length 0) (.slice (some ⟨b3, o3, none⟩) x.down.length 0) x l := by
  obtain ⟨l1, l2, l3, h1, h2, h3, e, hd⟩ := hr
  obtain ⟨b1, o1, k1, h1⟩ := Node.can h1
  obtain ⟨b2, o2, k2, h2⟩ := Node.can h2
  obtain ⟨b3, o3, k3, h3⟩ := Node.can h3
  exact ⟨b1, o1, b2, o2, b3, o3, k1, k2, k3, l1, l2, l3, h1, h2, h3, e, hd⟩

theorem PDouble.reads {n : Nat} {h : AH} {v1 v2 v3 : Value} {x : SDouble} {l : List Nat} : PDouble n h v1 v2 v3 x l → QDouble h v1 v2 v3 x := fun ⟨l1, l2, l3, h1, h2, h3, e, hd⟩ => ⟨OII.reads _ _ _ _ _ h1, OIIII.reads _ _ _ _ _ h2, OIIII.reads _ _ _ _ _ h3⟩
theorem ODouble.reads : ∀ n h v x l, ODouble n h v x l → RDouble h v x := fun _ _ _ _ _ ⟨v1, v2, v3, e, h1⟩ => ⟨v1, v2, v3, e, h1.reads⟩
abbrev sDouble : List TypeId := sIIII
theorem ODouble.fr : Fr tI sDouble ODouble where
  keep := by
    rintro n h h' v x l ⟨v1, v2, v3, rfl, l1, l2, l3, h1, h2, h3, rfl, hd⟩ hk
    exact ⟨v1, v2, v3, rfl, l1, l2, l3, OII.fr.keep _ _ _ _ _ _ h1 (fun i b e1 e2 e3 => hk i b e1 e2 (e3.imp (fun hi => (List.mem_append_left _ hi)) fun ⟨ty, a1, a2⟩ => ⟨ty, sub_of rfl ty a1, a2⟩)), OIIII.fr.keep _ _ _ _ _ _ h2 (fun i b e1 e2 e3 => hk i b e1 e2 (e3.imp (fun hi => (List.mem_append_right _ (List.mem_append_left _ hi))) fun ⟨ty, a1, a2⟩ => ⟨ty, sub_of rfl ty a1, a2⟩)), OIIII.fr.keep _ _ _ _ _ _ h3 (fun i b e1 e2 e3 => hk i b e1 e2 (e3.imp (fun hi => (List.mem_append_right _ (List.mem_append_right _ hi))) fun ⟨ty, a1, a2⟩ => ⟨ty, sub_of rfl ty a1, a2⟩)), rfl, hd⟩
  low := by
    rintro n m h v x l ⟨v1, v2, v3, rfl, l1, l2, l3, h1, h2, h3, rfl, hd⟩ hmn
    exact ⟨v1, v2, v3, rfl, l1, l2, l3, OII.fr.low _ _ _ _ _ _ h1 hmn, OIIII.fr.low _ _ _ _ _ _ h2 hmn, OIIII.fr.low _ _ _ _ _ _ h3 hmn, rfl, hd⟩
  leaf := by
    rintro n h v x l ⟨v1, v2, v3, rfl, l1, l2, l3, h1, h2, h3, rfl, hd⟩ i hi
    rcases List.mem_append.1 hi with hi | hi
    · exact OII.fr.leaf _ _ _ _ _ h1 i hi
    rcases List.mem_append.1 hi with hi | hi
    · exact OIIII.fr.leaf _ _ _ _ _ h2 i hi
    exact OIIII.fr.leaf _ _ _ _ _ h3 i hi
  nd := by
    rintro n h v x l ⟨v1, v2, v3, rfl, l1, l2, l3, h1, h2, h3, rfl, hd⟩
    exact hd
theorem ODouble.comps {n : Nat} {h : AH} {v1 v2 v3 : Value} {x : SDouble} {l : List Nat} (he : ODouble n h (.agg #[.int .i64 x.prime, v1, v2, v3]) x l) : PDouble n h v1 v2 v3 x l := by
  obtain ⟨w1, w2, w3, e, h1⟩ := he
  cases e
  exact h1

def numDouble (k : Int) (x : SDouble) : SDouble := ⟨x.prime, numII (k) x.dims, numIIII (k + cnII x.dims) x.across, numIIII (k + cnII x.dims + cnIIII x.across) x.down⟩
def cnDouble (x : SDouble) : Nat := cnII x.dims + cnIIII x.across + cnIIII x.down
def ctDouble (x : SDouble) : Nat := ctII x.dims + ctIIII x.across + ctIIII x.down

theorem cnDouble_le (x : SDouble) : cnDouble x ≤ ctDouble x := by
  unfold cnDouble ctDouble
  have l_dims := cnII_le x.dims
  have l_across := cnIIII_le x.across
  have l_down := cnIIII_le x.down
  omega


theorem eqDouble_c (h : AH) (v w : Value) (x y : SDouble) (hx : RDouble h v x) (hy : RDouble h w y) : ACalls Try.prog 10 [v, w] h (fun r h' => r = .bool (decide (x = y)) ∧ h' = h) := by
  obtain ⟨b1, o1, b2, o2, b3, o3, kx, qx⟩ := hx.can
  obtain ⟨c1, p1, c2, p2, c3, p3, ky, qy⟩ := hy.can
  refine ACalls.wk (args' := [.agg #[.int .i64 x.prime, .slice (some ⟨b1, o1, none⟩) x.dims.length 0, .slice (some ⟨b2, o2, none⟩) x.across.length 0, .slice (some ⟨b3, o3, none⟩) x.down.length 0], .agg #[.int .i64 y.prime, .slice (some ⟨c1, p1, none⟩) y.dims.length 0, .slice (some ⟨c2, p2, none⟩) y.across.length 0, .slice (some ⟨c3, p3, none⟩) y.down.length 0]]) ?_ (.cons kx (.cons ky .nil))
  refine ACalls.of Tt.tab Try.func10 rfl (by kernel_rfl) Try.ntmps10 _ rfl rfl (fun hw => ?_)
  refine NewX.intro fun ba h1 g1 l1 n1 => ?_
  refine NewX.intro fun bb h2 g2 l2 n2 => ?_
  have l1 := g2.at_ _ _ l1
  have g2 := g1.trans g2
  have qx := qx.le g2
  have qy := qy.le g2
  obtain ⟨x1, x2, x3⟩ := qx
  obtain ⟨y1, y2, y3⟩ := qy
  refine LoadX.same l1 rfl ?_
  refine LoadX.same l2 rfl ?_
  refine BIf.mk (fun hb => ?_) (fun e_prime => ?_)
  · refine FinX.keep hw g2 rfl ⟨?_, rfl⟩
    have : x ≠ y := fun e => by subst e; simp at hb
    simp [this]
  refine LoadX.same l1 rfl ?_
  refine LoadX.same l2 rfl ?_
  refine CallX.same (eqII_c _ _ _ _ _ x1 y1) ?_
  rintro r hh ⟨rfl, rfl⟩
  refine BIf.mk (fun hb => ?_) (fun e_dims => ?_)
  · refine FinX.keep hw g2 rfl ⟨?_, rfl⟩
    have : x ≠ y := fun e => by subst e; simp at hb
    simp [this]
  refine LoadX.same l1 rfl ?_
  refine LoadX.same l2 rfl ?_
  refine CallX.same (eqIIII_c _ _ _ _ _ x2 y2) ?_
  rintro r hh ⟨rfl, rfl⟩
  refine BIf.mk (fun hb => ?_) (fun e_across => ?_)
  · refine FinX.keep hw g2 rfl ⟨?_, rfl⟩
    have : x ≠ y := fun e => by subst e; simp at hb
    simp [this]
  refine LoadX.same l1 rfl ?_
  refine LoadX.same l2 rfl ?_
  refine CallX.same (eqIIII_c _ _ _ _ _ x3 y3) ?_
  rintro r hh ⟨rfl, rfl⟩
  refine BIf.mk (fun hb => ?_) (fun e_down => ?_)
  · refine FinX.keep hw g2 rfl ⟨?_, rfl⟩
    have : x ≠ y := fun e => by subst e; simp at hb
    simp [this]
  refine FinX.keep hw g2 rfl ⟨?_, rfl⟩
  simp at e_prime e_dims e_across e_down
  have : x = y := by
    cases x
    cases y
    simp_all
  simp [this]


theorem szDouble_c (h : AH) (v : Value) (x : SDouble) (left : Int) (hx : RDouble h v x) (h0 : 0 ≤ left) (h1 : left ≤ 1048576) : ACalls Try.prog 5 [v, .int .i64 left] h (fun r h' => r = .int .i64 (if (ctDouble x : Int) ≤ left then left - ctDouble x else -1) ∧ h' = h) := by
  obtain ⟨b1, o1, b2, o2, b3, o3, kx, qx⟩ := hx.can
  refine ACalls.wk (args' := [.agg #[.int .i64 x.prime, .slice (some ⟨b1, o1, none⟩) x.dims.length 0, .slice (some ⟨b2, o2, none⟩) x.across.length 0, .slice (some ⟨b3, o3, none⟩) x.down.length 0], .int .i64 left]) ?_ (.cons kx (.cons (Wk.refl _) .nil))
  have hct : ctDouble x = ctII x.dims + ctIIII x.across + ctIIII x.down := rfl
  refine ACalls.of Tt.tab Try.func5 rfl (by kernel_rfl) Try.ntmps5 _ rfl rfl (fun hw => ?_)
  refine NewX.intro fun ba h1 g1 l1 n1 => ?_
  obtain ⟨x1, x2, x3⟩ := qx.le g1
  refine LoadX.same l1 rfl ?_
  refine CallX.same (szII_c _ _ x.dims _ x1 (by omega) (by omega)) ?_
  rintro r hh ⟨rfl, rfl⟩
  by_cases t1 : (ctII x.dims : Int) ≤ left
  case neg =>
    rw [if_neg t1]
    refine BIf.yes rfl ?_
    refine FinX.keep hw g1 rfl ⟨?_, rfl⟩
    rw [if_neg (by omega)]
  rw [if_pos t1]
  refine BIf.no (by simp; omega) ?_
  refine LoadX.same l1 rfl ?_
  refine CallX.same (szIIII_c _ _ x.across _ x2 (by omega) (by omega)) ?_
  rintro r hh ⟨rfl, rfl⟩
  by_cases t2 : (ctIIII x.across : Int) ≤ left - ctII x.dims
  case neg =>
    rw [if_neg t2]
    refine BIf.yes rfl ?_
    refine FinX.keep hw g1 rfl ⟨?_, rfl⟩
    rw [if_neg (by omega)]
  rw [if_pos t2]
  refine BIf.no (by simp; omega) ?_
  refine LoadX.same l1 rfl ?_
  refine CallX.same (szIIII_c _ _ x.down _ x3 (by omega) (by omega)) ?_
  rintro r hh ⟨rfl, rfl⟩
  by_cases t3 : (ctIIII x.down : Int) ≤ left - ctII x.dims - ctIIII x.across
  case neg =>
    rw [if_neg t3]
    refine BIf.yes rfl ?_
    refine FinX.keep hw g1 rfl ⟨?_, rfl⟩
    rw [if_neg (by omega)]
  rw [if_pos t3]
  refine BIf.no (by simp; omega) ?_
  refine FinX.keep hw g1 rfl ⟨?_, rfl⟩
  rw [if_pos (by omega)]
  exact congrArg _ (by omega)


theorem markDouble_c (n : Nat) (h : AH) (v : Value) (x : SDouble) (l : List Nat) (k : Int) (hx : ODouble n h v x l) (h0 : 0 ≤ k) (hm : k + cnDouble x ≤ 9223372036854775807) : ACalls Try.prog 11 [v, .int .i64 k] h (fun r h' => r = .int .i64 (k + cnDouble x) ∧ Mk h h' l ∧ ODouble n h' v (numDouble k x) l) := by
  obtain ⟨v1, v2, v3, rfl, hp⟩ := hx
  obtain ⟨b1, o1, b2, o2, b3, o3, k1, k2, k3, qx⟩ := hp.can
  refine ACalls.wk (args' := [.agg #[.int .i64 x.prime, .slice (some ⟨b1, o1, none⟩) x.dims.length 0, .slice (some ⟨b2, o2, none⟩) x.across.length 0, .slice (some ⟨b3, o3, none⟩) x.down.length 0], .int .i64 k]) ?_ (.cons (Wk.agg (.cons (Wk.refl _) (.cons k1 (.cons k2 (.cons k3 .nil))))) (.cons (Wk.refl _) .nil))
  have hcn : cnDouble x = cnII x.dims + cnIIII x.across + cnIIII x.down := rfl
  refine ACalls.of Tt.tab Try.func11 rfl (by kernel_rfl) Try.ntmps11 _ rfl rfl (fun hw => ?_)
  refine NewX.intro fun ba h1 g1 a1 n1 => ?_
  obtain ⟨l1, l2, l3, x1, x2, x3, rfl, hd⟩ := qx
  have dj1 := Dj.of hd
  have dj2 := Dj.of (nodup_right hd)
  have lt1 := OII.fr.lt x1
  have lt2 := OIIII.fr.lt x2
  have lt3 := OIIII.fr.lt x3
  have x1 := OII.fr.le x1 g1
  have x2 := OIIII.fr.le x2 g1
  have x3 := OIIII.fr.le x3 g1
  refine LoadX.same a1 rfl ?_
  refine CallX.same (markII_c n _ _ _ _ _ x1 (by omega) (by omega)) ?_
  rintro r h2 ⟨rfl, m1, y1⟩
  have a1 := m1.stay a1 (fun i hi => Nat.lt_of_lt_of_le (lt1 i hi) n1)
  have tf1 := fun i hi => (OII.fr.leaf _ _ _ _ _ x1 i hi).2
  have x2 := OIIII.fr.mark rfl m1 x2 dj1.left tf1
  have x3 := OIIII.fr.mark rfl m1 x3 dj1.right tf1
  refine LoadX.same a1 rfl ?_
  refine CallX.same (markIIII_c n _ _ _ _ _ x2 (by omega) (by omega)) ?_
  rintro r h3 ⟨rfl, m2, y2⟩
  have a1 := m2.stay a1 (fun i hi => Nat.lt_of_lt_of_le (lt2 i hi) n1)
  have tf2 := fun i hi => (OIIII.fr.leaf _ _ _ _ _ x2 i hi).2
  have y1 := OII.fr.mark rfl m2 y1 (dj1.left).symm tf2
  have x3 := OIIII.fr.mark rfl m2 x3 dj2 tf2
  refine LoadX.same a1 rfl ?_
  refine CallX.same (markIIII_c n _ _ _ _ _ x3 (by omega) (by omega)) ?_
  rintro r h4 ⟨rfl, m3, y3⟩
  have a1 := m3.stay a1 (fun i hi => Nat.lt_of_lt_of_le (lt3 i hi) n1)
  have tf3 := fun i hi => (OIIII.fr.leaf _ _ _ _ _ x3 i hi).2
  have y1 := OII.fr.mark rfl m3 y1 (dj1.right).symm tf3
  have y2 := OIIII.fr.mark rfl m3 y2 (dj2).symm tf3
  refine FinX.here (by have t0 := g1.len; have t1 := m1.len; have t2 := m2.len; have t3 := m3.len; omega) ⟨?_, (Mk.trans (Mk.trans (Mk.trans (Mk.ofLe g1 _) m1 (fun _ hi => hi) (fun i hi => List.mem_append_left _ hi)) m2 (fun _ hi => hi) (fun i hi => List.mem_append_right _ (List.mem_append_left _ hi))) m3 (fun _ hi => hi) (fun i hi => List.mem_append_right _ (List.mem_append_right _ (hi)))), v1, v2, v3, rfl, l1, l2, l3, Node.wk k1 y1, Node.wk k2 y2, Node.wk k3 y3, rfl, hd⟩
  exact congrArg _ (by omega)


theorem toDouble_c (h : AH) (v : Value) (x : SDouble) (hx : RDouble h v x) (hct : ctDouble x ≤ 1048576) : ACalls Try.prog 7 [v] h (fun r h' => ∃ d1 d2 d3 l, r = .agg #[.int .i64 x.prime, .slice (some ⟨d1, 0, none⟩) x.dims.length 1, .slice (some ⟨d2, 0, none⟩) x.across.length 1, .slice (some ⟨d3, 0, none⟩) x.down.length 1] ∧ PDouble h.length h' (.slice (some ⟨d1, 0, none⟩) x.dims.length 1) (.slice (some ⟨d2, 0, none⟩) x.across.length 1) (.slice (some ⟨d3, 0, none⟩) x.down.length 1) x l ∧ Le h h') := by
  have hcs : ctDouble x = ctII x.dims + ctIIII x.across + ctIIII x.down := rfl
  obtain ⟨b1, o1, b2, o2, b3, o3, kx, qx⟩ := hx.can
  refine ACalls.wk (args' := [.agg #[.int .i64 x.prime, .slice (some ⟨b1, o1, none⟩) x.dims.length 0, .slice (some ⟨b2, o2, none⟩) x.across.length 0, .slice (some ⟨b3, o3, none⟩) x.down.length 0]]) ?_ (.cons kx .nil)
  refine ACalls.of Tt.tab Try.func7 rfl (by kernel_rfl) Try.ntmps7 _ rfl rfl (fun hw => ?_)
  refine NewX.intro fun ba h1 g1 a1 n1 => ?_
  refine NewX.intro fun br h2 g2 a2 n2 => ?_
  refine NewX.intro fun bz h3 g3 a3 n3 => ?_
  have q1 := look_lt a1; have q2 := look_lt a2; have q3 := look_lt a3
  have a1 := g3.at_ _ _ (g2.at_ _ _ a1)
  have a2 := g3.at_ _ _ a2
  have g := g1.trans (g2.trans g3)
  have m3 : h.length ≤ bz := by have := g1.len; have := g2.len; omega
  obtain ⟨x1, x2, x3⟩ := qx
  refine LoadX.same a1 rfl ?_
  refine StoreX.intro a3 rfl (show (0 + 0 + 1 : Nat) ≤ 4 by decide) fun i0 e0 (a3n : look i0 bz = some ⟨[.int .i64 x.prime, .slice none 0 0, .slice none 0 0, .slice none 0 0], some (33, 4)⟩) ao gl => ?_
  have a1 := (ao _ (by omega)).trans a1
  have a2 := (ao _ (by omega)).trans a2
  have gn := gl _ g m3
  have a3 := a3n
  refine LoadX.same a1 rfl ?_
  refine CallX.same (toII_c _ _ x.dims (RII.le _ _ _ _ gn x1) (by omega)) ?_
  rintro r hh ⟨d1, l1, rfl, z1, gg⟩
  have a1 := gg.at_ _ _ a1
  have a2 := gg.at_ _ _ a2
  have a3 := gg.at_ _ _ a3
  have z1 := OII.fr.low _ _ _ _ _ _ z1 gn.len
  have gn := Le.trans gn gg
  refine StoreX.intro a3 rfl (show (0 + 1 + 1 : Nat) ≤ 4 by decide) fun i1 e1 (a3n : look i1 bz = some ⟨[.int .i64 x.prime, .slice (some ⟨d1, 0, none⟩) x.dims.length 1, .slice none 0 0, .slice none 0 0], some (33, 4)⟩) ao gl => ?_
  have a1 := (ao _ (by omega)).trans a1
  have a2 := (ao _ (by omega)).trans a2
  have gn := gl _ gn m3
  have z1 := OII.fr.aside z1 a3 rfl rfl ao
  have a3 := a3n
  refine LoadX.same a1 rfl ?_
  refine CallX.same (toIIII_c _ _ x.across (RIIII.le _ _ _ _ gn x2) (by omega)) ?_
  rintro r hh ⟨d2, l2, rfl, z2, gg⟩
  have a1 := gg.at_ _ _ a1
  have a2 := gg.at_ _ _ a2
  have a3 := gg.at_ _ _ a3
  have dj1_2 := OII.fr.dj z1 OIIII.fr z2 (Nat.le_refl _)
  have z1 := OII.fr.le z1 gg
  have z2 := OIIII.fr.low _ _ _ _ _ _ z2 gn.len
  have gn := Le.trans gn gg
  refine StoreX.intro a3 rfl (show (0 + 2 + 1 : Nat) ≤ 4 by decide) fun i2 e2 (a3n : look i2 bz = some ⟨[.int .i64 x.prime, .slice (some ⟨d1, 0, none⟩) x.dims.length 1, .slice (some ⟨d2, 0, none⟩) x.across.length 1, .slice none 0 0], some (33, 4)⟩) ao gl => ?_
  have a1 := (ao _ (by omega)).trans a1
  have a2 := (ao _ (by omega)).trans a2
  have gn := gl _ gn m3
  have z1 := OII.fr.aside z1 a3 rfl rfl ao
  have z2 := OIIII.fr.aside z2 a3 rfl rfl ao
  have a3 := a3n
  refine LoadX.same a1 rfl ?_
  refine CallX.same (toIIII_c _ _ x.down (RIIII.le _ _ _ _ gn x3) (by omega)) ?_
  rintro r hh ⟨d3, l3, rfl, z3, gg⟩
  have a1 := gg.at_ _ _ a1
  have a2 := gg.at_ _ _ a2
  have a3 := gg.at_ _ _ a3
  have dj1_3 := OII.fr.dj z1 OIIII.fr z3 (Nat.le_refl _)
  have z1 := OII.fr.le z1 gg
  have dj2_3 := OIIII.fr.dj z2 OIIII.fr z3 (Nat.le_refl _)
  have z2 := OIIII.fr.le z2 gg
  have z3 := OIIII.fr.low _ _ _ _ _ _ z3 gn.len
  have gn := Le.trans gn gg
  refine StoreX.intro a3 rfl (show (0 + 3 + 1 : Nat) ≤ 4 by decide) fun i3 e3 (a3n : look i3 bz = some ⟨[.int .i64 x.prime, .slice (some ⟨d1, 0, none⟩) x.dims.length 1, .slice (some ⟨d2, 0, none⟩) x.across.length 1, .slice (some ⟨d3, 0, none⟩) x.down.length 1], some (33, 4)⟩) ao gl => ?_
  have a1 := (ao _ (by omega)).trans a1
  have a2 := (ao _ (by omega)).trans a2
  have gn := gl _ gn m3
  have z1 := OII.fr.aside z1 a3 rfl rfl ao
  have z2 := OIIII.fr.aside z2 a3 rfl rfl ao
  have z3 := OIIII.fr.aside z3 a3 rfl rfl ao
  have a3 := a3n
  refine LoadX.same a3 rfl ?_
  refine StoreX.intro a2 rfl (show (0 + 4 : Nat) ≤ 4 by decide) fun hf ef (a2n : look hf br = some ⟨[.int .i64 x.prime, .slice (some ⟨d1, 0, none⟩) x.dims.length 1, .slice (some ⟨d2, 0, none⟩) x.across.length 1, .slice (some ⟨d3, 0, none⟩) x.down.length 1], some (33, 4)⟩) ao gl => ?_
  have z1 := OII.fr.aside z1 a2 rfl rfl ao
  have z2 := OIIII.fr.aside z2 a2 rfl rfl ao
  have z3 := OIIII.fr.aside z3 a2 rfl rfl ao
  have gn := gl _ gn (by have := g1.len; omega)
  refine LoadX.same a2n rfl ?_
  exact FinX.here gn.len ⟨d1, d2, d3, _, rfl, ⟨l1, l2, l3, z1, z2, z3, rfl, (nodup_app (OII.fr.nd _ _ _ _ _ z1) (nodup_app (OIIII.fr.nd _ _ _ _ _ z2) (OIIII.fr.nd _ _ _ _ _ z3) dj2_3) (Dj.app dj1_2 dj1_3))⟩, gn⟩


structure SFiltered where
  complex : SComplex
  levels : List (List Int)
deriving DecidableEq

def QFiltered (h : AH) (v1 v2 v3 : Value) (x : SFiltered) : Prop := QComplex h v1 v2 x.complex ∧ RII h v3 x.levels
def RFiltered (h : AH) (v : Value) (x : SFiltered) : Prop := ∃ v1 v2 v3, v = .agg #[.int .i64 x.complex.prime, v1, v2, v3] ∧ QFiltered h v1 v2 v3 x
theorem QFiltered.le {h h' : AH} {v1 v2 v3 : Value} {x : SFiltered} (hl : Le h h') : QFiltered h v1 v2 v3 x → QFiltered h' v1 v2 v3 x := fun ⟨h1, h2⟩ => ⟨QComplex.le hl h1, RII.le _ _ _ _ hl h2⟩
theorem RFiltered.le : ∀ h h' v x, Le h h' → RFiltered h v x → RFiltered h' v x := fun _ _ _ _ hl ⟨v1, v2, v3, e, h1⟩ => ⟨v1, v2, v3, e, h1.le hl⟩
theorem QFiltered.can {h : AH} {v1 v2 v3 : Value} {x : SFiltered} (hr : QFiltered h v1 v2 v3 x) : ∃ b1 o1 b2 o2 b3 o3, Wk v1 (.slice (some ⟨b1, o1, none⟩) x.complex.dims.length 0) ∧ Wk v2 (.slice (some ⟨b2, o2, none⟩) x.complex.maps.length 0) ∧ Wk v3 (.slice (some ⟨b3, o3, none⟩) x.levels.length 0) ∧ QFiltered h (.slice (some ⟨b1, o1, none⟩) x.complex.dims.length 0) (.slice (some ⟨b2, o2, none⟩) x.complex.maps.length 0) (.slice (some ⟨b3, o3, none⟩) x.levels.length 0) x := by
  obtain ⟨h1, h2⟩ := hr
  obtain ⟨b1, o1, b2, o2, k1, k2, h1⟩ := h1.can
  obtain ⟨b3, o3, k3, h2⟩ := h2.can
  exact ⟨b1, o1, b2, o2, b3, o3, k1, k2, k3, h1, h2⟩

theorem RFiltered.can {h : AH} {v : Value} {x : SFiltered} (hr : RFiltered h v x) : ∃ b1 o1 b2 o2 b3 o3, Wk v (.agg #[.int .i64 x.complex.prime, .slice (some ⟨b1, o1, none⟩) x.complex.dims.length 0, .slice (some ⟨b2, o2, none⟩) x.complex.maps.length 0, .slice (some ⟨b3, o3, none⟩) x.levels.length 0]) ∧ QFiltered h (.slice (some ⟨b1, o1, none⟩) x.complex.dims.length 0) (.slice (some ⟨b2, o2, none⟩) x.complex.maps.length 0) (.slice (some ⟨b3, o3, none⟩) x.levels.length 0) x := by
  obtain ⟨v1, v2, v3, rfl, hq⟩ := hr
  obtain ⟨b1, o1, b2, o2, b3, o3, k1, k2, k3, hq⟩ := hq.can
  exact ⟨b1, o1, b2, o2, b3, o3, Wk.agg (.cons (Wk.refl _) (.cons k1 (.cons k2 (.cons k3 .nil)))), hq⟩

def PFiltered (n : Nat) (h : AH) (v1 v2 v3 : Value) (x : SFiltered) (l : List Nat) : Prop := ∃ l1 l2, PComplex n h v1 v2 x.complex l1 ∧ OII n h v3 x.levels l2 ∧ l = l1 ++ l2 ∧ l.Nodup
def OFiltered : Tr SFiltered := fun n h v x l => ∃ v1 v2 v3, v = .agg #[.int .i64 x.complex.prime, v1, v2, v3] ∧ PFiltered n h v1 v2 v3 x l
theorem PFiltered.wk {n : Nat} {h : AH} {v1 v2 v3 w1 w2 w3 : Value} {x : SFiltered} {l : List Nat} (k1 : Wk v1 w1) (k2 : Wk v2 w2) (k3 : Wk v3 w3) : PFiltered n h w1 w2 w3 x l → PFiltered n h v1 v2 v3 x l := fun ⟨l1, l2, h1, h2, e, hd⟩ => ⟨l1, l2, PComplex.wk k1 k2 h1, Node.wk k3 h2, e, hd⟩
theorem PFiltered.can {n : Nat} {h : AH} {v1 v2 v3 : Value} {x : SFiltered} {l : List Nat} (hr : PFiltered n h v1 v2 v3 x l) : ∃ b1 o1 b2 o2 b3 o3, Wk v1 (.slice (some ⟨b1, o1, none⟩) x.complex.dims.length 0) ∧ Wk v2 (.slice (some ⟨b2, o2, none⟩) x.complex.maps.length 0) ∧ Wk v3 (.slice (some ⟨b3, o3, none⟩) x.levels.length 0) ∧ PFiltered n h (.slice (some ⟨b1, o1, none⟩) x.complex.dims.length 0) (.slice (some ⟨b2, o2, none⟩) x.complex.maps.length 0) (.slice (some ⟨b3, o3, none⟩) x.levels.length 0) x l := by
  obtain ⟨l1, l2, h1, h2, e, hd⟩ := hr
  obtain ⟨b1, o1, b2, o2, k1, k2, h1⟩ := h1.can
  obtain ⟨b3, o3, k3, h2⟩ := Node.can h2
  exact ⟨b1, o1, b2, o2, b3, o3, k1, k2, k3, l1, l2, h1, h2, e, hd⟩

theorem PFiltered.reads {n : Nat} {h : AH} {v1 v2 v3 : Value} {x : SFiltered} {l : List Nat} : PFiltered n h v1 v2 v3 x l → QFiltered h v1 v2 v3 x := fun ⟨l1, l2, h1, h2, e, hd⟩ => ⟨PComplex.reads h1, OII.reads _ _ _ _ _ h2⟩
theorem OFiltered.reads : ∀ n h v x l, OFiltered n h v x l → RFiltered h v x := fun _ _ _ _ _ ⟨v1, v2, v3, e, h1⟩ => ⟨v1, v2, v3, e, h1.reads⟩
abbrev sFiltered : List TypeId := sIII
theorem OFiltered.fr : Fr tI sFiltered OFiltered where
  keep := by
    rintro n h h' v x l ⟨v1, v2, v3, rfl, l1, l2, h1, h2, rfl, hd⟩ hk
    exact ⟨v1, v2, v3, rfl, l1, l2, (OComplex.fr.keep n h h' (.agg #[.int .i64 x.complex.prime, v1, v2]) _ _ ⟨_, _, rfl, h1⟩ (fun i b e1 e2 e3 => hk i b e1 e2 (e3.imp (fun hi => (List.mem_append_left _ hi)) fun ⟨ty, a1, a2⟩ => ⟨ty, sub_of rfl ty a1, a2⟩))).comps, OII.fr.keep _ _ _ _ _ _ h2 (fun i b e1 e2 e3 => hk i b e1 e2 (e3.imp (fun hi => (List.mem_append_right _ hi)) fun ⟨ty, a1, a2⟩ => ⟨ty, sub_of rfl ty a1, a2⟩)), rfl, hd⟩
  low := by
    rintro n m h v x l ⟨v1, v2, v3, rfl, l1, l2, h1, h2, rfl, hd⟩ hmn
    exact ⟨v1, v2, v3, rfl, l1, l2, (OComplex.fr.low _ _ h (.agg #[.int .i64 x.complex.prime, v1, v2]) _ _ ⟨_, _, rfl, h1⟩ hmn).comps, OII.fr.low _ _ _ _ _ _ h2 hmn, rfl, hd⟩
  leaf := by
    rintro n h v x l ⟨v1, v2, v3, rfl, l1, l2, h1, h2, rfl, hd⟩ i hi
    rcases List.mem_append.1 hi with hi | hi
    · exact OComplex.fr.leaf _ _ (.agg #[.int .i64 x.complex.prime, v1, v2]) _ _ ⟨_, _, rfl, h1⟩ i hi
    exact OII.fr.leaf _ _ _ _ _ h2 i hi
  nd := by
    rintro n h v x l ⟨v1, v2, v3, rfl, l1, l2, h1, h2, rfl, hd⟩
    exact hd
theorem OFiltered.comps {n : Nat} {h : AH} {v1 v2 v3 : Value} {x : SFiltered} {l : List Nat} (he : OFiltered n h (.agg #[.int .i64 x.complex.prime, v1, v2, v3]) x l) : PFiltered n h v1 v2 v3 x l := by
  obtain ⟨w1, w2, w3, e, h1⟩ := he
  cases e
  exact h1

def numFiltered (k : Int) (x : SFiltered) : SFiltered := ⟨numComplex (k) x.complex, numII (k + cnComplex x.complex) x.levels⟩
def cnFiltered (x : SFiltered) : Nat := cnComplex x.complex + cnII x.levels
def ctFiltered (x : SFiltered) : Nat := ctComplex x.complex + ctII x.levels

theorem cnFiltered_le (x : SFiltered) : cnFiltered x ≤ ctFiltered x := by
  unfold cnFiltered ctFiltered
  have l_complex := cnComplex_le x.complex
  have l_levels := cnII_le x.levels
  omega


theorem eqFiltered_c (h : AH) (v w : Value) (x y : SFiltered) (hx : RFiltered h v x) (hy : RFiltered h w y) : ACalls Try.prog 16 [v, w] h (fun r h' => r = .bool (decide (x = y)) ∧ h' = h) := by
  obtain ⟨b1, o1, b2, o2, b3, o3, kx, qx⟩ := hx.can
  obtain ⟨c1, p1, c2, p2, c3, p3, ky, qy⟩ := hy.can
  refine ACalls.wk (args' := [.agg #[.int .i64 x.complex.prime, .slice (some ⟨b1, o1, none⟩) x.complex.dims.length 0, .slice (some ⟨b2, o2, none⟩) x.complex.maps.length 0, .slice (some ⟨b3, o3, none⟩) x.levels.length 0], .agg #[.int .i64 y.complex.prime, .slice (some ⟨c1, p1, none⟩) y.complex.dims.length 0, .slice (some ⟨c2, p2, none⟩) y.complex.maps.length 0, .slice (some ⟨c3, p3, none⟩) y.levels.length 0]]) ?_ (.cons kx (.cons ky .nil))
  refine ACalls.of Tt.tab Try.func16 rfl (by kernel_rfl) Try.ntmps16 _ rfl rfl (fun hw => ?_)
  refine NewX.intro fun ba h1 g1 l1 n1 => ?_
  refine NewX.intro fun bb h2 g2 l2 n2 => ?_
  have l1 := g2.at_ _ _ l1
  have g2 := g1.trans g2
  have qx := qx.le g2
  have qy := qy.le g2
  obtain ⟨x1, x2⟩ := qx
  obtain ⟨y1, y2⟩ := qy
  refine LoadX.same l1 rfl ?_
  refine LoadX.same l2 rfl ?_
  refine CallX.same (eqComplex_c _ _ _ x.complex y.complex ⟨_, _, rfl, x1⟩ ⟨_, _, rfl, y1⟩) ?_
  rintro r hh ⟨rfl, rfl⟩
  refine BIf.mk (fun hb => ?_) (fun e_complex => ?_)
  · refine FinX.keep hw g2 rfl ⟨?_, rfl⟩
    have : x ≠ y := fun e => by subst e; simp at hb
    simp [this]
  refine LoadX.same l1 rfl ?_
  refine LoadX.same l2 rfl ?_
  refine CallX.same (eqII_c _ _ _ _ _ x2 y2) ?_
  rintro r hh ⟨rfl, rfl⟩
  refine BIf.mk (fun hb => ?_) (fun e_levels => ?_)
  · refine FinX.keep hw g2 rfl ⟨?_, rfl⟩
    have : x ≠ y := fun e => by subst e; simp at hb
    simp [this]
  refine FinX.keep hw g2 rfl ⟨?_, rfl⟩
  simp at e_complex e_levels
  have : x = y := by
    cases x
    cases y
    simp_all
  simp [this]


theorem markFiltered_c (n : Nat) (h : AH) (v : Value) (x : SFiltered) (l : List Nat) (k : Int) (hx : OFiltered n h v x l) (h0 : 0 ≤ k) (hm : k + cnFiltered x ≤ 9223372036854775807) : ACalls Try.prog 17 [v, .int .i64 k] h (fun r h' => r = .int .i64 (k + cnFiltered x) ∧ Mk h h' l ∧ OFiltered n h' v (numFiltered k x) l) := by
  obtain ⟨v1, v2, v3, rfl, hp⟩ := hx
  obtain ⟨b1, o1, b2, o2, b3, o3, k1, k2, k3, qx⟩ := hp.can
  refine ACalls.wk (args' := [.agg #[.int .i64 x.complex.prime, .slice (some ⟨b1, o1, none⟩) x.complex.dims.length 0, .slice (some ⟨b2, o2, none⟩) x.complex.maps.length 0, .slice (some ⟨b3, o3, none⟩) x.levels.length 0], .int .i64 k]) ?_ (.cons (Wk.agg (.cons (Wk.refl _) (.cons k1 (.cons k2 (.cons k3 .nil))))) (.cons (Wk.refl _) .nil))
  have hcn : cnFiltered x = cnComplex x.complex + cnII x.levels := rfl
  refine ACalls.of Tt.tab Try.func17 rfl (by kernel_rfl) Try.ntmps17 _ rfl rfl (fun hw => ?_)
  refine NewX.intro fun ba h1 g1 a1 n1 => ?_
  obtain ⟨l1, l2, x1, x2, rfl, hd⟩ := qx
  have dj1 := Dj.of hd
  have lt1 := OComplex.fr.lt (v := .agg #[.int .i64 x.complex.prime, .slice (some ⟨b1, o1, none⟩) x.complex.dims.length 0, .slice (some ⟨b2, o2, none⟩) x.complex.maps.length 0]) ⟨_, _, rfl, x1⟩
  have lt2 := OII.fr.lt x2
  have x1 : OComplex n h (.agg #[.int .i64 x.complex.prime, .slice (some ⟨b1, o1, none⟩) x.complex.dims.length 0, .slice (some ⟨b2, o2, none⟩) x.complex.maps.length 0]) x.complex l1 := ⟨_, _, rfl, x1⟩
  have x1 := OComplex.fr.le x1 g1
  have x2 := OII.fr.le x2 g1
  refine LoadX.same a1 rfl ?_
  refine CallX.same (markComplex_c n _ _ _ _ _ x1 (by omega) (by omega)) ?_
  rintro r h2 ⟨rfl, m1, y1⟩
  have a1 := m1.stay a1 (fun i hi => Nat.lt_of_lt_of_le (lt1 i hi) n1)
  have tf1 := fun i hi => (OComplex.fr.leaf _ _ _ _ _ x1 i hi).2
  have x2 := OII.fr.mark rfl m1 x2 dj1 tf1
  refine LoadX.same a1 rfl ?_
  refine CallX.same (markII_c n _ _ _ _ _ x2 (by omega) (by omega)) ?_
  rintro r h3 ⟨rfl, m2, y2⟩
  have a1 := m2.stay a1 (fun i hi => Nat.lt_of_lt_of_le (lt2 i hi) n1)
  have tf2 := fun i hi => (OII.fr.leaf _ _ _ _ _ x2 i hi).2
  have y1 := OComplex.fr.mark rfl m2 y1 (dj1).symm tf2
  refine FinX.here (by have t0 := g1.len; have t1 := m1.len; have t2 := m2.len; omega) ⟨?_, (Mk.trans (Mk.trans (Mk.ofLe g1 _) m1 (fun _ hi => hi) (fun i hi => List.mem_append_left _ hi)) m2 (fun _ hi => hi) (fun i hi => List.mem_append_right _ (hi))), v1, v2, v3, rfl, l1, l2, PComplex.wk k1 k2 y1.comps, Node.wk k3 y2, rfl, hd⟩
  exact congrArg _ (by omega)


theorem heldFiltered_c (h : AH) (v : Value) (x : SFiltered) (k : Int) (hx : RFiltered h v (numFiltered k x)) (h0 : 0 ≤ k) (hm : k + cnFiltered x ≤ 9223372036854775807) : ACalls Try.prog 18 [v, .int .i64 k] h (fun r h' => r = .int .i64 (k + cnFiltered x) ∧ h' = h) := by
  have hcn : cnFiltered x = cnComplex x.complex + cnII x.levels := rfl
  obtain ⟨b1, o1, b2, o2, b3, o3, kx, qx⟩ := hx.can
  refine ACalls.wk (args' := [.agg #[.int .i64 (numFiltered k x).complex.prime, .slice (some ⟨b1, o1, none⟩) (numFiltered k x).complex.dims.length 0, .slice (some ⟨b2, o2, none⟩) (numFiltered k x).complex.maps.length 0, .slice (some ⟨b3, o3, none⟩) (numFiltered k x).levels.length 0], .int .i64 k]) ?_ (.cons kx (.cons (Wk.refl _) .nil))
  refine ACalls.of Tt.tab Try.func18 rfl (by kernel_rfl) Try.ntmps18 _ rfl rfl (fun hw => ?_)
  refine NewX.intro fun ba h1 g1 l1 n1 => ?_
  obtain ⟨x1, x2⟩ := qx.le g1
  refine LoadX.same l1 rfl ?_
  refine CallX.same (heldComplex_c _ _ x.complex _ ⟨_, _, rfl, x1⟩ (by omega) (by omega)) ?_
  rintro r hh ⟨rfl, rfl⟩
  refine BIf.no (by simp; omega) ?_
  refine LoadX.same l1 rfl ?_
  refine CallX.same (heldII_c _ _ x.levels _ x2 (by omega) (by omega)) ?_
  rintro r hh ⟨rfl, rfl⟩
  refine BIf.no (by simp; omega) ?_
  refine FinX.keep hw g1 rfl ⟨?_, rfl⟩
  exact congrArg _ (by omega)


end Go.Gl

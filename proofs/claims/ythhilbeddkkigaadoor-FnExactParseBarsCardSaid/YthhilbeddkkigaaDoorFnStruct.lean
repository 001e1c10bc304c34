/- Structures of the program as plain data, and the contracts of the laws' helpers on them. Written by mk_struct.py. No condition. -/
import Derived.Test.YthhilbeddkkigaaDoorFnLaw
set_option linter.unusedVariables false
set_option linter.unusedSimpArgs false
namespace Go.Gl
open Go.Proofs Go.Proofs.YthhilbeddkkigaaDoor


structure SWhole where
  dims : List Int
  maps : List (List (List Int))
deriving DecidableEq

def QWhole (h : AH) (v1 v2 : Value) (x : SWhole) : Prop := RI h v1 x.dims ∧ RIII h v2 x.maps
def RWhole (h : AH) (v : Value) (x : SWhole) : Prop := ∃ v1 v2, v = .agg #[v1, v2] ∧ QWhole h v1 v2 x
theorem QWhole.le {h h' : AH} {v1 v2 : Value} {x : SWhole} (hl : Le h h') : QWhole h v1 v2 x → QWhole h' v1 v2 x := fun ⟨h1, h2⟩ => ⟨RI.le _ _ _ _ hl h1, RIII.le _ _ _ _ hl h2⟩
theorem RWhole.le : ∀ h h' v x, Le h h' → RWhole h v x → RWhole h' v x := fun _ _ _ _ hl ⟨v1, v2, e, h1⟩ => ⟨v1, v2, e, h1.le hl⟩
theorem QWhole.can {h : AH} {v1 v2 : Value} {x : SWhole} (hr : QWhole h v1 v2 x) : ∃ b1 o1 b2 o2, Wk v1 (.slice (some ⟨b1, o1, none⟩) x.dims.length 0) ∧ Wk v2 (.slice (some ⟨b2, o2, none⟩) x.maps.length 0) ∧ QWhole h (.slice (some ⟨b1, o1, none⟩) x.dims.length 0) (.slice (some ⟨b2, o2, none⟩) x.maps.length 0) x := by
  obtain ⟨h1, h2⟩ := hr
  obtain ⟨b1, o1, k1, h1⟩ := h1.can
  obtain ⟨b2, o2, k2, h2⟩ := h2.can
  exact ⟨b1, o1, b2, o2, k1, k2, h1, h2⟩

theorem RWhole.can {h : AH} {v : Value} {x : SWhole} (hr : RWhole h v x) : ∃ b1 o1 b2 o2, Wk v (.agg #[.slice (some ⟨b1, o1, none⟩) x.dims.length 0, .slice (some ⟨b2, o2, none⟩) x.maps.length 0]) ∧ QWhole h (.slice (some ⟨b1, o1, none⟩) x.dims.length 0) (.slice (some ⟨b2, o2, none⟩) x.maps.length 0) x := by
  obtain ⟨v1, v2, rfl, hq⟩ := hr
  obtain ⟨b1, o1, b2, o2, k1, k2, hq⟩ := hq.can
  exact ⟨b1, o1, b2, o2, Wk.agg (.cons k1 (.cons k2 .nil)), hq⟩

def PWhole (n : Nat) (h : AH) (v1 v2 : Value) (x : SWhole) (l : List Nat) : Prop := ∃ l1 l2, OI n h v1 x.dims l1 ∧ OIII n h v2 x.maps l2 ∧ l = l1 ++ l2 ∧ l.Nodup
def OWhole : Tr SWhole := fun n h v x l => ∃ v1 v2, v = .agg #[v1, v2] ∧ PWhole n h v1 v2 x l
theorem PWhole.wk {n : Nat} {h : AH} {v1 v2 w1 w2 : Value} {x : SWhole} {l : List Nat} (k1 : Wk v1 w1) (k2 : Wk v2 w2) : PWhole n h w1 w2 x l → PWhole n h v1 v2 x l := fun ⟨l1, l2, h1, h2, e, hd⟩ => ⟨l1, l2, Leaf.wk k1 h1, Node.wk k2 h2, e, hd⟩
theorem PWhole.can {n : Nat} {h : AH} {v1 v2 : Value} {x : SWhole} {l : List Nat} (hr : PWhole n h v1 v2 x l) : ∃ b1 o1 b2 o2, Wk v1 (.slice (some ⟨b1, o1, none⟩) x.dims.length 0) ∧ Wk v2 (.slice (some ⟨b2, o2, none⟩) x.maps.length 0) ∧ PWhole n h (.slice (some ⟨b1, o1, none⟩) x.dims.length 0) (.slice (some ⟨b2, o2, none⟩) x.maps.length 0) x l := by
  obtain ⟨l1, l2, h1, h2, e, hd⟩ := hr
  obtain ⟨b1, o1, k1, h1⟩ := Leaf.can h1
  obtain ⟨b2, o2, k2, h2⟩ := Node.can h2
  exact ⟨b1, o1, b2, o2, k1, k2, l1, l2, h1, h2, e, hd⟩

theorem PWhole.reads {n : Nat} {h : AH} {v1 v2 : Value} {x : SWhole} {l : List Nat} : PWhole n h v1 v2 x l → QWhole h v1 v2 x := fun ⟨l1, l2, h1, h2, e, hd⟩ => ⟨OI.reads _ _ _ _ _ h1, OIII.reads _ _ _ _ _ h2⟩
theorem OWhole.reads : ∀ n h v x l, OWhole n h v x l → RWhole h v x := fun _ _ _ _ _ ⟨v1, v2, e, h1⟩ => ⟨v1, v2, e, h1.reads⟩
abbrev sWhole : List TypeId := sIII
theorem OWhole.fr : Fr tI sWhole OWhole where
  keep := by
    rintro n h h' v x l ⟨v1, v2, rfl, l1, l2, h1, h2, rfl, hd⟩ hk
    exact ⟨v1, v2, rfl, l1, l2, OI.fr.keep _ _ _ _ _ _ h1 (fun i b e1 e2 e3 => hk i b e1 e2 (e3.imp (fun hi => (List.mem_append_left _ hi)) fun ⟨ty, a1, a2⟩ => ⟨ty, sub_of rfl ty a1, a2⟩)), OIII.fr.keep _ _ _ _ _ _ h2 (fun i b e1 e2 e3 => hk i b e1 e2 (e3.imp (fun hi => (List.mem_append_right _ hi)) fun ⟨ty, a1, a2⟩ => ⟨ty, sub_of rfl ty a1, a2⟩)), rfl, hd⟩
  low := by
    rintro n m h v x l ⟨v1, v2, rfl, l1, l2, h1, h2, rfl, hd⟩ hmn
    exact ⟨v1, v2, rfl, l1, l2, OI.fr.low _ _ _ _ _ _ h1 hmn, OIII.fr.low _ _ _ _ _ _ h2 hmn, rfl, hd⟩
  leaf := by
    rintro n h v x l ⟨v1, v2, rfl, l1, l2, h1, h2, rfl, hd⟩ i hi
    rcases List.mem_append.1 hi with hi | hi
    · exact OI.fr.leaf _ _ _ _ _ h1 i hi
    exact OIII.fr.leaf _ _ _ _ _ h2 i hi
  nd := by
    rintro n h v x l ⟨v1, v2, rfl, l1, l2, h1, h2, rfl, hd⟩
    exact hd
theorem OWhole.comps {n : Nat} {h : AH} {v1 v2 : Value} {x : SWhole} {l : List Nat} (he : OWhole n h (.agg #[v1, v2]) x l) : PWhole n h v1 v2 x l := by
  obtain ⟨w1, w2, e, h1⟩ := he
  cases e
  exact h1

def numWhole (k : Int) (x : SWhole) : SWhole := ⟨numI (k) x.dims, numIII (k + cnI x.dims) x.maps⟩
def cnWhole (x : SWhole) : Nat := cnI x.dims + cnIII x.maps
def ctWhole (x : SWhole) : Nat := ctI x.dims + ctIII x.maps

theorem cnWhole_le (x : SWhole) : cnWhole x ≤ ctWhole x := by
  unfold cnWhole ctWhole
  have l_dims := cnI_le x.dims
  have l_maps := cnIII_le x.maps
  omega


structure SComplex where
  prime : Int
  dims : List Int
  maps : List (List (List Int))
deriving DecidableEq

def QComplex (h : AH) (v1 v2 : Value) (x : SComplex) : Prop := RI h v1 x.dims ∧ RIII h v2 x.maps
def RComplex (h : AH) (v : Value) (x : SComplex) : Prop := ∃ v1 v2, v = .agg #[.int .i64 x.prime, v1, v2] ∧ QComplex h v1 v2 x
theorem QComplex.le {h h' : AH} {v1 v2 : Value} {x : SComplex} (hl : Le h h') : QComplex h v1 v2 x → QComplex h' v1 v2 x := fun ⟨h1, h2⟩ => ⟨RI.le _ _ _ _ hl h1, RIII.le _ _ _ _ hl h2⟩
theorem RComplex.le : ∀ h h' v x, Le h h' → RComplex h v x → RComplex h' v x := fun _ _ _ _ hl ⟨v1, v2, e, h1⟩ => ⟨v1, v2, e, h1.le hl⟩
theorem QComplex.can {h : AH} {v1 v2 : Value} {x : SComplex} (hr : QComplex h v1 v2 x) : ∃ b1 o1 b2 o2, Wk v1 (.slice (some ⟨b1, o1, none⟩) x.dims.length 0) ∧ Wk v2 (.slice (some ⟨b2, o2, none⟩) x.maps.length 0) ∧ QComplex h (.slice (some ⟨b1, o1, none⟩) x.dims.length 0) (.slice (some ⟨b2, o2, none⟩) x.maps.length 0) x := by
  obtain ⟨h1, h2⟩ := hr
  obtain ⟨b1, o1, k1, h1⟩ := h1.can
  obtain ⟨b2, o2, k2, h2⟩ := h2.can
  exact ⟨b1, o1, b2, o2, k1, k2, h1, h2⟩

theorem RComplex.can {h : AH} {v : Value} {x : SComplex} (hr : RComplex h v x) : ∃ b1 o1 b2 o2, Wk v (.agg #[.int .i64 x.prime, .slice (some ⟨b1, o1, none⟩) x.dims.length 0, .slice (some ⟨b2, o2, none⟩) x.maps.length 0]) ∧ QComplex h (.slice (some ⟨b1, o1, none⟩) x.dims.length 0) (.slice (some ⟨b2, o2, none⟩) x.maps.length 0) x := by
  obtain ⟨v1, v2, rfl, hq⟩ := hr
  obtain ⟨b1, o1, b2, o2, k1, k2, hq⟩ := hq.can
  exact ⟨b1, o1, b2, o2, Wk.agg (.cons (Wk.refl _) (.cons k1 (.cons k2 .nil))), hq⟩

def PComplex (n : Nat) (h : AH) (v1 v2 : Value) (x : SComplex) (l : List Nat) : Prop := ∃ l1 l2, OI n h v1 x.dims l1 ∧ OIII n h v2 x.maps l2 ∧ l = l1 ++ l2 ∧ l.Nodup
def OComplex : Tr SComplex := fun n h v x l => ∃ v1 v2, v = .agg #[.int .i64 x.prime, v1, v2] ∧ PComplex n h v1 v2 x l
theorem PComplex.wk {n : Nat} {h : AH} {v1 v2 w1 w2 : Value} {x : SComplex} {l : List Nat} (k1 : Wk v1 w1) (k2 : Wk v2 w2) : PComplex n h w1 w2 x l → PComplex n h v1 v2 x l := fun ⟨l1, l2, h1, h2, e, hd⟩ => ⟨l1, l2, Leaf.wk k1 h1, Node.wk k2 h2, e, hd⟩
theorem PComplex.can {n : Nat} {h : AH} {v1 v2 : Value} {x : SComplex} {l : List Nat} (hr : PComplex n h v1 v2 x l) : ∃ b1 o1 b2 o2, Wk v1 (.slice (some ⟨b1, o1, none⟩) x.dims.length 0) ∧ Wk v2 (.slice (some ⟨b2, o2, none⟩) x.maps.length 0) ∧ PComplex n h (.slice (some ⟨b1, o1, none⟩) x.dims.length 0) (.slice (some ⟨b2, o2, none⟩) x.maps.length 0) x l := by
  obtain ⟨l1, l2, h1, h2, e, hd⟩ := hr
  obtain ⟨b1, o1, k1, h1⟩ := Leaf.can h1
  obtain ⟨b2, o2, k2, h2⟩ := Node.can h2
  exact ⟨b1, o1, b2, o2, k1, k2, l1, l2, h1, h2, e, hd⟩

theorem PComplex.reads {n : Nat} {h : AH} {v1 v2 : Value} {x : SComplex} {l : List Nat} : PComplex n h v1 v2 x l → QComplex h v1 v2 x := fun ⟨l1, l2, h1, h2, e, hd⟩ => ⟨OI.reads _ _ _ _ _ h1, OIII.reads _ _ _ _ _ h2⟩
theorem OComplex.reads : ∀ n h v x l, OComplex n h v x l → RComplex h v x := fun _ _ _ _ _ ⟨v1, v2, e, h1⟩ => ⟨v1, v2, e, h1.reads⟩
abbrev sComplex : List TypeId := sIII
theorem OComplex.fr : Fr tI sComplex OComplex where
  keep := by
    rintro n h h' v x l ⟨v1, v2, rfl, l1, l2, h1, h2, rfl, hd⟩ hk
    exact ⟨v1, v2, rfl, l1, l2, OI.fr.keep _ _ _ _ _ _ h1 (fun i b e1 e2 e3 => hk i b e1 e2 (e3.imp (fun hi => (List.mem_append_left _ hi)) fun ⟨ty, a1, a2⟩ => ⟨ty, sub_of rfl ty a1, a2⟩)), OIII.fr.keep _ _ _ _ _ _ h2 (fun i b e1 e2 e3 => hk i b e1 e2 (e3.imp (fun hi => (List.mem_append_right _ hi)) fun ⟨ty, a1, a2⟩ => ⟨ty, sub_of rfl ty a1, a2⟩)), rfl, hd⟩
  low := by
    rintro n m h v x l ⟨v1, v2, rfl, l1, l2, h1, h2, rfl, hd⟩ hmn
    exact ⟨v1, v2, rfl, l1, l2, OI.fr.low _ _ _ _ _ _ h1 hmn, OIII.fr.low _ _ _ _ _ _ h2 hmn, rfl, hd⟩
  leaf := by
    rintro n h v x l ⟨v1, v2, rfl, l1, l2, h1, h2, rfl, hd⟩ i hi
    rcases List.mem_append.1 hi with hi | hi
    · exact OI.fr.leaf _ _ _ _ _ h1 i hi
    exact OIII.fr.leaf _ _ _ _ _ h2 i hi
  nd := by
    rintro n h v x l ⟨v1, v2, rfl, l1, l2, h1, h2, rfl, hd⟩
    exact hd
theorem OComplex.comps {n : Nat} {h : AH} {v1 v2 : Value} {x : SComplex} {l : List Nat} (he : OComplex n h (.agg #[.int .i64 x.prime, v1, v2]) x l) : PComplex n h v1 v2 x l := by
  obtain ⟨w1, w2, e, h1⟩ := he
  cases e
  exact h1

def numComplex (k : Int) (x : SComplex) : SComplex := ⟨x.prime, numI (k) x.dims, numIII (k + cnI x.dims) x.maps⟩
def cnComplex (x : SComplex) : Nat := cnI x.dims + cnIII x.maps
def ctComplex (x : SComplex) : Nat := ctI x.dims + ctIII x.maps

theorem cnComplex_le (x : SComplex) : cnComplex x ≤ ctComplex x := by
  unfold cnComplex ctComplex
  have l_dims := cnI_le x.dims
  have l_maps := cnIII_le x.maps
  omega


structure SCouple where
  prime : Int
  d : Int
  e : Int
  i : List (List Int)
  j : List (List Int)
  k : List (List Int)
deriving DecidableEq

def QCouple (h : AH) (v1 v2 v3 : Value) (x : SCouple) : Prop := RII h v1 x.i ∧ RII h v2 x.j ∧ RII h v3 x.k
def RCouple (h : AH) (v : Value) (x : SCouple) : Prop := ∃ v1 v2 v3, v = .agg #[.int .i64 x.prime, .int .i64 x.d, .int .i64 x.e, v1, v2, v3] ∧ QCouple h v1 v2 v3 x
theorem QCouple.le {h h' : AH} {v1 v2 v3 : Value} {x : SCouple} (hl : Le h h') : QCouple h v1 v2 v3 x → QCouple h' v1 v2 v3 x := fun ⟨h1, h2, h3⟩ => ⟨RII.le _ _ _ _ hl h1, RII.le _ _ _ _ hl h2, RII.le _ _ _ _ hl h3⟩
theorem RCouple.le : ∀ h h' v x, Le h h' → RCouple h v x → RCouple h' v x := fun _ _ _ _ hl ⟨v1, v2, v3, e, h1⟩ => ⟨v1, v2, v3, e, h1.le hl⟩
theorem QCouple.can {h : AH} {v1 v2 v3 : Value} {x : SCouple} (hr : QCouple h v1 v2 v3 x) : ∃ b1 o1 b2 o2 b3 o3, Wk v1 (.slice (some ⟨b1, o1, none⟩) x.i.length 0) ∧ Wk v2 (.slice (some ⟨b2, o2, none⟩) x.j.length 0) ∧ Wk v3 (.slice (some ⟨b3, o3, none⟩) x.k.length 0) ∧ QCouple h (.slice (some ⟨b1, o1, none⟩) x.i.length 0) (.slice (some ⟨b2, o2, none⟩) x.j.length 0) (.slice (some ⟨b3, o3, none⟩) x.k.length 0) x := by
  obtain ⟨h1, h2, h3⟩ := hr
  obtain ⟨b1, o1, k1, h1⟩ := h1.can
  obtain ⟨b2, o2, k2, h2⟩ := h2.can
  obtain ⟨b3, o3, k3, h3⟩ := h3.can
  exact ⟨b1, o1, b2, o2, b3, o3, k1, k2, k3, h1, h2, h3⟩

theorem RCouple.can {h : AH} {v : Value} {x : SCouple} (hr : RCouple h v x) : ∃ b1 o1 b2 o2 b3 o3, Wk v (.agg #[.int .i64 x.prime, .int .i64 x.d, .int .i64 x.e, .slice (some ⟨b1, o1, none⟩) x.i.length 0, .slice (some ⟨b2, o2, none⟩) x.j.length 0, .slice (some ⟨b3, o3, none⟩) x.k.length 0]) ∧ QCouple h (.slice (some ⟨b1, o1, none⟩) x.i.length 0) (.slice (some ⟨b2, o2, none⟩) x.j.length 0) (.slice (some ⟨b3, o3, none⟩) x.k.length 0) x := by
  obtain ⟨v1, v2, v3, rfl, hq⟩ := hr
  obtain ⟨b1, o1, b2, o2, b3, o3, k1, k2, k3, hq⟩ := hq.can
  exact ⟨b1, o1, b2, o2, b3, o3, Wk.agg (.cons (Wk.refl _) (.cons (Wk.refl _) (.cons (Wk.refl _) (.cons k1 (.cons k2 (.cons k3 .nil)))))), hq⟩

def PCouple (n : Nat) (h : AH) (v1 v2 v3 : Value) (x : SCouple) (l : List Nat) : Prop := ∃ l1 l2 l3, OII n h v1 x.i l1 ∧ OII n h v2 x.j l2 ∧ OII n h v3 x.k l3 ∧ l = l1 ++ (l2 ++ l3) ∧ l.Nodup
def OCouple : Tr SCouple := fun n h v x l => ∃ v1 v2 v3, v = .agg #[.int .i64 x.prime, .int .i64 x.d, .int .i64 x.e, v1, v2, v3] ∧ PCouple n h v1 v2 v3 x l
theorem PCouple.wk {n : Nat} {h : AH} {v1 v2 v3 w1 w2 w3 : Value} {x : SCouple} {l : List Nat} (k1 : Wk v1 w1) (k2 : Wk v2 w2) (k3 : Wk v3 w3) : PCouple n h w1 w2 w3 x l → PCouple n h v1 v2 v3 x l := fun ⟨l1, l2, l3, h1, h2, h3, e, hd⟩ => ⟨l1, l2, l3, Node.wk k1 h1, Node.wk k2 h2, Node.wk k3 h3, e, hd⟩
theorem PCouple.can {n : Nat} {h : AH} {v1 v2 v3 : Value} {x : SCouple} {l : List Nat} (hr : PCouple n h v1 v2 v3 x l) : ∃ b1 o1 b2 o2 b3 o3, Wk v1 (.slice (some ⟨b1, o1, none⟩) x.i.length 0) ∧ Wk v2 (.slice (some ⟨b2, o2, none⟩) x.j.length 0) ∧ Wk v3 (.slice (some ⟨b3, o3, none⟩) x.k.length 0) ∧ PCouple n h (.slice (some ⟨b1, o1, none⟩) x.i.length 0) (.slice (some ⟨b2, o2, none⟩) x.j.length 0) (.slice (some ⟨b3, o3, none⟩) x.k.length 0) x l := by
  obtain ⟨l1, l2, l3, h1, h2, h3, e, hd⟩ := hr
  obtain ⟨b1, o1, k1, h1⟩ := Node.can h1
  obtain ⟨b2, o2, k2, h2⟩ := Node.can h2
  obtain ⟨b3, o3, k3, h3⟩ := Node.can h3
  exact ⟨b1, o1, b2, o2, b3, o3, k1, k2, k3, l1, l2, l3, h1, h2, h3, e, hd⟩

theorem PCouple.reads {n : Nat} {h : AH} {v1 v2 v3 : Value} {x : SCouple} {l : List Nat} : PCouple n h v1 v2 v3 x l → QCouple h v1 v2 v3 x := fun ⟨l1, l2, l3, h1, h2, h3, e, hd⟩ => ⟨OII.reads _ _ _ _ _ h1, OII.reads _ _ _ _ _ h2, OII.reads _ _ _ _ _ h3⟩
theorem OCouple.reads : ∀ n h v x l, OCouple n h v x l → RCouple h v x := fun _ _ _ _ _ ⟨v1, v2, v3, e, h1⟩ => ⟨v1, v2, v3, e, h1.reads⟩
abbrev sCouple : List TypeId := sII
theorem OCouple.fr : Fr tI sCouple OCouple where
  keep := by
    rintro n h h' v x l ⟨v1, v2, v3, rfl, l1, l2, l3, h1, h2, h3, rfl, hd⟩ hk
    exact ⟨v1, v2, v3, rfl, l1, l2, l3, OII.fr.keep _ _ _ _ _ _ h1 (fun i b e1 e2 e3 => hk i b e1 e2 (e3.imp (fun hi => (List.mem_append_left _ hi)) fun ⟨ty, a1, a2⟩ => ⟨ty, sub_of rfl ty a1, a2⟩)), OII.fr.keep _ _ _ _ _ _ h2 (fun i b e1 e2 e3 => hk i b e1 e2 (e3.imp (fun hi => (List.mem_append_right _ (List.mem_append_left _ hi))) fun ⟨ty, a1, a2⟩ => ⟨ty, sub_of rfl ty a1, a2⟩)), OII.fr.keep _ _ _ _ _ _ h3 (fun i b e1 e2 e3 => hk i b e1 e2 (e3.imp (fun hi => (List.mem_append_right _ (List.mem_append_right _ hi))) fun ⟨ty, a1, a2⟩ => ⟨ty, sub_of rfl ty a1, a2⟩)), rfl, hd⟩
  low := by
    rintro n m h v x l ⟨v1, v2, v3, rfl, l1, l2, l3, h1, h2, h3, rfl, hd⟩ hmn
    exact ⟨v1, v2, v3, rfl, l1, l2, l3, OII.fr.low _ _ _ _ _ _ h1 hmn, OII.fr.low _ _ _ _ _ _ h2 hmn, OII.fr.low _ _ _ _ _ _ h3 hmn, rfl, hd⟩
  leaf := by
    rintro n h v x l ⟨v1, v2, v3, rfl, l1, l2, l3, h1, h2, h3, rfl, hd⟩ i hi
    rcases List.mem_append.1 hi with hi | hi
    · exact OII.fr.leaf _ _ _ _ _ h1 i hi
    rcases List.mem_append.1 hi with hi | hi
    · exact OII.fr.leaf _ _ _ _ _ h2 i hi
    exact OII.fr.leaf _ _ _ _ _ h3 i hi
  nd := by
    rintro n h v x l ⟨v1, v2, v3, rfl, l1, l2, l3, h1, h2, h3, rfl, hd⟩
    exact hd
theorem OCouple.comps {n : Nat} {h : AH} {v1 v2 v3 : Value} {x : SCouple} {l : List Nat} (he : OCouple n h (.agg #[.int .i64 x.prime, .int .i64 x.d, .int .i64 x.e, v1, v2, v3]) x l) : PCouple n h v1 v2 v3 x l := by
  obtain ⟨w1, w2, w3, e, h1⟩ := he
  cases e
  exact h1

def numCouple (k : Int) (x : SCouple) : SCouple := ⟨x.prime, x.d, x.e, numII (k) x.i, numII (k + cnII x.i) x.j, numII (k + cnII x.i + cnII x.j) x.k⟩
def cnCouple (x : SCouple) : Nat := cnII x.i + cnII x.j + cnII x.k
def ctCouple (x : SCouple) : Nat := ctII x.i + ctII x.j + ctII x.k

theorem cnCouple_le (x : SCouple) : cnCouple x ≤ ctCouple x := by
  unfold cnCouple ctCouple
  have l_i := cnII_le x.i
  have l_j := cnII_le x.j
  have l_k := cnII_le x.k
  omega


structure SDouble where
  prime : Int
  dims : List (List Int)
  across : List (List (List (List Int)))
  down : List (List (List (List Int)))
deriving DecidableEq

def QDouble (h : AH) (v1 v2 v3 : Value) (x : SDouble) : Prop := RII h v1 x.dims ∧ RIIII h v2 x.across ∧ RIIII h v3 x.down
def RDouble (h : AH) (v : Value) (x : SDouble) : Prop := ∃ v1 v2 v3, v = .agg #[.int .i64 x.prime, v1, v2, v3] ∧ QDouble h v1 v2 v3 x
theorem QDouble.le {h h' : AH} {v1 v2 v3 : Value} {x : SDouble} (hl : Le h h') : QDouble h v1 v2 v3 x → QDouble h' v1 v2 v3 x := fun ⟨h1, h2, h3⟩ => ⟨RII.le _ _ _ _ hl h1, RIIII.le _ _ _ _ hl h2, RIIII.le _ _ _ _ hl h3⟩
theorem RDouble.le : ∀ h h' v x, Le h h' → RDouble h v x → RDouble h' v x := fun _ _ _ _ hl ⟨v1, v2, v3, e, h1⟩ => ⟨v1, v2, v3, e, h1.le hl⟩
theorem QDouble.can {h : AH} {v1 v2 v3 : Value} {x : SDouble} (hr : QDouble h v1 v2 v3 x) : ∃ b1 o1 b2 o2 b3 o3, Wk v1 (.slice (some ⟨b1, o1, none⟩) x.dims.length 0) ∧ Wk v2 (.slice (some ⟨b2, o2, none⟩) x.across.length 0) ∧ Wk v3 (.slice (some ⟨b3, o3, none⟩) x.down.length 0) ∧ QDouble h (.slice (some ⟨b1, o1, none⟩) x.dims.length 0) (.slice (some ⟨b2, o2, none⟩) x.across.length 0) (.slice (some ⟨b3, o3, none⟩) x.down.length 0) x := by
  obtain ⟨h1, h2, h3⟩ := hr
  obtain ⟨b1, o1, k1, h1⟩ := h1.can
  obtain ⟨b2, o2, k2, h2⟩ := h2.can
  obtain ⟨b3, o3, k3, h3⟩ := h3.can
  exact ⟨b1, o1, b2, o2, b3, o3, k1, k2, k3, h1, h2, h3⟩

theorem RDouble.can {h : AH} {v : Value} {x : SDouble} (hr : RDouble h v x) : ∃ b1 o1 b2 o2 b3 o3, Wk v (.agg #[.int .i64 x.prime, .slice (some ⟨b1, o1, none⟩) x.dims.length 0, .slice (some ⟨b2, o2, none⟩) x.across.length 0, .slice (some ⟨b3, o3, none⟩) x.down.length 0]) ∧ QDouble h (.slice (some ⟨b1, o1, none⟩) x.dims.length 0) (.slice (some ⟨b2, o2, none⟩) x.across.length 0) (.slice (some ⟨b3, o3, none⟩) x.down.length 0) x := by
  obtain ⟨v1, v2, v3, rfl, hq⟩ := hr
  obtain ⟨b1, o1, b2, o2, b3, o3, k1, k2, k3, hq⟩ := hq.can
  exact ⟨b1, o1, b2, o2, b3, o3, Wk.agg (.cons (Wk.refl _) (.cons k1 (.cons k2 (.cons k3 .nil)))), hq⟩

def PDouble (n : Nat) (h : AH) (v1 v2 v3 : Value) (x : SDouble) (l : List Nat) : Prop := ∃ l1 l2 l3, OII n h v1 x.dims l1 ∧ OIIII n h v2 x.across l2 ∧ OIIII n h v3 x.down l3 ∧ l = l1 ++ (l2 ++ l3) ∧ l.Nodup
def ODouble : Tr SDouble := fun n h v x l => ∃ v1 v2 v3, v = .agg #[.int .i64 x.prime, v1, v2, v3] ∧ PDouble n h v1 v2 v3 x l
theorem PDouble.wk {n : Nat} {h : AH} {v1 v2 v3 w1 w2 w3 : Value} {x : SDouble} {l : List Nat} (k1 : Wk v1 w1) (k2 : Wk v2 w2) (k3 : Wk v3 w3) : PDouble n h w1 w2 w3 x l → PDouble n h v1 v2 v3 x l := fun ⟨l1, l2, l3, h1, h2, h3, e, hd⟩ => ⟨l1, l2, l3, Node.wk k1 h1, Node.wk k2 h2, Node.wk k3 h3, e, hd⟩
theorem PDouble.can {n : Nat} {h : AH} {v1 v2 v3 : Value} {x : SDouble} {l : List Nat} (hr : PDouble n h v1 v2 v3 x l) : ∃ b1 o1 b2 o2 b3 o3, Wk v1 (.slice (some ⟨b1, o1, none⟩) x.dims.length 0) ∧ Wk v2 (.slice (some ⟨b2, o2, none⟩) x.across.length 0) ∧ Wk v3 (.slice (some ⟨b3, o3, none⟩) x.down.length 0) ∧ PDouble n h (.slice (some ⟨b1, o1, none⟩) x.dims.length 0) (.slice (some ⟨b2, o2, none⟩) x.across.length 0) (.slice (some ⟨b3, o3, none⟩) x.down.length 0) x l := by
  obtain ⟨l1, l2, l3, h1, h2, h3, e, hd⟩ := hr
  obtain ⟨b1, o1, k1, h1⟩ := Node.can h1
  obtain ⟨b2, o2, k2, h2⟩ := Node.can h2
  obtain ⟨b3, o3, k3, h3⟩ := Node.can h3
  exact ⟨b1, o1, b2, o2, b3, o3, k1, k2, k3, l1, l2, l3, h1, h2, h3, e, hd⟩

theorem PDouble.reads {n : Nat} {h : AH} {v1 v2 v3 : Value} {x : SDouble} {l : List Nat} : PDouble n h v1 v2 v3 x l → QDouble h v1 v2 v3 x := fun ⟨l1, l2, l3, h1, h2, h3, e, hd⟩ => ⟨OII.reads _ _ _ _ _ h1, OIIII.reads _ _ _ _ _ h2, OIIII.reads _ _ _ _ _ h3⟩
theorem ODouble.reads : ∀ n h v x l, ODouble n h v x l → RDouble h v x := fun _ _ _ _ _ ⟨v1, v2, v3, e, h1⟩ => ⟨v1, v2, v3, e, h1.reads⟩
abbrev sDouble : List TypeId := sIIII
theorem ODouble.fr : Fr tI sDouble ODouble where
  keep := by
    rintro n h h' v x l ⟨v1, v2, v3, rfl, l1, l2, l3, h1, h2, h3, rfl, hd⟩ hk
    exact ⟨v1, v2, v3, rfl, l1, l2, l3, OII.fr.keep _ _ _ _ _ _ h1 (fun i b e1 e2 e3 => hk i b e1 e2 (e3.imp (fun hi => (List.mem_append_left _ hi)) fun ⟨ty, a1, a2⟩ => ⟨ty, sub_of rfl ty a1, a2⟩)), OIIII.fr.keep _ _ _ _ _ _ h2 (fun i b e1 e2 e3 => hk i b e1 e2 (e3.imp (fun hi => (List.mem_append_right _ (List.mem_append_left _ hi))) fun ⟨ty, a1, a2⟩ => ⟨ty, sub_of rfl ty a1, a2⟩)), OIIII.fr.keep _ _ _ _ _ _ h3 (fun i b e1 e2 e3 => hk i b e1 e2 (e3.imp (fun hi => (List.mem_append_right _ (List.mem_append_right _ hi))) fun ⟨ty, a1, a2⟩ => ⟨ty, sub_of rfl ty a1, a2⟩)), rfl, hd⟩
  low := by
    rintro n m h v x l ⟨v1, v2, v3, rfl, l1, l2, l3, h1, h2, h3, rfl, hd⟩ hmn
    exact ⟨v1, v2, v3, rfl, l1, l2, l3, OII.fr.low _ _ _ _ _ _ h1 hmn, OIIII.fr.low _ _ _ _ _ _ h2 hmn, OIIII.fr.low _ _ _ _ _ _ h3 hmn, rfl, hd⟩
  leaf := by
    rintro n h v x l ⟨v1, v2, v3, rfl, l1, l2, l3, h1, h2, h3, rfl, hd⟩ i hi
    rcases List.mem_append.1 hi with hi | hi
    · exact OII.fr.leaf _ _ _ _ _ h1 i hi
    rcases List.mem_append.1 hi with hi | hi
    · exact OIIII.fr.leaf _ _ _ _ _ h2 i hi
    exact OIIII.fr.leaf _ _ _ _ _ h3 i hi
  nd := by
    rintro n h v x l ⟨v1, v2, v3, rfl, l1, l2, l3, h1, h2, h3, rfl, hd⟩
    exact hd
theorem ODouble.comps {n : Nat} {h : AH} {v1 v2 v3 : Value} {x : SDouble} {l : List Nat} (he : ODouble n h (.agg #[.int .i64 x.prime, v1, v2, v3]) x l) : PDouble n h v1 v2 v3 x l := by
  obtain ⟨w1, w2, w3, e, h1⟩ := he
  cases e
  exact h1

def numDouble (k : Int) (x : SDouble) : SDouble := ⟨x.prime, numII (k) x.dims, numIIII (k + cnII x.dims) x.across, numIIII (k + cnII x.dims + cnIIII x.across) x.down⟩
def cnDouble (x : SDouble) : Nat := cnII x.dims + cnIIII x.across + cnIIII x.down
def ctDouble (x : SDouble) : Nat := ctII x.dims + ctIIII x.across + ctIIII x.down

theorem cnDouble_le (x : SDouble) : cnDouble x ≤ ctDouble x := by
  unfold cnDouble ctDouble
  have l_dims := cnII_le x.dims
  have l_across := cnIIII_le x.across
  have l_down := cnIIII_le x.down
  omega


structure SFiltered where
  complex : SComplex
  levels : List (List Int)
deriving DecidableEq

def QFiltered (h : AH) (v1 v2 v3 : Value) (x : SFiltered) : Prop := QComplex h v1 v2 x.complex ∧ RII h v3 x.levels
def RFiltered (h : AH) (v : Value) (x : SFiltered) : Prop := ∃ v1 v2 v3, v = .agg #[.int .i64 x.complex.prime, v1, v2, v3] ∧ QFiltered h v1 v2 v3 x
theorem QFiltered.le {h h' : AH} {v1 v2 v3 : Value} {x : SFiltered} (hl : Le h h') : QFiltered h v1 v2 v3 x → QFiltered h' v1 v2 v3 x := fun ⟨h1, h2⟩ => ⟨QComplex.le hl h1, RII.le _ _ _ _ hl h2⟩
theorem RFiltered.le : ∀ h h' v x, Le h h' → RFiltered h v x → RFiltered h' v x := fun _ _ _ _ hl ⟨v1, v2, v3, e, h1⟩ => ⟨v1, v2, v3, e, h1.le hl⟩
theorem QFiltered.can {h : AH} {v1 v2 v3 : Value} {x : SFiltered} (hr : QFiltered h v1 v2 v3 x) : ∃ b1 o1 b2 o2 b3 o3, Wk v1 (.slice (some ⟨b1, o1, none⟩) x.complex.dims.length 0) ∧ Wk v2 (.slice (some ⟨b2, o2, none⟩) x.complex.maps.length 0) ∧ Wk v3 (.slice (some ⟨b3, o3, none⟩) x.levels.length 0) ∧ QFiltered h (.slice (some ⟨b1, o1, none⟩) x.complex.dims.length 0) (.slice (some ⟨b2, o2, none⟩) x.complex.maps.length 0) (.slice (some ⟨b3, o3, none⟩) x.levels.length 0) x := by
  obtain ⟨h1, h2⟩ := hr
  obtain ⟨b1, o1, b2, o2, k1, k2, h1⟩ := h1.can
  obtain ⟨b3, o3, k3, h2⟩ := h2.can
  exact ⟨b1, o1, b2, o2, b3, o3, k1, k2, k3, h1, h2⟩

theorem RFiltered.can {h : AH} {v : Value} {x : SFiltered} (hr : RFiltered h v x) : ∃ b1 o1 b2 o2 b3 o3, Wk v (.agg #[.int .i64 x.complex.prime, .slice (some ⟨b1, o1, none⟩) x.complex.dims.length 0, .slice (some ⟨b2, o2, none⟩) x.complex.maps.length 0, .slice (some ⟨b3, o3, none⟩) x.levels.length 0]) ∧ QFiltered h (.slice (some ⟨b1, o1, none⟩) x.complex.dims.length 0) (.slice (some ⟨b2, o2, none⟩) x.complex.maps.length 0) (.slice (some ⟨b3, o3, none⟩) x.levels.length 0) x := by
  obtain ⟨v1, v2, v3, rfl, hq⟩ := hr
  obtain ⟨b1, o1, b2, o2, b3, o3, k1, k2, k3, hq⟩ := hq.can
  exact ⟨b1, o1, b2, o2, b3, o3, Wk.agg (.cons (Wk.refl _) (.cons k1 (.cons k2 (.cons k3 .nil)))), hq⟩

def PFiltered (n : Nat) (h : AH) (v1 v2 v3 : Value) (x : SFiltered) (l : List Nat) : Prop := ∃ l1 l2, PComplex n h v1 v2 x.complex l1 ∧ OII n h v3 x.levels l2 ∧ l = l1 ++ l2 ∧ l.Nodup
def OFiltered : Tr SFiltered := fun n h v x l => ∃ v1 v2 v3, v = .agg #[.int .i64 x.complex.prime, v1, v2, v3] ∧ PFiltered n h v1 v2 v3 x l
theorem PFiltered.wk {n : Nat} {h : AH} {v1 v2 v3 w1 w2 w3 : Value} {x : SFiltered} {l : List Nat} (k1 : Wk v1 w1) (k2 : Wk v2 w2) (k3 : Wk v3 w3) : PFiltered n h w1 w2 w3 x l → PFiltered n h v1 v2 v3 x l := fun ⟨l1, l2, h1, h2, e, hd⟩ => ⟨l1, l2, PComplex.wk k1 k2 h1, Node.wk k3 h2, e, hd⟩
theorem PFiltered.can {n : Nat} {h : AH} {v1 v2 v3 : Value} {x : SFiltered} {l : List Nat} (hr : PFiltered n h v1 v2 v3 x l) : ∃ b1 o1 b2 o2 b3 o3, Wk v1 (.slice (some ⟨b1, o1, none⟩) x.complex.dims.length 0) ∧ Wk v2 (.slice (some ⟨b2, o2, none⟩) x.complex.maps.length 0) ∧ Wk v3 (.slice (some ⟨b3, o3, none⟩) x.levels.length 0) ∧ PFiltered n h (.slice (some ⟨b1, o1, none⟩) x.complex.dims.length 0) (.slice (some ⟨b2, o2, none⟩) x.complex.maps.length 0) (.slice (some ⟨b3, o3, none⟩) x.levels.length 0) x l := by
  obtain ⟨l1, l2, h1, h2, e, hd⟩ := hr
  obtain ⟨b1, o1, b2, o2, k1, k2, h1⟩ := h1.can
  obtain ⟨b3, o3, k3, h2⟩ := Node.can h2
  exact ⟨b1, o1, b2, o2, b3, o3, k1, k2, k3, l1, l2, h1, h2, e, hd⟩

theorem PFiltered.reads {n : Nat} {h : AH} {v1 v2 v3 : Value} {x : SFiltered} {l : List Nat} : PFiltered n h v1 v2 v3 x l → QFiltered h v1 v2 v3 x := fun ⟨l1, l2, h1, h2, e, hd⟩ => ⟨PComplex.reads h1, OII.reads _ _ _ _ _ h2⟩
theorem OFiltered.reads : ∀ n h v x l, OFiltered n h v x l → RFiltered h v x := fun _ _ _ _ _ ⟨v1, v2, v3, e, h1⟩ => ⟨v1, v2, v3, e, h1.reads⟩
abbrev sFiltered : List TypeId := sIII
theorem OFiltered.fr : Fr tI sFiltered OFiltered where
  keep := by
    rintro n h h' v x l ⟨v1, v2, v3, rfl, l1, l2, h1, h2, rfl, hd⟩ hk
    exact ⟨v1, v2, v3, rfl, l1, l2, (OComplex.fr.keep n h h' (.agg #[.int .i64 x.complex.prime, v1, v2]) _ _ ⟨_, _, rfl, h1⟩ (fun i b e1 e2 e3 => hk i b e1 e2 (e3.imp (fun hi => (List.mem_append_left _ hi)) fun ⟨ty, a1, a2⟩ => ⟨ty, sub_of rfl ty a1, a2⟩))).comps, OII.fr.keep _ _ _ _ _ _ h2 (fun i b e1 e2 e3 => hk i b e1 e2 (e3.imp (fun hi => (List.mem_append_right _ hi)) fun ⟨ty, a1, a2⟩ => ⟨ty, sub_of rfl ty a1, a2⟩)), rfl, hd⟩
  low := by
    rintro n m h v x l ⟨v1, v2, v3, rfl, l1, l2, h1, h2, rfl, hd⟩ hmn
    exact ⟨v1, v2, v3, rfl, l1, l2, (OComplex.fr.low _ _ h (.agg #[.int .i64 x.complex.prime, v1, v2]) _ _ ⟨_, _, rfl, h1⟩ hmn).comps, OII.fr.low _ _ _ _ _ _ h2 hmn, rfl, hd⟩
  leaf := by
    rintro n h v x l ⟨v1, v2, v3, rfl, l1, l2, h1, h2, rfl, hd⟩ i hi
    rcases List.mem_append.1 hi with hi | hi
    · exact OComplex.fr.leaf _ _ (.agg #[.int .i64 x.complex.prime, v1, v2]) _ _ ⟨_, _, rfl, h1⟩ i hi
    exact OII.fr.leaf _ _ _ _ _ h2 i hi
  nd := by
    rintro n h v x l ⟨v1, v2, v3, rfl, l1, l2, h1, h2, rfl, hd⟩
    exact hd
theorem OFiltered.comps {n : Nat} {h : AH} {v1 v2 v3 : Value} {x : SFiltered} {l : List Nat} (he : OFiltered n h (.agg #[.int .i64 x.complex.prime, v1, v2, v3]) x l) : PFiltered n h v1 v2 v3 x l := by
  obtain ⟨w1, w2, w3, e, h1⟩ := he
  cases e
  exact h1

def numFiltered (k : Int) (x : SFiltered) : SFiltered := ⟨numComplex (k) x.complex, numII (k + cnComplex x.complex) x.levels⟩
def cnFiltered (x : SFiltered) : Nat := cnComplex x.complex + cnII x.levels
def ctFiltered (x : SFiltered) : Nat := ctComplex x.complex + ctII x.levels

theorem cnFiltered_le (x : SFiltered) : cnFiltered x ≤ ctFiltered x := by
  unfold cnFiltered ctFiltered
  have l_complex := cnComplex_le x.complex
  have l_levels := cnII_le x.levels
  omega


end Go.Gl

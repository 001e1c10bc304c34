/- Chapter 3: TotalOf and FilteredTotal, the program's side. No condition. -/
import Derived.Test.YtionapmdibdfpaaFnTo7
set_option linter.unusedVariables false
set_option linter.unusedSimpArgs false
namespace Go.Gl
open Go.Proofs Go.Proofs.Ytionapmdibdfpaa Go.Pl

noncomputable def ftR (x : SDouble) (rows : Bool) : SFiltered × Int := if dOk x then totR x rows else (noFil, 1)
noncomputable def toR (x : SDouble) : SComplex × Int := ((ftR x false).1.complex, (ftR x false).2)
theorem OFiltered.cx {n : Nat} {h : AH} {p : Int} {v1 v2 v3 : Value} {x : SFiltered} {l : List Nat} (o : OFiltered n h (.agg #[.int .i64 p, v1, v2, v3]) x l) : p = x.complex.prime ∧ ∃ l', OComplex n h (.agg #[.int .i64 p, v1, v2]) x.complex l' := by
  obtain ⟨w1, w2, w3, e, l1, l2, h1, h2, _⟩ := o
  cases e
  exact ⟨rfl, l1, _, _, rfl, h1⟩
abbrev cFl (x : SFiltered) (b1 o1 b2 o2 b3 o3 : Nat) : List Value := [.int .i64 x.complex.prime, .slice (some ⟨b1, o1, none⟩) x.complex.dims.length 0, .slice (some ⟨b2, o2, none⟩) x.complex.maps.length 0, .slice (some ⟨b3, o3, none⟩) x.levels.length 0]
abbrev vFl (x : SFiltered) (b1 o1 b2 o2 b3 o3 : Nat) : Value := .agg #[.int .i64 x.complex.prime, .slice (some ⟨b1, o1, none⟩) x.complex.dims.length 0, .slice (some ⟨b2, o2, none⟩) x.complex.maps.length 0, .slice (some ⟨b3, o3, none⟩) x.levels.length 0]
theorem canFl {P : Program} {f : FuncId} {args : List Value} {h : AH} {x : SFiltered} {u : Value} (hc : ACalls P f args h (fun r h' => ∃ v l, r = .tuple #[v, u] ∧ OFiltered h.length h' v x l ∧ Le h h')) :
    ACalls P f args h (fun r h' => ∃ b1 o1 b2 o2 b3 o3 l, r = .tuple #[vFl x b1 o1 b2 o2 b3 o3, u] ∧ OFiltered h.length h' (vFl x b1 o1 b2 o2 b3 o3) x l ∧ Le h h') :=
  hc.can fun r h' ⟨v, l, e, ⟨v1, v2, v3, e2, hp⟩, gg⟩ => by
    subst e e2
    obtain ⟨b1, o1, b2, o2, b3, o3, k1, k2, k3, qx⟩ := hp.can
    exact ⟨_, Wk.tuple (.cons (Wk.agg (.cons (Wk.refl _) (.cons k1 (.cons k2 (.cons k3 .nil))))) (.cons (Wk.refl _) .nil)), b1, o1, b2, o2, b3, o3, l, rfl, ⟨_, _, _, rfl, qx⟩, gg⟩

theorem filtI_c (h : AH) (v : Value) (x : SDouble) (hx : RDouble h v x) (rows : Bool) : ACalls Try.prog 15 [v, .bool rows] h (fun r h' => ∃ v l, r = .tuple #[v, .int .i64 (ftR x rows).2] ∧ OFiltered h.length h' v (ftR x rows).1 l ∧ Le h h') := by
  obtain ⟨P, kx, qx⟩ := hx.at_
  refine ACalls.wk (args' := [vD x P, .bool rows]) ?_ (.cons kx (.cons (Wk.refl _) .nil))
  refine ACalls.of Tt.tab Try.func15 rfl (by kernel_rfl) Try.ntmps15 _ rfl rfl (fun hw => ?_)
  have S := Sep.start h
  refine S.new fun b2 g S => ?_
  refine S.new fun b4 g S => ?_
  refine LoadX.same (v := vD x P) (S.at_ 1 rfl) rfl ?_
  refine CallX.same (isDoubleI_c _ _ x (qx.reads S.le)) ?_
  rintro r g' ⟨rfl, rfl⟩
  unfold ftR
  cases e1 : dOk x with
  | false =>
    refine BIf.yes rfl ?_
    refine S.put 0 rfl fun g S => ?_
    refine LoadX.same (v := .agg #[.int .i64 0, .slice none 0 0, .slice none 0 0, .slice none 0 0]) (S.at_ 0 rfl) rfl ?_
    exact FinX.here S.le.len ⟨_, [], rfl, OFiltered.nil _ _, S.le⟩
  | true =>
  refine BIf.no rfl ?_
  refine LoadX.same (v := vD x P) (S.at_ 1 rfl) rfl ?_
  refine CallX.same (canFl (total_c _ _ x rows (qx.reads S.le) (dOk_mk e1).toDShape)) ?_
  rintro r g2 ⟨b5, o5, b6, o6, b7, o7, l, rfl, o, L⟩
  have S := S.tree OFiltered.fr o L
  refine S.put 1 rfl fun g S => ?_
  refine LoadX.same (v := vFl (totR x rows).1 b5 o5 b6 o6 b7 o7) (S.at_ 1 rfl) rfl ?_
  obtain ⟨l2, o2⟩ := S.tre 0 rfl
  exact FinX.here S.le.len ⟨_, l2, rfl, o2, S.le⟩

theorem totI_c (h : AH) (v : Value) (x : SDouble) (hx : RDouble h v x) : ACalls Try.prog 8 [v] h (fun r h' => ∃ v l, r = .tuple #[v, .int .i64 (toR x).2] ∧ OComplex h.length h' v (toR x).1 l ∧ Le h h') := by
  obtain ⟨P, kx, qx⟩ := hx.at_
  refine ACalls.wk (args' := [vD x P]) ?_ (.cons kx .nil)
  refine ACalls.of Tt.tab Try.func8 rfl (by kernel_rfl) Try.ntmps8 _ rfl rfl (fun hw => ?_)
  have S := Sep.start h
  refine S.new fun b1 g S => ?_
  refine S.new fun b2 g S => ?_
  refine LoadX.same (v := vD x P) (S.at_ 1 rfl) rfl ?_
  refine CallX.same (canFl (filtI_c _ _ x (qx.reads S.le) false)) ?_
  rintro r g2 ⟨b5, o5, b6, o6, b7, o7, l, rfl, o, L⟩
  have S := S.tree OFiltered.fr o L
  refine S.new fun b4 g S => ?_
  refine S.put 0 rfl fun g S => ?_
  refine LoadX.same (v := .agg #[.int .i64 (ftR x false).1.complex.prime, .slice (some ⟨b5, o5, none⟩) (ftR x false).1.complex.dims.length 0, .slice (some ⟨b6, o6, none⟩) (ftR x false).1.complex.maps.length 0]) (S.at_ 0 rfl) rfl ?_
  refine S.put 2 rfl fun g S => ?_
  refine LoadX.same (v := .agg #[.int .i64 (ftR x false).1.complex.prime, .slice (some ⟨b5, o5, none⟩) (ftR x false).1.complex.dims.length 0, .slice (some ⟨b6, o6, none⟩) (ftR x false).1.complex.maps.length 0]) (S.at_ 2 rfl) rfl ?_
  obtain ⟨l2, o2⟩ := S.tre 1 rfl
  obtain ⟨_, l3, o3⟩ := OFiltered.cx o2
  exact FinX.here S.le.len ⟨_, l3, rfl, o3, S.le⟩

end Go.Gl

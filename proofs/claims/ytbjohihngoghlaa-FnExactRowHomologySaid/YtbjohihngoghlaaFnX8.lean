/- Chapter 3: TransposeDouble, the program's side. No condition. -/
import Derived.Test.YtbjohihngoghlaaFnX7
import Derived.Test.YtbjohihngoghlaaGlR
set_option linter.unusedVariables false
set_option linter.unusedSimpArgs false
namespace Go.Gl
open Go.Proofs Go.Proofs.Ytbjohihngoghlaa Go.Pl

theorem ODouble.zero (h : AH) (n : Nat) : ODouble n h (.agg #[.int .i64 0, .slice none 0 0, .slice none 0 0, .slice none 0 0]) noDouble [] :=
  ⟨_, _, _, rfl, [], [], [], ⟨by simp [noDouble], 0, 0, [], [], Wk.nil _, Row.nil _ _ _, rfl, .inl rfl⟩, ⟨by simp [noDouble], 0, 0, [], [], Wk.nil _, Row.nil _ _ _, rfl, .inl rfl⟩, ⟨by simp [noDouble], 0, 0, [], [], Wk.nil _, Row.nil _ _ _, rfl, .inl rfl⟩, rfl, by simp⟩
theorem SepM.finD {h0 h : AH} {Rs : List Res} {x : SDouble} {v1 v2 v3 : Value} (S : Sep h0.length h0 h (.tr OII.fr h0.length v1 x.dims :: .tr OIIII.fr h0.length v2 x.across :: .tr OIIII.fr h0.length v3 x.down :: Rs)) :
    ∃ l, ODouble h0.length h (.agg #[.int .i64 x.prime, v1, v2, v3]) x l := by
  obtain ⟨l1, l2, l3, a1, a2, a3, hd⟩ := S.three
  exact ⟨_, _, _, _, rfl, l1, l2, l3, a1, a2, a3, rfl, hd⟩
def rowI (n : Nat) (d : List (List Int)) (A : Nat → Option Addr) (k c : Nat → Nat) (j : Nat) : Res := .rc 2 1 n (slc A k c j) (k j) (((List.range (k j)).map fun i => ent d i j).map (.int .i64))
theorem rowI_step {n : Nat} {d : List (List Int)} {A : Nat → Option Addr} {c : Nat → Nat} {i j b : Nat} :
    (fun i' => if i' = j then Res.rc 2 1 n (.slice (some ⟨b, 0, none⟩) (kk i j j + 1) 1) (kk i j j + 1) ((((List.range (kk i j j)).map fun i => ent d i j).map (.int .i64)) ++ [.int .i64 (ent d i j)]) else rowI n d A (kk i j) c i') =
      rowI n d (fun i' => if i' = j then some ⟨b, 0, none⟩ else A i') (kk i (j + 1)) (fun i' => if i' = j then 1 else c i') := by
  funext i'
  have ek : kk i j j = i := if_neg (by omega)
  by_cases h : i' = j
  · subst h
    rw [if_pos rfl]
    unfold rowI slc
    have e2 : kk i (i' + 1) i' = i + 1 := if_pos (by omega)
    simp only [↓reduceIte, e2, ek]
    rw [List.range_succ, List.map_append, List.map_append]
    rfl
  · rw [if_neg h]
    unfold rowI slc
    have e2 : kk i (j + 1) i' = kk i j i' := by unfold kk; by_cases h2 : i' < j; rw [if_pos h2, if_pos (by omega)]; rw [if_neg h2, if_neg (by omega)]
    simp only [if_neg h, e2]
/-- what the transposed one is when some cells have been told -/
def StTr (n : Nat) (x : SDouble) (P : DP) (ta td : List (List (List (List Int)))) (va vd : Value) (b b2 b3 b8 : Nat) (i j : Nat) (Rs : List Res) : Prop :=
  ∃ (A : Nat → Option Addr) (c : Nat → Nat), Rs = [.bx b3 71 4 [.int .i64 x.prime, .slice (some ⟨b8, 0, none⟩) (dH x) 1, va, vd], .tr OIIII.fr n vd td, .tr OIIII.fr n va ta, .bx b8 22 1 ((List.range (dH x)).map (slc A (kk i j) c)), .bx b2 71 4 [.int .i64 0, .slice none 0 0, .slice none 0 0, .slice none 0 0], .bx b 71 4 (cD x P)] ++ rowsR (dH x) (rowI n x.dims A (kk i j) c)

theorem transposed1_c (n : Nat) (h0 : AH) (x : SDouble) (P : DP) (q : QD h0 x P) (hd : DHead x) (ta td : List (List (List (List Int)))) (va vd : Value) (b b2 b3 b8 : Nat) (i j : Nat) (hi : i < dW x) (hj : j < dH x) :
    Does Try.prog 183 [.int .i64 i, .int .i64 j, .pointer (some ⟨b3, 0, none⟩), .pointer (some ⟨b, 0, none⟩)] n h0 (StTr n x P ta td va vd b b2 b3 b8 i j) (StTr n x P ta td va vd b b2 b3 b8 i (j + 1)) := by
  refine Does.of fun M hb h Rs hlen hle hs S => ?_
  obtain ⟨A, c, rfl⟩ := hs
  refine ACalls.of Tt.tab Try.func183 rfl (by kernel_rfl) Try.ntmps183 _ rfl rfl (fun hw => ?_)
  have hW := hd.w
  have hH := hd.h
  have r3 := hd.num i hi j hj
  have ek : kk i j j = i := if_neg (by omega)
  -- TREE1 BEGIN
  have done : ∀ (b10 : Nat) (g : AH), SepM M n hb g (.bx b3 71 4 [.int .i64 x.prime, .slice (some ⟨b8, 0, none⟩) (dH x) 1, va, vd] :: .tr OIIII.fr n vd td :: .tr OIIII.fr n va ta :: .bx b8 22 1 (setCells ((List.range (dH x)).map (slc A (kk i j) c)) (0 + j) [.slice (some ⟨b10, 0, none⟩) (kk i j j + 1) 1]) :: .bx b2 71 4 [.int .i64 0, .slice none 0 0, .slice none 0 0, .slice none 0 0] :: .bx b 71 4 (cD x P) :: st (rowsR (dH x) (rowI n x.dims A (kk i j) c)) j (.rc 2 1 n (.slice (some ⟨b10, 0, none⟩) (kk i j j + 1) 1) (kk i j j + 1) ((((List.range (kk i j j)).map fun i => ent x.dims i j).map (.int .i64)) ++ [.int .i64 (ent x.dims i j)]))) → ∃ Rs', StTr n x P ta td va vd b b2 b3 b8 i (j + 1) Rs' ∧ SepM M n hb g Rs' := fun b10 g S => by
    refine ⟨_, ⟨fun i' => if i' = j then some ⟨b10, 0, none⟩ else A i', fun i' => if i' = j then 1 else c i', rfl⟩, S.eq ?_⟩
    rw [setCells_map hj, st_rowsR, slc_step]
    exact congrArg (fun l => _ :: _ :: _ :: _ :: _ :: _ :: l) (congrArg (rowsR (dH x)) rowI_step)
  refine DrawX.tree Tt.tab follows_any [12] [13, 15] (.op 0 (.op 2 (.op 3 (.op 4 (.op 5 (.op 6 (.op 7 (.op 8 (.op 9 (.op 10 (.op 11 (.alt (.op 1 (.op 12 (.op 13 (.op 14 (.op 15 (.nil)))))) (.op 12 (.alt (.op 1 (.op 13 (.op 14 (.op 15 (.nil))))) (.op 13 (.op 1 (.op 14 (.op 15 (.nil))))))))))))))))))) [] (fun vs g => ∃ Rs', StTr n x P ta td va vd b b2 b3 b8 i (j + 1) Rs' ∧ SepM M n hb g Rs') (by kernel_rfl) (by kernel_rfl) ?_ ?_
  · refine LoadX.same (v := .slice (some ⟨b8, 0, none⟩) (dH x) 1) (S.at_ 0 rfl) rfl ?_
    refine IdxX.mk (by omega) (by omega) ?_
    refine LoadX.same (v := slc A (kk i j) c j) (S.at_ 3 rfl) (ldv_map rfl hj) ?_
    refine LoadX.same (v := vD x P) (S.at_ 5 rfl) rfl ?_
    refine QCall.of (fun g2 hl => dim_c g2 _ x i j (q.reads ((hle.trans S.le).trans hl)) hd) rfl ?_
    rw [dimZ_in hi hj]
    refine ⟨?_, ?_⟩
    · refine LoadX.same (v := .slice (some ⟨b8, 0, none⟩) (dH x) 1) (S.at_ 0 rfl) rfl ?_
      refine S.newL fun b9 g L S => ?_
      refine ⟨L, ?_⟩
      refine S.app (j + 6) (gt_rowsR hj) rfl rfl (by omega) fun b10 g S => ?_
      refine IdxX.mk (by omega) (by omega) ?_
      refine S.store (o := 0 + j) (vs := [.slice (some ⟨b10, 0, none⟩) (kk i j j + 1) 1]) 3 rfl (by rw [List.length_map, List.length_range]; show 0 + j + 1 ≤ dH x; omega) fun g S => ?_
      exact done b10 g S
    · refine S.newL fun b9 g L S => ?_
      refine ⟨L, ?_⟩
      refine ⟨?_, ?_⟩
      · refine LoadX.same (v := .slice (some ⟨b8, 0, none⟩) (dH x) 1) (S.at_ 1 rfl) rfl ?_
        refine S.app (j + 6) (gt_rowsR hj) rfl rfl (by omega) fun b10 g S => ?_
        refine IdxX.mk (by omega) (by omega) ?_
        refine S.store (o := 0 + j) (vs := [.slice (some ⟨b10, 0, none⟩) (kk i j j + 1) 1]) 3 rfl (by rw [List.length_map, List.length_range]; show 0 + j + 1 ≤ dH x; omega) fun g S => ?_
        exact done b10 g S
      · refine S.app (j + 6) (gt_rowsR hj) rfl rfl (by omega) fun b10 g S => ?_
        refine LoadX.same (v := .slice (some ⟨b8, 0, none⟩) (dH x) 1) (S.at_ 0 rfl) rfl ?_
        refine IdxX.mk (by omega) (by omega) ?_
        refine S.store (o := 0 + j) (vs := [.slice (some ⟨b10, 0, none⟩) (kk i j j + 1) 1]) 3 rfl (by rw [List.length_map, List.length_range]; show 0 + j + 1 ≤ dH x; omega) fun g S => ?_
        exact done b10 g S
  -- TREE1 END
  rintro vs g ⟨Rs', hs', S⟩
  exact FinX.here (by have := S.le.len; omega) ⟨rfl, Rs', hs', S⟩
set_option maxHeartbeats 4000000 in
theorem transposed_c (h : AH) (v : Value) (x : SDouble) (hx : RDouble h v x) (hd : DShape x) : ACalls Try.prog 128 [v] h (fun r h' => ∃ l, ODouble h.length h' r (flipD x) l ∧ Le h h') := by
  obtain ⟨P, kx, qx⟩ := hx.at_
  refine ACalls.wk (args' := [vD x P]) ?_ (.cons kx .nil)
  refine ACalls.of Tt.tab Try.func128 rfl (by kernel_rfl) Try.ntmps128 _ rfl rfl (fun hw => ?_)
  have S := Sep.start h
  have hW := hd.w
  have hH := hd.h
  have szs : ∀ t w, TabOk x t w → (∀ i j, 0 ≤ w i j ∧ w i j ≤ 4) → ∀ i j, i < dW x → j < dH x → (cel t i j).length ≤ 1000 ∧ ∀ k, k < (cel t i j).length → (row (cel t i j) k).length ≤ 1000 := fun t w ht hw i j hi hj => by
    obtain ⟨t1, t2⟩ := ht.cell i j
    rw [celZ_in hi hj] at t1 t2
    have := hd.dim i j
    refine ⟨by omega, fun k hk => ?_⟩
    have := (t2.row hk).1
    have := hw i j
    omega
  have szA := szs x.across _ hd.acr fun i j => hd.dim (i - 1) j
  have szD := szs x.down _ hd.dwn fun i j => hd.dim i (j - 1)
  refine S.new fun b g S => ?_
  refine S.new fun b2 g S => ?_
  -- TREE BEGIN
  refine DrawX.tree Tt.tab follows_any [4, 7, 10, 12] [13] (.op 0 (.op 1 (.op 2 (.op 3 (.op 5 (.op 6 (.op 8 (.op 9 (.alt (.op 4 (.alt (.op 7 (.alt (.op 10 (.op 11 (.op 12 (.op 13 (.nil))))) (.op 12 (.op 10 (.op 11 (.op 13 (.nil))))))) (.op 12 (.op 7 (.op 10 (.op 11 (.op 13 (.nil)))))))) (.alt (.op 7 (.alt (.op 4 (.alt (.op 10 (.op 11 (.op 12 (.op 13 (.nil))))) (.op 12 (.op 10 (.op 11 (.op 13 (.nil))))))) (.alt (.op 10 (.alt (.op 4 (.op 11 (.op 12 (.op 13 (.nil))))) (.op 12 (.op 4 (.op 11 (.op 13 (.nil))))))) (.op 12 (.alt (.op 4 (.op 10 (.op 11 (.op 13 (.nil))))) (.op 10 (.op 4 (.op 11 (.op 13 (.nil)))))))))) (.op 12 (.alt (.op 4 (.op 7 (.op 10 (.op 11 (.op 13 (.nil)))))) (.op 7 (.alt (.op 4 (.op 10 (.op 11 (.op 13 (.nil))))) (.op 10 (.op 4 (.op 11 (.op 13 (.nil))))))))))))))))))) [1, 2, 3] (fun vs g => ∃ b3 b4 o4 b5 o5 b8 : Nat, vs = [.pointer (some ⟨b, 0, none⟩), .pointer (some ⟨b2, 0, none⟩), .pointer (some ⟨b3, 0, none⟩)] ∧ Sep h.length h g [.bx b3 71 4 [.int .i64 x.prime, .slice (some ⟨b8, 0, none⟩) (dH x) 1, .slice (some ⟨b4, o4, none⟩) (flipT x.down (dW x) (dH x)).length 0, .slice (some ⟨b5, o5, none⟩) (flipT x.across (dW x) (dH x)).length 0], .tr OIIII.fr h.length (.slice (some ⟨b5, o5, none⟩) (flipT x.across (dW x) (dH x)).length 0) (flipT x.across (dW x) (dH x)), .tr OIIII.fr h.length (.slice (some ⟨b4, o4, none⟩) (flipT x.down (dW x) (dH x)).length 0) (flipT x.down (dW x) (dH x)), .bx b8 22 1 ((List.range (dH x)).map (slc (fun _ => none) (kk 0 0) fun _ => 0)), .bx b2 71 4 [.int .i64 0, .slice none 0 0, .slice none 0 0, .slice none 0 0], .bx b 71 4 (cD x P)]) (by kernel_rfl) (by kernel_rfl) ?_ ?_
  · refine LoadX.same (v := .int .i64 x.prime) (S.at_ 1 rfl) rfl ?_
    refine LoadX.same (v := vD x P) (S.at_ 1 rfl) rfl ?_
    refine QCall.of (fun g2 hl => high_c g2 _ x (qx.reads (S.le.trans hl)) hW.1) rfl ?_
    refine LoadX.same (v := vD3 x P) (S.at_ 1 rfl) rfl ?_
    refine LoadX.same (v := vD2 x P) (S.at_ 1 rfl) rfl ?_
    refine ⟨?_, ?_⟩
    · refine ⟨by omega, rfl, by omega, by show (dH x : Int) * (24 : Nat) ≤ _; omega, ?_⟩
      refine S.newL fun b8 g L S => ?_
      refine ⟨L, ?_⟩
      have S := S.recast 0 rfl (nils_map _)
      rw [show ((dH x : Nat) : Int).toNat = dH x from Int.toNat_natCast _] at S ⊢
      refine ⟨?_, ?_⟩
      · refine S.madeL OIIII.fr (turned_c _ _ x.down (dW x) (dH x) (RIIII.le _ _ _ _ S.le qx.2.2) hd.dwn.1 ⟨hW.1, by omega⟩ hd.dwn.2.1 (by omega) szD) fun b4 o4 g L S => ?_
        refine ⟨L, ?_⟩
        refine ⟨?_, ?_⟩
        · refine S.madeL OIIII.fr (turned_c _ _ x.across (dW x) (dH x) (RIIII.le _ _ _ _ S.le qx.2.1) hd.acr.1 ⟨hW.1, by omega⟩ hd.acr.2.1 (by omega) szA) fun b5 o5 g L S => ?_
          refine ⟨L, ?_⟩
          refine S.newL fun b3 g L S => ?_
          refine ⟨L, ?_⟩
          refine S.put 0 rfl fun g S => ?_
          exact ⟨b3, b4, o4, b5, o5, b8, rfl, ((((S.front 3 rfl).front 3 rfl).front 3 rfl).front 3 rfl)⟩
        · refine S.newL fun b3 g L S => ?_
          refine ⟨L, ?_⟩
          refine S.madeL OIIII.fr (turned_c _ _ x.across (dW x) (dH x) (RIIII.le _ _ _ _ S.le qx.2.1) hd.acr.1 ⟨hW.1, by omega⟩ hd.acr.2.1 (by omega) szA) fun b5 o5 g L S => ?_
          refine ⟨L, ?_⟩
          refine S.put 1 rfl fun g S => ?_
          exact ⟨b3, b4, o4, b5, o5, b8, rfl, ((((S.front 3 rfl).front 3 rfl).front 2 rfl).front 3 rfl)⟩
      · refine S.newL fun b3 g L S => ?_
        refine ⟨L, ?_⟩
        refine S.madeL OIIII.fr (turned_c _ _ x.down (dW x) (dH x) (RIIII.le _ _ _ _ S.le qx.2.2) hd.dwn.1 ⟨hW.1, by omega⟩ hd.dwn.2.1 (by omega) szD) fun b4 o4 g L S => ?_
        refine ⟨L, ?_⟩
        refine S.madeL OIIII.fr (turned_c _ _ x.across (dW x) (dH x) (RIIII.le _ _ _ _ S.le qx.2.1) hd.acr.1 ⟨hW.1, by omega⟩ hd.acr.2.1 (by omega) szA) fun b5 o5 g L S => ?_
        refine ⟨L, ?_⟩
        refine S.put 2 rfl fun g S => ?_
        exact ⟨b3, b4, o4, b5, o5, b8, rfl, ((((S.front 3 rfl).front 2 rfl).front 2 rfl).front 3 rfl)⟩
    · refine ⟨?_, ?_⟩
      · refine S.madeL OIIII.fr (turned_c _ _ x.down (dW x) (dH x) (RIIII.le _ _ _ _ S.le qx.2.2) hd.dwn.1 ⟨hW.1, by omega⟩ hd.dwn.2.1 (by omega) szD) fun b4 o4 g L S => ?_
        refine ⟨L, ?_⟩
        refine ⟨?_, ?_⟩
        · refine ⟨by omega, rfl, by omega, by show (dH x : Int) * (24 : Nat) ≤ _; omega, ?_⟩
          refine S.newL fun b8 g L S => ?_
          refine ⟨L, ?_⟩
          have S := S.recast 0 rfl (nils_map _)
          rw [show ((dH x : Nat) : Int).toNat = dH x from Int.toNat_natCast _] at S ⊢
          refine ⟨?_, ?_⟩
          · refine S.madeL OIIII.fr (turned_c _ _ x.across (dW x) (dH x) (RIIII.le _ _ _ _ S.le qx.2.1) hd.acr.1 ⟨hW.1, by omega⟩ hd.acr.2.1 (by omega) szA) fun b5 o5 g L S => ?_
            refine ⟨L, ?_⟩
            refine S.newL fun b3 g L S => ?_
            refine ⟨L, ?_⟩
            refine S.put 0 rfl fun g S => ?_
            exact ⟨b3, b4, o4, b5, o5, b8, rfl, ((((S.front 2 rfl).front 3 rfl).front 3 rfl).front 3 rfl)⟩
          · refine S.newL fun b3 g L S => ?_
            refine ⟨L, ?_⟩
            refine S.madeL OIIII.fr (turned_c _ _ x.across (dW x) (dH x) (RIIII.le _ _ _ _ S.le qx.2.1) hd.acr.1 ⟨hW.1, by omega⟩ hd.acr.2.1 (by omega) szA) fun b5 o5 g L S => ?_
            refine ⟨L, ?_⟩
            refine S.put 1 rfl fun g S => ?_
            exact ⟨b3, b4, o4, b5, o5, b8, rfl, ((((S.front 2 rfl).front 3 rfl).front 2 rfl).front 3 rfl)⟩
        · refine ⟨?_, ?_⟩
          · refine S.madeL OIIII.fr (turned_c _ _ x.across (dW x) (dH x) (RIIII.le _ _ _ _ S.le qx.2.1) hd.acr.1 ⟨hW.1, by omega⟩ hd.acr.2.1 (by omega) szA) fun b5 o5 g L S => ?_
            refine ⟨L, ?_⟩
            refine ⟨?_, ?_⟩
            · refine ⟨by omega, rfl, by omega, by show (dH x : Int) * (24 : Nat) ≤ _; omega, ?_⟩
              refine S.newL fun b8 g L S => ?_
              refine ⟨L, ?_⟩
              have S := S.recast 0 rfl (nils_map _)
              rw [show ((dH x : Nat) : Int).toNat = dH x from Int.toNat_natCast _] at S ⊢
              refine S.newL fun b3 g L S => ?_
              refine ⟨L, ?_⟩
              refine S.put 0 rfl fun g S => ?_
              exact ⟨b3, b4, o4, b5, o5, b8, rfl, ((((S.front 1 rfl).front 3 rfl).front 3 rfl).front 3 rfl)⟩
            · refine S.newL fun b3 g L S => ?_
              refine ⟨L, ?_⟩
              refine ⟨by omega, rfl, by omega, by show (dH x : Int) * (24 : Nat) ≤ _; omega, ?_⟩
              refine S.newL fun b8 g L S => ?_
              refine ⟨L, ?_⟩
              have S := S.recast 0 rfl (nils_map _)
              rw [show ((dH x : Nat) : Int).toNat = dH x from Int.toNat_natCast _] at S ⊢
              refine S.put 1 rfl fun g S => ?_
              exact ⟨b3, b4, o4, b5, o5, b8, rfl, ((((S.front 0 rfl).front 3 rfl).front 3 rfl).front 3 rfl)⟩
          · refine S.newL fun b3 g L S => ?_
            refine ⟨L, ?_⟩
            refine ⟨?_, ?_⟩
            · refine ⟨by omega, rfl, by omega, by show (dH x : Int) * (24 : Nat) ≤ _; omega, ?_⟩
              refine S.newL fun b8 g L S => ?_
              refine ⟨L, ?_⟩
              have S := S.recast 0 rfl (nils_map _)
              rw [show ((dH x : Nat) : Int).toNat = dH x from Int.toNat_natCast _] at S ⊢
              refine S.madeL OIIII.fr (turned_c _ _ x.across (dW x) (dH x) (RIIII.le _ _ _ _ S.le qx.2.1) hd.acr.1 ⟨hW.1, by omega⟩ hd.acr.2.1 (by omega) szA) fun b5 o5 g L S => ?_
              refine ⟨L, ?_⟩
              refine S.put 2 rfl fun g S => ?_
              exact ⟨b3, b4, o4, b5, o5, b8, rfl, ((((S.front 1 rfl).front 3 rfl).front 2 rfl).front 3 rfl)⟩
            · refine S.madeL OIIII.fr (turned_c _ _ x.across (dW x) (dH x) (RIIII.le _ _ _ _ S.le qx.2.1) hd.acr.1 ⟨hW.1, by omega⟩ hd.acr.2.1 (by omega) szA) fun b5 o5 g L S => ?_
              refine ⟨L, ?_⟩
              refine ⟨by omega, rfl, by omega, by show (dH x : Int) * (24 : Nat) ≤ _; omega, ?_⟩
              refine S.newL fun b8 g L S => ?_
              refine ⟨L, ?_⟩
              have S := S.recast 0 rfl (nils_map _)
              rw [show ((dH x : Nat) : Int).toNat = dH x from Int.toNat_natCast _] at S ⊢
              refine S.put 2 rfl fun g S => ?_
              exact ⟨b3, b4, o4, b5, o5, b8, rfl, ((((S.front 0 rfl).front 3 rfl).front 2 rfl).front 3 rfl)⟩
      · refine S.newL fun b3 g L S => ?_
        refine ⟨L, ?_⟩
        refine ⟨?_, ?_⟩
        · refine ⟨by omega, rfl, by omega, by show (dH x : Int) * (24 : Nat) ≤ _; omega, ?_⟩
          refine S.newL fun b8 g L S => ?_
          refine ⟨L, ?_⟩
          have S := S.recast 0 rfl (nils_map _)
          rw [show ((dH x : Nat) : Int).toNat = dH x from Int.toNat_natCast _] at S ⊢
          refine S.madeL OIIII.fr (turned_c _ _ x.down (dW x) (dH x) (RIIII.le _ _ _ _ S.le qx.2.2) hd.dwn.1 ⟨hW.1, by omega⟩ hd.dwn.2.1 (by omega) szD) fun b4 o4 g L S => ?_
          refine ⟨L, ?_⟩
          refine S.madeL OIIII.fr (turned_c _ _ x.across (dW x) (dH x) (RIIII.le _ _ _ _ S.le qx.2.1) hd.acr.1 ⟨hW.1, by omega⟩ hd.acr.2.1 (by omega) szA) fun b5 o5 g L S => ?_
          refine ⟨L, ?_⟩
          refine S.put 3 rfl fun g S => ?_
          exact ⟨b3, b4, o4, b5, o5, b8, rfl, ((((S.front 2 rfl).front 2 rfl).front 2 rfl).front 3 rfl)⟩
        · refine S.madeL OIIII.fr (turned_c _ _ x.down (dW x) (dH x) (RIIII.le _ _ _ _ S.le qx.2.2) hd.dwn.1 ⟨hW.1, by omega⟩ hd.dwn.2.1 (by omega) szD) fun b4 o4 g L S => ?_
          refine ⟨L, ?_⟩
          refine ⟨?_, ?_⟩
          · refine ⟨by omega, rfl, by omega, by show (dH x : Int) * (24 : Nat) ≤ _; omega, ?_⟩
            refine S.newL fun b8 g L S => ?_
            refine ⟨L, ?_⟩
            have S := S.recast 0 rfl (nils_map _)
            rw [show ((dH x : Nat) : Int).toNat = dH x from Int.toNat_natCast _] at S ⊢
            refine S.madeL OIIII.fr (turned_c _ _ x.across (dW x) (dH x) (RIIII.le _ _ _ _ S.le qx.2.1) hd.acr.1 ⟨hW.1, by omega⟩ hd.acr.2.1 (by omega) szA) fun b5 o5 g L S => ?_
            refine ⟨L, ?_⟩
            refine S.put 3 rfl fun g S => ?_
            exact ⟨b3, b4, o4, b5, o5, b8, rfl, ((((S.front 1 rfl).front 2 rfl).front 2 rfl).front 3 rfl)⟩
          · refine S.madeL OIIII.fr (turned_c _ _ x.across (dW x) (dH x) (RIIII.le _ _ _ _ S.le qx.2.1) hd.acr.1 ⟨hW.1, by omega⟩ hd.acr.2.1 (by omega) szA) fun b5 o5 g L S => ?_
            refine ⟨L, ?_⟩
            refine ⟨by omega, rfl, by omega, by show (dH x : Int) * (24 : Nat) ≤ _; omega, ?_⟩
            refine S.newL fun b8 g L S => ?_
            refine ⟨L, ?_⟩
            have S := S.recast 0 rfl (nils_map _)
            rw [show ((dH x : Nat) : Int).toNat = dH x from Int.toNat_natCast _] at S ⊢
            refine S.put 3 rfl fun g S => ?_
            exact ⟨b3, b4, o4, b5, o5, b8, rfl, ((((S.front 0 rfl).front 2 rfl).front 2 rfl).front 3 rfl)⟩
  -- TREE END
  rintro vs g ⟨b3, b4, o4, b5, o5, b8, rfl, S⟩
  refine LoadX.same (v := vD x P) (S.at_ 5 rfl) rfl ?_
  have S := S.nilsC 2 1 (dH x)
  refine SepM.does [] S (eachCell_c h.length h _ x (qx.reads (Le.refl _)) ⟨hW.1, hW.2, hH.2⟩ _ _ (StTr h.length x P (flipT x.down (dW x) (dH x)) (flipT x.across (dW x) (dH x)) (.slice (some ⟨b4, o4, none⟩) (flipT x.down (dW x) (dH x)).length 0) (.slice (some ⟨b5, o5, none⟩) (flipT x.across (dW x) (dH x)).length 0) b b2 b3 b8) (fun i j hi hj => transposed1_c h.length h x P qx hd.toDHead _ _ _ _ b b2 b3 b8 i j hi hj) (fun i Rs hi hs => ?_)) (Le.refl _) ?_ fun g' Rs' gl hs' S => ?_
  · obtain ⟨A, c, rfl⟩ := hs
    refine ⟨A, c, ?_⟩
    have e1 : (List.range (dH x)).map (slc A (kk i (dH x)) c) = (List.range (dH x)).map (slc A (kk (i + 1) 0) c) := List.map_congr_left fun j' hj' => by unfold slc; rw [kk_row i (dH x) j' (List.mem_range.1 hj')]
    have e2 : rowsR (dH x) (rowI h.length x.dims A (kk i (dH x)) c) = rowsR (dH x) (rowI h.length x.dims A (kk (i + 1) 0) c) := List.map_congr_left fun j' hj' => by unfold rowI slc; rw [kk_row i (dH x) j' (List.mem_range.1 hj')]
    rw [e1, e2]
  · refine ⟨fun _ => none, fun _ => 0, ?_⟩
    have e2 : (rowI h.length x.dims (fun _ => none) (kk 0 0) fun _ => 0) = fun _ => Res.rc 2 1 h.length (.slice none 0 0) 0 [] := by
      funext j; unfold rowI slc kk; rw [if_neg (by omega)]; rfl
    rw [e2]
    rfl
  obtain ⟨A, c, rfl⟩ := hs'
  have ek : ∀ j, kk (dW x) 0 j = dW x := fun j => if_neg (by omega)
  refine LoadX.same (v := .agg #[.int .i64 x.prime, .slice (some ⟨b8, 0, none⟩) (dH x) 1, .slice (some ⟨b4, o4, none⟩) (flipT x.down (dW x) (dH x)).length 0, .slice (some ⟨b5, o5, none⟩) (flipT x.across (dW x) (dH x)).length 0]) (S.at_ 0 rfl) rfl ?_
  refine S.put 4 rfl fun g S => ?_
  refine LoadX.same (v := .agg #[.int .i64 x.prime, .slice (some ⟨b8, 0, none⟩) (dH x) 1, .slice (some ⟨b4, o4, none⟩) (flipT x.down (dW x) (dH x)).length 0, .slice (some ⟨b5, o5, none⟩) (flipT x.across (dW x) (dH x)).length 0]) (S.at_ 4 rfl) rfl ?_
  have S := SepM.rowsAs (Ls := [_, _, _, _, _, _]) S (f' := fun j => .tr OI.fr h.length (slc A (kk (dW x) 0) c j) ((List.range (dW x)).map fun i => ent x.dims i j)) fun j hj F hF hR => by
    unfold rowI at hR
    rw [ek] at hR
    exact Res.rc_tr (by simp; omega) hR
  have S := S.front 3 rfl
  have S := SepM.gatherE (Ls := [_, _, _, _, _]) S
  have S := S.rw_tr 0 rfl (by omega)
  have S := ((S.front 3 rfl).front 1 rfl).drop 2
  obtain ⟨l, hl⟩ := SepM.finD (x := flipD x) S
  exact FinX.here S.le.len ⟨l, hl, S.le⟩
theorem transposedN_c (h : AH) (v : Value) (x : SDouble) (hx : RDouble h v x) (hd : DShape x) : ACalls Try.prog 128 [v] h (fun r h' => ∃ (P' : DP) (l : List Nat), r = vD (flipD x) P' ∧ ODouble h.length h' (vD (flipD x) P') (flipD x) l ∧ Le h h') :=
  (transposed_c h v x hx hd).can fun r h' ⟨l, ⟨v1, v2, v3, e, p⟩, L⟩ => by
    subst e
    obtain ⟨b1, o1, b2, o2, b3, o3, k1, k2, k3, p⟩ := p.can
    exact ⟨_, Wk.agg (.cons (Wk.refl _) (.cons k1 (.cons k2 (.cons k3 .nil)))), ⟨b1, o1, b2, o2, b3, o3⟩, l, rfl, ⟨_, _, _, rfl, p⟩, L⟩

theorem transDI_c (h : AH) (v : Value) (x : SDouble) (hx : RDouble h v x) : ACalls Try.prog 50 [v] h (fun r h' => ∃ v l, r = .tuple #[v, .int .i64 (transD x).2] ∧ ODouble h.length h' v (transD x).1 l ∧ Le h h') := by
  obtain ⟨P, kx, qx⟩ := hx.at_
  refine ACalls.wk (args' := [vD x P]) ?_ (.cons kx .nil)
  refine ACalls.of Tt.tab Try.func50 rfl (by kernel_rfl) Try.ntmps50 _ rfl rfl (fun hw => ?_)
  have S := Sep.start h
  refine S.new fun b g S => ?_
  refine S.new fun b2 g S => ?_
  refine LoadX.same (v := vD x P) (S.at_ 1 rfl) rfl ?_
  refine CallX.same (isDoubleI_c _ _ x (qx.reads S.le)) ?_
  rintro r g ⟨rfl, rfl⟩
  unfold transD
  refine BIf.mk (fun h1 => ?_) (fun h1 => ?_)
  · have h1 : dOk x = false := by simpa using h1
    rw [h1]
    refine S.put 0 rfl fun g S => ?_
    refine LoadX.same (v := .agg #[.int .i64 0, .slice none 0 0, .slice none 0 0, .slice none 0 0]) (S.at_ 0 rfl) rfl ?_
    exact FinX.here S.le.len ⟨_, [], rfl, ODouble.zero _ _, S.le⟩
  have h1 : dOk x = true := by simpa using h1
  rw [if_pos h1]
  have hd := (dOk_mk h1).toDShape
  refine LoadX.same (v := vD x P) (S.at_ 1 rfl) rfl ?_
  refine CallX.same (transposedN_c _ _ x (qx.reads S.le) hd) ?_
  rintro r g' ⟨P', l, rfl, ho, L⟩
  have S := S.tree ODouble.fr ho L
  clear ho
  refine S.put 1 rfl fun g S => ?_
  refine LoadX.same (v := vD (flipD x) P') (S.at_ 1 rfl) rfl ?_
  obtain ⟨l, t⟩ := S.tre 0 rfl
  exact FinX.here S.le.len ⟨_, l, rfl, t, S.le⟩

end Go.Gl

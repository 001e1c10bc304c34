/- Chapter 7: torsion and Bockstein numbers. No condition. -/
import Derived.Test.YtbjohihngoghlaaFnH1
import Derived.Test.YtbjohihngoghlaaPlB
set_option linter.unusedVariables false
set_option linter.unusedSimpArgs false
namespace Go.Gl
open Go.Proofs Go.Proofs.Ytbjohihngoghlaa Go.Pl

/-! ### reading a list of Torsion -/
theorem CT.load {h g : AH} {b o : Nat} {xs : List STor} (hc : CN 2 ET h b o xs) (hl : Le h g) {i : TI} {k a : Nat} (hk : k < xs.length) {K : Value → Prop}
    (hK : ∀ b' o', RI h (.slice (some ⟨b', o', none⟩) (tor xs k).parts.length 0) (tor xs k).parts → K (.agg #[.int .i64 (tor xs k).free, .slice (some ⟨b', o', none⟩) (tor xs k).parts.length 0])) (ha : a = o + mulE k 2 := by rfl) (hi : i.agg = true := by rfl) (hs : i.size = 2 := by rfl) : LoadX g i b a K := by
  obtain ⟨blk, us, h1, h2, h3, v, rfl, h4⟩ := hc k _ (tor_get hk)
  obtain ⟨b', o', k1, h5⟩ := h4.can
  subst ha
  refine LoadX.one (hl.at_ _ _ h1) ?_ (Wk.agg (.cons (Wk.refl _) (.cons k1 .nil))) (hK b' o' h5)
  unfold ldv
  rw [hi, hs, h3]
  simp
theorem CT.free {h g : AH} {b o : Nat} {xs : List STor} (hc : CN 2 ET h b o xs) (hl : Le h g) {i : TI} {k a : Nat} (hk : k < xs.length) {K : Value → Prop} (hK : K (.int .i64 (tor xs k).free)) (ha : a = o + mulE k 2 + 0 := by rfl) (hi : i.agg = false := by rfl) : LoadX g i b a K :=
  hc.field hl (tor_get hk) (by omega) (fun us _ ⟨v, e, _⟩ => by subst e; rfl) hK ha hi
theorem CT.parts {h g : AH} {b o : Nat} {xs : List STor} (hc : CN 2 ET h b o xs) (hl : Le h g) {i : TI} {k a : Nat} (hk : k < xs.length) {K : Value → Prop}
    (hK : ∀ b' o', RI h (.slice (some ⟨b', o', none⟩) (tor xs k).parts.length 0) (tor xs k).parts → K (.slice (some ⟨b', o', none⟩) (tor xs k).parts.length 0)) (ha : a = o + mulE k 2 + 1 := by rfl) (hi : i.agg = false := by rfl) : LoadX g i b a K := by
  obtain ⟨blk, us, h1, h2, h3, v, rfl, h4⟩ := hc k _ (tor_get hk)
  obtain ⟨b', o', k1, h5⟩ := h4.can
  subst ha
  refine LoadX.one (hl.at_ _ _ h1) ?_ k1 (hK b' o' h5)
  unfold ldv
  rw [hi]
  have : ((blk.cells.drop (o + mulE k 2)).take 2)[1]? = some v := by rw [h3]; rfl
  rw [List.getElem?_take, if_pos (by omega), List.getElem?_drop] at this
  exact this

/-! ### plain law -/
structure TorOk (t : STor) : Prop where
  few : t.parts.length ≤ 6
  free : -100 ≤ t.free ∧ t.free ≤ 100
  pos : ∀ s ∈ t.parts, 1 ≤ s
  prod : prd t.parts ≤ 24794911296
structure TorsOk (xs : List STor) : Prop where
  len : xs.length ≤ 6
  el : ∀ i, TorOk (tor xs i)
theorem homol_ok {x : SWhole} (hx : wholeOk x = true) : TorsOk (homol x) := by
  have hh := wholeOk_head hx
  refine ⟨by unfold homol; rw [homN_length]; exact hh.hi, fun i => ?_⟩
  by_cases hi : i < x.dims.length
  · rw [homol_tor hi]
    have l1 := smAt_len hx i
    have l2 := fromAt_len hx i
    have fd := hh.dims i
    obtain ⟨o1, o2⟩ := smAt_ok hx i
    refine ⟨Nat.le_trans (List.length_filter_le _ _) l1, ?_, fun s hs => o1 s ((List.mem_filter.1 hs).1), Int.le_trans (prd_filter o1) o2⟩
    simp only [torAt]
    omega
  · have : tor (homol x) i = ⟨0, []⟩ := by simp [tor, homol, homN, hi]
    rw [this]
    exact ⟨by simp, by simp, fun s hs => (by cases hs), by simp [prd]⟩
def pwi (p : Int) : Nat → Int
  | 0 => 1
  | n + 1 => pwi p n * p
theorem pwi_mono {p : Int} (hp : 2 ≤ p ∧ p ≤ 7) : ∀ n, 1 ≤ pwi p n ∧ pwi p n ≤ pwi 7 n
  | 0 => by simp [pwi]
  | n + 1 => by
    have := pwi_mono hp n
    have h1 : 1 * 1 ≤ pwi p n * p := Int.mul_le_mul this.1 (by omega) (by omega) (by omega)
    have h2 : pwi p n * p ≤ pwi 7 n * 7 := Int.mul_le_mul this.2 hp.2 (by omega) (by omega)
    exact ⟨by simpa [pwi] using h1, by simpa [pwi] using h2⟩
theorem pwi_rng {p : Int} (hp : IsP p) {n : Nat} (hn : n ≤ 10) : 1 ≤ pwi p n ∧ pwi p n ≤ 282475249 := by
  have h1 := pwi_mono hp.rng n
  have h2 : ∀ k : Fin 11, pwi 7 k ≤ 282475249 := by decide
  have := h2 ⟨n, by omega⟩
  exact ⟨h1.1, Int.le_trans h1.2 this⟩
def dvq (q s : Int) : Bool := decide (s % q = 0)
def divN (parts : List Int) (q : Int) : Nat := (parts.filter (dvq q)).length
theorem divN_le (parts : List Int) (q : Int) : divN parts q ≤ parts.length := List.length_filter_le _ _
def bsOwn (xs : List STor) (q : Int) (n : Nat) : Int := (tor xs n).free + divN (tor xs n).parts q + (if n = 0 then 0 else (divN (tor xs (n - 1)).parts q : Int))
def bsPage (xs : List STor) (q : Int) : List Int := tab xs.length (bsOwn xs q)
def frees (xs : List STor) : List Int := tab xs.length fun n => (tor xs n).free
def noDiv (xs : List STor) (q : Int) (n : Nat) : Bool := allN (fun i => decide (divN (tor xs i).parts q = 0)) n
theorem page_frees (xs : List STor) (q : Int) : decide (bsPage xs q = frees xs) = noDiv xs q xs.length := by
  rw [Bool.eq_iff_iff, decide_eq_true_eq]
  constructor
  · intro h
    refine allN_mk fun i hi => ?_
    have := congrArg (fun l => ith l i) h
    simp only [bsPage, frees, tab_ith hi, bsOwn] at this
    have h2 : (0 : Int) ≤ (if i = 0 then 0 else (divN (tor xs (i - 1)).parts q : Int)) := by split <;> omega
    rw [decide_eq_true_eq]
    omega
  · intro h
    refine tab_congr fun i hi => ?_
    have h1 := of_decide_eq_true (allN_at h hi)
    unfold bsOwn
    rw [h1]
    split
    · simp
    · have h2 := of_decide_eq_true (allN_at h (show i - 1 < xs.length by omega))
      rw [h2]; simp
def lastOk (xs : List STor) (p : Int) (k : Nat) : Bool := noDiv xs (pwi p (k + 1)) xs.length
def lastB (x : SWhole) (p : Int) : Int × Int :=
  if wholeOk x then if prime p then match (List.range 10).find? (lastOk (homol x) p) with
    | some k => (((k + 1 : Nat) : Int), 0)
    | none => (0, 3) else (0, 2) else (0, 1)
theorem find_some {f : Nat → Bool} {n k : Nat} (hk : k < n) (h1 : allN (fun i => !f i) k = true) (h2 : f k = true) : (List.range n).find? f = some k :=
  List.find?_range_eq_some.2 ⟨h2, List.mem_range.2 hk, fun j hj => allN_at h1 hj⟩
theorem find_none {f : Nat → Bool} {n : Nat} (h1 : allN (fun i => !f i) n = true) : (List.range n).find? f = none :=
  List.find?_range_eq_none.2 fun j hj => allN_at h1 hj
def bockN (x : SWhole) (p r : Int) : List Int × Int := if wholeOk x then if prime p && decide (1 ≤ r ∧ r ≤ 10) then (bsPage (homol x) (pwi p r.toNat), 0) else ([], 2) else ([], 1)
def lastP (parts : List Int) : Int := if parts = [] then 1 else ith parts (parts.length - 1)
def torsOf (φ : List Int → Int) (x : SWhole) : List Int × Int := if wholeOk x then (tab (homol x).length fun i => φ (tor (homol x) i).parts, 0) else ([], 1)
theorem torsOf_cn (φ : List Int → Int) (x : SWhole) : cnI (torsOf φ x).1 ≤ 100 := by
  unfold torsOf
  split
  · rename_i h
    have := (homol_ok h).len
    simp only [cnI, tab_length]; omega
  · simp [cnI]
theorem bockN_cn (x : SWhole) (p r : Int) : cnI (bockN x p r).1 ≤ 100 := by
  unfold bockN
  split
  · rename_i h
    have := (homol_ok h).len
    split
    · simp only [cnI, bsPage, tab_length]; omega
    · simp [cnI]
  · simp [cnI]


theorem l07Homology_c (h : AH) (v : Value) (x : SWhole) (hx : RWhole h v x) (hk : wholeOk x = true) : ACalls Try.prog 71 [v] h (ShownN 2 ET h (homol x)) := by
  obtain ⟨b1, o1, b2, o2, kx, qx⟩ := hx.can
  refine ACalls.shownN (ACalls.wk (args' := [.agg #[.slice (some ⟨b1, o1, none⟩) x.dims.length 0, .slice (some ⟨b2, o2, none⟩) x.maps.length 0]]) ?_ (.cons kx .nil))
  refine ACalls.of Tt.tab Try.func71 rfl (by kernel_rfl) Try.ntmps71 _ rfl rfl (fun hw => ?_)
  have S := Sep.start h
  have c1 := RS.cells qx.1 rfl
  have c2 := RS.cells qx.2 rfl
  have hh := wholeOk_head hk
  have hlo := hh.lo
  have hhi := hh.hi
  have hlen := hh.len
  refine S.new fun b3 g S => ?_
  have hb := S.at_ 0 rfl
  have hg := S.le
  have hnl := S.nl
  have T := S.freeze
  clear S
  refine T.new fun b4 g2 T => ?_
  have T := T.bx_rc 0 (k := 0) rfl rfl
  refine ⟨⟨[1, 2, 3, 4, 5], fun n' vs g3 => ∃ (i b4 : Nat) (cells : List Value) (M : Nat → Prop) (hb' : AH), n' = x.dims.length - i ∧ i ≤ x.dims.length ∧ Le g hb' ∧ SepM M h.length hb' g3 [.rc 114 2 h.length (.slice (some ⟨b4, 0, none⟩) i 1) i cells] ∧ TellN 2 ET (fresh h.length hb') cells (homN x i) ∧
    vs = [.pointer (some ⟨b3, 0, none⟩), .slice none 0 0, .slice (some ⟨b4, 0, none⟩) i 1, .int .i64 (fromAt x i).length, .int .i64 i], _, ⟨0, b4, [], _, _, rfl, Nat.zero_le _, Le.refl _, T, TellN.nil _, rfl⟩, ?_⟩⟩
  rintro n' vs g3 ⟨i, b5, cells, M, hb', rfl, hi, L, S, ht, rfl⟩
  have L3 := (hg.trans L).trans S.le
  have d3 := (L.trans S.le).at_ _ _ hb
  refine LoadX.same (v := .slice (some ⟨b1, o1, none⟩) x.dims.length 0) d3 rfl ?_
  refine BIf.mk (fun h2 => ?_) (fun h2 => ?_)
  · have hlt : i < x.dims.length := by simpa using h2
    have fd := hh.dims i
    have l1 := smAt_len hk i
    have l2 := fromAt_len hk i
    have e1 : fromAt x (i + 1) = smAt x i := by unfold fromAt; rw [if_neg (by omega), Nat.add_sub_cancel]
    refine LoadX.same (v := .slice (some ⟨b1, o1, none⟩) x.dims.length 0) d3 rfl ?_
    refine IdxX.mk (by omega) (by omega) ?_
    refine c1.ith L3 hlt ?_
    refine WR.i64 ?_
    refine S.new fun b6 g S => ?_
    refine S.new fun b7 g S => ?_
    refine S.new fun b8 g S => ?_
    refine S.put 0 rfl fun g S => ?_
    have S := S.bx_rc 2 (k := 0) rfl rfl
    have L4 := (hg.trans L).trans S.le
    have d4 := (L.trans S.le).at_ _ _ hb
    refine WR.i64 ?_
    refine LoadX.same (v := .slice (some ⟨b1, o1, none⟩) x.dims.length 0) d4 rfl ?_
    refine BIf.mk (fun h3 => ?_) (fun h3 => ?_)
    · have h3 : i < x.maps.length := by simp at h3; omega
      have e2 : smAt x i = smith (mat x.maps i) := if_pos h3
      refine LoadX.same (v := .slice (some ⟨b2, o2, none⟩) x.maps.length 0) d4 rfl ?_
      refine IdxX.mk (by omega) (by omega) ?_
      refine c2.mat L4 h3 fun b9 o9 h9 => ?_
      refine S.made OI.fr (l07Smith_c _ _ (mat x.maps i) (RII.le _ _ _ _ L4 h9) (wmatOf hk h3)) fun b9 o9 g S => ?_
      rw [← e2] at S ⊢
      refine LoadX.same (v := .int .i64 (ith x.dims i - (fromAt x i).length)) (S.at_ 1 rfl) rfl ?_
      refine WR.i64 ?_
      refine S.put 1 rfl fun g S => ?_
      have S := S.drop 2
      refine ⟨⟨[1, 2, 3, 4, 5, 6, 7, 8], fun n' vs g3 => ∃ (j k b6 : Nat), n' = (smAt x i).length - j ∧ j ≤ (smAt x i).length ∧ k ≤ j ∧ SepM M h.length hb' g3 [.tr OI.fr h.length (.slice (some ⟨b9, o9, none⟩) (smAt x i).length 0) (smAt x i), .bx b8 114 2 [.int .i64 (ith x.dims i - (fromAt x i).length - (smAt x i).length), .slice (some ⟨b6, 0, none⟩) k 1], .rc tI 1 h.length (.slice (some ⟨b6, 0, none⟩) k 1) k ((((smAt x i).take j).filter big1).map (.int .i64)), .rc 114 2 h.length (.slice (some ⟨b5, 0, none⟩) i 1) i cells] ∧
        vs = [.pointer (some ⟨b3, 0, none⟩), .slice none 0 0, .slice (some ⟨b5, 0, none⟩) i 1, .int .i64 (smAt x i).length, .int .i64 i, .pointer (some ⟨b8, 0, none⟩), .slice (some ⟨b9, o9, none⟩) (smAt x i).length 0, .int .i64 j], _, ⟨0, 0, b6, rfl, Nat.zero_le _, Nat.le_refl _, S, rfl⟩, ?_⟩⟩
      rintro n' vs g3 ⟨j, k, b6, rfl, hj, hkj, S, rfl⟩
      have cI : CS EI g3 b9 o9 (smAt x i) := S.cellsI 0 rfl
      refine BIf.mk (fun h3 => ?_) (fun h3 => ?_)
      · have h3 : j < (smAt x i).length := by simpa using h3
        have hf := filter_take (p := big1) h3
        refine IdxX.mk (by omega) (by omega) ?_
        refine cI.ith (Le.refl _) h3 ?_
        refine BIf.mk (fun h4 => ?_) (fun h4 => ?_)
        · have h4 : ith (smAt x i) j > 1 := by simpa using h4
          rw [show big1 (ith (smAt x i) j) = true from decide_eq_true h4, if_pos rfl] at hf
          refine DrawX.of Tt.tab follows_any [6] [7, 9] [0, 1, 2, 3, 4, 5, 6, 7, 8, 9] rfl (by kernel_rfl) (by kernel_rfl) ?_
          refine LoadX.same (v := .slice (some ⟨b6, 0, none⟩) k 1) (S.at_ 1 rfl) rfl ?_
          refine IdxX.mk (by omega) (by omega) ?_
          refine cI.ith (Le.refl _) h3 ?_
          refine S.newL fun b10 g L S => ?_
          refine ⟨L, ?_⟩
          refine S.app 2 rfl rfl rfl (by omega) fun b11 g S => ?_
          refine S.put 1 rfl fun g S => ?_
          refine WR.i64 ?_
          exact ⟨(smAt x i).length - (j + 1), by omega, j + 1, k + 1, b11, rfl, h3, by omega, by rw [hf, List.map_append]; exact S, rfl⟩
        · have h4 : ¬ ith (smAt x i) j > 1 := by simpa using h4
          rw [show big1 (ith (smAt x i) j) = false from decide_eq_false h4, if_neg (by simp), List.append_nil] at hf
          refine WR.i64 ?_
          exact ⟨(smAt x i).length - (j + 1), by omega, j + 1, k, b6, rfl, h3, by omega, by rw [hf]; exact S, rfl⟩
      · have hj2 : j = (smAt x i).length := by simp at h3; omega
        subst hj2
        rw [List.take_length] at S
        refine LoadX.same (v := .agg #[.int .i64 (ith x.dims i - (fromAt x i).length - (smAt x i).length), .slice (some ⟨b6, 0, none⟩) k 1]) (S.at_ 1 rfl) rfl ?_
        refine S.new fun b9 g S => ?_
        refine S.app 3 rfl rfl rfl (by omega) fun b10 g S => ?_
        refine WR.i64 ?_
        obtain ⟨F, L1, S1, S2⟩ := S.alone 3 rfl
        have r1 : RI (fresh h.length (hide F g)) (.slice (some ⟨b6, 0, none⟩) k 1) ((smAt x i).filter big1) := S1.rdcF 2 rfl (by omega)
        refine ⟨x.dims.length - (i + 1), by omega, i + 1, b10, _, F, hide F g, rfl, hlt, L.trans L1, S2, ?_, by rw [e1]; rfl⟩
        rw [homN_succ]
        exact (ht.le ET.le (fresh_le L1)).snoc rfl ⟨_, rfl, r1⟩
    · have h3 : ¬ i < x.maps.length := by simp at h3; omega
      have e2 : smAt x i = [] := if_neg h3
      refine LoadX.same (v := .int .i64 (ith x.dims i - (fromAt x i).length)) (S.at_ 0 rfl) rfl ?_
      refine WR.as (r := ith x.dims i - (fromAt x i).length) (by simp) ?_
      refine S.put 0 rfl fun g S => ?_
      refine ⟨⟨[1, 2, 3, 4, 5, 6, 7, 8], fun n' vs g4 => n' = 0 ∧ g4 = g ∧
        vs = [.pointer (some ⟨b3, 0, none⟩), .slice none 0 0, .slice (some ⟨b5, 0, none⟩) i 1, .int .i64 0, .int .i64 i, .pointer (some ⟨b8, 0, none⟩), .slice (some ⟨b7, 0, none⟩) 0 1, .int .i64 0], _, ⟨rfl, rfl, rfl⟩, ?_⟩⟩
      rintro n' vs g4 ⟨rfl, rfl, rfl⟩
      refine BIf.no rfl ?_
      refine LoadX.same (v := .agg #[.int .i64 (ith x.dims i - (fromAt x i).length), .slice (some ⟨b6, 0, none⟩) 0 1]) (S.at_ 0 rfl) rfl ?_
      refine S.new fun b9 g S => ?_
      refine S.app 3 rfl rfl rfl (by omega) fun b10 g S => ?_
      refine WR.i64 ?_
      obtain ⟨F, L1, S1, S2⟩ := S.alone 3 rfl
      have r1 : RI (fresh h.length (hide F g)) (.slice (some ⟨b6, 0, none⟩) 0 1) [] := S1.rdcF 2 rfl (by omega)
      refine ⟨x.dims.length - (i + 1), by omega, i + 1, b10, _, F, hide F g, rfl, hlt, L.trans L1, S2, ?_, by rw [e1, e2]; rfl⟩
      rw [homN_succ]
      have eT : ET (fresh h.length (hide F g)) [.int .i64 (ith x.dims i - (fromAt x i).length), .slice (some ⟨b6, 0, none⟩) 0 1] (torAt x i) := by
        refine ⟨.slice (some ⟨b6, 0, none⟩) 0 1, ?_, ?_⟩
        · simp only [torAt, e2]; simp
        · simp only [torAt, e2]; exact r1
      exact (ht.le ET.le (fresh_le L1)).snoc (us := [.int .i64 (ith x.dims i - (fromAt x i).length), .slice (some ⟨b6, 0, none⟩) 0 1]) rfl eT
  · have hi2 : i = x.dims.length := by simp at h2; omega
    subst hi2
    have R := S.rdNF (E := ET) 0 rfl (ht.le ET.le (fresh_le S.le)) (by omega)
    exact FinX.here L3.len ⟨R, L3⟩

end Go.Gl

/- Chapter 9: ComplexOfBars, the reference's side. No condition. -/
import Derived.Test.YtbjohihngoghlaaFnBar2
import Derived.Test.YtbjohihngoghlaaFnA2
import Derived.Test.YtbjohihngoghlaaPlQ
set_option linter.unusedVariables false
set_option linter.unusedSimpArgs false
namespace Go.Gl
open Go.Proofs Go.Proofs.Ytbjohihngoghlaa Go.Pl

def noFiltered : SFiltered := ⟨⟨0, [], []⟩, []⟩
def cbOk (p top : Int) (L : List SBar) : Bool := prime p && decide (0 ≤ top ∧ top ≤ 5) && areBars L
def cbR (p top : Int) (L : List SBar) : SFiltered × Int :=
  if cbOk p top L then if fitsB L top then if smallB L top.toNat then (⟨⟨p, cbDims L top.toNat, cbMaps L top.toNat⟩, levels L top.toNat⟩, 0) else (noFiltered, 3) else (noFiltered, 2) else (noFiltered, 2)
theorem OFiltered.zero (h : AH) (n : Nat) : OFiltered n h (.agg #[.int .i64 0, .slice none 0 0, .slice none 0 0, .slice none 0 0]) noFiltered [] :=
  ⟨_, _, _, rfl, [], [], ⟨[], [], ⟨by simp [noFiltered], .inl ⟨rfl, rfl, Wk.nil _⟩⟩, ⟨by simp [noFiltered], 0, 0, [], [], Wk.nil _, Row.nil _ _ _, rfl, .inl rfl⟩, rfl, by simp⟩, ⟨by simp [noFiltered], 0, 0, [], [], Wk.nil _, Row.nil _ _ _, rfl, .inl rfl⟩, rfl, by simp⟩
theorem SepM.finF {h0 h : AH} {Rs : List Res} {x : SFiltered} {v1 v2 v3 : Value} (S : Sep h0.length h0 h (.tr OI.fr h0.length v1 x.complex.dims :: .tr OIII.fr h0.length v2 x.complex.maps :: .tr OII.fr h0.length v3 x.levels :: Rs)) :
    ∃ l, OFiltered h0.length h (.agg #[.int .i64 x.complex.prime, v1, v2, v3]) x l := by
  obtain ⟨l1, l2, l3, a1, a2, a3, hd⟩ := S.three
  have hd2 := hd
  rw [List.nodup_append, List.nodup_append] at hd
  refine ⟨_, _, _, _, rfl, l1 ++ l2, l3, ⟨l1, l2, a1, a2, rfl, ?_⟩, a3, rfl, by rw [List.append_assoc]; exact hd2⟩
  rw [List.nodup_append]
  exact ⟨hd.1, hd.2.1.1, fun i hi j hj => hd.2.2 i hi j (List.mem_append_left _ hj)⟩
/-! ### a degree's rows -/
def blw (L : List SBar) : Nat → Nat
  | 0 => 0
  | m + 1 => (lev L m).length
def zt (m : Nat) : List Int := tab m fun _ => 0
theorem lev_eq {L : List SBar} (hb0 : ∀ i, i < L.length → 0 ≤ (bar L i).degree) (n : Nat) : lev L n = bN L n L.length ++ dN L ((n : Int) - 1) L.length := by
  cases n with
  | zero =>
    have : ∀ t, t ≤ L.length → dN L (((0 : Nat) : Int) - 1) t = [] := by
      intro t
      induction t with
      | zero => intro _; rfl
      | succ t ih =>
        intro ht
        have := hb0 t (by omega)
        unfold dN
        rw [if_neg (by omega)]
        exact ih (by omega)
    rw [this _ (Nat.le_refl _)]
    rfl
  | succ m =>
    rw [show (((m + 1 : Nat) : Int)) - 1 = (m : Int) by omega]
    rfl
theorem sN_le_lev (L : List SBar) (n : Nat) : sN L n L.length ≤ (lev L n).length := by
  unfold lev levT
  rw [List.length_append, bN_len]
  omega
theorem cbMap_rows (L : List SBar) (m : Nat) : List.replicate (sN L ((m : Int) + 1) L.length) (zt (lev L m).length) ++ (pN L m L.length).map (unitv (lev L m).length) = cbMap L m := by
  have hl : (lev L (m + 1)).length = sN L ((m : Int) + 1) L.length + (pN L m L.length).length := by
    show (bN L ((m + 1 : Nat) : Int) L.length ++ dN L m L.length).length = _
    rw [List.length_append, bN_len, pN_len, show ((m + 1 : Nat) : Int) = (m : Int) + 1 by omega]
  unfold cbMap
  refine List.ext_getElem (by rw [tabR_length, hl]; simp) fun r h1 h2 => ?_
  have e : (tabR (lev L (m + 1)).length (cbRow L m))[r] = cbRow L m r := by simp [tabR]
  rw [e]
  rw [tabR_length] at h2
  by_cases hr : r < sN L ((m : Int) + 1) L.length
  · rw [List.getElem_append_left (by simpa using hr), List.getElem_replicate]
    unfold zt cbRow
    exact tab_congr fun i _ => by unfold cbOne; rw [if_neg (by omega)]
  · rw [List.getElem_append_right (by simpa using hr), List.getElem_map]
    unfold unitv cbRow
    refine tab_congr fun i _ => ?_
    unfold cbOne
    have hq : r - sN L ((m : Int) + 1) L.length < (pN L m L.length).length := by omega
    rw [List.getElem?_eq_getElem hq]
    simp only [List.length_replicate, Option.some.injEq]
    by_cases he : i = (pN L m L.length)[r - sN L ((m : Int) + 1) L.length]
    · rw [if_pos he, if_pos ⟨by omega, he.symm⟩]
    · rw [if_neg he, if_neg (fun hh => he hh.2.symm)]
theorem zeros_zt (k : Nat) : (List.replicate k [Value.int .i64 0]).flatten = (zt k).map (.int .i64) := zeros_tab k
theorem fitB_iff {top : Int} {b : SBar} : fitB top b = true ↔ b.degree ≤ top ∧ ¬ (0 ≤ b.death ∧ b.degree = top) := by
  unfold fitB
  simp only [Bool.and_eq_true, decide_eq_true_eq, Bool.not_eq_true', Bool.and_eq_false_iff, decide_eq_false_iff_not]
  omega

set_option maxHeartbeats 4000000 in
theorem complexBS_c (h : AH) (p top : Int) (v : Value) (L : List SBar) (hx : RB h v L) : ACalls Try.prog 24 [.int .i64 p, .int .i64 top, v] h (fun r h' => ∃ v l, r = .tuple #[v, .int .i64 (cbR p top L).2] ∧ OFiltered h.length h' v (cbR p top L).1 l ∧ Le h h') := by
  obtain ⟨b1, o1, k1, hx⟩ := hx.can
  refine ACalls.wk (args' := [.int .i64 p, .int .i64 top, .slice (some ⟨b1, o1, none⟩) L.length 0]) ?_ (.cons (Wk.refl _) (.cons (Wk.refl _) (.cons k1 .nil)))
  refine ACalls.of Tt.tab Try.func24 rfl (by kernel_rfl) Try.ntmps24 _ rfl rfl (fun hw => ?_)
  have S := Sep.start h
  have c1 : CN 3 EB h b1 o1 L := RN.cells hx rfl
  have bad : ∀ (c : Int) (g : AH) (b2 : Nat), (cbR p top L) = (noFiltered, c) → Sep h.length h g [.bx b2 43 4 [.int .i64 0, .slice none 0 0, .slice none 0 0, .slice none 0 0]] → FinX h (fun r h' => ∃ v l, r = .tuple #[v, .int .i64 (cbR p top L).2] ∧ OFiltered h.length h' v (cbR p top L).1 l ∧ Le h h') (.tuple #[.agg #[.int .i64 0, .slice none 0 0, .slice none 0 0, .slice none 0 0], .int .i64 c]) g := fun c g b2 e S => by
    rw [e]
    exact FinX.here S.le.len ⟨_, [], rfl, OFiltered.zero _ _, S.le⟩
  refine S.new fun b2 g S => ?_
  refine CallX.same (l01Prime_c g p) ?_
  rintro r g ⟨rfl, rfl⟩
  refine BIf.mk (fun e1 => ?_) (fun e1 => ?_)
  · have e1 : prime p = false := by simpa using e1
    refine BIf.yes rfl (BIf.yes rfl ?_)
    refine S.put 0 rfl fun g S => ?_
    refine LoadX.same (v := .agg #[.int .i64 0, .slice none 0 0, .slice none 0 0, .slice none 0 0]) (S.at_ 0 rfl) rfl ?_
    exact bad 2 _ b2 (by unfold cbR cbOk; rw [e1]; rfl) S
  have e1 : prime p = true := by simpa using e1
  refine CallX.same (l01In_c _ top 0 5) ?_
  rintro r g ⟨rfl, rfl⟩
  refine BIf.mk (fun e2 => ?_) (fun e2 => ?_)
  · have e2 : decide (0 ≤ top ∧ top ≤ 5) = false := by simpa only [Bool.not_eq_true'] using e2
    refine BIf.yes rfl ?_
    refine S.put 0 rfl fun g S => ?_
    refine LoadX.same (v := .agg #[.int .i64 0, .slice none 0 0, .slice none 0 0, .slice none 0 0]) (S.at_ 0 rfl) rfl ?_
    exact bad 2 _ b2 (by unfold cbR cbOk; rw [e1, e2]; rfl) S
  have e2 : decide (0 ≤ top ∧ top ≤ 5) = true := by simpa only [Bool.not_eq_false'] using e2
  refine CallX.same (l09Are_c _ _ L (RB.le _ _ _ _ S.le hx)) ?_
  rintro r g ⟨rfl, rfl⟩
  refine BIf.mk (fun e3 => ?_) (fun e3 => ?_)
  · have e3 : areBars L = false := by simpa using e3
    refine S.put 0 rfl fun g S => ?_
    refine LoadX.same (v := .agg #[.int .i64 0, .slice none 0 0, .slice none 0 0, .slice none 0 0]) (S.at_ 0 rfl) rfl ?_
    exact bad 2 _ b2 (by unfold cbR cbOk; rw [e1, e2, e3]; rfl) S
  have e3 : areBars L = true := by simpa using e3
  have hok : cbOk p top L = true := by unfold cbOk; rw [e1, e2, e3]; rfl
  have htop : 0 ≤ top ∧ top ≤ 5 := by simpa using e2
  obtain ⟨T, rfl⟩ : ∃ T : Nat, top = T := ⟨top.toNat, by omega⟩
  have hL := areBars_len e3
  have hpr := prime_rng e1
  refine ⟨⟨[0, 1, 2, 6, 8], fun n' vs g => ∃ k : Nat, n' = L.length - k ∧ k ≤ L.length ∧ Sep h.length h g [.bx b2 43 4 [.int .i64 0, .slice none 0 0, .slice none 0 0, .slice none 0 0]] ∧ allN (fun i => fitB T (bar L i)) k = true ∧
    vs = [.int .i64 p, .int .i64 T, .slice (some ⟨b1, o1, none⟩) L.length 0, .pointer (some ⟨b2, 0, none⟩), .int .i64 k], _, ⟨0, rfl, Nat.zero_le _, S, rfl, rfl⟩, ?_⟩⟩
  clear S
  rintro n' vs g ⟨k, rfl, hk, S, hf, rfl⟩
  refine BIf.mk (fun h2 => ?_) (fun h2 => ?_)
  · have hlt : k < L.length := by simpa using h2
    have no : fitB T (bar L k) = false → ∀ g, Sep h.length h g [.bx b2 43 4 [.int .i64 0, .slice none 0 0, .slice none 0 0, .slice none 0 0]] → FinX h (fun r h' => ∃ v l, r = .tuple #[v, .int .i64 (cbR p T L).2] ∧ OFiltered h.length h' v (cbR p T L).1 l ∧ Le h h') (.tuple #[.agg #[.int .i64 0, .slice none 0 0, .slice none 0 0, .slice none 0 0], .int .i64 2]) g := fun hh g S =>
      bad 2 g b2 (by unfold cbR; rw [hok, show fitsB L T = false from allN_false hlt hh]; rfl) S
    refine IdxX.mk (by omega) (by omega) ?_
    refine CB.load c1 S.le hlt ?_
    refine S.new fun b3 g S => ?_
    refine S.put 0 rfl fun g S => ?_
    refine LoadX.same (v := .int .i64 (bar L k).degree) (S.at_ 0 rfl) rfl ?_
    refine BIf.mk (fun h3 => ?_) (fun h3 => ?_)
    · have h3 : (T : Int) < (bar L k).degree := by simpa using h3
      refine BIf.yes rfl ?_
      refine S.put 1 rfl fun g S => ?_
      refine LoadX.same (v := .agg #[.int .i64 0, .slice none 0 0, .slice none 0 0, .slice none 0 0]) (S.at_ 1 rfl) rfl ?_
      exact no (by rw [← Bool.not_eq_true, fitB_iff]; omega) _ S.tail
    have h3 : (bar L k).degree ≤ (T : Int) := by simpa using h3
    refine LoadX.same (v := .int .i64 (bar L k).death) (S.at_ 0 rfl) rfl ?_
    have next : ∀ g, Sep h.length h g [.bx b3 121 3 [.int .i64 (bar L k).degree, .int .i64 (bar L k).birth, .int .i64 (bar L k).death], .bx b2 43 4 [.int .i64 0, .slice none 0 0, .slice none 0 0, .slice none 0 0]] → fitB T (bar L k) = true → ∃ n', n' < L.length - k ∧ ∃ k2 : Nat, n' = L.length - k2 ∧ k2 ≤ L.length ∧ Sep h.length h g [.bx b2 43 4 [.int .i64 0, .slice none 0 0, .slice none 0 0, .slice none 0 0]] ∧ allN (fun i => fitB T (bar L i)) k2 = true ∧
      ([.int .i64 p, .int .i64 T, .slice (some ⟨b1, o1, none⟩) L.length 0, .pointer (some ⟨b2, 0, none⟩), .int .i64 ((k : Int) + 1)] : List Value) = [.int .i64 p, .int .i64 T, .slice (some ⟨b1, o1, none⟩) L.length 0, .pointer (some ⟨b2, 0, none⟩), .int .i64 k2] := fun g S hh =>
      ⟨L.length - (k + 1), by omega, k + 1, rfl, hlt, S.tail, by rw [allN_succ, hf, hh]; rfl, rfl⟩
    refine BIf.mk (fun h4 => ?_) (fun h4 => ?_)
    · have h4 : 0 ≤ (bar L k).death := by simpa using h4
      refine LoadX.same (v := .int .i64 (bar L k).degree) (S.at_ 0 rfl) rfl ?_
      refine BIf.mk (fun h5 => ?_) (fun h5 => ?_)
      · have h5 : (bar L k).degree = (T : Int) := by simpa using h5
        refine S.put 1 rfl fun g S => ?_
        refine LoadX.same (v := .agg #[.int .i64 0, .slice none 0 0, .slice none 0 0, .slice none 0 0]) (S.at_ 1 rfl) rfl ?_
        exact no (by rw [← Bool.not_eq_true, fitB_iff]; omega) _ S.tail
      · have h5 : ¬ (bar L k).degree = (T : Int) := by simpa using h5
        refine WR.i64 ?_
        exact next _ S (fitB_iff.2 ⟨h3, fun hh => h5 hh.2⟩)
    · have h4 : ¬ 0 ≤ (bar L k).death := by simpa using h4
      refine BIf.no rfl ?_
      refine WR.i64 ?_
      exact next _ S (fitB_iff.2 ⟨h3, fun hh => h4 hh.1⟩)
  have hk2 : k = L.length := by simp at h2; omega
  subst hk2
  have hfit : fitsB L T = true := hf
  have hb0 : ∀ i, i < L.length → 0 ≤ (bar L i).degree := fun i hi => (areBars_bar e3 hi).1.1
  -- the result grows degree by degree
  refine S.new fun d1 g S => ?_
  have S := S.bx_rc 0 (k := 0) rfl rfl
  refine S.new fun d2 g S => ?_
  have S := S.bx_rw 0 OII.fr rfl
  refine S.new fun d3 g S => ?_
  have S := S.bx_rw 0 OI.fr rfl
  refine S.new fun b5 g S => ?_
  refine S.put 0 rfl fun g S => ?_
  refine ⟨⟨[1, 2, 6, 10, 11], fun n' vs g => ∃ (n d1 d2 d3 : Nat), n' = T + 1 - n ∧ n ≤ T + 1 ∧ allN (fun n => decide ((lev L n).length ≤ 8)) n = true ∧ Sep h.length h g [.bx b5 43 4 [.int .i64 p, .slice (some ⟨d1, 0, none⟩) n 1, .slice (some ⟨d2, 0, none⟩) (n - 1) 1, .slice (some ⟨d3, 0, none⟩) n 1], .rw OI.fr 22 h.length (.slice (some ⟨d3, 0, none⟩) n 1) n ((List.range n).map (lev L)), .rw OII.fr 41 h.length (.slice (some ⟨d2, 0, none⟩) (n - 1) 1) (n - 1) ((List.range (n - 1)).map (cbMap L)), .rc 2 1 h.length (.slice (some ⟨d1, 0, none⟩) n 1) n ((tab n fun n => ((lev L n).length : Int)).map (.int .i64)), .bx b2 43 4 [.int .i64 0, .slice none 0 0, .slice none 0 0, .slice none 0 0]] ∧
    vs = [.int .i64 T, .slice (some ⟨b1, o1, none⟩) L.length 0, .pointer (some ⟨b2, 0, none⟩), .pointer (some ⟨b5, 0, none⟩), .int .i64 n], _, ⟨0, d1, d2, d3, rfl, Nat.zero_le _, rfl, S, rfl⟩, ?_⟩⟩
  clear S
  rintro n' vs g ⟨n, d1, d2, d3, rfl, hn, hsm, S, rfl⟩
  refine BIf.mk (fun h2 => ?_) (fun h2 => ?_)
  · have hnl : n ≤ T := by simp at h2; omega
    refine S.new fun f1 g S => ?_
    have S := S.bx_rc 0 (k := 0) rfl rfl
    refine S.new fun f2 g S => ?_
    have S := S.bx_rw 0 OI.fr rfl
    have hbl8 : blw L n ≤ 8 := by
      cases n with
      | zero => exact Nat.zero_le _
      | succ m => show (lev L m).length ≤ 8; simpa using allN_at hsm (show m < m + 1 by omega)
    have hlev := lev_eq hb0 n
    refine BIf.mk (fun h3 => ?pos) (fun h3 => ?neg)
    case' pos =>
      have h3 : 0 < n := by simpa using h3
      have hbl : (0 : Nat) = 0 := rfl
      refine LoadX.same (v := .slice (some ⟨d1, 0, none⟩) n 1) (S.at_ 2 rfl) rfl ?_
      refine WR.as (r := ((n - 1 : Nat) : Int)) (by omega) ?_
      refine IdxX.mk (by omega) (by omega) ?_
      refine ((S.rdc 5 rfl (by omega)).cells1 (by rw [tab_length])).ith (Le.refl _) (show n - 1 < _ by rw [tab_length]; omega) ?_
      rw [tab_ith (show n - 1 < n by omega), show (((lev L (n - 1)).length : Nat) : Int) = ((blw L n : Nat) : Int) by (obtain ⟨m, rfl⟩ : ∃ m, n = m + 1 := ⟨n - 1, by omega⟩; rfl)]
    case' neg =>
      have h3 : n = 0 := by simp at h3; omega
      have hbl : blw L n = 0 := by subst h3; rfl
    all_goals (
      refine ⟨⟨[1, 2, 6, 10, 11, 12, 13, 14, 15], fun n' vs g => ∃ (i f1 f2 : Nat), n' = L.length - i ∧ i ≤ L.length ∧ Sep h.length h g [.rw OI.fr 22 h.length (.slice (some ⟨f2, 0, none⟩) (sN L n i) 1) (sN L n i) (List.replicate (sN L n i) (zt (blw L n))), .rc 2 1 h.length (.slice (some ⟨f1, 0, none⟩) (sN L n i) 1) (sN L n i) ((bN L n i).map (.int .i64)), .bx b5 43 4 [.int .i64 p, .slice (some ⟨d1, 0, none⟩) n 1, .slice (some ⟨d2, 0, none⟩) (n - 1) 1, .slice (some ⟨d3, 0, none⟩) n 1], .rw OI.fr 22 h.length (.slice (some ⟨d3, 0, none⟩) n 1) n ((List.range n).map (lev L)), .rw OII.fr 41 h.length (.slice (some ⟨d2, 0, none⟩) (n - 1) 1) (n - 1) ((List.range (n - 1)).map (cbMap L)), .rc 2 1 h.length (.slice (some ⟨d1, 0, none⟩) n 1) n ((tab n fun n => ((lev L n).length : Int)).map (.int .i64)), .bx b2 43 4 [.int .i64 0, .slice none 0 0, .slice none 0 0, .slice none 0 0]] ∧
        vs = [.int .i64 T, .slice (some ⟨b1, o1, none⟩) L.length 0, .pointer (some ⟨b2, 0, none⟩), .pointer (some ⟨b5, 0, none⟩), .int .i64 n, .slice (some ⟨f1, 0, none⟩) (sN L n i) 1, .slice (some ⟨f2, 0, none⟩) (sN L n i) 1, .int .i64 (blw L n), .int .i64 i], _, ⟨0, f1, f2, rfl, Nat.zero_le _, S, by first | rfl | (rw [hbl]; rfl)⟩, ?_⟩⟩
      clear S
      rintro n' vs g ⟨i, f1, f2, rfl, hi, S, rfl⟩
      have hsn := sN_le L n i
      refine BIf.mk (fun h4 => ?_) (fun h4 => ?_)
      · have hlt : i < L.length := by simpa using h4
        refine IdxX.mk (by omega) (by omega) ?_
        refine CB.degree c1 S.le hlt ?_
        refine BIf.mk (fun h5 => ?_) (fun h5 => ?_)
        · have h5 : (bar L i).degree = (n : Int) := by simpa using h5
          have s1 : sN L n (i + 1) = sN L n i + 1 := by show (if _ then _ else _) = _; rw [if_pos h5]
          have s2 : bN L n (i + 1) = bN L n i ++ [(bar L i).birth] := by show (if _ then _ else _) = _; rw [if_pos h5]
          refine IdxX.mk (by omega) (by omega) ?_
          refine CB.birth c1 S.le hlt ?_
          refine S.new fun f3 g S => ?_
          refine S.app (ie := Tt.ti2) 1 rfl rfl rfl (by omega) fun f1' g S => ?_
          refine ⟨by omega, rfl, by omega, by show ((blw L n : Nat) : Int) * (8 : Nat) ≤ _; omega, ?_⟩
          refine S.new fun f4 g S => ?_
          have S := S.recast 0 rfl (zeros_zt (blw L n))
          have S := S.bx_rc 0 (k := blw L n) rfl (by show ((zt (blw L n)).map _).length = blw L n * 1; simp [zt, tab_length])
          have S := S.rc_tr 0 rfl (by simp [zt, tab_length]; omega)
          refine S.new fun f5 g S => ?_
          refine S.appT 0 rfl rfl (by omega) fun f2' g S => ?_
          refine WR.i64 ?_
          refine ⟨L.length - (i + 1), by omega, i + 1, f1', f2', rfl, hlt, ?_, by rw [s1]; rfl⟩
          rw [s1, s2, List.map_append, List.replicate_succ']
          exact S
        · have h5 : ¬ (bar L i).degree = (n : Int) := by simpa using h5
          have s1 : sN L n (i + 1) = sN L n i := by show (if _ then _ else _) = _; rw [if_neg h5]
          have s2 : bN L n (i + 1) = bN L n i := by show (if _ then _ else _) = _; rw [if_neg h5]
          refine WR.i64 ?_
          refine ⟨L.length - (i + 1), by omega, i + 1, f1, f2, rfl, hlt, ?_, by rw [s1]; rfl⟩
          rw [s1, s2]
          exact S
      have hi2 : i = L.length := by simp at h4; omega
      subst hi2
      refine ⟨⟨[1, 2, 6, 10, 11, 12, 13, 14, 16, 17], fun n' vs g => ∃ (j f1 f2 : Nat), n' = L.length - j ∧ j ≤ L.length ∧ Sep h.length h g [.rw OI.fr 22 h.length (.slice (some ⟨f2, 0, none⟩) (sN L n L.length + (dN L ((n : Int) - 1) j).length) 1) (sN L n L.length + (dN L ((n : Int) - 1) j).length) (List.replicate (sN L n L.length) (zt (blw L n)) ++ (pN L ((n : Int) - 1) j).map (unitv (blw L n))), .rc 2 1 h.length (.slice (some ⟨f1, 0, none⟩) (sN L n L.length + (dN L ((n : Int) - 1) j).length) 1) (sN L n L.length + (dN L ((n : Int) - 1) j).length) ((bN L n L.length ++ dN L ((n : Int) - 1) j).map (.int .i64)), .bx b5 43 4 [.int .i64 p, .slice (some ⟨d1, 0, none⟩) n 1, .slice (some ⟨d2, 0, none⟩) (n - 1) 1, .slice (some ⟨d3, 0, none⟩) n 1], .rw OI.fr 22 h.length (.slice (some ⟨d3, 0, none⟩) n 1) n ((List.range n).map (lev L)), .rw OII.fr 41 h.length (.slice (some ⟨d2, 0, none⟩) (n - 1) 1) (n - 1) ((List.range (n - 1)).map (cbMap L)), .rc 2 1 h.length (.slice (some ⟨d1, 0, none⟩) n 1) n ((tab n fun n => ((lev L n).length : Int)).map (.int .i64)), .bx b2 43 4 [.int .i64 0, .slice none 0 0, .slice none 0 0, .slice none 0 0]] ∧
        vs = [.int .i64 T, .slice (some ⟨b1, o1, none⟩) L.length 0, .pointer (some ⟨b2, 0, none⟩), .pointer (some ⟨b5, 0, none⟩), .int .i64 n, .slice (some ⟨f1, 0, none⟩) (sN L n L.length + (dN L ((n : Int) - 1) j).length) 1, .slice (some ⟨f2, 0, none⟩) (sN L n L.length + (dN L ((n : Int) - 1) j).length) 1, .int .i64 (blw L n), .int .i64 (sN L ((n : Int) - 1) j), .int .i64 j], _, ⟨0, f1, f2, rfl, Nat.zero_le _, by simpa [dN, pN] using S, rfl⟩, ?_⟩⟩
      clear S
      rintro n' vs g ⟨j, f1, f2, rfl, hj, S, rfl⟩
      have hdn := dN_le L ((n : Int) - 1) j
      have hsj := sN_le L ((n : Int) - 1) j
      refine BIf.mk (fun h4 => ?_) (fun h4 => ?_)
      · have hlt : j < L.length := by simpa using h4
        refine IdxX.mk (by omega) (by omega) ?_
        refine CB.degree c1 S.le hlt ?_
        refine WR.i64 ?_
        refine BIf.mk (fun h5 => ?_) (fun h5 => ?_)
        · have h5 : ¬ (bar L j).degree = (n : Int) - 1 := by simpa using h5
          have s1 : sN L ((n : Int) - 1) (j + 1) = sN L ((n : Int) - 1) j := by show (if _ then _ else _) = _; rw [if_neg h5]
          have s2 : dN L ((n : Int) - 1) (j + 1) = dN L ((n : Int) - 1) j := by show (if _ then _ else _) = _; rw [if_neg (fun hh => h5 hh.1)]
          have s3 : pN L ((n : Int) - 1) (j + 1) = pN L ((n : Int) - 1) j := by show (if _ then _ else _) = _; rw [if_neg (fun hh => h5 hh.1)]
          refine WR.i64 ?_
          refine ⟨L.length - (j + 1), by omega, j + 1, f1, f2, rfl, hlt, ?_, by rw [s1, s2]; rfl⟩
          rw [s2, s3]
          exact S
        have h5 : (bar L j).degree = (n : Int) - 1 := by simpa using h5
        have s1 : sN L ((n : Int) - 1) (j + 1) = sN L ((n : Int) - 1) j + 1 := by show (if _ then _ else _) = _; rw [if_pos h5]
        refine IdxX.mk (by omega) (by omega) ?_
        refine CB.death c1 S.le hlt ?_
        refine BIf.mk (fun h6 => ?_) (fun h6 => ?_)
        · have h6 : 0 ≤ (bar L j).death := by simpa using h6
          have s2 : dN L ((n : Int) - 1) (j + 1) = dN L ((n : Int) - 1) j ++ [(bar L j).death] := by show (if _ then _ else _) = _; rw [if_pos ⟨h5, h6⟩]
          have s3 : pN L ((n : Int) - 1) (j + 1) = pN L ((n : Int) - 1) j ++ [sN L ((n : Int) - 1) j] := by show (if _ then _ else _) = _; rw [if_pos ⟨h5, h6⟩]
          have hat : sN L ((n : Int) - 1) j < blw L n := by
            have h0 := hb0 j hlt
            obtain ⟨m, rfl⟩ : ∃ m, n = m + 1 := ⟨n - 1, by omega⟩
            have e1 : ((m + 1 : Nat) : Int) - 1 = (m : Int) := by omega
            rw [e1] at s1 ⊢
            have e2 := sN_mono L (m : Int) (show j + 1 ≤ L.length from hlt)
            have e3 := sN_le_lev L m
            show _ < (lev L m).length
            omega
          refine ⟨by omega, rfl, by omega, by show ((blw L n : Nat) : Int) * (8 : Nat) ≤ _; omega, ?_⟩
          refine S.new fun f3 g S => ?_
          have S := S.recast 0 rfl (zeros_zt (blw L n))
          refine IdxX.mk (by omega) (by omega) ?_
          refine S.storeT 0 (m := blw L n) (f := fun _ => 0) (y := 1) rfl hat fun g S => ?_
          have S := S.recast 0 (cells' := (unitv (blw L n) (sN L ((n : Int) - 1) j)).map (.int .i64)) rfl rfl
          have S := S.bx_rc 0 (k := blw L n) rfl (by show ((unitv (blw L n) (sN L ((n : Int) - 1) j)).map _).length = blw L n * 1; simp [unitv, tab_length])
          have S := S.rc_tr 0 rfl (by simp [unitv, tab_length]; omega)
          refine IdxX.mk (by omega) (by omega) ?_
          refine CB.death c1 S.le hlt ?_
          refine S.new fun f4 g S => ?_
          refine S.app (ie := Tt.ti2) 2 rfl rfl rfl (by omega) fun f1' g S => ?_
          refine S.new fun f5 g S => ?_
          refine S.appT 0 rfl rfl (by omega) fun f2' g S => ?_
          refine WR.i64 ?_
          refine WR.i64 ?_
          refine ⟨L.length - (j + 1), by omega, j + 1, f1', f2', rfl, hlt, ?_, by rw [s1, s2, List.length_append]; rfl⟩
          rw [s2, s3, List.length_append, List.map_append, ← List.append_assoc, ← List.append_assoc, List.map_append (l₁ := bN L n L.length ++ _)]
          exact S
        · have h6 : ¬ 0 ≤ (bar L j).death := by simpa using h6
          have s2 : dN L ((n : Int) - 1) (j + 1) = dN L ((n : Int) - 1) j := by show (if _ then _ else _) = _; rw [if_neg (fun hh => h6 hh.2)]
          have s3 : pN L ((n : Int) - 1) (j + 1) = pN L ((n : Int) - 1) j := by show (if _ then _ else _) = _; rw [if_neg (fun hh => h6 hh.2)]
          refine WR.i64 ?_
          refine WR.i64 ?_
          refine ⟨L.length - (j + 1), by omega, j + 1, f1, f2, rfl, hlt, ?_, by rw [s1, s2]; rfl⟩
          rw [s2, s3]
          exact S
      have hj2 : j = L.length := by simp at h4; omega
      subst hj2
      have hq : sN L n L.length + (dN L ((n : Int) - 1) L.length).length = (lev L n).length := by rw [hlev, List.length_append, bN_len]
      rw [← hlev, hq] at S
      rw [hq]
      refine BIf.mk (fun h6 => ?_) (fun h6 => ?_)
      · have h6 : 8 < (lev L n).length := by simp at h6; omega
        refine S.put 6 rfl fun g S => ?_
        refine LoadX.same (v := .agg #[.int .i64 0, .slice none 0 0, .slice none 0 0, .slice none 0 0]) (S.at_ 6 rfl) rfl ?_
        refine bad 3 g b2 ?_ S.tail.tail.tail.tail.tail.tail
        unfold cbR
        rw [hok, hfit, Int.toNat_natCast, show smallB L T = false from allN_false (show n < T + 1 by omega) (by simpa using h6)]
        rfl
      have h6 : (lev L n).length ≤ 8 := by simp at h6; omega
      have S := S.rc_tr 1 rfl (by omega)
      have S := S.front 1 rfl
      refine LoadX.same (v := .slice (some ⟨d3, 0, none⟩) n 1) (S.at_ 2 rfl) rfl ?_
      refine S.new fun f3 g S => ?_
      refine S.appT 2 rfl rfl (by omega) fun d3' g S => ?_
      refine S.put 1 rfl fun g S => ?_
      refine LoadX.same (v := .slice (some ⟨d1, 0, none⟩) n 1) (S.at_ 1 rfl) rfl ?_
      refine S.new fun f4 g S => ?_
      refine S.app (ie := Tt.ti2) 4 rfl rfl rfl (by omega) fun d1' g S => ?_
      refine S.put 1 rfl fun g S => ?_
      have hlv : (List.range n).map (lev L) ++ [lev L n] = (List.range (n + 1)).map (lev L) := by rw [List.range_succ, List.map_append]; rfl
      have hdm : (tab n fun n => ((lev L n).length : Int)).map (Value.int .i64) ++ [.int .i64 ((lev L n).length : Nat)] = (tab (n + 1) fun n => ((lev L n).length : Int)).map (.int .i64) := by rw [tab_succ, List.map_append]; rfl
      have hsm2 : allN (fun n => decide ((lev L n).length ≤ 8)) (n + 1) = true := by rw [allN_succ, hsm]; simpa using h6
      by_cases hz : 0 < n
      · first
        | (exfalso; omega)
        | (refine BIf.yes (by simpa using hz) ?_
           have S := S.rw_tr 0 rfl (by omega)
           refine LoadX.same (v := .slice (some ⟨d2, 0, none⟩) (n - 1) 1) (S.at_ 1 rfl) rfl ?_
           refine S.new fun f5 g S => ?_
           refine S.appT 2 rfl rfl (by omega) fun d2' g S => ?_
           refine S.put 0 rfl fun g S => ?_
           refine WR.i64 ?_
           have hmp : List.replicate (sN L n L.length) (zt (blw L n)) ++ (pN L ((n : Int) - 1) L.length).map (unitv (blw L n)) = cbMap L (n - 1) := by
             obtain ⟨m, rfl⟩ : ∃ m, n = m + 1 := ⟨n - 1, by omega⟩
             rw [show ((m + 1 : Nat) : Int) - 1 = (m : Int) by omega, show ((m + 1 : Nat) : Int) = (m : Int) + 1 by omega]
             exact cbMap_rows L m
           have hmr : (List.range (n - 1)).map (cbMap L) ++ [cbMap L (n - 1)] = (List.range (n + 1 - 1)).map (cbMap L) := by
             rw [show n + 1 - 1 = n - 1 + 1 by omega, List.range_succ, List.map_append]; rfl
           refine ⟨T + 1 - (n + 1), by omega, n + 1, d1', d2', d3', rfl, by omega, hsm2, ?_, rfl⟩
           rw [← hlv, ← hdm, ← hmr, ← hmp, show n + 1 - 1 = n - 1 + 1 by omega]
           exact S)
      · first
        | (exfalso; omega)
        | (refine BIf.no (by simpa using hz) ?_
           refine WR.i64 ?_
           have S := S.tail
           refine ⟨T + 1 - (n + 1), by omega, n + 1, d1', d2, d3', rfl, by omega, hsm2, ?_, rfl⟩
           rw [← hlv, ← hdm, show n + 1 - 1 = n - 1 by omega]
           exact S))
  have hn2 : n = T + 1 := by simp at h2; omega
  subst hn2
  refine LoadX.same (v := .agg #[.int .i64 p, .slice (some ⟨d1, 0, none⟩) (T + 1) 1, .slice (some ⟨d2, 0, none⟩) T 1, .slice (some ⟨d3, 0, none⟩) (T + 1) 1]) (S.at_ 0 rfl) rfl ?_
  refine S.put 4 rfl fun g S => ?_
  refine LoadX.same (v := .agg #[.int .i64 p, .slice (some ⟨d1, 0, none⟩) (T + 1) 1, .slice (some ⟨d2, 0, none⟩) T 1, .slice (some ⟨d3, 0, none⟩) (T + 1) 1]) (S.at_ 4 rfl) rfl ?_
  have S := S.rw_tr 1 rfl (by omega)
  have S := S.rw_tr 2 rfl (by omega)
  have S := S.rc_tr 3 rfl (by rw [tab_length]; omega)
  have S := ((S.front 1 rfl).front 2 rfl).front 3 rfl
  have hres : cbR p T L = (⟨⟨p, cbDims L T, cbMaps L T⟩, levels L T⟩, 0) := by
    unfold cbR
    rw [hok, hfit, Int.toNat_natCast, show smallB L T = true from hsm]
    rfl
  rw [hres]
  obtain ⟨l, hl⟩ := SepM.finF (x := ⟨⟨p, cbDims L T, cbMaps L T⟩, levels L T⟩) S
  exact FinX.here S.le.len ⟨_, l, rfl, hl, S.le⟩

end Go.Gl

/- Rows of rows, one behind the other: slices.Concat. No condition. -/
import Derived.Test.YtblbcjemoadfpaaGlW
import Derived.Test.YtblbcjemoadfpaaFnR
set_option linter.unusedVariables false
set_option linter.unusedSimpArgs false
namespace Go.Gl
open Go.Proofs Go.Proofs.Ytblbcjemoadfpaa Go.Pl

/-- append of zeros, at least one -/
theorem SepM.appZp {M : Nat → Prop} {n : Nat} {hb h : AH} {Rs : List Res} (S : SepM M n hb h Rs) (j : Nat) {e : TypeId} {v : Value} {k m : Nat} {cells : List Value} {ie : TI} (hj : gt Rs j = some (.rc e 1 n v k cells)) {K : Value → AH → Prop} (hm : 0 < m) (hl : k + m ≤ 10000000000)
    (hk : ∀ b h', SepM M n hb h' (st Rs j (.rc e 1 n (.slice (some ⟨b, 0, none⟩) (k + m) 1) (k + m) (cells ++ List.replicate m ie.zval))) → K (.slice (some ⟨b, 0, none⟩) (k + m) 1) h') (hag : ie.agg = false := by rfl) (hs : ie.size = 1 := by rfl) (hby : ie.bytes ≤ 8192 := by decide) : AppZ h e ie v (.int .i64 (m : Int)) K := by
  refine S.appZ j hj hl (fun A c h' S' => ?_) hag hs hby
  have hst : gt (st Rs j (.rc e 1 n (.slice A (k + m) c) (k + m) (cells ++ List.replicate m ie.zval))) j = some (.rc e 1 n (.slice A (k + m) c) (k + m) (cells ++ List.replicate m ie.zval)) := by
    clear hk S' S
    induction Rs generalizing j with
    | nil => cases hj
    | cons R Rs ih => cases j with
      | zero => rfl
      | succ j => exact ih j hj
  obtain ⟨F, b, h1, _⟩ := S'.get hst
  rcases h1 with ⟨h1, _⟩ | ⟨_, h1, _⟩
  · injection h1 with h1 _ h2
    subst h1 h2
    exact hk b h' S'
  · omega
theorem lt0F {x : Int} (h : 0 ≤ x) : decide (x < 0) = false := by simp; omega

theorem growII_c (h : AH) (n : Nat) (hn : n ≤ 1000000000) : ACalls Try.prog 113 [.slice none 0 0, .int .i64 n] h (MadeR 71 1 h 0 []) := by
  refine ACalls.of Tt.tab Try.func113 rfl (by kernel_rfl) Try.ntmps113 _ rfl rfl (fun hw => ?_)
  have S := Sep.start h
  refine BIf.no (by simp) ?_
  refine WR.i64 ?_
  refine WR.as (r := (n : Int)) (by simp) ?_
  refine BIf.mk (fun h1 => ?_) (fun h1 => ?_)
  · have h1 : 0 < n := by simp at h1; omega
    have S := S.nilrc 71 1
    refine ⟨by omega, by omega, by omega, ?_⟩
    refine S.appZp (ie := Tt.ti71) 0 rfl h1 (by omega) fun b g S => ?_
    refine ⟨by omega, by omega, by omega, ?_⟩
    exact S.finT (d := 0) 0 rfl (by omega)
  · exact (S.nilrc 71 1).finR 0 rfl
theorem flat_take {α : Type} {xss : List (List α)} {i : Nat} (hi : i < xss.length) : (xss.take (i + 1)).flatten = (xss.take i).flatten ++ xss[i] := by
  rw [List.take_succ_eq_append_getElem hi, List.flatten_append]; simp
theorem flat_take_le {α : Type} (xss : List (List α)) (i : Nat) : (xss.take i).flatten.length ≤ xss.flatten.length := by
  conv => rhs; rw [← List.take_append_drop i xss, List.flatten_append]
  simp

theorem concatII_c (h : AH) (v : Value) (xss : List (List (List Int))) (hx : RIII h v xss) (hl : xss.flatten.length ≤ 1000000) : ACalls Try.prog 73 [v] h (Shown RI h xss.flatten) := by
  obtain ⟨hm, b1, o1, k1, c1⟩ := hx
  refine ACalls.shown (ACalls.wk (args' := [.slice (some ⟨b1, o1, none⟩) xss.length 0]) ?_ (.cons k1 .nil))
  refine ACalls.of Tt.tab Try.func73 rfl (by kernel_rfl) Try.ntmps73 _ rfl rfl (fun hw => ?_)
  have S := Sep.start h
  refine ⟨⟨[0, 3, 9, 10, 11], fun n' vs g => ∃ i : Nat, n' = xss.length - i ∧ i ≤ xss.length ∧ g = h ∧
    vs = [.slice (some ⟨b1, o1, none⟩) xss.length 0, .int .i64 ((xss.take i).flatten.length : Nat), .slice (some ⟨b1, o1, none⟩) xss.length 0, .int .i64 xss.length, .int .i64 i], _, ⟨0, rfl, Nat.zero_le _, rfl, rfl⟩, ?_⟩⟩
  rintro n' vs g ⟨i, rfl, hi, rfl, rfl⟩
  refine BIf.mk (fun h2 => ?_) (fun h2 => ?_)
  · have hlt : i < xss.length := by simpa using h2
    have e1 := flat_take hlt
    have e2 := flat_take_le xss (i + 1)
    refine IdxX.mk (by omega) (by omega) ?_
    refine c1.loadY (k := i) rfl hlt rfl fun b2 o2 h4 => ?_
    refine WR.as (r := ((xss.take (i + 1)).flatten.length : Nat)) (by rw [e1, List.length_append]; simp) ?_
    refine BIf.no (lt0F (by omega)) ?_
    refine WR.i64 ?_
    exact ⟨xss.length - (i + 1), by omega, i + 1, rfl, hlt, rfl, rfl⟩
  have hi2 : i = xss.length := by simp at h2; omega
  subst hi2
  rw [List.take_length]
  refine S.madeR (growII_c g _ (by omega)) fun A c g' L S => ?_
  refine ⟨⟨[6, 25, 26, 27], fun n' vs g2 => ∃ (i : Nat) (A : Option Addr) (c : Nat) (us : List Value), n' = xss.length - i ∧ i ≤ xss.length ∧ Sep g.length g g2 [.rc 71 1 g.length (.slice A (xss.take i).flatten.length c) (xss.take i).flatten.length us] ∧ Tell RI g us (xss.take i).flatten ∧
    vs = [.slice A (xss.take i).flatten.length c, .slice (some ⟨b1, o1, none⟩) xss.length 0, .int .i64 xss.length, .int .i64 i], _, ⟨0, A, c, [], rfl, Nat.zero_le _, S, Tell.nil g, rfl⟩, ?_⟩⟩
  rintro n' vs g2 ⟨i, A, c, us, rfl, hi, S, ht, rfl⟩
  refine BIf.mk (fun h2 => ?_) (fun h2 => ?_)
  · have hlt : i < xss.length := by simpa using h2
    have e1 := flat_take hlt
    have e2 := flat_take_le xss (i + 1)
    have e3 := congrArg List.length e1
    rw [List.length_append] at e3
    obtain ⟨blk, u, l1, l2, l3, b2, o2, l4, l5⟩ := c1 i xss[i] (List.getElem?_eq_getElem hlt)
    refine IdxX.mk (by omega) (by omega) ?_
    refine LoadX.one (S.le.at_ _ _ l1) (show ldv _ blk.cells (o1 + i) = some u from l2) l4 ?_
    refine S.appW (ie := Tt.ti71) 0 rfl EI.le S.le l5 (by omega) fun A c g3 news hn S => ?_
    refine WR.i64 ?_
    have ht := ht.append hn
    rw [← e1] at ht
    rw [← e3] at S ⊢
    exact ⟨xss.length - (i + 1), by omega, i + 1, A, c, us ++ news, rfl, hlt, S, ht, rfl⟩
  have hi2 : i = xss.length := by simp at h2; omega
  subst hi2
  rw [List.take_length] at S ht ⊢
  exact FinX.here S.le.len ⟨S.rdF 0 rfl (ht.le RI.le S.le) (by omega), S.le⟩

end Go.Gl

/- slices.Delete over a row of our own: out of the library's contract, laid at this seat's translation. No condition. Chapter 7: determinants. No condition. Chapter 7: determinants, of the reference; DeterminantOf. No condition. Chapter 7: choices and greatest common divisors. No condition. Chapter 7: the choices of the reference. No condition. Printed by mk_d4.py. Chapter 7: Smith numbers of the program. No condition. Chapter 7: Smith numbers of the reference; SmithNumbers, RankOfWhole. No condition. -/
import Derived.Shelf.Slices.Delete
import Derived.Test.YtoeapenknlfffaaGlW
import Derived.Test.YtoeapenknlfffaaFnW1
import Derived.Test.YtoeapenknlfffaaFnR
import Derived.Test.YtoeapenknlfffaaPlD
import Derived.Test.YtoeapenknlfffaaPlS
set_option linter.unusedVariables false
set_option linter.unusedSimpArgs false

namespace Go.Proofs
open Go.Shelf
def Try.laysDel_ren : Go.Shelf.Ren := ⟨fun | 23 => 100 | n => n, fun | 22 => 78 | 3 => 3 | 4 => 4 | 0 => 0 | n => n, fun | n => n⟩
theorem Try.laysDel : Go.Proofs.Lays2.n23 Try.prog Try.laysDel_ren := {
  mixed := by kernel_rfl
  f23 := Try.func100.trans (congrArg some (by kernel_rfl))
  t0 := Try.underlying0
  a0 := Try.isAgg0
  z0 := Try.sizeOf0
  v0 := Try.zeroValue0
  t3 := Try.underlying3
  a3 := Try.isAgg3
  z3 := Try.sizeOf3
  v3 := Try.zeroValue3
  t4 := Try.underlying4
  a4 := Try.isAgg4
  z4 := Try.sizeOf4
  v4 := Try.zeroValue4
  t22 := Try.underlying78
  a22 := Try.isAgg78
  z22 := Try.sizeOf78
  v22 := Try.zeroValue78
  i3 := by kernel_rfl }
open Go.RowKit Go.Lib Go.Sort in
theorem Try.del_int (blk off cap i j : Nat) (zs : List Int) (w : World) (hH : Holds (Value.int .i64) w blk off zs.toArray) (hcap : zs.length ≤ cap) (hm : cap ≤ 9223372036854775807) (hij : i ≤ j) (hj : j ≤ zs.length) :
    Calls Try.prog 100 #[.slice (some ⟨blk, off, none⟩) zs.length cap, .int .i64 i, .int .i64 j] w fun e w' => e = .returned (.slice (some ⟨blk, off, none⟩) (zs.length - (j - i)) cap) ∧ ∃ q, w' = putRow (Value.int .i64) (Sort.ahead w q) blk off (zs.take i ++ zs.drop j ++ List.replicate (j - i) 0).toArray := Any.slices_Delete_int Try.laysDel blk off cap i j zs w hH hcap hm hij hj
end Go.Proofs
namespace Go.Gl
open Go.Proofs Go.Proofs.Ytoeapenknlfffaa Go.Pl

theorem enters_of {P : Program} {f : FuncId} {fn : Func} (hf : P.funcs[f]? = some fn) (hb : fn.body.isSome = true) (hname : (fn.name == "runtime.NumGoroutine") = false) (xs : Array Value) (w : World) : (callFunc f xs).run P w = .ok (.enter f xs) w := by
  obtain ⟨c, hb⟩ := Option.isSome_iff_exists.1 hb
  have h1 : fn.name ≠ "runtime.NumGoroutine" := by simpa using hname
  simp [callFunc, hf, h1, hb, mark]
theorem deleteInt_c (h : AH) (b n i : Nat) (xs : List Int) (hl : look h b = some ⟨xs.map (.int .i64), some (3, 1)⟩) (hn : xs.length = n) (hi : i < n) :
    ACalls Try.prog 100 [.slice (some ⟨b, 0, none⟩) n 1, .int .i64 i, .int .i64 ((i + 1 : Nat) : Int)] h (fun r h' => r = .slice (some ⟨b, 0, none⟩) (n - 1) 1 ∧ h' = h.set b (some ⟨(xs.eraseIdx i).map (.int .i64), some (3, 1)⟩)) := by
  have hbl := look_lt hl
  refine ⟨enters_of Try.func100 (by kernel_rfl) (by kernel_rfl), fun ι w cargs hr hs ha => ?_⟩
  obtain ⟨u0, e0, v0⟩ := ha 0 _ rfl
  obtain ⟨u1, e1, v1⟩ := ha 1 _ rfl
  obtain ⟨u2, e2, v2⟩ := ha 2 _ rfl
  obtain ⟨rfl, _, hcap⟩ := v0.slS_inv
  have hu1 := v1.int_inv
  have hu2 := v2.int_inv
  subst hu1 hu2
  have hc : cargs = #[.slice (some ⟨(ι b).blk, (ι b).off, none⟩) n (ι b).cap, .int .i64 i, .int .i64 ((i + 1 : Nat) : Int)] := by
    apply Array.ext_getElem?
    intro k
    match k with
    | 0 => exact e0
    | 1 => exact e1
    | 2 => exact e2
    | k + 3 => rw [Array.getElem?_eq_none (by rw [hs]; simp)]; simp
  obtain ⟨cs, e, fr, g1, g2, g3⟩ := hr.blk b _ hl
  obtain ⟨rfl, rfl, hoff, hsz, hle, hcm⟩ := g3 _ _ rfl
  have hconc := hr.conc b
  have hcap : n ≤ (ι b).cap := by
    rcases hcap with h | h
    · exact h
    · rw [hconc] at h; cases h
  have hcell : ∀ k, k < n → cs[k]? = some (.int .i64 (ith xs k)) := fun k hk => by
    obtain ⟨u, q1, q2⟩ := g2 k (.int .i64 (ith xs k)) (by simp [ith, show k < xs.length by omega])
    rw [hoff, Nat.zero_add] at q1
    rw [q1, q2.int_inv]
  rw [hc, hoff]
  have hH : Go.Sort.Holds (Value.int .i64) w (ι b).blk 0 xs.toArray := by
    intro j hj
    have hj' : j < n := by simpa [hn] using hj
    refine ⟨?_, ?_⟩
    · have := hcell j hj'
      simp only [World.cell?, g1, Nat.zero_add]
      simp [this, ith, show j < xs.length by omega]
    · simp [World.frozen?, g1]
  have hcall := Try.del_int (ι b).blk 0 (ι b).cap i (i + 1) xs w hH (by omega) hcm (by omega) (by omega)
  rw [hn] at hcall
  refine hcall.mono fun e w' ⟨he, q, hw'⟩ => ?_
  have hrow : xs.take i ++ xs.drop (i + 1) ++ List.replicate (i + 1 - i) 0 = xs.eraseIdx i ++ [0] := by
    rw [List.eraseIdx_eq_take_drop_succ, show i + 1 - i = 1 by omega]; rfl
  rw [hrow] at hw'
  have hel : (xs.eraseIdx i).length = n - 1 := by rw [List.length_eraseIdx_of_lt (by omega), hn]
  have hheap : ∀ k, k ≠ (ι b).blk → w'.heap[k]? = w.heap[k]? := fun k hk => by
    rw [hw']
    simp [Go.Sort.putRow, Go.Sort.mapBlock, Go.Sort.ahead, Array.getElem?_modify, Ne.symm hk]
  have hnew : w'.heap[(ι b).blk]? = some (.cells (Go.Sort.putCells (Value.int .i64) 0 (xs.eraseIdx i ++ [0]).toArray cs) 3 (0, 0)) := by
    rw [hw']
    simp [Go.Sort.putRow, Go.Sort.mapBlock, Go.Sort.ahead, Array.getElem?_modify, g1, Go.Sort.onCells]
  have hnc : ∀ k, k < n → (Go.Sort.putCells (Value.int .i64) 0 (xs.eraseIdx i ++ [0]).toArray cs)[k]? = some (.int .i64 (ith (xs.eraseIdx i ++ [0]) k)) := fun k hk => by
    simp only [Go.Sort.putCells, Array.getElem?_mapIdx, hcell k hk, Option.map_some]
    rw [if_pos ⟨by omega, by simp [hel]; omega⟩]
    have hkl : k < (xs.eraseIdx i ++ [0]).length := by simp [hel]; omega
    simp [ith, hkl]
  have hsize : (Go.Sort.putCells (Value.int .i64) 0 (xs.eraseIdx i ++ [0]).toArray cs).size = cs.size := by simp [Go.Sort.putCells]
  refine ⟨_, _, _, ι, he, ⟨rfl, rfl⟩, ?_, ?_⟩
  · have := VR.slS (ι := ι) (n := (h.set b (some ⟨(xs.eraseIdx i).map (.int .i64), some (3, 1)⟩)).length) b (n - 1) (by simpa using hbl) (.inl (by omega))
    rw [hoff] at this
    rw [show n - (i + 1 - i) = n - 1 by omega]
    exact this
  · refine ⟨⟨fun j blk hj => ?_, fun j k bj bk hj hk ho hne => ?_, hr.conc⟩, fun _ _ => rfl, by simp, fun k hk hno => hheap k fun e => hno b _ hl rfl e.symm, fun j blk hj ho => ?_, by rw [hw']; simp [Go.Sort.ahead], by rw [hw']; rfl, by rw [hw']; rfl, by rw [hw']; rfl⟩
    · rw [look_set hbl] at hj
      split at hj
      · rename_i e; subst e
        injection hj with hj
        subst hj
        refine ⟨_, _, _, hnew, fun k v hk => ?_, fun t s hts => ?_⟩
        · have hk1 : k < n - 1 := by have := (List.getElem?_eq_some_iff.1 hk).1; simpa [hel] using this
          refine ⟨_, by rw [hoff, Nat.zero_add]; exact hnc k (by omega), ?_⟩
          have : v = .int .i64 (ith (xs.eraseIdx i ++ [0]) k) := by
            rw [ith_append_left (by omega)]
            simp only [List.getElem?_map, Option.map_eq_some_iff] at hk
            obtain ⟨y, hy, rfl⟩ := hk
            simp [ith, hy]
          rw [this]
          exact .int _ _
        · simp only [Option.some.injEq, Prod.mk.injEq] at hts
          obtain ⟨rfl, rfl⟩ := hts
          exact ⟨rfl, rfl, hoff, by rw [hsize]; exact hsz, by simp [hel, hsize] at hle ⊢; omega, hcm⟩
      · rename_i hne
        obtain ⟨c2, e2, f2, k1, k2, k3⟩ := hr.blk j blk hj
        refine ⟨c2, e2, f2, by rw [hheap _ (hr.inj b j _ _ hl hj rfl (Ne.symm hne)).symm]; exact k1, fun k v hk => ?_, k3⟩
        obtain ⟨u, q1, q2⟩ := k2 k v hk
        exact ⟨u, q1, by rw [List.length_set]; exact q2⟩
    · -- blocks of our own are apart
      rw [look_set hbl] at hj hk
      have hj' : ∃ x, look h j = some x ∧ x.own.isSome = bj.own.isSome := by
        split at hj
        · rename_i e; subst e; injection hj with hj; exact ⟨_, hl, by rw [← hj]⟩
        · exact ⟨_, hj, rfl⟩
      have hk' : ∃ x, look h k = some x := by
        split at hk
        · rename_i e; subst e; exact ⟨_, hl⟩
        · exact ⟨_, hk⟩
      obtain ⟨x, hx, hxo⟩ := hj'
      obtain ⟨y, hy⟩ := hk'
      exact hr.inj j k x y hx hy (by rw [hxo]; exact ho) hne
    · rw [look_set hbl] at hj
      split at hj
      · rename_i e; subst e; exact .inr ⟨j, _, hl, rfl, rfl⟩
      · exact .inr ⟨j, blk, hj, ho, rfl⟩
end Go.Gl


set_option linter.unusedVariables false
set_option linter.unusedSimpArgs false
namespace Go.Gl
open Go.Proofs Go.Proofs.Ytoeapenknlfffaa Go.Pl

/-- a part of a row -/
theorem RS.part {α : Type} {E : AH → Value → α → Prop} {h : AH} {b o : Nat} {xs : List α} (hc : CS E h b o xs) (hl : xs.length ≤ 9223372036854775807) {d k a q : Nat} (hd : d + k ≤ xs.length) (ha : a = o + d := by rfl) (hq : q = k := by rfl) : RS E h (.slice (some ⟨b, a, none⟩) q 0) ((xs.drop d).take k) := by
  subst ha hq
  have hlen : ((xs.drop d).take q).length = q := by simp; omega
  refine ⟨by omega, b, o + d, by rw [hlen]; exact Wk.refl _, fun i x hi => ?_⟩
  rw [List.getElem?_take] at hi
  split at hi
  · rw [List.getElem?_drop] at hi
    obtain ⟨blk, u, h1, h2, h3⟩ := hc (d + i) x hi
    exact ⟨blk, u, h1, by rw [Nat.add_assoc]; exact h2, h3⟩
  · cases hi
theorem RS.tail {α : Type} {E : AH → Value → α → Prop} {h : AH} {b o : Nat} {x : α} {xs : List α} (hc : CS E h b o (x :: xs)) (hl : xs.length ≤ 1000000) {a q : Nat} (ha : a = o + 1 := by rfl) (hq : q = xs.length := by rfl) : RS E h (.slice (some ⟨b, a, none⟩) q 0) xs := by
  have := RS.part (d := 1) (k := xs.length) hc (by simp; omega) (by simp; omega) ha hq
  simpa using this
/-- one element goes out of a row of our own -/
theorem SepM.delI {M : Nat → Prop} {n : Nat} {hb h : AH} {Rs : List Res} (S : SepM M n hb h Rs) (j : Nat) {m b k c i : Nat} {xs : List Int} (hj : gt Rs j = some (.rc 3 1 m (.slice (some ⟨b, 0, none⟩) k c) k (xs.map (.int .i64)))) (hi : i < k) {K : Value → AH → Prop} {P : Program} {f : FuncId} {args : List Value}
    (hc : look h b = some ⟨xs.map (.int .i64), some (3, 1)⟩ → xs.length = k → ACalls P f args h (fun r h' => r = .slice (some ⟨b, 0, none⟩) (k - 1) 1 ∧ h' = h.set b (some ⟨(xs.eraseIdx i).map (.int .i64), some (3, 1)⟩)))
    (hk : ∀ h', SepM M n hb h' (st Rs j (.rc 3 1 m (.slice (some ⟨b, 0, none⟩) (k - 1) 1) (k - 1) ((xs.eraseIdx i).map (.int .i64)))) → K (.slice (some ⟨b, 0, none⟩) (k - 1) 1) h') : CallX P f args h K := by
  obtain ⟨F, ⟨b', h1, hge⟩, h2, _, _, h4⟩ := S.step hj
  rcases h1 with ⟨h1, h3, h5⟩ | ⟨h1, _⟩
  · simp only [Value.slice.injEq, Option.some.injEq, Addr.mk.injEq] at h1
    obtain ⟨⟨rfl, _⟩, _, rfl⟩ := h1
    obtain ⟨h3a, h3⟩ := only_some.1 h3
    have hlen : xs.length = k := by simpa using h5
    have hbl := look_lt h3
    refine CallX.same (hc h3 hlen) ?_
    rintro r h' ⟨rfl, rfl⟩
    refine hk _ (h4 _ _ F (by simp) ⟨b, .inl ⟨rfl, only_some.2 ⟨h3a, by rw [look_set hbl, if_pos rfl]⟩, by simp [List.length_eraseIdx_of_lt (show i < xs.length by omega), hlen]⟩, hge⟩ (fun i hi => ⟨by simpa using (h2 i hi).1, .inl hi⟩) fun i blk hf e => ?_)
    rw [look_set hbl, if_neg (fun hh => hf (by rw [hh]; exact h3a))]
    exact e
  · cases h1
/-- a fresh row of our own that is not empty -/
theorem SepM.madeRp {M : Nat → Prop} {n : Nat} {hb h : AH} {Rs : List Res} (S : SepM M n hb h Rs) {e : TypeId} {s k : Nat} {cells : List Value} {P : Program} {f : FuncId} {args : List Value} {K : Value → AH → Prop} (hc : ACalls P f args h (MadeR e s h k cells)) (h0 : 0 < k)
    (hk : ∀ b h', Le h h' → SepM M n hb h' (.rc e s n (.slice (some ⟨b, 0, none⟩) k 1) k cells :: Rs) → K (.slice (some ⟨b, 0, none⟩) k 1) h') : CallX P f args h K :=
  CallX.same hc fun r h' ⟨b, hn, hge, g⟩ => by
    rcases hn with ⟨rfl, h1, h2⟩ | ⟨_, hz, _⟩
    · exact hk _ h' g (S.add g (F := fun i => i = b) ⟨b, .inl ⟨rfl, only_some.2 ⟨rfl, h1⟩, h2⟩, Nat.le_trans S.nl hge⟩ fun i hi => by subst hi; exact ⟨hge, look_lt h1⟩)
    · omega

theorem cloneInt_c (h : AH) (v : Value) (xs : List Int) (hx : RI h v xs) (hl : xs.length ≤ 1000000000) : ACalls Try.prog 101 [v] h (MadeR 3 1 h xs.length (xs.map (.int .i64))) := by
  obtain ⟨hm, b, o, hw1, hc⟩ := hx
  refine ACalls.wk (args' := [.slice (some ⟨b, o, none⟩) xs.length 0]) ?_ (.cons hw1 .nil)
  refine ACalls.of Tt.tab Try.func101 rfl (by kernel_rfl) Try.ntmps101 _ rfl rfl (fun hw => ?_)
  have S := Sep.start h
  refine ⟨fun h0 _ => ?_, ?_⟩
  · have : xs = [] := List.length_eq_zero_iff.1 h0
    subst this
    refine BIf.yes rfl ?_
    exact (S.nilrc 3 1).finR 0 rfl
  · refine BIf.no rfl ?_
    refine S.new fun b1 g S => ?_
    have S := S.bx_rc 0 (k := 0) rfl rfl
    refine S.appNs (ie := Tt.ti3) (m := xs.length) 0 rfl S.le hc rfl (by omega) fun A c g S => ?_
    have F : FinX h (MadeR 3 1 h xs.length (xs.map (.int .i64))) (.slice A (0 + xs.length) c) g := by
      have S' : Sep h.length h g [.rc 3 1 h.length (.slice A (0 + xs.length) c) (0 + xs.length) (xs.map (.int .i64))] := S
      rw [Nat.zero_add] at S' ⊢
      exact S'.finR 0 rfl
    exact F

theorem sign_c (h : AH) (k : Nat) (hk : k ≤ 1000000) : ACalls Try.prog 102 [.int .i64 k] h (fun r h' => r = .int .i64 (sgn k) ∧ h' = h) := by
  refine ACalls.of Tt.tab Try.func102 rfl (by kernel_rfl) Try.ntmps102 _ rfl rfl (fun hw => ?_)
  refine TM.pos ?_
  refine WR.i64 ?_
  refine WR.i64 ?_
  exact FinX.keep hw (Le.refl _) rfl ⟨rfl, rfl⟩

theorem determinant_c : ∀ (rows : List (List Int)) (h : AH) (rv cv : Value) (cols : List Int), rows.length ≤ 6 → RII h rv rows → RI h cv cols → (∀ r ∈ rows, Small r) → cols.length ≤ 6 → Cols rows cols →
    ACalls Try.prog 53 [rv, cv] h (fun r h' => r = .int .i64 (det rows cols) ∧ h' = h)
  | [], h, rv, cv, cols, hl, hr, hc, hs, hcl, hcc => by
    obtain ⟨_, b1, o1, k1, c1⟩ := hr
    obtain ⟨_, b2, o2, k2, c2⟩ := hc
    refine ACalls.wk (args' := [.slice (some ⟨b1, o1, none⟩) 0 0, .slice (some ⟨b2, o2, none⟩) cols.length 0]) ?_ (.cons k1 (.cons k2 .nil))
    refine ACalls.of Tt.tab Try.func53 rfl (by kernel_rfl) Try.ntmps53 _ rfl rfl (fun hw => ?_)
    refine BIf.yes rfl ?_
    exact FinX.keep hw (Le.refl _) rfl ⟨rfl, rfl⟩
  | r :: rs, h, rv, cv, cols, hl, hr, hc, hs, hcl, hcc => by
    obtain ⟨_, b1, o1, k1, c1⟩ := hr
    obtain ⟨b2, o2, k2, hc⟩ := hc.can
    have c2 := hc.cells rfl
    simp only [List.length_cons] at hl
    refine ACalls.wk (args' := [.slice (some ⟨b1, o1, none⟩) (rs.length + 1) 0, .slice (some ⟨b2, o2, none⟩) cols.length 0]) ?_ (.cons k1 (.cons k2 .nil))
    refine ACalls.of Tt.tab Try.func53 rfl (by kernel_rfl) Try.ntmps53 _ rfl rfl (fun hw => ?_)
    have S0 := Sep.start h
    have hrs : RII h (.slice (some ⟨b1, o1 + 1, none⟩) rs.length 0) rs := RS.tail c1 (by omega)
    refine BIf.no (by simp; omega) ?_
    have hpw := pw6 (m := rs.length + 1) (by omega)
    have hpw1 := pw6 (m := rs.length) (by omega)
    refine ⟨⟨[0, 1, 5, 13, 14, 15], fun n' vs g => ∃ i : Nat, n' = cols.length - i ∧ i ≤ cols.length ∧ Sep h.length h g [] ∧
      vs = [.slice (some ⟨b1, o1, none⟩) (rs.length + 1) 0, .slice (some ⟨b2, o2, none⟩) cols.length 0, .int .i64 (sm i fun k => sgn k * ith r (ith cols k).toNat * det rs (cols.eraseIdx k)), .slice (some ⟨b2, o2, none⟩) cols.length 0, .int .i64 cols.length, .int .i64 i], _, ⟨0, rfl, Nat.zero_le _, S0, rfl⟩, ?_⟩⟩
    rintro n' vs g ⟨i, rfl, hi, S, rfl⟩
    refine BIf.mk (fun h2 => ?_) (fun h2 => ?_)
    · have hlt : i < cols.length := by simpa using h2
      have hci := hcc _ (ith_mem hlt)
      have hcr := hci.2 r List.mem_cons_self
      have hsr := hs r List.mem_cons_self (ith cols i).toNat
      have hpart := part_abs (k := i) hs hcl hi
      have hnext := part_abs (k := i + 1) hs hcl hlt
      simp only [sm] at hnext
      have hdt := det_abs rs (cols.eraseIdx i) (fun x hx => hs x (List.mem_cons_of_mem _ hx)) (Nat.le_trans (List.length_eraseIdx_le ..) hcl)
      have hterm := term_abs (k := i) hsr hdt
      have hsx : -9 ≤ sgn i * ith r (ith cols i).toNat ∧ sgn i * ith r (ith cols i).toNat ≤ 9 := by
        have := sgn_rng i
        rcases (by omega : sgn i = -1 ∨ sgn i = 0 ∨ sgn i = 1) with h | h | h <;> rw [h] <;> omega
      refine IdxX.mk (by omega) (by omega) ?_
      refine c2.ith S.le hlt ?_
      refine IdxX.mk (by omega) (by omega) ?_
      refine c1.row S.le (show 0 < (r :: rs).length by simp) fun b3 o3 c3 => ?_
      change CS EI h b3 o3 r at c3
      refine IdxX.mk (by omega) (by show ith cols i < (r.length : Int); omega) ?_
      refine c3.ith S.le hcr ?_
      refine BIf.mk (fun h3 => ?_) (fun h3 => ?_)
      · refine S.madeRp (cloneInt_c _ _ cols (RI.le _ _ _ _ S.le hc) (by omega)) (by omega) fun b4 g L S => ?_
        refine WR.i64 ?_
        refine S.delI 0 rfl hlt (fun h1 h2 => deleteInt_c g b4 _ i cols h1 h2 hlt) fun g S => ?_
        have hdc := S.rdc 0 rfl (by omega)
        refine DrawX.of Tt.tab follows_any [] [] [0, 1, 2, 3, 4, 5, 6, 7, 8, 9, 10, 11] rfl (by kernel_rfl) (by kernel_rfl) ?_
        refine QCall.of (fun g2 hl => sign_c g2 i (by omega)) rfl ?_
        refine WR.i64 ?_
        refine ⟨by omega, by omega, by omega, ?_⟩
        refine QCall.of (fun g2 hl => determinant_c rs g2 _ _ (cols.eraseIdx i) (by omega) (RII.le _ _ _ _ (S.le.trans hl) hrs) (RI.le _ _ _ _ hl hdc) (fun x hx => hs x (List.mem_cons_of_mem _ hx)) (Nat.le_trans (List.length_eraseIdx_le ..) hcl) (hcc.tail i)) rfl ?_
        refine WR.i64 ?_
        refine WR.i64 ?_
        refine WR.i64 ?_
        exact ⟨cols.length - (i + 1), by omega, i + 1, rfl, hlt, S.drop 0, rfl⟩
      · have h3 : ith r (ith cols i).toNat = 0 := by simpa using h3
        refine WR.i64 ?_
        refine ⟨cols.length - (i + 1), by omega, i + 1, rfl, hlt, S, ?_⟩
        simp only [sm, h3, Int.mul_zero, Int.zero_mul, Int.add_zero]
        rfl
    · have hi2 : i = cols.length := by simp at h2; omega
      subst hi2
      exact FinX.keep hw S.le rfl ⟨rfl, rfl⟩

end Go.Gl

set_option linter.unusedVariables false
set_option linter.unusedSimpArgs false
namespace Go.Gl
open Go.Proofs Go.Proofs.Ytoeapenknlfffaa Go.Pl


theorem l07Det_c (rows : List (List Int)) (hrl : rows.length ≤ 1000) (hs : ∀ r ∈ rows, Small r) : ∀ (list : List Int) (h : AH) (rv lv cv : Value) (cols : List Int), list.length ≤ 6 → RII h rv rows → RI h lv list → RI h cv cols → (∀ i ∈ list, 0 ≤ i ∧ i.toNat < rows.length) → cols.length ≤ 6 → Cols (pick rows list) cols →
    ACalls Try.prog 55 [rv, lv, cv] h (fun r h' => r = .int .i64 (det (pick rows list) cols) ∧ h' = h)
  | [], h, rv, cv', cv, cols, hl, hr, hc', hc, hin, hcl, hcc => by
    obtain ⟨_, b1, o1, k1, c1⟩ := hr
    obtain ⟨_, b3, o3, k3, c3⟩ := hc'
    obtain ⟨_, b2, o2, k2, c2⟩ := hc
    refine ACalls.wk (args' := [.slice (some ⟨b1, o1, none⟩) rows.length 0, .slice (some ⟨b3, o3, none⟩) 0 0, .slice (some ⟨b2, o2, none⟩) cols.length 0]) ?_ (.cons k1 (.cons k3 (.cons k2 .nil)))
    refine ACalls.of Tt.tab Try.func55 rfl (by kernel_rfl) Try.ntmps55 _ rfl rfl (fun hw => ?_)
    refine BIf.yes rfl ?_
    exact FinX.keep hw (Le.refl _) rfl ⟨rfl, rfl⟩
  | e :: es, h, rv, lv, cv, cols, hl, hr, hc', hc, hin, hcl, hcc => by
    obtain ⟨b1, o1, k1, hr⟩ := hr.can
    obtain ⟨_, b3, o3, k3, c3⟩ := hc'
    obtain ⟨b2, o2, k2, hc⟩ := hc.can
    have c1 := hr.cells rfl
    have c2 := hc.cells rfl
    simp only [List.length_cons] at hl
    refine ACalls.wk (args' := [.slice (some ⟨b1, o1, none⟩) rows.length 0, .slice (some ⟨b3, o3, none⟩) (es.length + 1) 0, .slice (some ⟨b2, o2, none⟩) cols.length 0]) ?_ (.cons k1 (.cons k3 (.cons k2 .nil)))
    refine ACalls.of Tt.tab Try.func55 rfl (by kernel_rfl) Try.ntmps55 _ rfl rfl (fun hw => ?_)
    have S0 := Sep.start h
    have hes : RI h (.slice (some ⟨b3, o3 + 1, none⟩) es.length 0) es := RS.tail c3 (by omega)
    have he := hin e List.mem_cons_self
    have hre : Small (row rows e.toNat) := hs _ (row_mem he.2)
    have hpk : pick rows (e :: es) = row rows e.toNat :: pick rows es := rfl
    have hpl : (pick rows es).length = es.length := by simp [pick]
    have hps : ∀ r ∈ pick rows (e :: es), Small r := fun r hr => by
      simp only [pick, List.mem_map] at hr
      obtain ⟨i, hi, rfl⟩ := hr
      exact hs _ (row_mem (hin i hi).2)
    rw [hpk] at hps hcc ⊢
    refine BIf.no (by simp; omega) ?_
    have hpw := pw6 (m := (pick rows es).length + 1) (by omega)
    have hpw1 := pw6 (m := (pick rows es).length) (by omega)
    refine ⟨⟨[0, 1, 2, 7, 8], fun n' vs g => ∃ i : Nat, n' = cols.length - i ∧ i ≤ cols.length ∧ Sep h.length h g [] ∧
      vs = [.slice (some ⟨b1, o1, none⟩) rows.length 0, .slice (some ⟨b3, o3, none⟩) (es.length + 1) 0, .slice (some ⟨b2, o2, none⟩) cols.length 0, .int .i64 (sm i fun k => sgn k * ith (row rows e.toNat) (ith cols k).toNat * det (pick rows es) (cols.eraseIdx k)), .int .i64 i], _, ⟨0, rfl, Nat.zero_le _, S0, rfl⟩, ?_⟩⟩
    rintro n' vs g ⟨i, rfl, hi, S, rfl⟩
    refine BIf.mk (fun h2 => ?_) (fun h2 => ?_)
    · have hlt : i < cols.length := by simpa using h2
      have hci := hcc _ (ith_mem hlt)
      have hcr := hci.2 _ List.mem_cons_self
      have hsr := hre (ith cols i).toNat
      have hpart := part_abs (k := i) hps hcl hi
      have hnext := part_abs (k := i + 1) hps hcl hlt
      simp only [sm] at hnext
      have hdt := det_abs (pick rows es) (cols.eraseIdx i) (fun x hx => hps x (List.mem_cons_of_mem _ hx)) (Nat.le_trans (List.length_eraseIdx_le ..) hcl)
      have hterm := term_abs (k := i) hsr hdt
      have hsx : -9 ≤ sgn i * ith (row rows e.toNat) (ith cols i).toNat ∧ sgn i * ith (row rows e.toNat) (ith cols i).toNat ≤ 9 := by
        have := sgn_rng i
        rcases (by omega : sgn i = -1 ∨ sgn i = 0 ∨ sgn i = 1) with h | h | h <;> rw [h] <;> omega
      refine DrawX.of Tt.tab follows_any [] [] [0, 1, 2, 3, 4, 5, 6, 7, 8, 9, 10, 11, 12] rfl (by kernel_rfl) (by kernel_rfl) ?_
      refine IdxX.mk (by omega) (by omega) ?_
      refine c3.ith S.le (k := 0) (by simp) ?_
      rw [ith_cons_zero]
      refine IdxX.mk (by omega) (by omega) ?_
      refine c1.row (k := e.toNat) S.le he.2 fun b4 o4 c4 => ?_
      refine IdxX.mk (by omega) (by omega) ?_
      refine c2.ith S.le hlt ?_
      refine IdxX.mk (by omega) (by omega) ?_
      refine c4.ith S.le hcr ?_
      refine BIf.mk (fun h3 => ?_) (fun h3 => ?_)
      · have h3 : ith (row rows e.toNat) (ith cols i).toNat = 0 := by simpa using h3
        refine WR.i64 ?_
        refine ⟨cols.length - (i + 1), by omega, i + 1, rfl, hlt, S, ?_⟩
        simp only [sm, h3, Int.mul_zero, Int.zero_mul, Int.add_zero]
        rfl
      · refine DrawX.of Tt.tab follows_any [3] [8] [0, 1, 2, 4, 5, 6, 7, 3, 8, 9] rfl (by kernel_rfl) (by kernel_rfl) ?_
        refine ⟨by omega, by omega, by omega, ?_⟩
        refine WR.i64 ?_
        refine ⟨by omega, by omega, by omega, ?_⟩
        have q1 : RI h (.slice (some ⟨b2, o2, none⟩) i 0) (cols.take i) := by
          have := RI.part (d := 0) (k := i) c2 (by omega) (by omega)
          simpa using this
        have hdl : (cols.drop (i + 1)).length = cols.length - (i + 1) := by simp
        have q2 : RI h (.slice (some ⟨b2, o2 + (i + 1), none⟩) (cols.length - (i + 1)) 0) (cols.drop (i + 1)) := by
          have := RI.part (d := i + 1) (k := cols.length - (i + 1)) c2 (by omega) (by omega)
          rwa [List.take_of_length_le (by simp)] at this
        have c5 := RS.cells q2 hdl.symm
        have htl : (cols.take i).length = i := by simp; omega
        refine S.madeR (l01OwnR_c _ _ (cols.take i) (RI.le _ _ _ _ S.le q1) (by omega)) fun A q g L S => ⟨L, strictV.mk ?_⟩
        refine S.appNs (ie := Tt.ti2) (m := cols.length - (i + 1)) 0 rfl S.le c5 hdl (by omega) fun A q g S => strictV.mk ?_
        have S := S.recastR 0 (cells' := (cols.eraseIdx i).map (.int .i64)) rfl (by rw [← List.map_append, List.eraseIdx_eq_take_drop_succ])
        have hdc := S.rdc 0 rfl (by omega)
        refine TM.pos ?_
        refine WR.i64 ?_
        refine WR.i64 ?_
        refine WR.as (r := sgn i * ith (row rows e.toNat) (ith cols i).toNat) (by unfold sgn; rw [Int.mul_comm (ith _ _), Int.mul_comm 2]) ?_
        refine ⟨by omega, by omega, by omega, ?_⟩
        refine CallX.same (l07Det_c rows hrl hs es g _ _ _ (cols.eraseIdx i) (by omega) (RII.le _ _ _ _ S.le hr) (RI.le _ _ _ _ S.le hes) hdc (fun x hx => hin x (List.mem_cons_of_mem _ hx)) (Nat.le_trans (List.length_eraseIdx_le ..) hcl) (hcc.tail i)) ?_
        rintro r g3 ⟨rfl, rfl⟩
        refine WR.i64 ?_
        refine WR.i64 ?_
        refine WR.i64 ?_
        exact ⟨cols.length - (i + 1), by omega, i + 1, rfl, hlt, S.drop 0, rfl⟩
    · have hi2 : i = cols.length := by simp at h2; omega
      subst hi2
      exact FinX.keep hw S.le rfl ⟨rfl, rfl⟩

/-- a matrix of which there is a determinant -/
def detOk (rows : List (List Int)) : Bool := decide (rows.length ≤ 6) && wmat rows.length rows
def detOf (rows : List (List Int)) : Int × Int := if detOk rows then (det rows (iota rows.length), 0) else (0, 2)
theorem wmat_small {m : Int} {rows : List (List Int)} (h : wmat m rows = true) : ∀ r ∈ rows, Small r := fun r hr => by
  obtain ⟨i, hi, rfl⟩ := List.getElem_of_mem hr
  rw [row_get hi]
  exact (wmat_row h hi).2
theorem wmat_len {m : Int} {rows : List (List Int)} (h : wmat m rows = true) : ∀ r ∈ rows, (r.length : Int) = m := fun r hr => by
  obtain ⟨i, hi, rfl⟩ := List.getElem_of_mem hr
  rw [row_get hi]
  exact (wmat_row h hi).1
theorem detOk_eq (rows : List (List Int)) : (decide (rows.length ≤ 6) && decide (0 ≤ (wid rows : Int) ∧ (wid rows : Int) ≤ 6) && wmat (wid rows) rows && decide (wid rows = rows.length)) = detOk rows := by
  unfold detOk
  rw [Bool.eq_iff_iff]
  simp only [Bool.and_eq_true, decide_eq_true_eq]
  constructor
  · rintro ⟨⟨⟨h1, h2⟩, h3⟩, h4⟩
    rw [h4] at h3
    exact ⟨h1, h3⟩
  · rintro ⟨h1, h2⟩
    have : wid rows = rows.length := by
      unfold wid
      cases rows with
      | nil => rfl
      | cons r rs =>
        have := wmat_len h2 r List.mem_cons_self
        show r.length = _
        omega
    rw [this]
    exact ⟨⟨⟨h1, by omega⟩, h2⟩, rfl⟩
theorem detOk_cols {rows : List (List Int)} (h : detOk rows = true) : rows.length ≤ 6 ∧ (∀ r ∈ rows, Small r) ∧ Cols rows (iota rows.length) := by
  simp only [detOk, Bool.and_eq_true, decide_eq_true_eq] at h
  refine ⟨h.1, wmat_small h.2, fun c hc => ?_⟩
  obtain ⟨h1, h2⟩ := iota_mem hc
  exact ⟨h1, fun r hr => by have := wmat_len h.2 r hr; omega⟩
theorem pick_iota (rows : List (List Int)) : pick rows (iota rows.length) = rows := by
  refine ext_row (by simp [pick, iota_length]) fun i hi => ?_
  have hi' : i < rows.length := by simpa [pick, iota_length] using hi
  simp [pick, iota, tab, row, hi']

theorem width_c (h : AH) (v : Value) (rows : List (List Int)) (hx : RII h v rows) : ACalls Try.prog 47 [v] h (fun r h' => r = .int .i64 (wid rows) ∧ h' = h) := by
  obtain ⟨_, b1, o1, k1, c1⟩ := hx
  refine ACalls.wk (args' := [.slice (some ⟨b1, o1, none⟩) rows.length 0]) ?_ (.cons k1 .nil)
  refine ACalls.of Tt.tab Try.func47 rfl (by kernel_rfl) Try.ntmps47 _ rfl rfl (fun hw => ?_)
  refine BIf.mk (fun h1 => ?_) (fun h1 => ?_)
  · have h1 : rows.length = 0 := by simpa using h1
    have : rows = [] := List.length_eq_zero_iff.1 h1
    subst this
    exact FinX.keep hw (Le.refl _) rfl ⟨rfl, rfl⟩
  have h1 : 0 < rows.length := by simp at h1; exact List.length_pos_iff.2 h1
  refine IdxX.mk (by omega) (by omega) ?_
  refine c1.row (Le.refl _) h1 fun b2 o2 c2 => ?_
  refine CallX.same (sizeI_c _ _ _ _ _) ?_
  rintro r g' ⟨rfl, rfl⟩
  exact FinX.keep hw (Le.refl _) rfl ⟨rfl, rfl⟩

theorem detOfI_c (h : AH) (v : Value) (rows : List (List Int)) (hx : RII h v rows) : ACalls Try.prog 14 [v] h (fun r h' => r = .tuple #[.int .i64 (detOf rows).1, .int .i64 (detOf rows).2] ∧ h' = h) := by
  obtain ⟨b1, o1, k1, hx⟩ := hx.can
  refine ACalls.wk (args' := [.slice (some ⟨b1, o1, none⟩) rows.length 0]) ?_ (.cons k1 .nil)
  refine ACalls.of Tt.tab Try.func14 rfl (by kernel_rfl) Try.ntmps14 _ rfl rfl (fun hw => ?_)
  have S := Sep.start h
  have e := detOk_eq rows
  unfold detOf
  refine CallX.same (width_c h _ rows hx) ?_
  rintro r h ⟨rfl, rfl⟩
  refine CallX.same (isMatrix_c h (wid rows) _ rows hx) ?_
  rintro r h ⟨rfl, rfl⟩
  refine BIf.mk (fun h1 => ?_) (fun h1 => ?_)
  · have h1 : (decide (rows.length ≤ 6) && decide (0 ≤ (wid rows : Int) ∧ (wid rows : Int) ≤ 6) && wmat (wid rows) rows) = false := Bool.not_eq_true' _ ▸ h1
    rw [h1, Bool.false_and] at e
    rw [← e]
    refine BIf.yes rfl ?_
    exact FinX.keep2 hw (Le.refl _) rfl rfl ⟨rfl, rfl⟩
  have h1 : (decide (rows.length ≤ 6) && decide (0 ≤ (wid rows : Int) ∧ (wid rows : Int) ≤ 6) && wmat (wid rows) rows) = true := Bool.not_eq_false' _ ▸ h1
  rw [h1, Bool.true_and] at e
  refine CallX.same (width_c h _ rows hx) ?_
  rintro r h ⟨rfl, rfl⟩
  refine CallX.same (sizeII_c _ _ _ _ _) ?_
  rintro r h ⟨rfl, rfl⟩
  refine BIf.mk (fun h2 => ?_) (fun h2 => ?_)
  · have h2 : ¬ wid rows = rows.length := by simp at h2; omega
    rw [← e, decide_eq_false h2]
    exact FinX.keep2 hw (Le.refl _) rfl rfl ⟨rfl, rfl⟩
  have h2 : wid rows = rows.length := by simp at h2; omega
  rw [decide_eq_true h2] at e
  rw [← e]
  obtain ⟨z1, z2, z3⟩ := detOk_cols e.symm
  refine S.new fun b2 g S => ?_
  have S := S.bx_rc 0 (k := 0) rfl rfl
  refine ⟨⟨[0, 4, 20, 21], fun n' vs g => ∃ i b : Nat, n' = rows.length - i ∧ i ≤ rows.length ∧ Sep h.length h g [.rc 3 1 h.length (.slice (some ⟨b, 0, none⟩) i 1) i ((iota i).map (.int .i64))] ∧
    vs = [.slice (some ⟨b1, o1, none⟩) rows.length 0, .slice (some ⟨b, 0, none⟩) i 1, .int .i64 rows.length, .int .i64 i], _, ⟨0, b2, rfl, Nat.zero_le _, S, rfl⟩, ?_⟩⟩
  rintro n' vs g ⟨i, b, rfl, hi, S, rfl⟩
  refine BIf.mk (fun h2 => ?_) (fun h2 => ?_)
  · have hlt : i < rows.length := by simpa using h2
    refine S.new fun b3 g S => ?_
    refine S.app (ie := Tt.ti3) 0 rfl rfl rfl (by omega) fun b4 g S => ?_
    refine WR.i64 ?_
    refine ⟨rows.length - (i + 1), by omega, i + 1, b4, rfl, hlt, ?_, rfl⟩
    rw [iota_succ, List.map_append]; exact S
  have hi2 : i = rows.length := by simp at h2; omega
  subst hi2
  refine CallX.same (determinant_c rows g _ _ (iota rows.length) z1 (RII.le _ _ _ _ S.le hx) (S.rdc 0 rfl (by omega)) z2 (by rw [iota_length]; exact z1) z3) ?_
  rintro r g2 ⟨rfl, rfl⟩
  exact FinX.keep2 hw S.le rfl rfl ⟨rfl, rfl⟩

theorem detOfS_c (h : AH) (v : Value) (rows : List (List Int)) (hx : RII h v rows) : ACalls Try.prog 15 [v] h (fun r h' => r = .tuple #[.int .i64 (detOf rows).1, .int .i64 (detOf rows).2] ∧ h' = h) := by
  obtain ⟨b1, o1, k1, hx⟩ := hx.can
  refine ACalls.wk (args' := [.slice (some ⟨b1, o1, none⟩) rows.length 0]) ?_ (.cons k1 .nil)
  refine ACalls.of Tt.tab Try.func15 rfl (by kernel_rfl) Try.ntmps15 _ rfl rfl (fun hw => ?_)
  have S := Sep.start h
  unfold detOf
  refine BIf.mk (fun h1 => ?_) (fun h1 => ?_)
  · have h1 : ¬ rows.length ≤ 6 := by simp at h1; omega
    have : detOk rows = false := by unfold detOk; rw [decide_eq_false h1, Bool.false_and]
    rw [this]
    refine BIf.yes rfl ?_
    exact FinX.keep2 hw (Le.refl _) rfl rfl ⟨rfl, rfl⟩
  have h1 : rows.length ≤ 6 := by simp at h1; omega
  refine CallX.same (l07Matrix_c h rows.length rows.length _ rows hx) ?_
  rintro r h ⟨rfl, rfl⟩
  have e : (decide ((rows.length : Int) = rows.length) && wmat rows.length rows) = detOk rows := by
    unfold detOk; rw [decide_eq_true h1, decide_eq_true rfl]
  rw [e]
  refine BIf.mk (fun h2 => ?_) (fun h2 => ?_)
  · have h2 : detOk rows = false := by simpa using h2
    rw [h2]
    exact FinX.keep2 hw (Le.refl _) rfl rfl ⟨rfl, rfl⟩
  have h2 : detOk rows = true := by simpa using h2
  rw [h2]
  obtain ⟨z1, z2, z3⟩ := detOk_cols h2
  refine S.new fun b2 g S => ?_
  have S := S.bx_rc 0 (k := 0) rfl rfl
  refine ⟨⟨[0, 4, 5, 6], fun n' vs g => ∃ i b : Nat, n' = rows.length - i ∧ i ≤ rows.length ∧ Sep h.length h g [.rc 2 1 h.length (.slice (some ⟨b, 0, none⟩) i 1) i ((iota i).map (.int .i64))] ∧
    vs = [.slice (some ⟨b1, o1, none⟩) rows.length 0, .int .i64 rows.length, .slice (some ⟨b, 0, none⟩) i 1, .int .i64 i], _, ⟨0, b2, rfl, Nat.zero_le _, S, rfl⟩, ?_⟩⟩
  rintro n' vs g ⟨i, b, rfl, hi, S, rfl⟩
  refine BIf.mk (fun h2 => ?_) (fun h2 => ?_)
  · have hlt : i < rows.length := by simpa using h2
    refine S.new fun b3 g S => ?_
    refine S.app (ie := Tt.ti2) 0 rfl rfl rfl (by omega) fun b4 g S => ?_
    refine WR.i64 ?_
    refine ⟨rows.length - (i + 1), by omega, i + 1, b4, rfl, hlt, ?_, rfl⟩
    rw [iota_succ, List.map_append]; exact S
  have hi2 : i = rows.length := by simp at h2; omega
  subst hi2
  have hrd := S.rdc 0 rfl (by omega)
  refine CallX.same (l07Det_c rows (by omega) z2 (iota rows.length) g _ _ _ (iota rows.length) (by rw [iota_length]; exact z1) (RII.le _ _ _ _ S.le hx) hrd hrd (fun i hi => iota_mem hi) (by rw [iota_length]; exact z1) (by rw [pick_iota]; exact z3)) ?_
  rintro r g2 ⟨rfl, rfl⟩
  rw [pick_iota]
  exact FinX.keep2 hw S.le rfl rfl ⟨rfl, rfl⟩

end Go.Gl

set_option linter.unusedVariables false
set_option linter.unusedSimpArgs false
namespace Go.Gl
open Go.Proofs Go.Proofs.Ytoeapenknlfffaa Go.Pl

section
variable {M : Nat → Prop} {n : Nat} {hb h : AH} {Rs : List Res}
theorem SepM.rw_lit (S : SepM M n hb h Rs) (j : Nat) {ti : TypeId} {T : List TypeId} {α : Type} {E : Tr α} {hE : Fr ti T E} {e : TypeId} {m k : Nat} {A : Option Addr} {c : Nat} {xs : List α} (hj : gt Rs j = some (.rw hE e m (.slice A k c) k xs)) (h0 : 0 < k) : ∃ b, A = some ⟨b, 0, none⟩ ∧ c = 1 := by
  obtain ⟨F, b, us, ls, G, h1, h2, h3, h4, h5⟩ := S.get hj
  rcases h3 with ⟨h3, _⟩ | ⟨_, h3, _⟩
  · injection h3 with h3 _ h6
    exact ⟨b, h3, h6⟩
  · omega
/-- a row of one tree -/
theorem SepM.bx_rw1 {b : Nat} {e : TypeId} {u : Value} {ti : TypeId} {T : List TypeId} {α : Type} {E : Tr α} {hE : Fr ti T E} {x : α} (S : SepM M n hb h (.bx b e 1 [u] :: .tr hE n u x :: Rs)) : SepM M n hb h (.rw hE e n (.slice (some ⟨b, 0, none⟩) 1 1) 1 [x] :: Rs) := by
  have hge := S.ge 0 rfl
  refine S.join fun F G hd h1 h2 => ?_
  obtain ⟨h1a, h1⟩ := h1
  obtain ⟨l, h2⟩ := h2
  exact ⟨b, [u], [l], G, hd b h1a, fun i hi => .inr hi, .inl ⟨rfl, only_some.2 ⟨.inl h1a, h1⟩, rfl⟩, hge, Row.one h2 (hE.nd _ _ _ _ _ h2)⟩
end
abbrev OJ : Tr (List Int) := Leaf 3
theorem OJ.fr : Fr 3 [] OJ := Leaf.fr 3
theorem OJ.reads : ∀ n h v x l, OJ n h v x l → RI h v x := fun _ _ _ _ _ h => Leaf.reads h

theorem choices_c : ∀ (n k : Nat) (h : AH), n ≤ 6 → k ≤ 1000 → ACalls Try.prog 96 [.int .i64 n, .int .i64 k] h (MadeW OJ.fr 78 h (chI n k))
  | n, 0, h, hn, hk => by
    refine ACalls.of Tt.tab Try.func96 rfl (by kernel_rfl) Try.ntmps96 _ rfl rfl (fun hw => ?_)
    have S := Sep.start h
    refine BIf.yes rfl ?_
    have e : chI n 0 = [[]] := by cases n <;> rfl
    rw [e]
    refine S.new fun b1 g S => ?_
    have S := S.bx_tr 0 (ti := 3) (xs := []) rfl (by simp) 1
    refine S.new fun b2 g S => ?_
    have S' : Sep h.length h g [.bx b2 78 1 [.slice (some ⟨b1, 0, none⟩) 0 1], .tr OJ.fr h.length (.slice (some ⟨b1, 0, none⟩) 0 1) []] := S
    exact S'.bx_rw1.finW 0 rfl
  | 0, k + 1, h, hn, hk => by
    refine ACalls.of Tt.tab Try.func96 rfl (by kernel_rfl) Try.ntmps96 _ rfl rfl (fun hw => ?_)
    have S := Sep.start h
    refine BIf.no (by simp; omega) ?_
    refine BIf.yes (by simp) ?_
    exact (S.nilrw OJ.fr 78).finW 0 rfl
  | n + 1, k + 1, h, hn, hk => by
    refine ACalls.of Tt.tab Try.func96 rfl (by kernel_rfl) Try.ntmps96 _ rfl rfl (fun hw => ?_)
    have S := Sep.start h
    refine BIf.no (by simp; omega) ?_
    refine BIf.mk (fun h1 => ?_) (fun h1 => ?_)
    · have h1 : n + 1 < k + 1 := by simp at h1; omega
      rw [chI_few h1]
      exact (S.nilrw OJ.fr 78).finW 0 rfl
    refine WR.as (r := (n : Int)) (by omega) ?_
    have l1 := chI_len n (k + 1)
    have l2 := chI_len n k
    have l3 : 2 ^ n ≤ 2 ^ 6 := Nat.pow_le_pow_right (by decide) (by omega)
    have l4 : (2 : Nat) ^ 6 = 64 := rfl
    refine S.madeW (choices_c n (k + 1) h (by omega) hk) fun A c g L S => ?_
    refine WR.as (r := (n : Int)) (by omega) ?_
    refine WR.as (r := (k : Int)) (by omega) ?_
    refine S.madeW (choices_c n k g (by omega) (by omega)) fun A2 c2 g L S => ?_
    refine ⟨⟨[0, 5, 23, 24, 25], fun n' vs g => ∃ (i : Nat) (A : Option Addr) (c : Nat), n' = (chI n k).length - i ∧ i ≤ (chI n k).length ∧ Sep h.length h g [.rw OJ.fr 78 h.length (.slice A2 (chI n k).length c2) (chI n k).length (chI n k), .rw OJ.fr 78 h.length (.slice A ((chI n (k + 1)).length + i) c) ((chI n (k + 1)).length + i) (chI n (k + 1) ++ ((chI n k).take i).map (· ++ [(n : Int)]))] ∧
      vs = [.int .i64 ((n + 1 : Nat) : Int), .slice A ((chI n (k + 1)).length + i) c, .slice A2 (chI n k).length c2, .int .i64 (chI n k).length, .int .i64 i], _, ⟨0, A, c, rfl, Nat.zero_le _, by simpa using S, rfl⟩, ?_⟩⟩
    rintro n' vs g ⟨i, A, c, rfl, hi, S, rfl⟩
    refine BIf.mk (fun h2 => ?_) (fun h2 => ?_)
    · have hlt : i < (chI n k).length := by simpa using h2
      obtain ⟨b2, rfl, rfl⟩ := S.rw_lit 0 rfl (by omega)
      have hrl := ((mem_chI n k _).1 (row_mem hlt)).1
      refine IdxX.mk (by omega) (by omega) ?_
      refine ((S.rdw OJ.reads 0 rfl (by omega)).cells1 rfl).rowY (Le.refl _) hlt fun b4 o4 h4 => ?_
      refine S.madeR (cloneInt_c _ _ (row (chI n k) i) h4 (by omega)) fun A3 c3 g L S => ?_
      refine WR.as (r := (n : Int)) (by omega) ?_
      refine S.new fun b5 g S => ?_
      refine S.app (ie := Tt.ti3) 0 rfl rfl rfl (by omega) fun b6 g S => ?_
      have S := S.recastR 0 (cells' := (row (chI n k) i ++ [(n : Int)]).map (.int .i64)) rfl (by rw [List.map_append]; rfl)
      have S := S.rc_tr 0 rfl (by simp; omega)
      refine S.new fun b7 g S => ?_
      refine S.appT (ie := Tt.ti78) 1 rfl rfl (by omega) fun b8 g S => ?_
      refine WR.i64 ?_
      refine ⟨(chI n k).length - (i + 1), by omega, i + 1, _, _, rfl, hlt, ?_, rfl⟩
      rw [take_succ_row hlt, List.map_append, ← List.append_assoc]
      exact S
    have hi2 : i = (chI n k).length := by simp at h2; omega
    subst hi2
    rw [List.take_length] at S
    exact S.finW 1 rfl
/-- the program's and the reference's greatest common divisor -/
theorem gcd_step (a b : Int) : Int.gcd b (a.tmod b) = Int.gcd a b := by
  unfold Int.gcd
  rw [Int.natAbs_tmod, Nat.gcd_comm, ← Nat.gcd_rec, Nat.gcd_comm]
theorem abs_max (a : Int) : (if -a > a then -a else a) = (Int.gcd a 0 : Nat) := by
  rw [Int.gcd_zero_right]
  split <;> omega
theorem tmod_rng {a b : Int} (hb : b ≠ 0) : (a.tmod b).natAbs < b.natAbs := by
  rw [Int.natAbs_tmod]
  exact Nat.mod_lt _ (by omega)

theorem divisor_c (h : AH) (a b : Int) (ha : a.natAbs ≤ 1000000000000) (hb : b.natAbs ≤ 1000000000000) : ACalls Try.prog 97 [.int .i64 a, .int .i64 b] h (fun r h' => r = .int .i64 (Int.gcd a b) ∧ h' = h) := by
  refine ACalls.of Tt.tab Try.func97 rfl (by kernel_rfl) Try.ntmps97 _ rfl rfl (fun hw => ?_)
  refine ⟨⟨[0, 1], fun n' vs g => ∃ x y : Int, n' = y.natAbs ∧ x.natAbs ≤ 1000000000000 ∧ y.natAbs ≤ 1000000000000 ∧ Int.gcd x y = Int.gcd a b ∧ g = h ∧ vs = [.int .i64 x, .int .i64 y], _, ⟨a, b, rfl, ha, hb, rfl, rfl, rfl⟩, ?_⟩⟩
  rintro n' vs g ⟨x, y, rfl, hx, hy, he, rfl, rfl⟩
  refine BIf.mk (fun h2 => ?_) (fun h2 => ?_)
  · have h2 : y ≠ 0 := by simpa using h2
    have h3 := tmod_rng (a := x) h2
    refine DrawX.of Tt.tab follows_any [] [] [0, 1, 2, 3, 4, 5] rfl (by kernel_rfl) (by kernel_rfl) ?_
    refine ⟨h2, ?_⟩
    exact ⟨(x.tmod y).natAbs, h3, y, x.tmod y, rfl, hy, by omega, by rw [gcd_step]; exact he, rfl, rfl⟩
  · have h2 : y = 0 := by simpa using h2
    subst h2
    refine WR.as (r := -x) (by omega) ?_
    refine FinX.keep hw (Le.refl _) rfl ⟨?_, rfl⟩
    show Value.int .i64 (if -x > x then -x else x) = _
    rw [abs_max, he]

theorem l07Gcd_c (h : AH) (a b : Int) (ha : a.natAbs ≤ 1000000000000) (hb : b.natAbs ≤ 1000000000000) : ACalls Try.prog 99 [.int .i64 a, .int .i64 b] h (fun r h' => r = .int .i64 (Int.gcd a b) ∧ h' = h) := by
  refine ACalls.of Tt.tab Try.func99 rfl (by kernel_rfl) Try.ntmps99 _ rfl rfl (fun hw => ?_)
  refine ⟨⟨[0, 1], fun n' vs g => ∃ x y : Int, n' = y.natAbs ∧ x.natAbs ≤ 1000000000000 ∧ y.natAbs ≤ 1000000000000 ∧ Int.gcd x y = Int.gcd a b ∧ g = h ∧ vs = [.int .i64 x, .int .i64 y], _, ⟨a, b, rfl, ha, hb, rfl, rfl, rfl⟩, ?_⟩⟩
  rintro n' vs g ⟨x, y, rfl, hx, hy, he, rfl, rfl⟩
  refine BIf.mk (fun h2 => ?_) (fun h2 => ?_)
  · have h2 : y ≠ 0 := by simpa using h2
    have h3 := tmod_rng (a := x) h2
    refine ⟨h2, ?_⟩
    exact ⟨(x.tmod y).natAbs, h3, y, x.tmod y, rfl, hy, by omega, by rw [gcd_step]; exact he, rfl, rfl⟩
  · have h2 : y = 0 := by simpa using h2
    subst h2
    refine WR.as (r := -x) (by omega) ?_
    refine FinX.keep hw (Le.refl _) rfl ⟨?_, rfl⟩
    show Value.int .i64 (if -x > x then -x else x) = _
    rw [abs_max, he]

end Go.Gl

set_option linter.unusedVariables false
set_option linter.unusedSimpArgs false
namespace Go.Gl
open Go.Proofs Go.Proofs.Ytoeapenknlfffaa Go.Pl

theorem flatMap_take {f : List Int → List (List Int)} {L : List (List Int)} {i : Nat} (h : i < L.length) : (L.take (i + 1)).flatMap f = (L.take i).flatMap f ++ f (row L i) := by
  rw [take_succ_row h, List.flatMap_append]; simp
theorem ext1_len (n : Nat) (l : List Int) : (ext1 n l).length = n - nxt l := by simp [ext1]
theorem flatMap_ext_len (n : Nat) : ∀ (L : List (List Int)), (L.flatMap (ext1 n)).length ≤ L.length * n
  | [] => by simp
  | l :: L => by
    have := flatMap_ext_len n L
    rw [List.flatMap_cons, List.length_append, ext1_len, List.length_cons, Nat.succ_mul]
    omega
theorem chS_len (n : Nat) : ∀ k, (chS n k).length ≤ n ^ k
  | 0 => by simp [chS]
  | k + 1 => by
    have h1 := chS_len n k
    have h2 := flatMap_ext_len n (chS n k)
    rw [Nat.pow_succ]
    exact Nat.le_trans h2 (Nat.mul_le_mul_right n h1)
theorem nxt_pos {l : List Int} {n : Nat} (h : Asc n l) (h0 : l ≠ []) : ith l (l.length - 1) + 1 = (nxt l : Nat) ∧ nxt l ≤ n := by
  have hm : ith l (l.length - 1) ∈ l := ith_mem (by have := List.length_pos_iff.2 h0; omega)
  have := h.1 _ hm
  unfold nxt
  rw [if_neg h0]
  omega

theorem l07Choices_c (h : AH) (n k : Nat) (hn : n ≤ 6) (hk : k ≤ 6) : ACalls Try.prog 98 [.int .i64 n, .int .i64 k] h (Made OII h (chS n k)) := by
  refine ACalls.madeN ?_
  refine ACalls.of Tt.tab Try.func98 rfl (by kernel_rfl) Try.ntmps98 _ rfl rfl (fun hw => ?_)
  have S := Sep.start h
  refine S.new fun b1 g S => ?_
  have S := S.bx_tr 0 (ti := 2) (xs := []) rfl (by simp) 1
  refine S.new fun b2 g S => ?_
  have S' : Sep h.length h g [.bx b2 26 1 [.slice (some ⟨b1, 0, none⟩) 0 1], .tr OI.fr h.length (.slice (some ⟨b1, 0, none⟩) 0 1) []] := S
  have S := S'.bx_rw1
  clear S'
  have hpow : ∀ j, j ≤ 6 → n ^ j ≤ 46656 := fun j hj => Nat.le_trans (Nat.pow_le_pow_left hn j) (Nat.le_trans (Nat.pow_le_pow_right (by decide) hj) (by decide))
  refine ⟨⟨[0, 1, 5], fun n' vs g => ∃ (j b : Nat), n' = k - j ∧ j ≤ k ∧ Sep h.length h g [.rw OI.fr 26 h.length (.slice (some ⟨b, 0, none⟩) (chS n j).length 1) (chS n j).length (chS n j)] ∧
    vs = [.int .i64 n, .int .i64 ((k : Int) - j), .slice (some ⟨b, 0, none⟩) (chS n j).length 1], _, ⟨0, b2, rfl, Nat.zero_le _, S, by simp only [Int.natCast_zero, Int.sub_zero]; rfl⟩, ?_⟩⟩
  rintro n' vs g ⟨j, b, rfl, hj, S, rfl⟩
  have hlj := Nat.le_trans (chS_len n j) (hpow j (by omega))
  refine BIf.mk (fun h2 => ?_) (fun h2 => ?_)
  · have h2 : j < k := by simp at h2; omega
    refine S.new fun b2 g S => ?_
    have S := S.bx_rw 0 OI.fr rfl
    refine ⟨⟨[0, 1, 5, 6, 7], fun n' vs g => ∃ (i m b' : Nat), n' = (chS n j).length - i ∧ i ≤ (chS n j).length ∧ Sep h.length h g [.rw OI.fr 26 h.length (.slice (some ⟨b', 0, none⟩) m 1) m (((chS n j).take i).flatMap (ext1 n)), .rw OI.fr 26 h.length (.slice (some ⟨b, 0, none⟩) (chS n j).length 1) (chS n j).length (chS n j)] ∧ (((chS n j).take i).flatMap (ext1 n)).length = m ∧
      vs = [.int .i64 n, .int .i64 ((k : Int) - j), .slice (some ⟨b, 0, none⟩) (chS n j).length 1, .slice (some ⟨b', 0, none⟩) m 1, .int .i64 i], _, ⟨0, 0, b2, rfl, Nat.zero_le _, S, rfl, rfl⟩, ?_⟩⟩
    rintro n' vs g ⟨i, m, b2, rfl, hi, S, hm, rfl⟩
    refine BIf.mk (fun h3 => ?_) (fun h3 => ?_)
    · have hlt : i < (chS n j).length := by simpa using h3
      obtain ⟨l, hl⟩ : ∃ l, row (chS n j) i = l := ⟨_, rfl⟩
      have hlm : l ∈ chS n j := hl ▸ row_mem hlt
      obtain ⟨hll, hla⟩ := (mem_chS n j l).1 hlm
      have hmb : m ≤ 300000 := by
        have := flatMap_ext_len n ((chS n j).take i)
        rw [hm, List.length_take] at this
        have h7 : min i (chS n j).length * n ≤ 46656 * 6 := Nat.mul_le_mul (by omega) hn
        omega
      refine IdxX.mk (by omega) (by omega) ?_
      refine ((S.rdw OI.reads 1 rfl (by omega)).cells1 rfl).rowY (Le.refl _) hlt fun b4 o4 h5 => ?_
      rw [hl] at h5 ⊢
      refine BIf.mk (fun h6 => ?_) (fun h6 => ?_)
      · have h6 : l ≠ [] := by rintro rfl; simp at h6
        have hpos := List.length_pos_iff.2 h6
        obtain ⟨hx1, hx2⟩ := nxt_pos hla h6
        refine IdxX.mk (by omega) (by omega) ?_
        refine ((S.rdw OI.reads 1 rfl (by omega)).cells1 rfl).rowY (Le.refl _) hlt fun b4 o4 h5 => ?_
        rw [hl] at h5 ⊢
        refine WR.as (r := ((l.length - 1 : Nat) : Int)) (by omega) ?_
        refine IdxX.mk (by omega) (by omega) ?_
        refine (h5.cells rfl).ith (Le.refl _) (show l.length - 1 < l.length by omega) ?_
        refine WR.as (r := (nxt l : Int)) hx1 ?_
        refine ⟨⟨[0, 1, 5, 6, 7, 10], fun n' vs g => ∃ (q b' : Nat), n' = (n - nxt l) - q ∧ q ≤ n - nxt l ∧ Sep h.length h g [.rw OI.fr 26 h.length (.slice (some ⟨b', 0, none⟩) (m + q) 1) (m + q) (((chS n j).take i).flatMap (ext1 n) ++ (List.range q).map fun j => l ++ [((nxt l + j : Nat) : Int)]), .rw OI.fr 26 h.length (.slice (some ⟨b, 0, none⟩) (chS n j).length 1) (chS n j).length (chS n j)] ∧
          vs = [.int .i64 n, .int .i64 ((k : Int) - j), .slice (some ⟨b, 0, none⟩) (chS n j).length 1, .slice (some ⟨b', 0, none⟩) (m + q) 1, .int .i64 i, .int .i64 ((nxt l + q : Nat) : Int)], _, ⟨0, b2, rfl, Nat.zero_le _, by simpa using S, rfl⟩, ?_⟩⟩
        rintro n' vs g ⟨q, b2, rfl, hq, S, rfl⟩
        refine BIf.mk (fun h4 => ?_) (fun h4 => ?_)
        · have h4 : nxt l + q < n := by simp at h4; omega
          refine IdxX.mk (by omega) (by omega) ?_
          refine ((S.rdw OI.reads 1 rfl (by omega)).cells1 rfl).rowY (Le.refl _) hlt fun b4 o4 h5 => ?_
          rw [hl] at h5 ⊢
          refine S.madeR (l01OwnR_c _ _ l h5 (by omega)) fun A c g L S => ?_
          refine S.new fun b5 g S => ?_
          refine S.app (ie := Tt.ti2) 0 rfl rfl rfl (by omega) fun b6 g S => ?_
          have S := S.recastR 0 (cells' := (l ++ [((nxt l + q : Nat) : Int)]).map (.int .i64)) rfl (by rw [List.map_append]; rfl)
          have S := S.rc_tr 0 rfl (by simp; omega)
          refine S.new fun b7 g S => ?_
          refine S.appT 0 rfl rfl (by omega) fun b8 g S => ?_
          refine WR.i64 ?_
          refine ⟨n - nxt l - (q + 1), by omega, q + 1, b8, rfl, by omega, ?_, rfl⟩
          rw [List.range_succ, List.map_append, ← List.append_assoc]
          exact S
        have hq2 : q = n - nxt l := by simp at h4; omega
        subst hq2
        refine WR.i64 ?_
        refine ⟨(chS n j).length - (i + 1), by omega, i + 1, m + (n - nxt l), b2, rfl, hlt, ?_, ?_, rfl⟩
        · rw [flatMap_take hlt, hl]; exact S
        · rw [flatMap_take hlt, List.length_append, ← hm, hl, ext1_len]
      · have h6 : l = [] := by
          have : l.length = 0 := by simpa using h6
          exact List.length_eq_zero_iff.1 this
        have hx0 : nxt l = 0 := by subst h6; rfl
        have hx2 : nxt l ≤ n := by omega
        refine ⟨⟨[0, 1, 5, 6, 7, 10], fun n' vs g => ∃ (q b' : Nat), n' = (n - nxt l) - q ∧ q ≤ n - nxt l ∧ Sep h.length h g [.rw OI.fr 26 h.length (.slice (some ⟨b', 0, none⟩) (m + q) 1) (m + q) (((chS n j).take i).flatMap (ext1 n) ++ (List.range q).map fun j => l ++ [((nxt l + j : Nat) : Int)]), .rw OI.fr 26 h.length (.slice (some ⟨b, 0, none⟩) (chS n j).length 1) (chS n j).length (chS n j)] ∧
          vs = [.int .i64 n, .int .i64 ((k : Int) - j), .slice (some ⟨b, 0, none⟩) (chS n j).length 1, .slice (some ⟨b', 0, none⟩) (m + q) 1, .int .i64 i, .int .i64 ((nxt l + q : Nat) : Int)], _, ⟨0, b2, rfl, Nat.zero_le _, by simpa using S, by rw [hx0]; rfl⟩, ?_⟩⟩
        rintro n' vs g ⟨q, b2, rfl, hq, S, rfl⟩
        refine BIf.mk (fun h4 => ?_) (fun h4 => ?_)
        · have h4 : nxt l + q < n := by simp at h4; omega
          refine IdxX.mk (by omega) (by omega) ?_
          refine ((S.rdw OI.reads 1 rfl (by omega)).cells1 rfl).rowY (Le.refl _) hlt fun b4 o4 h5 => ?_
          rw [hl] at h5 ⊢
          refine S.madeR (l01OwnR_c _ _ l h5 (by omega)) fun A c g L S => ?_
          refine S.new fun b5 g S => ?_
          refine S.app (ie := Tt.ti2) 0 rfl rfl rfl (by omega) fun b6 g S => ?_
          have S := S.recastR 0 (cells' := (l ++ [((nxt l + q : Nat) : Int)]).map (.int .i64)) rfl (by rw [List.map_append]; rfl)
          have S := S.rc_tr 0 rfl (by simp; omega)
          refine S.new fun b7 g S => ?_
          refine S.appT 0 rfl rfl (by omega) fun b8 g S => ?_
          refine WR.i64 ?_
          refine ⟨n - nxt l - (q + 1), by omega, q + 1, b8, rfl, by omega, ?_, rfl⟩
          rw [List.range_succ, List.map_append, ← List.append_assoc]
          exact S
        have hq2 : q = n - nxt l := by simp at h4; omega
        subst hq2
        refine WR.i64 ?_
        refine ⟨(chS n j).length - (i + 1), by omega, i + 1, m + (n - nxt l), b2, rfl, hlt, ?_, ?_, rfl⟩
        · rw [flatMap_take hlt, hl]; exact S
        · rw [flatMap_take hlt, List.length_append, ← hm, hl, ext1_len]
    have hi2 : i = (chS n j).length := by simp at h3; omega
    subst hi2
    rw [List.take_length] at S hm
    have hst : chS n (j + 1) = (chS n j).flatMap (ext1 n) := rfl
    rw [← hst] at S hm
    refine WR.as (r := (k : Int) - ((j + 1 : Nat) : Int)) (by omega) ?_
    exact ⟨k - (j + 1), by omega, j + 1, b2, rfl, h2, by rw [hm]; exact S.drop 1, by rw [hm]; rfl⟩
  have Sx := S
  have hj2 : k = j := by simp at h2; omega
  rw [hj2]
  exact (Sx.rw_tr 0 rfl (Nat.le_trans hlj (by decide))).fin 0 rfl

end Go.Gl

set_option linter.unusedVariables false
set_option linter.unusedSimpArgs false
namespace Go.Gl
open Go.Proofs Go.Proofs.Ytoeapenknlfffaa Go.Pl

/-- a matrix of any size -/
structure WMat (rows : List (List Int)) : Prop where
  few : rows.length ≤ 6
  wide : wid rows ≤ 6
  mat : wmat (wid rows) rows = true
theorem pick_ok {rows : List (List Int)} (hm : WMat rows) {l c : List Int} (hl : Asc rows.length l) (hc : Asc (wid rows) c) : (∀ r ∈ pick rows l, Small r) ∧ Cols (pick rows l) c := by
  refine ⟨fun r hr => ?_, fun x hx => ?_⟩
  · simp only [pick, List.mem_map] at hr
    obtain ⟨i, hi, rfl⟩ := hr
    have := hl.1 i hi
    exact wmat_small hm.mat _ (row_mem (by omega))
  · have hx := hc.1 x hx
    refine ⟨hx.1, fun r hr => ?_⟩
    simp only [pick, List.mem_map] at hr
    obtain ⟨i, hi, rfl⟩ := hr
    have := hl.1 i hi
    have := wmat_len hm.mat _ (row_mem (rows := rows) (i := i.toNat) (by omega))
    omega
theorem pick_length (rows : List (List Int)) (l : List Int) : (pick rows l).length = l.length := by simp [pick]
theorem minor_abs {rows : List (List Int)} (hm : WMat rows) {l c : List Int} (hl : Asc rows.length l) (hc : Asc (wid rows) c) (hll : l.length ≤ 6) (hcl : c.length ≤ 6) : (minor rows l c).natAbs ≤ 24794911296 := by
  obtain ⟨h1, h2⟩ := pick_ok hm hl hc
  have h3 := det_abs (pick rows l) c h1 hcl
  have h4 := pw6 (m := (pick rows l).length) (by rw [pick_length]; exact hll)
  unfold minor
  omega
theorem gcd_cast (g : Nat) (x : Int) : ((Int.gcd (g : Int) x : Nat) : Int) = ((Nat.gcd g x.natAbs : Nat) : Int) := rfl

theorem smith_c (h : AH) (v : Value) (rows : List (List Int)) (hx : RII h v rows) (hm : WMat rows) : ACalls Try.prog 48 [v] h (Made OI h (smith rows)) := by
  obtain ⟨b1, o1, k1, hx⟩ := hx.can
  have c1 := hx.cells rfl
  refine ACalls.madeI (ACalls.wk (args' := [.slice (some ⟨b1, o1, none⟩) rows.length 0]) ?_ (.cons k1 .nil))
  refine ACalls.of Tt.tab Try.func48 rfl (by kernel_rfl) Try.ntmps48 _ rfl rfl (fun hw => ?_)
  have hrf := hm.few
  have hrw := hm.wide
  have S0 := Sep.start h
  refine S0.new fun b2 g0 S0 => ?_
  have S1 := S0.bx_rc 0 (k := 0) rfl rfl
  refine ⟨⟨[0, 3, 4, 5], fun n' vs g => ∃ (k : Nat) (o : List Int) (b : Nat) (M : Nat → Prop) (hb : AH), n' = min rows.length (wid rows) + 1 - k ∧ 1 ≤ k ∧ k ≤ min rows.length (wid rows) + 1 ∧ Le h hb ∧ SepM M h.length hb g [.rc 2 1 h.length (.slice (some ⟨b, 0, none⟩) o.length 1) o.length (o.map (.int .i64))] ∧
    o ++ smithF rows k (min rows.length (wid rows) + 1 - k) = smith rows ∧ o.length ≤ 100 ∧ gmin rows (k - 1) ≠ 0 ∧ gmin rows (k - 1) ≤ 24794911296 ∧
    vs = [.slice (some ⟨b1, o1, none⟩) rows.length 0, .slice (some ⟨b, 0, none⟩) o.length 1, .int .i64 (gmin rows (k - 1) : Nat), .int .i64 k], _, ⟨1, [], b2, _, h, rfl, by omega, by omega, Le.refl _, S1, rfl, by simp, by rw [gmin_zero]; decide, by rw [gmin_zero]; decide, by rw [gmin_zero]; rfl⟩, ?_⟩⟩
  clear S0 S1
  rintro n' vs g ⟨k, o, b, M, hb, rfl, hk1, hk2, hlb, S, ho, hol, hz, hzb, rfl⟩
  refine BIf.mk (fun h2 => ?_) (fun h2 => ?_)
  · have h2 : k ≤ rows.length := by simpa using h2
    refine CallX.same (width_c g _ rows (RII.le _ _ _ _ (hlb.trans S.le) hx)) ?_
    rintro r g ⟨rfl, rfl⟩
    refine BIf.mk (fun h3 => ?_) (fun h3 => ?_)
    · have h3 : k ≤ wid rows := by simp at h3; omega
      have lL := chI_len rows.length k
      have lC := chI_len (wid rows) k
      have p6 : ∀ m, m ≤ 6 → 2 ^ m ≤ 64 := fun m hm => Nat.le_trans (Nat.pow_le_pow_right (by decide) hm) (by decide)
      have lL := Nat.le_trans lL (p6 _ hrf)
      have lC := Nat.le_trans lC (p6 _ hrw)
      have mL : ∀ l, l ∈ chI rows.length k → l.length = k ∧ Asc rows.length l := fun l hl => (mem_chI _ _ _).1 hl
      have mC : ∀ c, c ∈ chI (wid rows) k → c.length = k ∧ Asc (wid rows) c := fun c hc => (mem_chI _ _ _).1 hc
      have hgm : gmin rows k = gTab (minor rows) (chI rows.length k) (chI (wid rows) k) 0 := rfl
      have hgb : ∀ i, gTab (minor rows) ((chI rows.length k).take i) (chI (wid rows) k) 0 ≤ 24794911296 := fun i =>
        gTab_le (by omega) fun l hl c hc => minor_abs hm (mL l (List.mem_of_mem_take hl)).2 (mC c hc).2 (by rw [(mL l (List.mem_of_mem_take hl)).1]; omega) (by rw [(mC c hc).1]; omega)
      refine S.madeW (choices_c rows.length k g hrf (by omega)) fun A q g1 L S1 => ?_
      obtain ⟨F, hle, T, U⟩ := S1.alone 1 rfl
      have hle := hlb.trans hle
      have rL := T.rdw OJ.reads 0 rfl (by omega)
      have hlit := fun h0 => T.rw_lit 0 rfl h0
      clear S S1 T L
      generalize hLe : chI rows.length k = Ls at *
      generalize hCe : chI (wid rows) k = Cs at *
      refine ⟨⟨[0, 3, 4, 5, 6, 30, 31, 32], fun n' vs g => ∃ i : Nat, n' = Ls.length - i ∧ i ≤ Ls.length ∧ SepM F h.length (hide F g1) g [.rc 2 1 h.length (.slice (some ⟨b, 0, none⟩) o.length 1) o.length (o.map (.int .i64))] ∧
        vs = [.slice (some ⟨b1, o1, none⟩) rows.length 0, .slice (some ⟨b, 0, none⟩) o.length 1, .int .i64 (gmin rows (k - 1) : Nat), .int .i64 k, .int .i64 (gTab (minor rows) (Ls.take i) Cs 0 : Nat), .slice A Ls.length q, .int .i64 Ls.length, .int .i64 i], _, ⟨0, rfl, Nat.zero_le _, U, rfl⟩, ?_⟩⟩
      clear U
      rintro n' vs g ⟨i, rfl, hi, S, rfl⟩
      refine BIf.mk (fun h4 => ?_) (fun h4 => ?_)
      · have hlt : i < Ls.length := by simpa using h4
        obtain ⟨bL, rfl, rfl⟩ := hlit (by omega)
        have cL := rL.cells1 rfl
        obtain ⟨hl1, hl2⟩ := mL _ (row_mem hlt)
        refine IdxX.mk (by omega) (by omega) ?_
        refine cL.rowY S.le hlt fun b4 o4 h5 => ?_
        have hst : gTab (minor rows) (Ls.take (i + 1)) Cs 0 = gRow (minor rows (row Ls i)) Cs (gTab (minor rows) (Ls.take i) Cs 0) := gTab_take hlt
        have hgi := hgb i
        generalize row Ls i = l at *
        have c4 := h5.cells rfl
        refine S.new fun b5 g S => ?_
        have S := S.bx_rc 0 (k := 0) rfl rfl
        refine ⟨⟨[0, 3, 4, 5, 6, 9, 30, 31, 32, 37, 38, 39], fun n' vs g => ∃ (a b9 : Nat) (us : List Value), n' = l.length - a ∧ a ≤ l.length ∧ SepM F h.length (hide F g1) g [.rc 26 1 h.length (.slice (some ⟨b9, 0, none⟩) a 1) a us, .rc 2 1 h.length (.slice (some ⟨b, 0, none⟩) o.length 1) o.length (o.map (.int .i64))] ∧ Tell RI (hide F g1) us (pick rows (l.take a)) ∧
          vs = [.slice (some ⟨b1, o1, none⟩) rows.length 0, .slice (some ⟨b, 0, none⟩) o.length 1, .int .i64 (gmin rows (k - 1) : Nat), .int .i64 k, .int .i64 (gTab (minor rows) (Ls.take i) Cs 0 : Nat), .slice (some ⟨b9, 0, none⟩) a 1, .slice (some ⟨bL, 0, none⟩) Ls.length 1, .int .i64 Ls.length, .int .i64 i, .slice (some ⟨b4, o4, none⟩) l.length 0, .int .i64 l.length, .int .i64 a], _, ⟨0, b5, [], rfl, Nat.zero_le _, S, Tell.nil _, rfl⟩, ?_⟩⟩
        clear S
        rintro n' vs g ⟨a, b9, us, rfl, ha, S, ht, rfl⟩
        refine BIf.mk (fun h6 => ?_) (fun h6 => ?_)
        · have hla : a < l.length := by simpa using h6
          have hra := hl2.1 _ (ith_mem hla)
          refine IdxX.mk (by omega) (by omega) ?_
          refine c4.ith S.le hla ?_
          refine IdxX.mk (by omega) (by omega) ?_
          refine c1.rowY (k := (ith l a).toNat) (hle.trans S.le) (by omega) fun b6 o6 h7 => ?_
          refine S.new fun b7 g S => ?_
          refine S.app (ie := Tt.ti26) 0 rfl rfl rfl (by omega) fun b8 g S => ?_
          refine WR.i64 ?_
          refine ⟨l.length - (a + 1), by omega, a + 1, b8, _, rfl, hla, S, ?_, rfl⟩
          rw [take_succ_ith hla]
          unfold pick
          rw [List.map_append]
          exact ht.snoc (RI.le _ _ _ _ hle h7)
        have ha2 : a = l.length := by simp at h6; omega
        subst ha2
        rw [List.take_length] at ht
        refine CallX.same (width_c g _ rows (RII.le _ _ _ _ (hle.trans S.le) hx)) ?_
        rintro r g ⟨rfl, rfl⟩
        have hcc := choices_c (wid rows) k g hrw (by omega)
        rw [hCe] at hcc
        refine S.madeW hcc fun A2 q2 g2 L S2 => ?_
        have rP : RII g2 (.slice (some ⟨b9, 0, none⟩) l.length 1) (pick rows l) := S2.rdF 1 rfl (ht.le RI.le S2.le) (by omega)
        have rC := S2.rdw OJ.reads 0 rfl (by omega)
        have hlit2 := fun h0 => S2.rw_lit 0 rfl h0
        have Sout := (S2.drop 0).drop 0
        clear S S2 L
        refine ⟨⟨[0, 3, 4, 5, 6, 9, 30, 31, 32, 54, 55, 56], fun n' vs g => ∃ j : Nat, n' = Cs.length - j ∧ j ≤ Cs.length ∧ g = g2 ∧
          vs = [.slice (some ⟨b1, o1, none⟩) rows.length 0, .slice (some ⟨b, 0, none⟩) o.length 1, .int .i64 (gmin rows (k - 1) : Nat), .int .i64 k, .int .i64 (gRow (minor rows l) (Cs.take j) (gTab (minor rows) (Ls.take i) Cs 0) : Nat), .slice (some ⟨b9, 0, none⟩) l.length 1, .slice (some ⟨bL, 0, none⟩) Ls.length 1, .int .i64 Ls.length, .int .i64 i, .slice A2 Cs.length q2, .int .i64 Cs.length, .int .i64 j], _, ⟨0, rfl, Nat.zero_le _, rfl, rfl⟩, ?_⟩⟩
        rintro n' vs g ⟨j, rfl, hj, rfl, rfl⟩
        refine BIf.mk (fun h7 => ?_) (fun h7 => ?_)
        · have hlj : j < Cs.length := by simpa using h7
          obtain ⟨bC, rfl, rfl⟩ := hlit2 (by omega)
          have cC := rC.cells1 rfl
          obtain ⟨hc1, hc2⟩ := mC _ (row_mem hlj)
          obtain ⟨z1, z2⟩ := pick_ok hm hl2 hc2
          have hab := minor_abs hm hl2 hc2 (by omega) (by omega)
          have hgr : gRow (minor rows l) (Cs.take j) (gTab (minor rows) (Ls.take i) Cs 0) ≤ 24794911296 := gRow_le hgi fun c hc => minor_abs hm hl2 (mC c (List.mem_of_mem_take hc)).2 (by omega) (by rw [(mC c (List.mem_of_mem_take hc)).1]; omega)
          refine IdxX.mk (by omega) (by omega) ?_
          refine cC.rowY (Le.refl _) hlj fun b10 o10 h8 => ?_
          refine CallX.same (determinant_c (pick rows l) _ _ _ (row Cs j) (by rw [pick_length]; omega) rP h8 z1 (by omega) z2) ?_
          rintro r g3 ⟨rfl, rfl⟩
          refine CallX.same (divisor_c _ _ (det (pick rows l) (row Cs j)) (by omega) (by unfold minor at hab; omega)) ?_
          rintro r g4 ⟨rfl, rfl⟩
          refine WR.i64 ?_
          refine ⟨Cs.length - (j + 1), by omega, j + 1, rfl, hlj, rfl, ?_⟩
          rw [gRow_take hlj]; rfl
        have hj2 : j = Cs.length := by simp at h7; omega
        subst hj2
        refine WR.i64 ?_
        refine ⟨Ls.length - (i + 1), by omega, i + 1, rfl, hlt, Sout, ?_⟩
        rw [hst, List.take_length]; rfl
      · have hi2 : i = Ls.length := by simp at h4; omega
        subst hi2
        rw [List.take_length, ← hgm]
        have hgk := hgb Ls.length
        rw [List.take_length, ← hgm] at hgk
        have hsF : smithF rows k (min rows.length (wid rows) + 1 - k) = if gmin rows k = 0 then [] else ((gmin rows k / gmin rows (k - 1) : Nat) : Int) :: smithF rows (k + 1) (min rows.length (wid rows) - k) := by
          rw [show min rows.length (wid rows) + 1 - k = (min rows.length (wid rows) - k) + 1 by omega]; rfl
        refine BIf.mk (fun h5 => ?_) (fun h5 => ?_)
        · have h5 : gmin rows k = 0 := by simpa using h5
          rw [hsF, if_pos h5, List.append_nil] at ho
          rw [← ho]
          exact (S.rc_tr 0 rfl (by omega)).finB hle 0 rfl
        · have h5 : gmin rows k ≠ 0 := by simpa using h5
          rw [hsF, if_neg h5] at ho
          refine ⟨by omega, ?_⟩
          have hqb := Nat.div_le_self (gmin rows k) (gmin rows (k - 1))
          have hsl : o.length + 1 ≤ 6 := by
            have h8 := congrArg List.length ho
            have h9 := smithF_len rows (min rows.length (wid rows)) 1
            rw [List.length_append, List.length_cons] at h8
            unfold smith at h8
            omega
          obtain ⟨d, hd⟩ : ∃ d, gmin rows k / gmin rows (k - 1) = d := ⟨_, rfl⟩
          have hdi : ((gmin rows k : Nat) : Int).tdiv ((gmin rows (k - 1) : Nat) : Int) = (d : Int) := by rw [← hd]; rfl
          rw [hd] at ho hqb
          refine WR.as (r := (d : Int)) hdi ?_
          refine S.new fun b5 g S => ?_
          refine S.app (ie := Tt.ti2) 0 rfl rfl rfl (by omega) fun b6 g S => ?_
          refine WR.i64 ?_
          refine ⟨min rows.length (wid rows) + 1 - (k + 1), by omega, k + 1, o ++ [(d : Int)], b6, F, hide F g1, rfl, by omega, by omega, hle, ?_, ?_, ?_, h5, hgk, ?_⟩
          · rw [List.map_append, List.length_append]; exact S
          · rw [List.append_assoc, ← ho, show min rows.length (wid rows) + 1 - (k + 1) = min rows.length (wid rows) - k by omega]; rfl
          · rw [List.length_append]; simp; omega
          · rw [List.length_append]; rfl
    · have h3 : ¬ k ≤ wid rows := by simp at h3; omega
      rw [show min rows.length (wid rows) + 1 - k = 0 by omega] at ho
      have ho : o = smith rows := by rw [← ho]; simp [smithF]
      rw [← ho]
      exact (S.rc_tr 0 rfl (by omega)).finB hlb 0 rfl
  · have h2 : ¬ k ≤ rows.length := by simpa using h2
    rw [show min rows.length (wid rows) + 1 - k = 0 by omega] at ho
    have ho : o = smith rows := by rw [← ho]; simp [smithF]
    rw [← ho]
    refine BIf.no rfl ?_
    exact (S.rc_tr 0 rfl (by omega)).finB hlb 0 rfl

end Go.Gl

set_option linter.unusedVariables false
set_option linter.unusedSimpArgs false
namespace Go.Gl
open Go.Proofs Go.Proofs.Ytoeapenknlfffaa Go.Pl

theorem gRow_split {f : List Int → Int} {C : List (List Int)} {g : Nat} (j : Nat) : gRow f C g = gRow f (C.drop j) (gRow f (C.take j) g) := by
  conv => lhs; rw [← List.take_append_drop j C]
  unfold gRow
  rw [List.foldl_append]

theorem l07Smith_c (h : AH) (v : Value) (rows : List (List Int)) (hx : RII h v rows) (hm : WMat rows) : ACalls Try.prog 50 [v] h (Made OI h (smith rows)) := by
  obtain ⟨b1, o1, k1, hx⟩ := hx.can
  have c1 := hx.cells rfl
  refine ACalls.madeI (ACalls.wk (args' := [.slice (some ⟨b1, o1, none⟩) rows.length 0]) ?_ (.cons k1 .nil))
  refine ACalls.of Tt.tab Try.func50 rfl (by kernel_rfl) Try.ntmps50 _ rfl rfl (fun hw => ?_)
  have hrf := hm.few
  have hrw := hm.wide
  have S0 := Sep.start h
  refine S0.new fun b2 g0 S0 => ?_
  have S1 := S0.bx_rc 0 (k := 0) rfl rfl
  refine BIf.mk (fun h1 => ?_) (fun h1 => ?_)
  · have h1 : rows.length = 0 := by simpa using h1
    have : rows = [] := List.length_eq_zero_iff.1 h1
    subst this
    exact (S1.rc_tr 0 (xs := []) rfl (by simp)).fin 0 rfl
  have h1 : 0 < rows.length := by simp at h1; exact List.length_pos_iff.2 h1
  refine DrawX.of Tt.tab follows_any [] [] [0, 1, 2, 3, 4, 5, 6, 7, 8] rfl (by kernel_rfl) (by kernel_rfl) ?_
  refine IdxX.mk (by omega) (by omega) ?_
  refine c1.row S1.le h1 fun b0 o0 c0 => ?_
  rw [show (row rows 0).length = wid rows from rfl]
  refine ⟨⟨[0, 3, 4, 5, 6, 7], fun n' vs g => ∃ (k : Nat) (o : List Int) (b : Nat) (M : Nat → Prop) (hb : AH), n' = min rows.length (wid rows) + 1 - k ∧ 1 ≤ k ∧ k ≤ min rows.length (wid rows) + 1 ∧ Le h hb ∧ SepM M h.length hb g [.rc 2 1 h.length (.slice (some ⟨b, 0, none⟩) o.length 1) o.length (o.map (.int .i64))] ∧
    o ++ smithF rows k (min rows.length (wid rows) + 1 - k) = smith rows ∧ o.length ≤ 100 ∧ gmin rows (k - 1) ≠ 0 ∧ gmin rows (k - 1) ≤ 24794911296 ∧
    vs = [.slice (some ⟨b1, o1, none⟩) rows.length 0, .slice (some ⟨b, 0, none⟩) o.length 1, .int .i64 rows.length, .int .i64 (wid rows), .int .i64 (gmin rows (k - 1) : Nat), .int .i64 k], _, ⟨1, [], b2, _, h, rfl, by omega, by omega, Le.refl _, S1, rfl, by simp, by rw [gmin_zero]; decide, by rw [gmin_zero]; decide, by rw [gmin_zero]; rfl⟩, ?_⟩⟩
  clear S0 S1
  rintro n' vs g ⟨k, o, b, M, hb, rfl, hk1, hk2, hlb, S, ho, hol, hz, hzb, rfl⟩
  refine BIf.mk (fun h2 => ?_) (fun h2 => ?_)
  · have h2 : k ≤ rows.length ∧ k ≤ wid rows := by
      have := of_decide_eq_true h2
      split at this <;> omega
    obtain ⟨h2, h3⟩ := h2
    have hpow : ∀ n j, n ≤ 6 → j ≤ 6 → n ^ j ≤ 46656 := fun n j hn hj => Nat.le_trans (Nat.pow_le_pow_left hn j) (Nat.le_trans (Nat.pow_le_pow_right (by decide) hj) (by decide))
    have lL := Nat.le_trans (chS_len rows.length k) (hpow _ k hrf (by omega))
    have lC := Nat.le_trans (chS_len (wid rows) k) (hpow _ k hrw (by omega))
    have mL : ∀ l, l ∈ chS rows.length k → l.length = k ∧ Asc rows.length l := fun l hl => (mem_chS _ _ _).1 hl
    have mC : ∀ c, c ∈ chS (wid rows) k → c.length = k ∧ Asc (wid rows) c := fun c hc => (mem_chS _ _ _).1 hc
    have hgm := gmin_spec rows k
    have hdv : ∀ l c, l ∈ chS rows.length k → c ∈ chS (wid rows) k → gmin rows (k - 1) ∣ (minor rows l c).natAbs := fun l c hl hc =>
      gmin_dvd rows (k - 1) ⟨by rw [(mL l hl).1]; omega, (mL l hl).2⟩ ⟨by rw [(mC c hc).1]; omega, (mC c hc).2⟩
    have hgb : ∀ i, gTab (minor rows) ((chS rows.length k).take i) (chS (wid rows) k) 0 ≤ 24794911296 := fun i =>
      gTab_le (by omega) fun l hl c hc => minor_abs hm (mL l (List.mem_of_mem_take hl)).2 (mC c hc).2 (by rw [(mL l (List.mem_of_mem_take hl)).1]; omega) (by rw [(mC c hc).1]; omega)
    refine S.made OII.fr (l07Choices_c g rows.length k hrf (by omega)) fun bL oL g1 S1 => ?_
    refine S1.made OII.fr (l07Choices_c g1 (wid rows) k hrw (by omega)) fun bC oC g2 S2 => ?_
    obtain ⟨F, hle, T, U⟩ := S2.alone 2 rfl
    have hle := hlb.trans hle
    have cL := T.cellsII 1 rfl
    have cC := T.cellsII 0 rfl
    clear S S1 S2 T
    generalize hLe : chS rows.length k = Ls at *
    generalize hCe : chS (wid rows) k = Cs at *
    refine ⟨⟨[0, 3, 4, 5, 6, 7, 8, 9, 10, 11], fun n' vs g => ∃ i : Nat, n' = Ls.length - i ∧ i ≤ Ls.length ∧ g = g2 ∧
      vs = [.slice (some ⟨b1, o1, none⟩) rows.length 0, .slice (some ⟨b, 0, none⟩) o.length 1, .int .i64 rows.length, .int .i64 (wid rows), .int .i64 (gmin rows (k - 1) : Nat), .int .i64 k, .slice (some ⟨bL, oL, none⟩) Ls.length 0, .slice (some ⟨bC, oC, none⟩) Cs.length 0, .int .i64 (gTab (minor rows) (Ls.take i) Cs 0 : Nat), .int .i64 i], _, ⟨0, rfl, Nat.zero_le _, rfl, rfl⟩, ?_⟩⟩
    rintro n' vs g ⟨i, rfl, hi, rfl, rfl⟩
    refine BIf.mk (fun h4 => ?_) (fun h4 => ?_)
    · have hlt : i < Ls.length := by simpa using h4
      obtain ⟨hl1, hl2⟩ := mL _ (row_mem hlt)
      have hst : gTab (minor rows) (Ls.take (i + 1)) Cs 0 = gRow (minor rows (row Ls i)) Cs (gTab (minor rows) (Ls.take i) Cs 0) := gTab_take hlt
      have hgi := hgb i
      refine ⟨⟨[0, 3, 4, 5, 6, 7, 8, 9, 10, 11, 12], fun n' vs g' => ∃ j : Nat, n' = Cs.length - j ∧ j ≤ Cs.length ∧ g' = g ∧
        vs = [.slice (some ⟨b1, o1, none⟩) rows.length 0, .slice (some ⟨b, 0, none⟩) o.length 1, .int .i64 rows.length, .int .i64 (wid rows), .int .i64 (gmin rows (k - 1) : Nat), .int .i64 k, .slice (some ⟨bL, oL, none⟩) Ls.length 0, .slice (some ⟨bC, oC, none⟩) Cs.length 0, .int .i64 (gRow (minor rows (row Ls i)) (Cs.take j) (gTab (minor rows) (Ls.take i) Cs 0) : Nat), .int .i64 i, .int .i64 j], _, ⟨0, rfl, Nat.zero_le _, rfl, rfl⟩, ?_⟩⟩
      rintro n' vs g' ⟨j, rfl, hj, rfl, rfl⟩
      refine BIf.mk (fun h7 => ?_) (fun h7 => ?_)
      · have hlj : j < Cs.length := by simpa using h7
        refine BIf.mk (fun h8 => ?_) (fun h8 => ?_)
        · have h8 : gRow (minor rows (row Ls i)) (Cs.take j) (gTab (minor rows) (Ls.take i) Cs 0) = gmin rows (k - 1) := by simp at h8; omega
          refine WR.i64 ?_
          refine ⟨Ls.length - (i + 1), by omega, i + 1, rfl, hlt, rfl, ?_⟩
          have e : gTab (minor rows) (Ls.take (i + 1)) Cs 0 = gRow (minor rows (row Ls i)) (Cs.take j) (gTab (minor rows) (Ls.take i) Cs 0) := by
            rw [hst, gRow_split j, h8]
            exact gRow_stay fun c hc => hdv _ _ (row_mem hlt) (List.mem_of_mem_drop hc)
          rw [e]; rfl
        obtain ⟨hc1, hc2⟩ := mC _ (row_mem hlj)
        obtain ⟨z1, z2⟩ := pick_ok hm hl2 hc2
        have hab := minor_abs hm hl2 hc2 (by omega) (by omega)
        have hgr : gRow (minor rows (row Ls i)) (Cs.take j) (gTab (minor rows) (Ls.take i) Cs 0) ≤ 24794911296 := gRow_le hgi fun c hc => minor_abs hm hl2 (mC c (List.mem_of_mem_take hc)).2 (by omega) (by rw [(mC c (List.mem_of_mem_take hc)).1]; omega)
        refine DrawX.of Tt.tab follows_any [] [] [0, 1, 2, 3, 4, 5, 6, 7, 8, 9, 10, 11, 12] rfl (by kernel_rfl) (by kernel_rfl) ?_
        refine IdxX.mk (by omega) (by omega) ?_
        refine cL.rowY U.le hlt fun b4 o4 h5 => ?_
        refine IdxX.mk (by omega) (by omega) ?_
        refine cC.rowY U.le hlj fun b5 o5 h6 => ?_
        refine QCall.of (fun g3 hl => l07Det_c rows (by omega) (wmat_small hm.mat) (row Ls i) g3 _ _ _ (row Cs j) (by omega) (RII.le _ _ _ _ (hle.trans (U.le.trans hl)) hx) (RI.le _ _ _ _ (U.le.trans hl) h5) (RI.le _ _ _ _ (U.le.trans hl) h6) (fun x hx => by have := hl2.1 x hx; omega) (by omega) z2) rfl ?_
        refine QCall.of (fun g3 hl => l07Gcd_c g3 _ (det (pick rows (row Ls i)) (row Cs j)) (by omega) (by unfold minor at hab; omega)) rfl ?_
        refine WR.i64 ?_
        refine ⟨Cs.length - (j + 1), by omega, j + 1, rfl, hlj, rfl, ?_⟩
        rw [gRow_take hlj]; rfl
      have hj2 : j = Cs.length := by simp at h7; omega
      subst hj2
      refine WR.i64 ?_
      refine ⟨Ls.length - (i + 1), by omega, i + 1, rfl, hlt, rfl, ?_⟩
      rw [hst, List.take_length]; rfl
    · have hi2 : i = Ls.length := by simp at h4; omega
      subst hi2
      rw [List.take_length, hgm]
      have hgk := hgb Ls.length
      rw [List.take_length, hgm] at hgk
      have hsF : smithF rows k (min rows.length (wid rows) + 1 - k) = if gmin rows k = 0 then [] else ((gmin rows k / gmin rows (k - 1) : Nat) : Int) :: smithF rows (k + 1) (min rows.length (wid rows) - k) := by
        rw [show min rows.length (wid rows) + 1 - k = (min rows.length (wid rows) - k) + 1 by omega]; rfl
      refine BIf.mk (fun h5 => ?_) (fun h5 => ?_)
      · have h5 : gmin rows k = 0 := by simpa using h5
        rw [hsF, if_pos h5, List.append_nil] at ho
        rw [← ho]
        exact (U.rc_tr 0 rfl (by omega)).finB hle 0 rfl
      · have h5 : gmin rows k ≠ 0 := by simpa using h5
        rw [hsF, if_neg h5] at ho
        refine ⟨by omega, ?_⟩
        have hqb := Nat.div_le_self (gmin rows k) (gmin rows (k - 1))
        have hsl : o.length + 1 ≤ 6 := by
          have h8 := congrArg List.length ho
          have h9 := smithF_len rows (min rows.length (wid rows)) 1
          rw [List.length_append, List.length_cons] at h8
          unfold smith at h8
          omega
        obtain ⟨d, hd⟩ : ∃ d, gmin rows k / gmin rows (k - 1) = d := ⟨_, rfl⟩
        have hdi : ((gmin rows k : Nat) : Int).tdiv ((gmin rows (k - 1) : Nat) : Int) = (d : Int) := by rw [← hd]; rfl
        rw [hd] at ho hqb
        refine WR.as (r := (d : Int)) hdi ?_
        refine U.new fun b5 g S => ?_
        refine S.app (ie := Tt.ti2) 0 rfl rfl rfl (by omega) fun b6 g S => ?_
        refine WR.i64 ?_
        refine ⟨min rows.length (wid rows) + 1 - (k + 1), by omega, k + 1, o ++ [(d : Int)], b6, F, _, rfl, by omega, by omega, hle, ?_, ?_, ?_, h5, hgk, ?_⟩
        · rw [List.map_append, List.length_append]; exact S
        · rw [List.append_assoc, ← ho, show min rows.length (wid rows) + 1 - (k + 1) = min rows.length (wid rows) - k by omega]; rfl
        · rw [List.length_append]; simp; omega
        · rw [List.length_append]; rfl
  · have h2 : ¬ (k ≤ rows.length ∧ k ≤ wid rows) := by
      have := of_decide_eq_false h2
      split at this <;> omega
    rw [show min rows.length (wid rows) + 1 - k = 0 by omega] at ho
    have ho : o = smith rows := by rw [← ho]; simp [smithF]
    rw [← ho]
    exact (S.rc_tr 0 rfl (by omega)).finB hlb 0 rfl

def matOk (rows : List (List Int)) : Bool := decide (rows.length ≤ 6) && decide (0 ≤ (wid rows : Int) ∧ (wid rows : Int) ≤ 6) && wmat (wid rows) rows
theorem matOk_mk {rows : List (List Int)} (h : matOk rows = true) : WMat rows := by
  simp only [matOk, Bool.and_eq_true, decide_eq_true_eq] at h
  exact ⟨h.1.1, by omega, h.2⟩
def smithNum (rows : List (List Int)) : List Int × Int := if matOk rows then (smith rows, 0) else ([], 2)
def rankOf (rows : List (List Int)) : Int × Int := if matOk rows then ((smith rows).length, 0) else (0, 2)
theorem smithNum_cn (rows : List (List Int)) : cnI (smithNum rows).1 ≤ 100 := by
  unfold smithNum
  split
  · rename_i h
    have := smithF_len rows (min rows.length (wid rows)) 1
    have := (matOk_mk h).few
    simp only [cnI, smith]
    omega
  · simp [cnI]

theorem l07Given_c (h : AH) (v : Value) (rows : List (List Int)) (hx : RII h v rows) : ACalls Try.prog 49 [v] h (fun r h' => r = .int .i64 (if matOk rows then 0 else 2) ∧ h' = h) := by
  obtain ⟨b1, o1, k1, hx⟩ := hx.can
  have c1 := hx.cells rfl
  refine ACalls.wk (args' := [.slice (some ⟨b1, o1, none⟩) rows.length 0]) ?_ (.cons k1 .nil)
  refine ACalls.of Tt.tab Try.func49 rfl (by kernel_rfl) Try.ntmps49 _ rfl rfl (fun hw => ?_)
  refine BIf.mk (fun h1 => ?_) (fun h1 => ?_)
  · have h1 : 0 < rows.length := by simpa using h1
    refine IdxX.mk (by omega) (by omega) ?_
    refine c1.row (Le.refl _) h1 fun b0 o0 c0 => ?_
    rw [show (row rows 0).length = wid rows from rfl]
    refine BIf.mk (fun h2 => ?_) (fun h2 => ?_)
    · have h2 : ¬ rows.length ≤ 6 := by simp at h2; omega
      have e : matOk rows = false := by unfold matOk; rw [decide_eq_false h2, Bool.false_and, Bool.false_and]
      rw [e]
      refine BIf.yes rfl ?_
      refine BIf.yes rfl ?_
      exact FinX.keep hw (Le.refl _) rfl ⟨rfl, rfl⟩
    have h2 : rows.length ≤ 6 := by simp at h2; omega
    refine BIf.mk (fun h3 => ?_) (fun h3 => ?_)
    · have h3 : ¬ (wid rows : Int) ≤ 6 := by simp at h3; omega
      have e : matOk rows = false := by unfold matOk; rw [decide_eq_false (p := 0 ≤ (wid rows : Int) ∧ (wid rows : Int) ≤ 6) (by omega), Bool.and_false, Bool.false_and]
      rw [e]
      refine BIf.yes rfl ?_
      exact FinX.keep hw (Le.refl _) rfl ⟨rfl, rfl⟩
    have h3 : (wid rows : Int) ≤ 6 := by simp at h3 ⊢; omega
    refine CallX.same (l07Matrix_c h rows.length (wid rows) _ rows hx) ?_
    rintro r h ⟨rfl, rfl⟩
    have e : (decide ((rows.length : Int) = rows.length) && wmat (wid rows) rows) = matOk rows := by
      unfold matOk; rw [decide_eq_true rfl, decide_eq_true h2, decide_eq_true (p := 0 ≤ (wid rows : Int) ∧ (wid rows : Int) ≤ 6) (by omega)]; rfl
    rw [e]
    refine BIf.mk (fun h4 => ?_) (fun h4 => ?_)
    · have h4 : matOk rows = false := by simpa using h4
      rw [h4]
      exact FinX.keep hw (Le.refl _) rfl ⟨rfl, rfl⟩
    · have h4 : matOk rows = true := by simpa using h4
      rw [h4]
      exact FinX.keep hw (Le.refl _) rfl ⟨rfl, rfl⟩
  · have h1 : rows.length = 0 := by simp at h1; simp [h1]
    have h1 : rows = [] := List.length_eq_zero_iff.1 h1
    subst h1
    refine BIf.no rfl ?_
    refine BIf.no rfl ?_
    refine CallX.same (l07Matrix_c h 0 0 _ [] hx) ?_
    rintro r h ⟨rfl, rfl⟩
    refine BIf.no rfl ?_
    exact FinX.keep hw (Le.refl _) rfl ⟨rfl, rfl⟩

theorem smithNumI_c (h : AH) (v : Value) (rows : List (List Int)) (hx : RII h v rows) : ACalls Try.prog 8 [v] h (MadeC OI h (smithNum rows).1 (smithNum rows).2) := by
  obtain ⟨b1, o1, k1, hx⟩ := hx.can
  refine ACalls.wk (args' := [.slice (some ⟨b1, o1, none⟩) rows.length 0]) ?_ (.cons k1 .nil)
  refine ACalls.of Tt.tab Try.func8 rfl (by kernel_rfl) Try.ntmps8 _ rfl rfl (fun hw => ?_)
  have S := Sep.start h
  refine CallX.same (width_c h _ rows hx) ?_
  rintro r h ⟨rfl, rfl⟩
  refine CallX.same (isMatrix_c h (wid rows) _ rows hx) ?_
  rintro r h ⟨rfl, rfl⟩
  rw [show (decide (rows.length ≤ 6) && decide (0 ≤ (wid rows : Int) ∧ (wid rows : Int) ≤ 6) && wmat (wid rows) rows) = matOk rows from rfl]
  unfold smithNum
  refine BIf.mk (fun h1 => ?_) (fun h1 => ?_)
  · have h1 : matOk rows = false := by simpa using h1
    rw [h1]
    exact (Sep.start h).nilCI
  have h1 : matOk rows = true := by simpa using h1
  rw [h1]
  refine (Sep.start h).made OI.fr (smith_c h _ rows hx (matOk_mk h1)) fun b2 o2 g S => ?_
  exact S.finC 0 rfl

theorem smithNumS_c (h : AH) (v : Value) (rows : List (List Int)) (hx : RII h v rows) : ACalls Try.prog 9 [v] h (MadeC OI h (smithNum rows).1 (smithNum rows).2) := by
  obtain ⟨b1, o1, k1, hx⟩ := hx.can
  refine ACalls.wk (args' := [.slice (some ⟨b1, o1, none⟩) rows.length 0]) ?_ (.cons k1 .nil)
  refine ACalls.of Tt.tab Try.func9 rfl (by kernel_rfl) Try.ntmps9 _ rfl rfl (fun hw => ?_)
  refine CallX.same (l07Given_c h _ rows hx) ?_
  rintro r h ⟨rfl, rfl⟩
  unfold smithNum
  cases h1 : matOk rows with
  | false =>
    refine BIf.yes rfl ?_
    exact (Sep.start h).nilCI
  | true =>
    refine BIf.no rfl ?_
    refine (Sep.start h).made OI.fr (l07Smith_c h _ rows hx (matOk_mk h1)) fun b2 o2 g S => ?_
    exact S.finC 0 rfl

theorem rankOfI_c (h : AH) (v : Value) (rows : List (List Int)) (hx : RII h v rows) : ACalls Try.prog 10 [v] h (fun r h' => r = .tuple #[.int .i64 (rankOf rows).1, .int .i64 (rankOf rows).2] ∧ h' = h) := by
  obtain ⟨b1, o1, k1, hx⟩ := hx.can
  refine ACalls.wk (args' := [.slice (some ⟨b1, o1, none⟩) rows.length 0]) ?_ (.cons k1 .nil)
  refine ACalls.of Tt.tab Try.func10 rfl (by kernel_rfl) Try.ntmps10 _ rfl rfl (fun hw => ?_)
  refine CallX.canon (smithNumI_c h _ rows hx) ?_
  rintro r g ⟨v, l, rfl, o, L⟩
  obtain ⟨b2, o2, k2, o⟩ := Leaf.can o
  refine ⟨_, Wk.tuple (.cons k2 (.cons (Wk.refl _) .nil)), ?_⟩
  refine CallX.same (sizeI_c _ _ _ _ _) ?_
  rintro r g ⟨rfl, rfl⟩
  have e : (((smithNum rows).1.length : Nat) : Int) = (rankOf rows).1 ∧ (smithNum rows).2 = (rankOf rows).2 := by
    unfold smithNum rankOf; split <;> exact ⟨rfl, rfl⟩
  rw [e.1, e.2]
  exact FinX.keep2 hw L rfl rfl ⟨rfl, rfl⟩

theorem rankOfS_c (h : AH) (v : Value) (rows : List (List Int)) (hx : RII h v rows) : ACalls Try.prog 11 [v] h (fun r h' => r = .tuple #[.int .i64 (rankOf rows).1, .int .i64 (rankOf rows).2] ∧ h' = h) := by
  obtain ⟨b1, o1, k1, hx⟩ := hx.can
  refine ACalls.wk (args' := [.slice (some ⟨b1, o1, none⟩) rows.length 0]) ?_ (.cons k1 .nil)
  refine ACalls.of Tt.tab Try.func11 rfl (by kernel_rfl) Try.ntmps11 _ rfl rfl (fun hw => ?_)
  refine CallX.same (l07Given_c h _ rows hx) ?_
  rintro r h ⟨rfl, rfl⟩
  unfold rankOf
  cases h1 : matOk rows with
  | false =>
    refine BIf.yes rfl ?_
    exact FinX.keep2 hw (Le.refl _) rfl rfl ⟨rfl, rfl⟩
  | true =>
    refine BIf.no rfl ?_
    refine (Sep.start h).made OI.fr (l07Smith_c h _ rows hx (matOk_mk h1)) fun b2 o2 g S => ?_
    exact FinX.keep2 hw S.le rfl rfl ⟨rfl, rfl⟩

end Go.Gl

/- slices.Delete over a row of our own: out of the library's contract, laid at this seat's translation. No condition. -/
import Derived.Shelf.Slices.Delete
import Derived.Test.YtbjohihngoghlaaGlW
set_option linter.unusedVariables false
set_option linter.unusedSimpArgs false

namespace Go.Proofs
open Go.Shelf
def Try.laysDel_ren : Go.Shelf.Ren := ⟨fun | 23 => 239 | n => n, fun | 22 => 209 | 3 => 3 | 4 => 4 | 0 => 0 | n => n, fun | n => n⟩
theorem Try.laysDel : Go.Proofs.Lays2.n23 Try.prog Try.laysDel_ren := {
  mixed := by kernel_rfl
  f23 := Try.func239.trans (congrArg some (by kernel_rfl))
  t0 := Try.underlying0
  a0 := Try.isAgg0
  z0 := Try.sizeOf0
  v0 := Try.zeroValue0
  t3 := Try.underlying3
  a3 := Try.isAgg3
  z3 := Try.sizeOf3
  v3 := Try.zeroValue3
  t4 := Try.underlying4
  a4 := Try.isAgg4
  z4 := Try.sizeOf4
  v4 := Try.zeroValue4
  t22 := Try.underlying209
  a22 := Try.isAgg209
  z22 := Try.sizeOf209
  v22 := Try.zeroValue209
  i3 := by kernel_rfl }
open Go.RowKit Go.Lib Go.Sort in
theorem Try.del_int (blk off cap i j : Nat) (zs : List Int) (w : World) (hH : Holds (Value.int .i64) w blk off zs.toArray) (hcap : zs.length ≤ cap) (hm : cap ≤ 9223372036854775807) (hij : i ≤ j) (hj : j ≤ zs.length) :
    Calls Try.prog 239 #[.slice (some ⟨blk, off, none⟩) zs.length cap, .int .i64 i, .int .i64 j] w fun e w' => e = .returned (.slice (some ⟨blk, off, none⟩) (zs.length - (j - i)) cap) ∧ ∃ q, w' = putRow (Value.int .i64) (Sort.ahead w q) blk off (zs.take i ++ zs.drop j ++ List.replicate (j - i) 0).toArray := Any.slices_Delete_int Try.laysDel blk off cap i j zs w hH hcap hm hij hj
end Go.Proofs
namespace Go.Gl
open Go.Proofs Go.Proofs.Ytbjohihngoghlaa Go.Pl

theorem enters_of {P : Program} {f : FuncId} {fn : Func} (hf : P.funcs[f]? = some fn) (hb : fn.body.isSome = true) (hname : (fn.name == "runtime.NumGoroutine") = false) (xs : Array Value) (w : World) : (callFunc f xs).run P w = .ok (.enter f xs) w := by
  obtain ⟨c, hb⟩ := Option.isSome_iff_exists.1 hb
  have h1 : fn.name ≠ "runtime.NumGoroutine" := by simpa using hname
  simp [callFunc, hf, h1, hb, mark]
theorem deleteInt_c (h : AH) (b n i : Nat) (xs : List Int) (hl : look h b = some ⟨xs.map (.int .i64), some (3, 1)⟩) (hn : xs.length = n) (hi : i < n) :
    ACalls Try.prog 239 [.slice (some ⟨b, 0, none⟩) n 1, .int .i64 i, .int .i64 ((i + 1 : Nat) : Int)] h (fun r h' => r = .slice (some ⟨b, 0, none⟩) (n - 1) 1 ∧ h' = h.set b (some ⟨(xs.eraseIdx i).map (.int .i64), some (3, 1)⟩)) := by
  have hbl := look_lt hl
  refine ⟨enters_of Try.func239 (by kernel_rfl) (by kernel_rfl), fun ι w cargs hr hs ha => ?_⟩
  obtain ⟨u0, e0, v0⟩ := ha 0 _ rfl
  obtain ⟨u1, e1, v1⟩ := ha 1 _ rfl
  obtain ⟨u2, e2, v2⟩ := ha 2 _ rfl
  obtain ⟨rfl, _, hcap⟩ := v0.slS_inv
  have hu1 := v1.int_inv
  have hu2 := v2.int_inv
  subst hu1 hu2
  have hc : cargs = #[.slice (some ⟨(ι b).blk, (ι b).off, none⟩) n (ι b).cap, .int .i64 i, .int .i64 ((i + 1 : Nat) : Int)] := by
    apply Array.ext_getElem?
    intro k
    match k with
    | 0 => exact e0
    | 1 => exact e1
    | 2 => exact e2
    | k + 3 => rw [Array.getElem?_eq_none (by rw [hs]; simp)]; simp
  obtain ⟨cs, e, fr, g1, g2, g3⟩ := hr.blk b _ hl
  obtain ⟨rfl, rfl, hoff, hsz, hle, hcm⟩ := g3 _ _ rfl
  have hconc := hr.conc b
  have hcap : n ≤ (ι b).cap := by
    rcases hcap with h | h
    · exact h
    · rw [hconc] at h; cases h
  have hcell : ∀ k, k < n → cs[k]? = some (.int .i64 (ith xs k)) := fun k hk => by
    obtain ⟨u, q1, q2⟩ := g2 k (.int .i64 (ith xs k)) (by simp [ith, show k < xs.length by omega])
    rw [hoff, Nat.zero_add] at q1
    rw [q1, q2.int_inv]
  rw [hc, hoff]
  have hH : Go.Sort.Holds (Value.int .i64) w (ι b).blk 0 xs.toArray := by
    intro j hj
    have hj' : j < n := by simpa [hn] using hj
    refine ⟨?_, ?_⟩
    · have := hcell j hj'
      simp only [World.cell?, g1, Nat.zero_add]
      simp [this, ith, show j < xs.length by omega]
    · simp [World.frozen?, g1]
  have hcall := Try.del_int (ι b).blk 0 (ι b).cap i (i + 1) xs w hH (by omega) hcm (by omega) (by omega)
  rw [hn] at hcall
  refine hcall.mono fun e w' ⟨he, q, hw'⟩ => ?_
  have hrow : xs.take i ++ xs.drop (i + 1) ++ List.replicate (i + 1 - i) 0 = xs.eraseIdx i ++ [0] := by
    rw [List.eraseIdx_eq_take_drop_succ, show i + 1 - i = 1 by omega]; rfl
  rw [hrow] at hw'
  have hel : (xs.eraseIdx i).length = n - 1 := by rw [List.length_eraseIdx_of_lt (by omega), hn]
  have hheap : ∀ k, k ≠ (ι b).blk → w'.heap[k]? = w.heap[k]? := fun k hk => by
    rw [hw']
    simp [Go.Sort.putRow, Go.Sort.mapBlock, Go.Sort.ahead, Array.getElem?_modify, Ne.symm hk]
  have hnew : w'.heap[(ι b).blk]? = some (.cells (Go.Sort.putCells (Value.int .i64) 0 (xs.eraseIdx i ++ [0]).toArray cs) 3 (0, 0)) := by
    rw [hw']
    simp [Go.Sort.putRow, Go.Sort.mapBlock, Go.Sort.ahead, Array.getElem?_modify, g1, Go.Sort.onCells]
  have hnc : ∀ k, k < n → (Go.Sort.putCells (Value.int .i64) 0 (xs.eraseIdx i ++ [0]).toArray cs)[k]? = some (.int .i64 (ith (xs.eraseIdx i ++ [0]) k)) := fun k hk => by
    simp only [Go.Sort.putCells, Array.getElem?_mapIdx, hcell k hk, Option.map_some]
    rw [if_pos ⟨by omega, by simp [hel]; omega⟩]
    have hkl : k < (xs.eraseIdx i ++ [0]).length := by simp [hel]; omega
    simp [ith, hkl]
  have hsize : (Go.Sort.putCells (Value.int .i64) 0 (xs.eraseIdx i ++ [0]).toArray cs).size = cs.size := by simp [Go.Sort.putCells]
  refine ⟨_, _, _, ι, he, ⟨rfl, rfl⟩, ?_, ?_⟩
  · have := VR.slS (ι := ι) (n := (h.set b (some ⟨(xs.eraseIdx i).map (.int .i64), some (3, 1)⟩)).length) b (n - 1) (by simpa using hbl) (.inl (by omega))
    rw [hoff] at this
    rw [show n - (i + 1 - i) = n - 1 by omega]
    exact this
  · refine ⟨⟨fun j blk hj => ?_, fun j k bj bk hj hk ho hne => ?_, hr.conc⟩, fun _ _ => rfl, by simp, fun k hk hno => hheap k fun e => hno b _ hl rfl e.symm, fun j blk hj ho => ?_, by rw [hw']; simp [Go.Sort.ahead], by rw [hw']; rfl, by rw [hw']; rfl, by rw [hw']; rfl⟩
    · rw [look_set hbl] at hj
      split at hj
      · rename_i e; subst e
        injection hj with hj
        subst hj
        refine ⟨_, _, _, hnew, fun k v hk => ?_, fun t s hts => ?_⟩
        · have hk1 : k < n - 1 := by have := (List.getElem?_eq_some_iff.1 hk).1; simpa [hel] using this
          refine ⟨_, by rw [hoff, Nat.zero_add]; exact hnc k (by omega), ?_⟩
          have : v = .int .i64 (ith (xs.eraseIdx i ++ [0]) k) := by
            rw [ith_append_left (by omega)]
            simp only [List.getElem?_map, Option.map_eq_some_iff] at hk
            obtain ⟨y, hy, rfl⟩ := hk
            simp [ith, hy]
          rw [this]
          exact .int _ _
        · simp only [Option.some.injEq, Prod.mk.injEq] at hts
          obtain ⟨rfl, rfl⟩ := hts
          exact ⟨rfl, rfl, hoff, by rw [hsize]; exact hsz, by simp [hel, hsize] at hle ⊢; omega, hcm⟩
      · rename_i hne
        obtain ⟨c2, e2, f2, k1, k2, k3⟩ := hr.blk j blk hj
        refine ⟨c2, e2, f2, by rw [hheap _ (hr.inj b j _ _ hl hj rfl (Ne.symm hne)).symm]; exact k1, fun k v hk => ?_, k3⟩
        obtain ⟨u, q1, q2⟩ := k2 k v hk
        exact ⟨u, q1, by rw [List.length_set]; exact q2⟩
    · -- blocks of our own are apart
      rw [look_set hbl] at hj hk
      have hj' : ∃ x, look h j = some x ∧ x.own.isSome = bj.own.isSome := by
        split at hj
        · rename_i e; subst e; injection hj with hj; exact ⟨_, hl, by rw [← hj]⟩
        · exact ⟨_, hj, rfl⟩
      have hk' : ∃ x, look h k = some x := by
        split at hk
        · rename_i e; subst e; exact ⟨_, hl⟩
        · exact ⟨_, hk⟩
      obtain ⟨x, hx, hxo⟩ := hj'
      obtain ⟨y, hy⟩ := hk'
      exact hr.inj j k x y hx hy (by rw [hxo]; exact ho) hne
    · rw [look_set hbl] at hj
      split at hj
      · rename_i e; subst e; exact .inr ⟨j, _, hl, rfl, rfl⟩
      · exact .inr ⟨j, blk, hj, ho, rfl⟩
end Go.Gl


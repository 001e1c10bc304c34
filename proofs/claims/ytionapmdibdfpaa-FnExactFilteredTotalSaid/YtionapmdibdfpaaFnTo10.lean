/- Chapter 3: TotalOf and FilteredTotal, how many numbers the results have. No condition. -/
import Derived.Test.YtionapmdibdfpaaFnTo9
set_option linter.unusedVariables false
set_option linter.unusedSimpArgs false
namespace Go.Gl
open Go.Proofs Go.Proofs.Ytionapmdibdfpaa Go.Pl

theorem cnII_mulT {m : Nat} : ∀ {rows : List (List Int)}, (∀ r ∈ rows, r.length ≤ m) → cnII rows ≤ rows.length * m
  | [], _ => by simp [cnII, cnL]
  | r :: rows, h => by
    have h1 := cnII_mulT (rows := rows) fun r hr => h r (List.mem_cons_of_mem _ hr)
    have h2 := h r List.mem_cons_self
    simp only [cnII, cnL, List.map_cons, List.sum_cons, List.length_cons, Nat.succ_mul] at h1 ⊢
    have h3 : cnI r ≤ m := h2
    omega
theorem tot_cn (x : SDouble) (hd : DShape x) (rows : Bool) : cnFiltered (totR x rows).1 ≤ 1000 := by
  unfold totR
  split
  · rename_i h5
    split
    · rename_i hs
      have hl : ∀ n, n < topT x + 1 → dimT x n ≤ 8 := fun n hn => small_at hs hn
      have h1 : cnII (levelsT x rows) ≤ (topT x + 1) * 8 := cnL_range fun n hn => by
        show ((List.range (n + 1)).flatMap (levF x rows n)).length ≤ 8
        rw [levF_flat]
        exact hl n hn
      have h2 : cnIII (mapsT x) ≤ topT x * 64 := cnL_range fun a ha => by
        have a1 := hl (a + 1) (by omega)
        have a2 := hl a (by omega)
        have h3 : cnII (rowsT x (a + 1)) ≤ (rowsT x (a + 1)).length * 8 := cnII_mulT fun r hr => by
          unfold rowsT at hr
          obtain ⟨i, hi, hr⟩ := List.mem_flatMap.1 hr
          unfold cellT tabR at hr
          obtain ⟨k, hk, rfl⟩ := List.mem_map.1 hr
          rw [row_len hd (by omega) (List.mem_range.1 hk)]
          exact a2
        have h4 : (rowsT x (a + 1)).length = dimT x (a + 1) := cellT_flat x (a + 1) (a + 1 + 1)
        omega
      have h3 : cnI (dimsT x) = topT x + 1 := tab_length _ _
      show cnI (dimsT x) + cnIII (mapsT x) + cnII (levelsT x rows) ≤ 1000
      omega
    · decide
  · decide
theorem ft_cn (x : SDouble) (rows : Bool) : cnFiltered (ftR x rows).1 ≤ 1000 := by
  unfold ftR
  split
  · rename_i h
    exact tot_cn x (dOk_mk h).toDShape rows
  · decide
theorem to_cn (x : SDouble) : cnComplex (toR x).1 ≤ 1000 := by
  have := ft_cn x false
  have h : cnFiltered (ftR x false).1 = cnComplex (ftR x false).1.complex + cnII (ftR x false).1.levels := rfl
  show cnComplex (ftR x false).1.complex ≤ 1000
  omega
end Go.Gl

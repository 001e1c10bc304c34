/- Rows of rows, one behind the other: slices.Concat. No condition. -/
import Derived.Test.YthhilbeddkkigaaDoorGlW
import Derived.Test.YthhilbeddkkigaaDoorFnR
set_option linter.unusedVariables false
set_option linter.unusedSimpArgs false
namespace Go.Gl
open Go.Proofs Go.Proofs.YthhilbeddkkigaaDoor Go.Pl

/-- append of zeros, at least one -/
theorem SepM.appZp {M : Nat → Prop} {n : Nat} {hb h : AH} {Rs : List Res} (S : SepM M n hb h Rs) (j : Nat) {e : TypeId} {v : Value} {k m : Nat} {cells : List Value} {ie : TI} (hj : gt Rs j = some (.rc e 1 n v k cells)) {K : Value → AH → Prop} (hm : 0 < m) (hl : k + m ≤ 10000000000)
    (hk : ∀ b h', SepM M n hb h' (st Rs j (.rc e 1 n (.slice (some ⟨b, 0, none⟩) (k + m) 1) (k + m) (cells ++ List.replicate m ie.zval))) → K (.slice (some ⟨b, 0, none⟩) (k + m) 1) h') (hag : ie.agg = false := by rfl) (hs : ie.size = 1 := by rfl) (hby : ie.bytes ≤ 8192 := by decide) : AppZ h e ie v (.int .i64 (m : Int)) K := by
  refine S.appZ j hj hl (fun A c h' S' => ?_) hag hs hby
  have hst : gt (st Rs j (.rc e 1 n (.slice A (k + m) c) (k + m) (cells ++ List.replicate m ie.zval))) j = some (.rc e 1 n (.slice A (k + m) c) (k + m) (cells ++ List.replicate m ie.zval)) := by
    clear hk S' S
    induction Rs generalizing j with
    | nil => cases hj
    | cons R Rs ih => cases j with
      | zero => rfl
      | succ j => exact ih j hj
  obtain ⟨F, b, h1, _⟩ := S'.get hst
  rcases h1 with ⟨h1, _⟩ | ⟨_, h1, _⟩
  · injection h1 with h1 _ h2
    subst h1 h2
    exact hk b h' S'
  · omega
theorem lt0F {x : Int} (h : 0 ≤ x) : decide (x < 0) = false := by simp; omega

end Go.Gl

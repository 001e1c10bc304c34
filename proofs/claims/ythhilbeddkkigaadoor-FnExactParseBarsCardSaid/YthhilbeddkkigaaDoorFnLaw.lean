/- The law's own helpers over the view: comparing, copying, counting, marking. No condition. -/
import Derived.Test.YthhilbeddkkigaaDoorGlK
set_option linter.unusedVariables false
namespace Go.Gl
open Go.Proofs Go.Proofs.YthhilbeddkkigaaDoor

theorem follows_any : Tryd.prog.follows .mixedOrders = true := by kernel_rfl


/-- the type int64 -/
abbrev tI : TypeId := 2
abbrev OI : Tr (List Int) := Leaf tI
abbrev OII : Tr (List (List Int)) := Node 0 OI
abbrev OIII : Tr (List (List (List Int))) := Node 0 OII
abbrev OIIII : Tr (List (List (List (List Int)))) := Node 0 OIII
abbrev sI : List TypeId := []
abbrev sII : List TypeId := [0]
abbrev sIII : List TypeId := [0, 0]
abbrev sIIII : List TypeId := [0, 0, 0]
theorem OI.fr : Fr tI sI OI := Leaf.fr tI
theorem OII.fr : Fr tI sII OII := Node.fr _ OI.fr
theorem OIII.fr : Fr tI sIII OIII := Node.fr _ OII.fr
theorem OIIII.fr : Fr tI sIIII OIIII := Node.fr _ OIII.fr
theorem OI.reads : ∀ n h v x l, OI n h v x l → RI h v x := fun _ _ _ _ _ h => Leaf.reads h
theorem OII.reads : ∀ n h v x l, OII n h v x l → RII h v x := fun _ _ _ _ _ h => Node.reads OI.reads h
theorem OIII.reads : ∀ n h v x l, OIII n h v x l → RIII h v x := fun _ _ _ _ _ h => Node.reads OII.reads h
theorem OIIII.reads : ∀ n h v x l, OIIII n h v x l → RIIII h v x := fun _ _ _ _ _ h => Node.reads OIII.reads h
abbrev numII := numL numI cnI
abbrev cnII : List (List Int) → Nat := cnL cnI
abbrev numIII := numL numII cnII
abbrev cnIII : List (List (List Int)) → Nat := cnL cnII
abbrev numIIII := numL numIII cnIII
abbrev cnIIII : List (List (List (List Int))) → Nat := cnL cnIII
abbrev ctII : List (List Int) → Nat := ctL ctI
abbrev ctIII : List (List (List Int)) → Nat := ctL ctII
abbrev ctIIII : List (List (List (List Int))) → Nat := ctL ctIII

theorem cnI_le (x : List Int) : cnI x ≤ ctI x := Nat.le_refl _
theorem cnII_le (x : List (List Int)) : cnII x ≤ ctII x := cnL_le_ctL cnI_le x
theorem cnIII_le (x : List (List (List Int))) : cnIII x ≤ ctIII x := cnL_le_ctL cnII_le x
theorem cnIIII_le (x : List (List (List (List Int)))) : cnIIII x ≤ ctIIII x := cnL_le_ctL cnIII_le x

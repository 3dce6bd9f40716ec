import Derived.Test.YthfbfonjoekdcaaDoorCards
import Derived.Test.YthfbfonjoekdcaaDoorTie
import Derived.WalkKit
import Derived.ProofKit
import Derived.OpenShut
import Derived.Deep.DeepHandedRow
import Derived.Lib.LaidTab
import Derived.Stop.LaidErr
import Derived.Test.YthfbfonjoekdcaaDoorT1
namespace Go.Proofs.YthfbfonjoekdcaaDoor.fnExactBehaviorName
open Go.ChangeShapes Go.WideShapes Go.ChangeAt Go.RowKit
set_option linter.unusedVariables false
/-- What the package-level variables hold stays. -/
def Kept (w w' : World) : Prop := ∀ n cs, w.var? Tryd.prog n = some cs → w'.var? Tryd.prog n = some cs
theorem five (a : Int) : a = 0 ∨ a = 1 ∨ a = 2 ∨ a = 3 ∨ a = 4 ∨ ((0 ≤ a) = False) ∨ ((0 ≤ a) = True ∧ (a ≤ 4) = False) := by
  simp only [eq_iff_iff, iff_false, iff_true]; omega
theorem nameOf_lo {a : Int} (h : (0 ≤ a) = False) : nameOf a = [] := by unfold nameOf; rw [if_neg (by simp [h])]
theorem nameOf_hi {a : Int} (h : (a ≤ 4) = False) : nameOf a = [] := by unfold nameOf; rw [if_neg (by simp [h])]
theorem specW (a : Int) (w : World) : Calls Tryd.prog 4 #[.int .i64 a] w fun e w' => e = .returned (strV (nameOf a)) ∧ Grown w w' ∧ Kept w w' := by
  rcases five a with rfl | rfl | rfl | rfl | rfl | h | ⟨h1, h⟩
  all_goals first | rw [nameOf_lo h] | rw [nameOf_hi h] | skip
  all_goals go_enter Tryd.func4, Tryd.ntmps4
  all_goals go_wp2
  all_goals go_ret
  all_goals exact ⟨by first | rfl | decide, by repeat (first | exact Grown.refl _ | apply Grown.drew | apply Grown.alloc), fun n cs hk => by repeat (first | exact hk | apply var?_drew | apply var?_alloc)⟩
theorem implW (a : Int) (w : World) (h0 : w.cell? ⟨0, 0, none⟩ = some (strV (nameOf 0))) (h1 : w.cell? ⟨0, 1, none⟩ = some (strV (nameOf 1))) (h2 : w.cell? ⟨0, 2, none⟩ = some (strV (nameOf 2))) (h3 : w.cell? ⟨0, 3, none⟩ = some (strV (nameOf 3))) (h4 : w.cell? ⟨0, 4, none⟩ = some (strV (nameOf 4))) :
    Calls Tryd.prog 5 #[.int .i64 a] w fun e w' => e = .returned (strV (nameOf a)) ∧ Grown w w' ∧ Kept w w' := by
  rcases five a with rfl | rfl | rfl | rfl | rfl | h | ⟨h1, h⟩
  all_goals first | rw [nameOf_lo h] | rw [nameOf_hi h] | skip
  all_goals go_enter Tryd.func5, Tryd.ntmps5
  all_goals go_wp2
  all_goals go_ret
  all_goals exact ⟨by first | rfl | decide, by repeat (first | exact Grown.refl _ | apply Grown.drew | apply Grown.alloc), fun n cs hk => by repeat (first | exact hk | apply var?_drew | apply var?_alloc)⟩
end Go.Proofs.YthfbfonjoekdcaaDoor.fnExactBehaviorName

import Derived.Test.YthfbfonjoekdcaaDoorCards
import Derived.Test.YthfbfonjoekdcaaDoorTie
import Derived.WalkKit
import Derived.ProofKit
import Derived.OpenShut
import Derived.Deep.DeepHandedRow
import Derived.Lib.LaidTab
import Derived.Test.YthfbfonjoekdcaaDoorT2
namespace Go.Proofs.YthfbfonjoekdcaaDoor.fnExactBehaviorName
open Go.ChangeShapes Go.WideShapes Go.ChangeAt Go.RowKit
set_option linter.unusedVariables false
def tabIs (w : World) : Prop := w.var? Tryd.prog "loop.example/g00513/impl.behaviorNames" = some (names.map strV).toArray
theorem cell_at {w : World} (h : tabIs w) (i : Nat) (v : Value) (hv : (names.map strV)[i]? = some v) : w.cell? ⟨0, i, none⟩ = some v := by
  have := World.var?_cell gTab h i
  simpa [hv] using this
theorem implT (a : Int) (w : World) (h : tabIs w) : Calls Tryd.prog 5 #[.int .i64 a] w fun e w' => e = .returned (strV (nameOf a)) ∧ Grown w w' ∧ Kept w w' :=
  implW a w (cell_at h 0 _ rfl) (cell_at h 1 _ rfl) (cell_at h 2 _ rfl) (cell_at h 3 _ rfl) (cell_at h 4 _ rfl)
theorem grown_trans {a b c : World} (h1 : Grown a b) (h2 : Grown b c) : Grown a c :=
  ⟨World.keptBut_trans h1.1 h2.1, fun x => (h2.2.1 x).trans (h1.2.1 x), Nat.le_trans h1.2.2 h2.2.2⟩
theorem lawW (a : Int) (w : World) (h : tabIs w) : Calls Tryd.prog 3 #[.int .i64 a] w fun e w' => e = .returned (.bool true) ∧ Grown w w' ∧ Kept w w' := by
  obtain ⟨s, hs⟩ : ∃ s, strV (nameOf a) = .string s := ⟨_, rfl⟩
  have S := specW a
  have I := implT a
  simp only [hs] at S I
  go_enter Tryd.func3, Tryd.ntmps3
  go_wp2_with (first
    | (go_at_call 4; refine (S _).mono ?_; rintro e w1 ⟨rfl, g1, k1⟩)
    | (go_at_call 5; refine (I _ (k1 _ _ h)).mono ?_; rintro e w2 ⟨rfl, g2, k2⟩))
  go_ret
  exact ⟨rfl, grown_trans g1 g2, fun n cs hk => k2 _ _ (k1 _ _ hk)⟩
end Go.Proofs.YthfbfonjoekdcaaDoor.fnExactBehaviorName

/- The law FnExactNewSource returns true for every input and leaves its arguments as they were. No condition. -/
import Derived.Test.YtpkbkphpepkmpaaNewSource1
import Derived.Test.YtpkbkphpepkmpaaProg
import Derived.Test.YtpkbkphpepkmpaaRows
import Derived.Test.YtpkbkphpepkmpaaFX
namespace Go.Proofs.Ytpkbkphpepkmpaa
open Go.RowKit
set_option linter.unusedVariables false
set_option linter.unusedSimpArgs false
def S_laws_toByteS : Sum := { fid := 5, dom := [s22], cod := [s22], dp := true, fz := false, pre := fun x => (pTo s22) x.1, g := fun x => (((idD s22) x.1), ()) }
def S_laws_toByteS_tab : List (Nat × Sum) := []
theorem S_laws_toByteS_ok : FnOK Try.prog 5 S_laws_toByteS := by
 refine at_enter 22 (fun x => ⟨[(0, aF (.u8 5) x.1)], []⟩) Try.func5 rfl (by kernel_rfl) (fun x => rfl) ?_
 rintro w0 Z0 ⟨x0, u⟩ a w
 revert x0
 intro (x0 : (List Int)) hpre hlens h
 replace hpre : (pTo s22) x0 := hpre
 have hl1 : List.length x0 ≤ 9223372036854775807 := hlens.1.1
 have hu0 : u8L x0 := hlens.1.2
 have hT : TabOK Try.prog S_laws_toByteS_tab := .nil
 have hp : Sh.sz s22 x0 ≤ 1048576 := hpre
 have hsz : Sh.sz s22 x0 = List.length x0 + ctL (Sh.sz (.u8 5)) x0 := rfl
 refine wp_seq ?_
 refine at_regq [] { ts := [0, 2], os := [] } [] gamOK hT h (by kernel_rfl) trivial fun a w h => then_normal (wp_seq ?_)
 refine at_regq [{}, {}, { ids := [1] }] { ts := [0, 2, 3], os := [1] } [(0 : Int) ≤ ((List.length x0 : Nat) : Int) ∧ ((List.length x0 : Nat) : Int) = ((List.length x0 : Nat) : Int) ∧ ((List.length x0 : Nat) : Int) * (1 : Nat) ≤ (140737488355328 : Int)] gamOK hT h (by kernel_rfl) ⟨(by refine ⟨?_, ?_, ?_⟩ <;> ((have hA0 := mul_f ((List.length x0 : Nat) : Int) (1 : Nat); first | omega | (simp only [lsA, copyTo_len hok0]; omega) | (simp <;> omega)))), trivial⟩ fun a w h => then_normal (wp_seq (wp_seq ?_))
 refine at_regq [] { ts := [0, 2, 3, 4], os := [1] } [] gamOK hT h (by kernel_rfl) trivial fun a w h => then_normal (wp_block ?_)
 replace h := at_out (σ' := ⟨[(0, aF (.u8 5) x0), (2, .p (.c (cN))), (3, aS 1), (4, aI 0)], [(1, oR (.u8 5) (List.replicate (List.length x0) (0 : Int)))]⟩) { ts := [0, 2, 3, 4], os := [1] } h (by kernel_rfl)
 refine at_loop (fun i : Nat => (⟨[(0, aF (.u8 5) x0), (2, .p (.c (cN))), (3, aS 1), (4, aI ((i : Nat) : Int))], [(1, oR (.u8 5) (copyTo 0 x0 i))]⟩ : St)) (fun i => i ≤ List.length x0) (fun i => List.length x0 - i) (0) h (st_congr2 (fun (d0 : List Int) (d1 : Int) => (⟨[(0, aF (.u8 5) x0), (2, .p (.c (cN))), (3, aS 1), (4, aI d1)], [(1, oR (.u8 5) d0)]⟩ : St)) (show ((List.replicate (List.length x0) (0 : Int)) : List Int) = (copyTo 0 x0 (0)) from by first | with_reducible rfl | (exact copyTo_zero) | rfl) (show (0 : Int) = (((0) : Nat) : Int) from by first | with_reducible rfl | (exact copyTo_zero) | rfl)) (by first | omega | simp | (refine ⟨?_, ?_⟩ <;> first | omega | simp)) ?_
 intro i a w hok0 h
 refine wp_seq (wp_seq ?_)
 refine at_regq [] { ts := [0, 2, 3, 4, 11], os := [1] } [] gamOK hT h (by kernel_rfl) trivial fun a w h => then_normal ?_
 refine at_test (decide (((i : Nat) : Int) < ((List.length x0 : Nat) : Int))) h (by kernel_rfl) (fun h1 => ?_) (fun h1 => ?_)
 ·replace h1 : ((i : Nat) : Int) < ((List.length x0 : Nat) : Int) := of_decide_eq_true h1
  have hat := ctL_at_le (c := Sh.sz (.u8 5)) (xs := x0) (z := 0) (i := i) (by omega)
  refine wp_skip (then_normal (wp_seq (wp_block ?_)))
  refine at_regq [] { ts := [0, 2, 3, 4], os := [1] } [(0 : Int) ≤ ((i : Nat) : Int) ∧ ((i : Nat) : Int) < ((List.length x0 : Nat) : Int), (0 : Int) ≤ ((i : Nat) : Int) ∧ ((i : Nat) : Int) < ((List.length (copyTo 0 x0 i) : Nat) : Int), i < List.length (copyTo 0 x0 i), (0 : Int) ≤ (x0.getD i 0) ∧ (x0.getD i 0) < (256 : Int)] gamOK hT h (by kernel_rfl) ⟨(by refine ⟨?_, ?_⟩ <;> (first | omega | (simp only [lsA, copyTo_len hok0]; omega) | (simp <;> omega))), (by refine ⟨?_, ?_⟩ <;> (first | omega | (simp only [lsA, copyTo_len hok0]; omega) | (simp <;> omega))), (by first | omega | (simp only [lsA, copyTo_len hok0]; omega) | (simp <;> omega)), (by first | exact u8_range _ | exact getD_u8 (by assumption) _ | (refine ⟨?_, ?_⟩ <;> (first | omega | (simp only [lsA, copyTo_len hok0]; omega) | (simp <;> omega)))), trivial⟩ fun a w h => in_normal (then_normal ?_)
  refine at_regq [{}, { nw := true }] { ts := [0, 2, 3, 4], os := [1] } [I64 (((i : Nat) : Int) + 1)] gamOK hT h (by kernel_rfl) ⟨⟨by first | omega | (simp only [lsA, copyTo_len hok0]; omega) | (simp <;> omega), by first | omega | (simp only [lsA, copyTo_len hok0]; omega) | (simp <;> omega)⟩, trivial⟩ fun a w h => ?_
  replace h := at_out (σ' := ⟨[(0, aF (.u8 5) x0), (2, .p (.c (cN))), (3, aS 1), (4, aI (((i : Nat) : Int) + 1))], [(1, oR (.u8 5) (List.set (copyTo 0 x0 i) i (x0.getD i 0)))]⟩) { ts := [0, 2, 3, 4], os := [1] } h (by kernel_rfl)
  exact ⟨i + 1, at_eq h (st_congr2 (fun (d0 : List Int) (d1 : Int) => (⟨[(0, aF (.u8 5) x0), (2, .p (.c (cN))), (3, aS 1), (4, aI d1)], [(1, oR (.u8 5) d0)]⟩ : St)) (show ((List.set (copyTo 0 x0 i) i (x0.getD i 0)) : List Int) = (copyTo 0 x0 (i + 1)) from by first | with_reducible rfl | (exact copyTo_set (by omega)) | rfl) (show (((i : Nat) : Int) + 1 : Int) = (((i + 1) : Nat) : Int) from by first | with_reducible rfl | (omega) | rfl)), (by first | omega | (refine ⟨?_, ?_⟩ <;> omega)), (by omega)⟩
 ·replace h1 : ¬ (((i : Nat) : Int) < ((List.length x0 : Nat) : Int)) := of_decide_eq_false h1
  refine wp_exit (then_exit (then_exit (in_hit (then_normal (wp_seq ?_)))))
  refine at_regq [] { ts := [2], os := [1] } [] gamOK hT h (by kernel_rfl) trivial fun a w h => then_normal (wp_ret ?_)
  exact at_return ((copyTo 0 x0 i), ()) [] h (by kernel_rfl) trivial (congrArg (fun z => (z, ())) (show ((copyTo 0 x0 i)) = (idD s22) x0 from by (rw [copyTo_all (by omega)]; rfl)))

abbrev Q_impl_copyMatrix := (fun (x0 : (List (List Int))) => Sh.fit s45 x0)
def S_impl_copyMatrix : Sum := { fid := 37, dom := [s45], cod := [s45], dp := true, fz := false, pre := fun x => Q_impl_copyMatrix x.1, g := fun x => (((idD s45) x.1), ()) }
def S_impl_copyMatrix_tab : List (Nat × Sum) := [(51, S_slices_Clone_S_int_int_)]
theorem S_impl_copyMatrix_ok : FnOK Try.prog 37 S_impl_copyMatrix := by
 refine at_enter 19 (fun x => ⟨[(0, aF s61 x.1)], []⟩) Try.func37 rfl (by kernel_rfl) (fun x => rfl) ?_
 rintro w0 Z0 ⟨x0, u⟩ a w
 revert x0
 intro (x0 : (List (List Int))) hpre hlens h
 replace hpre : Q_impl_copyMatrix x0 := hpre
 have hT : TabOK Try.prog S_impl_copyMatrix_tab := (.cons S_slices_Clone_S_int_int__ok .nil)
 have hf0 : Sh.fit s45 x0 := hpre
 have hn0_1 : List.length x0 ≤ 1073741824 := hf0.1
 refine wp_seq ?_
 refine at_regq [] { ts := [0, 2], os := [] } [] gamOK hT h (by kernel_rfl) trivial fun a w h => then_normal (wp_seq ?_)
 refine at_regq [] { ts := [0, 2, 3], os := [] } [] gamOK hT h (by kernel_rfl) trivial fun a w h => then_normal (wp_seq (wp_seq ?_))
 refine at_regq [] { ts := [2, 3, 6, 7, 8], os := [] } [] gamOK hT h (by kernel_rfl) trivial fun a w h => then_normal (wp_block ?_)
 replace h := at_out (σ' := ⟨[(2, .p (.c (cN))), (3, aS 1), (6, aF s61 x0), (7, aI ((List.length x0 : Nat) : Int)), (8, aI 0)], [(1, oR s61 ([] : List (List Int)))]⟩) { mt := [⟨none, 3, 1, true, s61⟩], ts := [2, 3, 6, 7, 8], os := [1] } h (by kernel_rfl)
 refine at_loop (fun i : Nat => (⟨[(2, .p (.c (cN))), (3, aS 1), (6, aF s61 x0), (7, aI ((List.length x0 : Nat) : Int)), (8, aI ((i : Nat) : Int))], [(1, oR s61 (List.take i x0))]⟩ : St)) (fun i => i ≤ List.length x0) (fun i => List.length x0 - i) (0) h (st_congr2 (fun (d0 : List (List Int)) (d1 : Int) => (⟨[(2, .p (.c (cN))), (3, aS 1), (6, aF s61 x0), (7, aI ((List.length x0 : Nat) : Int)), (8, aI d1)], [(1, oR s61 d0)]⟩ : St)) (show (([] : List (List Int)) : List (List Int)) = (List.take (0) x0) from by first | with_reducible rfl | (rfl) | rfl) (show (0 : Int) = (((0) : Nat) : Int) from by first | with_reducible rfl | (rfl) | rfl)) (by omega) ?_
 intro i a w hok0 h
 have hlt := len_take_le (xs := x0) i
 have hrw := (Sh.fit_getD hf0 i).1
 refine wp_seq ?_
 refine at_regq [] { ts := [2, 3, 6, 7, 8, 9], os := [1] } [] gamOK hT h (by kernel_rfl) trivial fun a w h => then_normal (wp_seq ?_)
 refine at_test (decide (((i : Nat) : Int) < ((List.length x0 : Nat) : Int))) h (by kernel_rfl) (fun h1 => ?_) (fun h1 => ?_)
 ·replace h1 : ((i : Nat) : Int) < ((List.length x0 : Nat) : Int) := of_decide_eq_true h1
  refine wp_skip (then_normal (wp_seq (wp_block (wp_seq ?_))))
  refine at_regq [] { ts := [2, 3, 5, 6, 7, 8], os := [1] } [(0 : Int) ≤ ((i : Nat) : Int) ∧ ((i : Nat) : Int) < ((List.length x0 : Nat) : Int)] gamOK hT h (by kernel_rfl) ⟨(by refine ⟨?_, ?_⟩ <;> (first | omega | (simp only [lsA]; omega) | (simp <;> omega))), trivial⟩ fun a w h => then_normal ?_
  refine at_regq [{}, {}, { ids := [2] }, { ids := [3] }, { ids := [4] }] { ts := [2, 3, 6, 7, 8], os := [4] } [(lenOK (α := Int)) (x0.getD i []), (List.length (List.take i x0) + List.length ([(x0.getD i [])])) * 24 ≤ 140737488355328] gamOK hT h (by kernel_rfl) ⟨(by exact (Sh.fit_getD hf0 i).1), (by (have hL0 := (show List.length (List.take i x0) ≤ 1073741824 from ((Sh.fit_take hf0 i)).1); first | omega | (simp only [lsA]; omega) | (simp <;> omega))), trivial⟩ fun a w h => in_normal (then_normal ?_)
  refine at_regq [{ nw := true }] { ts := [2, 3, 6, 7, 8], os := [4] } [I64 (((i : Nat) : Int) + 1)] gamOK hT h (by kernel_rfl) ⟨⟨by first | omega | (simp only [lsA]; omega) | (simp <;> omega), by first | omega | (simp only [lsA]; omega) | (simp <;> omega)⟩, trivial⟩ fun a w h => ?_
  replace h := at_out (σ' := ⟨[(2, .p (.c (cN))), (3, aS 1), (6, aF s61 x0), (7, aI ((List.length x0 : Nat) : Int)), (8, aI (((i : Nat) : Int) + 1))], [(1, oR s61 ((List.take i x0) ++ ([(x0.getD i [])])))]⟩) { ts := [2, 3, 6, 7, 8], os := [4], rn := [(4, 1)] } h (by kernel_rfl)
  exact ⟨i + 1, at_eq h (st_congr2 (fun (d0 : List (List Int)) (d1 : Int) => (⟨[(2, .p (.c (cN))), (3, aS 1), (6, aF s61 x0), (7, aI ((List.length x0 : Nat) : Int)), (8, aI d1)], [(1, oR s61 d0)]⟩ : St)) (show (((List.take i x0) ++ ([(x0.getD i [])])) : List (List Int)) = (List.take (i + 1) x0) from by first | with_reducible rfl | (first | (rw [take_snoc (z := []) (by omega)]; done) | (rw [take_snoc (z := []) (by omega)]; rfl)) | rfl) (show (((i : Nat) : Int) + 1 : Int) = (((i + 1) : Nat) : Int) from by first | with_reducible rfl | (omega) | rfl)), (by omega), (by omega)⟩
 ·replace h1 : ¬ (((i : Nat) : Int) < ((List.length x0 : Nat) : Int)) := of_decide_eq_false h1
  refine wp_exit (then_exit (then_exit (in_hit (then_normal (wp_seq ?_)))))
  refine at_regq [] { ts := [2], os := [1] } [] gamOK hT h (by kernel_rfl) trivial fun a w h => then_normal (wp_ret ?_)
  exact at_return ((List.take i x0), ()) [] h (by kernel_rfl) trivial (congrArg (fun z => (z, ())) (show ((List.take i x0)) = (idD s45) x0 from by (rw [take_all (by omega)]; rfl)))

abbrev Q_spec_l6Copy := (fun (x0 : (List (List Int))) => Sh.fit s45 x0)
def S_spec_l6Copy : Sum := { fid := 33, dom := [s45], cod := [s45], dp := false, fz := false, pre := fun x => Q_spec_l6Copy x.1, g := fun x => (((idD s45) x.1), ()) }
def S_spec_l6Copy_tab : List (Nat × Sum) := []
theorem S_spec_l6Copy_ok : FnOK Try.prog 33 S_spec_l6Copy := by
 refine at_enter 22 (fun x => ⟨[(0, aF s61 x.1)], []⟩) Try.func33 rfl (by kernel_rfl) (fun x => rfl) ?_
 rintro w0 Z0 ⟨x0, u⟩ a w
 revert x0
 intro (x0 : (List (List Int))) hpre hlens h
 replace hpre : Q_spec_l6Copy x0 := hpre
 have hT : TabOK Try.prog S_spec_l6Copy_tab := .nil
 have hf0 : Sh.fit s45 x0 := hpre
 have hn0_1 : List.length x0 ≤ 1073741824 := hf0.1
 refine wp_seq ?_
 refine at_regq [] { ts := [0, 2], os := [] } [] gamOK hT h (by kernel_rfl) trivial fun a w h => then_normal (wp_seq ?_)
 refine at_regq [{ ids := [1], dp := false }] { ts := [0, 2, 3], os := [1] } [] gamOK hT h (by kernel_rfl) trivial fun a w h => then_normal (wp_seq (wp_seq ?_))
 refine at_regq [] { ts := [0, 2, 3, 4], os := [1] } [] gamOK hT h (by kernel_rfl) trivial fun a w h => then_normal (wp_block ?_)
 replace h := at_out (σ' := ⟨[(0, aF s61 x0), (2, .p (.c (cN))), (3, aS 1), (4, aI 0)], [(1, oF s61 ([] : List (List Int)))]⟩) { ts := [0, 2, 3, 4], os := [1] } h (by kernel_rfl)
 refine at_loop (fun i : Nat => (⟨[(0, aF s61 x0), (2, .p (.c (cN))), (3, aS 1), (4, aI ((i : Nat) : Int))], [(1, oF s61 (List.take i x0))]⟩ : St)) (fun i => i ≤ List.length x0) (fun i => List.length x0 - i) (0) h (st_congr2 (fun (d0 : List (List Int)) (d1 : Int) => (⟨[(0, aF s61 x0), (2, .p (.c (cN))), (3, aS 1), (4, aI d1)], [(1, oF s61 d0)]⟩ : St)) (show (([] : List (List Int)) : List (List Int)) = (List.take (0) x0) from by first | with_reducible rfl | (rfl) | rfl) (show (0 : Int) = (((0) : Nat) : Int) from by first | with_reducible rfl | (rfl) | rfl)) (by omega) ?_
 intro i a w hok0 h
 have hlt := len_take_le (xs := x0) i
 have hrw := (Sh.fit_getD hf0 i).1
 refine wp_seq (wp_seq ?_)
 refine at_regq [] { ts := [0, 2, 3, 4, 9], os := [1] } [] gamOK hT h (by kernel_rfl) trivial fun a w h => then_normal ?_
 refine at_test (decide (((i : Nat) : Int) < ((List.length x0 : Nat) : Int))) h (by kernel_rfl) (fun h1 => ?_) (fun h1 => ?_)
 ·replace h1 : ((i : Nat) : Int) < ((List.length x0 : Nat) : Int) := of_decide_eq_true h1
  refine wp_skip (then_normal (wp_seq (wp_block ?_)))
  refine at_regq [{}, { ids := [2], dp := false }, {}, {}, {}, {}, { ids := [3], frz := true, dp := false }, { ids := [4], dp := false }, { ids := [5], dp := false }] { ts := [0, 2, 3, 4], os := [5] } [(0 : Int) ≤ ((i : Nat) : Int) ∧ ((i : Nat) : Int) < ((List.length x0 : Nat) : Int), (List.length ([] : List Int) + List.length (x0.getD i [])) * 8 ≤ 140737488355328, (List.length (List.take i x0) + List.length ([(([] : List Int) ++ (x0.getD i []))])) * 24 ≤ 140737488355328] gamOK hT h (by kernel_rfl) ⟨(by refine ⟨?_, ?_⟩ <;> (first | omega | (simp only [lsA]; omega) | (simp <;> omega))), (by (have hL0 := (show List.length (x0.getD i []) ≤ 1073741824 from ((Sh.fit_getD hf0 i)).1); first | omega | (simp only [lsA]; omega) | (simp <;> omega))), (by (have hL0 := (show List.length (List.take i x0) ≤ 1073741824 from ((Sh.fit_take hf0 i)).1); first | omega | (simp only [lsA]; omega) | (simp <;> omega))), trivial⟩ fun a w h => in_normal (then_normal ?_)
  refine at_regq [{}, { nw := true }] { ts := [0, 2, 3, 4], os := [5] } [I64 (((i : Nat) : Int) + 1)] gamOK hT h (by kernel_rfl) ⟨⟨by first | omega | (simp only [lsA]; omega) | (simp <;> omega), by first | omega | (simp only [lsA]; omega) | (simp <;> omega)⟩, trivial⟩ fun a w h => ?_
  replace h := at_out (σ' := ⟨[(0, aF s61 x0), (2, .p (.c (cN))), (3, aS 1), (4, aI (((i : Nat) : Int) + 1))], [(1, oF s61 ((List.take i x0) ++ ([(([] : List Int) ++ (x0.getD i []))])))]⟩) { ts := [0, 2, 3, 4], os := [5], rn := [(5, 1)] } h (by kernel_rfl)
  exact ⟨i + 1, at_eq h (st_congr2 (fun (d0 : List (List Int)) (d1 : Int) => (⟨[(0, aF s61 x0), (2, .p (.c (cN))), (3, aS 1), (4, aI d1)], [(1, oF s61 d0)]⟩ : St)) (show (((List.take i x0) ++ ([(([] : List Int) ++ (x0.getD i []))])) : List (List Int)) = (List.take (i + 1) x0) from by first | with_reducible rfl | (first | (rw [take_snoc (z := []) (by omega)]; done) | (rw [take_snoc (z := []) (by omega)]; rfl)) | rfl) (show (((i : Nat) : Int) + 1 : Int) = (((i + 1) : Nat) : Int) from by first | with_reducible rfl | (omega) | rfl)), (by omega), (by omega)⟩
 ·replace h1 : ¬ (((i : Nat) : Int) < ((List.length x0 : Nat) : Int)) := of_decide_eq_false h1
  refine wp_exit (then_exit (then_exit (in_hit (then_normal (wp_seq ?_)))))
  refine at_regq [] { ts := [2], os := [1] } [] gamOK hT h (by kernel_rfl) trivial fun a w h => then_normal (wp_ret ?_)
  exact at_return ((List.take i x0), ()) [] h (by kernel_rfl) trivial (congrArg (fun z => (z, ())) (show ((List.take i x0)) = (idD s45) x0 from by (rw [take_all (by omega)]; rfl)))

def colsOf (x0 : (List (List Int))) : Int := (if ((List.length x0 : Nat) : Int) = 0 then 0 else ((List.length (x0.getD 0 []) : Nat) : Int))
abbrev Q_impl_ColumnsOf := (fun (x0 : (List (List Int))) => Sh.fit s45 x0)
def S_impl_ColumnsOf : Sum := { fid := 39, dom := [s45], cod := [(.int 3)], dp := true, fz := false, pre := fun x => Q_impl_ColumnsOf x.1, g := fun x => ((colsOf x.1), ()) }
def S_impl_ColumnsOf_tab : List (Nat × Sum) := []
theorem S_impl_ColumnsOf_ok : FnOK Try.prog 39 S_impl_ColumnsOf := by
 refine at_enter 10 (fun x => ⟨[(0, aF s61 x.1)], []⟩) Try.func39 rfl (by kernel_rfl) (fun x => rfl) ?_
 rintro w0 Z0 ⟨x0, u⟩ a w
 revert x0
 intro (x0 : (List (List Int))) hpre hlens h
 replace hpre : Q_impl_ColumnsOf x0 := hpre
 have hT : TabOK Try.prog S_impl_ColumnsOf_tab := .nil
 have hf0 : Sh.fit s45 x0 := hpre
 have hn0_1 : List.length x0 ≤ 1073741824 := hf0.1
 refine wp_seq ?_
 refine at_regq [] { ts := [0, 2], os := [] } [] gamOK hT h (by kernel_rfl) trivial fun a w h => then_normal (wp_seq (wp_seq ?_))
 refine at_regq [] { ts := [0, 2, 5], os := [] } [] gamOK hT h (by kernel_rfl) trivial fun a w h => then_normal ?_
 refine at_test (decide (((List.length x0 : Nat) : Int) = 0)) h (by kernel_rfl) (fun h1 => ?_) (fun h1 => ?_)
 ·replace h1 : ((List.length x0 : Nat) : Int) = 0 := of_decide_eq_true h1
  refine wp_seq ?_
  refine at_regq [] { ts := [0, 2], os := [] } [] gamOK hT h (by kernel_rfl) trivial fun a w h => then_normal (wp_ret (then_ret ?_))
  exact at_return (0, ()) [] h (by kernel_rfl) trivial (congrArg (fun z => (z, ())) (show (0) = colsOf x0 from by first | rfl | (unfold colsOf; rw [if_pos h1])))
 ·replace h1 : ¬ (((List.length x0 : Nat) : Int) = 0) := of_decide_eq_false h1
  refine wp_skip (then_normal (wp_seq ?_))
  refine at_regq [] { ts := [2], os := [] } [(0 : Int) ≤ 0 ∧ 0 < ((List.length x0 : Nat) : Int)] gamOK hT h (by kernel_rfl) ⟨(by refine ⟨?_, ?_⟩ <;> (first | omega | (simp only [lsA]; omega) | (simp <;> omega))), trivial⟩ fun a w h => then_normal (wp_ret ?_)
  exact at_return (((List.length (x0.getD 0 []) : Nat) : Int), ()) [] h (by kernel_rfl) trivial (congrArg (fun z => (z, ())) (show (((List.length (x0.getD 0 []) : Nat) : Int)) = colsOf x0 from by first | rfl | (unfold colsOf; rw [if_neg h1])))

abbrev Q_spec_ColumnsOf := (fun (x0 : (List (List Int))) => Sh.fit s45 x0)
def S_spec_ColumnsOf : Sum := { fid := 15, dom := [s45], cod := [(.int 3)], dp := true, fz := false, pre := fun x => Q_spec_ColumnsOf x.1, g := fun x => ((colsOf x.1), ()) }
def S_spec_ColumnsOf_tab : List (Nat × Sum) := []
theorem S_spec_ColumnsOf_ok : FnOK Try.prog 15 S_spec_ColumnsOf := by
 refine at_enter 10 (fun x => ⟨[(0, aF s61 x.1)], []⟩) Try.func15 rfl (by kernel_rfl) (fun x => rfl) ?_
 rintro w0 Z0 ⟨x0, u⟩ a w
 revert x0
 intro (x0 : (List (List Int))) hpre hlens h
 replace hpre : Q_spec_ColumnsOf x0 := hpre
 have hT : TabOK Try.prog S_spec_ColumnsOf_tab := .nil
 have hf0 : Sh.fit s45 x0 := hpre
 have hn0_1 : List.length x0 ≤ 1073741824 := hf0.1
 refine wp_seq ?_
 refine at_regq [] { ts := [0, 2], os := [] } [] gamOK hT h (by kernel_rfl) trivial fun a w h => then_normal (wp_seq (wp_seq ?_))
 refine at_regq [] { ts := [0, 2, 5], os := [] } [] gamOK hT h (by kernel_rfl) trivial fun a w h => then_normal ?_
 refine at_test (decide (((List.length x0 : Nat) : Int) = 0)) h (by kernel_rfl) (fun h1 => ?_) (fun h1 => ?_)
 ·replace h1 : ((List.length x0 : Nat) : Int) = 0 := of_decide_eq_true h1
  refine wp_seq ?_
  refine at_regq [] { ts := [0, 2], os := [] } [] gamOK hT h (by kernel_rfl) trivial fun a w h => then_normal (wp_ret (then_ret ?_))
  exact at_return (0, ()) [] h (by kernel_rfl) trivial (congrArg (fun z => (z, ())) (show (0) = colsOf x0 from by first | rfl | (unfold colsOf; rw [if_pos h1]; done) | (unfold colsOf; simp_all)))
 ·replace h1 : ¬ (((List.length x0 : Nat) : Int) = 0) := of_decide_eq_false h1
  refine wp_skip (then_normal (wp_seq ?_))
  refine at_regq [] { ts := [2], os := [] } [(0 : Int) ≤ 0 ∧ 0 < ((List.length x0 : Nat) : Int)] gamOK hT h (by kernel_rfl) ⟨(by refine ⟨?_, ?_⟩ <;> (first | omega | (simp only [lsA]; omega) | (simp <;> omega))), trivial⟩ fun a w h => then_normal (wp_ret ?_)
  exact at_return (((List.length (x0.getD 0 []) : Nat) : Int), ()) [] h (by kernel_rfl) trivial (congrArg (fun z => (z, ())) (show (((List.length (x0.getD 0 []) : Nat) : Int)) = colsOf x0 from by first | rfl | (unfold colsOf; rw [if_neg h1]; done) | (unfold colsOf; simp_all)))

def D_impl_SymbolWidth := (fun (g : T47) => colsOf g.2)
abbrev Q_impl_SymbolWidth := (fun (x0 : T47) => Sh.fit s47 x0)
def S_impl_SymbolWidth : Sum := { fid := 20, dom := [s47], cod := [(.int 3)], dp := true, fz := false, pre := fun x => Q_impl_SymbolWidth x.1, g := fun x => ((D_impl_SymbolWidth x.1), ()) }
def S_impl_SymbolWidth_tab : List (Nat × Sum) := [(39, S_impl_ColumnsOf)]
theorem S_impl_SymbolWidth_ok : FnOK Try.prog 20 S_impl_SymbolWidth := by
 refine at_enter 6 (fun x => ⟨[(0, aG [cI x.1.1, .ro s61 x.1.2])], []⟩) Try.func20 rfl (by kernel_rfl) (fun x => rfl) ?_
 rintro w0 Z0 ⟨x0, u⟩ a w
 revert x0
 intro (x0 : T47) hpre hlens h
 replace hpre : Q_impl_SymbolWidth x0 := hpre
 have hT : TabOK Try.prog S_impl_SymbolWidth_tab := (.cons S_impl_ColumnsOf_ok .nil)
 have hf0 : Sh.fit s47 x0 := hpre
 have hn0_1 : List.length x0.2 ≤ 1073741824 := hf0.2.1
 refine wp_seq ?_
 refine at_regq [{ ids := [1] }] { ts := [1, 2], os := [1] } [] gamOK hT h (by kernel_rfl) trivial fun a w h => then_normal (wp_seq ?_)
 refine at_regq [] { ts := [2], os := [] } [Q_impl_ColumnsOf x0.2] gamOK hT h (by kernel_rfl) ⟨(by exact hf0.2), trivial⟩ fun a w h => then_normal (wp_ret ?_)
 exact at_return ((colsOf x0.2), ()) [] h (by kernel_rfl) trivial (congrArg (fun z => (z, ())) (show ((colsOf x0.2)) = D_impl_SymbolWidth x0 from by unfold D_impl_SymbolWidth; rfl))

def isFmt (x0 : Int) (x1 : Int) (x2 : Int) : Bool := (if (inR x0 0 1000000000000) = true then (if (inR x1 1 8) = true then (inR x2 1 16) else false) else false)
def S_impl_isFormat : Sum := { fid := 38, dom := [(.int 3), (.int 3), (.int 3)], cod := [(.bool 4)], dp := true, fz := false, pre := fun x => True, g := fun x => ((isFmt x.1 x.2.1 x.2.2.1), ()) }
def S_impl_isFormat_tab : List (Nat × Sum) := [(17, S_impl_InRange)]
theorem S_impl_isFormat_ok : FnOK Try.prog 38 S_impl_isFormat := by
 refine at_enter 17 (fun x => ⟨[(0, aI x.1), (1, aI x.2.1), (2, aI x.2.2.1)], []⟩) Try.func38 rfl (by kernel_rfl) (fun x => rfl) ?_
 rintro w0 Z0 ⟨x0, x1, x2, u⟩ a w
 revert x0 x1 x2
 intro (x0 : Int) (x1 : Int) (x2 : Int) hpre hlens h
 have hT : TabOK Try.prog S_impl_isFormat_tab := (.cons S_impl_InRange_ok .nil)
 refine wp_seq ?_
 refine at_regq [] { ts := [0, 1, 2, 6], os := [] } [] gamOK hT h (by kernel_rfl) trivial fun a w h => then_normal (wp_seq ?_)
 rcases Bool.eq_false_or_eq_true ((inR x0 0 1000000000000)) with h1 | h1
 ·have hvh1 := inR_t h1
  rcases Bool.eq_false_or_eq_true ((inR x1 1 8)) with h2 | h2
  ·have hvh2 := inR_t h2
   refine at_regq [{}, { hint := some (aB true) }, {}, {}, { hint := some (aB true) }] { ts := [6], os := [] } [True, (AV.p (.c (.v (.bool ((inR x0 0 1000000000000))))) = AV.p (.c (.v (.bool true)))), True, (AV.p (.c (.v (.bool ((inR x1 1 8))))) = AV.p (.c (.v (.bool true)))), True] gamOK hT h (by kernel_rfl) ⟨trivial, hint_bool (h1), trivial, hint_bool (h2), trivial, trivial⟩ fun a w h => then_normal (wp_ret ?_)
   exact at_return ((inR x2 1 16), ()) [] h (by kernel_rfl) trivial (congrArg (fun z => (z, ())) (show ((inR x2 1 16)) = isFmt x0 x1 x2 from by first | rfl | (unfold isFmt; rw [if_pos h1, if_pos h2])))
  ·have hvh2 := inR_f h2
   refine at_regq [{}, { hint := some (aB true) }, {}, {}, { hint := some (aB false) }] { ts := [6], os := [] } [True, (AV.p (.c (.v (.bool ((inR x0 0 1000000000000))))) = AV.p (.c (.v (.bool true)))), True, (AV.p (.c (.v (.bool ((inR x1 1 8))))) = AV.p (.c (.v (.bool false))))] gamOK hT h (by kernel_rfl) ⟨trivial, hint_bool (h1), trivial, hint_bool (h2), trivial⟩ fun a w h => then_normal (wp_ret ?_)
   exact at_return (false, ()) [] h (by kernel_rfl) trivial (congrArg (fun z => (z, ())) (show (false) = isFmt x0 x1 x2 from by first | rfl | (unfold isFmt; rw [if_pos h1, if_neg (neT h2)])))
 ·have hvh1 := inR_f h1
  refine at_regq [{}, { hint := some (aB false) }] { ts := [6], os := [] } [True, (AV.p (.c (.v (.bool ((inR x0 0 1000000000000))))) = AV.p (.c (.v (.bool false))))] gamOK hT h (by kernel_rfl) ⟨trivial, hint_bool (h1), trivial⟩ fun a w h => then_normal (wp_ret ?_)
  exact at_return (false, ()) [] h (by kernel_rfl) trivial (congrArg (fun z => (z, ())) (show (false) = isFmt x0 x1 x2 from by first | rfl | (unfold isFmt; rw [if_neg (neT h1)])))

def S_spec_l14Range : Sum := { fid := 35, dom := [(.int 3), (.int 3), (.int 3)], cod := [(.bool 4)], dp := true, fz := false, pre := fun x => True, g := fun x => ((isFmt x.1 x.2.1 x.2.2.1), ()) }
def S_spec_l14Range_tab : List (Nat × Sum) := [(32, S_spec_l1In)]
theorem S_spec_l14Range_ok : FnOK Try.prog 35 S_spec_l14Range := by
 refine at_enter 17 (fun x => ⟨[(0, aI x.1), (1, aI x.2.1), (2, aI x.2.2.1)], []⟩) Try.func35 rfl (by kernel_rfl) (fun x => rfl) ?_
 rintro w0 Z0 ⟨x0, x1, x2, u⟩ a w
 revert x0 x1 x2
 intro (x0 : Int) (x1 : Int) (x2 : Int) hpre hlens h
 have hT : TabOK Try.prog S_spec_l14Range_tab := (.cons S_spec_l1In_ok .nil)
 refine wp_seq ?_
 refine at_regq [] { ts := [0, 1, 2, 6], os := [] } [] gamOK hT h (by kernel_rfl) trivial fun a w h => then_normal (wp_seq ?_)
 rcases Bool.eq_false_or_eq_true ((inR x0 0 1000000000000)) with h1 | h1
 ·have hvh1 := inR_t h1
  rcases Bool.eq_false_or_eq_true ((inR x1 1 8)) with h2 | h2
  ·have hvh2 := inR_t h2
   refine at_regq [{}, { hint := some (aB true) }, {}, {}, { hint := some (aB true) }] { ts := [6], os := [] } [True, (AV.p (.c (.v (.bool ((inR x0 0 1000000000000))))) = AV.p (.c (.v (.bool true)))), True, (AV.p (.c (.v (.bool ((inR x1 1 8))))) = AV.p (.c (.v (.bool true)))), True] gamOK hT h (by kernel_rfl) ⟨trivial, hint_bool (h1), trivial, hint_bool (h2), trivial, trivial⟩ fun a w h => then_normal (wp_ret ?_)
   exact at_return ((inR x2 1 16), ()) [] h (by kernel_rfl) trivial (congrArg (fun z => (z, ())) (show ((inR x2 1 16)) = isFmt x0 x1 x2 from by first | rfl | (unfold isFmt; rw [if_pos h1, if_pos h2]; done) | (unfold isFmt; simp_all)))
  ·have hvh2 := inR_f h2
   refine at_regq [{}, { hint := some (aB true) }, {}, {}, { hint := some (aB false) }] { ts := [6], os := [] } [True, (AV.p (.c (.v (.bool ((inR x0 0 1000000000000))))) = AV.p (.c (.v (.bool true)))), True, (AV.p (.c (.v (.bool ((inR x1 1 8))))) = AV.p (.c (.v (.bool false))))] gamOK hT h (by kernel_rfl) ⟨trivial, hint_bool (h1), trivial, hint_bool (h2), trivial⟩ fun a w h => then_normal (wp_ret ?_)
   exact at_return (false, ()) [] h (by kernel_rfl) trivial (congrArg (fun z => (z, ())) (show (false) = isFmt x0 x1 x2 from by first | rfl | (unfold isFmt; rw [if_pos h1, if_neg (neT h2)]; done) | (unfold isFmt; simp_all)))
 ·have hvh1 := inR_f h1
  refine at_regq [{}, { hint := some (aB false) }] { ts := [6], os := [] } [True, (AV.p (.c (.v (.bool ((inR x0 0 1000000000000))))) = AV.p (.c (.v (.bool false))))] gamOK hT h (by kernel_rfl) ⟨trivial, hint_bool (h1), trivial⟩ fun a w h => then_normal (wp_ret ?_)
  exact at_return (false, ()) [] h (by kernel_rfl) trivial (congrArg (fun z => (z, ())) (show (false) = isFmt x0 x1 x2 from by first | rfl | (unfold isFmt; rw [if_neg (neT h1)]; done) | (unfold isFmt; simp_all)))

def newRec (x0 : Int) (x1 : Int) (x2 : Int) : T43 := (if (isFmt x0 x1 x2) = true then (x0, (x1, (x2, (([] : List T78), 0)))) else (0, (0, (0, (([] : List T78), 0)))))
def S_impl_NewRecoder : Sum := { fid := 19, dom := [(.int 3), (.int 3), (.int 3)], cod := [s43], dp := true, fz := false, pre := fun x => True, g := fun x => ((newRec x.1 x.2.1 x.2.2.1), ()) }
def S_impl_NewRecoder_tab : List (Nat × Sum) := [(38, S_impl_isFormat)]
theorem S_impl_NewRecoder_ok : FnOK Try.prog 19 S_impl_NewRecoder := by
 refine at_enter 17 (fun x => ⟨[(0, aI x.1), (1, aI x.2.1), (2, aI x.2.2.1)], []⟩) Try.func19 rfl (by kernel_rfl) (fun x => rfl) ?_
 rintro w0 Z0 ⟨x0, x1, x2, u⟩ a w
 revert x0 x1 x2
 intro (x0 : Int) (x1 : Int) (x2 : Int) hpre hlens h
 have hT : TabOK Try.prog S_impl_NewRecoder_tab := (.cons S_impl_isFormat_ok .nil)
 refine wp_seq ?_
 refine at_regq [{ ids := [1] }] { ts := [0, 1, 2, 6], os := [1] } [] gamOK hT h (by kernel_rfl) trivial fun a w h => then_normal (wp_seq (wp_seq ?_))
 refine at_regq [] { ts := [0, 1, 2, 6, 11], os := [1] } [True] gamOK hT h (by kernel_rfl) ⟨trivial, trivial⟩ fun a w h => then_normal ?_
 refine at_test (!(isFmt x0 x1 x2)) h (by kernel_rfl) (fun h1 => ?_) (fun h1 => ?_)
 ·replace h1 : (isFmt x0 x1 x2) = false := notT h1
  refine wp_seq ?_
  refine at_regq [] { ts := [0, 1, 2, 6], os := [1] } [] gamOK hT h (by kernel_rfl) trivial fun a w h => then_normal (wp_ret (then_ret ?_))
  exact at_return ((0, (0, (0, (([] : List T78), 0)))), ()) [] h (by kernel_rfl) trivial (congrArg (fun z => (z, ())) (show ((0, (0, (0, (([] : List T78), 0))))) = newRec x0 x1 x2 from by first | rfl | (unfold newRec; rw [if_neg (neT h1)])))
 ·replace h1 : (isFmt x0 x1 x2) = true := notF h1
  refine wp_skip (then_normal (wp_seq ?_))
  refine at_regq [] { ts := [6], os := [1] } [] gamOK hT h (by kernel_rfl) trivial fun a w h => then_normal (wp_ret ?_)
  exact at_return ((x0, (x1, (x2, (([] : List T78), 0)))), ()) [] h (by kernel_rfl) trivial (congrArg (fun z => (z, ())) (show ((x0, (x1, (x2, (([] : List T78), 0))))) = newRec x0 x1 x2 from by first | rfl | (unfold newRec; rw [if_pos h1])))

def S_spec_NewRecoder : Sum := { fid := 14, dom := [(.int 3), (.int 3), (.int 3)], cod := [s43], dp := true, fz := false, pre := fun x => True, g := fun x => ((newRec x.1 x.2.1 x.2.2.1), ()) }
def S_spec_NewRecoder_tab : List (Nat × Sum) := [(35, S_spec_l14Range)]
theorem S_spec_NewRecoder_ok : FnOK Try.prog 14 S_spec_NewRecoder := by
 refine at_enter 17 (fun x => ⟨[(0, aI x.1), (1, aI x.2.1), (2, aI x.2.2.1)], []⟩) Try.func14 rfl (by kernel_rfl) (fun x => rfl) ?_
 rintro w0 Z0 ⟨x0, x1, x2, u⟩ a w
 revert x0 x1 x2
 intro (x0 : Int) (x1 : Int) (x2 : Int) hpre hlens h
 have hT : TabOK Try.prog S_spec_NewRecoder_tab := (.cons S_spec_l14Range_ok .nil)
 refine wp_seq ?_
 refine at_regq [{ ids := [1] }] { ts := [0, 1, 2, 6], os := [1] } [] gamOK hT h (by kernel_rfl) trivial fun a w h => then_normal (wp_seq (wp_seq ?_))
 refine at_regq [] { ts := [0, 1, 2, 6, 11], os := [1] } [True] gamOK hT h (by kernel_rfl) ⟨trivial, trivial⟩ fun a w h => then_normal ?_
 refine at_test (!(isFmt x0 x1 x2)) h (by kernel_rfl) (fun h1 => ?_) (fun h1 => ?_)
 ·replace h1 : (isFmt x0 x1 x2) = false := notT h1
  refine wp_seq ?_
  refine at_regq [] { ts := [0, 1, 2, 6], os := [1] } [] gamOK hT h (by kernel_rfl) trivial fun a w h => then_normal (wp_ret (then_ret ?_))
  exact at_return ((0, (0, (0, (([] : List T78), 0)))), ()) [] h (by kernel_rfl) trivial (congrArg (fun z => (z, ())) (show ((0, (0, (0, (([] : List T78), 0))))) = newRec x0 x1 x2 from by first | rfl | (unfold newRec; rw [if_neg (neT h1)]; done) | (unfold newRec; simp_all)))
 ·replace h1 : (isFmt x0 x1 x2) = true := notF h1
  refine wp_skip (then_normal (wp_seq ?_))
  refine at_regq [] { ts := [6], os := [1] } [] gamOK hT h (by kernel_rfl) trivial fun a w h => then_normal (wp_ret ?_)
  exact at_return ((x0, (x1, (x2, (([] : List T78), 0)))), ()) [] h (by kernel_rfl) trivial (congrArg (fun z => (z, ())) (show ((x0, (x1, (x2, (([] : List T78), 0))))) = newRec x0 x1 x2 from by first | rfl | (unfold newRec; rw [if_pos h1]; done) | (unfold newRec; simp_all)))

def shN (n i : Nat) : Nat := n / 128 ^ i
theorem shN_zero (n : Nat) : shN n 0 = n := by simp [shN]
theorem shN_succ (n i : Nat) : shN n (i + 1) = shN n i / 128 := by unfold shN; rw [Nat.pow_succ, Nat.div_div_eq_div_mul]
theorem shN_out (n i : Nat) : shN n (i + 1) = shN (n / 128) i := by unfold shN; rw [Nat.pow_succ, Nat.mul_comm, Nat.div_div_eq_div_mul]
theorem shN_le (n i : Nat) : shN n i ≤ n := Nat.div_le_self _ _
theorem shN_six {n : Nat} (h : n ≤ 1000000000000) : shN n 6 = 0 := by
 have e : shN n 6 = n / 4398046511104 := rfl
 rw [e]; omega
def uvT (n i : Nat) : List Int := (List.range i).map fun j => ((shN n j % 128 + 128 : Nat) : Int)
theorem uvT_zero (n : Nat) : uvT n 0 = [] := rfl
theorem uvT_succ (n i : Nat) : uvT n (i + 1) = uvT n i ++ [((shN n i % 128 + 128 : Nat) : Int)] := by simp [uvT, List.range_succ]
theorem uvT_len (n i : Nat) : (uvT n i).length = i := by simp [uvT]
theorem uvT_cons (n i : Nat) : uvT n (i + 1) = ((n % 128 + 128 : Nat) : Int) :: uvT (n / 128) i := by
 unfold uvT
 rw [List.range_succ_eq_map, List.map_cons, List.map_map, shN_zero]
 congr 1
 exact List.map_congr_left fun j _ => by show ((shN n (j + 1) % 128 + 128 : Nat) : Int) = _; rw [shN_out]
def uvF : Nat → Nat → List Int
 | 0, n => [(n : Int)]
 | f + 1, n => if n < 128 then [(n : Int)] else ((n % 128 + 128 : Nat) : Int) :: uvF f (n / 128)
def uvB (n : Nat) : List Int := uvF 9 n
theorem uvF_last {f n : Nat} (h : n < 128) : uvF f n = [(n : Int)] := by cases f <;> simp [uvF, h]
theorem uvF_end : ∀ {i f n : Nat}, i ≤ f → (∀ j, j < i → 128 ≤ shN n j) → shN n i < 128 → uvT n i ++ [((shN n i : Nat) : Int)] = uvF f n
 | 0, f, n, _, _, h => by rw [shN_zero] at h ⊢; rw [uvF_last h]; rfl
 | i + 1, 0, n, hf, _, _ => by omega
 | i + 1, f + 1, n, hf, ha, h => by
  have h0 := ha 0 (by omega)
  rw [shN_zero] at h0
  rw [uvT_cons, shN_out, List.cons_append, uvF_end (i := i) (f := f) (by omega) (fun j hj => by have := ha (j + 1) (by omega); rwa [shN_out] at this) (by rwa [shN_out] at h)]
  unfold uvF; rw [if_neg (by omega)]
  cases f <;> rfl
theorem uvF_len (f n : Nat) : (uvF f n).length ≤ f + 1 := by
 induction f generalizing n with
 | zero => simp [uvF]
 | succ f ih => unfold uvF; split <;> simp; exact ih _
theorem uvF_u8 : ∀ (f n : Nat), n < 128 ^ (f + 1) → u8L (uvF f n)
 | 0, n, h => fun e he => by
  cases he with
  | head => simp at h; constructor <;> omega
  | tail _ hm => cases hm
 | f + 1, n, h => by
  unfold uvF; split
  ·intro e he
   cases he with
   | head => constructor <;> omega
   | tail _ hm => cases hm
  ·intro e he
   cases he with
   | head => constructor <;> omega
   | tail _ hm => exact uvF_u8 f _ (by rw [Nat.pow_succ] at h; omega) e hm
def appUv (x : List Int) (n : Int) : List Int := x ++ (if inR n 0 1000000000000 = true then uvB n.toNat else [])
theorem appUv_n {x : List Int} {n : Int} (h : inR n 0 1000000000000 = false) : x = appUv x n := by unfold appUv; rw [h, if_neg (by decide), List.append_nil]
theorem appUv_y {x : List Int} {n : Int} {i : Nat} (h : inR n 0 1000000000000 = true) (h1 : i ≤ 6) (h2 : ∀ j, j < i → 128 ≤ shN n.toNat j) (h3 : shN n.toNat i < 128) : (x ++ uvT n.toNat i) ++ [IntKind.u8.wrap ((shN n.toNat i : Nat) : Int)] = appUv x n := by
 have e : IntKind.u8.wrap ((shN n.toNat i : Nat) : Int) = ((shN n.toNat i : Nat) : Int) := by simp only [IntKind.wrap, IntKind.signed, IntKind.bits]; simp; omega
 unfold appUv; rw [e, h, if_pos rfl, List.append_assoc, uvF_end (f := 9) (by omega) h2 h3]; rfl
theorem appUv_le (x : List Int) (n : Int) : x.length ≤ (appUv x n).length ∧ (appUv x n).length ≤ x.length + 10 := by
 unfold appUv; rw [List.length_append]
 have := uvF_len 9 n.toNat
 split
 ·unfold uvB; omega
 ·simp
theorem u8L_append {x y : List Int} (hx : u8L x) (hy : u8L y) : u8L (x ++ y) := fun e he => by
 rcases List.mem_append.1 he with h | h
 ·exact hx e h
 ·exact hy e h
theorem u8L_nil : u8L [] := fun _ h => by cases h
theorem appUv_u8 {x : List Int} {n : Int} (h : u8L x) : u8L (appUv x n) := by
 unfold appUv
 refine u8L_append h ?_
 split
 ·rename_i hn
  have := inR_t hn
  exact uvF_u8 9 _ (by
   have e : (128 : Nat) ^ (9 + 1) = 1180591620717411303424 := by decide
   rw [e]; omega)
 ·exact u8L_nil
theorem and127 {n : Nat} (h : n ≤ 4611686018427387904) : IntKind.i64.wrap ((BitVec.ofInt (IntKind.i64).bits (n : Int) &&& BitVec.ofInt (IntKind.i64).bits 127).toNat : Int) = ((n % 128 : Nat) : Int) := by
 have e : (BitVec.ofInt (IntKind.i64).bits (n : Int) &&& BitVec.ofInt (IntKind.i64).bits 127).toNat = n % 128 := by
  rw [BitVec.toNat_and]
  have h1 : (BitVec.ofInt (IntKind.i64).bits (n : Int)).toNat = n := by
   rw [BitVec.toNat_ofInt]; simp [IntKind.bits]; omega
  have h2 : (BitVec.ofInt (IntKind.i64).bits 127).toNat = 2 ^ 7 - 1 := by decide
  rw [h1, h2, Nat.and_two_pow_sub_one_eq_mod]
 rw [e, IntKind.wrap_i64]; omega
theorem or128 {m : Nat} (h : m < 128) : IntKind.i64.wrap ((BitVec.ofInt (IntKind.i64).bits (m : Int) ||| BitVec.ofInt (IntKind.i64).bits 128).toNat : Int) = ((m + 128 : Nat) : Int) := by
 have e : (BitVec.ofInt (IntKind.i64).bits (m : Int) ||| BitVec.ofInt (IntKind.i64).bits 128).toNat = m + 128 := by
  rw [BitVec.toNat_or]
  have h1 : (BitVec.ofInt (IntKind.i64).bits (m : Int)).toNat = m := by
   rw [BitVec.toNat_ofInt]; simp [IntKind.bits]; omega
  have h2 : (BitVec.ofInt (IntKind.i64).bits 128).toNat = 2 ^ 7 * 1 := by decide
  rw [h1, h2, Nat.or_comm, ← Nat.two_pow_add_eq_or_of_lt (i := 7) (by omega)]; omega
 rw [e, IntKind.wrap_i64]; omega
theorem shr7 {n : Nat} : Int.fdiv (n : Int) (2 ^ (min (7 : Int).toNat (IntKind.i64).bits)) = ((n / 128 : Nat) : Int) := by
 have e2 : (2 : Int) ^ (min (7 : Int).toNat (IntKind.i64).bits) = 128 := by decide
 rw [e2, Int.fdiv_eq_ediv_of_nonneg _ (by omega)]; omega
theorem u8w {m : Nat} (h : m < 256) : IntKind.u8.wrap (m : Int) = (m : Int) := by simp only [IntKind.wrap, IntKind.signed, IntKind.bits]; simp; omega
def appBy (x y : List Int) : List Int := appUv x ((List.length y : Nat) : Int) ++ y
theorem appBy_u8 {x y : List Int} (hx : u8L x) (hy : u8L y) : u8L (appBy x y) := u8L_append (appUv_u8 hx) hy
theorem wrapNat {a b : Nat} (h : a + b ≤ 4611686018427387904) : IntKind.i64.wrap ((a : Int) + (b : Int)) = ((a + b : Nat) : Int) := by rw [IntKind.wrap_i64]; omega
theorem appBy_le (x y : List Int) : (appBy x y).length ≤ x.length + y.length + 10 := by
 unfold appBy; rw [List.length_append]; have := appUv_le x ((List.length y : Nat) : Int); omega
def symRow (all : List Int) (w j : Nat) : List Int := (List.range w).map fun k => all.getD (j * w + k) 0
def symTo (all : List Int) (w j : Nat) : List (List Int) := (List.range j).map (symRow all w)
theorem symTo_succ (all : List Int) (w j : Nat) : symTo all w (j + 1) = symTo all w j ++ [symRow all w j] := by simp [symTo, List.range_succ]
theorem symTo_len (all : List Int) (w j : Nat) : (symTo all w j).length = j := by simp [symTo]
def rowTo (all : List Int) (w j k : Nat) : List Int := (List.range w).map fun i => if i < k then all.getD (j * w + i) 0 else 0
theorem rowTo_len (all : List Int) (w j k : Nat) : (rowTo all w j k).length = w := by simp [rowTo]
theorem rowTo_zero (all : List Int) (w j : Nat) : List.replicate w (0 : Int) = rowTo all w j 0 := by
 apply List.ext_getElem <;> simp [rowTo]
theorem rowTo_set {all : List Int} {w j k : Nat} : (rowTo all w j k).set k (all.getD (j * w + k) 0) = rowTo all w j (k + 1) := by
 apply List.ext_getElem
 ·simp [rowTo]
 ·intro i h1 h2
  simp only [List.getElem_set, rowTo, List.getElem_map, List.getElem_range]
  by_cases e : k = i
  ·subst e; simp
  ·rw [if_neg e]
   by_cases l : i < k
   ·rw [if_pos l, if_pos (by omega)]
   ·rw [if_neg l, if_neg (by omega)]
theorem slice_get {all : List Int} {a b k : Nat} (h : k < (List.drop a (List.take b all)).length) : (List.drop a (List.take b all)).getD k 0 = all.getD (a + k) 0 := by
 have h' := h
 rw [List.length_drop, List.length_take] at h'
 rw [getD_of_lt h, List.getElem_drop, List.getElem_take, getD_of_lt (by omega)]
theorem rowTo_set2 {all : List Int} {w j k b : Nat} (h : k < (List.drop (j * w) (List.take b all)).length) : (rowTo all w j k).set k ((List.drop (j * w) (List.take b all)).getD k 0) = rowTo all w j (k + 1) := by
 rw [slice_get h]; exact rowTo_set
theorem rowTo_all {all : List Int} {w j k : Nat} (h : w ≤ k ∨ all.length ≤ j * w + k) : rowTo all w j k = symRow all w j := by
 apply List.ext_getElem
 ·simp [rowTo, symRow]
 ·intro i h1 h2
  simp only [rowTo, symRow, List.getElem_map, List.getElem_range]
  split
  ·rfl
  ·rename_i l
   have hw : i < w := by simpa [rowTo] using h1
   rw [List.getD_eq_getElem?_getD, List.getElem?_eq_none (by omega)]; rfl
theorem rowTo_all2 {all : List Int} {w j k : Nat} (h : (List.drop (j * w) (List.take (min (j * w + w) (List.length all)) all)).length ≤ k) : rowTo all w j k = symRow all w j := by
 rw [List.length_drop, List.length_take] at h
 exact rowTo_all (by omega)
theorem slice_u8 {all : List Int} (h : u8L all) (a b k : Nat) : (0 : Int) ≤ (List.drop a (List.take b all)).getD k 0 ∧ (List.drop a (List.take b all)).getD k 0 < (256 : Int) :=
 getD_u8 (fun e he => h e (List.mem_of_mem_take (List.mem_of_mem_drop he))) k
def cdiv (n w : Nat) : Nat := (n + w - 1) / w
theorem cdiv_end {n w i : Nat} (hw : 1 ≤ w) (h1 : n ≤ i * w) (h2 : i * w < n + w) : cdiv n w = i := by
 unfold cdiv
 rw [Nat.div_eq_iff (by omega)]
 have : (i + 1) * w = i * w + w := Nat.succ_mul i w
 constructor <;> omega
theorem cdiv_le {n w : Nat} (hw : 1 ≤ w) : cdiv n w ≤ n := by
 unfold cdiv
 rw [Nat.div_le_iff_le_mul_add_pred (by omega)]
 have := Nat.mul_le_mul_right n hw
 omega
def symS (all : List Int) (w : Nat) : List (List Int) := symTo all w (cdiv all.length w)
theorem symS_end {all : List Int} {w i : Nat} (hw : 1 ≤ w) (h1 : all.length ≤ i * w) (h2 : i * w < all.length + w) : symTo all w i = symS all w := by unfold symS; rw [cdiv_end hw h1 h2]
def symD (x : List Int) (w : Int) : List (List Int) := if inR w 1 16 = true ∧ x.length ≤ 400 then symS (appBy [] x) w.toNat else []
theorem symD_n {x : List Int} {w : Int} (h : inR w 1 16 = false ∨ 400 < x.length) : [] = symD x w := by
 unfold symD; rw [if_neg]; rintro ⟨h1, h2⟩
 rcases h with h | h
 ·rw [h1] at h; cases h
 ·omega
theorem symD_y {x : List Int} {w : Int} (h : inR w 1 16 = true) (h2 : x.length ≤ 400) : symS (appBy [] x) w.toNat = symD x w := (if_pos ⟨h, h2⟩).symm
theorem symD_len (x : List Int) (w : Int) : (symD x w).length ≤ 410 ∧ ∀ r ∈ symD x w, r.length ≤ 16 := by
 unfold symD
 split
 ·rename_i h
  have hw := inR_t h.1
  have h2 := appBy_le [] x
  have hc : cdiv (appBy [] x).length w.toNat ≤ (appBy [] x).length := cdiv_le (by omega)
  refine ⟨by unfold symS; rw [symTo_len]; simp at h2; omega, fun r hr => ?_⟩
  obtain ⟨j, _, rfl⟩ := List.mem_map.1 hr
  simp [symRow]; omega
 ·exact ⟨by simp, fun r hr => by cases hr⟩
def genRows {α : Type} (l : List α) (s j : Nat) : List α := List.drop (j * s) (List.take (j * s + s) l)
theorem take_min {α : Type} (l : List α) (a : Nat) : List.take (min a l.length) l = List.take a l := by
 rcases Nat.le_total a l.length with h | h
 ·rw [Nat.min_eq_left h]
 ·rw [Nat.min_eq_right h, List.take_of_length_le h, List.take_of_length_le (Nat.le_refl _)]
def genTo {α : Type} (l : List α) (s : Nat) (f : Int) (i : Nat) : List (Int × List α) := (List.range i).map fun (j : Nat) => (f + ((j : Nat) : Int), genRows l s j)
theorem genTo_len {α : Type} (l : List α) (s : Nat) (f : Int) (i : Nat) : (genTo l s f i).length = i := by simp [genTo]
theorem genTo_succ {α : Type} (l : List α) (s : Nat) (f : Int) (i : Nat) : genTo l s f (i + 1) = genTo l s f i ++ [(f + (i : Int), List.drop (i * s) (List.take (min (i * s + s) l.length) l))] := by
 rw [take_min]; simp [genTo, List.range_succ]; rfl
theorem genTo_end {α : Type} {l : List α} {s i : Nat} {f : Int} (hw : 1 ≤ s) (h1 : l.length ≤ i * s) (h2 : i * s < l.length + s) : genTo l s f i = genTo l s f (cdiv l.length s) := by rw [cdiv_end hw h1 h2]
theorem quo_i {i : Nat} {s : Int} (h : 1 ≤ s) (hi : i ≤ 4611686018427387904) : IntKind.i64.wrap (Int.tdiv ((i * s.toNat : Nat) : Int) s) = ((i : Nat) : Int) := by
 have e : s = ((s.toNat : Nat) : Int) := by omega
 have e2 : Int.tdiv ((i * s.toNat : Nat) : Int) s = ((i : Nat) : Int) := by
  rw [e, Int.toNat_natCast, ← Int.ofNat_tdiv, Nat.mul_div_cancel _ (by omega)]
 rw [e2, IntKind.wrap_i64]; omega
theorem set_same {α : Type} {xs : List α} {i : Nat} {z : α} : xs.set i (xs.getD i z) = xs := by
 by_cases h : i < xs.length
 ·rw [getD_of_lt h, List.set_getElem_self]
 ·rw [List.set_eq_of_length_le (by omega)]
def splitD (x : List Int) (w s f : Int) : List (Int × List (List Int)) := if inR s 1 8 = true ∧ inR f 0 999999999590 = true then genTo (symD x w) s.toNat f (cdiv (symD x w).length s.toNat) else []
theorem splitD_n {x : List Int} {w s f : Int} (h : inR s 1 8 = false ∨ inR f 0 999999999590 = false) : [] = splitD x w s f := by
 unfold splitD; rw [if_neg]; rintro ⟨h1, h2⟩
 rcases h with h | h
 ·rw [h1] at h; cases h
 ·rw [h2] at h; cases h
theorem splitD_y {x : List Int} {w s f : Int} {i : Nat} (h : inR s 1 8 = true) (h2 : inR f 0 999999999590 = true) (h3 : (symD x w).length ≤ i * s.toNat) (h4 : i * s.toNat < (symD x w).length + s.toNat) : genTo (symD x w) s.toNat f i = splitD x w s f := by
 have := inR_t h
 unfold splitD; rw [if_pos ⟨h, h2⟩, genTo_end (by omega) h3 h4]
theorem splitD_id {x : List Int} {w s f : Int} {i : Nat} {z : Int × List (List Int)} (h : i < (splitD x w s f).length) : ((splitD x w s f).getD i z).1 = f + (i : Int) := by
 rw [getD_of_lt h]
 unfold splitD at h ⊢
 split at h
 ·rename_i hc
  simp only [if_pos hc, genTo, List.getElem_map, List.getElem_range]
 ·simp at h
theorem genRows_len {α : Type} (l : List α) (s j : Nat) : (genRows l s j).length ≤ s := by
 unfold genRows; rw [List.length_drop, List.length_take]; omega
theorem splitD_bd (x : List Int) (w s f : Int) : (splitD x w s f).length ≤ 410 ∧ ∀ g ∈ splitD x w s f, g.2.length ≤ 8 ∧ ∀ r ∈ g.2, r.length ≤ 16 := by
 unfold splitD
 have h0 := symD_len x w
 split
 ·rename_i h
  have hs := inR_t h.1
  refine ⟨by rw [genTo_len]; have : cdiv (symD x w).length s.toNat ≤ (symD x w).length := cdiv_le (by omega); omega, fun g hg => ?_⟩
  obtain ⟨j, _, rfl⟩ := List.mem_map.1 hg
  refine ⟨Nat.le_trans (genRows_len _ _ _) (by omega), fun r hr => h0.2 r ?_⟩
  exact List.mem_of_mem_take (List.mem_of_mem_drop hr)
 ·exact ⟨by simp, fun g hg => by cases hg⟩
abbrev Q_impl_AppendUvarint := (fun (x0 : (List Int)) (x1 : Int) => Sh.fit s22 x0)
def S_impl_AppendUvarint : Sum := { fid := 57, dom := [s22, (.int 3)], cod := [s22], dp := true, fz := false, pre := fun x => Q_impl_AppendUvarint x.1 x.2.1, g := fun x => ((appUv x.1 x.2.1), ()) }
def S_impl_AppendUvarint_tab : List (Nat × Sum) := [(60, S_slices_Clone_S_byte_byte_), (17, S_impl_InRange)]
theorem S_impl_AppendUvarint_ok : FnOK Try.prog 57 S_impl_AppendUvarint := by
 refine at_enter 28 (fun x => ⟨[(0, aF (.u8 5) x.1), (1, aI x.2.1)], []⟩) Try.func57 rfl (by kernel_rfl) (fun x => rfl) ?_
 rintro w0 Z0 ⟨x0, x1, u⟩ a w
 revert x0 x1
 intro (x0 : (List Int)) (x1 : Int) hpre hlens h
 replace hpre : Q_impl_AppendUvarint x0 x1 := hpre
 have hu0 : u8L x0 := hlens.1.2
 have hT : TabOK Try.prog S_impl_AppendUvarint_tab := (.cons S_slices_Clone_S_byte_byte__ok (.cons S_impl_InRange_ok .nil))
 have hf0 : Sh.fit s22 x0 := hpre
 have hn0_1 : List.length x0 ≤ 1073741824 := hf0.1
 refine wp_seq ?_
 refine at_regq [] { ts := [0, 1, 4], os := [] } [] gamOK hT h (by kernel_rfl) trivial fun a w h => then_normal (wp_seq ?_)
 refine at_regq [{}, { ids := [1] }] { ts := [1, 4, 5], os := [1] } [(lenOK (α := Int)) x0] gamOK hT h (by kernel_rfl) ⟨(by exact hf0.1), trivial⟩ fun a w h => then_normal (wp_seq (wp_seq ?_))
 refine at_regq [] { ts := [1, 4, 5, 10], os := [1] } [True] gamOK hT h (by kernel_rfl) ⟨trivial, trivial⟩ fun a w h => then_normal ?_
 refine at_test (!(inR x1 0 1000000000000)) h (by kernel_rfl) (fun h1 => ?_) (fun h1 => ?_)
 ·replace h1 : (inR x1 0 1000000000000) = false := notT h1
  have hvh1 := inR_f h1
  refine wp_seq ?_
  refine at_regq [] { ts := [1, 4, 5], os := [1] } [] gamOK hT h (by kernel_rfl) trivial fun a w h => then_normal (wp_ret (then_ret ?_))
  exact at_return (x0, ()) [] h (by kernel_rfl) trivial (congrArg (fun z => (z, ())) (show (x0) = appUv x0 x1 from by first | exact appUv_n (by assumption) | exact appUv_y (by assumption) hok0.1 hok0.2 (by omega)))
 ·replace h1 : (inR x1 0 1000000000000) = true := notF h1
  have hvh1 := inR_t h1
  have hir := inR_t h1
  refine wp_skip (then_normal (wp_seq (wp_block ?_)))
  replace h := at_out (σ' := ⟨[(1, aI x1), (4, .p (.c (cN))), (5, aS 1)], [(1, oR (.u8 5) x0)]⟩) { ts := [1, 4, 5], os := [1] } h (by kernel_rfl)
  refine at_loop (fun i : Nat => (⟨[(1, aI (((shN x1.toNat i) : Nat) : Int)), (4, .p (.c (cN))), (5, aS 1)], [(1, oR (.u8 5) (x0 ++ uvT x1.toNat i))]⟩ : St)) (fun i => (i ≤ 6 ∧ ∀ j, j < i → 128 ≤ shN x1.toNat j)) (fun i => (shN x1.toNat i)) (0) h (st_congr2 (fun (d0 : Int) (d1 : List Int) => (⟨[(1, aI d0), (4, .p (.c (cN))), (5, aS 1)], [(1, oR (.u8 5) d1)]⟩ : St)) (show (x1 : Int) = (((shN x1.toNat (0)) : Nat) : Int) from by first | with_reducible rfl | (first | (rw [shN_zero]; omega) | (rw [uvT_zero, List.append_nil]; done) | (rw [uvT_zero, List.append_nil]; rfl)) | rfl) (show (x0 : List Int) = (x0 ++ uvT x1.toNat (0)) from by first | with_reducible rfl | (first | (rw [shN_zero]; omega) | (rw [uvT_zero, List.append_nil]; done) | (rw [uvT_zero, List.append_nil]; rfl)) | rfl)) (by exact ⟨by omega, fun j hj => absurd hj (by omega)⟩) ?_
  intro i a w hok0 h
  have hsl := shN_le x1.toNat i
  have hss := shN_succ x1.toNat i
  have htl := uvT_len x1.toNat i
  refine wp_seq (wp_seq ?_)
  refine at_regq [] { ts := [1, 4, 5, 13], os := [1] } [] gamOK hT h (by kernel_rfl) trivial fun a w h => then_normal ?_
  refine at_test (decide ((((shN x1.toNat i) : Nat) : Int) ≥ 128)) h (by kernel_rfl) (fun h2 => ?_) (fun h2 => ?_)
  ·replace h2 : (((shN x1.toNat i) : Nat) : Int) ≥ 128 := of_decide_eq_true h2
   refine wp_skip (then_normal (wp_block (wp_seq ?_)))
   refine at_regq [{}, {}, { hint := some (aI (((shN x1.toNat i) % 128 : Nat) : Int)) }, { hint := some (aI (((shN x1.toNat i) % 128 + 128 : Nat) : Int)) }, {}, { ids := [2] }, { ids := [3] }] { ts := [1, 4, 5], os := [3] } [(AV.p (.c (.v (.int .i64 (IntKind.i64.wrap ((BitVec.ofInt (IntKind.i64).bits (((shN x1.toNat i) : Nat) : Int) &&& BitVec.ofInt (IntKind.i64).bits 127).toNat : Int))))) = AV.p (.c (.v (.int .i64 ((((shN x1.toNat i) % 128 : Nat) : Int)))))), (AV.p (.c (.v (.int .i64 (IntKind.i64.wrap ((BitVec.ofInt (IntKind.i64).bits (((shN x1.toNat i) % 128 : Nat) : Int) ||| BitVec.ofInt (IntKind.i64).bits 128).toNat : Int))))) = AV.p (.c (.v (.int .i64 ((((shN x1.toNat i) % 128 + 128 : Nat) : Int)))))), (0 : Int) ≤ IntKind.u8.wrap ((((shN x1.toNat i) % 128 + 128 : Nat) : Int)) ∧ IntKind.u8.wrap ((((shN x1.toNat i) % 128 + 128 : Nat) : Int)) < (256 : Int), (List.length (x0 ++ uvT x1.toNat i) + List.length ([IntKind.u8.wrap ((((shN x1.toNat i) % 128 + 128 : Nat) : Int))])) * 1 ≤ 140737488355328] gamOK hT h (by kernel_rfl) ⟨hint_int (by have hsl := shN_le x1.toNat i; exact and127 (by omega)), hint_int (by exact or128 (by omega)), (by first | exact u8_range _ | exact getD_u8 (by assumption) _ | (refine ⟨?_, ?_⟩ <;> (first | omega | (simp only [lsA]; omega) | (simp <;> omega)))), (by first | omega | (simp only [lsA]; omega) | (simp <;> omega)), trivial⟩ fun a w h => then_normal ?_
   refine at_regq [{}, { hint := some (aI ((shN x1.toNat (i + 1) : Nat) : Int)) }] { ts := [1, 4, 5], os := [3] } [(0 : Int) ≤ 7, (AV.p (.c (.v (.int .i64 ((Int.fdiv (((shN x1.toNat i) : Nat) : Int) (2 ^ (min (7 : Int).toNat (IntKind.i64).bits))))))) = AV.p (.c (.v (.int .i64 (((shN x1.toNat (i + 1) : Nat) : Int))))))] gamOK hT h (by kernel_rfl) ⟨(by first | omega | (simp only [lsA]; omega) | (simp <;> omega)), hint_int (by rw [shN_succ]; exact shr7), trivial⟩ fun a w h => in_normal ?_
   replace h := at_out (σ' := ⟨[(1, aI ((shN x1.toNat (i + 1) : Nat) : Int)), (4, .p (.c (cN))), (5, aS 1)], [(1, oR (.u8 5) ((x0 ++ uvT x1.toNat i) ++ ([IntKind.u8.wrap ((((shN x1.toNat i) % 128 + 128 : Nat) : Int))])))]⟩) { ts := [1, 4, 5], os := [3], rn := [(3, 1)] } h (by kernel_rfl)
   exact ⟨i + 1, at_eq h (st_congr2 (fun (d0 : Int) (d1 : List Int) => (⟨[(1, aI d0), (4, .p (.c (cN))), (5, aS 1)], [(1, oR (.u8 5) d1)]⟩ : St)) (show (((shN x1.toNat (i + 1) : Nat) : Int) : Int) = (((shN x1.toNat (i + 1)) : Nat) : Int) from by first | with_reducible rfl | (rfl) | rfl) (show (((x0 ++ uvT x1.toNat i) ++ ([IntKind.u8.wrap ((((shN x1.toNat i) % 128 + 128 : Nat) : Int))])) : List Int) = (x0 ++ uvT x1.toNat (i + 1)) from by first | with_reducible rfl | (rw [uvT_succ, u8w (by omega), List.append_assoc]) | rfl)), (by refine ⟨?_, fun j hj => ?_⟩; (by_cases e6 : i = 6; (subst e6; have := shN_six (n := x1.toNat) (by omega); omega); omega); (by_cases e : j = i; (subst e; omega); exact hok0.2 j (by omega))), (by omega)⟩
  ·replace h2 : ¬ ((((shN x1.toNat i) : Nat) : Int) ≥ 128) := of_decide_eq_false h2
   refine wp_exit (then_exit (then_exit (in_hit (then_normal (wp_seq ?_)))))
   refine at_regq [{}, {}, {}, { ids := [4] }, { ids := [5] }] { ts := [4], os := [5] } [(0 : Int) ≤ IntKind.u8.wrap ((((shN x1.toNat i) : Nat) : Int)) ∧ IntKind.u8.wrap ((((shN x1.toNat i) : Nat) : Int)) < (256 : Int), (List.length (x0 ++ uvT x1.toNat i) + List.length ([IntKind.u8.wrap ((((shN x1.toNat i) : Nat) : Int))])) * 1 ≤ 140737488355328] gamOK hT h (by kernel_rfl) ⟨(by first | exact u8_range _ | exact getD_u8 (by assumption) _ | (refine ⟨?_, ?_⟩ <;> (first | omega | (simp only [lsA]; omega) | (simp <;> omega)))), (by first | omega | (simp only [lsA]; omega) | (simp <;> omega)), trivial⟩ fun a w h => then_normal (wp_ret ?_)
   exact at_return (((x0 ++ uvT x1.toNat i) ++ ([IntKind.u8.wrap ((((shN x1.toNat i) : Nat) : Int))])), ()) [] h (by kernel_rfl) trivial (congrArg (fun z => (z, ())) (show (((x0 ++ uvT x1.toNat i) ++ ([IntKind.u8.wrap ((((shN x1.toNat i) : Nat) : Int))]))) = appUv x0 x1 from by first | exact appUv_n (by assumption) | exact appUv_y (by assumption) hok0.1 hok0.2 (by omega)))

abbrev Q_spec_AppendUvarint := (fun (x0 : (List Int)) (x1 : Int) => Sh.fit s22 x0)
def S_spec_AppendUvarint : Sum := { fid := 49, dom := [s22, (.int 3)], cod := [s22], dp := true, fz := false, pre := fun x => Q_spec_AppendUvarint x.1 x.2.1, g := fun x => ((appUv x.1 x.2.1), ()) }
def S_spec_AppendUvarint_tab : List (Nat × Sum) := [(32, S_spec_l1In)]
theorem S_spec_AppendUvarint_ok : FnOK Try.prog 49 S_spec_AppendUvarint := by
 refine at_enter 29 (fun x => ⟨[(0, aF (.u8 5) x.1), (1, aI x.2.1)], []⟩) Try.func49 rfl (by kernel_rfl) (fun x => rfl) ?_
 rintro w0 Z0 ⟨x0, x1, u⟩ a w
 revert x0 x1
 intro (x0 : (List Int)) (x1 : Int) hpre hlens h
 replace hpre : Q_spec_AppendUvarint x0 x1 := hpre
 have hu0 : u8L x0 := hlens.1.2
 have hT : TabOK Try.prog S_spec_AppendUvarint_tab := (.cons S_spec_l1In_ok .nil)
 have hf0 : Sh.fit s22 x0 := hpre
 have hn0_1 : List.length x0 ≤ 1073741824 := hf0.1
 refine wp_seq ?_
 refine at_regq [] { ts := [0, 1, 4], os := [] } [] gamOK hT h (by kernel_rfl) trivial fun a w h => then_normal (wp_seq ?_)
 refine at_regq [{ ids := [1] }, {}, { ids := [2] }] { ts := [1, 4, 5], os := [2] } [(List.length ([] : List Int) + List.length x0) * 1 ≤ 140737488355328] gamOK hT h (by kernel_rfl) ⟨(by first | omega | (simp only [lsA]; omega) | (simp <;> omega)), trivial⟩ fun a w h => then_normal (wp_seq (wp_seq ?_))
 refine at_regq [] { ts := [1, 4, 5, 11], os := [2] } [True] gamOK hT h (by kernel_rfl) ⟨trivial, trivial⟩ fun a w h => then_normal ?_
 refine at_test (!(inR x1 0 1000000000000)) h (by kernel_rfl) (fun h1 => ?_) (fun h1 => ?_)
 ·replace h1 : (inR x1 0 1000000000000) = false := notT h1
  have hvh1 := inR_f h1
  refine wp_seq ?_
  refine at_regq [] { ts := [1, 4, 5], os := [2] } [] gamOK hT h (by kernel_rfl) trivial fun a w h => then_normal (wp_ret (then_ret ?_))
  exact at_return ((([] : List Int) ++ x0), ()) [] h (by kernel_rfl) trivial (congrArg (fun z => (z, ())) (show ((([] : List Int) ++ x0)) = appUv x0 x1 from by first | exact appUv_n (by assumption) | exact appUv_y (by assumption) hok0.1 hok0.2 (by omega)))
 ·replace h1 : (inR x1 0 1000000000000) = true := notF h1
  have hvh1 := inR_t h1
  have hir := inR_t h1
  refine wp_skip (then_normal (wp_seq (wp_block ?_)))
  replace h := at_out (σ' := ⟨[(1, aI x1), (4, .p (.c (cN))), (5, aS 2)], [(2, oR (.u8 5) (([] : List Int) ++ x0))]⟩) { ts := [1, 4, 5], os := [2] } h (by kernel_rfl)
  refine at_loop (fun i : Nat => (⟨[(1, aI (((shN x1.toNat i) : Nat) : Int)), (4, .p (.c (cN))), (5, aS 2)], [(2, oR (.u8 5) (x0 ++ uvT x1.toNat i))]⟩ : St)) (fun i => (i ≤ 6 ∧ ∀ j, j < i → 128 ≤ shN x1.toNat j)) (fun i => (shN x1.toNat i)) (0) h (st_congr2 (fun (d0 : Int) (d1 : List Int) => (⟨[(1, aI d0), (4, .p (.c (cN))), (5, aS 2)], [(2, oR (.u8 5) d1)]⟩ : St)) (show (x1 : Int) = (((shN x1.toNat (0)) : Nat) : Int) from by first | with_reducible rfl | (first | (rw [shN_zero]; omega) | (rw [uvT_zero, List.append_nil]; done) | (rw [uvT_zero, List.append_nil]; rfl)) | rfl) (show ((([] : List Int) ++ x0) : List Int) = (x0 ++ uvT x1.toNat (0)) from by first | with_reducible rfl | (first | (rw [shN_zero]; omega) | (rw [uvT_zero, List.append_nil]; done) | (rw [uvT_zero, List.append_nil]; rfl)) | rfl)) (by exact ⟨by omega, fun j hj => absurd hj (by omega)⟩) ?_
  intro i a w hok0 h
  have hsl := shN_le x1.toNat i
  have hss := shN_succ x1.toNat i
  have htl := uvT_len x1.toNat i
  refine wp_seq (wp_seq ?_)
  refine at_regq [] { ts := [1, 4, 5, 14], os := [2] } [] gamOK hT h (by kernel_rfl) trivial fun a w h => then_normal ?_
  refine at_test (decide ((((shN x1.toNat i) : Nat) : Int) > 127)) h (by kernel_rfl) (fun h2 => ?_) (fun h2 => ?_)
  ·replace h2 : (((shN x1.toNat i) : Nat) : Int) > 127 := of_decide_eq_true h2
   refine wp_skip (then_normal (wp_block (wp_seq ?_)))
   refine at_regq [{}, {}, { hint := some (aI (((shN x1.toNat i) % 128 : Nat) : Int)) }, { hint := some (aI (((shN x1.toNat i) % 128 + 128 : Nat) : Int)) }, {}, { ids := [3] }, { ids := [4] }] { ts := [1, 4, 5], os := [4] } [(AV.p (.c (.v (.int .i64 (IntKind.i64.wrap ((BitVec.ofInt (IntKind.i64).bits (((shN x1.toNat i) : Nat) : Int) &&& BitVec.ofInt (IntKind.i64).bits 127).toNat : Int))))) = AV.p (.c (.v (.int .i64 ((((shN x1.toNat i) % 128 : Nat) : Int)))))), (AV.p (.c (.v (.int .i64 (IntKind.i64.wrap ((BitVec.ofInt (IntKind.i64).bits (((shN x1.toNat i) % 128 : Nat) : Int) ||| BitVec.ofInt (IntKind.i64).bits 128).toNat : Int))))) = AV.p (.c (.v (.int .i64 ((((shN x1.toNat i) % 128 + 128 : Nat) : Int)))))), (0 : Int) ≤ IntKind.u8.wrap ((((shN x1.toNat i) % 128 + 128 : Nat) : Int)) ∧ IntKind.u8.wrap ((((shN x1.toNat i) % 128 + 128 : Nat) : Int)) < (256 : Int), (List.length (x0 ++ uvT x1.toNat i) + List.length ([IntKind.u8.wrap ((((shN x1.toNat i) % 128 + 128 : Nat) : Int))])) * 1 ≤ 140737488355328] gamOK hT h (by kernel_rfl) ⟨hint_int (by have hsl := shN_le x1.toNat i; exact and127 (by omega)), hint_int (by exact or128 (by omega)), (by first | exact u8_range _ | exact getD_u8 (by assumption) _ | (refine ⟨?_, ?_⟩ <;> (first | omega | (simp only [lsA]; omega) | (simp <;> omega)))), (by first | omega | (simp only [lsA]; omega) | (simp <;> omega)), trivial⟩ fun a w h => then_normal ?_
   refine at_regq [{}, { hint := some (aI ((shN x1.toNat (i + 1) : Nat) : Int)) }] { ts := [1, 4, 5], os := [4] } [(0 : Int) ≤ 7, (AV.p (.c (.v (.int .i64 ((Int.fdiv (((shN x1.toNat i) : Nat) : Int) (2 ^ (min (7 : Int).toNat (IntKind.i64).bits))))))) = AV.p (.c (.v (.int .i64 (((shN x1.toNat (i + 1) : Nat) : Int))))))] gamOK hT h (by kernel_rfl) ⟨(by first | omega | (simp only [lsA]; omega) | (simp <;> omega)), hint_int (by rw [shN_succ]; exact shr7), trivial⟩ fun a w h => in_normal ?_
   replace h := at_out (σ' := ⟨[(1, aI ((shN x1.toNat (i + 1) : Nat) : Int)), (4, .p (.c (cN))), (5, aS 2)], [(2, oR (.u8 5) ((x0 ++ uvT x1.toNat i) ++ ([IntKind.u8.wrap ((((shN x1.toNat i) % 128 + 128 : Nat) : Int))])))]⟩) { ts := [1, 4, 5], os := [4], rn := [(4, 2)] } h (by kernel_rfl)
   exact ⟨i + 1, at_eq h (st_congr2 (fun (d0 : Int) (d1 : List Int) => (⟨[(1, aI d0), (4, .p (.c (cN))), (5, aS 2)], [(2, oR (.u8 5) d1)]⟩ : St)) (show (((shN x1.toNat (i + 1) : Nat) : Int) : Int) = (((shN x1.toNat (i + 1)) : Nat) : Int) from by first | with_reducible rfl | (rfl) | rfl) (show (((x0 ++ uvT x1.toNat i) ++ ([IntKind.u8.wrap ((((shN x1.toNat i) % 128 + 128 : Nat) : Int))])) : List Int) = (x0 ++ uvT x1.toNat (i + 1)) from by first | with_reducible rfl | (rw [uvT_succ, u8w (by omega), List.append_assoc]) | rfl)), (by refine ⟨?_, fun j hj => ?_⟩; (by_cases e6 : i = 6; (subst e6; have := shN_six (n := x1.toNat) (by omega); omega); omega); (by_cases e : j = i; (subst e; omega); exact hok0.2 j (by omega))), (by omega)⟩
  ·replace h2 : ¬ ((((shN x1.toNat i) : Nat) : Int) > 127) := of_decide_eq_false h2
   refine wp_exit (then_exit (then_exit (in_hit (then_normal (wp_seq ?_)))))
   refine at_regq [{}, {}, {}, { ids := [5] }, { ids := [6] }] { ts := [4], os := [6] } [(0 : Int) ≤ IntKind.u8.wrap ((((shN x1.toNat i) : Nat) : Int)) ∧ IntKind.u8.wrap ((((shN x1.toNat i) : Nat) : Int)) < (256 : Int), (List.length (x0 ++ uvT x1.toNat i) + List.length ([IntKind.u8.wrap ((((shN x1.toNat i) : Nat) : Int))])) * 1 ≤ 140737488355328] gamOK hT h (by kernel_rfl) ⟨(by first | exact u8_range _ | exact getD_u8 (by assumption) _ | (refine ⟨?_, ?_⟩ <;> (first | omega | (simp only [lsA]; omega) | (simp <;> omega)))), (by first | omega | (simp only [lsA]; omega) | (simp <;> omega)), trivial⟩ fun a w h => then_normal (wp_ret ?_)
   exact at_return (((x0 ++ uvT x1.toNat i) ++ ([IntKind.u8.wrap ((((shN x1.toNat i) : Nat) : Int))])), ()) [] h (by kernel_rfl) trivial (congrArg (fun z => (z, ())) (show (((x0 ++ uvT x1.toNat i) ++ ([IntKind.u8.wrap ((((shN x1.toNat i) : Nat) : Int))]))) = appUv x0 x1 from by first | exact appUv_n (by assumption) | exact appUv_y (by assumption) hok0.1 hok0.2 (by omega)))

abbrev Q_impl_AppendBytes := (fun (x0 : (List Int)) (x1 : (List Int)) => Sh.fit s22 x0 ∧ Sh.fit s22 x1)
def S_impl_AppendBytes : Sum := { fid := 50, dom := [s22, s22], cod := [s22], dp := true, fz := false, pre := fun x => Q_impl_AppendBytes x.1 x.2.1, g := fun x => ((appBy x.1 x.2.1), ()) }
def S_impl_AppendBytes_tab : List (Nat × Sum) := [(57, S_impl_AppendUvarint)]
theorem S_impl_AppendBytes_ok : FnOK Try.prog 50 S_impl_AppendBytes := by
 refine at_enter 11 (fun x => ⟨[(0, aF (.u8 5) x.1), (1, aF (.u8 5) x.2.1)], []⟩) Try.func50 rfl (by kernel_rfl) (fun x => rfl) ?_
 rintro w0 Z0 ⟨x0, x1, u⟩ a w
 revert x0 x1
 intro (x0 : (List Int)) (x1 : (List Int)) hpre hlens h
 replace hpre : Q_impl_AppendBytes x0 x1 := hpre
 have hu0 : u8L x0 := hlens.1.2
 have hu1 : u8L x1 := hlens.2.1.2
 have hT : TabOK Try.prog S_impl_AppendBytes_tab := (.cons S_impl_AppendUvarint_ok .nil)
 obtain ⟨hf0, hf1⟩ := hpre
 have hn0_1 : List.length x0 ≤ 1073741824 := hf0.1
 have hn1_2 : List.length x1 ≤ 1073741824 := hf1.1
 have hal := appUv_le x0 ((List.length x1 : Nat) : Int)
 refine wp_seq ?_
 refine at_regq [] { ts := [0, 1, 4], os := [] } [] gamOK hT h (by kernel_rfl) trivial fun a w h => then_normal (wp_seq ?_)
 refine at_regq [{}, {}, {}, { ids := [1] }, {}, { ids := [2] }] { ts := [4], os := [2] } [Q_impl_AppendUvarint x0 ((List.length x1 : Nat) : Int), (List.length (appUv x0 ((List.length x1 : Nat) : Int)) + List.length x1) * 1 ≤ 140737488355328] gamOK hT h (by kernel_rfl) ⟨(by exact hf0), (by first | omega | (simp only [lsA]; omega) | (simp <;> omega)), trivial⟩ fun a w h => then_normal (wp_ret ?_)
 exact at_return (((appUv x0 ((List.length x1 : Nat) : Int)) ++ x1), ()) [] h (by kernel_rfl) trivial (congrArg (fun z => (z, ())) (show (((appUv x0 ((List.length x1 : Nat) : Int)) ++ x1)) = appBy x0 x1 from by rfl))
theorem symD_fit (x : List Int) (w : Int) : Sh.fit s45 (symD x w) := ⟨by have := (symD_len x w).1; omega, fun r hr => ⟨by have := (symD_len x w).2 r hr; omega, fun _ _ => trivial⟩⟩
theorem splitD_fit (x : List Int) (w s f : Int) : Sh.fit s23 (splitD x w s f) := by
 have h := splitD_bd x w s f
 exact ⟨by omega, fun g hg => ⟨trivial, by have := (h.2 g hg).1; omega, fun r hr => ⟨by have := (h.2 g hg).2 r hr; omega, fun _ _ => trivial⟩⟩⟩

abbrev Q_impl_BytesToSymbols := (fun (x0 : (List Int)) (x1 : Int) => Sh.fit s22 x0)
def S_impl_BytesToSymbols : Sum := { fid := 36, dom := [s22, (.int 3)], cod := [s45], dp := true, fz := false, pre := fun x => Q_impl_BytesToSymbols x.1 x.2.1, g := fun x => ((symD x.1 x.2.1), ()) }
def S_impl_BytesToSymbols_tab : List (Nat × Sum) := [(17, S_impl_InRange), (50, S_impl_AppendBytes)]
theorem S_impl_BytesToSymbols_ok : FnOK Try.prog 36 S_impl_BytesToSymbols := by
 refine at_enter 56 (fun x => ⟨[(0, aF (.u8 5) x.1), (1, aI x.2.1)], []⟩) Try.func36 rfl (by kernel_rfl) (fun x => rfl) ?_
 rintro w0 Z0 ⟨x0, x1, u⟩ a w
 revert x0 x1
 intro (x0 : (List Int)) (x1 : Int) hpre hlens h
 replace hpre : Q_impl_BytesToSymbols x0 x1 := hpre
 have hu0 : u8L x0 := hlens.1.2
 have hT : TabOK Try.prog S_impl_BytesToSymbols_tab := (.cons S_impl_InRange_ok (.cons S_impl_AppendBytes_ok .nil))
 have hf0 : Sh.fit s22 x0 := hpre
 have hn0_1 : List.length x0 ≤ 1073741824 := hf0.1
 have hal : u8L (appBy ([] : List Int) x0) := appBy_u8 u8L_nil hu0
 have hlb := appBy_le ([] : List Int) x0
 have hnl : List.length ([] : List Int) = 0 := rfl
 refine wp_seq ?_
 refine at_regq [] { ts := [0, 1, 4], os := [] } [] gamOK hT h (by kernel_rfl) trivial fun a w h => then_normal (wp_seq (wp_seq ?_))
 rcases Bool.eq_false_or_eq_true (!(inR x1 1 16)) with h1 | h1
 ·have hzh1 : (inR x1 1 16) = false := notT h1
  have hvh1 := inR_f (notT h1)
  refine at_regq [{}, {}, { hint := some (aB true) }] { ts := [0, 1, 4, 18], os := [] } [True, (AV.p (.c (.v (.bool (!(inR x1 1 16))))) = AV.p (.c (.v (.bool true))))] gamOK hT h (by kernel_rfl) ⟨trivial, hint_bool (h1), trivial⟩ fun a w h => then_normal ?_
  refine at_test true h (by kernel_rfl) (fun hh => ?_) (fun hh => nomatch hh)
  refine wp_seq ?_
  refine at_regq [] { ts := [0, 1, 4], os := [] } [] gamOK hT h (by kernel_rfl) trivial fun a w h => then_normal (wp_ret (then_ret ?_))
  exact at_return (([] : List (List Int)), ()) [] h (by kernel_rfl) trivial (congrArg (fun z => (z, ())) (show (([] : List (List Int))) = symD x0 x1 from by first | exact symD_n (by first | (left; assumption) | (right; omega)) | exact symD_y (by assumption) (by omega)))
 ·have hzh1 : (inR x1 1 16) = true := notF h1
  have hvh1 := inR_t (notF h1)
  have hir := inR_t (show inR x1 1 16 = true from by first | assumption | (simp_all; done))
  refine at_regq [{}, {}, { hint := some (aB false) }] { ts := [0, 1, 4, 18], os := [] } [True, (AV.p (.c (.v (.bool (!(inR x1 1 16))))) = AV.p (.c (.v (.bool false))))] gamOK hT h (by kernel_rfl) ⟨trivial, hint_bool (h1), trivial⟩ fun a w h => then_normal ?_
  refine at_test (decide (((List.length x0 : Nat) : Int) > 400)) h (by kernel_rfl) (fun h2 => ?_) (fun h2 => ?_)
  ·replace h2 : ((List.length x0 : Nat) : Int) > 400 := of_decide_eq_true h2
   refine wp_seq ?_
   refine at_regq [] { ts := [0, 1, 4], os := [] } [] gamOK hT h (by kernel_rfl) trivial fun a w h => then_normal (wp_ret (then_ret ?_))
   exact at_return (([] : List (List Int)), ()) [] h (by kernel_rfl) trivial (congrArg (fun z => (z, ())) (show (([] : List (List Int))) = symD x0 x1 from by first | exact symD_n (by first | (left; assumption) | (right; omega)) | exact symD_y (by assumption) (by omega)))
  ·replace h2 : ¬ (((List.length x0 : Nat) : Int) > 400) := of_decide_eq_false h2
   refine wp_skip (then_normal (wp_seq ?_))
   refine at_regq [{}, { frz := true }] { ts := [1, 4, 5], os := [] } [Q_impl_AppendBytes ([] : List Int) x0] gamOK hT h (by kernel_rfl) ⟨(by exact ⟨Sh.fit_nil, hf0⟩), trivial⟩ fun a w h => then_normal (wp_seq ?_)
   refine at_regq [] { ts := [1, 4, 5, 6], os := [] } [] gamOK hT h (by kernel_rfl) trivial fun a w h => then_normal (wp_seq (wp_seq ?_))
   refine at_regq [] { ts := [1, 4, 5, 6, 7], os := [] } [] gamOK hT h (by kernel_rfl) trivial fun a w h => then_normal (wp_block ?_)
   replace h := at_out (σ' := ⟨[(1, aI x1), (4, .p (.c (cN))), (5, aF (.u8 5) (appBy ([] : List Int) x0)), (6, aS 1), (7, aI 0)], [(1, oR s61 ([] : List (List Int)))]⟩) { mt := [⟨none, 6, 1, true, s61⟩], ts := [1, 4, 5, 6, 7], os := [1] } h (by kernel_rfl)
   refine at_loop (fun i : Nat => (⟨[(1, aI x1), (4, .p (.c (cN))), (5, aF (.u8 5) (appBy ([] : List Int) x0)), (6, aS 1), (7, aI ((i * x1.toNat : Nat) : Int))], [(1, oR s61 (symTo (appBy ([] : List Int) x0) x1.toNat i))]⟩ : St)) (fun i => (i * x1.toNat < List.length (appBy ([] : List Int) x0) + x1.toNat)) (fun i => List.length (appBy ([] : List Int) x0) + x1.toNat - i * x1.toNat) (0) h (st_congr2 (fun (d0 : Int) (d1 : List (List Int)) => (⟨[(1, aI x1), (4, .p (.c (cN))), (5, aF (.u8 5) (appBy ([] : List Int) x0)), (6, aS 1), (7, aI d0)], [(1, oR s61 d1)]⟩ : St)) (show (0 : Int) = (((0) * x1.toNat : Nat) : Int) from by first | with_reducible rfl | (first | rfl | (simp; done)) | rfl) (show (([] : List (List Int)) : List (List Int)) = (symTo (appBy ([] : List Int) x0) x1.toNat (0)) from by first | with_reducible rfl | (first | rfl | (simp; done)) | rfl)) (by (simp only [Nat.zero_mul]; omega)) ?_
   intro i a w hok0 h
   have hm := Nat.succ_mul i x1.toNat
   have hsl := symTo_len (appBy ([] : List Int) x0) x1.toNat i
   have hil : i ≤ i * x1.toNat := Nat.le_mul_of_pos_right i (by omega)
   refine wp_seq (wp_seq ?_)
   refine at_regq [] { ts := [1, 4, 5, 6, 7, 24], os := [1] } [] gamOK hT h (by kernel_rfl) trivial fun a w h => then_normal ?_
   refine at_test (decide (((i * x1.toNat : Nat) : Int) < ((List.length (appBy ([] : List Int) x0) : Nat) : Int))) h (by kernel_rfl) (fun h3 => ?_) (fun h3 => ?_)
   ·replace h3 : ((i * x1.toNat : Nat) : Int) < ((List.length (appBy ([] : List Int) x0) : Nat) : Int) := of_decide_eq_true h3
    refine wp_skip (then_normal (wp_seq (wp_block (wp_seq ?_))))
    refine at_regq [{}, { ids := [2] }] { ts := [1, 4, 5, 6, 7, 8], os := [1, 2] } [(0 : Int) ≤ x1 ∧ x1 = x1 ∧ x1 * (8 : Nat) ≤ (140737488355328 : Int)] gamOK hT h (by kernel_rfl) ⟨(by refine ⟨?_, ?_, ?_⟩ <;> ((have hA0 := mul_f x1 (8 : Nat); first | omega | (simp only [lsA]; omega) | (simp <;> omega)))), trivial⟩ fun a w h => then_normal (wp_seq (wp_seq ?_))
    refine at_regq [{}, {}, {}, {}, { nw := true }, {}, {}, { hint := some (aI (((min (i * x1.toNat + x1.toNat) (List.length (appBy ([] : List Int) x0))) : Nat) : Int)) }] { ts := [1, 4, 5, 6, 7, 8, 38, 39, 40], os := [1, 2] } [I64 (((i * x1.toNat : Nat) : Int) + x1), (AV.p (.c (.v (.int .i64 (if ((List.length (appBy ([] : List Int) x0) : Nat) : Int) < ((i * x1.toNat : Nat) : Int) + x1 then ((List.length (appBy ([] : List Int) x0) : Nat) : Int) else ((i * x1.toNat : Nat) : Int) + x1)))) = AV.p (.c (.v (.int .i64 ((((min (i * x1.toNat + x1.toNat) (List.length (appBy ([] : List Int) x0))) : Nat) : Int)))))), (0 : Int) ≤ ((i * x1.toNat : Nat) : Int) ∧ ((i * x1.toNat : Nat) : Int) ≤ (((min (i * x1.toNat + x1.toNat) (List.length (appBy ([] : List Int) x0))) : Nat) : Int) ∧ (((min (i * x1.toNat + x1.toNat) (List.length (appBy ([] : List Int) x0))) : Nat) : Int) ≤ ((List.length (appBy ([] : List Int) x0) : Nat) : Int)] gamOK hT h (by kernel_rfl) ⟨⟨by (have hA0 := mul_f i x1.toNat; first | omega | (simp only [lsA]; omega) | (simp <;> omega)), by (have hA0 := mul_f i x1.toNat; first | omega | (simp only [lsA]; omega) | (simp <;> omega))⟩, hint_int (by split <;> omega), (by refine ⟨?_, ?_, ?_⟩ <;> ((have hA0 := mul_f i x1.toNat; first | omega | (simp only [lsA]; omega) | (simp <;> omega)))), trivial⟩ fun a w h => then_normal (wp_block ?_)
    replace h := at_out (σ' := ⟨[(1, aI x1), (4, .p (.c (cN))), (5, aF (.u8 5) (appBy ([] : List Int) x0)), (6, aS 1), (7, aI ((i * x1.toNat : Nat) : Int)), (8, aS 2), (38, aF (.u8 5) (List.drop (i * x1.toNat) (List.take (min (i * x1.toNat + x1.toNat) (List.length (appBy ([] : List Int) x0))) (appBy ([] : List Int) x0)))), (39, aI ((List.length (List.drop (i * x1.toNat) (List.take (min (i * x1.toNat + x1.toNat) (List.length (appBy ([] : List Int) x0))) (appBy ([] : List Int) x0))) : Nat) : Int)), (40, aI 0)], [(1, oR s61 (symTo (appBy ([] : List Int) x0) x1.toNat i)), (2, oR (.int 3) (List.replicate ((x1).toNat) (0 : Int)))]⟩) { ts := [1, 4, 5, 6, 7, 8, 38, 39, 40], os := [1, 2] } h (by kernel_rfl)
    refine at_loop (fun k : Nat => (⟨[(1, aI x1), (4, .p (.c (cN))), (5, aF (.u8 5) (appBy ([] : List Int) x0)), (6, aS 1), (7, aI ((i * x1.toNat : Nat) : Int)), (8, aS 2), (38, aF (.u8 5) (List.drop (i * x1.toNat) (List.take (min (i * x1.toNat + x1.toNat) (List.length (appBy ([] : List Int) x0))) (appBy ([] : List Int) x0)))), (39, aI ((List.length (List.drop (i * x1.toNat) (List.take (min (i * x1.toNat + x1.toNat) (List.length (appBy ([] : List Int) x0))) (appBy ([] : List Int) x0))) : Nat) : Int)), (40, aI ((k : Nat) : Int))], [(1, oR s61 (symTo (appBy ([] : List Int) x0) x1.toNat i)), (2, oR (.int 3) (rowTo (appBy ([] : List Int) x0) x1.toNat i k))]⟩ : St)) (fun k => k ≤ List.length (List.drop (i * x1.toNat) (List.take (min (i * x1.toNat + x1.toNat) (List.length (appBy ([] : List Int) x0))) (appBy ([] : List Int) x0)))) (fun k => List.length (List.drop (i * x1.toNat) (List.take (min (i * x1.toNat + x1.toNat) (List.length (appBy ([] : List Int) x0))) (appBy ([] : List Int) x0))) - k) (0) h (st_congr2 (fun (d0 : List Int) (d1 : Int) => (⟨[(1, aI x1), (4, .p (.c (cN))), (5, aF (.u8 5) (appBy ([] : List Int) x0)), (6, aS 1), (7, aI ((i * x1.toNat : Nat) : Int)), (8, aS 2), (38, aF (.u8 5) (List.drop (i * x1.toNat) (List.take (min (i * x1.toNat + x1.toNat) (List.length (appBy ([] : List Int) x0))) (appBy ([] : List Int) x0)))), (39, aI ((List.length (List.drop (i * x1.toNat) (List.take (min (i * x1.toNat + x1.toNat) (List.length (appBy ([] : List Int) x0))) (appBy ([] : List Int) x0))) : Nat) : Int)), (40, aI d1)], [(1, oR s61 (symTo (appBy ([] : List Int) x0) x1.toNat i)), (2, oR (.int 3) d0)]⟩ : St)) (show ((List.replicate ((x1).toNat) (0 : Int)) : List Int) = (rowTo (appBy ([] : List Int) x0) x1.toNat i (0)) from by first | with_reducible rfl | (exact rowTo_zero _ _ _) | rfl) (show (0 : Int) = (((0) : Nat) : Int) from by first | with_reducible rfl | (exact rowTo_zero _ _ _) | rfl)) (by omega) ?_
    intro k a w hok1 h
    have hu1 := slice_u8 hal (i * x1.toNat) (min (i * x1.toNat + x1.toNat) (List.length (appBy ([] : List Int) x0))) k
    have hrl := rowTo_len (appBy ([] : List Int) x0) x1.toNat i k
    have hdl : List.length (List.drop (i * x1.toNat) (List.take (min (i * x1.toNat + x1.toNat) (List.length (appBy ([] : List Int) x0))) (appBy ([] : List Int) x0))) ≤ x1.toNat := by rw [List.length_drop, List.length_take]; omega
    refine wp_seq ?_
    refine at_regq [] { ts := [1, 4, 5, 6, 7, 8, 38, 39, 40, 41], os := [1, 2] } [] gamOK hT h (by kernel_rfl) trivial fun a w h => then_normal (wp_seq ?_)
    refine at_test (decide (((k : Nat) : Int) < ((List.length (List.drop (i * x1.toNat) (List.take (min (i * x1.toNat + x1.toNat) (List.length (appBy ([] : List Int) x0))) (appBy ([] : List Int) x0))) : Nat) : Int))) h (by kernel_rfl) (fun h4 => ?_) (fun h4 => ?_)
    ·replace h4 : ((k : Nat) : Int) < ((List.length (List.drop (i * x1.toNat) (List.take (min (i * x1.toNat + x1.toNat) (List.length (appBy ([] : List Int) x0))) (appBy ([] : List Int) x0))) : Nat) : Int) := of_decide_eq_true h4
     refine wp_skip (then_normal (wp_seq (wp_block (wp_seq ?_))))
     refine at_regq [] { ts := [1, 4, 5, 6, 7, 8, 9, 10, 38, 39, 40], os := [1, 2] } [(0 : Int) ≤ ((k : Nat) : Int) ∧ ((k : Nat) : Int) < ((List.length (List.drop (i * x1.toNat) (List.take (min (i * x1.toNat + x1.toNat) (List.length (appBy ([] : List Int) x0))) (appBy ([] : List Int) x0))) : Nat) : Int)] gamOK hT h (by kernel_rfl) ⟨(by refine ⟨?_, ?_⟩ <;> ((have hA0 := mul_f i x1.toNat; first | omega | (simp only [lsA]; omega) | (simp <;> omega)))), trivial⟩ fun a w h => then_normal ?_
     refine at_regq [{}, {}, {}, { hint := some (aI ((List.drop (i * x1.toNat) (List.take (min (i * x1.toNat + x1.toNat) (List.length (appBy ([] : List Int) x0))) (appBy ([] : List Int) x0))).getD k 0)) }] { ts := [1, 4, 5, 6, 7, 8, 38, 39, 40], os := [1, 2] } [(AV.p (.c (.v (.int .i64 (IntKind.i64.wrap (((List.drop (i * x1.toNat) (List.take (min (i * x1.toNat + x1.toNat) (List.length (appBy ([] : List Int) x0))) (appBy ([] : List Int) x0))).getD k 0)))))) = AV.p (.c (.v (.int .i64 (((List.drop (i * x1.toNat) (List.take (min (i * x1.toNat + x1.toNat) (List.length (appBy ([] : List Int) x0))) (appBy ([] : List Int) x0))).getD k 0)))))), (0 : Int) ≤ ((k : Nat) : Int) ∧ ((k : Nat) : Int) < ((List.length (rowTo (appBy ([] : List Int) x0) x1.toNat i k) : Nat) : Int), k < List.length (rowTo (appBy ([] : List Int) x0) x1.toNat i k)] gamOK hT h (by kernel_rfl) ⟨hint_int (wrap_id ⟨by (have hA0 := mul_f i x1.toNat; first | omega | (simp only [lsA]; omega) | (simp <;> omega)), by (have hA0 := mul_f i x1.toNat; first | omega | (simp only [lsA]; omega) | (simp <;> omega))⟩), (by refine ⟨?_, ?_⟩ <;> (first | omega | (simp only [lsA]; omega) | (simp <;> omega))), (by first | omega | (simp only [lsA]; omega) | (simp <;> omega)), trivial⟩ fun a w h => in_normal (then_normal ?_)
     refine at_regq [{ nw := true }] { ts := [1, 4, 5, 6, 7, 8, 38, 39, 40], os := [1, 2] } [I64 (((k : Nat) : Int) + 1)] gamOK hT h (by kernel_rfl) ⟨⟨by first | omega | (simp only [lsA]; omega) | (simp <;> omega), by first | omega | (simp only [lsA]; omega) | (simp <;> omega)⟩, trivial⟩ fun a w h => ?_
     replace h := at_out (σ' := ⟨[(1, aI x1), (4, .p (.c (cN))), (5, aF (.u8 5) (appBy ([] : List Int) x0)), (6, aS 1), (7, aI ((i * x1.toNat : Nat) : Int)), (8, aS 2), (38, aF (.u8 5) (List.drop (i * x1.toNat) (List.take (min (i * x1.toNat + x1.toNat) (List.length (appBy ([] : List Int) x0))) (appBy ([] : List Int) x0)))), (39, aI ((List.length (List.drop (i * x1.toNat) (List.take (min (i * x1.toNat + x1.toNat) (List.length (appBy ([] : List Int) x0))) (appBy ([] : List Int) x0))) : Nat) : Int)), (40, aI (((k : Nat) : Int) + 1))], [(1, oR s61 (symTo (appBy ([] : List Int) x0) x1.toNat i)), (2, oR (.int 3) (List.set (rowTo (appBy ([] : List Int) x0) x1.toNat i k) k ((List.drop (i * x1.toNat) (List.take (min (i * x1.toNat + x1.toNat) (List.length (appBy ([] : List Int) x0))) (appBy ([] : List Int) x0))).getD k 0)))]⟩) { ts := [1, 4, 5, 6, 7, 8, 38, 39, 40], os := [1, 2] } h (by kernel_rfl)
     exact ⟨k + 1, at_eq h (st_congr2 (fun (d0 : List Int) (d1 : Int) => (⟨[(1, aI x1), (4, .p (.c (cN))), (5, aF (.u8 5) (appBy ([] : List Int) x0)), (6, aS 1), (7, aI ((i * x1.toNat : Nat) : Int)), (8, aS 2), (38, aF (.u8 5) (List.drop (i * x1.toNat) (List.take (min (i * x1.toNat + x1.toNat) (List.length (appBy ([] : List Int) x0))) (appBy ([] : List Int) x0)))), (39, aI ((List.length (List.drop (i * x1.toNat) (List.take (min (i * x1.toNat + x1.toNat) (List.length (appBy ([] : List Int) x0))) (appBy ([] : List Int) x0))) : Nat) : Int)), (40, aI d1)], [(1, oR s61 (symTo (appBy ([] : List Int) x0) x1.toNat i)), (2, oR (.int 3) d0)]⟩ : St)) (show ((List.set (rowTo (appBy ([] : List Int) x0) x1.toNat i k) k ((List.drop (i * x1.toNat) (List.take (min (i * x1.toNat + x1.toNat) (List.length (appBy ([] : List Int) x0))) (appBy ([] : List Int) x0))).getD k 0)) : List Int) = (rowTo (appBy ([] : List Int) x0) x1.toNat i (k + 1)) from by first | with_reducible rfl | (exact rowTo_set2 (by omega)) | rfl) (show (((k : Nat) : Int) + 1 : Int) = (((k + 1) : Nat) : Int) from by first | with_reducible rfl | (omega) | rfl)), (by omega), (by omega)⟩
    ·replace h4 : ¬ (((k : Nat) : Int) < ((List.length (List.drop (i * x1.toNat) (List.take (min (i * x1.toNat + x1.toNat) (List.length (appBy ([] : List Int) x0))) (appBy ([] : List Int) x0))) : Nat) : Int)) := of_decide_eq_false h4
     refine wp_exit (then_exit ?_)
     replace h := at_out (σ' := ⟨[(1, aI x1), (4, .p (.c (cN))), (5, aF (.u8 5) (appBy ([] : List Int) x0)), (6, aS 1), (7, aI ((i * x1.toNat : Nat) : Int)), (8, aS 2)], [(1, oR s61 (symTo (appBy ([] : List Int) x0) x1.toNat i)), (2, oR (.int 3) (rowTo (appBy ([] : List Int) x0) x1.toNat i k))]⟩) { ts := [1, 4, 5, 6, 7, 8], os := [1, 2] } h (by kernel_rfl)
     replace h := at_eq (σ' := ⟨[(1, aI x1), (4, .p (.c (cN))), (5, aF (.u8 5) (appBy ([] : List Int) x0)), (6, aS 1), (7, aI ((i * x1.toNat : Nat) : Int)), (8, aS 2)], [(1, oR s61 (symTo (appBy ([] : List Int) x0) x1.toNat i)), (2, oR (.int 3) (symRow (appBy ([] : List Int) x0) x1.toNat i))]⟩) h (st_congr1 (fun (d0 : List Int) => (⟨[(1, aI x1), (4, .p (.c (cN))), (5, aF (.u8 5) (appBy ([] : List Int) x0)), (6, aS 1), (7, aI ((i * x1.toNat : Nat) : Int)), (8, aS 2)], [(1, oR s61 (symTo (appBy ([] : List Int) x0) x1.toNat i)), (2, oR (.int 3) d0)]⟩ : St)) (show ((rowTo (appBy ([] : List Int) x0) x1.toNat i k) : List Int) = (symRow (appBy ([] : List Int) x0) x1.toNat i) from by first | with_reducible rfl | (exact rowTo_all2 (by omega)) | rfl))
     refine then_exit (in_hit (then_normal ?_))
     refine at_regq [{}, {}, { ids := [3] }, { ids := [4] }] { ts := [1, 4, 5, 6, 7], os := [4] } [(List.length (symTo (appBy ([] : List Int) x0) x1.toNat i) + List.length ([(symRow (appBy ([] : List Int) x0) x1.toNat i)])) * 24 ≤ 140737488355328] gamOK hT h (by kernel_rfl) ⟨(by first | omega | (simp only [lsA]; omega) | (simp <;> omega)), trivial⟩ fun a w h => in_normal (then_normal ?_)
     refine at_regq [{}, {}, { nw := true }] { ts := [1, 4, 5, 6, 7], os := [4] } [I64 (((i * x1.toNat : Nat) : Int) + x1)] gamOK hT h (by kernel_rfl) ⟨⟨by (have hA0 := mul_f i x1.toNat; first | omega | (simp only [lsA]; omega) | (simp <;> omega)), by (have hA0 := mul_f i x1.toNat; first | omega | (simp only [lsA]; omega) | (simp <;> omega))⟩, trivial⟩ fun a w h => ?_
     replace h := at_out (σ' := ⟨[(1, aI x1), (4, .p (.c (cN))), (5, aF (.u8 5) (appBy ([] : List Int) x0)), (6, aS 1), (7, aI (((i * x1.toNat : Nat) : Int) + x1))], [(1, oR s61 ((symTo (appBy ([] : List Int) x0) x1.toNat i) ++ ([(symRow (appBy ([] : List Int) x0) x1.toNat i)])))]⟩) { ts := [1, 4, 5, 6, 7], os := [4], rn := [(4, 1)] } h (by kernel_rfl)
     exact ⟨i + 1, at_eq h (st_congr2 (fun (d0 : Int) (d1 : List (List Int)) => (⟨[(1, aI x1), (4, .p (.c (cN))), (5, aF (.u8 5) (appBy ([] : List Int) x0)), (6, aS 1), (7, aI d0)], [(1, oR s61 d1)]⟩ : St)) (show (((i * x1.toNat : Nat) : Int) + x1 : Int) = (((i + 1) * x1.toNat : Nat) : Int) from by first | with_reducible rfl | ((rw [Nat.succ_mul]; omega)) | rfl) (show (((symTo (appBy ([] : List Int) x0) x1.toNat i) ++ ([(symRow (appBy ([] : List Int) x0) x1.toNat i)])) : List (List Int)) = (symTo (appBy ([] : List Int) x0) x1.toNat (i + 1)) from by first | with_reducible rfl | (exact (symTo_succ _ _ _).symm) | rfl)), (by (rw [Nat.succ_mul]; omega)), (by (rw [Nat.succ_mul]; omega))⟩
   ·replace h3 : ¬ (((i * x1.toNat : Nat) : Int) < ((List.length (appBy ([] : List Int) x0) : Nat) : Int)) := of_decide_eq_false h3
    refine wp_exit (then_exit ?_)
    replace h := at_out (σ' := ⟨[(4, .p (.c (cN))), (6, aS 1)], [(1, oR s61 (symTo (appBy ([] : List Int) x0) x1.toNat i))]⟩) { ts := [4, 6], os := [1] } h (by kernel_rfl)
    replace h := at_eq (σ' := ⟨[(4, .p (.c (cN))), (6, aS 1)], [(1, oR s61 (symS (appBy ([] : List Int) x0) x1.toNat))]⟩) h (st_congr1 (fun (d0 : List (List Int)) => (⟨[(4, .p (.c (cN))), (6, aS 1)], [(1, oR s61 d0)]⟩ : St)) (show ((symTo (appBy ([] : List Int) x0) x1.toNat i) : List (List Int)) = (symS (appBy ([] : List Int) x0) x1.toNat) from by first | with_reducible rfl | (exact symS_end (by omega) (by omega) hok0) | rfl))
    refine then_exit (in_hit (then_normal (wp_seq ?_)))
    refine at_regq [] { ts := [4], os := [1] } [] gamOK hT h (by kernel_rfl) trivial fun a w h => then_normal (wp_ret ?_)
    exact at_return ((symS (appBy ([] : List Int) x0) x1.toNat), ()) [] h (by kernel_rfl) trivial (congrArg (fun z => (z, ())) (show ((symS (appBy ([] : List Int) x0) x1.toNat)) = symD x0 x1 from by first | exact symD_n (by first | (left; assumption) | (right; omega)) | exact symD_y (by assumption) (by omega)))

abbrev Q_spec_BytesToSymbols := (fun (x0 : (List Int)) (x1 : Int) => Sh.fit s22 x0)
def S_spec_BytesToSymbols : Sum := { fid := 31, dom := [s22, (.int 3)], cod := [s45], dp := true, fz := false, pre := fun x => Q_spec_BytesToSymbols x.1 x.2.1, g := fun x => ((symD x.1 x.2.1), ()) }
def S_spec_BytesToSymbols_tab : List (Nat × Sum) := [(32, S_spec_l1In), (49, S_spec_AppendUvarint)]
theorem S_spec_BytesToSymbols_ok : FnOK Try.prog 31 S_spec_BytesToSymbols := by
 refine at_enter 63 (fun x => ⟨[(0, aF (.u8 5) x.1), (1, aI x.2.1)], []⟩) Try.func31 rfl (by kernel_rfl) (fun x => rfl) ?_
 rintro w0 Z0 ⟨x0, x1, u⟩ a w
 revert x0 x1
 intro (x0 : (List Int)) (x1 : Int) hpre hlens h
 replace hpre : Q_spec_BytesToSymbols x0 x1 := hpre
 have hu0 : u8L x0 := hlens.1.2
 have hT : TabOK Try.prog S_spec_BytesToSymbols_tab := (.cons S_spec_l1In_ok (.cons S_spec_AppendUvarint_ok .nil))
 have hf0 : Sh.fit s22 x0 := hpre
 have hn0_1 : List.length x0 ≤ 1073741824 := hf0.1
 have hl2 := appUv_le ([] : List Int) ((List.length x0 : Nat) : Int)
 have hal : u8L ((appUv ([] : List Int) ((List.length x0 : Nat) : Int)) ++ x0) := appBy_u8 u8L_nil hu0
 have hlb : List.length ((appUv ([] : List Int) ((List.length x0 : Nat) : Int)) ++ x0) ≤ _ := appBy_le ([] : List Int) x0
 have hnl : List.length ([] : List Int) = 0 := rfl
 refine wp_seq ?_
 refine at_regq [] { ts := [0, 1, 4], os := [] } [] gamOK hT h (by kernel_rfl) trivial fun a w h => then_normal (wp_seq ?_)
 refine at_regq [{ ids := [1] }] { ts := [0, 1, 4, 5], os := [1] } [] gamOK hT h (by kernel_rfl) trivial fun a w h => then_normal (wp_seq (wp_seq ?_))
 rcases Bool.eq_false_or_eq_true (!(inR x1 1 16)) with h1 | h1
 ·have hzh1 : (inR x1 1 16) = false := notT h1
  have hvh1 := inR_f (notT h1)
  refine at_regq [{}, {}, { hint := some (aB true) }] { ts := [0, 1, 4, 5, 18], os := [1] } [True, (AV.p (.c (.v (.bool (!(inR x1 1 16))))) = AV.p (.c (.v (.bool true))))] gamOK hT h (by kernel_rfl) ⟨trivial, hint_bool (h1), trivial⟩ fun a w h => then_normal ?_
  refine at_test true h (by kernel_rfl) (fun hh => ?_) (fun hh => nomatch hh)
  refine wp_seq ?_
  refine at_regq [] { ts := [0, 1, 4, 5], os := [1] } [] gamOK hT h (by kernel_rfl) trivial fun a w h => then_normal (wp_ret (then_ret ?_))
  exact at_return (([] : List (List Int)), ()) [] h (by kernel_rfl) trivial (congrArg (fun z => (z, ())) (show (([] : List (List Int))) = symD x0 x1 from by first | exact symD_n (by first | (left; assumption) | (right; omega)) | exact symD_y (by assumption) (by omega)))
 ·have hzh1 : (inR x1 1 16) = true := notF h1
  have hvh1 := inR_t (notF h1)
  have hir := inR_t (show inR x1 1 16 = true from by first | assumption | (simp_all; done))
  refine at_regq [{}, {}, { hint := some (aB false) }] { ts := [0, 1, 4, 5, 18], os := [1] } [True, (AV.p (.c (.v (.bool (!(inR x1 1 16))))) = AV.p (.c (.v (.bool false))))] gamOK hT h (by kernel_rfl) ⟨trivial, hint_bool (h1), trivial⟩ fun a w h => then_normal ?_
  refine at_test (decide (((List.length x0 : Nat) : Int) > 400)) h (by kernel_rfl) (fun h2 => ?_) (fun h2 => ?_)
  ·replace h2 : ((List.length x0 : Nat) : Int) > 400 := of_decide_eq_true h2
   refine wp_seq ?_
   refine at_regq [] { ts := [0, 1, 4, 5], os := [1] } [] gamOK hT h (by kernel_rfl) trivial fun a w h => then_normal (wp_ret (then_ret ?_))
   exact at_return (([] : List (List Int)), ()) [] h (by kernel_rfl) trivial (congrArg (fun z => (z, ())) (show (([] : List (List Int))) = symD x0 x1 from by first | exact symD_n (by first | (left; assumption) | (right; omega)) | exact symD_y (by assumption) (by omega)))
  ·replace h2 : ¬ (((List.length x0 : Nat) : Int) > 400) := of_decide_eq_false h2
   refine wp_skip (then_normal (wp_seq ?_))
   refine at_regq [{ ids := [2] }, {}, {}, { ids := [3] }, {}, { ids := [4], frz := true }] { ts := [1, 4, 5, 6], os := [1] } [Q_spec_AppendUvarint ([] : List Int) ((List.length x0 : Nat) : Int), (List.length (appUv ([] : List Int) ((List.length x0 : Nat) : Int)) + List.length x0) * 1 ≤ 140737488355328] gamOK hT h (by kernel_rfl) ⟨(by exact Sh.fit_nil), (by first | omega | (simp only [lsA]; omega) | (simp <;> omega)), trivial⟩ fun a w h => then_normal (wp_seq (wp_seq ?_))
   refine at_regq [] { ts := [1, 4, 5, 6, 7], os := [1] } [] gamOK hT h (by kernel_rfl) trivial fun a w h => then_normal (wp_block ?_)
   replace h := at_out (σ' := ⟨[(1, aI x1), (4, .p (.c (cN))), (5, aS 1), (6, aF (.u8 5) ((appUv ([] : List Int) ((List.length x0 : Nat) : Int)) ++ x0)), (7, aI 0)], [(1, oR s61 ([] : List (List Int)))]⟩) { ts := [1, 4, 5, 6, 7], os := [1] } h (by kernel_rfl)
   refine at_loop (fun i : Nat => (⟨[(1, aI x1), (4, .p (.c (cN))), (5, aS 1), (6, aF (.u8 5) ((appUv ([] : List Int) ((List.length x0 : Nat) : Int)) ++ x0)), (7, aI ((i * x1.toNat : Nat) : Int))], [(1, oR s61 (symTo ((appUv ([] : List Int) ((List.length x0 : Nat) : Int)) ++ x0) x1.toNat i))]⟩ : St)) (fun i => (i * x1.toNat < List.length ((appUv ([] : List Int) ((List.length x0 : Nat) : Int)) ++ x0) + x1.toNat)) (fun i => List.length ((appUv ([] : List Int) ((List.length x0 : Nat) : Int)) ++ x0) + x1.toNat - i * x1.toNat) (0) h (st_congr2 (fun (d0 : Int) (d1 : List (List Int)) => (⟨[(1, aI x1), (4, .p (.c (cN))), (5, aS 1), (6, aF (.u8 5) ((appUv ([] : List Int) ((List.length x0 : Nat) : Int)) ++ x0)), (7, aI d0)], [(1, oR s61 d1)]⟩ : St)) (show (0 : Int) = (((0) * x1.toNat : Nat) : Int) from by first | with_reducible rfl | (first | rfl | (simp; done)) | rfl) (show (([] : List (List Int)) : List (List Int)) = (symTo ((appUv ([] : List Int) ((List.length x0 : Nat) : Int)) ++ x0) x1.toNat (0)) from by first | with_reducible rfl | (first | rfl | (simp; done)) | rfl)) (by (simp only [Nat.zero_mul]; omega)) ?_
   intro i a w hok0 h
   have hm := Nat.succ_mul i x1.toNat
   have hsl := symTo_len ((appUv ([] : List Int) ((List.length x0 : Nat) : Int)) ++ x0) x1.toNat i
   have hil : i ≤ i * x1.toNat := Nat.le_mul_of_pos_right i (by omega)
   refine wp_seq (wp_seq ?_)
   refine at_regq [] { ts := [1, 4, 5, 6, 7, 29], os := [1] } [] gamOK hT h (by kernel_rfl) trivial fun a w h => then_normal ?_
   refine at_test (decide (((i * x1.toNat : Nat) : Int) < ((List.length ((appUv ([] : List Int) ((List.length x0 : Nat) : Int)) ++ x0) : Nat) : Int))) h (by kernel_rfl) (fun h3 => ?_) (fun h3 => ?_)
   ·replace h3 : ((i * x1.toNat : Nat) : Int) < ((List.length ((appUv ([] : List Int) ((List.length x0 : Nat) : Int)) ++ x0) : Nat) : Int) := of_decide_eq_true h3
    refine wp_skip (then_normal (wp_seq (wp_block (wp_seq ?_))))
    refine at_regq [{}, { ids := [5] }] { ts := [1, 4, 5, 6, 7, 8], os := [1, 5] } [(0 : Int) ≤ x1 ∧ x1 = x1 ∧ x1 * (8 : Nat) ≤ (140737488355328 : Int)] gamOK hT h (by kernel_rfl) ⟨(by refine ⟨?_, ?_, ?_⟩ <;> ((have hA0 := mul_f x1 (8 : Nat); first | omega | (simp only [lsA]; omega) | (simp <;> omega)))), trivial⟩ fun a w h => then_normal (wp_seq (wp_seq ?_))
    refine at_regq [] { ts := [1, 4, 5, 6, 7, 8, 9], os := [1, 5] } [] gamOK hT h (by kernel_rfl) trivial fun a w h => then_normal (wp_block ?_)
    replace h := at_out (σ' := ⟨[(1, aI x1), (4, .p (.c (cN))), (5, aS 1), (6, aF (.u8 5) ((appUv ([] : List Int) ((List.length x0 : Nat) : Int)) ++ x0)), (7, aI ((i * x1.toNat : Nat) : Int)), (8, aS 5), (9, aI 0)], [(1, oR s61 (symTo ((appUv ([] : List Int) ((List.length x0 : Nat) : Int)) ++ x0) x1.toNat i)), (5, oR (.int 3) (List.replicate ((x1).toNat) (0 : Int)))]⟩) { ts := [1, 4, 5, 6, 7, 8, 9], os := [1, 5] } h (by kernel_rfl)
    refine at_loop (fun k : Nat => (⟨[(1, aI x1), (4, .p (.c (cN))), (5, aS 1), (6, aF (.u8 5) ((appUv ([] : List Int) ((List.length x0 : Nat) : Int)) ++ x0)), (7, aI ((i * x1.toNat : Nat) : Int)), (8, aS 5), (9, aI ((k : Nat) : Int))], [(1, oR s61 (symTo ((appUv ([] : List Int) ((List.length x0 : Nat) : Int)) ++ x0) x1.toNat i)), (5, oR (.int 3) (rowTo ((appUv ([] : List Int) ((List.length x0 : Nat) : Int)) ++ x0) x1.toNat i k))]⟩ : St)) (fun k => k ≤ x1.toNat) (fun k => x1.toNat - k) (0) h (st_congr2 (fun (d0 : List Int) (d1 : Int) => (⟨[(1, aI x1), (4, .p (.c (cN))), (5, aS 1), (6, aF (.u8 5) ((appUv ([] : List Int) ((List.length x0 : Nat) : Int)) ++ x0)), (7, aI ((i * x1.toNat : Nat) : Int)), (8, aS 5), (9, aI d1)], [(1, oR s61 (symTo ((appUv ([] : List Int) ((List.length x0 : Nat) : Int)) ++ x0) x1.toNat i)), (5, oR (.int 3) d0)]⟩ : St)) (show ((List.replicate ((x1).toNat) (0 : Int)) : List Int) = (rowTo ((appUv ([] : List Int) ((List.length x0 : Nat) : Int)) ++ x0) x1.toNat i (0)) from by first | with_reducible rfl | (exact rowTo_zero _ _ _) | rfl) (show (0 : Int) = (((0) : Nat) : Int) from by first | with_reducible rfl | (exact rowTo_zero _ _ _) | rfl)) (by omega) ?_
    intro k a w hok1 h
    have hu1 := getD_u8 hal (i * x1.toNat + k)
    have hrl := rowTo_len ((appUv ([] : List Int) ((List.length x0 : Nat) : Int)) ++ x0) x1.toNat i k
    refine wp_seq (wp_seq ?_)
    by_cases h4 : ((k : Nat) : Int) < x1
    ·refine at_regq [{}, {}, { hint := some (aB true) }, {}, {}, {}, { nw := true }] { ts := [1, 4, 5, 6, 7, 8, 9, 39, 40, 41, 42, 43, 44, 45], os := [1, 5] } [(AV.p (.c (.v (.bool (decide (((k : Nat) : Int) < x1))))) = AV.p (.c (.v (.bool true)))), I64 (((i * x1.toNat : Nat) : Int) + ((k : Nat) : Int))] gamOK hT h (by kernel_rfl) ⟨hint_bool (decide_eq_true h4), ⟨by (have hA0 := mul_f i x1.toNat; first | omega | (simp only [lsA]; omega) | (simp <;> omega)), by (have hA0 := mul_f i x1.toNat; first | omega | (simp only [lsA]; omega) | (simp <;> omega))⟩, trivial⟩ fun a w h => then_normal ?_
     refine at_test (decide (((i * x1.toNat : Nat) : Int) + ((k : Nat) : Int) < ((List.length ((appUv ([] : List Int) ((List.length x0 : Nat) : Int)) ++ x0) : Nat) : Int))) h (by kernel_rfl) (fun h5 => ?_) (fun h5 => ?_)
     ·replace h5 : ((i * x1.toNat : Nat) : Int) + ((k : Nat) : Int) < ((List.length ((appUv ([] : List Int) ((List.length x0 : Nat) : Int)) ++ x0) : Nat) : Int) := of_decide_eq_true h5
      refine wp_skip (then_normal (wp_seq (wp_block ?_)))
      refine at_regq [{}, {}, {}, {}, {}, { hint := some (aI ((i * x1.toNat + k : Nat) : Int)) }, {}, {}, { hint := some (aI (((appUv ([] : List Int) ((List.length x0 : Nat) : Int)) ++ x0).getD (i * x1.toNat + k) 0)) }] { ts := [1, 4, 5, 6, 7, 8, 9, 39, 40, 41, 42, 43, 44], os := [1, 5] } [(AV.p (.c (.v (.int .i64 (IntKind.i64.wrap (((i * x1.toNat : Nat) : Int) + ((k : Nat) : Int)))))) = AV.p (.c (.v (.int .i64 (((i * x1.toNat + k : Nat) : Int)))))), (0 : Int) ≤ ((i * x1.toNat + k : Nat) : Int) ∧ ((i * x1.toNat + k : Nat) : Int) < ((List.length ((appUv ([] : List Int) ((List.length x0 : Nat) : Int)) ++ x0) : Nat) : Int), (AV.p (.c (.v (.int .i64 (IntKind.i64.wrap ((((appUv ([] : List Int) ((List.length x0 : Nat) : Int)) ++ x0).getD (i * x1.toNat + k) 0)))))) = AV.p (.c (.v (.int .i64 ((((appUv ([] : List Int) ((List.length x0 : Nat) : Int)) ++ x0).getD (i * x1.toNat + k) 0)))))), (0 : Int) ≤ ((k : Nat) : Int) ∧ ((k : Nat) : Int) < ((List.length (rowTo ((appUv ([] : List Int) ((List.length x0 : Nat) : Int)) ++ x0) x1.toNat i k) : Nat) : Int), k < List.length (rowTo ((appUv ([] : List Int) ((List.length x0 : Nat) : Int)) ++ x0) x1.toNat i k)] gamOK hT h (by kernel_rfl) ⟨hint_int (by exact wrapNat (by omega)), (by refine ⟨?_, ?_⟩ <;> ((have hA0 := mul_f i x1.toNat; first | omega | (simp only [lsA]; omega) | (simp <;> omega)))), hint_int (wrap_id ⟨by (have hA0 := mul_f i x1.toNat; first | omega | (simp only [lsA]; omega) | (simp <;> omega)), by (have hA0 := mul_f i x1.toNat; first | omega | (simp only [lsA]; omega) | (simp <;> omega))⟩), (by refine ⟨?_, ?_⟩ <;> (first | omega | (simp only [lsA]; omega) | (simp <;> omega))), (by first | omega | (simp only [lsA]; omega) | (simp <;> omega)), trivial⟩ fun a w h => in_normal (then_normal ?_)
      refine at_regq [{}, { nw := true }] { ts := [1, 4, 5, 6, 7, 8, 9, 39, 40, 41, 42, 43, 44], os := [1, 5] } [I64 (((k : Nat) : Int) + 1)] gamOK hT h (by kernel_rfl) ⟨⟨by first | omega | (simp only [lsA]; omega) | (simp <;> omega), by first | omega | (simp only [lsA]; omega) | (simp <;> omega)⟩, trivial⟩ fun a w h => ?_
      replace h := at_out (σ' := ⟨[(1, aI x1), (4, .p (.c (cN))), (5, aS 1), (6, aF (.u8 5) ((appUv ([] : List Int) ((List.length x0 : Nat) : Int)) ++ x0)), (7, aI ((i * x1.toNat : Nat) : Int)), (8, aS 5), (9, aI (((k : Nat) : Int) + 1))], [(1, oR s61 (symTo ((appUv ([] : List Int) ((List.length x0 : Nat) : Int)) ++ x0) x1.toNat i)), (5, oR (.int 3) (List.set (rowTo ((appUv ([] : List Int) ((List.length x0 : Nat) : Int)) ++ x0) x1.toNat i k) k (((appUv ([] : List Int) ((List.length x0 : Nat) : Int)) ++ x0).getD (i * x1.toNat + k) 0)))]⟩) { ts := [1, 4, 5, 6, 7, 8, 9], os := [1, 5] } h (by kernel_rfl)
      exact ⟨k + 1, at_eq h (st_congr2 (fun (d0 : List Int) (d1 : Int) => (⟨[(1, aI x1), (4, .p (.c (cN))), (5, aS 1), (6, aF (.u8 5) ((appUv ([] : List Int) ((List.length x0 : Nat) : Int)) ++ x0)), (7, aI ((i * x1.toNat : Nat) : Int)), (8, aS 5), (9, aI d1)], [(1, oR s61 (symTo ((appUv ([] : List Int) ((List.length x0 : Nat) : Int)) ++ x0) x1.toNat i)), (5, oR (.int 3) d0)]⟩ : St)) (show ((List.set (rowTo ((appUv ([] : List Int) ((List.length x0 : Nat) : Int)) ++ x0) x1.toNat i k) k (((appUv ([] : List Int) ((List.length x0 : Nat) : Int)) ++ x0).getD (i * x1.toNat + k) 0)) : List Int) = (rowTo ((appUv ([] : List Int) ((List.length x0 : Nat) : Int)) ++ x0) x1.toNat i (k + 1)) from by first | with_reducible rfl | (exact rowTo_set) | rfl) (show (((k : Nat) : Int) + 1 : Int) = (((k + 1) : Nat) : Int) from by first | with_reducible rfl | (omega) | rfl)), (by omega), (by omega)⟩
     ·replace h5 : ¬ (((i * x1.toNat : Nat) : Int) + ((k : Nat) : Int) < ((List.length ((appUv ([] : List Int) ((List.length x0 : Nat) : Int)) ++ x0) : Nat) : Int)) := of_decide_eq_false h5
      refine wp_exit (then_exit ?_)
      replace h := at_out (σ' := ⟨[(1, aI x1), (4, .p (.c (cN))), (5, aS 1), (6, aF (.u8 5) ((appUv ([] : List Int) ((List.length x0 : Nat) : Int)) ++ x0)), (7, aI ((i * x1.toNat : Nat) : Int)), (8, aS 5), (39, aI ((i * x1.toNat : Nat) : Int)), (40, aI ((k : Nat) : Int)), (41, aI (((i * x1.toNat : Nat) : Int) + ((k : Nat) : Int))), (42, aF (.u8 5) ((appUv ([] : List Int) ((List.length x0 : Nat) : Int)) ++ x0)), (43, aI ((List.length ((appUv ([] : List Int) ((List.length x0 : Nat) : Int)) ++ x0) : Nat) : Int)), (44, aB (decide (((i * x1.toNat : Nat) : Int) + ((k : Nat) : Int) < ((List.length ((appUv ([] : List Int) ((List.length x0 : Nat) : Int)) ++ x0) : Nat) : Int))))], [(1, oR s61 (symTo ((appUv ([] : List Int) ((List.length x0 : Nat) : Int)) ++ x0) x1.toNat i)), (5, oR (.int 3) (rowTo ((appUv ([] : List Int) ((List.length x0 : Nat) : Int)) ++ x0) x1.toNat i k))]⟩) { ts := [1, 4, 5, 6, 7, 8, 39, 40, 41, 42, 43, 44], os := [1, 5] } h (by kernel_rfl)
      replace h := at_eq (σ' := ⟨[(1, aI x1), (4, .p (.c (cN))), (5, aS 1), (6, aF (.u8 5) ((appUv ([] : List Int) ((List.length x0 : Nat) : Int)) ++ x0)), (7, aI ((i * x1.toNat : Nat) : Int)), (8, aS 5), (39, aI ((i * x1.toNat : Nat) : Int)), (40, aI ((k : Nat) : Int)), (41, aI (((i * x1.toNat : Nat) : Int) + ((k : Nat) : Int))), (42, aF (.u8 5) ((appUv ([] : List Int) ((List.length x0 : Nat) : Int)) ++ x0)), (43, aI ((List.length ((appUv ([] : List Int) ((List.length x0 : Nat) : Int)) ++ x0) : Nat) : Int)), (44, aB (decide (((i * x1.toNat : Nat) : Int) + ((k : Nat) : Int) < ((List.length ((appUv ([] : List Int) ((List.length x0 : Nat) : Int)) ++ x0) : Nat) : Int))))], [(1, oR s61 (symTo ((appUv ([] : List Int) ((List.length x0 : Nat) : Int)) ++ x0) x1.toNat i)), (5, oR (.int 3) (symRow ((appUv ([] : List Int) ((List.length x0 : Nat) : Int)) ++ x0) x1.toNat i))]⟩) h (st_congr1 (fun (d0 : List Int) => (⟨[(1, aI x1), (4, .p (.c (cN))), (5, aS 1), (6, aF (.u8 5) ((appUv ([] : List Int) ((List.length x0 : Nat) : Int)) ++ x0)), (7, aI ((i * x1.toNat : Nat) : Int)), (8, aS 5), (39, aI ((i * x1.toNat : Nat) : Int)), (40, aI ((k : Nat) : Int)), (41, aI (((i * x1.toNat : Nat) : Int) + ((k : Nat) : Int))), (42, aF (.u8 5) ((appUv ([] : List Int) ((List.length x0 : Nat) : Int)) ++ x0)), (43, aI ((List.length ((appUv ([] : List Int) ((List.length x0 : Nat) : Int)) ++ x0) : Nat) : Int)), (44, aB (decide (((i * x1.toNat : Nat) : Int) + ((k : Nat) : Int) < ((List.length ((appUv ([] : List Int) ((List.length x0 : Nat) : Int)) ++ x0) : Nat) : Int))))], [(1, oR s61 (symTo ((appUv ([] : List Int) ((List.length x0 : Nat) : Int)) ++ x0) x1.toNat i)), (5, oR (.int 3) d0)]⟩ : St)) (show ((rowTo ((appUv ([] : List Int) ((List.length x0 : Nat) : Int)) ++ x0) x1.toNat i k) : List Int) = (symRow ((appUv ([] : List Int) ((List.length x0 : Nat) : Int)) ++ x0) x1.toNat i) from by first | with_reducible rfl | (exact rowTo_all (by first | (left; omega) | (right; omega))) | rfl))
      refine then_exit (in_hit (then_normal ?_))
      refine at_regq [{}, {}, { ids := [6] }, { ids := [7] }] { ts := [1, 4, 5, 6, 7, 39, 40, 41, 42, 43, 44], os := [7] } [(List.length (symTo ((appUv ([] : List Int) ((List.length x0 : Nat) : Int)) ++ x0) x1.toNat i) + List.length ([(symRow ((appUv ([] : List Int) ((List.length x0 : Nat) : Int)) ++ x0) x1.toNat i)])) * 24 ≤ 140737488355328] gamOK hT h (by kernel_rfl) ⟨(by first | omega | (simp only [lsA]; omega) | (simp <;> omega)), trivial⟩ fun a w h => in_normal (then_normal ?_)
      refine at_regq [{}, {}, { nw := true }] { ts := [1, 4, 5, 6, 7, 39, 40, 41, 42, 43, 44], os := [7] } [I64 (((i * x1.toNat : Nat) : Int) + x1)] gamOK hT h (by kernel_rfl) ⟨⟨by (have hA0 := mul_f i x1.toNat; first | omega | (simp only [lsA]; omega) | (simp <;> omega)), by (have hA0 := mul_f i x1.toNat; first | omega | (simp only [lsA]; omega) | (simp <;> omega))⟩, trivial⟩ fun a w h => ?_
      replace h := at_out (σ' := ⟨[(1, aI x1), (4, .p (.c (cN))), (5, aS 1), (6, aF (.u8 5) ((appUv ([] : List Int) ((List.length x0 : Nat) : Int)) ++ x0)), (7, aI (((i * x1.toNat : Nat) : Int) + x1))], [(1, oR s61 ((symTo ((appUv ([] : List Int) ((List.length x0 : Nat) : Int)) ++ x0) x1.toNat i) ++ ([(symRow ((appUv ([] : List Int) ((List.length x0 : Nat) : Int)) ++ x0) x1.toNat i)])))]⟩) { ts := [1, 4, 5, 6, 7], os := [7], rn := [(7, 1)] } h (by kernel_rfl)
      exact ⟨i + 1, at_eq h (st_congr2 (fun (d0 : Int) (d1 : List (List Int)) => (⟨[(1, aI x1), (4, .p (.c (cN))), (5, aS 1), (6, aF (.u8 5) ((appUv ([] : List Int) ((List.length x0 : Nat) : Int)) ++ x0)), (7, aI d0)], [(1, oR s61 d1)]⟩ : St)) (show (((i * x1.toNat : Nat) : Int) + x1 : Int) = (((i + 1) * x1.toNat : Nat) : Int) from by first | with_reducible rfl | ((rw [Nat.succ_mul]; omega)) | rfl) (show (((symTo ((appUv ([] : List Int) ((List.length x0 : Nat) : Int)) ++ x0) x1.toNat i) ++ ([(symRow ((appUv ([] : List Int) ((List.length x0 : Nat) : Int)) ++ x0) x1.toNat i)])) : List (List Int)) = (symTo ((appUv ([] : List Int) ((List.length x0 : Nat) : Int)) ++ x0) x1.toNat (i + 1)) from by first | with_reducible rfl | (exact (symTo_succ _ _ _).symm) | rfl)), (by (rw [Nat.succ_mul]; omega)), (by (rw [Nat.succ_mul]; omega))⟩
    ·refine at_regq [{}, {}, { hint := some (aB false) }] { ts := [1, 4, 5, 6, 7, 8, 9, 39, 40, 41, 42, 43, 44, 45], os := [1, 5] } [(AV.p (.c (.v (.bool (decide (((k : Nat) : Int) < x1))))) = AV.p (.c (.v (.bool false))))] gamOK hT h (by kernel_rfl) ⟨hint_bool (decide_eq_false h4), trivial⟩ fun a w h => then_normal ?_
     refine at_test false h (by kernel_rfl) (fun hh => nomatch hh) (fun hh => ?_)
     refine wp_exit (then_exit ?_)
     replace h := at_out (σ' := ⟨[(1, aI x1), (4, .p (.c (cN))), (5, aS 1), (6, aF (.u8 5) ((appUv ([] : List Int) ((List.length x0 : Nat) : Int)) ++ x0)), (7, aI ((i * x1.toNat : Nat) : Int)), (8, aS 5), (39, .p (.c (.v undef))), (40, .p (.c (.v undef))), (41, .p (.c (.v undef))), (42, .p (.c (.v undef))), (43, .p (.c (.v undef))), (44, .p (.c (.v undef)))], [(1, oR s61 (symTo ((appUv ([] : List Int) ((List.length x0 : Nat) : Int)) ++ x0) x1.toNat i)), (5, oR (.int 3) (rowTo ((appUv ([] : List Int) ((List.length x0 : Nat) : Int)) ++ x0) x1.toNat i k))]⟩) { ts := [1, 4, 5, 6, 7, 8, 39, 40, 41, 42, 43, 44], os := [1, 5] } h (by kernel_rfl)
     replace h := at_eq (σ' := ⟨[(1, aI x1), (4, .p (.c (cN))), (5, aS 1), (6, aF (.u8 5) ((appUv ([] : List Int) ((List.length x0 : Nat) : Int)) ++ x0)), (7, aI ((i * x1.toNat : Nat) : Int)), (8, aS 5), (39, .p (.c (.v undef))), (40, .p (.c (.v undef))), (41, .p (.c (.v undef))), (42, .p (.c (.v undef))), (43, .p (.c (.v undef))), (44, .p (.c (.v undef)))], [(1, oR s61 (symTo ((appUv ([] : List Int) ((List.length x0 : Nat) : Int)) ++ x0) x1.toNat i)), (5, oR (.int 3) (symRow ((appUv ([] : List Int) ((List.length x0 : Nat) : Int)) ++ x0) x1.toNat i))]⟩) h (st_congr1 (fun (d0 : List Int) => (⟨[(1, aI x1), (4, .p (.c (cN))), (5, aS 1), (6, aF (.u8 5) ((appUv ([] : List Int) ((List.length x0 : Nat) : Int)) ++ x0)), (7, aI ((i * x1.toNat : Nat) : Int)), (8, aS 5), (39, .p (.c (.v undef))), (40, .p (.c (.v undef))), (41, .p (.c (.v undef))), (42, .p (.c (.v undef))), (43, .p (.c (.v undef))), (44, .p (.c (.v undef)))], [(1, oR s61 (symTo ((appUv ([] : List Int) ((List.length x0 : Nat) : Int)) ++ x0) x1.toNat i)), (5, oR (.int 3) d0)]⟩ : St)) (show ((rowTo ((appUv ([] : List Int) ((List.length x0 : Nat) : Int)) ++ x0) x1.toNat i k) : List Int) = (symRow ((appUv ([] : List Int) ((List.length x0 : Nat) : Int)) ++ x0) x1.toNat i) from by first | with_reducible rfl | (exact rowTo_all (by first | (left; omega) | (right; omega))) | rfl))
     refine then_exit (in_hit (then_normal ?_))
     refine at_regq [{}, {}, { ids := [6] }, { ids := [7] }] { ts := [1, 4, 5, 6, 7, 39, 40, 41, 42, 43, 44], os := [7] } [(List.length (symTo ((appUv ([] : List Int) ((List.length x0 : Nat) : Int)) ++ x0) x1.toNat i) + List.length ([(symRow ((appUv ([] : List Int) ((List.length x0 : Nat) : Int)) ++ x0) x1.toNat i)])) * 24 ≤ 140737488355328] gamOK hT h (by kernel_rfl) ⟨(by first | omega | (simp only [lsA]; omega) | (simp <;> omega)), trivial⟩ fun a w h => in_normal (then_normal ?_)
     refine at_regq [{}, {}, { nw := true }] { ts := [1, 4, 5, 6, 7, 39, 40, 41, 42, 43, 44], os := [7] } [I64 (((i * x1.toNat : Nat) : Int) + x1)] gamOK hT h (by kernel_rfl) ⟨⟨by (have hA0 := mul_f i x1.toNat; first | omega | (simp only [lsA]; omega) | (simp <;> omega)), by (have hA0 := mul_f i x1.toNat; first | omega | (simp only [lsA]; omega) | (simp <;> omega))⟩, trivial⟩ fun a w h => ?_
     replace h := at_out (σ' := ⟨[(1, aI x1), (4, .p (.c (cN))), (5, aS 1), (6, aF (.u8 5) ((appUv ([] : List Int) ((List.length x0 : Nat) : Int)) ++ x0)), (7, aI (((i * x1.toNat : Nat) : Int) + x1))], [(1, oR s61 ((symTo ((appUv ([] : List Int) ((List.length x0 : Nat) : Int)) ++ x0) x1.toNat i) ++ ([(symRow ((appUv ([] : List Int) ((List.length x0 : Nat) : Int)) ++ x0) x1.toNat i)])))]⟩) { ts := [1, 4, 5, 6, 7], os := [7], rn := [(7, 1)] } h (by kernel_rfl)
     exact ⟨i + 1, at_eq h (st_congr2 (fun (d0 : Int) (d1 : List (List Int)) => (⟨[(1, aI x1), (4, .p (.c (cN))), (5, aS 1), (6, aF (.u8 5) ((appUv ([] : List Int) ((List.length x0 : Nat) : Int)) ++ x0)), (7, aI d0)], [(1, oR s61 d1)]⟩ : St)) (show (((i * x1.toNat : Nat) : Int) + x1 : Int) = (((i + 1) * x1.toNat : Nat) : Int) from by first | with_reducible rfl | ((rw [Nat.succ_mul]; omega)) | rfl) (show (((symTo ((appUv ([] : List Int) ((List.length x0 : Nat) : Int)) ++ x0) x1.toNat i) ++ ([(symRow ((appUv ([] : List Int) ((List.length x0 : Nat) : Int)) ++ x0) x1.toNat i)])) : List (List Int)) = (symTo ((appUv ([] : List Int) ((List.length x0 : Nat) : Int)) ++ x0) x1.toNat (i + 1)) from by first | with_reducible rfl | (exact (symTo_succ _ _ _).symm) | rfl)), (by (rw [Nat.succ_mul]; omega)), (by (rw [Nat.succ_mul]; omega))⟩
   ·replace h3 : ¬ (((i * x1.toNat : Nat) : Int) < ((List.length ((appUv ([] : List Int) ((List.length x0 : Nat) : Int)) ++ x0) : Nat) : Int)) := of_decide_eq_false h3
    refine wp_exit (then_exit ?_)
    replace h := at_out (σ' := ⟨[(4, .p (.c (cN))), (5, aS 1)], [(1, oR s61 (symTo ((appUv ([] : List Int) ((List.length x0 : Nat) : Int)) ++ x0) x1.toNat i))]⟩) { ts := [4, 5], os := [1] } h (by kernel_rfl)
    replace h := at_eq (σ' := ⟨[(4, .p (.c (cN))), (5, aS 1)], [(1, oR s61 (symS ((appUv ([] : List Int) ((List.length x0 : Nat) : Int)) ++ x0) x1.toNat))]⟩) h (st_congr1 (fun (d0 : List (List Int)) => (⟨[(4, .p (.c (cN))), (5, aS 1)], [(1, oR s61 d0)]⟩ : St)) (show ((symTo ((appUv ([] : List Int) ((List.length x0 : Nat) : Int)) ++ x0) x1.toNat i) : List (List Int)) = (symS ((appUv ([] : List Int) ((List.length x0 : Nat) : Int)) ++ x0) x1.toNat) from by first | with_reducible rfl | (exact symS_end (by omega) (by omega) hok0) | rfl))
    refine then_exit (in_hit (then_normal (wp_seq ?_)))
    refine at_regq [] { ts := [4], os := [1] } [] gamOK hT h (by kernel_rfl) trivial fun a w h => then_normal (wp_ret ?_)
    exact at_return ((symS ((appUv ([] : List Int) ((List.length x0 : Nat) : Int)) ++ x0) x1.toNat), ()) [] h (by kernel_rfl) trivial (congrArg (fun z => (z, ())) (show ((symS ((appUv ([] : List Int) ((List.length x0 : Nat) : Int)) ++ x0) x1.toNat)) = symD x0 x1 from by first | exact symD_n (by first | (left; assumption) | (right; omega)) | exact symD_y (by assumption) (by omega)))

def D_spec_Min (x0 : Int) (x1 : Int) : Int := (if x1 < x0 then x1 else x0)
def S_spec_Min : Sum := { fid := 34, dom := [(.int 3), (.int 3)], cod := [(.int 3)], dp := true, fz := false, pre := fun x => True, g := fun x => ((D_spec_Min x.1 x.2.1), ()) }
def S_spec_Min_tab : List (Nat × Sum) := []
theorem S_spec_Min_ok : FnOK Try.prog 34 S_spec_Min := by
 refine at_enter 10 (fun x => ⟨[(0, aI x.1), (1, aI x.2.1)], []⟩) Try.func34 rfl (by kernel_rfl) (fun x => rfl) ?_
 rintro w0 Z0 ⟨x0, x1, u⟩ a w
 revert x0 x1
 intro (x0 : Int) (x1 : Int) hpre hlens h
 have hT : TabOK Try.prog S_spec_Min_tab := .nil
 refine wp_seq ?_
 refine at_regq [] { ts := [0, 1, 4], os := [] } [] gamOK hT h (by kernel_rfl) trivial fun a w h => then_normal (wp_seq (wp_seq ?_))
 refine at_regq [] { ts := [0, 1, 4, 7], os := [] } [] gamOK hT h (by kernel_rfl) trivial fun a w h => then_normal ?_
 refine at_test (decide (x1 < x0)) h (by kernel_rfl) (fun h1 => ?_) (fun h1 => ?_)
 ·replace h1 : x1 < x0 := of_decide_eq_true h1
  refine wp_seq ?_
  refine at_regq [] { ts := [0, 4], os := [] } [] gamOK hT h (by kernel_rfl) trivial fun a w h => then_normal (wp_ret (then_ret ?_))
  exact at_return (x1, ()) [] h (by kernel_rfl) trivial (congrArg (fun z => (z, ())) (show (x1) = D_spec_Min x0 x1 from by first | rfl | (unfold D_spec_Min; rw [if_pos h1])))
 ·replace h1 : ¬ (x1 < x0) := of_decide_eq_false h1
  refine wp_skip (then_normal (wp_seq ?_))
  refine at_regq [] { ts := [4], os := [] } [] gamOK hT h (by kernel_rfl) trivial fun a w h => then_normal (wp_ret ?_)
  exact at_return (x0, ()) [] h (by kernel_rfl) trivial (congrArg (fun z => (z, ())) (show (x0) = D_spec_Min x0 x1 from by first | rfl | (unfold D_spec_Min; rw [if_neg h1])))

abbrev Q_impl_SplitMessage := (fun (x0 : (List Int)) (x1 : Int) (x2 : Int) (x3 : Int) => Sh.fit s22 x0)
def S_impl_SplitMessage : Sum := { fid := 16, dom := [s22, (.int 3), (.int 3), (.int 3)], cod := [s23], dp := true, fz := false, pre := fun x => Q_impl_SplitMessage x.1 x.2.1 x.2.2.1 x.2.2.2.1, g := fun x => ((splitD x.1 x.2.1 x.2.2.1 x.2.2.2.1), ()) }
def S_impl_SplitMessage_tab : List (Nat × Sum) := [(36, S_impl_BytesToSymbols), (17, S_impl_InRange), (37, S_impl_copyMatrix)]
theorem S_impl_SplitMessage_ok : FnOK Try.prog 16 S_impl_SplitMessage := by
 refine at_enter 49 (fun x => ⟨[(0, aF (.u8 5) x.1), (1, aI x.2.1), (2, aI x.2.2.1), (3, aI x.2.2.2.1)], []⟩) Try.func16 rfl (by kernel_rfl) (fun x => rfl) ?_
 rintro w0 Z0 ⟨x0, x1, x2, x3, u⟩ a w
 revert x0 x1 x2 x3
 intro (x0 : (List Int)) (x1 : Int) (x2 : Int) (x3 : Int) hpre hlens h
 replace hpre : Q_impl_SplitMessage x0 x1 x2 x3 := hpre
 have hu0 : u8L x0 := hlens.1.2
 have hT : TabOK Try.prog S_impl_SplitMessage_tab := (.cons S_impl_BytesToSymbols_ok (.cons S_impl_InRange_ok (.cons S_impl_copyMatrix_ok .nil)))
 have hf0 : Sh.fit s22 x0 := hpre
 have hn0_1 : List.length x0 ≤ 1073741824 := hf0.1
 refine wp_seq ?_
 refine at_regq [] { ts := [0, 1, 2, 3, 8], os := [] } [] gamOK hT h (by kernel_rfl) trivial fun a w h => then_normal (wp_seq ?_)
 refine at_regq [{}, {}, { frz := true }] { ts := [2, 3, 8, 9], os := [] } [Q_impl_BytesToSymbols x0 x1] gamOK hT h (by kernel_rfl) ⟨(by exact hf0), trivial⟩ fun a w h => then_normal (wp_seq (wp_seq ?_))
 rcases Bool.eq_false_or_eq_true (!(inR x2 1 8)) with h1 | h1
 ·have hzh1 : (inR x2 1 8) = false := notT h1
  have hvh1 := inR_f (notT h1)
  refine at_regq [{}, {}, { hint := some (aB true) }] { ts := [2, 3, 8, 9, 22], os := [] } [True, (AV.p (.c (.v (.bool (!(inR x2 1 8))))) = AV.p (.c (.v (.bool true))))] gamOK hT h (by kernel_rfl) ⟨trivial, hint_bool (h1), trivial⟩ fun a w h => then_normal ?_
  refine at_test true h (by kernel_rfl) (fun hh => ?_) (fun hh => nomatch hh)
  refine wp_seq ?_
  refine at_regq [] { ts := [2, 3, 8, 9], os := [] } [] gamOK hT h (by kernel_rfl) trivial fun a w h => then_normal (wp_ret (then_ret ?_))
  exact at_return (([] : List T47), ()) [] h (by kernel_rfl) trivial (congrArg (fun z => (z, ())) (show (([] : List T47)) = splitD x0 x1 x2 x3 from by first | exact splitD_n (by first | (left; assumption) | (right; assumption)) | rfl))
 ·have hzh1 : (inR x2 1 8) = true := notF h1
  have hvh1 := inR_t (notF h1)
  have hirh1 := inR_t (show inR x2 1 8 = true from by first | assumption | (simp_all; done))
  refine at_regq [{}, {}, { hint := some (aB false) }] { ts := [2, 3, 8, 9, 22], os := [] } [True, (AV.p (.c (.v (.bool (!(inR x2 1 8))))) = AV.p (.c (.v (.bool false)))), True] gamOK hT h (by kernel_rfl) ⟨trivial, hint_bool (h1), trivial, trivial⟩ fun a w h => then_normal ?_
  refine at_test (!(inR x3 0 999999999590)) h (by kernel_rfl) (fun h2 => ?_) (fun h2 => ?_)
  ·replace h2 : (inR x3 0 999999999590) = false := notT h2
   have hvh2 := inR_f h2
   refine wp_seq ?_
   refine at_regq [] { ts := [2, 3, 8, 9], os := [] } [] gamOK hT h (by kernel_rfl) trivial fun a w h => then_normal (wp_ret (then_ret ?_))
   exact at_return (([] : List T47), ()) [] h (by kernel_rfl) trivial (congrArg (fun z => (z, ())) (show (([] : List T47)) = splitD x0 x1 x2 x3 from by first | exact splitD_n (by first | (left; assumption) | (right; assumption)) | rfl))
  ·replace h2 : (inR x3 0 999999999590) = true := notF h2
   have hvh2 := inR_t h2
   have hirh2 := inR_t (show inR x3 0 999999999590 = true from by first | assumption | (simp_all; done))
   refine wp_skip (then_normal (wp_seq ?_))
   refine at_regq [] { ts := [2, 3, 8, 9, 10], os := [] } [] gamOK hT h (by kernel_rfl) trivial fun a w h => then_normal (wp_seq (wp_seq ?_))
   refine at_regq [] { ts := [2, 3, 8, 9, 10, 11], os := [] } [] gamOK hT h (by kernel_rfl) trivial fun a w h => then_normal (wp_block ?_)
   replace h := at_out (σ' := ⟨[(2, aI x2), (3, aI x3), (8, .p (.c (cN))), (9, aF s61 (symD x0 x1)), (10, aS 1), (11, aI 0)], [(1, oR s47 ([] : List T47))]⟩) { mt := [⟨none, 10, 1, true, s47⟩], ts := [2, 3, 8, 9, 10, 11], os := [1] } h (by kernel_rfl)
   refine at_loop (fun i : Nat => (⟨[(2, aI x2), (3, aI x3), (8, .p (.c (cN))), (9, aF s61 (symD x0 x1)), (10, aS 1), (11, aI ((i * x2.toNat : Nat) : Int))], [(1, oR s47 (genTo (symD x0 x1) x2.toNat x3 i))]⟩ : St)) (fun i => (i * x2.toNat < List.length (symD x0 x1) + x2.toNat)) (fun i => List.length (symD x0 x1) + x2.toNat - i * x2.toNat) (0) h (st_congr2 (fun (d0 : Int) (d1 : List T47) => (⟨[(2, aI x2), (3, aI x3), (8, .p (.c (cN))), (9, aF s61 (symD x0 x1)), (10, aS 1), (11, aI d0)], [(1, oR s47 d1)]⟩ : St)) (show (0 : Int) = (((0) * x2.toNat : Nat) : Int) from by first | with_reducible rfl | (first | rfl | (simp; done)) | rfl) (show (([] : List T47) : List T47) = (genTo (symD x0 x1) x2.toNat x3 (0)) from by first | with_reducible rfl | (first | rfl | (simp; done)) | rfl)) (by (simp only [Nat.zero_mul]; omega)) ?_
   intro i a w hok0 h
   have hm := Nat.succ_mul i x2.toNat
   have hgl := genTo_len (symD x0 x1) x2.toNat x3 i
   have hsl := (symD_len x0 x1).1
   have hil : i ≤ i * x2.toNat := Nat.le_mul_of_pos_right i (by omega)
   refine wp_seq (wp_seq ?_)
   refine at_regq [] { ts := [2, 3, 8, 9, 10, 11, 26], os := [1] } [] gamOK hT h (by kernel_rfl) trivial fun a w h => then_normal ?_
   refine at_test (decide (((i * x2.toNat : Nat) : Int) < ((List.length (symD x0 x1) : Nat) : Int))) h (by kernel_rfl) (fun h3 => ?_) (fun h3 => ?_)
   ·replace h3 : ((i * x2.toNat : Nat) : Int) < ((List.length (symD x0 x1) : Nat) : Int) := of_decide_eq_true h3
    refine wp_skip (then_normal (wp_seq (wp_block ?_)))
    refine at_regq [{}, {}, {}, {}, { nw := true }, {}, {}, {}, {}, { nw := true }, {}, {}, { hint := some (aI (((min (i * x2.toNat + x2.toNat) (List.length (symD x0 x1))) : Nat) : Int)) }, {}, { ids := [2] }, {}, { ids := [3] }, { ids := [4] }] { ts := [2, 3, 8, 9, 10, 11], os := [4] } [I64 (x3 + ((List.length (genTo (symD x0 x1) x2.toNat x3 i) : Nat) : Int)), I64 (((i * x2.toNat : Nat) : Int) + x2), (AV.p (.c (.v (.int .i64 (if ((List.length (symD x0 x1) : Nat) : Int) < ((i * x2.toNat : Nat) : Int) + x2 then ((List.length (symD x0 x1) : Nat) : Int) else ((i * x2.toNat : Nat) : Int) + x2)))) = AV.p (.c (.v (.int .i64 ((((min (i * x2.toNat + x2.toNat) (List.length (symD x0 x1))) : Nat) : Int)))))), (0 : Int) ≤ ((i * x2.toNat : Nat) : Int) ∧ ((i * x2.toNat : Nat) : Int) ≤ (((min (i * x2.toNat + x2.toNat) (List.length (symD x0 x1))) : Nat) : Int) ∧ (((min (i * x2.toNat + x2.toNat) (List.length (symD x0 x1))) : Nat) : Int) ≤ ((List.length (symD x0 x1) : Nat) : Int), Q_impl_copyMatrix (List.drop (i * x2.toNat) (List.take (min (i * x2.toNat + x2.toNat) (List.length (symD x0 x1))) (symD x0 x1))), (List.length (genTo (symD x0 x1) x2.toNat x3 i) + List.length ([(x3 + ((List.length (genTo (symD x0 x1) x2.toNat x3 i) : Nat) : Int), (List.drop (i * x2.toNat) (List.take (min (i * x2.toNat + x2.toNat) (List.length (symD x0 x1))) (symD x0 x1))))])) * 32 ≤ 140737488355328] gamOK hT h (by kernel_rfl) ⟨⟨by first | omega | (simp only [lsA]; omega) | (simp <;> omega), by first | omega | (simp only [lsA]; omega) | (simp <;> omega)⟩, ⟨by (have hA0 := mul_f i x2.toNat; first | omega | (simp only [lsA]; omega) | (simp <;> omega)), by (have hA0 := mul_f i x2.toNat; first | omega | (simp only [lsA]; omega) | (simp <;> omega))⟩, hint_int (by split <;> omega), (by refine ⟨?_, ?_, ?_⟩ <;> ((have hA0 := mul_f i x2.toNat; have hL1 := (show List.length (symD x0 x1) ≤ 1073741824 from ((symD_fit x0 x1)).1); first | omega | (simp only [lsA]; omega) | (simp <;> omega)))), (by exact (Sh.fit_drop (Sh.fit_take (symD_fit x0 x1) (min (i * x2.toNat + x2.toNat) (List.length (symD x0 x1)))) (i * x2.toNat))), (by (have hA0 := mul_f i x2.toNat; have hL1 := (show List.length (symD x0 x1) ≤ 1073741824 from ((symD_fit x0 x1)).1); first | omega | (simp only [lsA]; omega) | (simp <;> omega))), trivial⟩ fun a w h => in_normal (then_normal ?_)
    refine at_regq [{}, {}, { nw := true }] { ts := [2, 3, 8, 9, 10, 11], os := [4] } [I64 (((i * x2.toNat : Nat) : Int) + x2)] gamOK hT h (by kernel_rfl) ⟨⟨by (have hA0 := mul_f i x2.toNat; first | omega | (simp only [lsA]; omega) | (simp <;> omega)), by (have hA0 := mul_f i x2.toNat; first | omega | (simp only [lsA]; omega) | (simp <;> omega))⟩, trivial⟩ fun a w h => ?_
    replace h := at_out (σ' := ⟨[(2, aI x2), (3, aI x3), (8, .p (.c (cN))), (9, aF s61 (symD x0 x1)), (10, aS 1), (11, aI (((i * x2.toNat : Nat) : Int) + x2))], [(1, oR s47 ((genTo (symD x0 x1) x2.toNat x3 i) ++ ([(x3 + ((List.length (genTo (symD x0 x1) x2.toNat x3 i) : Nat) : Int), (List.drop (i * x2.toNat) (List.take (min (i * x2.toNat + x2.toNat) (List.length (symD x0 x1))) (symD x0 x1))))])))]⟩) { ts := [2, 3, 8, 9, 10, 11], os := [4], rn := [(4, 1)] } h (by kernel_rfl)
    exact ⟨i + 1, at_eq h (st_congr2 (fun (d0 : Int) (d1 : List T47) => (⟨[(2, aI x2), (3, aI x3), (8, .p (.c (cN))), (9, aF s61 (symD x0 x1)), (10, aS 1), (11, aI d0)], [(1, oR s47 d1)]⟩ : St)) (show (((i * x2.toNat : Nat) : Int) + x2 : Int) = (((i + 1) * x2.toNat : Nat) : Int) from by first | with_reducible rfl | ((rw [Nat.succ_mul]; omega)) | rfl) (show (((genTo (symD x0 x1) x2.toNat x3 i) ++ ([(x3 + ((List.length (genTo (symD x0 x1) x2.toNat x3 i) : Nat) : Int), (List.drop (i * x2.toNat) (List.take (min (i * x2.toNat + x2.toNat) (List.length (symD x0 x1))) (symD x0 x1))))])) : List T47) = (genTo (symD x0 x1) x2.toNat x3 (i + 1)) from by first | with_reducible rfl | ((rw [genTo_succ]; try rw [genTo_len])) | rfl)), (by (rw [Nat.succ_mul]; omega)), (by (rw [Nat.succ_mul]; omega))⟩
   ·replace h3 : ¬ (((i * x2.toNat : Nat) : Int) < ((List.length (symD x0 x1) : Nat) : Int)) := of_decide_eq_false h3
    refine wp_exit (then_exit ?_)
    replace h := at_out (σ' := ⟨[(8, .p (.c (cN))), (10, aS 1)], [(1, oR s47 (genTo (symD x0 x1) x2.toNat x3 i))]⟩) { ts := [8, 10], os := [1] } h (by kernel_rfl)
    replace h := at_eq (σ' := ⟨[(8, .p (.c (cN))), (10, aS 1)], [(1, oR s47 (splitD x0 x1 x2 x3))]⟩) h (st_congr1 (fun (d0 : List T47) => (⟨[(8, .p (.c (cN))), (10, aS 1)], [(1, oR s47 d0)]⟩ : St)) (show ((genTo (symD x0 x1) x2.toNat x3 i) : List T47) = (splitD x0 x1 x2 x3) from by first | with_reducible rfl | (exact splitD_y (by assumption) (by assumption) (by omega) hok0) | rfl))
    refine then_exit (in_hit (then_normal (wp_seq ?_)))
    refine at_regq [] { ts := [8], os := [1] } [] gamOK hT h (by kernel_rfl) trivial fun a w h => then_normal (wp_ret ?_)
    exact at_return ((splitD x0 x1 x2 x3), ()) [] h (by kernel_rfl) trivial (congrArg (fun z => (z, ())) (show ((splitD x0 x1 x2 x3)) = splitD x0 x1 x2 x3 from by first | exact splitD_n (by first | (left; assumption) | (right; assumption)) | rfl))

abbrev Q_spec_SplitMessage := (fun (x0 : (List Int)) (x1 : Int) (x2 : Int) (x3 : Int) => Sh.fit s22 x0)
def S_spec_SplitMessage : Sum := { fid := 12, dom := [s22, (.int 3), (.int 3), (.int 3)], cod := [s23], dp := false, fz := false, pre := fun x => Q_spec_SplitMessage x.1 x.2.1 x.2.2.1 x.2.2.2.1, g := fun x => ((splitD x.1 x.2.1 x.2.2.1 x.2.2.2.1), ()) }
def S_spec_SplitMessage_tab : List (Nat × Sum) := [(31, S_spec_BytesToSymbols), (32, S_spec_l1In), (34, S_spec_Min), (33, S_spec_l6Copy)]
theorem S_spec_SplitMessage_ok : FnOK Try.prog 12 S_spec_SplitMessage := by
 refine at_enter 52 (fun x => ⟨[(0, aF (.u8 5) x.1), (1, aI x.2.1), (2, aI x.2.2.1), (3, aI x.2.2.2.1)], []⟩) Try.func12 rfl (by kernel_rfl) (fun x => rfl) ?_
 rintro w0 Z0 ⟨x0, x1, x2, x3, u⟩ a w
 revert x0 x1 x2 x3
 intro (x0 : (List Int)) (x1 : Int) (x2 : Int) (x3 : Int) hpre hlens h
 replace hpre : Q_spec_SplitMessage x0 x1 x2 x3 := hpre
 have hu0 : u8L x0 := hlens.1.2
 have hT : TabOK Try.prog S_spec_SplitMessage_tab := (.cons S_spec_BytesToSymbols_ok (.cons S_spec_l1In_ok (.cons S_spec_Min_ok (.cons S_spec_l6Copy_ok .nil))))
 have hf0 : Sh.fit s22 x0 := hpre
 have hn0_1 : List.length x0 ≤ 1073741824 := hf0.1
 refine wp_seq ?_
 refine at_regq [] { ts := [0, 1, 2, 3, 8], os := [] } [] gamOK hT h (by kernel_rfl) trivial fun a w h => then_normal (wp_seq ?_)
 refine at_regq [{ ids := [1], dp := false }] { ts := [0, 1, 2, 3, 8, 9], os := [1] } [] gamOK hT h (by kernel_rfl) trivial fun a w h => then_normal (wp_seq ?_)
 refine at_regq [{}, {}, { frz := true }] { ts := [2, 3, 8, 9, 10], os := [1] } [Q_spec_BytesToSymbols x0 x1] gamOK hT h (by kernel_rfl) ⟨(by exact hf0), trivial⟩ fun a w h => then_normal (wp_seq (wp_seq ?_))
 rcases Bool.eq_false_or_eq_true (!(inR x2 1 8)) with h1 | h1
 ·have hzh1 : (inR x2 1 8) = false := notT h1
  have hvh1 := inR_f (notT h1)
  refine at_regq [{}, {}, { hint := some (aB true) }] { ts := [2, 3, 8, 9, 10, 23], os := [1] } [True, (AV.p (.c (.v (.bool (!(inR x2 1 8))))) = AV.p (.c (.v (.bool true))))] gamOK hT h (by kernel_rfl) ⟨trivial, hint_bool (h1), trivial⟩ fun a w h => then_normal ?_
  refine at_test true h (by kernel_rfl) (fun hh => ?_) (fun hh => nomatch hh)
  refine wp_seq ?_
  refine at_regq [] { ts := [2, 3, 8, 9, 10], os := [1] } [] gamOK hT h (by kernel_rfl) trivial fun a w h => then_normal (wp_ret (then_ret ?_))
  exact at_return (([] : List T47), ()) [] h (by kernel_rfl) trivial (congrArg (fun z => (z, ())) (show (([] : List T47)) = splitD x0 x1 x2 x3 from by first | exact splitD_n (by first | (left; assumption) | (right; assumption)) | rfl))
 ·have hzh1 : (inR x2 1 8) = true := notF h1
  have hvh1 := inR_t (notF h1)
  have hirh1 := inR_t (show inR x2 1 8 = true from by first | assumption | (simp_all; done))
  refine at_regq [{}, {}, { hint := some (aB false) }] { ts := [2, 3, 8, 9, 10, 23], os := [1] } [True, (AV.p (.c (.v (.bool (!(inR x2 1 8))))) = AV.p (.c (.v (.bool false)))), True] gamOK hT h (by kernel_rfl) ⟨trivial, hint_bool (h1), trivial, trivial⟩ fun a w h => then_normal ?_
  refine at_test (!(inR x3 0 999999999590)) h (by kernel_rfl) (fun h2 => ?_) (fun h2 => ?_)
  ·replace h2 : (inR x3 0 999999999590) = false := notT h2
   have hvh2 := inR_f h2
   refine wp_seq ?_
   refine at_regq [] { ts := [2, 3, 8, 9, 10], os := [1] } [] gamOK hT h (by kernel_rfl) trivial fun a w h => then_normal (wp_ret (then_ret ?_))
   exact at_return (([] : List T47), ()) [] h (by kernel_rfl) trivial (congrArg (fun z => (z, ())) (show (([] : List T47)) = splitD x0 x1 x2 x3 from by first | exact splitD_n (by first | (left; assumption) | (right; assumption)) | rfl))
  ·replace h2 : (inR x3 0 999999999590) = true := notF h2
   have hvh2 := inR_t h2
   have hirh2 := inR_t (show inR x3 0 999999999590 = true from by first | assumption | (simp_all; done))
   refine wp_skip (then_normal (wp_seq (wp_seq ?_)))
   refine at_regq [] { ts := [2, 3, 8, 9, 10, 11], os := [1] } [] gamOK hT h (by kernel_rfl) trivial fun a w h => then_normal (wp_block ?_)
   replace h := at_out (σ' := ⟨[(2, aI x2), (3, aI x3), (8, .p (.c (cN))), (9, aS 1), (10, aF s61 (symD x0 x1)), (11, aI 0)], [(1, oF s47 ([] : List T47))]⟩) { ts := [2, 3, 8, 9, 10, 11], os := [1] } h (by kernel_rfl)
   refine at_loop (fun i : Nat => (⟨[(2, aI x2), (3, aI x3), (8, .p (.c (cN))), (9, aS 1), (10, aF s61 (symD x0 x1)), (11, aI ((i * x2.toNat : Nat) : Int))], [(1, oF s47 (genTo (symD x0 x1) x2.toNat x3 i))]⟩ : St)) (fun i => (i * x2.toNat < List.length (symD x0 x1) + x2.toNat)) (fun i => List.length (symD x0 x1) + x2.toNat - i * x2.toNat) (0) h (st_congr2 (fun (d0 : Int) (d1 : List T47) => (⟨[(2, aI x2), (3, aI x3), (8, .p (.c (cN))), (9, aS 1), (10, aF s61 (symD x0 x1)), (11, aI d0)], [(1, oF s47 d1)]⟩ : St)) (show (0 : Int) = (((0) * x2.toNat : Nat) : Int) from by first | with_reducible rfl | (first | rfl | (simp; done)) | rfl) (show (([] : List T47) : List T47) = (genTo (symD x0 x1) x2.toNat x3 (0)) from by first | with_reducible rfl | (first | rfl | (simp; done)) | rfl)) (by (simp only [Nat.zero_mul]; omega)) ?_
   intro i a w hok0 h
   have hm := Nat.succ_mul i x2.toNat
   have hgl := genTo_len (symD x0 x1) x2.toNat x3 i
   have hsl := (symD_len x0 x1).1
   have hil : i ≤ i * x2.toNat := Nat.le_mul_of_pos_right i (by omega)
   refine wp_seq (wp_seq ?_)
   refine at_regq [] { ts := [2, 3, 8, 9, 10, 11, 28], os := [1] } [] gamOK hT h (by kernel_rfl) trivial fun a w h => then_normal ?_
   refine at_test (decide (((i * x2.toNat : Nat) : Int) < ((List.length (symD x0 x1) : Nat) : Int))) h (by kernel_rfl) (fun h3 => ?_) (fun h3 => ?_)
   ·replace h3 : ((i * x2.toNat : Nat) : Int) < ((List.length (symD x0 x1) : Nat) : Int) := of_decide_eq_true h3
    refine wp_skip (then_normal (wp_seq (wp_block ?_)))
    refine at_anyq [{}, {}, {}, {}, { hint := some (aI ((i : Nat) : Int)) }, { nw := true }, {}, {}, {}, {}, {}, {}, { nw := true }, { hint := some (aI (((min (i * x2.toNat + x2.toNat) (List.length (symD x0 x1))) : Nat) : Int)) }, {}, { frz := true }, {}, { ids := [2], dp := false }, { ids := [3], dp := false }, {}] { ts := [2, 3, 8, 9, 10, 11], os := [3] } [(x2 : Int) ≠ 0, (AV.p (.c (.v (.int .i64 (IntKind.i64.wrap (Int.tdiv ((i * x2.toNat : Nat) : Int) x2))))) = AV.p (.c (.v (.int .i64 (((i : Nat) : Int)))))), I64 (x3 + ((i : Nat) : Int)), I64 (((i * x2.toNat : Nat) : Int) + x2), True, (AV.p (.c (.v (.int .i64 ((D_spec_Min ((List.length (symD x0 x1) : Nat) : Int) (((i * x2.toNat : Nat) : Int) + x2)))))) = AV.p (.c (.v (.int .i64 ((((min (i * x2.toNat + x2.toNat) (List.length (symD x0 x1))) : Nat) : Int)))))), (0 : Int) ≤ ((i * x2.toNat : Nat) : Int) ∧ ((i * x2.toNat : Nat) : Int) ≤ (((min (i * x2.toNat + x2.toNat) (List.length (symD x0 x1))) : Nat) : Int) ∧ (((min (i * x2.toNat + x2.toNat) (List.length (symD x0 x1))) : Nat) : Int) ≤ ((List.length (symD x0 x1) : Nat) : Int), Q_spec_l6Copy (List.drop (i * x2.toNat) (List.take (min (i * x2.toNat + x2.toNat) (List.length (symD x0 x1))) (symD x0 x1))), (List.length (genTo (symD x0 x1) x2.toNat x3 i) + List.length ([(x3 + ((i : Nat) : Int), (List.drop (i * x2.toNat) (List.take (min (i * x2.toNat + x2.toNat) (List.length (symD x0 x1))) (symD x0 x1))))])) * 32 ≤ 140737488355328] gamOK hT mixed h (by kernel_rfl) ⟨(by first | omega | (simp only [lsA]; omega) | (simp <;> omega)), hint_int (by exact quo_i (by omega) (by omega)), ⟨by first | omega | (simp only [lsA]; omega) | (simp <;> omega), by first | omega | (simp only [lsA]; omega) | (simp <;> omega)⟩, ⟨by (have hA0 := mul_f i x2.toNat; first | omega | (simp only [lsA]; omega) | (simp <;> omega)), by (have hA0 := mul_f i x2.toNat; first | omega | (simp only [lsA]; omega) | (simp <;> omega))⟩, trivial, hint_int (by unfold D_spec_Min; split <;> omega), (by refine ⟨?_, ?_, ?_⟩ <;> ((have hA0 := mul_f i x2.toNat; have hL1 := (show List.length (symD x0 x1) ≤ 1073741824 from ((symD_fit x0 x1)).1); first | omega | (simp only [lsA]; omega) | (simp <;> omega)))), (by exact (Sh.fit_drop (Sh.fit_take (symD_fit x0 x1) (min (i * x2.toNat + x2.toNat) (List.length (symD x0 x1)))) (i * x2.toNat))), (by (have hA0 := mul_f i x2.toNat; have hL1 := (show List.length (symD x0 x1) ≤ 1073741824 from ((symD_fit x0 x1)).1); first | omega | (simp only [lsA]; omega) | (simp <;> omega))), trivial⟩ fun a w h => in_normal (then_normal ?_)
    refine at_regq [{}, {}, { nw := true }] { ts := [2, 3, 8, 9, 10, 11], os := [3] } [I64 (((i * x2.toNat : Nat) : Int) + x2)] gamOK hT h (by kernel_rfl) ⟨⟨by (have hA0 := mul_f i x2.toNat; first | omega | (simp only [lsA]; omega) | (simp <;> omega)), by (have hA0 := mul_f i x2.toNat; first | omega | (simp only [lsA]; omega) | (simp <;> omega))⟩, trivial⟩ fun a w h => ?_
    replace h := at_out (σ' := ⟨[(2, aI x2), (3, aI x3), (8, .p (.c (cN))), (9, aS 1), (10, aF s61 (symD x0 x1)), (11, aI (((i * x2.toNat : Nat) : Int) + x2))], [(1, oF s47 ((genTo (symD x0 x1) x2.toNat x3 i) ++ ([(x3 + ((i : Nat) : Int), (List.drop (i * x2.toNat) (List.take (min (i * x2.toNat + x2.toNat) (List.length (symD x0 x1))) (symD x0 x1))))])))]⟩) { ts := [2, 3, 8, 9, 10, 11], os := [3], rn := [(3, 1)] } h (by kernel_rfl)
    exact ⟨i + 1, at_eq h (st_congr2 (fun (d0 : Int) (d1 : List T47) => (⟨[(2, aI x2), (3, aI x3), (8, .p (.c (cN))), (9, aS 1), (10, aF s61 (symD x0 x1)), (11, aI d0)], [(1, oF s47 d1)]⟩ : St)) (show (((i * x2.toNat : Nat) : Int) + x2 : Int) = (((i + 1) * x2.toNat : Nat) : Int) from by first | with_reducible rfl | ((rw [Nat.succ_mul]; omega)) | rfl) (show (((genTo (symD x0 x1) x2.toNat x3 i) ++ ([(x3 + ((i : Nat) : Int), (List.drop (i * x2.toNat) (List.take (min (i * x2.toNat + x2.toNat) (List.length (symD x0 x1))) (symD x0 x1))))])) : List T47) = (genTo (symD x0 x1) x2.toNat x3 (i + 1)) from by first | with_reducible rfl | ((rw [genTo_succ]; try rw [genTo_len])) | rfl)), (by (rw [Nat.succ_mul]; omega)), (by (rw [Nat.succ_mul]; omega))⟩
   ·replace h3 : ¬ (((i * x2.toNat : Nat) : Int) < ((List.length (symD x0 x1) : Nat) : Int)) := of_decide_eq_false h3
    refine wp_exit (then_exit ?_)
    replace h := at_out (σ' := ⟨[(8, .p (.c (cN))), (9, aS 1)], [(1, oF s47 (genTo (symD x0 x1) x2.toNat x3 i))]⟩) { ts := [8, 9], os := [1] } h (by kernel_rfl)
    replace h := at_eq (σ' := ⟨[(8, .p (.c (cN))), (9, aS 1)], [(1, oF s47 (splitD x0 x1 x2 x3))]⟩) h (st_congr1 (fun (d0 : List T47) => (⟨[(8, .p (.c (cN))), (9, aS 1)], [(1, oF s47 d0)]⟩ : St)) (show ((genTo (symD x0 x1) x2.toNat x3 i) : List T47) = (splitD x0 x1 x2 x3) from by first | with_reducible rfl | (exact splitD_y (by assumption) (by assumption) (by omega) hok0) | rfl))
    refine then_exit (in_hit (then_normal (wp_seq ?_)))
    refine at_regq [] { ts := [8], os := [1] } [] gamOK hT h (by kernel_rfl) trivial fun a w h => then_normal (wp_ret ?_)
    exact at_return ((splitD x0 x1 x2 x3), ()) [] h (by kernel_rfl) trivial (congrArg (fun z => (z, ())) (show ((splitD x0 x1 x2 x3)) = splitD x0 x1 x2 x3 from by first | exact splitD_n (by first | (left; assumption) | (right; assumption)) | rfl))

def newW (x0 : Int) : T25 := (if (inR x0 0 60) = true then (0, (0, (0, x0))) else (0, (0, (0, 0))))
def S_impl_NewSendWindow : Sum := { fid := 18, dom := [(.int 3)], cod := [s25], dp := true, fz := false, pre := fun x => True, g := fun x => ((newW x.1), ()) }
def S_impl_NewSendWindow_tab : List (Nat × Sum) := [(17, S_impl_InRange)]
theorem S_impl_NewSendWindow_ok : FnOK Try.prog 18 S_impl_NewSendWindow := by
 refine at_enter 9 (fun x => ⟨[(0, aI x.1)], []⟩) Try.func18 rfl (by kernel_rfl) (fun x => rfl) ?_
 rintro w0 Z0 ⟨x0, u⟩ a w
 revert x0
 intro (x0 : Int) hpre hlens h
 have hT : TabOK Try.prog S_impl_NewSendWindow_tab := (.cons S_impl_InRange_ok .nil)
 refine wp_seq ?_
 refine at_regq [{ ids := [1] }] { ts := [0, 2], os := [1] } [] gamOK hT h (by kernel_rfl) trivial fun a w h => then_normal (wp_seq (wp_seq ?_))
 refine at_regq [] { ts := [0, 2, 5], os := [1] } [True] gamOK hT h (by kernel_rfl) ⟨trivial, trivial⟩ fun a w h => then_normal ?_
 refine at_test (!(inR x0 0 60)) h (by kernel_rfl) (fun h1 => ?_) (fun h1 => ?_)
 ·replace h1 : (inR x0 0 60) = false := notT h1
  have hvh1 := inR_f h1
  refine wp_seq ?_
  refine at_regq [] { ts := [0, 2], os := [1] } [] gamOK hT h (by kernel_rfl) trivial fun a w h => then_normal (wp_ret (then_ret ?_))
  exact at_return ((0, (0, (0, 0))), ()) [] h (by kernel_rfl) trivial (congrArg (fun z => (z, ())) (show ((0, (0, (0, 0)))) = newW x0 from by first | rfl | (unfold newW; rw [if_neg (neT h1)])))
 ·replace h1 : (inR x0 0 60) = true := notF h1
  have hvh1 := inR_t h1
  refine wp_skip (then_normal (wp_seq ?_))
  refine at_regq [] { ts := [2], os := [1] } [] gamOK hT h (by kernel_rfl) trivial fun a w h => then_normal (wp_ret ?_)
  exact at_return ((0, (0, (0, x0))), ()) [] h (by kernel_rfl) trivial (congrArg (fun z => (z, ())) (show ((0, (0, (0, x0)))) = newW x0 from by first | rfl | (unfold newW; rw [if_pos h1])))

def S_spec_NewSendWindow : Sum := { fid := 13, dom := [(.int 3)], cod := [s25], dp := true, fz := false, pre := fun x => True, g := fun x => ((newW x.1), ()) }
def S_spec_NewSendWindow_tab : List (Nat × Sum) := [(32, S_spec_l1In)]
theorem S_spec_NewSendWindow_ok : FnOK Try.prog 13 S_spec_NewSendWindow := by
 refine at_enter 8 (fun x => ⟨[(0, aI x.1)], []⟩) Try.func13 rfl (by kernel_rfl) (fun x => rfl) ?_
 rintro w0 Z0 ⟨x0, u⟩ a w
 revert x0
 intro (x0 : Int) hpre hlens h
 have hT : TabOK Try.prog S_spec_NewSendWindow_tab := (.cons S_spec_l1In_ok .nil)
 refine wp_seq ?_
 refine at_regq [{ ids := [1] }] { ts := [0, 2], os := [1] } [] gamOK hT h (by kernel_rfl) trivial fun a w h => then_normal (wp_seq (wp_seq ?_))
 refine at_regq [] { ts := [0, 2, 5], os := [1] } [True] gamOK hT h (by kernel_rfl) ⟨trivial, trivial⟩ fun a w h => then_normal ?_
 refine at_test (!(inR x0 0 60)) h (by kernel_rfl) (fun h1 => ?_) (fun h1 => ?_)
 ·replace h1 : (inR x0 0 60) = false := notT h1
  have hvh1 := inR_f h1
  refine at_regq [] { ts := [0, 2], os := [1] } [] gamOK hT h (by kernel_rfl) trivial fun a w h => then_normal (wp_seq ?_)
  refine at_regq [] { ts := [2], os := [1] } [] gamOK hT h (by kernel_rfl) trivial fun a w h => then_normal (wp_ret ?_)
  exact at_return ((0, (0, (0, 0))), ()) [] h (by kernel_rfl) trivial (congrArg (fun z => (z, ())) (show ((0, (0, (0, 0)))) = newW x0 from by first | rfl | (unfold newW; rw [if_neg (neT h1)]; done) | (unfold newW; simp_all)))
 ·replace h1 : (inR x0 0 60) = true := notF h1
  have hvh1 := inR_t h1
  refine wp_skip (then_normal (wp_seq ?_))
  refine at_regq [] { ts := [2], os := [1] } [] gamOK hT h (by kernel_rfl) trivial fun a w h => then_normal (wp_ret ?_)
  exact at_return ((0, (0, (0, x0))), ()) [] h (by kernel_rfl) trivial (congrArg (fun z => (z, ())) (show ((0, (0, (0, x0)))) = newW x0 from by first | rfl | (unfold newW; rw [if_pos h1]; done) | (unfold newW; simp_all)))
def encG (g : T47) : T43 := newRec g.1 ((List.length g.2 : Nat) : Int) (colsOf g.2)

def newSrc (x0 : (List Int)) (x1 : Int) (x2 : Int) (x3 : Int) : T31 := (if (inR ((List.length (splitD x0 x1 x2 0) : Nat) : Int) 1 60) = true then ((splitD x0 x1 x2 0), ((newW ((List.length (splitD x0 x1 x2 0) : Nat) : Int)), ((List.map encG (splitD x0 x1 x2 0)), (([] : List T75), x3)))) else (([] : List T47), ((0, (0, (0, 0))), (([] : List T43), (([] : List T75), 0)))))
abbrev Q_impl_NewSource := (fun (x0 : (List Int)) (x1 : Int) (x2 : Int) (x3 : Int) => Sh.fit s22 x0)
def S_impl_NewSource : Sum := { fid := 6, dom := [s22, (.int 3), (.int 3), (.int 3)], cod := [s31], dp := true, fz := false, pre := fun x => Q_impl_NewSource x.1 x.2.1 x.2.2.1 x.2.2.2.1, g := fun x => ((newSrc x.1 x.2.1 x.2.2.1 x.2.2.2.1), ()) }
def S_impl_NewSource_tab : List (Nat × Sum) := [(16, S_impl_SplitMessage), (17, S_impl_InRange), (18, S_impl_NewSendWindow), (20, S_impl_SymbolWidth), (19, S_impl_NewRecoder)]
theorem S_impl_NewSource_ok : FnOK Try.prog 6 S_impl_NewSource := by
 refine at_enter 49 (fun x => ⟨[(0, aF (.u8 5) x.1), (1, aI x.2.1), (2, aI x.2.2.1), (3, aI x.2.2.2.1)], []⟩) Try.func6 rfl (by kernel_rfl) (fun x => rfl) ?_
 rintro w0 Z0 ⟨x0, x1, x2, x3, u⟩ a w
 revert x0 x1 x2 x3
 intro (x0 : (List Int)) (x1 : Int) (x2 : Int) (x3 : Int) hpre hlens h
 replace hpre : Q_impl_NewSource x0 x1 x2 x3 := hpre
 have hu0 : u8L x0 := hlens.1.2
 have hT : TabOK Try.prog S_impl_NewSource_tab := (.cons S_impl_SplitMessage_ok (.cons S_impl_InRange_ok (.cons S_impl_NewSendWindow_ok (.cons S_impl_SymbolWidth_ok (.cons S_impl_NewRecoder_ok .nil)))))
 have hf0 : Sh.fit s22 x0 := hpre
 have hn0_1 : List.length x0 ≤ 1073741824 := hf0.1
 refine wp_seq ?_
 refine at_regq [{ ids := [1] }] { ts := [0, 1, 2, 3, 8], os := [1] } [] gamOK hT h (by kernel_rfl) trivial fun a w h => then_normal (wp_seq ?_)
 refine at_regq [{}, {}, {}, { ids := [2] }] { ts := [3, 8, 9], os := [1, 2] } [Q_impl_SplitMessage x0 x1 x2 0] gamOK hT h (by kernel_rfl) ⟨(by exact hf0), trivial⟩ fun a w h => then_normal (wp_seq (wp_seq ?_))
 refine at_regq [] { ts := [3, 8, 9, 20], os := [1, 2] } [True] gamOK hT h (by kernel_rfl) ⟨trivial, trivial⟩ fun a w h => then_normal ?_
 refine at_test (!(inR ((List.length (splitD x0 x1 x2 0) : Nat) : Int) 1 60)) h (by kernel_rfl) (fun h1 => ?_) (fun h1 => ?_)
 ·replace h1 : (inR ((List.length (splitD x0 x1 x2 0) : Nat) : Int) 1 60) = false := notT h1
  have hvh1 := inR_f h1
  refine wp_seq ?_
  refine at_regq [] { ts := [3, 8, 9], os := [1, 2] } [] gamOK hT h (by kernel_rfl) trivial fun a w h => then_normal (wp_ret (then_ret ?_))
  exact at_return ((([] : List T47), ((0, (0, (0, 0))), (([] : List T43), (([] : List T75), 0)))), ()) [] h (by kernel_rfl) trivial (congrArg (fun z => (z, ())) (show ((([] : List T47), ((0, (0, (0, 0))), (([] : List T43), (([] : List T75), 0))))) = newSrc x0 x1 x2 x3 from by first | rfl | (unfold newSrc; rw [if_neg (neT h1)])))
 ·replace h1 : (inR ((List.length (splitD x0 x1 x2 0) : Nat) : Int) 1 60) = true := notF h1
  have hvh1 := inR_t h1
  have hirh1 := inR_t (show inR _ 1 60 = true from by first | assumption | (simp_all; done))
  refine wp_skip (then_normal (wp_seq ?_))
  refine at_regq [{}, {}, {}, {}, {}, {}, { ids := [3] }] { ts := [8, 9, 10], os := [1, 2, 3] } [True] gamOK hT h (by kernel_rfl) ⟨trivial, trivial⟩ fun a w h => then_normal (wp_seq (wp_seq ?_))
  refine at_regq [] { ts := [8, 10, 28, 29, 30], os := [1, 2, 3] } [] gamOK hT h (by kernel_rfl) trivial fun a w h => then_normal (wp_block ?_)
  replace h := at_out (σ' := ⟨[(8, aP 1 0), (10, aP 3 0), (28, aS 2), (29, aI ((List.length (splitD x0 x1 x2 0) : Nat) : Int)), (30, aI 0)], [(1, oX 31 [cN, cI 0, cI 0, cI 0, cI 0, cN, cN, cI 0]), (2, oR s47 (splitD x0 x1 x2 0)), (3, oX 31 [.sl 2, cI (newW ((List.length (splitD x0 x1 x2 0) : Nat) : Int)).1, cI (newW ((List.length (splitD x0 x1 x2 0) : Nat) : Int)).2.1, cI (newW ((List.length (splitD x0 x1 x2 0) : Nat) : Int)).2.2.1, cI (newW ((List.length (splitD x0 x1 x2 0) : Nat) : Int)).2.2.2, .sl 4, cN, cI x3]), (4, oR s43 ([] : List T43))]⟩) { mt := [⟨some 3, 5, 4, true, s43⟩], ts := [8, 10, 28, 29, 30], os := [1, 2, 3, 4] } h (by kernel_rfl)
  refine at_loop (fun i : Nat => (⟨[(8, aP 1 0), (10, aP 3 0), (28, aS 2), (29, aI ((List.length (splitD x0 x1 x2 0) : Nat) : Int)), (30, aI ((i : Nat) : Int))], [(1, oX 31 [cN, cI 0, cI 0, cI 0, cI 0, cN, cN, cI 0]), (2, oR s47 (splitD x0 x1 x2 0)), (3, oX 31 [.sl 2, cI (newW ((List.length (splitD x0 x1 x2 0) : Nat) : Int)).1, cI (newW ((List.length (splitD x0 x1 x2 0) : Nat) : Int)).2.1, cI (newW ((List.length (splitD x0 x1 x2 0) : Nat) : Int)).2.2.1, cI (newW ((List.length (splitD x0 x1 x2 0) : Nat) : Int)).2.2.2, .sl 4, cN, cI x3]), (4, oR s43 (List.map encG (List.take i (splitD x0 x1 x2 0))))]⟩ : St)) (fun i => i ≤ List.length (splitD x0 x1 x2 0)) (fun i => List.length (splitD x0 x1 x2 0) - i) (0) h (st_congr3 (fun (d0 : List T43) (d1 : List T47) (d2 : Int) => (⟨[(8, aP 1 0), (10, aP 3 0), (28, aS 2), (29, aI ((List.length (splitD x0 x1 x2 0) : Nat) : Int)), (30, aI d2)], [(1, oX 31 [cN, cI 0, cI 0, cI 0, cI 0, cN, cN, cI 0]), (2, oR s47 d1), (3, oX 31 [.sl 2, cI (newW ((List.length (splitD x0 x1 x2 0) : Nat) : Int)).1, cI (newW ((List.length (splitD x0 x1 x2 0) : Nat) : Int)).2.1, cI (newW ((List.length (splitD x0 x1 x2 0) : Nat) : Int)).2.2.1, cI (newW ((List.length (splitD x0 x1 x2 0) : Nat) : Int)).2.2.2, .sl 4, cN, cI x3]), (4, oR s43 d0)]⟩ : St)) (show (([] : List T43) : List T43) = (List.map encG (List.take (0) (splitD x0 x1 x2 0))) from by first | with_reducible rfl | (first | rfl | simp) | rfl) (show ((splitD x0 x1 x2 0) : List T47) = (splitD x0 x1 x2 0) from by first | with_reducible rfl | (first | rfl | simp) | rfl) (show (0 : Int) = (((0) : Nat) : Int) from by first | with_reducible rfl | (first | rfl | simp) | rfl)) (by omega) ?_
  intro i a w hok0 h
  have hlt0 := len_take_le (xs := (splitD x0 x1 x2 0)) i
  have hsb := (splitD_bd x0 x1 x2 0).1
  refine wp_seq ?_
  refine at_regq [] { ts := [8, 10, 28, 29, 30, 31], os := [1, 2, 3, 4] } [] gamOK hT h (by kernel_rfl) trivial fun a w h => then_normal (wp_seq ?_)
  refine at_test (decide (((i : Nat) : Int) < ((List.length (splitD x0 x1 x2 0) : Nat) : Int))) h (by kernel_rfl) (fun h2 => ?_) (fun h2 => ?_)
  ·replace h2 : ((i : Nat) : Int) < ((List.length (splitD x0 x1 x2 0) : Nat) : Int) := of_decide_eq_true h2
   refine wp_skip (then_normal (wp_seq (wp_block (wp_seq ?_))))
   replace h := at_open (σ' := ⟨[(8, aP 1 0), (10, aP 3 0), (28, aS 2), (29, aI ((List.length (splitD x0 x1 x2 0) : Nat) : Int)), (30, aI ((i : Nat) : Int)), (31, aB (decide (((i : Nat) : Int) < ((List.length (splitD x0 x1 x2 0) : Nat) : Int))))], [(1, oX 31 [cN, cI 0, cI 0, cI 0, cI 0, cN, cN, cI 0]), (2, some (.op s47 (splitD x0 x1 x2 0) i [cI ((splitD x0 x1 x2 0).getD i (0, [])).1, .sl 5])), (3, oX 31 [.sl 2, cI (newW ((List.length (splitD x0 x1 x2 0) : Nat) : Int)).1, cI (newW ((List.length (splitD x0 x1 x2 0) : Nat) : Int)).2.1, cI (newW ((List.length (splitD x0 x1 x2 0) : Nat) : Int)).2.2.1, cI (newW ((List.length (splitD x0 x1 x2 0) : Nat) : Int)).2.2.2, .sl 4, cN, cI x3]), (4, oR s43 (List.map encG (List.take i (splitD x0 x1 x2 0)))), (5, oR s61 ((splitD x0 x1 x2 0).getD i (0, [])).2)]⟩) (ps := [i < List.length (splitD x0 x1 x2 0)]) 2 i [5] { ts := [8, 10, 28, 29, 30, 31], os := [1, 2, 3, 4, 5] } h (by kernel_rfl) ⟨(by (have hL0 := (show List.length (splitD x0 x1 x2 0) ≤ 1073741824 from ((splitD_fit x0 x1 x2 0)).1); first | omega | (simp only [lsA]; omega) | (simp <;> omega))), trivial⟩
   refine at_regq [{}, {}, { ids := [6] }] { ts := [8, 10, 12, 28, 29, 30], os := [1, 2, 3, 4, 5, 6] } [(0 : Int) ≤ ((i : Nat) : Int) ∧ ((i : Nat) : Int) < ((List.length (splitD x0 x1 x2 0) : Nat) : Int), i = i] gamOK hT h (by kernel_rfl) ⟨(by refine ⟨?_, ?_⟩ <;> ((have hL0 := (show List.length (splitD x0 x1 x2 0) ≤ 1073741824 from ((splitD_fit x0 x1 x2 0)).1); first | omega | (simp only [lsA]; omega) | (simp <;> omega)))), rfl, trivial⟩ fun a w h => then_normal ?_
   refine at_anyq [{}, {}, {}, {}, {}, {}, {}, {}, {}, { ids := [7] }, { ids := [8] }, { ids := [9] }, {}, {}] { ts := [8, 10, 28, 29, 30], os := [1, 2, 3, 5, 9] } [Q_impl_SymbolWidth ((splitD x0 x1 x2 0).getD i (0, [])), True, (List.length (List.map encG (List.take i (splitD x0 x1 x2 0))) + List.length ([(newRec ((splitD x0 x1 x2 0).getD i (0, [])).1 ((List.length ((splitD x0 x1 x2 0).getD i (0, [])).2 : Nat) : Int) (colsOf ((splitD x0 x1 x2 0).getD i (0, [])).2))])) * 56 ≤ 140737488355328] gamOK hT mixed h (by kernel_rfl) ⟨(by exact (Sh.fit_getD (splitD_fit x0 x1 x2 0) i)), trivial, (by (have hL0 := (show List.length ((splitD x0 x1 x2 0).getD i (0, [])).2 ≤ 1073741824 from ((Sh.fit_getD (splitD_fit x0 x1 x2 0) i).2).1); first | omega | (simp only [lsA]; omega) | (simp <;> omega))), trivial⟩ fun a w h => in_normal (then_normal ?_)
   refine at_regq [{ nw := true }] { ts := [8, 10, 28, 29, 30], os := [1, 2, 3, 5, 9] } [I64 (((i : Nat) : Int) + 1)] gamOK hT h (by kernel_rfl) ⟨⟨by first | omega | (simp only [lsA]; omega) | (simp <;> omega), by first | omega | (simp only [lsA]; omega) | (simp <;> omega)⟩, trivial⟩ fun a w h => ?_
   replace h := at_shut (σ' := ⟨[(8, aP 1 0), (10, aP 3 0), (28, aS 2), (29, aI ((List.length (splitD x0 x1 x2 0) : Nat) : Int)), (30, aI (((i : Nat) : Int) + 1))], [(1, oX 31 [cN, cI 0, cI 0, cI 0, cI 0, cN, cN, cI 0]), (2, oR s47 (List.set (splitD x0 x1 x2 0) i ((splitD x0 x1 x2 0).getD i (0, [])))), (3, oX 31 [.sl 2, cI (newW ((List.length (splitD x0 x1 x2 0) : Nat) : Int)).1, cI (newW ((List.length (splitD x0 x1 x2 0) : Nat) : Int)).2.1, cI (newW ((List.length (splitD x0 x1 x2 0) : Nat) : Int)).2.2.1, cI (newW ((List.length (splitD x0 x1 x2 0) : Nat) : Int)).2.2.2, .sl 9, cN, cI x3]), (9, oR s43 ((List.map encG (List.take i (splitD x0 x1 x2 0))) ++ ([(newRec ((splitD x0 x1 x2 0).getD i (0, [])).1 ((List.length ((splitD x0 x1 x2 0).getD i (0, [])).2 : Nat) : Int) (colsOf ((splitD x0 x1 x2 0).getD i (0, [])).2))])))]⟩) (ps := []) 2 { ts := [8, 10, 28, 29, 30], os := [1, 2, 3, 9] } h (by kernel_rfl) trivial
   replace h := at_out (σ' := ⟨[(8, aP 1 0), (10, aP 3 0), (28, aS 2), (29, aI ((List.length (splitD x0 x1 x2 0) : Nat) : Int)), (30, aI (((i : Nat) : Int) + 1))], [(1, oX 31 [cN, cI 0, cI 0, cI 0, cI 0, cN, cN, cI 0]), (2, oR s47 (List.set (splitD x0 x1 x2 0) i ((splitD x0 x1 x2 0).getD i (0, [])))), (3, oX 31 [.sl 2, cI (newW ((List.length (splitD x0 x1 x2 0) : Nat) : Int)).1, cI (newW ((List.length (splitD x0 x1 x2 0) : Nat) : Int)).2.1, cI (newW ((List.length (splitD x0 x1 x2 0) : Nat) : Int)).2.2.1, cI (newW ((List.length (splitD x0 x1 x2 0) : Nat) : Int)).2.2.2, .sl 4, cN, cI x3]), (4, oR s43 ((List.map encG (List.take i (splitD x0 x1 x2 0))) ++ ([(newRec ((splitD x0 x1 x2 0).getD i (0, [])).1 ((List.length ((splitD x0 x1 x2 0).getD i (0, [])).2 : Nat) : Int) (colsOf ((splitD x0 x1 x2 0).getD i (0, [])).2))])))]⟩) { ts := [8, 10, 28, 29, 30], os := [1, 2, 3, 9], rn := [(9, 4)] } h (by kernel_rfl)
   exact ⟨i + 1, at_eq h (st_congr3 (fun (d0 : List T43) (d1 : List T47) (d2 : Int) => (⟨[(8, aP 1 0), (10, aP 3 0), (28, aS 2), (29, aI ((List.length (splitD x0 x1 x2 0) : Nat) : Int)), (30, aI d2)], [(1, oX 31 [cN, cI 0, cI 0, cI 0, cI 0, cN, cN, cI 0]), (2, oR s47 d1), (3, oX 31 [.sl 2, cI (newW ((List.length (splitD x0 x1 x2 0) : Nat) : Int)).1, cI (newW ((List.length (splitD x0 x1 x2 0) : Nat) : Int)).2.1, cI (newW ((List.length (splitD x0 x1 x2 0) : Nat) : Int)).2.2.1, cI (newW ((List.length (splitD x0 x1 x2 0) : Nat) : Int)).2.2.2, .sl 4, cN, cI x3]), (4, oR s43 d0)]⟩ : St)) (show (((List.map encG (List.take i (splitD x0 x1 x2 0))) ++ ([(newRec ((splitD x0 x1 x2 0).getD i (0, [])).1 ((List.length ((splitD x0 x1 x2 0).getD i (0, [])).2 : Nat) : Int) (colsOf ((splitD x0 x1 x2 0).getD i (0, [])).2))])) : List T43) = (List.map encG (List.take (i + 1) (splitD x0 x1 x2 0))) from by first | with_reducible rfl | (exact (map_snoc (z := (0, [])) (by omega)).symm) | rfl) (show ((List.set (splitD x0 x1 x2 0) i ((splitD x0 x1 x2 0).getD i (0, []))) : List T47) = (splitD x0 x1 x2 0) from by first | with_reducible rfl | (exact set_same) | rfl) (show (((i : Nat) : Int) + 1 : Int) = (((i + 1) : Nat) : Int) from by first | with_reducible rfl | (omega) | rfl)), (by omega), (by omega)⟩
  ·replace h2 : ¬ (((i : Nat) : Int) < ((List.length (splitD x0 x1 x2 0) : Nat) : Int)) := of_decide_eq_false h2
   refine wp_exit (then_exit ?_)
   replace h := at_out (σ' := ⟨[(8, aP 1 0), (10, aP 3 0)], [(1, oX 31 [cN, cI 0, cI 0, cI 0, cI 0, cN, cN, cI 0]), (2, oR s47 (splitD x0 x1 x2 0)), (3, oX 31 [.sl 2, cI (newW ((List.length (splitD x0 x1 x2 0) : Nat) : Int)).1, cI (newW ((List.length (splitD x0 x1 x2 0) : Nat) : Int)).2.1, cI (newW ((List.length (splitD x0 x1 x2 0) : Nat) : Int)).2.2.1, cI (newW ((List.length (splitD x0 x1 x2 0) : Nat) : Int)).2.2.2, .sl 4, cN, cI x3]), (4, oR s43 (List.map encG (List.take i (splitD x0 x1 x2 0))))]⟩) { ts := [8, 10], os := [1, 2, 3, 4] } h (by kernel_rfl)
   replace h := at_eq (σ' := ⟨[(8, aP 1 0), (10, aP 3 0)], [(1, oX 31 [cN, cI 0, cI 0, cI 0, cI 0, cN, cN, cI 0]), (2, oR s47 (splitD x0 x1 x2 0)), (3, oX 31 [.sl 2, cI (newW ((List.length (splitD x0 x1 x2 0) : Nat) : Int)).1, cI (newW ((List.length (splitD x0 x1 x2 0) : Nat) : Int)).2.1, cI (newW ((List.length (splitD x0 x1 x2 0) : Nat) : Int)).2.2.1, cI (newW ((List.length (splitD x0 x1 x2 0) : Nat) : Int)).2.2.2, .sl 4, cN, cI x3]), (4, oR s43 (List.map encG (splitD x0 x1 x2 0)))]⟩) h (st_congr1 (fun (d0 : List T43) => (⟨[(8, aP 1 0), (10, aP 3 0)], [(1, oX 31 [cN, cI 0, cI 0, cI 0, cI 0, cN, cN, cI 0]), (2, oR s47 (splitD x0 x1 x2 0)), (3, oX 31 [.sl 2, cI (newW ((List.length (splitD x0 x1 x2 0) : Nat) : Int)).1, cI (newW ((List.length (splitD x0 x1 x2 0) : Nat) : Int)).2.1, cI (newW ((List.length (splitD x0 x1 x2 0) : Nat) : Int)).2.2.1, cI (newW ((List.length (splitD x0 x1 x2 0) : Nat) : Int)).2.2.2, .sl 4, cN, cI x3]), (4, oR s43 d0)]⟩ : St)) (show ((List.map encG (List.take i (splitD x0 x1 x2 0))) : List T43) = (List.map encG (splitD x0 x1 x2 0)) from by first | with_reducible rfl | (rw [take_all (by omega)]) | rfl))
   refine then_exit (in_hit (then_normal (wp_seq ?_)))
   refine at_regq [] { ts := [8], os := [1, 2, 4] } [] gamOK hT h (by kernel_rfl) trivial fun a w h => then_normal (wp_ret ?_)
   exact at_return (((splitD x0 x1 x2 0), ((newW ((List.length (splitD x0 x1 x2 0) : Nat) : Int)), ((List.map encG (splitD x0 x1 x2 0)), (([] : List T75), x3)))), ()) [] h (by kernel_rfl) trivial (congrArg (fun z => (z, ())) (show (((splitD x0 x1 x2 0), ((newW ((List.length (splitD x0 x1 x2 0) : Nat) : Int)), ((List.map encG (splitD x0 x1 x2 0)), (([] : List T75), x3))))) = newSrc x0 x1 x2 x3 from by first | rfl | (unfold newSrc; rw [if_pos h1])))

abbrev Q_spec_NewSource := (fun (x0 : (List Int)) (x1 : Int) (x2 : Int) (x3 : Int) => Sh.fit s22 x0)
def S_spec_NewSource : Sum := { fid := 4, dom := [s22, (.int 3), (.int 3), (.int 3)], cod := [s31], dp := false, fz := false, pre := fun x => Q_spec_NewSource x.1 x.2.1 x.2.2.1 x.2.2.2.1, g := fun x => ((newSrc x.1 x.2.1 x.2.2.1 x.2.2.2.1), ()) }
def S_spec_NewSource_tab : List (Nat × Sum) := [(12, S_spec_SplitMessage), (13, S_spec_NewSendWindow), (15, S_spec_ColumnsOf), (14, S_spec_NewRecoder)]
theorem S_spec_NewSource_ok : FnOK Try.prog 4 S_spec_NewSource := by
 refine at_enter 57 (fun x => ⟨[(0, aF (.u8 5) x.1), (1, aI x.2.1), (2, aI x.2.2.1), (3, aI x.2.2.2.1)], []⟩) Try.func4 rfl (by kernel_rfl) (fun x => rfl) ?_
 rintro w0 Z0 ⟨x0, x1, x2, x3, u⟩ a w
 revert x0 x1 x2 x3
 intro (x0 : (List Int)) (x1 : Int) (x2 : Int) (x3 : Int) hpre hlens h
 replace hpre : Q_spec_NewSource x0 x1 x2 x3 := hpre
 have hu0 : u8L x0 := hlens.1.2
 have hT : TabOK Try.prog S_spec_NewSource_tab := (.cons S_spec_SplitMessage_ok (.cons S_spec_NewSendWindow_ok (.cons S_spec_ColumnsOf_ok (.cons S_spec_NewRecoder_ok .nil))))
 have hf0 : Sh.fit s22 x0 := hpre
 have hn0_1 : List.length x0 ≤ 1073741824 := hf0.1
 refine wp_seq ?_
 refine at_regq [{ ids := [1] }] { ts := [0, 1, 2, 3, 8], os := [1] } [] gamOK hT h (by kernel_rfl) trivial fun a w h => then_normal (wp_seq ?_)
 refine at_regq [{}, {}, {}, { ids := [2] }] { ts := [3, 8, 9], os := [1, 2] } [Q_spec_SplitMessage x0 x1 x2 0] gamOK hT h (by kernel_rfl) ⟨(by exact hf0), trivial⟩ fun a w h => then_normal (wp_seq (wp_seq ?_))
 by_cases h1 : ((List.length (splitD x0 x1 x2 0) : Nat) : Int) = 0
 ·refine at_regq [{}, {}, { hint := some (aB true) }] { ts := [3, 8, 9, 23], os := [1, 2] } [(AV.p (.c (.v (.bool (decide (((List.length (splitD x0 x1 x2 0) : Nat) : Int) = 0))))) = AV.p (.c (.v (.bool true))))] gamOK hT h (by kernel_rfl) ⟨hint_bool (decide_eq_true h1), trivial⟩ fun a w h => then_normal ?_
  refine at_test true h (by kernel_rfl) (fun hh => ?_) (fun hh => nomatch hh)
  refine wp_seq ?_
  refine at_regq [] { ts := [3, 8, 9], os := [1, 2] } [] gamOK hT h (by kernel_rfl) trivial fun a w h => then_normal (wp_ret (then_ret ?_))
  exact at_return ((([] : List T47), ((0, (0, (0, 0))), (([] : List T43), (([] : List T75), 0)))), ()) [] h (by kernel_rfl) trivial (congrArg (fun z => (z, ())) (show ((([] : List T47), ((0, (0, (0, 0))), (([] : List T43), (([] : List T75), 0))))) = newSrc x0 x1 x2 x3 from by first | rfl | (unfold newSrc; rw [if_pos h1]; done) | (unfold newSrc; first | (rw [if_neg (by intro e; have := inR_t e; omega)]; done) | (rw [if_pos (inR_true (by omega))]; done))))
 ·refine at_regq [{}, {}, { hint := some (aB false) }] { ts := [3, 8, 9, 23], os := [1, 2] } [(AV.p (.c (.v (.bool (decide (((List.length (splitD x0 x1 x2 0) : Nat) : Int) = 0))))) = AV.p (.c (.v (.bool false))))] gamOK hT h (by kernel_rfl) ⟨hint_bool (decide_eq_false h1), trivial⟩ fun a w h => then_normal ?_
  refine at_test (decide (((List.length (splitD x0 x1 x2 0) : Nat) : Int) > 60)) h (by kernel_rfl) (fun h2 => ?_) (fun h2 => ?_)
  ·replace h2 : ((List.length (splitD x0 x1 x2 0) : Nat) : Int) > 60 := of_decide_eq_true h2
   refine wp_seq ?_
   refine at_regq [] { ts := [3, 8, 9], os := [1, 2] } [] gamOK hT h (by kernel_rfl) trivial fun a w h => then_normal (wp_ret (then_ret ?_))
   exact at_return ((([] : List T47), ((0, (0, (0, 0))), (([] : List T43), (([] : List T75), 0)))), ()) [] h (by kernel_rfl) trivial (congrArg (fun z => (z, ())) (show ((([] : List T47), ((0, (0, (0, 0))), (([] : List T43), (([] : List T75), 0))))) = newSrc x0 x1 x2 x3 from by first | rfl | (unfold newSrc; rw [if_neg h1, if_pos h2]; done) | (unfold newSrc; first | (rw [if_neg (by intro e; have := inR_t e; omega)]; done) | (rw [if_pos (inR_true (by omega))]; done))))
  ·replace h2 : ¬ (((List.length (splitD x0 x1 x2 0) : Nat) : Int) > 60) := of_decide_eq_false h2
   refine wp_skip (then_normal (wp_seq ?_))
   refine at_regq [{}, {}, {}, {}, {}, {}, { ids := [3] }] { ts := [8, 9, 10], os := [1, 2, 3] } [True] gamOK hT h (by kernel_rfl) ⟨trivial, trivial⟩ fun a w h => then_normal (wp_seq (wp_seq ?_))
   refine at_regq [] { ts := [8, 9, 10, 11], os := [1, 2, 3] } [] gamOK hT h (by kernel_rfl) trivial fun a w h => then_normal (wp_block ?_)
   replace h := at_out (σ' := ⟨[(8, aP 1 0), (9, aS 2), (10, aP 3 0), (11, aI 0)], [(1, oX 31 [cN, cI 0, cI 0, cI 0, cI 0, cN, cN, cI 0]), (2, oF s47 (splitD x0 x1 x2 0)), (3, oX 31 [.sl 2, cI (newW ((List.length (splitD x0 x1 x2 0) : Nat) : Int)).1, cI (newW ((List.length (splitD x0 x1 x2 0) : Nat) : Int)).2.1, cI (newW ((List.length (splitD x0 x1 x2 0) : Nat) : Int)).2.2.1, cI (newW ((List.length (splitD x0 x1 x2 0) : Nat) : Int)).2.2.2, .sl 4, cN, cI x3]), (4, oF s43 ([] : List T43))]⟩) { mt := [⟨some 3, 5, 4, false, s43⟩], ts := [8, 9, 10, 11], os := [1, 2, 3, 4] } h (by kernel_rfl)
   refine at_loop (fun i : Nat => (⟨[(8, aP 1 0), (9, aS 2), (10, aP 3 0), (11, aI ((i : Nat) : Int))], [(1, oX 31 [cN, cI 0, cI 0, cI 0, cI 0, cN, cN, cI 0]), (2, oF s47 (splitD x0 x1 x2 0)), (3, oX 31 [.sl 2, cI (newW ((List.length (splitD x0 x1 x2 0) : Nat) : Int)).1, cI (newW ((List.length (splitD x0 x1 x2 0) : Nat) : Int)).2.1, cI (newW ((List.length (splitD x0 x1 x2 0) : Nat) : Int)).2.2.1, cI (newW ((List.length (splitD x0 x1 x2 0) : Nat) : Int)).2.2.2, .sl 4, cN, cI x3]), (4, oF s43 (List.map encG (List.take i (splitD x0 x1 x2 0))))]⟩ : St)) (fun i => i ≤ List.length (splitD x0 x1 x2 0)) (fun i => List.length (splitD x0 x1 x2 0) - i) (0) h (st_congr2 (fun (d0 : List T43) (d1 : Int) => (⟨[(8, aP 1 0), (9, aS 2), (10, aP 3 0), (11, aI d1)], [(1, oX 31 [cN, cI 0, cI 0, cI 0, cI 0, cN, cN, cI 0]), (2, oF s47 (splitD x0 x1 x2 0)), (3, oX 31 [.sl 2, cI (newW ((List.length (splitD x0 x1 x2 0) : Nat) : Int)).1, cI (newW ((List.length (splitD x0 x1 x2 0) : Nat) : Int)).2.1, cI (newW ((List.length (splitD x0 x1 x2 0) : Nat) : Int)).2.2.1, cI (newW ((List.length (splitD x0 x1 x2 0) : Nat) : Int)).2.2.2, .sl 4, cN, cI x3]), (4, oF s43 d0)]⟩ : St)) (show (([] : List T43) : List T43) = (List.map encG (List.take (0) (splitD x0 x1 x2 0))) from by first | with_reducible rfl | (first | rfl | simp) | rfl) (show (0 : Int) = (((0) : Nat) : Int) from by first | with_reducible rfl | (first | rfl | simp) | rfl)) (by omega) ?_
   intro i a w hok0 h
   have hlt0 := len_take_le (xs := (splitD x0 x1 x2 0)) i
   have hsb := (splitD_bd x0 x1 x2 0).1
   refine wp_seq (wp_seq ?_)
   refine at_regq [] { ts := [8, 9, 10, 11, 34], os := [1, 2, 3, 4] } [] gamOK hT h (by kernel_rfl) trivial fun a w h => then_normal ?_
   refine at_test (decide (((i : Nat) : Int) < ((List.length (splitD x0 x1 x2 0) : Nat) : Int))) h (by kernel_rfl) (fun h3 => ?_) (fun h3 => ?_)
   ·replace h3 : ((i : Nat) : Int) < ((List.length (splitD x0 x1 x2 0) : Nat) : Int) := of_decide_eq_true h3
    refine wp_skip (then_normal (wp_seq (wp_block ?_)))
    refine at_anyq [{}, {}, {}, {}, {}, {}, {}, {}, {}, {}, {}, {}, {}, {}, {}, { frz := true }, { ids := [5], dp := false }, { ids := [6], dp := false }, {}, {}] { ts := [8, 9, 10, 11], os := [1, 2, 3, 6] } [(0 : Int) ≤ ((i : Nat) : Int) ∧ ((i : Nat) : Int) < ((List.length (splitD x0 x1 x2 0) : Nat) : Int), i < List.length (splitD x0 x1 x2 0), (0 : Int) ≤ ((i : Nat) : Int) ∧ ((i : Nat) : Int) < ((List.length (splitD x0 x1 x2 0) : Nat) : Int), i < List.length (splitD x0 x1 x2 0), Q_spec_ColumnsOf ((splitD x0 x1 x2 0).getD i (0, [])).2, True, (List.length (List.map encG (List.take i (splitD x0 x1 x2 0))) + List.length ([(newRec ((i : Nat) : Int) ((List.length ((splitD x0 x1 x2 0).getD i (0, [])).2 : Nat) : Int) (colsOf ((splitD x0 x1 x2 0).getD i (0, [])).2))])) * 56 ≤ 140737488355328] gamOK hT mixed h (by kernel_rfl) ⟨(by refine ⟨?_, ?_⟩ <;> ((have hL0 := (show List.length (splitD x0 x1 x2 0) ≤ 1073741824 from ((splitD_fit x0 x1 x2 0)).1); first | omega | (simp only [lsA]; omega) | (simp <;> omega)))), (by (have hL0 := (show List.length (splitD x0 x1 x2 0) ≤ 1073741824 from ((splitD_fit x0 x1 x2 0)).1); first | omega | (simp only [lsA]; omega) | (simp <;> omega))), (by refine ⟨?_, ?_⟩ <;> ((have hL0 := (show List.length (splitD x0 x1 x2 0) ≤ 1073741824 from ((splitD_fit x0 x1 x2 0)).1); first | omega | (simp only [lsA]; omega) | (simp <;> omega)))), (by (have hL0 := (show List.length (splitD x0 x1 x2 0) ≤ 1073741824 from ((splitD_fit x0 x1 x2 0)).1); first | omega | (simp only [lsA]; omega) | (simp <;> omega))), (by exact (Sh.fit_getD (splitD_fit x0 x1 x2 0) i).2), trivial, (by (have hL0 := (show List.length ((splitD x0 x1 x2 0).getD i (0, [])).2 ≤ 1073741824 from ((Sh.fit_getD (splitD_fit x0 x1 x2 0) i).2).1); first | omega | (simp only [lsA]; omega) | (simp <;> omega))), trivial⟩ fun a w h => in_normal (then_normal ?_)
    refine at_regq [{}, { nw := true }] { ts := [8, 9, 10, 11], os := [1, 2, 3, 6] } [I64 (((i : Nat) : Int) + 1)] gamOK hT h (by kernel_rfl) ⟨⟨by first | omega | (simp only [lsA]; omega) | (simp <;> omega), by first | omega | (simp only [lsA]; omega) | (simp <;> omega)⟩, trivial⟩ fun a w h => ?_
    replace h := at_out (σ' := ⟨[(8, aP 1 0), (9, aS 2), (10, aP 3 0), (11, aI (((i : Nat) : Int) + 1))], [(1, oX 31 [cN, cI 0, cI 0, cI 0, cI 0, cN, cN, cI 0]), (2, oF s47 (splitD x0 x1 x2 0)), (3, oX 31 [.sl 2, cI (newW ((List.length (splitD x0 x1 x2 0) : Nat) : Int)).1, cI (newW ((List.length (splitD x0 x1 x2 0) : Nat) : Int)).2.1, cI (newW ((List.length (splitD x0 x1 x2 0) : Nat) : Int)).2.2.1, cI (newW ((List.length (splitD x0 x1 x2 0) : Nat) : Int)).2.2.2, .sl 4, cN, cI x3]), (4, oF s43 ((List.map encG (List.take i (splitD x0 x1 x2 0))) ++ ([(newRec ((i : Nat) : Int) ((List.length ((splitD x0 x1 x2 0).getD i (0, [])).2 : Nat) : Int) (colsOf ((splitD x0 x1 x2 0).getD i (0, [])).2))])))]⟩) { ts := [8, 9, 10, 11], os := [1, 2, 3, 6], rn := [(6, 4)] } h (by kernel_rfl)
    exact ⟨i + 1, at_eq h (st_congr2 (fun (d0 : List T43) (d1 : Int) => (⟨[(8, aP 1 0), (9, aS 2), (10, aP 3 0), (11, aI d1)], [(1, oX 31 [cN, cI 0, cI 0, cI 0, cI 0, cN, cN, cI 0]), (2, oF s47 (splitD x0 x1 x2 0)), (3, oX 31 [.sl 2, cI (newW ((List.length (splitD x0 x1 x2 0) : Nat) : Int)).1, cI (newW ((List.length (splitD x0 x1 x2 0) : Nat) : Int)).2.1, cI (newW ((List.length (splitD x0 x1 x2 0) : Nat) : Int)).2.2.1, cI (newW ((List.length (splitD x0 x1 x2 0) : Nat) : Int)).2.2.2, .sl 4, cN, cI x3]), (4, oF s43 d0)]⟩ : St)) (show (((List.map encG (List.take i (splitD x0 x1 x2 0))) ++ ([(newRec ((i : Nat) : Int) ((List.length ((splitD x0 x1 x2 0).getD i (0, [])).2 : Nat) : Int) (colsOf ((splitD x0 x1 x2 0).getD i (0, [])).2))])) : List T43) = (List.map encG (List.take (i + 1) (splitD x0 x1 x2 0))) from by first | with_reducible rfl | ((rw [map_snoc (z := (0, [])) (by omega)]; show _ = _ ++ [newRec _ _ _]; rw [splitD_id (by omega)]; simp)) | rfl) (show (((i : Nat) : Int) + 1 : Int) = (((i + 1) : Nat) : Int) from by first | with_reducible rfl | (omega) | rfl)), (by omega), (by omega)⟩
   ·replace h3 : ¬ (((i : Nat) : Int) < ((List.length (splitD x0 x1 x2 0) : Nat) : Int)) := of_decide_eq_false h3
    refine wp_exit (then_exit ?_)
    replace h := at_out (σ' := ⟨[(8, aP 1 0), (10, aP 3 0)], [(1, oX 31 [cN, cI 0, cI 0, cI 0, cI 0, cN, cN, cI 0]), (2, oF s47 (splitD x0 x1 x2 0)), (3, oX 31 [.sl 2, cI (newW ((List.length (splitD x0 x1 x2 0) : Nat) : Int)).1, cI (newW ((List.length (splitD x0 x1 x2 0) : Nat) : Int)).2.1, cI (newW ((List.length (splitD x0 x1 x2 0) : Nat) : Int)).2.2.1, cI (newW ((List.length (splitD x0 x1 x2 0) : Nat) : Int)).2.2.2, .sl 4, cN, cI x3]), (4, oF s43 (List.map encG (List.take i (splitD x0 x1 x2 0))))]⟩) { ts := [8, 10], os := [1, 2, 3, 4] } h (by kernel_rfl)
    replace h := at_eq (σ' := ⟨[(8, aP 1 0), (10, aP 3 0)], [(1, oX 31 [cN, cI 0, cI 0, cI 0, cI 0, cN, cN, cI 0]), (2, oF s47 (splitD x0 x1 x2 0)), (3, oX 31 [.sl 2, cI (newW ((List.length (splitD x0 x1 x2 0) : Nat) : Int)).1, cI (newW ((List.length (splitD x0 x1 x2 0) : Nat) : Int)).2.1, cI (newW ((List.length (splitD x0 x1 x2 0) : Nat) : Int)).2.2.1, cI (newW ((List.length (splitD x0 x1 x2 0) : Nat) : Int)).2.2.2, .sl 4, cN, cI x3]), (4, oF s43 (List.map encG (splitD x0 x1 x2 0)))]⟩) h (st_congr1 (fun (d0 : List T43) => (⟨[(8, aP 1 0), (10, aP 3 0)], [(1, oX 31 [cN, cI 0, cI 0, cI 0, cI 0, cN, cN, cI 0]), (2, oF s47 (splitD x0 x1 x2 0)), (3, oX 31 [.sl 2, cI (newW ((List.length (splitD x0 x1 x2 0) : Nat) : Int)).1, cI (newW ((List.length (splitD x0 x1 x2 0) : Nat) : Int)).2.1, cI (newW ((List.length (splitD x0 x1 x2 0) : Nat) : Int)).2.2.1, cI (newW ((List.length (splitD x0 x1 x2 0) : Nat) : Int)).2.2.2, .sl 4, cN, cI x3]), (4, oF s43 d0)]⟩ : St)) (show ((List.map encG (List.take i (splitD x0 x1 x2 0))) : List T43) = (List.map encG (splitD x0 x1 x2 0)) from by first | with_reducible rfl | (rw [take_all (by omega)]) | rfl))
    refine then_exit (in_hit (then_normal (wp_seq ?_)))
    refine at_regq [] { ts := [8], os := [1, 2, 4] } [] gamOK hT h (by kernel_rfl) trivial fun a w h => then_normal (wp_ret ?_)
    exact at_return (((splitD x0 x1 x2 0), ((newW ((List.length (splitD x0 x1 x2 0) : Nat) : Int)), ((List.map encG (splitD x0 x1 x2 0)), (([] : List T75), x3)))), ()) [] h (by kernel_rfl) trivial (congrArg (fun z => (z, ())) (show (((splitD x0 x1 x2 0), ((newW ((List.length (splitD x0 x1 x2 0) : Nat) : Int)), ((List.map encG (splitD x0 x1 x2 0)), (([] : List T75), x3))))) = newSrc x0 x1 x2 x3 from by first | rfl | (unfold newSrc; rw [if_neg h1, if_neg h2]; done) | (unfold newSrc; first | (rw [if_neg (by intro e; have := inR_t e; omega)]; done) | (rw [if_pos (inR_true (by omega))]; done))))
theorem ctL_bd5 {α : Type} {c : α → Nat} {m : Nat} : ∀ {xs : List α}, (∀ x ∈ xs, c x ≤ m) → ctL c xs ≤ m * xs.length
 | [], _ => Nat.zero_le _
 | x :: l, h => by
  have h1 := h x (by simp)
  have h2 := ctL_bd5 (xs := l) (fun y hy => h y (by simp [hy]))
  show c x + ctL c l ≤ m * (l.length + 1)
  rw [Nat.mul_add]; omega
theorem newSrc_sz (x0 : List Int) (x1 x2 x3 : Int) : Sh.sz s31 (newSrc x0 x1 x2 x3) ≤ 1000000 := by
 have h := splitD_bd x0 x1 x2 0
 unfold newSrc
 split
 ·have e1 : Sh.sz s23 (splitD x0 x1 x2 0) = List.length (splitD x0 x1 x2 0) + ctL (Sh.sz s47) (splitD x0 x1 x2 0) := rfl
  have e2 : ctL (Sh.sz s47) (splitD x0 x1 x2 0) ≤ 136 * (splitD x0 x1 x2 0).length := ctL_bd5 fun g hg => by
   have hg2 := h.2 g hg
   have e : Sh.sz s47 g = 0 + (List.length g.2 + ctL (Sh.sz s61) g.2) := rfl
   have e4 : ctL (Sh.sz s61) g.2 ≤ 16 * g.2.length := ctL_bd5 fun r hr => by rw [sz_flat (by rfl)]; exact hg2.2 r hr
   omega
  have e3 : Sh.sz s26 (List.map encG (splitD x0 x1 x2 0)) = List.length (List.map encG (splitD x0 x1 x2 0)) + ctL (Sh.sz s43) (List.map encG (splitD x0 x1 x2 0)) := rfl
  have e4 : ctL (Sh.sz s43) (List.map encG (splitD x0 x1 x2 0)) ≤ 0 * List.length (List.map encG (splitD x0 x1 x2 0)) := ctL_bd5 fun r hr => by
   obtain ⟨g, _, rfl⟩ := List.mem_map.1 hr
   unfold encG newRec
   split <;> exact Nat.le_refl 0
  have e5 : ∀ (a : (List T47)) (b : T25) (c : (List T43)) (d : (List T75)) (e : Int), Sh.sz s31 (a, b, c, d, e) = Sh.sz s23 a + (Sh.sz s25 b + (Sh.sz s26 c + (Sh.sz s29 d + 0))) := fun _ _ _ _ _ => rfl
  have e6 : ∀ b : T25, Sh.sz s25 b = 0 := fun _ => rfl
  have e7 : Sh.sz s29 ([] : (List T75)) = 0 := rfl
  have e8 : List.length (List.map encG (splitD x0 x1 x2 0)) = List.length (splitD x0 x1 x2 0) := List.length_map _
  rw [e5, e6, e7]
  omega
 ·exact Nat.le_trans (Nat.le_of_eq (show Sh.sz s31 _ = 0 from rfl)) (by decide)

def D_laws_FnExactNewSource := (fun (_ : (List Int)) (_ : Int) (_ : Int) (_ : Int) => true)
abbrev Q_laws_FnExactNewSource := (fun (x0 : (List Int)) (x1 : Int) (x2 : Int) (x3 : Int) => Sh.i64 s22 x0 ∧ Sh.i64 (.int 3) x1 ∧ Sh.i64 (.int 3) x2 ∧ Sh.i64 (.int 3) x3)
def S_laws_FnExactNewSource : Sum := { fid := 3, dom := [s22, (.int 3), (.int 3), (.int 3)], cod := [(.bool 4)], dp := true, fz := false, pre := fun x => Q_laws_FnExactNewSource x.1 x.2.1 x.2.2.1 x.2.2.2.1, g := fun x => ((D_laws_FnExactNewSource x.1 x.2.1 x.2.2.1 x.2.2.2.1), ()) }
def S_laws_FnExactNewSource_tab : List (Nat × Sum) := [(5, S_laws_toByteS), (4, S_spec_NewSource), (6, S_impl_NewSource), (7, S_laws_eqSource), (8, S_laws_eqByteS), (9, S_laws_markByteS), (10, S_laws_markSource), (11, S_laws_heldSource)]
theorem S_laws_FnExactNewSource_ok : FnOK Try.prog 3 S_laws_FnExactNewSource := by
 refine at_enter 81 (fun x => ⟨[(0, aF (.u8 5) x.1), (1, aI x.2.1), (2, aI x.2.2.1), (3, aI x.2.2.2.1)], []⟩) Try.func3 rfl (by kernel_rfl) (fun x => rfl) ?_
 rintro w0 Z0 ⟨x0, x1, x2, x3, u⟩ a w
 revert x0 x1 x2 x3
 intro (x0 : (List Int)) (x1 : Int) (x2 : Int) (x3 : Int) hpre hlens h
 replace hpre : Q_laws_FnExactNewSource x0 x1 x2 x3 := hpre
 have hl1 : List.length x0 ≤ 9223372036854775807 := hlens.1.1
 have hu0 : u8L x0 := hlens.1.2
 have hT : TabOK Try.prog S_laws_FnExactNewSource_tab := (.cons S_laws_toByteS_ok (.cons S_spec_NewSource_ok (.cons S_impl_NewSource_ok (.cons S_laws_eqSource_ok (.cons S_laws_eqByteS_ok (.cons S_laws_markByteS_ok (.cons S_laws_markSource_ok (.cons S_laws_heldSource_ok .nil))))))))
 have hq0 : Sh.sz s22 x0 = Sh.sz s22 x0 := rfl
 have hb0 : Sh.ctT s22 x0 ≤ 1 * Sh.sz s22 x0 := Sh.ctT_le2 s22 x0
 have hz0 : Sh.ct s22 x0 ≤ 1 * (1 + Sh.sz s22 x0) := Sh.ct_le s22 x0
 have hs0_1 : Sh.sz s22 x0 = List.length x0 := sz_flat (by rfl) _
 have hr1 : Sh.ctT s31 (newSrc x0 x1 x2 x3) ≤ 17 * Sh.sz s31 (newSrc x0 x1 x2 x3) := Sh.ctT_le2 s31 _
 have hr2 := newSrc_sz x0 x1 x2 x3
 refine wp_seq ?_
 refine at_regq [] { ts := [0, 1, 2, 3, 8], os := [] } [] gamOK hT h (by kernel_rfl) trivial fun a w h => then_normal (wp_seq (wp_seq ?_))
 refine at_regq [] { ts := [0, 1, 2, 3, 8, 18], os := [] } [] gamOK hT h (by kernel_rfl) trivial fun a w h => then_normal ?_
 refine at_test (decide (((List.length x0 : Nat) : Int) > 1048576)) h (by kernel_rfl) (fun h1 => ?_) (fun h1 => ?_)
 ·replace h1 : ((List.length x0 : Nat) : Int) > 1048576 := of_decide_eq_true h1
  refine wp_seq ?_
  refine at_regq [] { ts := [0, 1, 2, 3, 8], os := [] } [] gamOK hT h (by kernel_rfl) trivial fun a w h => then_normal (wp_ret (then_ret ?_))
  exact at_return (true, ()) [] h (by kernel_rfl) trivial (congrArg (fun z => (z, ())) (show (true) = D_laws_FnExactNewSource x0 x1 x2 x3 from by unfold D_laws_FnExactNewSource; rfl))
 ·replace h1 : ¬ (((List.length x0 : Nat) : Int) > 1048576) := of_decide_eq_false h1
  refine wp_skip (then_normal (wp_seq ?_))
  refine at_regq [{}, { frz := true }, {}, {}, {}, { ids := [1, 2, 3] }, { ids := [4] }] { ts := [0, 1, 2, 3, 8, 9], os := [1, 2, 3, 4] } [(pTo s22) x0, Q_spec_NewSource x0 x1 x2 x3] gamOK hT h (by kernel_rfl) ⟨(by (show Sh.sz _ _ ≤ 1048576; omega)), (by exact (Sh.fit_of_sz s22 rfl (x := x0) (by omega))), trivial⟩ fun a w h => then_normal (wp_seq ?_)
  refine at_regq [{}, { ids := [5] }] { ts := [0, 1, 2, 3, 8, 9, 10], os := [1, 2, 3, 4, 5] } [(pTo s22) x0] gamOK hT h (by kernel_rfl) ⟨(by (show Sh.sz _ _ ≤ 1048576; omega)), trivial⟩ fun a w h => then_normal (wp_seq ?_)
  refine at_regq [{}, {}, {}, {}, { ids := [6, 7, 8] }, { ids := [9] }] { ts := [0, 1, 2, 3, 8, 9, 10, 11], os := [1, 2, 3, 4, 5, 6, 7, 8, 9] } [Q_impl_NewSource x0 x1 x2 x3] gamOK hT h (by kernel_rfl) ⟨(by exact (Sh.fit_of_sz s22 rfl (x := x0) (by omega))), trivial⟩ fun a w h => then_normal (wp_seq (wp_seq ?_))
  refine at_regq [] { ts := [0, 1, 2, 3, 8, 9, 10, 11, 35], os := [1, 2, 3, 4, 5, 6, 7, 8, 9] } [True] gamOK hT h (by kernel_rfl) ⟨trivial, trivial⟩ fun a w h => then_normal ?_
  refine at_test (!((Sh.eqB s31) (newSrc x0 x1 x2 x3) (newSrc x0 x1 x2 x3))) h (by kernel_rfl) (fun h2 => ?_) (fun h2 => ?_)
  ·replace h2 : ((Sh.eqB s31) (newSrc x0 x1 x2 x3) (newSrc x0 x1 x2 x3)) = false := notT h2
   refine wp_seq ?_
   refine at_regq [] { ts := [0, 1, 2, 3, 8, 9, 10, 11], os := [1, 2, 3, 4, 5, 6, 7, 8, 9] } [] gamOK hT h (by kernel_rfl) trivial fun a w h => then_normal (wp_ret (then_ret ?_))
   exact at_return (false, ()) [] h (by kernel_rfl) trivial (congrArg (fun z => (z, ())) (show (false) = D_laws_FnExactNewSource x0 x1 x2 x3 from by unfold D_laws_FnExactNewSource; exact absurd ((Sh.eqB_iff _).2 (show _ = _ from by first | rfl | (rfl))) (neT h2)))
  ·replace h2 : ((Sh.eqB s31) (newSrc x0 x1 x2 x3) (newSrc x0 x1 x2 x3)) = true := notF h2
   refine wp_skip (then_normal (wp_seq (wp_seq ?_)))
   refine at_regq [{}, {}, { ids := [10] }] { ts := [0, 1, 2, 3, 8, 9, 10, 11, 40], os := [1, 2, 3, 4, 5, 6, 7, 8, 9] } [(pTo s22) x0, True] gamOK hT h (by kernel_rfl) ⟨(by (show Sh.sz _ _ ≤ 1048576; omega)), trivial, trivial⟩ fun a w h => then_normal ?_
   refine at_test (!((Sh.eqB s22) x0 x0)) h (by kernel_rfl) (fun h3 => ?_) (fun h3 => ?_)
   ·replace h3 : ((Sh.eqB s22) x0 x0) = false := notT h3
    refine wp_seq ?_
    refine at_regq [] { ts := [0, 1, 2, 3, 8, 9, 10, 11], os := [1, 2, 3, 4, 5, 6, 7, 8, 9] } [] gamOK hT h (by kernel_rfl) trivial fun a w h => then_normal (wp_ret (then_ret ?_))
    exact at_return (false, ()) [] h (by kernel_rfl) trivial (congrArg (fun z => (z, ())) (show (false) = D_laws_FnExactNewSource x0 x1 x2 x3 from by unfold D_laws_FnExactNewSource; exact absurd ((Sh.eqB_iff _).2 (show _ = _ from by first | rfl | (rfl))) (neT h3)))
   ·replace h3 : ((Sh.eqB s22) x0 x0) = true := notF h3
    refine wp_skip (then_normal (wp_seq ?_))
    refine at_regq [] { ts := [0, 1, 2, 3, 8, 9, 10, 11, 12], os := [1, 2, 3, 4, 5, 6, 7, 8, 9] } [] gamOK hT h (by kernel_rfl) trivial fun a w h => then_normal (wp_seq ?_)
    refine at_regq [] { ts := [0, 1, 2, 3, 8, 9, 11, 12], os := [1, 2, 3, 4, 6, 7, 8, 9] } [(pMk s22) x0 1] gamOK hT h (by kernel_rfl) ⟨(by (show (0 : Int) ≤ _ ∧ _ + ((Sh.ct _ _ : Nat) : Int) ≤ (4611686018427387904 : Int); (try simp only [held_marked, held_markedT, mkK, mkKT, Sh.ctT_mkT, Sh.ct_mk]); constructor <;> omega)), trivial⟩ fun a w h => then_normal (wp_seq (wp_seq ?_))
    by_cases h4 : ((mkK s22) x0 1) < 0
    ·refine at_regq [{}, { hint := some (aB true) }] { ts := [0, 1, 2, 3, 8, 9, 11, 51], os := [1, 2, 3, 4, 6, 7, 8, 9] } [(AV.p (.c (.v (.bool (decide (((mkK s22) x0 1) < 0))))) = AV.p (.c (.v (.bool true))))] gamOK hT h (by kernel_rfl) ⟨hint_bool (decide_eq_true h4), trivial⟩ fun a w h => then_normal ?_
     refine at_test true h (by kernel_rfl) (fun hh => ?_) (fun hh => nomatch hh)
     refine wp_seq ?_
     refine at_regq [] { ts := [0, 1, 2, 3, 8, 9, 11], os := [1, 2, 3, 4, 6, 7, 8, 9] } [] gamOK hT h (by kernel_rfl) trivial fun a w h => then_normal (wp_ret (then_ret ?_))
     exact at_return (false, ()) [] h (by kernel_rfl) trivial (congrArg (fun z => (z, ())) (show (false) = D_laws_FnExactNewSource x0 x1 x2 x3 from by unfold D_laws_FnExactNewSource; (exfalso; simp only [mkK, mkKT, Sh.ctT_mkT, Sh.ct_mk] at h4; first | omega | exact h4 trivial | exact h4 rfl)))
    ·refine at_regq [{}, { hint := some (aB false) }] { ts := [0, 1, 2, 3, 8, 9, 11, 51], os := [1, 2, 3, 4, 6, 7, 8, 9] } [(AV.p (.c (.v (.bool (decide (((mkK s22) x0 1) < 0))))) = AV.p (.c (.v (.bool false)))), True] gamOK hT h (by kernel_rfl) ⟨hint_bool (decide_eq_false h4), trivial, trivial⟩ fun a w h => then_normal ?_
     refine at_test (!((Sh.eqB s31) (newSrc x0 x1 x2 x3) (newSrc x0 x1 x2 x3))) h (by kernel_rfl) (fun h5 => ?_) (fun h5 => ?_)
     ·replace h5 : ((Sh.eqB s31) (newSrc x0 x1 x2 x3) (newSrc x0 x1 x2 x3)) = false := notT h5
      refine wp_seq ?_
      refine at_regq [] { ts := [0, 1, 2, 3, 8, 9, 11], os := [1, 2, 3, 4, 6, 7, 8, 9] } [] gamOK hT h (by kernel_rfl) trivial fun a w h => then_normal (wp_ret (then_ret ?_))
      exact at_return (false, ()) [] h (by kernel_rfl) trivial (congrArg (fun z => (z, ())) (show (false) = D_laws_FnExactNewSource x0 x1 x2 x3 from by unfold D_laws_FnExactNewSource; exact absurd ((Sh.eqB_iff _).2 (show _ = _ from by first | rfl | (rfl))) (neT h5)))
     ·replace h5 : ((Sh.eqB s31) (newSrc x0 x1 x2 x3) (newSrc x0 x1 x2 x3)) = true := notF h5
      refine wp_skip (then_normal (wp_seq ?_))
      refine at_regq [] { ts := [0, 1, 2, 3, 8, 9, 11, 13], os := [1, 2, 3, 4, 6, 7, 8, 9] } [] gamOK hT h (by kernel_rfl) trivial fun a w h => then_normal (wp_seq ?_)
      refine at_regq [] { ts := [0, 1, 2, 3, 8, 9, 11, 13], os := [1, 2, 3, 4, 6, 7, 8, 9] } [(pMkT s31) (newSrc x0 x1 x2 x3) 1] gamOK hT h (by kernel_rfl) ⟨(by (show (0 : Int) ≤ _ ∧ _ + ((Sh.ctT _ _ : Nat) : Int) ≤ (4611686018427387904 : Int); (try simp only [held_marked, held_markedT, mkK, mkKT, Sh.ctT_mkT, Sh.ct_mk]); constructor <;> omega)), trivial⟩ fun a w h => then_normal (wp_seq ?_)
      refine at_regq [] { ts := [0, 1, 2, 3, 8, 9, 11, 13, 14], os := [1, 2, 3, 4, 6, 7, 8, 9] } [] gamOK hT h (by kernel_rfl) trivial fun a w h => then_normal (wp_seq ?_)
      refine at_regq [] { ts := [0, 1, 2, 3, 8, 9, 11, 13, 14], os := [1, 2, 3, 4, 6, 7, 8, 9] } [(pMkT s31) ((Sh.mkT s31) (newSrc x0 x1 x2 x3) 1) 1] gamOK hT h (by kernel_rfl) ⟨(by (show (0 : Int) ≤ _ ∧ _ + ((Sh.ctT _ _ : Nat) : Int) ≤ (4611686018427387904 : Int); (try simp only [held_marked, held_markedT, mkK, mkKT, Sh.ctT_mkT, Sh.ct_mk]); constructor <;> omega)), trivial⟩ fun a w h => then_normal (wp_seq (wp_seq ?_))
      refine at_regq [] { ts := [0, 1, 2, 3, 8, 9, 11, 13, 14, 59], os := [1, 2, 3, 4, 6, 7, 8, 9] } [] gamOK hT h (by kernel_rfl) trivial fun a w h => then_normal ?_
      refine at_test (decide (((heldDT s31) ((Sh.mkT s31) (newSrc x0 x1 x2 x3) 1) 1) < 0)) h (by kernel_rfl) (fun h6 => ?_) (fun h6 => ?_)
      ·replace h6 : ((heldDT s31) ((Sh.mkT s31) (newSrc x0 x1 x2 x3) 1) 1) < 0 := of_decide_eq_true h6
       refine wp_seq ?_
       refine at_regq [] { ts := [0, 1, 2, 3, 8, 9, 11, 13, 14], os := [1, 2, 3, 4, 6, 7, 8, 9] } [] gamOK hT h (by kernel_rfl) trivial fun a w h => then_normal (wp_ret (then_ret ?_))
       exact at_return (false, ()) [] h (by kernel_rfl) trivial (congrArg (fun z => (z, ())) (show (false) = D_laws_FnExactNewSource x0 x1 x2 x3 from by unfold D_laws_FnExactNewSource; (exfalso; simp only [held_marked, held_markedT, mkK, mkKT, Sh.ctT_mkT, Sh.ct_mk] at h6; first | omega | exact h6 trivial | exact h6 rfl)))
      ·replace h6 : ¬ (((heldDT s31) ((Sh.mkT s31) (newSrc x0 x1 x2 x3) 1) 1) < 0) := of_decide_eq_false h6
       refine wp_skip (then_normal (wp_seq (wp_seq ?_)))
       refine at_regq [] { ts := [0, 1, 2, 3, 8, 9, 11, 13, 62], os := [1, 2, 3, 4, 6, 7, 8, 9] } [] gamOK hT h (by kernel_rfl) trivial fun a w h => then_normal ?_
       refine at_test (!decide (((heldDT s31) ((Sh.mkT s31) (newSrc x0 x1 x2 x3) 1) 1) = ((mkKT s31) (newSrc x0 x1 x2 x3) 1))) h (by kernel_rfl) (fun h7 => ?_) (fun h7 => ?_)
       ·replace h7 : ¬ (((heldDT s31) ((Sh.mkT s31) (newSrc x0 x1 x2 x3) 1) 1) = ((mkKT s31) (newSrc x0 x1 x2 x3) 1)) := of_decide_eq_false (notT h7)
        refine wp_seq ?_
        refine at_regq [] { ts := [0, 1, 2, 3, 8, 9, 11, 13], os := [1, 2, 3, 4, 6, 7, 8, 9] } [] gamOK hT h (by kernel_rfl) trivial fun a w h => then_normal (wp_ret (then_ret ?_))
        exact at_return (false, ()) [] h (by kernel_rfl) trivial (congrArg (fun z => (z, ())) (show (false) = D_laws_FnExactNewSource x0 x1 x2 x3 from by unfold D_laws_FnExactNewSource; (exfalso; simp only [held_marked, held_markedT, mkK, mkKT, Sh.ctT_mkT, Sh.ct_mk] at h7; first | omega | exact h7 trivial | exact h7 rfl)))
       ·replace h7 : ((heldDT s31) ((Sh.mkT s31) (newSrc x0 x1 x2 x3) 1) 1) = ((mkKT s31) (newSrc x0 x1 x2 x3) 1) := of_decide_eq_true (notF h7)
        refine wp_skip (then_normal (wp_seq ?_))
        refine at_regq [{}, { ids := [11] }, {}, {}, {}, { ids := [12, 13, 14] }, { ids := [15] }] { ts := [8, 9, 11, 13, 15], os := [1, 2, 3, 4, 6, 7, 8, 9, 12, 13, 14, 15] } [(pTo s22) x0, Q_impl_NewSource x0 x1 x2 x3] gamOK hT h (by kernel_rfl) ⟨(by (show Sh.sz _ _ ≤ 1048576; omega)), (by exact (Sh.fit_of_sz s22 rfl (x := x0) (by omega))), trivial⟩ fun a w h => then_normal (wp_seq (wp_seq ?_))
        refine at_regq [] { ts := [8, 11, 13, 72], os := [6, 7, 8, 9] } [True] gamOK hT h (by kernel_rfl) ⟨trivial, trivial⟩ fun a w h => then_normal ?_
        refine at_test (!((Sh.eqB s31) (newSrc x0 x1 x2 x3) (newSrc x0 x1 x2 x3))) h (by kernel_rfl) (fun h8 => ?_) (fun h8 => ?_)
        ·replace h8 : ((Sh.eqB s31) (newSrc x0 x1 x2 x3) (newSrc x0 x1 x2 x3)) = false := notT h8
         refine wp_seq ?_
         refine at_regq [] { ts := [8, 11, 13], os := [6, 7, 8, 9] } [] gamOK hT h (by kernel_rfl) trivial fun a w h => then_normal (wp_ret (then_ret ?_))
         exact at_return (false, ()) [] h (by kernel_rfl) trivial (congrArg (fun z => (z, ())) (show (false) = D_laws_FnExactNewSource x0 x1 x2 x3 from by unfold D_laws_FnExactNewSource; exact absurd ((Sh.eqB_iff _).2 (show _ = _ from by first | rfl | (rfl))) (neT h8)))
        ·replace h8 : ((Sh.eqB s31) (newSrc x0 x1 x2 x3) (newSrc x0 x1 x2 x3)) = true := notF h8
         refine wp_skip (then_normal (wp_seq ?_))
         refine at_regq [] { ts := [8, 11, 13, 14], os := [6, 7, 8, 9] } [] gamOK hT h (by kernel_rfl) trivial fun a w h => then_normal (wp_seq ?_)
         refine at_regq [] { ts := [8, 13, 14], os := [] } [(pMkT s31) ((Sh.mkT s31) (newSrc x0 x1 x2 x3) 1) 1] gamOK hT h (by kernel_rfl) ⟨(by (show (0 : Int) ≤ _ ∧ _ + ((Sh.ctT _ _ : Nat) : Int) ≤ (4611686018427387904 : Int); (try simp only [held_marked, held_markedT, mkK, mkKT, Sh.ctT_mkT, Sh.ct_mk]); constructor <;> omega)), trivial⟩ fun a w h => then_normal (wp_seq (wp_seq ?_))
         refine at_regq [] { ts := [8, 13, 14, 77], os := [] } [] gamOK hT h (by kernel_rfl) trivial fun a w h => then_normal ?_
         refine at_test (decide (((heldDT s31) ((Sh.mkT s31) (newSrc x0 x1 x2 x3) 1) 1) < 0)) h (by kernel_rfl) (fun h9 => ?_) (fun h9 => ?_)
         ·replace h9 : ((heldDT s31) ((Sh.mkT s31) (newSrc x0 x1 x2 x3) 1) 1) < 0 := of_decide_eq_true h9
          refine wp_seq ?_
          refine at_regq [] { ts := [8, 13, 14], os := [] } [] gamOK hT h (by kernel_rfl) trivial fun a w h => then_normal (wp_ret (then_ret ?_))
          exact at_return (false, ()) [] h (by kernel_rfl) trivial (congrArg (fun z => (z, ())) (show (false) = D_laws_FnExactNewSource x0 x1 x2 x3 from by unfold D_laws_FnExactNewSource; (exfalso; simp only [held_marked, held_markedT, mkK, mkKT, Sh.ctT_mkT, Sh.ct_mk] at h9; first | omega | exact h9 trivial | exact h9 rfl)))
         ·replace h9 : ¬ (((heldDT s31) ((Sh.mkT s31) (newSrc x0 x1 x2 x3) 1) 1) < 0) := of_decide_eq_false h9
          refine wp_skip (then_normal (wp_seq (wp_seq ?_)))
          refine at_regq [] { ts := [8, 80], os := [] } [] gamOK hT h (by kernel_rfl) trivial fun a w h => then_normal ?_
          refine at_test (!decide (((heldDT s31) ((Sh.mkT s31) (newSrc x0 x1 x2 x3) 1) 1) = ((mkKT s31) (newSrc x0 x1 x2 x3) 1))) h (by kernel_rfl) (fun h10 => ?_) (fun h10 => ?_)
          ·replace h10 : ¬ (((heldDT s31) ((Sh.mkT s31) (newSrc x0 x1 x2 x3) 1) 1) = ((mkKT s31) (newSrc x0 x1 x2 x3) 1)) := of_decide_eq_false (notT h10)
           refine wp_seq ?_
           refine at_regq [] { ts := [8], os := [] } [] gamOK hT h (by kernel_rfl) trivial fun a w h => then_normal (wp_ret (then_ret ?_))
           exact at_return (false, ()) [] h (by kernel_rfl) trivial (congrArg (fun z => (z, ())) (show (false) = D_laws_FnExactNewSource x0 x1 x2 x3 from by unfold D_laws_FnExactNewSource; (exfalso; simp only [held_marked, held_markedT, mkK, mkKT, Sh.ctT_mkT, Sh.ct_mk] at h10; first | omega | exact h10 trivial | exact h10 rfl)))
          ·replace h10 : ((heldDT s31) ((Sh.mkT s31) (newSrc x0 x1 x2 x3) 1) 1) = ((mkKT s31) (newSrc x0 x1 x2 x3) 1) := of_decide_eq_true (notF h10)
           refine wp_skip (then_normal (wp_seq ?_))
           refine at_regq [] { ts := [8], os := [] } [] gamOK hT h (by kernel_rfl) trivial fun a w h => then_normal (wp_ret ?_)
           exact at_return (true, ()) [] h (by kernel_rfl) trivial (congrArg (fun z => (z, ())) (show (true) = D_laws_FnExactNewSource x0 x1 x2 x3 from by unfold D_laws_FnExactNewSource; rfl))

theorem opn5 : OpensS Try.prog 5 (.u8 5) := opensS_u8 Try.underlying5
theorem co5 : Try.prog.cellsOf 5 = 1 := by kernel_rfl
theorem opn22 : OpensS Try.prog 22 s22 := opensS_slice (a := (.u8 5)) Try.underlying22 co5 opn5
theorem opn3 : OpensS Try.prog 3 (.int 3) := opensS_int Try.underlying3
namespace fnExactNewSource
open Go.ChangeShapes Go.WideShapes Go.ChangeAt Go.RowKit
theorem own : ownKnob Try.prog.godebug = none := by kernel_rfl
theorem laidOut : laidOutB Try.prog = true := fxLaid
set_option maxRecDepth 100000 in
theorem lifted (os : Os) (started : os.Started) (H : Type) (enc : TypeId × Value → H) :
    ReturnsInHanded {} Try.checked os 3 .any (Rows.fnExactNewSourceSpec.pre6 enc Try.prog Try.f3 Rows.fnExactNewSourceRow.domain false) (Rows.fnExactNewSourceSpec.post enc Try.prog Try.f3 false true false false) := by
  refine returnsInHanded_of_change (C := Try.checked) own started (by kernel_rfl) Try.func3
    (ChangeSpec.witness6 (enc := enc) (C := Try.checked) false ⟨#[], #[.slice none 0 0, .int .i64 0, .int .i64 0, .int .i64 0], []⟩ 8 (by kernel_rfl) (by kernel_rfl) (by kernel_rfl) (by kernel_rfl)) ?_
  intro W base args ds gs before hval0 hW hcnd _
  have hval : ∀ (j : Nat) t v, Try.f3.params[j]? = some t → args[j]? = some v → Value.okWide Try.prog W .any base t v := hval0
  have hW' := hW
  obtain ⟨p, q, hA0, hV, rfl, hfz, hnd⟩ := hW
  have hA : DataW.TrodAll enc Try.prog W 0 (fun _ => true) true Try.f3.params.toList args.toList ds p := hA0
  rw [Try.params3] at hA hval
  obtain ⟨v0, vs0, d0, ds0, p0, q0, hargs, rfl, rfl, h0, r0⟩ := trodAll_cons hA
  obtain ⟨v1, vs1, d1, ds1, p1, q1, rfl, rfl, rfl, h1, r1⟩ := trodAll_cons r0
  obtain ⟨v2, vs2, d2, ds2, p2, q2, rfl, rfl, rfl, h2, r2⟩ := trodAll_cons r1
  obtain ⟨v3, vs3, d3, ds3, p3, q3, rfl, rfl, rfl, h3, r3⟩ := trodAll_cons r2
  obtain ⟨rfl, rfl, rfl⟩ := trodAll_nil r3
  obtain rfl : args = #[v0, v1, v2, v3] := by cases args; simp_all
  obtain ⟨rfl, rfl⟩ := trodVars_none hV
  have k0 := h0
  have lt0 : ∀ x ∈ p0, x.block < W.heap.size := by obtain ⟨m, hm⟩ := k0; exact DataW.trod_lt m _ _ _ hm
  obtain ⟨ad0, len0, cap0, rfl⟩ := okWide_slice Try.underlying22 (hval 0 22 v0 rfl rfl)
  obtain ⟨x0, hx0, i0⟩ : ∃ x : (s22).D, (s22).rd W (fun b => b < W.heap.size) [.slice ad0 len0 cap0] x ∧ (s22).i64 x := by obtain ⟨fuel, hf⟩ := h0; exact opn22 hf
  have k1 := h1
  have lt1 : ∀ x ∈ p1, x.block < W.heap.size := by obtain ⟨m, hm⟩ := k1; exact DataW.trod_lt m _ _ _ hm
  obtain ⟨a1, rfl, rfl, rfl, w1⟩ := open_int Try.underlying3 (hval 1 3 v1 rfl rfl) h1
  have k2 := h2
  have lt2 : ∀ x ∈ p2, x.block < W.heap.size := by obtain ⟨m, hm⟩ := k2; exact DataW.trod_lt m _ _ _ hm
  obtain ⟨a2, rfl, rfl, rfl, w2⟩ := open_int Try.underlying3 (hval 2 3 v2 rfl rfl) h2
  have k3 := h3
  have lt3 : ∀ x ∈ p3, x.block < W.heap.size := by obtain ⟨m, hm⟩ := k3; exact DataW.trod_lt m _ _ _ hm
  obtain ⟨a3, rfl, rfl, rfl, w3⟩ := open_int Try.underlying3 (hval 3 3 v3 rfl rfl) h3
  clear hA0 hval0
  refine (calls_law S_laws_FnExactNewSource_ok (by kernel_rfl) W (fun b => b < W.heap.size) [.slice ad0 len0 cap0, .int .i64 a1, .int .i64 a2, .int .i64 a3] (x0, a1, a2, a3, ()) (fun _ h => h) ⟨argRd_sl hx0, argRd_int a1, argRd_int a2, argRd_int a3, trivial⟩ ⟨i0, (show I64 a1 from by unfold I64; simpa [Lit.wf, IntKind.min, IntKind.max, IntKind.signed, IntKind.bits] using w1), (show I64 a2 from by unfold I64; simpa [Lit.wf, IntKind.min, IntKind.max, IntKind.signed, IntKind.bits] using w2), (show I64 a3 from by unfold I64; simpa [Lit.wf, IntKind.min, IntKind.max, IntKind.signed, IntKind.bits] using w3)⟩).mono fun e W' hr => ?_
  obtain ⟨he, bel⟩ := ret_bool hr
  subst he
  exact ⟨_, rfl, _, _, _, [], _, [], hW', trodAll_mk1 (shut_bool Try.underlying4 _), (trodAll_cons_mk (Below.trod laidOut (by kernel_rfl) (of_decide_eq_true (by kernel_rfl)) k0 bel lt0) (trodAll_cons_mk (Below.trod laidOut (by kernel_rfl) (of_decide_eq_true (by kernel_rfl)) k1 bel lt1) (trodAll_cons_mk (Below.trod laidOut (by kernel_rfl) (of_decide_eq_true (by kernel_rfl)) k2 bel lt2) (trodAll_cons_mk (Below.trod laidOut (by kernel_rfl) (of_decide_eq_true (by kernel_rfl)) k3 bel lt3) trodAll_mk0)))), rfl, bel.frame _, fun h => by cases h⟩
theorem closed : joinedFacts Try.prog 3 Try.f3 (Rows.fnExactNewSourceSpec) Rows.fnExactNewSourceRow = true := by
  unfold joinedFacts
  exact (and2 (and2 (and2 (and2 (and2 (and2 (and2 (and2 (and2 (and2 (and2 (and2 (and2 (and2 (and2 (and2 (and2 (and2 (and2 (and2 (and2 (and2 (and2 (and2 (and2 (and2 (and2 (and2 (and2 (and2 (and2 (by kernel_rfl) fxLaid) fxMaps) (by kernel_rfl)) (by kernel_rfl)) (by kernel_rfl)) (by kernel_rfl)) (by kernel_rfl)) (by kernel_rfl)) (by kernel_rfl)) (by kernel_rfl)) (by kernel_rfl)) (by kernel_rfl)) (by kernel_rfl)) (by kernel_rfl)) (by kernel_rfl)) (by kernel_rfl)) (by kernel_rfl)) (by kernel_rfl)) (by kernel_rfl)) (by kernel_rfl)) (by kernel_rfl)) (by kernel_rfl)) (by kernel_rfl)) (by kernel_rfl)) fxEnter) (by rw [fxLifts]; kernel_rfl)) (by rw [fxMake]; kernel_rfl)) (by kernel_rfl)) (by kernel_rfl)) (by kernel_rfl)) (by kernel_rfl))
theorem over : Rows.fnExactNewSourceRow.holds Try.pinned (OpenSpec.ofChange Rows.fnExactNewSourceSpec) :=
  OpenClaim.holds_of_wide 3 Try.f3 rfl rfl rfl rfl rfl rfl rfl ⟨rfl, rfl, rfl, rfl, rfl⟩ rfl rfl rfl rfl rfl (by kernel_rfl) Try.func3 closed
    (of_decide_eq_true (by kernel_rfl)) (by unfold Func.isWrapper; first | (rw [if_pos (by decide +kernel)]; kernel_rfl) | (rw [if_neg (by decide +kernel)]; exact ⟨rfl, rfl⟩))
    (fun os started H enc _ => lifted os started H enc)
/-- the statement -/
theorem proved : Rows.FnExactNewSourceSaid := over
end fnExactNewSource

end Go.Proofs.Ytpkbkphpepkmpaa

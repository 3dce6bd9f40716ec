/- The law FnSubspaces returns true for every input and leaves its arguments as they were. No condition. -/
import Derived.Test.YtpffjagdefkfkaaFnSubspaces2
import Derived.Test.YtpffjagdefkfkaaLA
import Derived.Test.YtpffjagdefkfkaaProg
import Derived.Test.YtpffjagdefkfkaaRows
import Derived.Test.YtpffjagdefkfkaaFX
namespace Go.Proofs.Ytpffjagdefkfkaa
open Go.RowKit
set_option linter.unusedVariables false
set_option linter.unusedSimpArgs false
def D_impl_nullSpace := (fun (R : List (List Int)) (n : Int) => nulS R n.toNat)
abbrev Q_impl_nullSpace := (fun (x0 : (List (List Int))) (x1 : Int) => Sh.fit s24 x0 ∧ (LA.RedL x1.toNat x0 ∧ (0 ≤ x1 ∧ x1 ≤ 40)))
def S_impl_nullSpace : Sum := { fid := 155, dom := [s24, (.int 3)], cod := [s24], dp := true, fz := false, pre := fun x => Q_impl_nullSpace x.1 x.2.1, g := fun x => ((D_impl_nullSpace x.1 x.2.1), ()) }
def S_impl_nullSpace_tab : List (Nat × Sum) := [(90, S_impl_freeColumns), (38, S_impl_LeadingIndex), (178, S_impl_SubField)]
theorem S_impl_nullSpace_ok : FnOK Try.prog 155 S_impl_nullSpace := by
 refine at_enter 46 (fun x => ⟨[(0, aF s27 x.1), (1, aI x.2.1)], []⟩) Try.func155 rfl (by kernel_rfl) (fun x => rfl) ?_
 rintro w0 Z0 ⟨x0, x1, u⟩ a w
 revert x0 x1
 intro (x0 : (List (List Int))) (x1 : Int) hpre hlens h
 replace hpre : Q_impl_nullSpace x0 x1 := hpre
 have hT : TabOK Try.prog S_impl_nullSpace_tab := (.cons S_impl_freeColumns_ok (.cons S_impl_LeadingIndex_ok (.cons S_impl_SubField_ok .nil)))
 obtain ⟨hf0, hpx⟩ := hpre
 have hn0_1 : List.length x0 ≤ 1073741824 := hf0.1
 have hw := hpx.2
 have hfl := frC_len x0 x1.toNat
 refine wp_seq ?_
 refine at_regq [] { ts := [0, 1, 4], os := [] } [] gamOK hT h (by kernel_rfl) trivial fun a w h => then_normal (wp_seq ?_)
 refine at_regq [] { ts := [0, 1, 4, 5], os := [] } [] gamOK hT h (by kernel_rfl) trivial fun a w h => then_normal (wp_seq (wp_seq ?_))
 refine at_regq [{}, {}, { ids := [1] }] { ts := [0, 1, 4, 5, 13, 14, 15], os := [1] } [Q_impl_freeColumns x0 x1] gamOK hT h (by kernel_rfl) ⟨(by exact ⟨hf0, hw⟩), trivial⟩ fun a w h => then_normal (wp_block ?_)
 replace h := at_out (σ' := ⟨[(0, aF s27 x0), (1, aI x1), (4, .p (.c (cN))), (5, aS 2), (13, aS 1), (14, aI ((List.length (frC x0 x1.toNat) : Nat) : Int)), (15, aI 0)], [(1, oR (.int 3) (frC x0 x1.toNat)), (2, oR s27 ([] : List (List Int)))]⟩) { mt := [⟨none, 5, 2, true, s27⟩], ts := [0, 1, 4, 5, 13, 14, 15], os := [1, 2] } h (by kernel_rfl)
 refine at_loop (fun i : Nat => (⟨[(0, aF s27 x0), (1, aI x1), (4, .p (.c (cN))), (5, aS 2), (13, aS 1), (14, aI ((List.length (frC x0 x1.toNat) : Nat) : Int)), (15, aI ((i : Nat) : Int))], [(1, oR (.int 3) (frC x0 x1.toNat)), (2, oR s27 (List.map (fun k => nvL x0 x1.toNat k.toNat) (List.take i (frC x0 x1.toNat))))]⟩ : St)) (fun i => i ≤ List.length (frC x0 x1.toNat)) (fun i => List.length (frC x0 x1.toNat) - i) (0) h (st_congr2 (fun (d0 : List (List Int)) (d1 : Int) => (⟨[(0, aF s27 x0), (1, aI x1), (4, .p (.c (cN))), (5, aS 2), (13, aS 1), (14, aI ((List.length (frC x0 x1.toNat) : Nat) : Int)), (15, aI d1)], [(1, oR (.int 3) (frC x0 x1.toNat)), (2, oR s27 d0)]⟩ : St)) (show (([] : List (List Int)) : List (List Int)) = (List.map (fun k => nvL x0 x1.toNat k.toNat) (List.take (0) (frC x0 x1.toNat))) from by first | with_reducible rfl | (first | rfl | simp) | rfl) (show (0 : Int) = (((0) : Nat) : Int) from by first | with_reducible rfl | (first | rfl | simp) | rfl)) (by omega) ?_
 intro i a w hok0 h
 have hlt0 := len_take_le (xs := (frC x0 x1.toNat)) i
 refine wp_seq ?_
 refine at_regq [] { ts := [0, 1, 4, 5, 13, 14, 15, 16], os := [1, 2] } [] gamOK hT h (by kernel_rfl) trivial fun a w h => then_normal (wp_seq ?_)
 refine at_test (decide (((i : Nat) : Int) < ((List.length (frC x0 x1.toNat) : Nat) : Int))) h (by kernel_rfl) (fun h1 => ?_) (fun h1 => ?_)
 ·replace h1 : ((i : Nat) : Int) < ((List.length (frC x0 x1.toNat) : Nat) : Int) := of_decide_eq_true h1
  have hfm := frC_mem (getD_mem (z := 0) (show i < List.length (frC x0 x1.toNat) by omega))
  have hfn := hfm.1
  have hrp : List.length (List.replicate x1.toNat (0 : Int)) = x1.toNat := List.length_replicate
  refine wp_skip (then_normal (wp_seq (wp_block (wp_seq ?_))))
  refine at_regq [] { ts := [0, 1, 4, 5, 7, 13, 14, 15], os := [1, 2] } [(0 : Int) ≤ ((i : Nat) : Int) ∧ ((i : Nat) : Int) < ((List.length (frC x0 x1.toNat) : Nat) : Int), i < List.length (frC x0 x1.toNat)] gamOK hT h (by kernel_rfl) ⟨(by refine ⟨?_, ?_⟩ <;> (first | omega | (simp only [lsA]; omega) | (simp <;> omega))), (by first | omega | (simp only [lsA]; omega) | (simp <;> omega)), trivial⟩ fun a w h => then_normal (wp_seq ?_)
  refine at_regq [{}, { ids := [3] }] { ts := [0, 1, 4, 5, 7, 8, 13, 14, 15], os := [1, 2, 3] } [(0 : Int) ≤ x1 ∧ x1 = x1 ∧ x1 * (8 : Nat) ≤ (140737488355328 : Int)] gamOK hT h (by kernel_rfl) ⟨(by refine ⟨?_, ?_, ?_⟩ <;> ((have hA0 := mul_f x1 (8 : Nat); first | omega | (simp only [lsA]; omega) | (simp <;> omega)))), trivial⟩ fun a w h => then_normal (wp_seq ?_)
  refine at_regq [] { ts := [0, 1, 4, 5, 7, 8, 13, 14, 15], os := [1, 2, 3] } [(0 : Int) ≤ ((frC x0 x1.toNat).getD i 0) ∧ ((frC x0 x1.toNat).getD i 0) < ((List.length (List.replicate ((x1).toNat) (0 : Int)) : Nat) : Int), (((frC x0 x1.toNat).getD i 0)).toNat < List.length (List.replicate ((x1).toNat) (0 : Int))] gamOK hT h (by kernel_rfl) ⟨(by refine ⟨?_, ?_⟩ <;> (first | omega | (simp only [lsA]; omega) | (simp <;> omega))), (by first | omega | (simp only [lsA]; omega) | (simp <;> omega)), trivial⟩ fun a w h => then_normal (wp_seq (wp_seq ?_))
  refine at_regq [] { ts := [0, 1, 4, 5, 7, 8, 13, 14, 15, 24, 25, 26], os := [1, 2, 3] } [] gamOK hT h (by kernel_rfl) trivial fun a w h => then_normal (wp_block ?_)
  replace h := at_out (σ' := ⟨[(0, aF s27 x0), (1, aI x1), (4, .p (.c (cN))), (5, aS 2), (7, aI ((frC x0 x1.toNat).getD i 0)), (8, aS 3), (13, aS 1), (14, aI ((List.length (frC x0 x1.toNat) : Nat) : Int)), (15, aI ((i : Nat) : Int)), (24, aF s27 x0), (25, aI ((List.length x0 : Nat) : Int)), (26, aI 0)], [(1, oR (.int 3) (frC x0 x1.toNat)), (2, oR s27 (List.map (fun k => nvL x0 x1.toNat k.toNat) (List.take i (frC x0 x1.toNat)))), (3, oR (.int 3) (List.set (List.replicate ((x1).toNat) (0 : Int)) ((((frC x0 x1.toNat).getD i 0)).toNat) 1))]⟩) { ts := [0, 1, 4, 5, 7, 8, 13, 14, 15, 24, 25, 26], os := [1, 2, 3] } h (by kernel_rfl)
  refine at_loop (fun j : Nat => (⟨[(0, aF s27 x0), (1, aI x1), (4, .p (.c (cN))), (5, aS 2), (7, aI ((frC x0 x1.toNat).getD i 0)), (8, aS 3), (13, aS 1), (14, aI ((List.length (frC x0 x1.toNat) : Nat) : Int)), (15, aI ((i : Nat) : Int)), (24, aF s27 x0), (25, aI ((List.length x0 : Nat) : Int)), (26, aI ((j : Nat) : Int))], [(1, oR (.int 3) (frC x0 x1.toNat)), (2, oR s27 (List.map (fun k => nvL x0 x1.toNat k.toNat) (List.take i (frC x0 x1.toNat)))), (3, oR (.int 3) (nvL (List.take j x0) x1.toNat ((frC x0 x1.toNat).getD i 0).toNat))]⟩ : St)) (fun j => j ≤ List.length x0) (fun j => List.length x0 - j) (0) h (st_congr2 (fun (d0 : List Int) (d1 : Int) => (⟨[(0, aF s27 x0), (1, aI x1), (4, .p (.c (cN))), (5, aS 2), (7, aI ((frC x0 x1.toNat).getD i 0)), (8, aS 3), (13, aS 1), (14, aI ((List.length (frC x0 x1.toNat) : Nat) : Int)), (15, aI ((i : Nat) : Int)), (24, aF s27 x0), (25, aI ((List.length x0 : Nat) : Int)), (26, aI d1)], [(1, oR (.int 3) (frC x0 x1.toNat)), (2, oR s27 (List.map (fun k => nvL x0 x1.toNat k.toNat) (List.take i (frC x0 x1.toNat)))), (3, oR (.int 3) d0)]⟩ : St)) (show ((List.set (List.replicate ((x1).toNat) (0 : Int)) ((((frC x0 x1.toNat).getD i 0)).toNat) 1) : List Int) = (nvL (List.take (0) x0) x1.toNat ((frC x0 x1.toNat).getD i 0).toNat) from by first | with_reducible rfl | (exact nv_zero _ _) | rfl) (show (0 : Int) = (((0) : Nat) : Int) from by first | with_reducible rfl | (exact nv_zero _ _) | rfl)) (by omega) ?_
  intro j a w hok1 h
  have hnl := nvL_len (List.take j x0) x1.toNat ((frC x0 x1.toNat).getD i 0).toNat
  refine wp_seq ?_
  refine at_regq [] { ts := [0, 1, 4, 5, 7, 8, 13, 14, 15, 24, 25, 26, 27], os := [1, 2, 3] } [] gamOK hT h (by kernel_rfl) trivial fun a w h => then_normal (wp_seq ?_)
  refine at_test (decide (((j : Nat) : Int) < ((List.length x0 : Nat) : Int))) h (by kernel_rfl) (fun h2 => ?_) (fun h2 => ?_)
  ·replace h2 : ((j : Nat) : Int) < ((List.length x0 : Nat) : Int) := of_decide_eq_true h2
   have hra := hpx.1.at_ (show j < List.length x0 by omega)
   have hral := hra.1.1
   refine wp_skip (then_normal (wp_seq (wp_block (wp_seq ?_))))
   refine at_regq [] { ts := [0, 1, 4, 5, 7, 8, 10, 13, 14, 15, 24, 25, 26], os := [1, 2, 3] } [(0 : Int) ≤ ((j : Nat) : Int) ∧ ((j : Nat) : Int) < ((List.length x0 : Nat) : Int)] gamOK hT h (by kernel_rfl) ⟨(by refine ⟨?_, ?_⟩ <;> (first | omega | (simp only [lsA]; omega) | (simp <;> omega))), trivial⟩ fun a w h => then_normal ?_
   refine at_anyq [{}, {}, {}, {}, {}, {}, {}, {}, {}, {}] { ts := [0, 1, 4, 5, 7, 8, 13, 14, 15, 24, 25, 26], os := [1, 2, 3] } [Q_impl_LeadingIndex (x0.getD j []), (0 : Int) ≤ ((frC x0 x1.toNat).getD i 0) ∧ ((frC x0 x1.toNat).getD i 0) < ((List.length (x0.getD j []) : Nat) : Int), True, (0 : Int) ≤ (LA.leadS (x0.getD j [])) ∧ (LA.leadS (x0.getD j [])) < ((List.length (nvL (List.take j x0) x1.toNat ((frC x0 x1.toNat).getD i 0).toNat) : Nat) : Int), ((LA.leadS (x0.getD j []))).toNat < List.length (nvL (List.take j x0) x1.toNat ((frC x0 x1.toNat).getD i 0).toNat)] gamOK hT mixed h (by kernel_rfl) ⟨(by exact Sh.fit_getD hf0 j), (by refine ⟨?_, ?_⟩ <;> ((have hL0 := (show List.length (x0.getD j []) ≤ 1073741824 from ((Sh.fit_getD hf0 j)).1); first | omega | (simp only [lsA]; omega) | (simp <;> omega)))), trivial, (by refine ⟨?_, ?_⟩ <;> (first | omega | (simp only [lsA]; omega) | (simp <;> omega))), (by first | omega | (simp only [lsA]; omega) | (simp <;> omega)), trivial⟩ fun a w h => in_normal (then_normal ?_)
   refine at_regq [{ nw := true }] { ts := [0, 1, 4, 5, 7, 8, 13, 14, 15, 24, 25, 26], os := [1, 2, 3] } [I64 (((j : Nat) : Int) + 1)] gamOK hT h (by kernel_rfl) ⟨⟨by first | omega | (simp only [lsA]; omega) | (simp <;> omega), by first | omega | (simp only [lsA]; omega) | (simp <;> omega)⟩, trivial⟩ fun a w h => ?_
   replace h := at_out (σ' := ⟨[(0, aF s27 x0), (1, aI x1), (4, .p (.c (cN))), (5, aS 2), (7, aI ((frC x0 x1.toNat).getD i 0)), (8, aS 3), (13, aS 1), (14, aI ((List.length (frC x0 x1.toNat) : Nat) : Int)), (15, aI ((i : Nat) : Int)), (24, aF s27 x0), (25, aI ((List.length x0 : Nat) : Int)), (26, aI (((j : Nat) : Int) + 1))], [(1, oR (.int 3) (frC x0 x1.toNat)), (2, oR s27 (List.map (fun k => nvL x0 x1.toNat k.toNat) (List.take i (frC x0 x1.toNat)))), (3, oR (.int 3) (List.set (nvL (List.take j x0) x1.toNat ((frC x0 x1.toNat).getD i 0).toNat) (((LA.leadS (x0.getD j []))).toNat) (subF 0 ((x0.getD j []).getD ((((frC x0 x1.toNat).getD i 0)).toNat) 0))))]⟩) { ts := [0, 1, 4, 5, 7, 8, 13, 14, 15, 24, 25, 26], os := [1, 2, 3] } h (by kernel_rfl)
   exact ⟨j + 1, at_eq h (st_congr2 (fun (d0 : List Int) (d1 : Int) => (⟨[(0, aF s27 x0), (1, aI x1), (4, .p (.c (cN))), (5, aS 2), (7, aI ((frC x0 x1.toNat).getD i 0)), (8, aS 3), (13, aS 1), (14, aI ((List.length (frC x0 x1.toNat) : Nat) : Int)), (15, aI ((i : Nat) : Int)), (24, aF s27 x0), (25, aI ((List.length x0 : Nat) : Int)), (26, aI d1)], [(1, oR (.int 3) (frC x0 x1.toNat)), (2, oR s27 (List.map (fun k => nvL x0 x1.toNat k.toNat) (List.take i (frC x0 x1.toNat)))), (3, oR (.int 3) d0)]⟩ : St)) (show ((List.set (nvL (List.take j x0) x1.toNat ((frC x0 x1.toNat).getD i 0).toNat) (((LA.leadS (x0.getD j []))).toNat) (subF 0 ((x0.getD j []).getD ((((frC x0 x1.toNat).getD i 0)).toNat) 0))) : List Int) = (nvL (List.take (j + 1) x0) x1.toNat ((frC x0 x1.toNat).getD i 0).toNat) from by first | with_reducible rfl | (exact nv_step hpx.1 (by omega)) | rfl) (show (((j : Nat) : Int) + 1 : Int) = (((j + 1) : Nat) : Int) from by first | with_reducible rfl | (omega) | rfl)), (by omega), (by omega)⟩
  ·replace h2 : ¬ (((j : Nat) : Int) < ((List.length x0 : Nat) : Int)) := of_decide_eq_false h2
   refine wp_exit (then_exit ?_)
   replace h := at_out (σ' := ⟨[(0, aF s27 x0), (1, aI x1), (4, .p (.c (cN))), (5, aS 2), (8, aS 3), (13, aS 1), (14, aI ((List.length (frC x0 x1.toNat) : Nat) : Int)), (15, aI ((i : Nat) : Int))], [(1, oR (.int 3) (frC x0 x1.toNat)), (2, oR s27 (List.map (fun k => nvL x0 x1.toNat k.toNat) (List.take i (frC x0 x1.toNat)))), (3, oR (.int 3) (nvL (List.take j x0) x1.toNat ((frC x0 x1.toNat).getD i 0).toNat))]⟩) { ts := [0, 1, 4, 5, 8, 13, 14, 15], os := [1, 2, 3] } h (by kernel_rfl)
   replace h := at_eq (σ' := ⟨[(0, aF s27 x0), (1, aI x1), (4, .p (.c (cN))), (5, aS 2), (8, aS 3), (13, aS 1), (14, aI ((List.length (frC x0 x1.toNat) : Nat) : Int)), (15, aI ((i : Nat) : Int))], [(1, oR (.int 3) (frC x0 x1.toNat)), (2, oR s27 (List.map (fun k => nvL x0 x1.toNat k.toNat) (List.take i (frC x0 x1.toNat)))), (3, oR (.int 3) (nvL x0 x1.toNat ((frC x0 x1.toNat).getD i 0).toNat))]⟩) h (st_congr1 (fun (d0 : List Int) => (⟨[(0, aF s27 x0), (1, aI x1), (4, .p (.c (cN))), (5, aS 2), (8, aS 3), (13, aS 1), (14, aI ((List.length (frC x0 x1.toNat) : Nat) : Int)), (15, aI ((i : Nat) : Int))], [(1, oR (.int 3) (frC x0 x1.toNat)), (2, oR s27 (List.map (fun k => nvL x0 x1.toNat k.toNat) (List.take i (frC x0 x1.toNat)))), (3, oR (.int 3) d0)]⟩ : St)) (show ((nvL (List.take j x0) x1.toNat ((frC x0 x1.toNat).getD i 0).toNat) : List Int) = (nvL x0 x1.toNat ((frC x0 x1.toNat).getD i 0).toNat) from by first | with_reducible rfl | (rw [take_all (by omega)]) | rfl))
   refine then_exit (in_hit (then_normal ?_))
   refine at_regq [{}, {}, { ids := [4] }, { ids := [5] }] { ts := [0, 1, 4, 5, 13, 14, 15], os := [1, 5] } [(List.length (List.map (fun k => nvL x0 x1.toNat k.toNat) (List.take i (frC x0 x1.toNat))) + List.length ([(nvL x0 x1.toNat ((frC x0 x1.toNat).getD i 0).toNat)])) * 24 ≤ 140737488355328] gamOK hT h (by kernel_rfl) ⟨(by first | omega | (simp only [lsA]; omega) | (simp <;> omega)), trivial⟩ fun a w h => in_normal (then_normal ?_)
   refine at_regq [{ nw := true }] { ts := [0, 1, 4, 5, 13, 14, 15], os := [1, 5] } [I64 (((i : Nat) : Int) + 1)] gamOK hT h (by kernel_rfl) ⟨⟨by first | omega | (simp only [lsA]; omega) | (simp <;> omega), by first | omega | (simp only [lsA]; omega) | (simp <;> omega)⟩, trivial⟩ fun a w h => ?_
   replace h := at_out (σ' := ⟨[(0, aF s27 x0), (1, aI x1), (4, .p (.c (cN))), (5, aS 2), (13, aS 1), (14, aI ((List.length (frC x0 x1.toNat) : Nat) : Int)), (15, aI (((i : Nat) : Int) + 1))], [(1, oR (.int 3) (frC x0 x1.toNat)), (2, oR s27 ((List.map (fun k => nvL x0 x1.toNat k.toNat) (List.take i (frC x0 x1.toNat))) ++ ([(nvL x0 x1.toNat ((frC x0 x1.toNat).getD i 0).toNat)])))]⟩) { ts := [0, 1, 4, 5, 13, 14, 15], os := [1, 5], rn := [(5, 2)] } h (by kernel_rfl)
   exact ⟨i + 1, at_eq h (st_congr2 (fun (d0 : List (List Int)) (d1 : Int) => (⟨[(0, aF s27 x0), (1, aI x1), (4, .p (.c (cN))), (5, aS 2), (13, aS 1), (14, aI ((List.length (frC x0 x1.toNat) : Nat) : Int)), (15, aI d1)], [(1, oR (.int 3) (frC x0 x1.toNat)), (2, oR s27 d0)]⟩ : St)) (show (((List.map (fun k => nvL x0 x1.toNat k.toNat) (List.take i (frC x0 x1.toNat))) ++ ([(nvL x0 x1.toNat ((frC x0 x1.toNat).getD i 0).toNat)])) : List (List Int)) = (List.map (fun k => nvL x0 x1.toNat k.toNat) (List.take (i + 1) (frC x0 x1.toNat))) from by first | with_reducible rfl | (rw [map_snoc (z := 0) (by omega)]; done) | rfl) (show (((i : Nat) : Int) + 1 : Int) = (((i + 1) : Nat) : Int) from by first | with_reducible rfl | (omega) | rfl)), (by omega), (by omega)⟩
 ·replace h1 : ¬ (((i : Nat) : Int) < ((List.length (frC x0 x1.toNat) : Nat) : Int)) := of_decide_eq_false h1
  refine wp_exit (then_exit ?_)
  replace h := at_out (σ' := ⟨[(4, .p (.c (cN))), (5, aS 2)], [(2, oR s27 (List.map (fun k => nvL x0 x1.toNat k.toNat) (List.take i (frC x0 x1.toNat))))]⟩) { ts := [4, 5], os := [2] } h (by kernel_rfl)
  replace h := at_eq (σ' := ⟨[(4, .p (.c (cN))), (5, aS 2)], [(2, oR s27 (List.map (fun k => nvL x0 x1.toNat k.toNat) (frC x0 x1.toNat)))]⟩) h (st_congr1 (fun (d0 : List (List Int)) => (⟨[(4, .p (.c (cN))), (5, aS 2)], [(2, oR s27 d0)]⟩ : St)) (show ((List.map (fun k => nvL x0 x1.toNat k.toNat) (List.take i (frC x0 x1.toNat))) : List (List Int)) = (List.map (fun k => nvL x0 x1.toNat k.toNat) (frC x0 x1.toNat)) from by first | with_reducible rfl | (rw [take_all (by omega)]) | rfl))
  refine then_exit (in_hit (then_normal (wp_seq ?_)))
  refine at_regq [] { ts := [4], os := [2] } [] gamOK hT h (by kernel_rfl) trivial fun a w h => then_normal (wp_ret ?_)
  exact at_return ((List.map (fun k => nvL x0 x1.toNat k.toNat) (frC x0 x1.toNat)), ()) [] h (by kernel_rfl) trivial (congrArg (fun z => (z, ())) (show ((List.map (fun k => nvL x0 x1.toNat k.toNat) (frC x0 x1.toNat))) = D_impl_nullSpace x0 x1 from by unfold D_impl_nullSpace; rfl))

abbrev Q_impl_SpanOf := (fun (x0 : (List (List Int))) (x1 : Int) => Sh.fit s24 x0)
def S_impl_SpanOf : Sum := { fid := 154, dom := [s24, (.int 3)], cod := [s60], dp := true, fz := false, pre := fun x => Q_impl_SpanOf x.1 x.2.1, g := fun x => ((spanB x.1 x.2.1), ()) }
def S_impl_SpanOf_tab : List (Nat × Sum) := [(51, S_impl_InRange), (97, S_impl_NewBasis), (112, S_impl_IsValidVector), (83, S__P_impl_Basis_insert)]
theorem S_impl_SpanOf_ok : FnOK Try.prog 154 S_impl_SpanOf := by
 refine at_enter 32 (fun x => ⟨[(0, aF s27 x.1), (1, aI x.2.1)], []⟩) Try.func154 rfl (by kernel_rfl) (fun x => rfl) ?_
 rintro w0 Z0 ⟨x0, x1, u⟩ a w
 revert x0 x1
 intro (x0 : (List (List Int))) (x1 : Int) hpre hlens h
 replace hpre : Q_impl_SpanOf x0 x1 := hpre
 have hT : TabOK Try.prog S_impl_SpanOf_tab := (.cons S_impl_InRange_ok (.cons S_impl_NewBasis_ok (.cons S_impl_IsValidVector_ok (.cons S__P_impl_Basis_insert_ok .nil))))
 have hf0 : Sh.fit s24 x0 := hpre
 have hn0_1 : List.length x0 ≤ 1073741824 := hf0.1
 refine wp_seq ?_
 refine at_regq [{ ids := [1] }] { ts := [0, 1, 4], os := [1] } [] gamOK hT h (by kernel_rfl) trivial fun a w h => then_normal (wp_seq (wp_seq ?_))
 refine at_regq [] { ts := [0, 1, 4, 10], os := [1] } [True] gamOK hT h (by kernel_rfl) ⟨trivial, trivial⟩ fun a w h => then_normal ?_
 refine at_test (!(inR x1 0 40)) h (by kernel_rfl) (fun h1 => ?_) (fun h1 => ?_)
 ·replace h1 : (inR x1 0 40) = false := notT h1
  have hvh1 := inR_f h1
  refine wp_seq ?_
  refine at_regq [{ ids := [2] }] { ts := [0, 1, 4], os := [1, 2] } [True] gamOK hT h (by kernel_rfl) ⟨trivial, trivial⟩ fun a w h => then_normal (wp_ret (then_ret ?_))
  exact at_return ((newBas 0), ()) [] h (by kernel_rfl) trivial (congrArg (fun z => (z, ())) (show ((newBas 0)) = spanB x0 x1 from by first | (unfold spanB; rw [if_pos (by assumption), show List.length x0 = i by omega]; done) | (unfold spanB; rw [if_neg (by simp_all)]; rfl)))
 ·replace h1 : (inR x1 0 40) = true := notF h1
  have hvh1 := inR_t h1
  refine wp_skip (then_normal (wp_seq ?_))
  refine at_regq [{}, { ids := [3] }, { ids := [4] }] { ts := [0, 1, 4, 5], os := [1, 3, 4] } [True] gamOK hT h (by kernel_rfl) ⟨trivial, trivial⟩ fun a w h => then_normal (wp_seq (wp_seq ?_))
  refine at_regq [] { ts := [1, 4, 5, 14, 15, 16], os := [1, 3, 4] } [] gamOK hT h (by kernel_rfl) trivial fun a w h => then_normal (wp_block ?_)
  replace h := at_out (σ' := ⟨[(1, aI x1), (4, aP 1 0), (5, aP 4 0), (14, aF s27 x0), (15, aI ((List.length x0 : Nat) : Int)), (16, aI 0)], [(1, oX 60 [cI 0, cN]), (3, oR s27 (newBas x1).2), (4, oX 60 [cI (newBas x1).1, .sl 3])]⟩) { ts := [1, 4, 5, 14, 15, 16], os := [1, 3, 4] } h (by kernel_rfl)
  refine at_loop (fun i : Nat => (⟨[(1, aI x1), (4, aP 1 0), (5, aP 4 0), (14, aF s27 x0), (15, aI ((List.length x0 : Nat) : Int)), (16, aI ((i : Nat) : Int))], [(1, oX 60 [cI 0, cN]), (3, oR s27 (foldTo (spS x1) [] x0 i)), (4, oX 60 [cI x1, .sl 3])]⟩ : St)) (fun i => i ≤ List.length x0) (fun i => List.length x0 - i) (0) h (st_congr3 (fun (d0 : Int) (d1 : List (List Int)) (d2 : Int) => (⟨[(1, aI x1), (4, aP 1 0), (5, aP 4 0), (14, aF s27 x0), (15, aI ((List.length x0 : Nat) : Int)), (16, aI d2)], [(1, oX 60 [cI 0, cN]), (3, oR s27 d1), (4, oX 60 [cI d0, .sl 3])]⟩ : St)) (show ((newBas x1).1 : Int) = x1 from by first | with_reducible rfl | (first | rfl | (rw [newBas_at (by omega)]; done) | (rw [newBas_at (by omega)]; rfl) | (rw [newBas_at2 (by omega)]; done) | (rw [newBas_at2 (by omega)]; rfl)) | rfl) (show ((newBas x1).2 : List (List Int)) = (foldTo (spS x1) [] x0 (0)) from by first | with_reducible rfl | (first | rfl | (rw [newBas_at (by omega)]; done) | (rw [newBas_at (by omega)]; rfl) | (rw [newBas_at2 (by omega)]; done) | (rw [newBas_at2 (by omega)]; rfl)) | rfl) (show (0 : Int) = (((0) : Nat) : Int) from by first | with_reducible rfl | (first | rfl | (rw [newBas_at (by omega)]; done) | (rw [newBas_at (by omega)]; rfl) | (rw [newBas_at2 (by omega)]; done) | (rw [newBas_at2 (by omega)]; rfl)) | rfl)) (by omega) ?_
  intro i a w hok0 h
  refine wp_seq ?_
  refine at_regq [] { ts := [1, 4, 5, 14, 15, 16, 17], os := [1, 3, 4] } [] gamOK hT h (by kernel_rfl) trivial fun a w h => then_normal (wp_seq ?_)
  refine at_test (decide (((i : Nat) : Int) < ((List.length x0 : Nat) : Int))) h (by kernel_rfl) (fun h2 => ?_) (fun h2 => ?_)
  ·replace h2 : ((i : Nat) : Int) < ((List.length x0 : Nat) : Int) := of_decide_eq_true h2
   refine wp_skip (then_normal (wp_seq (wp_block (wp_seq ?_))))
   refine at_regq [] { ts := [1, 4, 5, 7, 14, 15, 16], os := [1, 3, 4] } [(0 : Int) ≤ ((i : Nat) : Int) ∧ ((i : Nat) : Int) < ((List.length x0 : Nat) : Int)] gamOK hT h (by kernel_rfl) ⟨(by refine ⟨?_, ?_⟩ <;> (first | omega | (simp only [lsA]; omega) | (simp <;> omega))), trivial⟩ fun a w h => then_normal (wp_seq ?_)
   rcases Bool.eq_false_or_eq_true ((validV (x0.getD i []))) with h3 | h3
   ·have hvh3 := validV_t h3
    refine at_regq [{}, { hint := some (aB true) }] { ts := [1, 4, 5, 7, 14, 15, 16, 23, 24, 25, 26, 27], os := [1, 3, 4] } [Q_impl_IsValidVector (x0.getD i []), (AV.p (.c (.v (.bool ((validV (x0.getD i [])))))) = AV.p (.c (.v (.bool true))))] gamOK hT h (by kernel_rfl) ⟨(by exact (Sh.fit_getD hf0 i)), hint_bool (h3), trivial⟩ fun a w h => then_normal ?_
    refine at_test (decide (((List.length (x0.getD i []) : Nat) : Int) = x1)) h (by kernel_rfl) (fun h4 => ?_) (fun h4 => ?_)
    ·replace h4 : ((List.length (x0.getD i []) : Nat) : Int) = x1 := of_decide_eq_true h4
     refine at_regq [{}, { ids := [5] }] { ts := [1, 4, 5, 14, 15, 16, 23, 24, 25, 26], os := [1, 4, 5] } [Q__P_impl_Basis_insert (x1, (foldTo (spS x1) [] x0 i)) (x0.getD i [])] gamOK hT h (by kernel_rfl) ⟨(by (have hbP : basP (x1, (foldTo (spS x1) [] x0 i)) := ⟨by omega, span_red i (by omega)⟩; have hvv := validV_t (v := x0.getD i []) (by assumption); have hvr : LA.VokB x1.toNat (x0.getD i []) := ⟨by omega, hvv.2.1⟩; exact ⟨basP_fit hbP, fitV hvr (by omega), hbP, hvr⟩)), trivial⟩ fun a w h => in_normal (then_normal ?_)
     refine at_regq [{ nw := true }] { ts := [1, 4, 5, 14, 15, 16, 23, 24, 25, 26], os := [1, 4, 5] } [I64 (((i : Nat) : Int) + 1)] gamOK hT h (by kernel_rfl) ⟨⟨by first | omega | (simp only [lsA]; omega) | (simp <;> omega), by first | omega | (simp only [lsA]; omega) | (simp <;> omega)⟩, trivial⟩ fun a w h => ?_
     replace h := at_out (σ' := ⟨[(1, aI x1), (4, aP 1 0), (5, aP 4 0), (14, aF s27 x0), (15, aI ((List.length x0 : Nat) : Int)), (16, aI (((i : Nat) : Int) + 1))], [(1, oX 60 [cI 0, cN]), (3, oR s27 (insU (x1, (foldTo (spS x1) [] x0 i)) (x0.getD i [])).2), (4, oX 60 [cI (insU (x1, (foldTo (spS x1) [] x0 i)) (x0.getD i [])).1, .sl 3])]⟩) { ts := [1, 4, 5, 14, 15, 16], os := [1, 5, 4], rn := [(5, 3)] } h (by kernel_rfl)
     exact ⟨i + 1, at_eq h (st_congr3 (fun (d0 : Int) (d1 : List (List Int)) (d2 : Int) => (⟨[(1, aI x1), (4, aP 1 0), (5, aP 4 0), (14, aF s27 x0), (15, aI ((List.length x0 : Nat) : Int)), (16, aI d2)], [(1, oX 60 [cI 0, cN]), (3, oR s27 d1), (4, oX 60 [cI d0, .sl 3])]⟩ : St)) (show ((insU (x1, (foldTo (spS x1) [] x0 i)) (x0.getD i [])).1 : Int) = x1 from by first | with_reducible rfl | (rfl) | rfl) (show ((insU (x1, (foldTo (spS x1) [] x0 i)) (x0.getD i [])).2 : List (List Int)) = (foldTo (spS x1) [] x0 (i + 1)) from by first | with_reducible rfl | (first | (rw [foldTo_succ [] (by omega), ← spS_y (by assumption) (by omega)]; done) | (rw [foldTo_succ [] (by omega), ← spS_n (by first | (left; assumption) | (right; omega))]; done)) | rfl) (show (((i : Nat) : Int) + 1 : Int) = (((i + 1) : Nat) : Int) from by first | with_reducible rfl | (omega) | rfl)), (by omega), (by omega)⟩
    ·replace h4 : ¬ (((List.length (x0.getD i []) : Nat) : Int) = x1) := of_decide_eq_false h4
     refine wp_skip (in_normal (then_normal ?_))
     refine at_regq [{ nw := true }] { ts := [1, 4, 5, 14, 15, 16, 23, 24, 25, 26], os := [1, 3, 4] } [I64 (((i : Nat) : Int) + 1)] gamOK hT h (by kernel_rfl) ⟨⟨by first | omega | (simp only [lsA]; omega) | (simp <;> omega), by first | omega | (simp only [lsA]; omega) | (simp <;> omega)⟩, trivial⟩ fun a w h => ?_
     replace h := at_out (σ' := ⟨[(1, aI x1), (4, aP 1 0), (5, aP 4 0), (14, aF s27 x0), (15, aI ((List.length x0 : Nat) : Int)), (16, aI (((i : Nat) : Int) + 1))], [(1, oX 60 [cI 0, cN]), (3, oR s27 (foldTo (spS x1) [] x0 i)), (4, oX 60 [cI x1, .sl 3])]⟩) { ts := [1, 4, 5, 14, 15, 16], os := [1, 3, 4] } h (by kernel_rfl)
     exact ⟨i + 1, at_eq h (st_congr3 (fun (d0 : Int) (d1 : List (List Int)) (d2 : Int) => (⟨[(1, aI x1), (4, aP 1 0), (5, aP 4 0), (14, aF s27 x0), (15, aI ((List.length x0 : Nat) : Int)), (16, aI d2)], [(1, oX 60 [cI 0, cN]), (3, oR s27 d1), (4, oX 60 [cI d0, .sl 3])]⟩ : St)) (show (x1 : Int) = x1 from by first | with_reducible rfl | (rfl) | rfl) (show ((foldTo (spS x1) [] x0 i) : List (List Int)) = (foldTo (spS x1) [] x0 (i + 1)) from by first | with_reducible rfl | (first | (rw [foldTo_succ [] (by omega), ← spS_y (by assumption) (by omega)]; done) | (rw [foldTo_succ [] (by omega), ← spS_n (by first | (left; assumption) | (right; omega))]; done)) | rfl) (show (((i : Nat) : Int) + 1 : Int) = (((i + 1) : Nat) : Int) from by first | with_reducible rfl | (omega) | rfl)), (by omega), (by omega)⟩
   ·refine at_regq [{}, { hint := some (aB false) }] { ts := [1, 4, 5, 7, 14, 15, 16, 23, 24, 25, 26, 27], os := [1, 3, 4] } [Q_impl_IsValidVector (x0.getD i []), (AV.p (.c (.v (.bool ((validV (x0.getD i [])))))) = AV.p (.c (.v (.bool false))))] gamOK hT h (by kernel_rfl) ⟨(by exact (Sh.fit_getD hf0 i)), hint_bool (h3), trivial⟩ fun a w h => then_normal ?_
    refine at_test false h (by kernel_rfl) (fun hh => nomatch hh) (fun hh => ?_)
    refine wp_skip (in_normal (then_normal ?_))
    refine at_regq [{ nw := true }] { ts := [1, 4, 5, 14, 15, 16, 23, 24, 25, 26], os := [1, 3, 4] } [I64 (((i : Nat) : Int) + 1)] gamOK hT h (by kernel_rfl) ⟨⟨by first | omega | (simp only [lsA]; omega) | (simp <;> omega), by first | omega | (simp only [lsA]; omega) | (simp <;> omega)⟩, trivial⟩ fun a w h => ?_
    replace h := at_out (σ' := ⟨[(1, aI x1), (4, aP 1 0), (5, aP 4 0), (14, aF s27 x0), (15, aI ((List.length x0 : Nat) : Int)), (16, aI (((i : Nat) : Int) + 1))], [(1, oX 60 [cI 0, cN]), (3, oR s27 (foldTo (spS x1) [] x0 i)), (4, oX 60 [cI x1, .sl 3])]⟩) { ts := [1, 4, 5, 14, 15, 16], os := [1, 3, 4] } h (by kernel_rfl)
    exact ⟨i + 1, at_eq h (st_congr3 (fun (d0 : Int) (d1 : List (List Int)) (d2 : Int) => (⟨[(1, aI x1), (4, aP 1 0), (5, aP 4 0), (14, aF s27 x0), (15, aI ((List.length x0 : Nat) : Int)), (16, aI d2)], [(1, oX 60 [cI 0, cN]), (3, oR s27 d1), (4, oX 60 [cI d0, .sl 3])]⟩ : St)) (show (x1 : Int) = x1 from by first | with_reducible rfl | (rfl) | rfl) (show ((foldTo (spS x1) [] x0 i) : List (List Int)) = (foldTo (spS x1) [] x0 (i + 1)) from by first | with_reducible rfl | (first | (rw [foldTo_succ [] (by omega), ← spS_y (by assumption) (by omega)]; done) | (rw [foldTo_succ [] (by omega), ← spS_n (by first | (left; assumption) | (right; omega))]; done)) | rfl) (show (((i : Nat) : Int) + 1 : Int) = (((i + 1) : Nat) : Int) from by first | with_reducible rfl | (omega) | rfl)), (by omega), (by omega)⟩
  ·replace h2 : ¬ (((i : Nat) : Int) < ((List.length x0 : Nat) : Int)) := of_decide_eq_false h2
   refine wp_exit (then_exit (then_exit (in_hit (then_normal (wp_seq ?_)))))
   refine at_regq [] { ts := [4], os := [1, 3] } [] gamOK hT h (by kernel_rfl) trivial fun a w h => then_normal (wp_ret ?_)
   exact at_return ((x1, (foldTo (spS x1) [] x0 i)), ()) [] h (by kernel_rfl) trivial (congrArg (fun z => (z, ())) (show ((x1, (foldTo (spS x1) [] x0 i))) = spanB x0 x1 from by first | (unfold spanB; rw [if_pos (by assumption), show List.length x0 = i by omega]; done) | (unfold spanB; rw [if_neg (by simp_all)]; rfl)))

abbrev Q_impl_OrthogonalSpace := (fun (x0 : T60) => Sh.fit s60 x0)
def S_impl_OrthogonalSpace : Sum := { fid := 98, dom := [s60], cod := [s60], dp := true, fz := false, pre := fun x => Q_impl_OrthogonalSpace x.1, g := fun x => ((orthB x.1), ()) }
def S_impl_OrthogonalSpace_tab : List (Nat × Sum) := [(35, S_impl_IsValidBasis), (97, S_impl_NewBasis), (155, S_impl_nullSpace), (154, S_impl_SpanOf)]
theorem S_impl_OrthogonalSpace_ok : FnOK Try.prog 98 S_impl_OrthogonalSpace := by
 refine at_enter 15 (fun x => ⟨[(0, aG [cI x.1.1, .ro s27 x.1.2])], []⟩) Try.func98 rfl (by kernel_rfl) (fun x => rfl) ?_
 rintro w0 Z0 ⟨x0, u⟩ a w
 revert x0
 intro (x0 : T60) hpre hlens h
 replace hpre : Q_impl_OrthogonalSpace x0 := hpre
 have hT : TabOK Try.prog S_impl_OrthogonalSpace_tab := (.cons S_impl_IsValidBasis_ok (.cons S_impl_NewBasis_ok (.cons S_impl_nullSpace_ok (.cons S_impl_SpanOf_ok .nil))))
 have hf0 : Sh.fit s60 x0 := hpre
 have hn0_1 : List.length x0.2 ≤ 1073741824 := hf0.2.1
 refine wp_seq ?_
 refine at_regq [{ ids := [1] }, { ids := [2] }] { ts := [1, 2], os := [1, 2] } [] gamOK hT h (by kernel_rfl) trivial fun a w h => then_normal (wp_seq (wp_seq ?_))
 refine at_regq [] { ts := [1, 2, 5], os := [1, 2] } [Q_impl_IsValidBasis x0] gamOK hT h (by kernel_rfl) ⟨(by exact hf0), trivial⟩ fun a w h => then_normal ?_
 refine at_test (!(validB x0)) h (by kernel_rfl) (fun h1 => ?_) (fun h1 => ?_)
 ·replace h1 : (validB x0) = false := notT h1
  refine wp_seq ?_
  refine at_regq [{ ids := [3] }] { ts := [1, 2], os := [1, 2, 3] } [True] gamOK hT h (by kernel_rfl) ⟨trivial, trivial⟩ fun a w h => then_normal (wp_ret (then_ret ?_))
  exact at_return ((newBas 0), ()) [] h (by kernel_rfl) trivial (congrArg (fun z => (z, ())) (show ((newBas 0)) = orthB x0 from by first | (unfold orthB; rw [if_pos (by assumption)]; done) | (unfold orthB; rw [if_pos (by assumption)]; rfl) | (unfold orthB; rw [if_neg (by simp_all)]; rfl)))
 ·replace h1 : (validB x0) = true := notF h1
  have hvh1 := validB_t h1
  refine wp_skip (then_normal (wp_seq ?_))
  refine at_anyq [{}, {}, {}, {}, { ids := [4] }, {}, {}, { ids := [5] }, {}] { ts := [2], os := [2, 5] } [Q_impl_nullSpace x0.2 x0.1, Q_impl_SpanOf (D_impl_nullSpace x0.2 x0.1) x0.1] gamOK hT mixed h (by kernel_rfl) ⟨(by (have hv := validB_t (b := x0) (by assumption); exact ⟨hf0.2, hv.2, hv.1⟩)), (by exact nulS_fit (validB_t (b := x0) (by assumption)).1), trivial⟩ fun a w h => then_normal (wp_ret ?_)
  exact at_return ((spanB (D_impl_nullSpace x0.2 x0.1) x0.1), ()) [] h (by kernel_rfl) trivial (congrArg (fun z => (z, ())) (show ((spanB (D_impl_nullSpace x0.2 x0.1) x0.1)) = orthB x0 from by first | (unfold orthB; rw [if_pos (by assumption)]; done) | (unfold orthB; rw [if_pos (by assumption)]; rfl) | (unfold orthB; rw [if_neg (by simp_all)]; rfl)))

abbrev Q_impl_IntersectionOf := (fun (x0 : T60) (x1 : T60) => Sh.fit s60 x0 ∧ Sh.fit s60 x1)
def S_impl_IntersectionOf : Sum := { fid := 43, dom := [s60, s60], cod := [s60], dp := true, fz := false, pre := fun x => Q_impl_IntersectionOf x.1 x.2.1, g := fun x => ((intB x.1 x.2.1), ()) }
def S_impl_IntersectionOf_tab : List (Nat × Sum) := [(96, S_impl_sameWidth), (97, S_impl_NewBasis), (98, S_impl_OrthogonalSpace), (42, S_impl_SumOf)]
theorem S_impl_IntersectionOf_ok : FnOK Try.prog 43 S_impl_IntersectionOf := by
 refine at_enter 16 (fun x => ⟨[(0, aG [cI x.1.1, .ro s27 x.1.2]), (1, aG [cI x.2.1.1, .ro s27 x.2.1.2])], []⟩) Try.func43 rfl (by kernel_rfl) (fun x => rfl) ?_
 rintro w0 Z0 ⟨x0, x1, u⟩ a w
 revert x0 x1
 intro (x0 : T60) (x1 : T60) hpre hlens h
 replace hpre : Q_impl_IntersectionOf x0 x1 := hpre
 have hT : TabOK Try.prog S_impl_IntersectionOf_tab := (.cons S_impl_sameWidth_ok (.cons S_impl_NewBasis_ok (.cons S_impl_OrthogonalSpace_ok (.cons S_impl_SumOf_ok .nil))))
 obtain ⟨hf0, hf1⟩ := hpre
 have hn0_1 : List.length x0.2 ≤ 1073741824 := hf0.2.1
 have hn1_2 : List.length x1.2 ≤ 1073741824 := hf1.2.1
 refine wp_seq ?_
 refine at_regq [{ ids := [1] }, { ids := [2] }, { ids := [3] }] { ts := [2, 3, 4], os := [1, 2, 3] } [] gamOK hT h (by kernel_rfl) trivial fun a w h => then_normal (wp_seq (wp_seq ?_))
 refine at_regq [] { ts := [2, 3, 4, 8], os := [1, 2, 3] } [Q_impl_sameWidth x0 x1] gamOK hT h (by kernel_rfl) ⟨(by exact ⟨hf0, hf1⟩), trivial⟩ fun a w h => then_normal ?_
 refine at_test (!(sameW x0 x1)) h (by kernel_rfl) (fun h1 => ?_) (fun h1 => ?_)
 ·replace h1 : (sameW x0 x1) = false := notT h1
  refine wp_seq ?_
  refine at_regq [{ ids := [4] }] { ts := [2, 3, 4], os := [1, 2, 3, 4] } [True] gamOK hT h (by kernel_rfl) ⟨trivial, trivial⟩ fun a w h => then_normal (wp_ret (then_ret ?_))
  exact at_return ((newBas 0), ()) [] h (by kernel_rfl) trivial (congrArg (fun z => (z, ())) (show ((newBas 0)) = intB x0 x1 from by first | (unfold intB; rw [if_pos (by assumption)]; done) | (unfold intB; rw [if_neg (by simp_all)]; rfl)))
 ·replace h1 : (sameW x0 x1) = true := notF h1
  refine wp_skip (then_normal (wp_seq ?_))
  refine at_anyq [{}, { ids := [5] }, {}, { ids := [6] }, { ids := [7] }, { ids := [8] }, {}] { ts := [4], os := [3, 8] } [Q_impl_OrthogonalSpace x0, Q_impl_OrthogonalSpace x1, Q_impl_SumOf (orthB x0) (orthB x1), Q_impl_OrthogonalSpace (sumB (orthB x0) (orthB x1))] gamOK hT mixed h (by kernel_rfl) ⟨(by exact hf0), (by exact hf1), (by exact ⟨(basP_fit (orthB_P x0)), (basP_fit (orthB_P x1))⟩), (by exact (sumB_fit (basP_fit (orthB_P x0)))), trivial⟩ fun a w h => then_normal (wp_ret ?_)
  exact at_return ((orthB (sumB (orthB x0) (orthB x1))), ()) [] h (by kernel_rfl) trivial (congrArg (fun z => (z, ())) (show ((orthB (sumB (orthB x0) (orthB x1)))) = intB x0 x1 from by first | (unfold intB; rw [if_pos (by assumption)]; done) | (unfold intB; rw [if_neg (by simp_all)]; rfl)))

def and255 (z : Int) : Int := IntKind.i64.wrap ((BitVec.ofInt (IntKind.i64).bits z &&& BitVec.ofInt (IntKind.i64).bits 255).toNat : Int)
theorem and255_bd (z : Int) : 0 ≤ and255 z ∧ and255 z ≤ 255 := by
 unfold and255
 have e : (BitVec.ofInt (IntKind.i64).bits z &&& BitVec.ofInt (IntKind.i64).bits 255).toNat ≤ 255 := by
  rw [BitVec.toNat_and]
  have h2 : (BitVec.ofInt (IntKind.i64).bits 255).toNat = 255 := by decide
  rw [h2]; exact Nat.and_le_right
 rw [IntKind.wrap_i64]; omega
def lcgF (h : Int) : Int := IntKind.i64.wrap (IntKind.i64.wrap (h * 6364136223846793005) + 1442695040888963407)
def xorF (h : Int) : Int := IntKind.i64.wrap ((BitVec.ofInt (IntKind.i64).bits (Int.fdiv h (2 ^ (min (33 : Int).toNat (IntKind.i64).bits))) ^^^ BitVec.ofInt (IntKind.i64).bits (Int.fdiv h (2 ^ (min (47 : Int).toNat (IntKind.i64).bits)))).toNat : Int)
def hsF (h c : Int) : Int := IntKind.i64.wrap ((BitVec.ofInt (IntKind.i64).bits (IntKind.i64.wrap (IntKind.i64.wrap (IntKind.i64.wrap (h * 137) + c) + 11)) &&& BitVec.ofInt (IntKind.i64).bits 1073741823).toNat : Int)
def hsTo (code : List Int) : Nat → Int
 | 0 => 193017 + ((List.length code : Nat) : Int)
 | i + 1 => hsF (hsTo code i) (code.getD i 0)
def newC (code : List Int) : T109 := (code, 0, hsTo code (min (List.length code) 4000))
abbrev Q_spec_l1New := (fun (x0 : (List Int)) => Sh.fit s22 x0)
def B_spec_l1New : NS := { t := 109, s := s109, dom := [s22], pre := fun x => Q_spec_l1New x.1, g := fun x => (newC x.1) }
def S_spec_l1New : Sum := nSum 46 B_spec_l1New
def S_spec_l1New_tab : List (Nat × Sum) := []
theorem S_spec_l1New_ok : FnOK Try.prog 46 S_spec_l1New := by
 refine at_enterN (B := B_spec_l1New) 32 (fun x => ⟨[(0, aF (.u8 5) x.1)], []⟩) Try.func46 rfl (by kernel_rfl) (fun x => rfl) ?_
 rintro w0 Z0 ⟨x0, u⟩ a w
 revert x0
 intro (x0 : (List Int)) hpre hlens h
 replace h : At w0 Z0 [] 32 ⟨[(0, aF (.u8 5) x0)], []⟩ a w := h
 replace hpre : Q_spec_l1New x0 := hpre
 have hl1 : List.length x0 ≤ 9223372036854775807 := hlens.1.1
 have hu0 : u8L x0 := hlens.1.2
 have hT : TabOK Try.prog S_spec_l1New_tab := .nil
 have hf0 : Sh.fit s22 x0 := hpre
 have hn0_1 : List.length x0 ≤ 1073741824 := hf0.1
 refine wp_seq ?_
 refine at_regq [] { ts := [0, 2], os := [] } [] gamOK hT h (by kernel_rfl) trivial fun a w h => then_normal (wp_seq ?_)
 refine at_regq [{}, {}, { nw := true }] { ts := [0, 2, 3], os := [] } [I64 (193017 + ((List.length x0 : Nat) : Int))] gamOK hT h (by kernel_rfl) ⟨⟨by first | omega | (simp only [lsA]; omega) | (simp <;> omega), by first | omega | (simp only [lsA]; omega) | (simp <;> omega)⟩, trivial⟩ fun a w h => then_normal (wp_seq (wp_seq ?_))
 refine at_regq [] { ts := [0, 2, 3, 4], os := [] } [] gamOK hT h (by kernel_rfl) trivial fun a w h => then_normal (wp_block ?_)
 replace h := at_out (σ' := ⟨[(0, aF (.u8 5) x0), (2, .p (.c (.v (.pointer none)))), (3, aI (193017 + ((List.length x0 : Nat) : Int))), (4, aI 0)], []⟩) { ts := [0, 2, 3, 4], os := [] } h (by kernel_rfl)
 refine at_loop (fun i : Nat => (⟨[(0, aF (.u8 5) x0), (2, .p (.c (.v (.pointer none)))), (3, aI (hsTo x0 i)), (4, aI ((i : Nat) : Int))], []⟩ : St)) (fun i => i ≤ (min (List.length x0) 4000)) (fun i => (min (List.length x0) 4000) - i) (0) h (st_congr2 (fun (d0 : Int) (d1 : Int) => (⟨[(0, aF (.u8 5) x0), (2, .p (.c (.v (.pointer none)))), (3, aI d0), (4, aI d1)], []⟩ : St)) (show (193017 + ((List.length x0 : Nat) : Int) : Int) = (hsTo x0 (0)) from by first | with_reducible rfl | (rfl) | rfl) (show (0 : Int) = (((0) : Nat) : Int) from by first | with_reducible rfl | (rfl) | rfl)) (by omega) ?_
 intro i a w hok0 h
 have hu1 := getD_u8 hu0 i
 refine wp_seq (wp_seq ?_)
 by_cases h1 : ((i : Nat) : Int) < ((List.length x0 : Nat) : Int)
 ·refine at_regq [{}, {}, {}, { hint := some (aB true) }] { ts := [0, 2, 3, 4, 13, 14, 15], os := [] } [(AV.p (.c (.v (.bool (decide (((i : Nat) : Int) < ((List.length x0 : Nat) : Int)))))) = AV.p (.c (.v (.bool true))))] gamOK hT h (by kernel_rfl) ⟨hint_bool (decide_eq_true h1), trivial⟩ fun a w h => then_normal ?_
  refine at_test (decide (((i : Nat) : Int) < 4000)) h (by kernel_rfl) (fun h2 => ?_) (fun h2 => ?_)
  ·replace h2 : ((i : Nat) : Int) < 4000 := of_decide_eq_true h2
   refine wp_skip (then_normal (wp_seq (wp_block ?_)))
   refine at_regq [{}, {}, {}, {}, {}, {}, { hint := some (aI (x0.getD i 0)) }, {}, {}, { hint := some (aI (hsF (hsTo x0 i) (x0.getD i 0))) }] { ts := [0, 2, 3, 4, 13, 14], os := [] } [(0 : Int) ≤ ((i : Nat) : Int) ∧ ((i : Nat) : Int) < ((List.length x0 : Nat) : Int), (AV.p (.c (.v (.int .i64 (IntKind.i64.wrap ((x0.getD i 0)))))) = AV.p (.c (.v (.int .i64 ((x0.getD i 0)))))), (AV.p (.c (.v (.int .i64 (IntKind.i64.wrap ((BitVec.ofInt (IntKind.i64).bits (IntKind.i64.wrap ((IntKind.i64.wrap ((IntKind.i64.wrap ((hsTo x0 i) * 137)) + (x0.getD i 0))) + 11)) &&& BitVec.ofInt (IntKind.i64).bits 1073741823).toNat : Int))))) = AV.p (.c (.v (.int .i64 ((hsF (hsTo x0 i) (x0.getD i 0)))))))] gamOK hT h (by kernel_rfl) ⟨(by refine ⟨?_, ?_⟩ <;> (first | omega | (simp only [lsA]; omega) | (simp <;> omega))), hint_int (wrap_id ⟨by first | omega | (simp only [lsA]; omega) | (simp <;> omega), by first | omega | (simp only [lsA]; omega) | (simp <;> omega)⟩), hint_int (by rfl), trivial⟩ fun a w h => in_normal (then_normal ?_)
   refine at_regq [{}, { nw := true }] { ts := [0, 2, 3, 4, 13, 14], os := [] } [I64 (((i : Nat) : Int) + 1)] gamOK hT h (by kernel_rfl) ⟨⟨by first | omega | (simp only [lsA]; omega) | (simp <;> omega), by first | omega | (simp only [lsA]; omega) | (simp <;> omega)⟩, trivial⟩ fun a w h => ?_
   replace h := at_out (σ' := ⟨[(0, aF (.u8 5) x0), (2, .p (.c (.v (.pointer none)))), (3, aI (hsF (hsTo x0 i) (x0.getD i 0))), (4, aI (((i : Nat) : Int) + 1))], []⟩) { ts := [0, 2, 3, 4], os := [] } h (by kernel_rfl)
   exact ⟨i + 1, at_eq h (st_congr2 (fun (d0 : Int) (d1 : Int) => (⟨[(0, aF (.u8 5) x0), (2, .p (.c (.v (.pointer none)))), (3, aI d0), (4, aI d1)], []⟩ : St)) (show ((hsF (hsTo x0 i) (x0.getD i 0)) : Int) = (hsTo x0 (i + 1)) from by first | with_reducible rfl | (rfl) | rfl) (show (((i : Nat) : Int) + 1 : Int) = (((i + 1) : Nat) : Int) from by first | with_reducible rfl | (omega) | rfl)), (by omega), (by omega)⟩
  ·replace h2 : ¬ (((i : Nat) : Int) < 4000) := of_decide_eq_false h2
   refine wp_exit (then_exit ?_)
   replace h := at_out (σ' := ⟨[(0, aF (.u8 5) x0), (2, .p (.c (.v (.pointer none)))), (3, aI (hsTo x0 i))], []⟩) { ts := [0, 2, 3], os := [] } h (by kernel_rfl)
   replace h := at_eq (σ' := ⟨[(0, aF (.u8 5) x0), (2, .p (.c (.v (.pointer none)))), (3, aI (hsTo x0 (min (List.length x0) 4000)))], []⟩) h (st_congr1 (fun (d0 : Int) => (⟨[(0, aF (.u8 5) x0), (2, .p (.c (.v (.pointer none)))), (3, aI d0)], []⟩ : St)) (show ((hsTo x0 i) : Int) = (hsTo x0 (min (List.length x0) 4000)) from by first | with_reducible rfl | (rw [show i = (min (List.length x0) 4000) by omega]) | rfl))
   refine then_exit (in_hit (then_normal (wp_seq ?_)))
   refine at_regq [{}, {}, {}, { ids := [1] }] { ts := [2], os := [1] } [] gamOK hT h (by kernel_rfl) trivial fun a w h => then_normal (wp_ret ?_)
   exact at_returnN (B := B_spec_l1New) (x := (x0, ())) ((x0, (0, (hsTo x0 (min (List.length x0) 4000))))) [] h (by kernel_rfl) trivial (show (x0, (0, (hsTo x0 (min (List.length x0) 4000)))) = newC x0 from by rfl)
 ·refine at_regq [{}, {}, {}, { hint := some (aB false) }] { ts := [0, 2, 3, 4, 13, 14, 15], os := [] } [(AV.p (.c (.v (.bool (decide (((i : Nat) : Int) < ((List.length x0 : Nat) : Int)))))) = AV.p (.c (.v (.bool false))))] gamOK hT h (by kernel_rfl) ⟨hint_bool (decide_eq_false h1), trivial⟩ fun a w h => then_normal ?_
  refine at_test false h (by kernel_rfl) (fun hh => nomatch hh) (fun hh => ?_)
  refine wp_exit (then_exit ?_)
  replace h := at_out (σ' := ⟨[(0, aF (.u8 5) x0), (2, .p (.c (.v (.pointer none)))), (3, aI (hsTo x0 i))], []⟩) { ts := [0, 2, 3], os := [] } h (by kernel_rfl)
  replace h := at_eq (σ' := ⟨[(0, aF (.u8 5) x0), (2, .p (.c (.v (.pointer none)))), (3, aI (hsTo x0 (min (List.length x0) 4000)))], []⟩) h (st_congr1 (fun (d0 : Int) => (⟨[(0, aF (.u8 5) x0), (2, .p (.c (.v (.pointer none)))), (3, aI d0)], []⟩ : St)) (show ((hsTo x0 i) : Int) = (hsTo x0 (min (List.length x0) 4000)) from by first | with_reducible rfl | (rw [show i = (min (List.length x0) 4000) by omega]) | rfl))
  refine then_exit (in_hit (then_normal (wp_seq ?_)))
  refine at_regq [{}, {}, {}, { ids := [1] }] { ts := [2], os := [1] } [] gamOK hT h (by kernel_rfl) trivial fun a w h => then_normal (wp_ret ?_)
  exact at_returnN (B := B_spec_l1New) (x := (x0, ())) ((x0, (0, (hsTo x0 (min (List.length x0) 4000))))) [] h (by kernel_rfl) trivial (show (x0, (0, (hsTo x0 (min (List.length x0) 4000)))) = newC x0 from by rfl)

@[irreducible]
def byteC (x0 : T109) : T109 × Int := (if x0.2.1 < ((List.length x0.1 : Nat) : Int) then ((x0.1, (x0.2.1 + 1, (lcgF x0.2.2))), (and255 (and255 (xorF (lcgF x0.2.2)) + x0.1.getD x0.2.1.toNat 0))) else ((x0.1, (x0.2.1, (lcgF x0.2.2))), (and255 (xorF (lcgF x0.2.2)))))
abbrev Q_spec_l1Byte := (fun (x0 : T109) => 0 ≤ x0.2.1)
def B_spec_l1Byte : BS := { t := 109, s := s109, dom := [], cod := [(.int 3)], pre := fun y x => Q_spec_l1Byte y, upd := fun y x => (byteC y).1, g := fun y x => ((byteC y).2, ()) }
def S_spec_l1Byte : Sum := bSum 119 B_spec_l1Byte
def S_spec_l1Byte_tab : List (Nat × Sum) := []
theorem S_spec_l1Byte_ok : FnOK Try.prog 119 S_spec_l1Byte := by
 refine at_enterB (B := B_spec_l1Byte) 58 (fun v y x => ⟨[(0, aP 1 0)], [(1, oX 109 [.ro (.u8 5) y.1, cI y.2.1, cI y.2.2]), (2, oP 1 v)]⟩) Try.func119 rfl (by kernel_rfl) (fun v y x => rfl) ?_
 rintro w0 Z0 b0 x0 ⟨u⟩ a w
 revert x0
 intro (x0 : T109) hpre hlens0 hlens h
 replace h : At w0 Z0 [b0] 58 ⟨[(0, aP 1 0)], [(1, oX 109 [.ro (.u8 5) x0.1, cI x0.2.1, cI x0.2.2]), (2, oP 1 (Value.pointer (some ⟨b0, 0, none⟩)))]⟩ a w := h
 replace hpre : Q_spec_l1Byte x0 := hpre
 have hl1 : List.length x0.1 ≤ 9223372036854775807 := hlens0.1.1
 have hu0 : u8L x0.1 := hlens0.1.2
 have hT : TabOK Try.prog S_spec_l1Byte_tab := .nil
 have hp : (0 : Int) ≤ x0.2.1 := hpre
 refine wp_seq ?_
 refine at_regq [] { ts := [0, 2], os := [1, 2] } [] gamOK hT h (by kernel_rfl) trivial fun a w h => then_normal (wp_seq ?_)
 refine at_regq [{}, {}, {}, {}, {}, {}, { hint := some (aI (lcgF x0.2.2)) }] { ts := [0, 2], os := [1, 2] } [(AV.p (.c (.v (.int .i64 (IntKind.i64.wrap ((IntKind.i64.wrap (x0.2.2 * 6364136223846793005)) + 1442695040888963407))))) = AV.p (.c (.v (.int .i64 ((lcgF x0.2.2))))))] gamOK hT h (by kernel_rfl) ⟨hint_int (by rfl), trivial⟩ fun a w h => then_normal (wp_seq ?_)
 refine at_anyq [{}, {}, {}, {}, {}, {}, {}, {}, {}, {}, { hint := some (aI (xorF (lcgF x0.2.2))) }, { hint := some (aI (and255 (xorF (lcgF x0.2.2)))) }, {}] { ts := [0, 2, 3], os := [1, 2] } [(0 : Int) ≤ 33, (0 : Int) ≤ 47, (AV.p (.c (.v (.int .i64 (IntKind.i64.wrap ((BitVec.ofInt (IntKind.i64).bits (Int.fdiv (lcgF x0.2.2) (2 ^ (min (33 : Int).toNat (IntKind.i64).bits))) ^^^ BitVec.ofInt (IntKind.i64).bits (Int.fdiv (lcgF x0.2.2) (2 ^ (min (47 : Int).toNat (IntKind.i64).bits)))).toNat : Int))))) = AV.p (.c (.v (.int .i64 ((xorF (lcgF x0.2.2))))))), (AV.p (.c (.v (.int .i64 (IntKind.i64.wrap ((BitVec.ofInt (IntKind.i64).bits (xorF (lcgF x0.2.2)) &&& BitVec.ofInt (IntKind.i64).bits 255).toNat : Int))))) = AV.p (.c (.v (.int .i64 ((and255 (xorF (lcgF x0.2.2))))))))] gamOK hT mixed h (by kernel_rfl) ⟨(by first | omega | (simp only [lsA]; omega) | (simp <;> omega)), (by first | omega | (simp only [lsA]; omega) | (simp <;> omega)), hint_int (by rfl), hint_int (by rfl), trivial⟩ fun a w h => then_normal (wp_seq (wp_seq ?_))
 refine at_anyq [{}, {}, {}, {}, {}, {}, {}, {}, {}, {}] { ts := [0, 2, 3, 34], os := [1, 2] } [] gamOK hT mixed h (by kernel_rfl) trivial fun a w h => then_normal ?_
 refine at_test (decide (x0.2.1 < ((List.length x0.1 : Nat) : Int))) h (by kernel_rfl) (fun h1 => ?_) (fun h1 => ?_)
 ·replace h1 : x0.2.1 < ((List.length x0.1 : Nat) : Int) := of_decide_eq_true h1
  have hu1 := getD_u8 hu0 x0.2.1.toNat
  have ha1 := and255_bd (xorF (lcgF x0.2.2))
  refine wp_seq ?_
  refine at_anyq [{}, {}, {}, {}, {}, {}, {}, {}, {}, {}, {}, { hint := some (aI (x0.1.getD ((x0.2.1).toNat) 0)) }, { nw := true }, { hint := some (aI (and255 (and255 (xorF (lcgF x0.2.2)) + x0.1.getD x0.2.1.toNat 0))) }, {}] { ts := [0, 2, 3], os := [1, 2] } [(0 : Int) ≤ x0.2.1 ∧ x0.2.1 < ((List.length x0.1 : Nat) : Int), (AV.p (.c (.v (.int .i64 (IntKind.i64.wrap ((x0.1.getD ((x0.2.1).toNat) 0)))))) = AV.p (.c (.v (.int .i64 ((x0.1.getD ((x0.2.1).toNat) 0)))))), I64 ((and255 (xorF (lcgF x0.2.2))) + (x0.1.getD ((x0.2.1).toNat) 0)), (AV.p (.c (.v (.int .i64 (IntKind.i64.wrap ((BitVec.ofInt (IntKind.i64).bits ((and255 (xorF (lcgF x0.2.2))) + (x0.1.getD ((x0.2.1).toNat) 0)) &&& BitVec.ofInt (IntKind.i64).bits 255).toNat : Int))))) = AV.p (.c (.v (.int .i64 ((and255 (and255 (xorF (lcgF x0.2.2)) + x0.1.getD x0.2.1.toNat 0)))))))] gamOK hT mixed h (by kernel_rfl) ⟨(by refine ⟨?_, ?_⟩ <;> (first | omega | (simp only [lsA]; omega) | (simp <;> omega))), hint_int (wrap_id ⟨by first | omega | (simp only [lsA]; omega) | (simp <;> omega), by first | omega | (simp only [lsA]; omega) | (simp <;> omega)⟩), ⟨by first | omega | (simp only [lsA]; omega) | (simp <;> omega), by first | omega | (simp only [lsA]; omega) | (simp <;> omega)⟩, hint_int (by rfl), trivial⟩ fun a w h => then_normal ?_
  refine at_regq [{}, {}, {}, {}, {}, { nw := true }] { ts := [2, 3], os := [1, 2] } [I64 (x0.2.1 + 1)] gamOK hT h (by kernel_rfl) ⟨⟨by first | omega | (simp only [lsA]; omega) | (simp <;> omega), by first | omega | (simp only [lsA]; omega) | (simp <;> omega)⟩, trivial⟩ fun a w h => then_normal (wp_seq ?_)
  refine at_regq [] { ts := [2], os := [1, 2] } [] gamOK hT h (by kernel_rfl) trivial fun a w h => then_normal (wp_ret ?_)
  have hr2 : (((x0.1, (x0.2.1 + 1, (lcgF x0.2.2))), (and255 (and255 (xorF (lcgF x0.2.2)) + x0.1.getD x0.2.1.toNat 0))) : T109 × Int) = byteC x0 := by (unfold byteC; rw [if_pos h1])
  exact at_returnB (B := B_spec_l1Byte) (c0 := x0) (x := (())) ((x0.1, (x0.2.1 + 1, (lcgF x0.2.2)))) ((and255 (and255 (xorF (lcgF x0.2.2)) + x0.1.getD x0.2.1.toNat 0)), ()) [(Value.pointer (some ⟨b0, 0, none⟩)) = (Value.pointer (some ⟨b0, 0, none⟩))] h (by kernel_rfl) ⟨rfl, trivial⟩ (congrArg (a₁ := ((x0.1, (x0.2.1 + 1, (lcgF x0.2.2))), (and255 (and255 (xorF (lcgF x0.2.2)) + x0.1.getD x0.2.1.toNat 0)))) (a₂ := byteC x0) (fun (z : T109 × Int) => z.1) hr2) (congrArg (a₁ := ((x0.1, (x0.2.1 + 1, (lcgF x0.2.2))), (and255 (and255 (xorF (lcgF x0.2.2)) + x0.1.getD x0.2.1.toNat 0)))) (a₂ := byteC x0) (fun (z : T109 × Int) => (z.2, ())) hr2)
 ·replace h1 : ¬ (x0.2.1 < ((List.length x0.1 : Nat) : Int)) := of_decide_eq_false h1
  refine wp_skip (then_normal (wp_seq ?_))
  refine at_regq [] { ts := [2], os := [1, 2] } [] gamOK hT h (by kernel_rfl) trivial fun a w h => then_normal (wp_ret ?_)
  have hr3 : (((x0.1, (x0.2.1, (lcgF x0.2.2))), (and255 (xorF (lcgF x0.2.2)))) : T109 × Int) = byteC x0 := by (unfold byteC; rw [if_neg h1])
  exact at_returnB (B := B_spec_l1Byte) (c0 := x0) (x := (())) ((x0.1, (x0.2.1, (lcgF x0.2.2)))) ((and255 (xorF (lcgF x0.2.2))), ()) [(Value.pointer (some ⟨b0, 0, none⟩)) = (Value.pointer (some ⟨b0, 0, none⟩))] h (by kernel_rfl) ⟨rfl, trivial⟩ (congrArg (a₁ := ((x0.1, (x0.2.1, (lcgF x0.2.2))), (and255 (xorF (lcgF x0.2.2))))) (a₂ := byteC x0) (fun (z : T109 × Int) => z.1) hr3) (congrArg (a₁ := ((x0.1, (x0.2.1, (lcgF x0.2.2))), (and255 (xorF (lcgF x0.2.2))))) (a₂ := byteC x0) (fun (z : T109 × Int) => (z.2, ())) hr3)
theorem byte_bd (x : T109) : 0 ≤ (byteC x).2 ∧ (byteC x).2 ≤ 255 := by
 unfold byteC; split <;> exact and255_bd _
theorem byte_ok {x : T109} (h : 0 ≤ x.2.1) : 0 ≤ (byteC x).1.2.1 := by
 unfold byteC; split
 ·show (0 : Int) ≤ x.2.1 + 1; omega
 ·exact h

@[irreducible]
def belowC (x0 : T109) (x1 : Int) : T109 × Int := (if x1 ≤ 0 then (x0, 0) else (if x1 ≤ 256 then ((byteC x0).1, (Int.tmod (byteC x0).2 x1)) else ((byteC (byteC (byteC x0).1).1).1, (Int.tmod ((((byteC x0).2 * 65536) + ((byteC (byteC x0).1).2 * 256)) + (byteC (byteC (byteC x0).1).1).2) x1))))
abbrev Q_spec_l1Below := (fun (x0 : T109) (x1 : Int) => 0 ≤ x0.2.1)
def B_spec_l1Below : BS := { t := 109, s := s109, dom := [(.int 3)], cod := [(.int 3)], pre := fun y x => Q_spec_l1Below y x.1, upd := fun y x => (belowC y x.1).1, g := fun y x => ((belowC y x.1).2, ()) }
def S_spec_l1Below : Sum := bSum 73 B_spec_l1Below
def S_spec_l1Below_tab : List (Nat × Sum) := [(119, S_spec_l1Byte)]
theorem S_spec_l1Below_ok : FnOK Try.prog 73 S_spec_l1Below := by
 refine at_enterB (B := B_spec_l1Below) 31 (fun v y x => ⟨[(0, aP 1 0), (1, aI x.1)], [(1, oX 109 [.ro (.u8 5) y.1, cI y.2.1, cI y.2.2]), (2, oP 1 v)]⟩) Try.func73 rfl (by kernel_rfl) (fun v y x => rfl) ?_
 rintro w0 Z0 b0 x0 ⟨x1, u⟩ a w
 revert x0 x1
 intro (x0 : T109) (x1 : Int) hpre hlens0 hlens h
 replace h : At w0 Z0 [b0] 31 ⟨[(0, aP 1 0), (1, aI x1)], [(1, oX 109 [.ro (.u8 5) x0.1, cI x0.2.1, cI x0.2.2]), (2, oP 1 (Value.pointer (some ⟨b0, 0, none⟩)))]⟩ a w := h
 replace hpre : Q_spec_l1Below x0 x1 := hpre
 have hl1 : List.length x0.1 ≤ 9223372036854775807 := hlens0.1.1
 have hu0 : u8L x0.1 := hlens0.1.2
 have hT : TabOK Try.prog S_spec_l1Below_tab := (.cons S_spec_l1Byte_ok .nil)
 have hb1 := byte_ok hpre
 have hb2 := byte_ok hb1
 have hb3 := byte_ok hb2
 have hd1 := byte_bd x0
 have hd2 := byte_bd (byteC x0).1
 have hd3 := byte_bd (byteC (byteC x0).1).1
 refine wp_seq ?_
 refine at_regq [] { ts := [0, 1, 4], os := [1, 2] } [] gamOK hT h (by kernel_rfl) trivial fun a w h => then_normal (wp_seq (wp_seq ?_))
 refine at_regq [] { ts := [0, 1, 4, 9], os := [1, 2] } [] gamOK hT h (by kernel_rfl) trivial fun a w h => then_normal ?_
 refine at_test (decide (x1 ≤ 0)) h (by kernel_rfl) (fun h1 => ?_) (fun h1 => ?_)
 ·replace h1 : x1 ≤ 0 := of_decide_eq_true h1
  refine wp_seq ?_
  refine at_regq [] { ts := [0, 1, 4], os := [1, 2] } [] gamOK hT h (by kernel_rfl) trivial fun a w h => then_normal (wp_ret (then_ret ?_))
  have hr2 : ((x0, 0) : T109 × Int) = belowC x0 x1 := by (unfold belowC; rw [if_pos h1])
  exact at_returnB (B := B_spec_l1Below) (c0 := x0) (x := (x1, ())) (x0) (0, ()) [(Value.pointer (some ⟨b0, 0, none⟩)) = (Value.pointer (some ⟨b0, 0, none⟩))] h (by kernel_rfl) ⟨rfl, trivial⟩ (congrArg (a₁ := (x0, 0)) (a₂ := belowC x0 x1) (fun (z : T109 × Int) => z.1) hr2) (congrArg (a₁ := (x0, 0)) (a₂ := belowC x0 x1) (fun (z : T109 × Int) => (z.2, ())) hr2)
 ·replace h1 : ¬ (x1 ≤ 0) := of_decide_eq_false h1
  refine wp_skip (then_normal (wp_seq (wp_seq ?_)))
  refine at_regq [] { ts := [0, 1, 4, 11], os := [1, 2] } [] gamOK hT h (by kernel_rfl) trivial fun a w h => then_normal ?_
  refine at_test (decide (x1 ≤ 256)) h (by kernel_rfl) (fun h3 => ?_) (fun h3 => ?_)
  ·replace h3 : x1 ≤ 256 := of_decide_eq_true h3
   refine wp_seq ?_
   refine at_regq [] { ts := [0, 1, 4], os := [1, 2] } [B_spec_l1Byte.pre x0 (()), (x1 : Int) ≠ 0] gamOK hT h (by kernel_rfl) ⟨(by first | exact hpre | exact hb1 | exact hb2 | exact hb3), (by first | omega | (simp only [lsA]; omega) | (simp <;> omega)), trivial⟩ fun a w h => then_normal (wp_ret (then_ret ?_))
   have hr4 : (((byteC x0).1, (Int.tmod (byteC x0).2 x1)) : T109 × Int) = belowC x0 x1 := by (unfold belowC; rw [if_neg h1, if_pos h3])
   exact at_returnB (B := B_spec_l1Below) (c0 := x0) (x := (x1, ())) ((byteC x0).1) ((Int.tmod (byteC x0).2 x1), ()) [(Value.pointer (some ⟨b0, 0, none⟩)) = (Value.pointer (some ⟨b0, 0, none⟩))] h (by kernel_rfl) ⟨rfl, trivial⟩ (congrArg (a₁ := ((byteC x0).1, (Int.tmod (byteC x0).2 x1))) (a₂ := belowC x0 x1) (fun (z : T109 × Int) => z.1) hr4) (congrArg (a₁ := ((byteC x0).1, (Int.tmod (byteC x0).2 x1))) (a₂ := belowC x0 x1) (fun (z : T109 × Int) => (z.2, ())) hr4)
  ·replace h3 : ¬ (x1 ≤ 256) := of_decide_eq_false h3
   refine wp_skip (then_normal (wp_seq ?_))
   refine at_regq [] { ts := [0, 1, 4, 5], os := [1, 2] } [B_spec_l1Byte.pre x0 (())] gamOK hT h (by kernel_rfl) ⟨(by first | exact hpre | exact hb1 | exact hb2 | exact hb3), trivial⟩ fun a w h => then_normal (wp_seq ?_)
   refine at_regq [] { ts := [0, 1, 4, 5, 6], os := [1, 2] } [B_spec_l1Byte.pre (byteC x0).1 (())] gamOK hT h (by kernel_rfl) ⟨(by first | exact hpre | exact hb1 | exact hb2 | exact hb3), trivial⟩ fun a w h => then_normal (wp_seq ?_)
   refine at_regq [] { ts := [1, 4, 5, 6, 7], os := [1, 2] } [B_spec_l1Byte.pre (byteC (byteC x0).1).1 (())] gamOK hT h (by kernel_rfl) ⟨(by first | exact hpre | exact hb1 | exact hb2 | exact hb3), trivial⟩ fun a w h => then_normal (wp_seq ?_)
   refine at_regq [{}, { nw := true }, {}, { nw := true }, { nw := true }, {}, { nw := true }] { ts := [4], os := [1, 2] } [I64 ((byteC x0).2 * 65536), I64 ((byteC (byteC x0).1).2 * 256), I64 (((byteC x0).2 * 65536) + ((byteC (byteC x0).1).2 * 256)), I64 ((((byteC x0).2 * 65536) + ((byteC (byteC x0).1).2 * 256)) + (byteC (byteC (byteC x0).1).1).2), (x1 : Int) ≠ 0] gamOK hT h (by kernel_rfl) ⟨⟨by first | omega | (simp only [lsA]; omega) | (simp <;> omega), by first | omega | (simp only [lsA]; omega) | (simp <;> omega)⟩, ⟨by first | omega | (simp only [lsA]; omega) | (simp <;> omega), by first | omega | (simp only [lsA]; omega) | (simp <;> omega)⟩, ⟨by first | omega | (simp only [lsA]; omega) | (simp <;> omega), by first | omega | (simp only [lsA]; omega) | (simp <;> omega)⟩, ⟨by first | omega | (simp only [lsA]; omega) | (simp <;> omega), by first | omega | (simp only [lsA]; omega) | (simp <;> omega)⟩, (by first | omega | (simp only [lsA]; omega) | (simp <;> omega)), trivial⟩ fun a w h => then_normal (wp_ret ?_)
   have hr5 : (((byteC (byteC (byteC x0).1).1).1, (Int.tmod ((((byteC x0).2 * 65536) + ((byteC (byteC x0).1).2 * 256)) + (byteC (byteC (byteC x0).1).1).2) x1)) : T109 × Int) = belowC x0 x1 := by (unfold belowC; rw [if_neg h1, if_neg h3])
   exact at_returnB (B := B_spec_l1Below) (c0 := x0) (x := (x1, ())) ((byteC (byteC (byteC x0).1).1).1) ((Int.tmod ((((byteC x0).2 * 65536) + ((byteC (byteC x0).1).2 * 256)) + (byteC (byteC (byteC x0).1).1).2) x1), ()) [(Value.pointer (some ⟨b0, 0, none⟩)) = (Value.pointer (some ⟨b0, 0, none⟩))] h (by kernel_rfl) ⟨rfl, trivial⟩ (congrArg (a₁ := ((byteC (byteC (byteC x0).1).1).1, (Int.tmod ((((byteC x0).2 * 65536) + ((byteC (byteC x0).1).2 * 256)) + (byteC (byteC (byteC x0).1).1).2) x1))) (a₂ := belowC x0 x1) (fun (z : T109 × Int) => z.1) hr5) (congrArg (a₁ := ((byteC (byteC (byteC x0).1).1).1, (Int.tmod ((((byteC x0).2 * 65536) + ((byteC (byteC x0).1).2 * 256)) + (byteC (byteC (byteC x0).1).1).2) x1))) (a₂ := belowC x0 x1) (fun (z : T109 × Int) => (z.2, ())) hr5)
theorem below_ok {x : T109} {n : Int} (h : 0 ≤ x.2.1) : 0 ≤ (belowC x n).1.2.1 := by
 unfold belowC
 split
 ·exact h
 ·split
  ·exact byte_ok h
  ·exact byte_ok (byte_ok (byte_ok h))
theorem below_bd (x : T109) {n : Int} (h : 0 < n) : 0 ≤ (belowC x n).2 ∧ (belowC x n).2 < n := by
 unfold belowC
 rw [if_neg (by omega)]
 have hd1 := byte_bd x; have hd2 := byte_bd (byteC x).1; have hd3 := byte_bd (byteC (byteC x).1).1
 split
 ·exact LA.tmod_lt hd1.1 h
 ·exact LA.tmod_lt (by first | omega | (dsimp only; omega)) h

def onceC (x0 : T109) (x1 : Int) : T109 × Bool := ((belowC x0 x1).1, decide ((belowC x0 x1).2 = 0))
abbrev Q_spec_l1Once := (fun (x0 : T109) (x1 : Int) => 0 ≤ x0.2.1)
def B_spec_l1Once : BS := { t := 109, s := s109, dom := [(.int 3)], cod := [(.bool 4)], pre := fun y x => Q_spec_l1Once y x.1, upd := fun y x => (onceC y x.1).1, g := fun y x => ((onceC y x.1).2, ()) }
def S_spec_l1Once : Sum := bSum 121 B_spec_l1Once
def S_spec_l1Once_tab : List (Nat × Sum) := [(73, S_spec_l1Below)]
theorem S_spec_l1Once_ok : FnOK Try.prog 121 S_spec_l1Once := by
 refine at_enterB (B := B_spec_l1Once) 9 (fun v y x => ⟨[(0, aP 1 0), (1, aI x.1)], [(1, oX 109 [.ro (.u8 5) y.1, cI y.2.1, cI y.2.2]), (2, oP 1 v)]⟩) Try.func121 rfl (by kernel_rfl) (fun v y x => rfl) ?_
 rintro w0 Z0 b0 x0 ⟨x1, u⟩ a w
 revert x0 x1
 intro (x0 : T109) (x1 : Int) hpre hlens0 hlens h
 replace h : At w0 Z0 [b0] 9 ⟨[(0, aP 1 0), (1, aI x1)], [(1, oX 109 [.ro (.u8 5) x0.1, cI x0.2.1, cI x0.2.2]), (2, oP 1 (Value.pointer (some ⟨b0, 0, none⟩)))]⟩ a w := h
 replace hpre : Q_spec_l1Once x0 x1 := hpre
 have hl1 : List.length x0.1 ≤ 9223372036854775807 := hlens0.1.1
 have hu0 : u8L x0.1 := hlens0.1.2
 have hT : TabOK Try.prog S_spec_l1Once_tab := (.cons S_spec_l1Below_ok .nil)
 refine wp_seq ?_
 refine at_regq [] { ts := [0, 1, 4], os := [1, 2] } [] gamOK hT h (by kernel_rfl) trivial fun a w h => then_normal (wp_seq ?_)
 refine at_regq [] { ts := [4], os := [1, 2] } [B_spec_l1Below.pre x0 (x1, ())] gamOK hT h (by kernel_rfl) ⟨(by exact hpre), trivial⟩ fun a w h => then_normal (wp_ret ?_)
 have hr1 : (((belowC x0 x1).1, decide ((belowC x0 x1).2 = 0)) : T109 × Bool) = onceC x0 x1 := by rfl
 exact at_returnB (B := B_spec_l1Once) (c0 := x0) (x := (x1, ())) ((belowC x0 x1).1) (decide ((belowC x0 x1).2 = 0), ()) [(Value.pointer (some ⟨b0, 0, none⟩)) = (Value.pointer (some ⟨b0, 0, none⟩))] h (by kernel_rfl) ⟨rfl, trivial⟩ (congrArg (a₁ := ((belowC x0 x1).1, decide ((belowC x0 x1).2 = 0))) (a₂ := onceC x0 x1) (fun (z : T109 × Bool) => z.1) hr1) (congrArg (a₁ := ((belowC x0 x1).1, decide ((belowC x0 x1).2 = 0))) (a₂ := onceC x0 x1) (fun (z : T109 × Bool) => (z.2, ())) hr1)
theorem once_ok {x : T109} {n : Int} (h : 0 ≤ x.2.1) : 0 ≤ (onceC x n).1.2.1 := below_ok h

def bigF (x0 : (List Int)) : Bool := decide (((List.length x0 : Nat) : Int) > 1048576)
def S_laws_big : Sum := { fid := 8, dom := [s22], cod := [(.bool 4)], dp := true, fz := false, pre := fun x => True, g := fun x => ((bigF x.1), ()) }
def S_laws_big_tab : List (Nat × Sum) := []
theorem S_laws_big_ok : FnOK Try.prog 8 S_laws_big := by
 refine at_enter 6 (fun x => ⟨[(0, aF (.u8 5) x.1)], []⟩) Try.func8 rfl (by kernel_rfl) (fun x => rfl) ?_
 rintro w0 Z0 ⟨x0, u⟩ a w
 revert x0
 intro (x0 : (List Int)) hpre hlens h
 have hl1 : List.length x0 ≤ 9223372036854775807 := hlens.1.1
 have hu0 : u8L x0 := hlens.1.2
 have hT : TabOK Try.prog S_laws_big_tab := .nil
 refine wp_seq ?_
 refine at_regq [] { ts := [0, 2], os := [] } [] gamOK hT h (by kernel_rfl) trivial fun a w h => then_normal (wp_seq ?_)
 refine at_regq [] { ts := [2], os := [] } [] gamOK hT h (by kernel_rfl) trivial fun a w h => then_normal (wp_ret ?_)
 exact at_return (decide (((List.length x0 : Nat) : Int) > 1048576), ()) [] h (by kernel_rfl) trivial (congrArg (fun z => (z, ())) (show (decide (((List.length x0 : Nat) : Int) > 1048576)) = bigF x0 from by rfl))
theorem big_f {x : List Int} (h : bigF x = false) : List.length x ≤ 1048576 := by
 have := of_decide_eq_false h; omega

def elemC (x0 : T109) : T109 × Int := ((belowC x0 1019).1, (belowC x0 1019).2)
abbrev Q_spec_l4Element := (fun (x0 : T109) => 0 ≤ x0.2.1)
def B_spec_l4Element : BS := { t := 109, s := s109, dom := [], cod := [(.int 3)], pre := fun y x => Q_spec_l4Element y, upd := fun y x => (elemC y).1, g := fun y x => ((elemC y).2, ()) }
def S_spec_l4Element : Sum := bSum 134 B_spec_l4Element
def S_spec_l4Element_tab : List (Nat × Sum) := [(73, S_spec_l1Below)]
theorem S_spec_l4Element_ok : FnOK Try.prog 134 S_spec_l4Element := by
 refine at_enterB (B := B_spec_l4Element) 5 (fun v y x => ⟨[(0, aP 1 0)], [(1, oX 109 [.ro (.u8 5) y.1, cI y.2.1, cI y.2.2]), (2, oP 1 v)]⟩) Try.func134 rfl (by kernel_rfl) (fun v y x => rfl) ?_
 rintro w0 Z0 b0 x0 ⟨u⟩ a w
 revert x0
 intro (x0 : T109) hpre hlens0 hlens h
 replace h : At w0 Z0 [b0] 5 ⟨[(0, aP 1 0)], [(1, oX 109 [.ro (.u8 5) x0.1, cI x0.2.1, cI x0.2.2]), (2, oP 1 (Value.pointer (some ⟨b0, 0, none⟩)))]⟩ a w := h
 replace hpre : Q_spec_l4Element x0 := hpre
 have hl1 : List.length x0.1 ≤ 9223372036854775807 := hlens0.1.1
 have hu0 : u8L x0.1 := hlens0.1.2
 have hT : TabOK Try.prog S_spec_l4Element_tab := (.cons S_spec_l1Below_ok .nil)
 refine wp_seq ?_
 refine at_regq [] { ts := [0, 2], os := [1, 2] } [] gamOK hT h (by kernel_rfl) trivial fun a w h => then_normal (wp_seq ?_)
 refine at_regq [] { ts := [2], os := [1, 2] } [B_spec_l1Below.pre x0 (1019, ())] gamOK hT h (by kernel_rfl) ⟨(by exact hpre), trivial⟩ fun a w h => then_normal (wp_ret ?_)
 have hr1 : (((belowC x0 1019).1, (belowC x0 1019).2) : T109 × Int) = elemC x0 := by rfl
 exact at_returnB (B := B_spec_l4Element) (c0 := x0) (x := (())) ((belowC x0 1019).1) ((belowC x0 1019).2, ()) [(Value.pointer (some ⟨b0, 0, none⟩)) = (Value.pointer (some ⟨b0, 0, none⟩))] h (by kernel_rfl) ⟨rfl, trivial⟩ (congrArg (a₁ := ((belowC x0 1019).1, (belowC x0 1019).2)) (a₂ := elemC x0) (fun (z : T109 × Int) => z.1) hr1) (congrArg (a₁ := ((belowC x0 1019).1, (belowC x0 1019).2)) (a₂ := elemC x0) (fun (z : T109 × Int) => (z.2, ())) hr1)
theorem elem_ok {x : T109} (h : 0 ≤ x.2.1) : 0 ≤ (elemC x).1.2.1 := below_ok h
theorem elem_bd (x : T109) : LA.El (elemC x).2 := by have := below_bd x (n := 1019) (by decide); show 0 ≤ _ ∧ _ ≤ 1018; unfold elemC; dsimp only; omega
def vecS (q : T109 × List Int) : T109 × List Int := if (onceC q.1 3).2 = true then ((onceC q.1 3).1, q.2 ++ [0]) else ((elemC (onceC q.1 3).1).1, q.2 ++ [(elemC (onceC q.1 3).1).2])
def vecIt (x : T109) : Nat → T109 × List Int
 | 0 => (x, [])
 | i + 1 => vecS (vecIt x i)
theorem vecIt_y {x : T109} {i : Nat} (h : (onceC (vecIt x i).1 3).2 = true) : vecIt x (i + 1) = ((onceC (vecIt x i).1 3).1, (vecIt x i).2 ++ [0]) := if_pos h
theorem vecIt_n {x : T109} {i : Nat} (h : (onceC (vecIt x i).1 3).2 = false) : vecIt x (i + 1) = ((elemC (onceC (vecIt x i).1 3).1).1, (vecIt x i).2 ++ [(elemC (onceC (vecIt x i).1 3).1).2]) := if_neg (by rw [h]; decide)
theorem vecIt_inv {x : T109} (hx : 0 ≤ x.2.1) : ∀ i, 0 ≤ (vecIt x i).1.2.1 ∧ (vecIt x i).2.length = i ∧ ∀ e ∈ (vecIt x i).2, LA.El e
 | 0 => ⟨hx, rfl, fun e he => by cases he⟩
 | i + 1 => by
  obtain ⟨h1, h2, h3⟩ := vecIt_inv hx i
  have e : vecIt x (i + 1) = vecS (vecIt x i) := rfl
  have hb := elem_bd (onceC (vecIt x i).1 3).1
  rw [e]; unfold vecS
  split
  ·refine ⟨once_ok h1, by simp [h2], fun y hy => ?_⟩
   rcases List.mem_append.1 hy with hy | hy
   ·exact h3 y hy
   ·have : y = 0 := by simpa using hy
    rw [this]; unfold LA.El; omega
  ·refine ⟨elem_ok (once_ok h1), by simp [h2], fun y hy => ?_⟩
   rcases List.mem_append.1 hy with hy | hy
   ·exact h3 y hy
   ·have : y = (elemC (onceC (vecIt x i).1 3).1).2 := by simpa using hy
    rw [this]; exact hb

def vecD (x0 : T109) (x1 : Int) : T109 × (List Int) := ((vecIt x0 x1.toNat).1, (vecIt x0 x1.toNat).2)
abbrev Q_spec_l5Vector := (fun (x0 : T109) (x1 : Int) => 0 ≤ x0.2.1 ∧ x1 ≤ 1000)
def B_spec_l5Vector : BS := { t := 109, s := s109, dom := [(.int 3)], cod := [s27], pre := fun y x => Q_spec_l5Vector y x.1, upd := fun y x => (vecD y x.1).1, g := fun y x => ((vecD y x.1).2, ()) }
def S_spec_l5Vector : Sum := bSum 153 B_spec_l5Vector
def S_spec_l5Vector_tab : List (Nat × Sum) := [(121, S_spec_l1Once), (134, S_spec_l4Element)]
theorem S_spec_l5Vector_ok : FnOK Try.prog 153 S_spec_l5Vector := by
 refine at_enterB (B := B_spec_l5Vector) 24 (fun v y x => ⟨[(0, aP 1 0), (1, aI x.1)], [(1, oX 109 [.ro (.u8 5) y.1, cI y.2.1, cI y.2.2]), (2, oP 1 v)]⟩) Try.func153 rfl (by kernel_rfl) (fun v y x => rfl) ?_
 rintro w0 Z0 b0 x0 ⟨x1, u⟩ a w
 revert x0 x1
 intro (x0 : T109) (x1 : Int) hpre hlens0 hlens h
 replace h : At w0 Z0 [b0] 24 ⟨[(0, aP 1 0), (1, aI x1)], [(1, oX 109 [.ro (.u8 5) x0.1, cI x0.2.1, cI x0.2.2]), (2, oP 1 (Value.pointer (some ⟨b0, 0, none⟩)))]⟩ a w := h
 replace hpre : Q_spec_l5Vector x0 x1 := hpre
 have hl1 : List.length x0.1 ≤ 9223372036854775807 := hlens0.1.1
 have hu0 : u8L x0.1 := hlens0.1.2
 have hT : TabOK Try.prog S_spec_l5Vector_tab := (.cons S_spec_l1Once_ok (.cons S_spec_l4Element_ok .nil))
 have hp2 := hpre.2
 refine wp_seq ?_
 refine at_regq [] { ts := [0, 1, 4], os := [1, 2] } [] gamOK hT h (by kernel_rfl) trivial fun a w h => then_normal (wp_seq ?_)
 refine at_regq [{ ids := [3] }] { ts := [0, 1, 4, 5], os := [1, 2, 3] } [] gamOK hT h (by kernel_rfl) trivial fun a w h => then_normal (wp_seq (wp_seq ?_))
 refine at_regq [] { ts := [0, 1, 4, 5, 6], os := [1, 2, 3] } [] gamOK hT h (by kernel_rfl) trivial fun a w h => then_normal (wp_block ?_)
 replace h := at_out (σ' := ⟨[(0, aP 1 0), (1, aI x1), (4, .p (.c (cN))), (5, aS 3), (6, aI 0)], [(1, oX 109 [.ro (.u8 5) x0.1, cI x0.2.1, cI x0.2.2]), (2, oP 1 (Value.pointer (some ⟨b0, 0, none⟩))), (3, oR (.int 3) ([] : List Int))]⟩) { ts := [0, 1, 4, 5, 6], os := [1, 2, 3] } h (by kernel_rfl)
 refine at_loop (fun i : Nat => (⟨[(0, aP 1 0), (1, aI x1), (4, .p (.c (cN))), (5, aS 3), (6, aI ((i : Nat) : Int))], [(1, oX 109 [.ro (.u8 5) (vecIt x0 i).1.1, cI (vecIt x0 i).1.2.1, cI (vecIt x0 i).1.2.2]), (2, oP 1 (Value.pointer (some ⟨b0, 0, none⟩))), (3, oR (.int 3) (vecIt x0 i).2)]⟩ : St)) (fun i => i ≤ x1.toNat) (fun i => x1.toNat - i) (0) h (st_congr5 (fun (d0 : List Int) (d1 : Int) (d2 : Int) (d3 : List Int) (d4 : Int) => (⟨[(0, aP 1 0), (1, aI x1), (4, .p (.c (cN))), (5, aS 3), (6, aI d4)], [(1, oX 109 [.ro (.u8 5) d0, cI d1, cI d2]), (2, oP 1 (Value.pointer (some ⟨b0, 0, none⟩))), (3, oR (.int 3) d3)]⟩ : St)) (show (x0.1 : List Int) = (vecIt x0 (0)).1.1 from by first | with_reducible rfl | (rfl) | rfl) (show (x0.2.1 : Int) = (vecIt x0 (0)).1.2.1 from by first | with_reducible rfl | (rfl) | rfl) (show (x0.2.2 : Int) = (vecIt x0 (0)).1.2.2 from by first | with_reducible rfl | (rfl) | rfl) (show (([] : List Int) : List Int) = (vecIt x0 (0)).2 from by first | with_reducible rfl | (rfl) | rfl) (show (0 : Int) = (((0) : Nat) : Int) from by first | with_reducible rfl | (rfl) | rfl)) (by omega) ?_
 intro i a w hok0 h
 have hvi := vecIt_inv hpre.1 i
 have hvl := hvi.2.1
 refine wp_seq (wp_seq ?_)
 refine at_regq [] { ts := [0, 1, 4, 5, 6, 10], os := [1, 2, 3] } [] gamOK hT h (by kernel_rfl) trivial fun a w h => then_normal ?_
 refine at_test (decide (((i : Nat) : Int) < x1)) h (by kernel_rfl) (fun h1 => ?_) (fun h1 => ?_)
 ·replace h1 : ((i : Nat) : Int) < x1 := of_decide_eq_true h1
  refine wp_skip (then_normal (wp_seq (wp_block (wp_seq ?_))))
  refine at_regq [] { ts := [0, 1, 4, 5, 6, 14], os := [1, 2, 3] } [B_spec_l1Once.pre (vecIt x0 i).1 (3, ())] gamOK hT h (by kernel_rfl) ⟨(by exact hvi.1), trivial⟩ fun a w h => then_normal ?_
  refine at_test ((onceC (vecIt x0 i).1 3).2) h (by kernel_rfl) (fun h2 => ?_) (fun h2 => ?_)
  ·refine at_regq [{}, { ids := [4] }, { ids := [5] }] { ts := [0, 1, 4, 5, 6], os := [1, 2, 5] } [(List.length (vecIt x0 i).2 + List.length ([0])) * 8 ≤ 140737488355328] gamOK hT h (by kernel_rfl) ⟨(by first | omega | (simp only [lsA]; omega) | (simp <;> omega)), trivial⟩ fun a w h => in_normal (then_normal ?_)
   refine at_regq [{}, { nw := true }] { ts := [0, 1, 4, 5, 6], os := [1, 2, 5] } [I64 (((i : Nat) : Int) + 1)] gamOK hT h (by kernel_rfl) ⟨⟨by first | omega | (simp only [lsA]; omega) | (simp <;> omega), by first | omega | (simp only [lsA]; omega) | (simp <;> omega)⟩, trivial⟩ fun a w h => ?_
   replace h := at_out (σ' := ⟨[(0, aP 1 0), (1, aI x1), (4, .p (.c (cN))), (5, aS 3), (6, aI (((i : Nat) : Int) + 1))], [(1, oX 109 [.ro (.u8 5) (onceC (vecIt x0 i).1 3).1.1, cI (onceC (vecIt x0 i).1 3).1.2.1, cI (onceC (vecIt x0 i).1 3).1.2.2]), (2, oP 1 (Value.pointer (some ⟨b0, 0, none⟩))), (3, oR (.int 3) ((vecIt x0 i).2 ++ ([0])))]⟩) { ts := [0, 1, 4, 5, 6], os := [1, 2, 5], rn := [(5, 3)] } h (by kernel_rfl)
   exact ⟨i + 1, at_eq h (st_congr5 (fun (d0 : List Int) (d1 : Int) (d2 : Int) (d3 : List Int) (d4 : Int) => (⟨[(0, aP 1 0), (1, aI x1), (4, .p (.c (cN))), (5, aS 3), (6, aI d4)], [(1, oX 109 [.ro (.u8 5) d0, cI d1, cI d2]), (2, oP 1 (Value.pointer (some ⟨b0, 0, none⟩))), (3, oR (.int 3) d3)]⟩ : St)) (show ((onceC (vecIt x0 i).1 3).1.1 : List Int) = (vecIt x0 (i + 1)).1.1 from by first | with_reducible rfl | (first | (rw [vecIt_y (x := x0) (i := i) (by assumption)]; done) | (rw [vecIt_n (x := x0) (i := i) (by assumption)]; done)) | rfl) (show ((onceC (vecIt x0 i).1 3).1.2.1 : Int) = (vecIt x0 (i + 1)).1.2.1 from by first | with_reducible rfl | (first | (rw [vecIt_y (x := x0) (i := i) (by assumption)]; done) | (rw [vecIt_n (x := x0) (i := i) (by assumption)]; done)) | rfl) (show ((onceC (vecIt x0 i).1 3).1.2.2 : Int) = (vecIt x0 (i + 1)).1.2.2 from by first | with_reducible rfl | (first | (rw [vecIt_y (x := x0) (i := i) (by assumption)]; done) | (rw [vecIt_n (x := x0) (i := i) (by assumption)]; done)) | rfl) (show (((vecIt x0 i).2 ++ ([0])) : List Int) = (vecIt x0 (i + 1)).2 from by first | with_reducible rfl | (first | (rw [vecIt_y (x := x0) (i := i) (by assumption)]; done) | (rw [vecIt_n (x := x0) (i := i) (by assumption)]; done)) | rfl) (show (((i : Nat) : Int) + 1 : Int) = (((i + 1) : Nat) : Int) from by first | with_reducible rfl | (omega) | rfl)), (by omega), (by omega)⟩
  ·refine at_regq [{}, {}, {}, { ids := [6] }, { ids := [7] }] { ts := [0, 1, 4, 5, 6], os := [1, 2, 7] } [B_spec_l4Element.pre (onceC (vecIt x0 i).1 3).1 (()), (List.length (vecIt x0 i).2 + List.length ([(elemC (onceC (vecIt x0 i).1 3).1).2])) * 8 ≤ 140737488355328] gamOK hT h (by kernel_rfl) ⟨(by exact (once_ok hvi.1)), (by first | omega | (simp only [lsA]; omega) | (simp <;> omega)), trivial⟩ fun a w h => in_normal (then_normal ?_)
   refine at_regq [{}, { nw := true }] { ts := [0, 1, 4, 5, 6], os := [1, 2, 7] } [I64 (((i : Nat) : Int) + 1)] gamOK hT h (by kernel_rfl) ⟨⟨by first | omega | (simp only [lsA]; omega) | (simp <;> omega), by first | omega | (simp only [lsA]; omega) | (simp <;> omega)⟩, trivial⟩ fun a w h => ?_
   replace h := at_out (σ' := ⟨[(0, aP 1 0), (1, aI x1), (4, .p (.c (cN))), (5, aS 3), (6, aI (((i : Nat) : Int) + 1))], [(1, oX 109 [.ro (.u8 5) (elemC (onceC (vecIt x0 i).1 3).1).1.1, cI (elemC (onceC (vecIt x0 i).1 3).1).1.2.1, cI (elemC (onceC (vecIt x0 i).1 3).1).1.2.2]), (2, oP 1 (Value.pointer (some ⟨b0, 0, none⟩))), (3, oR (.int 3) ((vecIt x0 i).2 ++ ([(elemC (onceC (vecIt x0 i).1 3).1).2])))]⟩) { ts := [0, 1, 4, 5, 6], os := [1, 2, 7], rn := [(7, 3)] } h (by kernel_rfl)
   exact ⟨i + 1, at_eq h (st_congr5 (fun (d0 : List Int) (d1 : Int) (d2 : Int) (d3 : List Int) (d4 : Int) => (⟨[(0, aP 1 0), (1, aI x1), (4, .p (.c (cN))), (5, aS 3), (6, aI d4)], [(1, oX 109 [.ro (.u8 5) d0, cI d1, cI d2]), (2, oP 1 (Value.pointer (some ⟨b0, 0, none⟩))), (3, oR (.int 3) d3)]⟩ : St)) (show ((elemC (onceC (vecIt x0 i).1 3).1).1.1 : List Int) = (vecIt x0 (i + 1)).1.1 from by first | with_reducible rfl | (first | (rw [vecIt_y (x := x0) (i := i) (by assumption)]; done) | (rw [vecIt_n (x := x0) (i := i) (by assumption)]; done)) | rfl) (show ((elemC (onceC (vecIt x0 i).1 3).1).1.2.1 : Int) = (vecIt x0 (i + 1)).1.2.1 from by first | with_reducible rfl | (first | (rw [vecIt_y (x := x0) (i := i) (by assumption)]; done) | (rw [vecIt_n (x := x0) (i := i) (by assumption)]; done)) | rfl) (show ((elemC (onceC (vecIt x0 i).1 3).1).1.2.2 : Int) = (vecIt x0 (i + 1)).1.2.2 from by first | with_reducible rfl | (first | (rw [vecIt_y (x := x0) (i := i) (by assumption)]; done) | (rw [vecIt_n (x := x0) (i := i) (by assumption)]; done)) | rfl) (show (((vecIt x0 i).2 ++ ([(elemC (onceC (vecIt x0 i).1 3).1).2])) : List Int) = (vecIt x0 (i + 1)).2 from by first | with_reducible rfl | (first | (rw [vecIt_y (x := x0) (i := i) (by assumption)]; done) | (rw [vecIt_n (x := x0) (i := i) (by assumption)]; done)) | rfl) (show (((i : Nat) : Int) + 1 : Int) = (((i + 1) : Nat) : Int) from by first | with_reducible rfl | (omega) | rfl)), (by omega), (by omega)⟩
 ·replace h1 : ¬ (((i : Nat) : Int) < x1) := of_decide_eq_false h1
  refine wp_exit (then_exit ?_)
  replace h := at_out (σ' := ⟨[(4, .p (.c (cN))), (5, aS 3)], [(1, oX 109 [.ro (.u8 5) (vecIt x0 i).1.1, cI (vecIt x0 i).1.2.1, cI (vecIt x0 i).1.2.2]), (2, oP 1 (Value.pointer (some ⟨b0, 0, none⟩))), (3, oR (.int 3) (vecIt x0 i).2)]⟩) { ts := [4, 5], os := [1, 2, 3] } h (by kernel_rfl)
  replace h := at_eq (σ' := ⟨[(4, .p (.c (cN))), (5, aS 3)], [(1, oX 109 [.ro (.u8 5) (vecIt x0 x1.toNat).1.1, cI (vecIt x0 x1.toNat).1.2.1, cI (vecIt x0 x1.toNat).1.2.2]), (2, oP 1 (Value.pointer (some ⟨b0, 0, none⟩))), (3, oR (.int 3) (vecIt x0 x1.toNat).2)]⟩) h (st_congr4 (fun (d0 : List Int) (d1 : Int) (d2 : Int) (d3 : List Int) => (⟨[(4, .p (.c (cN))), (5, aS 3)], [(1, oX 109 [.ro (.u8 5) d0, cI d1, cI d2]), (2, oP 1 (Value.pointer (some ⟨b0, 0, none⟩))), (3, oR (.int 3) d3)]⟩ : St)) (show ((vecIt x0 i).1.1 : List Int) = (vecIt x0 x1.toNat).1.1 from by first | with_reducible rfl | (rw [show x1.toNat = i by omega]) | rfl) (show ((vecIt x0 i).1.2.1 : Int) = (vecIt x0 x1.toNat).1.2.1 from by first | with_reducible rfl | (rw [show x1.toNat = i by omega]) | rfl) (show ((vecIt x0 i).1.2.2 : Int) = (vecIt x0 x1.toNat).1.2.2 from by first | with_reducible rfl | (rw [show x1.toNat = i by omega]) | rfl) (show ((vecIt x0 i).2 : List Int) = (vecIt x0 x1.toNat).2 from by first | with_reducible rfl | (rw [show x1.toNat = i by omega]) | rfl))
  refine then_exit (in_hit (then_normal (wp_seq ?_)))
  refine at_regq [] { ts := [4], os := [1, 2, 3] } [] gamOK hT h (by kernel_rfl) trivial fun a w h => then_normal (wp_ret ?_)
  have hr3 : (((vecIt x0 x1.toNat).1, (vecIt x0 x1.toNat).2) : T109 × (List Int)) = vecD x0 x1 := by rfl
  exact at_returnB (B := B_spec_l5Vector) (c0 := x0) (x := (x1, ())) ((vecIt x0 x1.toNat).1) ((vecIt x0 x1.toNat).2, ()) [(Value.pointer (some ⟨b0, 0, none⟩)) = (Value.pointer (some ⟨b0, 0, none⟩))] h (by kernel_rfl) ⟨rfl, trivial⟩ (congrArg (a₁ := ((vecIt x0 x1.toNat).1, (vecIt x0 x1.toNat).2)) (a₂ := vecD x0 x1) (fun (z : T109 × (List Int)) => z.1) hr3) (congrArg (a₁ := ((vecIt x0 x1.toNat).1, (vecIt x0 x1.toNat).2)) (a₂ := vecD x0 x1) (fun (z : T109 × (List Int)) => (z.2, ())) hr3)
theorem vecD_ok {x : T109} {n : Int} (h : 0 ≤ x.2.1) : 0 ≤ (vecD x n).1.2.1 ∧ LA.VokB n.toNat (vecD x n).2 := ⟨(vecIt_inv h _).1, (vecIt_inv h _).2.1, (vecIt_inv h _).2.2⟩

def fp (x : GF) : Nat → GF
 | 0 => 1
 | n + 1 => fp x n * x
def hz (es : List Int) (v : Nat → Nat) : Nat → GF
 | 0 => 1
 | i + 1 => hz es v i * fp (gc (es.getD i 0)) (v i)
theorem lead_span {n : Nat} {rows : List (List Int)} {v : List Int} (h : LA.RedL n rows) (hv : LA.VokB n v) : LA.leadS (LA.redS rows v) < 0 ↔ LA.Span (rows.map LA.vec) (LA.vec v) := by
 obtain ⟨h1, h2⟩ := LA.redS_ok h.ok hv
 rw [← LA.rem_zero_iff h.red, ← h2]
 constructor
 ·exact fun hn => LA.leadS_zero hn
 ·intro e
  refine Decidable.byContradiction fun hn => ?_
  have := (LA.leadS_lead h1 (by omega)).1
  rw [e] at this; exact this rfl
theorem insV_P {b : T60} {v : List Int} (h : basP b) : basP (insV b v).1 ∧ (insV b v).1.1 = b.1 := by
 unfold insV
 split
 ·rename_i ht
  have hr := takesB_t ht
  exact ⟨⟨h.1, (LA.insS_ok hr.1.2 hr.2).1⟩, rfl⟩
 ·exact ⟨h, rfl⟩
def dot (n : Nat) (u v : LA.V) : LA.F := LA.sumN (fun j => u j * v j) n
def Supp (n : Nat) (v : LA.V) : Prop := ∀ j, n ≤ j → v j = 0
theorem dot_comm (n : Nat) (u v : LA.V) : dot n u v = dot n v u := LA.sumN_congr fun j _ => by grind
theorem dot_add (n : Nat) (u : LA.V) (k : LA.F) (v w : LA.V) : dot n (LA.vadd u k v) w = dot n u w + k * dot n v w := by
 unfold dot
 rw [← LA.sumN_add]
 exact LA.sumN_congr fun j _ => by simp only [LA.vadd]; grind
theorem dot_zero (n : Nat) (w : LA.V) : dot n LA.vz w = 0 := LA.sumN_zero fun j _ => by simp only [LA.vz]; grind
theorem dot_part {n : Nat} {m : List LA.V} {w : LA.V} (h : ∀ r ∈ m, dot n r w = 0) (c : Nat → LA.F) : ∀ t, t ≤ m.length → dot n (fun j => LA.sumN (fun i => c i * LA.row m i j) t) w = 0
 | 0, _ => dot_zero n w
 | t + 1, ht => by
  have ih := dot_part h c t (by omega)
  have := dot_add n (fun j => LA.sumN (fun i => c i * LA.row m i j) t) (c t) (LA.row m t) w
  rw [ih, h _ (LA.row_mem (by omega))] at this
  have e : (fun j => LA.sumN (fun i => c i * LA.row m i j) (t + 1)) = LA.vadd (fun j => LA.sumN (fun i => c i * LA.row m i j) t) (c t) (LA.row m t) := rfl
  rw [e, this]; grind
theorem dot_span {n : Nat} {m : List LA.V} {w : LA.V} (h : ∀ r ∈ m, dot n r w = 0) {v : LA.V} (hv : LA.Span m v) : dot n v w = 0 := by
 obtain ⟨c, rfl⟩ := hv
 exact dot_part h c m.length (Nat.le_refl _)
theorem Supp.span {n : Nat} {m : List LA.V} (h : ∀ r ∈ m, Supp n r) {v : LA.V} (hv : LA.Span m v) : Supp n v := fun j hj => by
 obtain ⟨c, rfl⟩ := hv
 exact LA.sumN_zero fun i hi => by rw [h _ (LA.row_mem hi) j hj]; grind
theorem sumN_two {f : Nat → LA.F} {n a b : Nat} (ha : a < n) (hb : b < n) (hab : a ≠ b) (h : ∀ i, i < n → i ≠ a → i ≠ b → f i = 0) : LA.sumN f n = f a + f b := by
 have e : LA.sumN f n = LA.sumN (fun i => (if i = a then f a else 0) + 1 * (if i = b then f b else 0)) n := LA.sumN_congr fun i hi => by
  by_cases h1 : i = a
  ·subst h1; rw [if_pos rfl, if_neg hab]; grind
  ·by_cases h2 : i = b
   ·subst h2; rw [if_neg h1, if_pos rfl]; grind
   ·rw [if_neg h1, if_neg h2, h i hi h1 h2]; grind
 rw [e, LA.sumN_add, LA.sumN_single ha (fun i _ hi => if_neg hi), LA.sumN_single hb (fun i _ hi => if_neg hi), if_pos rfl, if_pos rfl]; grind
structure Nul (n : Nat) (m : List LA.V) (p : Nat → Nat) (nv : Nat → LA.V) : Prop where
 red : LA.Red m p
 sup : ∀ r ∈ m, Supp n r
 lt : ∀ i, i < m.length → p i < n
 piv : ∀ k i, k < n → (∀ i, i < m.length → p i ≠ k) → i < m.length → nv k (p i) = -(LA.row m i k)
 fre : ∀ k j, k < n → (∀ i, i < m.length → p i ≠ k) → j < n → (∀ i, i < m.length → p i ≠ j) → nv k j = if j = k then 1 else 0
 nsup : ∀ k, Supp n (nv k)
def FreeC (m : List LA.V) (p : Nat → Nat) (k : Nat) : Prop := ∀ i, i < m.length → p i ≠ k
theorem Nul.perp {n : Nat} {m : List LA.V} {p : Nat → Nat} {nv : Nat → LA.V} (h : Nul n m p nv) {k : Nat} (hk : k < n) (hf : FreeC m p k) {r : LA.V} (hr : r ∈ m) : dot n r (nv k) = 0 := by
 obtain ⟨i, hi, rfl⟩ := LA.mem_row hr
 unfold dot
 rw [sumN_two (h.lt i hi) hk (hf i hi) (fun j hj h1 h2 => by
  by_cases hp : FreeC m p j
  ·rw [h.fre k j hk hf hj hp, if_neg h2]; grind
  ·have ⟨i', hi', e⟩ : ∃ i', i' < m.length ∧ p i' = j := Classical.byContradiction fun hn => hp fun i' hi' e => hn ⟨i', hi', e⟩
   subst e
   rw [h.red.clear i i' hi hi' (fun e => h1 (by rw [e]))]; grind), h.red.one i hi, h.piv k i hk hf hi, h.fre k k hk hf hk hf, if_pos rfl]
 grind
def NLst (m : List LA.V) (p : Nat → Nat) (nv : Nat → LA.V) (N : Nat → List LA.V) : Prop := N 0 = [] ∧ ∀ k, (FreeC m p k → N (k + 1) = N k ++ [nv k]) ∧ (¬ FreeC m p k → N (k + 1) = N k)
theorem NLst.mem {m : List LA.V} {p : Nat → Nat} {nv : Nat → LA.V} {N : Nat → List LA.V} (h : NLst m p nv N) : ∀ K w, w ∈ N K → ∃ k, k < K ∧ FreeC m p k ∧ w = nv k
 | 0, w, hw => by rw [h.1] at hw; cases hw
 | K + 1, w, hw => by
  by_cases hf : FreeC m p K
  ·rw [(h.2 K).1 hf] at hw
   rcases List.mem_append.1 hw with hw | hw
   ·obtain ⟨k, h1, h2⟩ := NLst.mem h K w hw; exact ⟨k, by omega, h2⟩
   ·exact ⟨K, by omega, hf, List.mem_singleton.1 hw⟩
  ·rw [(h.2 K).2 hf] at hw
   obtain ⟨k, h1, h2⟩ := NLst.mem h K w hw; exact ⟨k, by omega, h2⟩
theorem NLst.of {m : List LA.V} {p : Nat → Nat} {nv : Nat → LA.V} {N : Nat → List LA.V} (h : NLst m p nv N) : ∀ K k, k < K → FreeC m p k → nv k ∈ N K
 | 0, k, hk, _ => by omega
 | K + 1, k, hk, hf => by
  by_cases e : k = K
  ·subst e; rw [(h.2 k).1 hf]; simp
  ·have := NLst.of h K k (by omega) hf
   by_cases hK : FreeC m p K
   ·rw [(h.2 K).1 hK]; simp [this]
   ·rw [(h.2 K).2 hK]; exact this
theorem Nul.part {n : Nat} {m : List LA.V} {p : Nat → Nat} {nv : Nat → LA.V} {N : Nat → List LA.V} (h : Nul n m p nv) (hN : NLst m p nv N) (v : LA.V) : ∀ K, K ≤ n → ∃ u, LA.Span (N K) u ∧ (∀ j, j < K → FreeC m p j → u j = v j) ∧ ∀ j, K ≤ j → j < n → FreeC m p j → u j = 0
 | 0, _ => ⟨LA.vz, LA.Span.zero _, fun j hj => by omega, fun j _ _ _ => rfl⟩
 | K + 1, hK => by
  obtain ⟨u, h1, h2, h3⟩ := Nul.part h hN v K (by omega)
  by_cases hf : FreeC m p K
  ·refine ⟨LA.vadd u (v K) (nv K), ?_, fun j hj hj2 => ?_, fun j hj hj2 hj3 => ?_⟩
   ·rw [(hN.2 K).1 hf]
    exact LA.Span.add (LA.Span.of_mem (fun r hr => LA.Span.mem (List.mem_append.2 (.inl hr))) h1) _ (LA.Span.mem (by simp))
   ·simp only [LA.vadd]
    rw [h.fre K j (by omega) hf (by omega) hj2]
    by_cases e : j = K
    ·subst e; rw [if_pos rfl, h3 j (Nat.le_refl _) (by omega) hj2]; grind
    ·rw [if_neg e, h2 j (by omega) hj2]; grind
   ·simp only [LA.vadd]
    rw [h.fre K j (by omega) hf hj2 hj3, if_neg (by omega), h3 j (by omega) hj2 hj3]; grind
  ·refine ⟨u, by rw [(hN.2 K).2 hf]; exact h1, fun j hj hj2 => ?_, fun j hj hj2 hj3 => h3 j (by omega) hj2 hj3⟩
   by_cases e : j = K
   ·subst e; exact absurd hj2 hf
   ·exact h2 j (by omega) hj2
theorem Nul.span {n : Nat} {m : List LA.V} {p : Nat → Nat} {nv : Nat → LA.V} {N : Nat → List LA.V} (h : Nul n m p nv) (hN : NLst m p nv N) (v : LA.V) : LA.Span (N n) v ↔ Supp n v ∧ ∀ r ∈ m, dot n r v = 0 := by
 have hNs : ∀ w ∈ N n, Supp n w := fun w hw => by
  obtain ⟨k, _, _, rfl⟩ := hN.mem n w hw; exact h.nsup k
 have hNp : ∀ r ∈ m, ∀ w ∈ N n, dot n w r = 0 := fun r hr w hw => by
  obtain ⟨k, hk, hf, rfl⟩ := hN.mem n w hw
  rw [dot_comm]; exact h.perp hk hf hr
 constructor
 ·intro hv
  refine ⟨Supp.span hNs hv, fun r hr => ?_⟩
  rw [dot_comm]; exact dot_span (hNp r hr) hv
 ·rintro ⟨hs, hp⟩
  obtain ⟨u, h1, h2, _⟩ := h.part hN v n (Nat.le_refl _)
  have hus := Supp.span hNs h1
  have hw : ∀ i, i < m.length → v (p i) = u (p i) := fun i hi => by
   have hm := LA.row_mem hi
   have e1 := hp _ hm
   have e2 : dot n (LA.row m i) u = 0 := by rw [dot_comm]; exact dot_span (hNp _ hm) h1
   have e3 : dot n (LA.vadd v (-1) u) (LA.row m i) = 0 := by
    rw [dot_add, dot_comm n v, dot_comm n u, e1, e2]; grind
   unfold dot at e3
   rw [LA.sumN_single (h.lt i hi) (fun j hj hne => by
    by_cases hf : FreeC m p j
    ·simp only [LA.vadd]; rw [h2 j hj hf]; grind
    ·have ⟨i', hi', e⟩ : ∃ i', i' < m.length ∧ p i' = j := Classical.byContradiction fun hn => hf fun i' hi' e => hn ⟨i', hi', e⟩
     subst e
     rw [h.red.clear i i' hi hi' (fun e => hne (by rw [e]))]; grind), h.red.one i hi] at e3
   simp only [LA.vadd] at e3
   grind
  have e : v = u := funext fun j => by
   by_cases hj : j < n
   ·by_cases hf : FreeC m p j
    ·exact (h2 j hj hf).symm
    ·have ⟨i', hi', e⟩ : ∃ i', i' < m.length ∧ p i' = j := Classical.byContradiction fun hn => hf fun i' hi' e => hn ⟨i', hi', e⟩
     subst e; exact hw i' hi'
   ·rw [hs j (by omega), hus j (by omega)]
  rw [e]; exact h1
theorem Nul.back {n : Nat} {m : List LA.V} {p : Nat → Nat} {nv : Nat → LA.V} {N : Nat → List LA.V} (h : Nul n m p nv) (hN : NLst m p nv N) {v : LA.V} (hs : Supp n v) (hp : ∀ w ∈ N n, dot n w v = 0) : LA.Span m v := by
 rw [← LA.rem_zero_iff h.red]
 obtain ⟨u, hu, e⟩ := LA.rem_span (m := m) (p := p) v
 have hsu := Supp.span h.sup hu
 funext j
 by_cases hj : j < n
 ·by_cases hf : FreeC m p j
  ·have e1 := hp _ (hN.of n j hj hf)
   have e2 : dot n u (nv j) = 0 := dot_span (fun r hr => h.perp hj hf hr) hu
   have e3 : dot n (LA.rem m p v) (nv j) = 0 := by
    rw [e, dot_add, e2, dot_comm n v, e1]; grind
   unfold dot at e3
   rw [LA.sumN_single hj (fun i hi hne => by
    by_cases hfi : FreeC m p i
    ·rw [h.fre j i hj hf hi hfi, if_neg hne]; grind
    ·have ⟨i', hi', e'⟩ : ∃ i', i' < m.length ∧ p i' = i := Classical.byContradiction fun hn => hfi fun i' hi' e => hn ⟨i', hi', e⟩
     subst e'
     rw [LA.rem_piv h.red v hi']; grind), h.fre j j hj hf hj hf, if_pos rfl] at e3
   simp only [LA.vz]
   grind
  ·have ⟨i', hi', e'⟩ : ∃ i', i' < m.length ∧ p i' = j := Classical.byContradiction fun hn => hf fun i' hi' e => hn ⟨i', hi', e⟩
   subst e'
   rw [LA.rem_piv h.red v hi']; rfl
 ·rw [e]; simp only [LA.vadd, LA.vz]
  rw [hs j (by omega), hsu j (by omega)]; grind
def insF (rows : List (List Int)) (vs : List (List Int)) (i : Nat) : List (List Int) := (vs.take i).foldl (fun R v => (LA.insS R v).1) rows
theorem insF_succ {rows vs : List (List Int)} {i : Nat} (h : i < vs.length) : insF rows vs (i + 1) = (LA.insS (insF rows vs i) (vs.getD i [])).1 := by
 unfold insF
 exact LA.foldl_take (fun R v => (LA.insS R v).1) rows [] vs i h
theorem insF_ok {n : Nat} {rows vs : List (List Int)} (hr : LA.RedL n rows) (hv : ∀ v ∈ vs, LA.VokB n v) : ∀ i, i ≤ vs.length → LA.RedL n (insF rows vs i) ∧ ∀ x, LA.Span ((insF rows vs i).map LA.vec) x ↔ LA.Span (rows.map LA.vec ++ (vs.take i).map LA.vec) x
 | 0, _ => ⟨hr, fun x => by show LA.Span (rows.map LA.vec) x ↔ _; simp⟩
 | i + 1, hi => by
  obtain ⟨h1, h2⟩ := insF_ok hr hv i (by omega)
  have hvi := hv _ (LA.getD_in (rows := vs) (i := i) (by omega))
  obtain ⟨i1, i2, i3, _⟩ := LA.insS_ok h1 hvi
  rw [insF_succ (by omega)]
  refine ⟨i1, fun x => ?_⟩
  rw [i3]
  have e : vs.take (i + 1) = vs.take i ++ [vs.getD i []] := by rw [List.take_succ_eq_append_getElem (by omega), getD_of_lt (by omega)]
  rw [e, List.map_append]
  constructor
  ·refine LA.Span.of_mem fun r hr' => ?_
   rcases List.mem_append.1 hr' with hr' | hr'
   ·have := (h2 r).1 (LA.Span.mem hr')
    exact LA.Span.of_mem (fun y hy => LA.Span.mem (by rcases List.mem_append.1 hy with hy | hy <;> simp_all)) this
   ·exact LA.Span.mem (by simp_all)
  ·refine LA.Span.of_mem fun r hr' => ?_
   rcases List.mem_append.1 hr' with hr' | hr'
   ·exact LA.Span.of_mem (fun y hy => LA.Span.mem (List.mem_append.2 (.inl hy))) ((h2 r).2 (LA.Span.mem (List.mem_append.2 (.inl hr'))))
   ·rcases List.mem_append.1 hr' with hr' | hr'
    ·exact LA.Span.of_mem (fun y hy => LA.Span.mem (List.mem_append.2 (.inl hy))) ((h2 r).2 (LA.Span.mem (List.mem_append.2 (.inr hr'))))
    ·exact LA.Span.mem (by simp_all)
theorem insF_len {n : Nat} {rows vs : List (List Int)} (hr : LA.RedL n rows) (hv : ∀ v ∈ vs, LA.VokB n v) {i : Nat} (hi : i < vs.length) : (insF rows vs (i + 1)).length = (insF rows vs i).length + (if (LA.insS (insF rows vs i) (vs.getD i [])).2 = true then 1 else 0) := by
 obtain ⟨h1, h2⟩ := insF_ok hr hv i (by omega)
 obtain ⟨i1, i2, i3, i4, i5⟩ := LA.insS_ok h1 (hv _ (LA.getD_in (rows := vs) (i := i) hi))
 rw [insF_succ hi]
 cases hb : (LA.insS (insF rows vs i) (vs.getD i [])).2 with
 | true => rw [if_pos rfl]; exact i4 hb
 | false => rw [if_neg (by decide), i5 hb]; rfl
theorem span_app {m1 m2 : List LA.V} {v : LA.V} (h : LA.Span (m1 ++ m2) v) : ∃ y u, LA.Span m1 y ∧ LA.Span m2 u ∧ v = LA.vadd y 1 u := by
 obtain ⟨c, rfl⟩ := h
 have key : ∀ t, t ≤ m2.length → ∃ u, LA.Span m2 u ∧ (fun j => LA.sumN (fun i => c i * LA.row (m1 ++ m2) i j) (m1.length + t)) = LA.vadd (fun j => LA.sumN (fun i => c i * LA.row (m1 ++ m2) i j) m1.length) 1 u := by
  intro t
  induction t with
  | zero => intro _; exact ⟨LA.vz, LA.Span.zero _, by funext j; simp only [LA.vadd, LA.vz, Nat.add_zero]; grind⟩
  | succ t ih =>
   intro ht
   obtain ⟨u, h1, h2⟩ := ih (by omega)
   refine ⟨LA.vadd u (c (m1.length + t)) (LA.row m2 t), LA.Span.add h1 _ (LA.Span.row (by omega)), ?_⟩
   have e : LA.row (m1 ++ m2) (m1.length + t) = LA.row m2 t := by
    unfold LA.row
    rw [List.getD_eq_getElem?_getD, List.getElem?_append_right (by omega), Nat.add_sub_cancel_left, List.getD_eq_getElem?_getD]
   funext j
   have := congrFun h2 j
   show LA.sumN (fun i => c i * LA.row (m1 ++ m2) i j) (m1.length + t) + c (m1.length + t) * LA.row (m1 ++ m2) (m1.length + t) j = _
   rw [this, e]
   simp only [LA.vadd]; grind
 obtain ⟨u, h1, h2⟩ := key m2.length (Nat.le_refl _)
 refine ⟨fun j => LA.sumN (fun i => c i * LA.row (m1 ++ m2) i j) m1.length, u, ⟨c, ?_⟩, h1, ?_⟩
 ·funext j
  refine LA.sumN_congr fun i hi => ?_
  unfold LA.row
  rw [List.getD_eq_getElem?_getD, List.getElem?_append_left hi, List.getD_eq_getElem?_getD]
 ·rw [← h2]
  funext j
  simp only [LA.comb, List.length_append]
theorem dim_formula {n : Nat} {A B I : List (List Int)} (hA : LA.RedL n A) (hB : LA.RedL n B) (hI : LA.RedL n I) (h : ∀ v, LA.Span (I.map LA.vec) v ↔ LA.Span (A.map LA.vec) v ∧ LA.Span (B.map LA.vec) v) : (insF B A A.length).length + I.length = A.length + B.length := by
 have same : ∀ i, i < A.length → (LA.insS (insF I A i) (A.getD i [])).2 = (LA.insS (insF B A i) (A.getD i [])).2 := fun i hi => by
  obtain ⟨x1, x2⟩ := insF_ok hI hA.ok i (by omega)
  obtain ⟨y1, y2⟩ := insF_ok hB hA.ok i (by omega)
  have hv := hA.ok _ (LA.getD_in hi)
  have ix := (LA.insS_ok x1 hv).2.1
  have iy := (LA.insS_ok y1 hv).2.1
  rw [x2] at ix; rw [y2] at iy
  have key : LA.Span (I.map LA.vec ++ (A.take i).map LA.vec) (LA.vec (A.getD i [])) ↔ LA.Span (B.map LA.vec ++ (A.take i).map LA.vec) (LA.vec (A.getD i [])) := by
   constructor
   ·refine LA.Span.of_mem fun r hr => ?_
    rcases List.mem_append.1 hr with hr | hr
    ·exact LA.Span.of_mem (fun y hy => LA.Span.mem (List.mem_append.2 (.inl hy))) ((h r).1 (LA.Span.mem hr)).2
    ·exact LA.Span.mem (List.mem_append.2 (.inr hr))
   ·intro hs
    obtain ⟨y, u, k1, k2, k3⟩ := span_app hs
    have hu : LA.Span (A.map LA.vec) u := LA.Span.of_mem (fun r hr => LA.Span.mem (by
     obtain ⟨z, hz, rfl⟩ := List.mem_map.1 hr
     exact List.mem_map.2 ⟨z, List.mem_of_mem_take hz, rfl⟩)) k2
    have ha : LA.Span (A.map LA.vec) (LA.vec (A.getD i [])) := LA.Span.mem (List.mem_map.2 ⟨_, LA.getD_in hi, rfl⟩)
    have ey : y = LA.vadd (LA.vec (A.getD i [])) (-1) u := by rw [k3]; funext j; simp only [LA.vadd]; grind
    have hy : LA.Span (A.map LA.vec) y := by rw [ey]; exact LA.Span.add ha _ hu
    have hyI := (h y).2 ⟨hy, k1⟩
    rw [k3]
    exact LA.Span.add (LA.Span.of_mem (fun r hr => LA.Span.mem (List.mem_append.2 (.inl hr))) hyI) _ (LA.Span.of_mem (fun r hr => LA.Span.mem (List.mem_append.2 (.inr hr))) k2)
  cases hx : (LA.insS (insF I A i) (A.getD i [])).2 <;> cases hy : (LA.insS (insF B A i) (A.getD i [])).2 <;> first
   | rfl
   | (exfalso; have := iy.2 (key.1 (ix.1 hx)); rw [hy] at this; cases this)
   | (exfalso; have := ix.2 (key.2 (iy.1 hy)); rw [hx] at this; cases this)
 have step : ∀ i, i ≤ A.length → (insF B A i).length + I.length = (insF I A i).length + B.length := by
  intro i
  induction i with
  | zero => intro _; show B.length + I.length = I.length + B.length; omega
  | succ i ih =>
   intro hi
   have := ih (by omega)
   rw [insF_len hB hA.ok (by omega), insF_len hI hA.ok (by omega), same i (by omega)]; omega
 have e : insF I A A.length = A := by
  obtain ⟨x1, x2⟩ := insF_ok hI hA.ok A.length (Nat.le_refl _)
  refine x1.uniq hA fun x => ?_
  rw [x2, List.take_length]
  constructor
  ·refine LA.Span.of_mem fun r hr => ?_
   rcases List.mem_append.1 hr with hr | hr
   ·exact ((h r).1 (LA.Span.mem hr)).1
   ·exact LA.Span.mem hr
  ·exact LA.Span.of_mem fun r hr => LA.Span.mem (List.mem_append.2 (.inr hr))
 have := step A.length (Nat.le_refl _)
 rw [e] at this; exact this
theorem insF_same {n : Nat} {B A : List (List Int)} (hB : LA.RedL n B) (hA : ∀ v ∈ A, LA.VokB n v) : (insF B A A.length).length = B.length ↔ ∀ v ∈ A, LA.Span (B.map LA.vec) (LA.vec v) := by
 have mono : ∀ i, i ≤ A.length → B.length ≤ (insF B A i).length ∧ (insF B A i).length ≤ (insF B A A.length).length := by
  have up : ∀ d i, i + d ≤ A.length → (insF B A i).length ≤ (insF B A (i + d)).length := by
   intro d
   induction d with
   | zero => intro i _; exact Nat.le_refl _
   | succ d ih => intro i hi; have := ih i (by omega); have e := insF_len hB hA (show i + d < A.length by omega); rw [← Nat.add_assoc]; omega
  intro i hi
  have a := up i 0 (by omega)
  have b := up (A.length - i) i (by omega)
  rw [Nat.zero_add] at a
  rw [show i + (A.length - i) = A.length by omega] at b
  exact ⟨a, b⟩
 constructor
 ·intro he v hv
  have stay : ∀ i, i ≤ A.length → insF B A i = B := by
   intro i
   induction i with
   | zero => intro _; rfl
   | succ i ih =>
    intro hi
    have e := ih (by omega)
    have m1 := mono (i + 1) hi
    have l := insF_len hB hA (show i < A.length by omega)
    have x1 := (insF_ok hB hA i (by omega)).1
    rw [insF_succ (by omega)]
    cases hb : (LA.insS (insF B A i) (A.getD i [])).2 with
    | true => rw [hb, if_pos rfl, e] at l; omega
    | false => rw [(LA.insS_ok x1 (hA _ (LA.getD_in (show i < A.length by omega)))).2.2.2.2 hb, e]
  have x2 := (insF_ok hB hA A.length (Nat.le_refl _)).2
  rw [stay _ (Nat.le_refl _)] at x2
  rw [x2, List.take_length]
  exact LA.Span.mem (List.mem_append.2 (.inr (List.mem_map.2 ⟨v, hv, rfl⟩)))
 ·intro hs
  obtain ⟨x1, x2⟩ := insF_ok hB hA A.length (Nat.le_refl _)
  have : insF B A A.length = B := x1.uniq hB fun x => by
   rw [x2, List.take_length]
   constructor
   ·refine LA.Span.of_mem fun r hr => ?_
    rcases List.mem_append.1 hr with hr | hr
    ·exact LA.Span.mem hr
    ·obtain ⟨v, hv, rfl⟩ := List.mem_map.1 hr; exact hs v hv
   ·exact LA.Span.of_mem fun r hr => LA.Span.mem (List.mem_append.2 (.inl hr))
  rw [this]
def D_impl_Dimension := (fun (b : T60) => if validB b = true then ((List.length b.2 : Nat) : Int) else 0)
abbrev Q_impl_Dimension := (fun (x0 : T60) => Sh.fit s60 x0)
def S_impl_Dimension : Sum := { fid := 36, dom := [s60], cod := [(.int 3)], dp := true, fz := false, pre := fun x => Q_impl_Dimension x.1, g := fun x => ((D_impl_Dimension x.1), ()) }
def S_impl_Dimension_tab : List (Nat × Sum) := [(35, S_impl_IsValidBasis)]
theorem S_impl_Dimension_ok : FnOK Try.prog 36 S_impl_Dimension := by
 refine at_enter 9 (fun x => ⟨[(0, aG [cI x.1.1, .ro s27 x.1.2])], []⟩) Try.func36 rfl (by kernel_rfl) (fun x => rfl) ?_
 rintro w0 Z0 ⟨x0, u⟩ a w
 revert x0
 intro (x0 : T60) hpre hlens h
 replace hpre : Q_impl_Dimension x0 := hpre
 have hT : TabOK Try.prog S_impl_Dimension_tab := (.cons S_impl_IsValidBasis_ok .nil)
 have hf0 : Sh.fit s60 x0 := hpre
 have hn0_1 : List.length x0.2 ≤ 1073741824 := hf0.2.1
 refine wp_seq ?_
 refine at_regq [{ ids := [1] }] { ts := [1, 2], os := [1] } [] gamOK hT h (by kernel_rfl) trivial fun a w h => then_normal (wp_seq (wp_seq ?_))
 refine at_regq [] { ts := [1, 2, 5], os := [1] } [Q_impl_IsValidBasis x0] gamOK hT h (by kernel_rfl) ⟨(by exact hf0), trivial⟩ fun a w h => then_normal ?_
 refine at_test (!(validB x0)) h (by kernel_rfl) (fun h1 => ?_) (fun h1 => ?_)
 ·replace h1 : (validB x0) = false := notT h1
  refine wp_seq ?_
  refine at_regq [] { ts := [1, 2], os := [1] } [] gamOK hT h (by kernel_rfl) trivial fun a w h => then_normal (wp_ret (then_ret ?_))
  exact at_return (0, ()) [] h (by kernel_rfl) trivial (congrArg (fun z => (z, ())) (show (0) = D_impl_Dimension x0 from by unfold D_impl_Dimension; simp_all))
 ·replace h1 : (validB x0) = true := notF h1
  have hvh1 := validB_t h1
  refine wp_skip (then_normal (wp_seq ?_))
  refine at_regq [] { ts := [2], os := [] } [] gamOK hT h (by kernel_rfl) trivial fun a w h => then_normal (wp_ret ?_)
  exact at_return (((List.length x0.2 : Nat) : Int), ()) [] h (by kernel_rfl) trivial (congrArg (fun z => (z, ())) (show (((List.length x0.2 : Nat) : Int)) = D_impl_Dimension x0 from by unfold D_impl_Dimension; simp_all))

def isSubI (x0 : T60) (x1 : T60) : Bool := (if (sameW x0 x1) = true then (if (List.all x0.2 (fun r => !decide (LA.leadS (LA.redS x1.2 r) ≥ 0))) = true then true else false) else false)
abbrev Q_impl_IsSubspace := (fun (x0 : T60) (x1 : T60) => Sh.fit s60 x0 ∧ Sh.fit s60 x1)
def S_impl_IsSubspace : Sum := { fid := 44, dom := [s60, s60], cod := [(.bool 4)], dp := true, fz := false, pre := fun x => Q_impl_IsSubspace x.1 x.2.1, g := fun x => ((isSubI x.1 x.2.1), ()) }
def S_impl_IsSubspace_tab : List (Nat × Sum) := [(96, S_impl_sameWidth), (88, S__impl_Basis_reduce), (38, S_impl_LeadingIndex)]
theorem S_impl_IsSubspace_ok : FnOK Try.prog 44 S_impl_IsSubspace := by
 refine at_enter 24 (fun x => ⟨[(0, aG [cI x.1.1, .ro s27 x.1.2]), (1, aG [cI x.2.1.1, .ro s27 x.2.1.2])], []⟩) Try.func44 rfl (by kernel_rfl) (fun x => rfl) ?_
 rintro w0 Z0 ⟨x0, x1, u⟩ a w
 revert x0 x1
 intro (x0 : T60) (x1 : T60) hpre hlens h
 replace hpre : Q_impl_IsSubspace x0 x1 := hpre
 have hT : TabOK Try.prog S_impl_IsSubspace_tab := (.cons S_impl_sameWidth_ok (.cons S__impl_Basis_reduce_ok (.cons S_impl_LeadingIndex_ok .nil)))
 obtain ⟨hf0, hf1⟩ := hpre
 have hn0_1 : List.length x0.2 ≤ 1073741824 := hf0.2.1
 have hn1_2 : List.length x1.2 ≤ 1073741824 := hf1.2.1
 refine wp_seq ?_
 refine at_regq [{ ids := [1] }, { ids := [2] }] { ts := [2, 3, 4], os := [1, 2] } [] gamOK hT h (by kernel_rfl) trivial fun a w h => then_normal (wp_seq (wp_seq ?_))
 refine at_regq [] { ts := [2, 3, 4, 10], os := [1, 2] } [Q_impl_sameWidth x0 x1] gamOK hT h (by kernel_rfl) ⟨(by exact ⟨hf0, hf1⟩), trivial⟩ fun a w h => then_normal ?_
 refine at_test (!(sameW x0 x1)) h (by kernel_rfl) (fun h1 => ?_) (fun h1 => ?_)
 ·replace h1 : (sameW x0 x1) = false := notT h1
  refine wp_seq ?_
  refine at_regq [] { ts := [2, 3, 4], os := [1, 2] } [] gamOK hT h (by kernel_rfl) trivial fun a w h => then_normal (wp_ret (then_ret ?_))
  exact at_return (false, ()) [] h (by kernel_rfl) trivial (congrArg (fun z => (z, ())) (show (false) = isSubI x0 x1 from by first | rfl | (unfold isSubI; rw [if_neg (neT h1)])))
 ·replace h1 : (sameW x0 x1) = true := notF h1
  refine wp_skip (then_normal (wp_seq (wp_seq ?_)))
  refine at_regq [] { ts := [3, 4, 12, 13, 14], os := [2] } [] gamOK hT h (by kernel_rfl) trivial fun a w h => then_normal (wp_block ?_)
  replace h := at_out (σ' := ⟨[(3, aP 2 0), (4, aB false), (12, aF s27 x0.2), (13, aI ((List.length x0.2 : Nat) : Int)), (14, aI 0)], [(2, oX 60 [cI x1.1, .ro s27 x1.2])]⟩) { ts := [3, 4, 12, 13, 14], os := [2] } h (by kernel_rfl)
  refine at_loop (fun i : Nat => (⟨[(3, aP 2 0), (4, aB false), (12, aF s27 x0.2), (13, aI ((List.length x0.2 : Nat) : Int)), (14, aI ((i : Nat) : Int))], [(2, oX 60 [cI x1.1, .ro s27 x1.2])]⟩ : St)) (fun i => (i ≤ List.length x0.2 ∧ allTo1 (fun r => !decide (LA.leadS (LA.redS x1.2 r) ≥ 0)) x0.2 [] i)) (fun i => List.length x0.2 - i) (0) h (st_congr1 (fun (d0 : Int) => (⟨[(3, aP 2 0), (4, aB false), (12, aF s27 x0.2), (13, aI ((List.length x0.2 : Nat) : Int)), (14, aI d0)], [(2, oX 60 [cI x1.1, .ro s27 x1.2])]⟩ : St)) (show (0 : Int) = (((0) : Nat) : Int) from by first | with_reducible rfl | (rfl) | rfl)) (by exact ⟨Nat.zero_le _, allTo1_zero⟩) ?_
  intro i a w hok0 h
  refine wp_seq ?_
  refine at_regq [] { ts := [3, 4, 12, 13, 14, 15], os := [2] } [] gamOK hT h (by kernel_rfl) trivial fun a w h => then_normal (wp_seq ?_)
  refine at_test (decide (((i : Nat) : Int) < ((List.length x0.2 : Nat) : Int))) h (by kernel_rfl) (fun h2 => ?_) (fun h2 => ?_)
  ·replace h2 : ((i : Nat) : Int) < ((List.length x0.2 : Nat) : Int) := of_decide_eq_true h2
   have hsw := sameW_t (a := x0) (b := x1) (by first | assumption | (simp_all; done))
   have hra := hsw.1.2.at_ (show i < List.length x0.2 by omega)
   have hrb : LA.VokB x1.1.toNat (x0.2.getD i []) := by rw [← hsw.2.2]; exact hra.1
   refine wp_skip (then_normal (wp_seq (wp_block (wp_seq ?_))))
   refine at_regq [] { ts := [3, 4, 6, 12, 13, 14], os := [2] } [(0 : Int) ≤ ((i : Nat) : Int) ∧ ((i : Nat) : Int) < ((List.length x0.2 : Nat) : Int)] gamOK hT h (by kernel_rfl) ⟨(by refine ⟨?_, ?_⟩ <;> (first | omega | (simp only [lsA]; omega) | (simp <;> omega))), trivial⟩ fun a w h => then_normal (wp_seq ?_)
   refine at_regq [{}, {}, { ids := [3] }] { ts := [3, 4, 12, 13, 14, 22], os := [2] } [Q__impl_Basis_reduce x1 (x0.2.getD i []), Q_impl_LeadingIndex (LA.redS x1.2 (x0.2.getD i []))] gamOK hT h (by kernel_rfl) ⟨(by exact ⟨hf1, Sh.fit_getD hf0.2 i, hsw.2.1, hrb⟩), (by exact fitV (LA.redS_rng hsw.2.1.2 hrb) (by have := hsw.2.1.1; omega)), trivial⟩ fun a w h => then_normal ?_
   refine at_test (decide ((LA.leadS (LA.redS x1.2 (x0.2.getD i []))) ≥ 0)) h (by kernel_rfl) (fun h3 => ?_) (fun h3 => ?_)
   ·replace h3 : (LA.leadS (LA.redS x1.2 (x0.2.getD i []))) ≥ 0 := of_decide_eq_true h3
    refine wp_seq ?_
    refine at_regq [] { ts := [3, 4, 12, 13, 14], os := [2] } [] gamOK hT h (by kernel_rfl) trivial fun a w h => then_normal (wp_ret (in_ret (then_ret ?_)))
    have hs4 : (List.all x0.2 (fun r => !decide (LA.leadS (LA.redS x1.2 r) ≥ 0))) = false := by exact all_at (z := []) (i := i) (by omega) (by exact notT' (decide_eq_true (by omega)))
    refine then_ret (in_ret (then_ret ?_))
    exact at_return (false, ()) [] h (by kernel_rfl) trivial (congrArg (fun z => (z, ())) (show (false) = isSubI x0 x1 from by first | rfl | (unfold isSubI; rw [if_pos h1, if_neg (neT hs4)])))
   ·replace h3 : ¬ ((LA.leadS (LA.redS x1.2 (x0.2.getD i []))) ≥ 0) := of_decide_eq_false h3
    refine wp_skip (in_normal (then_normal ?_))
    refine at_regq [{ nw := true }] { ts := [3, 4, 12, 13, 14], os := [2] } [I64 (((i : Nat) : Int) + 1)] gamOK hT h (by kernel_rfl) ⟨⟨by first | omega | (simp only [lsA]; omega) | (simp <;> omega), by first | omega | (simp only [lsA]; omega) | (simp <;> omega)⟩, trivial⟩ fun a w h => ?_
    replace h := at_out (σ' := ⟨[(3, aP 2 0), (4, aB false), (12, aF s27 x0.2), (13, aI ((List.length x0.2 : Nat) : Int)), (14, aI (((i : Nat) : Int) + 1))], [(2, oX 60 [cI x1.1, .ro s27 x1.2])]⟩) { ts := [3, 4, 12, 13, 14], os := [2] } h (by kernel_rfl)
    exact ⟨i + 1, at_eq h (st_congr1 (fun (d0 : Int) => (⟨[(3, aP 2 0), (4, aB false), (12, aF s27 x0.2), (13, aI ((List.length x0.2 : Nat) : Int)), (14, aI d0)], [(2, oX 60 [cI x1.1, .ro s27 x1.2])]⟩ : St)) (show (((i : Nat) : Int) + 1 : Int) = (((i + 1) : Nat) : Int) from by first | with_reducible rfl | (omega) | rfl)), (by exact ⟨by omega, allTo1_succ hok0.2 (by exact notF' (decide_eq_false (by omega)))⟩), (by omega)⟩
  ·replace h2 : ¬ (((i : Nat) : Int) < ((List.length x0.2 : Nat) : Int)) := of_decide_eq_false h2
   refine wp_exit (then_exit ?_)
   have hs5 : (List.all x0.2 (fun r => !decide (LA.leadS (LA.redS x1.2 r) ≥ 0))) = true := by exact all_of (z := []) (i := i) (by omega) hok0.2
   refine then_exit (in_hit (then_normal (wp_seq ?_)))
   refine at_regq [] { ts := [4], os := [] } [] gamOK hT h (by kernel_rfl) trivial fun a w h => then_normal (wp_ret ?_)
   exact at_return (true, ()) [] h (by kernel_rfl) trivial (congrArg (fun z => (z, ())) (show (true) = isSubI x0 x1 from by first | rfl | (unfold isSubI; rw [if_pos h1, if_pos hs5])))
theorem c_neg0 {x : Int} (h : LA.El x) : LA.c (subF 0 x) = -(LA.c x) := by
 have h' : 0 ≤ x ∧ x ≤ 1018 := h
 have hs : subF 0 x = (0 - x + 1019).tmod 1019 := by
  unfold subF
  (try unfold D_spec_l4Both)
  have e0 : isEl 0 = true := rfl
  have ex : isEl x = true := inR_true h'
  simp only [e0, ex, if_true]
 rw [hs, LA.c_mod (by omega), show 0 - x + 1019 = 1019 - x by omega]; exact LA.c_neg h
theorem nul_of {n : Nat} {R : List (List Int)} (h : LA.RedL n R) : Nul n (R.map LA.vec) (LA.pv R) (fun k => LA.vec (nvL R n k)) := by
 have hL : (R.map LA.vec).length = R.length := List.length_map ..
 have hlt : ∀ i, i < R.length → LA.pv R i < n := fun i hi => by have := h.at_ hi; unfold LA.pv; omega
 have hld : ∀ i, i < R.length → LA.leadS (R.getD i []) = ((LA.pv R i : Nat) : Int) := fun i hi => by have := (h.at_ hi).2.1; unfold LA.pv; omega
 have hat : ∀ k j, j < n → LA.vec (nvL R n k) j = LA.c (nvE R k j) := fun k j hj => by unfold LA.vec nvL; rw [mapR_at _ hj]
 have hpos : ∀ j : Nat, 0 ≤ pvI R (j : Int) → (pvI R (j : Int)).toNat < R.length ∧ LA.pv R (pvI R (j : Int)).toNat = j := fun j hj => by
  have := pvI_bd hj
  refine ⟨this.1, ?_⟩
  have e := hld _ this.1
  rw [this.2] at e; omega
 refine ⟨h.red, fun r hr j hj => ?_, fun i hi => hlt i (by omega), fun k i hk hf hi => ?_, fun k j hk hf hj hfj => ?_, fun k j hj => LA.vec_out (by rw [nvL_len]; exact hj)⟩
 ·obtain ⟨y, hy, rfl⟩ := List.mem_map.1 hr
  exact LA.vec_out (by rw [(h.ok y hy).1]; exact hj)
 ·rw [hL] at hi
  have hp : 0 ≤ pvI R ((LA.pv R i : Nat) : Int) := pvI_any.2 (List.any_eq_true.2 ⟨_, LA.getD_in hi, decide_eq_true (hld i hi)⟩)
  obtain ⟨q1, q2⟩ := hpos _ hp
  have e : (pvI R ((LA.pv R i : Nat) : Int)).toNat = i := h.red.inj (by rw [hL]; exact q1) (by rw [hL]; exact hi) q2
  show LA.vec (nvL R n k) (LA.pv R i) = _
  rw [hat _ _ (hlt i hi)]
  unfold nvE
  rw [if_pos hp, e, c_neg0 ((h.at_ hi).1.at_ k), LA.row_vec hi]; rfl
 ·have hp : ¬ 0 ≤ pvI R (j : Int) := fun hp => by
   obtain ⟨q1, q2⟩ := hpos _ hp
   exact hfj _ (by rw [hL]; exact q1) q2
  show LA.vec (nvL R n k) j = _
  rw [hat _ _ hj]
  unfold nvE
  rw [if_neg hp]
  by_cases e : j = k
  ·rw [if_pos e, if_pos (by omega)]; rfl
  ·rw [if_neg e, if_neg (by omega)]; rfl
def nulN (R : List (List Int)) (n K : Nat) : List LA.V := (frC R K).map fun k => LA.vec (nvL R n k.toNat)
theorem nul_lst {n : Nat} {R : List (List Int)} (h : LA.RedL n R) : NLst (R.map LA.vec) (LA.pv R) (fun k => LA.vec (nvL R n k)) (nulN R n) := by
 have hL : (R.map LA.vec).length = R.length := List.length_map ..
 refine ⟨rfl, fun k => ⟨fun hf => ?_, fun hf => ?_⟩⟩
 ·have ha : R.any (fun e => decide (LA.leadS e = (k : Int))) = false := by
   rw [Bool.eq_false_iff]; intro ha
   obtain ⟨r, hr, he⟩ := List.any_eq_true.1 ha
   have he := of_decide_eq_true he
   obtain ⟨i, hi, rfl⟩ := List.getElem_of_mem hr
   refine hf i (by rw [hL]; exact hi) ?_
   unfold LA.pv; rw [getD_of_lt hi, he]; omega
  unfold nulN
  rw [frC_f ha, List.map_append]; rfl
 ·have ha : R.any (fun e => decide (LA.leadS e = (k : Int))) = true := by
   refine Classical.byContradiction fun hn => hf fun i hi e => hn ?_
   rw [hL] at hi
   refine List.any_eq_true.2 ⟨_, LA.getD_in hi, decide_eq_true ?_⟩
   have := (h.at_ hi).2.1
   unfold LA.pv at e; omega
  unfold nulN
  rw [frC_t ha]
theorem spF_eq {w : Int} {vs : List (List Int)} (hw : 0 ≤ w ∧ w ≤ 40) (hv : ∀ v ∈ vs, LA.VokB w.toNat v) : ∀ i, i ≤ vs.length → foldTo (spS w) [] vs i = insF [] vs i
 | 0, _ => rfl
 | i + 1, hi => by
  have hvi := hv _ (LA.getD_in (rows := vs) (i := i) (by omega))
  rw [foldTo_succ [] (by omega), spF_eq hw hv i (by omega), insF_succ (by omega)]
  unfold spS
  rw [if_pos ⟨validV_of hvi (by omega), by rw [hvi.1]; omega⟩]; rfl
theorem insR_F {rows vs : List (List Int)} : ∀ i, i ≤ vs.length → foldTo insR rows vs i = insF rows vs i
 | 0, _ => rfl
 | i + 1, hi => by rw [foldTo_succ [] (by omega), insR_F i (by omega), insF_succ (by omega)]; rfl
theorem orth_span {b : T60} (h : basP b) : (orthB b).1 = b.1 ∧ ∀ v, LA.Span ((orthB b).2.map LA.vec) v ↔ Supp b.1.toNat v ∧ ∀ r ∈ b.2.map LA.vec, dot b.1.toNat r v = 0 := by
 have hv : ∀ v ∈ nulS b.2 b.1.toNat, LA.VokB b.1.toNat v := fun v hv => by
  obtain ⟨k, _, rfl⟩ := List.mem_map.1 hv
  exact nvL_ok _ _ _
 have e : orthB b = (b.1, insF [] (nulS b.2 b.1.toNat) (nulS b.2 b.1.toNat).length) := by
  unfold orthB
  rw [if_pos ((validB_iff _).2 h)]
  unfold spanB
  rw [if_pos (inR_true h.1), spF_eq h.1 hv _ (Nat.le_refl _)]
 rw [e]
 refine ⟨rfl, fun v => ?_⟩
 have hi := (insF_ok (LA.RedL.nil b.1.toNat) hv _ (Nat.le_refl _)).2
 show LA.Span ((insF [] (nulS b.2 b.1.toNat) (nulS b.2 b.1.toNat).length).map LA.vec) v ↔ _
 rw [hi, List.take_length, ← Nul.span (nul_of h.2) (nul_lst h.2)]
 have e2 : ([] : List (List Int)).map LA.vec ++ (nulS b.2 b.1.toNat).map LA.vec = nulN b.2 b.1.toNat b.1.toNat := by
  unfold nulS nulN
  rw [List.map_map]; rfl
 rw [e2]
theorem orth_back {b : T60} (h : basP b) {v : LA.V} (hs : Supp b.1.toNat v) (hp : ∀ r ∈ (orthB b).2.map LA.vec, dot b.1.toNat r v = 0) : LA.Span (b.2.map LA.vec) v := by
 refine Nul.back (nul_of h.2) (nul_lst h.2) hs fun w hw => ?_
 have hw2 : LA.Span (nulN b.2 b.1.toNat b.1.toNat) w := LA.Span.mem hw
 rw [Nul.span (nul_of h.2) (nul_lst h.2), ← (orth_span h).2] at hw2
 exact dot_span hp hw2
theorem sumB_F {a b : T60} (h : sameW a b = true) : sumB a b = (a.1, insF a.2 b.2 b.2.length) := by
 unfold sumB; rw [if_pos h, insR_F _ (Nat.le_refl _)]
theorem sameW_of {a b : T60} (ha : basP a) (hb : basP b) (h : a.1 = b.1) : sameW a b = true := by
 unfold sameW
 rw [if_pos ((validB_iff _).2 ha), if_pos ((validB_iff _).2 hb)]
 exact decide_eq_true h
theorem int_span {a b : T60} (ha : basP a) (hb : basP b) (h : a.1 = b.1) : (intB a b).1 = a.1 ∧ ∀ v, LA.Span ((intB a b).2.map LA.vec) v ↔ LA.Span (a.2.map LA.vec) v ∧ LA.Span (b.2.map LA.vec) v := by
 obtain ⟨oa1, oa2⟩ := orth_span ha
 obtain ⟨ob1, ob2⟩ := orth_span hb
 have pa := orthB_P a; have pb := orthB_P b
 have hs := sameW_of pa pb (by rw [oa1, ob1, h])
 have hS := sumB_P hs
 have e := sumB_F hs
 obtain ⟨os1, os2⟩ := orth_span hS
 have e1 : (sumB (orthB a) (orthB b)).1 = a.1 := by rw [e]; exact oa1
 have hn : b.1.toNat = a.1.toNat := by rw [h]
 have pa2 : LA.RedL a.1.toNat (orthB a).2 := by have := pa.2; rwa [oa1] at this
 have pb2 : ∀ v ∈ (orthB b).2, LA.VokB a.1.toNat v := fun v hv => by have := pb.2.ok v hv; rwa [ob1, hn] at this
 have hsp := (insF_ok pa2 pb2 _ (Nat.le_refl _)).2
 have hi : intB a b = orthB (sumB (orthB a) (orthB b)) := if_pos (sameW_of ha hb h)
 rw [hi]
 refine ⟨os1.trans e1, fun v => ?_⟩
 rw [os2, e1]
 have e2 : (sumB (orthB a) (orthB b)).2 = insF (orthB a).2 (orthB b).2 (orthB b).2.length := by rw [e]
 rw [e2]
 rw [hn] at ob2
 constructor
 ·rintro ⟨hv, hp⟩
  constructor
  ·refine orth_back ha hv fun r hr => dot_span hp ?_
   rw [hsp, List.take_length]; exact LA.Span.mem (List.mem_append.2 (.inl hr))
  ·refine orth_back hb (by rw [hn]; exact hv) fun r hr => ?_
   rw [hn]
   refine dot_span hp ?_
   rw [hsp, List.take_length]; exact LA.Span.mem (List.mem_append.2 (.inr hr))
 ·rintro ⟨h1, h2⟩
  have sa : ∀ r ∈ a.2.map LA.vec, Supp a.1.toNat r := fun r hr j hj => by
   obtain ⟨y, hy, rfl⟩ := List.mem_map.1 hr
   exact LA.vec_out (by rw [(ha.2.ok y hy).1]; exact hj)
  refine ⟨Supp.span sa h1, fun r hr => ?_⟩
  have hr2 : LA.Span ((insF (orthB a).2 (orthB b).2 (orthB b).2.length).map LA.vec) r := LA.Span.mem hr
  rw [hsp, List.take_length] at hr2
  refine dot_span (fun q hq => ?_) hr2
  rcases List.mem_append.1 hq with hq | hq
  ·have := ((oa2 q).1 (LA.Span.mem hq)).2
   rw [dot_comm]; exact dot_span this h1
  ·have := ((ob2 q).1 (LA.Span.mem hq)).2
   rw [dot_comm]; exact dot_span this h2
theorem isSub_iff {a b : T60} (ha : basP a) (hb : basP b) (h : a.1 = b.1) : isSubI a b = true ↔ ∀ v, LA.Span (a.2.map LA.vec) v → LA.Span (b.2.map LA.vec) v := by
 have hok : ∀ r ∈ a.2, LA.VokB b.1.toNat r := fun r hr => by have := ha.2.ok r hr; rwa [h] at this
 have e : isSubI a b = true ↔ ∀ r ∈ a.2, LA.leadS (LA.redS b.2 r) < 0 := by
  unfold isSubI
  rw [if_pos (sameW_of ha hb h)]
  constructor
  ·intro hh r hr
   have hall : (a.2.all fun r => !decide (LA.leadS (LA.redS b.2 r) ≥ 0)) = true := by
    first | exact hh | (split at hh; · assumption
                        ·cases hh)
   have := List.all_eq_true.1 hall r hr
   simp at this
   omega
  ·intro hh
   have hall : (a.2.all fun r => !decide (LA.leadS (LA.redS b.2 r) ≥ 0)) = true := List.all_eq_true.2 fun r hr => by
    have := hh r hr
    simp; omega
   first | exact hall | exact if_pos hall
 rw [e]
 constructor
 ·intro hh v hv
  exact LA.Span.of_mem (fun r hr => by
   obtain ⟨y, hy, rfl⟩ := List.mem_map.1 hr
   exact (lead_span hb.2 (hok y hy)).1 (hh y hy)) hv
 ·intro hh r hr
  exact (lead_span hb.2 (hok r hr)).2 (hh _ (LA.Span.mem (List.mem_map.2 ⟨r, hr, rfl⟩)))
structure SubOK (a b : T60) : Prop where
 dim : D_impl_Dimension (sumB a b) + D_impl_Dimension (intB a b) = D_impl_Dimension a + D_impl_Dimension b
 s1 : isSubI a (sumB a b) = true
 s2 : isSubI b (sumB a b) = true
 s3 : isSubI (intB a b) a = true
 s4 : isSubI (intB a b) b = true
 eq : sumB a b = sumB b a
 inn : innovB a b = D_impl_Dimension (sumB a b) - D_impl_Dimension a
 zer : isSubI a b = decide (innovB b a = 0)
 f1 : Sh.fit s60 (sumB a b)
 f2 : Sh.fit s60 (intB a b)
 b1 : 0 ≤ D_impl_Dimension (sumB a b) ∧ D_impl_Dimension (sumB a b) ≤ 40
 b2 : 0 ≤ D_impl_Dimension (intB a b) ∧ D_impl_Dimension (intB a b) ≤ 40
 b3 : 0 ≤ D_impl_Dimension a ∧ D_impl_Dimension a ≤ 40
 b4 : 0 ≤ D_impl_Dimension b ∧ D_impl_Dimension b ≤ 40
theorem sub_ok {a b : T60} (ha : basP a) (hb : basP b) (h : a.1 = b.1) : SubOK a b := by
 have hs := sameW_of ha hb h
 have ht := sameW_of hb ha h.symm
 have pS := sumB_P hs; have pT := sumB_P ht; have pI := intB_P a b
 obtain ⟨w1, w2⟩ := int_span ha hb h
 have eS := sumB_F hs; have eT := sumB_F ht
 have hn : b.1.toNat = a.1.toNat := by rw [h]
 have okb : ∀ v ∈ b.2, LA.VokB a.1.toNat v := fun v hv => by have := hb.2.ok v hv; rwa [hn] at this
 have oka : ∀ v ∈ a.2, LA.VokB b.1.toNat v := fun v hv => by have := ha.2.ok v hv; rwa [← hn] at this
 have hb2 : LA.RedL a.1.toNat b.2 := by have := hb.2; rwa [hn] at this
 have hI2 : LA.RedL a.1.toNat (intB a b).2 := by have := pI.2; rwa [w1] at this
 obtain ⟨r1, r2⟩ := insF_ok ha.2 okb _ (Nat.le_refl _)
 obtain ⟨q1, q2⟩ := insF_ok hb.2 oka _ (Nat.le_refl _)
 rw [List.take_length] at r2 q2
 have dm : ∀ {x : T60}, basP x → D_impl_Dimension x = ((List.length x.2 : Nat) : Int) := fun hx => if_pos ((validB_iff _).2 hx)
 have bd : ∀ {x : T60}, basP x → 0 ≤ D_impl_Dimension x ∧ D_impl_Dimension x ≤ 40 := fun hx => by
  rw [dm hx]; have := hx.2.len; have := hx.1; omega
 have dims := dim_formula hb2 ha.2 hI2 (fun v => by rw [w2 v]; exact And.comm)
 have eS2 : (sumB a b).2 = insF a.2 b.2 b.2.length := by rw [eS]
 have eT2 : (sumB b a).2 = insF b.2 a.2 a.2.length := by rw [eT]
 have eS1 : (sumB a b).1 = a.1 := by rw [eS]
 have eT1 : (sumB b a).1 = b.1 := by rw [eT]
 refine ⟨?_, ?_, ?_, ?_, ?_, ?_, ?_, ?_, basP_fit pS, basP_fit pI, bd pS, bd pI, bd ha, bd hb⟩
 ·rw [dm pS, dm pI, dm ha, dm hb, eS2]; omega
 ·rw [isSub_iff ha pS eS1.symm, eS2]
  intro v hv; rw [r2]
  exact LA.Span.of_mem (fun r hr => LA.Span.mem (List.mem_append.2 (.inl hr))) hv
 ·rw [isSub_iff hb pS (by rw [eS1, h]), eS2]
  intro v hv; rw [r2]
  exact LA.Span.of_mem (fun r hr => LA.Span.mem (List.mem_append.2 (.inr hr))) hv
 ·rw [isSub_iff pI ha w1]
  intro v hv; exact ((w2 v).1 hv).1
 ·rw [isSub_iff pI hb (by rw [w1, h])]
  intro v hv; exact ((w2 v).1 hv).2
 ·refine Prod.ext (by rw [eS1, eT1, h]) ?_
  rw [eS2, eT2]
  rw [hn] at q1
  refine r1.uniq q1 fun x => ?_
  rw [r2, q2]
  constructor <;> (refine LA.Span.of_mem fun r hr => LA.Span.mem ?_; rcases List.mem_append.1 hr with hr | hr <;> simp_all)
 ·unfold innovB
  rw [if_pos hs, dm pS, dm ha]
 ·have key : isSubI a b = true ↔ innovB b a = 0 := by
   rw [isSub_iff ha hb h]
   unfold innovB
   rw [if_pos ht, eT2]
   have := insF_same hb.2 oka
   constructor
   ·intro hh
    have e := this.2 (fun v hv => hh _ (LA.Span.mem (List.mem_map.2 ⟨v, hv, rfl⟩)))
    omega
   ·intro hh v hv
    have e := this.1 (by omega)
    exact LA.Span.of_mem (fun r hr => by
     obtain ⟨y, hy, rfl⟩ := List.mem_map.1 hr
     exact e y hy) hv
  cases hx : isSubI a b with
  | true => exact (decide_eq_true (key.1 hx)).symm
  | false => exact (decide_eq_false (fun e => by rw [key.2 e] at hx; cases hx)).symm

def basIt (x : T109) (w : Int) : Nat → T109 × T60
 | 0 => (x, newBas w)
 | i + 1 => ((vecD (basIt x w i).1 w).1, (insV (basIt x w i).2 (vecD (basIt x w i).1 w).2).1)
theorem basIt_inv {x : T109} {w : Int} (hx : 0 ≤ x.2.1) (hw : 0 ≤ w ∧ w ≤ 40) : ∀ i, 0 ≤ (basIt x w i).1.2.1 ∧ basP (basIt x w i).2 ∧ (basIt x w i).2.1 = w
 | 0 => by
  have e : newBas w = (w, []) := if_pos (inR_true hw)
  refine ⟨hx, ?_, ?_⟩
  ·show basP (newBas w); rw [e]; exact ⟨hw, LA.RedL.nil _⟩
  ·show (newBas w).1 = w; rw [e]
 | i + 1 => by
  obtain ⟨h1, h2, h3⟩ := basIt_inv hx hw i
  have h4 := insV_P (v := (vecD (basIt x w i).1 w).2) h2
  exact ⟨(vecD_ok h1).1, h4.1, h4.2.trans h3⟩
def basD (x0 : T109) (x1 : Int) : T109 × T60 := ((basIt (belowC x0 5).1 x1 (belowC x0 5).2.toNat).1, (basIt (belowC x0 5).1 x1 (belowC x0 5).2.toNat).2)
abbrev Q_spec_l8Basis := (fun (x0 : T109) (x1 : Int) => 0 ≤ x0.2.1 ∧ (0 ≤ x1 ∧ x1 ≤ 40))
def B_spec_l8Basis : BS := { t := 109, s := s109, dom := [(.int 3)], cod := [s60], pre := fun y x => Q_spec_l8Basis y x.1, upd := fun y x => (basD y x.1).1, g := fun y x => ((basD y x.1).2, ()), dp := false }
def S_spec_l8Basis : Sum := bSum 95 B_spec_l8Basis
def S_spec_l8Basis_tab : List (Nat × Sum) := [(151, S_spec_NewBasis), (73, S_spec_l1Below), (153, S_spec_l5Vector), (152, S_spec_InsertVector)]
theorem S_spec_l8Basis_ok : FnOK Try.prog 95 S_spec_l8Basis := by
 refine at_enterB (B := B_spec_l8Basis) 24 (fun v y x => ⟨[(0, aP 1 0), (1, aI x.1)], [(1, oX 109 [.ro (.u8 5) y.1, cI y.2.1, cI y.2.2]), (2, oP 1 v)]⟩) Try.func95 rfl (by kernel_rfl) (fun v y x => rfl) ?_
 rintro w0 Z0 b0 x0 ⟨x1, u⟩ a w
 revert x0 x1
 intro (x0 : T109) (x1 : Int) hpre hlens0 hlens h
 replace h : At w0 Z0 [b0] 24 ⟨[(0, aP 1 0), (1, aI x1)], [(1, oX 109 [.ro (.u8 5) x0.1, cI x0.2.1, cI x0.2.2]), (2, oP 1 (Value.pointer (some ⟨b0, 0, none⟩)))]⟩ a w := h
 replace hpre : Q_spec_l8Basis x0 x1 := hpre
 have hl1 : List.length x0.1 ≤ 9223372036854775807 := hlens0.1.1
 have hu0 : u8L x0.1 := hlens0.1.2
 have hT : TabOK Try.prog S_spec_l8Basis_tab := (.cons S_spec_NewBasis_ok (.cons S_spec_l1Below_ok (.cons S_spec_l5Vector_ok (.cons S_spec_InsertVector_ok .nil))))
 have hb := below_bd x0 (n := 5) (by decide)
 have hc := below_ok (n := 5) hpre.1
 have hp2 := hpre.2
 refine wp_seq ?_
 refine at_regq [{ ids := [3] }] { ts := [0, 1, 4], os := [1, 2, 3] } [] gamOK hT h (by kernel_rfl) trivial fun a w h => then_normal (wp_seq ?_)
 refine at_regq [{}, { ids := [4] }, { ids := [5] }] { ts := [0, 1, 4, 5], os := [1, 2, 3, 4, 5] } [True] gamOK hT h (by kernel_rfl) ⟨trivial, trivial⟩ fun a w h => then_normal (wp_seq (wp_seq ?_))
 refine at_regq [] { ts := [0, 1, 4, 5, 6], os := [1, 2, 3, 4, 5] } [B_spec_l1Below.pre x0 (5, ())] gamOK hT h (by kernel_rfl) ⟨(by exact hpre.1), trivial⟩ fun a w h => then_normal (wp_block ?_)
 replace h := at_out (σ' := ⟨[(0, aP 1 0), (1, aI x1), (4, aP 3 0), (5, aP 5 0), (6, aI (belowC x0 5).2)], [(1, oX 109 [.ro (.u8 5) (belowC x0 5).1.1, cI (belowC x0 5).1.2.1, cI (belowC x0 5).1.2.2]), (2, oP 1 (Value.pointer (some ⟨b0, 0, none⟩))), (3, oX 60 [cI 0, cN]), (4, oF s27 (newBas x1).2), (5, oX 60 [cI (newBas x1).1, .sl 4])]⟩) { ts := [0, 1, 4, 5, 6], os := [1, 2, 3, 4, 5] } h (by kernel_rfl)
 refine at_loop (fun i : Nat => (⟨[(0, aP 1 0), (1, aI x1), (4, aP 3 0), (5, aP 5 0), (6, aI ((belowC x0 5).2 - ((i : Nat) : Int)))], [(1, oX 109 [.ro (.u8 5) (basIt (belowC x0 5).1 x1 i).1.1, cI (basIt (belowC x0 5).1 x1 i).1.2.1, cI (basIt (belowC x0 5).1 x1 i).1.2.2]), (2, oP 1 (Value.pointer (some ⟨b0, 0, none⟩))), (3, oX 60 [cI 0, cN]), (4, oF s27 (basIt (belowC x0 5).1 x1 i).2.2), (5, oX 60 [cI (basIt (belowC x0 5).1 x1 i).2.1, .sl 4])]⟩ : St)) (fun i => ((i : Nat) : Int) ≤ (belowC x0 5).2) (fun i => (belowC x0 5).2.toNat - i) (0) h (st_congr6 (fun (d0 : List Int) (d1 : Int) (d2 : Int) (d3 : Int) (d4 : List (List Int)) (d5 : Int) => (⟨[(0, aP 1 0), (1, aI x1), (4, aP 3 0), (5, aP 5 0), (6, aI d5)], [(1, oX 109 [.ro (.u8 5) d0, cI d1, cI d2]), (2, oP 1 (Value.pointer (some ⟨b0, 0, none⟩))), (3, oX 60 [cI 0, cN]), (4, oF s27 d4), (5, oX 60 [cI d3, .sl 4])]⟩ : St)) (show ((belowC x0 5).1.1 : List Int) = (basIt (belowC x0 5).1 x1 (0)).1.1 from by first | with_reducible rfl | (first | rfl | omega) | rfl) (show ((belowC x0 5).1.2.1 : Int) = (basIt (belowC x0 5).1 x1 (0)).1.2.1 from by first | with_reducible rfl | (first | rfl | omega) | rfl) (show ((belowC x0 5).1.2.2 : Int) = (basIt (belowC x0 5).1 x1 (0)).1.2.2 from by first | with_reducible rfl | (first | rfl | omega) | rfl) (show ((newBas x1).1 : Int) = (basIt (belowC x0 5).1 x1 (0)).2.1 from by first | with_reducible rfl | (first | rfl | omega) | rfl) (show ((newBas x1).2 : List (List Int)) = (basIt (belowC x0 5).1 x1 (0)).2.2 from by first | with_reducible rfl | (first | rfl | omega) | rfl) (show ((belowC x0 5).2 : Int) = ((belowC x0 5).2 - (((0) : Nat) : Int)) from by first | with_reducible rfl | (first | rfl | omega) | rfl)) (by omega) ?_
 intro i a w hok0 h
 have hbi := basIt_inv hc hp2 i
 refine wp_seq (wp_seq ?_)
 refine at_regq [] { ts := [0, 1, 4, 5, 6, 12], os := [1, 2, 3, 4, 5] } [] gamOK hT h (by kernel_rfl) trivial fun a w h => then_normal ?_
 refine at_test (decide (((belowC x0 5).2 - ((i : Nat) : Int)) > 0)) h (by kernel_rfl) (fun h1 => ?_) (fun h1 => ?_)
 ·replace h1 : ((belowC x0 5).2 - ((i : Nat) : Int)) > 0 := of_decide_eq_true h1
  refine wp_skip (then_normal (wp_seq (wp_block ?_)))
  replace h := at_out (σ' := ⟨[(0, aP 1 0), (1, aI x1), (4, aP 3 0), (5, aP 5 0), (6, aI ((belowC x0 5).2 - ((i : Nat) : Int)))], [(1, oX 109 [.ro (.u8 5) (basIt (belowC x0 5).1 x1 i).1.1, cI (basIt (belowC x0 5).1 x1 i).1.2.1, cI (basIt (belowC x0 5).1 x1 i).1.2.2]), (2, oP 1 (Value.pointer (some ⟨b0, 0, none⟩))), (3, oX 60 [cI 0, cN]), (5, oX 60 [cI (basIt (belowC x0 5).1 x1 i).2.1, .ro s27 (basIt (belowC x0 5).1 x1 i).2.2])]⟩) { fz := [4], ts := [0, 1, 4, 5, 6], os := [1, 2, 3, 5] } h (by kernel_rfl)
  refine at_anyq [{}, {}, {}, { frz := true }, { ids := [6] }, {}, {}, {}, {}] { ts := [0, 1, 4, 5, 6], os := [1, 2, 3, 5, 6] } [B_spec_l5Vector.pre (basIt (belowC x0 5).1 x1 i).1 (x1, ()), Q_spec_InsertVector (basIt (belowC x0 5).1 x1 i).2 (vecD (basIt (belowC x0 5).1 x1 i).1 x1).2] gamOK hT mixed h (by kernel_rfl) ⟨(by exact ⟨hbi.1, by omega⟩), (by (have hvd := vecD_ok (n := x1) hbi.1; exact ⟨basP_fit hbi.2.1, fitV hvd.2 (by omega)⟩)), trivial⟩ fun a w h => in_normal (then_normal ?_)
  refine at_regq [{}, { nw := true }] { ts := [0, 1, 4, 5, 6], os := [1, 2, 3, 5, 6] } [I64 (((belowC x0 5).2 - ((i : Nat) : Int)) - 1)] gamOK hT h (by kernel_rfl) ⟨⟨by first | omega | (simp only [lsA]; omega) | (simp <;> omega), by first | omega | (simp only [lsA]; omega) | (simp <;> omega)⟩, trivial⟩ fun a w h => ?_
  replace h := at_out (σ' := ⟨[(0, aP 1 0), (1, aI x1), (4, aP 3 0), (5, aP 5 0), (6, aI (((belowC x0 5).2 - ((i : Nat) : Int)) - 1))], [(1, oX 109 [.ro (.u8 5) (vecD (basIt (belowC x0 5).1 x1 i).1 x1).1.1, cI (vecD (basIt (belowC x0 5).1 x1 i).1 x1).1.2.1, cI (vecD (basIt (belowC x0 5).1 x1 i).1 x1).1.2.2]), (2, oP 1 (Value.pointer (some ⟨b0, 0, none⟩))), (3, oX 60 [cI 0, cN]), (4, oF s27 (insV (basIt (belowC x0 5).1 x1 i).2 (vecD (basIt (belowC x0 5).1 x1 i).1 x1).2).1.2), (5, oX 60 [cI (insV (basIt (belowC x0 5).1 x1 i).2 (vecD (basIt (belowC x0 5).1 x1 i).1 x1).2).1.1, .sl 4])]⟩) { ts := [0, 1, 4, 5, 6], os := [1, 2, 3, 6, 5], rn := [(6, 4)] } h (by kernel_rfl)
  exact ⟨i + 1, at_eq h (st_congr6 (fun (d0 : List Int) (d1 : Int) (d2 : Int) (d3 : Int) (d4 : List (List Int)) (d5 : Int) => (⟨[(0, aP 1 0), (1, aI x1), (4, aP 3 0), (5, aP 5 0), (6, aI d5)], [(1, oX 109 [.ro (.u8 5) d0, cI d1, cI d2]), (2, oP 1 (Value.pointer (some ⟨b0, 0, none⟩))), (3, oX 60 [cI 0, cN]), (4, oF s27 d4), (5, oX 60 [cI d3, .sl 4])]⟩ : St)) (show ((vecD (basIt (belowC x0 5).1 x1 i).1 x1).1.1 : List Int) = (basIt (belowC x0 5).1 x1 (i + 1)).1.1 from by first | with_reducible rfl | (rfl) | rfl) (show ((vecD (basIt (belowC x0 5).1 x1 i).1 x1).1.2.1 : Int) = (basIt (belowC x0 5).1 x1 (i + 1)).1.2.1 from by first | with_reducible rfl | (rfl) | rfl) (show ((vecD (basIt (belowC x0 5).1 x1 i).1 x1).1.2.2 : Int) = (basIt (belowC x0 5).1 x1 (i + 1)).1.2.2 from by first | with_reducible rfl | (rfl) | rfl) (show ((insV (basIt (belowC x0 5).1 x1 i).2 (vecD (basIt (belowC x0 5).1 x1 i).1 x1).2).1.1 : Int) = (basIt (belowC x0 5).1 x1 (i + 1)).2.1 from by first | with_reducible rfl | (rfl) | rfl) (show ((insV (basIt (belowC x0 5).1 x1 i).2 (vecD (basIt (belowC x0 5).1 x1 i).1 x1).2).1.2 : List (List Int)) = (basIt (belowC x0 5).1 x1 (i + 1)).2.2 from by first | with_reducible rfl | (rfl) | rfl) (show (((belowC x0 5).2 - ((i : Nat) : Int)) - 1 : Int) = ((belowC x0 5).2 - (((i + 1) : Nat) : Int)) from by first | with_reducible rfl | (omega) | rfl)), (by omega), (by omega)⟩
 ·replace h1 : ¬ (((belowC x0 5).2 - ((i : Nat) : Int)) > 0) := of_decide_eq_false h1
  refine wp_exit (then_exit ?_)
  replace h := at_out (σ' := ⟨[(4, aP 3 0), (5, aP 5 0)], [(1, oX 109 [.ro (.u8 5) (basIt (belowC x0 5).1 x1 i).1.1, cI (basIt (belowC x0 5).1 x1 i).1.2.1, cI (basIt (belowC x0 5).1 x1 i).1.2.2]), (2, oP 1 (Value.pointer (some ⟨b0, 0, none⟩))), (3, oX 60 [cI 0, cN]), (4, oF s27 (basIt (belowC x0 5).1 x1 i).2.2), (5, oX 60 [cI (basIt (belowC x0 5).1 x1 i).2.1, .sl 4])]⟩) { ts := [4, 5], os := [1, 2, 3, 4, 5] } h (by kernel_rfl)
  replace h := at_eq (σ' := ⟨[(4, aP 3 0), (5, aP 5 0)], [(1, oX 109 [.ro (.u8 5) (basIt (belowC x0 5).1 x1 (belowC x0 5).2.toNat).1.1, cI (basIt (belowC x0 5).1 x1 (belowC x0 5).2.toNat).1.2.1, cI (basIt (belowC x0 5).1 x1 (belowC x0 5).2.toNat).1.2.2]), (2, oP 1 (Value.pointer (some ⟨b0, 0, none⟩))), (3, oX 60 [cI 0, cN]), (4, oF s27 (basIt (belowC x0 5).1 x1 (belowC x0 5).2.toNat).2.2), (5, oX 60 [cI (basIt (belowC x0 5).1 x1 (belowC x0 5).2.toNat).2.1, .sl 4])]⟩) h (st_congr5 (fun (d0 : List Int) (d1 : Int) (d2 : Int) (d3 : Int) (d4 : List (List Int)) => (⟨[(4, aP 3 0), (5, aP 5 0)], [(1, oX 109 [.ro (.u8 5) d0, cI d1, cI d2]), (2, oP 1 (Value.pointer (some ⟨b0, 0, none⟩))), (3, oX 60 [cI 0, cN]), (4, oF s27 d4), (5, oX 60 [cI d3, .sl 4])]⟩ : St)) (show ((basIt (belowC x0 5).1 x1 i).1.1 : List Int) = (basIt (belowC x0 5).1 x1 (belowC x0 5).2.toNat).1.1 from by first | with_reducible rfl | (rw [show (belowC x0 5).2.toNat = i by omega]) | rfl) (show ((basIt (belowC x0 5).1 x1 i).1.2.1 : Int) = (basIt (belowC x0 5).1 x1 (belowC x0 5).2.toNat).1.2.1 from by first | with_reducible rfl | (rw [show (belowC x0 5).2.toNat = i by omega]) | rfl) (show ((basIt (belowC x0 5).1 x1 i).1.2.2 : Int) = (basIt (belowC x0 5).1 x1 (belowC x0 5).2.toNat).1.2.2 from by first | with_reducible rfl | (rw [show (belowC x0 5).2.toNat = i by omega]) | rfl) (show ((basIt (belowC x0 5).1 x1 i).2.1 : Int) = (basIt (belowC x0 5).1 x1 (belowC x0 5).2.toNat).2.1 from by first | with_reducible rfl | (rw [show (belowC x0 5).2.toNat = i by omega]) | rfl) (show ((basIt (belowC x0 5).1 x1 i).2.2 : List (List Int)) = (basIt (belowC x0 5).1 x1 (belowC x0 5).2.toNat).2.2 from by first | with_reducible rfl | (rw [show (belowC x0 5).2.toNat = i by omega]) | rfl))
  refine then_exit (in_hit (then_normal (wp_seq ?_)))
  refine at_regq [] { ts := [4], os := [1, 2, 3, 4] } [] gamOK hT h (by kernel_rfl) trivial fun a w h => then_normal (wp_ret ?_)
  have hr2 : (((basIt (belowC x0 5).1 x1 (belowC x0 5).2.toNat).1, (basIt (belowC x0 5).1 x1 (belowC x0 5).2.toNat).2) : T109 × T60) = basD x0 x1 := by rfl
  exact at_returnB (B := B_spec_l8Basis) (c0 := x0) (x := (x1, ())) ((basIt (belowC x0 5).1 x1 (belowC x0 5).2.toNat).1) ((basIt (belowC x0 5).1 x1 (belowC x0 5).2.toNat).2, ()) [(Value.pointer (some ⟨b0, 0, none⟩)) = (Value.pointer (some ⟨b0, 0, none⟩))] h (by kernel_rfl) ⟨rfl, trivial⟩ (congrArg (a₁ := ((basIt (belowC x0 5).1 x1 (belowC x0 5).2.toNat).1, (basIt (belowC x0 5).1 x1 (belowC x0 5).2.toNat).2)) (a₂ := basD x0 x1) (fun (z : T109 × T60) => z.1) hr2) (congrArg (a₁ := ((basIt (belowC x0 5).1 x1 (belowC x0 5).2.toNat).1, (basIt (belowC x0 5).1 x1 (belowC x0 5).2.toNat).2)) (a₂ := basD x0 x1) (fun (z : T109 × T60) => (z.2, ())) hr2)
theorem basD_ok {x : T109} {w : Int} (h : 0 ≤ x.2.1) (hw : 0 ≤ w ∧ w ≤ 40) : 0 ≤ (basD x w).1.2.1 ∧ basP (basD x w).2 ∧ (basD x w).2.1 = w := basIt_inv (below_ok (n := 5) h) hw _

def drawSp (x0 : (List Int)) : T60 × T60 := ((basD (belowC (newC x0) 5).1 (1 + (belowC (newC x0) 5).2)).2, (basD (basD (belowC (newC x0) 5).1 (1 + (belowC (newC x0) 5).2)).1 (1 + (belowC (newC x0) 5).2)).2)
abbrev Q_spec_DrawSpaces := (fun (x0 : (List Int)) => Sh.fit s22 x0)
def S_spec_DrawSpaces : Sum := { fid := 41, dom := [s22], cod := [s60, s60], dp := false, fz := false, pre := fun x => Q_spec_DrawSpaces x.1, g := fun x => ((drawSp x.1).1, ((drawSp x.1).2, ())) }
def S_spec_DrawSpaces_tab : List (Nat × Sum) := [(46, S_spec_l1New), (73, S_spec_l1Below), (95, S_spec_l8Basis)]
theorem S_spec_DrawSpaces_ok : FnOK Try.prog 41 S_spec_DrawSpaces := by
 refine at_enter 19 (fun x => ⟨[(0, aF (.u8 5) x.1)], []⟩) Try.func41 rfl (by kernel_rfl) (fun x => rfl) ?_
 rintro w0 Z0 ⟨x0, u⟩ a w
 revert x0
 intro (x0 : (List Int)) hpre hlens h
 replace hpre : Q_spec_DrawSpaces x0 := hpre
 have hu0 : u8L x0 := hlens.1.2
 have hT : TabOK Try.prog S_spec_DrawSpaces_tab := (.cons S_spec_l1New_ok (.cons S_spec_l1Below_ok (.cons S_spec_l8Basis_ok .nil)))
 have hf0 : Sh.fit s22 x0 := hpre
 have hn0_1 : List.length x0 ≤ 1073741824 := hf0.1
 have hb5 := below_bd (newC x0) (n := 5) (by decide)
 have hc5 := below_ok (n := 5) (x := newC x0) (Int.le_refl 0)
 refine wp_seq ?_
 refine at_regq [{ ids := [1] }, { ids := [2] }] { ts := [0, 2, 3], os := [1, 2] } [] gamOK hT h (by kernel_rfl) trivial fun a w h => then_normal (wp_seq ?_)
 refine at_regq [{}, { ids := [3] }] { ts := [2, 3, 4], os := [1, 2, 3] } [B_spec_l1New.pre (x0, ())] gamOK hT h (by kernel_rfl) ⟨(by exact hf0), trivial⟩ fun a w h => then_normal (wp_seq ?_)
 refine at_regq [{}, {}, { nw := true }] { ts := [2, 3, 4, 5], os := [1, 2, 3] } [B_spec_l1Below.pre (newC x0) (5, ()), I64 (1 + (belowC (newC x0) 5).2)] gamOK hT h (by kernel_rfl) ⟨(by first | exact Int.le_refl 0 | exact (Int.le_refl 0)), ⟨by first | omega | (simp only [lsA]; omega) | (simp <;> omega), by first | omega | (simp only [lsA]; omega) | (simp <;> omega)⟩, trivial⟩ fun a w h => then_normal (wp_seq ?_)
 refine at_regq [{}, {}, { ids := [4] }, { ids := [5] }] { ts := [2, 3, 4, 5, 6], os := [1, 2, 3, 4, 5] } [B_spec_l8Basis.pre (belowC (newC x0) 5).1 (1 + (belowC (newC x0) 5).2, ())] gamOK hT h (by kernel_rfl) ⟨(by exact ⟨(below_ok (Int.le_refl 0)), by omega⟩), trivial⟩ fun a w h => then_normal (wp_seq ?_)
 refine at_anyq [{}, {}, {}, { ids := [6] }, {}, {}] { ts := [2, 3], os := [1, 2, 4, 6] } [B_spec_l8Basis.pre (basD (belowC (newC x0) 5).1 (1 + (belowC (newC x0) 5).2)).1 (1 + (belowC (newC x0) 5).2, ())] gamOK hT mixed h (by kernel_rfl) ⟨(by exact ⟨(basD_ok (below_ok (Int.le_refl 0)) (by omega)).1, by omega⟩), trivial⟩ fun a w h => then_normal (wp_ret ?_)
 exact at_return ((basD (belowC (newC x0) 5).1 (1 + (belowC (newC x0) 5).2)).2, ((basD (basD (belowC (newC x0) 5).1 (1 + (belowC (newC x0) 5).2)).1 (1 + (belowC (newC x0) 5).2)).2, ())) [] h (by kernel_rfl) trivial (congrArg (fun z => (z.1, z.2, ())) (show (((basD (belowC (newC x0) 5).1 (1 + (belowC (newC x0) 5).2)).2, (basD (basD (belowC (newC x0) 5).1 (1 + (belowC (newC x0) 5).2)).1 (1 + (belowC (newC x0) 5).2)).2)) = drawSp x0 from by rfl))
theorem drawSp_ok (x : List Int) : basP (drawSp x).1 ∧ basP (drawSp x).2 ∧ (drawSp x).1.1 = (drawSp x).2.1 := by
 have hb5 := below_bd (newC x) (n := 5) (by decide)
 have hc5 := below_ok (n := 5) (x := newC x) (Int.le_refl 0)
 have h1 := basD_ok (w := 1 + (belowC (newC x) 5).2) hc5 (by omega)
 have h2 := basD_ok (w := 1 + (belowC (newC x) 5).2) h1.1 (by omega)
 unfold drawSp
 exact ⟨h1.2.1, h2.2.1, h1.2.2.trans h2.2.2.symm⟩

def D_laws_FnSubspaces := (fun (_ : List Int) => true)
abbrev Q_laws_FnSubspaces := (fun (x0 : List Int) => Sh.i64 s22 x0)
def S_laws_FnSubspaces : Sum := { fid := 7, dom := [s22], cod := [(.bool 4)], dp := true, fz := false, pre := fun x => Q_laws_FnSubspaces x.1, g := fun x => ((D_laws_FnSubspaces x.1), ()) }
def S_laws_FnSubspaces_tab : List (Nat × Sum) := [(8, S_laws_big), (41, S_spec_DrawSpaces), (42, S_impl_SumOf), (43, S_impl_IntersectionOf), (36, S_impl_Dimension), (44, S_impl_IsSubspace), (32, S_impl_EqualBases), (45, S_impl_InnovationOf)]
theorem S_laws_FnSubspaces_ok : FnOK Try.prog 7 S_laws_FnSubspaces := by
 refine at_enter 79 (fun x => ⟨[(0, aF (.u8 5) x.1)], []⟩) Try.func7 rfl (by kernel_rfl) (fun x => rfl) ?_
 rintro w0 Z0 ⟨x0, u⟩ a w
 revert x0
 intro (x0 : (List Int)) hpre hlens h
 replace hpre : Q_laws_FnSubspaces x0 := hpre
 have hl1 : List.length x0 ≤ 9223372036854775807 := hlens.1.1
 have hu0 : u8L x0 := hlens.1.2
 have hT : TabOK Try.prog S_laws_FnSubspaces_tab := (.cons S_laws_big_ok (.cons S_spec_DrawSpaces_ok (.cons S_impl_SumOf_ok (.cons S_impl_IntersectionOf_ok (.cons S_impl_Dimension_ok (.cons S_impl_IsSubspace_ok (.cons S_impl_EqualBases_ok (.cons S_impl_InnovationOf_ok .nil))))))))
 refine wp_seq ?_
 refine at_regq [] { ts := [0, 2], os := [] } [] gamOK hT h (by kernel_rfl) trivial fun a w h => then_normal (wp_seq (wp_seq ?_))
 refine at_regq [] { ts := [0, 2, 8], os := [] } [True] gamOK hT h (by kernel_rfl) ⟨trivial, trivial⟩ fun a w h => then_normal ?_
 refine at_test ((bigF x0)) h (by kernel_rfl) (fun h1 => ?_) (fun h1 => ?_)
 ·refine wp_seq ?_
  refine at_regq [] { ts := [0, 2], os := [] } [] gamOK hT h (by kernel_rfl) trivial fun a w h => then_normal (wp_ret (then_ret ?_))
  exact at_return (true, ()) [] h (by kernel_rfl) trivial (congrArg (fun z => (z, ())) (show (true) = D_laws_FnSubspaces x0 from by unfold D_laws_FnSubspaces; rfl))
 ·have hbz : List.length x0 ≤ 1048576 := big_f h1
  obtain ⟨ha, hb, hw⟩ := drawSp_ok x0
  have hab := sub_ok ha hb hw
  have hba := sub_ok hb ha hw.symm
  have haf := basP_fit ha
  have hbf := basP_fit hb
  have i1 := hab.b1
  have i2 := hab.b2
  have i3 := hab.b3
  have i4 := hab.b4
  refine wp_skip (then_normal (wp_seq ?_))
  refine at_regq [{}, { ids := [1, 2] }, {}, {}, {}, { ids := [3] }, { ids := [4] }] { ts := [2, 3, 4], os := [1, 2, 3, 4] } [Q_spec_DrawSpaces x0] gamOK hT h (by kernel_rfl) ⟨(by exact (Sh.fit_len (t := 22) (s := (.u8 5)) rfl (by omega))), trivial⟩ fun a w h => then_normal (wp_seq ?_)
  refine at_regq [{}, {}, { ids := [5] }, { ids := [6] }] { ts := [2, 3, 4, 5], os := [1, 2, 3, 4, 5, 6] } [Q_impl_SumOf (drawSp x0).1 (drawSp x0).2] gamOK hT h (by kernel_rfl) ⟨(by exact ⟨haf, hbf⟩), trivial⟩ fun a w h => then_normal (wp_seq ?_)
  refine at_regq [{}, {}, { ids := [7] }, { ids := [8] }] { ts := [2, 3, 4, 5, 6], os := [1, 2, 3, 4, 5, 6, 7, 8] } [Q_impl_IntersectionOf (drawSp x0).1 (drawSp x0).2] gamOK hT h (by kernel_rfl) ⟨(by exact ⟨haf, hbf⟩), trivial⟩ fun a w h => then_normal (wp_seq ?_)
  by_cases h2 : (D_impl_Dimension (sumB (drawSp x0).1 (drawSp x0).2)) + (D_impl_Dimension (intB (drawSp x0).1 (drawSp x0).2)) = (D_impl_Dimension (drawSp x0).1) + (D_impl_Dimension (drawSp x0).2)
  ·rcases Bool.eq_false_or_eq_true ((isSubI (drawSp x0).1 (sumB (drawSp x0).1 (drawSp x0).2))) with h3 | h3
   ·rcases Bool.eq_false_or_eq_true ((isSubI (drawSp x0).2 (sumB (drawSp x0).1 (drawSp x0).2))) with h4 | h4
    ·rcases Bool.eq_false_or_eq_true ((isSubI (intB (drawSp x0).1 (drawSp x0).2) (drawSp x0).1)) with h5 | h5
     ·rcases Bool.eq_false_or_eq_true ((isSubI (intB (drawSp x0).1 (drawSp x0).2) (drawSp x0).2)) with h6 | h6
      ·rcases Bool.eq_false_or_eq_true (((Sh.eqB s60) (sumB (drawSp x0).1 (drawSp x0).2) (sumB (drawSp x0).2 (drawSp x0).1))) with h7 | h7
       ·by_cases h8 : (innovB (drawSp x0).1 (drawSp x0).2) = (D_impl_Dimension (sumB (drawSp x0).1 (drawSp x0).2)) - (D_impl_Dimension (drawSp x0).1)
        ·refine at_anyq [{}, {}, {}, {}, { nw := true }, {}, {}, {}, {}, { nw := true }, { hint := some (aB true) }, {}, {}, {}, { hint := some (aB true) }, {}, {}, {}, {}, { hint := some (aB true) }, {}, {}, {}, {}, { hint := some (aB true) }, {}, {}, {}, {}, { hint := some (aB true) }, {}, {}, {}, {}, {}, { ids := [9] }, { hint := some (aB true) }, {}, {}, {}, {}, {}, {}, {}, {}, {}, { nw := true }, { hint := some (aB true) }, {}, {}, {}, {}, {}, {}, {}, {}, {}, {}, {}, {}] { ts := [2], os := [] } [Q_impl_Dimension (sumB (drawSp x0).1 (drawSp x0).2), Q_impl_Dimension (intB (drawSp x0).1 (drawSp x0).2), I64 ((D_impl_Dimension (sumB (drawSp x0).1 (drawSp x0).2)) + (D_impl_Dimension (intB (drawSp x0).1 (drawSp x0).2))), Q_impl_Dimension (drawSp x0).1, Q_impl_Dimension (drawSp x0).2, I64 ((D_impl_Dimension (drawSp x0).1) + (D_impl_Dimension (drawSp x0).2)), (AV.p (.c (.v (.bool (decide ((D_impl_Dimension (sumB (drawSp x0).1 (drawSp x0).2)) + (D_impl_Dimension (intB (drawSp x0).1 (drawSp x0).2)) = (D_impl_Dimension (drawSp x0).1) + (D_impl_Dimension (drawSp x0).2)))))) = AV.p (.c (.v (.bool true)))), Q_impl_IsSubspace (drawSp x0).1 (sumB (drawSp x0).1 (drawSp x0).2), (AV.p (.c (.v (.bool ((isSubI (drawSp x0).1 (sumB (drawSp x0).1 (drawSp x0).2)))))) = AV.p (.c (.v (.bool true)))), Q_impl_IsSubspace (drawSp x0).2 (sumB (drawSp x0).1 (drawSp x0).2), (AV.p (.c (.v (.bool ((isSubI (drawSp x0).2 (sumB (drawSp x0).1 (drawSp x0).2)))))) = AV.p (.c (.v (.bool true)))), Q_impl_IsSubspace (intB (drawSp x0).1 (drawSp x0).2) (drawSp x0).1, (AV.p (.c (.v (.bool ((isSubI (intB (drawSp x0).1 (drawSp x0).2) (drawSp x0).1))))) = AV.p (.c (.v (.bool true)))), Q_impl_IsSubspace (intB (drawSp x0).1 (drawSp x0).2) (drawSp x0).2, (AV.p (.c (.v (.bool ((isSubI (intB (drawSp x0).1 (drawSp x0).2) (drawSp x0).2))))) = AV.p (.c (.v (.bool true)))), Q_impl_SumOf (drawSp x0).2 (drawSp x0).1, True, (AV.p (.c (.v (.bool (((Sh.eqB s60) (sumB (drawSp x0).1 (drawSp x0).2) (sumB (drawSp x0).2 (drawSp x0).1)))))) = AV.p (.c (.v (.bool true)))), Q_impl_InnovationOf (drawSp x0).1 (drawSp x0).2, Q_impl_Dimension (sumB (drawSp x0).1 (drawSp x0).2), Q_impl_Dimension (drawSp x0).1, I64 ((D_impl_Dimension (sumB (drawSp x0).1 (drawSp x0).2)) - (D_impl_Dimension (drawSp x0).1)), (AV.p (.c (.v (.bool (decide ((innovB (drawSp x0).1 (drawSp x0).2) = (D_impl_Dimension (sumB (drawSp x0).1 (drawSp x0).2)) - (D_impl_Dimension (drawSp x0).1)))))) = AV.p (.c (.v (.bool true)))), Q_impl_IsSubspace (drawSp x0).1 (drawSp x0).2, Q_impl_InnovationOf (drawSp x0).2 (drawSp x0).1] gamOK hT mixed h (by kernel_rfl) ⟨(by exact (sumB_fit haf)), (by exact (basP_fit (intB_P (drawSp x0).1 (drawSp x0).2))), ⟨by first | omega | (simp only [lsA]; omega) | (simp <;> omega), by first | omega | (simp only [lsA]; omega) | (simp <;> omega)⟩, (by exact haf), (by exact hbf), ⟨by first | omega | (simp only [lsA]; omega) | (simp <;> omega), by first | omega | (simp only [lsA]; omega) | (simp <;> omega)⟩, hint_bool (decide_eq_true h2), (by exact ⟨haf, (sumB_fit haf)⟩), hint_bool (h3), (by exact ⟨hbf, (sumB_fit haf)⟩), hint_bool (h4), (by exact ⟨(basP_fit (intB_P (drawSp x0).1 (drawSp x0).2)), haf⟩), hint_bool (h5), (by exact ⟨(basP_fit (intB_P (drawSp x0).1 (drawSp x0).2)), hbf⟩), hint_bool (h6), (by exact ⟨hbf, haf⟩), trivial, hint_bool (h7), (by exact ⟨haf, hbf⟩), (by exact (sumB_fit haf)), (by exact haf), ⟨by first | omega | (simp only [lsA]; omega) | (simp <;> omega), by first | omega | (simp only [lsA]; omega) | (simp <;> omega)⟩, hint_bool (decide_eq_true h8), (by exact ⟨haf, hbf⟩), (by exact ⟨hbf, haf⟩), trivial⟩ fun a w h => then_normal (wp_ret ?_)
         exact at_return (((isSubI (drawSp x0).1 (drawSp x0).2) == (decide ((innovB (drawSp x0).2 (drawSp x0).1) = 0))), ()) [] h (by kernel_rfl) trivial (congrArg (fun z => (z, ())) (show (((isSubI (drawSp x0).1 (drawSp x0).2) == (decide ((innovB (drawSp x0).2 (drawSp x0).1) = 0)))) = D_laws_FnSubspaces x0 from by unfold D_laws_FnSubspaces; first | exact beqT hab.zer | (simp_all; done)))
        ·refine at_anyq [{}, {}, {}, {}, { nw := true }, {}, {}, {}, {}, { nw := true }, { hint := some (aB true) }, {}, {}, {}, { hint := some (aB true) }, {}, {}, {}, {}, { hint := some (aB true) }, {}, {}, {}, {}, { hint := some (aB true) }, {}, {}, {}, {}, { hint := some (aB true) }, {}, {}, {}, {}, {}, { ids := [9] }, { hint := some (aB true) }, {}, {}, {}, {}, {}, {}, {}, {}, {}, { nw := true }, { hint := some (aB false) }, {}, {}, {}, {}, {}, {}, {}, {}, {}, {}, {}, {}] { ts := [2], os := [] } [Q_impl_Dimension (sumB (drawSp x0).1 (drawSp x0).2), Q_impl_Dimension (intB (drawSp x0).1 (drawSp x0).2), I64 ((D_impl_Dimension (sumB (drawSp x0).1 (drawSp x0).2)) + (D_impl_Dimension (intB (drawSp x0).1 (drawSp x0).2))), Q_impl_Dimension (drawSp x0).1, Q_impl_Dimension (drawSp x0).2, I64 ((D_impl_Dimension (drawSp x0).1) + (D_impl_Dimension (drawSp x0).2)), (AV.p (.c (.v (.bool (decide ((D_impl_Dimension (sumB (drawSp x0).1 (drawSp x0).2)) + (D_impl_Dimension (intB (drawSp x0).1 (drawSp x0).2)) = (D_impl_Dimension (drawSp x0).1) + (D_impl_Dimension (drawSp x0).2)))))) = AV.p (.c (.v (.bool true)))), Q_impl_IsSubspace (drawSp x0).1 (sumB (drawSp x0).1 (drawSp x0).2), (AV.p (.c (.v (.bool ((isSubI (drawSp x0).1 (sumB (drawSp x0).1 (drawSp x0).2)))))) = AV.p (.c (.v (.bool true)))), Q_impl_IsSubspace (drawSp x0).2 (sumB (drawSp x0).1 (drawSp x0).2), (AV.p (.c (.v (.bool ((isSubI (drawSp x0).2 (sumB (drawSp x0).1 (drawSp x0).2)))))) = AV.p (.c (.v (.bool true)))), Q_impl_IsSubspace (intB (drawSp x0).1 (drawSp x0).2) (drawSp x0).1, (AV.p (.c (.v (.bool ((isSubI (intB (drawSp x0).1 (drawSp x0).2) (drawSp x0).1))))) = AV.p (.c (.v (.bool true)))), Q_impl_IsSubspace (intB (drawSp x0).1 (drawSp x0).2) (drawSp x0).2, (AV.p (.c (.v (.bool ((isSubI (intB (drawSp x0).1 (drawSp x0).2) (drawSp x0).2))))) = AV.p (.c (.v (.bool true)))), Q_impl_SumOf (drawSp x0).2 (drawSp x0).1, True, (AV.p (.c (.v (.bool (((Sh.eqB s60) (sumB (drawSp x0).1 (drawSp x0).2) (sumB (drawSp x0).2 (drawSp x0).1)))))) = AV.p (.c (.v (.bool true)))), Q_impl_InnovationOf (drawSp x0).1 (drawSp x0).2, Q_impl_Dimension (sumB (drawSp x0).1 (drawSp x0).2), Q_impl_Dimension (drawSp x0).1, I64 ((D_impl_Dimension (sumB (drawSp x0).1 (drawSp x0).2)) - (D_impl_Dimension (drawSp x0).1)), (AV.p (.c (.v (.bool (decide ((innovB (drawSp x0).1 (drawSp x0).2) = (D_impl_Dimension (sumB (drawSp x0).1 (drawSp x0).2)) - (D_impl_Dimension (drawSp x0).1)))))) = AV.p (.c (.v (.bool false))))] gamOK hT mixed h (by kernel_rfl) ⟨(by exact (sumB_fit haf)), (by exact (basP_fit (intB_P (drawSp x0).1 (drawSp x0).2))), ⟨by first | omega | (simp only [lsA]; omega) | (simp <;> omega), by first | omega | (simp only [lsA]; omega) | (simp <;> omega)⟩, (by exact haf), (by exact hbf), ⟨by first | omega | (simp only [lsA]; omega) | (simp <;> omega), by first | omega | (simp only [lsA]; omega) | (simp <;> omega)⟩, hint_bool (decide_eq_true h2), (by exact ⟨haf, (sumB_fit haf)⟩), hint_bool (h3), (by exact ⟨hbf, (sumB_fit haf)⟩), hint_bool (h4), (by exact ⟨(basP_fit (intB_P (drawSp x0).1 (drawSp x0).2)), haf⟩), hint_bool (h5), (by exact ⟨(basP_fit (intB_P (drawSp x0).1 (drawSp x0).2)), hbf⟩), hint_bool (h6), (by exact ⟨hbf, haf⟩), trivial, hint_bool (h7), (by exact ⟨haf, hbf⟩), (by exact (sumB_fit haf)), (by exact haf), ⟨by first | omega | (simp only [lsA]; omega) | (simp <;> omega), by first | omega | (simp only [lsA]; omega) | (simp <;> omega)⟩, hint_bool (decide_eq_false h8), trivial⟩ fun a w h => then_normal (wp_ret ?_)
         exact at_return (false, ()) [] h (by kernel_rfl) trivial (congrArg (fun z => (z, ())) (show (false) = D_laws_FnSubspaces x0 from by unfold D_laws_FnSubspaces; (exfalso; obtain ⟨b1, b2, b3, b4, b5, b6, b7, b8, b9, b10, b11, b12, b13, b14⟩ := hab; first | contradiction | omega | (rw [b6] at h8; rw [Sh.eqB_self] at h8; cases h8) | (simp_all [Sh.eqB_self]; done) | (simp_all [Sh.eqB_self]; omega))))
       ·refine at_anyq [{}, {}, {}, {}, { nw := true }, {}, {}, {}, {}, { nw := true }, { hint := some (aB true) }, {}, {}, {}, { hint := some (aB true) }, {}, {}, {}, {}, { hint := some (aB true) }, {}, {}, {}, {}, { hint := some (aB true) }, {}, {}, {}, {}, { hint := some (aB true) }, {}, {}, {}, {}, {}, { ids := [9] }, { hint := some (aB false) }, {}, {}, {}, {}, {}, {}, {}, {}, {}, {}, {}, {}, {}, {}, {}, {}, {}, {}, {}, {}, {}, {}, {}] { ts := [2], os := [] } [Q_impl_Dimension (sumB (drawSp x0).1 (drawSp x0).2), Q_impl_Dimension (intB (drawSp x0).1 (drawSp x0).2), I64 ((D_impl_Dimension (sumB (drawSp x0).1 (drawSp x0).2)) + (D_impl_Dimension (intB (drawSp x0).1 (drawSp x0).2))), Q_impl_Dimension (drawSp x0).1, Q_impl_Dimension (drawSp x0).2, I64 ((D_impl_Dimension (drawSp x0).1) + (D_impl_Dimension (drawSp x0).2)), (AV.p (.c (.v (.bool (decide ((D_impl_Dimension (sumB (drawSp x0).1 (drawSp x0).2)) + (D_impl_Dimension (intB (drawSp x0).1 (drawSp x0).2)) = (D_impl_Dimension (drawSp x0).1) + (D_impl_Dimension (drawSp x0).2)))))) = AV.p (.c (.v (.bool true)))), Q_impl_IsSubspace (drawSp x0).1 (sumB (drawSp x0).1 (drawSp x0).2), (AV.p (.c (.v (.bool ((isSubI (drawSp x0).1 (sumB (drawSp x0).1 (drawSp x0).2)))))) = AV.p (.c (.v (.bool true)))), Q_impl_IsSubspace (drawSp x0).2 (sumB (drawSp x0).1 (drawSp x0).2), (AV.p (.c (.v (.bool ((isSubI (drawSp x0).2 (sumB (drawSp x0).1 (drawSp x0).2)))))) = AV.p (.c (.v (.bool true)))), Q_impl_IsSubspace (intB (drawSp x0).1 (drawSp x0).2) (drawSp x0).1, (AV.p (.c (.v (.bool ((isSubI (intB (drawSp x0).1 (drawSp x0).2) (drawSp x0).1))))) = AV.p (.c (.v (.bool true)))), Q_impl_IsSubspace (intB (drawSp x0).1 (drawSp x0).2) (drawSp x0).2, (AV.p (.c (.v (.bool ((isSubI (intB (drawSp x0).1 (drawSp x0).2) (drawSp x0).2))))) = AV.p (.c (.v (.bool true)))), Q_impl_SumOf (drawSp x0).2 (drawSp x0).1, True, (AV.p (.c (.v (.bool (((Sh.eqB s60) (sumB (drawSp x0).1 (drawSp x0).2) (sumB (drawSp x0).2 (drawSp x0).1)))))) = AV.p (.c (.v (.bool false))))] gamOK hT mixed h (by kernel_rfl) ⟨(by exact (sumB_fit haf)), (by exact (basP_fit (intB_P (drawSp x0).1 (drawSp x0).2))), ⟨by first | omega | (simp only [lsA]; omega) | (simp <;> omega), by first | omega | (simp only [lsA]; omega) | (simp <;> omega)⟩, (by exact haf), (by exact hbf), ⟨by first | omega | (simp only [lsA]; omega) | (simp <;> omega), by first | omega | (simp only [lsA]; omega) | (simp <;> omega)⟩, hint_bool (decide_eq_true h2), (by exact ⟨haf, (sumB_fit haf)⟩), hint_bool (h3), (by exact ⟨hbf, (sumB_fit haf)⟩), hint_bool (h4), (by exact ⟨(basP_fit (intB_P (drawSp x0).1 (drawSp x0).2)), haf⟩), hint_bool (h5), (by exact ⟨(basP_fit (intB_P (drawSp x0).1 (drawSp x0).2)), hbf⟩), hint_bool (h6), (by exact ⟨hbf, haf⟩), trivial, hint_bool (h7), trivial⟩ fun a w h => then_normal (wp_ret ?_)
        exact at_return (false, ()) [] h (by kernel_rfl) trivial (congrArg (fun z => (z, ())) (show (false) = D_laws_FnSubspaces x0 from by unfold D_laws_FnSubspaces; (exfalso; obtain ⟨b1, b2, b3, b4, b5, b6, b7, b8, b9, b10, b11, b12, b13, b14⟩ := hab; first | contradiction | omega | (rw [b6] at h7; rw [Sh.eqB_self] at h7; cases h7) | (simp_all [Sh.eqB_self]; done) | (simp_all [Sh.eqB_self]; omega))))
      ·refine at_anyq [{}, {}, {}, {}, { nw := true }, {}, {}, {}, {}, { nw := true }, { hint := some (aB true) }, {}, {}, {}, { hint := some (aB true) }, {}, {}, {}, {}, { hint := some (aB true) }, {}, {}, {}, {}, { hint := some (aB true) }, {}, {}, {}, {}, { hint := some (aB false) }, {}, {}, {}, {}, {}, {}, {}, {}, {}, {}, {}, {}, {}, {}, {}, {}, {}, {}, {}, {}, {}, {}, {}, {}, {}, {}, {}, {}, {}, {}] { ts := [2], os := [] } [Q_impl_Dimension (sumB (drawSp x0).1 (drawSp x0).2), Q_impl_Dimension (intB (drawSp x0).1 (drawSp x0).2), I64 ((D_impl_Dimension (sumB (drawSp x0).1 (drawSp x0).2)) + (D_impl_Dimension (intB (drawSp x0).1 (drawSp x0).2))), Q_impl_Dimension (drawSp x0).1, Q_impl_Dimension (drawSp x0).2, I64 ((D_impl_Dimension (drawSp x0).1) + (D_impl_Dimension (drawSp x0).2)), (AV.p (.c (.v (.bool (decide ((D_impl_Dimension (sumB (drawSp x0).1 (drawSp x0).2)) + (D_impl_Dimension (intB (drawSp x0).1 (drawSp x0).2)) = (D_impl_Dimension (drawSp x0).1) + (D_impl_Dimension (drawSp x0).2)))))) = AV.p (.c (.v (.bool true)))), Q_impl_IsSubspace (drawSp x0).1 (sumB (drawSp x0).1 (drawSp x0).2), (AV.p (.c (.v (.bool ((isSubI (drawSp x0).1 (sumB (drawSp x0).1 (drawSp x0).2)))))) = AV.p (.c (.v (.bool true)))), Q_impl_IsSubspace (drawSp x0).2 (sumB (drawSp x0).1 (drawSp x0).2), (AV.p (.c (.v (.bool ((isSubI (drawSp x0).2 (sumB (drawSp x0).1 (drawSp x0).2)))))) = AV.p (.c (.v (.bool true)))), Q_impl_IsSubspace (intB (drawSp x0).1 (drawSp x0).2) (drawSp x0).1, (AV.p (.c (.v (.bool ((isSubI (intB (drawSp x0).1 (drawSp x0).2) (drawSp x0).1))))) = AV.p (.c (.v (.bool true)))), Q_impl_IsSubspace (intB (drawSp x0).1 (drawSp x0).2) (drawSp x0).2, (AV.p (.c (.v (.bool ((isSubI (intB (drawSp x0).1 (drawSp x0).2) (drawSp x0).2))))) = AV.p (.c (.v (.bool false))))] gamOK hT mixed h (by kernel_rfl) ⟨(by exact (sumB_fit haf)), (by exact (basP_fit (intB_P (drawSp x0).1 (drawSp x0).2))), ⟨by first | omega | (simp only [lsA]; omega) | (simp <;> omega), by first | omega | (simp only [lsA]; omega) | (simp <;> omega)⟩, (by exact haf), (by exact hbf), ⟨by first | omega | (simp only [lsA]; omega) | (simp <;> omega), by first | omega | (simp only [lsA]; omega) | (simp <;> omega)⟩, hint_bool (decide_eq_true h2), (by exact ⟨haf, (sumB_fit haf)⟩), hint_bool (h3), (by exact ⟨hbf, (sumB_fit haf)⟩), hint_bool (h4), (by exact ⟨(basP_fit (intB_P (drawSp x0).1 (drawSp x0).2)), haf⟩), hint_bool (h5), (by exact ⟨(basP_fit (intB_P (drawSp x0).1 (drawSp x0).2)), hbf⟩), hint_bool (h6), trivial⟩ fun a w h => then_normal (wp_ret ?_)
       exact at_return (false, ()) [] h (by kernel_rfl) trivial (congrArg (fun z => (z, ())) (show (false) = D_laws_FnSubspaces x0 from by unfold D_laws_FnSubspaces; (exfalso; obtain ⟨b1, b2, b3, b4, b5, b6, b7, b8, b9, b10, b11, b12, b13, b14⟩ := hab; first | contradiction | omega | (rw [b6] at h6; rw [Sh.eqB_self] at h6; cases h6) | (simp_all [Sh.eqB_self]; done) | (simp_all [Sh.eqB_self]; omega))))
     ·refine at_anyq [{}, {}, {}, {}, { nw := true }, {}, {}, {}, {}, { nw := true }, { hint := some (aB true) }, {}, {}, {}, { hint := some (aB true) }, {}, {}, {}, {}, { hint := some (aB true) }, {}, {}, {}, {}, { hint := some (aB false) }, {}, {}, {}, {}, {}, {}, {}, {}, {}, {}, {}, {}, {}, {}, {}, {}, {}, {}, {}, {}, {}, {}, {}, {}, {}, {}, {}, {}, {}, {}, {}, {}, {}, {}, {}] { ts := [2], os := [] } [Q_impl_Dimension (sumB (drawSp x0).1 (drawSp x0).2), Q_impl_Dimension (intB (drawSp x0).1 (drawSp x0).2), I64 ((D_impl_Dimension (sumB (drawSp x0).1 (drawSp x0).2)) + (D_impl_Dimension (intB (drawSp x0).1 (drawSp x0).2))), Q_impl_Dimension (drawSp x0).1, Q_impl_Dimension (drawSp x0).2, I64 ((D_impl_Dimension (drawSp x0).1) + (D_impl_Dimension (drawSp x0).2)), (AV.p (.c (.v (.bool (decide ((D_impl_Dimension (sumB (drawSp x0).1 (drawSp x0).2)) + (D_impl_Dimension (intB (drawSp x0).1 (drawSp x0).2)) = (D_impl_Dimension (drawSp x0).1) + (D_impl_Dimension (drawSp x0).2)))))) = AV.p (.c (.v (.bool true)))), Q_impl_IsSubspace (drawSp x0).1 (sumB (drawSp x0).1 (drawSp x0).2), (AV.p (.c (.v (.bool ((isSubI (drawSp x0).1 (sumB (drawSp x0).1 (drawSp x0).2)))))) = AV.p (.c (.v (.bool true)))), Q_impl_IsSubspace (drawSp x0).2 (sumB (drawSp x0).1 (drawSp x0).2), (AV.p (.c (.v (.bool ((isSubI (drawSp x0).2 (sumB (drawSp x0).1 (drawSp x0).2)))))) = AV.p (.c (.v (.bool true)))), Q_impl_IsSubspace (intB (drawSp x0).1 (drawSp x0).2) (drawSp x0).1, (AV.p (.c (.v (.bool ((isSubI (intB (drawSp x0).1 (drawSp x0).2) (drawSp x0).1))))) = AV.p (.c (.v (.bool false))))] gamOK hT mixed h (by kernel_rfl) ⟨(by exact (sumB_fit haf)), (by exact (basP_fit (intB_P (drawSp x0).1 (drawSp x0).2))), ⟨by first | omega | (simp only [lsA]; omega) | (simp <;> omega), by first | omega | (simp only [lsA]; omega) | (simp <;> omega)⟩, (by exact haf), (by exact hbf), ⟨by first | omega | (simp only [lsA]; omega) | (simp <;> omega), by first | omega | (simp only [lsA]; omega) | (simp <;> omega)⟩, hint_bool (decide_eq_true h2), (by exact ⟨haf, (sumB_fit haf)⟩), hint_bool (h3), (by exact ⟨hbf, (sumB_fit haf)⟩), hint_bool (h4), (by exact ⟨(basP_fit (intB_P (drawSp x0).1 (drawSp x0).2)), haf⟩), hint_bool (h5), trivial⟩ fun a w h => then_normal (wp_ret ?_)
      exact at_return (false, ()) [] h (by kernel_rfl) trivial (congrArg (fun z => (z, ())) (show (false) = D_laws_FnSubspaces x0 from by unfold D_laws_FnSubspaces; (exfalso; obtain ⟨b1, b2, b3, b4, b5, b6, b7, b8, b9, b10, b11, b12, b13, b14⟩ := hab; first | contradiction | omega | (rw [b6] at h5; rw [Sh.eqB_self] at h5; cases h5) | (simp_all [Sh.eqB_self]; done) | (simp_all [Sh.eqB_self]; omega))))
    ·refine at_anyq [{}, {}, {}, {}, { nw := true }, {}, {}, {}, {}, { nw := true }, { hint := some (aB true) }, {}, {}, {}, { hint := some (aB true) }, {}, {}, {}, {}, { hint := some (aB false) }, {}, {}, {}, {}, {}, {}, {}, {}, {}, {}, {}, {}, {}, {}, {}, {}, {}, {}, {}, {}, {}, {}, {}, {}, {}, {}, {}, {}, {}, {}, {}, {}, {}, {}, {}, {}, {}, {}, {}, {}] { ts := [2], os := [] } [Q_impl_Dimension (sumB (drawSp x0).1 (drawSp x0).2), Q_impl_Dimension (intB (drawSp x0).1 (drawSp x0).2), I64 ((D_impl_Dimension (sumB (drawSp x0).1 (drawSp x0).2)) + (D_impl_Dimension (intB (drawSp x0).1 (drawSp x0).2))), Q_impl_Dimension (drawSp x0).1, Q_impl_Dimension (drawSp x0).2, I64 ((D_impl_Dimension (drawSp x0).1) + (D_impl_Dimension (drawSp x0).2)), (AV.p (.c (.v (.bool (decide ((D_impl_Dimension (sumB (drawSp x0).1 (drawSp x0).2)) + (D_impl_Dimension (intB (drawSp x0).1 (drawSp x0).2)) = (D_impl_Dimension (drawSp x0).1) + (D_impl_Dimension (drawSp x0).2)))))) = AV.p (.c (.v (.bool true)))), Q_impl_IsSubspace (drawSp x0).1 (sumB (drawSp x0).1 (drawSp x0).2), (AV.p (.c (.v (.bool ((isSubI (drawSp x0).1 (sumB (drawSp x0).1 (drawSp x0).2)))))) = AV.p (.c (.v (.bool true)))), Q_impl_IsSubspace (drawSp x0).2 (sumB (drawSp x0).1 (drawSp x0).2), (AV.p (.c (.v (.bool ((isSubI (drawSp x0).2 (sumB (drawSp x0).1 (drawSp x0).2)))))) = AV.p (.c (.v (.bool false))))] gamOK hT mixed h (by kernel_rfl) ⟨(by exact (sumB_fit haf)), (by exact (basP_fit (intB_P (drawSp x0).1 (drawSp x0).2))), ⟨by first | omega | (simp only [lsA]; omega) | (simp <;> omega), by first | omega | (simp only [lsA]; omega) | (simp <;> omega)⟩, (by exact haf), (by exact hbf), ⟨by first | omega | (simp only [lsA]; omega) | (simp <;> omega), by first | omega | (simp only [lsA]; omega) | (simp <;> omega)⟩, hint_bool (decide_eq_true h2), (by exact ⟨haf, (sumB_fit haf)⟩), hint_bool (h3), (by exact ⟨hbf, (sumB_fit haf)⟩), hint_bool (h4), trivial⟩ fun a w h => then_normal (wp_ret ?_)
     exact at_return (false, ()) [] h (by kernel_rfl) trivial (congrArg (fun z => (z, ())) (show (false) = D_laws_FnSubspaces x0 from by unfold D_laws_FnSubspaces; (exfalso; obtain ⟨b1, b2, b3, b4, b5, b6, b7, b8, b9, b10, b11, b12, b13, b14⟩ := hab; first | contradiction | omega | (rw [b6] at h4; rw [Sh.eqB_self] at h4; cases h4) | (simp_all [Sh.eqB_self]; done) | (simp_all [Sh.eqB_self]; omega))))
   ·refine at_anyq [{}, {}, {}, {}, { nw := true }, {}, {}, {}, {}, { nw := true }, { hint := some (aB true) }, {}, {}, {}, { hint := some (aB false) }, {}, {}, {}, {}, {}, {}, {}, {}, {}, {}, {}, {}, {}, {}, {}, {}, {}, {}, {}, {}, {}, {}, {}, {}, {}, {}, {}, {}, {}, {}, {}, {}, {}, {}, {}, {}, {}, {}, {}, {}, {}, {}, {}, {}, {}] { ts := [2], os := [] } [Q_impl_Dimension (sumB (drawSp x0).1 (drawSp x0).2), Q_impl_Dimension (intB (drawSp x0).1 (drawSp x0).2), I64 ((D_impl_Dimension (sumB (drawSp x0).1 (drawSp x0).2)) + (D_impl_Dimension (intB (drawSp x0).1 (drawSp x0).2))), Q_impl_Dimension (drawSp x0).1, Q_impl_Dimension (drawSp x0).2, I64 ((D_impl_Dimension (drawSp x0).1) + (D_impl_Dimension (drawSp x0).2)), (AV.p (.c (.v (.bool (decide ((D_impl_Dimension (sumB (drawSp x0).1 (drawSp x0).2)) + (D_impl_Dimension (intB (drawSp x0).1 (drawSp x0).2)) = (D_impl_Dimension (drawSp x0).1) + (D_impl_Dimension (drawSp x0).2)))))) = AV.p (.c (.v (.bool true)))), Q_impl_IsSubspace (drawSp x0).1 (sumB (drawSp x0).1 (drawSp x0).2), (AV.p (.c (.v (.bool ((isSubI (drawSp x0).1 (sumB (drawSp x0).1 (drawSp x0).2)))))) = AV.p (.c (.v (.bool false))))] gamOK hT mixed h (by kernel_rfl) ⟨(by exact (sumB_fit haf)), (by exact (basP_fit (intB_P (drawSp x0).1 (drawSp x0).2))), ⟨by first | omega | (simp only [lsA]; omega) | (simp <;> omega), by first | omega | (simp only [lsA]; omega) | (simp <;> omega)⟩, (by exact haf), (by exact hbf), ⟨by first | omega | (simp only [lsA]; omega) | (simp <;> omega), by first | omega | (simp only [lsA]; omega) | (simp <;> omega)⟩, hint_bool (decide_eq_true h2), (by exact ⟨haf, (sumB_fit haf)⟩), hint_bool (h3), trivial⟩ fun a w h => then_normal (wp_ret ?_)
    exact at_return (false, ()) [] h (by kernel_rfl) trivial (congrArg (fun z => (z, ())) (show (false) = D_laws_FnSubspaces x0 from by unfold D_laws_FnSubspaces; (exfalso; obtain ⟨b1, b2, b3, b4, b5, b6, b7, b8, b9, b10, b11, b12, b13, b14⟩ := hab; first | contradiction | omega | (rw [b6] at h3; rw [Sh.eqB_self] at h3; cases h3) | (simp_all [Sh.eqB_self]; done) | (simp_all [Sh.eqB_self]; omega))))
  ·refine at_anyq [{}, {}, {}, {}, { nw := true }, {}, {}, {}, {}, { nw := true }, { hint := some (aB false) }, {}, {}, {}, {}, {}, {}, {}, {}, {}, {}, {}, {}, {}, {}, {}, {}, {}, {}, {}, {}, {}, {}, {}, {}, {}, {}, {}, {}, {}, {}, {}, {}, {}, {}, {}, {}, {}, {}, {}, {}, {}, {}, {}, {}, {}, {}, {}, {}, {}] { ts := [2], os := [] } [Q_impl_Dimension (sumB (drawSp x0).1 (drawSp x0).2), Q_impl_Dimension (intB (drawSp x0).1 (drawSp x0).2), I64 ((D_impl_Dimension (sumB (drawSp x0).1 (drawSp x0).2)) + (D_impl_Dimension (intB (drawSp x0).1 (drawSp x0).2))), Q_impl_Dimension (drawSp x0).1, Q_impl_Dimension (drawSp x0).2, I64 ((D_impl_Dimension (drawSp x0).1) + (D_impl_Dimension (drawSp x0).2)), (AV.p (.c (.v (.bool (decide ((D_impl_Dimension (sumB (drawSp x0).1 (drawSp x0).2)) + (D_impl_Dimension (intB (drawSp x0).1 (drawSp x0).2)) = (D_impl_Dimension (drawSp x0).1) + (D_impl_Dimension (drawSp x0).2)))))) = AV.p (.c (.v (.bool false))))] gamOK hT mixed h (by kernel_rfl) ⟨(by exact (sumB_fit haf)), (by exact (basP_fit (intB_P (drawSp x0).1 (drawSp x0).2))), ⟨by first | omega | (simp only [lsA]; omega) | (simp <;> omega), by first | omega | (simp only [lsA]; omega) | (simp <;> omega)⟩, (by exact haf), (by exact hbf), ⟨by first | omega | (simp only [lsA]; omega) | (simp <;> omega), by first | omega | (simp only [lsA]; omega) | (simp <;> omega)⟩, hint_bool (decide_eq_false h2), trivial⟩ fun a w h => then_normal (wp_ret ?_)
   exact at_return (false, ()) [] h (by kernel_rfl) trivial (congrArg (fun z => (z, ())) (show (false) = D_laws_FnSubspaces x0 from by unfold D_laws_FnSubspaces; (exfalso; obtain ⟨b1, b2, b3, b4, b5, b6, b7, b8, b9, b10, b11, b12, b13, b14⟩ := hab; first | contradiction | omega | (rw [b6] at h2; rw [Sh.eqB_self] at h2; cases h2) | (simp_all [Sh.eqB_self]; done) | (simp_all [Sh.eqB_self]; omega))))

theorem opn5 : OpensS Try.prog 5 (.u8 5) := opensS_u8 Try.underlying5
theorem co5 : Try.prog.cellsOf 5 = 1 := by kernel_rfl
theorem opn22 : OpensS Try.prog 22 s22 := opensS_slice (a := (.u8 5)) Try.underlying22 co5 opn5
namespace fnSubspaces
open Go.ChangeShapes Go.WideShapes Go.ChangeAt Go.RowKit
theorem own : ownKnob Try.prog.godebug = none := by kernel_rfl
theorem laidOut : laidOutB Try.prog = true := fxLaid
set_option maxRecDepth 100000 in
theorem lifted (os : Os) (started : os.Started) (H : Type) (enc : TypeId × Value → H) :
    ReturnsInHanded {} Try.checked os 7 .any (Rows.fnSubspacesSpec.pre6 enc Try.prog Try.f7 Rows.fnSubspacesRow.domain false) (Rows.fnSubspacesSpec.post enc Try.prog Try.f7 false true false false) := by
  refine returnsInHanded_of_change (C := Try.checked) own started (by kernel_rfl) Try.func7
    (ChangeSpec.witness6 (enc := enc) (C := Try.checked) false ⟨#[], #[.slice none 0 0], []⟩ 8 (by kernel_rfl) (by kernel_rfl) (by kernel_rfl) (by kernel_rfl)) ?_
  intro W base args ds gs before hval0 hW hcnd _
  have hval : ∀ (j : Nat) t v, Try.f7.params[j]? = some t → args[j]? = some v → Value.okWide Try.prog W .any base t v := hval0
  have hW' := hW
  obtain ⟨p, q, hA0, hV, rfl, hfz, hnd⟩ := hW
  have hA : DataW.TrodAll enc Try.prog W 0 (fun _ => true) true Try.f7.params.toList args.toList ds p := hA0
  rw [Try.params7] at hA hval
  obtain ⟨v0, vs0, d0, ds0, p0, q0, hargs, rfl, rfl, h0, r0⟩ := trodAll_cons hA
  obtain ⟨rfl, rfl, rfl⟩ := trodAll_nil r0
  obtain rfl : args = #[v0] := by cases args; simp_all
  obtain ⟨rfl, rfl⟩ := trodVars_none hV
  have k0 := h0
  have lt0 : ∀ x ∈ p0, x.block < W.heap.size := by obtain ⟨m, hm⟩ := k0; exact DataW.trod_lt m _ _ _ hm
  obtain ⟨ad0, len0, cap0, rfl⟩ := okWide_slice Try.underlying22 (hval 0 22 v0 rfl rfl)
  obtain ⟨x0, hx0, i0⟩ : ∃ x : (s22).D, (s22).rd W (fun b => b < W.heap.size) [.slice ad0 len0 cap0] x ∧ (s22).i64 x := by obtain ⟨fuel, hf⟩ := h0; exact opn22 hf
  clear hA0 hval0
  refine (calls_law S_laws_FnSubspaces_ok (by kernel_rfl) W (fun b => b < W.heap.size) [.slice ad0 len0 cap0] (x0, ()) (fun _ h => h) ⟨argRd_sl hx0, trivial⟩ i0).mono fun e W' hr => ?_
  obtain ⟨he, bel⟩ := ret_bool hr
  subst he
  exact ⟨_, rfl, _, _, _, [], _, [], hW', trodAll_mk1 (shut_bool Try.underlying4 _), (trodAll_cons_mk (Below.trod laidOut (by kernel_rfl) (of_decide_eq_true (by kernel_rfl)) k0 bel lt0) trodAll_mk0), rfl, bel.frame _, fun h => by cases h⟩
theorem closed : joinedFacts Try.prog 7 Try.f7 (Rows.fnSubspacesSpec) Rows.fnSubspacesRow = true := by
  unfold joinedFacts
  exact (and2 (and2 (and2 (and2 (and2 (and2 (and2 (and2 (and2 (and2 (and2 (and2 (and2 (and2 (and2 (and2 (and2 (and2 (and2 (and2 (and2 (and2 (and2 (and2 (and2 (and2 (and2 (and2 (and2 (and2 (and2 (by kernel_rfl) fxLaid) fxMaps) (by kernel_rfl)) (by kernel_rfl)) (by kernel_rfl)) (by kernel_rfl)) (by kernel_rfl)) (by kernel_rfl)) (by kernel_rfl)) (by kernel_rfl)) (by kernel_rfl)) (by kernel_rfl)) (by kernel_rfl)) (by kernel_rfl)) (by kernel_rfl)) (by kernel_rfl)) (by kernel_rfl)) (by kernel_rfl)) (by kernel_rfl)) (by kernel_rfl)) (by kernel_rfl)) (by kernel_rfl)) (by kernel_rfl)) (by kernel_rfl)) fxEnter) (by rw [fxLifts]; kernel_rfl)) (by rw [fxMake]; kernel_rfl)) (by kernel_rfl)) (by kernel_rfl)) (by kernel_rfl)) (by kernel_rfl))
theorem over : Rows.fnSubspacesRow.holds Try.pinned (OpenSpec.ofChange Rows.fnSubspacesSpec) :=
  OpenClaim.holds_of_wide 7 Try.f7 rfl rfl rfl rfl rfl rfl rfl ⟨rfl, rfl, rfl, rfl, rfl⟩ rfl rfl rfl rfl rfl (by kernel_rfl) Try.func7 closed
    (of_decide_eq_true (by kernel_rfl)) (by unfold Func.isWrapper; first | (rw [if_pos (by decide +kernel)]; kernel_rfl) | (rw [if_neg (by decide +kernel)]; exact ⟨rfl, rfl⟩))
    (fun os started H enc _ => lifted os started H enc)
/-- the statement -/
theorem proved : Rows.FnSubspacesSaid := over
end fnSubspaces

end Go.Proofs.Ytpffjagdefkfkaa

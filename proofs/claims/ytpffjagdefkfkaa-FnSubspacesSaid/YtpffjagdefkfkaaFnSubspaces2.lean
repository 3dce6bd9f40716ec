/- The walks of the functions that the law reaches: each summary holds. No condition. -/
import Derived.Test.YtpffjagdefkfkaaFnSubspaces1
import Derived.Test.YtpffjagdefkfkaaLA
import Derived.Test.YtpffjagdefkfkaaProg
namespace Go.Proofs.Ytpffjagdefkfkaa
open Go.RowKit
set_option linter.unusedVariables false
set_option linter.unusedSimpArgs false
def D_spec_l7Reduce := (fun (m : List (List Int)) (n : Int) => LA.gjS m n.toNat)
abbrev Q_spec_l7Reduce := (fun (x0 : (List (List Int))) (x1 : Int) => Sh.fit s24 x0 ∧ l7P x0 x1)
def S_spec_l7Reduce : Sum := { fid := 173, dom := [s24, (.int 3)], cod := [s24], dp := false, fz := false, pre := fun x => Q_spec_l7Reduce x.1 x.2.1, g := fun x => ((D_spec_l7Reduce x.1 x.2.1), ()) }
def S_spec_l7Reduce_tab : List (Nat × Sum) := [(177, S_spec_l6Copy), (184, S_spec_InverseField), (133, S_spec_ScaleVector), (111, S_spec_AddScaled)]
theorem S_spec_l7Reduce_ok : FnOK Try.prog 173 S_spec_l7Reduce := by
 refine at_enter 110 (fun x => ⟨[(0, aF s27 x.1), (1, aI x.2.1)], []⟩) Try.func173 rfl (by kernel_rfl) (fun x => rfl) ?_
 rintro w0 Z0 ⟨x0, x1, u⟩ a w
 revert x0 x1
 intro (x0 : (List (List Int))) (x1 : Int) hpre hlens h
 replace hpre : Q_spec_l7Reduce x0 x1 := hpre
 have hT : TabOK Try.prog S_spec_l7Reduce_tab := (.cons S_spec_l6Copy_ok (.cons S_spec_InverseField_ok (.cons S_spec_ScaleVector_ok (.cons S_spec_AddScaled_ok .nil))))
 obtain ⟨hf0, hpx⟩ := hpre
 have hn0_1 : List.length x0 ≤ 1073741824 := hf0.1
 obtain ⟨w_, hw1, hw2, hw3, hw4⟩ := hpx
 refine wp_seq ?_
 refine at_regq [] { ts := [0, 1, 4], os := [] } [] gamOK hT h (by kernel_rfl) trivial fun a w h => then_normal (wp_seq ?_)
 refine at_regq [{}, { ids := [1] }] { ts := [1, 4, 5], os := [1] } [Q_spec_l6Copy x0] gamOK hT h (by kernel_rfl) ⟨(by exact hf0), trivial⟩ fun a w h => then_normal (wp_seq ?_)
 refine at_regq [] { ts := [1, 4, 5, 6], os := [1] } [] gamOK hT h (by kernel_rfl) trivial fun a w h => then_normal (wp_seq (wp_seq ?_))
 refine at_regq [] { ts := [1, 4, 5, 6, 7], os := [1] } [] gamOK hT h (by kernel_rfl) trivial fun a w h => then_normal (wp_block ?_)
 replace h := at_out (σ' := ⟨[(1, aI x1), (4, .p (.c (cN))), (5, aS 1), (6, aI 0), (7, aI 0)], [(1, oF s27 x0)]⟩) { ts := [1, 4, 5, 6, 7], os := [1] } h (by kernel_rfl)
 refine at_loop (fun k : Nat => (⟨[(1, aI x1), (4, .p (.c (cN))), (5, aS 1), (6, aI (((LA.gjAt x0 k).2 : Nat) : Int)), (7, aI ((k : Nat) : Int))], [(1, oF s27 (LA.gjAt x0 k).1)]⟩ : St)) (fun k => k ≤ x1.toNat) (fun k => x1.toNat - k) (0) h (st_congr3 (fun (d0 : List (List Int)) (d1 : Int) (d2 : Int) => (⟨[(1, aI x1), (4, .p (.c (cN))), (5, aS 1), (6, aI d1), (7, aI d2)], [(1, oF s27 d0)]⟩ : St)) (show (x0 : List (List Int)) = (LA.gjAt x0 (0)).1 from by first | with_reducible rfl | (rfl) | rfl) (show (0 : Int) = (((LA.gjAt x0 (0)).2 : Nat) : Int) from by first | with_reducible rfl | (rfl) | rfl) (show (0 : Int) = (((0) : Nat) : Int) from by first | with_reducible rfl | (rfl) | rfl)) (by omega) ?_
 intro k a w hok0 h
 have hgv := (LA.gj_inv hw1 k).1
 have hgn := (LA.gj_inv hw1 k).2.1
 have hgl := LA.gjAt_le x0 k
 refine wp_seq (wp_seq ?_)
 by_cases h1 : ((k : Nat) : Int) < x1
 ·refine at_regq [{}, {}, { hint := some (aB true) }] { ts := [1, 4, 5, 6, 7, 17, 18, 19, 20, 21], os := [1] } [(AV.p (.c (.v (.bool (decide (((k : Nat) : Int) < x1))))) = AV.p (.c (.v (.bool true))))] gamOK hT h (by kernel_rfl) ⟨hint_bool (decide_eq_true h1), trivial⟩ fun a w h => then_normal ?_
  refine at_test (decide ((((LA.gjAt x0 k).2 : Nat) : Int) < ((List.length (LA.gjAt x0 k).1 : Nat) : Int))) h (by kernel_rfl) (fun h2 => ?_) (fun h2 => ?_)
  ·replace h2 : (((LA.gjAt x0 k).2 : Nat) : Int) < ((List.length (LA.gjAt x0 k).1 : Nat) : Int) := of_decide_eq_true h2
   have hat : (LA.gjAt x0 k).2 < List.length (LA.gjAt x0 k).1 := by omega
   refine wp_skip (then_normal (wp_seq (wp_block (wp_seq ?_))))
   refine at_regq [] { ts := [1, 4, 5, 6, 7, 8, 17, 18, 19, 20], os := [1] } [] gamOK hT h (by kernel_rfl) trivial fun a w h => then_normal (wp_seq (wp_block ?_))
   replace h := at_out (σ' := ⟨[(1, aI x1), (4, .p (.c (cN))), (5, aS 1), (6, aI (((LA.gjAt x0 k).2 : Nat) : Int)), (7, aI ((k : Nat) : Int)), (8, aI (((LA.gjAt x0 k).2 : Nat) : Int)), (17, aI (((LA.gjAt x0 k).2 : Nat) : Int)), (18, aS 1), (19, aI ((List.length (LA.gjAt x0 k).1 : Nat) : Int)), (20, aB (decide ((((LA.gjAt x0 k).2 : Nat) : Int) < ((List.length (LA.gjAt x0 k).1 : Nat) : Int))))], [(1, oF s27 (LA.gjAt x0 k).1)]⟩) { ts := [1, 4, 5, 6, 7, 8, 17, 18, 19, 20], os := [1] } h (by kernel_rfl)
   refine at_loop (fun j : Nat => (⟨[(1, aI x1), (4, .p (.c (cN))), (5, aS 1), (6, aI (((LA.gjAt x0 k).2 : Nat) : Int)), (7, aI ((k : Nat) : Int)), (8, aI (((LA.gjAt x0 k).2 + j : Nat) : Int)), (17, aI (((LA.gjAt x0 k).2 : Nat) : Int)), (18, aS 1), (19, aI ((List.length (LA.gjAt x0 k).1 : Nat) : Int)), (20, aB (decide ((((LA.gjAt x0 k).2 : Nat) : Int) < ((List.length (LA.gjAt x0 k).1 : Nat) : Int))))], [(1, oF s27 (LA.gjAt x0 k).1)]⟩ : St)) (fun j => ((LA.gjAt x0 k).2 + j ≤ List.length (LA.gjAt x0 k).1 ∧ ∀ i, (LA.gjAt x0 k).2 ≤ i → i < (LA.gjAt x0 k).2 + j → LA.ent (LA.gjAt x0 k).1 i k = 0)) (fun j => List.length (LA.gjAt x0 k).1 - ((LA.gjAt x0 k).2 + j)) (0) h (st_congr1 (fun (d0 : Int) => (⟨[(1, aI x1), (4, .p (.c (cN))), (5, aS 1), (6, aI (((LA.gjAt x0 k).2 : Nat) : Int)), (7, aI ((k : Nat) : Int)), (8, aI d0), (17, aI (((LA.gjAt x0 k).2 : Nat) : Int)), (18, aS 1), (19, aI ((List.length (LA.gjAt x0 k).1 : Nat) : Int)), (20, aB (decide ((((LA.gjAt x0 k).2 : Nat) : Int) < ((List.length (LA.gjAt x0 k).1 : Nat) : Int))))], [(1, oF s27 (LA.gjAt x0 k).1)]⟩ : St)) (show ((((LA.gjAt x0 k).2 : Nat) : Int) : Int) = (((LA.gjAt x0 k).2 + (0) : Nat) : Int) from by first | with_reducible rfl | (rfl) | rfl)) (by exact ⟨by omega, fun i h1 h2 => absurd h2 (by omega)⟩) ?_
   intro j a w hok1 h
   refine wp_seq (wp_seq ?_)
   by_cases h3 : (((LA.gjAt x0 k).2 + j : Nat) : Int) < ((List.length (LA.gjAt x0 k).1 : Nat) : Int)
   ·have hrp := hgv _ (LA.getD_in (rows := (LA.gjAt x0 k).1) (i := (LA.gjAt x0 k).2 + j) (by omega))
    have hrpl := hrp.1
    have hrpr := hrp.rng k
    refine at_regq [{}, {}, {}, { hint := some (aB true) }] { ts := [1, 4, 5, 6, 7, 8, 17, 18, 19, 20, 30, 31, 32, 33, 34, 35, 36, 37, 38], os := [1] } [(AV.p (.c (.v (.bool (decide ((((LA.gjAt x0 k).2 + j : Nat) : Int) < ((List.length (LA.gjAt x0 k).1 : Nat) : Int)))))) = AV.p (.c (.v (.bool true)))), (0 : Int) ≤ (((LA.gjAt x0 k).2 + j : Nat) : Int) ∧ (((LA.gjAt x0 k).2 + j : Nat) : Int) < ((List.length (LA.gjAt x0 k).1 : Nat) : Int), (LA.gjAt x0 k).2 + j < List.length (LA.gjAt x0 k).1, (0 : Int) ≤ ((k : Nat) : Int) ∧ ((k : Nat) : Int) < ((List.length ((LA.gjAt x0 k).1.getD ((LA.gjAt x0 k).2 + j) []) : Nat) : Int)] gamOK hT h (by kernel_rfl) ⟨hint_bool (decide_eq_true h3), (by refine ⟨?_, ?_⟩ <;> (first | omega | (simp only [lsA]; omega) | (simp <;> omega))), (by first | omega | (simp only [lsA]; omega) | (simp <;> omega)), (by refine ⟨?_, ?_⟩ <;> (first | omega | (simp only [lsA]; omega) | (simp <;> omega))), trivial⟩ fun a w h => then_normal ?_
    refine at_test (decide ((((LA.gjAt x0 k).1.getD ((LA.gjAt x0 k).2 + j) []).getD k 0) = 0)) h (by kernel_rfl) (fun h4 => ?_) (fun h4 => ?_)
    ·replace h4 : (((LA.gjAt x0 k).1.getD ((LA.gjAt x0 k).2 + j) []).getD k 0) = 0 := of_decide_eq_true h4
     refine wp_skip (then_normal (wp_block ?_))
     refine at_regq [{}, { nw := true }] { ts := [1, 4, 5, 6, 7, 8, 17, 18, 19, 20, 30, 31, 32, 33, 34, 35, 36, 37], os := [1] } [I64 ((((LA.gjAt x0 k).2 + j : Nat) : Int) + 1)] gamOK hT h (by kernel_rfl) ⟨⟨by first | omega | (simp only [lsA]; omega) | (simp <;> omega), by first | omega | (simp only [lsA]; omega) | (simp <;> omega)⟩, trivial⟩ fun a w h => in_normal ?_
     replace h := at_out (σ' := ⟨[(1, aI x1), (4, .p (.c (cN))), (5, aS 1), (6, aI (((LA.gjAt x0 k).2 : Nat) : Int)), (7, aI ((k : Nat) : Int)), (8, aI ((((LA.gjAt x0 k).2 + j : Nat) : Int) + 1)), (17, aI (((LA.gjAt x0 k).2 : Nat) : Int)), (18, aS 1), (19, aI ((List.length (LA.gjAt x0 k).1 : Nat) : Int)), (20, aB (decide ((((LA.gjAt x0 k).2 : Nat) : Int) < ((List.length (LA.gjAt x0 k).1 : Nat) : Int))))], [(1, oF s27 (LA.gjAt x0 k).1)]⟩) { ts := [1, 4, 5, 6, 7, 8, 17, 18, 19, 20], os := [1] } h (by kernel_rfl)
     exact ⟨j + 1, at_eq h (st_congr1 (fun (d0 : Int) => (⟨[(1, aI x1), (4, .p (.c (cN))), (5, aS 1), (6, aI (((LA.gjAt x0 k).2 : Nat) : Int)), (7, aI ((k : Nat) : Int)), (8, aI d0), (17, aI (((LA.gjAt x0 k).2 : Nat) : Int)), (18, aS 1), (19, aI ((List.length (LA.gjAt x0 k).1 : Nat) : Int)), (20, aB (decide ((((LA.gjAt x0 k).2 : Nat) : Int) < ((List.length (LA.gjAt x0 k).1 : Nat) : Int))))], [(1, oF s27 (LA.gjAt x0 k).1)]⟩ : St)) (show ((((LA.gjAt x0 k).2 + j : Nat) : Int) + 1 : Int) = (((LA.gjAt x0 k).2 + (j + 1) : Nat) : Int) from by first | with_reducible rfl | (omega) | rfl)), (by exact ⟨by omega, LA.ent_step hok1.2 (by assumption)⟩), (by omega)⟩
    ·replace h4 : ¬ ((((LA.gjAt x0 k).1.getD ((LA.gjAt x0 k).2 + j) []).getD k 0) = 0) := of_decide_eq_false h4
     refine wp_exit (then_exit ?_)
     replace h := at_out (σ' := ⟨[(1, aI x1), (4, .p (.c (cN))), (5, aS 1), (6, aI (((LA.gjAt x0 k).2 : Nat) : Int)), (7, aI ((k : Nat) : Int)), (8, aI (((LA.gjAt x0 k).2 + j : Nat) : Int)), (17, aI (((LA.gjAt x0 k).2 : Nat) : Int)), (18, aS 1), (19, aI ((List.length (LA.gjAt x0 k).1 : Nat) : Int)), (20, aB (decide ((((LA.gjAt x0 k).2 : Nat) : Int) < ((List.length (LA.gjAt x0 k).1 : Nat) : Int)))), (30, aS 1), (31, aI (((LA.gjAt x0 k).2 + j : Nat) : Int)), (32, aE 1 ((LA.gjAt x0 k).2 + j) 0 1), (33, aF (.int 3) ((LA.gjAt x0 k).1.getD ((LA.gjAt x0 k).2 + j) [])), (34, aI ((k : Nat) : Int)), (35, aR (.int 3) (((LA.gjAt x0 k).1.getD ((LA.gjAt x0 k).2 + j) []).getD k 0) 0), (36, aI (((LA.gjAt x0 k).1.getD ((LA.gjAt x0 k).2 + j) []).getD k 0)), (37, aB (decide ((((LA.gjAt x0 k).1.getD ((LA.gjAt x0 k).2 + j) []).getD k 0) = 0)))], [(1, oF s27 (LA.gjAt x0 k).1)]⟩) { ts := [1, 4, 5, 6, 7, 8, 17, 18, 19, 20, 30, 31, 32, 33, 34, 35, 36, 37], os := [1] } h (by kernel_rfl)
     replace h := at_eq (σ' := ⟨[(1, aI x1), (4, .p (.c (cN))), (5, aS 1), (6, aI (((LA.gjAt x0 k).2 : Nat) : Int)), (7, aI ((k : Nat) : Int)), (8, aI ((LA.gp x0 k : Nat) : Int)), (17, aI (((LA.gjAt x0 k).2 : Nat) : Int)), (18, aS 1), (19, aI ((List.length (LA.gjAt x0 k).1 : Nat) : Int)), (20, aB (decide ((((LA.gjAt x0 k).2 : Nat) : Int) < ((List.length (LA.gjAt x0 k).1 : Nat) : Int)))), (30, aS 1), (31, aI (((LA.gjAt x0 k).2 + j : Nat) : Int)), (32, aE 1 ((LA.gjAt x0 k).2 + j) 0 1), (33, aF (.int 3) ((LA.gjAt x0 k).1.getD ((LA.gjAt x0 k).2 + j) [])), (34, aI ((k : Nat) : Int)), (35, aR (.int 3) (((LA.gjAt x0 k).1.getD ((LA.gjAt x0 k).2 + j) []).getD k 0) 0), (36, aI (((LA.gjAt x0 k).1.getD ((LA.gjAt x0 k).2 + j) []).getD k 0)), (37, aB (decide ((((LA.gjAt x0 k).1.getD ((LA.gjAt x0 k).2 + j) []).getD k 0) = 0)))], [(1, oF s27 (LA.gjAt x0 k).1)]⟩) h (st_congr1 (fun (d0 : Int) => (⟨[(1, aI x1), (4, .p (.c (cN))), (5, aS 1), (6, aI (((LA.gjAt x0 k).2 : Nat) : Int)), (7, aI ((k : Nat) : Int)), (8, aI d0), (17, aI (((LA.gjAt x0 k).2 : Nat) : Int)), (18, aS 1), (19, aI ((List.length (LA.gjAt x0 k).1 : Nat) : Int)), (20, aB (decide ((((LA.gjAt x0 k).2 : Nat) : Int) < ((List.length (LA.gjAt x0 k).1 : Nat) : Int)))), (30, aS 1), (31, aI (((LA.gjAt x0 k).2 + j : Nat) : Int)), (32, aE 1 ((LA.gjAt x0 k).2 + j) 0 1), (33, aF (.int 3) ((LA.gjAt x0 k).1.getD ((LA.gjAt x0 k).2 + j) [])), (34, aI ((k : Nat) : Int)), (35, aR (.int 3) (((LA.gjAt x0 k).1.getD ((LA.gjAt x0 k).2 + j) []).getD k 0) 0), (36, aI (((LA.gjAt x0 k).1.getD ((LA.gjAt x0 k).2 + j) []).getD k 0)), (37, aB (decide ((((LA.gjAt x0 k).1.getD ((LA.gjAt x0 k).2 + j) []).getD k 0) = 0)))], [(1, oF s27 (LA.gjAt x0 k).1)]⟩ : St)) (show ((((LA.gjAt x0 k).2 + j : Nat) : Int) : Int) = ((LA.gp x0 k : Nat) : Int) from by first | with_reducible rfl | (rw [LA.gp_eq hok1.1 hok1.2 (fun hh => by first | (exfalso; omega) | assumption)]) | rfl))
     have hgb := LA.gp_bd x0 k
     refine then_exit (in_hit (then_normal (wp_seq (wp_seq ?_))))
     refine at_regq [] { ts := [1, 4, 5, 6, 7, 8, 17, 18, 19, 20, 30, 31, 32, 33, 34, 35, 36, 37, 44], os := [1] } [] gamOK hT h (by kernel_rfl) trivial fun a w h => then_normal ?_
     refine at_test (decide (((LA.gp x0 k : Nat) : Int) = ((List.length (LA.gjAt x0 k).1 : Nat) : Int))) h (by kernel_rfl) (fun h5 => ?_) (fun h5 => ?_)
     ·replace h5 : ((LA.gp x0 k : Nat) : Int) = ((List.length (LA.gjAt x0 k).1 : Nat) : Int) := of_decide_eq_true h5
      refine wp_exit (then_exit (in_hit (then_normal ?_)))
      refine at_regq [{}, { nw := true }] { ts := [1, 4, 5, 6, 7, 17, 18, 19, 20, 30, 31, 32, 33, 34, 35, 36, 37], os := [1] } [I64 (((k : Nat) : Int) + 1)] gamOK hT h (by kernel_rfl) ⟨⟨by first | omega | (simp only [lsA]; omega) | (simp <;> omega), by first | omega | (simp only [lsA]; omega) | (simp <;> omega)⟩, trivial⟩ fun a w h => ?_
      replace h := at_out (σ' := ⟨[(1, aI x1), (4, .p (.c (cN))), (5, aS 1), (6, aI (((LA.gjAt x0 k).2 : Nat) : Int)), (7, aI (((k : Nat) : Int) + 1))], [(1, oF s27 (LA.gjAt x0 k).1)]⟩) { ts := [1, 4, 5, 6, 7], os := [1] } h (by kernel_rfl)
      exact ⟨k + 1, at_eq h (st_congr3 (fun (d0 : List (List Int)) (d1 : Int) (d2 : Int) => (⟨[(1, aI x1), (4, .p (.c (cN))), (5, aS 1), (6, aI d1), (7, aI d2)], [(1, oF s27 d0)]⟩ : St)) (show ((LA.gjAt x0 k).1 : List (List Int)) = (LA.gjAt x0 (k + 1)).1 from by first | with_reducible rfl | (first | (rw [LA.gm_none (by omega) (by omega)]; done) | (rw [LA.gm_done (i := i) hat (by omega) (by omega)]; try first | rfl | (dsimp only; omega))) | rfl) (show ((((LA.gjAt x0 k).2 : Nat) : Int) : Int) = (((LA.gjAt x0 (k + 1)).2 : Nat) : Int) from by first | with_reducible rfl | (first | (rw [LA.gm_none (by omega) (by omega)]; done) | (rw [LA.gm_done (i := i) hat (by omega) (by omega)]; try first | rfl | (dsimp only; omega))) | rfl) (show (((k : Nat) : Int) + 1 : Int) = (((k + 1) : Nat) : Int) from by first | with_reducible rfl | (omega) | rfl)), (by omega), (by omega)⟩
     ·replace h5 : ¬ (((LA.gp x0 k : Nat) : Int) = ((List.length (LA.gjAt x0 k).1 : Nat) : Int)) := of_decide_eq_false h5
      have hgpl : LA.gp x0 k < List.length (LA.gjAt x0 k).1 := by have := LA.gp_bd x0 k; omega
      have hgpz := (LA.gp_bd x0 k).2.2 hgpl
      have hpv := hgv _ (LA.getD_in (rows := (LA.gjAt x0 k).1) hgpl)
      have hpvl := hpv.1
      have hav := hgv _ (LA.getD_in (rows := (LA.gjAt x0 k).1) hat)
      refine wp_skip (then_normal (wp_seq ?_))
      refine at_regq [] { ts := [1, 4, 5, 6, 7, 8, 9, 17, 18, 19, 20, 30, 31, 32, 33, 34, 35, 36, 37], os := [1] } [(0 : Int) ≤ ((LA.gp x0 k : Nat) : Int) ∧ ((LA.gp x0 k : Nat) : Int) < ((List.length (LA.gjAt x0 k).1 : Nat) : Int), LA.gp x0 k < List.length (LA.gjAt x0 k).1] gamOK hT h (by kernel_rfl) ⟨(by refine ⟨?_, ?_⟩ <;> (first | omega | (simp only [lsA]; omega) | (simp <;> omega))), (by first | omega | (simp only [lsA]; omega) | (simp <;> omega)), trivial⟩ fun a w h => then_normal (wp_seq ?_)
      refine at_regq [] { ts := [1, 4, 5, 6, 7, 9, 17, 18, 19, 20, 30, 31, 32, 33, 34, 35, 36, 37], os := [1] } [(0 : Int) ≤ (((LA.gjAt x0 k).2 : Nat) : Int) ∧ (((LA.gjAt x0 k).2 : Nat) : Int) < ((List.length (LA.gjAt x0 k).1 : Nat) : Int), (LA.gjAt x0 k).2 < List.length (LA.gjAt x0 k).1, (0 : Int) ≤ ((LA.gp x0 k : Nat) : Int) ∧ ((LA.gp x0 k : Nat) : Int) < ((List.length (LA.gjAt x0 k).1 : Nat) : Int), LA.gp x0 k < List.length (LA.gjAt x0 k).1] gamOK hT h (by kernel_rfl) ⟨(by refine ⟨?_, ?_⟩ <;> (first | omega | (simp only [lsA]; omega) | (simp <;> omega))), (by first | omega | (simp only [lsA]; omega) | (simp <;> omega)), (by refine ⟨?_, ?_⟩ <;> (first | omega | (simp only [lsA]; omega) | (simp <;> omega))), (by first | omega | (simp only [lsA]; omega) | (simp <;> omega)), trivial⟩ fun a w h => then_normal (wp_seq ?_)
      refine at_regq [{}, {}, {}, {}, {}, {}, {}, {}, { frz := true }] { ts := [1, 4, 5, 6, 7, 17, 18, 19, 20, 30, 31, 32, 33, 34, 35, 36, 37], os := [1] } [(0 : Int) ≤ ((k : Nat) : Int) ∧ ((k : Nat) : Int) < ((List.length ((LA.gjAt x0 k).1.getD (LA.gp x0 k) []) : Nat) : Int), True, Q_spec_ScaleVector ((LA.gjAt x0 k).1.getD (LA.gp x0 k) []) (invF (((LA.gjAt x0 k).1.getD (LA.gp x0 k) []).getD k 0)), (0 : Int) ≤ (((LA.gjAt x0 k).2 : Nat) : Int) ∧ (((LA.gjAt x0 k).2 : Nat) : Int) < ((List.length (List.set (LA.gjAt x0 k).1 (LA.gp x0 k) ((LA.gjAt x0 k).1.getD (LA.gjAt x0 k).2 [])) : Nat) : Int), (LA.gjAt x0 k).2 < List.length (List.set (LA.gjAt x0 k).1 (LA.gp x0 k) ((LA.gjAt x0 k).1.getD (LA.gjAt x0 k).2 []))] gamOK hT h (by kernel_rfl) ⟨(by refine ⟨?_, ?_⟩ <;> (first | omega | (simp only [lsA]; omega) | (simp <;> omega))), trivial, (by exact fitV hpv hw2), (by refine ⟨?_, ?_⟩ <;> (first | omega | (simp only [lsA]; omega) | (simp <;> omega))), (by first | omega | (simp only [lsA]; omega) | (simp <;> omega)), trivial⟩ fun a w h => then_normal (wp_seq (wp_seq ?_))
      refine at_regq [] { ts := [1, 4, 5, 6, 7, 10, 17, 18, 19, 20, 30, 31, 32, 33, 34, 35, 36, 37], os := [1] } [] gamOK hT h (by kernel_rfl) trivial fun a w h => then_normal (wp_block ?_)
      replace h := at_out (σ' := ⟨[(1, aI x1), (4, .p (.c (cN))), (5, aS 1), (6, aI (((LA.gjAt x0 k).2 : Nat) : Int)), (7, aI ((k : Nat) : Int)), (10, aI 0), (17, aI (((LA.gjAt x0 k).2 : Nat) : Int)), (18, aS 1), (19, aI ((List.length (LA.gjAt x0 k).1 : Nat) : Int)), (20, aB (decide ((((LA.gjAt x0 k).2 : Nat) : Int) < ((List.length (LA.gjAt x0 k).1 : Nat) : Int)))), (30, aS 1), (31, aI (((LA.gjAt x0 k).2 + j : Nat) : Int)), (32, aE 1 ((LA.gjAt x0 k).2 + j) 0 1), (33, aF (.int 3) ((LA.gjAt x0 k).1.getD ((LA.gjAt x0 k).2 + j) [])), (34, aI ((k : Nat) : Int)), (35, aR (.int 3) (((LA.gjAt x0 k).1.getD ((LA.gjAt x0 k).2 + j) []).getD k 0) 0), (36, aI (((LA.gjAt x0 k).1.getD ((LA.gjAt x0 k).2 + j) []).getD k 0)), (37, aB (decide ((((LA.gjAt x0 k).1.getD ((LA.gjAt x0 k).2 + j) []).getD k 0) = 0)))], [(1, oF s27 (List.set (List.set (LA.gjAt x0 k).1 (LA.gp x0 k) ((LA.gjAt x0 k).1.getD (LA.gjAt x0 k).2 [])) (LA.gjAt x0 k).2 (scaleV ((LA.gjAt x0 k).1.getD (LA.gp x0 k) []) (invF (((LA.gjAt x0 k).1.getD (LA.gp x0 k) []).getD k 0)))))]⟩) { ts := [1, 4, 5, 6, 7, 10, 17, 18, 19, 20, 30, 31, 32, 33, 34, 35, 36, 37], os := [1] } h (by kernel_rfl)
      refine at_loop (fun i : Nat => (⟨[(1, aI x1), (4, .p (.c (cN))), (5, aS 1), (6, aI (((LA.gjAt x0 k).2 : Nat) : Int)), (7, aI ((k : Nat) : Int)), (10, aI ((i : Nat) : Int)), (17, aI (((LA.gjAt x0 k).2 : Nat) : Int)), (18, aS 1), (19, aI ((List.length (LA.gjAt x0 k).1 : Nat) : Int)), (20, aB (decide ((((LA.gjAt x0 k).2 : Nat) : Int) < ((List.length (LA.gjAt x0 k).1 : Nat) : Int)))), (30, aS 1), (31, aI (((LA.gjAt x0 k).2 + j : Nat) : Int)), (32, aE 1 ((LA.gjAt x0 k).2 + j) 0 1), (33, aF (.int 3) ((LA.gjAt x0 k).1.getD ((LA.gjAt x0 k).2 + j) [])), (34, aI ((k : Nat) : Int)), (35, aR (.int 3) (((LA.gjAt x0 k).1.getD ((LA.gjAt x0 k).2 + j) []).getD k 0) 0), (36, aI (((LA.gjAt x0 k).1.getD ((LA.gjAt x0 k).2 + j) []).getD k 0)), (37, aB (decide ((((LA.gjAt x0 k).1.getD ((LA.gjAt x0 k).2 + j) []).getD k 0) = 0)))], [(1, oF s27 (LA.gm x0 k i))]⟩ : St)) (fun i => i ≤ List.length (LA.gjAt x0 k).1) (fun i => List.length (LA.gjAt x0 k).1 - i) (0) h (st_congr2 (fun (d0 : List (List Int)) (d1 : Int) => (⟨[(1, aI x1), (4, .p (.c (cN))), (5, aS 1), (6, aI (((LA.gjAt x0 k).2 : Nat) : Int)), (7, aI ((k : Nat) : Int)), (10, aI d1), (17, aI (((LA.gjAt x0 k).2 : Nat) : Int)), (18, aS 1), (19, aI ((List.length (LA.gjAt x0 k).1 : Nat) : Int)), (20, aB (decide ((((LA.gjAt x0 k).2 : Nat) : Int) < ((List.length (LA.gjAt x0 k).1 : Nat) : Int)))), (30, aS 1), (31, aI (((LA.gjAt x0 k).2 + j : Nat) : Int)), (32, aE 1 ((LA.gjAt x0 k).2 + j) 0 1), (33, aF (.int 3) ((LA.gjAt x0 k).1.getD ((LA.gjAt x0 k).2 + j) [])), (34, aI ((k : Nat) : Int)), (35, aR (.int 3) (((LA.gjAt x0 k).1.getD ((LA.gjAt x0 k).2 + j) []).getD k 0) 0), (36, aI (((LA.gjAt x0 k).1.getD ((LA.gjAt x0 k).2 + j) []).getD k 0)), (37, aB (decide ((((LA.gjAt x0 k).1.getD ((LA.gjAt x0 k).2 + j) []).getD k 0) = 0)))], [(1, oF s27 d0)]⟩ : St)) (show ((List.set (List.set (LA.gjAt x0 k).1 (LA.gp x0 k) ((LA.gjAt x0 k).1.getD (LA.gjAt x0 k).2 [])) (LA.gjAt x0 k).2 (scaleV ((LA.gjAt x0 k).1.getD (LA.gp x0 k) []) (invF (((LA.gjAt x0 k).1.getD (LA.gp x0 k) []).getD k 0)))) : List (List Int)) = (LA.gm x0 k (0)) from by first | with_reducible rfl | (exact LA.gm_zero (l7_lead hgv hw2 hgpl hgpz)) | rfl) (show (0 : Int) = (((0) : Nat) : Int) from by first | with_reducible rfl | (exact LA.gm_zero (l7_lead hgv hw2 hgpl hgpz)) | rfl)) (by omega) ?_
      intro i a w hok2 h
      have hml := LA.gm_len x0 k i
      refine wp_seq (wp_seq ?_)
      refine at_regq [] { ts := [1, 4, 5, 6, 7, 10, 17, 18, 19, 20, 30, 31, 32, 33, 34, 35, 36, 37, 69], os := [1] } [] gamOK hT h (by kernel_rfl) trivial fun a w h => then_normal ?_
      refine at_test (decide (((i : Nat) : Int) < ((List.length (LA.gm x0 k i) : Nat) : Int))) h (by kernel_rfl) (fun h6 => ?_) (fun h6 => ?_)
      ·replace h6 : ((i : Nat) : Int) < ((List.length (LA.gm x0 k i) : Nat) : Int) := of_decide_eq_true h6
       have hmi := LA.gm_ok (i := i) hw1 hat hgpl (show i < List.length (LA.gjAt x0 k).1 by omega)
       have hmil := hmi.1
       have hmir := hmi.rng k
       have hma := LA.gm_piv (i := i) hw1 hat hgpl
       have hmal := hma.1
       refine wp_skip (then_normal (wp_seq (wp_block (wp_seq ?_))))
       by_cases h7 : ((i : Nat) : Int) = (((LA.gjAt x0 k).2 : Nat) : Int)
       ·refine at_regq [{}, {}, { hint := some (aB false) }] { ts := [1, 4, 5, 6, 7, 10, 17, 18, 19, 20, 30, 31, 32, 33, 34, 35, 36, 37, 76, 77, 78, 79, 80, 81, 82, 83, 84], os := [1] } [(AV.p (.c (.v (.bool (!decide (((i : Nat) : Int) = (((LA.gjAt x0 k).2 : Nat) : Int)))))) = AV.p (.c (.v (.bool false))))] gamOK hT h (by kernel_rfl) ⟨hint_bool (ndT h7), trivial⟩ fun a w h => then_normal ?_
        refine at_test false h (by kernel_rfl) (fun hh => nomatch hh) (fun hh => ?_)
        refine wp_skip (in_normal (then_normal ?_))
        refine at_regq [{}, { nw := true }] { ts := [1, 4, 5, 6, 7, 10, 17, 18, 19, 20, 30, 31, 32, 33, 34, 35, 36, 37, 76, 77, 78, 79, 80, 81, 82, 83], os := [1] } [I64 (((i : Nat) : Int) + 1)] gamOK hT h (by kernel_rfl) ⟨⟨by first | omega | (simp only [lsA]; omega) | (simp <;> omega), by first | omega | (simp only [lsA]; omega) | (simp <;> omega)⟩, trivial⟩ fun a w h => ?_
        replace h := at_out (σ' := ⟨[(1, aI x1), (4, .p (.c (cN))), (5, aS 1), (6, aI (((LA.gjAt x0 k).2 : Nat) : Int)), (7, aI ((k : Nat) : Int)), (10, aI (((i : Nat) : Int) + 1)), (17, aI (((LA.gjAt x0 k).2 : Nat) : Int)), (18, aS 1), (19, aI ((List.length (LA.gjAt x0 k).1 : Nat) : Int)), (20, aB (decide ((((LA.gjAt x0 k).2 : Nat) : Int) < ((List.length (LA.gjAt x0 k).1 : Nat) : Int)))), (30, aS 1), (31, aI (((LA.gjAt x0 k).2 + j : Nat) : Int)), (32, aE 1 ((LA.gjAt x0 k).2 + j) 0 1), (33, aF (.int 3) ((LA.gjAt x0 k).1.getD ((LA.gjAt x0 k).2 + j) [])), (34, aI ((k : Nat) : Int)), (35, aR (.int 3) (((LA.gjAt x0 k).1.getD ((LA.gjAt x0 k).2 + j) []).getD k 0) 0), (36, aI (((LA.gjAt x0 k).1.getD ((LA.gjAt x0 k).2 + j) []).getD k 0)), (37, aB (decide ((((LA.gjAt x0 k).1.getD ((LA.gjAt x0 k).2 + j) []).getD k 0) = 0)))], [(1, oF s27 (LA.gm x0 k i))]⟩) { ts := [1, 4, 5, 6, 7, 10, 17, 18, 19, 20, 30, 31, 32, 33, 34, 35, 36, 37], os := [1] } h (by kernel_rfl)
        exact ⟨i + 1, at_eq h (st_congr2 (fun (d0 : List (List Int)) (d1 : Int) => (⟨[(1, aI x1), (4, .p (.c (cN))), (5, aS 1), (6, aI (((LA.gjAt x0 k).2 : Nat) : Int)), (7, aI ((k : Nat) : Int)), (10, aI d1), (17, aI (((LA.gjAt x0 k).2 : Nat) : Int)), (18, aS 1), (19, aI ((List.length (LA.gjAt x0 k).1 : Nat) : Int)), (20, aB (decide ((((LA.gjAt x0 k).2 : Nat) : Int) < ((List.length (LA.gjAt x0 k).1 : Nat) : Int)))), (30, aS 1), (31, aI (((LA.gjAt x0 k).2 + j : Nat) : Int)), (32, aE 1 ((LA.gjAt x0 k).2 + j) 0 1), (33, aF (.int 3) ((LA.gjAt x0 k).1.getD ((LA.gjAt x0 k).2 + j) [])), (34, aI ((k : Nat) : Int)), (35, aR (.int 3) (((LA.gjAt x0 k).1.getD ((LA.gjAt x0 k).2 + j) []).getD k 0) 0), (36, aI (((LA.gjAt x0 k).1.getD ((LA.gjAt x0 k).2 + j) []).getD k 0)), (37, aB (decide ((((LA.gjAt x0 k).1.getD ((LA.gjAt x0 k).2 + j) []).getD k 0) = 0)))], [(1, oF s27 d0)]⟩ : St)) (show ((LA.gm x0 k i) : List (List Int)) = (LA.gm x0 k (i + 1)) from by first | with_reducible rfl | (first | exact (LA.gm_same (by omega) (Or.inl (by omega))).symm | exact (LA.gm_same (by omega) (Or.inr (by assumption))).symm | (rw [addV_L hmi hma hw2 (by omega)]; exact (LA.gm_add (by omega) hat (by omega) (by assumption)).symm)) | rfl) (show (((i : Nat) : Int) + 1 : Int) = (((i + 1) : Nat) : Int) from by first | with_reducible rfl | (omega) | rfl)), (by omega), (by omega)⟩
       ·refine at_regq [{}, {}, { hint := some (aB true) }] { ts := [1, 4, 5, 6, 7, 10, 17, 18, 19, 20, 30, 31, 32, 33, 34, 35, 36, 37, 76, 77, 78, 79, 80, 81, 82, 83, 84], os := [1] } [(AV.p (.c (.v (.bool (!decide (((i : Nat) : Int) = (((LA.gjAt x0 k).2 : Nat) : Int)))))) = AV.p (.c (.v (.bool true)))), (0 : Int) ≤ ((i : Nat) : Int) ∧ ((i : Nat) : Int) < ((List.length (LA.gm x0 k i) : Nat) : Int), i < List.length (LA.gm x0 k i), (0 : Int) ≤ ((k : Nat) : Int) ∧ ((k : Nat) : Int) < ((List.length ((LA.gm x0 k i).getD i []) : Nat) : Int)] gamOK hT h (by kernel_rfl) ⟨hint_bool (ndF h7), (by refine ⟨?_, ?_⟩ <;> (first | omega | (simp only [lsA]; omega) | (simp <;> omega))), (by first | omega | (simp only [lsA]; omega) | (simp <;> omega)), (by refine ⟨?_, ?_⟩ <;> (first | omega | (simp only [lsA]; omega) | (simp <;> omega))), trivial⟩ fun a w h => then_normal ?_
        refine at_test (!decide ((((LA.gm x0 k i).getD i []).getD k 0) = 0)) h (by kernel_rfl) (fun h8 => ?_) (fun h8 => ?_)
        ·replace h8 : ¬ ((((LA.gm x0 k i).getD i []).getD k 0) = 0) := of_decide_eq_false (notT h8)
         refine at_anyq [{}, {}, {}, {}, {}, {}, {}, {}, {}, {}, {}, {}, {}, {}, {}, {}, {}, { nw := true }, { frz := true }, {}, {}] { ts := [1, 4, 5, 6, 7, 10, 17, 18, 19, 20, 30, 31, 32, 33, 34, 35, 36, 37, 76, 77, 78, 79, 80, 81, 82, 83], os := [1] } [(0 : Int) ≤ ((i : Nat) : Int) ∧ ((i : Nat) : Int) < ((List.length (LA.gm x0 k i) : Nat) : Int), i < List.length (LA.gm x0 k i), (0 : Int) ≤ (((LA.gjAt x0 k).2 : Nat) : Int) ∧ (((LA.gjAt x0 k).2 : Nat) : Int) < ((List.length (LA.gm x0 k i) : Nat) : Int), (LA.gjAt x0 k).2 < List.length (LA.gm x0 k i), (0 : Int) ≤ ((i : Nat) : Int) ∧ ((i : Nat) : Int) < ((List.length (LA.gm x0 k i) : Nat) : Int), i < List.length (LA.gm x0 k i), (0 : Int) ≤ ((k : Nat) : Int) ∧ ((k : Nat) : Int) < ((List.length ((LA.gm x0 k i).getD i []) : Nat) : Int), I64 (1019 - (((LA.gm x0 k i).getD i []).getD k 0)), Q_spec_AddScaled ((LA.gm x0 k i).getD i []) ((LA.gm x0 k i).getD (LA.gjAt x0 k).2 []) (1019 - (((LA.gm x0 k i).getD i []).getD k 0)), (0 : Int) ≤ ((i : Nat) : Int) ∧ ((i : Nat) : Int) < ((List.length (LA.gm x0 k i) : Nat) : Int), i < List.length (LA.gm x0 k i)] gamOK hT mixed h (by kernel_rfl) ⟨(by refine ⟨?_, ?_⟩ <;> (first | omega | (simp only [lsA]; omega) | (simp <;> omega))), (by first | omega | (simp only [lsA]; omega) | (simp <;> omega)), (by refine ⟨?_, ?_⟩ <;> (first | omega | (simp only [lsA]; omega) | (simp <;> omega))), (by first | omega | (simp only [lsA]; omega) | (simp <;> omega)), (by refine ⟨?_, ?_⟩ <;> (first | omega | (simp only [lsA]; omega) | (simp <;> omega))), (by first | omega | (simp only [lsA]; omega) | (simp <;> omega)), (by refine ⟨?_, ?_⟩ <;> (first | omega | (simp only [lsA]; omega) | (simp <;> omega))), ⟨by first | omega | (simp only [lsA]; omega) | (simp <;> omega), by first | omega | (simp only [lsA]; omega) | (simp <;> omega)⟩, (by exact ⟨fitV hmi hw2, fitV hma hw2⟩), (by refine ⟨?_, ?_⟩ <;> (first | omega | (simp only [lsA]; omega) | (simp <;> omega))), (by first | omega | (simp only [lsA]; omega) | (simp <;> omega)), trivial⟩ fun a w h => in_normal (then_normal ?_)
         refine at_regq [{}, { nw := true }] { ts := [1, 4, 5, 6, 7, 10, 17, 18, 19, 20, 30, 31, 32, 33, 34, 35, 36, 37, 76, 77, 78, 79, 80, 81, 82, 83], os := [1] } [I64 (((i : Nat) : Int) + 1)] gamOK hT h (by kernel_rfl) ⟨⟨by first | omega | (simp only [lsA]; omega) | (simp <;> omega), by first | omega | (simp only [lsA]; omega) | (simp <;> omega)⟩, trivial⟩ fun a w h => ?_
         replace h := at_out (σ' := ⟨[(1, aI x1), (4, .p (.c (cN))), (5, aS 1), (6, aI (((LA.gjAt x0 k).2 : Nat) : Int)), (7, aI ((k : Nat) : Int)), (10, aI (((i : Nat) : Int) + 1)), (17, aI (((LA.gjAt x0 k).2 : Nat) : Int)), (18, aS 1), (19, aI ((List.length (LA.gjAt x0 k).1 : Nat) : Int)), (20, aB (decide ((((LA.gjAt x0 k).2 : Nat) : Int) < ((List.length (LA.gjAt x0 k).1 : Nat) : Int)))), (30, aS 1), (31, aI (((LA.gjAt x0 k).2 + j : Nat) : Int)), (32, aE 1 ((LA.gjAt x0 k).2 + j) 0 1), (33, aF (.int 3) ((LA.gjAt x0 k).1.getD ((LA.gjAt x0 k).2 + j) [])), (34, aI ((k : Nat) : Int)), (35, aR (.int 3) (((LA.gjAt x0 k).1.getD ((LA.gjAt x0 k).2 + j) []).getD k 0) 0), (36, aI (((LA.gjAt x0 k).1.getD ((LA.gjAt x0 k).2 + j) []).getD k 0)), (37, aB (decide ((((LA.gjAt x0 k).1.getD ((LA.gjAt x0 k).2 + j) []).getD k 0) = 0)))], [(1, oF s27 (List.set (LA.gm x0 k i) i (addV ((LA.gm x0 k i).getD i []) ((LA.gm x0 k i).getD (LA.gjAt x0 k).2 []) (1019 - (((LA.gm x0 k i).getD i []).getD k 0)))))]⟩) { ts := [1, 4, 5, 6, 7, 10, 17, 18, 19, 20, 30, 31, 32, 33, 34, 35, 36, 37], os := [1] } h (by kernel_rfl)
         exact ⟨i + 1, at_eq h (st_congr2 (fun (d0 : List (List Int)) (d1 : Int) => (⟨[(1, aI x1), (4, .p (.c (cN))), (5, aS 1), (6, aI (((LA.gjAt x0 k).2 : Nat) : Int)), (7, aI ((k : Nat) : Int)), (10, aI d1), (17, aI (((LA.gjAt x0 k).2 : Nat) : Int)), (18, aS 1), (19, aI ((List.length (LA.gjAt x0 k).1 : Nat) : Int)), (20, aB (decide ((((LA.gjAt x0 k).2 : Nat) : Int) < ((List.length (LA.gjAt x0 k).1 : Nat) : Int)))), (30, aS 1), (31, aI (((LA.gjAt x0 k).2 + j : Nat) : Int)), (32, aE 1 ((LA.gjAt x0 k).2 + j) 0 1), (33, aF (.int 3) ((LA.gjAt x0 k).1.getD ((LA.gjAt x0 k).2 + j) [])), (34, aI ((k : Nat) : Int)), (35, aR (.int 3) (((LA.gjAt x0 k).1.getD ((LA.gjAt x0 k).2 + j) []).getD k 0) 0), (36, aI (((LA.gjAt x0 k).1.getD ((LA.gjAt x0 k).2 + j) []).getD k 0)), (37, aB (decide ((((LA.gjAt x0 k).1.getD ((LA.gjAt x0 k).2 + j) []).getD k 0) = 0)))], [(1, oF s27 d0)]⟩ : St)) (show ((List.set (LA.gm x0 k i) i (addV ((LA.gm x0 k i).getD i []) ((LA.gm x0 k i).getD (LA.gjAt x0 k).2 []) (1019 - (((LA.gm x0 k i).getD i []).getD k 0)))) : List (List Int)) = (LA.gm x0 k (i + 1)) from by first | with_reducible rfl | (first | exact (LA.gm_same (by omega) (Or.inl (by omega))).symm | exact (LA.gm_same (by omega) (Or.inr (by assumption))).symm | (rw [addV_L hmi hma hw2 (by omega)]; exact (LA.gm_add (by omega) hat (by omega) (by assumption)).symm)) | rfl) (show (((i : Nat) : Int) + 1 : Int) = (((i + 1) : Nat) : Int) from by first | with_reducible rfl | (omega) | rfl)), (by omega), (by omega)⟩
        ·replace h8 : (((LA.gm x0 k i).getD i []).getD k 0) = 0 := of_decide_eq_true (notF h8)
         refine wp_skip (in_normal (then_normal ?_))
         refine at_regq [{}, { nw := true }] { ts := [1, 4, 5, 6, 7, 10, 17, 18, 19, 20, 30, 31, 32, 33, 34, 35, 36, 37, 76, 77, 78, 79, 80, 81, 82, 83], os := [1] } [I64 (((i : Nat) : Int) + 1)] gamOK hT h (by kernel_rfl) ⟨⟨by first | omega | (simp only [lsA]; omega) | (simp <;> omega), by first | omega | (simp only [lsA]; omega) | (simp <;> omega)⟩, trivial⟩ fun a w h => ?_
         replace h := at_out (σ' := ⟨[(1, aI x1), (4, .p (.c (cN))), (5, aS 1), (6, aI (((LA.gjAt x0 k).2 : Nat) : Int)), (7, aI ((k : Nat) : Int)), (10, aI (((i : Nat) : Int) + 1)), (17, aI (((LA.gjAt x0 k).2 : Nat) : Int)), (18, aS 1), (19, aI ((List.length (LA.gjAt x0 k).1 : Nat) : Int)), (20, aB (decide ((((LA.gjAt x0 k).2 : Nat) : Int) < ((List.length (LA.gjAt x0 k).1 : Nat) : Int)))), (30, aS 1), (31, aI (((LA.gjAt x0 k).2 + j : Nat) : Int)), (32, aE 1 ((LA.gjAt x0 k).2 + j) 0 1), (33, aF (.int 3) ((LA.gjAt x0 k).1.getD ((LA.gjAt x0 k).2 + j) [])), (34, aI ((k : Nat) : Int)), (35, aR (.int 3) (((LA.gjAt x0 k).1.getD ((LA.gjAt x0 k).2 + j) []).getD k 0) 0), (36, aI (((LA.gjAt x0 k).1.getD ((LA.gjAt x0 k).2 + j) []).getD k 0)), (37, aB (decide ((((LA.gjAt x0 k).1.getD ((LA.gjAt x0 k).2 + j) []).getD k 0) = 0)))], [(1, oF s27 (LA.gm x0 k i))]⟩) { ts := [1, 4, 5, 6, 7, 10, 17, 18, 19, 20, 30, 31, 32, 33, 34, 35, 36, 37], os := [1] } h (by kernel_rfl)
         exact ⟨i + 1, at_eq h (st_congr2 (fun (d0 : List (List Int)) (d1 : Int) => (⟨[(1, aI x1), (4, .p (.c (cN))), (5, aS 1), (6, aI (((LA.gjAt x0 k).2 : Nat) : Int)), (7, aI ((k : Nat) : Int)), (10, aI d1), (17, aI (((LA.gjAt x0 k).2 : Nat) : Int)), (18, aS 1), (19, aI ((List.length (LA.gjAt x0 k).1 : Nat) : Int)), (20, aB (decide ((((LA.gjAt x0 k).2 : Nat) : Int) < ((List.length (LA.gjAt x0 k).1 : Nat) : Int)))), (30, aS 1), (31, aI (((LA.gjAt x0 k).2 + j : Nat) : Int)), (32, aE 1 ((LA.gjAt x0 k).2 + j) 0 1), (33, aF (.int 3) ((LA.gjAt x0 k).1.getD ((LA.gjAt x0 k).2 + j) [])), (34, aI ((k : Nat) : Int)), (35, aR (.int 3) (((LA.gjAt x0 k).1.getD ((LA.gjAt x0 k).2 + j) []).getD k 0) 0), (36, aI (((LA.gjAt x0 k).1.getD ((LA.gjAt x0 k).2 + j) []).getD k 0)), (37, aB (decide ((((LA.gjAt x0 k).1.getD ((LA.gjAt x0 k).2 + j) []).getD k 0) = 0)))], [(1, oF s27 d0)]⟩ : St)) (show ((LA.gm x0 k i) : List (List Int)) = (LA.gm x0 k (i + 1)) from by first | with_reducible rfl | (first | exact (LA.gm_same (by omega) (Or.inl (by omega))).symm | exact (LA.gm_same (by omega) (Or.inr (by assumption))).symm | (rw [addV_L hmi hma hw2 (by omega)]; exact (LA.gm_add (by omega) hat (by omega) (by assumption)).symm)) | rfl) (show (((i : Nat) : Int) + 1 : Int) = (((i + 1) : Nat) : Int) from by first | with_reducible rfl | (omega) | rfl)), (by omega), (by omega)⟩
      ·replace h6 : ¬ (((i : Nat) : Int) < ((List.length (LA.gm x0 k i) : Nat) : Int)) := of_decide_eq_false h6
       refine wp_exit (then_exit (then_exit (in_hit (then_normal ?_))))
       refine at_regq [{}, { nw := true }] { ts := [1, 4, 5, 6, 7, 17, 18, 19, 20, 30, 31, 32, 33, 34, 35, 36, 37], os := [1] } [I64 ((((LA.gjAt x0 k).2 : Nat) : Int) + 1)] gamOK hT h (by kernel_rfl) ⟨⟨by first | omega | (simp only [lsA]; omega) | (simp <;> omega), by first | omega | (simp only [lsA]; omega) | (simp <;> omega)⟩, trivial⟩ fun a w h => in_normal (then_normal ?_)
       refine at_regq [{}, { nw := true }] { ts := [1, 4, 5, 6, 7, 17, 18, 19, 20, 30, 31, 32, 33, 34, 35, 36, 37], os := [1] } [I64 (((k : Nat) : Int) + 1)] gamOK hT h (by kernel_rfl) ⟨⟨by first | omega | (simp only [lsA]; omega) | (simp <;> omega), by first | omega | (simp only [lsA]; omega) | (simp <;> omega)⟩, trivial⟩ fun a w h => ?_
       replace h := at_out (σ' := ⟨[(1, aI x1), (4, .p (.c (cN))), (5, aS 1), (6, aI ((((LA.gjAt x0 k).2 : Nat) : Int) + 1)), (7, aI (((k : Nat) : Int) + 1))], [(1, oF s27 (LA.gm x0 k i))]⟩) { ts := [1, 4, 5, 6, 7], os := [1] } h (by kernel_rfl)
       exact ⟨k + 1, at_eq h (st_congr3 (fun (d0 : List (List Int)) (d1 : Int) (d2 : Int) => (⟨[(1, aI x1), (4, .p (.c (cN))), (5, aS 1), (6, aI d1), (7, aI d2)], [(1, oF s27 d0)]⟩ : St)) (show ((LA.gm x0 k i) : List (List Int)) = (LA.gjAt x0 (k + 1)).1 from by first | with_reducible rfl | (first | (rw [LA.gm_none (by omega) (by omega)]; done) | (rw [LA.gm_done (i := i) hat (by omega) (by omega)]; try first | rfl | (dsimp only; omega))) | rfl) (show ((((LA.gjAt x0 k).2 : Nat) : Int) + 1 : Int) = (((LA.gjAt x0 (k + 1)).2 : Nat) : Int) from by first | with_reducible rfl | (first | (rw [LA.gm_none (by omega) (by omega)]; done) | (rw [LA.gm_done (i := i) hat (by omega) (by omega)]; try first | rfl | (dsimp only; omega))) | rfl) (show (((k : Nat) : Int) + 1 : Int) = (((k + 1) : Nat) : Int) from by first | with_reducible rfl | (omega) | rfl)), (by omega), (by omega)⟩
   ·refine at_regq [{}, {}, {}, { hint := some (aB false) }] { ts := [1, 4, 5, 6, 7, 8, 17, 18, 19, 20, 30, 31, 32, 33, 34, 35, 36, 37, 38], os := [1] } [(AV.p (.c (.v (.bool (decide ((((LA.gjAt x0 k).2 + j : Nat) : Int) < ((List.length (LA.gjAt x0 k).1 : Nat) : Int)))))) = AV.p (.c (.v (.bool false))))] gamOK hT h (by kernel_rfl) ⟨hint_bool (decide_eq_false h3), trivial⟩ fun a w h => then_normal ?_
    refine at_test false h (by kernel_rfl) (fun hh => nomatch hh) (fun hh => ?_)
    refine wp_exit (then_exit ?_)
    replace h := at_out (σ' := ⟨[(1, aI x1), (4, .p (.c (cN))), (5, aS 1), (6, aI (((LA.gjAt x0 k).2 : Nat) : Int)), (7, aI ((k : Nat) : Int)), (8, aI (((LA.gjAt x0 k).2 + j : Nat) : Int)), (17, aI (((LA.gjAt x0 k).2 : Nat) : Int)), (18, aS 1), (19, aI ((List.length (LA.gjAt x0 k).1 : Nat) : Int)), (20, aB (decide ((((LA.gjAt x0 k).2 : Nat) : Int) < ((List.length (LA.gjAt x0 k).1 : Nat) : Int)))), (30, .p (.c (.v undef))), (31, .p (.c (.v undef))), (32, .p (.c (.v undef))), (33, .p (.c (.v undef))), (34, .p (.c (.v undef))), (35, .p (.c (.v undef))), (36, .p (.c (.v undef))), (37, .p (.c (.v undef)))], [(1, oF s27 (LA.gjAt x0 k).1)]⟩) { ts := [1, 4, 5, 6, 7, 8, 17, 18, 19, 20, 30, 31, 32, 33, 34, 35, 36, 37], os := [1] } h (by kernel_rfl)
    replace h := at_eq (σ' := ⟨[(1, aI x1), (4, .p (.c (cN))), (5, aS 1), (6, aI (((LA.gjAt x0 k).2 : Nat) : Int)), (7, aI ((k : Nat) : Int)), (8, aI ((LA.gp x0 k : Nat) : Int)), (17, aI (((LA.gjAt x0 k).2 : Nat) : Int)), (18, aS 1), (19, aI ((List.length (LA.gjAt x0 k).1 : Nat) : Int)), (20, aB (decide ((((LA.gjAt x0 k).2 : Nat) : Int) < ((List.length (LA.gjAt x0 k).1 : Nat) : Int)))), (30, .p (.c (.v undef))), (31, .p (.c (.v undef))), (32, .p (.c (.v undef))), (33, .p (.c (.v undef))), (34, .p (.c (.v undef))), (35, .p (.c (.v undef))), (36, .p (.c (.v undef))), (37, .p (.c (.v undef)))], [(1, oF s27 (LA.gjAt x0 k).1)]⟩) h (st_congr1 (fun (d0 : Int) => (⟨[(1, aI x1), (4, .p (.c (cN))), (5, aS 1), (6, aI (((LA.gjAt x0 k).2 : Nat) : Int)), (7, aI ((k : Nat) : Int)), (8, aI d0), (17, aI (((LA.gjAt x0 k).2 : Nat) : Int)), (18, aS 1), (19, aI ((List.length (LA.gjAt x0 k).1 : Nat) : Int)), (20, aB (decide ((((LA.gjAt x0 k).2 : Nat) : Int) < ((List.length (LA.gjAt x0 k).1 : Nat) : Int)))), (30, .p (.c (.v undef))), (31, .p (.c (.v undef))), (32, .p (.c (.v undef))), (33, .p (.c (.v undef))), (34, .p (.c (.v undef))), (35, .p (.c (.v undef))), (36, .p (.c (.v undef))), (37, .p (.c (.v undef)))], [(1, oF s27 (LA.gjAt x0 k).1)]⟩ : St)) (show ((((LA.gjAt x0 k).2 + j : Nat) : Int) : Int) = ((LA.gp x0 k : Nat) : Int) from by first | with_reducible rfl | (rw [LA.gp_eq hok1.1 hok1.2 (fun hh => by first | (exfalso; omega) | assumption)]) | rfl))
    have hgb := LA.gp_bd x0 k
    refine then_exit (in_hit (then_normal (wp_seq (wp_seq ?_))))
    refine at_regq [] { ts := [1, 4, 5, 6, 7, 8, 17, 18, 19, 20, 30, 31, 32, 33, 34, 35, 36, 37, 44], os := [1] } [] gamOK hT h (by kernel_rfl) trivial fun a w h => then_normal ?_
    refine at_test (decide (((LA.gp x0 k : Nat) : Int) = ((List.length (LA.gjAt x0 k).1 : Nat) : Int))) h (by kernel_rfl) (fun h9 => ?_) (fun h9 => ?_)
    ·replace h9 : ((LA.gp x0 k : Nat) : Int) = ((List.length (LA.gjAt x0 k).1 : Nat) : Int) := of_decide_eq_true h9
     refine wp_exit (then_exit (in_hit (then_normal ?_)))
     refine at_regq [{}, { nw := true }] { ts := [1, 4, 5, 6, 7, 17, 18, 19, 20, 30, 31, 32, 33, 34, 35, 36, 37], os := [1] } [I64 (((k : Nat) : Int) + 1)] gamOK hT h (by kernel_rfl) ⟨⟨by first | omega | (simp only [lsA]; omega) | (simp <;> omega), by first | omega | (simp only [lsA]; omega) | (simp <;> omega)⟩, trivial⟩ fun a w h => ?_
     replace h := at_out (σ' := ⟨[(1, aI x1), (4, .p (.c (cN))), (5, aS 1), (6, aI (((LA.gjAt x0 k).2 : Nat) : Int)), (7, aI (((k : Nat) : Int) + 1))], [(1, oF s27 (LA.gjAt x0 k).1)]⟩) { ts := [1, 4, 5, 6, 7], os := [1] } h (by kernel_rfl)
     exact ⟨k + 1, at_eq h (st_congr3 (fun (d0 : List (List Int)) (d1 : Int) (d2 : Int) => (⟨[(1, aI x1), (4, .p (.c (cN))), (5, aS 1), (6, aI d1), (7, aI d2)], [(1, oF s27 d0)]⟩ : St)) (show ((LA.gjAt x0 k).1 : List (List Int)) = (LA.gjAt x0 (k + 1)).1 from by first | with_reducible rfl | (first | (rw [LA.gm_none (by omega) (by omega)]; done) | (rw [LA.gm_done (i := i) hat (by omega) (by omega)]; try first | rfl | (dsimp only; omega))) | rfl) (show ((((LA.gjAt x0 k).2 : Nat) : Int) : Int) = (((LA.gjAt x0 (k + 1)).2 : Nat) : Int) from by first | with_reducible rfl | (first | (rw [LA.gm_none (by omega) (by omega)]; done) | (rw [LA.gm_done (i := i) hat (by omega) (by omega)]; try first | rfl | (dsimp only; omega))) | rfl) (show (((k : Nat) : Int) + 1 : Int) = (((k + 1) : Nat) : Int) from by first | with_reducible rfl | (omega) | rfl)), (by omega), (by omega)⟩
    ·replace h9 : ¬ (((LA.gp x0 k : Nat) : Int) = ((List.length (LA.gjAt x0 k).1 : Nat) : Int)) := of_decide_eq_false h9
     have hgpl : LA.gp x0 k < List.length (LA.gjAt x0 k).1 := by have := LA.gp_bd x0 k; omega
     have hgpz := (LA.gp_bd x0 k).2.2 hgpl
     have hpv := hgv _ (LA.getD_in (rows := (LA.gjAt x0 k).1) hgpl)
     have hpvl := hpv.1
     have hav := hgv _ (LA.getD_in (rows := (LA.gjAt x0 k).1) hat)
     refine wp_skip (then_normal (wp_seq ?_))
     refine at_regq [] { ts := [1, 4, 5, 6, 7, 8, 9, 17, 18, 19, 20, 30, 31, 32, 33, 34, 35, 36, 37], os := [1] } [(0 : Int) ≤ ((LA.gp x0 k : Nat) : Int) ∧ ((LA.gp x0 k : Nat) : Int) < ((List.length (LA.gjAt x0 k).1 : Nat) : Int), LA.gp x0 k < List.length (LA.gjAt x0 k).1] gamOK hT h (by kernel_rfl) ⟨(by refine ⟨?_, ?_⟩ <;> (first | omega | (simp only [lsA]; omega) | (simp <;> omega))), (by first | omega | (simp only [lsA]; omega) | (simp <;> omega)), trivial⟩ fun a w h => then_normal (wp_seq ?_)
     refine at_regq [] { ts := [1, 4, 5, 6, 7, 9, 17, 18, 19, 20, 30, 31, 32, 33, 34, 35, 36, 37], os := [1] } [(0 : Int) ≤ (((LA.gjAt x0 k).2 : Nat) : Int) ∧ (((LA.gjAt x0 k).2 : Nat) : Int) < ((List.length (LA.gjAt x0 k).1 : Nat) : Int), (LA.gjAt x0 k).2 < List.length (LA.gjAt x0 k).1, (0 : Int) ≤ ((LA.gp x0 k : Nat) : Int) ∧ ((LA.gp x0 k : Nat) : Int) < ((List.length (LA.gjAt x0 k).1 : Nat) : Int), LA.gp x0 k < List.length (LA.gjAt x0 k).1] gamOK hT h (by kernel_rfl) ⟨(by refine ⟨?_, ?_⟩ <;> (first | omega | (simp only [lsA]; omega) | (simp <;> omega))), (by first | omega | (simp only [lsA]; omega) | (simp <;> omega)), (by refine ⟨?_, ?_⟩ <;> (first | omega | (simp only [lsA]; omega) | (simp <;> omega))), (by first | omega | (simp only [lsA]; omega) | (simp <;> omega)), trivial⟩ fun a w h => then_normal (wp_seq ?_)
     refine at_regq [{}, {}, {}, {}, {}, {}, {}, {}, { frz := true }] { ts := [1, 4, 5, 6, 7, 17, 18, 19, 20, 30, 31, 32, 33, 34, 35, 36, 37], os := [1] } [(0 : Int) ≤ ((k : Nat) : Int) ∧ ((k : Nat) : Int) < ((List.length ((LA.gjAt x0 k).1.getD (LA.gp x0 k) []) : Nat) : Int), True, Q_spec_ScaleVector ((LA.gjAt x0 k).1.getD (LA.gp x0 k) []) (invF (((LA.gjAt x0 k).1.getD (LA.gp x0 k) []).getD k 0)), (0 : Int) ≤ (((LA.gjAt x0 k).2 : Nat) : Int) ∧ (((LA.gjAt x0 k).2 : Nat) : Int) < ((List.length (List.set (LA.gjAt x0 k).1 (LA.gp x0 k) ((LA.gjAt x0 k).1.getD (LA.gjAt x0 k).2 [])) : Nat) : Int), (LA.gjAt x0 k).2 < List.length (List.set (LA.gjAt x0 k).1 (LA.gp x0 k) ((LA.gjAt x0 k).1.getD (LA.gjAt x0 k).2 []))] gamOK hT h (by kernel_rfl) ⟨(by refine ⟨?_, ?_⟩ <;> (first | omega | (simp only [lsA]; omega) | (simp <;> omega))), trivial, (by exact fitV hpv hw2), (by refine ⟨?_, ?_⟩ <;> (first | omega | (simp only [lsA]; omega) | (simp <;> omega))), (by first | omega | (simp only [lsA]; omega) | (simp <;> omega)), trivial⟩ fun a w h => then_normal (wp_seq (wp_seq ?_))
     refine at_regq [] { ts := [1, 4, 5, 6, 7, 10, 17, 18, 19, 20, 30, 31, 32, 33, 34, 35, 36, 37], os := [1] } [] gamOK hT h (by kernel_rfl) trivial fun a w h => then_normal (wp_block ?_)
     replace h := at_out (σ' := ⟨[(1, aI x1), (4, .p (.c (cN))), (5, aS 1), (6, aI (((LA.gjAt x0 k).2 : Nat) : Int)), (7, aI ((k : Nat) : Int)), (10, aI 0), (17, aI (((LA.gjAt x0 k).2 : Nat) : Int)), (18, aS 1), (19, aI ((List.length (LA.gjAt x0 k).1 : Nat) : Int)), (20, aB (decide ((((LA.gjAt x0 k).2 : Nat) : Int) < ((List.length (LA.gjAt x0 k).1 : Nat) : Int)))), (30, .p (.c (.v undef))), (31, .p (.c (.v undef))), (32, .p (.c (.v undef))), (33, .p (.c (.v undef))), (34, .p (.c (.v undef))), (35, .p (.c (.v undef))), (36, .p (.c (.v undef))), (37, .p (.c (.v undef)))], [(1, oF s27 (List.set (List.set (LA.gjAt x0 k).1 (LA.gp x0 k) ((LA.gjAt x0 k).1.getD (LA.gjAt x0 k).2 [])) (LA.gjAt x0 k).2 (scaleV ((LA.gjAt x0 k).1.getD (LA.gp x0 k) []) (invF (((LA.gjAt x0 k).1.getD (LA.gp x0 k) []).getD k 0)))))]⟩) { ts := [1, 4, 5, 6, 7, 10, 17, 18, 19, 20, 30, 31, 32, 33, 34, 35, 36, 37], os := [1] } h (by kernel_rfl)
     refine at_loop (fun i : Nat => (⟨[(1, aI x1), (4, .p (.c (cN))), (5, aS 1), (6, aI (((LA.gjAt x0 k).2 : Nat) : Int)), (7, aI ((k : Nat) : Int)), (10, aI ((i : Nat) : Int)), (17, aI (((LA.gjAt x0 k).2 : Nat) : Int)), (18, aS 1), (19, aI ((List.length (LA.gjAt x0 k).1 : Nat) : Int)), (20, aB (decide ((((LA.gjAt x0 k).2 : Nat) : Int) < ((List.length (LA.gjAt x0 k).1 : Nat) : Int)))), (30, .p (.c (.v undef))), (31, .p (.c (.v undef))), (32, .p (.c (.v undef))), (33, .p (.c (.v undef))), (34, .p (.c (.v undef))), (35, .p (.c (.v undef))), (36, .p (.c (.v undef))), (37, .p (.c (.v undef)))], [(1, oF s27 (LA.gm x0 k i))]⟩ : St)) (fun i => i ≤ List.length (LA.gjAt x0 k).1) (fun i => List.length (LA.gjAt x0 k).1 - i) (0) h (st_congr2 (fun (d0 : List (List Int)) (d1 : Int) => (⟨[(1, aI x1), (4, .p (.c (cN))), (5, aS 1), (6, aI (((LA.gjAt x0 k).2 : Nat) : Int)), (7, aI ((k : Nat) : Int)), (10, aI d1), (17, aI (((LA.gjAt x0 k).2 : Nat) : Int)), (18, aS 1), (19, aI ((List.length (LA.gjAt x0 k).1 : Nat) : Int)), (20, aB (decide ((((LA.gjAt x0 k).2 : Nat) : Int) < ((List.length (LA.gjAt x0 k).1 : Nat) : Int)))), (30, .p (.c (.v undef))), (31, .p (.c (.v undef))), (32, .p (.c (.v undef))), (33, .p (.c (.v undef))), (34, .p (.c (.v undef))), (35, .p (.c (.v undef))), (36, .p (.c (.v undef))), (37, .p (.c (.v undef)))], [(1, oF s27 d0)]⟩ : St)) (show ((List.set (List.set (LA.gjAt x0 k).1 (LA.gp x0 k) ((LA.gjAt x0 k).1.getD (LA.gjAt x0 k).2 [])) (LA.gjAt x0 k).2 (scaleV ((LA.gjAt x0 k).1.getD (LA.gp x0 k) []) (invF (((LA.gjAt x0 k).1.getD (LA.gp x0 k) []).getD k 0)))) : List (List Int)) = (LA.gm x0 k (0)) from by first | with_reducible rfl | (exact LA.gm_zero (l7_lead hgv hw2 hgpl hgpz)) | rfl) (show (0 : Int) = (((0) : Nat) : Int) from by first | with_reducible rfl | (exact LA.gm_zero (l7_lead hgv hw2 hgpl hgpz)) | rfl)) (by omega) ?_
     intro i a w hok2 h
     have hml := LA.gm_len x0 k i
     refine wp_seq (wp_seq ?_)
     refine at_regq [] { ts := [1, 4, 5, 6, 7, 10, 17, 18, 19, 20, 30, 31, 32, 33, 34, 35, 36, 37, 69], os := [1] } [] gamOK hT h (by kernel_rfl) trivial fun a w h => then_normal ?_
     refine at_test (decide (((i : Nat) : Int) < ((List.length (LA.gm x0 k i) : Nat) : Int))) h (by kernel_rfl) (fun h10 => ?_) (fun h10 => ?_)
     ·replace h10 : ((i : Nat) : Int) < ((List.length (LA.gm x0 k i) : Nat) : Int) := of_decide_eq_true h10
      have hmi := LA.gm_ok (i := i) hw1 hat hgpl (show i < List.length (LA.gjAt x0 k).1 by omega)
      have hmil := hmi.1
      have hmir := hmi.rng k
      have hma := LA.gm_piv (i := i) hw1 hat hgpl
      have hmal := hma.1
      refine wp_skip (then_normal (wp_seq (wp_block (wp_seq ?_))))
      by_cases h11 : ((i : Nat) : Int) = (((LA.gjAt x0 k).2 : Nat) : Int)
      ·refine at_regq [{}, {}, { hint := some (aB false) }] { ts := [1, 4, 5, 6, 7, 10, 17, 18, 19, 20, 30, 31, 32, 33, 34, 35, 36, 37, 76, 77, 78, 79, 80, 81, 82, 83, 84], os := [1] } [(AV.p (.c (.v (.bool (!decide (((i : Nat) : Int) = (((LA.gjAt x0 k).2 : Nat) : Int)))))) = AV.p (.c (.v (.bool false))))] gamOK hT h (by kernel_rfl) ⟨hint_bool (ndT h11), trivial⟩ fun a w h => then_normal ?_
       refine at_test false h (by kernel_rfl) (fun hh => nomatch hh) (fun hh => ?_)
       refine wp_skip (in_normal (then_normal ?_))
       refine at_regq [{}, { nw := true }] { ts := [1, 4, 5, 6, 7, 10, 17, 18, 19, 20, 30, 31, 32, 33, 34, 35, 36, 37, 76, 77, 78, 79, 80, 81, 82, 83], os := [1] } [I64 (((i : Nat) : Int) + 1)] gamOK hT h (by kernel_rfl) ⟨⟨by first | omega | (simp only [lsA]; omega) | (simp <;> omega), by first | omega | (simp only [lsA]; omega) | (simp <;> omega)⟩, trivial⟩ fun a w h => ?_
       replace h := at_out (σ' := ⟨[(1, aI x1), (4, .p (.c (cN))), (5, aS 1), (6, aI (((LA.gjAt x0 k).2 : Nat) : Int)), (7, aI ((k : Nat) : Int)), (10, aI (((i : Nat) : Int) + 1)), (17, aI (((LA.gjAt x0 k).2 : Nat) : Int)), (18, aS 1), (19, aI ((List.length (LA.gjAt x0 k).1 : Nat) : Int)), (20, aB (decide ((((LA.gjAt x0 k).2 : Nat) : Int) < ((List.length (LA.gjAt x0 k).1 : Nat) : Int)))), (30, .p (.c (.v undef))), (31, .p (.c (.v undef))), (32, .p (.c (.v undef))), (33, .p (.c (.v undef))), (34, .p (.c (.v undef))), (35, .p (.c (.v undef))), (36, .p (.c (.v undef))), (37, .p (.c (.v undef)))], [(1, oF s27 (LA.gm x0 k i))]⟩) { ts := [1, 4, 5, 6, 7, 10, 17, 18, 19, 20, 30, 31, 32, 33, 34, 35, 36, 37], os := [1] } h (by kernel_rfl)
       exact ⟨i + 1, at_eq h (st_congr2 (fun (d0 : List (List Int)) (d1 : Int) => (⟨[(1, aI x1), (4, .p (.c (cN))), (5, aS 1), (6, aI (((LA.gjAt x0 k).2 : Nat) : Int)), (7, aI ((k : Nat) : Int)), (10, aI d1), (17, aI (((LA.gjAt x0 k).2 : Nat) : Int)), (18, aS 1), (19, aI ((List.length (LA.gjAt x0 k).1 : Nat) : Int)), (20, aB (decide ((((LA.gjAt x0 k).2 : Nat) : Int) < ((List.length (LA.gjAt x0 k).1 : Nat) : Int)))), (30, .p (.c (.v undef))), (31, .p (.c (.v undef))), (32, .p (.c (.v undef))), (33, .p (.c (.v undef))), (34, .p (.c (.v undef))), (35, .p (.c (.v undef))), (36, .p (.c (.v undef))), (37, .p (.c (.v undef)))], [(1, oF s27 d0)]⟩ : St)) (show ((LA.gm x0 k i) : List (List Int)) = (LA.gm x0 k (i + 1)) from by first | with_reducible rfl | (first | exact (LA.gm_same (by omega) (Or.inl (by omega))).symm | exact (LA.gm_same (by omega) (Or.inr (by assumption))).symm | (rw [addV_L hmi hma hw2 (by omega)]; exact (LA.gm_add (by omega) hat (by omega) (by assumption)).symm)) | rfl) (show (((i : Nat) : Int) + 1 : Int) = (((i + 1) : Nat) : Int) from by first | with_reducible rfl | (omega) | rfl)), (by omega), (by omega)⟩
      ·refine at_regq [{}, {}, { hint := some (aB true) }] { ts := [1, 4, 5, 6, 7, 10, 17, 18, 19, 20, 30, 31, 32, 33, 34, 35, 36, 37, 76, 77, 78, 79, 80, 81, 82, 83, 84], os := [1] } [(AV.p (.c (.v (.bool (!decide (((i : Nat) : Int) = (((LA.gjAt x0 k).2 : Nat) : Int)))))) = AV.p (.c (.v (.bool true)))), (0 : Int) ≤ ((i : Nat) : Int) ∧ ((i : Nat) : Int) < ((List.length (LA.gm x0 k i) : Nat) : Int), i < List.length (LA.gm x0 k i), (0 : Int) ≤ ((k : Nat) : Int) ∧ ((k : Nat) : Int) < ((List.length ((LA.gm x0 k i).getD i []) : Nat) : Int)] gamOK hT h (by kernel_rfl) ⟨hint_bool (ndF h11), (by refine ⟨?_, ?_⟩ <;> (first | omega | (simp only [lsA]; omega) | (simp <;> omega))), (by first | omega | (simp only [lsA]; omega) | (simp <;> omega)), (by refine ⟨?_, ?_⟩ <;> (first | omega | (simp only [lsA]; omega) | (simp <;> omega))), trivial⟩ fun a w h => then_normal ?_
       refine at_test (!decide ((((LA.gm x0 k i).getD i []).getD k 0) = 0)) h (by kernel_rfl) (fun h12 => ?_) (fun h12 => ?_)
       ·replace h12 : ¬ ((((LA.gm x0 k i).getD i []).getD k 0) = 0) := of_decide_eq_false (notT h12)
        refine at_anyq [{}, {}, {}, {}, {}, {}, {}, {}, {}, {}, {}, {}, {}, {}, {}, {}, {}, { nw := true }, { frz := true }, {}, {}] { ts := [1, 4, 5, 6, 7, 10, 17, 18, 19, 20, 30, 31, 32, 33, 34, 35, 36, 37, 76, 77, 78, 79, 80, 81, 82, 83], os := [1] } [(0 : Int) ≤ ((i : Nat) : Int) ∧ ((i : Nat) : Int) < ((List.length (LA.gm x0 k i) : Nat) : Int), i < List.length (LA.gm x0 k i), (0 : Int) ≤ (((LA.gjAt x0 k).2 : Nat) : Int) ∧ (((LA.gjAt x0 k).2 : Nat) : Int) < ((List.length (LA.gm x0 k i) : Nat) : Int), (LA.gjAt x0 k).2 < List.length (LA.gm x0 k i), (0 : Int) ≤ ((i : Nat) : Int) ∧ ((i : Nat) : Int) < ((List.length (LA.gm x0 k i) : Nat) : Int), i < List.length (LA.gm x0 k i), (0 : Int) ≤ ((k : Nat) : Int) ∧ ((k : Nat) : Int) < ((List.length ((LA.gm x0 k i).getD i []) : Nat) : Int), I64 (1019 - (((LA.gm x0 k i).getD i []).getD k 0)), Q_spec_AddScaled ((LA.gm x0 k i).getD i []) ((LA.gm x0 k i).getD (LA.gjAt x0 k).2 []) (1019 - (((LA.gm x0 k i).getD i []).getD k 0)), (0 : Int) ≤ ((i : Nat) : Int) ∧ ((i : Nat) : Int) < ((List.length (LA.gm x0 k i) : Nat) : Int), i < List.length (LA.gm x0 k i)] gamOK hT mixed h (by kernel_rfl) ⟨(by refine ⟨?_, ?_⟩ <;> (first | omega | (simp only [lsA]; omega) | (simp <;> omega))), (by first | omega | (simp only [lsA]; omega) | (simp <;> omega)), (by refine ⟨?_, ?_⟩ <;> (first | omega | (simp only [lsA]; omega) | (simp <;> omega))), (by first | omega | (simp only [lsA]; omega) | (simp <;> omega)), (by refine ⟨?_, ?_⟩ <;> (first | omega | (simp only [lsA]; omega) | (simp <;> omega))), (by first | omega | (simp only [lsA]; omega) | (simp <;> omega)), (by refine ⟨?_, ?_⟩ <;> (first | omega | (simp only [lsA]; omega) | (simp <;> omega))), ⟨by first | omega | (simp only [lsA]; omega) | (simp <;> omega), by first | omega | (simp only [lsA]; omega) | (simp <;> omega)⟩, (by exact ⟨fitV hmi hw2, fitV hma hw2⟩), (by refine ⟨?_, ?_⟩ <;> (first | omega | (simp only [lsA]; omega) | (simp <;> omega))), (by first | omega | (simp only [lsA]; omega) | (simp <;> omega)), trivial⟩ fun a w h => in_normal (then_normal ?_)
        refine at_regq [{}, { nw := true }] { ts := [1, 4, 5, 6, 7, 10, 17, 18, 19, 20, 30, 31, 32, 33, 34, 35, 36, 37, 76, 77, 78, 79, 80, 81, 82, 83], os := [1] } [I64 (((i : Nat) : Int) + 1)] gamOK hT h (by kernel_rfl) ⟨⟨by first | omega | (simp only [lsA]; omega) | (simp <;> omega), by first | omega | (simp only [lsA]; omega) | (simp <;> omega)⟩, trivial⟩ fun a w h => ?_
        replace h := at_out (σ' := ⟨[(1, aI x1), (4, .p (.c (cN))), (5, aS 1), (6, aI (((LA.gjAt x0 k).2 : Nat) : Int)), (7, aI ((k : Nat) : Int)), (10, aI (((i : Nat) : Int) + 1)), (17, aI (((LA.gjAt x0 k).2 : Nat) : Int)), (18, aS 1), (19, aI ((List.length (LA.gjAt x0 k).1 : Nat) : Int)), (20, aB (decide ((((LA.gjAt x0 k).2 : Nat) : Int) < ((List.length (LA.gjAt x0 k).1 : Nat) : Int)))), (30, .p (.c (.v undef))), (31, .p (.c (.v undef))), (32, .p (.c (.v undef))), (33, .p (.c (.v undef))), (34, .p (.c (.v undef))), (35, .p (.c (.v undef))), (36, .p (.c (.v undef))), (37, .p (.c (.v undef)))], [(1, oF s27 (List.set (LA.gm x0 k i) i (addV ((LA.gm x0 k i).getD i []) ((LA.gm x0 k i).getD (LA.gjAt x0 k).2 []) (1019 - (((LA.gm x0 k i).getD i []).getD k 0)))))]⟩) { ts := [1, 4, 5, 6, 7, 10, 17, 18, 19, 20, 30, 31, 32, 33, 34, 35, 36, 37], os := [1] } h (by kernel_rfl)
        exact ⟨i + 1, at_eq h (st_congr2 (fun (d0 : List (List Int)) (d1 : Int) => (⟨[(1, aI x1), (4, .p (.c (cN))), (5, aS 1), (6, aI (((LA.gjAt x0 k).2 : Nat) : Int)), (7, aI ((k : Nat) : Int)), (10, aI d1), (17, aI (((LA.gjAt x0 k).2 : Nat) : Int)), (18, aS 1), (19, aI ((List.length (LA.gjAt x0 k).1 : Nat) : Int)), (20, aB (decide ((((LA.gjAt x0 k).2 : Nat) : Int) < ((List.length (LA.gjAt x0 k).1 : Nat) : Int)))), (30, .p (.c (.v undef))), (31, .p (.c (.v undef))), (32, .p (.c (.v undef))), (33, .p (.c (.v undef))), (34, .p (.c (.v undef))), (35, .p (.c (.v undef))), (36, .p (.c (.v undef))), (37, .p (.c (.v undef)))], [(1, oF s27 d0)]⟩ : St)) (show ((List.set (LA.gm x0 k i) i (addV ((LA.gm x0 k i).getD i []) ((LA.gm x0 k i).getD (LA.gjAt x0 k).2 []) (1019 - (((LA.gm x0 k i).getD i []).getD k 0)))) : List (List Int)) = (LA.gm x0 k (i + 1)) from by first | with_reducible rfl | (first | exact (LA.gm_same (by omega) (Or.inl (by omega))).symm | exact (LA.gm_same (by omega) (Or.inr (by assumption))).symm | (rw [addV_L hmi hma hw2 (by omega)]; exact (LA.gm_add (by omega) hat (by omega) (by assumption)).symm)) | rfl) (show (((i : Nat) : Int) + 1 : Int) = (((i + 1) : Nat) : Int) from by first | with_reducible rfl | (omega) | rfl)), (by omega), (by omega)⟩
       ·replace h12 : (((LA.gm x0 k i).getD i []).getD k 0) = 0 := of_decide_eq_true (notF h12)
        refine wp_skip (in_normal (then_normal ?_))
        refine at_regq [{}, { nw := true }] { ts := [1, 4, 5, 6, 7, 10, 17, 18, 19, 20, 30, 31, 32, 33, 34, 35, 36, 37, 76, 77, 78, 79, 80, 81, 82, 83], os := [1] } [I64 (((i : Nat) : Int) + 1)] gamOK hT h (by kernel_rfl) ⟨⟨by first | omega | (simp only [lsA]; omega) | (simp <;> omega), by first | omega | (simp only [lsA]; omega) | (simp <;> omega)⟩, trivial⟩ fun a w h => ?_
        replace h := at_out (σ' := ⟨[(1, aI x1), (4, .p (.c (cN))), (5, aS 1), (6, aI (((LA.gjAt x0 k).2 : Nat) : Int)), (7, aI ((k : Nat) : Int)), (10, aI (((i : Nat) : Int) + 1)), (17, aI (((LA.gjAt x0 k).2 : Nat) : Int)), (18, aS 1), (19, aI ((List.length (LA.gjAt x0 k).1 : Nat) : Int)), (20, aB (decide ((((LA.gjAt x0 k).2 : Nat) : Int) < ((List.length (LA.gjAt x0 k).1 : Nat) : Int)))), (30, .p (.c (.v undef))), (31, .p (.c (.v undef))), (32, .p (.c (.v undef))), (33, .p (.c (.v undef))), (34, .p (.c (.v undef))), (35, .p (.c (.v undef))), (36, .p (.c (.v undef))), (37, .p (.c (.v undef)))], [(1, oF s27 (LA.gm x0 k i))]⟩) { ts := [1, 4, 5, 6, 7, 10, 17, 18, 19, 20, 30, 31, 32, 33, 34, 35, 36, 37], os := [1] } h (by kernel_rfl)
        exact ⟨i + 1, at_eq h (st_congr2 (fun (d0 : List (List Int)) (d1 : Int) => (⟨[(1, aI x1), (4, .p (.c (cN))), (5, aS 1), (6, aI (((LA.gjAt x0 k).2 : Nat) : Int)), (7, aI ((k : Nat) : Int)), (10, aI d1), (17, aI (((LA.gjAt x0 k).2 : Nat) : Int)), (18, aS 1), (19, aI ((List.length (LA.gjAt x0 k).1 : Nat) : Int)), (20, aB (decide ((((LA.gjAt x0 k).2 : Nat) : Int) < ((List.length (LA.gjAt x0 k).1 : Nat) : Int)))), (30, .p (.c (.v undef))), (31, .p (.c (.v undef))), (32, .p (.c (.v undef))), (33, .p (.c (.v undef))), (34, .p (.c (.v undef))), (35, .p (.c (.v undef))), (36, .p (.c (.v undef))), (37, .p (.c (.v undef)))], [(1, oF s27 d0)]⟩ : St)) (show ((LA.gm x0 k i) : List (List Int)) = (LA.gm x0 k (i + 1)) from by first | with_reducible rfl | (first | exact (LA.gm_same (by omega) (Or.inl (by omega))).symm | exact (LA.gm_same (by omega) (Or.inr (by assumption))).symm | (rw [addV_L hmi hma hw2 (by omega)]; exact (LA.gm_add (by omega) hat (by omega) (by assumption)).symm)) | rfl) (show (((i : Nat) : Int) + 1 : Int) = (((i + 1) : Nat) : Int) from by first | with_reducible rfl | (omega) | rfl)), (by omega), (by omega)⟩
     ·replace h10 : ¬ (((i : Nat) : Int) < ((List.length (LA.gm x0 k i) : Nat) : Int)) := of_decide_eq_false h10
      refine wp_exit (then_exit (then_exit (in_hit (then_normal ?_))))
      refine at_regq [{}, { nw := true }] { ts := [1, 4, 5, 6, 7, 17, 18, 19, 20, 30, 31, 32, 33, 34, 35, 36, 37], os := [1] } [I64 ((((LA.gjAt x0 k).2 : Nat) : Int) + 1)] gamOK hT h (by kernel_rfl) ⟨⟨by first | omega | (simp only [lsA]; omega) | (simp <;> omega), by first | omega | (simp only [lsA]; omega) | (simp <;> omega)⟩, trivial⟩ fun a w h => in_normal (then_normal ?_)
      refine at_regq [{}, { nw := true }] { ts := [1, 4, 5, 6, 7, 17, 18, 19, 20, 30, 31, 32, 33, 34, 35, 36, 37], os := [1] } [I64 (((k : Nat) : Int) + 1)] gamOK hT h (by kernel_rfl) ⟨⟨by first | omega | (simp only [lsA]; omega) | (simp <;> omega), by first | omega | (simp only [lsA]; omega) | (simp <;> omega)⟩, trivial⟩ fun a w h => ?_
      replace h := at_out (σ' := ⟨[(1, aI x1), (4, .p (.c (cN))), (5, aS 1), (6, aI ((((LA.gjAt x0 k).2 : Nat) : Int) + 1)), (7, aI (((k : Nat) : Int) + 1))], [(1, oF s27 (LA.gm x0 k i))]⟩) { ts := [1, 4, 5, 6, 7], os := [1] } h (by kernel_rfl)
      exact ⟨k + 1, at_eq h (st_congr3 (fun (d0 : List (List Int)) (d1 : Int) (d2 : Int) => (⟨[(1, aI x1), (4, .p (.c (cN))), (5, aS 1), (6, aI d1), (7, aI d2)], [(1, oF s27 d0)]⟩ : St)) (show ((LA.gm x0 k i) : List (List Int)) = (LA.gjAt x0 (k + 1)).1 from by first | with_reducible rfl | (first | (rw [LA.gm_none (by omega) (by omega)]; done) | (rw [LA.gm_done (i := i) hat (by omega) (by omega)]; try first | rfl | (dsimp only; omega))) | rfl) (show ((((LA.gjAt x0 k).2 : Nat) : Int) + 1 : Int) = (((LA.gjAt x0 (k + 1)).2 : Nat) : Int) from by first | with_reducible rfl | (first | (rw [LA.gm_none (by omega) (by omega)]; done) | (rw [LA.gm_done (i := i) hat (by omega) (by omega)]; try first | rfl | (dsimp only; omega))) | rfl) (show (((k : Nat) : Int) + 1 : Int) = (((k + 1) : Nat) : Int) from by first | with_reducible rfl | (omega) | rfl)), (by omega), (by omega)⟩
  ·replace h2 : ¬ ((((LA.gjAt x0 k).2 : Nat) : Int) < ((List.length (LA.gjAt x0 k).1 : Nat) : Int)) := of_decide_eq_false h2
   refine wp_exit (then_exit (then_exit (in_hit (then_normal (wp_seq ?_)))))
   refine at_regq [{}, {}, { ids := [2] }] { ts := [4], os := [2] } [(0 : Int) ≤ (((LA.gjAt x0 k).2 : Nat) : Int) ∧ (((LA.gjAt x0 k).2 : Nat) : Int) ≤ ((List.length (LA.gjAt x0 k).1 : Nat) : Int)] gamOK hT h (by kernel_rfl) ⟨(by refine ⟨?_, ?_⟩ <;> (first | omega | (simp only [lsA]; omega) | (simp <;> omega))), trivial⟩ fun a w h => then_normal (wp_ret ?_)
   exact at_return ((List.take (LA.gjAt x0 k).2 (LA.gjAt x0 k).1), ()) [] h (by kernel_rfl) trivial (congrArg (fun z => (z, ())) (show ((List.take (LA.gjAt x0 k).2 (LA.gjAt x0 k).1)) = D_spec_l7Reduce x0 x1 from by unfold D_spec_l7Reduce; (exact LA.gm_end hok0 (by omega))))
 ·refine at_regq [{}, {}, { hint := some (aB false) }] { ts := [1, 4, 5, 6, 7, 17, 18, 19, 20, 21], os := [1] } [(AV.p (.c (.v (.bool (decide (((k : Nat) : Int) < x1))))) = AV.p (.c (.v (.bool false))))] gamOK hT h (by kernel_rfl) ⟨hint_bool (decide_eq_false h1), trivial⟩ fun a w h => then_normal ?_
  refine at_test false h (by kernel_rfl) (fun hh => nomatch hh) (fun hh => ?_)
  refine wp_exit (then_exit (then_exit (in_hit (then_normal (wp_seq ?_)))))
  refine at_regq [{}, {}, { ids := [2] }] { ts := [4], os := [2] } [(0 : Int) ≤ (((LA.gjAt x0 k).2 : Nat) : Int) ∧ (((LA.gjAt x0 k).2 : Nat) : Int) ≤ ((List.length (LA.gjAt x0 k).1 : Nat) : Int)] gamOK hT h (by kernel_rfl) ⟨(by refine ⟨?_, ?_⟩ <;> (first | omega | (simp only [lsA]; omega) | (simp <;> omega))), trivial⟩ fun a w h => then_normal (wp_ret ?_)
  exact at_return ((List.take (LA.gjAt x0 k).2 (LA.gjAt x0 k).1), ()) [] h (by kernel_rfl) trivial (congrArg (fun z => (z, ())) (show ((List.take (LA.gjAt x0 k).2 (LA.gjAt x0 k).1)) = D_spec_l7Reduce x0 x1 from by unfold D_spec_l7Reduce; (exact LA.gm_end hok0 (by omega))))

def rowRed (x0 : (List (List Int))) : (List (List Int)) := (if (validM x0) = true then (D_spec_l7Reduce x0 (colsOf x0)) else ([] : List (List Int)))
abbrev Q_spec_RowReduce := (fun (x0 : (List (List Int))) => Sh.fit s24 x0)
def S_spec_RowReduce : Sum := { fid := 142, dom := [s24], cod := [s24], dp := false, fz := false, pre := fun x => Q_spec_RowReduce x.1, g := fun x => ((rowRed x.1), ()) }
def S_spec_RowReduce_tab : List (Nat × Sum) := [(110, S_spec_IsValidMatrix), (101, S_spec_ColumnsOf), (173, S_spec_l7Reduce)]
theorem S_spec_RowReduce_ok : FnOK Try.prog 142 S_spec_RowReduce := by
 refine at_enter 11 (fun x => ⟨[(0, aF s27 x.1)], []⟩) Try.func142 rfl (by kernel_rfl) (fun x => rfl) ?_
 rintro w0 Z0 ⟨x0, u⟩ a w
 revert x0
 intro (x0 : (List (List Int))) hpre hlens h
 replace hpre : Q_spec_RowReduce x0 := hpre
 have hT : TabOK Try.prog S_spec_RowReduce_tab := (.cons S_spec_IsValidMatrix_ok (.cons S_spec_ColumnsOf_ok (.cons S_spec_l7Reduce_ok .nil)))
 have hf0 : Sh.fit s24 x0 := hpre
 have hn0_1 : List.length x0 ≤ 1073741824 := hf0.1
 refine wp_seq ?_
 refine at_regq [] { ts := [0, 2], os := [] } [] gamOK hT h (by kernel_rfl) trivial fun a w h => then_normal (wp_seq (wp_seq ?_))
 refine at_regq [] { ts := [0, 2, 5], os := [] } [Q_spec_IsValidMatrix x0] gamOK hT h (by kernel_rfl) ⟨(by exact hf0), trivial⟩ fun a w h => then_normal ?_
 refine at_test (!(validM x0)) h (by kernel_rfl) (fun h1 => ?_) (fun h1 => ?_)
 ·replace h1 : (validM x0) = false := notT h1
  refine wp_seq ?_
  refine at_regq [{ ids := [1], dp := false }] { ts := [0, 2], os := [1] } [] gamOK hT h (by kernel_rfl) trivial fun a w h => then_normal (wp_ret (then_ret ?_))
  exact at_return (([] : List (List Int)), ()) [] h (by kernel_rfl) trivial (congrArg (fun z => (z, ())) (show (([] : List (List Int))) = rowRed x0 from by first | rfl | (unfold rowRed; rw [if_neg (neT h1)])))
 ·replace h1 : (validM x0) = true := notF h1
  have hvh1 := validM_t h1
  refine wp_skip (then_normal (wp_seq ?_))
  refine at_regq [{}, {}, {}, { ids := [2] }] { ts := [2], os := [2] } [Q_spec_ColumnsOf x0, Q_spec_l7Reduce x0 (colsOf x0)] gamOK hT h (by kernel_rfl) ⟨(by exact hf0), (by exact ⟨hf0, l7P_of (by assumption)⟩), trivial⟩ fun a w h => then_normal (wp_ret ?_)
  exact at_return ((D_spec_l7Reduce x0 (colsOf x0)), ()) [] h (by kernel_rfl) trivial (congrArg (fun z => (z, ())) (show ((D_spec_l7Reduce x0 (colsOf x0))) = rowRed x0 from by first | rfl | (unfold rowRed; rw [if_pos h1])))
theorem rowRed_at {m : List (List Int)} (h : validM m = true) : rowRed m = LA.gjS m (List.length (m.getD 0 [])) := by
 unfold rowRed D_spec_l7Reduce
 rw [if_pos h, l7_cols]
theorem rowRed_fit {m : List (List Int)} (h : Sh.fit s24 m) : Sh.fit s24 (rowRed m) := by
 by_cases hv : validM m = true
 ·rw [rowRed_at hv]
  have hr := (LA.gjS_ok (validM_ok hv)).1
  have hl := hr.len
  have hc := l7_w hv
  exact fitM hr.ok hc (by omega)
 ·unfold rowRed; rw [if_neg hv]; exact Sh.fit_nil

def isRedS (x0 : (List (List Int))) : Bool := (if (validM x0) = true then ((Sh.eqB s24) (rowRed x0) x0) else false)
abbrev Q_spec_IsReduced := (fun (x0 : (List (List Int))) => Sh.fit s24 x0)
def S_spec_IsReduced : Sum := { fid := 85, dom := [s24], cod := [(.bool 4)], dp := true, fz := false, pre := fun x => Q_spec_IsReduced x.1, g := fun x => ((isRedS x.1), ()) }
def S_spec_IsReduced_tab : List (Nat × Sum) := [(110, S_spec_IsValidMatrix), (142, S_spec_RowReduce), (141, S_spec_EqualMatrices)]
theorem S_spec_IsReduced_ok : FnOK Try.prog 85 S_spec_IsReduced := by
 refine at_enter 11 (fun x => ⟨[(0, aF s27 x.1)], []⟩) Try.func85 rfl (by kernel_rfl) (fun x => rfl) ?_
 rintro w0 Z0 ⟨x0, u⟩ a w
 revert x0
 intro (x0 : (List (List Int))) hpre hlens h
 replace hpre : Q_spec_IsReduced x0 := hpre
 have hT : TabOK Try.prog S_spec_IsReduced_tab := (.cons S_spec_IsValidMatrix_ok (.cons S_spec_RowReduce_ok (.cons S_spec_EqualMatrices_ok .nil)))
 have hf0 : Sh.fit s24 x0 := hpre
 have hn0_1 : List.length x0 ≤ 1073741824 := hf0.1
 refine wp_seq ?_
 refine at_regq [] { ts := [0, 2], os := [] } [] gamOK hT h (by kernel_rfl) trivial fun a w h => then_normal (wp_seq ?_)
 rcases Bool.eq_false_or_eq_true ((validM x0)) with h1 | h1
 ·have hvh1 := validM_t h1
  refine at_regq [{}, { hint := some (aB true) }, {}, {}, { ids := [1] }] { ts := [2], os := [] } [Q_spec_IsValidMatrix x0, (AV.p (.c (.v (.bool ((validM x0))))) = AV.p (.c (.v (.bool true)))), Q_spec_RowReduce x0, True] gamOK hT h (by kernel_rfl) ⟨(by exact hf0), hint_bool (h1), (by exact hf0), trivial, trivial⟩ fun a w h => then_normal (wp_ret ?_)
  exact at_return (((Sh.eqB s24) (rowRed x0) x0), ()) [] h (by kernel_rfl) trivial (congrArg (fun z => (z, ())) (show (((Sh.eqB s24) (rowRed x0) x0)) = isRedS x0 from by first | rfl | (unfold isRedS; rw [if_pos h1])))
 ·refine at_regq [{}, { hint := some (aB false) }] { ts := [2], os := [] } [Q_spec_IsValidMatrix x0, (AV.p (.c (.v (.bool ((validM x0))))) = AV.p (.c (.v (.bool false))))] gamOK hT h (by kernel_rfl) ⟨(by exact hf0), hint_bool (h1), trivial⟩ fun a w h => then_normal (wp_ret ?_)
  exact at_return (false, ()) [] h (by kernel_rfl) trivial (congrArg (fun z => (z, ())) (show (false) = isRedS x0 from by first | rfl | (unfold isRedS; rw [if_neg (neT h1)])))
theorem isRed_all {n : Nat} {m : List (List Int)} (h : ∀ r ∈ m, LA.VokB n r) (hn : n ≤ 40) : isRed m = true ↔ LA.RedL n m := by
 rw [← isRed_iff h hn]; unfold isRed
 by_cases h1 : validM m = true
 ·rw [if_pos h1]; by_cases h2 : allN (redB m) (List.length m) = true
  ·simp [h1, h2]
  ·simp [h1, h2]
 ·rw [if_neg h1]; simp [h1]
theorem isRedS_eq (m : List (List Int)) : isRedS m = isRed m := by
 unfold isRedS isRed
 by_cases h1 : validM m = true
 ·rw [if_pos h1, if_pos h1, rowRed_at h1, Bool.eq_iff_iff, Sh.eqB_iff, LA.gjS_iff (validM_ok h1), ← red_all (validM_ok h1)]
  by_cases h2 : allN (redB m) (List.length m) = true
  ·simp [h2]
  ·simp [h2]
 ·rw [if_neg h1, if_neg h1]
theorem isRed_v {m : List (List Int)} (h : isRed m = true) : validM m = true := by
 unfold isRed at h; split at h
 ·assumption
 ·cases h

def validB (x0 : T60) : Bool := (if (inR x0.1 0 40) = true then (if (isRed x0.2) = true then (if ((List.length x0.2 : Nat) : Int) = 0 then true else decide (((List.length (x0.2.getD 0 []) : Nat) : Int) = x0.1)) else false) else false)
abbrev Q_impl_IsValidBasis := (fun (x0 : T60) => Sh.fit s60 x0)
def S_impl_IsValidBasis : Sum := { fid := 35, dom := [s60], cod := [(.bool 4)], dp := true, fz := false, pre := fun x => Q_impl_IsValidBasis x.1, g := fun x => ((validB x.1), ()) }
def S_impl_IsValidBasis_tab : List (Nat × Sum) := [(51, S_impl_InRange), (89, S_impl_IsReduced)]
theorem S_impl_IsValidBasis_ok : FnOK Try.prog 35 S_impl_IsValidBasis := by
 refine at_enter 27 (fun x => ⟨[(0, aG [cI x.1.1, .ro s27 x.1.2])], []⟩) Try.func35 rfl (by kernel_rfl) (fun x => rfl) ?_
 rintro w0 Z0 ⟨x0, u⟩ a w
 revert x0
 intro (x0 : T60) hpre hlens h
 replace hpre : Q_impl_IsValidBasis x0 := hpre
 have hT : TabOK Try.prog S_impl_IsValidBasis_tab := (.cons S_impl_InRange_ok (.cons S_impl_IsReduced_ok .nil))
 have hf0 : Sh.fit s60 x0 := hpre
 have hn0_1 : List.length x0.2 ≤ 1073741824 := hf0.2.1
 refine wp_seq ?_
 refine at_regq [{ ids := [1] }] { ts := [1, 2], os := [1] } [] gamOK hT h (by kernel_rfl) trivial fun a w h => then_normal (wp_seq ?_)
 rcases Bool.eq_false_or_eq_true ((inR x0.1 0 40)) with h1 | h1
 ·have hvh1 := inR_t h1
  rcases Bool.eq_false_or_eq_true ((isRed x0.2)) with h2 | h2
  ·by_cases h3 : ((List.length x0.2 : Nat) : Int) = 0
   ·refine at_anyq [{}, {}, { hint := some (aB true) }, {}, {}, {}, { hint := some (aB true) }, {}, {}, {}, {}, {}, { hint := some (aB true) }, {}, {}, {}, {}, {}, {}, {}, {}, {}, {}, {}, {}] { ts := [2], os := [] } [True, (AV.p (.c (.v (.bool ((inR x0.1 0 40))))) = AV.p (.c (.v (.bool true)))), Q_impl_IsReduced x0.2, (AV.p (.c (.v (.bool ((isRed x0.2))))) = AV.p (.c (.v (.bool true)))), (AV.p (.c (.v (.bool (decide (((List.length x0.2 : Nat) : Int) = 0))))) = AV.p (.c (.v (.bool true))))] gamOK hT mixed h (by kernel_rfl) ⟨trivial, hint_bool (h1), (by exact hf0.2), hint_bool (h2), hint_bool (decide_eq_true h3), trivial⟩ fun a w h => then_normal (wp_ret ?_)
    exact at_return (true, ()) [] h (by kernel_rfl) trivial (congrArg (fun z => (z, ())) (show (true) = validB x0 from by first | rfl | (unfold validB; rw [if_pos h1, if_pos h2, if_pos h3])))
   ·refine at_anyq [{}, {}, { hint := some (aB true) }, {}, {}, {}, { hint := some (aB true) }, {}, {}, {}, {}, {}, { hint := some (aB false) }, {}, {}, {}, {}, {}, {}, {}, {}, {}, {}, {}, {}] { ts := [2], os := [] } [True, (AV.p (.c (.v (.bool ((inR x0.1 0 40))))) = AV.p (.c (.v (.bool true)))), Q_impl_IsReduced x0.2, (AV.p (.c (.v (.bool ((isRed x0.2))))) = AV.p (.c (.v (.bool true)))), (AV.p (.c (.v (.bool (decide (((List.length x0.2 : Nat) : Int) = 0))))) = AV.p (.c (.v (.bool false)))), (0 : Int) ≤ 0 ∧ 0 < ((List.length x0.2 : Nat) : Int)] gamOK hT mixed h (by kernel_rfl) ⟨trivial, hint_bool (h1), (by exact hf0.2), hint_bool (h2), hint_bool (decide_eq_false h3), (by refine ⟨?_, ?_⟩ <;> (first | omega | (simp only [lsA]; omega) | (simp <;> omega))), trivial⟩ fun a w h => then_normal (wp_ret ?_)
    exact at_return (decide (((List.length (x0.2.getD 0 []) : Nat) : Int) = x0.1), ()) [] h (by kernel_rfl) trivial (congrArg (fun z => (z, ())) (show (decide (((List.length (x0.2.getD 0 []) : Nat) : Int) = x0.1)) = validB x0 from by first | rfl | (unfold validB; rw [if_pos h1, if_pos h2, if_neg h3])))
  ·refine at_anyq [{}, {}, { hint := some (aB true) }, {}, {}, {}, { hint := some (aB false) }, {}, {}, {}, {}, {}, {}, {}, {}, {}, {}, {}, {}, {}, {}, {}, {}, {}, {}] { ts := [2], os := [] } [True, (AV.p (.c (.v (.bool ((inR x0.1 0 40))))) = AV.p (.c (.v (.bool true)))), Q_impl_IsReduced x0.2, (AV.p (.c (.v (.bool ((isRed x0.2))))) = AV.p (.c (.v (.bool false))))] gamOK hT mixed h (by kernel_rfl) ⟨trivial, hint_bool (h1), (by exact hf0.2), hint_bool (h2), trivial⟩ fun a w h => then_normal (wp_ret ?_)
   exact at_return (false, ()) [] h (by kernel_rfl) trivial (congrArg (fun z => (z, ())) (show (false) = validB x0 from by first | rfl | (unfold validB; rw [if_pos h1, if_neg (neT h2)])))
 ·have hvh1 := inR_f h1
  refine at_anyq [{}, {}, { hint := some (aB false) }, {}, {}, {}, {}, {}, {}, {}, {}, {}, {}, {}, {}, {}, {}, {}, {}, {}, {}, {}, {}, {}, {}] { ts := [2], os := [] } [True, (AV.p (.c (.v (.bool ((inR x0.1 0 40))))) = AV.p (.c (.v (.bool false))))] gamOK hT mixed h (by kernel_rfl) ⟨trivial, hint_bool (h1), trivial⟩ fun a w h => then_normal (wp_ret ?_)
  exact at_return (false, ()) [] h (by kernel_rfl) trivial (congrArg (fun z => (z, ())) (show (false) = validB x0 from by first | rfl | (unfold validB; rw [if_neg (neT h1)])))

def validBS (x0 : T60) : Bool := (if (List.all x0.2 (fun r => decide (((List.length r : Nat) : Int) = x0.1))) = true then (if (inR x0.1 0 40) = true then (isRedS x0.2) else false) else false)
abbrev Q_spec_IsValidBasis := (fun (x0 : T60) => Sh.fit s60 x0)
def S_spec_IsValidBasis : Sum := { fid := 30, dom := [s60], cod := [(.bool 4)], dp := true, fz := false, pre := fun x => Q_spec_IsValidBasis x.1, g := fun x => ((validBS x.1), ()) }
def S_spec_IsValidBasis_tab : List (Nat × Sum) := [(84, S_spec_l1In), (85, S_spec_IsReduced)]
theorem S_spec_IsValidBasis_ok : FnOK Try.prog 30 S_spec_IsValidBasis := by
 refine at_enter 28 (fun x => ⟨[(0, aG [cI x.1.1, .ro s27 x.1.2])], []⟩) Try.func30 rfl (by kernel_rfl) (fun x => rfl) ?_
 rintro w0 Z0 ⟨x0, u⟩ a w
 revert x0
 intro (x0 : T60) hpre hlens h
 replace hpre : Q_spec_IsValidBasis x0 := hpre
 have hT : TabOK Try.prog S_spec_IsValidBasis_tab := (.cons S_spec_l1In_ok (.cons S_spec_IsReduced_ok .nil))
 have hf0 : Sh.fit s60 x0 := hpre
 have hn0_1 : List.length x0.2 ≤ 1073741824 := hf0.2.1
 refine wp_seq ?_
 refine at_regq [{ ids := [1] }] { ts := [1, 2], os := [1] } [] gamOK hT h (by kernel_rfl) trivial fun a w h => then_normal (wp_seq (wp_seq ?_))
 refine at_regq [] { ts := [1, 2, 3], os := [1] } [] gamOK hT h (by kernel_rfl) trivial fun a w h => then_normal (wp_block ?_)
 replace h := at_out (σ' := ⟨[(1, aP 1 0), (2, aB false), (3, aI 0)], [(1, oX 60 [cI x0.1, .ro s27 x0.2])]⟩) { ts := [1, 2, 3], os := [1] } h (by kernel_rfl)
 refine at_loop (fun i : Nat => (⟨[(1, aP 1 0), (2, aB false), (3, aI ((i : Nat) : Int))], [(1, oX 60 [cI x0.1, .ro s27 x0.2])]⟩ : St)) (fun i => (i ≤ List.length x0.2 ∧ allTo1 (fun r => decide (((List.length r : Nat) : Int) = x0.1)) x0.2 [] i)) (fun i => List.length x0.2 - i) (0) h (st_congr1 (fun (d0 : Int) => (⟨[(1, aP 1 0), (2, aB false), (3, aI d0)], [(1, oX 60 [cI x0.1, .ro s27 x0.2])]⟩ : St)) (show (0 : Int) = (((0) : Nat) : Int) from by first | with_reducible rfl | (rfl) | rfl)) (by exact ⟨Nat.zero_le _, allTo1_zero⟩) ?_
 intro i a w hok0 h
 refine wp_seq (wp_seq ?_)
 refine at_regq [] { ts := [1, 2, 3, 8], os := [1] } [] gamOK hT h (by kernel_rfl) trivial fun a w h => then_normal ?_
 refine at_test (decide (((i : Nat) : Int) < ((List.length x0.2 : Nat) : Int))) h (by kernel_rfl) (fun h1 => ?_) (fun h1 => ?_)
 ·replace h1 : ((i : Nat) : Int) < ((List.length x0.2 : Nat) : Int) := of_decide_eq_true h1
  refine wp_skip (then_normal (wp_seq (wp_block (wp_seq ?_))))
  refine at_anyq [{}, {}, {}, {}, {}, {}, {}, {}, {}] { ts := [1, 2, 3, 19], os := [1] } [(0 : Int) ≤ ((i : Nat) : Int) ∧ ((i : Nat) : Int) < ((List.length x0.2 : Nat) : Int)] gamOK hT mixed h (by kernel_rfl) ⟨(by refine ⟨?_, ?_⟩ <;> (first | omega | (simp only [lsA]; omega) | (simp <;> omega))), trivial⟩ fun a w h => then_normal ?_
  refine at_test (!decide (((List.length (x0.2.getD i []) : Nat) : Int) = x0.1)) h (by kernel_rfl) (fun h2 => ?_) (fun h2 => ?_)
  ·replace h2 : ¬ (((List.length (x0.2.getD i []) : Nat) : Int) = x0.1) := of_decide_eq_false (notT h2)
   refine wp_seq ?_
   refine at_regq [] { ts := [1, 2, 3], os := [1] } [] gamOK hT h (by kernel_rfl) trivial fun a w h => then_normal (wp_ret (in_ret (then_ret ?_)))
   have hs3 : (List.all x0.2 (fun r => decide (((List.length r : Nat) : Int) = x0.1))) = false := by exact all_at (z := []) (i := i) (by omega) (by first | assumption | exact decide_eq_false (by omega) | (simp_all; done))
   refine then_ret (in_ret (then_ret ?_))
   exact at_return (false, ()) [] h (by kernel_rfl) trivial (congrArg (fun z => (z, ())) (show (false) = validBS x0 from by first | rfl | (unfold validBS; rw [if_neg (neT hs3)])))
  ·replace h2 : ((List.length (x0.2.getD i []) : Nat) : Int) = x0.1 := of_decide_eq_true (notF h2)
   refine wp_skip (in_normal (then_normal ?_))
   refine at_regq [{}, { nw := true }] { ts := [1, 2, 3], os := [1] } [I64 (((i : Nat) : Int) + 1)] gamOK hT h (by kernel_rfl) ⟨⟨by first | omega | (simp only [lsA]; omega) | (simp <;> omega), by first | omega | (simp only [lsA]; omega) | (simp <;> omega)⟩, trivial⟩ fun a w h => ?_
   replace h := at_out (σ' := ⟨[(1, aP 1 0), (2, aB false), (3, aI (((i : Nat) : Int) + 1))], [(1, oX 60 [cI x0.1, .ro s27 x0.2])]⟩) { ts := [1, 2, 3], os := [1] } h (by kernel_rfl)
   exact ⟨i + 1, at_eq h (st_congr1 (fun (d0 : Int) => (⟨[(1, aP 1 0), (2, aB false), (3, aI d0)], [(1, oX 60 [cI x0.1, .ro s27 x0.2])]⟩ : St)) (show (((i : Nat) : Int) + 1 : Int) = (((i + 1) : Nat) : Int) from by first | with_reducible rfl | (omega) | rfl)), (by exact ⟨by omega, allTo1_succ hok0.2 (by first | assumption | exact decide_eq_true (by omega) | (simp_all; done))⟩), (by omega)⟩
 ·replace h1 : ¬ (((i : Nat) : Int) < ((List.length x0.2 : Nat) : Int)) := of_decide_eq_false h1
  refine wp_exit (then_exit ?_)
  have hs4 : (List.all x0.2 (fun r => decide (((List.length r : Nat) : Int) = x0.1))) = true := by exact all_of (z := []) (i := i) (by omega) hok0.2
  refine then_exit (in_hit (then_normal (wp_seq ?_)))
  rcases Bool.eq_false_or_eq_true ((inR x0.1 0 40)) with h5 | h5
  ·have hvh5 := inR_t h5
   refine at_regq [{}, {}, { hint := some (aB true) }] { ts := [2], os := [] } [True, (AV.p (.c (.v (.bool ((inR x0.1 0 40))))) = AV.p (.c (.v (.bool true)))), Q_spec_IsReduced x0.2] gamOK hT h (by kernel_rfl) ⟨trivial, hint_bool (h5), (by exact hf0.2), trivial⟩ fun a w h => then_normal (wp_ret ?_)
   exact at_return ((isRedS x0.2), ()) [] h (by kernel_rfl) trivial (congrArg (fun z => (z, ())) (show ((isRedS x0.2)) = validBS x0 from by first | rfl | (unfold validBS; rw [if_pos hs4, if_pos h5])))
  ·have hvh5 := inR_f h5
   refine at_regq [{}, {}, { hint := some (aB false) }] { ts := [2], os := [] } [True, (AV.p (.c (.v (.bool ((inR x0.1 0 40))))) = AV.p (.c (.v (.bool false))))] gamOK hT h (by kernel_rfl) ⟨trivial, hint_bool (h5), trivial⟩ fun a w h => then_normal (wp_ret ?_)
   exact at_return (false, ()) [] h (by kernel_rfl) trivial (congrArg (fun z => (z, ())) (show (false) = validBS x0 from by first | rfl | (unfold validBS; rw [if_pos hs4, if_neg (neT h5)])))
def basP (b : T60) : Prop := (0 ≤ b.1 ∧ b.1 ≤ 40) ∧ LA.RedL b.1.toNat b.2
theorem basP_w {b : T60} (h : isRed b.2 = true) (h0 : 0 ≤ b.1 ∧ b.1 ≤ 40) (hw : ∀ r ∈ b.2, ((List.length r : Nat) : Int) = b.1) : basP b := by
 refine ⟨h0, ?_⟩
 have hv := validM_t (isRed_v h)
 have hk : ∀ r ∈ b.2, LA.VokB b.1.toNat r := fun r hr => ⟨by have := hw r hr; omega, (validV_t (hv.2 r hr).1).2.1⟩
 exact (isRed_all hk (by omega)).1 h
theorem validB_iff (b : T60) : validB b = true ↔ basP b := by
 constructor
 ·intro h
  unfold validB at h
  split at h
  ·split at h
   ·rename_i h1 h2
    have h0 := inR_t h1
    refine basP_w h2 h0 fun r hr => ?_
    have hv := (validM_t (isRed_v h2)).2 r hr
    have hp := List.length_pos_of_mem hr
    split at h
    ·omega
    ·have := of_decide_eq_true h; rw [hv.2]; exact this
   ·cases h
  ·cases h
 ·intro h
  have hr : isRed b.2 = true := (isRed_all h.2.ok (by have := h.1; omega)).2 h.2
  unfold validB
  rw [if_pos (inR_true h.1), if_pos hr]
  split
  ·rfl
  ·rename_i h0
   have := (h.2.ok _ (LA.getD_in (rows := b.2) (i := 0) (by omega))).1
   exact decide_eq_true (by have := h.1; omega)
theorem validBS_eq (b : T60) : validBS b = validB b := by
 rw [Bool.eq_iff_iff, validB_iff]
 constructor
 ·intro h
  unfold validBS at h
  split at h
  ·split at h
   ·rename_i h1 h2
    rw [isRedS_eq] at h
    exact basP_w h (inR_t h2) fun r hr => of_decide_eq_true (List.all_eq_true.1 h1 r hr)
   ·cases h
  ·cases h
 ·intro h
  have hr : isRed b.2 = true := (isRed_all h.2.ok (by have := h.1; omega)).2 h.2
  unfold validBS
  rw [if_pos (List.all_eq_true.2 fun r hr => decide_eq_true (by have := (h.2.ok r hr).1; have := h.1; omega)), if_pos (inR_true h.1), isRedS_eq]
  exact hr
theorem validB_t {b : T60} (h : validB b = true) : basP b := (validB_iff b).1 h
theorem validBS_t {b : T60} (h : validBS b = true) : basP b := validB_t (by rwa [validBS_eq] at h)
def redP (b : T60) (v : List Int) : Prop := basP b ∧ LA.VokB b.1.toNat v
def takesB (x0 : T60) (x1 : List Int) : Bool := if validB x0 = true then (if validV x1 = true then decide (((List.length x1 : Nat) : Int) = x0.1) else false) else false
theorem takesB_t {b : T60} {v : List Int} (h : takesB b v = true) : redP b v := by
 unfold takesB at h
 split at h
 ·split at h
  ·rename_i h1 h2
   have := of_decide_eq_true h
   have hb := validB_t h1
   exact ⟨hb, by omega, (validV_t h2).2.1⟩
  ·cases h
 ·cases h
theorem takesB_of {b : T60} {v : List Int} (h : redP b v) : takesB b v = true := by
 unfold takesB
 rw [if_pos ((validB_iff b).2 h.1), if_pos (validV_of h.2 (by have := h.1.1; omega))]
 exact decide_eq_true (by have := h.2.1; have := h.1.1; omega)
theorem basP_fit {a : T60} (h : basP a) : Sh.fit s60 a := ⟨trivial, fitM h.2.ok (by have := h.1; omega) (by have := h.2.len; have := h.1; omega)⟩
theorem ctL_bd {α : Type} {c : α → Nat} {m : Nat} : ∀ {xs : List α}, (∀ x ∈ xs, c x ≤ m) → ctL c xs ≤ m * xs.length
 | [], _ => Nat.zero_le _
 | x :: l, h => by
  have h1 := h x (by simp)
  have h2 := ctL_bd (xs := l) (fun y hy => h y (by simp [hy]))
  simp only [ctL, List.length_cons, Nat.mul_add, Nat.mul_one]; omega
theorem basP_sz {a : T60} (h : basP a) : Sh.sz s60 a ≤ 2000 := by
 have h1 : Sh.sz s60 a = 0 + (List.length a.2 + ctL (Sh.sz s27) a.2) := rfl
 have h2 := ctL_bd (c := Sh.sz s27) (m := 40) (xs := a.2) (fun x hx => by rw [sz_flat (by rfl)]; have := (h.2.ok x hx).1; have := h.1; omega)
 have h3 := h.2.len; have h4 := h.1
 omega
def insU (b : T60) (v : List Int) : T60 := (b.1, (LA.insS b.2 v).1)
def insD (b : T60) (v : List Int) : Bool := (LA.insS b.2 v).2

def newBas (x0 : Int) : T60 := (if (inR x0 0 40) = true then (x0, ([] : List (List Int))) else (0, ([] : List (List Int))))
def S_impl_NewBasis : Sum := { fid := 97, dom := [(.int 3)], cod := [s60], dp := true, fz := false, pre := fun x => True, g := fun x => ((newBas x.1), ()) }
def S_impl_NewBasis_tab : List (Nat × Sum) := [(51, S_impl_InRange)]
theorem S_impl_NewBasis_ok : FnOK Try.prog 97 S_impl_NewBasis := by
 refine at_enter 9 (fun x => ⟨[(0, aI x.1)], []⟩) Try.func97 rfl (by kernel_rfl) (fun x => rfl) ?_
 rintro w0 Z0 ⟨x0, u⟩ a w
 revert x0
 intro (x0 : Int) hpre hlens h
 have hT : TabOK Try.prog S_impl_NewBasis_tab := (.cons S_impl_InRange_ok .nil)
 refine wp_seq ?_
 refine at_regq [{ ids := [1] }] { ts := [0, 2], os := [1] } [] gamOK hT h (by kernel_rfl) trivial fun a w h => then_normal (wp_seq (wp_seq ?_))
 refine at_regq [] { ts := [0, 2, 5], os := [1] } [True] gamOK hT h (by kernel_rfl) ⟨trivial, trivial⟩ fun a w h => then_normal ?_
 refine at_test (!(inR x0 0 40)) h (by kernel_rfl) (fun h1 => ?_) (fun h1 => ?_)
 ·replace h1 : (inR x0 0 40) = false := notT h1
  have hvh1 := inR_f h1
  refine wp_seq ?_
  refine at_regq [] { ts := [0, 2], os := [1] } [] gamOK hT h (by kernel_rfl) trivial fun a w h => then_normal (wp_ret (then_ret ?_))
  exact at_return ((0, ([] : List (List Int))), ()) [] h (by kernel_rfl) trivial (congrArg (fun z => (z, ())) (show ((0, ([] : List (List Int)))) = newBas x0 from by first | rfl | (unfold newBas; rw [if_neg (neT h1)])))
 ·replace h1 : (inR x0 0 40) = true := notF h1
  have hvh1 := inR_t h1
  refine wp_skip (then_normal (wp_seq ?_))
  refine at_regq [] { ts := [2], os := [1] } [] gamOK hT h (by kernel_rfl) trivial fun a w h => then_normal (wp_ret ?_)
  exact at_return ((x0, ([] : List (List Int))), ()) [] h (by kernel_rfl) trivial (congrArg (fun z => (z, ())) (show ((x0, ([] : List (List Int)))) = newBas x0 from by first | rfl | (unfold newBas; rw [if_pos h1])))

def S_spec_NewBasis : Sum := { fid := 151, dom := [(.int 3)], cod := [s60], dp := false, fz := false, pre := fun x => True, g := fun x => ((newBas x.1), ()) }
def S_spec_NewBasis_tab : List (Nat × Sum) := [(84, S_spec_l1In)]
theorem S_spec_NewBasis_ok : FnOK Try.prog 151 S_spec_NewBasis := by
 refine at_enter 8 (fun x => ⟨[(0, aI x.1)], []⟩) Try.func151 rfl (by kernel_rfl) (fun x => rfl) ?_
 rintro w0 Z0 ⟨x0, u⟩ a w
 revert x0
 intro (x0 : Int) hpre hlens h
 have hT : TabOK Try.prog S_spec_NewBasis_tab := (.cons S_spec_l1In_ok .nil)
 refine wp_seq ?_
 refine at_regq [{ ids := [1] }] { ts := [0, 2], os := [1] } [] gamOK hT h (by kernel_rfl) trivial fun a w h => then_normal (wp_seq (wp_seq ?_))
 refine at_regq [] { ts := [0, 2, 5], os := [1] } [True] gamOK hT h (by kernel_rfl) ⟨trivial, trivial⟩ fun a w h => then_normal ?_
 refine at_test (!(inR x0 0 40)) h (by kernel_rfl) (fun h1 => ?_) (fun h1 => ?_)
 ·replace h1 : (inR x0 0 40) = false := notT h1
  have hvh1 := inR_f h1
  refine at_regq [] { ts := [0, 2], os := [1] } [] gamOK hT h (by kernel_rfl) trivial fun a w h => then_normal (wp_seq ?_)
  refine at_regq [] { ts := [2], os := [1] } [] gamOK hT h (by kernel_rfl) trivial fun a w h => then_normal (wp_ret ?_)
  exact at_return ((0, ([] : List (List Int))), ()) [] h (by kernel_rfl) trivial (congrArg (fun z => (z, ())) (show ((0, ([] : List (List Int)))) = newBas x0 from by first | rfl | (unfold newBas; rw [if_neg (neT h1)]; done) | (unfold newBas; simp_all)))
 ·replace h1 : (inR x0 0 40) = true := notF h1
  have hvh1 := inR_t h1
  refine wp_skip (then_normal (wp_seq ?_))
  refine at_regq [] { ts := [2], os := [1] } [] gamOK hT h (by kernel_rfl) trivial fun a w h => then_normal (wp_ret ?_)
  exact at_return ((x0, ([] : List (List Int))), ()) [] h (by kernel_rfl) trivial (congrArg (fun z => (z, ())) (show ((x0, ([] : List (List Int)))) = newBas x0 from by first | rfl | (unfold newBas; rw [if_pos h1]; done) | (unfold newBas; simp_all)))

abbrev Q__impl_Basis_clone := (fun (x0 : T60) => Sh.fit s60 x0)
def S__impl_Basis_clone : Sum := { fid := 81, dom := [s60], cod := [s60], dp := true, fz := false, pre := fun x => Q__impl_Basis_clone x.1, g := fun x => (((idD s60) x.1), ()) }
def S__impl_Basis_clone_tab : List (Nat × Sum) := [(136, S_impl_copyMatrix)]
theorem S__impl_Basis_clone_ok : FnOK Try.prog 81 S__impl_Basis_clone := by
 refine at_enter 9 (fun x => ⟨[(0, aG [cI x.1.1, .ro s27 x.1.2])], []⟩) Try.func81 rfl (by kernel_rfl) (fun x => rfl) ?_
 rintro w0 Z0 ⟨x0, u⟩ a w
 revert x0
 intro (x0 : T60) hpre hlens h
 replace hpre : Q__impl_Basis_clone x0 := hpre
 have hT : TabOK Try.prog S__impl_Basis_clone_tab := (.cons S_impl_copyMatrix_ok .nil)
 have hf0 : Sh.fit s60 x0 := hpre
 have hn0_1 : List.length x0.2 ≤ 1073741824 := hf0.2.1
 refine wp_seq ?_
 refine at_regq [{ ids := [1] }, { ids := [2] }] { ts := [1, 2], os := [1, 2] } [] gamOK hT h (by kernel_rfl) trivial fun a w h => then_normal (wp_seq ?_)
 refine at_anyq [{}, {}, {}, {}, { ids := [3] }, {}, {}] { ts := [2], os := [2, 3] } [Q_impl_copyMatrix x0.2] gamOK hT mixed h (by kernel_rfl) ⟨(by exact hf0.2), trivial⟩ fun a w h => then_normal (wp_ret ?_)
 exact at_return (x0, ()) [] h (by kernel_rfl) trivial (congrArg (fun z => (z, ())) (show (x0) = (idD s60) x0 from by rfl))

abbrev Q_spec_l8Copy := (fun (x0 : T60) => Sh.fit s60 x0)
def S_spec_l8Copy : Sum := { fid := 176, dom := [s60], cod := [s60], dp := false, fz := false, pre := fun x => Q_spec_l8Copy x.1, g := fun x => (((idD s60) x.1), ()) }
def S_spec_l8Copy_tab : List (Nat × Sum) := [(177, S_spec_l6Copy)]
theorem S_spec_l8Copy_ok : FnOK Try.prog 176 S_spec_l8Copy := by
 refine at_enter 9 (fun x => ⟨[(0, aG [cI x.1.1, .ro s27 x.1.2])], []⟩) Try.func176 rfl (by kernel_rfl) (fun x => rfl) ?_
 rintro w0 Z0 ⟨x0, u⟩ a w
 revert x0
 intro (x0 : T60) hpre hlens h
 replace hpre : Q_spec_l8Copy x0 := hpre
 have hT : TabOK Try.prog S_spec_l8Copy_tab := (.cons S_spec_l6Copy_ok .nil)
 have hf0 : Sh.fit s60 x0 := hpre
 have hn0_1 : List.length x0.2 ≤ 1073741824 := hf0.2.1
 refine wp_seq ?_
 refine at_regq [{ ids := [1] }, { ids := [2] }] { ts := [1, 2], os := [1, 2] } [] gamOK hT h (by kernel_rfl) trivial fun a w h => then_normal (wp_seq ?_)
 refine at_anyq [{}, {}, {}, {}, { ids := [3] }, {}, {}] { ts := [2], os := [2, 3] } [Q_spec_l6Copy x0.2] gamOK hT mixed h (by kernel_rfl) ⟨(by exact hf0.2), trivial⟩ fun a w h => then_normal (wp_ret ?_)
 exact at_return (x0, ()) [] h (by kernel_rfl) trivial (congrArg (fun z => (z, ())) (show (x0) = (idD s60) x0 from by rfl))

abbrev Q_spec_l8Fits := (fun (x0 : T60) (x1 : (List Int)) => Sh.fit s60 x0 ∧ Sh.fit s27 x1)
def S_spec_l8Fits : Sum := { fid := 148, dom := [s60, s27], cod := [(.bool 4)], dp := true, fz := false, pre := fun x => Q_spec_l8Fits x.1 x.2.1, g := fun x => ((takesB x.1 x.2.1), ()) }
def S_spec_l8Fits_tab : List (Nat × Sum) := [(30, S_spec_IsValidBasis), (31, S_spec_IsValidVector)]
theorem S_spec_l8Fits_ok : FnOK Try.prog 148 S_spec_l8Fits := by
 refine at_enter 18 (fun x => ⟨[(0, aG [cI x.1.1, .ro s27 x.1.2]), (1, aF (.int 3) x.2.1)], []⟩) Try.func148 rfl (by kernel_rfl) (fun x => rfl) ?_
 rintro w0 Z0 ⟨x0, x1, u⟩ a w
 revert x0 x1
 intro (x0 : T60) (x1 : (List Int)) hpre hlens h
 replace hpre : Q_spec_l8Fits x0 x1 := hpre
 have hT : TabOK Try.prog S_spec_l8Fits_tab := (.cons S_spec_IsValidBasis_ok (.cons S_spec_IsValidVector_ok .nil))
 obtain ⟨hf0, hf1⟩ := hpre
 have hn0_1 : List.length x0.2 ≤ 1073741824 := hf0.2.1
 have hn1_2 : List.length x1 ≤ 1073741824 := hf1.1
 refine wp_seq ?_
 refine at_regq [{ ids := [1] }] { ts := [1, 2, 4], os := [1] } [] gamOK hT h (by kernel_rfl) trivial fun a w h => then_normal (wp_seq ?_)
 rcases Bool.eq_false_or_eq_true ((validBS x0)) with h1 | h1
 ·have hvh1 := validBS_t h1
  rcases Bool.eq_false_or_eq_true ((validV x1)) with h2 | h2
  ·have hvh2 := validV_t h2
   refine at_regq [{}, { hint := some (aB true) }, {}, {}, { hint := some (aB true) }] { ts := [4], os := [] } [Q_spec_IsValidBasis x0, (AV.p (.c (.v (.bool ((validBS x0))))) = AV.p (.c (.v (.bool true)))), Q_spec_IsValidVector x1, (AV.p (.c (.v (.bool ((validV x1))))) = AV.p (.c (.v (.bool true))))] gamOK hT h (by kernel_rfl) ⟨(by exact hf0), hint_bool (h1), (by exact hf1), hint_bool (h2), trivial⟩ fun a w h => then_normal (wp_ret ?_)
   exact at_return (decide (((List.length x1 : Nat) : Int) = x0.1), ()) [] h (by kernel_rfl) trivial (congrArg (fun z => (z, ())) (show (decide (((List.length x1 : Nat) : Int) = x0.1)) = takesB x0 x1 from by (unfold takesB; simp_all [validBS_eq])))
  ·refine at_regq [{}, { hint := some (aB true) }, {}, {}, { hint := some (aB false) }] { ts := [4], os := [] } [Q_spec_IsValidBasis x0, (AV.p (.c (.v (.bool ((validBS x0))))) = AV.p (.c (.v (.bool true)))), Q_spec_IsValidVector x1, (AV.p (.c (.v (.bool ((validV x1))))) = AV.p (.c (.v (.bool false))))] gamOK hT h (by kernel_rfl) ⟨(by exact hf0), hint_bool (h1), (by exact hf1), hint_bool (h2), trivial⟩ fun a w h => then_normal (wp_ret ?_)
   exact at_return (false, ()) [] h (by kernel_rfl) trivial (congrArg (fun z => (z, ())) (show (false) = takesB x0 x1 from by (unfold takesB; simp_all [validBS_eq])))
 ·refine at_regq [{}, { hint := some (aB false) }] { ts := [4], os := [] } [Q_spec_IsValidBasis x0, (AV.p (.c (.v (.bool ((validBS x0))))) = AV.p (.c (.v (.bool false))))] gamOK hT h (by kernel_rfl) ⟨(by exact hf0), hint_bool (h1), trivial⟩ fun a w h => then_normal (wp_ret ?_)
  exact at_return (false, ()) [] h (by kernel_rfl) trivial (congrArg (fun z => (z, ())) (show (false) = takesB x0 x1 from by (unfold takesB; simp_all [validBS_eq])))

def D__impl_Basis_reduce := (fun (b : T60) (v : List Int) => LA.redS b.2 v)
abbrev Q__impl_Basis_reduce := (fun (x0 : T60) (x1 : (List Int)) => Sh.fit s60 x0 ∧ Sh.fit s27 x1 ∧ redP x0 x1)
def S__impl_Basis_reduce : Sum := { fid := 88, dom := [s60, s27], cod := [s27], dp := true, fz := false, pre := fun x => Q__impl_Basis_reduce x.1 x.2.1, g := fun x => ((D__impl_Basis_reduce x.1 x.2.1), ()) }
def S__impl_Basis_reduce_tab : List (Nat × Sum) := [(109, S_slices_Clone_S_int_int_), (38, S_impl_LeadingIndex), (139, S_impl_addScaled)]
theorem S__impl_Basis_reduce_ok : FnOK Try.prog 88 S__impl_Basis_reduce := by
 refine at_enter 32 (fun x => ⟨[(0, aG [cI x.1.1, .ro s27 x.1.2]), (1, aF (.int 3) x.2.1)], []⟩) Try.func88 rfl (by kernel_rfl) (fun x => rfl) ?_
 rintro w0 Z0 ⟨x0, x1, u⟩ a w
 revert x0 x1
 intro (x0 : T60) (x1 : (List Int)) hpre hlens h
 replace hpre : Q__impl_Basis_reduce x0 x1 := hpre
 have hT : TabOK Try.prog S__impl_Basis_reduce_tab := (.cons S_slices_Clone_S_int_int__ok (.cons S_impl_LeadingIndex_ok (.cons S_impl_addScaled_ok .nil)))
 obtain ⟨hf0, hf1, hpx⟩ := hpre
 have hn0_1 : List.length x0.2 ≤ 1073741824 := hf0.2.1
 have hn1_2 : List.length x1 ≤ 1073741824 := hf1.1
 have hb0 := hpx.1.1
 have hbR := hpx.1.2
 have hbv := hpx.2
 refine wp_seq ?_
 refine at_regq [{ ids := [1] }] { ts := [1, 2, 4], os := [1] } [] gamOK hT h (by kernel_rfl) trivial fun a w h => then_normal (wp_seq ?_)
 refine at_regq [{}, { ids := [2] }] { ts := [2, 4, 5], os := [1, 2] } [(lenOK (α := Int)) x1] gamOK hT h (by kernel_rfl) ⟨(by exact hf1.1), trivial⟩ fun a w h => then_normal (wp_seq (wp_seq ?_))
 refine at_regq [] { ts := [4, 5, 12, 13, 14], os := [2] } [] gamOK hT h (by kernel_rfl) trivial fun a w h => then_normal (wp_block ?_)
 replace h := at_out (σ' := ⟨[(4, .p (.c (cN))), (5, aS 2), (12, aF s27 x0.2), (13, aI ((List.length x0.2 : Nat) : Int)), (14, aI 0)], [(2, oR (.int 3) x1)]⟩) { ts := [4, 5, 12, 13, 14], os := [2] } h (by kernel_rfl)
 refine at_loop (fun i : Nat => (⟨[(4, .p (.c (cN))), (5, aS 2), (12, aF s27 x0.2), (13, aI ((List.length x0.2 : Nat) : Int)), (14, aI ((i : Nat) : Int))], [(2, oR (.int 3) (foldTo LA.redStep x1 x0.2 i))]⟩ : St)) (fun i => i ≤ List.length x0.2) (fun i => List.length x0.2 - i) (0) h (st_congr2 (fun (d0 : List Int) (d1 : Int) => (⟨[(4, .p (.c (cN))), (5, aS 2), (12, aF s27 x0.2), (13, aI ((List.length x0.2 : Nat) : Int)), (14, aI d1)], [(2, oR (.int 3) d0)]⟩ : St)) (show (x1 : List Int) = (foldTo LA.redStep x1 x0.2 (0)) from by first | with_reducible rfl | (rfl) | rfl) (show (0 : Int) = (((0) : Nat) : Int) from by first | with_reducible rfl | (rfl) | rfl)) (by omega) ?_
 intro i a w hok0 h
 refine wp_seq ?_
 refine at_regq [] { ts := [4, 5, 12, 13, 14, 15], os := [2] } [] gamOK hT h (by kernel_rfl) trivial fun a w h => then_normal (wp_seq ?_)
 refine at_test (decide (((i : Nat) : Int) < ((List.length x0.2 : Nat) : Int))) h (by kernel_rfl) (fun h1 => ?_) (fun h1 => ?_)
 ·replace h1 : ((i : Nat) : Int) < ((List.length x0.2 : Nat) : Int) := of_decide_eq_true h1
  have hro : LA.VokB x0.1.toNat (foldTo LA.redStep x1 x0.2 i) := LA.redS_to hbR.ok hbv i (by omega)
  have hrol := hro.1
  have hrr := hbR.at_ (show i < List.length x0.2 by omega)
  have hror := hro.rng (LA.leadS (x0.2.getD i [])).toNat
  refine wp_skip (then_normal (wp_seq (wp_block (wp_seq ?_))))
  refine at_regq [] { ts := [4, 5, 7, 12, 13, 14], os := [2] } [(0 : Int) ≤ ((i : Nat) : Int) ∧ ((i : Nat) : Int) < ((List.length x0.2 : Nat) : Int)] gamOK hT h (by kernel_rfl) ⟨(by refine ⟨?_, ?_⟩ <;> (first | omega | (simp only [lsA]; omega) | (simp <;> omega))), trivial⟩ fun a w h => then_normal (wp_seq ?_)
  refine at_regq [] { ts := [4, 5, 7, 8, 12, 13, 14], os := [2] } [Q_impl_LeadingIndex (x0.2.getD i []), (0 : Int) ≤ (LA.leadS (x0.2.getD i [])) ∧ (LA.leadS (x0.2.getD i [])) < ((List.length (foldTo LA.redStep x1 x0.2 i) : Nat) : Int), ((LA.leadS (x0.2.getD i []))).toNat < List.length (foldTo LA.redStep x1 x0.2 i)] gamOK hT h (by kernel_rfl) ⟨(by exact fitV hrr.1 (by omega)), (by refine ⟨?_, ?_⟩ <;> (first | omega | (simp only [lsA]; omega) | (simp <;> omega))), (by first | omega | (simp only [lsA]; omega) | (simp <;> omega)), trivial⟩ fun a w h => then_normal (wp_seq ?_)
  refine at_regq [] { ts := [4, 5, 7, 8, 12, 13, 14, 24], os := [2] } [] gamOK hT h (by kernel_rfl) trivial fun a w h => then_normal ?_
  refine at_test (!decide (((foldTo LA.redStep x1 x0.2 i).getD (((LA.leadS (x0.2.getD i []))).toNat) 0) = 0)) h (by kernel_rfl) (fun h2 => ?_) (fun h2 => ?_)
  ·replace h2 : ¬ (((foldTo LA.redStep x1 x0.2 i).getD (((LA.leadS (x0.2.getD i []))).toNat) 0) = 0) := of_decide_eq_false (notT h2)
   refine at_regq [{}, {}, {}, { nw := true }] { ts := [4, 5, 12, 13, 14], os := [2] } [I64 (1019 - ((foldTo LA.redStep x1 x0.2 i).getD (((LA.leadS (x0.2.getD i []))).toNat) 0)), Q_impl_addScaled (foldTo LA.redStep x1 x0.2 i) (x0.2.getD i []) (1019 - ((foldTo LA.redStep x1 x0.2 i).getD (((LA.leadS (x0.2.getD i []))).toNat) 0))] gamOK hT h (by kernel_rfl) ⟨⟨by first | omega | (simp only [lsA]; omega) | (simp <;> omega), by first | omega | (simp only [lsA]; omega) | (simp <;> omega)⟩, (by exact ⟨fitV hro (by omega), fitV hrr.1 (by omega), addOK_of hro hrr.1 (by omega)⟩), trivial⟩ fun a w h => in_normal (then_normal ?_)
   refine at_regq [{ nw := true }] { ts := [4, 5, 12, 13, 14], os := [2] } [I64 (((i : Nat) : Int) + 1)] gamOK hT h (by kernel_rfl) ⟨⟨by first | omega | (simp only [lsA]; omega) | (simp <;> omega), by first | omega | (simp only [lsA]; omega) | (simp <;> omega)⟩, trivial⟩ fun a w h => ?_
   replace h := at_out (σ' := ⟨[(4, .p (.c (cN))), (5, aS 2), (12, aF s27 x0.2), (13, aI ((List.length x0.2 : Nat) : Int)), (14, aI (((i : Nat) : Int) + 1))], [(2, oR (.int 3) (LA.addS (foldTo LA.redStep x1 x0.2 i) (x0.2.getD i []) (1019 - ((foldTo LA.redStep x1 x0.2 i).getD (((LA.leadS (x0.2.getD i []))).toNat) 0))))]⟩) { ts := [4, 5, 12, 13, 14], os := [2] } h (by kernel_rfl)
   exact ⟨i + 1, at_eq h (st_congr2 (fun (d0 : List Int) (d1 : Int) => (⟨[(4, .p (.c (cN))), (5, aS 2), (12, aF s27 x0.2), (13, aI ((List.length x0.2 : Nat) : Int)), (14, aI d1)], [(2, oR (.int 3) d0)]⟩ : St)) (show ((LA.addS (foldTo LA.redStep x1 x0.2 i) (x0.2.getD i []) (1019 - ((foldTo LA.redStep x1 x0.2 i).getD (((LA.leadS (x0.2.getD i []))).toNat) 0))) : List Int) = (foldTo LA.redStep x1 x0.2 (i + 1)) from by first | with_reducible rfl | (rw [foldTo_succ [] (by omega)]; unfold LA.redStep; first | (rw [if_pos (by assumption)]; done) | (rw [if_neg (fun e => e (by assumption))]; done)) | rfl) (show (((i : Nat) : Int) + 1 : Int) = (((i + 1) : Nat) : Int) from by first | with_reducible rfl | (omega) | rfl)), (by omega), (by omega)⟩
  ·replace h2 : ((foldTo LA.redStep x1 x0.2 i).getD (((LA.leadS (x0.2.getD i []))).toNat) 0) = 0 := of_decide_eq_true (notF h2)
   refine wp_skip (in_normal (then_normal ?_))
   refine at_regq [{ nw := true }] { ts := [4, 5, 12, 13, 14], os := [2] } [I64 (((i : Nat) : Int) + 1)] gamOK hT h (by kernel_rfl) ⟨⟨by first | omega | (simp only [lsA]; omega) | (simp <;> omega), by first | omega | (simp only [lsA]; omega) | (simp <;> omega)⟩, trivial⟩ fun a w h => ?_
   replace h := at_out (σ' := ⟨[(4, .p (.c (cN))), (5, aS 2), (12, aF s27 x0.2), (13, aI ((List.length x0.2 : Nat) : Int)), (14, aI (((i : Nat) : Int) + 1))], [(2, oR (.int 3) (foldTo LA.redStep x1 x0.2 i))]⟩) { ts := [4, 5, 12, 13, 14], os := [2] } h (by kernel_rfl)
   exact ⟨i + 1, at_eq h (st_congr2 (fun (d0 : List Int) (d1 : Int) => (⟨[(4, .p (.c (cN))), (5, aS 2), (12, aF s27 x0.2), (13, aI ((List.length x0.2 : Nat) : Int)), (14, aI d1)], [(2, oR (.int 3) d0)]⟩ : St)) (show ((foldTo LA.redStep x1 x0.2 i) : List Int) = (foldTo LA.redStep x1 x0.2 (i + 1)) from by first | with_reducible rfl | (rw [foldTo_succ [] (by omega)]; unfold LA.redStep; first | (rw [if_pos (by assumption)]; done) | (rw [if_neg (fun e => e (by assumption))]; done)) | rfl) (show (((i : Nat) : Int) + 1 : Int) = (((i + 1) : Nat) : Int) from by first | with_reducible rfl | (omega) | rfl)), (by omega), (by omega)⟩
 ·replace h1 : ¬ (((i : Nat) : Int) < ((List.length x0.2 : Nat) : Int)) := of_decide_eq_false h1
  refine wp_exit (then_exit (then_exit (in_hit (then_normal (wp_seq ?_)))))
  refine at_regq [] { ts := [4], os := [2] } [] gamOK hT h (by kernel_rfl) trivial fun a w h => then_normal (wp_ret ?_)
  exact at_return ((foldTo LA.redStep x1 x0.2 i), ()) [] h (by kernel_rfl) trivial (congrArg (fun z => (z, ())) (show ((foldTo LA.redStep x1 x0.2 i)) = D__impl_Basis_reduce x0 x1 from by unfold D__impl_Basis_reduce; (rw [foldTo_all (by omega)]; rfl)))

section
open Go.Shelf Go.Lib
set_option maxRecDepth 100000 in
theorem insA140 (w : World) (A : Option Addr) (n c gu m cu : Nat) (hm : 0 < m) (hnc : n ≤ c) (hc : c ≤ 9223372036854775807) (hA : A = none → c = 0) (v' : Value) (w' : World)
    (hrun : ∀ ty, (Builtin.append_ #[24, 24] ty #[.slice A n c, .slice (some ⟨gu, 0, none⟩) m cu]).run Try.prog w = .ok v' w') :
    Calls Try.prog 140 #[.slice A n c, .int .i64 n, .slice (some ⟨gu, 0, none⟩) m cu] w fun e w'' => e = .returned v' ∧ w'' = w' := by
  have u34 := run_underlying Try.underlying24
  have hz1 : ¬ ((m : Int) = 0) := by omega
  go_enter Try.func140, Try.ntmps140
  go_wp2_with (at_builtin; refine Lib.wpList_append_run _ rfl _ _ _ _ rfl _ _ rfl rfl _ _ (hrun _) ?_)
  all_goals (go_ret; exact ⟨rfl, rfl⟩)
set_option maxRecDepth 100000 in
theorem insB140 (w : World) (g n c i gu m cu W C : Nat) (hm : 0 < m) (hi : i < n) (hnc : n ≤ c) (hroom : c < n + m) (hbig : n + m ≤ 9223372036854775807) (hC : n + m ≤ C) (w1 w2 w3 : World) (x1 x2 : Value)
    (hrun0 : ∀ ty, (Builtin.append_ #[24, 3] ty #[.slice (some ⟨g, 0, none⟩) i c, .int .i64 ((n : Int) + (m : Int) - (i : Int))]).run Try.prog w = .ok (.slice (some ⟨W, 0, none⟩) (n + m) C) w1)
    (hrun1 : ∀ ty, (Builtin.copy_ #[24, 24] ty #[.slice (some ⟨W, i, none⟩) (n + m - i) (C - i), .slice (some ⟨gu, 0, none⟩) m cu]).run Try.prog w1 = .ok x1 w2)
    (hrun2 : ∀ ty, (Builtin.copy_ #[24, 24] ty #[.slice (some ⟨W, i + m, none⟩) (n + m - (i + m)) (C - (i + m)), .slice (some ⟨g, i, none⟩) (n - i) (c - i)]).run Try.prog w2.drew = .ok x2 w3) :
    Calls Try.prog 140 #[.slice (some ⟨g, 0, none⟩) n c, .int .i64 i, .slice (some ⟨gu, 0, none⟩) m cu] w fun e w'' => e = .returned (.slice (some ⟨W, 0, none⟩) (n + m) C) ∧ w'' = w3 := by
  have u34 := run_underlying Try.underlying24
  have u3 := run_underlying Try.underlying3
  have hz1 : ¬ ((m : Int) = 0) := by omega
  have hz2 : ¬ ((i : Int) = (n : Int)) := by omega
  have hz3 : (c : Int) < (n : Int) + (m : Int) := by omega
  have hw0 : IntKind.i64.wrap ((n : Int) + (m : Int)) = (n : Int) + (m : Int) := by rw [IntKind.wrap_i64]; omega
  have hw2 : IntKind.i64.wrap ((n : Int) + (m : Int) - (i : Int)) = (n : Int) + (m : Int) - (i : Int) := by rw [IntKind.wrap_i64]; omega
  have hw1 : IntKind.i64.wrap ((i : Int) + (m : Int)) = (i : Int) + (m : Int) := by rw [IntKind.wrap_i64]; omega
  have hb1 : (0 : Int) ≤ (i : Int) + (m : Int) := by omega
  have hin : i ≤ n := by omega
  have hic : i ≤ c := by omega
  have hinm : i ≤ n + m := by omega
  have htn : ((i : Int) + (m : Int)).toNat = i + m := by omega
  have hb2 : ¬ (C = i + m) := by omega
  have hb5 : ¬ (C = i) := by omega
  have hb3 : (i : Int) ≤ (n : Int) + (m : Int) := by omega
  have hb4 : ¬ (c = i) := by omega
  have mixed : Try.prog.follows .mixedOrders = true := by kernel_rfl
  go_enter Try.func140, Try.ntmps140
  go_wp2_with (first
    | (at_builtin; refine Lib.wpList_append_run _ rfl _ _ _ _ rfl _ _ rfl rfl _ _ (hrun0 _) ?_)
    | (at_builtin; refine wpList_copy_runI _ rfl _ _ _ _ rfl _ _ rfl rfl (hrun1 _) ?_))
  go_region_law_o (refine step_copy_runI rfl _ _ 24 24 rfl _ _ (by simp [Act.eval, Act.put]) (by simp [Act.eval, Act.put]) (hrun2 _) ?_)
  go_wp2_with (fail)
  go_ret
  exact ⟨rfl, rfl⟩
set_option maxRecDepth 100000 in
theorem insC140 (w : World) (g n c i gu m cu : Nat) (hm : 0 < m) (hi : i < n) (hroom : n + m ≤ c) (hc : c ≤ 9223372036854775807) (hne : gu ≠ g) (tA tB : TypeId) (kA kB : Nat) (hsa : w.shape? gu = some (tA, kA)) (hsb : w.shape? g = some (tB, kB)) (hkB : kB ≠ 0) (hfa : w.frozen? ⟨gu, 0, none⟩ = false) (hfe : w.frozen? ⟨gu, kA, none⟩ = false)
    (w1 w2 : World) (x1 x2 : Value)
    (hrun1 : ∀ ty, (Builtin.copy_ #[24, 24] ty #[.slice (some ⟨g, i + m, none⟩) (n + m - (i + m)) (c - (i + m)), .slice (some ⟨g, i, none⟩) (n + m - i) (c - i)]).run Try.prog w.drew = .ok x1 w1)
    (hrun2 : ∀ ty, (Builtin.copy_ #[24, 24] ty #[.slice (some ⟨g, i, none⟩) (n + m - i) (c - i), .slice (some ⟨gu, 0, none⟩) m cu]).run Try.prog w1 = .ok x2 w2) :
    Calls Try.prog 140 #[.slice (some ⟨g, 0, none⟩) n c, .int .i64 i, .slice (some ⟨gu, 0, none⟩) m cu] w fun e w'' => e = .returned (.slice (some ⟨g, 0, none⟩) (n + m) c) ∧ w'' = w2 := by
  have u34 := run_underlying Try.underlying24
  have u3 := run_underlying Try.underlying3
  have hz1 : ¬ ((m : Int) = 0) := by omega
  have hz2 : ¬ ((i : Int) = (n : Int)) := by omega
  have hz3 : ¬ ((c : Int) < (n : Int) + (m : Int)) := by omega
  have hw0 : IntKind.i64.wrap ((n : Int) + (m : Int)) = (n : Int) + (m : Int) := by rw [IntKind.wrap_i64]; omega
  have hw1 : IntKind.i64.wrap ((i : Int) + (m : Int)) = (i : Int) + (m : Int) := by rw [IntKind.wrap_i64]; omega
  have hb1 : (0 : Int) ≤ (i : Int) + (m : Int) := by omega
  have hb0 : (0 : Int) ≤ (n : Int) + (m : Int) := by omega
  have hb6 : (n : Int) + (m : Int) ≤ (c : Int) := by omega
  have hin : i ≤ n := by omega
  have hic : i ≤ c := by omega
  have hinm : i ≤ n + m := by omega
  have htn : ((i : Int) + (m : Int)).toNat = i + m := by omega
  have htn2 : ((n : Int) + (m : Int)).toNat = n + m := by omega
  have hb2 : ¬ (c = i + m) := by omega
  have hb3 : (i : Int) ≤ (n : Int) + (m : Int) := by omega
  have hb4 : ¬ (c = i) := by omega
  have mixed : Try.prog.follows .mixedOrders = true := by kernel_rfl
  have hsz : ∀ w, (Go.sizeOf 27).run Try.prog w = .ok 1 w := fun w => size_run (P := Try.prog) (t := 27) (n := 1) (by kernel_rfl) w
  have hov : ∀ lb cb, (callFunc 170 #[.slice (some ⟨gu, 0, none⟩) m cu, .slice (some ⟨g, i + m, none⟩) lb cb]).run Try.prog w = .ok (.value (.bool false)) w := fun lb cb => by
    rw [run_callFunc_extern Try.func170 (by kernel_rfl) (by kernel_rfl) (by kernel_rfl) (e := Extern.SlicesOverlaps.overlaps #[24, 24] #[4]) (by kernel_rfl),
      Lib.run_overlaps_apart w 24 4 27 Try.underlying24 1 hsz ⟨gu, 0, none⟩ ⟨g, i + m, none⟩ m cu lb cb hne tA tB kA kB hsa hsb hkB hfa hfe]
    rfl
  go_enter Try.func140, Try.ntmps140
  go_wp2_with (simp only [hov])
  go_region_law_o (refine step_copy_runI rfl _ _ 24 24 rfl _ _ (by simp [Act.eval, Act.put]) (by simp [Act.eval, Act.put]) (hrun1 _) ?_)
  go_wp2_with (at_builtin; refine wpList_copy_runI _ rfl _ _ _ _ rfl _ _ rfl rfl (hrun2 _) ?_)
  go_ret
  exact ⟨rfl, rfl⟩

theorem insR140 : InsRoads Try.prog 140 24 3 1 := ⟨insA140, fun w g n c i gu m cu W C h1 h2 h3 h4 h5 h6 w1 w2 w3 x1 x2 a b d => insB140 w g n c i gu m cu W C h1 h2 h3 h4 h5 h6 w1 w2 w3 x1 x2 a (by simpa only [Nat.mul_one] using b) (by simpa only [Nat.mul_one] using d), fun w g n c i gu m cu h1 h2 h3 h4 h5 tA tB kA kB a1 a2 a3 a4 a5 w1 w2 x1 x2 b d => insC140 w g n c i gu m cu h1 h2 h3 h4 h5 tA tB kA kB a1 a2 a3 a4 a5 w1 w2 x1 x2 (by simpa only [Nat.mul_one] using b) (by simpa only [Nat.mul_one] using d)⟩
def D_slices_Insert_S_S_int_S_int_ (x0 : List (List Int)) (x1 : Int) (x2 : List (List Int)) : List (List Int) := insAt x0 x1.toNat x2
def S_slices_Insert_S_S_int_S_int_ : Sum := insSum 140 24 3 s27 24
theorem S_slices_Insert_S_S_int_S_int__ok : FnOK Try.prog 140 S_slices_Insert_S_S_int_S_int_ := insert_ok (bytes := 24) s27 insR140 (Elem.of (.slice none 0 0) Try.underlying24 (by kernel_rfl) rfl (by decide) (by decide)) Try.underlying3
end

abbrev Q__P_impl_Basis_insert := (fun (x0 : T60) (x1 : (List Int)) => Sh.fit s60 x0 ∧ Sh.fit s27 x1 ∧ redP x0 x1)
def S__P_impl_Basis_insert : Sum := { fid := 83, dom := [s60, s27], cod := [(.bool 4)], dp := true, fz := false, pre := fun x => Q__P_impl_Basis_insert x.1 x.2.1, g := fun x => ((insD x.1 x.2.1), ()), kinds := [(.bx 60 0), .rd], upd := fun x => (insU x.1 x.2.1, (x.2.1, ())) }
def S__P_impl_Basis_insert_tab : List (Nat × Sum) := [(88, S__impl_Basis_reduce), (38, S_impl_LeadingIndex), (138, S_impl_InverseField), (137, S_impl_ScaleVector), (139, S_impl_addScaled), (140, S_slices_Insert_S_S_int_S_int_)]
theorem S__P_impl_Basis_insert_ok : FnOK Try.prog 83 S__P_impl_Basis_insert := by
 refine at_enterI 66 [1, 2] [3] (fun us x => ⟨[(0, aP 1 0), (1, aF (.int 3) x.2.1)], [(1, oX 60 [cI x.1.1, .sl 2]), (2, oR s27 x.1.2), (3, oP 1 (S__P_impl_Basis_insert.hd us 0))]⟩) Try.func83 rfl (by kernel_rfl) (fun us x => rfl) ?_
 rintro w0 Z0 us ⟨x0, x1, u⟩ L a w
 revert x0 x1
 intro (x0 : T60) (x1 : (List Int)) hio hpre hlens h
 replace h : At w0 Z0 L 66 ⟨[(0, aP 1 0), (1, aF (.int 3) x1)], [(1, oX 60 [cI x0.1, .sl 2]), (2, oR s27 x0.2), (3, oP 1 (S__P_impl_Basis_insert.hd us 0))]⟩ a w := h
 replace hpre : Q__P_impl_Basis_insert x0 x1 := hpre
 have hT : TabOK Try.prog S__P_impl_Basis_insert_tab := (.cons S__impl_Basis_reduce_ok (.cons S_impl_LeadingIndex_ok (.cons S_impl_InverseField_ok (.cons S_impl_ScaleVector_ok (.cons S_impl_addScaled_ok (.cons S_slices_Insert_S_S_int_S_int__ok .nil))))))
 obtain ⟨hf0, hf1, hpx⟩ := hpre
 have hn0_1 : List.length x0.2 ≤ 1073741824 := hf0.2.1
 have hn1_2 : List.length x1 ≤ 1073741824 := hf1.1
 have hb0 := hpx.1.1
 have hbR := hpx.1.2
 have hbv := hpx.2
 have hrd := LA.redS_rng hbR hbv
 have hrdl := hrd.1
 have hrn := hbR.len
 refine wp_seq ?_
 refine at_regq [] { ts := [0, 1, 4], os := [1, 2, 3] } [] gamOK hT h (by kernel_rfl) trivial fun a w h => then_normal (wp_seq ?_)
 refine at_regq [{}, {}, {}, {}, { ids := [4] }] { ts := [0, 4, 5], os := [1, 2, 3, 4] } [Q__impl_Basis_reduce x0 x1] gamOK hT h (by kernel_rfl) ⟨(by exact ⟨hf0, hf1, hpx⟩), trivial⟩ fun a w h => then_normal (wp_seq ?_)
 refine at_regq [] { ts := [0, 4, 5, 6], os := [1, 2, 3, 4] } [Q_impl_LeadingIndex (LA.redS x0.2 x1)] gamOK hT h (by kernel_rfl) ⟨(by first | exact fitV hrd (by omega) | exact fitV hrk (by omega) | exact Sh.fit_len rfl (by rw [LA.addS_len (by omega)]; omega)), trivial⟩ fun a w h => then_normal (wp_seq (wp_seq ?_))
 refine at_regq [] { ts := [0, 4, 5, 6, 19], os := [1, 2, 3, 4] } [] gamOK hT h (by kernel_rfl) trivial fun a w h => then_normal ?_
 refine at_test (decide ((LA.leadS (LA.redS x0.2 x1)) < 0)) h (by kernel_rfl) (fun h1 => ?_) (fun h1 => ?_)
 ·replace h1 : (LA.leadS (LA.redS x0.2 x1)) < 0 := of_decide_eq_true h1
  refine wp_seq ?_
  refine at_regq [] { ts := [0, 4, 5, 6], os := [1, 2, 3, 4] } [] gamOK hT h (by kernel_rfl) trivial fun a w h => then_normal (wp_ret (then_ret ?_))
  exact at_returnI (S := S__P_impl_Basis_insert) (x := (x0, x1, ())) [1, 2] [3] (x0, (x1, ())) (some (false, ())) [S__P_impl_Basis_insert.hd us 0 = S__P_impl_Basis_insert.hd us 0] hio h (by kernel_rfl) ⟨rfl, trivial⟩ (by first | rfl | exact congrArg (fun (z : T60) => (z, (x1, ()))) (show (x0 : T60) = insU x0 x1 from by (unfold insU; first | (rw [LA.insS_no (by assumption)]; done) | (rw [LA.insS_yes (by assumption)]; rfl)))) (fun z e => (Option.some.inj e) ▸ (congrArg (fun z => (z, ())) (show (false) = insD x0 x1 from by (unfold insD; first | (rw [LA.insS_no (by assumption)]; done) | (rw [LA.insS_yes (by assumption)]; done)))))
 ·replace h1 : ¬ ((LA.leadS (LA.redS x0.2 x1)) < 0) := of_decide_eq_false h1
  have hlp := LA.leadS_bd (LA.redS x0.2 x1)
  have hwk := LA.insW_ok hbR hbv (by omega)
  have hwl := hwk.1
  have hpz := (LA.leadS_pos (v := LA.redS x0.2 x1) (by omega)).1
  refine wp_skip (then_normal (wp_seq ?_))
  refine at_regq [{}, {}, {}, {}, {}, {}, { ids := [5] }] { ts := [0, 4, 5, 6], os := [1, 2, 3, 5] } [(0 : Int) ≤ (LA.leadS (LA.redS x0.2 x1)) ∧ (LA.leadS (LA.redS x0.2 x1)) < ((List.length (LA.redS x0.2 x1) : Nat) : Int), ((LA.leadS (LA.redS x0.2 x1))).toNat < List.length (LA.redS x0.2 x1), True, Q_impl_ScaleVector (LA.redS x0.2 x1) (invF ((LA.redS x0.2 x1).getD (((LA.leadS (LA.redS x0.2 x1))).toNat) 0))] gamOK hT h (by kernel_rfl) ⟨(by refine ⟨?_, ?_⟩ <;> (first | omega | (simp only [lsA]; omega) | (simp <;> omega))), (by first | omega | (simp only [lsA]; omega) | (simp <;> omega)), trivial, (by exact fitV hrd (by omega)), trivial⟩ fun a w h => then_normal (wp_seq ?_)
  refine at_regq [] { ts := [0, 4, 5, 6, 7], os := [1, 2, 3, 5] } [] gamOK hT h (by kernel_rfl) trivial fun a w h => then_normal (wp_seq (wp_seq ?_))
  refine at_regq [] { ts := [0, 4, 5, 6, 7, 30, 31, 32], os := [1, 2, 3, 5] } [] gamOK hT h (by kernel_rfl) trivial fun a w h => then_normal (wp_block ?_)
  replace h := at_out (σ' := ⟨[(0, aP 1 0), (4, aB false), (5, aS 5), (6, aI (LA.leadS (LA.redS x0.2 x1))), (7, aI 0), (30, aS 2), (31, aI ((List.length x0.2 : Nat) : Int)), (32, aI 0)], [(1, oX 60 [cI x0.1, .sl 2]), (2, oR s27 x0.2), (3, oP 1 (S__P_impl_Basis_insert.hd us 0)), (5, oR (.int 3) (scaleV (LA.redS x0.2 x1) (invF ((LA.redS x0.2 x1).getD (((LA.leadS (LA.redS x0.2 x1))).toNat) 0))))]⟩) { ts := [0, 4, 5, 6, 7, 30, 31, 32], os := [1, 2, 3, 5] } h (by kernel_rfl)
  refine at_loop (fun i : Nat => (⟨[(0, aP 1 0), (4, aB false), (5, aS 5), (6, aI (LA.leadS (LA.redS x0.2 x1))), (7, aI ((LA.atTo (LA.insE x0.2 x1) (LA.leadS (LA.redS x0.2 x1)) i : Nat) : Int)), (30, aS 2), (31, aI ((List.length x0.2 : Nat) : Int)), (32, aI ((i : Nat) : Int))], [(1, oX 60 [cI x0.1, .sl 2]), (2, oR s27 (LA.elTo x0.2 (LA.insW x0.2 x1) (LA.leadS (LA.redS x0.2 x1)).toNat i)), (3, oP 1 (S__P_impl_Basis_insert.hd us 0)), (5, oR (.int 3) (LA.insW x0.2 x1))]⟩ : St)) (fun i => i ≤ List.length x0.2) (fun i => List.length x0.2 - i) (0) h (st_congr4 (fun (d0 : List (List Int)) (d1 : List Int) (d2 : Int) (d3 : Int) => (⟨[(0, aP 1 0), (4, aB false), (5, aS 5), (6, aI (LA.leadS (LA.redS x0.2 x1))), (7, aI d2), (30, aS 2), (31, aI ((List.length x0.2 : Nat) : Int)), (32, aI d3)], [(1, oX 60 [cI x0.1, .sl 2]), (2, oR s27 d0), (3, oP 1 (S__P_impl_Basis_insert.hd us 0)), (5, oR (.int 3) d1)]⟩ : St)) (show (x0.2 : List (List Int)) = (LA.elTo x0.2 (LA.insW x0.2 x1) (LA.leadS (LA.redS x0.2 x1)).toNat (0)) from by first | with_reducible rfl | (first | rfl | exact ins_w hrd (by omega) (by omega)) | rfl) (show ((scaleV (LA.redS x0.2 x1) (invF ((LA.redS x0.2 x1).getD (((LA.leadS (LA.redS x0.2 x1))).toNat) 0))) : List Int) = (LA.insW x0.2 x1) from by first | with_reducible rfl | (first | rfl | exact ins_w hrd (by omega) (by omega)) | rfl) (show (0 : Int) = ((LA.atTo (LA.insE x0.2 x1) (LA.leadS (LA.redS x0.2 x1)) (0) : Nat) : Int) from by first | with_reducible rfl | (first | rfl | exact ins_w hrd (by omega) (by omega)) | rfl) (show (0 : Int) = (((0) : Nat) : Int) from by first | with_reducible rfl | (first | rfl | exact ins_w hrd (by omega) (by omega)) | rfl)) (by omega) ?_
  intro i a w hok0 h
  have hel := LA.elTo_len (rows := x0.2) (w := (LA.insW x0.2 x1)) (l := (LA.leadS (LA.redS x0.2 x1)).toNat) (i := i)
  refine wp_seq ?_
  refine at_regq [] { ts := [0, 4, 5, 6, 7, 30, 31, 32, 33], os := [1, 2, 3, 5] } [] gamOK hT h (by kernel_rfl) trivial fun a w h => then_normal (wp_seq ?_)
  refine at_test (decide (((i : Nat) : Int) < ((List.length x0.2 : Nat) : Int))) h (by kernel_rfl) (fun h2 => ?_) (fun h2 => ?_)
  ·replace h2 : ((i : Nat) : Int) < ((List.length x0.2 : Nat) : Int) := of_decide_eq_true h2
   have hrr := hbR.at_ (show i < List.length x0.2 by omega)
   have hge := LA.elTo_get (w := (LA.insW x0.2 x1)) (l := (LA.leadS (LA.redS x0.2 x1)).toNat) (show i < List.length x0.2 by omega)
   have hrk : LA.VokB x0.1.toNat ((LA.elTo x0.2 (LA.insW x0.2 x1) (LA.leadS (LA.redS x0.2 x1)).toNat i).getD i []) := by rw [hge]; exact hrr.1
   have hrkl := hrk.1
   have hrkr := hrk.rng (LA.leadS (LA.redS x0.2 x1)).toNat
   refine wp_skip (then_normal (wp_seq (wp_block (wp_seq ?_))))
   replace h := at_open (σ' := ⟨[(0, aP 1 0), (4, aB false), (5, aS 5), (6, aI (LA.leadS (LA.redS x0.2 x1))), (7, aI ((LA.atTo (LA.insE x0.2 x1) (LA.leadS (LA.redS x0.2 x1)) i : Nat) : Int)), (30, aS 2), (31, aI ((List.length x0.2 : Nat) : Int)), (32, aI ((i : Nat) : Int)), (33, aB (decide (((i : Nat) : Int) < ((List.length x0.2 : Nat) : Int))))], [(1, oX 60 [cI x0.1, .sl 2]), (2, some (.op s27 (LA.elTo x0.2 (LA.insW x0.2 x1) (LA.leadS (LA.redS x0.2 x1)).toNat i) i [.sl 6])), (3, oP 1 (S__P_impl_Basis_insert.hd us 0)), (5, oR (.int 3) (LA.insW x0.2 x1)), (6, oR (.int 3) ((LA.elTo x0.2 (LA.insW x0.2 x1) (LA.leadS (LA.redS x0.2 x1)).toNat i).getD i []))]⟩) (ps := [i < List.length (LA.elTo x0.2 (LA.insW x0.2 x1) (LA.leadS (LA.redS x0.2 x1)).toNat i)]) 2 i [6] { ts := [0, 4, 5, 6, 7, 30, 31, 32, 33], os := [1, 2, 3, 5, 6] } h (by kernel_rfl) ⟨(by first | omega | (simp only [lsA]; omega) | (simp <;> omega)), trivial⟩
   refine at_regq [] { ts := [0, 4, 5, 6, 7, 8, 9, 30, 31, 32], os := [1, 2, 3, 5, 6] } [(0 : Int) ≤ ((i : Nat) : Int) ∧ ((i : Nat) : Int) < ((List.length (LA.elTo x0.2 (LA.insW x0.2 x1) (LA.leadS (LA.redS x0.2 x1)).toNat i) : Nat) : Int), i = i] gamOK hT h (by kernel_rfl) ⟨(by refine ⟨?_, ?_⟩ <;> (first | omega | (simp only [lsA]; omega) | (simp <;> omega))), rfl, trivial⟩ fun a w h => then_normal (wp_seq (wp_seq ?_))
   refine at_regq [] { ts := [0, 4, 5, 6, 7, 8, 9, 10, 30, 31, 32], os := [1, 2, 3, 5, 6] } [(0 : Int) ≤ (LA.leadS (LA.redS x0.2 x1)) ∧ (LA.leadS (LA.redS x0.2 x1)) < ((List.length ((LA.elTo x0.2 (LA.insW x0.2 x1) (LA.leadS (LA.redS x0.2 x1)).toNat i).getD i []) : Nat) : Int), ((LA.leadS (LA.redS x0.2 x1))).toNat < List.length ((LA.elTo x0.2 (LA.insW x0.2 x1) (LA.leadS (LA.redS x0.2 x1)).toNat i).getD i [])] gamOK hT h (by kernel_rfl) ⟨(by refine ⟨?_, ?_⟩ <;> (first | omega | (simp only [lsA]; omega) | (simp <;> omega))), (by first | omega | (simp only [lsA]; omega) | (simp <;> omega)), trivial⟩ fun a w h => then_normal (wp_seq ?_)
   refine at_regq [] { ts := [0, 4, 5, 6, 7, 8, 9, 10, 30, 31, 32, 42], os := [1, 2, 3, 5, 6] } [] gamOK hT h (by kernel_rfl) trivial fun a w h => then_normal ?_
   refine at_test (!decide ((((LA.elTo x0.2 (LA.insW x0.2 x1) (LA.leadS (LA.redS x0.2 x1)).toNat i).getD i []).getD (((LA.leadS (LA.redS x0.2 x1))).toNat) 0) = 0)) h (by kernel_rfl) (fun h3 => ?_) (fun h3 => ?_)
   ·replace h3 : ¬ ((((LA.elTo x0.2 (LA.insW x0.2 x1) (LA.leadS (LA.redS x0.2 x1)).toNat i).getD i []).getD (((LA.leadS (LA.redS x0.2 x1))).toNat) 0) = 0) := of_decide_eq_false (notT h3)
    refine at_regq [{}, {}, {}, { nw := true }] { ts := [0, 4, 5, 6, 7, 8, 9, 30, 31, 32], os := [1, 2, 3, 5, 6] } [I64 (1019 - (((LA.elTo x0.2 (LA.insW x0.2 x1) (LA.leadS (LA.redS x0.2 x1)).toNat i).getD i []).getD (((LA.leadS (LA.redS x0.2 x1))).toNat) 0)), Q_impl_addScaled ((LA.elTo x0.2 (LA.insW x0.2 x1) (LA.leadS (LA.redS x0.2 x1)).toNat i).getD i []) (LA.insW x0.2 x1) (1019 - (((LA.elTo x0.2 (LA.insW x0.2 x1) (LA.leadS (LA.redS x0.2 x1)).toNat i).getD i []).getD (((LA.leadS (LA.redS x0.2 x1))).toNat) 0))] gamOK hT h (by kernel_rfl) ⟨⟨by first | omega | (simp only [lsA]; omega) | (simp <;> omega), by first | omega | (simp only [lsA]; omega) | (simp <;> omega)⟩, (by exact ⟨fitV hrk (by omega), fitV hwk (by omega), addOK_of hrk hwk (by omega)⟩), trivial⟩ fun a w h => then_normal (wp_seq ?_)
    refine at_regq [] { ts := [0, 4, 5, 6, 7, 8, 30, 31, 32, 51], os := [1, 2, 3, 5, 6] } [Q_impl_LeadingIndex (LA.addS ((LA.elTo x0.2 (LA.insW x0.2 x1) (LA.leadS (LA.redS x0.2 x1)).toNat i).getD i []) (LA.insW x0.2 x1) (1019 - (((LA.elTo x0.2 (LA.insW x0.2 x1) (LA.leadS (LA.redS x0.2 x1)).toNat i).getD i []).getD (((LA.leadS (LA.redS x0.2 x1))).toNat) 0)))] gamOK hT h (by kernel_rfl) ⟨(by first | exact fitV hrd (by omega) | exact fitV hrk (by omega) | exact Sh.fit_len rfl (by rw [LA.addS_len (by omega)]; omega)), trivial⟩ fun a w h => then_normal ?_
    refine at_test (decide ((LA.leadS (LA.addS ((LA.elTo x0.2 (LA.insW x0.2 x1) (LA.leadS (LA.redS x0.2 x1)).toNat i).getD i []) (LA.insW x0.2 x1) (1019 - (((LA.elTo x0.2 (LA.insW x0.2 x1) (LA.leadS (LA.redS x0.2 x1)).toNat i).getD i []).getD (((LA.leadS (LA.redS x0.2 x1))).toNat) 0)))) < (LA.leadS (LA.redS x0.2 x1)))) h (by kernel_rfl) (fun h4 => ?_) (fun h4 => ?_)
    ·replace h4 : (LA.leadS (LA.addS ((LA.elTo x0.2 (LA.insW x0.2 x1) (LA.leadS (LA.redS x0.2 x1)).toNat i).getD i []) (LA.insW x0.2 x1) (1019 - (((LA.elTo x0.2 (LA.insW x0.2 x1) (LA.leadS (LA.redS x0.2 x1)).toNat i).getD i []).getD (((LA.leadS (LA.redS x0.2 x1))).toNat) 0)))) < (LA.leadS (LA.redS x0.2 x1)) := of_decide_eq_true h4
     refine at_regq [{}, { nw := true }] { ts := [0, 4, 5, 6, 7, 30, 31, 32], os := [1, 2, 3, 5, 6] } [I64 (((i : Nat) : Int) + 1)] gamOK hT h (by kernel_rfl) ⟨⟨by first | omega | (simp only [lsA]; omega) | (simp <;> omega), by first | omega | (simp only [lsA]; omega) | (simp <;> omega)⟩, trivial⟩ fun a w h => in_normal (then_normal ?_)
     refine at_regq [{ nw := true }] { ts := [0, 4, 5, 6, 7, 30, 31, 32], os := [1, 2, 3, 5, 6] } [I64 (((i : Nat) : Int) + 1)] gamOK hT h (by kernel_rfl) ⟨⟨by first | omega | (simp only [lsA]; omega) | (simp <;> omega), by first | omega | (simp only [lsA]; omega) | (simp <;> omega)⟩, trivial⟩ fun a w h => ?_
     replace h := at_shut (σ' := ⟨[(0, aP 1 0), (4, aB false), (5, aS 5), (6, aI (LA.leadS (LA.redS x0.2 x1))), (7, aI (((i : Nat) : Int) + 1)), (30, aS 2), (31, aI ((List.length x0.2 : Nat) : Int)), (32, aI (((i : Nat) : Int) + 1))], [(1, oX 60 [cI x0.1, .sl 2]), (2, oR s27 (List.set (LA.elTo x0.2 (LA.insW x0.2 x1) (LA.leadS (LA.redS x0.2 x1)).toNat i) i (LA.addS ((LA.elTo x0.2 (LA.insW x0.2 x1) (LA.leadS (LA.redS x0.2 x1)).toNat i).getD i []) (LA.insW x0.2 x1) (1019 - (((LA.elTo x0.2 (LA.insW x0.2 x1) (LA.leadS (LA.redS x0.2 x1)).toNat i).getD i []).getD (((LA.leadS (LA.redS x0.2 x1))).toNat) 0))))), (3, oP 1 (S__P_impl_Basis_insert.hd us 0)), (5, oR (.int 3) (LA.insW x0.2 x1))]⟩) (ps := []) 2 { ts := [0, 4, 5, 6, 7, 30, 31, 32], os := [1, 2, 3, 5] } h (by kernel_rfl) trivial
     replace h := at_out (σ' := ⟨[(0, aP 1 0), (4, aB false), (5, aS 5), (6, aI (LA.leadS (LA.redS x0.2 x1))), (7, aI (((i : Nat) : Int) + 1)), (30, aS 2), (31, aI ((List.length x0.2 : Nat) : Int)), (32, aI (((i : Nat) : Int) + 1))], [(1, oX 60 [cI x0.1, .sl 2]), (2, oR s27 (List.set (LA.elTo x0.2 (LA.insW x0.2 x1) (LA.leadS (LA.redS x0.2 x1)).toNat i) i (LA.addS ((LA.elTo x0.2 (LA.insW x0.2 x1) (LA.leadS (LA.redS x0.2 x1)).toNat i).getD i []) (LA.insW x0.2 x1) (1019 - (((LA.elTo x0.2 (LA.insW x0.2 x1) (LA.leadS (LA.redS x0.2 x1)).toNat i).getD i []).getD (((LA.leadS (LA.redS x0.2 x1))).toNat) 0))))), (3, oP 1 (S__P_impl_Basis_insert.hd us 0)), (5, oR (.int 3) (LA.insW x0.2 x1))]⟩) { ts := [0, 4, 5, 6, 7, 30, 31, 32], os := [1, 2, 3, 5] } h (by kernel_rfl)
     exact ⟨i + 1, at_eq h (st_congr4 (fun (d0 : List (List Int)) (d1 : List Int) (d2 : Int) (d3 : Int) => (⟨[(0, aP 1 0), (4, aB false), (5, aS 5), (6, aI (LA.leadS (LA.redS x0.2 x1))), (7, aI d2), (30, aS 2), (31, aI ((List.length x0.2 : Nat) : Int)), (32, aI d3)], [(1, oX 60 [cI x0.1, .sl 2]), (2, oR s27 d0), (3, oP 1 (S__P_impl_Basis_insert.hd us 0)), (5, oR (.int 3) d1)]⟩ : St)) (show ((List.set (LA.elTo x0.2 (LA.insW x0.2 x1) (LA.leadS (LA.redS x0.2 x1)).toNat i) i (LA.addS ((LA.elTo x0.2 (LA.insW x0.2 x1) (LA.leadS (LA.redS x0.2 x1)).toNat i).getD i []) (LA.insW x0.2 x1) (1019 - (((LA.elTo x0.2 (LA.insW x0.2 x1) (LA.leadS (LA.redS x0.2 x1)).toNat i).getD i []).getD (((LA.leadS (LA.redS x0.2 x1))).toNat) 0)))) : List (List Int)) = (LA.elTo x0.2 (LA.insW x0.2 x1) (LA.leadS (LA.redS x0.2 x1)).toNat (i + 1)) from by first | with_reducible rfl | (first | exact LA.ins_b1 (by omega) (by assumption) | exact LA.ins_b0 (by omega) (by omega)) | rfl) (show ((LA.insW x0.2 x1) : List Int) = (LA.insW x0.2 x1) from by first | with_reducible rfl | (rfl) | rfl) (show (((i : Nat) : Int) + 1 : Int) = ((LA.atTo (LA.insE x0.2 x1) (LA.leadS (LA.redS x0.2 x1)) (i + 1) : Nat) : Int) from by first | with_reducible rfl | (first | (rw [LA.atTo_y (LA.at_b1 (by omega) (by assumption)) (by assumption)]; omega) | (rw [LA.atTo_y (LA.at_b0 (by omega) (by omega)) (by assumption)]; omega) | (rw [LA.atTo_n (LA.at_b1 (by omega) (by assumption)) (by assumption)]; done) | (rw [LA.atTo_n (LA.at_b0 (by omega) (by omega)) (by assumption)]; done)) | rfl) (show (((i : Nat) : Int) + 1 : Int) = (((i + 1) : Nat) : Int) from by first | with_reducible rfl | (omega) | rfl)), (by omega), (by omega)⟩
    ·replace h4 : ¬ ((LA.leadS (LA.addS ((LA.elTo x0.2 (LA.insW x0.2 x1) (LA.leadS (LA.redS x0.2 x1)).toNat i).getD i []) (LA.insW x0.2 x1) (1019 - (((LA.elTo x0.2 (LA.insW x0.2 x1) (LA.leadS (LA.redS x0.2 x1)).toNat i).getD i []).getD (((LA.leadS (LA.redS x0.2 x1))).toNat) 0)))) < (LA.leadS (LA.redS x0.2 x1))) := of_decide_eq_false h4
     refine wp_skip (in_normal (then_normal ?_))
     refine at_regq [{ nw := true }] { ts := [0, 4, 5, 6, 7, 30, 31, 32], os := [1, 2, 3, 5, 6] } [I64 (((i : Nat) : Int) + 1)] gamOK hT h (by kernel_rfl) ⟨⟨by first | omega | (simp only [lsA]; omega) | (simp <;> omega), by first | omega | (simp only [lsA]; omega) | (simp <;> omega)⟩, trivial⟩ fun a w h => ?_
     replace h := at_shut (σ' := ⟨[(0, aP 1 0), (4, aB false), (5, aS 5), (6, aI (LA.leadS (LA.redS x0.2 x1))), (7, aI ((LA.atTo (LA.insE x0.2 x1) (LA.leadS (LA.redS x0.2 x1)) i : Nat) : Int)), (30, aS 2), (31, aI ((List.length x0.2 : Nat) : Int)), (32, aI (((i : Nat) : Int) + 1))], [(1, oX 60 [cI x0.1, .sl 2]), (2, oR s27 (List.set (LA.elTo x0.2 (LA.insW x0.2 x1) (LA.leadS (LA.redS x0.2 x1)).toNat i) i (LA.addS ((LA.elTo x0.2 (LA.insW x0.2 x1) (LA.leadS (LA.redS x0.2 x1)).toNat i).getD i []) (LA.insW x0.2 x1) (1019 - (((LA.elTo x0.2 (LA.insW x0.2 x1) (LA.leadS (LA.redS x0.2 x1)).toNat i).getD i []).getD (((LA.leadS (LA.redS x0.2 x1))).toNat) 0))))), (3, oP 1 (S__P_impl_Basis_insert.hd us 0)), (5, oR (.int 3) (LA.insW x0.2 x1))]⟩) (ps := []) 2 { ts := [0, 4, 5, 6, 7, 30, 31, 32], os := [1, 2, 3, 5] } h (by kernel_rfl) trivial
     replace h := at_out (σ' := ⟨[(0, aP 1 0), (4, aB false), (5, aS 5), (6, aI (LA.leadS (LA.redS x0.2 x1))), (7, aI ((LA.atTo (LA.insE x0.2 x1) (LA.leadS (LA.redS x0.2 x1)) i : Nat) : Int)), (30, aS 2), (31, aI ((List.length x0.2 : Nat) : Int)), (32, aI (((i : Nat) : Int) + 1))], [(1, oX 60 [cI x0.1, .sl 2]), (2, oR s27 (List.set (LA.elTo x0.2 (LA.insW x0.2 x1) (LA.leadS (LA.redS x0.2 x1)).toNat i) i (LA.addS ((LA.elTo x0.2 (LA.insW x0.2 x1) (LA.leadS (LA.redS x0.2 x1)).toNat i).getD i []) (LA.insW x0.2 x1) (1019 - (((LA.elTo x0.2 (LA.insW x0.2 x1) (LA.leadS (LA.redS x0.2 x1)).toNat i).getD i []).getD (((LA.leadS (LA.redS x0.2 x1))).toNat) 0))))), (3, oP 1 (S__P_impl_Basis_insert.hd us 0)), (5, oR (.int 3) (LA.insW x0.2 x1))]⟩) { ts := [0, 4, 5, 6, 7, 30, 31, 32], os := [1, 2, 3, 5] } h (by kernel_rfl)
     exact ⟨i + 1, at_eq h (st_congr4 (fun (d0 : List (List Int)) (d1 : List Int) (d2 : Int) (d3 : Int) => (⟨[(0, aP 1 0), (4, aB false), (5, aS 5), (6, aI (LA.leadS (LA.redS x0.2 x1))), (7, aI d2), (30, aS 2), (31, aI ((List.length x0.2 : Nat) : Int)), (32, aI d3)], [(1, oX 60 [cI x0.1, .sl 2]), (2, oR s27 d0), (3, oP 1 (S__P_impl_Basis_insert.hd us 0)), (5, oR (.int 3) d1)]⟩ : St)) (show ((List.set (LA.elTo x0.2 (LA.insW x0.2 x1) (LA.leadS (LA.redS x0.2 x1)).toNat i) i (LA.addS ((LA.elTo x0.2 (LA.insW x0.2 x1) (LA.leadS (LA.redS x0.2 x1)).toNat i).getD i []) (LA.insW x0.2 x1) (1019 - (((LA.elTo x0.2 (LA.insW x0.2 x1) (LA.leadS (LA.redS x0.2 x1)).toNat i).getD i []).getD (((LA.leadS (LA.redS x0.2 x1))).toNat) 0)))) : List (List Int)) = (LA.elTo x0.2 (LA.insW x0.2 x1) (LA.leadS (LA.redS x0.2 x1)).toNat (i + 1)) from by first | with_reducible rfl | (first | exact LA.ins_b1 (by omega) (by assumption) | exact LA.ins_b0 (by omega) (by omega)) | rfl) (show ((LA.insW x0.2 x1) : List Int) = (LA.insW x0.2 x1) from by first | with_reducible rfl | (rfl) | rfl) (show (((LA.atTo (LA.insE x0.2 x1) (LA.leadS (LA.redS x0.2 x1)) i : Nat) : Int) : Int) = ((LA.atTo (LA.insE x0.2 x1) (LA.leadS (LA.redS x0.2 x1)) (i + 1) : Nat) : Int) from by first | with_reducible rfl | (first | (rw [LA.atTo_y (LA.at_b1 (by omega) (by assumption)) (by assumption)]; omega) | (rw [LA.atTo_y (LA.at_b0 (by omega) (by omega)) (by assumption)]; omega) | (rw [LA.atTo_n (LA.at_b1 (by omega) (by assumption)) (by assumption)]; done) | (rw [LA.atTo_n (LA.at_b0 (by omega) (by omega)) (by assumption)]; done)) | rfl) (show (((i : Nat) : Int) + 1 : Int) = (((i + 1) : Nat) : Int) from by first | with_reducible rfl | (omega) | rfl)), (by omega), (by omega)⟩
   ·replace h3 : (((LA.elTo x0.2 (LA.insW x0.2 x1) (LA.leadS (LA.redS x0.2 x1)).toNat i).getD i []).getD (((LA.leadS (LA.redS x0.2 x1))).toNat) 0) = 0 := of_decide_eq_true (notF h3)
    refine wp_skip (then_normal (wp_seq ?_))
    refine at_regq [] { ts := [0, 4, 5, 6, 7, 8, 30, 31, 32, 51], os := [1, 2, 3, 5, 6] } [Q_impl_LeadingIndex ((LA.elTo x0.2 (LA.insW x0.2 x1) (LA.leadS (LA.redS x0.2 x1)).toNat i).getD i [])] gamOK hT h (by kernel_rfl) ⟨(by first | exact fitV hrd (by omega) | exact fitV hrk (by omega) | exact Sh.fit_len rfl (by rw [LA.addS_len (by omega)]; omega)), trivial⟩ fun a w h => then_normal ?_
    refine at_test (decide ((LA.leadS ((LA.elTo x0.2 (LA.insW x0.2 x1) (LA.leadS (LA.redS x0.2 x1)).toNat i).getD i [])) < (LA.leadS (LA.redS x0.2 x1)))) h (by kernel_rfl) (fun h5 => ?_) (fun h5 => ?_)
    ·replace h5 : (LA.leadS ((LA.elTo x0.2 (LA.insW x0.2 x1) (LA.leadS (LA.redS x0.2 x1)).toNat i).getD i [])) < (LA.leadS (LA.redS x0.2 x1)) := of_decide_eq_true h5
     refine at_regq [{}, { nw := true }] { ts := [0, 4, 5, 6, 7, 30, 31, 32], os := [1, 2, 3, 5, 6] } [I64 (((i : Nat) : Int) + 1)] gamOK hT h (by kernel_rfl) ⟨⟨by first | omega | (simp only [lsA]; omega) | (simp <;> omega), by first | omega | (simp only [lsA]; omega) | (simp <;> omega)⟩, trivial⟩ fun a w h => in_normal (then_normal ?_)
     refine at_regq [{ nw := true }] { ts := [0, 4, 5, 6, 7, 30, 31, 32], os := [1, 2, 3, 5, 6] } [I64 (((i : Nat) : Int) + 1)] gamOK hT h (by kernel_rfl) ⟨⟨by first | omega | (simp only [lsA]; omega) | (simp <;> omega), by first | omega | (simp only [lsA]; omega) | (simp <;> omega)⟩, trivial⟩ fun a w h => ?_
     replace h := at_shut (σ' := ⟨[(0, aP 1 0), (4, aB false), (5, aS 5), (6, aI (LA.leadS (LA.redS x0.2 x1))), (7, aI (((i : Nat) : Int) + 1)), (30, aS 2), (31, aI ((List.length x0.2 : Nat) : Int)), (32, aI (((i : Nat) : Int) + 1))], [(1, oX 60 [cI x0.1, .sl 2]), (2, oR s27 (List.set (LA.elTo x0.2 (LA.insW x0.2 x1) (LA.leadS (LA.redS x0.2 x1)).toNat i) i ((LA.elTo x0.2 (LA.insW x0.2 x1) (LA.leadS (LA.redS x0.2 x1)).toNat i).getD i []))), (3, oP 1 (S__P_impl_Basis_insert.hd us 0)), (5, oR (.int 3) (LA.insW x0.2 x1))]⟩) (ps := []) 2 { ts := [0, 4, 5, 6, 7, 30, 31, 32], os := [1, 2, 3, 5] } h (by kernel_rfl) trivial
     replace h := at_out (σ' := ⟨[(0, aP 1 0), (4, aB false), (5, aS 5), (6, aI (LA.leadS (LA.redS x0.2 x1))), (7, aI (((i : Nat) : Int) + 1)), (30, aS 2), (31, aI ((List.length x0.2 : Nat) : Int)), (32, aI (((i : Nat) : Int) + 1))], [(1, oX 60 [cI x0.1, .sl 2]), (2, oR s27 (List.set (LA.elTo x0.2 (LA.insW x0.2 x1) (LA.leadS (LA.redS x0.2 x1)).toNat i) i ((LA.elTo x0.2 (LA.insW x0.2 x1) (LA.leadS (LA.redS x0.2 x1)).toNat i).getD i []))), (3, oP 1 (S__P_impl_Basis_insert.hd us 0)), (5, oR (.int 3) (LA.insW x0.2 x1))]⟩) { ts := [0, 4, 5, 6, 7, 30, 31, 32], os := [1, 2, 3, 5] } h (by kernel_rfl)
     exact ⟨i + 1, at_eq h (st_congr4 (fun (d0 : List (List Int)) (d1 : List Int) (d2 : Int) (d3 : Int) => (⟨[(0, aP 1 0), (4, aB false), (5, aS 5), (6, aI (LA.leadS (LA.redS x0.2 x1))), (7, aI d2), (30, aS 2), (31, aI ((List.length x0.2 : Nat) : Int)), (32, aI d3)], [(1, oX 60 [cI x0.1, .sl 2]), (2, oR s27 d0), (3, oP 1 (S__P_impl_Basis_insert.hd us 0)), (5, oR (.int 3) d1)]⟩ : St)) (show ((List.set (LA.elTo x0.2 (LA.insW x0.2 x1) (LA.leadS (LA.redS x0.2 x1)).toNat i) i ((LA.elTo x0.2 (LA.insW x0.2 x1) (LA.leadS (LA.redS x0.2 x1)).toNat i).getD i [])) : List (List Int)) = (LA.elTo x0.2 (LA.insW x0.2 x1) (LA.leadS (LA.redS x0.2 x1)).toNat (i + 1)) from by first | with_reducible rfl | (first | exact LA.ins_b1 (by omega) (by assumption) | exact LA.ins_b0 (by omega) (by omega)) | rfl) (show ((LA.insW x0.2 x1) : List Int) = (LA.insW x0.2 x1) from by first | with_reducible rfl | (rfl) | rfl) (show (((i : Nat) : Int) + 1 : Int) = ((LA.atTo (LA.insE x0.2 x1) (LA.leadS (LA.redS x0.2 x1)) (i + 1) : Nat) : Int) from by first | with_reducible rfl | (first | (rw [LA.atTo_y (LA.at_b1 (by omega) (by assumption)) (by assumption)]; omega) | (rw [LA.atTo_y (LA.at_b0 (by omega) (by omega)) (by assumption)]; omega) | (rw [LA.atTo_n (LA.at_b1 (by omega) (by assumption)) (by assumption)]; done) | (rw [LA.atTo_n (LA.at_b0 (by omega) (by omega)) (by assumption)]; done)) | rfl) (show (((i : Nat) : Int) + 1 : Int) = (((i + 1) : Nat) : Int) from by first | with_reducible rfl | (omega) | rfl)), (by omega), (by omega)⟩
    ·replace h5 : ¬ ((LA.leadS ((LA.elTo x0.2 (LA.insW x0.2 x1) (LA.leadS (LA.redS x0.2 x1)).toNat i).getD i [])) < (LA.leadS (LA.redS x0.2 x1))) := of_decide_eq_false h5
     refine wp_skip (in_normal (then_normal ?_))
     refine at_regq [{ nw := true }] { ts := [0, 4, 5, 6, 7, 30, 31, 32], os := [1, 2, 3, 5, 6] } [I64 (((i : Nat) : Int) + 1)] gamOK hT h (by kernel_rfl) ⟨⟨by first | omega | (simp only [lsA]; omega) | (simp <;> omega), by first | omega | (simp only [lsA]; omega) | (simp <;> omega)⟩, trivial⟩ fun a w h => ?_
     replace h := at_shut (σ' := ⟨[(0, aP 1 0), (4, aB false), (5, aS 5), (6, aI (LA.leadS (LA.redS x0.2 x1))), (7, aI ((LA.atTo (LA.insE x0.2 x1) (LA.leadS (LA.redS x0.2 x1)) i : Nat) : Int)), (30, aS 2), (31, aI ((List.length x0.2 : Nat) : Int)), (32, aI (((i : Nat) : Int) + 1))], [(1, oX 60 [cI x0.1, .sl 2]), (2, oR s27 (List.set (LA.elTo x0.2 (LA.insW x0.2 x1) (LA.leadS (LA.redS x0.2 x1)).toNat i) i ((LA.elTo x0.2 (LA.insW x0.2 x1) (LA.leadS (LA.redS x0.2 x1)).toNat i).getD i []))), (3, oP 1 (S__P_impl_Basis_insert.hd us 0)), (5, oR (.int 3) (LA.insW x0.2 x1))]⟩) (ps := []) 2 { ts := [0, 4, 5, 6, 7, 30, 31, 32], os := [1, 2, 3, 5] } h (by kernel_rfl) trivial
     replace h := at_out (σ' := ⟨[(0, aP 1 0), (4, aB false), (5, aS 5), (6, aI (LA.leadS (LA.redS x0.2 x1))), (7, aI ((LA.atTo (LA.insE x0.2 x1) (LA.leadS (LA.redS x0.2 x1)) i : Nat) : Int)), (30, aS 2), (31, aI ((List.length x0.2 : Nat) : Int)), (32, aI (((i : Nat) : Int) + 1))], [(1, oX 60 [cI x0.1, .sl 2]), (2, oR s27 (List.set (LA.elTo x0.2 (LA.insW x0.2 x1) (LA.leadS (LA.redS x0.2 x1)).toNat i) i ((LA.elTo x0.2 (LA.insW x0.2 x1) (LA.leadS (LA.redS x0.2 x1)).toNat i).getD i []))), (3, oP 1 (S__P_impl_Basis_insert.hd us 0)), (5, oR (.int 3) (LA.insW x0.2 x1))]⟩) { ts := [0, 4, 5, 6, 7, 30, 31, 32], os := [1, 2, 3, 5] } h (by kernel_rfl)
     exact ⟨i + 1, at_eq h (st_congr4 (fun (d0 : List (List Int)) (d1 : List Int) (d2 : Int) (d3 : Int) => (⟨[(0, aP 1 0), (4, aB false), (5, aS 5), (6, aI (LA.leadS (LA.redS x0.2 x1))), (7, aI d2), (30, aS 2), (31, aI ((List.length x0.2 : Nat) : Int)), (32, aI d3)], [(1, oX 60 [cI x0.1, .sl 2]), (2, oR s27 d0), (3, oP 1 (S__P_impl_Basis_insert.hd us 0)), (5, oR (.int 3) d1)]⟩ : St)) (show ((List.set (LA.elTo x0.2 (LA.insW x0.2 x1) (LA.leadS (LA.redS x0.2 x1)).toNat i) i ((LA.elTo x0.2 (LA.insW x0.2 x1) (LA.leadS (LA.redS x0.2 x1)).toNat i).getD i [])) : List (List Int)) = (LA.elTo x0.2 (LA.insW x0.2 x1) (LA.leadS (LA.redS x0.2 x1)).toNat (i + 1)) from by first | with_reducible rfl | (first | exact LA.ins_b1 (by omega) (by assumption) | exact LA.ins_b0 (by omega) (by omega)) | rfl) (show ((LA.insW x0.2 x1) : List Int) = (LA.insW x0.2 x1) from by first | with_reducible rfl | (rfl) | rfl) (show (((LA.atTo (LA.insE x0.2 x1) (LA.leadS (LA.redS x0.2 x1)) i : Nat) : Int) : Int) = ((LA.atTo (LA.insE x0.2 x1) (LA.leadS (LA.redS x0.2 x1)) (i + 1) : Nat) : Int) from by first | with_reducible rfl | (first | (rw [LA.atTo_y (LA.at_b1 (by omega) (by assumption)) (by assumption)]; omega) | (rw [LA.atTo_y (LA.at_b0 (by omega) (by omega)) (by assumption)]; omega) | (rw [LA.atTo_n (LA.at_b1 (by omega) (by assumption)) (by assumption)]; done) | (rw [LA.atTo_n (LA.at_b0 (by omega) (by omega)) (by assumption)]; done)) | rfl) (show (((i : Nat) : Int) + 1 : Int) = (((i + 1) : Nat) : Int) from by first | with_reducible rfl | (omega) | rfl)), (by omega), (by omega)⟩
  ·replace h2 : ¬ (((i : Nat) : Int) < ((List.length x0.2 : Nat) : Int)) := of_decide_eq_false h2
   refine wp_exit (then_exit ?_)
   replace h := at_out (σ' := ⟨[(0, aP 1 0), (4, aB false), (5, aS 5), (7, aI ((LA.atTo (LA.insE x0.2 x1) (LA.leadS (LA.redS x0.2 x1)) i : Nat) : Int))], [(1, oX 60 [cI x0.1, .sl 2]), (2, oR s27 (LA.elTo x0.2 (LA.insW x0.2 x1) (LA.leadS (LA.redS x0.2 x1)).toNat i)), (3, oP 1 (S__P_impl_Basis_insert.hd us 0)), (5, oR (.int 3) (LA.insW x0.2 x1))]⟩) { ts := [0, 4, 5, 7], os := [1, 2, 3, 5] } h (by kernel_rfl)
   replace h := at_eq (σ' := ⟨[(0, aP 1 0), (4, aB false), (5, aS 5), (7, aI ((LA.atTo (LA.insE x0.2 x1) (LA.leadS (LA.redS x0.2 x1)) (List.length x0.2) : Nat) : Int))], [(1, oX 60 [cI x0.1, .sl 2]), (2, oR s27 (LA.insE x0.2 x1)), (3, oP 1 (S__P_impl_Basis_insert.hd us 0)), (5, oR (.int 3) (LA.insW x0.2 x1))]⟩) h (st_congr2 (fun (d0 : List (List Int)) (d1 : Int) => (⟨[(0, aP 1 0), (4, aB false), (5, aS 5), (7, aI d1)], [(1, oX 60 [cI x0.1, .sl 2]), (2, oR s27 d0), (3, oP 1 (S__P_impl_Basis_insert.hd us 0)), (5, oR (.int 3) (LA.insW x0.2 x1))]⟩ : St)) (show ((LA.elTo x0.2 (LA.insW x0.2 x1) (LA.leadS (LA.redS x0.2 x1)).toNat i) : List (List Int)) = (LA.insE x0.2 x1) from by first | with_reducible rfl | (exact LA.elTo_all (by omega)) | rfl) (show (((LA.atTo (LA.insE x0.2 x1) (LA.leadS (LA.redS x0.2 x1)) i : Nat) : Int) : Int) = ((LA.atTo (LA.insE x0.2 x1) (LA.leadS (LA.redS x0.2 x1)) (List.length x0.2) : Nat) : Int) from by first | with_reducible rfl | (rw [show i = List.length x0.2 by omega]) | rfl))
   have hal := LA.atTo_le (LA.insE x0.2 x1) (LA.leadS (LA.redS x0.2 x1)) (List.length x0.2)
   refine then_exit (in_hit (then_normal (wp_seq ?_)))
   refine at_regq [{}, {}, {}, {}, {}, {}, {}, { ids := [7] }, { ids := [8] }] { ts := [4], os := [1, 3, 8] } [(fun (x0 : List (List Int)) (x1 : Int) (x2 : List (List Int)) => (0 ≤ x1 ∧ x1 ≤ ((List.length x0 : Nat) : Int)) ∧ 0 < List.length x2 ∧ (List.length x0 + List.length x2) * 24 ≤ 140737488355328) (LA.insE x0.2 x1) ((LA.atTo (LA.insE x0.2 x1) (LA.leadS (LA.redS x0.2 x1)) (List.length x0.2) : Nat) : Int) ([(LA.insW x0.2 x1)])] gamOK hT h (by kernel_rfl) ⟨(by exact ⟨⟨by omega, by first | omega | (rw [show List.length (LA.insE x0.2 x1) = List.length x0.2 from by simp [LA.insE]]; omega)⟩, by simp, by simp [LA.insE]; omega⟩), trivial⟩ fun a w h => then_normal (wp_seq ?_)
   refine at_regq [] { ts := [4], os := [1, 3, 8] } [] gamOK hT h (by kernel_rfl) trivial fun a w h => then_normal (wp_ret ?_)
   exact at_returnI (S := S__P_impl_Basis_insert) (x := (x0, x1, ())) [1, 2] [3] ((x0.1, (D_slices_Insert_S_S_int_S_int_ (LA.insE x0.2 x1) ((LA.atTo (LA.insE x0.2 x1) (LA.leadS (LA.redS x0.2 x1)) (List.length x0.2) : Nat) : Int) ([(LA.insW x0.2 x1)]))), (x1, ())) (some (true, ())) [S__P_impl_Basis_insert.hd us 0 = S__P_impl_Basis_insert.hd us 0] hio h (by kernel_rfl) ⟨rfl, trivial⟩ (by first | rfl | exact congrArg (fun (z : T60) => (z, (x1, ()))) (show ((x0.1, (D_slices_Insert_S_S_int_S_int_ (LA.insE x0.2 x1) ((LA.atTo (LA.insE x0.2 x1) (LA.leadS (LA.redS x0.2 x1)) (List.length x0.2) : Nat) : Int) ([(LA.insW x0.2 x1)]))) : T60) = insU x0 x1 from by (unfold insU; first | (rw [LA.insS_no (by assumption)]; done) | (rw [LA.insS_yes (by assumption)]; rfl)))) (fun z e => (Option.some.inj e) ▸ (congrArg (fun z => (z, ())) (show (true) = insD x0 x1 from by (unfold insD; first | (rw [LA.insS_no (by assumption)]; done) | (rw [LA.insS_yes (by assumption)]; done)))))

theorem tmod_el {x : Int} (h : 0 ≤ x ∧ x ≤ 1018) : x.tmod 1019 = x := by
 rw [Int.tmod_eq_emod_of_nonneg h.1]; exact Int.emod_eq_of_lt h.1 (by omega)
theorem addS_k0 {n : Nat} {a b : List Int} (ha : LA.VokB n a) (hb : LA.VokB n b) : LA.addS a b 0 = a := by
 apply List.ext_getElem
 ·exact LA.addS_len (by rw [ha.1, hb.1])
 ·intro j h1 h2
  have e := LA.addS_at (k := 0) (show a.length = b.length by rw [ha.1, hb.1]) j
  rw [getD_of_lt h1, getD_of_lt h2] at e
  rw [e, Int.zero_mul, Int.add_zero]
  have := ha.rng j
  rw [getD_of_lt h2] at this
  exact tmod_el this
def insR (rows : List (List Int)) (v : List Int) : List (List Int) := (LA.insS rows v).1
theorem insR_red {n : Nat} {rows : List (List Int)} (h : LA.RedL n rows) {vs : List (List Int)} (hv : ∀ v ∈ vs, LA.VokB n v) : ∀ i, i ≤ vs.length → LA.RedL n (foldTo insR rows vs i)
 | 0, _ => h
 | i + 1, hi => by rw [foldTo_succ [] (by omega)]; exact (LA.insS_ok (insR_red h hv i (by omega)) (hv _ (LA.getD_in (by omega)))).1
theorem redV_step {n : Nat} {out r : List Int} (ho : LA.VokB n out) (hr : LA.VokB n r) (hn : n ≤ 40) : addV out r (subF 0 (out.getD (LA.leadS r).toNat 0)) = LA.redStep out r := by
 have hx := ho.rng (LA.leadS r).toNat
 unfold LA.redStep
 generalize out.getD (LA.leadS r).toNat 0 = x at hx ⊢
 have hs : subF 0 x = if x = 0 then 0 else 1019 - x := by
  unfold subF D_spec_l4Both
  rw [if_pos (show isEl 0 = true from rfl), if_pos (show isEl x = true from inR_true hx)]
  have := tmod_f (0 - x + 1019) 1019 (by decide)
  split <;> omega
 rw [hs]
 by_cases h0 : x = 0
 ·rw [if_pos h0, if_neg (by simp [h0]), addV_L ho hr hn (by omega), addS_k0 ho hr]
 ·rw [if_neg h0, if_pos h0, addV_L ho hr hn (by omega)]
theorem ins_rows {b : T60} {v : List Int} (h : redP b v) : ∀ r ∈ b.2 ++ [v], LA.VokB b.1.toNat r := fun r hr => by
 rcases List.mem_append.1 hr with hr | hr
 ·exact h.1.2.ok r hr
 ·rw [List.mem_singleton.1 hr]; exact h.2
theorem ins_l7 {b : T60} {v : List Int} (h : redP b v) : Sh.fit s24 (b.2 ++ [v]) ∧ l7P (b.2 ++ [v]) b.1 := by
 have hl := h.1.2.len
 have h0 := h.1.1
 exact ⟨fitM (ins_rows h) (by omega) (by simp; omega), b.1.toNat, ins_rows h, by omega, h0.1, by omega⟩
def D_spec_ReduceVector := (fun (b : T60) (v : List Int) => if takesB b v = true then LA.redS b.2 v else [])
abbrev Q_spec_ReduceVector := (fun (x0 : T60) (x1 : (List Int)) => Sh.fit s60 x0 ∧ Sh.fit s27 x1)
def S_spec_ReduceVector : Sum := { fid := 150, dom := [s60, s27], cod := [s27], dp := true, fz := false, pre := fun x => Q_spec_ReduceVector x.1 x.2.1, g := fun x => ((D_spec_ReduceVector x.1 x.2.1), ()) }
def S_spec_ReduceVector_tab : List (Nat × Sum) := [(148, S_spec_l8Fits), (149, S_spec_LeadingIndex), (175, S_spec_SubField), (111, S_spec_AddScaled)]
theorem S_spec_ReduceVector_ok : FnOK Try.prog 150 S_spec_ReduceVector := by
 refine at_enter 40 (fun x => ⟨[(0, aG [cI x.1.1, .ro s27 x.1.2]), (1, aF (.int 3) x.2.1)], []⟩) Try.func150 rfl (by kernel_rfl) (fun x => rfl) ?_
 rintro w0 Z0 ⟨x0, x1, u⟩ a w
 revert x0 x1
 intro (x0 : T60) (x1 : (List Int)) hpre hlens h
 replace hpre : Q_spec_ReduceVector x0 x1 := hpre
 have hT : TabOK Try.prog S_spec_ReduceVector_tab := (.cons S_spec_l8Fits_ok (.cons S_spec_LeadingIndex_ok (.cons S_spec_SubField_ok (.cons S_spec_AddScaled_ok .nil))))
 obtain ⟨hf0, hf1⟩ := hpre
 have hn0_1 : List.length x0.2 ≤ 1073741824 := hf0.2.1
 have hn1_2 : List.length x1 ≤ 1073741824 := hf1.1
 refine wp_seq ?_
 refine at_regq [{ ids := [1] }] { ts := [1, 2, 4], os := [1] } [] gamOK hT h (by kernel_rfl) trivial fun a w h => then_normal (wp_seq (wp_seq ?_))
 refine at_regq [] { ts := [1, 2, 4, 10], os := [1] } [Q_spec_l8Fits x0 x1] gamOK hT h (by kernel_rfl) ⟨(by exact ⟨hf0, hf1⟩), trivial⟩ fun a w h => then_normal ?_
 refine at_test (!(takesB x0 x1)) h (by kernel_rfl) (fun h1 => ?_) (fun h1 => ?_)
 ·replace h1 : (takesB x0 x1) = false := notT h1
  refine wp_seq ?_
  refine at_regq [{ ids := [2] }] { ts := [1, 2, 4], os := [1, 2] } [] gamOK hT h (by kernel_rfl) trivial fun a w h => then_normal (wp_ret (then_ret ?_))
  exact at_return (([] : List Int), ()) [] h (by kernel_rfl) trivial (congrArg (fun z => (z, ())) (show (([] : List Int)) = D_spec_ReduceVector x0 x1 from by unfold D_spec_ReduceVector; (first | (rw [if_neg (by simp_all)]; done) | (rw [if_pos (by assumption), foldTo_all (by omega)]; rfl))))
 ·replace h1 : (takesB x0 x1) = true := notF h1
  have hvh1 := takesB_t h1
  refine wp_skip (then_normal (wp_seq ?_))
  refine at_regq [{ ids := [3] }, {}, { ids := [4] }] { ts := [2, 4, 5], os := [1, 4] } [(List.length ([] : List Int) + List.length x1) * 8 ≤ 140737488355328] gamOK hT h (by kernel_rfl) ⟨(by first | omega | (simp only [lsA]; omega) | (simp <;> omega)), trivial⟩ fun a w h => then_normal (wp_seq (wp_seq ?_))
  refine at_regq [] { ts := [2, 4, 5, 6], os := [1, 4] } [] gamOK hT h (by kernel_rfl) trivial fun a w h => then_normal (wp_block ?_)
  replace h := at_out (σ' := ⟨[(2, aP 1 0), (4, .p (.c (cN))), (5, aS 4), (6, aI 0)], [(1, oX 60 [cI x0.1, .ro s27 x0.2]), (4, oR (.int 3) (([] : List Int) ++ x1))]⟩) { ts := [2, 4, 5, 6], os := [1, 4] } h (by kernel_rfl)
  refine at_loop (fun i : Nat => (⟨[(2, aP 1 0), (4, .p (.c (cN))), (5, aS 4), (6, aI ((i : Nat) : Int))], [(1, oX 60 [cI x0.1, .ro s27 x0.2]), (4, oR (.int 3) (foldTo LA.redStep x1 x0.2 i))]⟩ : St)) (fun i => i ≤ List.length x0.2) (fun i => List.length x0.2 - i) (0) h (st_congr2 (fun (d0 : List Int) (d1 : Int) => (⟨[(2, aP 1 0), (4, .p (.c (cN))), (5, aS 4), (6, aI d1)], [(1, oX 60 [cI x0.1, .ro s27 x0.2]), (4, oR (.int 3) d0)]⟩ : St)) (show ((([] : List Int) ++ x1) : List Int) = (foldTo LA.redStep x1 x0.2 (0)) from by first | with_reducible rfl | (rfl) | rfl) (show (0 : Int) = (((0) : Nat) : Int) from by first | with_reducible rfl | (rfl) | rfl)) (by omega) ?_
  intro i a w hok0 h
  refine wp_seq (wp_seq ?_)
  refine at_regq [] { ts := [2, 4, 5, 6, 19], os := [1, 4] } [] gamOK hT h (by kernel_rfl) trivial fun a w h => then_normal ?_
  refine at_test (decide (((i : Nat) : Int) < ((List.length x0.2 : Nat) : Int))) h (by kernel_rfl) (fun h2 => ?_) (fun h2 => ?_)
  ·replace h2 : ((i : Nat) : Int) < ((List.length x0.2 : Nat) : Int) := of_decide_eq_true h2
   have hbP := takesB_t (b := x0) (v := x1) (by assumption)
   have hro : LA.VokB x0.1.toNat (foldTo LA.redStep x1 x0.2 i) := LA.redS_to hbP.1.2.ok hbP.2 i (by omega)
   have hrol := hro.1
   have hrr := hbP.1.2.at_ (show i < List.length x0.2 by omega)
   have hror := hro.rng (LA.leadS (x0.2.getD i [])).toNat
   have hb01 := hbP.1.1
   refine wp_skip (then_normal (wp_seq (wp_block ?_)))
   refine at_anyq [{}, {}, {}, {}, {}, {}, {}, {}, {}, {}, {}, {}, {}, {}, {}, {}, { ids := [5] }, {}] { ts := [2, 4, 5, 6], os := [1, 5] } [(0 : Int) ≤ ((i : Nat) : Int) ∧ ((i : Nat) : Int) < ((List.length x0.2 : Nat) : Int), (0 : Int) ≤ ((i : Nat) : Int) ∧ ((i : Nat) : Int) < ((List.length x0.2 : Nat) : Int), Q_spec_LeadingIndex (x0.2.getD i []), (0 : Int) ≤ (LA.leadS (x0.2.getD i [])) ∧ (LA.leadS (x0.2.getD i [])) < ((List.length (foldTo LA.redStep x1 x0.2 i) : Nat) : Int), ((LA.leadS (x0.2.getD i []))).toNat < List.length (foldTo LA.redStep x1 x0.2 i), True, Q_spec_AddScaled (foldTo LA.redStep x1 x0.2 i) (x0.2.getD i []) (subF 0 ((foldTo LA.redStep x1 x0.2 i).getD (((LA.leadS (x0.2.getD i []))).toNat) 0))] gamOK hT mixed h (by kernel_rfl) ⟨(by refine ⟨?_, ?_⟩ <;> (first | omega | (simp only [lsA]; omega) | (simp <;> omega))), (by refine ⟨?_, ?_⟩ <;> (first | omega | (simp only [lsA]; omega) | (simp <;> omega))), (by exact fitV hrr.1 (by omega)), (by refine ⟨?_, ?_⟩ <;> (first | omega | (simp only [lsA]; omega) | (simp <;> omega))), (by first | omega | (simp only [lsA]; omega) | (simp <;> omega)), trivial, (by exact ⟨fitV hro (by omega), fitV hrr.1 (by omega)⟩), trivial⟩ fun a w h => in_normal (then_normal ?_)
   refine at_regq [{}, { nw := true }] { ts := [2, 4, 5, 6], os := [1, 5] } [I64 (((i : Nat) : Int) + 1)] gamOK hT h (by kernel_rfl) ⟨⟨by first | omega | (simp only [lsA]; omega) | (simp <;> omega), by first | omega | (simp only [lsA]; omega) | (simp <;> omega)⟩, trivial⟩ fun a w h => ?_
   replace h := at_out (σ' := ⟨[(2, aP 1 0), (4, .p (.c (cN))), (5, aS 4), (6, aI (((i : Nat) : Int) + 1))], [(1, oX 60 [cI x0.1, .ro s27 x0.2]), (4, oR (.int 3) (addV (foldTo LA.redStep x1 x0.2 i) (x0.2.getD i []) (subF 0 ((foldTo LA.redStep x1 x0.2 i).getD (((LA.leadS (x0.2.getD i []))).toNat) 0))))]⟩) { ts := [2, 4, 5, 6], os := [1, 5], rn := [(5, 4)] } h (by kernel_rfl)
   exact ⟨i + 1, at_eq h (st_congr2 (fun (d0 : List Int) (d1 : Int) => (⟨[(2, aP 1 0), (4, .p (.c (cN))), (5, aS 4), (6, aI d1)], [(1, oX 60 [cI x0.1, .ro s27 x0.2]), (4, oR (.int 3) d0)]⟩ : St)) (show ((addV (foldTo LA.redStep x1 x0.2 i) (x0.2.getD i []) (subF 0 ((foldTo LA.redStep x1 x0.2 i).getD (((LA.leadS (x0.2.getD i []))).toNat) 0))) : List Int) = (foldTo LA.redStep x1 x0.2 (i + 1)) from by first | with_reducible rfl | ((rw [foldTo_succ [] (by omega)]; exact redV_step hro hrr.1 (by omega))) | rfl) (show (((i : Nat) : Int) + 1 : Int) = (((i + 1) : Nat) : Int) from by first | with_reducible rfl | (omega) | rfl)), (by omega), (by omega)⟩
  ·replace h2 : ¬ (((i : Nat) : Int) < ((List.length x0.2 : Nat) : Int)) := of_decide_eq_false h2
   refine wp_exit (then_exit (then_exit (in_hit (then_normal (wp_seq ?_)))))
   refine at_regq [] { ts := [4], os := [4] } [] gamOK hT h (by kernel_rfl) trivial fun a w h => then_normal (wp_ret ?_)
   exact at_return ((foldTo LA.redStep x1 x0.2 i), ()) [] h (by kernel_rfl) trivial (congrArg (fun z => (z, ())) (show ((foldTo LA.redStep x1 x0.2 i)) = D_spec_ReduceVector x0 x1 from by unfold D_spec_ReduceVector; (first | (rw [if_neg (by simp_all)]; done) | (rw [if_pos (by assumption), foldTo_all (by omega)]; rfl))))

def D_spec_ContainsVector := (fun (b : T60) (v : List Int) => takesB b v && decide (LA.leadS (LA.redS b.2 v) < 0))
abbrev Q_spec_ContainsVector := (fun (x0 : T60) (x1 : (List Int)) => Sh.fit s60 x0 ∧ Sh.fit s27 x1)
def S_spec_ContainsVector : Sum := { fid := 94, dom := [s60, s27], cod := [(.bool 4)], dp := true, fz := false, pre := fun x => Q_spec_ContainsVector x.1 x.2.1, g := fun x => ((D_spec_ContainsVector x.1 x.2.1), ()) }
def S_spec_ContainsVector_tab : List (Nat × Sum) := [(148, S_spec_l8Fits), (150, S_spec_ReduceVector), (149, S_spec_LeadingIndex)]
theorem S_spec_ContainsVector_ok : FnOK Try.prog 94 S_spec_ContainsVector := by
 refine at_enter 15 (fun x => ⟨[(0, aG [cI x.1.1, .ro s27 x.1.2]), (1, aF (.int 3) x.2.1)], []⟩) Try.func94 rfl (by kernel_rfl) (fun x => rfl) ?_
 rintro w0 Z0 ⟨x0, x1, u⟩ a w
 revert x0 x1
 intro (x0 : T60) (x1 : (List Int)) hpre hlens h
 replace hpre : Q_spec_ContainsVector x0 x1 := hpre
 have hT : TabOK Try.prog S_spec_ContainsVector_tab := (.cons S_spec_l8Fits_ok (.cons S_spec_ReduceVector_ok (.cons S_spec_LeadingIndex_ok .nil)))
 obtain ⟨hf0, hf1⟩ := hpre
 have hn0_1 : List.length x0.2 ≤ 1073741824 := hf0.2.1
 have hn1_2 : List.length x1 ≤ 1073741824 := hf1.1
 refine wp_seq ?_
 refine at_regq [{ ids := [1] }] { ts := [1, 2, 4], os := [1] } [] gamOK hT h (by kernel_rfl) trivial fun a w h => then_normal (wp_seq ?_)
 rcases Bool.eq_false_or_eq_true ((takesB x0 x1)) with h1 | h1
 ·have hvh1 := takesB_t h1
  refine at_regq [{}, {}, { hint := some (aB true) }, {}, {}, {}, { ids := [2] }] { ts := [4], os := [] } [Q_spec_l8Fits x0 x1, (AV.p (.c (.v (.bool ((takesB x0 x1))))) = AV.p (.c (.v (.bool true)))), Q_spec_ReduceVector x0 x1, Q_spec_LeadingIndex (D_spec_ReduceVector x0 x1)] gamOK hT h (by kernel_rfl) ⟨(by exact ⟨hf0, hf1⟩), hint_bool (h1), (by exact ⟨hf0, hf1⟩), (by (unfold D_spec_ReduceVector; rw [if_pos (by assumption)]; exact fitV (LA.redS_rng (takesB_t (by assumption)).1.2 (takesB_t (by assumption)).2) (by have := (takesB_t (b := x0) (v := x1) (by assumption)).1.1; omega))), trivial⟩ fun a w h => then_normal (wp_ret ?_)
  exact at_return (decide ((LA.leadS (D_spec_ReduceVector x0 x1)) < 0), ()) [] h (by kernel_rfl) trivial (congrArg (fun z => (z, ())) (show (decide ((LA.leadS (D_spec_ReduceVector x0 x1)) < 0)) = D_spec_ContainsVector x0 x1 from by unfold D_spec_ContainsVector; (first | (rw [show takesB x0 x1 = true from by assumption]; unfold D_spec_ReduceVector; rw [if_pos (by assumption)]; rfl) | (rw [show takesB x0 x1 = false from by first | assumption | (simp_all; done)]; rfl))))
 ·refine at_regq [{}, {}, { hint := some (aB false) }] { ts := [4], os := [] } [Q_spec_l8Fits x0 x1, (AV.p (.c (.v (.bool ((takesB x0 x1))))) = AV.p (.c (.v (.bool false))))] gamOK hT h (by kernel_rfl) ⟨(by exact ⟨hf0, hf1⟩), hint_bool (h1), trivial⟩ fun a w h => then_normal (wp_ret ?_)
  exact at_return (false, ()) [] h (by kernel_rfl) trivial (congrArg (fun z => (z, ())) (show (false) = D_spec_ContainsVector x0 x1 from by unfold D_spec_ContainsVector; (first | (rw [show takesB x0 x1 = true from by assumption]; unfold D_spec_ReduceVector; rw [if_pos (by assumption)]; rfl) | (rw [show takesB x0 x1 = false from by first | assumption | (simp_all; done)]; rfl))))
def insV (b : T60) (v : List Int) : T60 × Bool := if takesB b v = true then (insU b v, insD b v) else (b, false)
theorem insV_no {b : T60} {v : List Int} (ht : takesB b v = true) (hc : D_spec_ContainsVector b v = true) : (b, false) = insV b v := by
 unfold D_spec_ContainsVector at hc
 rw [ht, Bool.true_and] at hc
 have hl := of_decide_eq_true hc
 unfold insV insU insD
 rw [if_pos ht, LA.insS_no hl]
theorem insV_yes {b : T60} {v : List Int} (ht : takesB b v = true) (hc : D_spec_ContainsVector b v = false) : ((b.1, D_spec_l7Reduce (b.2 ++ [v]) b.1), true) = insV b v := by
 unfold D_spec_ContainsVector at hc
 rw [ht, Bool.true_and] at hc
 have hl := of_decide_eq_false hc
 have hr := takesB_t ht
 unfold insV insU insD D_spec_l7Reduce
 rw [if_pos ht, LA.insS_gj hr.1.2 hr.2, LA.insS_yes hl]

abbrev Q_spec_InsertVector := (fun (x0 : T60) (x1 : (List Int)) => Sh.fit s60 x0 ∧ Sh.fit s27 x1)
def S_spec_InsertVector : Sum := { fid := 152, dom := [s60, s27], cod := [s60, (.bool 4)], dp := false, fz := false, pre := fun x => Q_spec_InsertVector x.1 x.2.1, g := fun x => ((insV x.1 x.2.1).1, ((insV x.1 x.2.1).2, ())) }
def S_spec_InsertVector_tab : List (Nat × Sum) := [(148, S_spec_l8Fits), (176, S_spec_l8Copy), (94, S_spec_ContainsVector), (177, S_spec_l6Copy), (173, S_spec_l7Reduce)]
theorem S_spec_InsertVector_ok : FnOK Try.prog 152 S_spec_InsertVector := by
 refine at_enter 31 (fun x => ⟨[(0, aG [cI x.1.1, .ro s27 x.1.2]), (1, aF (.int 3) x.2.1)], []⟩) Try.func152 rfl (by kernel_rfl) (fun x => rfl) ?_
 rintro w0 Z0 ⟨x0, x1, u⟩ a w
 revert x0 x1
 intro (x0 : T60) (x1 : (List Int)) hpre hlens h
 replace hpre : Q_spec_InsertVector x0 x1 := hpre
 have hT : TabOK Try.prog S_spec_InsertVector_tab := (.cons S_spec_l8Fits_ok (.cons S_spec_l8Copy_ok (.cons S_spec_ContainsVector_ok (.cons S_spec_l6Copy_ok (.cons S_spec_l7Reduce_ok .nil)))))
 obtain ⟨hf0, hf1⟩ := hpre
 have hn0_1 : List.length x0.2 ≤ 1073741824 := hf0.2.1
 have hn1_2 : List.length x1 ≤ 1073741824 := hf1.1
 refine wp_seq ?_
 refine at_regq [{ ids := [1] }, { ids := [2] }] { ts := [1, 2, 4, 5], os := [1, 2] } [] gamOK hT h (by kernel_rfl) trivial fun a w h => then_normal (wp_seq (wp_seq ?_))
 rcases Bool.eq_false_or_eq_true (!(takesB x0 x1)) with h1 | h1
 ·have hzh1 : (takesB x0 x1) = false := notT h1
  refine at_regq [{}, {}, {}, { hint := some (aB true) }] { ts := [1, 2, 4, 5, 14], os := [1, 2] } [Q_spec_l8Fits x0 x1, (AV.p (.c (.v (.bool (!(takesB x0 x1))))) = AV.p (.c (.v (.bool true))))] gamOK hT h (by kernel_rfl) ⟨(by exact ⟨hf0, hf1⟩), hint_bool (h1), trivial⟩ fun a w h => then_normal ?_
  refine at_test true h (by kernel_rfl) (fun hh => ?_) (fun hh => nomatch hh)
  refine wp_seq ?_
  refine at_regq [{}, { ids := [3] }] { ts := [1, 2, 4, 5], os := [1, 2, 3] } [Q_spec_l8Copy x0] gamOK hT h (by kernel_rfl) ⟨(by exact hf0), trivial⟩ fun a w h => then_normal (wp_ret (then_ret ?_))
  exact at_return (x0, (false, ())) [] h (by kernel_rfl) trivial (congrArg (fun z => (z.1, z.2, ())) (show ((x0, false)) = insV x0 x1 from by (first | exact insV_no (by assumption) (by assumption) | exact insV_yes (by assumption) (by assumption) | (unfold insV; rw [if_neg (by simp_all)]; done))))
 ·have hzh1 : (takesB x0 x1) = true := notF h1
  have hvh1 := takesB_t (notF h1)
  refine at_regq [{}, {}, {}, { hint := some (aB false) }] { ts := [1, 2, 4, 5, 14], os := [1, 2] } [Q_spec_l8Fits x0 x1, (AV.p (.c (.v (.bool (!(takesB x0 x1))))) = AV.p (.c (.v (.bool false)))), Q_spec_ContainsVector x0 x1] gamOK hT h (by kernel_rfl) ⟨(by exact ⟨hf0, hf1⟩), hint_bool (h1), (by exact ⟨hf0, hf1⟩), trivial⟩ fun a w h => then_normal ?_
  refine at_test ((D_spec_ContainsVector x0 x1)) h (by kernel_rfl) (fun h2 => ?_) (fun h2 => ?_)
  ·refine wp_seq ?_
   refine at_regq [{}, { ids := [3] }] { ts := [1, 2, 4, 5], os := [1, 2, 3] } [Q_spec_l8Copy x0] gamOK hT h (by kernel_rfl) ⟨(by exact hf0), trivial⟩ fun a w h => then_normal (wp_ret (then_ret ?_))
   exact at_return (x0, (false, ())) [] h (by kernel_rfl) trivial (congrArg (fun z => (z.1, z.2, ())) (show ((x0, false)) = insV x0 x1 from by (first | exact insV_no (by assumption) (by assumption) | exact insV_yes (by assumption) (by assumption) | (unfold insV; rw [if_neg (by simp_all)]; done))))
  ·refine wp_skip (then_normal (wp_seq ?_))
   refine at_anyq [{}, {}, {}, {}, { ids := [4] }, { ids := [5], dp := false }, {}, { ids := [6], frz := true, dp := false }, { ids := [7], dp := false }, { ids := [8], frz := true, dp := false }, {}, {}, { ids := [9] }, {}, {}, {}] { ts := [4, 5], os := [2, 9] } [Q_spec_l6Copy x0.2, (List.length ([] : List Int) + List.length x1) * 8 ≤ 140737488355328, (List.length x0.2 + List.length ([(([] : List Int) ++ x1)])) * 24 ≤ 140737488355328, Q_spec_l7Reduce (x0.2 ++ ([(([] : List Int) ++ x1)])) x0.1] gamOK hT mixed h (by kernel_rfl) ⟨(by exact hf0.2), (by first | omega | (simp only [lsA]; omega) | (simp <;> omega)), (by first | omega | (simp only [lsA]; omega) | (simp <;> omega)), (by exact ins_l7 (takesB_t (by assumption))), trivial⟩ fun a w h => then_normal (wp_ret ?_)
   exact at_return ((x0.1, (D_spec_l7Reduce (x0.2 ++ ([(([] : List Int) ++ x1)])) x0.1)), (true, ())) [] h (by kernel_rfl) trivial (congrArg (fun z => (z.1, z.2, ())) (show (((x0.1, (D_spec_l7Reduce (x0.2 ++ ([(([] : List Int) ++ x1)])) x0.1)), true)) = insV x0 x1 from by (first | exact insV_no (by assumption) (by assumption) | exact insV_yes (by assumption) (by assumption) | (unfold insV; rw [if_neg (by simp_all)]; done))))

def sameW (x0 : T60) (x1 : T60) : Bool := (if (validB x0) = true then (if (validB x1) = true then decide (x0.1 = x1.1) else false) else false)
abbrev Q_impl_sameWidth := (fun (x0 : T60) (x1 : T60) => Sh.fit s60 x0 ∧ Sh.fit s60 x1)
def S_impl_sameWidth : Sum := { fid := 96, dom := [s60, s60], cod := [(.bool 4)], dp := true, fz := false, pre := fun x => Q_impl_sameWidth x.1 x.2.1, g := fun x => ((sameW x.1 x.2.1), ()) }
def S_impl_sameWidth_tab : List (Nat × Sum) := [(35, S_impl_IsValidBasis)]
theorem S_impl_sameWidth_ok : FnOK Try.prog 96 S_impl_sameWidth := by
 refine at_enter 18 (fun x => ⟨[(0, aG [cI x.1.1, .ro s27 x.1.2]), (1, aG [cI x.2.1.1, .ro s27 x.2.1.2])], []⟩) Try.func96 rfl (by kernel_rfl) (fun x => rfl) ?_
 rintro w0 Z0 ⟨x0, x1, u⟩ a w
 revert x0 x1
 intro (x0 : T60) (x1 : T60) hpre hlens h
 replace hpre : Q_impl_sameWidth x0 x1 := hpre
 have hT : TabOK Try.prog S_impl_sameWidth_tab := (.cons S_impl_IsValidBasis_ok .nil)
 obtain ⟨hf0, hf1⟩ := hpre
 have hn0_1 : List.length x0.2 ≤ 1073741824 := hf0.2.1
 have hn1_2 : List.length x1.2 ≤ 1073741824 := hf1.2.1
 refine wp_seq ?_
 refine at_regq [{ ids := [1] }, { ids := [2] }] { ts := [2, 3, 4], os := [1, 2] } [] gamOK hT h (by kernel_rfl) trivial fun a w h => then_normal (wp_seq ?_)
 rcases Bool.eq_false_or_eq_true ((validB x0)) with h1 | h1
 ·have hvh1 := validB_t h1
  rcases Bool.eq_false_or_eq_true ((validB x1)) with h2 | h2
  ·have hvh2 := validB_t h2
   refine at_regq [{}, { hint := some (aB true) }, {}, {}, { hint := some (aB true) }] { ts := [4], os := [] } [Q_impl_IsValidBasis x0, (AV.p (.c (.v (.bool ((validB x0))))) = AV.p (.c (.v (.bool true)))), Q_impl_IsValidBasis x1, (AV.p (.c (.v (.bool ((validB x1))))) = AV.p (.c (.v (.bool true))))] gamOK hT h (by kernel_rfl) ⟨(by exact hf0), hint_bool (h1), (by exact hf1), hint_bool (h2), trivial⟩ fun a w h => then_normal (wp_ret ?_)
   exact at_return (decide (x0.1 = x1.1), ()) [] h (by kernel_rfl) trivial (congrArg (fun z => (z, ())) (show (decide (x0.1 = x1.1)) = sameW x0 x1 from by first | rfl | (unfold sameW; rw [if_pos h1, if_pos h2])))
  ·refine at_regq [{}, { hint := some (aB true) }, {}, {}, { hint := some (aB false) }] { ts := [4], os := [] } [Q_impl_IsValidBasis x0, (AV.p (.c (.v (.bool ((validB x0))))) = AV.p (.c (.v (.bool true)))), Q_impl_IsValidBasis x1, (AV.p (.c (.v (.bool ((validB x1))))) = AV.p (.c (.v (.bool false))))] gamOK hT h (by kernel_rfl) ⟨(by exact hf0), hint_bool (h1), (by exact hf1), hint_bool (h2), trivial⟩ fun a w h => then_normal (wp_ret ?_)
   exact at_return (false, ()) [] h (by kernel_rfl) trivial (congrArg (fun z => (z, ())) (show (false) = sameW x0 x1 from by first | rfl | (unfold sameW; rw [if_pos h1, if_neg (neT h2)])))
 ·refine at_regq [{}, { hint := some (aB false) }] { ts := [4], os := [] } [Q_impl_IsValidBasis x0, (AV.p (.c (.v (.bool ((validB x0))))) = AV.p (.c (.v (.bool false))))] gamOK hT h (by kernel_rfl) ⟨(by exact hf0), hint_bool (h1), trivial⟩ fun a w h => then_normal (wp_ret ?_)
  exact at_return (false, ()) [] h (by kernel_rfl) trivial (congrArg (fun z => (z, ())) (show (false) = sameW x0 x1 from by first | rfl | (unfold sameW; rw [if_neg (neT h1)])))
theorem sameW_t {a b : T60} (h : sameW a b = true) : basP a ∧ basP b ∧ a.1 = b.1 := by
 unfold sameW at h
 split at h
 ·split at h
  ·exact ⟨validB_t (by assumption), validB_t (by assumption), of_decide_eq_true h⟩
  ·cases h
 ·cases h
def sumB (a b : T60) : T60 := if sameW a b = true then (a.1, foldTo insR a.2 b.2 (List.length b.2)) else a
theorem sumB_row {a b : T60} (h : sameW a b = true) {i : Nat} (hi : i < b.2.length) : LA.VokB a.1.toNat (b.2.getD i []) := by
 obtain ⟨h1, h2, h3⟩ := sameW_t h
 rw [h3]; exact h2.2.ok _ (LA.getD_in hi)
theorem sumB_at {a b : T60} (h : sameW a b = true) {i : Nat} (hi : i ≤ b.2.length) : LA.RedL a.1.toNat (foldTo insR a.2 b.2 i) := by
 obtain ⟨h1, h2, h3⟩ := sameW_t h
 exact insR_red h1.2 (fun v hv => by rw [h3]; exact h2.2.ok v hv) i hi
theorem sumB_P {a b : T60} (h : sameW a b = true) : basP (sumB a b) := by
 unfold sumB; rw [if_pos h]; exact ⟨(sameW_t h).1.1, sumB_at h (Nat.le_refl _)⟩
theorem sumB_fit {a b : T60} (h : Sh.fit s60 a) : Sh.fit s60 (sumB a b) := by
 by_cases hs : sameW a b = true
 ·exact basP_fit (sumB_P hs)
 ·unfold sumB; rw [if_neg hs]; exact h
theorem insV_at {b : T60} {v : List Int} (h : redP b v) : (insV b v).1 = (b.1, insR b.2 v) := by unfold insV; rw [if_pos (takesB_of h)]; rfl
theorem insV_sz (b : T60) (v : List Int) : Sh.sz s60 (insV b v).1 ≤ 2000 + Sh.sz s60 b := by
 by_cases ht : takesB b v = true
 ·have hr := takesB_t ht
  have : basP (insV b v).1 := by rw [insV_at hr]; exact ⟨hr.1.1, (LA.insS_ok hr.1.2 hr.2).1⟩
  have := basP_sz this; omega
 ·unfold insV; rw [if_neg ht]; exact Nat.le_add_left _ _
theorem sumB_sz (a b : T60) : Sh.sz s60 (sumB a b) ≤ 2000 + Sh.sz s60 a := by
 by_cases hs : sameW a b = true
 ·have := basP_sz (sumB_P hs); omega
 ·unfold sumB; rw [if_neg hs]; exact Nat.le_add_left _ _
theorem takes_sum {a b : T60} (h : sameW a b = true) {i : Nat} (hi : i < b.2.length) : redP (a.1, foldTo insR a.2 b.2 i) (b.2.getD i []) := ⟨⟨(sameW_t h).1.1, sumB_at h (Nat.le_of_lt hi)⟩, sumB_row h hi⟩

abbrev Q_impl_SumOf := (fun (x0 : T60) (x1 : T60) => Sh.fit s60 x0 ∧ Sh.fit s60 x1)
def S_impl_SumOf : Sum := { fid := 42, dom := [s60, s60], cod := [s60], dp := true, fz := false, pre := fun x => Q_impl_SumOf x.1 x.2.1, g := fun x => ((sumB x.1 x.2.1), ()) }
def S_impl_SumOf_tab : List (Nat × Sum) := [(81, S__impl_Basis_clone), (96, S_impl_sameWidth), (83, S__P_impl_Basis_insert)]
theorem S_impl_SumOf_ok : FnOK Try.prog 42 S_impl_SumOf := by
 refine at_enter 24 (fun x => ⟨[(0, aG [cI x.1.1, .ro s27 x.1.2]), (1, aG [cI x.2.1.1, .ro s27 x.2.1.2])], []⟩) Try.func42 rfl (by kernel_rfl) (fun x => rfl) ?_
 rintro w0 Z0 ⟨x0, x1, u⟩ a w
 revert x0 x1
 intro (x0 : T60) (x1 : T60) hpre hlens h
 replace hpre : Q_impl_SumOf x0 x1 := hpre
 have hT : TabOK Try.prog S_impl_SumOf_tab := (.cons S__impl_Basis_clone_ok (.cons S_impl_sameWidth_ok (.cons S__P_impl_Basis_insert_ok .nil)))
 obtain ⟨hf0, hf1⟩ := hpre
 have hn0_1 : List.length x0.2 ≤ 1073741824 := hf0.2.1
 have hn1_2 : List.length x1.2 ≤ 1073741824 := hf1.2.1
 refine wp_seq ?_
 refine at_regq [{ ids := [1] }, { ids := [2] }, { ids := [3] }] { ts := [2, 3, 4], os := [1, 2, 3] } [] gamOK hT h (by kernel_rfl) trivial fun a w h => then_normal (wp_seq ?_)
 refine at_regq [{}, { ids := [4] }, { ids := [5] }] { ts := [2, 3, 4, 5], os := [1, 2, 3, 4, 5] } [Q__impl_Basis_clone x0] gamOK hT h (by kernel_rfl) ⟨(by exact hf0), trivial⟩ fun a w h => then_normal (wp_seq (wp_seq ?_))
 refine at_regq [] { ts := [3, 4, 5, 12], os := [2, 3, 4, 5] } [Q_impl_sameWidth x0 x1] gamOK hT h (by kernel_rfl) ⟨(by exact ⟨hf0, hf1⟩), trivial⟩ fun a w h => then_normal ?_
 refine at_test ((sameW x0 x1)) h (by kernel_rfl) (fun h1 => ?_) (fun h1 => ?_)
 ·refine wp_seq ?_
  refine at_regq [] { ts := [4, 5, 14, 15, 16], os := [3, 4, 5] } [] gamOK hT h (by kernel_rfl) trivial fun a w h => then_normal (wp_block ?_)
  replace h := at_out (σ' := ⟨[(4, aP 3 0), (5, aP 5 0), (14, aF s27 x1.2), (15, aI ((List.length x1.2 : Nat) : Int)), (16, aI 0)], [(3, oX 60 [cI 0, cN]), (4, oR s27 x0.2), (5, oX 60 [cI x0.1, .sl 4])]⟩) { ts := [4, 5, 14, 15, 16], os := [3, 4, 5] } h (by kernel_rfl)
  refine at_loop (fun i : Nat => (⟨[(4, aP 3 0), (5, aP 5 0), (14, aF s27 x1.2), (15, aI ((List.length x1.2 : Nat) : Int)), (16, aI ((i : Nat) : Int))], [(3, oX 60 [cI 0, cN]), (4, oR s27 (foldTo insR x0.2 x1.2 i)), (5, oX 60 [cI x0.1, .sl 4])]⟩ : St)) (fun i => i ≤ List.length x1.2) (fun i => List.length x1.2 - i) (0) h (st_congr3 (fun (d0 : Int) (d1 : List (List Int)) (d2 : Int) => (⟨[(4, aP 3 0), (5, aP 5 0), (14, aF s27 x1.2), (15, aI ((List.length x1.2 : Nat) : Int)), (16, aI d2)], [(3, oX 60 [cI 0, cN]), (4, oR s27 d1), (5, oX 60 [cI d0, .sl 4])]⟩ : St)) (show (x0.1 : Int) = x0.1 from by first | with_reducible rfl | (rfl) | rfl) (show (x0.2 : List (List Int)) = (foldTo insR x0.2 x1.2 (0)) from by first | with_reducible rfl | (rfl) | rfl) (show (0 : Int) = (((0) : Nat) : Int) from by first | with_reducible rfl | (rfl) | rfl)) (by omega) ?_
  intro i a w hok0 h
  refine wp_seq ?_
  refine at_regq [] { ts := [4, 5, 14, 15, 16, 17], os := [3, 4, 5] } [] gamOK hT h (by kernel_rfl) trivial fun a w h => then_normal (wp_seq ?_)
  refine at_test (decide (((i : Nat) : Int) < ((List.length x1.2 : Nat) : Int))) h (by kernel_rfl) (fun h2 => ?_) (fun h2 => ?_)
  ·replace h2 : ((i : Nat) : Int) < ((List.length x1.2 : Nat) : Int) := of_decide_eq_true h2
   have htk := takes_sum (a := x0) (b := x1) (i := i) (by assumption) (by omega)
   have hbf := basP_fit htk.1
   have hrw := htk.2
   have hb01 := htk.1.1
   have hrf := fitV hrw (by dsimp only at *; omega)
   refine wp_skip (then_normal (wp_seq (wp_block (wp_seq ?_))))
   refine at_regq [] { ts := [4, 5, 7, 14, 15, 16], os := [3, 4, 5] } [(0 : Int) ≤ ((i : Nat) : Int) ∧ ((i : Nat) : Int) < ((List.length x1.2 : Nat) : Int)] gamOK hT h (by kernel_rfl) ⟨(by refine ⟨?_, ?_⟩ <;> (first | omega | (simp only [lsA]; omega) | (simp <;> omega))), trivial⟩ fun a w h => then_normal ?_
   refine at_regq [{}, { ids := [6] }] { ts := [4, 5, 14, 15, 16], os := [3, 5, 6] } [Q__P_impl_Basis_insert (x0.1, (foldTo insR x0.2 x1.2 i)) (x1.2.getD i [])] gamOK hT h (by kernel_rfl) ⟨(by exact ⟨hbf, hrf, htk⟩), trivial⟩ fun a w h => in_normal (then_normal ?_)
   refine at_regq [{ nw := true }] { ts := [4, 5, 14, 15, 16], os := [3, 5, 6] } [I64 (((i : Nat) : Int) + 1)] gamOK hT h (by kernel_rfl) ⟨⟨by first | omega | (simp only [lsA]; omega) | (simp <;> omega), by first | omega | (simp only [lsA]; omega) | (simp <;> omega)⟩, trivial⟩ fun a w h => ?_
   replace h := at_out (σ' := ⟨[(4, aP 3 0), (5, aP 5 0), (14, aF s27 x1.2), (15, aI ((List.length x1.2 : Nat) : Int)), (16, aI (((i : Nat) : Int) + 1))], [(3, oX 60 [cI 0, cN]), (4, oR s27 (insU (x0.1, (foldTo insR x0.2 x1.2 i)) (x1.2.getD i [])).2), (5, oX 60 [cI (insU (x0.1, (foldTo insR x0.2 x1.2 i)) (x1.2.getD i [])).1, .sl 4])]⟩) { ts := [4, 5, 14, 15, 16], os := [3, 6, 5], rn := [(6, 4)] } h (by kernel_rfl)
   exact ⟨i + 1, at_eq h (st_congr3 (fun (d0 : Int) (d1 : List (List Int)) (d2 : Int) => (⟨[(4, aP 3 0), (5, aP 5 0), (14, aF s27 x1.2), (15, aI ((List.length x1.2 : Nat) : Int)), (16, aI d2)], [(3, oX 60 [cI 0, cN]), (4, oR s27 d1), (5, oX 60 [cI d0, .sl 4])]⟩ : St)) (show ((insU (x0.1, (foldTo insR x0.2 x1.2 i)) (x1.2.getD i [])).1 : Int) = x0.1 from by first | with_reducible rfl | (first | rfl | (rw [insV_at htk]; done)) | rfl) (show ((insU (x0.1, (foldTo insR x0.2 x1.2 i)) (x1.2.getD i [])).2 : List (List Int)) = (foldTo insR x0.2 x1.2 (i + 1)) from by first | with_reducible rfl | (first | (rw [foldTo_succ [] (by omega)]; rfl) | (rw [foldTo_succ [] (by omega), insV_at htk]; done)) | rfl) (show (((i : Nat) : Int) + 1 : Int) = (((i + 1) : Nat) : Int) from by first | with_reducible rfl | (omega) | rfl)), (by omega), (by omega)⟩
  ·replace h2 : ¬ (((i : Nat) : Int) < ((List.length x1.2 : Nat) : Int)) := of_decide_eq_false h2
   refine wp_exit (then_exit (then_exit (in_hit (then_normal (wp_seq ?_)))))
   refine at_regq [] { ts := [4], os := [3, 4] } [] gamOK hT h (by kernel_rfl) trivial fun a w h => then_normal (wp_ret ?_)
   exact at_return ((x0.1, (foldTo insR x0.2 x1.2 i)), ()) [] h (by kernel_rfl) trivial (congrArg (fun z => (z, ())) (show ((x0.1, (foldTo insR x0.2 x1.2 i))) = sumB x0 x1 from by first | (unfold sumB; rw [if_pos (by assumption), show List.length x1.2 = i by omega]; done) | (unfold sumB; rw [if_neg (by simp_all)]; done)))
 ·refine wp_skip (then_normal (wp_seq ?_))
  refine at_regq [] { ts := [4], os := [3, 4] } [] gamOK hT h (by kernel_rfl) trivial fun a w h => then_normal (wp_ret ?_)
  exact at_return (x0, ()) [] h (by kernel_rfl) trivial (congrArg (fun z => (z, ())) (show (x0) = sumB x0 x1 from by first | (unfold sumB; rw [if_pos (by assumption), show List.length x1.2 = i by omega]; done) | (unfold sumB; rw [if_neg (by simp_all)]; done)))

def innovB (x0 : T60) (x1 : T60) : Int := (if (sameW x0 x1) = true then ((List.length (sumB x0 x1).2 : Nat) : Int) - ((List.length x0.2 : Nat) : Int) else 0)
abbrev Q_impl_InnovationOf := (fun (x0 : T60) (x1 : T60) => Sh.fit s60 x0 ∧ Sh.fit s60 x1)
def S_impl_InnovationOf : Sum := { fid := 45, dom := [s60, s60], cod := [(.int 3)], dp := true, fz := false, pre := fun x => Q_impl_InnovationOf x.1 x.2.1, g := fun x => ((innovB x.1 x.2.1), ()) }
def S_impl_InnovationOf_tab : List (Nat × Sum) := [(96, S_impl_sameWidth), (42, S_impl_SumOf)]
theorem S_impl_InnovationOf_ok : FnOK Try.prog 45 S_impl_InnovationOf := by
 refine at_enter 18 (fun x => ⟨[(0, aG [cI x.1.1, .ro s27 x.1.2]), (1, aG [cI x.2.1.1, .ro s27 x.2.1.2])], []⟩) Try.func45 rfl (by kernel_rfl) (fun x => rfl) ?_
 rintro w0 Z0 ⟨x0, x1, u⟩ a w
 revert x0 x1
 intro (x0 : T60) (x1 : T60) hpre hlens h
 replace hpre : Q_impl_InnovationOf x0 x1 := hpre
 have hT : TabOK Try.prog S_impl_InnovationOf_tab := (.cons S_impl_sameWidth_ok (.cons S_impl_SumOf_ok .nil))
 obtain ⟨hf0, hf1⟩ := hpre
 have hn0_1 : List.length x0.2 ≤ 1073741824 := hf0.2.1
 have hn1_2 : List.length x1.2 ≤ 1073741824 := hf1.2.1
 refine wp_seq ?_
 refine at_regq [{ ids := [1] }, { ids := [2] }] { ts := [2, 3, 4], os := [1, 2] } [] gamOK hT h (by kernel_rfl) trivial fun a w h => then_normal (wp_seq (wp_seq ?_))
 refine at_regq [] { ts := [2, 3, 4, 8], os := [1, 2] } [Q_impl_sameWidth x0 x1] gamOK hT h (by kernel_rfl) ⟨(by exact ⟨hf0, hf1⟩), trivial⟩ fun a w h => then_normal ?_
 refine at_test (!(sameW x0 x1)) h (by kernel_rfl) (fun h1 => ?_) (fun h1 => ?_)
 ·replace h1 : (sameW x0 x1) = false := notT h1
  refine wp_seq ?_
  refine at_regq [] { ts := [2, 3, 4], os := [1, 2] } [] gamOK hT h (by kernel_rfl) trivial fun a w h => then_normal (wp_ret (then_ret ?_))
  exact at_return (0, ()) [] h (by kernel_rfl) trivial (congrArg (fun z => (z, ())) (show (0) = innovB x0 x1 from by first | rfl | (unfold innovB; rw [if_neg (neT h1)])))
 ·replace h1 : (sameW x0 x1) = true := notF h1
  refine wp_skip (then_normal (wp_seq ?_))
  refine at_anyq [{}, {}, { ids := [3] }, {}, {}, {}, {}, {}, { nw := true }, {}] { ts := [4], os := [] } [Q_impl_SumOf x0 x1, I64 (((List.length (sumB x0 x1).2 : Nat) : Int) - ((List.length x0.2 : Nat) : Int))] gamOK hT mixed h (by kernel_rfl) ⟨(by exact ⟨hf0, hf1⟩), ⟨by (have hL0 := (show List.length (sumB x0 x1).2 ≤ 1073741824 from ((sumB_fit hf0).2).1); first | omega | (simp only [lsA]; omega) | (simp <;> omega)), by (have hL0 := (show List.length (sumB x0 x1).2 ≤ 1073741824 from ((sumB_fit hf0).2).1); first | omega | (simp only [lsA]; omega) | (simp <;> omega))⟩, trivial⟩ fun a w h => then_normal (wp_ret ?_)
  exact at_return (((List.length (sumB x0 x1).2 : Nat) : Int) - ((List.length x0.2 : Nat) : Int), ()) [] h (by kernel_rfl) trivial (congrArg (fun z => (z, ())) (show (((List.length (sumB x0 x1).2 : Nat) : Int) - ((List.length x0.2 : Nat) : Int)) = innovB x0 x1 from by first | rfl | (unfold innovB; rw [if_pos h1])))

def S_impl_EqualMatrices_1 : Sum := { fid := 144, dom := [s27, s27], cod := [(.bool 4)], dp := true, fz := false, pre := fun x => True, g := fun x => (((Sh.eqB s27) x.1 x.2.1), ()) }
def S_impl_EqualMatrices_1_tab : List (Nat × Sum) := [(64, S_slices_Equal_S_int_int_)]
theorem S_impl_EqualMatrices_1_ok : FnOK Try.prog 144 S_impl_EqualMatrices_1 := by
 refine at_enter 8 (fun x => ⟨[(0, aF (.int 3) x.1), (1, aF (.int 3) x.2.1)], []⟩) Try.func144 rfl (by kernel_rfl) (fun x => rfl) ?_
 rintro w0 Z0 ⟨x0, x1, u⟩ a w
 revert x0 x1
 intro (x0 : (List Int)) (x1 : (List Int)) hpre hlens h
 have hl1 : List.length x0 ≤ 9223372036854775807 := hlens.1.1
 have hl2 : List.length x1 ≤ 9223372036854775807 := hlens.2.1.1
 have hT : TabOK Try.prog S_impl_EqualMatrices_1_tab := (.cons S_slices_Equal_S_int_int__ok .nil)
 refine wp_seq ?_
 refine at_regq [] { ts := [0, 1, 4], os := [] } [] gamOK hT h (by kernel_rfl) trivial fun a w h => then_normal (wp_seq ?_)
 refine at_regq [] { ts := [4], os := [] } [True] gamOK hT h (by kernel_rfl) ⟨trivial, trivial⟩ fun a w h => then_normal (wp_ret ?_)
 exact at_return (((Sh.eqB s27) x0 x1), ()) [] h (by kernel_rfl) trivial (congrArg (fun z => (z, ())) (show (((Sh.eqB s27) x0 x1)) = (Sh.eqB s27) x0 x1 from by rfl))

def D_slices_EqualFunc_S_S_int_S_S_int_S_int_S_int__EqualMatrices_1 := (fun (xs ys : List (List Int)) (_ : Unit) => eqF (Sh.eqB s27) xs ys)
def S_slices_EqualFunc_S_S_int_S_S_int_S_int_S_int__EqualMatrices_1 : Sum := { fid := 143, dom := [s24, s24, (.fn0 144)], cod := [(.bool 4)], dp := true, fz := false, pre := fun x => True, g := fun x => ((D_slices_EqualFunc_S_S_int_S_S_int_S_int_S_int__EqualMatrices_1 x.1 x.2.1 x.2.2.1), ()) }
def S_slices_EqualFunc_S_S_int_S_S_int_S_int_S_int__EqualMatrices_1_tab : List (Nat × Sum) := [(144, S_impl_EqualMatrices_1)]
theorem S_slices_EqualFunc_S_S_int_S_S_int_S_int_S_int__EqualMatrices_1_ok : FnOK Try.prog 143 S_slices_EqualFunc_S_S_int_S_S_int_S_int_S_int__EqualMatrices_1 := by
 refine at_enter 32 (fun x => ⟨[(0, aF s27 x.1), (1, aF s27 x.2.1), (2, .p (.c (.cl 144 .cnil)))], []⟩) Try.func143 rfl (by kernel_rfl) (fun x => rfl) ?_
 rintro w0 Z0 ⟨x0, x1, x2, u⟩ a w
 revert x0 x1 x2
 intro (x0 : (List (List Int))) (x1 : (List (List Int))) (x2 : Unit) hpre hlens h
 have hl1 : List.length x0 ≤ 9223372036854775807 := hlens.1.1
 have hl2 : List.length x1 ≤ 9223372036854775807 := hlens.2.1.1
 have hT : TabOK Try.prog S_slices_EqualFunc_S_S_int_S_S_int_S_int_S_int__EqualMatrices_1_tab := (.cons S_impl_EqualMatrices_1_ok .nil)
 refine wp_seq ?_
 refine at_regq [] { ts := [0, 1, 2, 6], os := [] } [] gamOK hT h (by kernel_rfl) trivial fun a w h => then_normal (wp_seq (wp_seq ?_))
 refine at_regq [] { ts := [0, 1, 2, 6, 14], os := [] } [] gamOK hT h (by kernel_rfl) trivial fun a w h => then_normal ?_
 refine at_test (!decide (((List.length x0 : Nat) : Int) = ((List.length x1 : Nat) : Int))) h (by kernel_rfl) (fun h1 => ?_) (fun h1 => ?_)
 ·replace h1 : ¬ (((List.length x0 : Nat) : Int) = ((List.length x1 : Nat) : Int)) := of_decide_eq_false (notT h1)
  refine wp_seq ?_
  refine at_regq [] { ts := [0, 1, 2, 6], os := [] } [] gamOK hT h (by kernel_rfl) trivial fun a w h => then_normal (wp_ret (then_ret ?_))
  exact at_return (false, ()) [] h (by kernel_rfl) trivial (congrArg (fun z => (z, ())) (show (false) = D_slices_EqualFunc_S_S_int_S_S_int_S_int_S_int__EqualMatrices_1 x0 x1 x2 from by unfold D_slices_EqualFunc_S_S_int_S_S_int_S_int_S_int__EqualMatrices_1; exact (eqF_len (fun e => h1 (by rw [e]))).symm))
 ·replace h1 : ((List.length x0 : Nat) : Int) = ((List.length x1 : Nat) : Int) := of_decide_eq_true (notF h1)
  refine wp_skip (then_normal (wp_seq (wp_seq ?_)))
  refine at_regq [] { ts := [1, 2, 6, 15, 16, 17], os := [] } [] gamOK hT h (by kernel_rfl) trivial fun a w h => then_normal (wp_block ?_)
  replace h := at_out (σ' := ⟨[(1, aF s27 x1), (2, .p (.c (.cl 144 .cnil))), (6, aB false), (15, aF s27 x0), (16, aI ((List.length x0 : Nat) : Int)), (17, aI 0)], []⟩) { ts := [1, 2, 6, 15, 16, 17], os := [] } h (by kernel_rfl)
  refine at_loop (fun i : Nat => (⟨[(1, aF s27 x1), (2, .p (.c (.cl 144 .cnil))), (6, aB false), (15, aF s27 x0), (16, aI ((List.length x0 : Nat) : Int)), (17, aI ((i : Nat) : Int))], []⟩ : St)) (fun i => (i ≤ List.length x0 ∧ allTo2 (Sh.eqB s27) x0 x1 [] [] i)) (fun i => List.length x0 - i) (0) h (st_congr1 (fun (d0 : Int) => (⟨[(1, aF s27 x1), (2, .p (.c (.cl 144 .cnil))), (6, aB false), (15, aF s27 x0), (16, aI ((List.length x0 : Nat) : Int)), (17, aI d0)], []⟩ : St)) (show (0 : Int) = (((0) : Nat) : Int) from by first | with_reducible rfl | (rfl) | rfl)) (by exact ⟨Nat.zero_le _, allTo2_zero⟩) ?_
  intro i a w hok0 h
  refine wp_seq ?_
  refine at_regq [] { ts := [1, 2, 6, 15, 16, 17, 18], os := [] } [] gamOK hT h (by kernel_rfl) trivial fun a w h => then_normal (wp_seq ?_)
  refine at_test (decide (((i : Nat) : Int) < ((List.length x0 : Nat) : Int))) h (by kernel_rfl) (fun h2 => ?_) (fun h2 => ?_)
  ·replace h2 : ((i : Nat) : Int) < ((List.length x0 : Nat) : Int) := of_decide_eq_true h2
   refine wp_skip (then_normal (wp_seq (wp_block (wp_seq ?_))))
   refine at_regq [] { ts := [1, 2, 6, 7, 8, 15, 16, 17], os := [] } [(0 : Int) ≤ ((i : Nat) : Int) ∧ ((i : Nat) : Int) < ((List.length x0 : Nat) : Int)] gamOK hT h (by kernel_rfl) ⟨(by refine ⟨?_, ?_⟩ <;> (first | omega | (simp only [lsA]; omega) | (simp <;> omega))), trivial⟩ fun a w h => then_normal (wp_seq ?_)
   refine at_regq [] { ts := [1, 2, 6, 8, 9, 15, 16, 17], os := [] } [(0 : Int) ≤ ((i : Nat) : Int) ∧ ((i : Nat) : Int) < ((List.length x1 : Nat) : Int)] gamOK hT h (by kernel_rfl) ⟨(by refine ⟨?_, ?_⟩ <;> (first | omega | (simp only [lsA]; omega) | (simp <;> omega))), trivial⟩ fun a w h => then_normal (wp_seq ?_)
   refine at_regq [] { ts := [1, 2, 6, 15, 16, 17, 30], os := [] } [True] gamOK hT h (by kernel_rfl) ⟨trivial, trivial⟩ fun a w h => then_normal ?_
   refine at_test (!((Sh.eqB s27) (x0.getD i []) (x1.getD i []))) h (by kernel_rfl) (fun h3 => ?_) (fun h3 => ?_)
   ·replace h3 : ((Sh.eqB s27) (x0.getD i []) (x1.getD i [])) = false := notT h3
    refine wp_seq ?_
    refine at_regq [] { ts := [1, 2, 6, 15, 16, 17], os := [] } [] gamOK hT h (by kernel_rfl) trivial fun a w h => then_normal (wp_ret (in_ret (then_ret (then_ret (in_ret (then_ret ?_))))))
    exact at_return (false, ()) [] h (by kernel_rfl) trivial (congrArg (fun z => (z, ())) (show (false) = D_slices_EqualFunc_S_S_int_S_S_int_S_int_S_int__EqualMatrices_1 x0 x1 x2 from by unfold D_slices_EqualFunc_S_S_int_S_S_int_S_int_S_int__EqualMatrices_1; exact (eqF_at (z := []) (y := []) (i := i) (by omega) (by omega) h3).symm))
   ·replace h3 : ((Sh.eqB s27) (x0.getD i []) (x1.getD i [])) = true := notF h3
    refine wp_skip (in_normal (then_normal ?_))
    refine at_regq [{ nw := true }] { ts := [1, 2, 6, 15, 16, 17], os := [] } [I64 (((i : Nat) : Int) + 1)] gamOK hT h (by kernel_rfl) ⟨⟨by first | omega | (simp only [lsA]; omega) | (simp <;> omega), by first | omega | (simp only [lsA]; omega) | (simp <;> omega)⟩, trivial⟩ fun a w h => ?_
    replace h := at_out (σ' := ⟨[(1, aF s27 x1), (2, .p (.c (.cl 144 .cnil))), (6, aB false), (15, aF s27 x0), (16, aI ((List.length x0 : Nat) : Int)), (17, aI (((i : Nat) : Int) + 1))], []⟩) { ts := [1, 2, 6, 15, 16, 17], os := [] } h (by kernel_rfl)
    exact ⟨i + 1, at_eq h (st_congr1 (fun (d0 : Int) => (⟨[(1, aF s27 x1), (2, .p (.c (.cl 144 .cnil))), (6, aB false), (15, aF s27 x0), (16, aI ((List.length x0 : Nat) : Int)), (17, aI d0)], []⟩ : St)) (show (((i : Nat) : Int) + 1 : Int) = (((i + 1) : Nat) : Int) from by first | with_reducible rfl | (omega) | rfl)), (by exact ⟨by omega, allTo2_succ hok0.2 h3⟩), (by omega)⟩
  ·replace h2 : ¬ (((i : Nat) : Int) < ((List.length x0 : Nat) : Int)) := of_decide_eq_false h2
   refine wp_exit (then_exit (then_exit (in_hit (then_normal (wp_seq ?_)))))
   refine at_regq [] { ts := [6], os := [] } [] gamOK hT h (by kernel_rfl) trivial fun a w h => then_normal (wp_ret ?_)
   exact at_return (true, ()) [] h (by kernel_rfl) trivial (congrArg (fun z => (z, ())) (show (true) = D_slices_EqualFunc_S_S_int_S_S_int_S_int_S_int__EqualMatrices_1 x0 x1 x2 from by unfold D_slices_EqualFunc_S_S_int_S_S_int_S_int_S_int__EqualMatrices_1; exact (eqF_all (z := []) (y := []) (i := i) (by omega) (by omega) hok0.2).symm))

def S_impl_EqualMatrices : Sum := { fid := 87, dom := [s24, s24], cod := [(.bool 4)], dp := true, fz := false, pre := fun x => True, g := fun x => (((Sh.eqB s24) x.1 x.2.1), ()) }
def S_impl_EqualMatrices_tab : List (Nat × Sum) := [(100006, S_slices_EqualFunc_S_S_int_S_S_int_S_int_S_int__EqualMatrices_1)]
theorem S_impl_EqualMatrices_ok : FnOK Try.prog 87 S_impl_EqualMatrices := by
 refine at_enter 8 (fun x => ⟨[(0, aF s27 x.1), (1, aF s27 x.2.1)], []⟩) Try.func87 rfl (by kernel_rfl) (fun x => rfl) ?_
 rintro w0 Z0 ⟨x0, x1, u⟩ a w
 revert x0 x1
 intro (x0 : (List (List Int))) (x1 : (List (List Int))) hpre hlens h
 have hl1 : List.length x0 ≤ 9223372036854775807 := hlens.1.1
 have hl2 : List.length x1 ≤ 9223372036854775807 := hlens.2.1.1
 have hT : TabOK Try.prog S_impl_EqualMatrices_tab := (.cons S_slices_EqualFunc_S_S_int_S_S_int_S_int_S_int__EqualMatrices_1_ok .nil)
 refine wp_seq ?_
 refine at_regq [] { ts := [0, 1, 4], os := [] } [] gamOK hT h (by kernel_rfl) trivial fun a w h => then_normal (wp_seq ?_)
 refine at_regq [{}, {}, { key := some 100006 }] { ts := [4], os := [] } [True] gamOK hT h (by kernel_rfl) ⟨trivial, trivial⟩ fun a w h => then_normal (wp_ret ?_)
 exact at_return ((D_slices_EqualFunc_S_S_int_S_S_int_S_int_S_int__EqualMatrices_1 x0 x1 ()), ()) [] h (by kernel_rfl) trivial (congrArg (fun z => (z, ())) (show ((D_slices_EqualFunc_S_S_int_S_S_int_S_int_S_int__EqualMatrices_1 x0 x1 ())) = (Sh.eqB s24) x0 x1 from by (show _ = Sh.eqB s24 x0 x1; simp_all [Sh.eqB, eqF_eqL, D_slices_EqualFunc_S_S_int_S_S_int_S_int_S_int__EqualMatrices_1])))

def S_impl_EqualBases : Sum := { fid := 32, dom := [s60, s60], cod := [(.bool 4)], dp := true, fz := false, pre := fun x => True, g := fun x => (((Sh.eqB s60) x.1 x.2.1), ()) }
def S_impl_EqualBases_tab : List (Nat × Sum) := [(87, S_impl_EqualMatrices)]
theorem S_impl_EqualBases_ok : FnOK Try.prog 32 S_impl_EqualBases := by
 refine at_enter 17 (fun x => ⟨[(0, aG [cI x.1.1, .ro s27 x.1.2]), (1, aG [cI x.2.1.1, .ro s27 x.2.1.2])], []⟩) Try.func32 rfl (by kernel_rfl) (fun x => rfl) ?_
 rintro w0 Z0 ⟨x0, x1, u⟩ a w
 revert x0 x1
 intro (x0 : T60) (x1 : T60) hpre hlens h
 have hl1 : List.length x0.2 ≤ 9223372036854775807 := hlens.1.2.1
 have hl2 : List.length x1.2 ≤ 9223372036854775807 := hlens.2.1.2.1
 have hT : TabOK Try.prog S_impl_EqualBases_tab := (.cons S_impl_EqualMatrices_ok .nil)
 refine wp_seq ?_
 refine at_regq [{ ids := [1] }, { ids := [2] }] { ts := [2, 3, 4], os := [1, 2] } [] gamOK hT h (by kernel_rfl) trivial fun a w h => then_normal (wp_seq ?_)
 by_cases h1 : x0.1 = x1.1
 ·refine at_regq [{}, {}, {}, {}, { hint := some (aB true) }] { ts := [4], os := [] } [(AV.p (.c (.v (.bool (decide (x0.1 = x1.1))))) = AV.p (.c (.v (.bool true)))), True] gamOK hT h (by kernel_rfl) ⟨hint_bool (decide_eq_true h1), trivial, trivial⟩ fun a w h => then_normal (wp_ret ?_)
  exact at_return (((Sh.eqB s24) x0.2 x1.2), ()) [] h (by kernel_rfl) trivial (congrArg (fun z => (z, ())) (show (((Sh.eqB s24) x0.2 x1.2)) = (Sh.eqB s60) x0 x1 from by (show _ = Sh.eqB s60 x0 x1; simp_all [Sh.eqB, eqF_eqL])))
 ·refine at_regq [{}, {}, {}, {}, { hint := some (aB false) }] { ts := [4], os := [] } [(AV.p (.c (.v (.bool (decide (x0.1 = x1.1))))) = AV.p (.c (.v (.bool false))))] gamOK hT h (by kernel_rfl) ⟨hint_bool (decide_eq_false h1), trivial⟩ fun a w h => then_normal (wp_ret ?_)
  exact at_return (false, ()) [] h (by kernel_rfl) trivial (congrArg (fun z => (z, ())) (show (false) = (Sh.eqB s60) x0 x1 from by (show _ = Sh.eqB s60 x0 x1; simp_all [Sh.eqB, eqF_eqL])))

abbrev GF := Fin 2039
def gc (x : Int) : GF := Fin.ofNat 2039 x.toNat
def rndN (x0 : Int) (x1 : Int) (x2 : Int) : Int := (if (inR x2 1 1000000000000) = true then (Int.tmod (Int.tmod ((keyed x0 ([x1, 71])) * (keyed x0 ([x1, 71]))) 2147483647) x2) else 0)
def S_spec_RandomNumber : Sum := { fid := 157, dom := [(.int 3), (.int 3), (.int 3)], cod := [(.int 3)], dp := true, fz := false, pre := fun x => True, g := fun x => ((rndN x.1 x.2.1 x.2.2.1), ()) }
def S_spec_RandomNumber_tab : List (Nat × Sum) := [(84, S_spec_l1In), (165, S_spec_KeyedHash)]
theorem S_spec_RandomNumber_ok : FnOK Try.prog 157 S_spec_RandomNumber := by
 refine at_enter 21 (fun x => ⟨[(0, aI x.1), (1, aI x.2.1), (2, aI x.2.2.1)], []⟩) Try.func157 rfl (by kernel_rfl) (fun x => rfl) ?_
 rintro w0 Z0 ⟨x0, x1, x2, u⟩ a w
 revert x0 x1 x2
 intro (x0 : Int) (x1 : Int) (x2 : Int) hpre hlens h
 have hT : TabOK Try.prog S_spec_RandomNumber_tab := (.cons S_spec_l1In_ok (.cons S_spec_KeyedHash_ok .nil))
 have hkb := keyed_bd x0 ([x1, 71])
 refine wp_seq ?_
 refine at_regq [] { ts := [0, 1, 2, 6], os := [] } [] gamOK hT h (by kernel_rfl) trivial fun a w h => then_normal (wp_seq (wp_seq ?_))
 refine at_regq [] { ts := [0, 1, 2, 6, 10], os := [] } [True] gamOK hT h (by kernel_rfl) ⟨trivial, trivial⟩ fun a w h => then_normal ?_
 refine at_test (!(inR x2 1 1000000000000)) h (by kernel_rfl) (fun h1 => ?_) (fun h1 => ?_)
 ·replace h1 : (inR x2 1 1000000000000) = false := notT h1
  have hvh1 := inR_f h1
  refine wp_seq ?_
  refine at_regq [] { ts := [0, 1, 2, 6], os := [] } [] gamOK hT h (by kernel_rfl) trivial fun a w h => then_normal (wp_ret (then_ret ?_))
  exact at_return (0, ()) [] h (by kernel_rfl) trivial (congrArg (fun z => (z, ())) (show (0) = rndN x0 x1 x2 from by first | rfl | (unfold rndN; rw [if_neg (neT h1)])))
 ·replace h1 : (inR x2 1 1000000000000) = true := notF h1
  have hvh1 := inR_t h1
  refine wp_skip (then_normal (wp_seq ?_))
  refine at_regq [{}, {}, { ids := [1] }] { ts := [2, 6, 7], os := [] } [pKey x0 ([x1, 71])] gamOK hT h (by kernel_rfl) ⟨(by (show _ ≤ _; simp)), trivial⟩ fun a w h => then_normal (wp_seq ?_)
  refine at_regq [{}, {}, { nw := true }] { ts := [6], os := [] } [I64 ((keyed x0 ([x1, 71])) * (keyed x0 ([x1, 71]))), (2147483647 : Int) ≠ 0, (x2 : Int) ≠ 0] gamOK hT h (by kernel_rfl) ⟨⟨by (have hA0 := mul_f (keyed x0 ([x1, 71])) (keyed x0 ([x1, 71])); first | omega | (simp only [lsA]; omega) | (simp <;> omega)), by (have hA0 := mul_f (keyed x0 ([x1, 71])) (keyed x0 ([x1, 71])); first | omega | (simp only [lsA]; omega) | (simp <;> omega))⟩, (by first | omega | (simp only [lsA]; omega) | (simp <;> omega)), (by first | omega | (simp only [lsA]; omega) | (simp <;> omega)), trivial⟩ fun a w h => then_normal (wp_ret ?_)
  exact at_return ((Int.tmod (Int.tmod ((keyed x0 ([x1, 71])) * (keyed x0 ([x1, 71]))) 2147483647) x2), ()) [] h (by kernel_rfl) trivial (congrArg (fun z => (z, ())) (show ((Int.tmod (Int.tmod ((keyed x0 ([x1, 71])) * (keyed x0 ([x1, 71]))) 2147483647) x2)) = rndN x0 x1 x2 from by first | rfl | (unfold rndN; rw [if_pos h1])))
theorem rndN_el (s i : Int) : LA.El (rndN s i 1019) := by
 have hkb := keyed_bd s ([i, 71])
 have hm := mul_f (keyed s ([i, 71])) (keyed s ([i, 71]))
 have h1 := tmod_f (keyed s ([i, 71]) * keyed s ([i, 71])) 2147483647 (by decide)
 have h2 := tmod_f ((keyed s ([i, 71]) * keyed s ([i, 71])).tmod 2147483647) 1019 (by decide)
 unfold rndN LA.El
 rw [if_pos (show inR 1019 1 1000000000000 = true from rfl)]
 omega
def unitL (n : Nat) (k : Int) : List Int := (List.range n).map fun (j : Nat) => if (j : Int) = k then 1 else 0
theorem unitL_snoc (n : Nat) (k : Int) : unitL (n + 1) k = unitL n k ++ [if (n : Int) = k then 1 else 0] := by unfold unitL; rw [List.range_succ, List.map_append]; rfl
theorem unitL_len (n : Nat) (k : Int) : (unitL n k).length = n := by simp [unitL]
theorem unitL_set {n : Nat} {k : Int} (h0 : 0 ≤ k) (h : k < n) : List.set (List.replicate n (0 : Int)) k.toNat 1 = unitL n k := by
 apply List.ext_getElem
 ·simp [unitL]
 ·intro i h1 h2
  rw [List.getElem_set]
  simp only [unitL, List.getElem_map, List.getElem_range, List.getElem_replicate]
  by_cases e : k.toNat = i
  ·rw [if_pos e, if_pos (by omega)]
  ·rw [if_neg e, if_neg (by omega)]
def unitV (w i : Int) : List Int := if inR w 0 40 = true ∧ inR i 0 (w - 1) = true then unitL w.toNat i else []
theorem unitV_y {w i : Int} (h : inR w 0 40 = true) (h2 : inR i 0 (w - 1) = true) : unitL w.toNat i = unitV w i := (if_pos ⟨h, h2⟩).symm
theorem unitV_n {w i : Int} (h : inR w 0 40 = false ∨ inR i 0 (w - 1) = false) : [] = unitV w i := by
 unfold unitV; rw [if_neg]
 rintro ⟨h1, h2⟩
 rcases h with h | h
 ·rw [h1] at h; cases h
 ·rw [h2] at h; cases h
theorem unitV_len (w i : Int) : (unitV w i).length ≤ 40 := by
 unfold unitV; split
 ·rename_i h; rw [unitL_len]; have := inR_t h.1; omega
 ·exact Nat.zero_le _
theorem unitL_ok (n : Nat) (k : Int) : LA.VokB n (unitL n k) := ⟨unitL_len n k, fun x hx => by
 obtain ⟨j, _, rfl⟩ := List.mem_map.1 hx
 unfold LA.El; split <;> omega⟩
def rndL (s : Int) (n : Nat) : List Int := (List.range n).map fun (j : Nat) => rndN s (j : Int) 1019
theorem rndL_snoc (s : Int) (n : Nat) : rndL s (n + 1) = rndL s n ++ [rndN s (n : Int) 1019] := by unfold rndL; rw [List.range_succ, List.map_append]; rfl
theorem rndL_len (s : Int) (n : Nat) : (rndL s n).length = n := by simp [rndL]
theorem rndL_at {s : Int} {n i : Nat} (h : i < n) : (rndL s n).getD i 0 = rndN s (i : Int) 1019 := by rw [getD_of_lt (by rw [rndL_len]; exact h)]; simp [rndL]
theorem rndL_zero (s : Int) (n : Nat) : List.replicate n (0 : Int) = copyTo 0 (rndL s n) 0 := by
 have e := copyTo_zero (z := (0 : Int)) (xs := rndL s n)
 rw [rndL_len] at e; exact e
theorem rndL_set {s : Int} {n i : Nat} (h : i < n) : (copyTo 0 (rndL s n) i).set i (rndN s (i : Int) 1019) = copyTo 0 (rndL s n) (i + 1) := by
 rw [← rndL_at h]; exact copyTo_set (by rw [rndL_len]; exact h)
def rndS (s w : Int) : List Int := if inR w 1 40 = true then rndL s w.toNat else []
theorem rndS_len (s w : Int) : (rndS s w).length ≤ 40 := by
 unfold rndS; split
 ·rename_i h; rw [rndL_len]; have := inR_t h; omega
 ·exact Nat.zero_le _
theorem rndS_eq {s w : Int} {i : Nat} (h : i = 0 ∨ ((i : Int) ≤ w ∧ inR w 1 40 = true)) (he : ¬ (i : Int) < w ∨ inR w 1 40 = false) : rndL s i = rndS s w := by
 unfold rndS
 cases hi : inR w 1 40 with
 | true =>
  rw [if_pos rfl]
  have hw := inR_t hi
  rcases he with he | he
  ·congr 1; omega
  ·rw [hi] at he; cases he
 | false =>
  rw [if_neg (by decide)]
  rcases h with h | h
  ·subst h; rfl
  ·rw [hi] at h; cases h.2
def rndV (s w : Int) : List Int := if 0 < (rndS s w).length ∧ LA.leadS (rndS s w) < 0 then (rndS s w).set 0 1 else rndS s w
theorem rndV_1 {s w : Int} (h : inR w 1 40 = true) (h2 : LA.leadS (rndL s w.toNat) < 0) : (rndL s w.toNat).set 0 1 = rndV s w := by
 unfold rndV rndS; rw [if_pos h, if_pos ⟨by rw [rndL_len]; have := inR_t h; omega, h2⟩]
theorem rndV_2 {s w : Int} (h : inR w 1 40 = true) (h2 : ¬ LA.leadS (rndL s w.toNat) < 0) : rndL s w.toNat = rndV s w := by
 unfold rndV rndS; rw [if_pos h, if_neg (fun e => h2 e.2)]
theorem rndV_0 {s w : Int} (h : inR w 1 40 = false) : [] = rndV s w := by
 unfold rndV rndS; rw [h]; simp
theorem rndV_len (s w : Int) : (rndV s w).length ≤ 40 := by
 have := rndS_len s w
 unfold rndV; split
 ·rw [List.length_set]; exact this
 ·exact this
theorem rndV_at {s w : Int} (h : 1 ≤ w ∧ w ≤ 40) : (rndV s w).length = w.toNat := by
 have e : rndS s w = rndL s w.toNat := if_pos (inR_true h)
 unfold rndV; rw [e]; split
 ·rw [List.length_set, rndL_len]
 ·rw [rndL_len]
theorem rndV_ok {s w : Int} (h : 1 ≤ w ∧ w ≤ 40) : LA.VokB w.toNat (rndV s w) := by
 refine ⟨rndV_at h, fun x hx => ?_⟩
 have e : rndS s w = rndL s w.toNat := if_pos (inR_true h)
 have hl : ∀ y ∈ rndL s w.toNat, LA.El y := fun y hy => by
  obtain ⟨j, _, rfl⟩ := List.mem_map.1 hy
  exact rndN_el _ _
 unfold rndV at hx; rw [e] at hx
 split at hx
 ·rcases List.mem_or_eq_of_mem_set hx with hx | hx
  ·exact hl x hx
  ·rw [hx]; unfold LA.El; omega
 ·exact hl x hx
def combTo (vs : List (List Int)) (cs : List Int) : Nat → List Int
 | 0 => List.replicate (vs.getD 0 []).length 0
 | i + 1 => LA.addS (combTo vs cs i) (vs.getD i []) (cs.getD i 0)
def combS (vs : List (List Int)) (cs : List Int) : List Int := combTo vs cs vs.length
abbrev cvB (vs : List (List Int)) (v : List Int) : Bool := validV v && decide (v.length = (vs.getD 0 []).length)
theorem cvB_ok {vs : List (List Int)} {v : List Int} (h : cvB vs v = true) : LA.VokB (vs.getD 0 []).length v := by
 unfold cvB at h; rw [Bool.and_eq_true] at h
 exact ⟨of_decide_eq_true h.2, (validV_t h.1).2.1⟩
theorem cvB_40 {vs : List (List Int)} {v : List Int} (h : cvB vs v = true) : (vs.getD 0 []).length ≤ 40 := by
 unfold cvB at h; rw [Bool.and_eq_true] at h
 have h1 := of_decide_eq_true h.2
 have := (validV_t h.1).1; omega
theorem combTo_ok {n : Nat} {vs : List (List Int)} {cs : List Int} (hn : (vs.getD 0 []).length = n) (hc : ∀ j, 0 ≤ cs.getD j 0 ∧ cs.getD j 0 ≤ 1018) : ∀ i, (∀ j, j < i → LA.VokB n (vs.getD j [])) → LA.VokB n (combTo vs cs i)
 | 0, _ => by
  refine ⟨by simp only [combTo]; rw [List.length_replicate, hn], fun x hx => ?_⟩
  simp only [combTo] at hx
  rw [(List.mem_replicate.1 hx).2]; unfold LA.El; omega
 | i + 1, h => (LA.addS_ok (combTo_ok hn hc i (fun j hj => h j (by omega))) (h i (by omega)) (hc i)).1
def combV (vs : List (List Int)) (cs : List Int) : List Int := if (¬ vs.length = 0 ∧ vs.length = cs.length) ∧ validV cs = true ∧ vs.all (cvB vs) = true then combS vs cs else []
theorem combV_y {vs : List (List Int)} {cs : List Int} (h1 : ¬ vs.length = 0) (h2 : vs.length = cs.length) (h3 : validV cs = true) (h4 : vs.all (cvB vs) = true) : combS vs cs = combV vs cs := (if_pos ⟨⟨h1, h2⟩, h3, h4⟩).symm
theorem combV_n {vs : List (List Int)} {cs : List Int} (h : vs.length = 0 ∨ ¬ vs.length = cs.length ∨ validV cs = false ∨ vs.all (cvB vs) = false) : [] = combV vs cs := by
 unfold combV; rw [if_neg]
 rintro ⟨⟨h1, h2⟩, h3, h4⟩
 rcases h with h | h | h | h
 ·exact h1 h
 ·exact h h2
 ·rw [h3] at h; cases h
 ·rw [h4] at h; cases h
theorem combV_len (vs : List (List Int)) (cs : List Int) : (combV vs cs).length ≤ 40 := by
 unfold combV; split
 ·rename_i h
  have hp := List.all_eq_true.1 h.2.2
  have h0 := hp _ (getD_mem (z := []) (show 0 < vs.length by have := h.1.1; omega))
  have := (combTo_ok (n := (vs.getD 0 []).length) (cs := cs) rfl (validV_t h.2.1).2.2 vs.length (fun j hj => cvB_ok (hp _ (getD_mem hj)))).1
  have := cvB_40 h0
  unfold combS; omega
 ·exact Nat.zero_le _
theorem combV_pos {vs : List (List Int)} {cs : List Int} (h : ¬ (combV vs cs).length = 0) : 0 < vs.length := by
 rcases Nat.eq_zero_or_pos vs.length with h0 | h0
 ·rw [← combV_n (.inl h0)] at h; exact absurd rfl h
 ·exact h0
def combP (vs : List (List Int)) (cs : List Int) : Prop := (0 < vs.length ∧ vs.length ≤ cs.length ∧ (vs.getD 0 []).length ≤ 40) ∧ (∀ j, j < vs.length → LA.VokB (vs.getD 0 []).length (vs.getD j [])) ∧ ∀ j, 0 ≤ cs.getD j 0 ∧ cs.getD j 0 ≤ 1018

def D_impl_freeColumns_1 := (fun (e : List Int) (v : Int) => decide (LA.leadS e = v))
abbrev Q_impl_freeColumns_1 := (fun (x0 : (List Int)) (x1 : Int) => Sh.fit s27 x0)
def S_impl_freeColumns_1 : Sum := { fid := 147, dom := [s27, (.pt (.int 3))], cod := [(.bool 4)], dp := true, fz := false, pre := fun x => Q_impl_freeColumns_1 x.1 x.2.1, g := fun x => ((D_impl_freeColumns_1 x.1 x.2.1), ()) }
def S_impl_freeColumns_1_tab : List (Nat × Sum) := [(38, S_impl_LeadingIndex)]
theorem S_impl_freeColumns_1_ok : FnOK Try.prog 147 S_impl_freeColumns_1 := by
 refine at_enter 8 (fun x => ⟨[(0, aF (.int 3) x.1), (1, aR (.int 3) x.2.1 0)], []⟩) Try.func147 rfl (by kernel_rfl) (fun x => rfl) ?_
 rintro w0 Z0 ⟨x0, x1, u⟩ a w
 revert x0 x1
 intro (x0 : (List Int)) (x1 : Int) hpre hlens h
 replace hpre : Q_impl_freeColumns_1 x0 x1 := hpre
 have hT : TabOK Try.prog S_impl_freeColumns_1_tab := (.cons S_impl_LeadingIndex_ok .nil)
 have hf0 : Sh.fit s27 x0 := hpre
 have hn0_1 : List.length x0 ≤ 1073741824 := hf0.1
 refine wp_seq ?_
 refine at_regq [] { ts := [0, 1, 3], os := [] } [] gamOK hT h (by kernel_rfl) trivial fun a w h => then_normal (wp_seq ?_)
 refine at_anyq [{}, {}, {}, {}, {}] { ts := [3], os := [] } [Q_impl_LeadingIndex x0] gamOK hT mixed h (by kernel_rfl) ⟨(by exact hf0), trivial⟩ fun a w h => then_normal (wp_ret ?_)
 exact at_return (decide ((LA.leadS x0) = x1), ()) [] h (by kernel_rfl) trivial (congrArg (fun z => (z, ())) (show (decide ((LA.leadS x0) = x1)) = D_impl_freeColumns_1 x0 x1 from by unfold D_impl_freeColumns_1; rfl))

def D_slices_IndexFunc_S_S_int_S_int__freeColumns_1 := (fun (xs : List (List Int)) (cap : Int) => idxF (fun e => decide (LA.leadS e = cap)) xs)
abbrev Q_slices_IndexFunc_S_S_int_S_int__freeColumns_1 := (fun (x0 : (List (List Int))) (x1 : Int) => Sh.fit s24 x0)
def S_slices_IndexFunc_S_S_int_S_int__freeColumns_1 : Sum := { fid := 174, dom := [s24, (.fn 147 (.pt (.int 3)))], cod := [(.int 3)], dp := true, fz := false, pre := fun x => Q_slices_IndexFunc_S_S_int_S_int__freeColumns_1 x.1 x.2.1, g := fun x => ((D_slices_IndexFunc_S_S_int_S_int__freeColumns_1 x.1 x.2.1), ()) }
def S_slices_IndexFunc_S_S_int_S_int__freeColumns_1_tab : List (Nat × Sum) := [(147, S_impl_freeColumns_1)]
theorem S_slices_IndexFunc_S_S_int_S_int__freeColumns_1_ok : FnOK Try.prog 174 S_slices_IndexFunc_S_S_int_S_int__freeColumns_1 := by
 refine at_enter 19 (fun x => ⟨[(0, aF s27 x.1), (1, .p (.c (.cl 147 (.ccons (.pr (.int 3) x.2.1 0) .cnil))))], []⟩) Try.func174 rfl (by kernel_rfl) (fun x => rfl) ?_
 rintro w0 Z0 ⟨x0, x1, u⟩ a w
 revert x0 x1
 intro (x0 : (List (List Int))) (x1 : Int) hpre hlens h
 replace hpre : Q_slices_IndexFunc_S_S_int_S_int__freeColumns_1 x0 x1 := hpre
 have hT : TabOK Try.prog S_slices_IndexFunc_S_S_int_S_int__freeColumns_1_tab := (.cons S_impl_freeColumns_1_ok .nil)
 have hf0 : Sh.fit s24 x0 := hpre
 have hn0_1 : List.length x0 ≤ 1073741824 := hf0.1
 refine wp_seq ?_
 refine at_regq [] { ts := [0, 1, 4], os := [] } [] gamOK hT h (by kernel_rfl) trivial fun a w h => then_normal (wp_seq (wp_seq ?_))
 refine at_regq [] { ts := [0, 1, 4, 7, 8], os := [] } [] gamOK hT h (by kernel_rfl) trivial fun a w h => then_normal (wp_block ?_)
 replace h := at_out (σ' := ⟨[(0, aF s27 x0), (1, .p (.c (.cl 147 (.ccons (.pr (.int 3) x1 0) .cnil)))), (4, aI 0), (7, aI ((List.length x0 : Nat) : Int)), (8, aI 0)], []⟩) { ts := [0, 1, 4, 7, 8], os := [] } h (by kernel_rfl)
 refine at_loop (fun i : Nat => (⟨[(0, aF s27 x0), (1, .p (.c (.cl 147 (.ccons (.pr (.int 3) x1 0) .cnil)))), (4, aI 0), (7, aI ((List.length x0 : Nat) : Int)), (8, aI ((i : Nat) : Int))], []⟩ : St)) (fun i => (i ≤ List.length x0 ∧ noneTo (fun e => decide (LA.leadS e = x1)) x0 [] i)) (fun i => List.length x0 - i) (0) h (st_congr1 (fun (d0 : Int) => (⟨[(0, aF s27 x0), (1, .p (.c (.cl 147 (.ccons (.pr (.int 3) x1 0) .cnil)))), (4, aI 0), (7, aI ((List.length x0 : Nat) : Int)), (8, aI d0)], []⟩ : St)) (show (0 : Int) = (((0) : Nat) : Int) from by first | with_reducible rfl | (rfl) | rfl)) (by exact ⟨Nat.zero_le _, noneTo_zero⟩) ?_
 intro i a w hok0 h
 refine wp_seq ?_
 refine at_regq [] { ts := [0, 1, 4, 7, 8, 9], os := [] } [] gamOK hT h (by kernel_rfl) trivial fun a w h => then_normal (wp_seq ?_)
 refine at_test (decide (((i : Nat) : Int) < ((List.length x0 : Nat) : Int))) h (by kernel_rfl) (fun h1 => ?_) (fun h1 => ?_)
 ·replace h1 : ((i : Nat) : Int) < ((List.length x0 : Nat) : Int) := of_decide_eq_true h1
  refine wp_skip (then_normal (wp_seq (wp_block (wp_seq ?_))))
  refine at_regq [] { ts := [0, 1, 4, 5, 7, 8], os := [] } [] gamOK hT h (by kernel_rfl) trivial fun a w h => then_normal (wp_seq ?_)
  refine at_regq [] { ts := [0, 1, 4, 5, 7, 8, 16], os := [] } [(0 : Int) ≤ ((i : Nat) : Int) ∧ ((i : Nat) : Int) < ((List.length x0 : Nat) : Int), Q_impl_freeColumns_1 (x0.getD i []) x1] gamOK hT h (by kernel_rfl) ⟨(by refine ⟨?_, ?_⟩ <;> (first | omega | (simp only [lsA]; omega) | (simp <;> omega))), (by exact (Sh.fit_getD hf0 i)), trivial⟩ fun a w h => then_normal ?_
  refine at_test ((D_impl_freeColumns_1 (x0.getD i []) x1)) h (by kernel_rfl) (fun h2 => ?_) (fun h2 => ?_)
  ·refine wp_seq ?_
   refine at_regq [] { ts := [0, 1, 4, 7, 8], os := [] } [] gamOK hT h (by kernel_rfl) trivial fun a w h => then_normal (wp_ret (in_ret (then_ret (then_ret (in_ret (then_ret ?_))))))
   exact at_return (((i : Nat) : Int), ()) [] h (by kernel_rfl) trivial (congrArg (fun z => (z, ())) (show (((i : Nat) : Int)) = D_slices_IndexFunc_S_S_int_S_int__freeColumns_1 x0 x1 from by unfold D_slices_IndexFunc_S_S_int_S_int__freeColumns_1; exact (idxF_at (z := []) (by omega) hok0.2 h2).symm))
  ·refine wp_skip (in_normal (then_normal ?_))
   refine at_regq [{ nw := true }] { ts := [0, 1, 4, 7, 8], os := [] } [I64 (((i : Nat) : Int) + 1)] gamOK hT h (by kernel_rfl) ⟨⟨by first | omega | (simp only [lsA]; omega) | (simp <;> omega), by first | omega | (simp only [lsA]; omega) | (simp <;> omega)⟩, trivial⟩ fun a w h => ?_
   replace h := at_out (σ' := ⟨[(0, aF s27 x0), (1, .p (.c (.cl 147 (.ccons (.pr (.int 3) x1 0) .cnil)))), (4, aI 0), (7, aI ((List.length x0 : Nat) : Int)), (8, aI (((i : Nat) : Int) + 1))], []⟩) { ts := [0, 1, 4, 7, 8], os := [] } h (by kernel_rfl)
   exact ⟨i + 1, at_eq h (st_congr1 (fun (d0 : Int) => (⟨[(0, aF s27 x0), (1, .p (.c (.cl 147 (.ccons (.pr (.int 3) x1 0) .cnil)))), (4, aI 0), (7, aI ((List.length x0 : Nat) : Int)), (8, aI d0)], []⟩ : St)) (show (((i : Nat) : Int) + 1 : Int) = (((i + 1) : Nat) : Int) from by first | with_reducible rfl | (omega) | rfl)), (by exact ⟨by omega, noneTo_succ hok0.2 h2⟩), (by omega)⟩
 ·replace h1 : ¬ (((i : Nat) : Int) < ((List.length x0 : Nat) : Int)) := of_decide_eq_false h1
  refine wp_exit (then_exit (then_exit (in_hit (then_normal (wp_seq ?_)))))
  refine at_regq [] { ts := [4], os := [] } [] gamOK hT h (by kernel_rfl) trivial fun a w h => then_normal (wp_ret ?_)
  exact at_return ((-1), ()) [] h (by kernel_rfl) trivial (congrArg (fun z => (z, ())) (show ((-1)) = D_slices_IndexFunc_S_S_int_S_int__freeColumns_1 x0 x1 from by unfold D_slices_IndexFunc_S_S_int_S_int__freeColumns_1; exact (idxF_none (z := []) (by omega) hok0.2).symm))

def D_slices_ContainsFunc_S_S_int_S_int__freeColumns_1 := (fun (xs : List (List Int)) (cap : Int) => xs.any fun e => decide (LA.leadS e = cap))
abbrev Q_slices_ContainsFunc_S_S_int_S_int__freeColumns_1 := (fun (x0 : (List (List Int))) (x1 : Int) => Sh.fit s24 x0)
def S_slices_ContainsFunc_S_S_int_S_int__freeColumns_1 : Sum := { fid := 146, dom := [s24, (.fn 147 (.pt (.int 3)))], cod := [(.bool 4)], dp := true, fz := false, pre := fun x => Q_slices_ContainsFunc_S_S_int_S_int__freeColumns_1 x.1 x.2.1, g := fun x => ((D_slices_ContainsFunc_S_S_int_S_int__freeColumns_1 x.1 x.2.1), ()) }
def S_slices_ContainsFunc_S_S_int_S_int__freeColumns_1_tab : List (Nat × Sum) := [(100009, S_slices_IndexFunc_S_S_int_S_int__freeColumns_1)]
theorem S_slices_ContainsFunc_S_S_int_S_int__freeColumns_1_ok : FnOK Try.prog 146 S_slices_ContainsFunc_S_S_int_S_int__freeColumns_1 := by
 refine at_enter 9 (fun x => ⟨[(0, aF s27 x.1), (1, .p (.c (.cl 147 (.ccons (.pr (.int 3) x.2.1 0) .cnil))))], []⟩) Try.func146 rfl (by kernel_rfl) (fun x => rfl) ?_
 rintro w0 Z0 ⟨x0, x1, u⟩ a w
 revert x0 x1
 intro (x0 : (List (List Int))) (x1 : Int) hpre hlens h
 replace hpre : Q_slices_ContainsFunc_S_S_int_S_int__freeColumns_1 x0 x1 := hpre
 have hT : TabOK Try.prog S_slices_ContainsFunc_S_S_int_S_int__freeColumns_1_tab := (.cons S_slices_IndexFunc_S_S_int_S_int__freeColumns_1_ok .nil)
 have hf0 : Sh.fit s24 x0 := hpre
 have hn0_1 : List.length x0 ≤ 1073741824 := hf0.1
 refine wp_seq ?_
 refine at_regq [] { ts := [0, 1, 4], os := [] } [] gamOK hT h (by kernel_rfl) trivial fun a w h => then_normal (wp_seq ?_)
 refine at_regq [{}, {}, { key := some 100009 }] { ts := [4], os := [] } [Q_slices_IndexFunc_S_S_int_S_int__freeColumns_1 x0 x1] gamOK hT h (by kernel_rfl) ⟨(by exact hf0), trivial⟩ fun a w h => then_normal (wp_ret ?_)
 exact at_return (decide ((D_slices_IndexFunc_S_S_int_S_int__freeColumns_1 x0 x1) ≥ 0), ()) [] h (by kernel_rfl) trivial (congrArg (fun z => (z, ())) (show (decide ((D_slices_IndexFunc_S_S_int_S_int__freeColumns_1 x0 x1) ≥ 0)) = D_slices_ContainsFunc_S_S_int_S_int__freeColumns_1 x0 x1 from by unfold D_slices_ContainsFunc_S_S_int_S_int__freeColumns_1; exact idxF_any))
def ldB (v : Int) (r : List Int) : Bool := decide (LA.leadS r = v)
def frC (R : List (List Int)) : Nat → List Int
 | 0 => []
 | k + 1 => if R.any (fun e => decide (LA.leadS e = (k : Int))) = true then frC R k else frC R k ++ [(k : Int)]
theorem frC_len (R : List (List Int)) : ∀ k, (frC R k).length ≤ k
 | 0 => Nat.le_refl _
 | k + 1 => by
  have := frC_len R k
  simp only [frC]; split
  ·omega
  ·rw [List.length_append, List.length_singleton]; omega
theorem frC_t {R : List (List Int)} {k : Nat} (h : R.any (fun e => decide (LA.leadS e = (k : Int))) = true) : frC R (k + 1) = frC R k := by simp only [frC]; rw [if_pos h]
theorem frC_f {R : List (List Int)} {k : Nat} (h : R.any (fun e => decide (LA.leadS e = (k : Int))) = false) : frC R (k + 1) = frC R k ++ [(k : Int)] := by simp only [frC]; rw [if_neg (by rw [h]; decide)]
theorem frC_mem {R : List (List Int)} {x : Int} : ∀ {k : Nat}, x ∈ frC R k → (0 ≤ x ∧ x < k) ∧ R.any (fun e => decide (LA.leadS e = x)) = false
 | 0, h => by simp [frC] at h
 | k + 1, h => by
  cases ha : R.any (fun e => decide (LA.leadS e = (k : Int))) with
  | true => rw [frC_t ha] at h; have := frC_mem h; exact ⟨by omega, this.2⟩
  | false =>
   rw [frC_f ha] at h
   rcases List.mem_append.1 h with h | h
   ·have := frC_mem h; exact ⟨by omega, this.2⟩
   ·rw [List.mem_singleton.1 h]; exact ⟨by omega, ha⟩
def pvI (R : List (List Int)) (j : Int) : Int := idxF (fun e => decide (LA.leadS e = j)) R
def nvE (R : List (List Int)) (k : Nat) (j : Nat) : Int := if 0 ≤ pvI R (j : Int) then subF 0 ((R.getD (pvI R (j : Int)).toNat []).getD k 0) else if (j : Int) = (k : Int) then 1 else 0
def nvL (R : List (List Int)) (n k : Nat) : List Int := (List.range n).map (nvE R k)
def nulS (R : List (List Int)) (n : Nat) : List (List Int) := (frC R n).map fun k => nvL R n k.toNat
theorem mapR_len {α : Type} (f : Nat → α) (n : Nat) : ((List.range n).map f).length = n := by simp
theorem mapR_at {α : Type} (f : Nat → α) {n j : Nat} {z : α} (h : j < n) : ((List.range n).map f).getD j z = f j := by rw [getD_of_lt (by rw [mapR_len]; exact h)]; simp
theorem mapR_set {α : Type} (f g : Nat → α) {n p : Nat} {x : α} (h : ∀ j, j < n → g j = if j = p then x else f j) : ((List.range n).map f).set p x = (List.range n).map g := by
 apply List.ext_getElem
 ·simp
 ·intro j h1 h2
  rw [mapR_len] at h2
  rw [List.getElem_set]
  simp only [List.getElem_map, List.getElem_range]
  rw [h j h2]
  by_cases e : p = j
  ·rw [if_pos e, if_pos e.symm]
  ·rw [if_neg e, if_neg (fun e' => e e'.symm)]
theorem mapR_congr {α : Type} {f g : Nat → α} {n : Nat} (h : ∀ j, j < n → f j = g j) : (List.range n).map f = (List.range n).map g := List.map_congr_left fun j hj => h j (List.mem_range.1 hj)
theorem idx_app {α : Type} {p : α → Bool} : ∀ {xs : List α} {y : α}, idxF p (xs ++ [y]) = if 0 ≤ idxF p xs then idxF p xs else if p y = true then (xs.length : Int) else -1
 | [], y => by
  have h1 : idxF p ([] ++ [y]) = if p y = true then 0 else if (-1 : Int) < 0 then -1 else -1 + 1 := rfl
  have h2 : idxF p ([] : List α) = -1 := rfl
  generalize idxF p ([] ++ [y]) = a at *
  generalize idxF p ([] : List α) = b at *
  subst h2
  rw [if_neg (show ¬ (0 : Int) ≤ -1 by decide)]
  by_cases hy : p y = true
  ·rw [if_pos hy] at h1 ⊢; rw [h1]; rfl
  ·rw [if_neg hy] at h1 ⊢; rw [h1]; rfl
 | x :: l, y => by
  have ih := idx_app (p := p) (xs := l) (y := y)
  have h1 : idxF p (x :: l ++ [y]) = if p x = true then 0 else if idxF p (l ++ [y]) < 0 then -1 else idxF p (l ++ [y]) + 1 := rfl
  have h2 : idxF p (x :: l) = if p x = true then 0 else if idxF p l < 0 then -1 else idxF p l + 1 := rfl
  generalize idxF p (x :: l ++ [y]) = a at *
  generalize idxF p (x :: l) = b at *
  generalize idxF p (l ++ [y]) = c at *
  generalize idxF p l = d at *
  by_cases hx : p x = true
  ·rw [if_pos hx] at h1 h2; rw [h1, h2]; rfl
  ·rw [if_neg hx] at h1 h2
   by_cases hd : 0 ≤ d
   ·rw [if_pos hd] at ih; rw [if_neg (show ¬ c < 0 by omega)] at h1; rw [if_neg (show ¬ d < 0 by omega)] at h2; rw [if_pos (show 0 ≤ b by omega)]; omega
   ·rw [if_neg hd] at ih; rw [if_pos (show d < 0 by omega)] at h2; rw [if_neg (show ¬ 0 ≤ b by omega)]
    by_cases hy : p y = true
    ·rw [if_pos hy] at ih ⊢; rw [if_neg (show ¬ c < 0 by omega)] at h1; simp only [List.length_cons]; omega
    ·rw [if_neg hy] at ih ⊢; rw [if_pos (show c < 0 by omega)] at h1; omega
theorem idx_m1 {α : Type} {p : α → Bool} : ∀ {xs : List α}, ¬ 0 ≤ idxF p xs → idxF p xs = -1
 | [], _ => rfl
 | x :: l, h => by
  have h2 : idxF p (x :: l) = if p x = true then 0 else if idxF p l < 0 then -1 else idxF p l + 1 := rfl
  generalize idxF p (x :: l) = b at *
  generalize idxF p l = d at *
  by_cases hx : p x = true
  ·rw [if_pos hx] at h2; omega
  ·rw [if_neg hx] at h2
   by_cases hd : d < 0
   ·rw [if_pos hd] at h2; exact h2
   ·rw [if_neg hd] at h2; omega
theorem idx_ex {α : Type} {p : α → Bool} {z : α} : ∀ {xs : List α}, 0 ≤ idxF p xs → ∃ t : Nat, t < xs.length ∧ idxF p xs = (t : Int) ∧ p (xs.getD t z) = true
 | [], h => absurd h (show ¬ (0 : Int) ≤ -1 by decide)
 | x :: l, h => by
  have h2 : idxF p (x :: l) = if p x = true then 0 else if idxF p l < 0 then -1 else idxF p l + 1 := rfl
  by_cases hx : p x = true
  ·rw [if_pos hx] at h2; exact ⟨0, by simp, h2, by simpa using hx⟩
  ·rw [if_neg hx] at h2
   by_cases hd : idxF p l < 0
   ·rw [if_pos hd] at h2; omega
   ·obtain ⟨t, a, b, d⟩ := idx_ex (p := p) (z := z) (xs := l) (by omega)
    rw [if_neg hd] at h2
    exact ⟨t + 1, by simp; omega, by omega, by simpa using d⟩
theorem pvI_bd {R : List (List Int)} {j : Int} (h : 0 ≤ pvI R j) : (pvI R j).toNat < R.length ∧ LA.leadS (R.getD (pvI R j).toNat []) = j := by
 obtain ⟨t, a, b, d⟩ := idx_ex (p := fun e => decide (LA.leadS e = j)) (z := []) (xs := R) h
 have e : (pvI R j).toNat = t := by unfold pvI; rw [b]; rfl
 rw [e]; exact ⟨a, of_decide_eq_true d⟩
theorem take_getD {R : List (List Int)} {i q : Nat} (h : q < i) : (R.take i).getD q [] = R.getD q [] := by simp only [List.getD_eq_getElem?_getD, List.getElem?_take]; rw [if_pos h]
theorem lead_ne {n : Nat} {R : List (List Int)} (h : LA.RedL n R) {i j : Nat} (hi : i < R.length) (hj : j < R.length) (e : LA.leadS (R.getD i []) = LA.leadS (R.getD j [])) : i = j := by
 refine h.red.inj (by simpa using hi) (by simpa using hj) ?_
 unfold LA.pv; rw [e]
theorem pvI_none {n : Nat} {R : List (List Int)} (h : LA.RedL n R) {i : Nat} (hi : i < R.length) : ¬ 0 ≤ pvI (R.take i) (LA.leadS (R.getD i [])) := fun hp => by
 obtain ⟨h1, h2⟩ := pvI_bd hp
 rw [List.length_take] at h1
 have h1 := Nat.lt_of_lt_of_le h1 (Nat.min_le_left i R.length)
 rw [take_getD h1] at h2
 have := lead_ne h (by omega) hi h2
 omega
theorem pvI_snoc {n : Nat} {R : List (List Int)} (h : LA.RedL n R) {i : Nat} (hi : i < R.length) (j : Nat) : pvI (R.take (i + 1)) (j : Int) = if j = (LA.leadS (R.getD i [])).toNat then (i : Int) else pvI (R.take i) (j : Int) := by
 have hl := (h.at_ hi).2
 have hn := pvI_none h hi
 have hm : ¬ 0 ≤ pvI (R.take i) (j : Int) → pvI (R.take i) (j : Int) = -1 := fun hh => idx_m1 hh
 have e : pvI (R.take (i + 1)) (j : Int) = if 0 ≤ pvI (R.take i) (j : Int) then pvI (R.take i) (j : Int) else if decide (LA.leadS (R.getD i []) = (j : Int)) = true then ((R.take i).length : Int) else -1 := by
  unfold pvI; rw [take_snoc (z := []) hi, idx_app]
 rw [e, List.length_take, Nat.min_eq_left (by omega)]
 by_cases hj : j = (LA.leadS (R.getD i [])).toNat
 ·have hjj : (j : Int) = LA.leadS (R.getD i []) := by omega
  rw [if_pos hj, hjj, if_neg hn, if_pos (decide_eq_true rfl)]
 ·rw [if_neg hj]
  by_cases hp : 0 ≤ pvI (R.take i) (j : Int)
  ·rw [if_pos hp]
  ·rw [if_neg hp, if_neg (by rw [decide_eq_true_iff]; omega), hm hp]
theorem nv_zero (n k : Nat) : (List.replicate n (0 : Int)).set k 1 = nvL ([] : List (List Int)) n k := by
 unfold nvL
 have e : List.replicate n (0 : Int) = (List.range n).map fun _ => (0 : Int) := by
  apply List.ext_getElem
  ·simp
  ·intro j _ _; simp
 rw [e]
 refine mapR_set _ _ fun j hj => ?_
 unfold nvE
 rw [show pvI [] (j : Int) = -1 from rfl, if_neg (by decide)]
 by_cases h : j = k
 ·rw [if_pos h, if_pos (by omega)]
 ·rw [if_neg h, if_neg (by omega)]
theorem nv_step {n : Nat} {R : List (List Int)} (h : LA.RedL n R) {i k : Nat} (hi : i < R.length) : (nvL (R.take i) n k).set (LA.leadS (R.getD i [])).toNat (subF 0 ((R.getD i []).getD k 0)) = nvL (R.take (i + 1)) n k := by
 unfold nvL
 refine mapR_set _ _ fun j hj => ?_
 unfold nvE
 rw [pvI_snoc h hi j]
 by_cases e : j = (LA.leadS (R.getD i [])).toNat
 ·rw [if_pos e, if_pos e, if_pos (by omega)]
  rw [show ((i : Int)).toNat = i from rfl]
  congr 1
  rw [take_getD (show i < i + 1 by omega)]
 ·rw [if_neg e, if_neg e]
  by_cases hp : 0 ≤ pvI (R.take i) (j : Int)
  ·rw [if_pos hp, if_pos hp]
   have hb := (pvI_bd hp).1
   rw [List.length_take] at hb
   congr 1
   rw [take_getD (show _ < i + 1 by omega), take_getD (show _ < i by omega)]
  ·rw [if_neg hp, if_neg hp]
theorem nvL_len (R : List (List Int)) (n k : Nat) : (nvL R n k).length = n := mapR_len _ _
theorem subF_el {x : Int} : 0 ≤ subF 0 x ∧ subF 0 x ≤ 1018 := by
 unfold subF
 split
 ·rename_i h
  have := (l4Both_t h).2
  have := tmod_f (0 - x + 1019) 1019 (by decide)
  omega
 ·omega
theorem nvL_ok (R : List (List Int)) (n k : Nat) : LA.VokB n (nvL R n k) := ⟨nvL_len R n k, fun x hx => by
 obtain ⟨j, _, rfl⟩ := List.mem_map.1 hx
 unfold nvE LA.El
 split
 ·exact subF_el
 ·split <;> omega⟩
theorem newBas_at2 {s : Int} (h : 0 ≤ s ∧ s ≤ 40) : newBas s = (s, []) := by unfold newBas; rw [if_pos (inR_true h)]
theorem nulS_len (R : List (List Int)) (n : Nat) : (nulS R n).length ≤ n := by unfold nulS; rw [List.length_map]; exact frC_len R n
theorem nulS_ok {R : List (List Int)} {n : Nat} : ∀ v ∈ nulS R n, LA.VokB n v := fun v hv => by
 obtain ⟨k, _, rfl⟩ := List.mem_map.1 hv
 exact nvL_ok _ _ _
def spS (w : Int) (R : List (List Int)) (v : List Int) : List (List Int) := if validV v = true ∧ ((v.length : Nat) : Int) = w then insR R v else R
def spanB (vs : List (List Int)) (w : Int) : T60 := if inR w 0 40 = true then (w, foldTo (spS w) [] vs vs.length) else (0, [])
theorem spS_red {w : Int} {R : List (List Int)} {v : List Int} (h : LA.RedL w.toNat R) : LA.RedL w.toNat (spS w R v) := by
 unfold spS; split
 ·rename_i hv
  exact (LA.insS_ok h ⟨by omega, (validV_t hv.1).2.1⟩).1
 ·exact h
theorem span_red {w : Int} {vs : List (List Int)} : ∀ i, i ≤ vs.length → LA.RedL w.toNat (foldTo (spS w) [] vs i)
 | 0, _ => LA.RedL.nil _
 | i + 1, hi => by rw [foldTo_succ [] (by omega)]; exact spS_red (span_red i (by omega))
theorem spanB_P (vs : List (List Int)) (w : Int) : basP (spanB vs w) := by
 unfold spanB; split
 ·rename_i h; exact ⟨inR_t h, span_red _ (Nat.le_refl _)⟩
 ·exact ⟨by decide, LA.RedL.nil _⟩
def orthB (b : T60) : T60 := if validB b = true then spanB (nulS b.2 b.1.toNat) b.1 else (0, [])
theorem orthB_P (b : T60) : basP (orthB b) := by
 unfold orthB; split
 ·exact spanB_P _ _
 ·exact ⟨by decide, LA.RedL.nil _⟩
def intB (a b : T60) : T60 := if sameW a b = true then orthB (sumB (orthB a) (orthB b)) else (0, [])
theorem intB_P (a b : T60) : basP (intB a b) := by
 unfold intB; split
 ·exact orthB_P _
 ·exact ⟨by decide, LA.RedL.nil _⟩
theorem spS_y {w : Int} {R : List (List Int)} {v : List Int} (h : validV v = true) (h2 : ((v.length : Nat) : Int) = w) : (insU (w, R) v).2 = spS w R v := by unfold spS; rw [if_pos ⟨h, h2⟩]; rfl
theorem spS_n {w : Int} {R : List (List Int)} {v : List Int} (h : validV v = false ∨ ¬ ((v.length : Nat) : Int) = w) : R = spS w R v := by
 unfold spS; rw [if_neg]
 rintro ⟨h1, h2⟩
 rcases h with h | h
 ·rw [h1] at h; cases h
 ·exact h h2
theorem insV_sp {w : Int} {R : List (List Int)} {v : List Int} (h : inR w 0 40 = true) (hr : LA.RedL w.toNat R) : (insV (w, R) v).1 = (w, spS w R v) := by
 have hv : validB (w, R) = true := (validB_iff _).2 ⟨inR_t h, hr⟩
 unfold insV takesB spS
 rw [if_pos hv]
 by_cases h1 : validV v = true
 ·rw [if_pos h1]
  by_cases h2 : ((v.length : Nat) : Int) = w
  ·rw [if_pos (decide_eq_true h2), if_pos ⟨h1, h2⟩]; rfl
  ·rw [if_neg (by rw [decide_eq_true_iff]; exact h2), if_neg (fun e => h2 e.2)]
 ·rw [if_neg h1, if_neg (by decide), if_neg (fun e => h1 e.1)]
def idM (n : Int) (i : Nat) : List (List Int) := (List.range i).map fun (k : Nat) => unitL n.toNat (k : Int)
theorem idM_snoc (n : Int) (i : Nat) : idM n (i + 1) = idM n i ++ [unitL n.toNat (i : Int)] := by unfold idM; rw [List.range_succ, List.map_append]; rfl
theorem idM_len (n : Int) (i : Nat) : (idM n i).length = i := by simp [idM]
theorem frC_nil : ∀ n, frC [] n = (List.range n).map fun (k : Nat) => (k : Int)
 | 0 => rfl
 | n + 1 => by rw [frC_f (by rfl), frC_nil n, List.range_succ, List.map_append]; rfl
theorem nvL_nil (n k : Nat) : nvL [] n k = unitL n (k : Int) := by
 unfold nvL unitL
 refine mapR_congr fun j _ => ?_
 unfold nvE
 rw [show pvI [] (j : Int) = -1 from rfl, if_neg (by decide)]
theorem nulS_nil (n : Int) : nulS [] n.toNat = idM n n.toNat := by
 unfold nulS idM
 rw [frC_nil, List.map_map]
 refine mapR_congr fun k _ => ?_
 show nvL [] n.toNat ((k : Int)).toNat = _
 exact nvL_nil _ _
def pvL (R : List (List Int)) (n i : Nat) : List Int := (List.range n).map fun (j : Nat) => pvI (R.take i) (j : Int)
theorem pvL_len (R : List (List Int)) (n i : Nat) : (pvL R n i).length = n := mapR_len _ _
theorem pvL_zero (R : List (List Int)) (n : Nat) : List.replicate n (-1 : Int) = pvL R n 0 := by
 apply List.ext_getElem
 ·simp [pvL]
 ·intro j h1 h2; simp [pvL, pvI, idxF]
theorem pvL_set {n : Nat} {R : List (List Int)} (h : LA.RedL n R) {i : Nat} (hi : i < R.length) : (pvL R n i).set (LA.leadS (R.getD i [])).toNat (i : Int) = pvL R n (i + 1) := mapR_set _ _ fun j _ => pvI_snoc h hi j
theorem pvL_at {n j : Nat} {R : List (List Int)} (h : j < n) : (pvL R n R.length).getD j 0 = pvI R (j : Int) := by unfold pvL; rw [mapR_at _ h, List.take_length]
def negTo (n i : Nat) : List Int := List.replicate i (-1) ++ List.replicate (n - i) 0
theorem negTo_set {n i : Nat} (h : i < n) : (negTo n i).set i (-1) = negTo n (i + 1) := by
 unfold negTo
 rw [List.set_append_right _ _ (by simp), List.length_replicate, Nat.sub_self, show n - i = n - (i + 1) + 1 by omega, List.replicate_succ, List.set_cons_zero, List.replicate_succ', List.append_assoc]; rfl
theorem negTo_len {n i : Nat} (h : i ≤ n) : (negTo n i).length = n := by simp [negTo]; omega
theorem negTo_all {n i : Nat} (h : n ≤ i) (h2 : i ≤ n) : negTo n i = List.replicate n (-1) := by
 have : i = n := by omega
 subst this; simp [negTo]
def nvTo (R : List (List Int)) (n k j : Nat) : List Int := (List.range n).map fun (t : Nat) => if t < j then nvE R k t else if (t : Int) = (k : Int) then 1 else 0
theorem nvTo_len (R : List (List Int)) (n k j : Nat) : (nvTo R n k j).length = n := mapR_len _ _
theorem nvTo_zero (R : List (List Int)) (n k : Nat) : unitL n (k : Int) = nvTo R n k 0 := mapR_congr fun t _ => (if_neg (by omega)).symm
theorem nvTo_all {R : List (List Int)} {n k j : Nat} (h : n ≤ j) : nvTo R n k j = nvL R n k := mapR_congr fun t ht => if_pos (by omega)
theorem nvTo_set {R : List (List Int)} {n k j : Nat} (h : 0 ≤ pvI R (j : Int)) : (nvTo R n k j).set j (subF 0 ((R.getD (pvI R (j : Int)).toNat []).getD k 0)) = nvTo R n k (j + 1) := mapR_set _ _ fun t _ => by
 by_cases e : t = j
 ·subst e; rw [if_pos (show t < t + 1 by omega), if_pos (show t = t from rfl)]; unfold nvE; rw [if_pos h]
 ·rw [if_neg e]
  by_cases e2 : t < j
  ·rw [if_pos (show t < j + 1 by omega), if_pos e2]
  ·rw [if_neg (show ¬ t < j + 1 by omega), if_neg e2]
theorem nvTo_same {R : List (List Int)} {n k j : Nat} (h : ¬ 0 ≤ pvI R (j : Int)) : nvTo R n k j = nvTo R n k (j + 1) := mapR_congr fun t _ => by
 by_cases e : t = j
 ·subst e; rw [if_neg (show ¬ t < t by omega), if_pos (show t < t + 1 by omega)]; unfold nvE; rw [if_neg h]
 ·by_cases e2 : t < j
  ·rw [if_pos e2, if_pos (show t < j + 1 by omega)]
  ·rw [if_neg e2, if_neg (show ¬ t < j + 1 by omega)]
theorem pvI_any {R : List (List Int)} {j : Int} : 0 ≤ pvI R j ↔ R.any (fun e => decide (LA.leadS e = j)) = true := idxF_pos
def nsTo (R : List (List Int)) (n k : Nat) : List (List Int) := (frC R k).map fun c => nvL R n c.toNat
theorem nsTo_y {R : List (List Int)} {n k : Nat} (h : 0 ≤ pvI R (k : Int)) : nsTo R n k = nsTo R n (k + 1) := by unfold nsTo; rw [frC_t (pvI_any.1 h)]
theorem nsTo_n {R : List (List Int)} {n k : Nat} (h : ¬ 0 ≤ pvI R (k : Int)) : nsTo R n k ++ [nvL R n k] = nsTo R n (k + 1) := by
 unfold nsTo
 rw [frC_f (by rw [Bool.eq_false_iff]; exact fun e => h (pvI_any.2 e)), List.map_append]; rfl
theorem nsTo_len (R : List (List Int)) (n k : Nat) : (nsTo R n k).length ≤ k := by unfold nsTo; rw [List.length_map]; exact frC_len R k
def spTo (w : Int) (vs : List (List Int)) (i : Nat) : T60 := if inR w 0 40 = true then (w, foldTo (spS w) [] vs i) else (0, [])
theorem spTo_P {w : Int} {vs : List (List Int)} {i : Nat} (h : i ≤ vs.length) : basP (spTo w vs i) := by
 unfold spTo; split
 ·rename_i hw; exact ⟨inR_t hw, span_red i h⟩
 ·exact ⟨by decide, LA.RedL.nil _⟩
theorem sp_next {w : Int} {vs : List (List Int)} {i : Nat} (h : inR w 0 40 = true) (hi : i < vs.length) : (insV (spTo w vs i) (vs.getD i [])).1 = spTo w vs (i + 1) := by
 unfold spTo; rw [if_pos h, if_pos h, insV_sp h (span_red i (by omega)), foldTo_succ [] hi]
theorem spTo_end {w : Int} {vs : List (List Int)} {i : Nat} (h : i ≤ vs.length) (he : vs.length ≤ i ∨ inR w 0 40 = false) : spTo w vs i = spanB vs w := by
 unfold spTo spanB
 by_cases hw : inR w 0 40 = true
 ·rw [if_pos hw, if_pos hw]
  rcases he with he | he
  ·rw [show i = vs.length by omega]
  ·rw [hw] at he; cases he
 ·rw [if_neg hw, if_neg hw]
theorem nulS_fit {R : List (List Int)} {n : Int} (h : 0 ≤ n ∧ n ≤ 40) : Sh.fit s24 (nulS R n.toNat) := fitM nulS_ok (by omega) (by have := nulS_len R n.toNat; omega)
theorem idM_end {n : Int} {i : Nat} (h : i = 0 ∨ ((i : Int) ≤ n ∧ n ≤ 40)) (he : ¬ (i : Int) < n ∨ ¬ n ≤ 40) : idM n i = if n ≤ 40 then idM n n.toNat else [] := by
 by_cases hn : n ≤ 40
 ·rw [if_pos hn]; congr 1; omega
 ·rw [if_neg hn, show i = 0 by omega]; rfl
theorem idM_fit {n : Int} (h : 0 ≤ n ∧ n ≤ 40) : Sh.fit s24 (if n ≤ 40 then idM n n.toNat else []) := by
 rw [if_pos h.2]
 refine fitM (n := n.toNat) (fun v hv => ?_) (by omega) (by rw [idM_len]; omega)
 obtain ⟨k, _, rfl⟩ := List.mem_map.1 hv
 exact unitL_ok _ _
theorem redL_valid {n : Nat} {m : List (List Int)} (h : LA.RedL n m) (hn : n ≤ 40) : validM m = true := ((isRed_iff h.ok hn).2 h).1
theorem rowRed_id {m : List (List Int)} (h : LA.RedL (List.length (m.getD 0 [])) m) (hn : List.length (m.getD 0 []) ≤ 40) : rowRed m = m := by rw [rowRed_at (redL_valid h hn)]; exact LA.gjS_red h
theorem redL_w {n : Nat} {m : List (List Int)} (h : LA.RedL n m) (h0 : 0 < m.length) : List.length (m.getD 0 []) = n := (h.ok _ (LA.getD_in h0)).1
theorem orth_red {b : T60} (h : validB b = true) (h0 : 0 < b.2.length) : LA.RedL (List.length (b.2.getD 0 [])) b.2 ∧ List.length (b.2.getD 0 []) = b.1.toNat ∧ List.length (b.2.getD 0 []) ≤ 40 := by
 have hv := validB_t h
 have e := redL_w hv.2 h0
 exact ⟨by rw [e]; exact hv.2, e, by have := hv.1; omega⟩
theorem orth_pre {b : T60} (hf : Sh.fit s24 b.2) (h : validB b = true) (h0 : ¬ b.2.length = 0) : Sh.fit s24 b.2 ∧ (LA.RedL (List.length (b.2.getD 0 [])) b.2 ∧ (0 < b.2.length ∧ List.length (b.2.getD 0 []) ≤ 40)) := by
 have := orth_red h (by omega)
 exact ⟨hf, this.1, by omega, this.2.2⟩
theorem orth_fit {b : T60} (h : validB b = true) (h0 : ¬ b.2.length = 0) : Sh.fit s24 (nulS b.2 (List.length (b.2.getD 0 []))) := by
 rw [(orth_red h (by omega)).2.1]; exact nulS_fit (validB_t h).1
theorem orth_ns {b : T60} (h : validB b = true) (h0 : ¬ b.2.length = 0) : spanB (nulS b.2 (List.length (b.2.getD 0 []))) b.1 = orthB b := by
 unfold orthB; rw [if_pos h, (orth_red h (by omega)).2.1]
theorem orth_id {b : T60} (h : validB b = true) (h0 : b.2.length = 0) : spanB (if b.1 ≤ 40 then idM b.1 b.1.toNat else []) b.1 = orthB b := by
 unfold orthB; rw [if_pos h, if_pos (validB_t h).1.2, List.eq_nil_of_length_eq_zero h0, nulS_nil]

def D_impl_freeColumns := (fun (R : List (List Int)) (n : Int) => frC R n.toNat)
abbrev Q_impl_freeColumns := (fun (x0 : (List (List Int))) (x1 : Int) => Sh.fit s24 x0 ∧ (0 ≤ x1 ∧ x1 ≤ 40))
def S_impl_freeColumns : Sum := { fid := 90, dom := [s24, (.int 3)], cod := [s27], dp := true, fz := false, pre := fun x => Q_impl_freeColumns x.1 x.2.1, g := fun x => ((D_impl_freeColumns x.1 x.2.1), ()) }
def S_impl_freeColumns_tab : List (Nat × Sum) := [(100010, S_slices_ContainsFunc_S_S_int_S_int__freeColumns_1)]
theorem S_impl_freeColumns_ok : FnOK Try.prog 90 S_impl_freeColumns := by
 refine at_enter 21 (fun x => ⟨[(0, aF s27 x.1), (1, aI x.2.1)], []⟩) Try.func90 rfl (by kernel_rfl) (fun x => rfl) ?_
 rintro w0 Z0 ⟨x0, x1, u⟩ a w
 revert x0 x1
 intro (x0 : (List (List Int))) (x1 : Int) hpre hlens h
 replace hpre : Q_impl_freeColumns x0 x1 := hpre
 have hT : TabOK Try.prog S_impl_freeColumns_tab := (.cons S_slices_ContainsFunc_S_S_int_S_int__freeColumns_1_ok .nil)
 obtain ⟨hf0, hpx⟩ := hpre
 have hn0_1 : List.length x0 ≤ 1073741824 := hf0.1
 refine wp_seq ?_
 refine at_regq [] { ts := [0, 1, 4], os := [] } [] gamOK hT h (by kernel_rfl) trivial fun a w h => then_normal (wp_seq ?_)
 refine at_regq [] { ts := [0, 1, 4, 5], os := [] } [] gamOK hT h (by kernel_rfl) trivial fun a w h => then_normal (wp_seq (wp_seq ?_))
 refine at_regq [] { ts := [0, 4, 5, 7, 8], os := [] } [] gamOK hT h (by kernel_rfl) trivial fun a w h => then_normal (wp_block ?_)
 replace h := at_out (σ' := ⟨[(0, aF s27 x0), (4, .p (.c (cN))), (5, aS 1), (7, aI x1), (8, aI 0)], [(1, oR (.int 3) ([] : List Int))]⟩) { mt := [⟨none, 5, 1, true, (.int 3)⟩], ts := [0, 4, 5, 7, 8], os := [1] } h (by kernel_rfl)
 refine at_loop (fun i : Nat => (⟨[(0, aF s27 x0), (4, .p (.c (cN))), (5, aS 1), (7, aI x1), (8, aI ((i : Nat) : Int))], [(1, oR (.int 3) (frC x0 i))]⟩ : St)) (fun i => i ≤ x1.toNat) (fun i => x1.toNat - i) (0) h (st_congr2 (fun (d0 : List Int) (d1 : Int) => (⟨[(0, aF s27 x0), (4, .p (.c (cN))), (5, aS 1), (7, aI x1), (8, aI d1)], [(1, oR (.int 3) d0)]⟩ : St)) (show (([] : List Int) : List Int) = (frC x0 (0)) from by first | with_reducible rfl | (rfl) | rfl) (show (0 : Int) = (((0) : Nat) : Int) from by first | with_reducible rfl | (rfl) | rfl)) (by omega) ?_
 intro i a w hok0 h
 have hfl := frC_len x0 i
 refine wp_seq ?_
 refine at_regq [] { ts := [0, 4, 5, 7, 8, 9], os := [1] } [] gamOK hT h (by kernel_rfl) trivial fun a w h => then_normal (wp_seq ?_)
 refine at_test (decide (((i : Nat) : Int) < x1)) h (by kernel_rfl) (fun h1 => ?_) (fun h1 => ?_)
 ·replace h1 : ((i : Nat) : Int) < x1 := of_decide_eq_true h1
  refine wp_skip (then_normal (wp_seq (wp_block (wp_seq ?_))))
  refine at_regq [{}, { ids := [2] }] { ts := [0, 4, 5, 6, 7, 8], os := [1, 2] } [] gamOK hT h (by kernel_rfl) trivial fun a w h => then_normal (wp_seq ?_)
  refine at_regq [{}, {}, { key := some 100010 }] { ts := [0, 4, 5, 6, 7, 8, 14], os := [1, 2] } [Q_slices_ContainsFunc_S_S_int_S_int__freeColumns_1 x0 ((i : Nat) : Int)] gamOK hT h (by kernel_rfl) ⟨(by exact hf0), trivial⟩ fun a w h => then_normal ?_
  refine at_test (!(D_slices_ContainsFunc_S_S_int_S_int__freeColumns_1 x0 ((i : Nat) : Int))) h (by kernel_rfl) (fun h2 => ?_) (fun h2 => ?_)
  ·replace h2 : (D_slices_ContainsFunc_S_S_int_S_int__freeColumns_1 x0 ((i : Nat) : Int)) = false := notT h2
   refine at_regq [{}, {}, { ids := [3] }, { ids := [4] }] { ts := [0, 4, 5, 7, 8], os := [4] } [(List.length (frC x0 i) + List.length ([((i : Nat) : Int)])) * 8 ≤ 140737488355328] gamOK hT h (by kernel_rfl) ⟨(by first | omega | (simp only [lsA]; omega) | (simp <;> omega)), trivial⟩ fun a w h => in_normal (then_normal ?_)
   refine at_regq [{ nw := true }] { ts := [0, 4, 5, 7, 8], os := [4] } [I64 (((i : Nat) : Int) + 1)] gamOK hT h (by kernel_rfl) ⟨⟨by first | omega | (simp only [lsA]; omega) | (simp <;> omega), by first | omega | (simp only [lsA]; omega) | (simp <;> omega)⟩, trivial⟩ fun a w h => ?_
   replace h := at_out (σ' := ⟨[(0, aF s27 x0), (4, .p (.c (cN))), (5, aS 1), (7, aI x1), (8, aI (((i : Nat) : Int) + 1))], [(1, oR (.int 3) ((frC x0 i) ++ ([((i : Nat) : Int)])))]⟩) { ts := [0, 4, 5, 7, 8], os := [4], rn := [(4, 1)] } h (by kernel_rfl)
   exact ⟨i + 1, at_eq h (st_congr2 (fun (d0 : List Int) (d1 : Int) => (⟨[(0, aF s27 x0), (4, .p (.c (cN))), (5, aS 1), (7, aI x1), (8, aI d1)], [(1, oR (.int 3) d0)]⟩ : St)) (show (((frC x0 i) ++ ([((i : Nat) : Int)])) : List Int) = (frC x0 (i + 1)) from by first | with_reducible rfl | (first | exact (frC_f (by assumption)).symm | exact (frC_t (by assumption)).symm) | rfl) (show (((i : Nat) : Int) + 1 : Int) = (((i + 1) : Nat) : Int) from by first | with_reducible rfl | (omega) | rfl)), (by omega), (by omega)⟩
  ·replace h2 : (D_slices_ContainsFunc_S_S_int_S_int__freeColumns_1 x0 ((i : Nat) : Int)) = true := notF h2
   refine wp_skip (in_normal (then_normal ?_))
   refine at_regq [{ nw := true }] { ts := [0, 4, 5, 7, 8], os := [1] } [I64 (((i : Nat) : Int) + 1)] gamOK hT h (by kernel_rfl) ⟨⟨by first | omega | (simp only [lsA]; omega) | (simp <;> omega), by first | omega | (simp only [lsA]; omega) | (simp <;> omega)⟩, trivial⟩ fun a w h => ?_
   replace h := at_out (σ' := ⟨[(0, aF s27 x0), (4, .p (.c (cN))), (5, aS 1), (7, aI x1), (8, aI (((i : Nat) : Int) + 1))], [(1, oR (.int 3) (frC x0 i))]⟩) { ts := [0, 4, 5, 7, 8], os := [1] } h (by kernel_rfl)
   exact ⟨i + 1, at_eq h (st_congr2 (fun (d0 : List Int) (d1 : Int) => (⟨[(0, aF s27 x0), (4, .p (.c (cN))), (5, aS 1), (7, aI x1), (8, aI d1)], [(1, oR (.int 3) d0)]⟩ : St)) (show ((frC x0 i) : List Int) = (frC x0 (i + 1)) from by first | with_reducible rfl | (first | exact (frC_f (by assumption)).symm | exact (frC_t (by assumption)).symm) | rfl) (show (((i : Nat) : Int) + 1 : Int) = (((i + 1) : Nat) : Int) from by first | with_reducible rfl | (omega) | rfl)), (by omega), (by omega)⟩
 ·replace h1 : ¬ (((i : Nat) : Int) < x1) := of_decide_eq_false h1
  refine wp_exit (then_exit ?_)
  replace h := at_out (σ' := ⟨[(4, .p (.c (cN))), (5, aS 1)], [(1, oR (.int 3) (frC x0 i))]⟩) { ts := [4, 5], os := [1] } h (by kernel_rfl)
  replace h := at_eq (σ' := ⟨[(4, .p (.c (cN))), (5, aS 1)], [(1, oR (.int 3) (frC x0 x1.toNat))]⟩) h (st_congr1 (fun (d0 : List Int) => (⟨[(4, .p (.c (cN))), (5, aS 1)], [(1, oR (.int 3) d0)]⟩ : St)) (show ((frC x0 i) : List Int) = (frC x0 x1.toNat) from by first | with_reducible rfl | (rw [show x1.toNat = i by omega]) | rfl))
  refine then_exit (in_hit (then_normal (wp_seq ?_)))
  refine at_regq [] { ts := [4], os := [1] } [] gamOK hT h (by kernel_rfl) trivial fun a w h => then_normal (wp_ret ?_)
  exact at_return ((frC x0 x1.toNat), ()) [] h (by kernel_rfl) trivial (congrArg (fun z => (z, ())) (show ((frC x0 x1.toNat)) = D_impl_freeColumns x0 x1 from by unfold D_impl_freeColumns; rfl))

end Go.Proofs.Ytpffjagdefkfkaa

/- The law FnMisbehavior returns true for every input and leaves its arguments as they were. Condition, as the row lists it: when the call begins, the variable impl.behaviorNames holds its five names. -/
import Derived.Test.YtpffjagdefkfkaaDoorX2
import Derived.Test.YtpffjagdefkfkaaDoorLA
import Derived.Test.YtpffjagdefkfkaaDoorProg
import Derived.Test.YtpffjagdefkfkaaDoorRows
import Derived.Test.YtpffjagdefkfkaaDoorFX
namespace Go.Proofs.YtpffjagdefkfkaaDoor
open Go.RowKit
set_option linter.unusedVariables false
set_option linter.unusedSimpArgs false
abbrev Q_spec_RelayReceive := (fun (x0 : T26) (x1 : T29) => Sh.fit s26 x0 ∧ Sh.fit s29 x1)
def S_spec_RelayReceive : Sum := { fid := 28, dom := [s26, s29], cod := [s26, (.bool 4)], dp := false, fz := true, pre := fun x => Q_spec_RelayReceive x.1 x.2.1, g := fun x => ((rcvL x.1 x.2.1).1, ((rcvL x.1 x.2.1).2, ())) }
def S_spec_RelayReceive_tab : List (Nat × Sum) := [(40, S_spec_l31Copy), (41, S_spec_IsValidRelay), (43, S_spec_AcceptPacket), (44, S_spec_NewRecoder)]
theorem S_spec_RelayReceive_ok : FnOK Tryd.prog 28 S_spec_RelayReceive := by
 refine at_enter 121 (fun x => ⟨[(0, aG [cI x.1.1, .ro s51 x.1.2]), (1, aG [cI x.2.1.1, .ro (.int 3) x.2.1.2.1, .ro (.int 3) x.2.1.2.2])], []⟩) Tryd.func28 rfl (by kernel_rfl) (fun x => rfl) ?_
 rintro w0 Z0 ⟨x0, x1, u⟩ a w
 revert x0 x1
 intro (x0 : T26) (x1 : T29) hpre hlens h
 replace hpre : Q_spec_RelayReceive x0 x1 := hpre
 have hT : TabOK Tryd.prog w0 [] S_spec_RelayReceive_tab := (.cons S_spec_l31Copy_ok (.cons S_spec_IsValidRelay_ok (.cons S_spec_AcceptPacket_ok (.cons S_spec_NewRecoder_ok .nil))))
 obtain ⟨hf0, hf1⟩ := hpre
 have hn0_1 : List.length x0.2 ≤ 1073741824 := hf0.2.1
 have hn1_2 : List.length x1.2.1 ≤ 1073741824 := hf1.2.1.1
 have hn1_3 : List.length x1.2.2 ≤ 1073741824 := hf1.2.2.1
 refine wp_seq ?_
 refine at_regq [{ ids := [1] }, { ids := [2] }, { ids := [3] }] { ts := [2, 3, 4, 5], os := [1, 2, 3] } [] gamOK hT h (by kernel_rfl) trivial fun a w h => then_normal (wp_seq ?_)
 refine at_regq [{}, { ids := [4] }, { ids := [5] }] { ts := [2, 3, 4, 5, 6], os := [1, 2, 3, 4, 5] } [Q_spec_l31Copy x0] gamOK hT h (by kernel_rfl) ⟨(by exact hf0), trivial⟩ fun a w h => then_normal (wp_seq (wp_seq ?_))
 refine at_regq [] { ts := [2, 3, 4, 5, 6, 16], os := [1, 2, 3, 4, 5] } [Q_spec_IsValidRelay x0] gamOK hT h (by kernel_rfl) ⟨(by exact hf0), trivial⟩ fun a w h => then_normal ?_
 refine at_test (!(validL x0)) h (by kernel_rfl) (fun h1 => ?_) (fun h1 => ?_)
 ·replace h1 : (validL x0) = false := notT h1
  refine wp_seq ?_
  refine at_regq [] { ts := [2, 3, 4, 5, 6], os := [1, 2, 3, 4, 5] } [] gamOK hT h (by kernel_rfl) trivial fun a w h => then_normal (wp_ret (then_ret ?_))
  exact at_return (x0, (false, ())) [] h (by kernel_rfl) trivial (congrArg (fun z => (z.1, z.2, ())) (show ((x0, false)) = rcvL x0 x1 from by (first | exact rcvL_n (by assumption) | exact rcS_f (by assumption) (by omega) (by assumption) | (have hv9 := (validL_t (r := x0) (by assumption)).2.1; have hc9 := (rcS_nf (r := x0) (p := x1) (i := i) (by assumption) hok0.2 (fun hh9 => by first | assumption | exact absurd hh9 (by omega)) hok0.1 (by first | (left; omega) | (right; omega))); first | exact rcS_2 (by assumption) hc9 (.inl (by assumption)) | exact rcS_2 (by assumption) hc9 (.inr ⟨by omega, by omega⟩) | (have hl9 := rcY_len hc9; first | (exfalso; omega) | exact rcS_i (by assumption) hc9 (by assumption) (by omega) | exact rcS_d (by assumption) hc9 (by assumption) (by omega) (by omega))))))
 ·replace h1 : (validL x0) = true := notF h1
  refine wp_skip (then_normal (wp_seq ?_))
  refine at_regq [] { ts := [2, 3, 4, 5, 6, 7], os := [1, 2, 3, 4, 5] } [] gamOK hT h (by kernel_rfl) trivial fun a w h => then_normal (wp_seq (wp_block ?_))
  replace h := at_out (σ' := ⟨[(2, aP 1 0), (3, aP 2 0), (4, aP 3 0), (5, aB false), (6, aP 5 0), (7, aI 0)], [(1, oX 26 [cI x0.1, .ro s51 x0.2]), (2, oX 29 [cI x1.1, .ro (.int 3) x1.2.1, .ro (.int 3) x1.2.2]), (3, oX 26 [cI 0, cN]), (4, oF s51 x0.2), (5, oX 26 [cI x0.1, .sl 4])]⟩) { ts := [2, 3, 4, 5, 6, 7], os := [1, 2, 3, 4, 5] } h (by kernel_rfl)
  refine at_loop (fun i : Nat => (⟨[(2, aP 1 0), (3, aP 2 0), (4, aP 3 0), (5, aB false), (6, aP 5 0), (7, aI ((i : Nat) : Int))], [(1, oX 26 [cI x0.1, .ro s51 x0.2]), (2, oX 29 [cI x1.1, .ro (.int 3) x1.2.1, .ro (.int 3) x1.2.2]), (3, oX 26 [cI 0, cN]), (4, oF s51 x0.2), (5, oX 26 [cI x0.1, .sl 4])]⟩ : St)) (fun i => (i ≤ List.length x0.2 ∧ ∀ j, j < i → (x0.2.getD j (0, (0, (0, ([], 0))))).1 < x1.1)) (fun i => List.length x0.2 - i) (0) h (st_congr1 (fun (d0 : Int) => (⟨[(2, aP 1 0), (3, aP 2 0), (4, aP 3 0), (5, aB false), (6, aP 5 0), (7, aI d0)], [(1, oX 26 [cI x0.1, .ro s51 x0.2]), (2, oX 29 [cI x1.1, .ro (.int 3) x1.2.1, .ro (.int 3) x1.2.2]), (3, oX 26 [cI 0, cN]), (4, oF s51 x0.2), (5, oX 26 [cI x0.1, .sl 4])]⟩ : St)) (show (0 : Int) = (((0) : Nat) : Int) from by first | with_reducible rfl | (rfl) | rfl)) (by exact ⟨Nat.zero_le _, fun j h => absurd h (by omega)⟩) ?_
  intro i a w hok0 h
  refine wp_seq (wp_seq ?_)
  by_cases h2 : ((i : Nat) : Int) < ((List.length x0.2 : Nat) : Int)
  ·refine at_anyq [{}, {}, {}, {}, { hint := some (aB true) }, {}, {}, {}, {}, {}, {}, {}, {}, {}, {}, {}] { ts := [2, 3, 4, 5, 6, 7, 24, 25, 26, 27, 28, 29, 30, 31, 32, 33], os := [1, 2, 3, 4, 5] } [(AV.p (.c (.v (.bool (decide (((i : Nat) : Int) < ((List.length x0.2 : Nat) : Int)))))) = AV.p (.c (.v (.bool true)))), (0 : Int) ≤ ((i : Nat) : Int) ∧ ((i : Nat) : Int) < ((List.length x0.2 : Nat) : Int), i < List.length x0.2] gamOK hT mixed h (by kernel_rfl) ⟨hint_bool (decide_eq_true h2), (by refine ⟨?_, ?_⟩ <;> (first | omega | (simp only [lsA]; omega) | (simp <;> omega))), (by first | omega | (simp only [lsA]; omega) | (simp <;> omega)), trivial⟩ fun a w h => then_normal ?_
   refine at_test (decide ((x0.2.getD i (0, (0, (0, ([], 0))))).1 < x1.1)) h (by kernel_rfl) (fun h3 => ?_) (fun h3 => ?_)
   ·replace h3 : (x0.2.getD i (0, (0, (0, ([], 0))))).1 < x1.1 := of_decide_eq_true h3
    refine wp_skip (then_normal (wp_block ?_))
    refine at_regq [{}, { nw := true }] { ts := [2, 3, 4, 5, 6, 7, 24, 25, 26, 27, 28, 29, 30, 31, 32], os := [1, 2, 3, 4, 5] } [I64 (((i : Nat) : Int) + 1)] gamOK hT h (by kernel_rfl) ⟨⟨by first | omega | (simp only [lsA]; omega) | (simp <;> omega), by first | omega | (simp only [lsA]; omega) | (simp <;> omega)⟩, trivial⟩ fun a w h => in_normal ?_
    replace h := at_out (σ' := ⟨[(2, aP 1 0), (3, aP 2 0), (4, aP 3 0), (5, aB false), (6, aP 5 0), (7, aI (((i : Nat) : Int) + 1))], [(1, oX 26 [cI x0.1, .ro s51 x0.2]), (2, oX 29 [cI x1.1, .ro (.int 3) x1.2.1, .ro (.int 3) x1.2.2]), (3, oX 26 [cI 0, cN]), (4, oF s51 x0.2), (5, oX 26 [cI x0.1, .sl 4])]⟩) { ts := [2, 3, 4, 5, 6, 7], os := [1, 2, 3, 4, 5] } h (by kernel_rfl)
    exact ⟨i + 1, at_eq h (st_congr1 (fun (d0 : Int) => (⟨[(2, aP 1 0), (3, aP 2 0), (4, aP 3 0), (5, aB false), (6, aP 5 0), (7, aI d0)], [(1, oX 26 [cI x0.1, .ro s51 x0.2]), (2, oX 29 [cI x1.1, .ro (.int 3) x1.2.1, .ro (.int 3) x1.2.2]), (3, oX 26 [cI 0, cN]), (4, oF s51 x0.2), (5, oX 26 [cI x0.1, .sl 4])]⟩ : St)) (show (((i : Nat) : Int) + 1 : Int) = (((i + 1) : Nat) : Int) from by first | with_reducible rfl | (omega) | rfl)), (by exact ⟨by omega, fun j hj => by by_cases e : j = i; subst e; assumption; exact hok0.2 j (by omega)⟩), (by omega)⟩
   ·replace h3 : ¬ ((x0.2.getD i (0, (0, (0, ([], 0))))).1 < x1.1) := of_decide_eq_false h3
    refine wp_exit (then_exit (then_exit (in_hit (then_normal (wp_seq (wp_seq ?_))))))
    refine at_anyq [{}, {}, {}, {}, { hint := some (aB true) }, {}, {}, {}, {}, {}, {}, {}, {}, {}, {}, {}] { ts := [2, 3, 4, 5, 6, 7, 51], os := [1, 2, 3, 4, 5] } [(AV.p (.c (.v (.bool (decide (((i : Nat) : Int) < ((List.length x0.2 : Nat) : Int)))))) = AV.p (.c (.v (.bool true)))), (0 : Int) ≤ ((i : Nat) : Int) ∧ ((i : Nat) : Int) < ((List.length x0.2 : Nat) : Int), i < List.length x0.2] gamOK hT mixed h (by kernel_rfl) ⟨hint_bool (decide_eq_true h2), (by refine ⟨?_, ?_⟩ <;> (first | omega | (simp only [lsA]; omega) | (simp <;> omega))), (by first | omega | (simp only [lsA]; omega) | (simp <;> omega)), trivial⟩ fun a w h => then_normal ?_
    refine at_test (decide ((x0.2.getD i (0, (0, (0, ([], 0))))).1 = x1.1)) h (by kernel_rfl) (fun h4 => ?_) (fun h4 => ?_)
    ·replace h4 : (x0.2.getD i (0, (0, (0, ([], 0))))).1 = x1.1 := of_decide_eq_true h4
     refine wp_seq ?_
     refine at_anyq [{}, {}, {}, {}, {}, {}, { ids := [6] }, {}, {}, {}, { ids := [7] }, {}, {}] { ts := [2, 3, 4, 5, 6, 7, 8, 9], os := [1, 2, 3, 4, 5, 6, 7] } [(0 : Int) ≤ ((i : Nat) : Int) ∧ ((i : Nat) : Int) < ((List.length x0.2 : Nat) : Int), i < List.length x0.2, Q_spec_AcceptPacket (x0.2.getD i (0, (0, (0, ([], 0))))) x1] gamOK hT mixed h (by kernel_rfl) ⟨(by refine ⟨?_, ?_⟩ <;> (first | omega | (simp only [lsA]; omega) | (simp <;> omega))), (by first | omega | (simp only [lsA]; omega) | (simp <;> omega)), (by first | exact ⟨newRec_fit _ _ _, hf1, Nat.le_trans (recP_new _ _ _).1 (by decide)⟩ | exact ⟨Sh.fit_getD hf0.2 i, hf1, Nat.le_trans ((rcvP_of (by assumption)).2 i (by omega)).1 (by decide)⟩), trivial⟩ fun a w h => then_normal (wp_seq ?_)
     replace h := at_out (σ' := ⟨[(2, aP 1 0), (3, aP 2 0), (4, aP 3 0), (5, aB false), (6, aP 5 0), (7, aI ((i : Nat) : Int)), (8, aP 7 0), (9, aB (acceptR (x0.2.getD i (0, (0, (0, ([], 0))))) x1).2)], [(1, oX 26 [cI x0.1, .ro s51 x0.2]), (2, oX 29 [cI x1.1, .ro (.int 3) x1.2.1, .ro (.int 3) x1.2.2]), (3, oX 26 [cI 0, cN]), (4, oF s51 x0.2), (5, oX 26 [cI x0.1, .sl 4]), (7, oX 51 [cI (acceptR (x0.2.getD i (0, (0, (0, ([], 0))))) x1).1.1, cI (acceptR (x0.2.getD i (0, (0, (0, ([], 0))))) x1).1.2.1, cI (acceptR (x0.2.getD i (0, (0, (0, ([], 0))))) x1).1.2.2.1, .ro s29 (acceptR (x0.2.getD i (0, (0, (0, ([], 0))))) x1).1.2.2.2.1, cI (acceptR (x0.2.getD i (0, (0, (0, ([], 0))))) x1).1.2.2.2.2])]⟩) { fz := [6], ts := [2, 3, 4, 5, 6, 7, 8, 9], os := [1, 2, 3, 4, 5, 7] } h (by kernel_rfl)
     refine at_regq [] { ts := [2, 3, 4, 5, 6, 7, 9], os := [1, 2, 3, 4, 5] } [(0 : Int) ≤ ((i : Nat) : Int) ∧ ((i : Nat) : Int) < ((List.length x0.2 : Nat) : Int), i < List.length x0.2] gamOK hT h (by kernel_rfl) ⟨(by refine ⟨?_, ?_⟩ <;> (first | omega | (simp only [lsA]; omega) | (simp <;> omega))), (by first | omega | (simp only [lsA]; omega) | (simp <;> omega)), trivial⟩ fun a w h => then_normal (wp_seq ?_)
     refine at_regq [] { ts := [2, 3, 4, 5, 6, 7], os := [1, 2, 3, 4, 5] } [] gamOK hT h (by kernel_rfl) trivial fun a w h => then_normal (wp_ret (then_ret ?_))
     exact at_return ((x0.1, (List.set x0.2 i (acceptR (x0.2.getD i (0, (0, (0, ([], 0))))) x1).1)), ((acceptR (x0.2.getD i (0, (0, (0, ([], 0))))) x1).2, ())) [] h (by kernel_rfl) trivial (congrArg (fun z => (z.1, z.2, ())) (show (((x0.1, (List.set x0.2 i (acceptR (x0.2.getD i (0, (0, (0, ([], 0))))) x1).1)), (acceptR (x0.2.getD i (0, (0, (0, ([], 0))))) x1).2)) = rcvL x0 x1 from by (first | exact rcvL_n (by assumption) | exact rcS_f (by assumption) (by omega) (by assumption) | (have hv9 := (validL_t (r := x0) (by assumption)).2.1; have hc9 := (rcS_nf (r := x0) (p := x1) (i := i) (by assumption) hok0.2 (fun hh9 => by first | assumption | exact absurd hh9 (by omega)) hok0.1 (by first | (left; omega) | (right; omega))); first | exact rcS_2 (by assumption) hc9 (.inl (by assumption)) | exact rcS_2 (by assumption) hc9 (.inr ⟨by omega, by omega⟩) | (have hl9 := rcY_len hc9; first | (exfalso; omega) | exact rcS_i (by assumption) hc9 (by assumption) (by omega) | exact rcS_d (by assumption) hc9 (by assumption) (by omega) (by omega))))))
    ·replace h4 : ¬ ((x0.2.getD i (0, (0, (0, ([], 0))))).1 = x1.1) := of_decide_eq_false h4
     refine wp_skip (then_normal (wp_seq ?_))
     refine at_anyq [{}, {}, {}, {}, {}, {}, {}, {}, { ids := [8] }, {}, { ids := [9] }, {}, {}, {}, { ids := [10] }, {}, {}] { ts := [2, 4, 5, 6, 7, 10, 11], os := [1, 3, 4, 5, 9, 10] } [True, Q_spec_AcceptPacket (newRec x1.1 ((List.length x1.2.1 : Nat) : Int) ((List.length x1.2.2 : Nat) : Int)) x1] gamOK hT mixed h (by kernel_rfl) ⟨trivial, (by first | exact ⟨newRec_fit _ _ _, hf1, Nat.le_trans (recP_new _ _ _).1 (by decide)⟩ | exact ⟨Sh.fit_getD hf0.2 i, hf1, Nat.le_trans ((rcvP_of (by assumption)).2 i (by omega)).1 (by decide)⟩), trivial⟩ fun a w h => then_normal (wp_seq (wp_seq ?_))
     rcases Bool.eq_false_or_eq_true (!(acceptR (newRec x1.1 ((List.length x1.2.1 : Nat) : Int) ((List.length x1.2.2 : Nat) : Int)) x1).2) with h5 | h5
     ·have hzh5 : (acceptR (newRec x1.1 ((List.length x1.2.1 : Nat) : Int) ((List.length x1.2.2 : Nat) : Int)) x1).2 = false := notT h5
      refine at_regq [{}, { hint := some (aB true) }] { ts := [2, 4, 5, 6, 7, 10, 94], os := [1, 3, 4, 5, 9, 10] } [(AV.p (.c (.v (.bool (!(acceptR (newRec x1.1 ((List.length x1.2.1 : Nat) : Int) ((List.length x1.2.2 : Nat) : Int)) x1).2)))) = AV.p (.c (.v (.bool true))))] gamOK hT h (by kernel_rfl) ⟨hint_bool (h5), trivial⟩ fun a w h => then_normal ?_
      refine at_test true h (by kernel_rfl) (fun hh => ?_) (fun hh => nomatch hh)
      refine wp_seq ?_
      refine at_regq [{}, { ids := [11] }] { ts := [4, 5, 6, 7, 10], os := [3, 4, 5, 9, 10, 11] } [Q_spec_l31Copy x0] gamOK hT h (by kernel_rfl) ⟨(by exact hf0), trivial⟩ fun a w h => then_normal (wp_ret (then_ret ?_))
      exact at_return (x0, (false, ())) [] h (by kernel_rfl) trivial (congrArg (fun z => (z.1, z.2, ())) (show ((x0, false)) = rcvL x0 x1 from by (first | exact rcvL_n (by assumption) | exact rcS_f (by assumption) (by omega) (by assumption) | (have hv9 := (validL_t (r := x0) (by assumption)).2.1; have hc9 := (rcS_nf (r := x0) (p := x1) (i := i) (by assumption) hok0.2 (fun hh9 => by first | assumption | exact absurd hh9 (by omega)) hok0.1 (by first | (left; omega) | (right; omega))); first | exact rcS_2 (by assumption) hc9 (.inl (by assumption)) | exact rcS_2 (by assumption) hc9 (.inr ⟨by omega, by omega⟩) | (have hl9 := rcY_len hc9; first | (exfalso; omega) | exact rcS_i (by assumption) hc9 (by assumption) (by omega) | exact rcS_d (by assumption) hc9 (by assumption) (by omega) (by omega))))))
     ·have hzh5 : (acceptR (newRec x1.1 ((List.length x1.2.1 : Nat) : Int) ((List.length x1.2.2 : Nat) : Int)) x1).2 = true := notF h5
      by_cases h6 : ((i : Nat) : Int) = 0
      ·refine at_regq [{}, { hint := some (aB false) }, {}, {}, { hint := some (aB true) }] { ts := [2, 4, 5, 6, 7, 10, 94], os := [1, 3, 4, 5, 9, 10] } [(AV.p (.c (.v (.bool (!(acceptR (newRec x1.1 ((List.length x1.2.1 : Nat) : Int) ((List.length x1.2.2 : Nat) : Int)) x1).2)))) = AV.p (.c (.v (.bool false)))), (AV.p (.c (.v (.bool (decide (((i : Nat) : Int) = 0))))) = AV.p (.c (.v (.bool true))))] gamOK hT h (by kernel_rfl) ⟨hint_bool (h5), hint_bool (decide_eq_true h6), trivial⟩ fun a w h => then_normal ?_
       refine at_test (decide (((List.length x0.2 : Nat) : Int) = 4)) h (by kernel_rfl) (fun h7 => ?_) (fun h7 => ?_)
       ·replace h7 : ((List.length x0.2 : Nat) : Int) = 4 := of_decide_eq_true h7
        refine wp_seq ?_
        refine at_regq [{}, { ids := [11] }] { ts := [4, 5, 6, 7, 10], os := [3, 4, 5, 9, 10, 11] } [Q_spec_l31Copy x0] gamOK hT h (by kernel_rfl) ⟨(by exact hf0), trivial⟩ fun a w h => then_normal (wp_ret (then_ret ?_))
        exact at_return (x0, (false, ())) [] h (by kernel_rfl) trivial (congrArg (fun z => (z.1, z.2, ())) (show ((x0, false)) = rcvL x0 x1 from by (first | exact rcvL_n (by assumption) | exact rcS_f (by assumption) (by omega) (by assumption) | (have hv9 := (validL_t (r := x0) (by assumption)).2.1; have hc9 := (rcS_nf (r := x0) (p := x1) (i := i) (by assumption) hok0.2 (fun hh9 => by first | assumption | exact absurd hh9 (by omega)) hok0.1 (by first | (left; omega) | (right; omega))); first | exact rcS_2 (by assumption) hc9 (.inl (by assumption)) | exact rcS_2 (by assumption) hc9 (.inr ⟨by omega, by omega⟩) | (have hl9 := rcY_len hc9; first | (exfalso; omega) | exact rcS_i (by assumption) hc9 (by assumption) (by omega) | exact rcS_d (by assumption) hc9 (by assumption) (by omega) (by omega))))))
       ·replace h7 : ¬ (((List.length x0.2 : Nat) : Int) = 4) := of_decide_eq_false h7
        refine wp_skip (then_normal (wp_seq ?_))
        replace h := at_out (σ' := ⟨[(4, aP 3 0), (5, aB false), (6, aP 5 0), (7, aI ((i : Nat) : Int)), (10, aP 10 0)], [(3, oX 26 [cI 0, cN]), (4, oF s51 x0.2), (5, oX 26 [cI x0.1, .sl 4]), (10, oX 51 [cI (acceptR (newRec x1.1 ((List.length x1.2.1 : Nat) : Int) ((List.length x1.2.2 : Nat) : Int)) x1).1.1, cI (acceptR (newRec x1.1 ((List.length x1.2.1 : Nat) : Int) ((List.length x1.2.2 : Nat) : Int)) x1).1.2.1, cI (acceptR (newRec x1.1 ((List.length x1.2.1 : Nat) : Int) ((List.length x1.2.2 : Nat) : Int)) x1).1.2.2.1, .ro s29 (acceptR (newRec x1.1 ((List.length x1.2.1 : Nat) : Int) ((List.length x1.2.2 : Nat) : Int)) x1).1.2.2.2.1, cI (acceptR (newRec x1.1 ((List.length x1.2.1 : Nat) : Int) ((List.length x1.2.2 : Nat) : Int)) x1).1.2.2.2.2])]⟩) { fz := [9], ts := [4, 5, 6, 7, 10], os := [3, 4, 5, 10] } h (by kernel_rfl)
        replace h := at_out (σ' := ⟨[(4, aP 3 0), (5, aB false), (6, aP 5 0), (7, aI ((i : Nat) : Int)), (10, aP 10 0)], [(3, oX 26 [cI 0, cN]), (5, oX 26 [cI x0.1, .ro s51 x0.2]), (10, oX 51 [cI (acceptR (newRec x1.1 ((List.length x1.2.1 : Nat) : Int) ((List.length x1.2.2 : Nat) : Int)) x1).1.1, cI (acceptR (newRec x1.1 ((List.length x1.2.1 : Nat) : Int) ((List.length x1.2.2 : Nat) : Int)) x1).1.2.1, cI (acceptR (newRec x1.1 ((List.length x1.2.1 : Nat) : Int) ((List.length x1.2.2 : Nat) : Int)) x1).1.2.2.1, .ro s29 (acceptR (newRec x1.1 ((List.length x1.2.1 : Nat) : Int) ((List.length x1.2.2 : Nat) : Int)) x1).1.2.2.2.1, cI (acceptR (newRec x1.1 ((List.length x1.2.1 : Nat) : Int) ((List.length x1.2.2 : Nat) : Int)) x1).1.2.2.2.2])]⟩) { fz := [4], ts := [4, 5, 6, 7, 10], os := [3, 5, 10] } h (by kernel_rfl)
        refine at_anyq [{ ids := [12], dp := false }, {}, {}, {}, {}, { ids := [13], dp := false }, {}, { ids := [14], dp := false }, { ids := [15], dp := false }, {}, {}, {}, {}, { ids := [16], dp := false }, {}, {}] { ts := [4, 5, 6], os := [3, 5, 16] } [(0 : Int) ≤ 0 ∧ 0 ≤ ((i : Nat) : Int) ∧ ((i : Nat) : Int) ≤ ((List.length x0.2 : Nat) : Int), (List.length ([] : List T51) + List.length (List.drop 0 (List.take i x0.2))) * 56 ≤ 140737488355328, (List.length (([] : List T51) ++ (List.drop 0 (List.take i x0.2))) + List.length ([(acceptR (newRec x1.1 ((List.length x1.2.1 : Nat) : Int) ((List.length x1.2.2 : Nat) : Int)) x1).1])) * 56 ≤ 140737488355328, (0 : Int) ≤ ((i : Nat) : Int) ∧ ((i : Nat) : Int) ≤ ((List.length x0.2 : Nat) : Int) ∧ ((List.length x0.2 : Nat) : Int) ≤ ((List.length x0.2 : Nat) : Int), (List.length ((([] : List T51) ++ (List.drop 0 (List.take i x0.2))) ++ ([(acceptR (newRec x1.1 ((List.length x1.2.1 : Nat) : Int) ((List.length x1.2.2 : Nat) : Int)) x1).1])) + List.length (List.drop i (List.take (List.length x0.2) x0.2))) * 56 ≤ 140737488355328] gamOK hT mixed h (by kernel_rfl) ⟨(by refine ⟨?_, ?_, ?_⟩ <;> (first | omega | (simp only [lsA]; omega) | (simp <;> omega))), (by (have hL0 := (show List.length (List.drop 0 (List.take i x0.2)) ≤ 1073741824 from ((Sh.fit_drop (Sh.fit_take hf0.2 i) 0)).1); first | omega | (simp only [lsA]; omega) | (simp <;> omega))), (by first | omega | (simp only [lsA]; omega) | (simp <;> omega)), (by refine ⟨?_, ?_, ?_⟩ <;> (first | omega | (simp only [lsA]; omega) | (simp <;> omega))), (by (have hL0 := (show List.length (List.drop i (List.take (List.length x0.2) x0.2)) ≤ 1073741824 from ((Sh.fit_drop (Sh.fit_take hf0.2 (List.length x0.2)) i)).1); first | omega | (simp only [lsA]; omega) | (simp <;> omega))), trivial⟩ fun a w h => then_normal (wp_seq (wp_seq ?_))
        refine at_regq [] { ts := [4, 5, 6, 115], os := [3, 5, 16] } [] gamOK hT h (by kernel_rfl) trivial fun a w h => then_normal ?_
        refine at_test (decide (((List.length (((([] : List T51) ++ (List.drop 0 (List.take i x0.2))) ++ ([(acceptR (newRec x1.1 ((List.length x1.2.1 : Nat) : Int) ((List.length x1.2.2 : Nat) : Int)) x1).1])) ++ (List.drop i (List.take (List.length x0.2) x0.2))) : Nat) : Int) > 4)) h (by kernel_rfl) (fun h8 => ?_) (fun h8 => ?_)
        ·replace h8 : ((List.length (((([] : List T51) ++ (List.drop 0 (List.take i x0.2))) ++ ([(acceptR (newRec x1.1 ((List.length x1.2.1 : Nat) : Int) ((List.length x1.2.2 : Nat) : Int)) x1).1])) ++ (List.drop i (List.take (List.length x0.2) x0.2))) : Nat) : Int) > 4 := of_decide_eq_true h8
         replace h := at_out (σ' := ⟨[(4, aP 3 0), (5, aB false), (6, aP 5 0)], [(3, oX 26 [cI 0, cN]), (5, oX 26 [cI x0.1, .ro s51 (((([] : List T51) ++ (List.drop 0 (List.take i x0.2))) ++ ([(acceptR (newRec x1.1 ((List.length x1.2.1 : Nat) : Int) ((List.length x1.2.2 : Nat) : Int)) x1).1])) ++ (List.drop i (List.take (List.length x0.2) x0.2)))])]⟩) { fz := [16], ts := [4, 5, 6], os := [3, 5] } h (by kernel_rfl)
         refine at_regq [] { ts := [4, 5, 6], os := [3, 5] } [(0 : Int) ≤ 1 ∧ 1 ≤ ((List.length (((([] : List T51) ++ (List.drop 0 (List.take i x0.2))) ++ ([(acceptR (newRec x1.1 ((List.length x1.2.1 : Nat) : Int) ((List.length x1.2.2 : Nat) : Int)) x1).1])) ++ (List.drop i (List.take (List.length x0.2) x0.2))) : Nat) : Int) ∧ ((List.length (((([] : List T51) ++ (List.drop 0 (List.take i x0.2))) ++ ([(acceptR (newRec x1.1 ((List.length x1.2.1 : Nat) : Int) ((List.length x1.2.2 : Nat) : Int)) x1).1])) ++ (List.drop i (List.take (List.length x0.2) x0.2))) : Nat) : Int) ≤ ((List.length (((([] : List T51) ++ (List.drop 0 (List.take i x0.2))) ++ ([(acceptR (newRec x1.1 ((List.length x1.2.1 : Nat) : Int) ((List.length x1.2.2 : Nat) : Int)) x1).1])) ++ (List.drop i (List.take (List.length x0.2) x0.2))) : Nat) : Int)] gamOK hT h (by kernel_rfl) ⟨(by refine ⟨?_, ?_, ?_⟩ <;> (first | omega | (simp only [lsA]; omega) | (simp <;> omega))), trivial⟩ fun a w h => then_normal (wp_seq ?_)
         refine at_regq [] { ts := [4, 5], os := [3] } [] gamOK hT h (by kernel_rfl) trivial fun a w h => then_normal (wp_ret ?_)
         exact at_return ((x0.1, (List.drop 1 (List.take (List.length (((([] : List T51) ++ (List.drop 0 (List.take i x0.2))) ++ ([(acceptR (newRec x1.1 ((List.length x1.2.1 : Nat) : Int) ((List.length x1.2.2 : Nat) : Int)) x1).1])) ++ (List.drop i (List.take (List.length x0.2) x0.2)))) (((([] : List T51) ++ (List.drop 0 (List.take i x0.2))) ++ ([(acceptR (newRec x1.1 ((List.length x1.2.1 : Nat) : Int) ((List.length x1.2.2 : Nat) : Int)) x1).1])) ++ (List.drop i (List.take (List.length x0.2) x0.2)))))), (true, ())) [] h (by kernel_rfl) trivial (congrArg (fun z => (z.1, z.2, ())) (show (((x0.1, (List.drop 1 (List.take (List.length (((([] : List T51) ++ (List.drop 0 (List.take i x0.2))) ++ ([(acceptR (newRec x1.1 ((List.length x1.2.1 : Nat) : Int) ((List.length x1.2.2 : Nat) : Int)) x1).1])) ++ (List.drop i (List.take (List.length x0.2) x0.2)))) (((([] : List T51) ++ (List.drop 0 (List.take i x0.2))) ++ ([(acceptR (newRec x1.1 ((List.length x1.2.1 : Nat) : Int) ((List.length x1.2.2 : Nat) : Int)) x1).1])) ++ (List.drop i (List.take (List.length x0.2) x0.2)))))), true)) = rcvL x0 x1 from by (first | exact rcvL_n (by assumption) | exact rcS_f (by assumption) (by omega) (by assumption) | (have hv9 := (validL_t (r := x0) (by assumption)).2.1; have hc9 := (rcS_nf (r := x0) (p := x1) (i := i) (by assumption) hok0.2 (fun hh9 => by first | assumption | exact absurd hh9 (by omega)) hok0.1 (by first | (left; omega) | (right; omega))); first | exact rcS_2 (by assumption) hc9 (.inl (by assumption)) | exact rcS_2 (by assumption) hc9 (.inr ⟨by omega, by omega⟩) | (have hl9 := rcY_len hc9; first | (exfalso; omega) | exact rcS_i (by assumption) hc9 (by assumption) (by omega) | exact rcS_d (by assumption) hc9 (by assumption) (by omega) (by omega))))))
        ·replace h8 : ¬ (((List.length (((([] : List T51) ++ (List.drop 0 (List.take i x0.2))) ++ ([(acceptR (newRec x1.1 ((List.length x1.2.1 : Nat) : Int) ((List.length x1.2.2 : Nat) : Int)) x1).1])) ++ (List.drop i (List.take (List.length x0.2) x0.2))) : Nat) : Int) > 4) := of_decide_eq_false h8
         refine wp_skip (then_normal (wp_seq ?_))
         refine at_regq [] { ts := [4, 5], os := [3, 16] } [] gamOK hT h (by kernel_rfl) trivial fun a w h => then_normal (wp_ret ?_)
         exact at_return ((x0.1, (((([] : List T51) ++ (List.drop 0 (List.take i x0.2))) ++ ([(acceptR (newRec x1.1 ((List.length x1.2.1 : Nat) : Int) ((List.length x1.2.2 : Nat) : Int)) x1).1])) ++ (List.drop i (List.take (List.length x0.2) x0.2)))), (true, ())) [] h (by kernel_rfl) trivial (congrArg (fun z => (z.1, z.2, ())) (show (((x0.1, (((([] : List T51) ++ (List.drop 0 (List.take i x0.2))) ++ ([(acceptR (newRec x1.1 ((List.length x1.2.1 : Nat) : Int) ((List.length x1.2.2 : Nat) : Int)) x1).1])) ++ (List.drop i (List.take (List.length x0.2) x0.2)))), true)) = rcvL x0 x1 from by (first | exact rcvL_n (by assumption) | exact rcS_f (by assumption) (by omega) (by assumption) | (have hv9 := (validL_t (r := x0) (by assumption)).2.1; have hc9 := (rcS_nf (r := x0) (p := x1) (i := i) (by assumption) hok0.2 (fun hh9 => by first | assumption | exact absurd hh9 (by omega)) hok0.1 (by first | (left; omega) | (right; omega))); first | exact rcS_2 (by assumption) hc9 (.inl (by assumption)) | exact rcS_2 (by assumption) hc9 (.inr ⟨by omega, by omega⟩) | (have hl9 := rcY_len hc9; first | (exfalso; omega) | exact rcS_i (by assumption) hc9 (by assumption) (by omega) | exact rcS_d (by assumption) hc9 (by assumption) (by omega) (by omega))))))
      ·refine at_regq [{}, { hint := some (aB false) }, {}, {}, { hint := some (aB false) }] { ts := [2, 4, 5, 6, 7, 10, 94], os := [1, 3, 4, 5, 9, 10] } [(AV.p (.c (.v (.bool (!(acceptR (newRec x1.1 ((List.length x1.2.1 : Nat) : Int) ((List.length x1.2.2 : Nat) : Int)) x1).2)))) = AV.p (.c (.v (.bool false)))), (AV.p (.c (.v (.bool (decide (((i : Nat) : Int) = 0))))) = AV.p (.c (.v (.bool false))))] gamOK hT h (by kernel_rfl) ⟨hint_bool (h5), hint_bool (decide_eq_false h6), trivial⟩ fun a w h => then_normal ?_
       refine at_test false h (by kernel_rfl) (fun hh => nomatch hh) (fun hh => ?_)
       refine wp_skip (then_normal (wp_seq ?_))
       replace h := at_out (σ' := ⟨[(4, aP 3 0), (5, aB false), (6, aP 5 0), (7, aI ((i : Nat) : Int)), (10, aP 10 0)], [(3, oX 26 [cI 0, cN]), (4, oF s51 x0.2), (5, oX 26 [cI x0.1, .sl 4]), (10, oX 51 [cI (acceptR (newRec x1.1 ((List.length x1.2.1 : Nat) : Int) ((List.length x1.2.2 : Nat) : Int)) x1).1.1, cI (acceptR (newRec x1.1 ((List.length x1.2.1 : Nat) : Int) ((List.length x1.2.2 : Nat) : Int)) x1).1.2.1, cI (acceptR (newRec x1.1 ((List.length x1.2.1 : Nat) : Int) ((List.length x1.2.2 : Nat) : Int)) x1).1.2.2.1, .ro s29 (acceptR (newRec x1.1 ((List.length x1.2.1 : Nat) : Int) ((List.length x1.2.2 : Nat) : Int)) x1).1.2.2.2.1, cI (acceptR (newRec x1.1 ((List.length x1.2.1 : Nat) : Int) ((List.length x1.2.2 : Nat) : Int)) x1).1.2.2.2.2])]⟩) { fz := [9], ts := [4, 5, 6, 7, 10], os := [3, 4, 5, 10] } h (by kernel_rfl)
       replace h := at_out (σ' := ⟨[(4, aP 3 0), (5, aB false), (6, aP 5 0), (7, aI ((i : Nat) : Int)), (10, aP 10 0)], [(3, oX 26 [cI 0, cN]), (5, oX 26 [cI x0.1, .ro s51 x0.2]), (10, oX 51 [cI (acceptR (newRec x1.1 ((List.length x1.2.1 : Nat) : Int) ((List.length x1.2.2 : Nat) : Int)) x1).1.1, cI (acceptR (newRec x1.1 ((List.length x1.2.1 : Nat) : Int) ((List.length x1.2.2 : Nat) : Int)) x1).1.2.1, cI (acceptR (newRec x1.1 ((List.length x1.2.1 : Nat) : Int) ((List.length x1.2.2 : Nat) : Int)) x1).1.2.2.1, .ro s29 (acceptR (newRec x1.1 ((List.length x1.2.1 : Nat) : Int) ((List.length x1.2.2 : Nat) : Int)) x1).1.2.2.2.1, cI (acceptR (newRec x1.1 ((List.length x1.2.1 : Nat) : Int) ((List.length x1.2.2 : Nat) : Int)) x1).1.2.2.2.2])]⟩) { fz := [4], ts := [4, 5, 6, 7, 10], os := [3, 5, 10] } h (by kernel_rfl)
       refine at_anyq [{ ids := [11], dp := false }, {}, {}, {}, {}, { ids := [12], dp := false }, {}, { ids := [13], dp := false }, { ids := [14], dp := false }, {}, {}, {}, {}, { ids := [15], dp := false }, {}, {}] { ts := [4, 5, 6], os := [3, 5, 15] } [(0 : Int) ≤ 0 ∧ 0 ≤ ((i : Nat) : Int) ∧ ((i : Nat) : Int) ≤ ((List.length x0.2 : Nat) : Int), (List.length ([] : List T51) + List.length (List.drop 0 (List.take i x0.2))) * 56 ≤ 140737488355328, (List.length (([] : List T51) ++ (List.drop 0 (List.take i x0.2))) + List.length ([(acceptR (newRec x1.1 ((List.length x1.2.1 : Nat) : Int) ((List.length x1.2.2 : Nat) : Int)) x1).1])) * 56 ≤ 140737488355328, (0 : Int) ≤ ((i : Nat) : Int) ∧ ((i : Nat) : Int) ≤ ((List.length x0.2 : Nat) : Int) ∧ ((List.length x0.2 : Nat) : Int) ≤ ((List.length x0.2 : Nat) : Int), (List.length ((([] : List T51) ++ (List.drop 0 (List.take i x0.2))) ++ ([(acceptR (newRec x1.1 ((List.length x1.2.1 : Nat) : Int) ((List.length x1.2.2 : Nat) : Int)) x1).1])) + List.length (List.drop i (List.take (List.length x0.2) x0.2))) * 56 ≤ 140737488355328] gamOK hT mixed h (by kernel_rfl) ⟨(by refine ⟨?_, ?_, ?_⟩ <;> (first | omega | (simp only [lsA]; omega) | (simp <;> omega))), (by (have hL0 := (show List.length (List.drop 0 (List.take i x0.2)) ≤ 1073741824 from ((Sh.fit_drop (Sh.fit_take hf0.2 i) 0)).1); first | omega | (simp only [lsA]; omega) | (simp <;> omega))), (by first | omega | (simp only [lsA]; omega) | (simp <;> omega)), (by refine ⟨?_, ?_, ?_⟩ <;> (first | omega | (simp only [lsA]; omega) | (simp <;> omega))), (by (have hL0 := (show List.length (List.drop i (List.take (List.length x0.2) x0.2)) ≤ 1073741824 from ((Sh.fit_drop (Sh.fit_take hf0.2 (List.length x0.2)) i)).1); first | omega | (simp only [lsA]; omega) | (simp <;> omega))), trivial⟩ fun a w h => then_normal (wp_seq (wp_seq ?_))
       refine at_regq [] { ts := [4, 5, 6, 115], os := [3, 5, 15] } [] gamOK hT h (by kernel_rfl) trivial fun a w h => then_normal ?_
       refine at_test (decide (((List.length (((([] : List T51) ++ (List.drop 0 (List.take i x0.2))) ++ ([(acceptR (newRec x1.1 ((List.length x1.2.1 : Nat) : Int) ((List.length x1.2.2 : Nat) : Int)) x1).1])) ++ (List.drop i (List.take (List.length x0.2) x0.2))) : Nat) : Int) > 4)) h (by kernel_rfl) (fun h9 => ?_) (fun h9 => ?_)
       ·replace h9 : ((List.length (((([] : List T51) ++ (List.drop 0 (List.take i x0.2))) ++ ([(acceptR (newRec x1.1 ((List.length x1.2.1 : Nat) : Int) ((List.length x1.2.2 : Nat) : Int)) x1).1])) ++ (List.drop i (List.take (List.length x0.2) x0.2))) : Nat) : Int) > 4 := of_decide_eq_true h9
        replace h := at_out (σ' := ⟨[(4, aP 3 0), (5, aB false), (6, aP 5 0)], [(3, oX 26 [cI 0, cN]), (5, oX 26 [cI x0.1, .ro s51 (((([] : List T51) ++ (List.drop 0 (List.take i x0.2))) ++ ([(acceptR (newRec x1.1 ((List.length x1.2.1 : Nat) : Int) ((List.length x1.2.2 : Nat) : Int)) x1).1])) ++ (List.drop i (List.take (List.length x0.2) x0.2)))])]⟩) { fz := [15], ts := [4, 5, 6], os := [3, 5] } h (by kernel_rfl)
        refine at_regq [] { ts := [4, 5, 6], os := [3, 5] } [(0 : Int) ≤ 1 ∧ 1 ≤ ((List.length (((([] : List T51) ++ (List.drop 0 (List.take i x0.2))) ++ ([(acceptR (newRec x1.1 ((List.length x1.2.1 : Nat) : Int) ((List.length x1.2.2 : Nat) : Int)) x1).1])) ++ (List.drop i (List.take (List.length x0.2) x0.2))) : Nat) : Int) ∧ ((List.length (((([] : List T51) ++ (List.drop 0 (List.take i x0.2))) ++ ([(acceptR (newRec x1.1 ((List.length x1.2.1 : Nat) : Int) ((List.length x1.2.2 : Nat) : Int)) x1).1])) ++ (List.drop i (List.take (List.length x0.2) x0.2))) : Nat) : Int) ≤ ((List.length (((([] : List T51) ++ (List.drop 0 (List.take i x0.2))) ++ ([(acceptR (newRec x1.1 ((List.length x1.2.1 : Nat) : Int) ((List.length x1.2.2 : Nat) : Int)) x1).1])) ++ (List.drop i (List.take (List.length x0.2) x0.2))) : Nat) : Int)] gamOK hT h (by kernel_rfl) ⟨(by refine ⟨?_, ?_, ?_⟩ <;> (first | omega | (simp only [lsA]; omega) | (simp <;> omega))), trivial⟩ fun a w h => then_normal (wp_seq ?_)
        refine at_regq [] { ts := [4, 5], os := [3] } [] gamOK hT h (by kernel_rfl) trivial fun a w h => then_normal (wp_ret ?_)
        exact at_return ((x0.1, (List.drop 1 (List.take (List.length (((([] : List T51) ++ (List.drop 0 (List.take i x0.2))) ++ ([(acceptR (newRec x1.1 ((List.length x1.2.1 : Nat) : Int) ((List.length x1.2.2 : Nat) : Int)) x1).1])) ++ (List.drop i (List.take (List.length x0.2) x0.2)))) (((([] : List T51) ++ (List.drop 0 (List.take i x0.2))) ++ ([(acceptR (newRec x1.1 ((List.length x1.2.1 : Nat) : Int) ((List.length x1.2.2 : Nat) : Int)) x1).1])) ++ (List.drop i (List.take (List.length x0.2) x0.2)))))), (true, ())) [] h (by kernel_rfl) trivial (congrArg (fun z => (z.1, z.2, ())) (show (((x0.1, (List.drop 1 (List.take (List.length (((([] : List T51) ++ (List.drop 0 (List.take i x0.2))) ++ ([(acceptR (newRec x1.1 ((List.length x1.2.1 : Nat) : Int) ((List.length x1.2.2 : Nat) : Int)) x1).1])) ++ (List.drop i (List.take (List.length x0.2) x0.2)))) (((([] : List T51) ++ (List.drop 0 (List.take i x0.2))) ++ ([(acceptR (newRec x1.1 ((List.length x1.2.1 : Nat) : Int) ((List.length x1.2.2 : Nat) : Int)) x1).1])) ++ (List.drop i (List.take (List.length x0.2) x0.2)))))), true)) = rcvL x0 x1 from by (first | exact rcvL_n (by assumption) | exact rcS_f (by assumption) (by omega) (by assumption) | (have hv9 := (validL_t (r := x0) (by assumption)).2.1; have hc9 := (rcS_nf (r := x0) (p := x1) (i := i) (by assumption) hok0.2 (fun hh9 => by first | assumption | exact absurd hh9 (by omega)) hok0.1 (by first | (left; omega) | (right; omega))); first | exact rcS_2 (by assumption) hc9 (.inl (by assumption)) | exact rcS_2 (by assumption) hc9 (.inr ⟨by omega, by omega⟩) | (have hl9 := rcY_len hc9; first | (exfalso; omega) | exact rcS_i (by assumption) hc9 (by assumption) (by omega) | exact rcS_d (by assumption) hc9 (by assumption) (by omega) (by omega))))))
       ·replace h9 : ¬ (((List.length (((([] : List T51) ++ (List.drop 0 (List.take i x0.2))) ++ ([(acceptR (newRec x1.1 ((List.length x1.2.1 : Nat) : Int) ((List.length x1.2.2 : Nat) : Int)) x1).1])) ++ (List.drop i (List.take (List.length x0.2) x0.2))) : Nat) : Int) > 4) := of_decide_eq_false h9
        refine wp_skip (then_normal (wp_seq ?_))
        refine at_regq [] { ts := [4, 5], os := [3, 15] } [] gamOK hT h (by kernel_rfl) trivial fun a w h => then_normal (wp_ret ?_)
        exact at_return ((x0.1, (((([] : List T51) ++ (List.drop 0 (List.take i x0.2))) ++ ([(acceptR (newRec x1.1 ((List.length x1.2.1 : Nat) : Int) ((List.length x1.2.2 : Nat) : Int)) x1).1])) ++ (List.drop i (List.take (List.length x0.2) x0.2)))), (true, ())) [] h (by kernel_rfl) trivial (congrArg (fun z => (z.1, z.2, ())) (show (((x0.1, (((([] : List T51) ++ (List.drop 0 (List.take i x0.2))) ++ ([(acceptR (newRec x1.1 ((List.length x1.2.1 : Nat) : Int) ((List.length x1.2.2 : Nat) : Int)) x1).1])) ++ (List.drop i (List.take (List.length x0.2) x0.2)))), true)) = rcvL x0 x1 from by (first | exact rcvL_n (by assumption) | exact rcS_f (by assumption) (by omega) (by assumption) | (have hv9 := (validL_t (r := x0) (by assumption)).2.1; have hc9 := (rcS_nf (r := x0) (p := x1) (i := i) (by assumption) hok0.2 (fun hh9 => by first | assumption | exact absurd hh9 (by omega)) hok0.1 (by first | (left; omega) | (right; omega))); first | exact rcS_2 (by assumption) hc9 (.inl (by assumption)) | exact rcS_2 (by assumption) hc9 (.inr ⟨by omega, by omega⟩) | (have hl9 := rcY_len hc9; first | (exfalso; omega) | exact rcS_i (by assumption) hc9 (by assumption) (by omega) | exact rcS_d (by assumption) hc9 (by assumption) (by omega) (by omega))))))
  ·refine at_anyq [{}, {}, {}, {}, { hint := some (aB false) }, {}, {}, {}, {}, {}, {}, {}, {}, {}, {}, {}] { ts := [2, 3, 4, 5, 6, 7, 24, 25, 26, 27, 28, 29, 30, 31, 32, 33], os := [1, 2, 3, 4, 5] } [(AV.p (.c (.v (.bool (decide (((i : Nat) : Int) < ((List.length x0.2 : Nat) : Int)))))) = AV.p (.c (.v (.bool false))))] gamOK hT mixed h (by kernel_rfl) ⟨hint_bool (decide_eq_false h2), trivial⟩ fun a w h => then_normal ?_
   refine at_test false h (by kernel_rfl) (fun hh => nomatch hh) (fun hh => ?_)
   refine wp_exit (then_exit (then_exit (in_hit (then_normal (wp_seq (wp_seq ?_))))))
   refine at_anyq [{}, {}, {}, {}, { hint := some (aB false) }, {}, {}, {}, {}, {}, {}, {}, {}, {}, {}, {}] { ts := [2, 3, 4, 5, 6, 7, 51], os := [1, 2, 3, 4, 5] } [(AV.p (.c (.v (.bool (decide (((i : Nat) : Int) < ((List.length x0.2 : Nat) : Int)))))) = AV.p (.c (.v (.bool false))))] gamOK hT mixed h (by kernel_rfl) ⟨hint_bool (decide_eq_false h2), trivial⟩ fun a w h => then_normal ?_
   refine at_test false h (by kernel_rfl) (fun hh => nomatch hh) (fun hh => ?_)
   refine wp_skip (then_normal (wp_seq ?_))
   refine at_anyq [{}, {}, {}, {}, {}, {}, {}, {}, { ids := [6] }, {}, { ids := [7] }, {}, {}, {}, { ids := [8] }, {}, {}] { ts := [2, 4, 5, 6, 7, 10, 11], os := [1, 3, 4, 5, 7, 8] } [True, Q_spec_AcceptPacket (newRec x1.1 ((List.length x1.2.1 : Nat) : Int) ((List.length x1.2.2 : Nat) : Int)) x1] gamOK hT mixed h (by kernel_rfl) ⟨trivial, (by first | exact ⟨newRec_fit _ _ _, hf1, Nat.le_trans (recP_new _ _ _).1 (by decide)⟩ | exact ⟨Sh.fit_getD hf0.2 i, hf1, Nat.le_trans ((rcvP_of (by assumption)).2 i (by omega)).1 (by decide)⟩), trivial⟩ fun a w h => then_normal (wp_seq (wp_seq ?_))
   rcases Bool.eq_false_or_eq_true (!(acceptR (newRec x1.1 ((List.length x1.2.1 : Nat) : Int) ((List.length x1.2.2 : Nat) : Int)) x1).2) with h10 | h10
   ·have hzh10 : (acceptR (newRec x1.1 ((List.length x1.2.1 : Nat) : Int) ((List.length x1.2.2 : Nat) : Int)) x1).2 = false := notT h10
    refine at_regq [{}, { hint := some (aB true) }] { ts := [2, 4, 5, 6, 7, 10, 94], os := [1, 3, 4, 5, 7, 8] } [(AV.p (.c (.v (.bool (!(acceptR (newRec x1.1 ((List.length x1.2.1 : Nat) : Int) ((List.length x1.2.2 : Nat) : Int)) x1).2)))) = AV.p (.c (.v (.bool true))))] gamOK hT h (by kernel_rfl) ⟨hint_bool (h10), trivial⟩ fun a w h => then_normal ?_
    refine at_test true h (by kernel_rfl) (fun hh => ?_) (fun hh => nomatch hh)
    refine wp_seq ?_
    refine at_regq [{}, { ids := [9] }] { ts := [4, 5, 6, 7, 10], os := [3, 4, 5, 7, 8, 9] } [Q_spec_l31Copy x0] gamOK hT h (by kernel_rfl) ⟨(by exact hf0), trivial⟩ fun a w h => then_normal (wp_ret (then_ret ?_))
    exact at_return (x0, (false, ())) [] h (by kernel_rfl) trivial (congrArg (fun z => (z.1, z.2, ())) (show ((x0, false)) = rcvL x0 x1 from by (first | exact rcvL_n (by assumption) | exact rcS_f (by assumption) (by omega) (by assumption) | (have hv9 := (validL_t (r := x0) (by assumption)).2.1; have hc9 := (rcS_nf (r := x0) (p := x1) (i := i) (by assumption) hok0.2 (fun hh9 => by first | assumption | exact absurd hh9 (by omega)) hok0.1 (by first | (left; omega) | (right; omega))); first | exact rcS_2 (by assumption) hc9 (.inl (by assumption)) | exact rcS_2 (by assumption) hc9 (.inr ⟨by omega, by omega⟩) | (have hl9 := rcY_len hc9; first | (exfalso; omega) | exact rcS_i (by assumption) hc9 (by assumption) (by omega) | exact rcS_d (by assumption) hc9 (by assumption) (by omega) (by omega))))))
   ·have hzh10 : (acceptR (newRec x1.1 ((List.length x1.2.1 : Nat) : Int) ((List.length x1.2.2 : Nat) : Int)) x1).2 = true := notF h10
    by_cases h11 : ((i : Nat) : Int) = 0
    ·refine at_regq [{}, { hint := some (aB false) }, {}, {}, { hint := some (aB true) }] { ts := [2, 4, 5, 6, 7, 10, 94], os := [1, 3, 4, 5, 7, 8] } [(AV.p (.c (.v (.bool (!(acceptR (newRec x1.1 ((List.length x1.2.1 : Nat) : Int) ((List.length x1.2.2 : Nat) : Int)) x1).2)))) = AV.p (.c (.v (.bool false)))), (AV.p (.c (.v (.bool (decide (((i : Nat) : Int) = 0))))) = AV.p (.c (.v (.bool true))))] gamOK hT h (by kernel_rfl) ⟨hint_bool (h10), hint_bool (decide_eq_true h11), trivial⟩ fun a w h => then_normal ?_
     refine at_test (decide (((List.length x0.2 : Nat) : Int) = 4)) h (by kernel_rfl) (fun h12 => ?_) (fun h12 => ?_)
     ·replace h12 : ((List.length x0.2 : Nat) : Int) = 4 := of_decide_eq_true h12
      refine wp_seq ?_
      refine at_regq [{}, { ids := [9] }] { ts := [4, 5, 6, 7, 10], os := [3, 4, 5, 7, 8, 9] } [Q_spec_l31Copy x0] gamOK hT h (by kernel_rfl) ⟨(by exact hf0), trivial⟩ fun a w h => then_normal (wp_ret (then_ret ?_))
      exact at_return (x0, (false, ())) [] h (by kernel_rfl) trivial (congrArg (fun z => (z.1, z.2, ())) (show ((x0, false)) = rcvL x0 x1 from by (first | exact rcvL_n (by assumption) | exact rcS_f (by assumption) (by omega) (by assumption) | (have hv9 := (validL_t (r := x0) (by assumption)).2.1; have hc9 := (rcS_nf (r := x0) (p := x1) (i := i) (by assumption) hok0.2 (fun hh9 => by first | assumption | exact absurd hh9 (by omega)) hok0.1 (by first | (left; omega) | (right; omega))); first | exact rcS_2 (by assumption) hc9 (.inl (by assumption)) | exact rcS_2 (by assumption) hc9 (.inr ⟨by omega, by omega⟩) | (have hl9 := rcY_len hc9; first | (exfalso; omega) | exact rcS_i (by assumption) hc9 (by assumption) (by omega) | exact rcS_d (by assumption) hc9 (by assumption) (by omega) (by omega))))))
     ·replace h12 : ¬ (((List.length x0.2 : Nat) : Int) = 4) := of_decide_eq_false h12
      refine wp_skip (then_normal (wp_seq ?_))
      replace h := at_out (σ' := ⟨[(4, aP 3 0), (5, aB false), (6, aP 5 0), (7, aI ((i : Nat) : Int)), (10, aP 8 0)], [(3, oX 26 [cI 0, cN]), (4, oF s51 x0.2), (5, oX 26 [cI x0.1, .sl 4]), (8, oX 51 [cI (acceptR (newRec x1.1 ((List.length x1.2.1 : Nat) : Int) ((List.length x1.2.2 : Nat) : Int)) x1).1.1, cI (acceptR (newRec x1.1 ((List.length x1.2.1 : Nat) : Int) ((List.length x1.2.2 : Nat) : Int)) x1).1.2.1, cI (acceptR (newRec x1.1 ((List.length x1.2.1 : Nat) : Int) ((List.length x1.2.2 : Nat) : Int)) x1).1.2.2.1, .ro s29 (acceptR (newRec x1.1 ((List.length x1.2.1 : Nat) : Int) ((List.length x1.2.2 : Nat) : Int)) x1).1.2.2.2.1, cI (acceptR (newRec x1.1 ((List.length x1.2.1 : Nat) : Int) ((List.length x1.2.2 : Nat) : Int)) x1).1.2.2.2.2])]⟩) { fz := [7], ts := [4, 5, 6, 7, 10], os := [3, 4, 5, 8] } h (by kernel_rfl)
      replace h := at_out (σ' := ⟨[(4, aP 3 0), (5, aB false), (6, aP 5 0), (7, aI ((i : Nat) : Int)), (10, aP 8 0)], [(3, oX 26 [cI 0, cN]), (5, oX 26 [cI x0.1, .ro s51 x0.2]), (8, oX 51 [cI (acceptR (newRec x1.1 ((List.length x1.2.1 : Nat) : Int) ((List.length x1.2.2 : Nat) : Int)) x1).1.1, cI (acceptR (newRec x1.1 ((List.length x1.2.1 : Nat) : Int) ((List.length x1.2.2 : Nat) : Int)) x1).1.2.1, cI (acceptR (newRec x1.1 ((List.length x1.2.1 : Nat) : Int) ((List.length x1.2.2 : Nat) : Int)) x1).1.2.2.1, .ro s29 (acceptR (newRec x1.1 ((List.length x1.2.1 : Nat) : Int) ((List.length x1.2.2 : Nat) : Int)) x1).1.2.2.2.1, cI (acceptR (newRec x1.1 ((List.length x1.2.1 : Nat) : Int) ((List.length x1.2.2 : Nat) : Int)) x1).1.2.2.2.2])]⟩) { fz := [4], ts := [4, 5, 6, 7, 10], os := [3, 5, 8] } h (by kernel_rfl)
      refine at_anyq [{ ids := [10], dp := false }, {}, {}, {}, {}, { ids := [11], dp := false }, {}, { ids := [12], dp := false }, { ids := [13], dp := false }, {}, {}, {}, {}, { ids := [14], dp := false }, {}, {}] { ts := [4, 5, 6], os := [3, 5, 14] } [(0 : Int) ≤ 0 ∧ 0 ≤ ((i : Nat) : Int) ∧ ((i : Nat) : Int) ≤ ((List.length x0.2 : Nat) : Int), (List.length ([] : List T51) + List.length (List.drop 0 (List.take i x0.2))) * 56 ≤ 140737488355328, (List.length (([] : List T51) ++ (List.drop 0 (List.take i x0.2))) + List.length ([(acceptR (newRec x1.1 ((List.length x1.2.1 : Nat) : Int) ((List.length x1.2.2 : Nat) : Int)) x1).1])) * 56 ≤ 140737488355328, (0 : Int) ≤ ((i : Nat) : Int) ∧ ((i : Nat) : Int) ≤ ((List.length x0.2 : Nat) : Int) ∧ ((List.length x0.2 : Nat) : Int) ≤ ((List.length x0.2 : Nat) : Int), (List.length ((([] : List T51) ++ (List.drop 0 (List.take i x0.2))) ++ ([(acceptR (newRec x1.1 ((List.length x1.2.1 : Nat) : Int) ((List.length x1.2.2 : Nat) : Int)) x1).1])) + List.length (List.drop i (List.take (List.length x0.2) x0.2))) * 56 ≤ 140737488355328] gamOK hT mixed h (by kernel_rfl) ⟨(by refine ⟨?_, ?_, ?_⟩ <;> (first | omega | (simp only [lsA]; omega) | (simp <;> omega))), (by (have hL0 := (show List.length (List.drop 0 (List.take i x0.2)) ≤ 1073741824 from ((Sh.fit_drop (Sh.fit_take hf0.2 i) 0)).1); first | omega | (simp only [lsA]; omega) | (simp <;> omega))), (by first | omega | (simp only [lsA]; omega) | (simp <;> omega)), (by refine ⟨?_, ?_, ?_⟩ <;> (first | omega | (simp only [lsA]; omega) | (simp <;> omega))), (by (have hL0 := (show List.length (List.drop i (List.take (List.length x0.2) x0.2)) ≤ 1073741824 from ((Sh.fit_drop (Sh.fit_take hf0.2 (List.length x0.2)) i)).1); first | omega | (simp only [lsA]; omega) | (simp <;> omega))), trivial⟩ fun a w h => then_normal (wp_seq (wp_seq ?_))
      refine at_regq [] { ts := [4, 5, 6, 115], os := [3, 5, 14] } [] gamOK hT h (by kernel_rfl) trivial fun a w h => then_normal ?_
      refine at_test (decide (((List.length (((([] : List T51) ++ (List.drop 0 (List.take i x0.2))) ++ ([(acceptR (newRec x1.1 ((List.length x1.2.1 : Nat) : Int) ((List.length x1.2.2 : Nat) : Int)) x1).1])) ++ (List.drop i (List.take (List.length x0.2) x0.2))) : Nat) : Int) > 4)) h (by kernel_rfl) (fun h13 => ?_) (fun h13 => ?_)
      ·replace h13 : ((List.length (((([] : List T51) ++ (List.drop 0 (List.take i x0.2))) ++ ([(acceptR (newRec x1.1 ((List.length x1.2.1 : Nat) : Int) ((List.length x1.2.2 : Nat) : Int)) x1).1])) ++ (List.drop i (List.take (List.length x0.2) x0.2))) : Nat) : Int) > 4 := of_decide_eq_true h13
       replace h := at_out (σ' := ⟨[(4, aP 3 0), (5, aB false), (6, aP 5 0)], [(3, oX 26 [cI 0, cN]), (5, oX 26 [cI x0.1, .ro s51 (((([] : List T51) ++ (List.drop 0 (List.take i x0.2))) ++ ([(acceptR (newRec x1.1 ((List.length x1.2.1 : Nat) : Int) ((List.length x1.2.2 : Nat) : Int)) x1).1])) ++ (List.drop i (List.take (List.length x0.2) x0.2)))])]⟩) { fz := [14], ts := [4, 5, 6], os := [3, 5] } h (by kernel_rfl)
       refine at_regq [] { ts := [4, 5, 6], os := [3, 5] } [(0 : Int) ≤ 1 ∧ 1 ≤ ((List.length (((([] : List T51) ++ (List.drop 0 (List.take i x0.2))) ++ ([(acceptR (newRec x1.1 ((List.length x1.2.1 : Nat) : Int) ((List.length x1.2.2 : Nat) : Int)) x1).1])) ++ (List.drop i (List.take (List.length x0.2) x0.2))) : Nat) : Int) ∧ ((List.length (((([] : List T51) ++ (List.drop 0 (List.take i x0.2))) ++ ([(acceptR (newRec x1.1 ((List.length x1.2.1 : Nat) : Int) ((List.length x1.2.2 : Nat) : Int)) x1).1])) ++ (List.drop i (List.take (List.length x0.2) x0.2))) : Nat) : Int) ≤ ((List.length (((([] : List T51) ++ (List.drop 0 (List.take i x0.2))) ++ ([(acceptR (newRec x1.1 ((List.length x1.2.1 : Nat) : Int) ((List.length x1.2.2 : Nat) : Int)) x1).1])) ++ (List.drop i (List.take (List.length x0.2) x0.2))) : Nat) : Int)] gamOK hT h (by kernel_rfl) ⟨(by refine ⟨?_, ?_, ?_⟩ <;> (first | omega | (simp only [lsA]; omega) | (simp <;> omega))), trivial⟩ fun a w h => then_normal (wp_seq ?_)
       refine at_regq [] { ts := [4, 5], os := [3] } [] gamOK hT h (by kernel_rfl) trivial fun a w h => then_normal (wp_ret ?_)
       exact at_return ((x0.1, (List.drop 1 (List.take (List.length (((([] : List T51) ++ (List.drop 0 (List.take i x0.2))) ++ ([(acceptR (newRec x1.1 ((List.length x1.2.1 : Nat) : Int) ((List.length x1.2.2 : Nat) : Int)) x1).1])) ++ (List.drop i (List.take (List.length x0.2) x0.2)))) (((([] : List T51) ++ (List.drop 0 (List.take i x0.2))) ++ ([(acceptR (newRec x1.1 ((List.length x1.2.1 : Nat) : Int) ((List.length x1.2.2 : Nat) : Int)) x1).1])) ++ (List.drop i (List.take (List.length x0.2) x0.2)))))), (true, ())) [] h (by kernel_rfl) trivial (congrArg (fun z => (z.1, z.2, ())) (show (((x0.1, (List.drop 1 (List.take (List.length (((([] : List T51) ++ (List.drop 0 (List.take i x0.2))) ++ ([(acceptR (newRec x1.1 ((List.length x1.2.1 : Nat) : Int) ((List.length x1.2.2 : Nat) : Int)) x1).1])) ++ (List.drop i (List.take (List.length x0.2) x0.2)))) (((([] : List T51) ++ (List.drop 0 (List.take i x0.2))) ++ ([(acceptR (newRec x1.1 ((List.length x1.2.1 : Nat) : Int) ((List.length x1.2.2 : Nat) : Int)) x1).1])) ++ (List.drop i (List.take (List.length x0.2) x0.2)))))), true)) = rcvL x0 x1 from by (first | exact rcvL_n (by assumption) | exact rcS_f (by assumption) (by omega) (by assumption) | (have hv9 := (validL_t (r := x0) (by assumption)).2.1; have hc9 := (rcS_nf (r := x0) (p := x1) (i := i) (by assumption) hok0.2 (fun hh9 => by first | assumption | exact absurd hh9 (by omega)) hok0.1 (by first | (left; omega) | (right; omega))); first | exact rcS_2 (by assumption) hc9 (.inl (by assumption)) | exact rcS_2 (by assumption) hc9 (.inr ⟨by omega, by omega⟩) | (have hl9 := rcY_len hc9; first | (exfalso; omega) | exact rcS_i (by assumption) hc9 (by assumption) (by omega) | exact rcS_d (by assumption) hc9 (by assumption) (by omega) (by omega))))))
      ·replace h13 : ¬ (((List.length (((([] : List T51) ++ (List.drop 0 (List.take i x0.2))) ++ ([(acceptR (newRec x1.1 ((List.length x1.2.1 : Nat) : Int) ((List.length x1.2.2 : Nat) : Int)) x1).1])) ++ (List.drop i (List.take (List.length x0.2) x0.2))) : Nat) : Int) > 4) := of_decide_eq_false h13
       refine wp_skip (then_normal (wp_seq ?_))
       refine at_regq [] { ts := [4, 5], os := [3, 14] } [] gamOK hT h (by kernel_rfl) trivial fun a w h => then_normal (wp_ret ?_)
       exact at_return ((x0.1, (((([] : List T51) ++ (List.drop 0 (List.take i x0.2))) ++ ([(acceptR (newRec x1.1 ((List.length x1.2.1 : Nat) : Int) ((List.length x1.2.2 : Nat) : Int)) x1).1])) ++ (List.drop i (List.take (List.length x0.2) x0.2)))), (true, ())) [] h (by kernel_rfl) trivial (congrArg (fun z => (z.1, z.2, ())) (show (((x0.1, (((([] : List T51) ++ (List.drop 0 (List.take i x0.2))) ++ ([(acceptR (newRec x1.1 ((List.length x1.2.1 : Nat) : Int) ((List.length x1.2.2 : Nat) : Int)) x1).1])) ++ (List.drop i (List.take (List.length x0.2) x0.2)))), true)) = rcvL x0 x1 from by (first | exact rcvL_n (by assumption) | exact rcS_f (by assumption) (by omega) (by assumption) | (have hv9 := (validL_t (r := x0) (by assumption)).2.1; have hc9 := (rcS_nf (r := x0) (p := x1) (i := i) (by assumption) hok0.2 (fun hh9 => by first | assumption | exact absurd hh9 (by omega)) hok0.1 (by first | (left; omega) | (right; omega))); first | exact rcS_2 (by assumption) hc9 (.inl (by assumption)) | exact rcS_2 (by assumption) hc9 (.inr ⟨by omega, by omega⟩) | (have hl9 := rcY_len hc9; first | (exfalso; omega) | exact rcS_i (by assumption) hc9 (by assumption) (by omega) | exact rcS_d (by assumption) hc9 (by assumption) (by omega) (by omega))))))
    ·refine at_regq [{}, { hint := some (aB false) }, {}, {}, { hint := some (aB false) }] { ts := [2, 4, 5, 6, 7, 10, 94], os := [1, 3, 4, 5, 7, 8] } [(AV.p (.c (.v (.bool (!(acceptR (newRec x1.1 ((List.length x1.2.1 : Nat) : Int) ((List.length x1.2.2 : Nat) : Int)) x1).2)))) = AV.p (.c (.v (.bool false)))), (AV.p (.c (.v (.bool (decide (((i : Nat) : Int) = 0))))) = AV.p (.c (.v (.bool false))))] gamOK hT h (by kernel_rfl) ⟨hint_bool (h10), hint_bool (decide_eq_false h11), trivial⟩ fun a w h => then_normal ?_
     refine at_test false h (by kernel_rfl) (fun hh => nomatch hh) (fun hh => ?_)
     refine wp_skip (then_normal (wp_seq ?_))
     replace h := at_out (σ' := ⟨[(4, aP 3 0), (5, aB false), (6, aP 5 0), (7, aI ((i : Nat) : Int)), (10, aP 8 0)], [(3, oX 26 [cI 0, cN]), (4, oF s51 x0.2), (5, oX 26 [cI x0.1, .sl 4]), (8, oX 51 [cI (acceptR (newRec x1.1 ((List.length x1.2.1 : Nat) : Int) ((List.length x1.2.2 : Nat) : Int)) x1).1.1, cI (acceptR (newRec x1.1 ((List.length x1.2.1 : Nat) : Int) ((List.length x1.2.2 : Nat) : Int)) x1).1.2.1, cI (acceptR (newRec x1.1 ((List.length x1.2.1 : Nat) : Int) ((List.length x1.2.2 : Nat) : Int)) x1).1.2.2.1, .ro s29 (acceptR (newRec x1.1 ((List.length x1.2.1 : Nat) : Int) ((List.length x1.2.2 : Nat) : Int)) x1).1.2.2.2.1, cI (acceptR (newRec x1.1 ((List.length x1.2.1 : Nat) : Int) ((List.length x1.2.2 : Nat) : Int)) x1).1.2.2.2.2])]⟩) { fz := [7], ts := [4, 5, 6, 7, 10], os := [3, 4, 5, 8] } h (by kernel_rfl)
     replace h := at_out (σ' := ⟨[(4, aP 3 0), (5, aB false), (6, aP 5 0), (7, aI ((i : Nat) : Int)), (10, aP 8 0)], [(3, oX 26 [cI 0, cN]), (5, oX 26 [cI x0.1, .ro s51 x0.2]), (8, oX 51 [cI (acceptR (newRec x1.1 ((List.length x1.2.1 : Nat) : Int) ((List.length x1.2.2 : Nat) : Int)) x1).1.1, cI (acceptR (newRec x1.1 ((List.length x1.2.1 : Nat) : Int) ((List.length x1.2.2 : Nat) : Int)) x1).1.2.1, cI (acceptR (newRec x1.1 ((List.length x1.2.1 : Nat) : Int) ((List.length x1.2.2 : Nat) : Int)) x1).1.2.2.1, .ro s29 (acceptR (newRec x1.1 ((List.length x1.2.1 : Nat) : Int) ((List.length x1.2.2 : Nat) : Int)) x1).1.2.2.2.1, cI (acceptR (newRec x1.1 ((List.length x1.2.1 : Nat) : Int) ((List.length x1.2.2 : Nat) : Int)) x1).1.2.2.2.2])]⟩) { fz := [4], ts := [4, 5, 6, 7, 10], os := [3, 5, 8] } h (by kernel_rfl)
     refine at_anyq [{ ids := [9], dp := false }, {}, {}, {}, {}, { ids := [10], dp := false }, {}, { ids := [11], dp := false }, { ids := [12], dp := false }, {}, {}, {}, {}, { ids := [13], dp := false }, {}, {}] { ts := [4, 5, 6], os := [3, 5, 13] } [(0 : Int) ≤ 0 ∧ 0 ≤ ((i : Nat) : Int) ∧ ((i : Nat) : Int) ≤ ((List.length x0.2 : Nat) : Int), (List.length ([] : List T51) + List.length (List.drop 0 (List.take i x0.2))) * 56 ≤ 140737488355328, (List.length (([] : List T51) ++ (List.drop 0 (List.take i x0.2))) + List.length ([(acceptR (newRec x1.1 ((List.length x1.2.1 : Nat) : Int) ((List.length x1.2.2 : Nat) : Int)) x1).1])) * 56 ≤ 140737488355328, (0 : Int) ≤ ((i : Nat) : Int) ∧ ((i : Nat) : Int) ≤ ((List.length x0.2 : Nat) : Int) ∧ ((List.length x0.2 : Nat) : Int) ≤ ((List.length x0.2 : Nat) : Int), (List.length ((([] : List T51) ++ (List.drop 0 (List.take i x0.2))) ++ ([(acceptR (newRec x1.1 ((List.length x1.2.1 : Nat) : Int) ((List.length x1.2.2 : Nat) : Int)) x1).1])) + List.length (List.drop i (List.take (List.length x0.2) x0.2))) * 56 ≤ 140737488355328] gamOK hT mixed h (by kernel_rfl) ⟨(by refine ⟨?_, ?_, ?_⟩ <;> (first | omega | (simp only [lsA]; omega) | (simp <;> omega))), (by (have hL0 := (show List.length (List.drop 0 (List.take i x0.2)) ≤ 1073741824 from ((Sh.fit_drop (Sh.fit_take hf0.2 i) 0)).1); first | omega | (simp only [lsA]; omega) | (simp <;> omega))), (by first | omega | (simp only [lsA]; omega) | (simp <;> omega)), (by refine ⟨?_, ?_, ?_⟩ <;> (first | omega | (simp only [lsA]; omega) | (simp <;> omega))), (by (have hL0 := (show List.length (List.drop i (List.take (List.length x0.2) x0.2)) ≤ 1073741824 from ((Sh.fit_drop (Sh.fit_take hf0.2 (List.length x0.2)) i)).1); first | omega | (simp only [lsA]; omega) | (simp <;> omega))), trivial⟩ fun a w h => then_normal (wp_seq (wp_seq ?_))
     refine at_regq [] { ts := [4, 5, 6, 115], os := [3, 5, 13] } [] gamOK hT h (by kernel_rfl) trivial fun a w h => then_normal ?_
     refine at_test (decide (((List.length (((([] : List T51) ++ (List.drop 0 (List.take i x0.2))) ++ ([(acceptR (newRec x1.1 ((List.length x1.2.1 : Nat) : Int) ((List.length x1.2.2 : Nat) : Int)) x1).1])) ++ (List.drop i (List.take (List.length x0.2) x0.2))) : Nat) : Int) > 4)) h (by kernel_rfl) (fun h14 => ?_) (fun h14 => ?_)
     ·replace h14 : ((List.length (((([] : List T51) ++ (List.drop 0 (List.take i x0.2))) ++ ([(acceptR (newRec x1.1 ((List.length x1.2.1 : Nat) : Int) ((List.length x1.2.2 : Nat) : Int)) x1).1])) ++ (List.drop i (List.take (List.length x0.2) x0.2))) : Nat) : Int) > 4 := of_decide_eq_true h14
      replace h := at_out (σ' := ⟨[(4, aP 3 0), (5, aB false), (6, aP 5 0)], [(3, oX 26 [cI 0, cN]), (5, oX 26 [cI x0.1, .ro s51 (((([] : List T51) ++ (List.drop 0 (List.take i x0.2))) ++ ([(acceptR (newRec x1.1 ((List.length x1.2.1 : Nat) : Int) ((List.length x1.2.2 : Nat) : Int)) x1).1])) ++ (List.drop i (List.take (List.length x0.2) x0.2)))])]⟩) { fz := [13], ts := [4, 5, 6], os := [3, 5] } h (by kernel_rfl)
      refine at_regq [] { ts := [4, 5, 6], os := [3, 5] } [(0 : Int) ≤ 1 ∧ 1 ≤ ((List.length (((([] : List T51) ++ (List.drop 0 (List.take i x0.2))) ++ ([(acceptR (newRec x1.1 ((List.length x1.2.1 : Nat) : Int) ((List.length x1.2.2 : Nat) : Int)) x1).1])) ++ (List.drop i (List.take (List.length x0.2) x0.2))) : Nat) : Int) ∧ ((List.length (((([] : List T51) ++ (List.drop 0 (List.take i x0.2))) ++ ([(acceptR (newRec x1.1 ((List.length x1.2.1 : Nat) : Int) ((List.length x1.2.2 : Nat) : Int)) x1).1])) ++ (List.drop i (List.take (List.length x0.2) x0.2))) : Nat) : Int) ≤ ((List.length (((([] : List T51) ++ (List.drop 0 (List.take i x0.2))) ++ ([(acceptR (newRec x1.1 ((List.length x1.2.1 : Nat) : Int) ((List.length x1.2.2 : Nat) : Int)) x1).1])) ++ (List.drop i (List.take (List.length x0.2) x0.2))) : Nat) : Int)] gamOK hT h (by kernel_rfl) ⟨(by refine ⟨?_, ?_, ?_⟩ <;> (first | omega | (simp only [lsA]; omega) | (simp <;> omega))), trivial⟩ fun a w h => then_normal (wp_seq ?_)
      refine at_regq [] { ts := [4, 5], os := [3] } [] gamOK hT h (by kernel_rfl) trivial fun a w h => then_normal (wp_ret ?_)
      exact at_return ((x0.1, (List.drop 1 (List.take (List.length (((([] : List T51) ++ (List.drop 0 (List.take i x0.2))) ++ ([(acceptR (newRec x1.1 ((List.length x1.2.1 : Nat) : Int) ((List.length x1.2.2 : Nat) : Int)) x1).1])) ++ (List.drop i (List.take (List.length x0.2) x0.2)))) (((([] : List T51) ++ (List.drop 0 (List.take i x0.2))) ++ ([(acceptR (newRec x1.1 ((List.length x1.2.1 : Nat) : Int) ((List.length x1.2.2 : Nat) : Int)) x1).1])) ++ (List.drop i (List.take (List.length x0.2) x0.2)))))), (true, ())) [] h (by kernel_rfl) trivial (congrArg (fun z => (z.1, z.2, ())) (show (((x0.1, (List.drop 1 (List.take (List.length (((([] : List T51) ++ (List.drop 0 (List.take i x0.2))) ++ ([(acceptR (newRec x1.1 ((List.length x1.2.1 : Nat) : Int) ((List.length x1.2.2 : Nat) : Int)) x1).1])) ++ (List.drop i (List.take (List.length x0.2) x0.2)))) (((([] : List T51) ++ (List.drop 0 (List.take i x0.2))) ++ ([(acceptR (newRec x1.1 ((List.length x1.2.1 : Nat) : Int) ((List.length x1.2.2 : Nat) : Int)) x1).1])) ++ (List.drop i (List.take (List.length x0.2) x0.2)))))), true)) = rcvL x0 x1 from by (first | exact rcvL_n (by assumption) | exact rcS_f (by assumption) (by omega) (by assumption) | (have hv9 := (validL_t (r := x0) (by assumption)).2.1; have hc9 := (rcS_nf (r := x0) (p := x1) (i := i) (by assumption) hok0.2 (fun hh9 => by first | assumption | exact absurd hh9 (by omega)) hok0.1 (by first | (left; omega) | (right; omega))); first | exact rcS_2 (by assumption) hc9 (.inl (by assumption)) | exact rcS_2 (by assumption) hc9 (.inr ⟨by omega, by omega⟩) | (have hl9 := rcY_len hc9; first | (exfalso; omega) | exact rcS_i (by assumption) hc9 (by assumption) (by omega) | exact rcS_d (by assumption) hc9 (by assumption) (by omega) (by omega))))))
     ·replace h14 : ¬ (((List.length (((([] : List T51) ++ (List.drop 0 (List.take i x0.2))) ++ ([(acceptR (newRec x1.1 ((List.length x1.2.1 : Nat) : Int) ((List.length x1.2.2 : Nat) : Int)) x1).1])) ++ (List.drop i (List.take (List.length x0.2) x0.2))) : Nat) : Int) > 4) := of_decide_eq_false h14
      refine wp_skip (then_normal (wp_seq ?_))
      refine at_regq [] { ts := [4, 5], os := [3, 13] } [] gamOK hT h (by kernel_rfl) trivial fun a w h => then_normal (wp_ret ?_)
      exact at_return ((x0.1, (((([] : List T51) ++ (List.drop 0 (List.take i x0.2))) ++ ([(acceptR (newRec x1.1 ((List.length x1.2.1 : Nat) : Int) ((List.length x1.2.2 : Nat) : Int)) x1).1])) ++ (List.drop i (List.take (List.length x0.2) x0.2)))), (true, ())) [] h (by kernel_rfl) trivial (congrArg (fun z => (z.1, z.2, ())) (show (((x0.1, (((([] : List T51) ++ (List.drop 0 (List.take i x0.2))) ++ ([(acceptR (newRec x1.1 ((List.length x1.2.1 : Nat) : Int) ((List.length x1.2.2 : Nat) : Int)) x1).1])) ++ (List.drop i (List.take (List.length x0.2) x0.2)))), true)) = rcvL x0 x1 from by (first | exact rcvL_n (by assumption) | exact rcS_f (by assumption) (by omega) (by assumption) | (have hv9 := (validL_t (r := x0) (by assumption)).2.1; have hc9 := (rcS_nf (r := x0) (p := x1) (i := i) (by assumption) hok0.2 (fun hh9 => by first | assumption | exact absurd hh9 (by omega)) hok0.1 (by first | (left; omega) | (right; omega))); first | exact rcS_2 (by assumption) hc9 (.inl (by assumption)) | exact rcS_2 (by assumption) hc9 (.inr ⟨by omega, by omega⟩) | (have hl9 := rcY_len hc9; first | (exfalso; omega) | exact rcS_i (by assumption) hc9 (by assumption) (by omega) | exact rcS_d (by assumption) hc9 (by assumption) (by omega) (by omega))))))

theorem accU_fit {r : T51} {p : T29} (h : Sh.fit s51 r) (hp : Sh.fit s29 p) (hl : List.length r.2.2.2.1 ≤ 8) : Sh.fit s51 (accU r p) := by
 unfold accU; split
 ·exact ⟨trivial, trivial, trivial, fit_snoc h.2.2.2.1 hp (Nat.le_trans hl (by decide)), trivial⟩
 ·exact h
theorem rcvL_fit {r : T26} {p : T29} (h : Sh.fit s26 r) (hp : Sh.fit s29 p) : Sh.fit s26 (rcvL r p).1 := by
 unfold rcvL
 cases hv : validL r with
 | false => exact h
 | true =>
  have hw := validL_t hv
  have h2 : List.length r.2 ≤ 1073741824 ∧ ∀ x ∈ r.2, Sh.fit s51 x := h.2
  have key : Sh.fit s26 (rcvU r p) := by
   unfold rcvU
   cases hf : rcF r p with
   | true =>
    have hk := fndK_t hf
    refine ⟨trivial, ?_, fun y hy => ?_⟩
    ·show List.length (List.set _ _ _) ≤ _
     rw [List.length_set]; exact h2.1
    ·rcases List.mem_or_eq_of_mem_set hy with hy | hy
     ·exact h2.2 y hy
     ·rw [hy]; exact accU_fit (Sh.fit_getD h.2 _) hp (recP_of (hw.2.2.2 _ hk.1)).1
   | false =>
    cases hb : rcB r p with
    | false => exact h
    | true =>
     have hn : Sh.fit s51 (accU (rcN p) p) := accU_fit (newRec_fit _ _ _) hp (recP_new _ _ _).1
     have hl : List.length (rcI r p) = List.length r.2 + 1 := ins_len1 _ _ _
     have hm : ∀ y ∈ rcI r p, Sh.fit s51 y := fun y hy => by
      have hy : y ∈ insAt r.2 (rcA r p) [accU (rcN p) p] := hy
      unfold insAt at hy
      rcases List.mem_append.1 hy with hy | hy
      ·rcases List.mem_append.1 hy with hy | hy
       ·exact h2.2 y (List.mem_of_mem_take hy)
       ·rw [List.mem_singleton.1 hy]; exact hn
      ·exact h2.2 y (List.mem_of_mem_drop hy)
     cases decide (List.length r.2 = 4) with
     | true =>
      refine ⟨trivial, ?_, fun y hy => hm y (List.mem_of_mem_drop hy)⟩
      show List.length (List.drop _ _) ≤ _
      rw [List.length_drop]; have := hw.2.1; omega
     | false => exact ⟨trivial, by show List.length (rcI r p) ≤ _; have := hw.2.1; omega, hm⟩
  exact key
theorem recodeR_fit {r : T51} {s : Int} (h : Sh.fit s51 r) : Sh.fit s51 (recodeR r s).1 := by
 unfold recodeR; split
 ·show Sh.fit s51 (recU r s)
  unfold recU; split
  ·exact h
  ·exact ⟨trivial, trivial, trivial, h.2.2.2.1, trivial⟩
 ·exact h
def sendL (x0 : T26) (x1 : Int) (x2 : Int) : T26 × T29 × Bool := (if (validL x0) = true then (if ((List.length x0.2 : Nat) : Int) = 0 then (x0, (0, (([] : List Int), ([] : List Int))), false) else (if x1 < 0 then (x0, (0, (([] : List Int), ([] : List Int))), false) else ((x0.1, (List.set x0.2 (((Int.tmod x1 ((List.length x0.2 : Nat) : Int))).toNat) (recodeR (x0.2.getD (((Int.tmod x1 ((List.length x0.2 : Nat) : Int))).toNat) (0, (0, (0, ([], 0))))) x2).1)), (recodeR (x0.2.getD (((Int.tmod x1 ((List.length x0.2 : Nat) : Int))).toNat) (0, (0, (0, ([], 0))))) x2).2.1, (recodeR (x0.2.getD (((Int.tmod x1 ((List.length x0.2 : Nat) : Int))).toNat) (0, (0, (0, ([], 0))))) x2).2.2))) else (x0, (0, (([] : List Int), ([] : List Int))), false))
abbrev Q_spec_RelaySend := (fun (x0 : T26) (x1 : Int) (x2 : Int) => Sh.fit s26 x0)
def S_spec_RelaySend : Sum := { fid := 27, dom := [s26, (.int 3), (.int 3)], cod := [s26, s29, (.bool 4)], dp := false, fz := true, pre := fun x => Q_spec_RelaySend x.1 x.2.1 x.2.2.1, g := fun x => ((sendL x.1 x.2.1 x.2.2.1).1, ((sendL x.1 x.2.1 x.2.2.1).2.1, ((sendL x.1 x.2.1 x.2.2.1).2.2, ()))) }
def S_spec_RelaySend_tab : List (Nat × Sum) := [(40, S_spec_l31Copy), (41, S_spec_IsValidRelay), (42, S_spec_Recode)]
theorem S_spec_RelaySend_ok : FnOK Tryd.prog 27 S_spec_RelaySend := by
 refine at_enter 55 (fun x => ⟨[(0, aG [cI x.1.1, .ro s51 x.1.2]), (1, aI x.2.1), (2, aI x.2.2.1)], []⟩) Tryd.func27 rfl (by kernel_rfl) (fun x => rfl) ?_
 rintro w0 Z0 ⟨x0, x1, x2, u⟩ a w
 revert x0 x1 x2
 intro (x0 : T26) (x1 : Int) (x2 : Int) hpre hlens h
 replace hpre : Q_spec_RelaySend x0 x1 x2 := hpre
 have hT : TabOK Tryd.prog w0 [] S_spec_RelaySend_tab := (.cons S_spec_l31Copy_ok (.cons S_spec_IsValidRelay_ok (.cons S_spec_Recode_ok .nil)))
 have hf0 : Sh.fit s26 x0 := hpre
 have hn0_1 : List.length x0.2 ≤ 1073741824 := hf0.2.1
 refine wp_seq ?_
 refine at_regq [{ ids := [1] }, { ids := [2] }, { ids := [3] }] { ts := [1, 2, 3, 6, 7, 8], os := [1, 2, 3] } [] gamOK hT h (by kernel_rfl) trivial fun a w h => then_normal (wp_seq ?_)
 refine at_regq [{}, { ids := [4] }, { ids := [5] }] { ts := [1, 2, 3, 6, 7, 8, 9], os := [1, 2, 3, 4, 5] } [Q_spec_l31Copy x0] gamOK hT h (by kernel_rfl) ⟨(by exact hf0), trivial⟩ fun a w h => then_normal (wp_seq (wp_seq ?_))
 rcases Bool.eq_false_or_eq_true (!(validL x0)) with h1 | h1
 ·have hzh1 : (validL x0) = false := notT h1
  refine at_regq [{}, {}, { hint := some (aB true) }] { ts := [1, 2, 3, 6, 7, 8, 9, 28], os := [1, 2, 3, 4, 5] } [Q_spec_IsValidRelay x0, (AV.p (.c (.v (.bool (!(validL x0))))) = AV.p (.c (.v (.bool true))))] gamOK hT h (by kernel_rfl) ⟨(by exact hf0), hint_bool (h1), trivial⟩ fun a w h => then_normal ?_
  refine at_test true h (by kernel_rfl) (fun hh => ?_) (fun hh => nomatch hh)
  refine wp_seq ?_
  refine at_regq [] { ts := [1, 2, 3, 6, 7, 8, 9], os := [1, 2, 3, 4, 5] } [] gamOK hT h (by kernel_rfl) trivial fun a w h => then_normal (wp_ret (then_ret ?_))
  exact at_return (x0, ((0, (([] : List Int), ([] : List Int))), (false, ()))) [] h (by kernel_rfl) trivial (congrArg (fun z => (z.1, z.2.1, z.2.2, ())) (show ((x0, (0, (([] : List Int), ([] : List Int))), false)) = sendL x0 x1 x2 from by first | rfl | (unfold sendL; rw [if_neg (neT (notT h1))])))
 ·have hzh1 : (validL x0) = true := notF h1
  by_cases h2 : ((List.length x0.2 : Nat) : Int) = 0
  ·refine at_regq [{}, {}, { hint := some (aB false) }, {}, {}, {}, {}, { hint := some (aB true) }] { ts := [1, 2, 3, 6, 7, 8, 9, 28], os := [1, 2, 3, 4, 5] } [Q_spec_IsValidRelay x0, (AV.p (.c (.v (.bool (!(validL x0))))) = AV.p (.c (.v (.bool false)))), (AV.p (.c (.v (.bool (decide (((List.length x0.2 : Nat) : Int) = 0))))) = AV.p (.c (.v (.bool true))))] gamOK hT h (by kernel_rfl) ⟨(by exact hf0), hint_bool (h1), hint_bool (decide_eq_true h2), trivial⟩ fun a w h => then_normal ?_
   refine at_test true h (by kernel_rfl) (fun hh => ?_) (fun hh => nomatch hh)
   refine wp_seq ?_
   refine at_regq [] { ts := [1, 2, 3, 6, 7, 8, 9], os := [1, 2, 3, 4, 5] } [] gamOK hT h (by kernel_rfl) trivial fun a w h => then_normal (wp_ret (then_ret ?_))
   exact at_return (x0, ((0, (([] : List Int), ([] : List Int))), (false, ()))) [] h (by kernel_rfl) trivial (congrArg (fun z => (z.1, z.2.1, z.2.2, ())) (show ((x0, (0, (([] : List Int), ([] : List Int))), false)) = sendL x0 x1 x2 from by first | rfl | (unfold sendL; rw [if_pos (notF h1), if_pos h2])))
  ·refine at_regq [{}, {}, { hint := some (aB false) }, {}, {}, {}, {}, { hint := some (aB false) }] { ts := [1, 2, 3, 6, 7, 8, 9, 28], os := [1, 2, 3, 4, 5] } [Q_spec_IsValidRelay x0, (AV.p (.c (.v (.bool (!(validL x0))))) = AV.p (.c (.v (.bool false)))), (AV.p (.c (.v (.bool (decide (((List.length x0.2 : Nat) : Int) = 0))))) = AV.p (.c (.v (.bool false))))] gamOK hT h (by kernel_rfl) ⟨(by exact hf0), hint_bool (h1), hint_bool (decide_eq_false h2), trivial⟩ fun a w h => then_normal ?_
   refine at_test (decide (x1 < 0)) h (by kernel_rfl) (fun h3 => ?_) (fun h3 => ?_)
   ·replace h3 : x1 < 0 := of_decide_eq_true h3
    refine wp_seq ?_
    refine at_regq [] { ts := [1, 2, 3, 6, 7, 8, 9], os := [1, 2, 3, 4, 5] } [] gamOK hT h (by kernel_rfl) trivial fun a w h => then_normal (wp_ret (then_ret ?_))
    exact at_return (x0, ((0, (([] : List Int), ([] : List Int))), (false, ()))) [] h (by kernel_rfl) trivial (congrArg (fun z => (z.1, z.2.1, z.2.2, ())) (show ((x0, (0, (([] : List Int), ([] : List Int))), false)) = sendL x0 x1 x2 from by first | rfl | (unfold sendL; rw [if_pos (notF h1), if_neg h2, if_pos h3])))
   ·replace h3 : ¬ (x1 < 0) := of_decide_eq_false h3
    refine wp_skip (then_normal (wp_seq ?_))
    refine at_regq [] { ts := [2, 3, 6, 7, 8, 9, 10], os := [1, 2, 3, 4, 5] } [(((List.length x0.2 : Nat) : Int) : Int) ≠ 0] gamOK hT h (by kernel_rfl) ⟨(by first | omega | (simp only [lsA]; omega) | (simp <;> omega)), trivial⟩ fun a w h => then_normal (wp_seq ?_)
    refine at_regq [{}, {}, {}, {}, {}, {}, { ids := [6, 7, 8] }, {}, {}, {}, {}, { ids := [9] }, { ids := [10] }] { ts := [6, 7, 8, 9, 10, 11, 12, 13], os := [2, 3, 4, 5, 6, 7, 8, 9, 10] } [(0 : Int) ≤ (Int.tmod x1 ((List.length x0.2 : Nat) : Int)) ∧ (Int.tmod x1 ((List.length x0.2 : Nat) : Int)) < ((List.length x0.2 : Nat) : Int), Q_spec_Recode (x0.2.getD (((Int.tmod x1 ((List.length x0.2 : Nat) : Int))).toNat) (0, (0, (0, ([], 0))))) x2] gamOK hT h (by kernel_rfl) ⟨(by refine ⟨?_, ?_⟩ <;> ((have hA0 := tmod_v x1 ((List.length x0.2 : Nat) : Int); first | omega | (simp only [lsA]; omega) | (simp <;> omega)))), (by exact Sh.fit_getD hf0.2 _), trivial⟩ fun a w h => then_normal (wp_seq ?_)
    replace h := at_out (σ' := ⟨[(6, aP 2 0), (7, aP 3 0), (8, aB false), (9, aP 5 0), (10, aI (Int.tmod x1 ((List.length x0.2 : Nat) : Int))), (11, aP 9 0), (12, aP 10 0), (13, aB (recodeR (x0.2.getD (((Int.tmod x1 ((List.length x0.2 : Nat) : Int))).toNat) (0, (0, (0, ([], 0))))) x2).2.2)], [(2, oX 26 [cI 0, cN]), (3, oX 29 [cI 0, cN, cN]), (4, oF s51 x0.2), (5, oX 26 [cI x0.1, .sl 4]), (7, oR (.int 3) (recodeR (x0.2.getD (((Int.tmod x1 ((List.length x0.2 : Nat) : Int))).toNat) (0, (0, (0, ([], 0))))) x2).2.1.2.1), (8, oR (.int 3) (recodeR (x0.2.getD (((Int.tmod x1 ((List.length x0.2 : Nat) : Int))).toNat) (0, (0, (0, ([], 0))))) x2).2.1.2.2), (9, oX 51 [cI (recodeR (x0.2.getD (((Int.tmod x1 ((List.length x0.2 : Nat) : Int))).toNat) (0, (0, (0, ([], 0))))) x2).1.1, cI (recodeR (x0.2.getD (((Int.tmod x1 ((List.length x0.2 : Nat) : Int))).toNat) (0, (0, (0, ([], 0))))) x2).1.2.1, cI (recodeR (x0.2.getD (((Int.tmod x1 ((List.length x0.2 : Nat) : Int))).toNat) (0, (0, (0, ([], 0))))) x2).1.2.2.1, .ro s29 (recodeR (x0.2.getD (((Int.tmod x1 ((List.length x0.2 : Nat) : Int))).toNat) (0, (0, (0, ([], 0))))) x2).1.2.2.2.1, cI (recodeR (x0.2.getD (((Int.tmod x1 ((List.length x0.2 : Nat) : Int))).toNat) (0, (0, (0, ([], 0))))) x2).1.2.2.2.2]), (10, oX 29 [cI (recodeR (x0.2.getD (((Int.tmod x1 ((List.length x0.2 : Nat) : Int))).toNat) (0, (0, (0, ([], 0))))) x2).2.1.1, .sl 7, .sl 8])]⟩) { fz := [6], ts := [6, 7, 8, 9, 10, 11, 12, 13], os := [2, 3, 4, 5, 7, 8, 9, 10] } h (by kernel_rfl)
    refine at_regq [] { ts := [6, 7, 8, 9, 12, 13], os := [2, 3, 4, 5, 7, 8, 10] } [(0 : Int) ≤ (Int.tmod x1 ((List.length x0.2 : Nat) : Int)) ∧ (Int.tmod x1 ((List.length x0.2 : Nat) : Int)) < ((List.length x0.2 : Nat) : Int), ((Int.tmod x1 ((List.length x0.2 : Nat) : Int))).toNat < List.length x0.2] gamOK hT h (by kernel_rfl) ⟨(by refine ⟨?_, ?_⟩ <;> ((have hA0 := tmod_v x1 ((List.length x0.2 : Nat) : Int); first | omega | (simp only [lsA]; omega) | (simp <;> omega)))), (by (have hA0 := tmod_v x1 ((List.length x0.2 : Nat) : Int); first | omega | (simp only [lsA]; omega) | (simp <;> omega))), trivial⟩ fun a w h => then_normal (wp_seq ?_)
    refine at_anyq [{}, {}, {}, {}, {}, {}] { ts := [6, 7, 8], os := [2, 3, 4, 7, 8] } [] gamOK hT mixed h (by kernel_rfl) trivial fun a w h => then_normal (wp_ret ?_)
    exact at_return ((x0.1, (List.set x0.2 (((Int.tmod x1 ((List.length x0.2 : Nat) : Int))).toNat) (recodeR (x0.2.getD (((Int.tmod x1 ((List.length x0.2 : Nat) : Int))).toNat) (0, (0, (0, ([], 0))))) x2).1)), ((recodeR (x0.2.getD (((Int.tmod x1 ((List.length x0.2 : Nat) : Int))).toNat) (0, (0, (0, ([], 0))))) x2).2.1, ((recodeR (x0.2.getD (((Int.tmod x1 ((List.length x0.2 : Nat) : Int))).toNat) (0, (0, (0, ([], 0))))) x2).2.2, ()))) [] h (by kernel_rfl) trivial (congrArg (fun z => (z.1, z.2.1, z.2.2, ())) (show (((x0.1, (List.set x0.2 (((Int.tmod x1 ((List.length x0.2 : Nat) : Int))).toNat) (recodeR (x0.2.getD (((Int.tmod x1 ((List.length x0.2 : Nat) : Int))).toNat) (0, (0, (0, ([], 0))))) x2).1)), (recodeR (x0.2.getD (((Int.tmod x1 ((List.length x0.2 : Nat) : Int))).toNat) (0, (0, (0, ([], 0))))) x2).2.1, (recodeR (x0.2.getD (((Int.tmod x1 ((List.length x0.2 : Nat) : Int))).toNat) (0, (0, (0, ([], 0))))) x2).2.2)) = sendL x0 x1 x2 from by first | rfl | (unfold sendL; rw [if_pos (notF h1), if_neg h2, if_neg h3])))
theorem sendL_fit {r : T26} {t s : Int} (h : Sh.fit s26 r) : Sh.fit s26 (sendL r t s).1 := by
 have hs : ∀ (k : Nat) (y : T51), Sh.fit s51 y → Sh.fit s26 (r.1, r.2.set k y) := fun k y hy => by
  have h2 : List.length r.2 ≤ 1073741824 ∧ ∀ x ∈ r.2, Sh.fit s51 x := h.2
  refine ⟨trivial, ?_, fun z hz => ?_⟩
  ·show List.length (List.set _ _ _) ≤ _
   rw [List.length_set]; exact h2.1
  ·rcases List.mem_or_eq_of_mem_set hz with hz | hz
   ·exact h2.2 z hz
   ·rw [hz]; exact hy
 unfold sendL
 (repeat' split) <;> first
  | exact h
  | exact hs _ _ (recodeR_fit (Sh.fit_getD h.2 _))

theorem validG_id {g : T46} {b : Int} (h : validG g = true) (hb : 0 ≤ b ∧ b < 7) : validG (b, g.2) = true := by
 unfold validG at h ⊢
 rw [if_pos (show inR b 0 1000000000000 = true from inR_true (by omega))]
 split at h
 ·exact h
 ·cases h
abbrev rlA (q : T60) : T60 × Int := belowC (genD q).1 7
abbrev rlB (q : T60) : T60 × Bool := onceC (rlA q).1 4
abbrev rlG (q : T60) : T46 := ((rlA q).2, (genD q).2.2)
def relS (q : T60 × T26) : T60 × T26 := if (rlB q.1).2 = true then ((belowC (belowC (rlB q.1).1 9).1 50).1, (sendL q.2 (belowC (rlB q.1).1 9).2 (belowC (belowC (rlB q.1).1 9).1 50).2).1) else ((pktD (rlB q.1).1 (rlG q.1)).1, (rcvL q.2 (pktD (rlB q.1).1 (rlG q.1)).2).1)
def relIt (x : T60) (a : Int) : Nat → T60 × T26
 | 0 => (x, (a, []))
 | i + 1 => relS (relIt x a i)
theorem rel_y {x : T60} {a : Int} {i : Nat} (h : (onceC (belowC (genD (relIt x a i).1).1 7).1 4).2 = true) : relIt x a (i + 1) = ((belowC (belowC (onceC (belowC (genD (relIt x a i).1).1 7).1 4).1 9).1 50).1, (sendL (relIt x a i).2 (belowC (onceC (belowC (genD (relIt x a i).1).1 7).1 4).1 9).2 (belowC (belowC (onceC (belowC (genD (relIt x a i).1).1 7).1 4).1 9).1 50).2).1) := if_pos h
theorem rel_n {x : T60} {a : Int} {i : Nat} (h : (onceC (belowC (genD (relIt x a i).1).1 7).1 4).2 = false) : relIt x a (i + 1) = ((pktD (onceC (belowC (genD (relIt x a i).1).1 7).1 4).1 ((belowC (genD (relIt x a i).1).1 7).2, (genD (relIt x a i).1).2.2)).1, (rcvL (relIt x a i).2 (pktD (onceC (belowC (genD (relIt x a i).1).1 7).1 4).1 ((belowC (genD (relIt x a i).1).1 7).2, (genD (relIt x a i).1).2.2)).2).1) := if_neg (by show ¬ (onceC (belowC (genD (relIt x a i).1).1 7).1 4).2 = true; rw [h]; decide)
theorem relIt_inv {x : T60} {a : Int} (hx : 0 ≤ x.2.1) : ∀ i, 0 ≤ (relIt x a i).1.2.1 ∧ Sh.fit s26 (relIt x a i).2
 | 0 => ⟨hx, trivial, Nat.zero_le _, fun y hy => by cases hy⟩
 | i + 1 => by
  obtain ⟨h1, h2⟩ := relIt_inv (a := a) hx i
  have e : relIt x a (i + 1) = relS (relIt x a i) := rfl
  have hg := genD_ok h1
  have hb := below_bd (genD (relIt x a i).1).1 (n := 7) (by decide)
  have hv : validG (rlG (relIt x a i).1) = true := validG_id hg.2.1 (by omega)
  have hc : 0 ≤ (rlB (relIt x a i).1).1.2.1 := once_ok (below_ok hg.1)
  rw [e]; unfold relS
  split
  ·exact ⟨below_ok (below_ok hc), sendL_fit h2⟩
  ·exact ⟨(pktD_ok hc hv).1, rcvL_fit h2 (pktD_fit hc hv)⟩
def relD (x0 : T60) : T60 × T26 := ((relIt (belowC (belowC x0 8).1 9).1 (belowC x0 8).2 (belowC (belowC x0 8).1 9).2.toNat).1, (relIt (belowC (belowC x0 8).1 9).1 (belowC x0 8).2 (belowC (belowC x0 8).1 9).2.toNat).2)
abbrev Q_spec_l31Relay := (fun (x0 : T60) => 0 ≤ x0.2.1)
def B_spec_l31Relay : BS := { t := 60, s := s60, dom := [], cod := [s26], pre := fun y x => Q_spec_l31Relay y, upd := fun y x => (relD y).1, g := fun y x => ((relD y).2, ()), dp := false, fz := true }
def S_spec_l31Relay : Sum := bSum 15 B_spec_l31Relay
def S_spec_l31Relay_tab : List (Nat × Sum) := [(14, S_spec_l1Below), (17, S_spec_l10Gen), (18, S_spec_l1Once), (27, S_spec_RelaySend), (16, S_spec_l11Packet), (28, S_spec_RelayReceive)]
theorem S_spec_l31Relay_ok : FnOK Tryd.prog 15 S_spec_l31Relay := by
 refine at_enterB (B := B_spec_l31Relay) 48 (fun v y x => ⟨[(0, aP 1 0)], [(1, oX 60 [.ro (.u8 5) y.1, cI y.2.1, cI y.2.2]), (2, oP 1 v)]⟩) Tryd.func15 rfl (by kernel_rfl) (fun v y x => rfl) ?_
 rintro w0 Z0 b0 x0 ⟨u⟩ a w
 revert x0
 intro (x0 : T60) hpre hlens0 hlens h
 replace h : At w0 Z0 [b0] 48 ⟨[(0, aP 1 0)], [(1, oX 60 [.ro (.u8 5) x0.1, cI x0.2.1, cI x0.2.2]), (2, oP 1 (Value.pointer (some ⟨b0, 0, none⟩)))]⟩ a w := h
 replace hpre : Q_spec_l31Relay x0 := hpre
 have hl1 : List.length x0.1 ≤ 9223372036854775807 := hlens0.1.1
 have hu0 : u8L x0.1 := hlens0.1.2
 have hT : TabOK Tryd.prog w0 [b0] S_spec_l31Relay_tab := (.cons S_spec_l1Below_ok (.cons S_spec_l10Gen_ok (.cons S_spec_l1Once_ok (.cons S_spec_RelaySend_ok (.cons S_spec_l11Packet_ok (.cons S_spec_RelayReceive_ok .nil))))))
 have hb8 := below_bd x0 (n := 8) (by decide)
 have hb := below_bd (belowC x0 8).1 (n := 9) (by decide)
 have hc := below_ok (n := 9) (below_ok (n := 8) hpre)
 refine wp_seq ?_
 refine at_regq [{ ids := [3] }] { ts := [0, 2], os := [1, 2, 3] } [] gamOK hT h (by kernel_rfl) trivial fun a w h => then_normal (wp_seq ?_)
 refine at_regq [{}, {}, {}, { ids := [4] }] { ts := [0, 2, 3], os := [1, 2, 3, 4] } [B_spec_l1Below.pre x0 (8, ())] gamOK hT h (by kernel_rfl) ⟨(by exact hpre), trivial⟩ fun a w h => then_normal (wp_seq (wp_seq ?_))
 refine at_regq [] { ts := [0, 2, 3, 4], os := [1, 2, 3, 4] } [B_spec_l1Below.pre (belowC x0 8).1 (9, ())] gamOK hT h (by kernel_rfl) ⟨(by exact (below_ok hpre)), trivial⟩ fun a w h => then_normal (wp_block ?_)
 replace h := at_out (σ' := ⟨[(0, aP 1 0), (2, aP 3 0), (3, aP 4 0), (4, aI (belowC (belowC x0 8).1 9).2)], [(1, oX 60 [.ro (.u8 5) (belowC (belowC x0 8).1 9).1.1, cI (belowC (belowC x0 8).1 9).1.2.1, cI (belowC (belowC x0 8).1 9).1.2.2]), (2, oP 1 (Value.pointer (some ⟨b0, 0, none⟩))), (3, oX 26 [cI 0, cN]), (4, oX 26 [cI (belowC x0 8).2, .sl 5]), (5, oF s51 ([] : List T51))]⟩) { mt := [⟨some 4, 1, 5, false, s51⟩], ts := [0, 2, 3, 4], os := [1, 2, 3, 4, 5] } h (by kernel_rfl)
 replace h := at_out (σ' := ⟨[(0, aP 1 0), (2, aP 3 0), (3, aP 4 0), (4, aI (belowC (belowC x0 8).1 9).2)], [(1, oX 60 [.ro (.u8 5) (belowC (belowC x0 8).1 9).1.1, cI (belowC (belowC x0 8).1 9).1.2.1, cI (belowC (belowC x0 8).1 9).1.2.2]), (2, oP 1 (Value.pointer (some ⟨b0, 0, none⟩))), (3, oX 26 [cI 0, cN]), (4, oX 26 [cI (belowC x0 8).2, .ro s51 ([] : List T51)])]⟩) { fz := [5], ts := [0, 2, 3, 4], os := [1, 2, 3, 4] } h (by kernel_rfl)
 refine at_loop (fun i : Nat => (⟨[(0, aP 1 0), (2, aP 3 0), (3, aP 4 0), (4, aI ((belowC (belowC x0 8).1 9).2 - ((i : Nat) : Int)))], [(1, oX 60 [.ro (.u8 5) (relIt (belowC (belowC x0 8).1 9).1 (belowC x0 8).2 i).1.1, cI (relIt (belowC (belowC x0 8).1 9).1 (belowC x0 8).2 i).1.2.1, cI (relIt (belowC (belowC x0 8).1 9).1 (belowC x0 8).2 i).1.2.2]), (2, oP 1 (Value.pointer (some ⟨b0, 0, none⟩))), (3, oX 26 [cI 0, cN]), (4, oX 26 [cI (relIt (belowC (belowC x0 8).1 9).1 (belowC x0 8).2 i).2.1, .ro s51 (relIt (belowC (belowC x0 8).1 9).1 (belowC x0 8).2 i).2.2])]⟩ : St)) (fun i => ((i : Nat) : Int) ≤ (belowC (belowC x0 8).1 9).2) (fun i => (belowC (belowC x0 8).1 9).2.toNat - i) (0) h (st_congr6 (fun (d0 : List Int) (d1 : Int) (d2 : Int) (d3 : Int) (d4 : List T51) (d5 : Int) => (⟨[(0, aP 1 0), (2, aP 3 0), (3, aP 4 0), (4, aI d5)], [(1, oX 60 [.ro (.u8 5) d0, cI d1, cI d2]), (2, oP 1 (Value.pointer (some ⟨b0, 0, none⟩))), (3, oX 26 [cI 0, cN]), (4, oX 26 [cI d3, .ro s51 d4])]⟩ : St)) (show ((belowC (belowC x0 8).1 9).1.1 : List Int) = (relIt (belowC (belowC x0 8).1 9).1 (belowC x0 8).2 (0)).1.1 from by first | with_reducible rfl | (first | rfl | omega) | rfl) (show ((belowC (belowC x0 8).1 9).1.2.1 : Int) = (relIt (belowC (belowC x0 8).1 9).1 (belowC x0 8).2 (0)).1.2.1 from by first | with_reducible rfl | (first | rfl | omega) | rfl) (show ((belowC (belowC x0 8).1 9).1.2.2 : Int) = (relIt (belowC (belowC x0 8).1 9).1 (belowC x0 8).2 (0)).1.2.2 from by first | with_reducible rfl | (first | rfl | omega) | rfl) (show ((belowC x0 8).2 : Int) = (relIt (belowC (belowC x0 8).1 9).1 (belowC x0 8).2 (0)).2.1 from by first | with_reducible rfl | (first | rfl | omega) | rfl) (show (([] : List T51) : List T51) = (relIt (belowC (belowC x0 8).1 9).1 (belowC x0 8).2 (0)).2.2 from by first | with_reducible rfl | (first | rfl | omega) | rfl) (show ((belowC (belowC x0 8).1 9).2 : Int) = ((belowC (belowC x0 8).1 9).2 - (((0) : Nat) : Int)) from by first | with_reducible rfl | (first | rfl | omega) | rfl)) (by omega) ?_
 intro i a w hok0 h
 have hri := relIt_inv (a := (belowC x0 8).2) hc i
 have hgo := genD_ok hri.1
 have hb7 := below_bd (genD (relIt (belowC (belowC x0 8).1 9).1 (belowC x0 8).2 i).1).1 (n := 7) (by decide)
 have hvg : validG ((belowC (genD (relIt (belowC (belowC x0 8).1 9).1 (belowC x0 8).2 i).1).1 7).2, (genD (relIt (belowC (belowC x0 8).1 9).1 (belowC x0 8).2 i).1).2.2) = true := validG_id hgo.2.1 (by omega)
 refine wp_seq (wp_seq ?_)
 refine at_regq [] { ts := [0, 2, 3, 4, 17], os := [1, 2, 3, 4] } [] gamOK hT h (by kernel_rfl) trivial fun a w h => then_normal ?_
 refine at_test (decide (((belowC (belowC x0 8).1 9).2 - ((i : Nat) : Int)) > 0)) h (by kernel_rfl) (fun h1 => ?_) (fun h1 => ?_)
 ·replace h1 : ((belowC (belowC x0 8).1 9).2 - ((i : Nat) : Int)) > 0 := of_decide_eq_true h1
  refine wp_skip (then_normal (wp_seq (wp_block (wp_seq ?_))))
  refine at_regq [{}, { ids := [6] }, { ids := [7] }] { ts := [0, 2, 3, 4, 5], os := [1, 2, 3, 4, 6, 7] } [B_spec_l10Gen.pre (relIt (belowC (belowC x0 8).1 9).1 (belowC x0 8).2 i).1 (())] gamOK hT h (by kernel_rfl) ⟨(by exact hri.1), trivial⟩ fun a w h => then_normal (wp_seq ?_)
  refine at_regq [] { ts := [0, 2, 3, 4, 5], os := [1, 2, 3, 4, 6, 7] } [B_spec_l1Below.pre (genD (relIt (belowC (belowC x0 8).1 9).1 (belowC x0 8).2 i).1).1 (7, ())] gamOK hT h (by kernel_rfl) ⟨(by exact (genD_ok hri.1).1), trivial⟩ fun a w h => then_normal (wp_seq ?_)
  refine at_regq [] { ts := [0, 2, 3, 4, 5, 26], os := [1, 2, 3, 4, 6, 7] } [B_spec_l1Once.pre (belowC (genD (relIt (belowC (belowC x0 8).1 9).1 (belowC x0 8).2 i).1).1 7).1 (4, ())] gamOK hT h (by kernel_rfl) ⟨(by exact (below_ok (genD_ok hri.1).1)), trivial⟩ fun a w h => then_normal ?_
  refine at_test ((onceC (belowC (genD (relIt (belowC (belowC x0 8).1 9).1 (belowC x0 8).2 i).1).1 7).1 4).2) h (by kernel_rfl) (fun h2 => ?_) (fun h2 => ?_)
  ·refine wp_seq ?_
   refine at_anyq [{}, {}, {}, {}, {}, {}, {}, {}, {}, {}, { ids := [8] }, { ids := [9] }, {}, {}, {}] { ts := [0, 2, 3, 4, 6], os := [1, 2, 3, 4, 8] } [B_spec_l1Below.pre (onceC (belowC (genD (relIt (belowC (belowC x0 8).1 9).1 (belowC x0 8).2 i).1).1 7).1 4).1 (9, ()), B_spec_l1Below.pre (belowC (onceC (belowC (genD (relIt (belowC (belowC x0 8).1 9).1 (belowC x0 8).2 i).1).1 7).1 4).1 9).1 (50, ()), Q_spec_RelaySend (relIt (belowC (belowC x0 8).1 9).1 (belowC x0 8).2 i).2 (belowC (onceC (belowC (genD (relIt (belowC (belowC x0 8).1 9).1 (belowC x0 8).2 i).1).1 7).1 4).1 9).2 (belowC (belowC (onceC (belowC (genD (relIt (belowC (belowC x0 8).1 9).1 (belowC x0 8).2 i).1).1 7).1 4).1 9).1 50).2] gamOK hT mixed h (by kernel_rfl) ⟨(by exact (once_ok (below_ok (genD_ok hri.1).1))), (by exact (below_ok (once_ok (below_ok (genD_ok hri.1).1)))), (by exact hri.2), trivial⟩ fun a w h => then_normal ?_
   refine at_regq [] { ts := [0, 2, 3, 4], os := [1, 2, 3, 4] } [] gamOK hT h (by kernel_rfl) trivial fun a w h => in_normal (then_normal ?_)
   refine at_regq [{}, { nw := true }] { ts := [0, 2, 3, 4], os := [1, 2, 3, 4] } [I64 (((belowC (belowC x0 8).1 9).2 - ((i : Nat) : Int)) - 1)] gamOK hT h (by kernel_rfl) ⟨⟨by first | omega | (simp only [lsA]; omega) | (simp <;> omega), by first | omega | (simp only [lsA]; omega) | (simp <;> omega)⟩, trivial⟩ fun a w h => ?_
   replace h := at_out (σ' := ⟨[(0, aP 1 0), (2, aP 3 0), (3, aP 4 0), (4, aI (((belowC (belowC x0 8).1 9).2 - ((i : Nat) : Int)) - 1))], [(1, oX 60 [.ro (.u8 5) (belowC (belowC (onceC (belowC (genD (relIt (belowC (belowC x0 8).1 9).1 (belowC x0 8).2 i).1).1 7).1 4).1 9).1 50).1.1, cI (belowC (belowC (onceC (belowC (genD (relIt (belowC (belowC x0 8).1 9).1 (belowC x0 8).2 i).1).1 7).1 4).1 9).1 50).1.2.1, cI (belowC (belowC (onceC (belowC (genD (relIt (belowC (belowC x0 8).1 9).1 (belowC x0 8).2 i).1).1 7).1 4).1 9).1 50).1.2.2]), (2, oP 1 (Value.pointer (some ⟨b0, 0, none⟩))), (3, oX 26 [cI 0, cN]), (4, oX 26 [cI (sendL (relIt (belowC (belowC x0 8).1 9).1 (belowC x0 8).2 i).2 (belowC (onceC (belowC (genD (relIt (belowC (belowC x0 8).1 9).1 (belowC x0 8).2 i).1).1 7).1 4).1 9).2 (belowC (belowC (onceC (belowC (genD (relIt (belowC (belowC x0 8).1 9).1 (belowC x0 8).2 i).1).1 7).1 4).1 9).1 50).2).1.1, .ro s51 (sendL (relIt (belowC (belowC x0 8).1 9).1 (belowC x0 8).2 i).2 (belowC (onceC (belowC (genD (relIt (belowC (belowC x0 8).1 9).1 (belowC x0 8).2 i).1).1 7).1 4).1 9).2 (belowC (belowC (onceC (belowC (genD (relIt (belowC (belowC x0 8).1 9).1 (belowC x0 8).2 i).1).1 7).1 4).1 9).1 50).2).1.2])]⟩) { ts := [0, 2, 3, 4], os := [1, 2, 3, 4] } h (by kernel_rfl)
   exact ⟨i + 1, at_eq h (st_congr6 (fun (d0 : List Int) (d1 : Int) (d2 : Int) (d3 : Int) (d4 : List T51) (d5 : Int) => (⟨[(0, aP 1 0), (2, aP 3 0), (3, aP 4 0), (4, aI d5)], [(1, oX 60 [.ro (.u8 5) d0, cI d1, cI d2]), (2, oP 1 (Value.pointer (some ⟨b0, 0, none⟩))), (3, oX 26 [cI 0, cN]), (4, oX 26 [cI d3, .ro s51 d4])]⟩ : St)) (show ((belowC (belowC (onceC (belowC (genD (relIt (belowC (belowC x0 8).1 9).1 (belowC x0 8).2 i).1).1 7).1 4).1 9).1 50).1.1 : List Int) = (relIt (belowC (belowC x0 8).1 9).1 (belowC x0 8).2 (i + 1)).1.1 from by first | with_reducible rfl | (first | (rw [rel_y (x := (belowC (belowC x0 8).1 9).1) (a := (belowC x0 8).2) (i := i) (by assumption)]; done) | (rw [rel_n (x := (belowC (belowC x0 8).1 9).1) (a := (belowC x0 8).2) (i := i) (by assumption)]; done)) | rfl) (show ((belowC (belowC (onceC (belowC (genD (relIt (belowC (belowC x0 8).1 9).1 (belowC x0 8).2 i).1).1 7).1 4).1 9).1 50).1.2.1 : Int) = (relIt (belowC (belowC x0 8).1 9).1 (belowC x0 8).2 (i + 1)).1.2.1 from by first | with_reducible rfl | (first | (rw [rel_y (x := (belowC (belowC x0 8).1 9).1) (a := (belowC x0 8).2) (i := i) (by assumption)]; done) | (rw [rel_n (x := (belowC (belowC x0 8).1 9).1) (a := (belowC x0 8).2) (i := i) (by assumption)]; done)) | rfl) (show ((belowC (belowC (onceC (belowC (genD (relIt (belowC (belowC x0 8).1 9).1 (belowC x0 8).2 i).1).1 7).1 4).1 9).1 50).1.2.2 : Int) = (relIt (belowC (belowC x0 8).1 9).1 (belowC x0 8).2 (i + 1)).1.2.2 from by first | with_reducible rfl | (first | (rw [rel_y (x := (belowC (belowC x0 8).1 9).1) (a := (belowC x0 8).2) (i := i) (by assumption)]; done) | (rw [rel_n (x := (belowC (belowC x0 8).1 9).1) (a := (belowC x0 8).2) (i := i) (by assumption)]; done)) | rfl) (show ((sendL (relIt (belowC (belowC x0 8).1 9).1 (belowC x0 8).2 i).2 (belowC (onceC (belowC (genD (relIt (belowC (belowC x0 8).1 9).1 (belowC x0 8).2 i).1).1 7).1 4).1 9).2 (belowC (belowC (onceC (belowC (genD (relIt (belowC (belowC x0 8).1 9).1 (belowC x0 8).2 i).1).1 7).1 4).1 9).1 50).2).1.1 : Int) = (relIt (belowC (belowC x0 8).1 9).1 (belowC x0 8).2 (i + 1)).2.1 from by first | with_reducible rfl | (first | (rw [rel_y (x := (belowC (belowC x0 8).1 9).1) (a := (belowC x0 8).2) (i := i) (by assumption)]; done) | (rw [rel_n (x := (belowC (belowC x0 8).1 9).1) (a := (belowC x0 8).2) (i := i) (by assumption)]; done)) | rfl) (show ((sendL (relIt (belowC (belowC x0 8).1 9).1 (belowC x0 8).2 i).2 (belowC (onceC (belowC (genD (relIt (belowC (belowC x0 8).1 9).1 (belowC x0 8).2 i).1).1 7).1 4).1 9).2 (belowC (belowC (onceC (belowC (genD (relIt (belowC (belowC x0 8).1 9).1 (belowC x0 8).2 i).1).1 7).1 4).1 9).1 50).2).1.2 : List T51) = (relIt (belowC (belowC x0 8).1 9).1 (belowC x0 8).2 (i + 1)).2.2 from by first | with_reducible rfl | (first | (rw [rel_y (x := (belowC (belowC x0 8).1 9).1) (a := (belowC x0 8).2) (i := i) (by assumption)]; done) | (rw [rel_n (x := (belowC (belowC x0 8).1 9).1) (a := (belowC x0 8).2) (i := i) (by assumption)]; done)) | rfl) (show (((belowC (belowC x0 8).1 9).2 - ((i : Nat) : Int)) - 1 : Int) = ((belowC (belowC x0 8).1 9).2 - (((i + 1) : Nat) : Int)) from by first | with_reducible rfl | (omega) | rfl)), (by omega), (by omega)⟩
  ·refine wp_seq ?_
   replace h := at_out (σ' := ⟨[(0, aP 1 0), (2, aP 3 0), (3, aP 4 0), (4, aI ((belowC (belowC x0 8).1 9).2 - ((i : Nat) : Int))), (5, aP 7 0)], [(1, oX 60 [.ro (.u8 5) (onceC (belowC (genD (relIt (belowC (belowC x0 8).1 9).1 (belowC x0 8).2 i).1).1 7).1 4).1.1, cI (onceC (belowC (genD (relIt (belowC (belowC x0 8).1 9).1 (belowC x0 8).2 i).1).1 7).1 4).1.2.1, cI (onceC (belowC (genD (relIt (belowC (belowC x0 8).1 9).1 (belowC x0 8).2 i).1).1 7).1 4).1.2.2]), (2, oP 1 (Value.pointer (some ⟨b0, 0, none⟩))), (3, oX 26 [cI 0, cN]), (4, oX 26 [cI (relIt (belowC (belowC x0 8).1 9).1 (belowC x0 8).2 i).2.1, .ro s51 (relIt (belowC (belowC x0 8).1 9).1 (belowC x0 8).2 i).2.2]), (7, oX 46 [cI (belowC (genD (relIt (belowC (belowC x0 8).1 9).1 (belowC x0 8).2 i).1).1 7).2, .ro s27 (genD (relIt (belowC (belowC x0 8).1 9).1 (belowC x0 8).2 i).1).2.2])]⟩) { fz := [6], ts := [0, 2, 3, 4, 5], os := [1, 2, 3, 4, 7] } h (by kernel_rfl)
   refine at_anyq [{}, {}, {}, { frz := true }, {}, {}, {}, {}, { ids := [10] }, {}, {}] { ts := [0, 2, 3, 4, 9], os := [1, 2, 3, 4, 10] } [B_spec_l11Packet.pre (onceC (belowC (genD (relIt (belowC (belowC x0 8).1 9).1 (belowC x0 8).2 i).1).1 7).1 4).1 (((belowC (genD (relIt (belowC (belowC x0 8).1 9).1 (belowC x0 8).2 i).1).1 7).2, (genD (relIt (belowC (belowC x0 8).1 9).1 (belowC x0 8).2 i).1).2.2), ()), Q_spec_RelayReceive (relIt (belowC (belowC x0 8).1 9).1 (belowC x0 8).2 i).2 (pktD (onceC (belowC (genD (relIt (belowC (belowC x0 8).1 9).1 (belowC x0 8).2 i).1).1 7).1 4).1 ((belowC (genD (relIt (belowC (belowC x0 8).1 9).1 (belowC x0 8).2 i).1).1 7).2, (genD (relIt (belowC (belowC x0 8).1 9).1 (belowC x0 8).2 i).1).2.2)).2] gamOK hT mixed h (by kernel_rfl) ⟨(by exact ⟨(once_ok (below_ok (genD_ok hri.1).1)), hvg⟩), (by exact ⟨hri.2, pktD_fit (once_ok (n := 4) (below_ok (n := 7) hgo.1)) hvg⟩), trivial⟩ fun a w h => then_normal ?_
   refine at_regq [] { ts := [0, 2, 3, 4], os := [1, 2, 3, 4] } [] gamOK hT h (by kernel_rfl) trivial fun a w h => in_normal (then_normal ?_)
   refine at_regq [{}, { nw := true }] { ts := [0, 2, 3, 4], os := [1, 2, 3, 4] } [I64 (((belowC (belowC x0 8).1 9).2 - ((i : Nat) : Int)) - 1)] gamOK hT h (by kernel_rfl) ⟨⟨by first | omega | (simp only [lsA]; omega) | (simp <;> omega), by first | omega | (simp only [lsA]; omega) | (simp <;> omega)⟩, trivial⟩ fun a w h => ?_
   replace h := at_out (σ' := ⟨[(0, aP 1 0), (2, aP 3 0), (3, aP 4 0), (4, aI (((belowC (belowC x0 8).1 9).2 - ((i : Nat) : Int)) - 1))], [(1, oX 60 [.ro (.u8 5) (pktD (onceC (belowC (genD (relIt (belowC (belowC x0 8).1 9).1 (belowC x0 8).2 i).1).1 7).1 4).1 ((belowC (genD (relIt (belowC (belowC x0 8).1 9).1 (belowC x0 8).2 i).1).1 7).2, (genD (relIt (belowC (belowC x0 8).1 9).1 (belowC x0 8).2 i).1).2.2)).1.1, cI (pktD (onceC (belowC (genD (relIt (belowC (belowC x0 8).1 9).1 (belowC x0 8).2 i).1).1 7).1 4).1 ((belowC (genD (relIt (belowC (belowC x0 8).1 9).1 (belowC x0 8).2 i).1).1 7).2, (genD (relIt (belowC (belowC x0 8).1 9).1 (belowC x0 8).2 i).1).2.2)).1.2.1, cI (pktD (onceC (belowC (genD (relIt (belowC (belowC x0 8).1 9).1 (belowC x0 8).2 i).1).1 7).1 4).1 ((belowC (genD (relIt (belowC (belowC x0 8).1 9).1 (belowC x0 8).2 i).1).1 7).2, (genD (relIt (belowC (belowC x0 8).1 9).1 (belowC x0 8).2 i).1).2.2)).1.2.2]), (2, oP 1 (Value.pointer (some ⟨b0, 0, none⟩))), (3, oX 26 [cI 0, cN]), (4, oX 26 [cI (rcvL (relIt (belowC (belowC x0 8).1 9).1 (belowC x0 8).2 i).2 (pktD (onceC (belowC (genD (relIt (belowC (belowC x0 8).1 9).1 (belowC x0 8).2 i).1).1 7).1 4).1 ((belowC (genD (relIt (belowC (belowC x0 8).1 9).1 (belowC x0 8).2 i).1).1 7).2, (genD (relIt (belowC (belowC x0 8).1 9).1 (belowC x0 8).2 i).1).2.2)).2).1.1, .ro s51 (rcvL (relIt (belowC (belowC x0 8).1 9).1 (belowC x0 8).2 i).2 (pktD (onceC (belowC (genD (relIt (belowC (belowC x0 8).1 9).1 (belowC x0 8).2 i).1).1 7).1 4).1 ((belowC (genD (relIt (belowC (belowC x0 8).1 9).1 (belowC x0 8).2 i).1).1 7).2, (genD (relIt (belowC (belowC x0 8).1 9).1 (belowC x0 8).2 i).1).2.2)).2).1.2])]⟩) { ts := [0, 2, 3, 4], os := [1, 2, 3, 4] } h (by kernel_rfl)
   exact ⟨i + 1, at_eq h (st_congr6 (fun (d0 : List Int) (d1 : Int) (d2 : Int) (d3 : Int) (d4 : List T51) (d5 : Int) => (⟨[(0, aP 1 0), (2, aP 3 0), (3, aP 4 0), (4, aI d5)], [(1, oX 60 [.ro (.u8 5) d0, cI d1, cI d2]), (2, oP 1 (Value.pointer (some ⟨b0, 0, none⟩))), (3, oX 26 [cI 0, cN]), (4, oX 26 [cI d3, .ro s51 d4])]⟩ : St)) (show ((pktD (onceC (belowC (genD (relIt (belowC (belowC x0 8).1 9).1 (belowC x0 8).2 i).1).1 7).1 4).1 ((belowC (genD (relIt (belowC (belowC x0 8).1 9).1 (belowC x0 8).2 i).1).1 7).2, (genD (relIt (belowC (belowC x0 8).1 9).1 (belowC x0 8).2 i).1).2.2)).1.1 : List Int) = (relIt (belowC (belowC x0 8).1 9).1 (belowC x0 8).2 (i + 1)).1.1 from by first | with_reducible rfl | (first | (rw [rel_y (x := (belowC (belowC x0 8).1 9).1) (a := (belowC x0 8).2) (i := i) (by assumption)]; done) | (rw [rel_n (x := (belowC (belowC x0 8).1 9).1) (a := (belowC x0 8).2) (i := i) (by assumption)]; done)) | rfl) (show ((pktD (onceC (belowC (genD (relIt (belowC (belowC x0 8).1 9).1 (belowC x0 8).2 i).1).1 7).1 4).1 ((belowC (genD (relIt (belowC (belowC x0 8).1 9).1 (belowC x0 8).2 i).1).1 7).2, (genD (relIt (belowC (belowC x0 8).1 9).1 (belowC x0 8).2 i).1).2.2)).1.2.1 : Int) = (relIt (belowC (belowC x0 8).1 9).1 (belowC x0 8).2 (i + 1)).1.2.1 from by first | with_reducible rfl | (first | (rw [rel_y (x := (belowC (belowC x0 8).1 9).1) (a := (belowC x0 8).2) (i := i) (by assumption)]; done) | (rw [rel_n (x := (belowC (belowC x0 8).1 9).1) (a := (belowC x0 8).2) (i := i) (by assumption)]; done)) | rfl) (show ((pktD (onceC (belowC (genD (relIt (belowC (belowC x0 8).1 9).1 (belowC x0 8).2 i).1).1 7).1 4).1 ((belowC (genD (relIt (belowC (belowC x0 8).1 9).1 (belowC x0 8).2 i).1).1 7).2, (genD (relIt (belowC (belowC x0 8).1 9).1 (belowC x0 8).2 i).1).2.2)).1.2.2 : Int) = (relIt (belowC (belowC x0 8).1 9).1 (belowC x0 8).2 (i + 1)).1.2.2 from by first | with_reducible rfl | (first | (rw [rel_y (x := (belowC (belowC x0 8).1 9).1) (a := (belowC x0 8).2) (i := i) (by assumption)]; done) | (rw [rel_n (x := (belowC (belowC x0 8).1 9).1) (a := (belowC x0 8).2) (i := i) (by assumption)]; done)) | rfl) (show ((rcvL (relIt (belowC (belowC x0 8).1 9).1 (belowC x0 8).2 i).2 (pktD (onceC (belowC (genD (relIt (belowC (belowC x0 8).1 9).1 (belowC x0 8).2 i).1).1 7).1 4).1 ((belowC (genD (relIt (belowC (belowC x0 8).1 9).1 (belowC x0 8).2 i).1).1 7).2, (genD (relIt (belowC (belowC x0 8).1 9).1 (belowC x0 8).2 i).1).2.2)).2).1.1 : Int) = (relIt (belowC (belowC x0 8).1 9).1 (belowC x0 8).2 (i + 1)).2.1 from by first | with_reducible rfl | (first | (rw [rel_y (x := (belowC (belowC x0 8).1 9).1) (a := (belowC x0 8).2) (i := i) (by assumption)]; done) | (rw [rel_n (x := (belowC (belowC x0 8).1 9).1) (a := (belowC x0 8).2) (i := i) (by assumption)]; done)) | rfl) (show ((rcvL (relIt (belowC (belowC x0 8).1 9).1 (belowC x0 8).2 i).2 (pktD (onceC (belowC (genD (relIt (belowC (belowC x0 8).1 9).1 (belowC x0 8).2 i).1).1 7).1 4).1 ((belowC (genD (relIt (belowC (belowC x0 8).1 9).1 (belowC x0 8).2 i).1).1 7).2, (genD (relIt (belowC (belowC x0 8).1 9).1 (belowC x0 8).2 i).1).2.2)).2).1.2 : List T51) = (relIt (belowC (belowC x0 8).1 9).1 (belowC x0 8).2 (i + 1)).2.2 from by first | with_reducible rfl | (first | (rw [rel_y (x := (belowC (belowC x0 8).1 9).1) (a := (belowC x0 8).2) (i := i) (by assumption)]; done) | (rw [rel_n (x := (belowC (belowC x0 8).1 9).1) (a := (belowC x0 8).2) (i := i) (by assumption)]; done)) | rfl) (show (((belowC (belowC x0 8).1 9).2 - ((i : Nat) : Int)) - 1 : Int) = ((belowC (belowC x0 8).1 9).2 - (((i + 1) : Nat) : Int)) from by first | with_reducible rfl | (omega) | rfl)), (by omega), (by omega)⟩
 ·replace h1 : ¬ (((belowC (belowC x0 8).1 9).2 - ((i : Nat) : Int)) > 0) := of_decide_eq_false h1
  refine wp_exit (then_exit ?_)
  replace h := at_out (σ' := ⟨[(2, aP 3 0), (3, aP 4 0)], [(1, oX 60 [.ro (.u8 5) (relIt (belowC (belowC x0 8).1 9).1 (belowC x0 8).2 i).1.1, cI (relIt (belowC (belowC x0 8).1 9).1 (belowC x0 8).2 i).1.2.1, cI (relIt (belowC (belowC x0 8).1 9).1 (belowC x0 8).2 i).1.2.2]), (2, oP 1 (Value.pointer (some ⟨b0, 0, none⟩))), (3, oX 26 [cI 0, cN]), (4, oX 26 [cI (relIt (belowC (belowC x0 8).1 9).1 (belowC x0 8).2 i).2.1, .ro s51 (relIt (belowC (belowC x0 8).1 9).1 (belowC x0 8).2 i).2.2])]⟩) { ts := [2, 3], os := [1, 2, 3, 4] } h (by kernel_rfl)
  replace h := at_eq (σ' := ⟨[(2, aP 3 0), (3, aP 4 0)], [(1, oX 60 [.ro (.u8 5) (relIt (belowC (belowC x0 8).1 9).1 (belowC x0 8).2 (belowC (belowC x0 8).1 9).2.toNat).1.1, cI (relIt (belowC (belowC x0 8).1 9).1 (belowC x0 8).2 (belowC (belowC x0 8).1 9).2.toNat).1.2.1, cI (relIt (belowC (belowC x0 8).1 9).1 (belowC x0 8).2 (belowC (belowC x0 8).1 9).2.toNat).1.2.2]), (2, oP 1 (Value.pointer (some ⟨b0, 0, none⟩))), (3, oX 26 [cI 0, cN]), (4, oX 26 [cI (relIt (belowC (belowC x0 8).1 9).1 (belowC x0 8).2 (belowC (belowC x0 8).1 9).2.toNat).2.1, .ro s51 (relIt (belowC (belowC x0 8).1 9).1 (belowC x0 8).2 (belowC (belowC x0 8).1 9).2.toNat).2.2])]⟩) h (st_congr5 (fun (d0 : List Int) (d1 : Int) (d2 : Int) (d3 : Int) (d4 : List T51) => (⟨[(2, aP 3 0), (3, aP 4 0)], [(1, oX 60 [.ro (.u8 5) d0, cI d1, cI d2]), (2, oP 1 (Value.pointer (some ⟨b0, 0, none⟩))), (3, oX 26 [cI 0, cN]), (4, oX 26 [cI d3, .ro s51 d4])]⟩ : St)) (show ((relIt (belowC (belowC x0 8).1 9).1 (belowC x0 8).2 i).1.1 : List Int) = (relIt (belowC (belowC x0 8).1 9).1 (belowC x0 8).2 (belowC (belowC x0 8).1 9).2.toNat).1.1 from by first | with_reducible rfl | (rw [show (belowC (belowC x0 8).1 9).2.toNat = i by omega]) | rfl) (show ((relIt (belowC (belowC x0 8).1 9).1 (belowC x0 8).2 i).1.2.1 : Int) = (relIt (belowC (belowC x0 8).1 9).1 (belowC x0 8).2 (belowC (belowC x0 8).1 9).2.toNat).1.2.1 from by first | with_reducible rfl | (rw [show (belowC (belowC x0 8).1 9).2.toNat = i by omega]) | rfl) (show ((relIt (belowC (belowC x0 8).1 9).1 (belowC x0 8).2 i).1.2.2 : Int) = (relIt (belowC (belowC x0 8).1 9).1 (belowC x0 8).2 (belowC (belowC x0 8).1 9).2.toNat).1.2.2 from by first | with_reducible rfl | (rw [show (belowC (belowC x0 8).1 9).2.toNat = i by omega]) | rfl) (show ((relIt (belowC (belowC x0 8).1 9).1 (belowC x0 8).2 i).2.1 : Int) = (relIt (belowC (belowC x0 8).1 9).1 (belowC x0 8).2 (belowC (belowC x0 8).1 9).2.toNat).2.1 from by first | with_reducible rfl | (rw [show (belowC (belowC x0 8).1 9).2.toNat = i by omega]) | rfl) (show ((relIt (belowC (belowC x0 8).1 9).1 (belowC x0 8).2 i).2.2 : List T51) = (relIt (belowC (belowC x0 8).1 9).1 (belowC x0 8).2 (belowC (belowC x0 8).1 9).2.toNat).2.2 from by first | with_reducible rfl | (rw [show (belowC (belowC x0 8).1 9).2.toNat = i by omega]) | rfl))
  refine then_exit (in_hit (then_normal (wp_seq ?_)))
  refine at_regq [] { ts := [2], os := [1, 2, 3] } [] gamOK hT h (by kernel_rfl) trivial fun a w h => then_normal (wp_ret ?_)
  have hr3 : (((relIt (belowC (belowC x0 8).1 9).1 (belowC x0 8).2 (belowC (belowC x0 8).1 9).2.toNat).1, (relIt (belowC (belowC x0 8).1 9).1 (belowC x0 8).2 (belowC (belowC x0 8).1 9).2.toNat).2) : T60 × T26) = relD x0 := by rfl
  exact at_returnB (B := B_spec_l31Relay) (c0 := x0) (x := (())) ((relIt (belowC (belowC x0 8).1 9).1 (belowC x0 8).2 (belowC (belowC x0 8).1 9).2.toNat).1) ((relIt (belowC (belowC x0 8).1 9).1 (belowC x0 8).2 (belowC (belowC x0 8).1 9).2.toNat).2, ()) [(Value.pointer (some ⟨b0, 0, none⟩)) = (Value.pointer (some ⟨b0, 0, none⟩))] h (by kernel_rfl) ⟨rfl, trivial⟩ (congrArg (a₁ := ((relIt (belowC (belowC x0 8).1 9).1 (belowC x0 8).2 (belowC (belowC x0 8).1 9).2.toNat).1, (relIt (belowC (belowC x0 8).1 9).1 (belowC x0 8).2 (belowC (belowC x0 8).1 9).2.toNat).2)) (a₂ := relD x0) (fun (z : T60 × T26) => z.1) hr3) (congrArg (a₁ := ((relIt (belowC (belowC x0 8).1 9).1 (belowC x0 8).2 (belowC (belowC x0 8).1 9).2.toNat).1, (relIt (belowC (belowC x0 8).1 9).1 (belowC x0 8).2 (belowC (belowC x0 8).1 9).2.toNat).2)) (a₂ := relD x0) (fun (z : T60 × T26) => (z.2, ())) hr3)
theorem relD_ok {x : T60} (h : 0 ≤ x.2.1) : 0 ≤ (relD x).1.2.1 ∧ Sh.fit s26 (relD x).2 := by
 unfold relD
 exact relIt_inv (below_ok (below_ok h)) _

def drawMb (x0 : (List Int)) : Int × T26 × T29 × Int := (if ((List.length (relD (belowC (newC x0) 7).1).2.2 : Nat) : Int) > 0 then (if (onceC (pktD (genD (relD (belowC (newC x0) 7).1).1).1 (genD (relD (belowC (newC x0) 7).1).1).2).1 2).2 = true then ((belowC (newC x0) 7).2 - 1, (relD (belowC (newC x0) 7).1).2, (((relD (belowC (newC x0) 7).1).2.2.getD 0 (0, (0, (0, ([], 0))))).1, (pktD (genD (relD (belowC (newC x0) 7).1).1).1 (genD (relD (belowC (newC x0) 7).1).1).2).2.2), (pickC (onceC (pktD (genD (relD (belowC (newC x0) 7).1).1).1 (genD (relD (belowC (newC x0) 7).1).1).2).1 2).1 ([(-1), 0, 1, 2, 7, 1018, 1019])).2) else ((belowC (newC x0) 7).2 - 1, (relD (belowC (newC x0) 7).1).2, (pktD (genD (relD (belowC (newC x0) 7).1).1).1 (genD (relD (belowC (newC x0) 7).1).1).2).2, (pickC (onceC (pktD (genD (relD (belowC (newC x0) 7).1).1).1 (genD (relD (belowC (newC x0) 7).1).1).2).1 2).1 ([(-1), 0, 1, 2, 7, 1018, 1019])).2)) else ((belowC (newC x0) 7).2 - 1, (relD (belowC (newC x0) 7).1).2, (pktD (genD (relD (belowC (newC x0) 7).1).1).1 (genD (relD (belowC (newC x0) 7).1).1).2).2, (pickC (pktD (genD (relD (belowC (newC x0) 7).1).1).1 (genD (relD (belowC (newC x0) 7).1).1).2).1 ([(-1), 0, 1, 2, 7, 1018, 1019])).2))
abbrev Q_spec_DrawMisbehave := (fun (x0 : (List Int)) => Sh.fit s22 x0)
def S_spec_DrawMisbehave : Sum := { fid := 5, dom := [s22], cod := [(.int 3), s26, s29, (.int 3)], dp := false, fz := true, pre := fun x => Q_spec_DrawMisbehave x.1, g := fun x => ((drawMb x.1).1, ((drawMb x.1).2.1, ((drawMb x.1).2.2.1, ((drawMb x.1).2.2.2, ())))) }
def S_spec_DrawMisbehave_tab : List (Nat × Sum) := [(13, S_spec_l1New), (14, S_spec_l1Below), (15, S_spec_l31Relay), (17, S_spec_l10Gen), (16, S_spec_l11Packet), (18, S_spec_l1Once), (19, S_spec_l1Int)]
theorem S_spec_DrawMisbehave_ok : FnOK Tryd.prog 5 S_spec_DrawMisbehave := by
 refine at_enter 41 (fun x => ⟨[(0, aF (.u8 5) x.1)], []⟩) Tryd.func5 rfl (by kernel_rfl) (fun x => rfl) ?_
 rintro w0 Z0 ⟨x0, u⟩ a w
 revert x0
 intro (x0 : (List Int)) hpre hlens h
 replace hpre : Q_spec_DrawMisbehave x0 := hpre
 have hu0 : u8L x0 := hlens.1.2
 have hT : TabOK Tryd.prog w0 [] S_spec_DrawMisbehave_tab := (.cons S_spec_l1New_ok (.cons S_spec_l1Below_ok (.cons S_spec_l31Relay_ok (.cons S_spec_l10Gen_ok (.cons S_spec_l11Packet_ok (.cons S_spec_l1Once_ok (.cons S_spec_l1Int_ok .nil)))))))
 have hf0 : Sh.fit s22 x0 := hpre
 have hn0_1 : List.length x0 ≤ 1073741824 := hf0.1
 have hr := relD_ok (below_ok (x := newC x0) (n := 7) (Int.le_refl 0))
 have hg := genD_ok hr.1
 have hb7 := below_bd (newC x0) (n := 7) (by decide)
 have hpk := (pktD_ok hg.1 hg.2.1).1
 refine wp_seq ?_
 refine at_regq [{}, { ids := [1] }, { ids := [2] }] { ts := [0, 2, 3, 4, 5], os := [1, 2] } [] gamOK hT h (by kernel_rfl) trivial fun a w h => then_normal (wp_seq ?_)
 refine at_regq [{}, { ids := [3] }] { ts := [2, 3, 4, 5, 6], os := [1, 2, 3] } [B_spec_l1New.pre (x0, ())] gamOK hT h (by kernel_rfl) ⟨(by exact hf0), trivial⟩ fun a w h => then_normal (wp_seq ?_)
 refine at_regq [{}, {}, { nw := true }] { ts := [2, 3, 4, 5, 6, 7], os := [1, 2, 3] } [B_spec_l1Below.pre (newC x0) (7, ()), I64 ((belowC (newC x0) 7).2 - 1)] gamOK hT h (by kernel_rfl) ⟨(by first | exact Int.le_refl 0 | exact (Int.le_refl 0)), ⟨by first | omega | (simp only [lsA]; omega) | (simp <;> omega), by first | omega | (simp only [lsA]; omega) | (simp <;> omega)⟩, trivial⟩ fun a w h => then_normal (wp_seq ?_)
 refine at_regq [{}, { frz := true }, { ids := [4] }] { ts := [2, 3, 4, 5, 6, 7, 8], os := [1, 2, 3, 4] } [B_spec_l31Relay.pre (belowC (newC x0) 7).1 (())] gamOK hT h (by kernel_rfl) ⟨(by first | exact Int.le_refl 0 | exact (below_ok (Int.le_refl 0))), trivial⟩ fun a w h => then_normal (wp_seq ?_)
 refine at_regq [{}, {}, { frz := true }, { ids := [5, 6] }, { ids := [7] }] { ts := [2, 3, 4, 5, 6, 7, 8, 9], os := [1, 2, 3, 4, 5, 6, 7] } [B_spec_l10Gen.pre (relD (belowC (newC x0) 7).1).1 (()), B_spec_l11Packet.pre (genD (relD (belowC (newC x0) 7).1).1).1 ((genD (relD (belowC (newC x0) 7).1).1).2, ())] gamOK hT h (by kernel_rfl) ⟨(by first | exact Int.le_refl 0 | exact (relD_ok (below_ok (Int.le_refl 0))).1), (by exact ⟨(genD_ok (relD_ok (below_ok (Int.le_refl 0))).1).1, hg.2.1⟩), trivial⟩ fun a w h => then_normal (wp_seq (wp_seq ?_))
 by_cases h1 : ((List.length (relD (belowC (newC x0) 7).1).2.2 : Nat) : Int) > 0
 ·refine at_regq [{}, {}, {}, { hint := some (aB true) }] { ts := [2, 3, 4, 5, 6, 7, 8, 9, 28], os := [1, 2, 3, 4, 5, 6, 7] } [(AV.p (.c (.v (.bool (decide (((List.length (relD (belowC (newC x0) 7).1).2.2 : Nat) : Int) > 0))))) = AV.p (.c (.v (.bool true)))), B_spec_l1Once.pre (pktD (genD (relD (belowC (newC x0) 7).1).1).1 (genD (relD (belowC (newC x0) 7).1).1).2).1 (2, ())] gamOK hT h (by kernel_rfl) ⟨hint_bool (decide_eq_true h1), (by first | exact Int.le_refl 0 | exact hpk), trivial⟩ fun a w h => then_normal ?_
  refine at_test ((onceC (pktD (genD (relD (belowC (newC x0) 7).1).1).1 (genD (relD (belowC (newC x0) 7).1).1).2).1 2).2) h (by kernel_rfl) (fun h2 => ?_) (fun h2 => ?_)
  ·refine at_regq [] { ts := [2, 3, 4, 5, 6, 7, 8, 9], os := [1, 2, 3, 4, 5, 6, 7] } [(0 : Int) ≤ 0 ∧ 0 < ((List.length (relD (belowC (newC x0) 7).1).2.2 : Nat) : Int)] gamOK hT h (by kernel_rfl) ⟨(by refine ⟨?_, ?_⟩ <;> (first | omega | (simp only [lsA]; omega) | (simp <;> omega))), trivial⟩ fun a w h => then_normal (wp_seq ?_)
   refine at_anyq [{}, {}, {}, {}, { ids := [8], frz := true, dp := false }, {}, {}, {}, {}, {}] { ts := [2, 3, 4, 5], os := [1, 2, 5, 6] } [B_spec_l1Int.pre (onceC (pktD (genD (relD (belowC (newC x0) 7).1).1).1 (genD (relD (belowC (newC x0) 7).1).1).2).1 2).1 ([(-1), 0, 1, 2, 7, 1018, 1019], ())] gamOK hT mixed h (by kernel_rfl) ⟨(by exact ⟨(once_ok hpk), by simp, by simp⟩), trivial⟩ fun a w h => then_normal (wp_ret ?_)
   exact at_return ((belowC (newC x0) 7).2 - 1, ((relD (belowC (newC x0) 7).1).2, ((((relD (belowC (newC x0) 7).1).2.2.getD 0 (0, (0, (0, ([], 0))))).1, (pktD (genD (relD (belowC (newC x0) 7).1).1).1 (genD (relD (belowC (newC x0) 7).1).1).2).2.2), ((pickC (onceC (pktD (genD (relD (belowC (newC x0) 7).1).1).1 (genD (relD (belowC (newC x0) 7).1).1).2).1 2).1 ([(-1), 0, 1, 2, 7, 1018, 1019])).2, ())))) [] h (by kernel_rfl) trivial (congrArg (fun z => (z.1, z.2.1, z.2.2.1, z.2.2.2, ())) (show (((belowC (newC x0) 7).2 - 1, (relD (belowC (newC x0) 7).1).2, (((relD (belowC (newC x0) 7).1).2.2.getD 0 (0, (0, (0, ([], 0))))).1, (pktD (genD (relD (belowC (newC x0) 7).1).1).1 (genD (relD (belowC (newC x0) 7).1).1).2).2.2), (pickC (onceC (pktD (genD (relD (belowC (newC x0) 7).1).1).1 (genD (relD (belowC (newC x0) 7).1).1).2).1 2).1 ([(-1), 0, 1, 2, 7, 1018, 1019])).2)) = drawMb x0 from by first | rfl | (unfold drawMb; rw [if_pos h1, if_pos h2])))
  ·refine wp_skip (then_normal (wp_seq ?_))
   refine at_anyq [{}, {}, {}, {}, { ids := [9], frz := true, dp := false }, {}, {}, {}, {}, {}] { ts := [2, 3, 4, 5], os := [1, 2, 5, 6] } [B_spec_l1Int.pre (onceC (pktD (genD (relD (belowC (newC x0) 7).1).1).1 (genD (relD (belowC (newC x0) 7).1).1).2).1 2).1 ([(-1), 0, 1, 2, 7, 1018, 1019], ())] gamOK hT mixed h (by kernel_rfl) ⟨(by exact ⟨(once_ok hpk), by simp, by simp⟩), trivial⟩ fun a w h => then_normal (wp_ret ?_)
   exact at_return ((belowC (newC x0) 7).2 - 1, ((relD (belowC (newC x0) 7).1).2, ((pktD (genD (relD (belowC (newC x0) 7).1).1).1 (genD (relD (belowC (newC x0) 7).1).1).2).2, ((pickC (onceC (pktD (genD (relD (belowC (newC x0) 7).1).1).1 (genD (relD (belowC (newC x0) 7).1).1).2).1 2).1 ([(-1), 0, 1, 2, 7, 1018, 1019])).2, ())))) [] h (by kernel_rfl) trivial (congrArg (fun z => (z.1, z.2.1, z.2.2.1, z.2.2.2, ())) (show (((belowC (newC x0) 7).2 - 1, (relD (belowC (newC x0) 7).1).2, (pktD (genD (relD (belowC (newC x0) 7).1).1).1 (genD (relD (belowC (newC x0) 7).1).1).2).2, (pickC (onceC (pktD (genD (relD (belowC (newC x0) 7).1).1).1 (genD (relD (belowC (newC x0) 7).1).1).2).1 2).1 ([(-1), 0, 1, 2, 7, 1018, 1019])).2)) = drawMb x0 from by first | rfl | (unfold drawMb; rw [if_pos h1, if_neg (neT h2)])))
 ·refine at_regq [{}, {}, {}, { hint := some (aB false) }] { ts := [2, 3, 4, 5, 6, 7, 8, 9, 28], os := [1, 2, 3, 4, 5, 6, 7] } [(AV.p (.c (.v (.bool (decide (((List.length (relD (belowC (newC x0) 7).1).2.2 : Nat) : Int) > 0))))) = AV.p (.c (.v (.bool false))))] gamOK hT h (by kernel_rfl) ⟨hint_bool (decide_eq_false h1), trivial⟩ fun a w h => then_normal ?_
  refine at_test false h (by kernel_rfl) (fun hh => nomatch hh) (fun hh => ?_)
  refine wp_skip (then_normal (wp_seq ?_))
  refine at_anyq [{}, {}, {}, {}, { ids := [8], frz := true, dp := false }, {}, {}, {}, {}, {}] { ts := [2, 3, 4, 5], os := [1, 2, 5, 6] } [B_spec_l1Int.pre (pktD (genD (relD (belowC (newC x0) 7).1).1).1 (genD (relD (belowC (newC x0) 7).1).1).2).1 ([(-1), 0, 1, 2, 7, 1018, 1019], ())] gamOK hT mixed h (by kernel_rfl) ⟨(by exact ⟨hpk, by simp, by simp⟩), trivial⟩ fun a w h => then_normal (wp_ret ?_)
  exact at_return ((belowC (newC x0) 7).2 - 1, ((relD (belowC (newC x0) 7).1).2, ((pktD (genD (relD (belowC (newC x0) 7).1).1).1 (genD (relD (belowC (newC x0) 7).1).1).2).2, ((pickC (pktD (genD (relD (belowC (newC x0) 7).1).1).1 (genD (relD (belowC (newC x0) 7).1).1).2).1 ([(-1), 0, 1, 2, 7, 1018, 1019])).2, ())))) [] h (by kernel_rfl) trivial (congrArg (fun z => (z.1, z.2.1, z.2.2.1, z.2.2.2, ())) (show (((belowC (newC x0) 7).2 - 1, (relD (belowC (newC x0) 7).1).2, (pktD (genD (relD (belowC (newC x0) 7).1).1).1 (genD (relD (belowC (newC x0) 7).1).1).2).2, (pickC (pktD (genD (relD (belowC (newC x0) 7).1).1).1 (genD (relD (belowC (newC x0) 7).1).1).2).1 ([(-1), 0, 1, 2, 7, 1018, 1019])).2)) = drawMb x0 from by first | rfl | (unfold drawMb; rw [if_neg h1])))
structure MbOK (d : Int × T26 × T29 × Int) : Prop where
 b : -1 ≤ d.1 ∧ d.1 ≤ 5
 fr : Sh.fit s26 d.2.1
 fp : Sh.fit s29 d.2.2.1
 pl : 1 ≤ List.length d.2.2.1.2.2
 pv : ∀ x ∈ d.2.2.1.2.2, LA.El x
 n : -1 ≤ d.2.2.2 ∧ d.2.2.2 ≤ 1019
theorem drawMb_ok (x : List Int) : MbOK (drawMb x) := by
 have hb := below_bd (newC x) (n := 7) (by decide)
 have hr := relD_ok (below_ok (x := newC x) (n := 7) (Int.le_refl 0))
 have hg := genD_ok hr.1
 have hp := pktD_ok hg.1 hg.2.1
 have hf := pktD_fit hg.1 hg.2.1
 have hl := combS_ok hg.2.1 hp.2.2.1
 have hgr := validG_t hg.2.1
 have hco := colsOf_at (m := (genD (relD (belowC (newC x) 7).1).1).2.2) (by omega)
 rw [← hp.2.2.2] at hl
 have h1 : 1 ≤ List.length (pktD (genD (relD (belowC (newC x) 7).1).1).1 (genD (relD (belowC (newC x) 7).1).1).2).2.2.2 := by rw [hl.1]; omega
 have hpk : ∀ q : T60, -1 ≤ (pickC q [-1, 0, 1, 2, 7, 1018, 1019]).2 ∧ (pickC q [-1, 0, 1, 2, 7, 1018, 1019]).2 ≤ 1019 := fun q => by
  have := pickC_mem (x := q) (l := [-1, 0, 1, 2, 7, 1018, 1019]) (by decide)
  simp only [List.mem_cons, List.mem_nil_iff, or_false] at this
  omega
 have hb' : -1 ≤ (belowC (newC x) 7).2 - 1 ∧ (belowC (newC x) 7).2 - 1 ≤ 5 := by omega
 unfold drawMb
 (repeat' split) <;> exact ⟨hb', hr.2, ⟨trivial, hf.2⟩, h1, hl.2, hpk _⟩

def isBeh (x0 : Int) : Bool := (inR x0 0 4)
def S_impl_IsBehavior : Sum := { fid := 9, dom := [(.int 3)], cod := [(.bool 4)], dp := true, fz := false, pre := fun x => True, g := fun x => ((isBeh x.1), ()) }
def S_impl_IsBehavior_tab : List (Nat × Sum) := [(25, S_impl_InRange)]
theorem S_impl_IsBehavior_ok : FnOK Tryd.prog 9 S_impl_IsBehavior := by
 refine at_enter 5 (fun x => ⟨[(0, aI x.1)], []⟩) Tryd.func9 rfl (by kernel_rfl) (fun x => rfl) ?_
 rintro w0 Z0 ⟨x0, u⟩ a w
 revert x0
 intro (x0 : Int) hpre hlens h
 have hT : TabOK Tryd.prog w0 [] S_impl_IsBehavior_tab := (.cons S_impl_InRange_ok .nil)
 refine wp_seq ?_
 refine at_regq [] { ts := [0, 2], os := [] } [] gamOK hT h (by kernel_rfl) trivial fun a w h => then_normal (wp_seq ?_)
 refine at_regq [] { ts := [2], os := [] } [True] gamOK hT h (by kernel_rfl) ⟨trivial, trivial⟩ fun a w h => then_normal (wp_ret ?_)
 exact at_return ((inR x0 0 4), ()) [] h (by kernel_rfl) trivial (congrArg (fun z => (z, ())) (show ((inR x0 0 4)) = isBeh x0 from by rfl))

def honTo (xs : List Int) (i : Nat) : List Int := List.map (fun (k : Nat) => (k : Int)) (List.filter (fun k => decide (xs.getD k 0 = 0)) (List.range i))
def honL (xs : List Int) : List Int := honTo xs xs.length
theorem honTo_len (xs : List Int) (i : Nat) : (honTo xs i).length ≤ i := by
 unfold honTo
 rw [List.length_map]
 have := List.length_filter_le (fun k => decide (xs.getD k 0 = 0)) (List.range i)
 rwa [List.length_range] at this
theorem hon_y {xs : List Int} {i : Nat} (h : xs.getD i 0 = 0) : honTo xs (i + 1) = honTo xs i ++ [(i : Int)] := by
 unfold honTo
 rw [List.range_succ, List.filter_append, List.map_append, List.filter_cons_of_pos (p := fun k => decide (xs.getD k 0 = 0)) (a := i) (l := []) (decide_eq_true h)]; rfl
theorem hon_n {xs : List Int} {i : Nat} (h : ¬ xs.getD i 0 = 0) : honTo xs (i + 1) = honTo xs i := by
 unfold honTo
 rw [List.range_succ, List.filter_append, List.map_append, List.filter_cons_of_neg (p := fun k => decide (xs.getD k 0 = 0)) (a := i) (l := []) (by show ¬ decide (xs.getD i 0 = 0) = true; rw [decide_eq_false h]; decide)]; simp
theorem honTo_all {xs : List Int} {i : Nat} (h : i = List.length xs) : honTo xs i = honL xs := by rw [h]; rfl
abbrev Q_impl_HonestNodes := (fun (x0 : (List Int)) => Sh.fit s27 x0)
def S_impl_HonestNodes : Sum := { fid := 12, dom := [s27], cod := [s27], dp := true, fz := false, pre := fun x => Q_impl_HonestNodes x.1, g := fun x => ((honL x.1), ()) }
def S_impl_HonestNodes_tab : List (Nat × Sum) := []
theorem S_impl_HonestNodes_ok : FnOK Tryd.prog 12 S_impl_HonestNodes := by
 refine at_enter 21 (fun x => ⟨[(0, aF (.int 3) x.1)], []⟩) Tryd.func12 rfl (by kernel_rfl) (fun x => rfl) ?_
 rintro w0 Z0 ⟨x0, u⟩ a w
 revert x0
 intro (x0 : (List Int)) hpre hlens h
 replace hpre : Q_impl_HonestNodes x0 := hpre
 have hT : TabOK Tryd.prog w0 [] S_impl_HonestNodes_tab := .nil
 have hf0 : Sh.fit s27 x0 := hpre
 have hn0_1 : List.length x0 ≤ 1073741824 := hf0.1
 refine wp_seq ?_
 refine at_regq [] { ts := [0, 2], os := [] } [] gamOK hT h (by kernel_rfl) trivial fun a w h => then_normal (wp_seq ?_)
 refine at_regq [] { ts := [0, 2, 3], os := [] } [] gamOK hT h (by kernel_rfl) trivial fun a w h => then_normal (wp_seq (wp_seq ?_))
 refine at_regq [] { ts := [2, 3, 6, 7, 8], os := [] } [] gamOK hT h (by kernel_rfl) trivial fun a w h => then_normal (wp_block ?_)
 replace h := at_out (σ' := ⟨[(2, .p (.c (cN))), (3, aS 1), (6, aF (.int 3) x0), (7, aI ((List.length x0 : Nat) : Int)), (8, aI 0)], [(1, oR (.int 3) ([] : List Int))]⟩) { mt := [⟨none, 3, 1, true, (.int 3)⟩], ts := [2, 3, 6, 7, 8], os := [1] } h (by kernel_rfl)
 refine at_loop (fun i : Nat => (⟨[(2, .p (.c (cN))), (3, aS 1), (6, aF (.int 3) x0), (7, aI ((List.length x0 : Nat) : Int)), (8, aI ((i : Nat) : Int))], [(1, oR (.int 3) (honTo x0 i))]⟩ : St)) (fun i => i ≤ List.length x0) (fun i => List.length x0 - i) (0) h (st_congr2 (fun (d0 : List Int) (d1 : Int) => (⟨[(2, .p (.c (cN))), (3, aS 1), (6, aF (.int 3) x0), (7, aI ((List.length x0 : Nat) : Int)), (8, aI d1)], [(1, oR (.int 3) d0)]⟩ : St)) (show (([] : List Int) : List Int) = (honTo x0 (0)) from by first | with_reducible rfl | (rfl) | rfl) (show (0 : Int) = (((0) : Nat) : Int) from by first | with_reducible rfl | (rfl) | rfl)) (by omega) ?_
 intro i a w hok0 h
 have hhl := honTo_len x0 i
 refine wp_seq ?_
 refine at_regq [] { ts := [2, 3, 6, 7, 8, 9], os := [1] } [] gamOK hT h (by kernel_rfl) trivial fun a w h => then_normal (wp_seq ?_)
 refine at_test (decide (((i : Nat) : Int) < ((List.length x0 : Nat) : Int))) h (by kernel_rfl) (fun h1 => ?_) (fun h1 => ?_)
 ·replace h1 : ((i : Nat) : Int) < ((List.length x0 : Nat) : Int) := of_decide_eq_true h1
  refine wp_skip (then_normal (wp_seq (wp_block (wp_seq ?_))))
  refine at_regq [] { ts := [2, 3, 4, 5, 6, 7, 8], os := [1] } [(0 : Int) ≤ ((i : Nat) : Int) ∧ ((i : Nat) : Int) < ((List.length x0 : Nat) : Int)] gamOK hT h (by kernel_rfl) ⟨(by refine ⟨?_, ?_⟩ <;> (first | omega | (simp only [lsA]; omega) | (simp <;> omega))), trivial⟩ fun a w h => then_normal (wp_seq ?_)
  refine at_regq [] { ts := [2, 3, 4, 6, 7, 8, 14], os := [1] } [] gamOK hT h (by kernel_rfl) trivial fun a w h => then_normal ?_
  refine at_test (decide ((x0.getD i 0) = 0)) h (by kernel_rfl) (fun h2 => ?_) (fun h2 => ?_)
  ·replace h2 : (x0.getD i 0) = 0 := of_decide_eq_true h2
   refine at_regq [{}, {}, { ids := [2] }, { ids := [3] }] { ts := [2, 3, 6, 7, 8], os := [3] } [(List.length (honTo x0 i) + List.length ([((i : Nat) : Int)])) * 8 ≤ 140737488355328] gamOK hT h (by kernel_rfl) ⟨(by first | omega | (simp only [lsA]; omega) | (simp <;> omega)), trivial⟩ fun a w h => in_normal (then_normal ?_)
   refine at_regq [{ nw := true }] { ts := [2, 3, 6, 7, 8], os := [3] } [I64 (((i : Nat) : Int) + 1)] gamOK hT h (by kernel_rfl) ⟨⟨by first | omega | (simp only [lsA]; omega) | (simp <;> omega), by first | omega | (simp only [lsA]; omega) | (simp <;> omega)⟩, trivial⟩ fun a w h => ?_
   replace h := at_out (σ' := ⟨[(2, .p (.c (cN))), (3, aS 1), (6, aF (.int 3) x0), (7, aI ((List.length x0 : Nat) : Int)), (8, aI (((i : Nat) : Int) + 1))], [(1, oR (.int 3) ((honTo x0 i) ++ ([((i : Nat) : Int)])))]⟩) { ts := [2, 3, 6, 7, 8], os := [3], rn := [(3, 1)] } h (by kernel_rfl)
   exact ⟨i + 1, at_eq h (st_congr2 (fun (d0 : List Int) (d1 : Int) => (⟨[(2, .p (.c (cN))), (3, aS 1), (6, aF (.int 3) x0), (7, aI ((List.length x0 : Nat) : Int)), (8, aI d1)], [(1, oR (.int 3) d0)]⟩ : St)) (show (((honTo x0 i) ++ ([((i : Nat) : Int)])) : List Int) = (honTo x0 (i + 1)) from by first | with_reducible rfl | (first | (rw [hon_y (by assumption)]; done) | (rw [hon_n (by assumption)]; done)) | rfl) (show (((i : Nat) : Int) + 1 : Int) = (((i + 1) : Nat) : Int) from by first | with_reducible rfl | (omega) | rfl)), (by omega), (by omega)⟩
  ·replace h2 : ¬ ((x0.getD i 0) = 0) := of_decide_eq_false h2
   refine wp_skip (in_normal (then_normal ?_))
   refine at_regq [{ nw := true }] { ts := [2, 3, 6, 7, 8], os := [1] } [I64 (((i : Nat) : Int) + 1)] gamOK hT h (by kernel_rfl) ⟨⟨by first | omega | (simp only [lsA]; omega) | (simp <;> omega), by first | omega | (simp only [lsA]; omega) | (simp <;> omega)⟩, trivial⟩ fun a w h => ?_
   replace h := at_out (σ' := ⟨[(2, .p (.c (cN))), (3, aS 1), (6, aF (.int 3) x0), (7, aI ((List.length x0 : Nat) : Int)), (8, aI (((i : Nat) : Int) + 1))], [(1, oR (.int 3) (honTo x0 i))]⟩) { ts := [2, 3, 6, 7, 8], os := [1] } h (by kernel_rfl)
   exact ⟨i + 1, at_eq h (st_congr2 (fun (d0 : List Int) (d1 : Int) => (⟨[(2, .p (.c (cN))), (3, aS 1), (6, aF (.int 3) x0), (7, aI ((List.length x0 : Nat) : Int)), (8, aI d1)], [(1, oR (.int 3) d0)]⟩ : St)) (show ((honTo x0 i) : List Int) = (honTo x0 (i + 1)) from by first | with_reducible rfl | (first | (rw [hon_y (by assumption)]; done) | (rw [hon_n (by assumption)]; done)) | rfl) (show (((i : Nat) : Int) + 1 : Int) = (((i + 1) : Nat) : Int) from by first | with_reducible rfl | (omega) | rfl)), (by omega), (by omega)⟩
 ·replace h1 : ¬ (((i : Nat) : Int) < ((List.length x0 : Nat) : Int)) := of_decide_eq_false h1
  refine wp_exit (then_exit (then_exit (in_hit (then_normal (wp_seq ?_)))))
  refine at_regq [] { ts := [2], os := [1] } [] gamOK hT h (by kernel_rfl) trivial fun a w h => then_normal (wp_ret ?_)
  exact at_return ((honTo x0 i), ()) [] h (by kernel_rfl) trivial (congrArg (fun z => (z, ())) (show ((honTo x0 i)) = honL x0 from by exact honTo_all (by omega)))

def mtB (p : T29) (c : T51) : Bool := decide (c.1 = p.1) && decide (0 < List.length c.2.2.2.1)
def misK (rs : List T51) (p : T29) : T29 := match rs.find? (mtB p) with | some c => c.2.2.2.1.getD 0 (0, ([], [])) | none => p
theorem misK_at {p : T29} : ∀ {rs : List T51} {i : Nat}, (∀ j, j < i → mtB p (rs.getD j (0, (0, (0, ([], 0))))) = false) → i < rs.length → mtB p (rs.getD i (0, (0, (0, ([], 0))))) = true → (rs.getD i (0, (0, (0, ([], 0))))).2.2.2.1.getD 0 (0, ([], [])) = misK rs p
 | [], i, _, h, _ => absurd h (by simp)
 | c :: l, 0, _, _, h => by
  have h : mtB p c = true := h
  unfold misK; rw [List.find?_cons_of_pos h]; rfl
 | c :: l, i + 1, h1, h2, h3 => by
  have h0 : mtB p c = false := h1 0 (by omega)
  have ih := misK_at (p := p) (rs := l) (i := i) (fun j hj => h1 (j + 1) (by omega)) (by simpa using h2) h3
  unfold misK at ih ⊢; rw [List.find?_cons_of_neg (by rw [h0]; decide)]; exact ih
theorem misK_no {p : T29} {rs : List T51} {i : Nat} (h : ∀ j, j < i → mtB p (rs.getD j (0, (0, (0, ([], 0))))) = false) (hi : rs.length ≤ i) : p = misK rs p := by
 have e : rs.find? (mtB p) = none := List.find?_eq_none.2 fun c hc => by
  obtain ⟨j, hj, rfl⟩ := List.getElem_of_mem hc
  have := h j (by omega)
  rw [getD_of_lt hj] at this
  rw [this]; decide
 unfold misK; rw [e]
theorem misK_fit {p : T29} {rs : List T51} (h : ∀ c ∈ rs, Sh.fit s51 c) (hp : Sh.fit s29 p) : Sh.fit s29 (misK rs p) := by
 unfold misK
 split
 ·rename_i c hc
  exact Sh.fit_getD (h c (List.mem_of_find?_eq_some hc)).2.2.2.1 _
 ·exact hp
def mx0 (n : Int) : Int := if n < 0 then 0 else n
theorem mx0_ge (n : Int) : 0 ≤ mx0 n := by unfold mx0; split <;> omega
def misB (b : Int) (r : T26) (p : T29) (n : Int) : T29 × Bool := if b = 0 ∨ b = 4 ∧ (mx0 n).tmod 2 = 1 then (p, true) else if b = 1 ∨ b = 4 then ((pollute p (mx0 n) (1 + mx0 n)).1, true) else if b = 3 then (misK r.2 p, true) else ((0, [], []), false)
theorem tmod2 {n : Int} (h : 0 ≤ n) : n.tmod 2 = 0 ∨ n.tmod 2 = 1 := by
 rw [Int.tmod_eq_emod_of_nonneg h]; omega
theorem misB_h {b n : Int} {r : T26} {p : T29} (h : b = 0 ∨ b = 4 ∧ (mx0 n).tmod 2 = 1) : (p, true) = misB b r p n := (if_pos h).symm
theorem misB_p {b n : Int} {r : T26} {p : T29} (h : b = 1 ∨ b = 4 ∧ ¬ (mx0 n).tmod 2 = 1) : ((pollute p (mx0 n) (1 + mx0 n)).1, true) = misB b r p n := by
 unfold misB; rw [if_neg (by omega), if_pos (by omega)]
theorem misB_r {b n : Int} {r : T26} {p q : T29} (h : b = 3) (hq : q = misK r.2 p) : (q, true) = misB b r p n := by
 unfold misB; rw [if_neg (by omega), if_neg (by omega), if_pos h, hq]
theorem misB_n {b n : Int} {r : T26} {p : T29} (h : ¬ b = 0 ∧ ¬ b = 1 ∧ ¬ b = 3 ∧ ¬ b = 4) : ((0, [], []), false) = misB b r p n := by
 unfold misB; rw [if_neg (by omega), if_neg (by omega), if_neg (by omega)]
theorem modF_1019 {n : Int} (h : 0 ≤ n) : modF (1 + n.tmod 1019) 1019 = modF (1 + n) 1019 := by
 unfold modF
 rw [if_pos (show inR 1019 1 1000000000000 = true from rfl), if_pos (show inR 1019 1 1000000000000 = true from rfl)]
 have h1 := tmod_f n 1019 (by decide)
 rw [Int.tmod_eq_emod_of_nonneg h] at *
 have e1 : (1 + n % 1019).tmod 1019 = (1 + n).tmod 1019 := by
  rw [Int.tmod_eq_emod_of_nonneg (by omega), Int.tmod_eq_emod_of_nonneg (by omega)]; omega
 rw [e1]
theorem pol_mod {p : T29} {i n : Int} (h : 0 ≤ n) : pollute p i (1 + n.tmod 1019) = pollute p i (1 + n) := by
 unfold pollute; rw [modF_1019 h]
theorem misB_fit {b n : Int} {r : T26} {p : T29} (h : Sh.fit s26 r) (hp : Sh.fit s29 p) : Sh.fit s29 (misB b r p n).1 := by
 have hpl := pollute_len p (mx0 n) (1 + mx0 n)
 unfold misB
 (repeat' split)
 ·exact hp
 ·exact ⟨trivial, ⟨by rw [hpl.1]; exact hp.2.1.1, fun _ _ => trivial⟩, ⟨by rw [hpl.2]; exact hp.2.2.1, fun _ _ => trivial⟩⟩
 ·exact misK_fit h.2.2 hp
 ·exact ⟨trivial, ⟨Nat.zero_le _, fun _ _ => trivial⟩, ⟨Nat.zero_le _, fun _ _ => trivial⟩⟩
abbrev Q_impl_Misbehave := (fun (x0 : Int) (x1 : T26) (x2 : T29) (x3 : Int) => Sh.fit s26 x1 ∧ Sh.fit s29 x2 ∧ x3 ≤ 1000000)
def S_impl_Misbehave : Sum := { fid := 6, dom := [(.int 3), s26, s29, (.int 3)], cod := [s29, (.bool 4)], dp := true, fz := false, pre := fun x => Q_impl_Misbehave x.1 x.2.1 x.2.2.1 x.2.2.2.1, g := fun x => ((misB x.1 x.2.1 x.2.2.1 x.2.2.2.1).1, ((misB x.1 x.2.1 x.2.2.1 x.2.2.2.1).2, ())) }
def S_impl_Misbehave_tab : List (Nat × Sum) := [(20, S__impl_CodedPacket_clone), (21, S_impl_PolluteComponent)]
theorem S_impl_Misbehave_ok : FnOK Tryd.prog 6 S_impl_Misbehave := by
 refine at_enter 76 (fun x => ⟨[(0, aI x.1), (1, aG [cI x.2.1.1, .ro s51 x.2.1.2]), (2, aG [cI x.2.2.1.1, .ro (.int 3) x.2.2.1.2.1, .ro (.int 3) x.2.2.1.2.2]), (3, aI x.2.2.2.1)], []⟩) Tryd.func6 rfl (by kernel_rfl) (fun x => rfl) ?_
 rintro w0 Z0 ⟨x0, x1, x2, x3, u⟩ a w
 revert x0 x1 x2 x3
 intro (x0 : Int) (x1 : T26) (x2 : T29) (x3 : Int) hpre hlens h
 replace hpre : Q_impl_Misbehave x0 x1 x2 x3 := hpre
 have hT : TabOK Tryd.prog w0 [] S_impl_Misbehave_tab := (.cons S__impl_CodedPacket_clone_ok (.cons S_impl_PolluteComponent_ok .nil))
 obtain ⟨hf1, hf2, hpx⟩ := hpre
 have hn1_1 : List.length x1.2 ≤ 1073741824 := hf1.2.1
 have hn2_2 : List.length x2.2.1 ≤ 1073741824 := hf2.2.1.1
 have hn2_3 : List.length x2.2.2 ≤ 1073741824 := hf2.2.2.1
 refine wp_seq ?_
 refine at_regq [{ ids := [1] }, { ids := [2] }, { ids := [3] }] { ts := [0, 3, 5, 6, 8, 9], os := [1, 2, 3] } [] gamOK hT h (by kernel_rfl) trivial fun a w h => then_normal (wp_seq ?_)
 refine at_regq [] { ts := [0, 3, 5, 6, 8, 9], os := [1, 2, 3] } [] gamOK hT h (by kernel_rfl) trivial fun a w h => then_normal (wp_seq (wp_block (wp_seq ?_)))
 by_cases h1 : x0 = 0
 ·refine at_regq [{}, { hint := some (aB true) }] { ts := [0, 3, 5, 6, 8, 9, 16], os := [1, 2, 3] } [(AV.p (.c (.v (.bool (decide (x0 = 0))))) = AV.p (.c (.v (.bool true))))] gamOK hT h (by kernel_rfl) ⟨hint_bool (decide_eq_true h1), trivial⟩ fun a w h => then_normal ?_
  refine at_test true h (by kernel_rfl) (fun hh => ?_) (fun hh => nomatch hh)
  refine wp_seq ?_
  refine at_regq [{}, { ids := [4, 5] }] { ts := [8, 9], os := [3, 4, 5] } [Q__impl_CodedPacket_clone x2] gamOK hT h (by kernel_rfl) ⟨(by exact hf2), trivial⟩ fun a w h => then_normal (wp_ret (in_ret (then_ret ?_)))
  exact at_return (x2, (true, ())) [] h (by kernel_rfl) trivial (congrArg (fun z => (z.1, z.2, ())) (show ((x2, true)) = misB x0 x1 x2 x3 from by (have hM : (if x3 < 0 then 0 else x3) = mx0 x3 := rfl; have hm2 := tmod2 (mx0_ge x3); (try simp only [hM] at *); exact misB_h (by omega))))
 ·by_cases h2 : x0 = 4
  ·refine at_regq [{}, { hint := some (aB false) }, {}, {}, { hint := some (aB true) }] { ts := [0, 3, 5, 6, 8, 9, 16], os := [1, 2, 3] } [(AV.p (.c (.v (.bool (decide (x0 = 0))))) = AV.p (.c (.v (.bool false)))), (AV.p (.c (.v (.bool (decide (x0 = 4))))) = AV.p (.c (.v (.bool true)))), (2 : Int) ≠ 0] gamOK hT h (by kernel_rfl) ⟨hint_bool (decide_eq_false h1), hint_bool (decide_eq_true h2), (by first | omega | (simp only [lsA]; omega) | (simp <;> omega)), trivial⟩ fun a w h => then_normal ?_
   refine at_test (decide ((Int.tmod (if x3 < 0 then 0 else x3) 2) = 1)) h (by kernel_rfl) (fun h3 => ?_) (fun h3 => ?_)
   ·replace h3 : (Int.tmod (if x3 < 0 then 0 else x3) 2) = 1 := of_decide_eq_true h3
    refine wp_seq ?_
    refine at_regq [{}, { ids := [4, 5] }] { ts := [8, 9], os := [3, 4, 5] } [Q__impl_CodedPacket_clone x2] gamOK hT h (by kernel_rfl) ⟨(by exact hf2), trivial⟩ fun a w h => then_normal (wp_ret (in_ret (then_ret ?_)))
    exact at_return (x2, (true, ())) [] h (by kernel_rfl) trivial (congrArg (fun z => (z.1, z.2, ())) (show ((x2, true)) = misB x0 x1 x2 x3 from by (have hM : (if x3 < 0 then 0 else x3) = mx0 x3 := rfl; have hm2 := tmod2 (mx0_ge x3); (try simp only [hM] at *); exact misB_h (by omega))))
   ·replace h3 : ¬ ((Int.tmod (if x3 < 0 then 0 else x3) 2) = 1) := of_decide_eq_false h3
    refine wp_seq ?_
    by_cases h4 : x0 = 1
    ·refine at_regq [{}, { hint := some (aB true) }] { ts := [0, 3, 5, 6, 8, 9, 30], os := [1, 2, 3] } [(AV.p (.c (.v (.bool (decide (x0 = 1))))) = AV.p (.c (.v (.bool true))))] gamOK hT h (by kernel_rfl) ⟨hint_bool (decide_eq_true h4), trivial⟩ fun a w h => then_normal ?_
     refine at_test true h (by kernel_rfl) (fun hh => ?_) (fun hh => nomatch hh)
     refine wp_seq ?_
     refine at_regq [{}, {}, {}, { nw := true }, { ids := [6, 7] }, {}, {}, {}, { ids := [8] }] { ts := [8, 9, 10], os := [3, 6, 7, 8] } [I64 (1 + (if x3 < 0 then 0 else x3)), Q_impl_PolluteComponent x2 (if x3 < 0 then 0 else x3) (1 + (if x3 < 0 then 0 else x3))] gamOK hT h (by kernel_rfl) ⟨⟨by first | omega | (simp only [lsA]; omega) | (simp <;> omega), by first | omega | (simp only [lsA]; omega) | (simp <;> omega)⟩, (by exact hf2), trivial⟩ fun a w h => then_normal (wp_seq ?_)
     refine at_regq [] { ts := [8, 9], os := [3, 6, 7] } [] gamOK hT h (by kernel_rfl) trivial fun a w h => then_normal (wp_ret (in_ret (then_ret ?_)))
     exact at_return ((pollute x2 (if x3 < 0 then 0 else x3) (1 + (if x3 < 0 then 0 else x3))).1, (true, ())) [] h (by kernel_rfl) trivial (congrArg (fun z => (z.1, z.2, ())) (show (((pollute x2 (if x3 < 0 then 0 else x3) (1 + (if x3 < 0 then 0 else x3))).1, true)) = misB x0 x1 x2 x3 from by (have hM : (if x3 < 0 then 0 else x3) = mx0 x3 := rfl; have hm2 := tmod2 (mx0_ge x3); (try simp only [hM] at *); exact misB_p (by omega))))
    ·refine at_regq [{}, { hint := some (aB false) }, {}, {}, { hint := some (aB true) }] { ts := [0, 3, 5, 6, 8, 9, 30], os := [1, 2, 3] } [(AV.p (.c (.v (.bool (decide (x0 = 1))))) = AV.p (.c (.v (.bool false)))), (AV.p (.c (.v (.bool (decide (x0 = 4))))) = AV.p (.c (.v (.bool true))))] gamOK hT h (by kernel_rfl) ⟨hint_bool (decide_eq_false h4), hint_bool (decide_eq_true h2), trivial⟩ fun a w h => then_normal ?_
     refine at_test true h (by kernel_rfl) (fun hh => ?_) (fun hh => nomatch hh)
     refine wp_seq ?_
     refine at_regq [{}, {}, {}, { nw := true }, { ids := [6, 7] }, {}, {}, {}, { ids := [8] }] { ts := [8, 9, 10], os := [3, 6, 7, 8] } [I64 (1 + (if x3 < 0 then 0 else x3)), Q_impl_PolluteComponent x2 (if x3 < 0 then 0 else x3) (1 + (if x3 < 0 then 0 else x3))] gamOK hT h (by kernel_rfl) ⟨⟨by first | omega | (simp only [lsA]; omega) | (simp <;> omega), by first | omega | (simp only [lsA]; omega) | (simp <;> omega)⟩, (by exact hf2), trivial⟩ fun a w h => then_normal (wp_seq ?_)
     refine at_regq [] { ts := [8, 9], os := [3, 6, 7] } [] gamOK hT h (by kernel_rfl) trivial fun a w h => then_normal (wp_ret (in_ret (then_ret ?_)))
     exact at_return ((pollute x2 (if x3 < 0 then 0 else x3) (1 + (if x3 < 0 then 0 else x3))).1, (true, ())) [] h (by kernel_rfl) trivial (congrArg (fun z => (z.1, z.2, ())) (show (((pollute x2 (if x3 < 0 then 0 else x3) (1 + (if x3 < 0 then 0 else x3))).1, true)) = misB x0 x1 x2 x3 from by (have hM : (if x3 < 0 then 0 else x3) = mx0 x3 := rfl; have hm2 := tmod2 (mx0_ge x3); (try simp only [hM] at *); exact misB_p (by omega))))
  ·refine at_regq [{}, { hint := some (aB false) }, {}, {}, { hint := some (aB false) }] { ts := [0, 3, 5, 6, 8, 9, 16], os := [1, 2, 3] } [(AV.p (.c (.v (.bool (decide (x0 = 0))))) = AV.p (.c (.v (.bool false)))), (AV.p (.c (.v (.bool (decide (x0 = 4))))) = AV.p (.c (.v (.bool false))))] gamOK hT h (by kernel_rfl) ⟨hint_bool (decide_eq_false h1), hint_bool (decide_eq_false h2), trivial⟩ fun a w h => then_normal ?_
   refine at_test false h (by kernel_rfl) (fun hh => nomatch hh) (fun hh => ?_)
   refine wp_seq ?_
   by_cases h5 : x0 = 1
   ·refine at_regq [{}, { hint := some (aB true) }] { ts := [0, 3, 5, 6, 8, 9, 30], os := [1, 2, 3] } [(AV.p (.c (.v (.bool (decide (x0 = 1))))) = AV.p (.c (.v (.bool true))))] gamOK hT h (by kernel_rfl) ⟨hint_bool (decide_eq_true h5), trivial⟩ fun a w h => then_normal ?_
    refine at_test true h (by kernel_rfl) (fun hh => ?_) (fun hh => nomatch hh)
    refine wp_seq ?_
    refine at_regq [{}, {}, {}, { nw := true }, { ids := [4, 5] }, {}, {}, {}, { ids := [6] }] { ts := [8, 9, 10], os := [3, 4, 5, 6] } [I64 (1 + (if x3 < 0 then 0 else x3)), Q_impl_PolluteComponent x2 (if x3 < 0 then 0 else x3) (1 + (if x3 < 0 then 0 else x3))] gamOK hT h (by kernel_rfl) ⟨⟨by first | omega | (simp only [lsA]; omega) | (simp <;> omega), by first | omega | (simp only [lsA]; omega) | (simp <;> omega)⟩, (by exact hf2), trivial⟩ fun a w h => then_normal (wp_seq ?_)
    refine at_regq [] { ts := [8, 9], os := [3, 4, 5] } [] gamOK hT h (by kernel_rfl) trivial fun a w h => then_normal (wp_ret (in_ret (then_ret ?_)))
    exact at_return ((pollute x2 (if x3 < 0 then 0 else x3) (1 + (if x3 < 0 then 0 else x3))).1, (true, ())) [] h (by kernel_rfl) trivial (congrArg (fun z => (z.1, z.2, ())) (show (((pollute x2 (if x3 < 0 then 0 else x3) (1 + (if x3 < 0 then 0 else x3))).1, true)) = misB x0 x1 x2 x3 from by (have hM : (if x3 < 0 then 0 else x3) = mx0 x3 := rfl; have hm2 := tmod2 (mx0_ge x3); (try simp only [hM] at *); exact misB_p (by omega))))
   ·refine at_regq [{}, { hint := some (aB false) }, {}, {}, { hint := some (aB false) }] { ts := [0, 3, 5, 6, 8, 9, 30], os := [1, 2, 3] } [(AV.p (.c (.v (.bool (decide (x0 = 1))))) = AV.p (.c (.v (.bool false)))), (AV.p (.c (.v (.bool (decide (x0 = 4))))) = AV.p (.c (.v (.bool false))))] gamOK hT h (by kernel_rfl) ⟨hint_bool (decide_eq_false h5), hint_bool (decide_eq_false h2), trivial⟩ fun a w h => then_normal ?_
    refine at_test false h (by kernel_rfl) (fun hh => nomatch hh) (fun hh => ?_)
    refine wp_seq ?_
    refine at_regq [] { ts := [5, 6, 8, 9, 46], os := [1, 2, 3] } [] gamOK hT h (by kernel_rfl) trivial fun a w h => then_normal ?_
    refine at_test (decide (x0 = 3)) h (by kernel_rfl) (fun h6 => ?_) (fun h6 => ?_)
    ·replace h6 : x0 = 3 := of_decide_eq_true h6
     refine wp_seq (wp_seq ?_)
     refine at_regq [] { ts := [6, 8, 9, 50, 51, 52], os := [2, 3] } [] gamOK hT h (by kernel_rfl) trivial fun a w h => then_normal (wp_block ?_)
     replace h := at_out (σ' := ⟨[(6, aP 2 0), (8, aP 3 0), (9, aB false), (50, aF s51 x1.2), (51, aI ((List.length x1.2 : Nat) : Int)), (52, aI 0)], [(2, oX 29 [cI x2.1, .ro (.int 3) x2.2.1, .ro (.int 3) x2.2.2]), (3, oX 29 [cI 0, cN, cN])]⟩) { ts := [6, 8, 9, 50, 51, 52], os := [2, 3] } h (by kernel_rfl)
     refine at_loop (fun i : Nat => (⟨[(6, aP 2 0), (8, aP 3 0), (9, aB false), (50, aF s51 x1.2), (51, aI ((List.length x1.2 : Nat) : Int)), (52, aI ((i : Nat) : Int))], [(2, oX 29 [cI x2.1, .ro (.int 3) x2.2.1, .ro (.int 3) x2.2.2]), (3, oX 29 [cI 0, cN, cN])]⟩ : St)) (fun i => (i ≤ List.length x1.2 ∧ ∀ j, j < i → mtB x2 (x1.2.getD j (0, (0, (0, ([], 0))))) = false)) (fun i => List.length x1.2 - i) (0) h (st_congr1 (fun (d0 : Int) => (⟨[(6, aP 2 0), (8, aP 3 0), (9, aB false), (50, aF s51 x1.2), (51, aI ((List.length x1.2 : Nat) : Int)), (52, aI d0)], [(2, oX 29 [cI x2.1, .ro (.int 3) x2.2.1, .ro (.int 3) x2.2.2]), (3, oX 29 [cI 0, cN, cN])]⟩ : St)) (show (0 : Int) = (((0) : Nat) : Int) from by first | with_reducible rfl | (rfl) | rfl)) (by exact ⟨Nat.zero_le _, fun j h => absurd h (by omega)⟩) ?_
     intro i a w hok0 h
     refine wp_seq ?_
     refine at_regq [] { ts := [6, 8, 9, 50, 51, 52, 53], os := [2, 3] } [] gamOK hT h (by kernel_rfl) trivial fun a w h => then_normal (wp_seq ?_)
     refine at_test (decide (((i : Nat) : Int) < ((List.length x1.2 : Nat) : Int))) h (by kernel_rfl) (fun h7 => ?_) (fun h7 => ?_)
     ·replace h7 : ((i : Nat) : Int) < ((List.length x1.2 : Nat) : Int) := of_decide_eq_true h7
      refine wp_skip (then_normal (wp_seq (wp_block (wp_seq ?_))))
      refine at_regq [{}, {}, { ids := [4] }] { ts := [6, 8, 9, 13, 50, 51, 52], os := [2, 3, 4] } [(0 : Int) ≤ ((i : Nat) : Int) ∧ ((i : Nat) : Int) < ((List.length x1.2 : Nat) : Int)] gamOK hT h (by kernel_rfl) ⟨(by refine ⟨?_, ?_⟩ <;> (first | omega | (simp only [lsA]; omega) | (simp <;> omega))), trivial⟩ fun a w h => then_normal (wp_seq ?_)
      by_cases h8 : (x1.2.getD i (0, (0, (0, ([], 0))))).1 = x2.1
      ·refine at_regq [{}, {}, {}, {}, { hint := some (aB true) }] { ts := [6, 8, 9, 13, 50, 51, 52, 62, 63, 64, 65, 66], os := [2, 3, 4] } [(AV.p (.c (.v (.bool (decide ((x1.2.getD i (0, (0, (0, ([], 0))))).1 = x2.1))))) = AV.p (.c (.v (.bool true))))] gamOK hT h (by kernel_rfl) ⟨hint_bool (decide_eq_true h8), trivial⟩ fun a w h => then_normal ?_
       refine at_test (decide (((List.length (x1.2.getD i (0, (0, (0, ([], 0))))).2.2.2.1 : Nat) : Int) > 0)) h (by kernel_rfl) (fun h9 => ?_) (fun h9 => ?_)
       ·replace h9 : ((List.length (x1.2.getD i (0, (0, (0, ([], 0))))).2.2.2.1 : Nat) : Int) > 0 := of_decide_eq_true h9
        refine wp_seq ?_
        refine at_regq [{}, {}, {}, {}, { ids := [5, 6] }] { ts := [6, 8, 9, 50, 51, 52, 62, 63, 64, 65], os := [2, 3, 4, 5, 6] } [(0 : Int) ≤ 0 ∧ 0 < ((List.length (x1.2.getD i (0, (0, (0, ([], 0))))).2.2.2.1 : Nat) : Int), Q__impl_CodedPacket_clone ((x1.2.getD i (0, (0, (0, ([], 0))))).2.2.2.1.getD 0 (0, ([], [])))] gamOK hT h (by kernel_rfl) ⟨(by refine ⟨?_, ?_⟩ <;> ((have hL0 := (show List.length (x1.2.getD i (0, (0, (0, ([], 0))))).2.2.2.1 ≤ 1073741824 from ((Sh.fit_getD hf1.2 i).2.2.2.1).1); first | omega | (simp only [lsA]; omega) | (simp <;> omega)))), (by exact (Sh.fit_getD (Sh.fit_getD hf1.2 i).2.2.2.1 0)), trivial⟩ fun a w h => then_normal (wp_ret (in_ret (then_ret (then_ret (in_ret (then_ret (in_ret (then_ret ?_))))))))
        exact at_return (((x1.2.getD i (0, (0, (0, ([], 0))))).2.2.2.1.getD 0 (0, ([], []))), (true, ())) [] h (by kernel_rfl) trivial (congrArg (fun z => (z.1, z.2, ())) (show ((((x1.2.getD i (0, (0, (0, ([], 0))))).2.2.2.1.getD 0 (0, ([], []))), true)) = misB x0 x1 x2 x3 from by exact misB_r (by omega) (misK_at hok0.2 (by omega) (by (show ((decide _) && (decide _)) = true; rw [decide_eq_true (by assumption), decide_eq_true (by omega)]; rfl)))))
       ·replace h9 : ¬ (((List.length (x1.2.getD i (0, (0, (0, ([], 0))))).2.2.2.1 : Nat) : Int) > 0) := of_decide_eq_false h9
        refine wp_skip (in_normal (then_normal ?_))
        refine at_regq [{ nw := true }] { ts := [6, 8, 9, 50, 51, 52, 62, 63, 64, 65], os := [2, 3, 4] } [I64 (((i : Nat) : Int) + 1)] gamOK hT h (by kernel_rfl) ⟨⟨by first | omega | (simp only [lsA]; omega) | (simp <;> omega), by first | omega | (simp only [lsA]; omega) | (simp <;> omega)⟩, trivial⟩ fun a w h => ?_
        replace h := at_out (σ' := ⟨[(6, aP 2 0), (8, aP 3 0), (9, aB false), (50, aF s51 x1.2), (51, aI ((List.length x1.2 : Nat) : Int)), (52, aI (((i : Nat) : Int) + 1))], [(2, oX 29 [cI x2.1, .ro (.int 3) x2.2.1, .ro (.int 3) x2.2.2]), (3, oX 29 [cI 0, cN, cN])]⟩) { ts := [6, 8, 9, 50, 51, 52], os := [2, 3] } h (by kernel_rfl)
        exact ⟨i + 1, at_eq h (st_congr1 (fun (d0 : Int) => (⟨[(6, aP 2 0), (8, aP 3 0), (9, aB false), (50, aF s51 x1.2), (51, aI ((List.length x1.2 : Nat) : Int)), (52, aI d0)], [(2, oX 29 [cI x2.1, .ro (.int 3) x2.2.1, .ro (.int 3) x2.2.2]), (3, oX 29 [cI 0, cN, cN])]⟩ : St)) (show (((i : Nat) : Int) + 1 : Int) = (((i + 1) : Nat) : Int) from by first | with_reducible rfl | (omega) | rfl)), (by exact ⟨by omega, fun j hj => by by_cases e : j = i; subst e; (show ((decide _) && (decide _)) = false; first | (rw [decide_eq_false (by assumption)]; rfl) | (rw [decide_eq_false (show ¬ 0 < List.length _ by omega), Bool.and_false])); exact hok0.2 j (by omega)⟩), (by omega)⟩
      ·refine at_regq [{}, {}, {}, {}, { hint := some (aB false) }] { ts := [6, 8, 9, 13, 50, 51, 52, 62, 63, 64, 65, 66], os := [2, 3, 4] } [(AV.p (.c (.v (.bool (decide ((x1.2.getD i (0, (0, (0, ([], 0))))).1 = x2.1))))) = AV.p (.c (.v (.bool false))))] gamOK hT h (by kernel_rfl) ⟨hint_bool (decide_eq_false h8), trivial⟩ fun a w h => then_normal ?_
       refine at_test false h (by kernel_rfl) (fun hh => nomatch hh) (fun hh => ?_)
       refine wp_skip (in_normal (then_normal ?_))
       refine at_regq [{ nw := true }] { ts := [6, 8, 9, 50, 51, 52, 62, 63, 64, 65], os := [2, 3] } [I64 (((i : Nat) : Int) + 1)] gamOK hT h (by kernel_rfl) ⟨⟨by first | omega | (simp only [lsA]; omega) | (simp <;> omega), by first | omega | (simp only [lsA]; omega) | (simp <;> omega)⟩, trivial⟩ fun a w h => ?_
       replace h := at_out (σ' := ⟨[(6, aP 2 0), (8, aP 3 0), (9, aB false), (50, aF s51 x1.2), (51, aI ((List.length x1.2 : Nat) : Int)), (52, aI (((i : Nat) : Int) + 1))], [(2, oX 29 [cI x2.1, .ro (.int 3) x2.2.1, .ro (.int 3) x2.2.2]), (3, oX 29 [cI 0, cN, cN])]⟩) { ts := [6, 8, 9, 50, 51, 52], os := [2, 3] } h (by kernel_rfl)
       exact ⟨i + 1, at_eq h (st_congr1 (fun (d0 : Int) => (⟨[(6, aP 2 0), (8, aP 3 0), (9, aB false), (50, aF s51 x1.2), (51, aI ((List.length x1.2 : Nat) : Int)), (52, aI d0)], [(2, oX 29 [cI x2.1, .ro (.int 3) x2.2.1, .ro (.int 3) x2.2.2]), (3, oX 29 [cI 0, cN, cN])]⟩ : St)) (show (((i : Nat) : Int) + 1 : Int) = (((i + 1) : Nat) : Int) from by first | with_reducible rfl | (omega) | rfl)), (by exact ⟨by omega, fun j hj => by by_cases e : j = i; subst e; (show ((decide _) && (decide _)) = false; first | (rw [decide_eq_false (by assumption)]; rfl) | (rw [decide_eq_false (show ¬ 0 < List.length _ by omega), Bool.and_false])); exact hok0.2 j (by omega)⟩), (by omega)⟩
     ·replace h7 : ¬ (((i : Nat) : Int) < ((List.length x1.2 : Nat) : Int)) := of_decide_eq_false h7
      refine wp_exit (then_exit (then_exit (in_hit (then_normal (wp_seq ?_)))))
      refine at_regq [{}, { ids := [5, 6] }] { ts := [8, 9], os := [3, 5, 6] } [Q__impl_CodedPacket_clone x2] gamOK hT h (by kernel_rfl) ⟨(by exact hf2), trivial⟩ fun a w h => then_normal (wp_ret (in_ret (then_ret ?_)))
      exact at_return (x2, (true, ())) [] h (by kernel_rfl) trivial (congrArg (fun z => (z.1, z.2, ())) (show ((x2, true)) = misB x0 x1 x2 x3 from by exact misB_r (by omega) (misK_no hok0.2 (by omega))))
    ·replace h6 : ¬ (x0 = 3) := of_decide_eq_false h6
     refine wp_skip (in_normal (then_normal (wp_seq ?_)))
     refine at_regq [] { ts := [8, 9], os := [3] } [] gamOK hT h (by kernel_rfl) trivial fun a w h => then_normal (wp_ret ?_)
     exact at_return ((0, (([] : List Int), ([] : List Int))), (false, ())) [] h (by kernel_rfl) trivial (congrArg (fun z => (z.1, z.2, ())) (show (((0, (([] : List Int), ([] : List Int))), false)) = misB x0 x1 x2 x3 from by exact misB_n (by omega)))

abbrev Q_spec_Misbehave := (fun (x0 : Int) (x1 : T26) (x2 : T29) (x3 : Int) => Sh.fit s26 x1 ∧ Sh.fit s29 x2 ∧ x3 ≤ 1000000)
def S_spec_Misbehave : Sum := { fid := 7, dom := [(.int 3), s26, s29, (.int 3)], cod := [s29, (.bool 4)], dp := true, fz := false, pre := fun x => Q_spec_Misbehave x.1 x.2.1 x.2.2.1 x.2.2.2.1, g := fun x => ((misB x.1 x.2.1 x.2.2.1 x.2.2.2.1).1, ((misB x.1 x.2.1 x.2.2.1 x.2.2.2.1).2, ())) }
def S_spec_Misbehave_tab : List (Nat × Sum) := [(22, S_spec_Max), (23, S_spec_l11Copy), (24, S_spec_PolluteComponent)]
theorem S_spec_Misbehave_ok : FnOK Tryd.prog 7 S_spec_Misbehave := by
 refine at_enter 87 (fun x => ⟨[(0, aI x.1), (1, aG [cI x.2.1.1, .ro s51 x.2.1.2]), (2, aG [cI x.2.2.1.1, .ro (.int 3) x.2.2.1.2.1, .ro (.int 3) x.2.2.1.2.2]), (3, aI x.2.2.2.1)], []⟩) Tryd.func7 rfl (by kernel_rfl) (fun x => rfl) ?_
 rintro w0 Z0 ⟨x0, x1, x2, x3, u⟩ a w
 revert x0 x1 x2 x3
 intro (x0 : Int) (x1 : T26) (x2 : T29) (x3 : Int) hpre hlens h
 replace hpre : Q_spec_Misbehave x0 x1 x2 x3 := hpre
 have hT : TabOK Tryd.prog w0 [] S_spec_Misbehave_tab := (.cons S_spec_Max_ok (.cons S_spec_l11Copy_ok (.cons S_spec_PolluteComponent_ok .nil)))
 obtain ⟨hf1, hf2, hpx⟩ := hpre
 have hn1_1 : List.length x1.2 ≤ 1073741824 := hf1.2.1
 have hn2_2 : List.length x2.2.1 ≤ 1073741824 := hf2.2.1.1
 have hn2_3 : List.length x2.2.2 ≤ 1073741824 := hf2.2.2.1
 refine wp_seq ?_
 refine at_regq [{ ids := [1] }, { ids := [2] }, { ids := [3] }] { ts := [0, 3, 5, 6, 8, 9], os := [1, 2, 3] } [] gamOK hT h (by kernel_rfl) trivial fun a w h => then_normal (wp_seq ?_)
 refine at_regq [] { ts := [0, 3, 5, 6, 8, 9], os := [1, 2, 3] } [True] gamOK hT h (by kernel_rfl) ⟨trivial, trivial⟩ fun a w h => then_normal (wp_seq (wp_block (wp_seq ?_)))
 by_cases h1 : x0 = 0
 ·refine at_regq [{}, { hint := some (aB true) }] { ts := [0, 3, 5, 6, 8, 9, 15], os := [1, 2, 3] } [(AV.p (.c (.v (.bool (decide (x0 = 0))))) = AV.p (.c (.v (.bool true))))] gamOK hT h (by kernel_rfl) ⟨hint_bool (decide_eq_true h1), trivial⟩ fun a w h => then_normal ?_
  refine at_test true h (by kernel_rfl) (fun hh => ?_) (fun hh => nomatch hh)
  refine wp_seq ?_
  refine at_regq [{}, { ids := [4, 5] }] { ts := [8, 9], os := [3, 4, 5] } [Q_spec_l11Copy x2] gamOK hT h (by kernel_rfl) ⟨(by exact hf2), trivial⟩ fun a w h => then_normal (wp_ret (in_ret (then_ret ?_)))
  exact at_return (x2, (true, ())) [] h (by kernel_rfl) trivial (congrArg (fun z => (z.1, z.2, ())) (show ((x2, true)) = misB x0 x1 x2 x3 from by (have hM : D_spec_Max 0 x3 = mx0 x3 := (by unfold D_spec_Max mx0; (repeat' split) <;> omega); have hm2 := tmod2 (mx0_ge x3); (try simp only [hM] at *); exact misB_h (by omega))))
 ·by_cases h2 : x0 = 4
  ·refine at_regq [{}, { hint := some (aB false) }, {}, {}, { hint := some (aB true) }] { ts := [0, 3, 5, 6, 8, 9, 15], os := [1, 2, 3] } [(AV.p (.c (.v (.bool (decide (x0 = 0))))) = AV.p (.c (.v (.bool false)))), (AV.p (.c (.v (.bool (decide (x0 = 4))))) = AV.p (.c (.v (.bool true)))), (2 : Int) ≠ 0] gamOK hT h (by kernel_rfl) ⟨hint_bool (decide_eq_false h1), hint_bool (decide_eq_true h2), (by first | omega | (simp only [lsA]; omega) | (simp <;> omega)), trivial⟩ fun a w h => then_normal ?_
   refine at_test (!decide ((Int.tmod (D_spec_Max 0 x3) 2) = 0)) h (by kernel_rfl) (fun h3 => ?_) (fun h3 => ?_)
   ·replace h3 : ¬ ((Int.tmod (D_spec_Max 0 x3) 2) = 0) := of_decide_eq_false (notT h3)
    refine wp_seq ?_
    refine at_regq [{}, { ids := [4, 5] }] { ts := [8, 9], os := [3, 4, 5] } [Q_spec_l11Copy x2] gamOK hT h (by kernel_rfl) ⟨(by exact hf2), trivial⟩ fun a w h => then_normal (wp_ret (in_ret (then_ret ?_)))
    exact at_return (x2, (true, ())) [] h (by kernel_rfl) trivial (congrArg (fun z => (z.1, z.2, ())) (show ((x2, true)) = misB x0 x1 x2 x3 from by (have hM : D_spec_Max 0 x3 = mx0 x3 := (by unfold D_spec_Max mx0; (repeat' split) <;> omega); have hm2 := tmod2 (mx0_ge x3); (try simp only [hM] at *); exact misB_h (by omega))))
   ·replace h3 : (Int.tmod (D_spec_Max 0 x3) 2) = 0 := of_decide_eq_true (notF h3)
    refine wp_seq ?_
    by_cases h4 : x0 = 1
    ·refine at_regq [{}, { hint := some (aB true) }] { ts := [0, 3, 5, 6, 8, 9, 29], os := [1, 2, 3] } [(AV.p (.c (.v (.bool (decide (x0 = 1))))) = AV.p (.c (.v (.bool true))))] gamOK hT h (by kernel_rfl) ⟨hint_bool (decide_eq_true h4), trivial⟩ fun a w h => then_normal ?_
     refine at_test true h (by kernel_rfl) (fun hh => ?_) (fun hh => nomatch hh)
     refine wp_seq ?_
     refine at_regq [{}, {}, {}, {}, { nw := true }, { ids := [6, 7] }, {}, {}, {}, { ids := [8] }] { ts := [8, 9, 10], os := [3, 6, 7, 8] } [(1019 : Int) ≠ 0, I64 (1 + (Int.tmod (D_spec_Max 0 x3) 1019)), Q_spec_PolluteComponent x2 (D_spec_Max 0 x3) (1 + (Int.tmod (D_spec_Max 0 x3) 1019))] gamOK hT h (by kernel_rfl) ⟨(by first | omega | (simp only [lsA]; omega) | (simp <;> omega)), ⟨by (have hA0 := tmod_f (D_spec_Max 0 x3) 1019; first | omega | (simp only [lsA]; omega) | (simp <;> omega)), by (have hA0 := tmod_f (D_spec_Max 0 x3) 1019; first | omega | (simp only [lsA]; omega) | (simp <;> omega))⟩, (by exact hf2), trivial⟩ fun a w h => then_normal (wp_seq ?_)
     refine at_regq [] { ts := [8, 9], os := [3, 6, 7] } [] gamOK hT h (by kernel_rfl) trivial fun a w h => then_normal (wp_ret (in_ret (then_ret ?_)))
     exact at_return ((pollute x2 (D_spec_Max 0 x3) (1 + (Int.tmod (D_spec_Max 0 x3) 1019))).1, (true, ())) [] h (by kernel_rfl) trivial (congrArg (fun z => (z.1, z.2, ())) (show (((pollute x2 (D_spec_Max 0 x3) (1 + (Int.tmod (D_spec_Max 0 x3) 1019))).1, true)) = misB x0 x1 x2 x3 from by (have hM : D_spec_Max 0 x3 = mx0 x3 := (by unfold D_spec_Max mx0; (repeat' split) <;> omega); have hm2 := tmod2 (mx0_ge x3); (try simp only [hM] at *); rw [pol_mod (mx0_ge x3)]; exact misB_p (by omega))))
    ·refine at_regq [{}, { hint := some (aB false) }, {}, {}, { hint := some (aB true) }] { ts := [0, 3, 5, 6, 8, 9, 29], os := [1, 2, 3] } [(AV.p (.c (.v (.bool (decide (x0 = 1))))) = AV.p (.c (.v (.bool false)))), (AV.p (.c (.v (.bool (decide (x0 = 4))))) = AV.p (.c (.v (.bool true))))] gamOK hT h (by kernel_rfl) ⟨hint_bool (decide_eq_false h4), hint_bool (decide_eq_true h2), trivial⟩ fun a w h => then_normal ?_
     refine at_test true h (by kernel_rfl) (fun hh => ?_) (fun hh => nomatch hh)
     refine wp_seq ?_
     refine at_regq [{}, {}, {}, {}, { nw := true }, { ids := [6, 7] }, {}, {}, {}, { ids := [8] }] { ts := [8, 9, 10], os := [3, 6, 7, 8] } [(1019 : Int) ≠ 0, I64 (1 + (Int.tmod (D_spec_Max 0 x3) 1019)), Q_spec_PolluteComponent x2 (D_spec_Max 0 x3) (1 + (Int.tmod (D_spec_Max 0 x3) 1019))] gamOK hT h (by kernel_rfl) ⟨(by first | omega | (simp only [lsA]; omega) | (simp <;> omega)), ⟨by (have hA0 := tmod_f (D_spec_Max 0 x3) 1019; first | omega | (simp only [lsA]; omega) | (simp <;> omega)), by (have hA0 := tmod_f (D_spec_Max 0 x3) 1019; first | omega | (simp only [lsA]; omega) | (simp <;> omega))⟩, (by exact hf2), trivial⟩ fun a w h => then_normal (wp_seq ?_)
     refine at_regq [] { ts := [8, 9], os := [3, 6, 7] } [] gamOK hT h (by kernel_rfl) trivial fun a w h => then_normal (wp_ret (in_ret (then_ret ?_)))
     exact at_return ((pollute x2 (D_spec_Max 0 x3) (1 + (Int.tmod (D_spec_Max 0 x3) 1019))).1, (true, ())) [] h (by kernel_rfl) trivial (congrArg (fun z => (z.1, z.2, ())) (show (((pollute x2 (D_spec_Max 0 x3) (1 + (Int.tmod (D_spec_Max 0 x3) 1019))).1, true)) = misB x0 x1 x2 x3 from by (have hM : D_spec_Max 0 x3 = mx0 x3 := (by unfold D_spec_Max mx0; (repeat' split) <;> omega); have hm2 := tmod2 (mx0_ge x3); (try simp only [hM] at *); rw [pol_mod (mx0_ge x3)]; exact misB_p (by omega))))
  ·refine at_regq [{}, { hint := some (aB false) }, {}, {}, { hint := some (aB false) }] { ts := [0, 3, 5, 6, 8, 9, 15], os := [1, 2, 3] } [(AV.p (.c (.v (.bool (decide (x0 = 0))))) = AV.p (.c (.v (.bool false)))), (AV.p (.c (.v (.bool (decide (x0 = 4))))) = AV.p (.c (.v (.bool false))))] gamOK hT h (by kernel_rfl) ⟨hint_bool (decide_eq_false h1), hint_bool (decide_eq_false h2), trivial⟩ fun a w h => then_normal ?_
   refine at_test false h (by kernel_rfl) (fun hh => nomatch hh) (fun hh => ?_)
   refine wp_seq ?_
   by_cases h5 : x0 = 1
   ·refine at_regq [{}, { hint := some (aB true) }] { ts := [0, 3, 5, 6, 8, 9, 29], os := [1, 2, 3] } [(AV.p (.c (.v (.bool (decide (x0 = 1))))) = AV.p (.c (.v (.bool true))))] gamOK hT h (by kernel_rfl) ⟨hint_bool (decide_eq_true h5), trivial⟩ fun a w h => then_normal ?_
    refine at_test true h (by kernel_rfl) (fun hh => ?_) (fun hh => nomatch hh)
    refine wp_seq ?_
    refine at_regq [{}, {}, {}, {}, { nw := true }, { ids := [4, 5] }, {}, {}, {}, { ids := [6] }] { ts := [8, 9, 10], os := [3, 4, 5, 6] } [(1019 : Int) ≠ 0, I64 (1 + (Int.tmod (D_spec_Max 0 x3) 1019)), Q_spec_PolluteComponent x2 (D_spec_Max 0 x3) (1 + (Int.tmod (D_spec_Max 0 x3) 1019))] gamOK hT h (by kernel_rfl) ⟨(by first | omega | (simp only [lsA]; omega) | (simp <;> omega)), ⟨by (have hA0 := tmod_f (D_spec_Max 0 x3) 1019; first | omega | (simp only [lsA]; omega) | (simp <;> omega)), by (have hA0 := tmod_f (D_spec_Max 0 x3) 1019; first | omega | (simp only [lsA]; omega) | (simp <;> omega))⟩, (by exact hf2), trivial⟩ fun a w h => then_normal (wp_seq ?_)
    refine at_regq [] { ts := [8, 9], os := [3, 4, 5] } [] gamOK hT h (by kernel_rfl) trivial fun a w h => then_normal (wp_ret (in_ret (then_ret ?_)))
    exact at_return ((pollute x2 (D_spec_Max 0 x3) (1 + (Int.tmod (D_spec_Max 0 x3) 1019))).1, (true, ())) [] h (by kernel_rfl) trivial (congrArg (fun z => (z.1, z.2, ())) (show (((pollute x2 (D_spec_Max 0 x3) (1 + (Int.tmod (D_spec_Max 0 x3) 1019))).1, true)) = misB x0 x1 x2 x3 from by (have hM : D_spec_Max 0 x3 = mx0 x3 := (by unfold D_spec_Max mx0; (repeat' split) <;> omega); have hm2 := tmod2 (mx0_ge x3); (try simp only [hM] at *); rw [pol_mod (mx0_ge x3)]; exact misB_p (by omega))))
   ·refine at_regq [{}, { hint := some (aB false) }, {}, {}, { hint := some (aB false) }] { ts := [0, 3, 5, 6, 8, 9, 29], os := [1, 2, 3] } [(AV.p (.c (.v (.bool (decide (x0 = 1))))) = AV.p (.c (.v (.bool false)))), (AV.p (.c (.v (.bool (decide (x0 = 4))))) = AV.p (.c (.v (.bool false))))] gamOK hT h (by kernel_rfl) ⟨hint_bool (decide_eq_false h5), hint_bool (decide_eq_false h2), trivial⟩ fun a w h => then_normal ?_
    refine at_test false h (by kernel_rfl) (fun hh => nomatch hh) (fun hh => ?_)
    refine wp_seq ?_
    refine at_regq [] { ts := [5, 6, 8, 9, 46], os := [1, 2, 3] } [] gamOK hT h (by kernel_rfl) trivial fun a w h => then_normal ?_
    refine at_test (decide (x0 = 3)) h (by kernel_rfl) (fun h6 => ?_) (fun h6 => ?_)
    ·replace h6 : x0 = 3 := of_decide_eq_true h6
     refine wp_seq (wp_seq ?_)
     refine at_regq [] { ts := [5, 6, 8, 9, 12], os := [1, 2, 3] } [] gamOK hT h (by kernel_rfl) trivial fun a w h => then_normal (wp_block ?_)
     replace h := at_out (σ' := ⟨[(5, aP 1 0), (6, aP 2 0), (8, aP 3 0), (9, aB false), (12, aI 0)], [(1, oX 26 [cI x1.1, .ro s51 x1.2]), (2, oX 29 [cI x2.1, .ro (.int 3) x2.2.1, .ro (.int 3) x2.2.2]), (3, oX 29 [cI 0, cN, cN])]⟩) { ts := [5, 6, 8, 9, 12], os := [1, 2, 3] } h (by kernel_rfl)
     refine at_loop (fun i : Nat => (⟨[(5, aP 1 0), (6, aP 2 0), (8, aP 3 0), (9, aB false), (12, aI ((i : Nat) : Int))], [(1, oX 26 [cI x1.1, .ro s51 x1.2]), (2, oX 29 [cI x2.1, .ro (.int 3) x2.2.1, .ro (.int 3) x2.2.2]), (3, oX 29 [cI 0, cN, cN])]⟩ : St)) (fun i => (i ≤ List.length x1.2 ∧ ∀ j, j < i → mtB x2 (x1.2.getD j (0, (0, (0, ([], 0))))) = false)) (fun i => List.length x1.2 - i) (0) h (st_congr1 (fun (d0 : Int) => (⟨[(5, aP 1 0), (6, aP 2 0), (8, aP 3 0), (9, aB false), (12, aI d0)], [(1, oX 26 [cI x1.1, .ro s51 x1.2]), (2, oX 29 [cI x2.1, .ro (.int 3) x2.2.1, .ro (.int 3) x2.2.2]), (3, oX 29 [cI 0, cN, cN])]⟩ : St)) (show (0 : Int) = (((0) : Nat) : Int) from by first | with_reducible rfl | (rfl) | rfl)) (by exact ⟨Nat.zero_le _, fun j h => absurd h (by omega)⟩) ?_
     intro i a w hok0 h
     refine wp_seq (wp_seq ?_)
     refine at_regq [] { ts := [5, 6, 8, 9, 12, 53], os := [1, 2, 3] } [] gamOK hT h (by kernel_rfl) trivial fun a w h => then_normal ?_
     refine at_test (decide (((i : Nat) : Int) < ((List.length x1.2 : Nat) : Int))) h (by kernel_rfl) (fun h7 => ?_) (fun h7 => ?_)
     ·replace h7 : ((i : Nat) : Int) < ((List.length x1.2 : Nat) : Int) := of_decide_eq_true h7
      refine wp_skip (then_normal (wp_seq (wp_block (wp_seq ?_))))
      by_cases h8 : (x1.2.getD i (0, (0, (0, ([], 0))))).1 = x2.1
      ·refine at_anyq [{}, {}, {}, {}, {}, {}, {}, {}, { hint := some (aB true) }, {}, {}, {}, {}, {}, {}, {}, {}, {}, {}] { ts := [5, 6, 8, 9, 12, 66, 67, 68, 69, 70, 71, 72, 73, 74], os := [1, 2, 3] } [(0 : Int) ≤ ((i : Nat) : Int) ∧ ((i : Nat) : Int) < ((List.length x1.2 : Nat) : Int), (AV.p (.c (.v (.bool (decide ((x1.2.getD i (0, (0, (0, ([], 0))))).1 = x2.1))))) = AV.p (.c (.v (.bool true)))), (0 : Int) ≤ ((i : Nat) : Int) ∧ ((i : Nat) : Int) < ((List.length x1.2 : Nat) : Int)] gamOK hT mixed h (by kernel_rfl) ⟨(by refine ⟨?_, ?_⟩ <;> (first | omega | (simp only [lsA]; omega) | (simp <;> omega))), hint_bool (decide_eq_true h8), (by refine ⟨?_, ?_⟩ <;> (first | omega | (simp only [lsA]; omega) | (simp <;> omega))), trivial⟩ fun a w h => then_normal ?_
       refine at_test (decide (((List.length (x1.2.getD i (0, (0, (0, ([], 0))))).2.2.2.1 : Nat) : Int) > 0)) h (by kernel_rfl) (fun h9 => ?_) (fun h9 => ?_)
       ·replace h9 : ((List.length (x1.2.getD i (0, (0, (0, ([], 0))))).2.2.2.1 : Nat) : Int) > 0 := of_decide_eq_true h9
        refine wp_seq ?_
        refine at_regq [{}, {}, {}, {}, {}, {}, {}, {}, { ids := [4, 5] }] { ts := [5, 6, 8, 9, 12, 66, 67, 68, 69, 70, 71, 72, 73], os := [1, 2, 3, 4, 5] } [(0 : Int) ≤ ((i : Nat) : Int) ∧ ((i : Nat) : Int) < ((List.length x1.2 : Nat) : Int), (0 : Int) ≤ 0 ∧ 0 < ((List.length (x1.2.getD i (0, (0, (0, ([], 0))))).2.2.2.1 : Nat) : Int), Q_spec_l11Copy ((x1.2.getD i (0, (0, (0, ([], 0))))).2.2.2.1.getD 0 (0, ([], [])))] gamOK hT h (by kernel_rfl) ⟨(by refine ⟨?_, ?_⟩ <;> (first | omega | (simp only [lsA]; omega) | (simp <;> omega))), (by refine ⟨?_, ?_⟩ <;> ((have hL0 := (show List.length (x1.2.getD i (0, (0, (0, ([], 0))))).2.2.2.1 ≤ 1073741824 from ((Sh.fit_getD hf1.2 i).2.2.2.1).1); first | omega | (simp only [lsA]; omega) | (simp <;> omega)))), (by exact (Sh.fit_getD (Sh.fit_getD hf1.2 i).2.2.2.1 0)), trivial⟩ fun a w h => then_normal (wp_ret (in_ret (then_ret (then_ret (in_ret (then_ret (in_ret (then_ret ?_))))))))
        exact at_return (((x1.2.getD i (0, (0, (0, ([], 0))))).2.2.2.1.getD 0 (0, ([], []))), (true, ())) [] h (by kernel_rfl) trivial (congrArg (fun z => (z.1, z.2, ())) (show ((((x1.2.getD i (0, (0, (0, ([], 0))))).2.2.2.1.getD 0 (0, ([], []))), true)) = misB x0 x1 x2 x3 from by exact misB_r (by omega) (misK_at hok0.2 (by omega) (by (show ((decide _) && (decide _)) = true; rw [decide_eq_true (by assumption), decide_eq_true (by omega)]; rfl)))))
       ·replace h9 : ¬ (((List.length (x1.2.getD i (0, (0, (0, ([], 0))))).2.2.2.1 : Nat) : Int) > 0) := of_decide_eq_false h9
        refine wp_skip (in_normal (then_normal ?_))
        refine at_regq [{}, { nw := true }] { ts := [5, 6, 8, 9, 12, 66, 67, 68, 69, 70, 71, 72, 73], os := [1, 2, 3] } [I64 (((i : Nat) : Int) + 1)] gamOK hT h (by kernel_rfl) ⟨⟨by first | omega | (simp only [lsA]; omega) | (simp <;> omega), by first | omega | (simp only [lsA]; omega) | (simp <;> omega)⟩, trivial⟩ fun a w h => ?_
        replace h := at_out (σ' := ⟨[(5, aP 1 0), (6, aP 2 0), (8, aP 3 0), (9, aB false), (12, aI (((i : Nat) : Int) + 1))], [(1, oX 26 [cI x1.1, .ro s51 x1.2]), (2, oX 29 [cI x2.1, .ro (.int 3) x2.2.1, .ro (.int 3) x2.2.2]), (3, oX 29 [cI 0, cN, cN])]⟩) { ts := [5, 6, 8, 9, 12], os := [1, 2, 3] } h (by kernel_rfl)
        exact ⟨i + 1, at_eq h (st_congr1 (fun (d0 : Int) => (⟨[(5, aP 1 0), (6, aP 2 0), (8, aP 3 0), (9, aB false), (12, aI d0)], [(1, oX 26 [cI x1.1, .ro s51 x1.2]), (2, oX 29 [cI x2.1, .ro (.int 3) x2.2.1, .ro (.int 3) x2.2.2]), (3, oX 29 [cI 0, cN, cN])]⟩ : St)) (show (((i : Nat) : Int) + 1 : Int) = (((i + 1) : Nat) : Int) from by first | with_reducible rfl | (omega) | rfl)), (by exact ⟨by omega, fun j hj => by by_cases e : j = i; subst e; (show ((decide _) && (decide _)) = false; first | (rw [decide_eq_false (by assumption)]; rfl) | (rw [decide_eq_false (show ¬ 0 < List.length _ by omega), Bool.and_false])); exact hok0.2 j (by omega)⟩), (by omega)⟩
      ·refine at_anyq [{}, {}, {}, {}, {}, {}, {}, {}, { hint := some (aB false) }, {}, {}, {}, {}, {}, {}, {}, {}, {}, {}] { ts := [5, 6, 8, 9, 12, 66, 67, 68, 69, 70, 71, 72, 73, 74], os := [1, 2, 3] } [(0 : Int) ≤ ((i : Nat) : Int) ∧ ((i : Nat) : Int) < ((List.length x1.2 : Nat) : Int), (AV.p (.c (.v (.bool (decide ((x1.2.getD i (0, (0, (0, ([], 0))))).1 = x2.1))))) = AV.p (.c (.v (.bool false))))] gamOK hT mixed h (by kernel_rfl) ⟨(by refine ⟨?_, ?_⟩ <;> (first | omega | (simp only [lsA]; omega) | (simp <;> omega))), hint_bool (decide_eq_false h8), trivial⟩ fun a w h => then_normal ?_
       refine at_test false h (by kernel_rfl) (fun hh => nomatch hh) (fun hh => ?_)
       refine wp_skip (in_normal (then_normal ?_))
       refine at_regq [{}, { nw := true }] { ts := [5, 6, 8, 9, 12, 66, 67, 68, 69, 70, 71, 72, 73], os := [1, 2, 3] } [I64 (((i : Nat) : Int) + 1)] gamOK hT h (by kernel_rfl) ⟨⟨by first | omega | (simp only [lsA]; omega) | (simp <;> omega), by first | omega | (simp only [lsA]; omega) | (simp <;> omega)⟩, trivial⟩ fun a w h => ?_
       replace h := at_out (σ' := ⟨[(5, aP 1 0), (6, aP 2 0), (8, aP 3 0), (9, aB false), (12, aI (((i : Nat) : Int) + 1))], [(1, oX 26 [cI x1.1, .ro s51 x1.2]), (2, oX 29 [cI x2.1, .ro (.int 3) x2.2.1, .ro (.int 3) x2.2.2]), (3, oX 29 [cI 0, cN, cN])]⟩) { ts := [5, 6, 8, 9, 12], os := [1, 2, 3] } h (by kernel_rfl)
       exact ⟨i + 1, at_eq h (st_congr1 (fun (d0 : Int) => (⟨[(5, aP 1 0), (6, aP 2 0), (8, aP 3 0), (9, aB false), (12, aI d0)], [(1, oX 26 [cI x1.1, .ro s51 x1.2]), (2, oX 29 [cI x2.1, .ro (.int 3) x2.2.1, .ro (.int 3) x2.2.2]), (3, oX 29 [cI 0, cN, cN])]⟩ : St)) (show (((i : Nat) : Int) + 1 : Int) = (((i + 1) : Nat) : Int) from by first | with_reducible rfl | (omega) | rfl)), (by exact ⟨by omega, fun j hj => by by_cases e : j = i; subst e; (show ((decide _) && (decide _)) = false; first | (rw [decide_eq_false (by assumption)]; rfl) | (rw [decide_eq_false (show ¬ 0 < List.length _ by omega), Bool.and_false])); exact hok0.2 j (by omega)⟩), (by omega)⟩
     ·replace h7 : ¬ (((i : Nat) : Int) < ((List.length x1.2 : Nat) : Int)) := of_decide_eq_false h7
      refine wp_exit (then_exit (then_exit (in_hit (then_normal (wp_seq ?_)))))
      refine at_regq [{}, { ids := [4, 5] }] { ts := [8, 9], os := [3, 4, 5] } [Q_spec_l11Copy x2] gamOK hT h (by kernel_rfl) ⟨(by exact hf2), trivial⟩ fun a w h => then_normal (wp_ret (in_ret (then_ret ?_)))
      exact at_return (x2, (true, ())) [] h (by kernel_rfl) trivial (congrArg (fun z => (z.1, z.2, ())) (show ((x2, true)) = misB x0 x1 x2 x3 from by exact misB_r (by omega) (misK_no hok0.2 (by omega))))
    ·replace h6 : ¬ (x0 = 3) := of_decide_eq_false h6
     refine wp_skip (in_normal (then_normal (wp_seq ?_)))
     refine at_regq [] { ts := [8, 9], os := [3] } [] gamOK hT h (by kernel_rfl) trivial fun a w h => then_normal (wp_ret ?_)
     exact at_return ((0, (([] : List Int), ([] : List Int))), (false, ())) [] h (by kernel_rfl) trivial (congrArg (fun z => (z.1, z.2, ())) (show (((0, (([] : List Int), ([] : List Int))), false)) = misB x0 x1 x2 x3 from by exact misB_n (by omega)))


/-- the table of names -/
def names : List (List UInt8) := [[104, 111, 110, 101, 115, 116], [112, 111, 108, 108, 117, 116, 101], [115, 105, 108, 101, 110, 116], [114, 101, 112, 101, 97, 116], [112, 111, 108, 108, 117, 116, 101, 45, 115, 111, 109, 101]]
def strV (z : List UInt8) : Value := .string ⟨z.toArray⟩
def nameOf (a : Int) : List UInt8 := if 0 ≤ a ∧ a ≤ 4 then names.getD a.toNat [] else []
def nameB (a : Int) : ByteArray := ⟨(nameOf a).toArray⟩
/-- the world still has the table -/
def tabIs (w : World) : Prop := w.var? Tryd.prog "loop.example/g00513/impl.behaviorNames" = some (names.map strV).toArray
theorem gTab : Tryd.prog.globalNamed "loop.example/g00513/impl.behaviorNames" = some 0 := by kernel_rfl
theorem tabIs_keep {w0 w : World} (h : tabIs w0) (k : SameBut [] w0 w) : tabIs w := by
  unfold tabIs World.var? at h ⊢
  rw [gTab] at h ⊢
  simp only [Option.bind_some] at h ⊢
  cases hb : w0.heap[0]? with
  | none => rw [hb] at h; cases h
  | some o =>
    have hlt : 0 < w0.heap.size := (Array.getElem?_eq_some_iff.1 hb).1
    rw [k.2.2.2.2 0 hlt (by simp), hb]
    rw [hb] at h; exact h
theorem cell_at {w : World} (h : tabIs w) (i : Nat) (v : Value) (hv : (names.map strV)[i]? = some v) : w.cell? ⟨0, i, none⟩ = some v := by
  have := World.var?_cell gTab h i
  simpa [hv] using this
theorem five (a : Int) : a = 0 ∨ a = 1 ∨ a = 2 ∨ a = 3 ∨ a = 4 ∨ ((0 ≤ a) = False) ∨ ((0 ≤ a) = True ∧ (a ≤ 4) = False) := by
  simp only [eq_iff_iff, iff_false, iff_true]; omega
theorem nameOf_lo {a : Int} (h : (0 ≤ a) = False) : nameOf a = [] := by unfold nameOf; rw [if_neg (by simp [h])]
theorem nameOf_hi {a : Int} (h : (a ≤ 4) = False) : nameOf a = [] := by unfold nameOf; rw [if_neg (by simp [h])]
theorem implW (a : Int) (w : World) (h0 : w.cell? ⟨0, 0, none⟩ = some (strV (nameOf 0))) (h1 : w.cell? ⟨0, 1, none⟩ = some (strV (nameOf 1))) (h2 : w.cell? ⟨0, 2, none⟩ = some (strV (nameOf 2))) (h3 : w.cell? ⟨0, 3, none⟩ = some (strV (nameOf 3))) (h4 : w.cell? ⟨0, 4, none⟩ = some (strV (nameOf 4))) :
    Calls Tryd.prog 10 #[.int .i64 a] w fun e w' => e = .returned (strV (nameOf a)) ∧ Below w.heap.size w w' := by
  rcases five a with rfl | rfl | rfl | rfl | rfl | h | ⟨h1, h⟩
  all_goals first | rw [nameOf_lo h] | rw [nameOf_hi h] | skip
  all_goals go_enter Tryd.func10, Tryd.ntmps10
  all_goals go_wp2
  all_goals go_ret
  all_goals exact ⟨by first | rfl | decide, by repeat (first | exact Below.refl _ _ | apply Below.drew)⟩
theorem arg_int {w : World} {Z : Nat → Prop} {t : TypeId} {us : List Value} {x : Dom [.int t]} (h : argsRd w Z [.int t] us x) : us = [.int .i64 x.1] := by
  match us, h with
  | [u], h =>
    obtain ⟨⟨hc, _, h1⟩, _⟩ := h
    have h1c := h1 rfl
    have hc : u.cells.toList = [.int .i64 x.1] := hc
    rw [cells_one h1c] at hc
    exact hc
def S_impl_BehaviorName : Sum := { fid := 10, dom := [.int 3], cod := [.str 9], dp := true, fz := false, pre := fun x => True, g := fun x => (nameB x.1, ()) }
theorem S_impl_BehaviorName_ok : FnOKV Tryd.prog tabIs 10 S_impl_BehaviorName := ⟨rfl, rfl, fun w hV Z us x hZ hr hp => by
  obtain rfl := arg_int hr
  refine (implW x.1 w (cell_at hV 0 _ rfl) (cell_at hV 1 _ rfl) (cell_at hV 2 _ rfl) (cell_at hV 3 _ rfl) (cell_at hV 4 _ rfl)).mono fun e w' he => ?_
  obtain ⟨rfl, hb⟩ := he
  show RetR true [.str 9] w Z (nameB x.1, ()) (.returned (strV (nameOf x.1))) w'
  exact ⟨[strV (nameOf x.1)], [], rfl, ⟨[], [], rfl, ⟨rfl, rfl⟩, ⟨fun h => (by cases h), fun _ => rfl⟩, rfl⟩, List.nodup_nil, fun b hb => (by cases hb), hb⟩⟩
theorem beh_name (a : Int) : isBeh a = !((nameB a).toList == ByteArray.empty.toList) := by
  rcases five a with rfl | rfl | rfl | rfl | rfl | h | ⟨h1, h⟩
  · decide +kernel
  · decide +kernel
  · decide +kernel
  · decide +kernel
  · decide +kernel
  · unfold nameB; rw [nameOf_lo h]
    have : isBeh a = false := by unfold isBeh; have h : ¬ 0 ≤ a := (by simp [h]); exact decide_eq_false (by omega)
    rw [this]; decide +kernel
  · unfold nameB; rw [nameOf_hi h]
    have : isBeh a = false := by unfold isBeh; have h : ¬ a ≤ 4 := (by simp [h]); exact decide_eq_false (by omega)
    rw [this]; decide +kernel

def dfTo (a b : List Int) : Nat → Nat
 | 0 => 0
 | i + 1 => dfTo a b i + (if b.getD i 0 = a.getD i 0 then 0 else 1)
theorem dfTo_le (a b : List Int) : ∀ i, dfTo a b i ≤ i
 | 0 => Nat.le_refl _
 | i + 1 => by have := dfTo_le a b i; simp only [dfTo]; split <;> omega
theorem df_y {a b : List Int} {i : Nat} (h : ¬ b.getD i 0 = a.getD i 0) : ((dfTo a b i : Nat) : Int) + 1 = ((dfTo a b (i + 1) : Nat) : Int) := by simp only [dfTo]; rw [if_neg h]; rfl
theorem df_n {a b : List Int} {i : Nat} (h : b.getD i 0 = a.getD i 0) : ((dfTo a b i : Nat) : Int) = ((dfTo a b (i + 1) : Nat) : Int) := by simp only [dfTo]; rw [if_pos h]; rfl
theorem getD_set_at {a : List Int} {k i : Nat} {y : Int} (hk : k < a.length) : (a.set k y).getD i 0 = if i = k then y else a.getD i 0 := by
 rw [List.getD_eq_getElem?_getD, List.getElem?_set, List.getD_eq_getElem?_getD]
 by_cases e : k = i
 ·subst e; rw [if_pos rfl, if_pos rfl, if_pos hk]; rfl
 ·rw [if_neg e, if_neg (fun h => e h.symm)]
theorem dfTo_set {a : List Int} {k : Nat} {y : Int} (hk : k < a.length) (hy : ¬ y = a.getD k 0) : ∀ i, dfTo a (a.set k y) i = if k < i then 1 else 0
 | 0 => by rw [if_neg (by omega)]; rfl
 | i + 1 => by
  simp only [dfTo]
  rw [dfTo_set hk hy i, getD_set_at hk]
  by_cases e : i = k
  ·subst e
   rw [if_neg (by omega), if_pos rfl, if_neg hy, if_pos (by omega)]
  ·rw [if_neg e, if_pos rfl]
   by_cases h : k < i
   ·rw [if_pos h, if_pos (by omega)]
   ·rw [if_neg h, if_neg (by omega)]
theorem pol_at {p : T29} {i d : Int} (hl : 1 ≤ List.length p.2.2) (hv : ∀ x ∈ p.2.2, LA.El x) (hi : 0 ≤ i) (hd : 1 ≤ d ∧ d ≤ 1018) : pollute p i d = ((p.1, p.2.1, p.2.2.set (i.tmod ((List.length p.2.2 : Nat) : Int)).toNat ((p.2.2.getD (i.tmod ((List.length p.2.2 : Nat) : Int)).toNat 0 + d).tmod 1019)), true) := by
 have hm : modF d 1019 = d := by
  unfold modF
  rw [if_pos (show inR 1019 1 1000000000000 = true from rfl)]
  have := tmod_f d 1019 (by decide)
  have := tmod_f (d.tmod 1019 + 1019) 1019 (by decide)
  omega
 have ht := LA.tmod_lt hi (show (0 : Int) < ((List.length p.2.2 : Nat) : Int) by omega)
 have hx := hv _ (getD_mem (z := 0) (show (i.tmod ((List.length p.2.2 : Nat) : Int)).toNat < List.length p.2.2 by omega))
 have hall : List.all p.2.2 isEl = true := List.all_eq_true.2 fun x hx => inR_true (hv x hx)
 unfold pollute
 rw [hm]
 rw [if_neg (by omega), if_neg (by omega), if_neg (by omega), hall, if_pos rfl]
 unfold addF
 rw [if_pos (show isEl _ = true from inR_true hx), if_pos (show isEl d = true from inR_true (by omega))]
theorem law_mis {r : T26} {p : T29} {n : Int} (hl : 1 ≤ List.length p.2.2) (hv : ∀ x ∈ p.2.2, LA.El x) :
  misB 0 r p n = (p, true) ∧ (misB 2 r p n).2 = false ∧ (misB 1 r p 5).1.2.1 = p.2.1 ∧ List.length (misB 1 r p 5).1.2.2 = List.length p.2.2 ∧ dfTo p.2.2 (misB 1 r p 5).1.2.2 (List.length p.2.2) = 1 := by
 have ht := LA.tmod_lt (show (0 : Int) ≤ 5 by decide) (show (0 : Int) < ((List.length p.2.2 : Nat) : Int) by omega)
 have hx := hv _ (getD_mem (z := 0) (show (Int.tmod 5 ((List.length p.2.2 : Nat) : Int)).toNat < List.length p.2.2 by omega))
 have e : misB 1 r p 5 = ((pollute p 5 6).1, true) := (misB_p (n := 5) (r := r) (p := p) (.inl rfl)).symm
 refine ⟨(misB_h (.inl rfl)).symm, by rw [← misB_n (by decide)], ?_, ?_, ?_⟩
 ·rw [e, pol_at hl hv (by decide) (by decide)]
 ·rw [e, pol_at hl hv (by decide) (by decide)]; exact List.length_set
 ·rw [e, pol_at hl hv (by decide) (by decide)]
  show dfTo p.2.2 (List.set _ _ _) _ = 1
  unfold LA.El at hx
  rw [dfTo_set (by omega) (by rw [Int.tmod_eq_emod_of_nonneg (by omega)]; omega), if_pos (by omega)]
theorem hon_law : honL [0, 1, 0, 7] = [0, 2] := by decide
def D_laws_FnMisbehavior := (fun (_ : List Int) => true)
abbrev Q_laws_FnMisbehavior := (fun (x0 : List Int) => Sh.i64 s22 x0)
def S_laws_FnMisbehavior : Sum := { fid := 3, dom := [s22], cod := [(.bool 4)], dp := true, fz := false, pre := fun x => Q_laws_FnMisbehavior x.1, g := fun x => ((D_laws_FnMisbehavior x.1), ()) }
def S_laws_FnMisbehavior_tab : List (Nat × Sum) := [(4, S_laws_big), (5, S_spec_DrawMisbehave), (6, S_impl_Misbehave), (7, S_spec_Misbehave), (8, S_laws_samePacket), (9, S_impl_IsBehavior), (10, S_impl_BehaviorName), (11, S_laws_sameInts), (12, S_impl_HonestNodes)]
theorem S_laws_FnMisbehavior_ok : FnOKV Tryd.prog tabIs 3 S_laws_FnMisbehavior := by
 refine at_enterV (V := tabIs) 137 (fun x => ⟨[(0, aF (.u8 5) x.1)], []⟩) Tryd.func3 rfl (by kernel_rfl) (fun x => rfl) ?_
 rintro w0 Z0 ⟨x0, u⟩ a w
 revert x0
 intro (x0 : (List Int)) hV hpre hlens h
 replace hpre : Q_laws_FnMisbehavior x0 := hpre
 have hl1 : List.length x0 ≤ 9223372036854775807 := hlens.1.1
 have hu0 : u8L x0 := hlens.1.2
 have hT : TabOK Tryd.prog w0 [] S_laws_FnMisbehavior_tab := (.cons S_laws_big_ok (.cons S_spec_DrawMisbehave_ok (.cons S_impl_Misbehave_ok (.cons S_spec_Misbehave_ok (.cons S_laws_samePacket_ok (.cons S_impl_IsBehavior_ok (.consw (S_impl_BehaviorName_ok.at_ fun w1 hw1 => tabIs_keep hV hw1) (.cons S_laws_sameInts_ok (.cons S_impl_HonestNodes_ok .nil)))))))))
 refine wp_seq ?_
 refine at_regq [] { ts := [0, 2], os := [] } [] gamOK hT h (by kernel_rfl) trivial fun a w h => then_normal (wp_seq (wp_seq ?_))
 refine at_regq [] { ts := [0, 2, 20], os := [] } [True] gamOK hT h (by kernel_rfl) ⟨trivial, trivial⟩ fun a w h => then_normal ?_
 refine at_test ((bigF x0)) h (by kernel_rfl) (fun h1 => ?_) (fun h1 => ?_)
 ·refine wp_seq ?_
  refine at_regq [] { ts := [0, 2], os := [] } [] gamOK hT h (by kernel_rfl) trivial fun a w h => then_normal (wp_ret (then_ret ?_))
  exact at_return (true, ()) [] h (by kernel_rfl) trivial (congrArg (fun z => (z, ())) (show (true) = D_laws_FnMisbehavior x0 from by unfold D_laws_FnMisbehavior; rfl))
 ·have hbz : List.length x0 ≤ 1048576 := big_f h1
  have hd := drawMb_ok x0
  have hfr := hd.fr
  have hfp := hd.fp
  have hdn := hd.n
  have hpll : List.length (drawMb x0).2.2.1.2.2 ≤ 1073741824 := hd.fp.2.2.1
  have hfq : Sh.fit s29 (misB 1 (drawMb x0).2.1 (drawMb x0).2.2.1 5).1 := misB_fit hfr hfp
  have hql := dfTo_le (drawMb x0).2.2.1.2.2 (misB 1 (drawMb x0).2.1 (drawMb x0).2.2.1 5).1.2.2 0
  obtain ⟨l1, l2, l3, l4, l5⟩ := law_mis (r := (drawMb x0).2.1) (p := (drawMb x0).2.2.1) (n := (drawMb x0).2.2.2) hd.pl hd.pv
  have l6 := beh_name (drawMb x0).1
  have l7 := hon_law
  refine wp_skip (then_normal (wp_seq ?_))
  refine at_regq [{}, {}, {}, {}, {}, {}, {}, { ids := [1] }, { ids := [2] }] { ts := [2, 3, 4, 5, 6], os := [1, 2] } [Q_spec_DrawMisbehave x0] gamOK hT h (by kernel_rfl) ⟨(by exact (Sh.fit_len (t := 22) (s := (.u8 5)) rfl (by omega))), trivial⟩ fun a w h => then_normal (wp_seq ?_)
  refine at_regq [{}, {}, {}, {}, { ids := [3, 4] }, {}, {}, {}, { ids := [5] }] { ts := [2, 3, 4, 5, 6, 7, 8], os := [1, 2, 3, 4, 5] } [Q_impl_Misbehave (drawMb x0).1 (drawMb x0).2.1 (drawMb x0).2.2.1 (drawMb x0).2.2.2] gamOK hT h (by kernel_rfl) ⟨(by exact ⟨hfr, hfp, by omega⟩), trivial⟩ fun a w h => then_normal (wp_seq ?_)
  refine at_regq [{}, {}, {}, {}, { ids := [6, 7] }, {}, {}, {}, { ids := [8] }] { ts := [2, 3, 4, 5, 6, 7, 8, 9, 10], os := [1, 2, 3, 4, 5, 6, 7, 8] } [Q_spec_Misbehave (drawMb x0).1 (drawMb x0).2.1 (drawMb x0).2.2.1 (drawMb x0).2.2.2] gamOK hT h (by kernel_rfl) ⟨(by exact ⟨hfr, hfp, by omega⟩), trivial⟩ fun a w h => then_normal (wp_seq (wp_seq ?_))
  rcases Bool.eq_false_or_eq_true (!((misB (drawMb x0).1 (drawMb x0).2.1 (drawMb x0).2.2.1 (drawMb x0).2.2.2).2 == (misB (drawMb x0).1 (drawMb x0).2.1 (drawMb x0).2.2.1 (drawMb x0).2.2.2).2)) with h2 | h2
  ·have hzh2 : ((misB (drawMb x0).1 (drawMb x0).2.1 (drawMb x0).2.2.1 (drawMb x0).2.2.2).2 == (misB (drawMb x0).1 (drawMb x0).2.1 (drawMb x0).2.2.1 (drawMb x0).2.2.2).2) = false := notT h2
   refine at_regq [{}, {}, { hint := some (aB true) }] { ts := [2, 4, 5, 6, 60], os := [1, 2] } [(AV.p (.c (.v (.bool (!((misB (drawMb x0).1 (drawMb x0).2.1 (drawMb x0).2.2.1 (drawMb x0).2.2.2).2 == (misB (drawMb x0).1 (drawMb x0).2.1 (drawMb x0).2.2.1 (drawMb x0).2.2.2).2))))) = AV.p (.c (.v (.bool true))))] gamOK hT h (by kernel_rfl) ⟨hint_bool (h2), trivial⟩ fun a w h => then_normal ?_
   refine at_test true h (by kernel_rfl) (fun hh => ?_) (fun hh => nomatch hh)
   refine wp_seq ?_
   refine at_regq [] { ts := [2, 4, 5, 6], os := [1, 2] } [] gamOK hT h (by kernel_rfl) trivial fun a w h => then_normal (wp_ret (then_ret ?_))
   exact at_return (false, ()) [] h (by kernel_rfl) trivial (congrArg (fun z => (z, ())) (show (false) = D_laws_FnMisbehavior x0 from by unfold D_laws_FnMisbehavior; first | (exfalso; first | contradiction | (simp_all [Sh.eqB_self]; done) | (simp_all [Sh.eqB_self]; omega) | omega) | (simp_all [Sh.eqB_self]; done)))
  ·have hzh2 : ((misB (drawMb x0).1 (drawMb x0).2.1 (drawMb x0).2.2.1 (drawMb x0).2.2.2).2 == (misB (drawMb x0).1 (drawMb x0).2.1 (drawMb x0).2.2.1 (drawMb x0).2.2.2).2) = true := notF h2
   rcases Bool.eq_false_or_eq_true (!((Sh.eqB s29) (misB (drawMb x0).1 (drawMb x0).2.1 (drawMb x0).2.2.1 (drawMb x0).2.2.2).1 (misB (drawMb x0).1 (drawMb x0).2.1 (drawMb x0).2.2.1 (drawMb x0).2.2.2).1)) with h3 | h3
   ·have hzh3 : ((Sh.eqB s29) (misB (drawMb x0).1 (drawMb x0).2.1 (drawMb x0).2.2.1 (drawMb x0).2.2.2).1 (misB (drawMb x0).1 (drawMb x0).2.1 (drawMb x0).2.2.1 (drawMb x0).2.2.2).1) = false := notT h3
    refine at_regq [{}, {}, { hint := some (aB false) }, {}, {}, {}, {}, { hint := some (aB true) }] { ts := [2, 4, 5, 6, 60], os := [1, 2] } [(AV.p (.c (.v (.bool (!((misB (drawMb x0).1 (drawMb x0).2.1 (drawMb x0).2.2.1 (drawMb x0).2.2.2).2 == (misB (drawMb x0).1 (drawMb x0).2.1 (drawMb x0).2.2.1 (drawMb x0).2.2.2).2))))) = AV.p (.c (.v (.bool false)))), True, (AV.p (.c (.v (.bool (!((Sh.eqB s29) (misB (drawMb x0).1 (drawMb x0).2.1 (drawMb x0).2.2.1 (drawMb x0).2.2.2).1 (misB (drawMb x0).1 (drawMb x0).2.1 (drawMb x0).2.2.1 (drawMb x0).2.2.2).1))))) = AV.p (.c (.v (.bool true))))] gamOK hT h (by kernel_rfl) ⟨hint_bool (h2), trivial, hint_bool (h3), trivial⟩ fun a w h => then_normal ?_
    refine at_test true h (by kernel_rfl) (fun hh => ?_) (fun hh => nomatch hh)
    refine wp_seq ?_
    refine at_regq [] { ts := [2, 4, 5, 6], os := [1, 2] } [] gamOK hT h (by kernel_rfl) trivial fun a w h => then_normal (wp_ret (then_ret ?_))
    exact at_return (false, ()) [] h (by kernel_rfl) trivial (congrArg (fun z => (z, ())) (show (false) = D_laws_FnMisbehavior x0 from by unfold D_laws_FnMisbehavior; first | (exfalso; first | contradiction | (simp_all [Sh.eqB_self]; done) | (simp_all [Sh.eqB_self]; omega) | omega) | (simp_all [Sh.eqB_self]; done)))
   ·have hzh3 : ((Sh.eqB s29) (misB (drawMb x0).1 (drawMb x0).2.1 (drawMb x0).2.2.1 (drawMb x0).2.2.2).1 (misB (drawMb x0).1 (drawMb x0).2.1 (drawMb x0).2.2.1 (drawMb x0).2.2.2).1) = true := notF h3
    refine at_regq [{}, {}, { hint := some (aB false) }, {}, {}, {}, {}, { hint := some (aB false) }] { ts := [2, 4, 5, 6, 60], os := [1, 2] } [(AV.p (.c (.v (.bool (!((misB (drawMb x0).1 (drawMb x0).2.1 (drawMb x0).2.2.1 (drawMb x0).2.2.2).2 == (misB (drawMb x0).1 (drawMb x0).2.1 (drawMb x0).2.2.1 (drawMb x0).2.2.2).2))))) = AV.p (.c (.v (.bool false)))), True, (AV.p (.c (.v (.bool (!((Sh.eqB s29) (misB (drawMb x0).1 (drawMb x0).2.1 (drawMb x0).2.2.1 (drawMb x0).2.2.2).1 (misB (drawMb x0).1 (drawMb x0).2.1 (drawMb x0).2.2.1 (drawMb x0).2.2.2).1))))) = AV.p (.c (.v (.bool false)))), True, True] gamOK hT h (by kernel_rfl) ⟨hint_bool (h2), trivial, hint_bool (h3), trivial, trivial, trivial⟩ fun a w h => then_normal ?_
    refine at_test (!((isBeh (drawMb x0).1) == (!((nameB (drawMb x0).1).toList == ByteArray.empty.toList)))) h (by kernel_rfl) (fun h4 => ?_) (fun h4 => ?_)
    ·replace h4 : ((isBeh (drawMb x0).1) == (!((nameB (drawMb x0).1).toList == ByteArray.empty.toList))) = false := notT h4
     refine wp_seq ?_
     refine at_regq [] { ts := [2, 4, 5, 6], os := [1, 2] } [] gamOK hT h (by kernel_rfl) trivial fun a w h => then_normal (wp_ret (then_ret ?_))
     exact at_return (false, ()) [] h (by kernel_rfl) trivial (congrArg (fun z => (z, ())) (show (false) = D_laws_FnMisbehavior x0 from by unfold D_laws_FnMisbehavior; first | (exfalso; first | contradiction | (simp_all [Sh.eqB_self]; done) | (simp_all [Sh.eqB_self]; omega) | omega) | (simp_all [Sh.eqB_self]; done)))
    ·replace h4 : ((isBeh (drawMb x0).1) == (!((nameB (drawMb x0).1).toList == ByteArray.empty.toList))) = true := notF h4
     refine wp_skip (then_normal (wp_seq ?_))
     refine at_regq [{}, {}, {}, { ids := [9, 10] }, {}, {}, {}, { ids := [11] }] { ts := [2, 4, 5, 6, 11, 12], os := [1, 2, 9, 10, 11] } [Q_impl_Misbehave 0 (drawMb x0).2.1 (drawMb x0).2.2.1 (drawMb x0).2.2.2] gamOK hT h (by kernel_rfl) ⟨(by exact ⟨hfr, hfp, by omega⟩), trivial⟩ fun a w h => then_normal (wp_seq ?_)
     refine at_regq [{}, {}, {}, { ids := [12, 13] }, {}, {}, {}, { ids := [14] }] { ts := [2, 4, 5, 11, 12, 14], os := [1, 2, 9, 10, 11] } [Q_impl_Misbehave 2 (drawMb x0).2.1 (drawMb x0).2.2.1 (drawMb x0).2.2.2] gamOK hT h (by kernel_rfl) ⟨(by exact ⟨hfr, hfp, by omega⟩), trivial⟩ fun a w h => then_normal (wp_seq ?_)
     refine at_regq [{}, {}, { ids := [15, 16] }, {}, {}, {}, { ids := [17] }] { ts := [2, 5, 11, 12, 14, 15], os := [2, 9, 10, 11, 15, 16, 17] } [Q_impl_Misbehave 1 (drawMb x0).2.1 (drawMb x0).2.2.1 5] gamOK hT h (by kernel_rfl) ⟨(by exact ⟨hfr, hfp, by omega⟩), trivial⟩ fun a w h => then_normal (wp_seq ?_)
     refine at_regq [] { ts := [2, 5, 11, 12, 14, 15, 17], os := [2, 9, 10, 11, 15, 16, 17] } [] gamOK hT h (by kernel_rfl) trivial fun a w h => then_normal (wp_seq (wp_seq ?_))
     refine at_regq [] { ts := [2, 5, 11, 12, 14, 15, 17, 18], os := [2, 9, 10, 11, 15, 16, 17] } [] gamOK hT h (by kernel_rfl) trivial fun a w h => then_normal (wp_block ?_)
     replace h := at_out (σ' := ⟨[(2, aB false), (5, aP 2 0), (11, aP 11 0), (12, aB (misB 0 (drawMb x0).2.1 (drawMb x0).2.2.1 (drawMb x0).2.2.2).2), (14, aB (misB 2 (drawMb x0).2.1 (drawMb x0).2.2.1 (drawMb x0).2.2.2).2), (15, aP 17 0), (17, aI 0), (18, aI 0)], [(2, oX 29 [cI (drawMb x0).2.2.1.1, .ro (.int 3) (drawMb x0).2.2.1.2.1, .ro (.int 3) (drawMb x0).2.2.1.2.2]), (9, oR (.int 3) (misB 0 (drawMb x0).2.1 (drawMb x0).2.2.1 (drawMb x0).2.2.2).1.2.1), (10, oR (.int 3) (misB 0 (drawMb x0).2.1 (drawMb x0).2.2.1 (drawMb x0).2.2.2).1.2.2), (11, oX 29 [cI (misB 0 (drawMb x0).2.1 (drawMb x0).2.2.1 (drawMb x0).2.2.2).1.1, .sl 9, .sl 10]), (15, oR (.int 3) (misB 1 (drawMb x0).2.1 (drawMb x0).2.2.1 5).1.2.1), (16, oR (.int 3) (misB 1 (drawMb x0).2.1 (drawMb x0).2.2.1 5).1.2.2), (17, oX 29 [cI (misB 1 (drawMb x0).2.1 (drawMb x0).2.2.1 5).1.1, .sl 15, .sl 16])]⟩) { ts := [2, 5, 11, 12, 14, 15, 17, 18], os := [2, 9, 10, 11, 15, 16, 17] } h (by kernel_rfl)
     refine at_loop (fun i : Nat => (⟨[(2, aB false), (5, aP 2 0), (11, aP 11 0), (12, aB (misB 0 (drawMb x0).2.1 (drawMb x0).2.2.1 (drawMb x0).2.2.2).2), (14, aB (misB 2 (drawMb x0).2.1 (drawMb x0).2.2.1 (drawMb x0).2.2.2).2), (15, aP 17 0), (17, aI (((dfTo (drawMb x0).2.2.1.2.2 (misB 1 (drawMb x0).2.1 (drawMb x0).2.2.1 5).1.2.2 i) : Nat) : Int)), (18, aI ((i : Nat) : Int))], [(2, oX 29 [cI (drawMb x0).2.2.1.1, .ro (.int 3) (drawMb x0).2.2.1.2.1, .ro (.int 3) (drawMb x0).2.2.1.2.2]), (9, oR (.int 3) (misB 0 (drawMb x0).2.1 (drawMb x0).2.2.1 (drawMb x0).2.2.2).1.2.1), (10, oR (.int 3) (misB 0 (drawMb x0).2.1 (drawMb x0).2.2.1 (drawMb x0).2.2.2).1.2.2), (11, oX 29 [cI (misB 0 (drawMb x0).2.1 (drawMb x0).2.2.1 (drawMb x0).2.2.2).1.1, .sl 9, .sl 10]), (15, oR (.int 3) (misB 1 (drawMb x0).2.1 (drawMb x0).2.2.1 5).1.2.1), (16, oR (.int 3) (misB 1 (drawMb x0).2.1 (drawMb x0).2.2.1 5).1.2.2), (17, oX 29 [cI (misB 1 (drawMb x0).2.1 (drawMb x0).2.2.1 5).1.1, .sl 15, .sl 16])]⟩ : St)) (fun i => i ≤ List.length (drawMb x0).2.2.1.2.2) (fun i => List.length (drawMb x0).2.2.1.2.2 - i) (0) h (st_congr2 (fun (d0 : Int) (d1 : Int) => (⟨[(2, aB false), (5, aP 2 0), (11, aP 11 0), (12, aB (misB 0 (drawMb x0).2.1 (drawMb x0).2.2.1 (drawMb x0).2.2.2).2), (14, aB (misB 2 (drawMb x0).2.1 (drawMb x0).2.2.1 (drawMb x0).2.2.2).2), (15, aP 17 0), (17, aI d0), (18, aI d1)], [(2, oX 29 [cI (drawMb x0).2.2.1.1, .ro (.int 3) (drawMb x0).2.2.1.2.1, .ro (.int 3) (drawMb x0).2.2.1.2.2]), (9, oR (.int 3) (misB 0 (drawMb x0).2.1 (drawMb x0).2.2.1 (drawMb x0).2.2.2).1.2.1), (10, oR (.int 3) (misB 0 (drawMb x0).2.1 (drawMb x0).2.2.1 (drawMb x0).2.2.2).1.2.2), (11, oX 29 [cI (misB 0 (drawMb x0).2.1 (drawMb x0).2.2.1 (drawMb x0).2.2.2).1.1, .sl 9, .sl 10]), (15, oR (.int 3) (misB 1 (drawMb x0).2.1 (drawMb x0).2.2.1 5).1.2.1), (16, oR (.int 3) (misB 1 (drawMb x0).2.1 (drawMb x0).2.2.1 5).1.2.2), (17, oX 29 [cI (misB 1 (drawMb x0).2.1 (drawMb x0).2.2.1 5).1.1, .sl 15, .sl 16])]⟩ : St)) (show (0 : Int) = (((dfTo (drawMb x0).2.2.1.2.2 (misB 1 (drawMb x0).2.1 (drawMb x0).2.2.1 5).1.2.2 (0)) : Nat) : Int) from by first | with_reducible rfl | (rfl) | rfl) (show (0 : Int) = (((0) : Nat) : Int) from by first | with_reducible rfl | (rfl) | rfl)) (by omega) ?_
     intro i a w hok0 h
     have hdf := dfTo_le (drawMb x0).2.2.1.2.2 (misB 1 (drawMb x0).2.1 (drawMb x0).2.2.1 5).1.2.2 i
     refine wp_seq (wp_seq ?_)
     by_cases h5 : ((i : Nat) : Int) < ((List.length (drawMb x0).2.2.1.2.2 : Nat) : Int)
     ·refine at_regq [{}, {}, {}, {}, { hint := some (aB true) }] { ts := [2, 5, 11, 12, 14, 15, 17, 18, 87, 88, 89, 90, 91, 92, 93, 94], os := [2, 9, 10, 11, 15, 16, 17] } [(AV.p (.c (.v (.bool (decide (((i : Nat) : Int) < ((List.length (drawMb x0).2.2.1.2.2 : Nat) : Int)))))) = AV.p (.c (.v (.bool true))))] gamOK hT h (by kernel_rfl) ⟨hint_bool (decide_eq_true h5), trivial⟩ fun a w h => then_normal ?_
      refine at_test (decide (((List.length (misB 1 (drawMb x0).2.1 (drawMb x0).2.2.1 5).1.2.2 : Nat) : Int) = ((List.length (drawMb x0).2.2.1.2.2 : Nat) : Int))) h (by kernel_rfl) (fun h6 => ?_) (fun h6 => ?_)
      ·replace h6 : ((List.length (misB 1 (drawMb x0).2.1 (drawMb x0).2.2.1 5).1.2.2 : Nat) : Int) = ((List.length (drawMb x0).2.2.1.2.2 : Nat) : Int) := of_decide_eq_true h6
       refine wp_skip (then_normal (wp_seq (wp_block (wp_seq ?_))))
       refine at_anyq [{}, {}, {}, {}, {}, {}, {}, {}, {}, {}, {}] { ts := [2, 5, 11, 12, 14, 15, 17, 18, 87, 88, 89, 90, 91, 92, 93, 107], os := [2, 9, 10, 11, 15, 16, 17] } [(0 : Int) ≤ ((i : Nat) : Int) ∧ ((i : Nat) : Int) < ((List.length (misB 1 (drawMb x0).2.1 (drawMb x0).2.2.1 5).1.2.2 : Nat) : Int), i < List.length (misB 1 (drawMb x0).2.1 (drawMb x0).2.2.1 5).1.2.2, (0 : Int) ≤ ((i : Nat) : Int) ∧ ((i : Nat) : Int) < ((List.length (drawMb x0).2.2.1.2.2 : Nat) : Int)] gamOK hT mixed h (by kernel_rfl) ⟨(by refine ⟨?_, ?_⟩ <;> ((have hL0 := (show List.length (misB 1 (drawMb x0).2.1 (drawMb x0).2.2.1 5).1.2.2 ≤ 1073741824 from (hfq.2.2).1); first | omega | (simp only [lsA]; omega) | (simp <;> omega)))), (by (have hL0 := (show List.length (misB 1 (drawMb x0).2.1 (drawMb x0).2.2.1 5).1.2.2 ≤ 1073741824 from (hfq.2.2).1); first | omega | (simp only [lsA]; omega) | (simp <;> omega))), (by refine ⟨?_, ?_⟩ <;> ((have hL0 := (show List.length (drawMb x0).2.2.1.2.2 ≤ 1073741824 from (hfp.2.2).1); first | omega | (simp only [lsA]; omega) | (simp <;> omega)))), trivial⟩ fun a w h => then_normal ?_
       refine at_test (!decide (((misB 1 (drawMb x0).2.1 (drawMb x0).2.2.1 5).1.2.2.getD i 0) = ((drawMb x0).2.2.1.2.2.getD i 0))) h (by kernel_rfl) (fun h7 => ?_) (fun h7 => ?_)
       ·replace h7 : ¬ (((misB 1 (drawMb x0).2.1 (drawMb x0).2.2.1 5).1.2.2.getD i 0) = ((drawMb x0).2.2.1.2.2.getD i 0)) := of_decide_eq_false (notT h7)
        refine at_regq [{}, { nw := true }] { ts := [2, 5, 11, 12, 14, 15, 17, 18, 87, 88, 89, 90, 91, 92, 93], os := [2, 9, 10, 11, 15, 16, 17] } [I64 ((((dfTo (drawMb x0).2.2.1.2.2 (misB 1 (drawMb x0).2.1 (drawMb x0).2.2.1 5).1.2.2 i) : Nat) : Int) + 1)] gamOK hT h (by kernel_rfl) ⟨⟨by first | omega | (simp only [lsA]; omega) | (simp <;> omega), by first | omega | (simp only [lsA]; omega) | (simp <;> omega)⟩, trivial⟩ fun a w h => in_normal (then_normal ?_)
        refine at_regq [{}, { nw := true }] { ts := [2, 5, 11, 12, 14, 15, 17, 18, 87, 88, 89, 90, 91, 92, 93], os := [2, 9, 10, 11, 15, 16, 17] } [I64 (((i : Nat) : Int) + 1)] gamOK hT h (by kernel_rfl) ⟨⟨by first | omega | (simp only [lsA]; omega) | (simp <;> omega), by first | omega | (simp only [lsA]; omega) | (simp <;> omega)⟩, trivial⟩ fun a w h => ?_
        replace h := at_out (σ' := ⟨[(2, aB false), (5, aP 2 0), (11, aP 11 0), (12, aB (misB 0 (drawMb x0).2.1 (drawMb x0).2.2.1 (drawMb x0).2.2.2).2), (14, aB (misB 2 (drawMb x0).2.1 (drawMb x0).2.2.1 (drawMb x0).2.2.2).2), (15, aP 17 0), (17, aI ((((dfTo (drawMb x0).2.2.1.2.2 (misB 1 (drawMb x0).2.1 (drawMb x0).2.2.1 5).1.2.2 i) : Nat) : Int) + 1)), (18, aI (((i : Nat) : Int) + 1))], [(2, oX 29 [cI (drawMb x0).2.2.1.1, .ro (.int 3) (drawMb x0).2.2.1.2.1, .ro (.int 3) (drawMb x0).2.2.1.2.2]), (9, oR (.int 3) (misB 0 (drawMb x0).2.1 (drawMb x0).2.2.1 (drawMb x0).2.2.2).1.2.1), (10, oR (.int 3) (misB 0 (drawMb x0).2.1 (drawMb x0).2.2.1 (drawMb x0).2.2.2).1.2.2), (11, oX 29 [cI (misB 0 (drawMb x0).2.1 (drawMb x0).2.2.1 (drawMb x0).2.2.2).1.1, .sl 9, .sl 10]), (15, oR (.int 3) (misB 1 (drawMb x0).2.1 (drawMb x0).2.2.1 5).1.2.1), (16, oR (.int 3) (misB 1 (drawMb x0).2.1 (drawMb x0).2.2.1 5).1.2.2), (17, oX 29 [cI (misB 1 (drawMb x0).2.1 (drawMb x0).2.2.1 5).1.1, .sl 15, .sl 16])]⟩) { ts := [2, 5, 11, 12, 14, 15, 17, 18], os := [2, 9, 10, 11, 15, 16, 17] } h (by kernel_rfl)
        exact ⟨i + 1, at_eq h (st_congr2 (fun (d0 : Int) (d1 : Int) => (⟨[(2, aB false), (5, aP 2 0), (11, aP 11 0), (12, aB (misB 0 (drawMb x0).2.1 (drawMb x0).2.2.1 (drawMb x0).2.2.2).2), (14, aB (misB 2 (drawMb x0).2.1 (drawMb x0).2.2.1 (drawMb x0).2.2.2).2), (15, aP 17 0), (17, aI d0), (18, aI d1)], [(2, oX 29 [cI (drawMb x0).2.2.1.1, .ro (.int 3) (drawMb x0).2.2.1.2.1, .ro (.int 3) (drawMb x0).2.2.1.2.2]), (9, oR (.int 3) (misB 0 (drawMb x0).2.1 (drawMb x0).2.2.1 (drawMb x0).2.2.2).1.2.1), (10, oR (.int 3) (misB 0 (drawMb x0).2.1 (drawMb x0).2.2.1 (drawMb x0).2.2.2).1.2.2), (11, oX 29 [cI (misB 0 (drawMb x0).2.1 (drawMb x0).2.2.1 (drawMb x0).2.2.2).1.1, .sl 9, .sl 10]), (15, oR (.int 3) (misB 1 (drawMb x0).2.1 (drawMb x0).2.2.1 5).1.2.1), (16, oR (.int 3) (misB 1 (drawMb x0).2.1 (drawMb x0).2.2.1 5).1.2.2), (17, oX 29 [cI (misB 1 (drawMb x0).2.1 (drawMb x0).2.2.1 5).1.1, .sl 15, .sl 16])]⟩ : St)) (show ((((dfTo (drawMb x0).2.2.1.2.2 (misB 1 (drawMb x0).2.1 (drawMb x0).2.2.1 5).1.2.2 i) : Nat) : Int) + 1 : Int) = (((dfTo (drawMb x0).2.2.1.2.2 (misB 1 (drawMb x0).2.1 (drawMb x0).2.2.1 5).1.2.2 (i + 1)) : Nat) : Int) from by first | with_reducible rfl | (first | exact df_y (by assumption) | exact df_n (by assumption) | exact df_n (by omega) | exact df_y (by omega)) | rfl) (show (((i : Nat) : Int) + 1 : Int) = (((i + 1) : Nat) : Int) from by first | with_reducible rfl | (omega) | rfl)), (by omega), (by omega)⟩
       ·replace h7 : ((misB 1 (drawMb x0).2.1 (drawMb x0).2.2.1 5).1.2.2.getD i 0) = ((drawMb x0).2.2.1.2.2.getD i 0) := of_decide_eq_true (notF h7)
        refine wp_skip (in_normal (then_normal ?_))
        refine at_regq [{}, { nw := true }] { ts := [2, 5, 11, 12, 14, 15, 17, 18, 87, 88, 89, 90, 91, 92, 93], os := [2, 9, 10, 11, 15, 16, 17] } [I64 (((i : Nat) : Int) + 1)] gamOK hT h (by kernel_rfl) ⟨⟨by first | omega | (simp only [lsA]; omega) | (simp <;> omega), by first | omega | (simp only [lsA]; omega) | (simp <;> omega)⟩, trivial⟩ fun a w h => ?_
        replace h := at_out (σ' := ⟨[(2, aB false), (5, aP 2 0), (11, aP 11 0), (12, aB (misB 0 (drawMb x0).2.1 (drawMb x0).2.2.1 (drawMb x0).2.2.2).2), (14, aB (misB 2 (drawMb x0).2.1 (drawMb x0).2.2.1 (drawMb x0).2.2.2).2), (15, aP 17 0), (17, aI (((dfTo (drawMb x0).2.2.1.2.2 (misB 1 (drawMb x0).2.1 (drawMb x0).2.2.1 5).1.2.2 i) : Nat) : Int)), (18, aI (((i : Nat) : Int) + 1))], [(2, oX 29 [cI (drawMb x0).2.2.1.1, .ro (.int 3) (drawMb x0).2.2.1.2.1, .ro (.int 3) (drawMb x0).2.2.1.2.2]), (9, oR (.int 3) (misB 0 (drawMb x0).2.1 (drawMb x0).2.2.1 (drawMb x0).2.2.2).1.2.1), (10, oR (.int 3) (misB 0 (drawMb x0).2.1 (drawMb x0).2.2.1 (drawMb x0).2.2.2).1.2.2), (11, oX 29 [cI (misB 0 (drawMb x0).2.1 (drawMb x0).2.2.1 (drawMb x0).2.2.2).1.1, .sl 9, .sl 10]), (15, oR (.int 3) (misB 1 (drawMb x0).2.1 (drawMb x0).2.2.1 5).1.2.1), (16, oR (.int 3) (misB 1 (drawMb x0).2.1 (drawMb x0).2.2.1 5).1.2.2), (17, oX 29 [cI (misB 1 (drawMb x0).2.1 (drawMb x0).2.2.1 5).1.1, .sl 15, .sl 16])]⟩) { ts := [2, 5, 11, 12, 14, 15, 17, 18], os := [2, 9, 10, 11, 15, 16, 17] } h (by kernel_rfl)
        exact ⟨i + 1, at_eq h (st_congr2 (fun (d0 : Int) (d1 : Int) => (⟨[(2, aB false), (5, aP 2 0), (11, aP 11 0), (12, aB (misB 0 (drawMb x0).2.1 (drawMb x0).2.2.1 (drawMb x0).2.2.2).2), (14, aB (misB 2 (drawMb x0).2.1 (drawMb x0).2.2.1 (drawMb x0).2.2.2).2), (15, aP 17 0), (17, aI d0), (18, aI d1)], [(2, oX 29 [cI (drawMb x0).2.2.1.1, .ro (.int 3) (drawMb x0).2.2.1.2.1, .ro (.int 3) (drawMb x0).2.2.1.2.2]), (9, oR (.int 3) (misB 0 (drawMb x0).2.1 (drawMb x0).2.2.1 (drawMb x0).2.2.2).1.2.1), (10, oR (.int 3) (misB 0 (drawMb x0).2.1 (drawMb x0).2.2.1 (drawMb x0).2.2.2).1.2.2), (11, oX 29 [cI (misB 0 (drawMb x0).2.1 (drawMb x0).2.2.1 (drawMb x0).2.2.2).1.1, .sl 9, .sl 10]), (15, oR (.int 3) (misB 1 (drawMb x0).2.1 (drawMb x0).2.2.1 5).1.2.1), (16, oR (.int 3) (misB 1 (drawMb x0).2.1 (drawMb x0).2.2.1 5).1.2.2), (17, oX 29 [cI (misB 1 (drawMb x0).2.1 (drawMb x0).2.2.1 5).1.1, .sl 15, .sl 16])]⟩ : St)) (show ((((dfTo (drawMb x0).2.2.1.2.2 (misB 1 (drawMb x0).2.1 (drawMb x0).2.2.1 5).1.2.2 i) : Nat) : Int) : Int) = (((dfTo (drawMb x0).2.2.1.2.2 (misB 1 (drawMb x0).2.1 (drawMb x0).2.2.1 5).1.2.2 (i + 1)) : Nat) : Int) from by first | with_reducible rfl | (first | exact df_y (by assumption) | exact df_n (by assumption) | exact df_n (by omega) | exact df_y (by omega)) | rfl) (show (((i : Nat) : Int) + 1 : Int) = (((i + 1) : Nat) : Int) from by first | with_reducible rfl | (omega) | rfl)), (by omega), (by omega)⟩
      ·replace h6 : ¬ (((List.length (misB 1 (drawMb x0).2.1 (drawMb x0).2.2.1 5).1.2.2 : Nat) : Int) = ((List.length (drawMb x0).2.2.1.2.2 : Nat) : Int)) := of_decide_eq_false h6
       refine wp_exit (then_exit ?_)
       replace h := at_out (σ' := ⟨[(2, aB false), (5, aP 2 0), (11, aP 11 0), (12, aB (misB 0 (drawMb x0).2.1 (drawMb x0).2.2.1 (drawMb x0).2.2.2).2), (14, aB (misB 2 (drawMb x0).2.1 (drawMb x0).2.2.1 (drawMb x0).2.2.2).2), (15, aP 17 0), (17, aI (((dfTo (drawMb x0).2.2.1.2.2 (misB 1 (drawMb x0).2.1 (drawMb x0).2.2.1 5).1.2.2 i) : Nat) : Int))], [(2, oX 29 [cI (drawMb x0).2.2.1.1, .ro (.int 3) (drawMb x0).2.2.1.2.1, .ro (.int 3) (drawMb x0).2.2.1.2.2]), (9, oR (.int 3) (misB 0 (drawMb x0).2.1 (drawMb x0).2.2.1 (drawMb x0).2.2.2).1.2.1), (10, oR (.int 3) (misB 0 (drawMb x0).2.1 (drawMb x0).2.2.1 (drawMb x0).2.2.2).1.2.2), (11, oX 29 [cI (misB 0 (drawMb x0).2.1 (drawMb x0).2.2.1 (drawMb x0).2.2.2).1.1, .sl 9, .sl 10]), (15, oR (.int 3) (misB 1 (drawMb x0).2.1 (drawMb x0).2.2.1 5).1.2.1), (16, oR (.int 3) (misB 1 (drawMb x0).2.1 (drawMb x0).2.2.1 5).1.2.2), (17, oX 29 [cI (misB 1 (drawMb x0).2.1 (drawMb x0).2.2.1 5).1.1, .sl 15, .sl 16])]⟩) { ts := [2, 5, 11, 12, 14, 15, 17], os := [2, 9, 10, 11, 15, 16, 17] } h (by kernel_rfl)
       replace h := at_eq (σ' := ⟨[(2, aB false), (5, aP 2 0), (11, aP 11 0), (12, aB (misB 0 (drawMb x0).2.1 (drawMb x0).2.2.1 (drawMb x0).2.2.2).2), (14, aB (misB 2 (drawMb x0).2.1 (drawMb x0).2.2.1 (drawMb x0).2.2.2).2), (15, aP 17 0), (17, aI (((dfTo (drawMb x0).2.2.1.2.2 (misB 1 (drawMb x0).2.1 (drawMb x0).2.2.1 5).1.2.2 (List.length (drawMb x0).2.2.1.2.2)) : Nat) : Int))], [(2, oX 29 [cI (drawMb x0).2.2.1.1, .ro (.int 3) (drawMb x0).2.2.1.2.1, .ro (.int 3) (drawMb x0).2.2.1.2.2]), (9, oR (.int 3) (misB 0 (drawMb x0).2.1 (drawMb x0).2.2.1 (drawMb x0).2.2.2).1.2.1), (10, oR (.int 3) (misB 0 (drawMb x0).2.1 (drawMb x0).2.2.1 (drawMb x0).2.2.2).1.2.2), (11, oX 29 [cI (misB 0 (drawMb x0).2.1 (drawMb x0).2.2.1 (drawMb x0).2.2.2).1.1, .sl 9, .sl 10]), (15, oR (.int 3) (misB 1 (drawMb x0).2.1 (drawMb x0).2.2.1 5).1.2.1), (16, oR (.int 3) (misB 1 (drawMb x0).2.1 (drawMb x0).2.2.1 5).1.2.2), (17, oX 29 [cI (misB 1 (drawMb x0).2.1 (drawMb x0).2.2.1 5).1.1, .sl 15, .sl 16])]⟩) h (st_congr1 (fun (d0 : Int) => (⟨[(2, aB false), (5, aP 2 0), (11, aP 11 0), (12, aB (misB 0 (drawMb x0).2.1 (drawMb x0).2.2.1 (drawMb x0).2.2.2).2), (14, aB (misB 2 (drawMb x0).2.1 (drawMb x0).2.2.1 (drawMb x0).2.2.2).2), (15, aP 17 0), (17, aI d0)], [(2, oX 29 [cI (drawMb x0).2.2.1.1, .ro (.int 3) (drawMb x0).2.2.1.2.1, .ro (.int 3) (drawMb x0).2.2.1.2.2]), (9, oR (.int 3) (misB 0 (drawMb x0).2.1 (drawMb x0).2.2.1 (drawMb x0).2.2.2).1.2.1), (10, oR (.int 3) (misB 0 (drawMb x0).2.1 (drawMb x0).2.2.1 (drawMb x0).2.2.2).1.2.2), (11, oX 29 [cI (misB 0 (drawMb x0).2.1 (drawMb x0).2.2.1 (drawMb x0).2.2.2).1.1, .sl 9, .sl 10]), (15, oR (.int 3) (misB 1 (drawMb x0).2.1 (drawMb x0).2.2.1 5).1.2.1), (16, oR (.int 3) (misB 1 (drawMb x0).2.1 (drawMb x0).2.2.1 5).1.2.2), (17, oX 29 [cI (misB 1 (drawMb x0).2.1 (drawMb x0).2.2.1 5).1.1, .sl 15, .sl 16])]⟩ : St)) (show ((((dfTo (drawMb x0).2.2.1.2.2 (misB 1 (drawMb x0).2.1 (drawMb x0).2.2.1 5).1.2.2 i) : Nat) : Int) : Int) = (((dfTo (drawMb x0).2.2.1.2.2 (misB 1 (drawMb x0).2.1 (drawMb x0).2.2.1 5).1.2.2 (List.length (drawMb x0).2.2.1.2.2)) : Nat) : Int) from by first | with_reducible rfl | (rw [show List.length (drawMb x0).2.2.1.2.2 = i by omega]) | rfl))
       refine then_exit (in_hit (then_normal (wp_seq ?_)))
       rcases Bool.eq_false_or_eq_true ((misB 0 (drawMb x0).2.1 (drawMb x0).2.2.1 (drawMb x0).2.2.2).2) with h8 | h8
       ·rcases Bool.eq_false_or_eq_true (((Sh.eqB s29) (misB 0 (drawMb x0).2.1 (drawMb x0).2.2.1 (drawMb x0).2.2.2).1 (drawMb x0).2.2.1)) with h9 | h9
        ·rcases Bool.eq_false_or_eq_true (!(misB 2 (drawMb x0).2.1 (drawMb x0).2.2.1 (drawMb x0).2.2.2).2) with h10 | h10
         ·have hzh10 : (misB 2 (drawMb x0).2.1 (drawMb x0).2.2.1 (drawMb x0).2.2.2).2 = false := notT h10
          by_cases h11 : (((dfTo (drawMb x0).2.2.1.2.2 (misB 1 (drawMb x0).2.1 (drawMb x0).2.2.1 5).1.2.2 (List.length (drawMb x0).2.2.1.2.2)) : Nat) : Int) = 1
          ·rcases Bool.eq_false_or_eq_true (((Sh.eqB s27) (misB 1 (drawMb x0).2.1 (drawMb x0).2.2.1 5).1.2.1 (drawMb x0).2.2.1.2.1)) with h12 | h12
           ·refine at_regq [{ hint := some (aB true) }, {}, {}, {}, { hint := some (aB true) }, {}, {}, {}, { hint := some (aB true) }, {}, {}, {}, { hint := some (aB true) }, {}, {}, {}, {}, {}, {}, { hint := some (aB true) }, {}, {}, { ids := [18] }, { ids := [19] }, { ids := [20] }] { ts := [2], os := [] } [(AV.p (.c (.v (.bool ((misB 0 (drawMb x0).2.1 (drawMb x0).2.2.1 (drawMb x0).2.2.2).2)))) = AV.p (.c (.v (.bool true)))), True, (AV.p (.c (.v (.bool (((Sh.eqB s29) (misB 0 (drawMb x0).2.1 (drawMb x0).2.2.1 (drawMb x0).2.2.2).1 (drawMb x0).2.2.1))))) = AV.p (.c (.v (.bool true)))), (AV.p (.c (.v (.bool (!(misB 2 (drawMb x0).2.1 (drawMb x0).2.2.1 (drawMb x0).2.2.2).2)))) = AV.p (.c (.v (.bool true)))), (AV.p (.c (.v (.bool (decide ((((dfTo (drawMb x0).2.2.1.2.2 (misB 1 (drawMb x0).2.1 (drawMb x0).2.2.1 5).1.2.2 (List.length (drawMb x0).2.2.1.2.2)) : Nat) : Int) = 1))))) = AV.p (.c (.v (.bool true)))), True, (AV.p (.c (.v (.bool (((Sh.eqB s27) (misB 1 (drawMb x0).2.1 (drawMb x0).2.2.1 5).1.2.1 (drawMb x0).2.2.1.2.1))))) = AV.p (.c (.v (.bool true)))), Q_impl_HonestNodes ([0, 1, 0, 7]), True] gamOK hT h (by kernel_rfl) ⟨hint_bool (h8), trivial, hint_bool (h9), hint_bool (h10), hint_bool (decide_eq_true h11), trivial, hint_bool (h12), (by exact ⟨show 4 ≤ 1073741824 by decide, fun _ _ => trivial⟩), trivial, trivial⟩ fun a w h => then_normal (wp_ret ?_)
            exact at_return (((Sh.eqB s27) (honL ([0, 1, 0, 7])) ([0, 2])), ()) [] h (by kernel_rfl) trivial (congrArg (fun z => (z, ())) (show (((Sh.eqB s27) (honL ([0, 1, 0, 7])) ([0, 2]))) = D_laws_FnMisbehavior x0 from by unfold D_laws_FnMisbehavior; first | (exfalso; first | contradiction | (simp_all [Sh.eqB_self]; done) | (simp_all [Sh.eqB_self]; omega) | omega) | (simp_all [Sh.eqB_self]; done)))
           ·refine at_regq [{ hint := some (aB true) }, {}, {}, {}, { hint := some (aB true) }, {}, {}, {}, { hint := some (aB true) }, {}, {}, {}, { hint := some (aB true) }, {}, {}, {}, {}, {}, {}, { hint := some (aB false) }] { ts := [2], os := [] } [(AV.p (.c (.v (.bool ((misB 0 (drawMb x0).2.1 (drawMb x0).2.2.1 (drawMb x0).2.2.2).2)))) = AV.p (.c (.v (.bool true)))), True, (AV.p (.c (.v (.bool (((Sh.eqB s29) (misB 0 (drawMb x0).2.1 (drawMb x0).2.2.1 (drawMb x0).2.2.2).1 (drawMb x0).2.2.1))))) = AV.p (.c (.v (.bool true)))), (AV.p (.c (.v (.bool (!(misB 2 (drawMb x0).2.1 (drawMb x0).2.2.1 (drawMb x0).2.2.2).2)))) = AV.p (.c (.v (.bool true)))), (AV.p (.c (.v (.bool (decide ((((dfTo (drawMb x0).2.2.1.2.2 (misB 1 (drawMb x0).2.1 (drawMb x0).2.2.1 5).1.2.2 (List.length (drawMb x0).2.2.1.2.2)) : Nat) : Int) = 1))))) = AV.p (.c (.v (.bool true)))), True, (AV.p (.c (.v (.bool (((Sh.eqB s27) (misB 1 (drawMb x0).2.1 (drawMb x0).2.2.1 5).1.2.1 (drawMb x0).2.2.1.2.1))))) = AV.p (.c (.v (.bool false))))] gamOK hT h (by kernel_rfl) ⟨hint_bool (h8), trivial, hint_bool (h9), hint_bool (h10), hint_bool (decide_eq_true h11), trivial, hint_bool (h12), trivial⟩ fun a w h => then_normal (wp_ret ?_)
            exact at_return (false, ()) [] h (by kernel_rfl) trivial (congrArg (fun z => (z, ())) (show (false) = D_laws_FnMisbehavior x0 from by unfold D_laws_FnMisbehavior; first | (exfalso; first | contradiction | (simp_all [Sh.eqB_self]; done) | (simp_all [Sh.eqB_self]; omega) | omega) | (simp_all [Sh.eqB_self]; done)))
          ·refine at_regq [{ hint := some (aB true) }, {}, {}, {}, { hint := some (aB true) }, {}, {}, {}, { hint := some (aB true) }, {}, {}, {}, { hint := some (aB false) }] { ts := [2], os := [] } [(AV.p (.c (.v (.bool ((misB 0 (drawMb x0).2.1 (drawMb x0).2.2.1 (drawMb x0).2.2.2).2)))) = AV.p (.c (.v (.bool true)))), True, (AV.p (.c (.v (.bool (((Sh.eqB s29) (misB 0 (drawMb x0).2.1 (drawMb x0).2.2.1 (drawMb x0).2.2.2).1 (drawMb x0).2.2.1))))) = AV.p (.c (.v (.bool true)))), (AV.p (.c (.v (.bool (!(misB 2 (drawMb x0).2.1 (drawMb x0).2.2.1 (drawMb x0).2.2.2).2)))) = AV.p (.c (.v (.bool true)))), (AV.p (.c (.v (.bool (decide ((((dfTo (drawMb x0).2.2.1.2.2 (misB 1 (drawMb x0).2.1 (drawMb x0).2.2.1 5).1.2.2 (List.length (drawMb x0).2.2.1.2.2)) : Nat) : Int) = 1))))) = AV.p (.c (.v (.bool false))))] gamOK hT h (by kernel_rfl) ⟨hint_bool (h8), trivial, hint_bool (h9), hint_bool (h10), hint_bool (decide_eq_false h11), trivial⟩ fun a w h => then_normal (wp_ret ?_)
           exact at_return (false, ()) [] h (by kernel_rfl) trivial (congrArg (fun z => (z, ())) (show (false) = D_laws_FnMisbehavior x0 from by unfold D_laws_FnMisbehavior; first | (exfalso; first | contradiction | (simp_all [Sh.eqB_self]; done) | (simp_all [Sh.eqB_self]; omega) | omega) | (simp_all [Sh.eqB_self]; done)))
         ·have hzh10 : (misB 2 (drawMb x0).2.1 (drawMb x0).2.2.1 (drawMb x0).2.2.2).2 = true := notF h10
          refine at_regq [{ hint := some (aB true) }, {}, {}, {}, { hint := some (aB true) }, {}, {}, {}, { hint := some (aB false) }] { ts := [2], os := [] } [(AV.p (.c (.v (.bool ((misB 0 (drawMb x0).2.1 (drawMb x0).2.2.1 (drawMb x0).2.2.2).2)))) = AV.p (.c (.v (.bool true)))), True, (AV.p (.c (.v (.bool (((Sh.eqB s29) (misB 0 (drawMb x0).2.1 (drawMb x0).2.2.1 (drawMb x0).2.2.2).1 (drawMb x0).2.2.1))))) = AV.p (.c (.v (.bool true)))), (AV.p (.c (.v (.bool (!(misB 2 (drawMb x0).2.1 (drawMb x0).2.2.1 (drawMb x0).2.2.2).2)))) = AV.p (.c (.v (.bool false))))] gamOK hT h (by kernel_rfl) ⟨hint_bool (h8), trivial, hint_bool (h9), hint_bool (h10), trivial⟩ fun a w h => then_normal (wp_ret ?_)
          exact at_return (false, ()) [] h (by kernel_rfl) trivial (congrArg (fun z => (z, ())) (show (false) = D_laws_FnMisbehavior x0 from by unfold D_laws_FnMisbehavior; first | (exfalso; first | contradiction | (simp_all [Sh.eqB_self]; done) | (simp_all [Sh.eqB_self]; omega) | omega) | (simp_all [Sh.eqB_self]; done)))
        ·refine at_regq [{ hint := some (aB true) }, {}, {}, {}, { hint := some (aB false) }] { ts := [2], os := [] } [(AV.p (.c (.v (.bool ((misB 0 (drawMb x0).2.1 (drawMb x0).2.2.1 (drawMb x0).2.2.2).2)))) = AV.p (.c (.v (.bool true)))), True, (AV.p (.c (.v (.bool (((Sh.eqB s29) (misB 0 (drawMb x0).2.1 (drawMb x0).2.2.1 (drawMb x0).2.2.2).1 (drawMb x0).2.2.1))))) = AV.p (.c (.v (.bool false))))] gamOK hT h (by kernel_rfl) ⟨hint_bool (h8), trivial, hint_bool (h9), trivial⟩ fun a w h => then_normal (wp_ret ?_)
         exact at_return (false, ()) [] h (by kernel_rfl) trivial (congrArg (fun z => (z, ())) (show (false) = D_laws_FnMisbehavior x0 from by unfold D_laws_FnMisbehavior; first | (exfalso; first | contradiction | (simp_all [Sh.eqB_self]; done) | (simp_all [Sh.eqB_self]; omega) | omega) | (simp_all [Sh.eqB_self]; done)))
       ·refine at_regq [{ hint := some (aB false) }] { ts := [2], os := [] } [(AV.p (.c (.v (.bool ((misB 0 (drawMb x0).2.1 (drawMb x0).2.2.1 (drawMb x0).2.2.2).2)))) = AV.p (.c (.v (.bool false))))] gamOK hT h (by kernel_rfl) ⟨hint_bool (h8), trivial⟩ fun a w h => then_normal (wp_ret ?_)
        exact at_return (false, ()) [] h (by kernel_rfl) trivial (congrArg (fun z => (z, ())) (show (false) = D_laws_FnMisbehavior x0 from by unfold D_laws_FnMisbehavior; first | (exfalso; first | contradiction | (simp_all [Sh.eqB_self]; done) | (simp_all [Sh.eqB_self]; omega) | omega) | (simp_all [Sh.eqB_self]; done)))
     ·refine at_regq [{}, {}, {}, {}, { hint := some (aB false) }] { ts := [2, 5, 11, 12, 14, 15, 17, 18, 87, 88, 89, 90, 91, 92, 93, 94], os := [2, 9, 10, 11, 15, 16, 17] } [(AV.p (.c (.v (.bool (decide (((i : Nat) : Int) < ((List.length (drawMb x0).2.2.1.2.2 : Nat) : Int)))))) = AV.p (.c (.v (.bool false))))] gamOK hT h (by kernel_rfl) ⟨hint_bool (decide_eq_false h5), trivial⟩ fun a w h => then_normal ?_
      refine at_test false h (by kernel_rfl) (fun hh => nomatch hh) (fun hh => ?_)
      refine wp_exit (then_exit ?_)
      replace h := at_out (σ' := ⟨[(2, aB false), (5, aP 2 0), (11, aP 11 0), (12, aB (misB 0 (drawMb x0).2.1 (drawMb x0).2.2.1 (drawMb x0).2.2.2).2), (14, aB (misB 2 (drawMb x0).2.1 (drawMb x0).2.2.1 (drawMb x0).2.2.2).2), (15, aP 17 0), (17, aI (((dfTo (drawMb x0).2.2.1.2.2 (misB 1 (drawMb x0).2.1 (drawMb x0).2.2.1 5).1.2.2 i) : Nat) : Int))], [(2, oX 29 [cI (drawMb x0).2.2.1.1, .ro (.int 3) (drawMb x0).2.2.1.2.1, .ro (.int 3) (drawMb x0).2.2.1.2.2]), (9, oR (.int 3) (misB 0 (drawMb x0).2.1 (drawMb x0).2.2.1 (drawMb x0).2.2.2).1.2.1), (10, oR (.int 3) (misB 0 (drawMb x0).2.1 (drawMb x0).2.2.1 (drawMb x0).2.2.2).1.2.2), (11, oX 29 [cI (misB 0 (drawMb x0).2.1 (drawMb x0).2.2.1 (drawMb x0).2.2.2).1.1, .sl 9, .sl 10]), (15, oR (.int 3) (misB 1 (drawMb x0).2.1 (drawMb x0).2.2.1 5).1.2.1), (16, oR (.int 3) (misB 1 (drawMb x0).2.1 (drawMb x0).2.2.1 5).1.2.2), (17, oX 29 [cI (misB 1 (drawMb x0).2.1 (drawMb x0).2.2.1 5).1.1, .sl 15, .sl 16])]⟩) { ts := [2, 5, 11, 12, 14, 15, 17], os := [2, 9, 10, 11, 15, 16, 17] } h (by kernel_rfl)
      replace h := at_eq (σ' := ⟨[(2, aB false), (5, aP 2 0), (11, aP 11 0), (12, aB (misB 0 (drawMb x0).2.1 (drawMb x0).2.2.1 (drawMb x0).2.2.2).2), (14, aB (misB 2 (drawMb x0).2.1 (drawMb x0).2.2.1 (drawMb x0).2.2.2).2), (15, aP 17 0), (17, aI (((dfTo (drawMb x0).2.2.1.2.2 (misB 1 (drawMb x0).2.1 (drawMb x0).2.2.1 5).1.2.2 (List.length (drawMb x0).2.2.1.2.2)) : Nat) : Int))], [(2, oX 29 [cI (drawMb x0).2.2.1.1, .ro (.int 3) (drawMb x0).2.2.1.2.1, .ro (.int 3) (drawMb x0).2.2.1.2.2]), (9, oR (.int 3) (misB 0 (drawMb x0).2.1 (drawMb x0).2.2.1 (drawMb x0).2.2.2).1.2.1), (10, oR (.int 3) (misB 0 (drawMb x0).2.1 (drawMb x0).2.2.1 (drawMb x0).2.2.2).1.2.2), (11, oX 29 [cI (misB 0 (drawMb x0).2.1 (drawMb x0).2.2.1 (drawMb x0).2.2.2).1.1, .sl 9, .sl 10]), (15, oR (.int 3) (misB 1 (drawMb x0).2.1 (drawMb x0).2.2.1 5).1.2.1), (16, oR (.int 3) (misB 1 (drawMb x0).2.1 (drawMb x0).2.2.1 5).1.2.2), (17, oX 29 [cI (misB 1 (drawMb x0).2.1 (drawMb x0).2.2.1 5).1.1, .sl 15, .sl 16])]⟩) h (st_congr1 (fun (d0 : Int) => (⟨[(2, aB false), (5, aP 2 0), (11, aP 11 0), (12, aB (misB 0 (drawMb x0).2.1 (drawMb x0).2.2.1 (drawMb x0).2.2.2).2), (14, aB (misB 2 (drawMb x0).2.1 (drawMb x0).2.2.1 (drawMb x0).2.2.2).2), (15, aP 17 0), (17, aI d0)], [(2, oX 29 [cI (drawMb x0).2.2.1.1, .ro (.int 3) (drawMb x0).2.2.1.2.1, .ro (.int 3) (drawMb x0).2.2.1.2.2]), (9, oR (.int 3) (misB 0 (drawMb x0).2.1 (drawMb x0).2.2.1 (drawMb x0).2.2.2).1.2.1), (10, oR (.int 3) (misB 0 (drawMb x0).2.1 (drawMb x0).2.2.1 (drawMb x0).2.2.2).1.2.2), (11, oX 29 [cI (misB 0 (drawMb x0).2.1 (drawMb x0).2.2.1 (drawMb x0).2.2.2).1.1, .sl 9, .sl 10]), (15, oR (.int 3) (misB 1 (drawMb x0).2.1 (drawMb x0).2.2.1 5).1.2.1), (16, oR (.int 3) (misB 1 (drawMb x0).2.1 (drawMb x0).2.2.1 5).1.2.2), (17, oX 29 [cI (misB 1 (drawMb x0).2.1 (drawMb x0).2.2.1 5).1.1, .sl 15, .sl 16])]⟩ : St)) (show ((((dfTo (drawMb x0).2.2.1.2.2 (misB 1 (drawMb x0).2.1 (drawMb x0).2.2.1 5).1.2.2 i) : Nat) : Int) : Int) = (((dfTo (drawMb x0).2.2.1.2.2 (misB 1 (drawMb x0).2.1 (drawMb x0).2.2.1 5).1.2.2 (List.length (drawMb x0).2.2.1.2.2)) : Nat) : Int) from by first | with_reducible rfl | (rw [show List.length (drawMb x0).2.2.1.2.2 = i by omega]) | rfl))
      refine then_exit (in_hit (then_normal (wp_seq ?_)))
      rcases Bool.eq_false_or_eq_true ((misB 0 (drawMb x0).2.1 (drawMb x0).2.2.1 (drawMb x0).2.2.2).2) with h13 | h13
      ·rcases Bool.eq_false_or_eq_true (((Sh.eqB s29) (misB 0 (drawMb x0).2.1 (drawMb x0).2.2.1 (drawMb x0).2.2.2).1 (drawMb x0).2.2.1)) with h14 | h14
       ·rcases Bool.eq_false_or_eq_true (!(misB 2 (drawMb x0).2.1 (drawMb x0).2.2.1 (drawMb x0).2.2.2).2) with h15 | h15
        ·have hzh15 : (misB 2 (drawMb x0).2.1 (drawMb x0).2.2.1 (drawMb x0).2.2.2).2 = false := notT h15
         by_cases h16 : (((dfTo (drawMb x0).2.2.1.2.2 (misB 1 (drawMb x0).2.1 (drawMb x0).2.2.1 5).1.2.2 (List.length (drawMb x0).2.2.1.2.2)) : Nat) : Int) = 1
         ·rcases Bool.eq_false_or_eq_true (((Sh.eqB s27) (misB 1 (drawMb x0).2.1 (drawMb x0).2.2.1 5).1.2.1 (drawMb x0).2.2.1.2.1)) with h17 | h17
          ·refine at_regq [{ hint := some (aB true) }, {}, {}, {}, { hint := some (aB true) }, {}, {}, {}, { hint := some (aB true) }, {}, {}, {}, { hint := some (aB true) }, {}, {}, {}, {}, {}, {}, { hint := some (aB true) }, {}, {}, { ids := [18] }, { ids := [19] }, { ids := [20] }] { ts := [2], os := [] } [(AV.p (.c (.v (.bool ((misB 0 (drawMb x0).2.1 (drawMb x0).2.2.1 (drawMb x0).2.2.2).2)))) = AV.p (.c (.v (.bool true)))), True, (AV.p (.c (.v (.bool (((Sh.eqB s29) (misB 0 (drawMb x0).2.1 (drawMb x0).2.2.1 (drawMb x0).2.2.2).1 (drawMb x0).2.2.1))))) = AV.p (.c (.v (.bool true)))), (AV.p (.c (.v (.bool (!(misB 2 (drawMb x0).2.1 (drawMb x0).2.2.1 (drawMb x0).2.2.2).2)))) = AV.p (.c (.v (.bool true)))), (AV.p (.c (.v (.bool (decide ((((dfTo (drawMb x0).2.2.1.2.2 (misB 1 (drawMb x0).2.1 (drawMb x0).2.2.1 5).1.2.2 (List.length (drawMb x0).2.2.1.2.2)) : Nat) : Int) = 1))))) = AV.p (.c (.v (.bool true)))), True, (AV.p (.c (.v (.bool (((Sh.eqB s27) (misB 1 (drawMb x0).2.1 (drawMb x0).2.2.1 5).1.2.1 (drawMb x0).2.2.1.2.1))))) = AV.p (.c (.v (.bool true)))), Q_impl_HonestNodes ([0, 1, 0, 7]), True] gamOK hT h (by kernel_rfl) ⟨hint_bool (h13), trivial, hint_bool (h14), hint_bool (h15), hint_bool (decide_eq_true h16), trivial, hint_bool (h17), (by exact ⟨show 4 ≤ 1073741824 by decide, fun _ _ => trivial⟩), trivial, trivial⟩ fun a w h => then_normal (wp_ret ?_)
           exact at_return (((Sh.eqB s27) (honL ([0, 1, 0, 7])) ([0, 2])), ()) [] h (by kernel_rfl) trivial (congrArg (fun z => (z, ())) (show (((Sh.eqB s27) (honL ([0, 1, 0, 7])) ([0, 2]))) = D_laws_FnMisbehavior x0 from by unfold D_laws_FnMisbehavior; first | (exfalso; first | contradiction | (simp_all [Sh.eqB_self]; done) | (simp_all [Sh.eqB_self]; omega) | omega) | (simp_all [Sh.eqB_self]; done)))
          ·refine at_regq [{ hint := some (aB true) }, {}, {}, {}, { hint := some (aB true) }, {}, {}, {}, { hint := some (aB true) }, {}, {}, {}, { hint := some (aB true) }, {}, {}, {}, {}, {}, {}, { hint := some (aB false) }] { ts := [2], os := [] } [(AV.p (.c (.v (.bool ((misB 0 (drawMb x0).2.1 (drawMb x0).2.2.1 (drawMb x0).2.2.2).2)))) = AV.p (.c (.v (.bool true)))), True, (AV.p (.c (.v (.bool (((Sh.eqB s29) (misB 0 (drawMb x0).2.1 (drawMb x0).2.2.1 (drawMb x0).2.2.2).1 (drawMb x0).2.2.1))))) = AV.p (.c (.v (.bool true)))), (AV.p (.c (.v (.bool (!(misB 2 (drawMb x0).2.1 (drawMb x0).2.2.1 (drawMb x0).2.2.2).2)))) = AV.p (.c (.v (.bool true)))), (AV.p (.c (.v (.bool (decide ((((dfTo (drawMb x0).2.2.1.2.2 (misB 1 (drawMb x0).2.1 (drawMb x0).2.2.1 5).1.2.2 (List.length (drawMb x0).2.2.1.2.2)) : Nat) : Int) = 1))))) = AV.p (.c (.v (.bool true)))), True, (AV.p (.c (.v (.bool (((Sh.eqB s27) (misB 1 (drawMb x0).2.1 (drawMb x0).2.2.1 5).1.2.1 (drawMb x0).2.2.1.2.1))))) = AV.p (.c (.v (.bool false))))] gamOK hT h (by kernel_rfl) ⟨hint_bool (h13), trivial, hint_bool (h14), hint_bool (h15), hint_bool (decide_eq_true h16), trivial, hint_bool (h17), trivial⟩ fun a w h => then_normal (wp_ret ?_)
           exact at_return (false, ()) [] h (by kernel_rfl) trivial (congrArg (fun z => (z, ())) (show (false) = D_laws_FnMisbehavior x0 from by unfold D_laws_FnMisbehavior; first | (exfalso; first | contradiction | (simp_all [Sh.eqB_self]; done) | (simp_all [Sh.eqB_self]; omega) | omega) | (simp_all [Sh.eqB_self]; done)))
         ·refine at_regq [{ hint := some (aB true) }, {}, {}, {}, { hint := some (aB true) }, {}, {}, {}, { hint := some (aB true) }, {}, {}, {}, { hint := some (aB false) }] { ts := [2], os := [] } [(AV.p (.c (.v (.bool ((misB 0 (drawMb x0).2.1 (drawMb x0).2.2.1 (drawMb x0).2.2.2).2)))) = AV.p (.c (.v (.bool true)))), True, (AV.p (.c (.v (.bool (((Sh.eqB s29) (misB 0 (drawMb x0).2.1 (drawMb x0).2.2.1 (drawMb x0).2.2.2).1 (drawMb x0).2.2.1))))) = AV.p (.c (.v (.bool true)))), (AV.p (.c (.v (.bool (!(misB 2 (drawMb x0).2.1 (drawMb x0).2.2.1 (drawMb x0).2.2.2).2)))) = AV.p (.c (.v (.bool true)))), (AV.p (.c (.v (.bool (decide ((((dfTo (drawMb x0).2.2.1.2.2 (misB 1 (drawMb x0).2.1 (drawMb x0).2.2.1 5).1.2.2 (List.length (drawMb x0).2.2.1.2.2)) : Nat) : Int) = 1))))) = AV.p (.c (.v (.bool false))))] gamOK hT h (by kernel_rfl) ⟨hint_bool (h13), trivial, hint_bool (h14), hint_bool (h15), hint_bool (decide_eq_false h16), trivial⟩ fun a w h => then_normal (wp_ret ?_)
          exact at_return (false, ()) [] h (by kernel_rfl) trivial (congrArg (fun z => (z, ())) (show (false) = D_laws_FnMisbehavior x0 from by unfold D_laws_FnMisbehavior; first | (exfalso; first | contradiction | (simp_all [Sh.eqB_self]; done) | (simp_all [Sh.eqB_self]; omega) | omega) | (simp_all [Sh.eqB_self]; done)))
        ·have hzh15 : (misB 2 (drawMb x0).2.1 (drawMb x0).2.2.1 (drawMb x0).2.2.2).2 = true := notF h15
         refine at_regq [{ hint := some (aB true) }, {}, {}, {}, { hint := some (aB true) }, {}, {}, {}, { hint := some (aB false) }] { ts := [2], os := [] } [(AV.p (.c (.v (.bool ((misB 0 (drawMb x0).2.1 (drawMb x0).2.2.1 (drawMb x0).2.2.2).2)))) = AV.p (.c (.v (.bool true)))), True, (AV.p (.c (.v (.bool (((Sh.eqB s29) (misB 0 (drawMb x0).2.1 (drawMb x0).2.2.1 (drawMb x0).2.2.2).1 (drawMb x0).2.2.1))))) = AV.p (.c (.v (.bool true)))), (AV.p (.c (.v (.bool (!(misB 2 (drawMb x0).2.1 (drawMb x0).2.2.1 (drawMb x0).2.2.2).2)))) = AV.p (.c (.v (.bool false))))] gamOK hT h (by kernel_rfl) ⟨hint_bool (h13), trivial, hint_bool (h14), hint_bool (h15), trivial⟩ fun a w h => then_normal (wp_ret ?_)
         exact at_return (false, ()) [] h (by kernel_rfl) trivial (congrArg (fun z => (z, ())) (show (false) = D_laws_FnMisbehavior x0 from by unfold D_laws_FnMisbehavior; first | (exfalso; first | contradiction | (simp_all [Sh.eqB_self]; done) | (simp_all [Sh.eqB_self]; omega) | omega) | (simp_all [Sh.eqB_self]; done)))
       ·refine at_regq [{ hint := some (aB true) }, {}, {}, {}, { hint := some (aB false) }] { ts := [2], os := [] } [(AV.p (.c (.v (.bool ((misB 0 (drawMb x0).2.1 (drawMb x0).2.2.1 (drawMb x0).2.2.2).2)))) = AV.p (.c (.v (.bool true)))), True, (AV.p (.c (.v (.bool (((Sh.eqB s29) (misB 0 (drawMb x0).2.1 (drawMb x0).2.2.1 (drawMb x0).2.2.2).1 (drawMb x0).2.2.1))))) = AV.p (.c (.v (.bool false))))] gamOK hT h (by kernel_rfl) ⟨hint_bool (h13), trivial, hint_bool (h14), trivial⟩ fun a w h => then_normal (wp_ret ?_)
        exact at_return (false, ()) [] h (by kernel_rfl) trivial (congrArg (fun z => (z, ())) (show (false) = D_laws_FnMisbehavior x0 from by unfold D_laws_FnMisbehavior; first | (exfalso; first | contradiction | (simp_all [Sh.eqB_self]; done) | (simp_all [Sh.eqB_self]; omega) | omega) | (simp_all [Sh.eqB_self]; done)))
      ·refine at_regq [{ hint := some (aB false) }] { ts := [2], os := [] } [(AV.p (.c (.v (.bool ((misB 0 (drawMb x0).2.1 (drawMb x0).2.2.1 (drawMb x0).2.2.2).2)))) = AV.p (.c (.v (.bool false))))] gamOK hT h (by kernel_rfl) ⟨hint_bool (h13), trivial⟩ fun a w h => then_normal (wp_ret ?_)
       exact at_return (false, ()) [] h (by kernel_rfl) trivial (congrArg (fun z => (z, ())) (show (false) = D_laws_FnMisbehavior x0 from by unfold D_laws_FnMisbehavior; first | (exfalso; first | contradiction | (simp_all [Sh.eqB_self]; done) | (simp_all [Sh.eqB_self]; omega) | omega) | (simp_all [Sh.eqB_self]; done)))

theorem opn5 : OpensS Tryd.prog 5 (.u8 5) := opensS_u8 Tryd.underlying5
theorem co5 : Tryd.prog.cellsOf 5 = 1 := by kernel_rfl
theorem opn22 : OpensS Tryd.prog 22 s22 := opensS_slice (a := (.u8 5)) Tryd.underlying22 co5 opn5
namespace fnMisbehavior
open Go.ChangeShapes Go.WideShapes Go.ChangeAt Go.RowKit

/-- A table of strings as a row lists it. -/
def strData {H : Type} (zs : List (List UInt8)) : DataW H := .agg (zs.map fun z => .lit (.string z))
/-- The value that a string's bytes are. -/
def strV (z : List UInt8) : Value := .string ⟨z.toArray⟩
theorem strV_of (s : ByteArray) : strV s.data.toList = .string s := by cases s; simp [strV]
theorem cells_of_strs {H : Type} {enc : TypeId × Value → H} {P : Program} {w : World} {base : Nat} {sp : Nat → Bool} {held : Bool} {fuel : Nat} {t e : TypeId} {n : Nat} {cs : List Value} {zs : List (List UInt8)} {p : List MemPlace}
    (ht : P.underlying t = some (.array n e)) (he : P.underlying e = some .string) (hce : P.cellsOf e = 1) (hct : P.cellsOf t = n)
    (h : DataW.trod enc P w base sp held fuel t cs = some (strData zs, p)) : cs = zs.map strV := by
  cases fuel with
  | zero => simp [DataW.trod] at h
  | succ fuel =>
    simp only [DataW.trod, ht, hce, hct, Nat.mul_one] at h
    split at h
    · rename_i hl
      obtain ⟨xs, hm, hx⟩ := Option.map_eq_some_iff.1 h
      have hxs : xs.map (·.1) = zs.map fun z => (DataW.lit (.string z) : DataW H) := by
        have := congrArg Prod.fst hx
        simpa [strData] using this
      have hxl : xs.length = n := by simpa using Lib.mapM_length hm
      have hzl : zs.length = n := by
        have := congrArg List.length hxs
        simp at this
        omega
      apply List.ext_getElem?
      intro i
      by_cases hi : i < n
      · obtain ⟨b, hb, hf⟩ := Lib.mapM_at hm i i (by simp [hi])
        obtain ⟨s, hc, rfl, _⟩ := DataW.trod_string he hf
        have h1 : cs[i]? = some (.string s) := by
          have := congrArg (·[0]?) hc
          simpa [List.getElem?_take, List.getElem?_drop] using this
        have h2 : (xs.map (·.1))[i]? = some (DataW.lit (.string s.data.toList) : DataW H) := by simp [hb]
        rw [hxs] at h2
        simp only [List.getElem?_map, Option.map_eq_some_iff, DataW.lit.injEq, Lit.string.injEq] at h2
        obtain ⟨z', hz', rfl⟩ := h2
        simp [h1, hz', strV_of]
      · rw [List.getElem?_eq_none (by omega), List.getElem?_eq_none (by simp; omega)]
    · cases h
/-- The list's head: the variable holds just these strings. -/
theorem strs_of_head {P : Program} {W : World} {name : String} {zs : List (List UInt8)} {rest : List (String × DataW Unit)} {g : Nat} {t e : TypeId} {n : Nat}
    (hg : P.globalNamed name = some g) (hty : (P.globals[g]?).map (·.type) = some t) (ht : P.underlying t = some (.array n e)) (he : P.underlying e = some .string) (hce : P.cellsOf e = 1) (hct : P.cellsOf t = n)
    (h : laidMet P ((name, strData zs) :: rest) W) : W.var? P name = some (zs.map strV).toArray := by
  obtain ⟨ps, ⟨g', t', cs, fuel, p, q, hg', ht', hvar, hd, _, _⟩, _⟩ := h
  obtain rfl := Option.some.inj (hg.symm.trans hg')
  obtain rfl := Option.some.inj (hty.symm.trans ht')
  have := cells_of_strs ht he hce hct hd
  rw [hvar, ← this]

theorem gTabType : (Tryd.prog.globals[0]?).map (·.type) = some 58 := by kernel_rfl
theorem cellsA : Tryd.prog.cellsOf 58 = 5 := by kernel_rfl
theorem cellsE : Tryd.prog.cellsOf 9 = 1 := by kernel_rfl
theorem table {W : World} (h : laidMetH Tryd.prog Rows.fnMisbehaviorRow.laid W) : tabIs W := strs_of_head (rest := []) gTab gTabType Tryd.underlying58 Tryd.underlying9 cellsE cellsA h
theorem trod_tab {H : Type} (enc : TypeId × Value → H) (w : World) (sp : Nat → Bool) (n : Nat) : DataW.trod enc Tryd.prog w 0 sp true (n + 2) 58 (names.map strV) = some (strData names, []) := by kernel_rfl
theorem trod_tab1 {H : Type} (enc : TypeId × Value → H) (w : World) (sp : Nat → Bool) : DataW.trod enc Tryd.prog w 0 sp true 1 58 (names.map strV) = none := by kernel_rfl
theorem trod_tab0 {H : Type} (enc : TypeId × Value → H) (w : World) (sp : Nat → Bool) : DataW.trod enc Tryd.prog w 0 sp true 0 58 (names.map strV) = none := by kernel_rfl
theorem own : ownKnob Tryd.prog.godebug = none := by kernel_rfl
set_option maxRecDepth 100000 in
theorem contract (H : Type) (enc : TypeId × Value → H) (W : World) (base : Nat) (args : Array Value) (ds gs : List (DataW H)) (before : List MemPlace)
    (hval : ∀ (j : Nat) t v, Tryd.f3.params[j]? = some t → args[j]? = some v → Value.okWide Tryd.prog W .any base t v)
    (hW : DataW.Whole enc Tryd.prog Tryd.f3.params.toList Rows.fnMisbehaviorSpec.vars false W args.toList ds gs before) (hL : laidMetH Tryd.prog Rows.fnMisbehaviorRow.laid W) :
    Calls Tryd.prog 3 args W fun e W' => ∃ v, e = .returned v ∧ Rows.fnMisbehaviorSpec.post enc Tryd.prog Tryd.f3 false true false false W args v W' := by
  have hT : tabIs W := table hL
  have hW' := hW
  obtain ⟨p, q, hA0, hV, rfl, hfz, hnd⟩ := hW
  have hA : DataW.TrodAll enc Tryd.prog W 0 (fun _ => true) true Tryd.f3.params.toList args.toList ds p := hA0
  rw [Tryd.params3] at hA hval
  obtain ⟨v0, vs0, d0, ds0, p0, q0, hargs, rfl, rfl, h0, r0⟩ := trodAll_cons hA
  obtain ⟨rfl, rfl, rfl⟩ := trodAll_nil r0
  obtain rfl : args = #[v0] := by cases args; simp_all
  obtain ⟨g, t, cs, fuel, d, pv, rfl, hg1, hg2, hv, hd, rfl⟩ := trodVars_one hV
  obtain rfl := Option.some.inj (gTab.symm.trans hg1)
  obtain rfl := Option.some.inj (gTabType.symm.trans hg2)
  obtain rfl := Option.some.inj (hT.symm.trans hv)
  have hdp : d = strData names ∧ pv = [] := by
    rcases fuel with _ | _ | n
    · exact absurd ((trod_tab0 enc W _).symm.trans hd) (by simp)
    · exact absurd ((trod_tab1 enc W _).symm.trans hd) (by simp)
    · have := Option.some.inj ((trod_tab enc W _ n).symm.trans hd)
      exact ⟨(congrArg Prod.fst this).symm, (congrArg Prod.snd this).symm⟩
  obtain ⟨rfl, rfl⟩ := hdp
  have k0 := h0
  have lt0 : ∀ x ∈ p0, x.block < W.heap.size := by obtain ⟨m, hm⟩ := k0; exact DataW.trod_lt m _ _ _ hm
  obtain ⟨ad0, len0, cap0, rfl⟩ := okWide_slice Tryd.underlying22 (hval 0 22 v0 rfl rfl)
  obtain ⟨x0, hx0, i0⟩ : ∃ x : (s22).D, (s22).rd W (fun b => b < W.heap.size) [.slice ad0 len0 cap0] x ∧ (s22).i64 x := by obtain ⟨fuel, hf⟩ := h0; exact opn22 hf
  clear hA0
  refine (S_laws_FnMisbehavior_ok.2.2 W hT (fun b => b < W.heap.size) [.slice ad0 len0 cap0] (x0, ()) (fun _ h => h) ⟨argRd_sl hx0, trivial⟩ i0).mono fun e W' hr => ?_
  obtain ⟨he, bel⟩ := ret_bool hr
  subst he
  have hT' : tabIs W' := tabIs_keep hT (SameBut.of_below bel)
  exact ⟨_, rfl, _, _, _, [], _, _, hW', trodAll_mk1 (shut_bool Tryd.underlying4 _), trodAll_cons_mk (Below.trod fxLaid (by kernel_rfl) (of_decide_eq_true (by kernel_rfl)) k0 bel lt0) trodAll_mk0, trodVars_mk1 (fuel := 2) gTab gTabType hT' (trod_tab enc W' _ 0), bel.frame _, fun h => by cases h⟩
noncomputable def laidWorld (os : Os) : World :=
  { World.holding Tryd.prog os ⟨#[], #[], []⟩ with heap := (World.holding Tryd.prog os ⟨#[], #[], []⟩).heap.modify 0 fun
      | .cells _ t frozen => .cells (names.map strV).toArray t frozen
      | o => o }
theorem laid_met (os : Os) : laidMet Tryd.prog Rows.fnMisbehaviorRow.laid ((laidWorld os).forCall (fun _ _ => 0) ⟨#[], #[.slice none 0 0], []⟩).memory :=
  laidMet_of_run' 8 (by kernel_rfl) (by kernel_rfl)
theorem reads (os : Os) {H : Type} (enc : TypeId × Value → H) : ∃ places, DataW.whole enc Tryd.prog ((laidWorld os).forCall (fun _ _ => 0) ⟨#[], #[.slice none 0 0], []⟩).memory Tryd.f3.params.toList Rows.fnMisbehaviorSpec.vars false #[Value.slice none 0 0].toList 8 = some ([.nil], [strData names], places) :=
  ⟨MemPlace.row ⟨0, 0, Option.none⟩ 5, by kernel_rfl⟩
set_option maxRecDepth 100000 in
theorem lifted (os : Os) (started : os.Started) (H : Type) (enc : TypeId × Value → H) (F : Stop.Interp) :
    ReturnsInHanded {} Tryd.checked os 3 .any ((OpenSpec.ofChange Rows.fnMisbehaviorSpec).preRow enc Tryd.prog Tryd.f3 Rows.fnMisbehaviorRow.domain false Rows.fnMisbehaviorRow.laid) (((OpenSpec.ofChange Rows.fnMisbehaviorSpec).at F).post enc Tryd.prog Tryd.f3 false true false false) := by
  obtain ⟨places, hx⟩ := reads os enc
  refine returnsInHanded_of_row (C := Tryd.checked) (s := OpenSpec.ofChange Rows.fnMisbehaviorSpec) own started (by kernel_rfl) Tryd.func3
    (witness_row_at (enc := enc) (C := Tryd.checked) false (laidWorld os) #[.slice none 0 0] rfl (by kernel_rfl) (by kernel_rfl) (by kernel_rfl)
      (OpenSpec.preRow_of_cond 8 hx (by kernel_rfl) (fun k hk => by cases hk) (by kernel_rfl) (laid_met os))) ?_
  intro W base args ds gs before hval hW _ _ _ hL _ _
  exact contract H enc W base args ds gs before hval hW hL
theorem said : Rows.FnMisbehaviorSaid :=
  OpenClaim.holds_of_cond 3 Tryd.f3 rfl rfl rfl rfl rfl rfl rfl ⟨rfl, rfl, rfl, rfl, rfl⟩ rfl rfl rfl rfl rfl (by kernel_rfl) Tryd.func3 (by kernel_rfl)
    (of_decide_eq_true (by kernel_rfl)) (by unfold Func.isWrapper; first | (rw [if_pos (by decide +kernel)]; kernel_rfl) | (rw [if_neg (by decide +kernel)]; exact ⟨rfl, rfl⟩))
    (fun os started H enc _ F => by rw [OpenClaim.pre_eq_preRow]; exact lifted os started H enc F)
theorem plain (f : FuncId) (fn : Func) (hf : Tryd.pinned.checked.prog.funcNamed "loop.example/g00513/laws.FnMisbehavior" = some f) (hfn : Tryd.pinned.checked.prog.funcs[f]? = some fn) :
    false = Tryd.pinned.checked.prog.looks [] ∧ ∀ (j : Nat) t, fn.params[j]? = some t → Tryd.pinned.checked.prog.wantsStandIn t = false := by
  obtain rfl : f = 3 := Option.some.inj ((show Tryd.prog.funcNamed "loop.example/g00513/laws.FnMisbehavior" = some 3 by kernel_rfl).symm.trans hf) |>.symm
  obtain rfl : fn = Tryd.f3 := (Option.some.inj (Tryd.func3.symm.trans hfn)).symm
  refine ⟨by kernel_rfl, fun j t ht => ?_⟩
  rw [Tryd.params3] at ht
  obtain rfl : t = 22 := by simpa using Array.mem_of_getElem? ht
  exact (show Tryd.prog.wantsStandIn 22 = false by kernel_rfl)
/-- the card -/
theorem card : Rows.FnMisbehaviorCardSaid :=
  Claim7.holds_tied_plain_at .later [] _ _ _ _ said (fun _ h => by cases h) (by kernel_rfl) (fun _ h => by cases h) fnMisbehavior_row_tie rfl ⟨rfl, rfl⟩ (by kernel_rfl) rfl plain (by kernel_rfl)
end fnMisbehavior

end Go.Proofs.YtpffjagdefkfkaaDoor

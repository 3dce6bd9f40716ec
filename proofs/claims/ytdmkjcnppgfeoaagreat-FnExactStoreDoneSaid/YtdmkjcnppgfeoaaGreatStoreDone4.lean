/- The law FnExactStoreDone returns true for every input and leaves its arguments as they were. No condition. -/
import Derived.Test.YtdmkjcnppgfeoaaGreatStoreDone3
import Derived.Test.YtdmkjcnppgfeoaaGreatLA
import Derived.Test.YtdmkjcnppgfeoaaGreatProg
import Derived.Test.YtdmkjcnppgfeoaaGreatRows
import Derived.Test.YtdmkjcnppgfeoaaGreatFX
namespace Go.Proofs.YtdmkjcnppgfeoaaGreat
open Go.RowKit
set_option linter.unusedVariables false
set_option linter.unusedSimpArgs false
abbrev Q_spec_StoreDone := (fun (x0 : T31) => Sh.fit s31 x0)
def S_spec_StoreDone : Sum := { fid := 7, dom := [s31], cod := [s31], dp := false, fz := false, pre := fun x => Q_spec_StoreDone x.1, g := fun x => ((storeS x.1), ()) }
def S_spec_StoreDone_tab : List (Nat × Sum) := [(35, S_spec_l30Copy), (36, S_spec_IsValidSink), (37, S_spec_Max)]
theorem S_spec_StoreDone_ok : FnOK Tryz.prog 7 S_spec_StoreDone := by
 refine at_enter 34 (fun x => ⟨[(0, aG [cI x.1.1, cI x.1.2.1, .ro (.int 3) x.1.2.2.1, .ro s129 x.1.2.2.2.1, .ro s52 x.1.2.2.2.2.1, cI x.1.2.2.2.2.2])], []⟩) Tryz.func7 rfl (by kernel_rfl) (fun x => rfl) ?_
 rintro w0 Z0 ⟨x0, u⟩ a w
 revert x0
 intro (x0 : T31) hpre hlens h
 replace hpre : Q_spec_StoreDone x0 := hpre
 have hT : TabOK Tryz.prog S_spec_StoreDone_tab := (.cons S_spec_l30Copy_ok (.cons S_spec_IsValidSink_ok (.cons S_spec_Max_ok .nil)))
 have hf0 : Sh.fit s31 x0 := hpre
 have hn0_1 : List.length x0.2.2.1 ≤ 1073741824 := hf0.2.2.1.1
 have hn0_2 : List.length x0.2.2.2.1 ≤ 1073741824 := hf0.2.2.2.1.1
 have hn0_3 : List.length x0.2.2.2.2.1 ≤ 1073741824 := hf0.2.2.2.2.1.1
 refine wp_seq ?_
 refine at_regq [{ ids := [1] }, { ids := [2] }] { ts := [1, 2], os := [1, 2] } [] gamOK hT h (by kernel_rfl) trivial fun a w h => then_normal (wp_seq ?_)
 refine at_regq [{}, { ids := [3, 4, 5] }, { ids := [6] }] { ts := [1, 2, 3], os := [1, 2, 3, 4, 5, 6] } [Q_spec_l30Copy x0] gamOK hT h (by kernel_rfl) ⟨(by exact hf0), trivial⟩ fun a w h => then_normal (wp_seq (wp_seq ?_))
 refine at_regq [] { ts := [1, 2, 3, 9], os := [1, 2, 3, 4, 5, 6] } [Q_spec_IsValidSink x0] gamOK hT h (by kernel_rfl) ⟨(by exact hf0), trivial⟩ fun a w h => then_normal ?_
 refine at_test (!(validS x0)) h (by kernel_rfl) (fun h1 => ?_) (fun h1 => ?_)
 ·replace h1 : (validS x0) = false := notT h1
  refine wp_seq ?_
  refine at_regq [] { ts := [1, 2, 3], os := [1, 2, 3, 4, 5, 6] } [] gamOK hT h (by kernel_rfl) trivial fun a w h => then_normal (wp_ret (then_ret ?_))
  exact at_return (x0, ()) [] h (by kernel_rfl) trivial (congrArg (fun z => (z, ())) (show (x0) = storeS x0 from by first | exact storeS_n (by assumption) | (rw [← storeS_y (by assumption)]; unfold storeU D_spec_Max; refine Prod.ext rfl (Prod.ext rfl (Prod.ext rfl (Prod.ext rfl (Prod.ext rfl ?_)))); (dsimp only) <;> (repeat' split) <;> omega)))
 ·replace h1 : (validS x0) = true := notF h1
  have hvh1 := validS_t h1
  refine wp_skip (then_normal (wp_seq ?_))
  refine at_regq [] { ts := [1, 2, 3, 4], os := [1, 2, 3, 4, 5, 6] } [] gamOK hT h (by kernel_rfl) trivial fun a w h => then_normal (wp_seq (wp_block ?_))
  replace h := at_out (σ' := ⟨[(1, aP 1 0), (2, aP 2 0), (3, aP 6 0), (4, aI 0)], [(1, oX 31 [cI x0.1, cI x0.2.1, .ro (.int 3) x0.2.2.1, .ro s129 x0.2.2.2.1, .ro s52 x0.2.2.2.2.1, cI x0.2.2.2.2.2]), (2, oX 31 [cI 0, cI 0, cN, cN, cN, cI 0]), (3, oF (.int 3) x0.2.2.1), (4, oF s129 x0.2.2.2.1), (5, oF s52 x0.2.2.2.2.1), (6, oX 31 [cI x0.1, cI x0.2.1, .sl 3, .sl 4, .sl 5, cI x0.2.2.2.2.2])]⟩) { ts := [1, 2, 3, 4], os := [1, 2, 3, 4, 5, 6] } h (by kernel_rfl)
  refine at_loop (fun i : Nat => (⟨[(1, aP 1 0), (2, aP 2 0), (3, aP 6 0), (4, aI ((i : Nat) : Int))], [(1, oX 31 [cI x0.1, cI x0.2.1, .ro (.int 3) x0.2.2.1, .ro s129 x0.2.2.2.1, .ro s52 x0.2.2.2.2.1, cI x0.2.2.2.2.2]), (2, oX 31 [cI 0, cI 0, cN, cN, cN, cI 0]), (3, oF (.int 3) x0.2.2.1), (4, oF s129 x0.2.2.2.1), (5, oF s52 x0.2.2.2.2.1), (6, oX 31 [cI x0.1, cI x0.2.1, .sl 3, .sl 4, .sl 5, cI x0.2.2.2.2.2])]⟩ : St)) (fun i => (i ≤ (List.length x0.2.2.2.2.1) ∧ allN (idAt x0.2.2.2.2.1) i = true)) (fun i => (List.length x0.2.2.2.2.1) - i) (0) h (st_congr1 (fun (d0 : Int) => (⟨[(1, aP 1 0), (2, aP 2 0), (3, aP 6 0), (4, aI d0)], [(1, oX 31 [cI x0.1, cI x0.2.1, .ro (.int 3) x0.2.2.1, .ro s129 x0.2.2.2.1, .ro s52 x0.2.2.2.2.1, cI x0.2.2.2.2.2]), (2, oX 31 [cI 0, cI 0, cN, cN, cN, cI 0]), (3, oF (.int 3) x0.2.2.1), (4, oF s129 x0.2.2.2.1), (5, oF s52 x0.2.2.2.2.1), (6, oX 31 [cI x0.1, cI x0.2.1, .sl 3, .sl 4, .sl 5, cI x0.2.2.2.2.2])]⟩ : St)) (show (0 : Int) = (((0) : Nat) : Int) from by first | with_reducible rfl | (rfl) | rfl)) (by exact ⟨Nat.zero_le _, rfl⟩) ?_
  intro i a w hok0 h
  refine wp_seq (wp_seq ?_)
  by_cases h2 : ((i : Nat) : Int) < ((List.length x0.2.2.2.2.1 : Nat) : Int)
  ·refine at_regq [{}, {}, {}, {}, { hint := some (aB true) }] { ts := [1, 2, 3, 4, 17, 18, 19, 20, 21, 22, 23, 24, 25], os := [1, 2, 3, 4, 5, 6] } [(AV.p (.c (.v (.bool (decide (((i : Nat) : Int) < ((List.length x0.2.2.2.2.1 : Nat) : Int)))))) = AV.p (.c (.v (.bool true)))), (0 : Int) ≤ ((i : Nat) : Int) ∧ ((i : Nat) : Int) < ((List.length x0.2.2.2.2.1 : Nat) : Int)] gamOK hT h (by kernel_rfl) ⟨hint_bool (decide_eq_true h2), (by refine ⟨?_, ?_⟩ <;> (first | omega | (simp only [lsA]; omega) | (simp <;> omega))), trivial⟩ fun a w h => then_normal ?_
   refine at_test (decide ((x0.2.2.2.2.1.getD i (0, [])).1 = ((i : Nat) : Int))) h (by kernel_rfl) (fun h3 => ?_) (fun h3 => ?_)
   ·replace h3 : (x0.2.2.2.2.1.getD i (0, [])).1 = ((i : Nat) : Int) := of_decide_eq_true h3
    refine wp_skip (then_normal (wp_block ?_))
    refine at_regq [{}, { nw := true }] { ts := [1, 2, 3, 4, 17, 18, 19, 20, 21, 22, 23, 24], os := [1, 2, 3, 4, 5, 6] } [I64 (((i : Nat) : Int) + 1)] gamOK hT h (by kernel_rfl) ⟨⟨by first | omega | (simp only [lsA]; omega) | (simp <;> omega), by first | omega | (simp only [lsA]; omega) | (simp <;> omega)⟩, trivial⟩ fun a w h => in_normal ?_
    replace h := at_out (σ' := ⟨[(1, aP 1 0), (2, aP 2 0), (3, aP 6 0), (4, aI (((i : Nat) : Int) + 1))], [(1, oX 31 [cI x0.1, cI x0.2.1, .ro (.int 3) x0.2.2.1, .ro s129 x0.2.2.2.1, .ro s52 x0.2.2.2.2.1, cI x0.2.2.2.2.2]), (2, oX 31 [cI 0, cI 0, cN, cN, cN, cI 0]), (3, oF (.int 3) x0.2.2.1), (4, oF s129 x0.2.2.2.1), (5, oF s52 x0.2.2.2.2.1), (6, oX 31 [cI x0.1, cI x0.2.1, .sl 3, .sl 4, .sl 5, cI x0.2.2.2.2.2])]⟩) { ts := [1, 2, 3, 4], os := [1, 2, 3, 4, 5, 6] } h (by kernel_rfl)
    exact ⟨i + 1, at_eq h (st_congr1 (fun (d0 : Int) => (⟨[(1, aP 1 0), (2, aP 2 0), (3, aP 6 0), (4, aI d0)], [(1, oX 31 [cI x0.1, cI x0.2.1, .ro (.int 3) x0.2.2.1, .ro s129 x0.2.2.2.1, .ro s52 x0.2.2.2.2.1, cI x0.2.2.2.2.2]), (2, oX 31 [cI 0, cI 0, cN, cN, cN, cI 0]), (3, oF (.int 3) x0.2.2.1), (4, oF s129 x0.2.2.2.1), (5, oF s52 x0.2.2.2.2.1), (6, oX 31 [cI x0.1, cI x0.2.1, .sl 3, .sl 4, .sl 5, cI x0.2.2.2.2.2])]⟩ : St)) (show (((i : Nat) : Int) + 1 : Int) = (((i + 1) : Nat) : Int) from by first | with_reducible rfl | (omega) | rfl)), (by exact ⟨by omega, allN_succ hok0.2 (decide_eq_true (by assumption))⟩), (by omega)⟩
   ·replace h3 : ¬ ((x0.2.2.2.2.1.getD i (0, [])).1 = ((i : Nat) : Int)) := of_decide_eq_false h3
    refine wp_exit (then_exit ?_)
    replace h := at_out (σ' := ⟨[(1, aP 1 0), (2, aP 2 0), (3, aP 6 0), (4, aI ((i : Nat) : Int))], [(1, oX 31 [cI x0.1, cI x0.2.1, .ro (.int 3) x0.2.2.1, .ro s129 x0.2.2.2.1, .ro s52 x0.2.2.2.2.1, cI x0.2.2.2.2.2]), (2, oX 31 [cI 0, cI 0, cN, cN, cN, cI 0]), (3, oF (.int 3) x0.2.2.1), (4, oF s129 x0.2.2.2.1), (5, oF s52 x0.2.2.2.2.1), (6, oX 31 [cI x0.1, cI x0.2.1, .sl 3, .sl 4, .sl 5, cI x0.2.2.2.2.2])]⟩) { ts := [1, 2, 3, 4], os := [1, 2, 3, 4, 5, 6] } h (by kernel_rfl)
    replace h := at_eq (σ' := ⟨[(1, aP 1 0), (2, aP 2 0), (3, aP 6 0), (4, aI ((prefN (idAt x0.2.2.2.2.1) (List.length x0.2.2.2.2.1) : Nat) : Int))], [(1, oX 31 [cI x0.1, cI x0.2.1, .ro (.int 3) x0.2.2.1, .ro s129 x0.2.2.2.1, .ro s52 x0.2.2.2.2.1, cI x0.2.2.2.2.2]), (2, oX 31 [cI 0, cI 0, cN, cN, cN, cI 0]), (3, oF (.int 3) x0.2.2.1), (4, oF s129 x0.2.2.2.1), (5, oF s52 x0.2.2.2.2.1), (6, oX 31 [cI x0.1, cI x0.2.1, .sl 3, .sl 4, .sl 5, cI x0.2.2.2.2.2])]⟩) h (st_congr1 (fun (d0 : Int) => (⟨[(1, aP 1 0), (2, aP 2 0), (3, aP 6 0), (4, aI d0)], [(1, oX 31 [cI x0.1, cI x0.2.1, .ro (.int 3) x0.2.2.1, .ro s129 x0.2.2.2.1, .ro s52 x0.2.2.2.2.1, cI x0.2.2.2.2.2]), (2, oX 31 [cI 0, cI 0, cN, cN, cN, cI 0]), (3, oF (.int 3) x0.2.2.1), (4, oF s129 x0.2.2.2.1), (5, oF s52 x0.2.2.2.2.1), (6, oX 31 [cI x0.1, cI x0.2.1, .sl 3, .sl 4, .sl 5, cI x0.2.2.2.2.2])]⟩ : St)) (show (((i : Nat) : Int) : Int) = ((prefN (idAt x0.2.2.2.2.1) (List.length x0.2.2.2.2.1) : Nat) : Int) from by first | with_reducible rfl | (rw [prefN_eq hok0.1 hok0.2 (fun hk => by first | (exfalso; omega) | exact decide_eq_false (by assumption))]) | rfl))
    have hpn := prefN_le (idAt x0.2.2.2.2.1) (List.length x0.2.2.2.2.1)
    refine then_exit (in_hit (then_normal (wp_seq ?_)))
    refine at_regq [] { ts := [2, 3], os := [2, 3, 4, 5, 6] } [True] gamOK hT h (by kernel_rfl) ⟨trivial, trivial⟩ fun a w h => then_normal (wp_seq ?_)
    refine at_regq [] { ts := [2], os := [2, 3, 4, 5] } [] gamOK hT h (by kernel_rfl) trivial fun a w h => then_normal (wp_ret ?_)
    exact at_return ((x0.1, (x0.2.1, (x0.2.2.1, (x0.2.2.2.1, (x0.2.2.2.2.1, (D_spec_Max x0.2.2.2.2.2 ((prefN (idAt x0.2.2.2.2.1) (List.length x0.2.2.2.2.1) : Nat) : Int))))))), ()) [] h (by kernel_rfl) trivial (congrArg (fun z => (z, ())) (show ((x0.1, (x0.2.1, (x0.2.2.1, (x0.2.2.2.1, (x0.2.2.2.2.1, (D_spec_Max x0.2.2.2.2.2 ((prefN (idAt x0.2.2.2.2.1) (List.length x0.2.2.2.2.1) : Nat) : Int)))))))) = storeS x0 from by first | exact storeS_n (by assumption) | (rw [← storeS_y (by assumption)]; unfold storeU D_spec_Max; refine Prod.ext rfl (Prod.ext rfl (Prod.ext rfl (Prod.ext rfl (Prod.ext rfl ?_)))); (dsimp only) <;> (repeat' split) <;> omega)))
  ·refine at_regq [{}, {}, {}, {}, { hint := some (aB false) }] { ts := [1, 2, 3, 4, 17, 18, 19, 20, 21, 22, 23, 24, 25], os := [1, 2, 3, 4, 5, 6] } [(AV.p (.c (.v (.bool (decide (((i : Nat) : Int) < ((List.length x0.2.2.2.2.1 : Nat) : Int)))))) = AV.p (.c (.v (.bool false))))] gamOK hT h (by kernel_rfl) ⟨hint_bool (decide_eq_false h2), trivial⟩ fun a w h => then_normal ?_
   refine at_test false h (by kernel_rfl) (fun hh => nomatch hh) (fun hh => ?_)
   refine wp_exit (then_exit ?_)
   replace h := at_out (σ' := ⟨[(1, aP 1 0), (2, aP 2 0), (3, aP 6 0), (4, aI ((i : Nat) : Int))], [(1, oX 31 [cI x0.1, cI x0.2.1, .ro (.int 3) x0.2.2.1, .ro s129 x0.2.2.2.1, .ro s52 x0.2.2.2.2.1, cI x0.2.2.2.2.2]), (2, oX 31 [cI 0, cI 0, cN, cN, cN, cI 0]), (3, oF (.int 3) x0.2.2.1), (4, oF s129 x0.2.2.2.1), (5, oF s52 x0.2.2.2.2.1), (6, oX 31 [cI x0.1, cI x0.2.1, .sl 3, .sl 4, .sl 5, cI x0.2.2.2.2.2])]⟩) { ts := [1, 2, 3, 4], os := [1, 2, 3, 4, 5, 6] } h (by kernel_rfl)
   replace h := at_eq (σ' := ⟨[(1, aP 1 0), (2, aP 2 0), (3, aP 6 0), (4, aI ((prefN (idAt x0.2.2.2.2.1) (List.length x0.2.2.2.2.1) : Nat) : Int))], [(1, oX 31 [cI x0.1, cI x0.2.1, .ro (.int 3) x0.2.2.1, .ro s129 x0.2.2.2.1, .ro s52 x0.2.2.2.2.1, cI x0.2.2.2.2.2]), (2, oX 31 [cI 0, cI 0, cN, cN, cN, cI 0]), (3, oF (.int 3) x0.2.2.1), (4, oF s129 x0.2.2.2.1), (5, oF s52 x0.2.2.2.2.1), (6, oX 31 [cI x0.1, cI x0.2.1, .sl 3, .sl 4, .sl 5, cI x0.2.2.2.2.2])]⟩) h (st_congr1 (fun (d0 : Int) => (⟨[(1, aP 1 0), (2, aP 2 0), (3, aP 6 0), (4, aI d0)], [(1, oX 31 [cI x0.1, cI x0.2.1, .ro (.int 3) x0.2.2.1, .ro s129 x0.2.2.2.1, .ro s52 x0.2.2.2.2.1, cI x0.2.2.2.2.2]), (2, oX 31 [cI 0, cI 0, cN, cN, cN, cI 0]), (3, oF (.int 3) x0.2.2.1), (4, oF s129 x0.2.2.2.1), (5, oF s52 x0.2.2.2.2.1), (6, oX 31 [cI x0.1, cI x0.2.1, .sl 3, .sl 4, .sl 5, cI x0.2.2.2.2.2])]⟩ : St)) (show (((i : Nat) : Int) : Int) = ((prefN (idAt x0.2.2.2.2.1) (List.length x0.2.2.2.2.1) : Nat) : Int) from by first | with_reducible rfl | (rw [prefN_eq hok0.1 hok0.2 (fun hk => by first | (exfalso; omega) | exact decide_eq_false (by assumption))]) | rfl))
   have hpn := prefN_le (idAt x0.2.2.2.2.1) (List.length x0.2.2.2.2.1)
   refine then_exit (in_hit (then_normal (wp_seq ?_)))
   refine at_regq [] { ts := [2, 3], os := [2, 3, 4, 5, 6] } [True] gamOK hT h (by kernel_rfl) ⟨trivial, trivial⟩ fun a w h => then_normal (wp_seq ?_)
   refine at_regq [] { ts := [2], os := [2, 3, 4, 5] } [] gamOK hT h (by kernel_rfl) trivial fun a w h => then_normal (wp_ret ?_)
   exact at_return ((x0.1, (x0.2.1, (x0.2.2.1, (x0.2.2.2.1, (x0.2.2.2.2.1, (D_spec_Max x0.2.2.2.2.2 ((prefN (idAt x0.2.2.2.2.1) (List.length x0.2.2.2.2.1) : Nat) : Int))))))), ()) [] h (by kernel_rfl) trivial (congrArg (fun z => (z, ())) (show ((x0.1, (x0.2.1, (x0.2.2.1, (x0.2.2.2.1, (x0.2.2.2.2.1, (D_spec_Max x0.2.2.2.2.2 ((prefN (idAt x0.2.2.2.2.1) (List.length x0.2.2.2.2.1) : Nat) : Int)))))))) = storeS x0 from by first | exact storeS_n (by assumption) | (rw [← storeS_y (by assumption)]; unfold storeU D_spec_Max; refine Prod.ext rfl (Prod.ext rfl (Prod.ext rfl (Prod.ext rfl (Prod.ext rfl ?_)))); (dsimp only) <;> (repeat' split) <;> omega)))

def D_laws_FnExactStoreDone := (fun (_ : T26) => true)
abbrev Q_laws_FnExactStoreDone := (fun (x0 : T26) => Sh.i64 s26 x0)
def S_laws_FnExactStoreDone : Sum := { fid := 3, dom := [s26], cod := [(.bool 4)], dp := true, fz := false, pre := fun x => Q_laws_FnExactStoreDone x.1, g := fun x => ((D_laws_FnExactStoreDone x.1), ()) }
def S_laws_FnExactStoreDone_tab : List (Nat × Sum) := [(6, S_laws_szSink), (8, S_laws_toSink), (7, S_spec_StoreDone), (9, S_impl_StoreDone), (10, S_laws_eqSink), (11, S_laws_markSink), (12, S_laws_heldSink)]
theorem S_laws_FnExactStoreDone_ok : FnOK Tryz.prog 3 S_laws_FnExactStoreDone := by
 refine at_enter 69 (fun x => ⟨[(0, aG [cI x.1.1, cI x.1.2.1, .ro (.int 3) x.1.2.2.1, .ro s126 x.1.2.2.2.1, .ro s39 x.1.2.2.2.2.1, cI x.1.2.2.2.2.2])], []⟩) Tryz.func3 rfl (by kernel_rfl) (fun x => rfl) ?_
 rintro w0 Z0 ⟨x0, u⟩ a w
 revert x0
 intro (x0 : T26) hpre hlens h
 replace hpre : Q_laws_FnExactStoreDone x0 := hpre
 have hl1 : List.length x0.2.2.1 ≤ 9223372036854775807 := hlens.1.2.2.1.1
 have hl2 : List.length x0.2.2.2.1 ≤ 9223372036854775807 := hlens.1.2.2.2.1.1
 have hl3 : List.length x0.2.2.2.2.1 ≤ 9223372036854775807 := hlens.1.2.2.2.2.1.1
 have hT : TabOK Tryz.prog S_laws_FnExactStoreDone_tab := (.cons S_laws_szSink_ok (.cons S_laws_toSink_ok (.cons S_spec_StoreDone_ok (.cons S_impl_StoreDone_ok (.cons S_laws_eqSink_ok (.cons S_laws_markSink_ok (.cons S_laws_heldSink_ok .nil)))))))
 have hq0 : Sh.sz s31 x0 = Sh.sz s26 x0 := rfl
 have hb0 : Sh.ctT s31 x0 ≤ 11 * Sh.sz s31 x0 := Sh.ctT_le2 s31 x0
 have hz0 : Sh.ct s31 x0 ≤ 11 * (1 + Sh.sz s31 x0) := Sh.ct_le s31 x0
 have ht0 : Sh.sz s26 x0 = (0 + (0 + ((Sh.sz s22 x0.2.2.1) + ((Sh.sz s23 x0.2.2.2.1) + ((Sh.sz s24 x0.2.2.2.2.1) + 0))))) := rfl
 have hs0_1 : Sh.sz s22 x0.2.2.1 = List.length x0.2.2.1 := sz_flat (by rfl) _
 have hs0_2 : Sh.sz s23 x0.2.2.2.1 = List.length x0.2.2.2.1 + ctL (Sh.sz s126) x0.2.2.2.1 := rfl
 have hs0_3 : Sh.sz s24 x0.2.2.2.2.1 = List.length x0.2.2.2.2.1 + ctL (Sh.sz s39) x0.2.2.2.2.1 := rfl
 have hr1 : Sh.ctT s31 (storeS x0) ≤ 11 * Sh.sz s31 (storeS x0) := Sh.ctT_le2 s31 _
 have hr2 : Sh.sz s31 (storeS x0) = Sh.sz s31 x0 := by unfold storeS; split <;> rfl
 refine wp_seq ?_
 refine at_regq [{ ids := [1] }] { ts := [1, 2], os := [1] } [] gamOK hT h (by kernel_rfl) trivial fun a w h => then_normal (wp_seq ?_)
 refine at_regq [] { ts := [1, 2, 3], os := [1] } [] gamOK hT h (by kernel_rfl) trivial fun a w h => then_normal (wp_seq ?_)
 refine at_regq [] { ts := [1, 2, 3], os := [1] } [(pSz s26) x0 1048576] gamOK hT h (by kernel_rfl) ⟨(by (show (0 : Int) ≤ _ ∧ _ ≤ (9223372036854775807 : Int); constructor <;> omega)), trivial⟩ fun a w h => then_normal (wp_seq (wp_seq ?_))
 refine at_regq [] { ts := [1, 2, 15], os := [1] } [] gamOK hT h (by kernel_rfl) trivial fun a w h => then_normal ?_
 refine at_test (decide (((szD s26) x0 1048576) < 0)) h (by kernel_rfl) (fun h1 => ?_) (fun h1 => ?_)
 ·replace h1 : ((szD s26) x0 1048576) < 0 := of_decide_eq_true h1
  have hvh1 := szD_neg h1 (by omega)
  refine wp_seq ?_
  refine at_regq [] { ts := [1, 2], os := [1] } [] gamOK hT h (by kernel_rfl) trivial fun a w h => then_normal (wp_ret (then_ret ?_))
  exact at_return (true, ()) [] h (by kernel_rfl) trivial (congrArg (fun z => (z, ())) (show (true) = D_laws_FnExactStoreDone x0 from by unfold D_laws_FnExactStoreDone; rfl))
 ·replace h1 : ¬ (((szD s26) x0 1048576) < 0) := of_decide_eq_false h1
  have hvh1 := szD_val h1 (by omega)
  refine wp_skip (then_normal (wp_seq ?_))
  refine at_regq [{}, { frz := true }, { ids := [2, 3, 4] }, { ids := [5] }] { ts := [1, 2, 4], os := [1, 2, 3, 4, 5] } [(pTo s26) x0, Q_spec_StoreDone x0] gamOK hT h (by kernel_rfl) ⟨(by (show Sh.sz _ _ ≤ 1048576; omega)), (by exact (Sh.fit_of_sz s31 rfl (x := x0) (by omega))), trivial⟩ fun a w h => then_normal (wp_seq ?_)
  refine at_regq [{}, { ids := [6, 7, 8] }, { ids := [9] }] { ts := [1, 2, 4, 5], os := [1, 2, 3, 4, 5, 6, 7, 8, 9] } [(pTo s26) x0] gamOK hT h (by kernel_rfl) ⟨(by (show Sh.sz _ _ ≤ 1048576; omega)), trivial⟩ fun a w h => then_normal (wp_seq ?_)
  refine at_regq [{}, { ids := [10, 11, 12] }, { ids := [13] }] { ts := [1, 2, 4, 5, 6], os := [1, 2, 3, 4, 5, 6, 7, 8, 9, 10, 11, 12, 13] } [Q_impl_StoreDone x0] gamOK hT h (by kernel_rfl) ⟨(by exact (Sh.fit_of_sz s31 rfl (x := x0) (by omega))), trivial⟩ fun a w h => then_normal (wp_seq (wp_seq ?_))
  refine at_regq [] { ts := [1, 2, 4, 5, 6, 26], os := [1, 2, 3, 4, 5, 6, 7, 8, 9, 10, 11, 12, 13] } [True] gamOK hT h (by kernel_rfl) ⟨trivial, trivial⟩ fun a w h => then_normal ?_
  refine at_test (!((Sh.eqB s31) (storeS x0) (storeS x0))) h (by kernel_rfl) (fun h2 => ?_) (fun h2 => ?_)
  ·replace h2 : ((Sh.eqB s31) (storeS x0) (storeS x0)) = false := notT h2
   refine wp_seq ?_
   refine at_regq [] { ts := [1, 2, 4, 5, 6], os := [1, 2, 3, 4, 5, 6, 7, 8, 9, 10, 11, 12, 13] } [] gamOK hT h (by kernel_rfl) trivial fun a w h => then_normal (wp_ret (then_ret ?_))
   exact at_return (false, ()) [] h (by kernel_rfl) trivial (congrArg (fun z => (z, ())) (show (false) = D_laws_FnExactStoreDone x0 from by unfold D_laws_FnExactStoreDone; exact absurd ((Sh.eqB_iff _).2 (show _ = _ from by first | rfl | (rfl))) (neT h2)))
  ·replace h2 : ((Sh.eqB s31) (storeS x0) (storeS x0)) = true := notF h2
   refine wp_skip (then_normal (wp_seq (wp_seq ?_)))
   refine at_anyq [{}, {}, { ids := [14, 15, 16] }, {}, {}] { ts := [1, 2, 4, 5, 6, 31], os := [1, 2, 3, 4, 5, 6, 7, 8, 9, 10, 11, 12, 13] } [(pTo s26) x0, True] gamOK hT mixed h (by kernel_rfl) ⟨(by (show Sh.sz _ _ ≤ 1048576; omega)), trivial, trivial⟩ fun a w h => then_normal ?_
   refine at_test (!((Sh.eqB s31) x0 x0)) h (by kernel_rfl) (fun h3 => ?_) (fun h3 => ?_)
   ·replace h3 : ((Sh.eqB s31) x0 x0) = false := notT h3
    refine wp_seq ?_
    refine at_regq [] { ts := [1, 2, 4, 5, 6], os := [1, 2, 3, 4, 5, 6, 7, 8, 9, 10, 11, 12, 13] } [] gamOK hT h (by kernel_rfl) trivial fun a w h => then_normal (wp_ret (then_ret ?_))
    exact at_return (false, ()) [] h (by kernel_rfl) trivial (congrArg (fun z => (z, ())) (show (false) = D_laws_FnExactStoreDone x0 from by unfold D_laws_FnExactStoreDone; exact absurd ((Sh.eqB_iff _).2 (show _ = _ from by first | rfl | (rfl))) (neT h3)))
   ·replace h3 : ((Sh.eqB s31) x0 x0) = true := notF h3
    refine wp_skip (then_normal (wp_seq ?_))
    refine at_regq [] { ts := [1, 2, 4, 5, 6, 7], os := [1, 2, 3, 4, 5, 6, 7, 8, 9, 10, 11, 12, 13] } [] gamOK hT h (by kernel_rfl) trivial fun a w h => then_normal (wp_seq ?_)
    refine at_regq [] { ts := [1, 2, 4, 6, 7], os := [1, 2, 3, 4, 5, 10, 11, 12, 13] } [(pMkT s31) x0 1] gamOK hT h (by kernel_rfl) ⟨(by (show (0 : Int) ≤ _ ∧ _ + ((Sh.ctT _ _ : Nat) : Int) ≤ (4611686018427387904 : Int); (try simp only [held_marked, held_markedT, mkK, mkKT, Sh.ctT_mkT, Sh.ct_mk]); constructor <;> omega)), trivial⟩ fun a w h => then_normal (wp_seq (wp_seq ?_))
    by_cases h4 : ((mkKT s31) x0 1) < 0
    ·refine at_regq [{}, { hint := some (aB true) }] { ts := [1, 2, 4, 6, 42], os := [1, 2, 3, 4, 5, 10, 11, 12, 13] } [(AV.p (.c (.v (.bool (decide (((mkKT s31) x0 1) < 0))))) = AV.p (.c (.v (.bool true))))] gamOK hT h (by kernel_rfl) ⟨hint_bool (decide_eq_true h4), trivial⟩ fun a w h => then_normal ?_
     refine at_test true h (by kernel_rfl) (fun hh => ?_) (fun hh => nomatch hh)
     refine wp_seq ?_
     refine at_regq [] { ts := [1, 2, 4, 6], os := [1, 2, 3, 4, 5, 10, 11, 12, 13] } [] gamOK hT h (by kernel_rfl) trivial fun a w h => then_normal (wp_ret (then_ret ?_))
     exact at_return (false, ()) [] h (by kernel_rfl) trivial (congrArg (fun z => (z, ())) (show (false) = D_laws_FnExactStoreDone x0 from by unfold D_laws_FnExactStoreDone; (exfalso; simp only [mkK, mkKT, Sh.ctT_mkT, Sh.ct_mk] at h4; first | omega | exact h4 trivial | exact h4 rfl)))
    ·refine at_regq [{}, { hint := some (aB false) }] { ts := [1, 2, 4, 6, 42], os := [1, 2, 3, 4, 5, 10, 11, 12, 13] } [(AV.p (.c (.v (.bool (decide (((mkKT s31) x0 1) < 0))))) = AV.p (.c (.v (.bool false)))), True] gamOK hT h (by kernel_rfl) ⟨hint_bool (decide_eq_false h4), trivial, trivial⟩ fun a w h => then_normal ?_
     refine at_test (!((Sh.eqB s31) (storeS x0) (storeS x0))) h (by kernel_rfl) (fun h5 => ?_) (fun h5 => ?_)
     ·replace h5 : ((Sh.eqB s31) (storeS x0) (storeS x0)) = false := notT h5
      refine wp_seq ?_
      refine at_regq [] { ts := [1, 2, 4, 6], os := [1, 2, 3, 4, 5, 10, 11, 12, 13] } [] gamOK hT h (by kernel_rfl) trivial fun a w h => then_normal (wp_ret (then_ret ?_))
      exact at_return (false, ()) [] h (by kernel_rfl) trivial (congrArg (fun z => (z, ())) (show (false) = D_laws_FnExactStoreDone x0 from by unfold D_laws_FnExactStoreDone; exact absurd ((Sh.eqB_iff _).2 (show _ = _ from by first | rfl | (rfl))) (neT h5)))
     ·replace h5 : ((Sh.eqB s31) (storeS x0) (storeS x0)) = true := notF h5
      refine wp_skip (then_normal (wp_seq ?_))
      refine at_regq [] { ts := [1, 2, 4, 6, 8], os := [1, 2, 3, 4, 5, 10, 11, 12, 13] } [] gamOK hT h (by kernel_rfl) trivial fun a w h => then_normal (wp_seq ?_)
      refine at_regq [] { ts := [1, 2, 4, 6, 8], os := [1, 2, 3, 4, 5, 10, 11, 12, 13] } [(pMkT s31) (storeS x0) 1] gamOK hT h (by kernel_rfl) ⟨(by (show (0 : Int) ≤ _ ∧ _ + ((Sh.ctT _ _ : Nat) : Int) ≤ (4611686018427387904 : Int); (try simp only [held_marked, held_markedT, mkK, mkKT, Sh.ctT_mkT, Sh.ct_mk]); constructor <;> omega)), trivial⟩ fun a w h => then_normal (wp_seq ?_)
      refine at_regq [] { ts := [1, 2, 4, 6, 8, 9], os := [1, 2, 3, 4, 5, 10, 11, 12, 13] } [] gamOK hT h (by kernel_rfl) trivial fun a w h => then_normal (wp_seq ?_)
      refine at_regq [] { ts := [1, 2, 4, 6, 8, 9], os := [1, 2, 3, 4, 5, 10, 11, 12, 13] } [(pMkT s31) ((Sh.mkT s31) (storeS x0) 1) 1] gamOK hT h (by kernel_rfl) ⟨(by (show (0 : Int) ≤ _ ∧ _ + ((Sh.ctT _ _ : Nat) : Int) ≤ (4611686018427387904 : Int); (try simp only [held_marked, held_markedT, mkK, mkKT, Sh.ctT_mkT, Sh.ct_mk]); constructor <;> omega)), trivial⟩ fun a w h => then_normal (wp_seq (wp_seq ?_))
      refine at_regq [] { ts := [1, 2, 4, 6, 8, 9, 50], os := [1, 2, 3, 4, 5, 10, 11, 12, 13] } [] gamOK hT h (by kernel_rfl) trivial fun a w h => then_normal ?_
      refine at_test (decide (((heldDT s31) ((Sh.mkT s31) (storeS x0) 1) 1) < 0)) h (by kernel_rfl) (fun h6 => ?_) (fun h6 => ?_)
      ·replace h6 : ((heldDT s31) ((Sh.mkT s31) (storeS x0) 1) 1) < 0 := of_decide_eq_true h6
       refine wp_seq ?_
       refine at_regq [] { ts := [1, 2, 4, 6, 8, 9], os := [1, 2, 3, 4, 5, 10, 11, 12, 13] } [] gamOK hT h (by kernel_rfl) trivial fun a w h => then_normal (wp_ret (then_ret ?_))
       exact at_return (false, ()) [] h (by kernel_rfl) trivial (congrArg (fun z => (z, ())) (show (false) = D_laws_FnExactStoreDone x0 from by unfold D_laws_FnExactStoreDone; (exfalso; simp only [held_marked, held_markedT, mkK, mkKT, Sh.ctT_mkT, Sh.ct_mk] at h6; first | omega | exact h6 trivial | exact h6 rfl)))
      ·replace h6 : ¬ (((heldDT s31) ((Sh.mkT s31) (storeS x0) 1) 1) < 0) := of_decide_eq_false h6
       refine wp_skip (then_normal (wp_seq (wp_seq ?_)))
       refine at_regq [] { ts := [1, 2, 4, 6, 8, 53], os := [1, 2, 3, 4, 5, 10, 11, 12, 13] } [] gamOK hT h (by kernel_rfl) trivial fun a w h => then_normal ?_
       refine at_test (!decide (((heldDT s31) ((Sh.mkT s31) (storeS x0) 1) 1) = ((mkKT s31) (storeS x0) 1))) h (by kernel_rfl) (fun h7 => ?_) (fun h7 => ?_)
       ·replace h7 : ¬ (((heldDT s31) ((Sh.mkT s31) (storeS x0) 1) 1) = ((mkKT s31) (storeS x0) 1)) := of_decide_eq_false (notT h7)
        refine wp_seq ?_
        refine at_regq [] { ts := [1, 2, 4, 6, 8], os := [1, 2, 3, 4, 5, 10, 11, 12, 13] } [] gamOK hT h (by kernel_rfl) trivial fun a w h => then_normal (wp_ret (then_ret ?_))
        exact at_return (false, ()) [] h (by kernel_rfl) trivial (congrArg (fun z => (z, ())) (show (false) = D_laws_FnExactStoreDone x0 from by unfold D_laws_FnExactStoreDone; (exfalso; simp only [held_marked, held_markedT, mkK, mkKT, Sh.ctT_mkT, Sh.ct_mk] at h7; first | omega | exact h7 trivial | exact h7 rfl)))
       ·replace h7 : ((heldDT s31) ((Sh.mkT s31) (storeS x0) 1) 1) = ((mkKT s31) (storeS x0) 1) := of_decide_eq_true (notF h7)
        refine wp_skip (then_normal (wp_seq ?_))
        refine at_regq [{}, { ids := [17, 18, 19] }, { ids := [20, 21, 22] }, { ids := [23] }] { ts := [2, 4, 6, 8, 10], os := [2, 3, 4, 5, 10, 11, 12, 13, 20, 21, 22, 23] } [(pTo s26) x0, Q_impl_StoreDone x0] gamOK hT h (by kernel_rfl) ⟨(by (show Sh.sz _ _ ≤ 1048576; omega)), (by exact (Sh.fit_of_sz s31 rfl (x := x0) (by omega))), trivial⟩ fun a w h => then_normal (wp_seq (wp_seq ?_))
        refine at_regq [] { ts := [2, 6, 8, 60], os := [10, 11, 12, 13] } [True] gamOK hT h (by kernel_rfl) ⟨trivial, trivial⟩ fun a w h => then_normal ?_
        refine at_test (!((Sh.eqB s31) (storeS x0) (storeS x0))) h (by kernel_rfl) (fun h8 => ?_) (fun h8 => ?_)
        ·replace h8 : ((Sh.eqB s31) (storeS x0) (storeS x0)) = false := notT h8
         refine wp_seq ?_
         refine at_regq [] { ts := [2, 6, 8], os := [10, 11, 12, 13] } [] gamOK hT h (by kernel_rfl) trivial fun a w h => then_normal (wp_ret (then_ret ?_))
         exact at_return (false, ()) [] h (by kernel_rfl) trivial (congrArg (fun z => (z, ())) (show (false) = D_laws_FnExactStoreDone x0 from by unfold D_laws_FnExactStoreDone; exact absurd ((Sh.eqB_iff _).2 (show _ = _ from by first | rfl | (rfl))) (neT h8)))
        ·replace h8 : ((Sh.eqB s31) (storeS x0) (storeS x0)) = true := notF h8
         refine wp_skip (then_normal (wp_seq ?_))
         refine at_regq [] { ts := [2, 6, 8, 9], os := [10, 11, 12, 13] } [] gamOK hT h (by kernel_rfl) trivial fun a w h => then_normal (wp_seq ?_)
         refine at_regq [] { ts := [2, 8, 9], os := [] } [(pMkT s31) ((Sh.mkT s31) (storeS x0) 1) 1] gamOK hT h (by kernel_rfl) ⟨(by (show (0 : Int) ≤ _ ∧ _ + ((Sh.ctT _ _ : Nat) : Int) ≤ (4611686018427387904 : Int); (try simp only [held_marked, held_markedT, mkK, mkKT, Sh.ctT_mkT, Sh.ct_mk]); constructor <;> omega)), trivial⟩ fun a w h => then_normal (wp_seq (wp_seq ?_))
         refine at_regq [] { ts := [2, 8, 9, 65], os := [] } [] gamOK hT h (by kernel_rfl) trivial fun a w h => then_normal ?_
         refine at_test (decide (((heldDT s31) ((Sh.mkT s31) (storeS x0) 1) 1) < 0)) h (by kernel_rfl) (fun h9 => ?_) (fun h9 => ?_)
         ·replace h9 : ((heldDT s31) ((Sh.mkT s31) (storeS x0) 1) 1) < 0 := of_decide_eq_true h9
          refine wp_seq ?_
          refine at_regq [] { ts := [2, 8, 9], os := [] } [] gamOK hT h (by kernel_rfl) trivial fun a w h => then_normal (wp_ret (then_ret ?_))
          exact at_return (false, ()) [] h (by kernel_rfl) trivial (congrArg (fun z => (z, ())) (show (false) = D_laws_FnExactStoreDone x0 from by unfold D_laws_FnExactStoreDone; (exfalso; simp only [held_marked, held_markedT, mkK, mkKT, Sh.ctT_mkT, Sh.ct_mk] at h9; first | omega | exact h9 trivial | exact h9 rfl)))
         ·replace h9 : ¬ (((heldDT s31) ((Sh.mkT s31) (storeS x0) 1) 1) < 0) := of_decide_eq_false h9
          refine wp_skip (then_normal (wp_seq (wp_seq ?_)))
          refine at_regq [] { ts := [2, 68], os := [] } [] gamOK hT h (by kernel_rfl) trivial fun a w h => then_normal ?_
          refine at_test (!decide (((heldDT s31) ((Sh.mkT s31) (storeS x0) 1) 1) = ((mkKT s31) (storeS x0) 1))) h (by kernel_rfl) (fun h10 => ?_) (fun h10 => ?_)
          ·replace h10 : ¬ (((heldDT s31) ((Sh.mkT s31) (storeS x0) 1) 1) = ((mkKT s31) (storeS x0) 1)) := of_decide_eq_false (notT h10)
           refine wp_seq ?_
           refine at_regq [] { ts := [2], os := [] } [] gamOK hT h (by kernel_rfl) trivial fun a w h => then_normal (wp_ret (then_ret ?_))
           exact at_return (false, ()) [] h (by kernel_rfl) trivial (congrArg (fun z => (z, ())) (show (false) = D_laws_FnExactStoreDone x0 from by unfold D_laws_FnExactStoreDone; (exfalso; simp only [held_marked, held_markedT, mkK, mkKT, Sh.ctT_mkT, Sh.ct_mk] at h10; first | omega | exact h10 trivial | exact h10 rfl)))
          ·replace h10 : ((heldDT s31) ((Sh.mkT s31) (storeS x0) 1) 1) = ((mkKT s31) (storeS x0) 1) := of_decide_eq_true (notF h10)
           refine wp_skip (then_normal (wp_seq ?_))
           refine at_regq [] { ts := [2], os := [] } [] gamOK hT h (by kernel_rfl) trivial fun a w h => then_normal (wp_ret ?_)
           exact at_return (true, ()) [] h (by kernel_rfl) trivial (congrArg (fun z => (z, ())) (show (true) = D_laws_FnExactStoreDone x0 from by unfold D_laws_FnExactStoreDone; rfl))

theorem opn3 : OpensS Tryz.prog 3 (.int 3) := opensS_int Tryz.underlying3
theorem co3 : Tryz.prog.cellsOf 3 = 1 := by kernel_rfl
theorem opn22 : OpensS Tryz.prog 22 s22 := opensS_slice (a := (.int 3)) Tryz.underlying22 co3 opn3
theorem co22 : Tryz.prog.cellsOf 22 = 1 := by kernel_rfl
theorem opn37 : OpensS Tryz.prog 37 s37 := opensS_slice (a := s22) Tryz.underlying37 co22 opn22
theorem co37 : Tryz.prog.cellsOf 37 = 1 := by kernel_rfl
theorem co124 : Tryz.prog.cellsOf 124 = 2 := by kernel_rfl
theorem opn124 : OpensS Tryz.prog 124 s124 := by
  intro H enc w base spare held fuel cs x h
  obtain ⟨xs, n, _, _, hl, hlen, hf⟩ := DataW.trod_struct Tryz.underlying124 h
  obtain ⟨a0, k0, i0⟩ := opensS_field (a := (.int 3)) (i := 0) 0 1 hf hlen rfl rfl rfl co3 opn3
  obtain ⟨a1, k1, i1⟩ := opensS_field (a := s37) (i := 1) 1 1 hf hlen rfl rfl rfl co37 opn37
  rw [co124] at hl
  exact ⟨(a0, a1), (rdS_pair (off := 0) k0 (rdS_last (off := 1) k1 (by omega))), ⟨i0, i1⟩⟩
theorem co126 : Tryz.prog.cellsOf 126 = 5 := by kernel_rfl
theorem opn126 : OpensS Tryz.prog 126 s126 := by
  intro H enc w base spare held fuel cs x h
  obtain ⟨xs, n, _, _, hl, hlen, hf⟩ := DataW.trod_struct Tryz.underlying126 h
  obtain ⟨a0, k0, i0⟩ := opensS_field (a := (.int 3)) (i := 0) 0 1 hf hlen rfl rfl rfl co3 opn3
  obtain ⟨a1, k1, i1⟩ := opensS_field (a := (.int 3)) (i := 1) 1 1 hf hlen rfl rfl rfl co3 opn3
  obtain ⟨a2, k2, i2⟩ := opensS_field (a := (.int 3)) (i := 2) 2 1 hf hlen rfl rfl rfl co3 opn3
  obtain ⟨a3, k3, i3⟩ := opensS_field (a := s124) (i := 3) 3 2 hf hlen rfl rfl rfl co124 opn124
  rw [co126] at hl
  exact ⟨(a0, (a1, (a2, a3))), (rdS_pair (off := 0) k0 (rdS_pair (off := 1) k1 (rdS_pair (off := 2) k2 (rdS_last (off := 3) k3 (by omega))))), ⟨i0, ⟨i1, ⟨i2, i3⟩⟩⟩⟩
theorem opn23 : OpensS Tryz.prog 23 s23 := opensS_slice (a := s126) Tryz.underlying23 co126 opn126
theorem co23 : Tryz.prog.cellsOf 23 = 1 := by kernel_rfl
theorem co39 : Tryz.prog.cellsOf 39 = 2 := by kernel_rfl
theorem opn39 : OpensS Tryz.prog 39 s39 := by
  intro H enc w base spare held fuel cs x h
  obtain ⟨xs, n, _, _, hl, hlen, hf⟩ := DataW.trod_struct Tryz.underlying39 h
  obtain ⟨a0, k0, i0⟩ := opensS_field (a := (.int 3)) (i := 0) 0 1 hf hlen rfl rfl rfl co3 opn3
  obtain ⟨a1, k1, i1⟩ := opensS_field (a := s37) (i := 1) 1 1 hf hlen rfl rfl rfl co37 opn37
  rw [co39] at hl
  exact ⟨(a0, a1), (rdS_pair (off := 0) k0 (rdS_last (off := 1) k1 (by omega))), ⟨i0, i1⟩⟩
theorem opn24 : OpensS Tryz.prog 24 s24 := opensS_slice (a := s39) Tryz.underlying24 co39 opn39
theorem co24 : Tryz.prog.cellsOf 24 = 1 := by kernel_rfl
theorem co26 : Tryz.prog.cellsOf 26 = 6 := by kernel_rfl
theorem opn26 : OpensS Tryz.prog 26 s26 := by
  intro H enc w base spare held fuel cs x h
  obtain ⟨xs, n, _, _, hl, hlen, hf⟩ := DataW.trod_struct Tryz.underlying26 h
  obtain ⟨a0, k0, i0⟩ := opensS_field (a := (.int 3)) (i := 0) 0 1 hf hlen rfl rfl rfl co3 opn3
  obtain ⟨a1, k1, i1⟩ := opensS_field (a := (.int 3)) (i := 1) 1 1 hf hlen rfl rfl rfl co3 opn3
  obtain ⟨a2, k2, i2⟩ := opensS_field (a := s22) (i := 2) 2 1 hf hlen rfl rfl rfl co22 opn22
  obtain ⟨a3, k3, i3⟩ := opensS_field (a := s23) (i := 3) 3 1 hf hlen rfl rfl rfl co23 opn23
  obtain ⟨a4, k4, i4⟩ := opensS_field (a := s24) (i := 4) 4 1 hf hlen rfl rfl rfl co24 opn24
  obtain ⟨a5, k5, i5⟩ := opensS_field (a := (.int 3)) (i := 5) 5 1 hf hlen rfl rfl rfl co3 opn3
  rw [co26] at hl
  exact ⟨(a0, (a1, (a2, (a3, (a4, a5))))), (rdS_pair (off := 0) k0 (rdS_pair (off := 1) k1 (rdS_pair (off := 2) k2 (rdS_pair (off := 3) k3 (rdS_pair (off := 4) k4 (rdS_last (off := 5) k5 (by omega))))))), ⟨i0, ⟨i1, ⟨i2, ⟨i3, ⟨i4, i5⟩⟩⟩⟩⟩⟩
namespace fnExactStoreDone
open Go.ChangeShapes Go.WideShapes Go.ChangeAt Go.RowKit
theorem own : ownKnob Tryz.prog.godebug = none := by kernel_rfl
theorem laidOut : laidOutB Tryz.prog = true := fxLaid
set_option maxRecDepth 100000 in
theorem lifted (os : Os) (started : os.Started) (H : Type) (enc : TypeId × Value → H) :
    ReturnsInHanded {} Tryz.checked os 3 .any (Rows.fnExactStoreDoneSpec.pre6 enc Tryz.prog Tryz.f3 Rows.fnExactStoreDoneRow.domain false) (Rows.fnExactStoreDoneSpec.post enc Tryz.prog Tryz.f3 false true false false) := by
  refine returnsInHanded_of_change (C := Tryz.checked) own started (by kernel_rfl) Tryz.func3
    (ChangeSpec.witness6 (enc := enc) (C := Tryz.checked) false ⟨#[], #[.agg #[.int .i64 0, .int .i64 0, .slice none 0 0, .slice none 0 0, .slice none 0 0, .int .i64 0]], []⟩ 8 (by kernel_rfl) (by kernel_rfl) (by kernel_rfl) (by kernel_rfl)) ?_
  intro W base args ds gs before hval0 hW hcnd _
  have hval : ∀ (j : Nat) t v, Tryz.f3.params[j]? = some t → args[j]? = some v → Value.okWide Tryz.prog W .any base t v := hval0
  have hW' := hW
  obtain ⟨p, q, hA0, hV, rfl, hfz, hnd⟩ := hW
  have hA : DataW.TrodAll enc Tryz.prog W 0 (fun _ => true) true Tryz.f3.params.toList args.toList ds p := hA0
  rw [Tryz.params3] at hA hval
  obtain ⟨v0, vs0, d0, ds0, p0, q0, hargs, rfl, rfl, h0, r0⟩ := trodAll_cons hA
  obtain ⟨rfl, rfl, rfl⟩ := trodAll_nil r0
  obtain rfl : args = #[v0] := by cases args; simp_all
  obtain ⟨rfl, rfl⟩ := trodVars_none hV
  have k0 := h0
  have lt0 : ∀ x ∈ p0, x.block < W.heap.size := by obtain ⟨m, hm⟩ := k0; exact DataW.trod_lt m _ _ _ hm
  obtain ⟨cs0, rfl, _⟩ := okWide_struct Tryz.underlying26 (hval 0 26 v0 rfl rfl)
  obtain ⟨cs0⟩ := cs0
  obtain ⟨x0, hx0, i0⟩ : ∃ x : (s26).D, (s26).rd W (fun b => b < W.heap.size) cs0 x ∧ (s26).i64 x := by obtain ⟨fuel, hf⟩ := h0; exact opn26 hf
  clear hA0 hval0
  refine (calls_law S_laws_FnExactStoreDone_ok (by kernel_rfl) W (fun b => b < W.heap.size) [.agg cs0.toArray] (x0, ()) (fun _ h => h) ⟨argRd_st hx0, trivial⟩ i0).mono fun e W' hr => ?_
  obtain ⟨he, bel⟩ := ret_bool hr
  subst he
  exact ⟨_, rfl, _, _, _, [], _, [], hW', trodAll_mk1 (shut_bool Tryz.underlying4 _), (trodAll_cons_mk (Below.trod laidOut (by kernel_rfl) (of_decide_eq_true (by kernel_rfl)) k0 bel lt0) trodAll_mk0), rfl, bel.frame _, fun h => by cases h⟩
theorem closed : joinedFacts Tryz.prog 3 Tryz.f3 (Rows.fnExactStoreDoneSpec) Rows.fnExactStoreDoneRow = true := by
  unfold joinedFacts
  exact (and2 (and2 (and2 (and2 (and2 (and2 (and2 (and2 (and2 (and2 (and2 (and2 (and2 (and2 (and2 (and2 (and2 (and2 (and2 (and2 (and2 (and2 (and2 (and2 (and2 (and2 (and2 (and2 (and2 (and2 (and2 (by kernel_rfl) fxLaid) fxMaps) (by kernel_rfl)) (by kernel_rfl)) (by kernel_rfl)) (by kernel_rfl)) (by kernel_rfl)) (by kernel_rfl)) (by kernel_rfl)) (by kernel_rfl)) (by kernel_rfl)) (by kernel_rfl)) (by kernel_rfl)) (by kernel_rfl)) (by kernel_rfl)) (by kernel_rfl)) (by kernel_rfl)) (by kernel_rfl)) (by kernel_rfl)) (by kernel_rfl)) (by kernel_rfl)) (by kernel_rfl)) (by kernel_rfl)) (by kernel_rfl)) fxEnter) (by rw [fxLifts]; kernel_rfl)) (by rw [fxMake]; kernel_rfl)) (by kernel_rfl)) (by kernel_rfl)) (by kernel_rfl)) (by kernel_rfl))
theorem over : Rows.fnExactStoreDoneRow.holds Tryz.pinned (OpenSpec.ofChange Rows.fnExactStoreDoneSpec) :=
  OpenClaim.holds_of_wide 3 Tryz.f3 rfl rfl rfl rfl rfl rfl rfl ⟨rfl, rfl, rfl, rfl, rfl⟩ rfl rfl rfl rfl rfl (by kernel_rfl) Tryz.func3 closed
    (of_decide_eq_true (by kernel_rfl)) (by unfold Func.isWrapper; first | (rw [if_pos (by decide +kernel)]; kernel_rfl) | (rw [if_neg (by decide +kernel)]; exact ⟨rfl, rfl⟩))
    (fun os started H enc _ => lifted os started H enc)
/-- the statement -/
theorem proved : Rows.FnExactStoreDoneSaid := over
end fnExactStoreDone

end Go.Proofs.YtdmkjcnppgfeoaaGreat

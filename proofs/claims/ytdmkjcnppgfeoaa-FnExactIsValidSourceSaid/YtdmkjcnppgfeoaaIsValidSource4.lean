/- The law FnExactIsValidSource returns true for every input and leaves its arguments as they were. No condition. -/
import Derived.Test.YtdmkjcnppgfeoaaIsValidSource3
import Derived.Test.YtdmkjcnppgfeoaaLA
import Derived.Test.YtdmkjcnppgfeoaaProg
import Derived.Test.YtdmkjcnppgfeoaaRows
import Derived.Test.YtdmkjcnppgfeoaaFX
namespace Go.Proofs.Ytdmkjcnppgfeoaa
open Go.RowKit
set_option linter.unusedVariables false
set_option linter.unusedSimpArgs false
abbrev Q_spec_IsValidSource := (fun (x0 : T91) => Sh.fit s91 x0)
def S_spec_IsValidSource : Sum := { fid := 78, dom := [s91], cod := [(.bool 4)], dp := true, fz := false, pre := fun x => Q_spec_IsValidSource x.1, g := fun x => ((validSo x.1), ()) }
def S_spec_IsValidSource_tab : List (Nat × Sum) := [(103, S_spec_l1In), (170, S_spec_IsValidWindow), (171, S_spec_IsValidFeedbackTable), (172, S_spec_IsValidGeneration), (151, S_spec_IsValidRecoder), (173, S_spec_ColumnsOf)]
theorem S_spec_IsValidSource_ok : FnOK Try.prog 78 S_spec_IsValidSource := by
 refine at_enter 96 (fun x => ⟨[(0, aG [.ro s218 x.1.1, cI x.1.2.1.1, cI x.1.2.1.2.1, cI x.1.2.1.2.2.1, cI x.1.2.1.2.2.2, .ro s128 x.1.2.2.1, .ro s247 x.1.2.2.2.1, cI x.1.2.2.2.2])], []⟩) Try.func78 rfl (by kernel_rfl) (fun x => rfl) ?_
 rintro w0 Z0 ⟨x0, u⟩ a w
 revert x0
 intro (x0 : T91) hpre hlens h
 replace h : At w0 Z0 [] 96 ⟨[(0, aG [.ro s218 x0.1, cI x0.2.1.1, cI x0.2.1.2.1, cI x0.2.1.2.2.1, cI x0.2.1.2.2.2, .ro s128 x0.2.2.1, .ro s247 x0.2.2.2.1, cI x0.2.2.2.2])], []⟩ a w := h
 replace hpre : Q_spec_IsValidSource x0 := hpre
 have hl1 : List.length x0.1 ≤ 9223372036854775807 := hlens.1.1.1
 have hl2 : List.length x0.2.2.1 ≤ 9223372036854775807 := hlens.1.2.2.1.1
 have hl3 : List.length x0.2.2.2.1 ≤ 9223372036854775807 := hlens.1.2.2.2.1.1
 have hT : TabOK Try.prog S_spec_IsValidSource_tab := (.cons S_spec_l1In_ok (.cons S_spec_IsValidWindow_ok (.cons S_spec_IsValidFeedbackTable_ok (.cons S_spec_IsValidGeneration_ok (.cons S_spec_IsValidRecoder_ok (.cons S_spec_ColumnsOf_ok .nil))))))
 have hf0 : Sh.fit s91 x0 := hpre
 have hn0_1 : List.length x0.1 ≤ 1073741824 := hf0.1.1
 have hn0_2 : List.length x0.2.2.1 ≤ 1073741824 := hf0.2.2.1.1
 have hn0_3 : List.length x0.2.2.2.1 ≤ 1073741824 := hf0.2.2.2.1.1
 refine wp_seq ?_
 refine at_regq [{ ids := [1] }] { ts := [1, 2], os := [1] } [] gamOK hT h (by kernel_rfl) trivial fun a w h => then_normal (wp_seq ?_)
 refine at_regq [] { ts := [1, 2, 3], os := [1] } [] gamOK hT h (by kernel_rfl) trivial fun a w h => then_normal (wp_seq (wp_seq ?_))
 rcases Bool.eq_false_or_eq_true (!(inR ((List.length x0.1 : Nat) : Int) 1 60)) with h1 | h1
 ·have hzh1 : (inR ((List.length x0.1 : Nat) : Int) 1 60) = false := notT h1
  have hvh1 := inR_f (notT h1)
  refine at_regq [{}, {}, { hint := some (aB true) }] { ts := [1, 2, 3, 38], os := [1] } [True, (AV.p (.c (.v (.bool (!(inR ((List.length x0.1 : Nat) : Int) 1 60))))) = AV.p (.c (.v (.bool true))))] gamOK hT h (by kernel_rfl) ⟨trivial, hint_bool (h1), trivial⟩ fun a w h => then_normal ?_
  refine at_test true h (by kernel_rfl) (fun hh => ?_) (fun hh => nomatch hh)
  refine wp_seq ?_
  refine at_regq [] { ts := [1, 2, 3], os := [1] } [] gamOK hT h (by kernel_rfl) trivial fun a w h => then_normal (wp_ret (then_ret ?_))
  exact at_return (S := S_spec_IsValidSource) (x := (x0, ())) (false, ()) [] h (by kernel_rfl) trivial (congrArg (fun z => (z, ())) (show (false) = validSo x0 from by first | rfl | (unfold validSo; rw [if_neg (neT (notT h1))]; done) | (unfold validSo; simp_all)))
 ·have hzh1 : (inR ((List.length x0.1 : Nat) : Int) 1 60) = true := notF h1
  have hvh1 := inR_t (notF h1)
  rcases Bool.eq_false_or_eq_true (!(validW x0.2.1)) with h2 | h2
  ·have hzh2 : (validW x0.2.1) = false := notT h2
   refine at_regq [{}, {}, { hint := some (aB false) }, {}, {}, {}, {}, { hint := some (aB true) }] { ts := [1, 2, 3, 38], os := [1] } [True, (AV.p (.c (.v (.bool (!(inR ((List.length x0.1 : Nat) : Int) 1 60))))) = AV.p (.c (.v (.bool false)))), True, (AV.p (.c (.v (.bool (!(validW x0.2.1))))) = AV.p (.c (.v (.bool true))))] gamOK hT h (by kernel_rfl) ⟨trivial, hint_bool (h1), trivial, hint_bool (h2), trivial⟩ fun a w h => then_normal ?_
   refine at_test true h (by kernel_rfl) (fun hh => ?_) (fun hh => nomatch hh)
   refine wp_seq ?_
   refine at_regq [] { ts := [1, 2, 3], os := [1] } [] gamOK hT h (by kernel_rfl) trivial fun a w h => then_normal (wp_ret (then_ret ?_))
   exact at_return (S := S_spec_IsValidSource) (x := (x0, ())) (false, ()) [] h (by kernel_rfl) trivial (congrArg (fun z => (z, ())) (show (false) = validSo x0 from by first | rfl | (unfold validSo; rw [if_pos (notF h1), if_neg (neT (notT h2))]; done) | (unfold validSo; simp_all)))
  ·have hzh2 : (validW x0.2.1) = true := notF h2
   have hvh2 := validW_t (notF h2)
   by_cases h3 : x0.2.1.2.2.2 = ((List.length x0.1 : Nat) : Int)
   ·by_cases h4 : ((List.length x0.2.2.1 : Nat) : Int) = ((List.length x0.1 : Nat) : Int)
    ·refine at_regq [{}, {}, { hint := some (aB false) }, {}, {}, {}, {}, { hint := some (aB false) }, {}, {}, {}, {}, {}, {}, { hint := some (aB false) }, {}, {}, {}, {}, {}, {}, { hint := some (aB false) }] { ts := [1, 2, 3, 38], os := [1] } [True, (AV.p (.c (.v (.bool (!(inR ((List.length x0.1 : Nat) : Int) 1 60))))) = AV.p (.c (.v (.bool false)))), True, (AV.p (.c (.v (.bool (!(validW x0.2.1))))) = AV.p (.c (.v (.bool false)))), (AV.p (.c (.v (.bool (!decide (x0.2.1.2.2.2 = ((List.length x0.1 : Nat) : Int)))))) = AV.p (.c (.v (.bool false)))), (AV.p (.c (.v (.bool (!decide (((List.length x0.2.2.1 : Nat) : Int) = ((List.length x0.1 : Nat) : Int)))))) = AV.p (.c (.v (.bool false)))), Q_spec_IsValidFeedbackTable x0.2.2.2.1] gamOK hT h (by kernel_rfl) ⟨trivial, hint_bool (h1), trivial, hint_bool (h2), hint_bool (ndT h3), hint_bool (ndT h4), (by exact hf0.2.2.2.1), trivial⟩ fun a w h => then_normal ?_
     refine at_test (!(validFT x0.2.2.2.1)) h (by kernel_rfl) (fun h5 => ?_) (fun h5 => ?_)
     ·replace h5 : (validFT x0.2.2.2.1) = false := notT h5
      refine wp_seq ?_
      refine at_regq [] { ts := [1, 2, 3], os := [1] } [] gamOK hT h (by kernel_rfl) trivial fun a w h => then_normal (wp_ret (then_ret ?_))
      exact at_return (S := S_spec_IsValidSource) (x := (x0, ())) (false, ()) [] h (by kernel_rfl) trivial (congrArg (fun z => (z, ())) (show (false) = validSo x0 from by first | rfl | (unfold validSo; rw [if_pos (notF h1), if_pos (notF h2), if_pos h3, if_pos h4, if_neg (neT h5)]; done) | (unfold validSo; simp_all)))
     ·replace h5 : (validFT x0.2.2.2.1) = true := notF h5
      refine wp_skip (then_normal (wp_seq (wp_seq ?_)))
      refine at_regq [] { ts := [1, 2, 3, 4], os := [1] } [] gamOK hT h (by kernel_rfl) trivial fun a w h => then_normal (wp_block ?_)
      replace h := at_out (σ' := ⟨[(1, aP 1 0), (2, aB false), (3, aI ((List.length x0.1 : Nat) : Int)), (4, aI 0)], [(1, oX 91 [.ro s218 x0.1, cI x0.2.1.1, cI x0.2.1.2.1, cI x0.2.1.2.2.1, cI x0.2.1.2.2.2, .ro s128 x0.2.2.1, .ro s247 x0.2.2.2.1, cI x0.2.2.2.2])]⟩) { ts := [1, 2, 3, 4], os := [1] } h (by kernel_rfl)
      refine at_loop (fun i : Nat => (⟨[(1, aP 1 0), (2, aB false), (3, aI ((List.length x0.1 : Nat) : Int)), (4, aI ((i : Nat) : Int))], [(1, oX 91 [.ro s218 x0.1, cI x0.2.1.1, cI x0.2.1.2.1, cI x0.2.1.2.2.1, cI x0.2.1.2.2.2, .ro s128 x0.2.2.1, .ro s247 x0.2.2.2.1, cI x0.2.2.2.2])]⟩ : St)) (fun i => (i ≤ (List.length x0.1) ∧ allN (srcB x0) i = true)) (fun i => (List.length x0.1) - i) (0) h (st_congr1 (fun (d0 : Int) => (⟨[(1, aP 1 0), (2, aB false), (3, aI ((List.length x0.1 : Nat) : Int)), (4, aI d0)], [(1, oX 91 [.ro s218 x0.1, cI x0.2.1.1, cI x0.2.1.2.1, cI x0.2.1.2.2.1, cI x0.2.1.2.2.2, .ro s128 x0.2.2.1, .ro s247 x0.2.2.2.1, cI x0.2.2.2.2])]⟩ : St)) (show (0 : Int) = (((0) : Nat) : Int) from by first | with_reducible rfl | (rfl) | rfl)) (by exact ⟨Nat.zero_le _, rfl⟩) ?_
      intro i a w hok0 h
      refine wp_seq (wp_seq ?_)
      refine at_regq [] { ts := [1, 2, 3, 4, 41], os := [1] } [] gamOK hT h (by kernel_rfl) trivial fun a w h => then_normal ?_
      refine at_test (decide (((i : Nat) : Int) < ((List.length x0.1 : Nat) : Int))) h (by kernel_rfl) (fun h6 => ?_) (fun h6 => ?_)
      ·replace h6 : ((i : Nat) : Int) < ((List.length x0.1 : Nat) : Int) := of_decide_eq_true h6
       refine wp_skip (then_normal (wp_seq (wp_block (wp_seq ?_))))
       refine at_regq [{}, {}, {}, {}, {}, { ids := [2] }] { ts := [1, 2, 3, 4, 5], os := [1, 2] } [(0 : Int) ≤ ((i : Nat) : Int) ∧ ((i : Nat) : Int) < ((List.length x0.1 : Nat) : Int)] gamOK hT h (by kernel_rfl) ⟨(by refine ⟨?_, ?_⟩ <;> (first | omega | (simp only [lsA]; omega) | (simp <;> omega))), trivial⟩ fun a w h => then_normal (wp_seq ?_)
       refine at_regq [{}, {}, {}, {}, {}, { ids := [3] }] { ts := [1, 2, 3, 4, 5, 6], os := [1, 2, 3] } [(0 : Int) ≤ ((i : Nat) : Int) ∧ ((i : Nat) : Int) < ((List.length x0.2.2.1 : Nat) : Int)] gamOK hT h (by kernel_rfl) ⟨(by refine ⟨?_, ?_⟩ <;> (first | omega | (simp only [lsA]; omega) | (simp <;> omega))), trivial⟩ fun a w h => then_normal (wp_seq ?_)
       rcases Bool.eq_false_or_eq_true (!(validG (x0.1.getD i (0, [])))) with h7 | h7
       ·have hzh7 : (validG (x0.1.getD i (0, []))) = false := notT h7
        refine at_anyq [{}, {}, { hint := some (aB true) }, {}, {}, {}, {}, {}, {}, {}, {}, {}, {}, {}, {}, {}, {}, {}, {}, {}, {}, {}, {}, {}, {}, {}, {}, {}, {}, {}, {}, {}, {}, {}, {}, {}, {}, {}, {}, {}, {}, {}] { ts := [1, 2, 3, 4, 58, 59, 60, 61, 64, 65, 66, 69, 70, 71, 72, 75, 76, 77, 78, 81, 82, 83, 84, 85, 86, 89, 90, 91, 92, 93, 94, 95], os := [1] } [Q_spec_IsValidGeneration (x0.1.getD i (0, [])), (AV.p (.c (.v (.bool (!(validG (x0.1.getD i (0, []))))))) = AV.p (.c (.v (.bool true))))] gamOK hT mixed h (by kernel_rfl) ⟨(by exact (Sh.fit_getD hf0.1 i)), hint_bool (h7), trivial⟩ fun a w h => then_normal ?_
        refine at_test true h (by kernel_rfl) (fun hh => ?_) (fun hh => nomatch hh)
        refine wp_seq ?_
        refine at_reg [] { ts := [1, 2, 3, 4, 58, 59, 60, 61, 64, 65, 66, 69, 70, 71, 72, 75, 76, 77, 78, 81, 82, 83, 84, 85, 86, 89, 90, 91, 92, 93, 94], os := [1] } ⟨[(1, aP 1 0), (2, aB false), (3, aI ((List.length x0.1 : Nat) : Int)), (4, aI ((i : Nat) : Int)), (58, .p (.c (.v undef))), (59, .p (.c (.v undef))), (60, .p (.c (.v undef))), (61, .p (.c (.v undef))), (64, .p (.c (.v undef))), (65, .p (.c (.v undef))), (66, .p (.c (.v undef))), (69, .p (.c (.v undef))), (70, .p (.c (.v undef))), (71, .p (.c (.v undef))), (72, .p (.c (.v undef))), (75, .p (.c (.v undef))), (76, .p (.c (.v undef))), (77, .p (.c (.v undef))), (78, .p (.c (.v undef))), (81, .p (.c (.v undef))), (82, .p (.c (.v undef))), (83, .p (.c (.v undef))), (84, .p (.c (.v undef))), (85, .p (.c (.v undef))), (86, .p (.c (.v undef))), (89, .p (.c (.v undef))), (90, .p (.c (.v undef))), (91, .p (.c (.v undef))), (92, .p (.c (.v undef))), (93, .p (.c (.v undef))), (94, .p (.c (.v undef)))], [(1, oX 91 [.ro s218 x0.1, cI x0.2.1.1, cI x0.2.1.2.1, cI x0.2.1.2.2.1, cI x0.2.1.2.2.2, .ro s128 x0.2.2.1, .ro s247 x0.2.2.2.1, cI x0.2.2.2.2])]⟩ [] gamOK hT h (by kernel_rfl) trivial fun a w h => then_normal (wp_ret (in_ret (then_ret ?_)))
        have hs8 : (allN (srcB x0) (List.length x0.1)) = false := by exact allN_at (i := i) (by omega) (by exact srcB_f (by first | (left; assumption) | (right; right; left; assumption) | (right; left; omega) | (right; right; right; left; omega) | (right; right; right; right; left; omega) | (right; right; right; right; right; left; omega) | (right; right; right; right; right; right; omega)))
        refine then_ret (in_ret (then_ret ?_))
        exact at_return (S := S_spec_IsValidSource) (x := (x0, ())) (false, ()) [] h (by kernel_rfl) trivial (congrArg (fun z => (z, ())) (show (false) = validSo x0 from by first | rfl | (unfold validSo; rw [if_pos (notF h1), if_pos (notF h2), if_pos h3, if_pos h4, if_pos h5, if_neg (neT hs8)]; done) | (unfold validSo; simp_all)))
       ·have hzh7 : (validG (x0.1.getD i (0, []))) = true := notF h7
        have hvh7 := validG_t (notF h7)
        by_cases h9 : (x0.1.getD i (0, [])).1 = ((i : Nat) : Int)
        ·rcases Bool.eq_false_or_eq_true (!(validR (x0.2.2.1.getD i (0, (0, (0, ([], 0))))))) with h10 | h10
         ·have hzh10 : (validR (x0.2.2.1.getD i (0, (0, (0, ([], 0)))))) = false := notT h10
          refine at_anyq [{}, {}, { hint := some (aB false) }, {}, {}, {}, {}, { hint := some (aB false) }, {}, {}, {}, {}, { hint := some (aB true) }, {}, {}, {}, {}, {}, {}, {}, {}, {}, {}, {}, {}, {}, {}, {}, {}, {}, {}, {}, {}, {}, {}, {}, {}, {}, {}, {}, {}, {}] { ts := [1, 2, 3, 4, 58, 59, 60, 61, 64, 65, 66, 69, 70, 71, 72, 75, 76, 77, 78, 81, 82, 83, 84, 85, 86, 89, 90, 91, 92, 93, 94, 95], os := [1, 2] } [Q_spec_IsValidGeneration (x0.1.getD i (0, [])), (AV.p (.c (.v (.bool (!(validG (x0.1.getD i (0, []))))))) = AV.p (.c (.v (.bool false)))), (AV.p (.c (.v (.bool (!decide ((x0.1.getD i (0, [])).1 = ((i : Nat) : Int)))))) = AV.p (.c (.v (.bool false)))), Q_spec_IsValidRecoder (x0.2.2.1.getD i (0, (0, (0, ([], 0))))), (AV.p (.c (.v (.bool (!(validR (x0.2.2.1.getD i (0, (0, (0, ([], 0)))))))))) = AV.p (.c (.v (.bool true))))] gamOK hT mixed h (by kernel_rfl) ⟨(by exact (Sh.fit_getD hf0.1 i)), hint_bool (h7), hint_bool (ndT h9), (by exact (Sh.fit_getD hf0.2.2.1 i)), hint_bool (h10), trivial⟩ fun a w h => then_normal ?_
          refine at_test true h (by kernel_rfl) (fun hh => ?_) (fun hh => nomatch hh)
          refine wp_seq ?_
          refine at_reg [] { ts := [1, 2, 3, 4, 58, 59, 60, 61, 64, 65, 66, 69, 70, 71, 72, 75, 76, 77, 78, 81, 82, 83, 84, 85, 86, 89, 90, 91, 92, 93, 94], os := [1, 2] } ⟨[(1, aP 1 0), (2, aB false), (3, aI ((List.length x0.1 : Nat) : Int)), (4, aI ((i : Nat) : Int)), (58, aP 2 0), (59, aI (x0.1.getD i (0, [])).1), (60, aI ((i : Nat) : Int)), (61, aB false), (64, aG [cI (x0.2.2.1.getD i (0, (0, (0, ([], 0))))).1, cI (x0.2.2.1.getD i (0, (0, (0, ([], 0))))).2.1, cI (x0.2.2.1.getD i (0, (0, (0, ([], 0))))).2.2.1, .ro s61 (x0.2.2.1.getD i (0, (0, (0, ([], 0))))).2.2.2.1, cI (x0.2.2.1.getD i (0, (0, (0, ([], 0))))).2.2.2.2]), (65, aB (validR (x0.2.2.1.getD i (0, (0, (0, ([], 0))))))), (66, aB true), (69, .p (.c (.v undef))), (70, .p (.c (.v undef))), (71, .p (.c (.v undef))), (72, .p (.c (.v undef))), (75, .p (.c (.v undef))), (76, .p (.c (.v undef))), (77, .p (.c (.v undef))), (78, .p (.c (.v undef))), (81, .p (.c (.v undef))), (82, .p (.c (.v undef))), (83, .p (.c (.v undef))), (84, .p (.c (.v undef))), (85, .p (.c (.v undef))), (86, .p (.c (.v undef))), (89, .p (.c (.v undef))), (90, .p (.c (.v undef))), (91, .p (.c (.v undef))), (92, .p (.c (.v undef))), (93, .p (.c (.v undef))), (94, .p (.c (.v undef)))], [(1, oX 91 [.ro s218 x0.1, cI x0.2.1.1, cI x0.2.1.2.1, cI x0.2.1.2.2.1, cI x0.2.1.2.2.2, .ro s128 x0.2.2.1, .ro s247 x0.2.2.2.1, cI x0.2.2.2.2]), (2, oX 218 [cI (x0.1.getD i (0, [])).1, .ro s22 (x0.1.getD i (0, [])).2])]⟩ [] gamOK hT h (by kernel_rfl) trivial fun a w h => then_normal (wp_ret (in_ret (then_ret ?_)))
          have hs11 : (allN (srcB x0) (List.length x0.1)) = false := by exact allN_at (i := i) (by omega) (by exact srcB_f (by first | (left; assumption) | (right; right; left; assumption) | (right; left; omega) | (right; right; right; left; omega) | (right; right; right; right; left; omega) | (right; right; right; right; right; left; omega) | (right; right; right; right; right; right; omega)))
          refine then_ret (in_ret (then_ret ?_))
          exact at_return (S := S_spec_IsValidSource) (x := (x0, ())) (false, ()) [] h (by kernel_rfl) trivial (congrArg (fun z => (z, ())) (show (false) = validSo x0 from by first | rfl | (unfold validSo; rw [if_pos (notF h1), if_pos (notF h2), if_pos h3, if_pos h4, if_pos h5, if_neg (neT hs11)]; done) | (unfold validSo; simp_all)))
         ·have hzh10 : (validR (x0.2.2.1.getD i (0, (0, (0, ([], 0)))))) = true := notF h10
          have hvh10 := validR_t (notF h10)
          by_cases h12 : ((List.length (x0.2.2.1.getD i (0, (0, (0, ([], 0))))).2.2.2.1 : Nat) : Int) > 0
          ·refine at_anyq [{}, {}, { hint := some (aB false) }, {}, {}, {}, {}, { hint := some (aB false) }, {}, {}, {}, {}, { hint := some (aB false) }, {}, {}, {}, {}, {}, { hint := some (aB true) }, {}, {}, {}, {}, {}, {}, {}, {}, {}, {}, {}, {}, {}, {}, {}, {}, {}, {}, {}, {}, {}, {}, {}] { ts := [1, 2, 3, 4, 58, 59, 60, 61, 64, 65, 66, 69, 70, 71, 72, 75, 76, 77, 78, 81, 82, 83, 84, 85, 86, 89, 90, 91, 92, 93, 94, 95], os := [1, 2, 3] } [Q_spec_IsValidGeneration (x0.1.getD i (0, [])), (AV.p (.c (.v (.bool (!(validG (x0.1.getD i (0, []))))))) = AV.p (.c (.v (.bool false)))), (AV.p (.c (.v (.bool (!decide ((x0.1.getD i (0, [])).1 = ((i : Nat) : Int)))))) = AV.p (.c (.v (.bool false)))), Q_spec_IsValidRecoder (x0.2.2.1.getD i (0, (0, (0, ([], 0))))), (AV.p (.c (.v (.bool (!(validR (x0.2.2.1.getD i (0, (0, (0, ([], 0)))))))))) = AV.p (.c (.v (.bool false)))), (AV.p (.c (.v (.bool (decide (((List.length (x0.2.2.1.getD i (0, (0, (0, ([], 0))))).2.2.2.1 : Nat) : Int) > 0))))) = AV.p (.c (.v (.bool true))))] gamOK hT mixed h (by kernel_rfl) ⟨(by exact (Sh.fit_getD hf0.1 i)), hint_bool (h7), hint_bool (ndT h9), (by exact (Sh.fit_getD hf0.2.2.1 i)), hint_bool (h10), hint_bool (decide_eq_true h12), trivial⟩ fun a w h => then_normal ?_
           refine at_test true h (by kernel_rfl) (fun hh => ?_) (fun hh => nomatch hh)
           refine wp_seq ?_
           refine at_reg [] { ts := [1, 2, 3, 4, 58, 59, 60, 61, 64, 65, 66, 69, 70, 71, 72, 75, 76, 77, 78, 81, 82, 83, 84, 85, 86, 89, 90, 91, 92, 93, 94], os := [1, 2, 3] } ⟨[(1, aP 1 0), (2, aB false), (3, aI ((List.length x0.1 : Nat) : Int)), (4, aI ((i : Nat) : Int)), (58, aP 2 0), (59, aI (x0.1.getD i (0, [])).1), (60, aI ((i : Nat) : Int)), (61, aB false), (64, aG [cI (x0.2.2.1.getD i (0, (0, (0, ([], 0))))).1, cI (x0.2.2.1.getD i (0, (0, (0, ([], 0))))).2.1, cI (x0.2.2.1.getD i (0, (0, (0, ([], 0))))).2.2.1, .ro s61 (x0.2.2.1.getD i (0, (0, (0, ([], 0))))).2.2.2.1, cI (x0.2.2.1.getD i (0, (0, (0, ([], 0))))).2.2.2.2]), (65, aB (validR (x0.2.2.1.getD i (0, (0, (0, ([], 0))))))), (66, aB false), (69, aP 3 3), (70, aF s61 (x0.2.2.1.getD i (0, (0, (0, ([], 0))))).2.2.2.1), (71, aI ((List.length (x0.2.2.1.getD i (0, (0, (0, ([], 0))))).2.2.2.1 : Nat) : Int)), (72, aB true), (75, .p (.c (.v undef))), (76, .p (.c (.v undef))), (77, .p (.c (.v undef))), (78, .p (.c (.v undef))), (81, .p (.c (.v undef))), (82, .p (.c (.v undef))), (83, .p (.c (.v undef))), (84, .p (.c (.v undef))), (85, .p (.c (.v undef))), (86, .p (.c (.v undef))), (89, .p (.c (.v undef))), (90, .p (.c (.v undef))), (91, .p (.c (.v undef))), (92, .p (.c (.v undef))), (93, .p (.c (.v undef))), (94, .p (.c (.v undef)))], [(1, oX 91 [.ro s218 x0.1, cI x0.2.1.1, cI x0.2.1.2.1, cI x0.2.1.2.2.1, cI x0.2.1.2.2.2, .ro s128 x0.2.2.1, .ro s247 x0.2.2.2.1, cI x0.2.2.2.2]), (2, oX 218 [cI (x0.1.getD i (0, [])).1, .ro s22 (x0.1.getD i (0, [])).2]), (3, oX 128 [cI (x0.2.2.1.getD i (0, (0, (0, ([], 0))))).1, cI (x0.2.2.1.getD i (0, (0, (0, ([], 0))))).2.1, cI (x0.2.2.1.getD i (0, (0, (0, ([], 0))))).2.2.1, .ro s61 (x0.2.2.1.getD i (0, (0, (0, ([], 0))))).2.2.2.1, cI (x0.2.2.1.getD i (0, (0, (0, ([], 0))))).2.2.2.2])]⟩ [] gamOK hT h (by kernel_rfl) trivial fun a w h => then_normal (wp_ret (in_ret (then_ret ?_)))
           have hs13 : (allN (srcB x0) (List.length x0.1)) = false := by exact allN_at (i := i) (by omega) (by exact srcB_f (by first | (left; assumption) | (right; right; left; assumption) | (right; left; omega) | (right; right; right; left; omega) | (right; right; right; right; left; omega) | (right; right; right; right; right; left; omega) | (right; right; right; right; right; right; omega)))
           refine then_ret (in_ret (then_ret ?_))
           exact at_return (S := S_spec_IsValidSource) (x := (x0, ())) (false, ()) [] h (by kernel_rfl) trivial (congrArg (fun z => (z, ())) (show (false) = validSo x0 from by first | rfl | (unfold validSo; rw [if_pos (notF h1), if_pos (notF h2), if_pos h3, if_pos h4, if_pos h5, if_neg (neT hs13)]; done) | (unfold validSo; simp_all)))
          ·by_cases h14 : (x0.2.2.1.getD i (0, (0, (0, ([], 0))))).1 = ((i : Nat) : Int)
           ·by_cases h15 : (x0.2.2.1.getD i (0, (0, (0, ([], 0))))).2.1 = ((List.length (x0.1.getD i (0, [])).2 : Nat) : Int)
            ·refine at_anyq [{}, {}, { hint := some (aB false) }, {}, {}, {}, {}, { hint := some (aB false) }, {}, {}, {}, {}, { hint := some (aB false) }, {}, {}, {}, {}, {}, { hint := some (aB false) }, {}, {}, {}, {}, {}, { hint := some (aB false) }, {}, {}, {}, {}, {}, {}, {}, { hint := some (aB false) }, {}, {}, {}, {}, {}, {}, {}, {}, {}] { ts := [1, 2, 3, 4, 58, 59, 60, 61, 64, 65, 66, 69, 70, 71, 72, 75, 76, 77, 78, 81, 82, 83, 84, 85, 86, 89, 90, 91, 92, 93, 94, 95], os := [1, 2, 3] } [Q_spec_IsValidGeneration (x0.1.getD i (0, [])), (AV.p (.c (.v (.bool (!(validG (x0.1.getD i (0, []))))))) = AV.p (.c (.v (.bool false)))), (AV.p (.c (.v (.bool (!decide ((x0.1.getD i (0, [])).1 = ((i : Nat) : Int)))))) = AV.p (.c (.v (.bool false)))), Q_spec_IsValidRecoder (x0.2.2.1.getD i (0, (0, (0, ([], 0))))), (AV.p (.c (.v (.bool (!(validR (x0.2.2.1.getD i (0, (0, (0, ([], 0)))))))))) = AV.p (.c (.v (.bool false)))), (AV.p (.c (.v (.bool (decide (((List.length (x0.2.2.1.getD i (0, (0, (0, ([], 0))))).2.2.2.1 : Nat) : Int) > 0))))) = AV.p (.c (.v (.bool false)))), (AV.p (.c (.v (.bool (!decide ((x0.2.2.1.getD i (0, (0, (0, ([], 0))))).1 = ((i : Nat) : Int)))))) = AV.p (.c (.v (.bool false)))), (AV.p (.c (.v (.bool (!decide ((x0.2.2.1.getD i (0, (0, (0, ([], 0))))).2.1 = ((List.length (x0.1.getD i (0, [])).2 : Nat) : Int)))))) = AV.p (.c (.v (.bool false)))), Q_spec_ColumnsOf (x0.1.getD i (0, [])).2] gamOK hT mixed h (by kernel_rfl) ⟨(by exact (Sh.fit_getD hf0.1 i)), hint_bool (h7), hint_bool (ndT h9), (by exact (Sh.fit_getD hf0.2.2.1 i)), hint_bool (h10), hint_bool (decide_eq_false h12), hint_bool (ndT h14), hint_bool (ndT h15), (by exact (Sh.fit_getD hf0.1 i).2), trivial⟩ fun a w h => then_normal ?_
             refine at_test (!decide ((x0.2.2.1.getD i (0, (0, (0, ([], 0))))).2.2.1 = (colsOf (x0.1.getD i (0, [])).2))) h (by kernel_rfl) (fun h16 => ?_) (fun h16 => ?_)
             ·replace h16 : ¬ ((x0.2.2.1.getD i (0, (0, (0, ([], 0))))).2.2.1 = (colsOf (x0.1.getD i (0, [])).2)) := of_decide_eq_false (notT h16)
              refine wp_seq ?_
              refine at_reg [] { ts := [1, 2, 3, 4, 58, 59, 60, 61, 64, 65, 66, 69, 70, 71, 72, 75, 76, 77, 78, 81, 82, 83, 84, 85, 86, 89, 90, 91, 92, 93, 94], os := [1, 2, 3] } ⟨[(1, aP 1 0), (2, aB false), (3, aI ((List.length x0.1 : Nat) : Int)), (4, aI ((i : Nat) : Int)), (58, aP 2 0), (59, aI (x0.1.getD i (0, [])).1), (60, aI ((i : Nat) : Int)), (61, aB false), (64, aG [cI (x0.2.2.1.getD i (0, (0, (0, ([], 0))))).1, cI (x0.2.2.1.getD i (0, (0, (0, ([], 0))))).2.1, cI (x0.2.2.1.getD i (0, (0, (0, ([], 0))))).2.2.1, .ro s61 (x0.2.2.1.getD i (0, (0, (0, ([], 0))))).2.2.2.1, cI (x0.2.2.1.getD i (0, (0, (0, ([], 0))))).2.2.2.2]), (65, aB (validR (x0.2.2.1.getD i (0, (0, (0, ([], 0))))))), (66, aB false), (69, aP 3 3), (70, aF s61 (x0.2.2.1.getD i (0, (0, (0, ([], 0))))).2.2.2.1), (71, aI ((List.length (x0.2.2.1.getD i (0, (0, (0, ([], 0))))).2.2.2.1 : Nat) : Int)), (72, aB false), (75, aP 3 0), (76, aI (x0.2.2.1.getD i (0, (0, (0, ([], 0))))).1), (77, aI ((i : Nat) : Int)), (78, aB false), (81, aP 3 1), (82, aI (x0.2.2.1.getD i (0, (0, (0, ([], 0))))).2.1), (83, aP 2 1), (84, aF s22 (x0.1.getD i (0, [])).2), (85, aI ((List.length (x0.1.getD i (0, [])).2 : Nat) : Int)), (86, aB false), (89, aP 3 2), (90, aI (x0.2.2.1.getD i (0, (0, (0, ([], 0))))).2.2.1), (91, aP 2 1), (92, aF s22 (x0.1.getD i (0, [])).2), (93, aI (colsOf (x0.1.getD i (0, [])).2)), (94, aB (!decide ((x0.2.2.1.getD i (0, (0, (0, ([], 0))))).2.2.1 = (colsOf (x0.1.getD i (0, [])).2))))], [(1, oX 91 [.ro s218 x0.1, cI x0.2.1.1, cI x0.2.1.2.1, cI x0.2.1.2.2.1, cI x0.2.1.2.2.2, .ro s128 x0.2.2.1, .ro s247 x0.2.2.2.1, cI x0.2.2.2.2]), (2, oX 218 [cI (x0.1.getD i (0, [])).1, .ro s22 (x0.1.getD i (0, [])).2]), (3, oX 128 [cI (x0.2.2.1.getD i (0, (0, (0, ([], 0))))).1, cI (x0.2.2.1.getD i (0, (0, (0, ([], 0))))).2.1, cI (x0.2.2.1.getD i (0, (0, (0, ([], 0))))).2.2.1, .ro s61 (x0.2.2.1.getD i (0, (0, (0, ([], 0))))).2.2.2.1, cI (x0.2.2.1.getD i (0, (0, (0, ([], 0))))).2.2.2.2])]⟩ [] gamOK hT h (by kernel_rfl) trivial fun a w h => then_normal (wp_ret (in_ret (then_ret ?_)))
              have hs17 : (allN (srcB x0) (List.length x0.1)) = false := by exact allN_at (i := i) (by omega) (by exact srcB_f (by first | (left; assumption) | (right; right; left; assumption) | (right; left; omega) | (right; right; right; left; omega) | (right; right; right; right; left; omega) | (right; right; right; right; right; left; omega) | (right; right; right; right; right; right; omega)))
              refine then_ret (in_ret (then_ret ?_))
              exact at_return (S := S_spec_IsValidSource) (x := (x0, ())) (false, ()) [] h (by kernel_rfl) trivial (congrArg (fun z => (z, ())) (show (false) = validSo x0 from by first | rfl | (unfold validSo; rw [if_pos (notF h1), if_pos (notF h2), if_pos h3, if_pos h4, if_pos h5, if_neg (neT hs17)]; done) | (unfold validSo; simp_all)))
             ·replace h16 : (x0.2.2.1.getD i (0, (0, (0, ([], 0))))).2.2.1 = (colsOf (x0.1.getD i (0, [])).2) := of_decide_eq_true (notF h16)
              refine wp_skip (in_normal (then_normal ?_))
              refine at_reg [{}, { nw := true }] { ts := [1, 2, 3, 4, 58, 59, 60, 61, 64, 65, 66, 69, 70, 71, 72, 75, 76, 77, 78, 81, 82, 83, 84, 85, 86, 89, 90, 91, 92, 93, 94], os := [1, 2, 3] } ⟨[(1, aP 1 0), (2, aB false), (3, aI ((List.length x0.1 : Nat) : Int)), (4, aI (((i : Nat) : Int) + 1)), (58, aP 2 0), (59, aI (x0.1.getD i (0, [])).1), (60, aI ((i : Nat) : Int)), (61, aB false), (64, aG [cI (x0.2.2.1.getD i (0, (0, (0, ([], 0))))).1, cI (x0.2.2.1.getD i (0, (0, (0, ([], 0))))).2.1, cI (x0.2.2.1.getD i (0, (0, (0, ([], 0))))).2.2.1, .ro s61 (x0.2.2.1.getD i (0, (0, (0, ([], 0))))).2.2.2.1, cI (x0.2.2.1.getD i (0, (0, (0, ([], 0))))).2.2.2.2]), (65, aB (validR (x0.2.2.1.getD i (0, (0, (0, ([], 0))))))), (66, aB false), (69, aP 3 3), (70, aF s61 (x0.2.2.1.getD i (0, (0, (0, ([], 0))))).2.2.2.1), (71, aI ((List.length (x0.2.2.1.getD i (0, (0, (0, ([], 0))))).2.2.2.1 : Nat) : Int)), (72, aB false), (75, aP 3 0), (76, aI (x0.2.2.1.getD i (0, (0, (0, ([], 0))))).1), (77, aI ((i : Nat) : Int)), (78, aB false), (81, aP 3 1), (82, aI (x0.2.2.1.getD i (0, (0, (0, ([], 0))))).2.1), (83, aP 2 1), (84, aF s22 (x0.1.getD i (0, [])).2), (85, aI ((List.length (x0.1.getD i (0, [])).2 : Nat) : Int)), (86, aB false), (89, aP 3 2), (90, aI (x0.2.2.1.getD i (0, (0, (0, ([], 0))))).2.2.1), (91, aP 2 1), (92, aF s22 (x0.1.getD i (0, [])).2), (93, aI (colsOf (x0.1.getD i (0, [])).2)), (94, aB (!decide ((x0.2.2.1.getD i (0, (0, (0, ([], 0))))).2.2.1 = (colsOf (x0.1.getD i (0, [])).2))))], [(1, oX 91 [.ro s218 x0.1, cI x0.2.1.1, cI x0.2.1.2.1, cI x0.2.1.2.2.1, cI x0.2.1.2.2.2, .ro s128 x0.2.2.1, .ro s247 x0.2.2.2.1, cI x0.2.2.2.2]), (2, oX 218 [cI (x0.1.getD i (0, [])).1, .ro s22 (x0.1.getD i (0, [])).2]), (3, oX 128 [cI (x0.2.2.1.getD i (0, (0, (0, ([], 0))))).1, cI (x0.2.2.1.getD i (0, (0, (0, ([], 0))))).2.1, cI (x0.2.2.1.getD i (0, (0, (0, ([], 0))))).2.2.1, .ro s61 (x0.2.2.1.getD i (0, (0, (0, ([], 0))))).2.2.2.1, cI (x0.2.2.1.getD i (0, (0, (0, ([], 0))))).2.2.2.2])]⟩ [I64 (((i : Nat) : Int) + 1)] gamOK hT h (by kernel_rfl) ⟨⟨by first | omega | (simp only [lsA]; omega) | (simp <;> omega), by first | omega | (simp only [lsA]; omega) | (simp <;> omega)⟩, trivial⟩ fun a w h => ?_
              replace h := at_out (σ' := ⟨[(1, aP 1 0), (2, aB false), (3, aI ((List.length x0.1 : Nat) : Int)), (4, aI (((i : Nat) : Int) + 1))], [(1, oX 91 [.ro s218 x0.1, cI x0.2.1.1, cI x0.2.1.2.1, cI x0.2.1.2.2.1, cI x0.2.1.2.2.2, .ro s128 x0.2.2.1, .ro s247 x0.2.2.2.1, cI x0.2.2.2.2])]⟩) { ts := [1, 2, 3, 4], os := [1] } h (by kernel_rfl)
              exact ⟨i + 1, at_eq h (st_congr1 (fun (d0 : Int) => (⟨[(1, aP 1 0), (2, aB false), (3, aI ((List.length x0.1 : Nat) : Int)), (4, aI d0)], [(1, oX 91 [.ro s218 x0.1, cI x0.2.1.1, cI x0.2.1.2.1, cI x0.2.1.2.2.1, cI x0.2.1.2.2.2, .ro s128 x0.2.2.1, .ro s247 x0.2.2.2.1, cI x0.2.2.2.2])]⟩ : St)) (show (((i : Nat) : Int) + 1 : Int) = (((i + 1) : Nat) : Int) from by first | with_reducible rfl | (omega) | rfl)), (by exact ⟨by omega, allN_succ hok0.2 (by exact srcB_t (by assumption) (by omega) (by assumption) (by omega) (by omega) (by omega) (by omega))⟩), (by omega)⟩
            ·refine at_anyq [{}, {}, { hint := some (aB false) }, {}, {}, {}, {}, { hint := some (aB false) }, {}, {}, {}, {}, { hint := some (aB false) }, {}, {}, {}, {}, {}, { hint := some (aB false) }, {}, {}, {}, {}, {}, { hint := some (aB false) }, {}, {}, {}, {}, {}, {}, {}, { hint := some (aB true) }, {}, {}, {}, {}, {}, {}, {}, {}, {}] { ts := [1, 2, 3, 4, 58, 59, 60, 61, 64, 65, 66, 69, 70, 71, 72, 75, 76, 77, 78, 81, 82, 83, 84, 85, 86, 89, 90, 91, 92, 93, 94, 95], os := [1, 2, 3] } [Q_spec_IsValidGeneration (x0.1.getD i (0, [])), (AV.p (.c (.v (.bool (!(validG (x0.1.getD i (0, []))))))) = AV.p (.c (.v (.bool false)))), (AV.p (.c (.v (.bool (!decide ((x0.1.getD i (0, [])).1 = ((i : Nat) : Int)))))) = AV.p (.c (.v (.bool false)))), Q_spec_IsValidRecoder (x0.2.2.1.getD i (0, (0, (0, ([], 0))))), (AV.p (.c (.v (.bool (!(validR (x0.2.2.1.getD i (0, (0, (0, ([], 0)))))))))) = AV.p (.c (.v (.bool false)))), (AV.p (.c (.v (.bool (decide (((List.length (x0.2.2.1.getD i (0, (0, (0, ([], 0))))).2.2.2.1 : Nat) : Int) > 0))))) = AV.p (.c (.v (.bool false)))), (AV.p (.c (.v (.bool (!decide ((x0.2.2.1.getD i (0, (0, (0, ([], 0))))).1 = ((i : Nat) : Int)))))) = AV.p (.c (.v (.bool false)))), (AV.p (.c (.v (.bool (!decide ((x0.2.2.1.getD i (0, (0, (0, ([], 0))))).2.1 = ((List.length (x0.1.getD i (0, [])).2 : Nat) : Int)))))) = AV.p (.c (.v (.bool true))))] gamOK hT mixed h (by kernel_rfl) ⟨(by exact (Sh.fit_getD hf0.1 i)), hint_bool (h7), hint_bool (ndT h9), (by exact (Sh.fit_getD hf0.2.2.1 i)), hint_bool (h10), hint_bool (decide_eq_false h12), hint_bool (ndT h14), hint_bool (ndF h15), trivial⟩ fun a w h => then_normal ?_
             refine at_test true h (by kernel_rfl) (fun hh => ?_) (fun hh => nomatch hh)
             refine wp_seq ?_
             refine at_reg [] { ts := [1, 2, 3, 4, 58, 59, 60, 61, 64, 65, 66, 69, 70, 71, 72, 75, 76, 77, 78, 81, 82, 83, 84, 85, 86, 89, 90, 91, 92, 93, 94], os := [1, 2, 3] } ⟨[(1, aP 1 0), (2, aB false), (3, aI ((List.length x0.1 : Nat) : Int)), (4, aI ((i : Nat) : Int)), (58, aP 2 0), (59, aI (x0.1.getD i (0, [])).1), (60, aI ((i : Nat) : Int)), (61, aB false), (64, aG [cI (x0.2.2.1.getD i (0, (0, (0, ([], 0))))).1, cI (x0.2.2.1.getD i (0, (0, (0, ([], 0))))).2.1, cI (x0.2.2.1.getD i (0, (0, (0, ([], 0))))).2.2.1, .ro s61 (x0.2.2.1.getD i (0, (0, (0, ([], 0))))).2.2.2.1, cI (x0.2.2.1.getD i (0, (0, (0, ([], 0))))).2.2.2.2]), (65, aB (validR (x0.2.2.1.getD i (0, (0, (0, ([], 0))))))), (66, aB false), (69, aP 3 3), (70, aF s61 (x0.2.2.1.getD i (0, (0, (0, ([], 0))))).2.2.2.1), (71, aI ((List.length (x0.2.2.1.getD i (0, (0, (0, ([], 0))))).2.2.2.1 : Nat) : Int)), (72, aB false), (75, aP 3 0), (76, aI (x0.2.2.1.getD i (0, (0, (0, ([], 0))))).1), (77, aI ((i : Nat) : Int)), (78, aB false), (81, aP 3 1), (82, aI (x0.2.2.1.getD i (0, (0, (0, ([], 0))))).2.1), (83, aP 2 1), (84, aF s22 (x0.1.getD i (0, [])).2), (85, aI ((List.length (x0.1.getD i (0, [])).2 : Nat) : Int)), (86, aB true), (89, .p (.c (.v undef))), (90, .p (.c (.v undef))), (91, .p (.c (.v undef))), (92, .p (.c (.v undef))), (93, .p (.c (.v undef))), (94, .p (.c (.v undef)))], [(1, oX 91 [.ro s218 x0.1, cI x0.2.1.1, cI x0.2.1.2.1, cI x0.2.1.2.2.1, cI x0.2.1.2.2.2, .ro s128 x0.2.2.1, .ro s247 x0.2.2.2.1, cI x0.2.2.2.2]), (2, oX 218 [cI (x0.1.getD i (0, [])).1, .ro s22 (x0.1.getD i (0, [])).2]), (3, oX 128 [cI (x0.2.2.1.getD i (0, (0, (0, ([], 0))))).1, cI (x0.2.2.1.getD i (0, (0, (0, ([], 0))))).2.1, cI (x0.2.2.1.getD i (0, (0, (0, ([], 0))))).2.2.1, .ro s61 (x0.2.2.1.getD i (0, (0, (0, ([], 0))))).2.2.2.1, cI (x0.2.2.1.getD i (0, (0, (0, ([], 0))))).2.2.2.2])]⟩ [] gamOK hT h (by kernel_rfl) trivial fun a w h => then_normal (wp_ret (in_ret (then_ret ?_)))
             have hs18 : (allN (srcB x0) (List.length x0.1)) = false := by exact allN_at (i := i) (by omega) (by exact srcB_f (by first | (left; assumption) | (right; right; left; assumption) | (right; left; omega) | (right; right; right; left; omega) | (right; right; right; right; left; omega) | (right; right; right; right; right; left; omega) | (right; right; right; right; right; right; omega)))
             refine then_ret (in_ret (then_ret ?_))
             exact at_return (S := S_spec_IsValidSource) (x := (x0, ())) (false, ()) [] h (by kernel_rfl) trivial (congrArg (fun z => (z, ())) (show (false) = validSo x0 from by first | rfl | (unfold validSo; rw [if_pos (notF h1), if_pos (notF h2), if_pos h3, if_pos h4, if_pos h5, if_neg (neT hs18)]; done) | (unfold validSo; simp_all)))
           ·refine at_anyq [{}, {}, { hint := some (aB false) }, {}, {}, {}, {}, { hint := some (aB false) }, {}, {}, {}, {}, { hint := some (aB false) }, {}, {}, {}, {}, {}, { hint := some (aB false) }, {}, {}, {}, {}, {}, { hint := some (aB true) }, {}, {}, {}, {}, {}, {}, {}, {}, {}, {}, {}, {}, {}, {}, {}, {}, {}] { ts := [1, 2, 3, 4, 58, 59, 60, 61, 64, 65, 66, 69, 70, 71, 72, 75, 76, 77, 78, 81, 82, 83, 84, 85, 86, 89, 90, 91, 92, 93, 94, 95], os := [1, 2, 3] } [Q_spec_IsValidGeneration (x0.1.getD i (0, [])), (AV.p (.c (.v (.bool (!(validG (x0.1.getD i (0, []))))))) = AV.p (.c (.v (.bool false)))), (AV.p (.c (.v (.bool (!decide ((x0.1.getD i (0, [])).1 = ((i : Nat) : Int)))))) = AV.p (.c (.v (.bool false)))), Q_spec_IsValidRecoder (x0.2.2.1.getD i (0, (0, (0, ([], 0))))), (AV.p (.c (.v (.bool (!(validR (x0.2.2.1.getD i (0, (0, (0, ([], 0)))))))))) = AV.p (.c (.v (.bool false)))), (AV.p (.c (.v (.bool (decide (((List.length (x0.2.2.1.getD i (0, (0, (0, ([], 0))))).2.2.2.1 : Nat) : Int) > 0))))) = AV.p (.c (.v (.bool false)))), (AV.p (.c (.v (.bool (!decide ((x0.2.2.1.getD i (0, (0, (0, ([], 0))))).1 = ((i : Nat) : Int)))))) = AV.p (.c (.v (.bool true))))] gamOK hT mixed h (by kernel_rfl) ⟨(by exact (Sh.fit_getD hf0.1 i)), hint_bool (h7), hint_bool (ndT h9), (by exact (Sh.fit_getD hf0.2.2.1 i)), hint_bool (h10), hint_bool (decide_eq_false h12), hint_bool (ndF h14), trivial⟩ fun a w h => then_normal ?_
            refine at_test true h (by kernel_rfl) (fun hh => ?_) (fun hh => nomatch hh)
            refine wp_seq ?_
            refine at_reg [] { ts := [1, 2, 3, 4, 58, 59, 60, 61, 64, 65, 66, 69, 70, 71, 72, 75, 76, 77, 78, 81, 82, 83, 84, 85, 86, 89, 90, 91, 92, 93, 94], os := [1, 2, 3] } ⟨[(1, aP 1 0), (2, aB false), (3, aI ((List.length x0.1 : Nat) : Int)), (4, aI ((i : Nat) : Int)), (58, aP 2 0), (59, aI (x0.1.getD i (0, [])).1), (60, aI ((i : Nat) : Int)), (61, aB false), (64, aG [cI (x0.2.2.1.getD i (0, (0, (0, ([], 0))))).1, cI (x0.2.2.1.getD i (0, (0, (0, ([], 0))))).2.1, cI (x0.2.2.1.getD i (0, (0, (0, ([], 0))))).2.2.1, .ro s61 (x0.2.2.1.getD i (0, (0, (0, ([], 0))))).2.2.2.1, cI (x0.2.2.1.getD i (0, (0, (0, ([], 0))))).2.2.2.2]), (65, aB (validR (x0.2.2.1.getD i (0, (0, (0, ([], 0))))))), (66, aB false), (69, aP 3 3), (70, aF s61 (x0.2.2.1.getD i (0, (0, (0, ([], 0))))).2.2.2.1), (71, aI ((List.length (x0.2.2.1.getD i (0, (0, (0, ([], 0))))).2.2.2.1 : Nat) : Int)), (72, aB false), (75, aP 3 0), (76, aI (x0.2.2.1.getD i (0, (0, (0, ([], 0))))).1), (77, aI ((i : Nat) : Int)), (78, aB true), (81, .p (.c (.v undef))), (82, .p (.c (.v undef))), (83, .p (.c (.v undef))), (84, .p (.c (.v undef))), (85, .p (.c (.v undef))), (86, .p (.c (.v undef))), (89, .p (.c (.v undef))), (90, .p (.c (.v undef))), (91, .p (.c (.v undef))), (92, .p (.c (.v undef))), (93, .p (.c (.v undef))), (94, .p (.c (.v undef)))], [(1, oX 91 [.ro s218 x0.1, cI x0.2.1.1, cI x0.2.1.2.1, cI x0.2.1.2.2.1, cI x0.2.1.2.2.2, .ro s128 x0.2.2.1, .ro s247 x0.2.2.2.1, cI x0.2.2.2.2]), (2, oX 218 [cI (x0.1.getD i (0, [])).1, .ro s22 (x0.1.getD i (0, [])).2]), (3, oX 128 [cI (x0.2.2.1.getD i (0, (0, (0, ([], 0))))).1, cI (x0.2.2.1.getD i (0, (0, (0, ([], 0))))).2.1, cI (x0.2.2.1.getD i (0, (0, (0, ([], 0))))).2.2.1, .ro s61 (x0.2.2.1.getD i (0, (0, (0, ([], 0))))).2.2.2.1, cI (x0.2.2.1.getD i (0, (0, (0, ([], 0))))).2.2.2.2])]⟩ [] gamOK hT h (by kernel_rfl) trivial fun a w h => then_normal (wp_ret (in_ret (then_ret ?_)))
            have hs19 : (allN (srcB x0) (List.length x0.1)) = false := by exact allN_at (i := i) (by omega) (by exact srcB_f (by first | (left; assumption) | (right; right; left; assumption) | (right; left; omega) | (right; right; right; left; omega) | (right; right; right; right; left; omega) | (right; right; right; right; right; left; omega) | (right; right; right; right; right; right; omega)))
            refine then_ret (in_ret (then_ret ?_))
            exact at_return (S := S_spec_IsValidSource) (x := (x0, ())) (false, ()) [] h (by kernel_rfl) trivial (congrArg (fun z => (z, ())) (show (false) = validSo x0 from by first | rfl | (unfold validSo; rw [if_pos (notF h1), if_pos (notF h2), if_pos h3, if_pos h4, if_pos h5, if_neg (neT hs19)]; done) | (unfold validSo; simp_all)))
        ·refine at_anyq [{}, {}, { hint := some (aB false) }, {}, {}, {}, {}, { hint := some (aB true) }, {}, {}, {}, {}, {}, {}, {}, {}, {}, {}, {}, {}, {}, {}, {}, {}, {}, {}, {}, {}, {}, {}, {}, {}, {}, {}, {}, {}, {}, {}, {}, {}, {}, {}] { ts := [1, 2, 3, 4, 58, 59, 60, 61, 64, 65, 66, 69, 70, 71, 72, 75, 76, 77, 78, 81, 82, 83, 84, 85, 86, 89, 90, 91, 92, 93, 94, 95], os := [1, 2] } [Q_spec_IsValidGeneration (x0.1.getD i (0, [])), (AV.p (.c (.v (.bool (!(validG (x0.1.getD i (0, []))))))) = AV.p (.c (.v (.bool false)))), (AV.p (.c (.v (.bool (!decide ((x0.1.getD i (0, [])).1 = ((i : Nat) : Int)))))) = AV.p (.c (.v (.bool true))))] gamOK hT mixed h (by kernel_rfl) ⟨(by exact (Sh.fit_getD hf0.1 i)), hint_bool (h7), hint_bool (ndF h9), trivial⟩ fun a w h => then_normal ?_
         refine at_test true h (by kernel_rfl) (fun hh => ?_) (fun hh => nomatch hh)
         refine wp_seq ?_
         refine at_reg [] { ts := [1, 2, 3, 4, 58, 59, 60, 61, 64, 65, 66, 69, 70, 71, 72, 75, 76, 77, 78, 81, 82, 83, 84, 85, 86, 89, 90, 91, 92, 93, 94], os := [1, 2] } ⟨[(1, aP 1 0), (2, aB false), (3, aI ((List.length x0.1 : Nat) : Int)), (4, aI ((i : Nat) : Int)), (58, aP 2 0), (59, aI (x0.1.getD i (0, [])).1), (60, aI ((i : Nat) : Int)), (61, aB true), (64, .p (.c (.v undef))), (65, .p (.c (.v undef))), (66, .p (.c (.v undef))), (69, .p (.c (.v undef))), (70, .p (.c (.v undef))), (71, .p (.c (.v undef))), (72, .p (.c (.v undef))), (75, .p (.c (.v undef))), (76, .p (.c (.v undef))), (77, .p (.c (.v undef))), (78, .p (.c (.v undef))), (81, .p (.c (.v undef))), (82, .p (.c (.v undef))), (83, .p (.c (.v undef))), (84, .p (.c (.v undef))), (85, .p (.c (.v undef))), (86, .p (.c (.v undef))), (89, .p (.c (.v undef))), (90, .p (.c (.v undef))), (91, .p (.c (.v undef))), (92, .p (.c (.v undef))), (93, .p (.c (.v undef))), (94, .p (.c (.v undef)))], [(1, oX 91 [.ro s218 x0.1, cI x0.2.1.1, cI x0.2.1.2.1, cI x0.2.1.2.2.1, cI x0.2.1.2.2.2, .ro s128 x0.2.2.1, .ro s247 x0.2.2.2.1, cI x0.2.2.2.2]), (2, oX 218 [cI (x0.1.getD i (0, [])).1, .ro s22 (x0.1.getD i (0, [])).2])]⟩ [] gamOK hT h (by kernel_rfl) trivial fun a w h => then_normal (wp_ret (in_ret (then_ret ?_)))
         have hs20 : (allN (srcB x0) (List.length x0.1)) = false := by exact allN_at (i := i) (by omega) (by exact srcB_f (by first | (left; assumption) | (right; right; left; assumption) | (right; left; omega) | (right; right; right; left; omega) | (right; right; right; right; left; omega) | (right; right; right; right; right; left; omega) | (right; right; right; right; right; right; omega)))
         refine then_ret (in_ret (then_ret ?_))
         exact at_return (S := S_spec_IsValidSource) (x := (x0, ())) (false, ()) [] h (by kernel_rfl) trivial (congrArg (fun z => (z, ())) (show (false) = validSo x0 from by first | rfl | (unfold validSo; rw [if_pos (notF h1), if_pos (notF h2), if_pos h3, if_pos h4, if_pos h5, if_neg (neT hs20)]; done) | (unfold validSo; simp_all)))
      ·replace h6 : ¬ (((i : Nat) : Int) < ((List.length x0.1 : Nat) : Int)) := of_decide_eq_false h6
       refine wp_exit (then_exit ?_)
       have hs21 : (allN (srcB x0) (List.length x0.1)) = true := by exact allN_eq (by omega) hok0.1 hok0.2
       refine then_exit (in_hit (then_normal (wp_seq ?_)))
       refine at_regq [] { ts := [2], os := [] } [] gamOK hT h (by kernel_rfl) trivial fun a w h => then_normal (wp_ret ?_)
       exact at_return (S := S_spec_IsValidSource) (x := (x0, ())) (true, ()) [] h (by kernel_rfl) trivial (congrArg (fun z => (z, ())) (show (true) = validSo x0 from by first | rfl | (unfold validSo; rw [if_pos (notF h1), if_pos (notF h2), if_pos h3, if_pos h4, if_pos h5, if_pos hs21]; done) | (unfold validSo; simp_all)))
    ·refine at_regq [{}, {}, { hint := some (aB false) }, {}, {}, {}, {}, { hint := some (aB false) }, {}, {}, {}, {}, {}, {}, { hint := some (aB false) }, {}, {}, {}, {}, {}, {}, { hint := some (aB true) }] { ts := [1, 2, 3, 38], os := [1] } [True, (AV.p (.c (.v (.bool (!(inR ((List.length x0.1 : Nat) : Int) 1 60))))) = AV.p (.c (.v (.bool false)))), True, (AV.p (.c (.v (.bool (!(validW x0.2.1))))) = AV.p (.c (.v (.bool false)))), (AV.p (.c (.v (.bool (!decide (x0.2.1.2.2.2 = ((List.length x0.1 : Nat) : Int)))))) = AV.p (.c (.v (.bool false)))), (AV.p (.c (.v (.bool (!decide (((List.length x0.2.2.1 : Nat) : Int) = ((List.length x0.1 : Nat) : Int)))))) = AV.p (.c (.v (.bool true))))] gamOK hT h (by kernel_rfl) ⟨trivial, hint_bool (h1), trivial, hint_bool (h2), hint_bool (ndT h3), hint_bool (ndF h4), trivial⟩ fun a w h => then_normal ?_
     refine at_test true h (by kernel_rfl) (fun hh => ?_) (fun hh => nomatch hh)
     refine wp_seq ?_
     refine at_regq [] { ts := [1, 2, 3], os := [1] } [] gamOK hT h (by kernel_rfl) trivial fun a w h => then_normal (wp_ret (then_ret ?_))
     exact at_return (S := S_spec_IsValidSource) (x := (x0, ())) (false, ()) [] h (by kernel_rfl) trivial (congrArg (fun z => (z, ())) (show (false) = validSo x0 from by first | rfl | (unfold validSo; rw [if_pos (notF h1), if_pos (notF h2), if_pos h3, if_neg h4]; done) | (unfold validSo; simp_all)))
   ·refine at_regq [{}, {}, { hint := some (aB false) }, {}, {}, {}, {}, { hint := some (aB false) }, {}, {}, {}, {}, {}, {}, { hint := some (aB true) }] { ts := [1, 2, 3, 38], os := [1] } [True, (AV.p (.c (.v (.bool (!(inR ((List.length x0.1 : Nat) : Int) 1 60))))) = AV.p (.c (.v (.bool false)))), True, (AV.p (.c (.v (.bool (!(validW x0.2.1))))) = AV.p (.c (.v (.bool false)))), (AV.p (.c (.v (.bool (!decide (x0.2.1.2.2.2 = ((List.length x0.1 : Nat) : Int)))))) = AV.p (.c (.v (.bool true))))] gamOK hT h (by kernel_rfl) ⟨trivial, hint_bool (h1), trivial, hint_bool (h2), hint_bool (ndF h3), trivial⟩ fun a w h => then_normal ?_
    refine at_test true h (by kernel_rfl) (fun hh => ?_) (fun hh => nomatch hh)
    refine wp_seq ?_
    refine at_regq [] { ts := [1, 2, 3], os := [1] } [] gamOK hT h (by kernel_rfl) trivial fun a w h => then_normal (wp_ret (then_ret ?_))
    exact at_return (S := S_spec_IsValidSource) (x := (x0, ())) (false, ()) [] h (by kernel_rfl) trivial (congrArg (fun z => (z, ())) (show (false) = validSo x0 from by first | rfl | (unfold validSo; rw [if_pos (notF h1), if_pos (notF h2), if_neg h3]; done) | (unfold validSo; simp_all)))

def D_laws_FnExactIsValidSource := (fun (_ : T83) => true)
abbrev Q_laws_FnExactIsValidSource := (fun (x0 : T83) => Sh.i64 s83 x0)
def S_laws_FnExactIsValidSource : Sum := { fid := 11, dom := [s83], cod := [(.bool 4)], dp := true, fz := false, pre := fun x => Q_laws_FnExactIsValidSource x.1, g := fun x => ((D_laws_FnExactIsValidSource x.1), ()) }
def S_laws_FnExactIsValidSource_tab : List (Nat × Sum) := [(38, S_laws_szSource), (40, S_laws_toSource), (78, S_spec_IsValidSource), (79, S_impl_IsValidSource), (42, S_laws_eqSource)]
theorem S_laws_FnExactIsValidSource_ok : FnOK Try.prog 11 S_laws_FnExactIsValidSource := by
 refine at_enter 27 (fun x => ⟨[(0, aG [.ro s223 x.1.1, cI x.1.2.1.1, cI x.1.2.1.2.1, cI x.1.2.1.2.2.1, cI x.1.2.1.2.2.2, .ro s124 x.1.2.2.1, .ro s285 x.1.2.2.2.1, cI x.1.2.2.2.2])], []⟩) Try.func11 rfl (by kernel_rfl) (fun x => rfl) ?_
 rintro w0 Z0 ⟨x0, u⟩ a w
 revert x0
 intro (x0 : T83) hpre hlens h
 replace h : At w0 Z0 [] 27 ⟨[(0, aG [.ro s223 x0.1, cI x0.2.1.1, cI x0.2.1.2.1, cI x0.2.1.2.2.1, cI x0.2.1.2.2.2, .ro s124 x0.2.2.1, .ro s285 x0.2.2.2.1, cI x0.2.2.2.2])], []⟩ a w := h
 replace hpre : Q_laws_FnExactIsValidSource x0 := hpre
 have hl1 : List.length x0.1 ≤ 9223372036854775807 := hlens.1.1.1
 have hl2 : List.length x0.2.2.1 ≤ 9223372036854775807 := hlens.1.2.2.1.1
 have hl3 : List.length x0.2.2.2.1 ≤ 9223372036854775807 := hlens.1.2.2.2.1.1
 have hT : TabOK Try.prog S_laws_FnExactIsValidSource_tab := (.cons S_laws_szSource_ok (.cons S_laws_toSource_ok (.cons S_spec_IsValidSource_ok (.cons S_impl_IsValidSource_ok (.cons S_laws_eqSource_ok .nil)))))
 have hq0 : Sh.sz s91 x0 = Sh.sz s83 x0 := rfl
 have hb0 : Sh.ctT s91 x0 ≤ 17 * Sh.sz s91 x0 := Sh.ctT_le2 s91 x0
 have hz0 : Sh.ct s91 x0 ≤ 17 * (1 + Sh.sz s91 x0) := Sh.ct_le s91 x0
 have ht0 : Sh.sz s83 x0 = ((Sh.sz s24 x0.1) + ((0 + (0 + (0 + 0))) + ((Sh.sz s78 x0.2.2.1) + ((Sh.sz s79 x0.2.2.2.1) + 0)))) := rfl
 have hs0_1 : Sh.sz s24 x0.1 = List.length x0.1 + ctL (Sh.sz s223) x0.1 := rfl
 have hs0_2 : Sh.sz s78 x0.2.2.1 = List.length x0.2.2.1 + ctL (Sh.sz s124) x0.2.2.1 := rfl
 have hs0_3 : Sh.sz s79 x0.2.2.2.1 = List.length x0.2.2.2.1 := sz_flat (by rfl) _
 refine wp_seq ?_
 refine at_regq [{ ids := [1] }] { ts := [1, 2], os := [1] } [] gamOK hT h (by kernel_rfl) trivial fun a w h => then_normal (wp_seq ?_)
 refine at_regq [] { ts := [1, 2, 3], os := [1] } [] gamOK hT h (by kernel_rfl) trivial fun a w h => then_normal (wp_seq ?_)
 refine at_regq [] { ts := [1, 2, 3], os := [1] } [(pSz s83) x0 1048576] gamOK hT h (by kernel_rfl) ⟨(by (show (0 : Int) ≤ _ ∧ _ ≤ (9223372036854775807 : Int); constructor <;> omega)), trivial⟩ fun a w h => then_normal (wp_seq (wp_seq ?_))
 refine at_regq [] { ts := [1, 2, 11], os := [1] } [] gamOK hT h (by kernel_rfl) trivial fun a w h => then_normal ?_
 refine at_test (decide (((szD s83) x0 1048576) < 0)) h (by kernel_rfl) (fun h1 => ?_) (fun h1 => ?_)
 ·replace h1 : ((szD s83) x0 1048576) < 0 := of_decide_eq_true h1
  have hvh1 := szD_neg h1 (by omega)
  refine wp_seq ?_
  refine at_regq [] { ts := [1, 2], os := [1] } [] gamOK hT h (by kernel_rfl) trivial fun a w h => then_normal (wp_ret (then_ret ?_))
  exact at_return (S := S_laws_FnExactIsValidSource) (x := (x0, ())) (true, ()) [] h (by kernel_rfl) trivial (congrArg (fun z => (z, ())) (show (true) = D_laws_FnExactIsValidSource x0 from by unfold D_laws_FnExactIsValidSource; rfl))
 ·replace h1 : ¬ (((szD s83) x0 1048576) < 0) := of_decide_eq_false h1
  have hvh1 := szD_val h1 (by omega)
  refine wp_skip (then_normal (wp_seq ?_))
  refine at_regq [{}, { ids := [2, 3, 4] }] { ts := [1, 2, 4], os := [1] } [(pTo s83) x0, Q_spec_IsValidSource x0] gamOK hT h (by kernel_rfl) ⟨(by (show Sh.sz _ _ ≤ 1048576; omega)), (by exact (Sh.fit_of_sz s91 rfl (x := x0) (by omega))), trivial⟩ fun a w h => then_normal (wp_seq ?_)
  refine at_regq [{}, { ids := [5, 6, 7] }, { ids := [8] }] { ts := [1, 2, 4, 5], os := [1, 5, 6, 7, 8] } [(pTo s83) x0] gamOK hT h (by kernel_rfl) ⟨(by (show Sh.sz _ _ ≤ 1048576; omega)), trivial⟩ fun a w h => then_normal (wp_seq ?_)
  refine at_regq [] { ts := [1, 2, 4, 5, 6], os := [1, 5, 6, 7, 8] } [Q_impl_IsValidSource x0] gamOK hT h (by kernel_rfl) ⟨(by exact (Sh.fit_of_sz s91 rfl (x := x0) (by omega))), trivial⟩ fun a w h => then_normal (wp_seq (wp_seq ?_))
  refine at_regq [] { ts := [1, 2, 5, 21], os := [1, 5, 6, 7, 8] } [] gamOK hT h (by kernel_rfl) trivial fun a w h => then_normal ?_
  refine at_test (!((validSo x0) == (validSo x0))) h (by kernel_rfl) (fun h2 => ?_) (fun h2 => ?_)
  ·replace h2 : ((validSo x0) == (validSo x0)) = false := notT h2
   refine wp_seq ?_
   refine at_reg [] { ts := [1, 2, 5], os := [1, 5, 6, 7, 8] } ⟨[(1, aP 1 0), (2, aB false), (5, aP 8 0)], [(1, oX 83 [.ro s223 x0.1, cI x0.2.1.1, cI x0.2.1.2.1, cI x0.2.1.2.2.1, cI x0.2.1.2.2.2, .ro s124 x0.2.2.1, .ro s285 x0.2.2.2.1, cI x0.2.2.2.2]), (5, oR s218 x0.1), (6, oR s128 x0.2.2.1), (7, oR s247 x0.2.2.2.1), (8, oX 91 [.sl 5, cI x0.2.1.1, cI x0.2.1.2.1, cI x0.2.1.2.2.1, cI x0.2.1.2.2.2, .sl 6, .sl 7, cI x0.2.2.2.2])]⟩ [] gamOK hT h (by kernel_rfl) trivial fun a w h => then_normal (wp_ret (then_ret ?_))
   exact at_return (S := S_laws_FnExactIsValidSource) (x := (x0, ())) (false, ()) [] h (by kernel_rfl) trivial (congrArg (fun z => (z, ())) (show (false) = D_laws_FnExactIsValidSource x0 from by unfold D_laws_FnExactIsValidSource; exact absurd (beqT (show _ = _ from by first | rfl | (rfl))) (neT h2)))
  ·replace h2 : ((validSo x0) == (validSo x0)) = true := notF h2
   refine wp_skip (then_normal (wp_seq (wp_seq ?_)))
   refine at_any [{}, {}, { ids := [9, 10, 11] }, {}, {}] { ts := [2, 26], os := [] } ⟨[(2, aB false), (26, aB (!((Sh.eqB s91) x0 x0)))], []⟩ [(pTo s83) x0, True] gamOK hT mixed h (by kernel_rfl) ⟨(by (show Sh.sz _ _ ≤ 1048576; omega)), trivial, trivial⟩ fun a w h => then_normal ?_
   refine at_test (!((Sh.eqB s91) x0 x0)) h (by kernel_rfl) (fun h3 => ?_) (fun h3 => ?_)
   ·replace h3 : ((Sh.eqB s91) x0 x0) = false := notT h3
    refine wp_seq ?_
    refine at_regq [] { ts := [2], os := [] } [] gamOK hT h (by kernel_rfl) trivial fun a w h => then_normal (wp_ret (then_ret ?_))
    exact at_return (S := S_laws_FnExactIsValidSource) (x := (x0, ())) (false, ()) [] h (by kernel_rfl) trivial (congrArg (fun z => (z, ())) (show (false) = D_laws_FnExactIsValidSource x0 from by unfold D_laws_FnExactIsValidSource; exact absurd ((Sh.eqB_iff _).2 (show _ = _ from by first | rfl | (rfl))) (neT h3)))
   ·replace h3 : ((Sh.eqB s91) x0 x0) = true := notF h3
    refine wp_skip (then_normal (wp_seq ?_))
    refine at_regq [] { ts := [2], os := [] } [] gamOK hT h (by kernel_rfl) trivial fun a w h => then_normal (wp_ret ?_)
    exact at_return (S := S_laws_FnExactIsValidSource) (x := (x0, ())) (true, ()) [] h (by kernel_rfl) trivial (congrArg (fun z => (z, ())) (show (true) = D_laws_FnExactIsValidSource x0 from by unfold D_laws_FnExactIsValidSource; rfl))

theorem opn3 : OpensS Try.prog 3 (.int 3) := opensS_int Try.underlying3
theorem co3 : Try.prog.cellsOf 3 = 1 := by kernel_rfl
theorem opn22 : OpensS Try.prog 22 s22 := opensS_slice (a := (.int 3)) Try.underlying22 co3 opn3
theorem co22 : Try.prog.cellsOf 22 = 1 := by kernel_rfl
theorem opn97 : OpensS Try.prog 97 s97 := opensS_slice (a := s22) Try.underlying97 co22 opn22
theorem co97 : Try.prog.cellsOf 97 = 1 := by kernel_rfl
theorem co223 : Try.prog.cellsOf 223 = 2 := by kernel_rfl
theorem opn223 : OpensS Try.prog 223 s223 := by
  intro H enc w base spare held fuel cs x h
  obtain ⟨xs, n, _, _, hl, hlen, hf⟩ := DataW.trod_struct Try.underlying223 h
  obtain ⟨a0, k0, i0⟩ := opensS_field (a := (.int 3)) (i := 0) 0 1 hf hlen rfl rfl rfl co3 opn3
  obtain ⟨a1, k1, i1⟩ := opensS_field (a := s97) (i := 1) 1 1 hf hlen rfl rfl rfl co97 opn97
  rw [co223] at hl
  exact ⟨(a0, a1), (rdS_pair (off := 0) k0 (rdS_last (off := 1) k1 (by omega))), ⟨i0, i1⟩⟩
theorem opn24 : OpensS Try.prog 24 s24 := opensS_slice (a := s223) Try.underlying24 co223 opn223
theorem co24 : Try.prog.cellsOf 24 = 1 := by kernel_rfl
theorem co77 : Try.prog.cellsOf 77 = 4 := by kernel_rfl
theorem opn77 : OpensS Try.prog 77 s77 := by
  intro H enc w base spare held fuel cs x h
  obtain ⟨xs, n, _, _, hl, hlen, hf⟩ := DataW.trod_struct Try.underlying77 h
  obtain ⟨a0, k0, i0⟩ := opensS_field (a := (.int 3)) (i := 0) 0 1 hf hlen rfl rfl rfl co3 opn3
  obtain ⟨a1, k1, i1⟩ := opensS_field (a := (.int 3)) (i := 1) 1 1 hf hlen rfl rfl rfl co3 opn3
  obtain ⟨a2, k2, i2⟩ := opensS_field (a := (.int 3)) (i := 2) 2 1 hf hlen rfl rfl rfl co3 opn3
  obtain ⟨a3, k3, i3⟩ := opensS_field (a := (.int 3)) (i := 3) 3 1 hf hlen rfl rfl rfl co3 opn3
  rw [co77] at hl
  exact ⟨(a0, (a1, (a2, a3))), (rdS_pair (off := 0) k0 (rdS_pair (off := 1) k1 (rdS_pair (off := 2) k2 (rdS_last (off := 3) k3 (by omega))))), ⟨i0, ⟨i1, ⟨i2, i3⟩⟩⟩⟩
theorem co44 : Try.prog.cellsOf 44 = 3 := by kernel_rfl
theorem opn44 : OpensS Try.prog 44 s44 := by
  intro H enc w base spare held fuel cs x h
  obtain ⟨xs, n, _, _, hl, hlen, hf⟩ := DataW.trod_struct Try.underlying44 h
  obtain ⟨a0, k0, i0⟩ := opensS_field (a := (.int 3)) (i := 0) 0 1 hf hlen rfl rfl rfl co3 opn3
  obtain ⟨a1, k1, i1⟩ := opensS_field (a := s22) (i := 1) 1 1 hf hlen rfl rfl rfl co22 opn22
  obtain ⟨a2, k2, i2⟩ := opensS_field (a := s22) (i := 2) 2 1 hf hlen rfl rfl rfl co22 opn22
  rw [co44] at hl
  exact ⟨(a0, (a1, a2)), (rdS_pair (off := 0) k0 (rdS_pair (off := 1) k1 (rdS_last (off := 2) k2 (by omega)))), ⟨i0, ⟨i1, i2⟩⟩⟩
theorem opn122 : OpensS Try.prog 122 s122 := opensS_slice (a := s44) Try.underlying122 co44 opn44
theorem co122 : Try.prog.cellsOf 122 = 1 := by kernel_rfl
theorem co124 : Try.prog.cellsOf 124 = 5 := by kernel_rfl
theorem opn124 : OpensS Try.prog 124 s124 := by
  intro H enc w base spare held fuel cs x h
  obtain ⟨xs, n, _, _, hl, hlen, hf⟩ := DataW.trod_struct Try.underlying124 h
  obtain ⟨a0, k0, i0⟩ := opensS_field (a := (.int 3)) (i := 0) 0 1 hf hlen rfl rfl rfl co3 opn3
  obtain ⟨a1, k1, i1⟩ := opensS_field (a := (.int 3)) (i := 1) 1 1 hf hlen rfl rfl rfl co3 opn3
  obtain ⟨a2, k2, i2⟩ := opensS_field (a := (.int 3)) (i := 2) 2 1 hf hlen rfl rfl rfl co3 opn3
  obtain ⟨a3, k3, i3⟩ := opensS_field (a := s122) (i := 3) 3 1 hf hlen rfl rfl rfl co122 opn122
  obtain ⟨a4, k4, i4⟩ := opensS_field (a := (.int 3)) (i := 4) 4 1 hf hlen rfl rfl rfl co3 opn3
  rw [co124] at hl
  exact ⟨(a0, (a1, (a2, (a3, a4)))), (rdS_pair (off := 0) k0 (rdS_pair (off := 1) k1 (rdS_pair (off := 2) k2 (rdS_pair (off := 3) k3 (rdS_last (off := 4) k4 (by omega)))))), ⟨i0, ⟨i1, ⟨i2, ⟨i3, i4⟩⟩⟩⟩⟩
theorem opn78 : OpensS Try.prog 78 s78 := opensS_slice (a := s124) Try.underlying78 co124 opn124
theorem co78 : Try.prog.cellsOf 78 = 1 := by kernel_rfl
theorem co285 : Try.prog.cellsOf 285 = 3 := by kernel_rfl
theorem opn285 : OpensS Try.prog 285 s285 := by
  intro H enc w base spare held fuel cs x h
  obtain ⟨xs, n, _, _, hl, hlen, hf⟩ := DataW.trod_struct Try.underlying285 h
  obtain ⟨a0, k0, i0⟩ := opensS_field (a := (.int 3)) (i := 0) 0 1 hf hlen rfl rfl rfl co3 opn3
  obtain ⟨a1, k1, i1⟩ := opensS_field (a := (.int 3)) (i := 1) 1 1 hf hlen rfl rfl rfl co3 opn3
  obtain ⟨a2, k2, i2⟩ := opensS_field (a := (.int 3)) (i := 2) 2 1 hf hlen rfl rfl rfl co3 opn3
  rw [co285] at hl
  exact ⟨(a0, (a1, a2)), (rdS_pair (off := 0) k0 (rdS_pair (off := 1) k1 (rdS_last (off := 2) k2 (by omega)))), ⟨i0, ⟨i1, i2⟩⟩⟩
theorem opn79 : OpensS Try.prog 79 s79 := opensS_slice (a := s285) Try.underlying79 co285 opn285
theorem co79 : Try.prog.cellsOf 79 = 1 := by kernel_rfl
theorem co81 : Try.prog.cellsOf 81 = 1 := by kernel_rfl
theorem opn81 : OpensS Try.prog 81 s81 := by
  intro H enc w base spare held fuel cs x h
  obtain ⟨xs, n, _, _, hl, hlen, hf⟩ := DataW.trod_struct Try.underlying81 h
  obtain ⟨a0, k0, i0⟩ := opensS_field (a := s79) (i := 0) 0 1 hf hlen rfl rfl rfl co79 opn79
  rw [co81] at hl
  exact ⟨a0, (rdS_last (off := 0) k0 (by omega)), i0⟩
theorem co83 : Try.prog.cellsOf 83 = 8 := by kernel_rfl
theorem opn83 : OpensS Try.prog 83 s83 := by
  intro H enc w base spare held fuel cs x h
  obtain ⟨xs, n, _, _, hl, hlen, hf⟩ := DataW.trod_struct Try.underlying83 h
  obtain ⟨a0, k0, i0⟩ := opensS_field (a := s24) (i := 0) 0 1 hf hlen rfl rfl rfl co24 opn24
  obtain ⟨a1, k1, i1⟩ := opensS_field (a := s77) (i := 1) 1 4 hf hlen rfl rfl rfl co77 opn77
  obtain ⟨a2, k2, i2⟩ := opensS_field (a := s78) (i := 2) 5 1 hf hlen rfl rfl rfl co78 opn78
  obtain ⟨a3, k3, i3⟩ := opensS_field (a := s81) (i := 3) 6 1 hf hlen rfl rfl rfl co81 opn81
  obtain ⟨a4, k4, i4⟩ := opensS_field (a := (.int 3)) (i := 4) 7 1 hf hlen rfl rfl rfl co3 opn3
  rw [co83] at hl
  exact ⟨(a0, (a1, (a2, (a3, a4)))), (rdS_pair (off := 0) k0 (rdS_pair (off := 1) k1 (rdS_pair (off := 5) k2 (rdS_pair (off := 6) k3 (rdS_last (off := 7) k4 (by omega)))))), ⟨i0, ⟨i1, ⟨i2, ⟨i3, i4⟩⟩⟩⟩⟩
namespace fnExactIsValidSource
open Go.ChangeShapes Go.WideShapes Go.ChangeAt Go.RowKit
theorem own : ownKnob Try.prog.godebug = none := by kernel_rfl
theorem laidOut : laidOutB Try.prog = true := fxLaid
set_option maxRecDepth 100000 in
theorem lifted (os : Os) (started : os.Started) (H : Type) (enc : TypeId × Value → H) :
    ReturnsInHanded {} Try.checked os 11 .any (Rows.fnExactIsValidSourceSpec.pre6 enc Try.prog Try.f11 Rows.fnExactIsValidSourceRow.domain false) (Rows.fnExactIsValidSourceSpec.post enc Try.prog Try.f11 false true false false) := by
  refine returnsInHanded_of_change (C := Try.checked) own started (by kernel_rfl) Try.func11
    (ChangeSpec.witness6 (enc := enc) (C := Try.checked) false ⟨#[], #[.agg #[.slice none 0 0, .int .i64 0, .int .i64 0, .int .i64 0, .int .i64 0, .slice none 0 0, .slice none 0 0, .int .i64 0]], []⟩ 8 (by kernel_rfl) (by kernel_rfl) (by kernel_rfl) (by kernel_rfl)) ?_
  intro W base args ds gs before hval0 hW hcnd _
  have hval : ∀ (j : Nat) t v, Try.f11.params[j]? = some t → args[j]? = some v → Value.okWide Try.prog W .any base t v := hval0
  have hW' := hW
  obtain ⟨p, q, hA0, hV, rfl, hfz, hnd⟩ := hW
  have hA : DataW.TrodAll enc Try.prog W 0 (fun _ => true) true Try.f11.params.toList args.toList ds p := hA0
  rw [Try.params11] at hA hval
  obtain ⟨v0, vs0, d0, ds0, p0, q0, hargs, rfl, rfl, h0, r0⟩ := trodAll_cons hA
  obtain ⟨rfl, rfl, rfl⟩ := trodAll_nil r0
  obtain rfl : args = #[v0] := by cases args; simp_all
  obtain ⟨rfl, rfl⟩ := trodVars_none hV
  have k0 := h0
  have lt0 : ∀ x ∈ p0, x.block < W.heap.size := by obtain ⟨m, hm⟩ := k0; exact DataW.trod_lt m _ _ _ hm
  obtain ⟨cs0, rfl, _⟩ := okWide_struct Try.underlying83 (hval 0 83 v0 rfl rfl)
  obtain ⟨cs0⟩ := cs0
  obtain ⟨x0, hx0, i0⟩ : ∃ x : (s83).D, (s83).rd W (fun b => b < W.heap.size) cs0 x ∧ (s83).i64 x := by obtain ⟨fuel, hf⟩ := h0; exact opn83 hf
  clear hA0 hval0
  refine (calls_law S_laws_FnExactIsValidSource_ok (by kernel_rfl) W (fun b => b < W.heap.size) [.agg cs0.toArray] (x0, ()) (fun _ h => h) ⟨argRd_st hx0, trivial⟩ i0).mono fun e W' hr => ?_
  obtain ⟨he, bel⟩ := ret_bool hr
  subst he
  exact ⟨_, rfl, _, _, _, [], _, [], hW', trodAll_mk1 (shut_bool Try.underlying4 _), (trodAll_cons_mk (Below.trod laidOut (by kernel_rfl) (of_decide_eq_true (by kernel_rfl)) k0 bel lt0) trodAll_mk0), rfl, bel.frame _, fun h => by cases h⟩
theorem closed : joinedFacts Try.prog 11 Try.f11 (Rows.fnExactIsValidSourceSpec) Rows.fnExactIsValidSourceRow = true := by
  unfold joinedFacts
  exact (and2 (and2 (and2 (and2 (and2 (and2 (and2 (and2 (and2 (and2 (and2 (and2 (and2 (and2 (and2 (and2 (and2 (and2 (and2 (and2 (and2 (and2 (and2 (and2 (and2 (and2 (and2 (and2 (and2 (and2 (and2 (by kernel_rfl) fxLaid) fxMaps) (by kernel_rfl)) (by kernel_rfl)) (by kernel_rfl)) (by kernel_rfl)) (by kernel_rfl)) (by kernel_rfl)) (by kernel_rfl)) (by kernel_rfl)) (by kernel_rfl)) (by kernel_rfl)) (by kernel_rfl)) (by kernel_rfl)) (by kernel_rfl)) (by kernel_rfl)) (by kernel_rfl)) (by kernel_rfl)) (by kernel_rfl)) (by kernel_rfl)) (by kernel_rfl)) (by kernel_rfl)) (by kernel_rfl)) (by kernel_rfl)) fxEnter) (by rw [fxLifts]; kernel_rfl)) (by rw [fxMake]; kernel_rfl)) (by kernel_rfl)) (by kernel_rfl)) (by kernel_rfl)) (by kernel_rfl))
theorem over : Rows.fnExactIsValidSourceRow.holds Try.pinned (OpenSpec.ofChange Rows.fnExactIsValidSourceSpec) :=
  OpenClaim.holds_of_wide 11 Try.f11 rfl rfl rfl rfl rfl rfl rfl ⟨rfl, rfl, rfl, rfl, rfl⟩ rfl rfl rfl rfl rfl (by kernel_rfl) Try.func11 closed
    (of_decide_eq_true (by kernel_rfl)) (by unfold Func.isWrapper; first | (rw [if_pos (by decide +kernel)]; kernel_rfl) | (rw [if_neg (by decide +kernel)]; exact ⟨rfl, rfl⟩))
    (fun os started H enc _ => lifted os started H enc)
/-- the statement -/
theorem proved : Rows.FnExactIsValidSourceSaid := over
end fnExactIsValidSource

end Go.Proofs.Ytdmkjcnppgfeoaa

/- The law FnExactSourceDone returns true for every input and leaves its arguments as they were. No condition. -/
import Derived.Test.YtdmkjcnppgfeoaaGreatSourceDone3
import Derived.Test.YtdmkjcnppgfeoaaGreatLA
import Derived.Test.YtdmkjcnppgfeoaaGreatProg
import Derived.Test.YtdmkjcnppgfeoaaGreatRows
import Derived.Test.YtdmkjcnppgfeoaaGreatFX
namespace Go.Proofs.YtdmkjcnppgfeoaaGreat
open Go.RowKit
set_option linter.unusedVariables false
set_option linter.unusedSimpArgs false
abbrev Q_spec_IsValidSource := (fun (x0 : T78) => Sh.fit s78 x0)
def S_spec_IsValidSource : Sum := { fid := 77, dom := [s78], cod := [(.bool 4)], dp := true, fz := false, pre := fun x => Q_spec_IsValidSource x.1, g := fun x => ((validSo x.1), ()) }
def S_spec_IsValidSource_tab : List (Nat × Sum) := [(90, S_spec_l1In), (133, S_spec_IsValidWindow), (134, S_spec_IsValidFeedbackTable), (56, S_spec_IsValidGeneration), (57, S_spec_IsValidRecoder), (58, S_spec_ColumnsOf)]
theorem S_spec_IsValidSource_ok : FnOK Tryz.prog 77 S_spec_IsValidSource := by
 refine at_enter 96 (fun x => ⟨[(0, aG [.ro s52 x.1.1, cI x.1.2.1.1, cI x.1.2.1.2.1, cI x.1.2.1.2.2.1, cI x.1.2.1.2.2.2, .ro s47 x.1.2.2.1, .ro s183 x.1.2.2.2.1, cI x.1.2.2.2.2])], []⟩) Tryz.func77 rfl (by kernel_rfl) (fun x => rfl) ?_
 rintro w0 Z0 ⟨x0, u⟩ a w
 revert x0
 intro (x0 : T78) hpre hlens h
 replace h : At w0 Z0 [] 96 ⟨[(0, aG [.ro s52 x0.1, cI x0.2.1.1, cI x0.2.1.2.1, cI x0.2.1.2.2.1, cI x0.2.1.2.2.2, .ro s47 x0.2.2.1, .ro s183 x0.2.2.2.1, cI x0.2.2.2.2])], []⟩ a w := h
 replace hpre : Q_spec_IsValidSource x0 := hpre
 have hl1 : List.length x0.1 ≤ 9223372036854775807 := hlens.1.1.1
 have hl2 : List.length x0.2.2.1 ≤ 9223372036854775807 := hlens.1.2.2.1.1
 have hl3 : List.length x0.2.2.2.1 ≤ 9223372036854775807 := hlens.1.2.2.2.1.1
 have hT : TabOK Tryz.prog S_spec_IsValidSource_tab := (.cons S_spec_l1In_ok (.cons S_spec_IsValidWindow_ok (.cons S_spec_IsValidFeedbackTable_ok (.cons S_spec_IsValidGeneration_ok (.cons S_spec_IsValidRecoder_ok (.cons S_spec_ColumnsOf_ok .nil))))))
 have hf0 : Sh.fit s78 x0 := hpre
 have hn0_1 : List.length x0.1 ≤ 1073741824 := hf0.1.1
 have hn0_2 : List.length x0.2.2.1 ≤ 1073741824 := hf0.2.2.1.1
 have hn0_3 : List.length x0.2.2.2.1 ≤ 1073741824 := hf0.2.2.2.1.1
 refine wp_seq ?_
 refine at_regq [{ ids := [1] }] { ts := [1, 2], os := [1] } [] gamOK hT h (by kernel_rfl) trivial fun a w h => then_normal (wp_seq ?_)
 refine at_regq [] { ts := [1, 2, 3], os := [1] } [] gamOK hT h (by kernel_rfl) trivial fun a w h => then_normal (wp_seq (wp_seq ?_))
 rcases Bool.eq_false_or_eq_true (!(inR ((List.length x0.1 : Nat) : Int) 1 60)) with h1 | h1
 ·have hzh1 : (inR ((List.length x0.1 : Nat) : Int) 1 60) = false := notT h1
  have hvh1 := inR_f (notT h1)
  refine at_regq [{}, {}, { hint := some (aB true) }] { ts := [1, 2, 3, 38], os := [1] } [True, (AV.p (.c (.v (.bool (!(inR ((List.length x0.1 : Nat) : Int) 1 60))))) = AV.p (.c (.v (.bool true))))] gamOK hT h (by kernel_rfl) ⟨trivial, hint_bool (h1), trivial⟩ fun a w h => then_normal ?_
  refine at_test true h (by kernel_rfl) (fun hh => ?_) (fun hh => nomatch hh)
  refine wp_seq ?_
  refine at_regq [] { ts := [1, 2, 3], os := [1] } [] gamOK hT h (by kernel_rfl) trivial fun a w h => then_normal (wp_ret (then_ret ?_))
  exact at_return (S := S_spec_IsValidSource) (x := (x0, ())) (false, ()) [] h (by kernel_rfl) trivial (congrArg (fun z => (z, ())) (show (false) = validSo x0 from by first | rfl | (unfold validSo; rw [if_neg (neT (notT h1))]; done) | (unfold validSo; simp_all)))
 ·have hzh1 : (inR ((List.length x0.1 : Nat) : Int) 1 60) = true := notF h1
  have hvh1 := inR_t (notF h1)
  rcases Bool.eq_false_or_eq_true (!(validW x0.2.1)) with h2 | h2
  ·have hzh2 : (validW x0.2.1) = false := notT h2
   refine at_regq [{}, {}, { hint := some (aB false) }, {}, {}, {}, {}, { hint := some (aB true) }] { ts := [1, 2, 3, 38], os := [1] } [True, (AV.p (.c (.v (.bool (!(inR ((List.length x0.1 : Nat) : Int) 1 60))))) = AV.p (.c (.v (.bool false)))), True, (AV.p (.c (.v (.bool (!(validW x0.2.1))))) = AV.p (.c (.v (.bool true))))] gamOK hT h (by kernel_rfl) ⟨trivial, hint_bool (h1), trivial, hint_bool (h2), trivial⟩ fun a w h => then_normal ?_
   refine at_test true h (by kernel_rfl) (fun hh => ?_) (fun hh => nomatch hh)
   refine wp_seq ?_
   refine at_regq [] { ts := [1, 2, 3], os := [1] } [] gamOK hT h (by kernel_rfl) trivial fun a w h => then_normal (wp_ret (then_ret ?_))
   exact at_return (S := S_spec_IsValidSource) (x := (x0, ())) (false, ()) [] h (by kernel_rfl) trivial (congrArg (fun z => (z, ())) (show (false) = validSo x0 from by first | rfl | (unfold validSo; rw [if_pos (notF h1), if_neg (neT (notT h2))]; done) | (unfold validSo; simp_all)))
  ·have hzh2 : (validW x0.2.1) = true := notF h2
   have hvh2 := validW_t (notF h2)
   by_cases h3 : x0.2.1.2.2.2 = ((List.length x0.1 : Nat) : Int)
   ·by_cases h4 : ((List.length x0.2.2.1 : Nat) : Int) = ((List.length x0.1 : Nat) : Int)
    ·refine at_regq [{}, {}, { hint := some (aB false) }, {}, {}, {}, {}, { hint := some (aB false) }, {}, {}, {}, {}, {}, {}, { hint := some (aB false) }, {}, {}, {}, {}, {}, {}, { hint := some (aB false) }] { ts := [1, 2, 3, 38], os := [1] } [True, (AV.p (.c (.v (.bool (!(inR ((List.length x0.1 : Nat) : Int) 1 60))))) = AV.p (.c (.v (.bool false)))), True, (AV.p (.c (.v (.bool (!(validW x0.2.1))))) = AV.p (.c (.v (.bool false)))), (AV.p (.c (.v (.bool (!decide (x0.2.1.2.2.2 = ((List.length x0.1 : Nat) : Int)))))) = AV.p (.c (.v (.bool false)))), (AV.p (.c (.v (.bool (!decide (((List.length x0.2.2.1 : Nat) : Int) = ((List.length x0.1 : Nat) : Int)))))) = AV.p (.c (.v (.bool false)))), Q_spec_IsValidFeedbackTable x0.2.2.2.1] gamOK hT h (by kernel_rfl) ⟨trivial, hint_bool (h1), trivial, hint_bool (h2), hint_bool (ndT h3), hint_bool (ndT h4), (by exact hf0.2.2.2.1), trivial⟩ fun a w h => then_normal ?_
     refine at_test (!(validFT x0.2.2.2.1)) h (by kernel_rfl) (fun h5 => ?_) (fun h5 => ?_)
     ·replace h5 : (validFT x0.2.2.2.1) = false := notT h5
      refine wp_seq ?_
      refine at_regq [] { ts := [1, 2, 3], os := [1] } [] gamOK hT h (by kernel_rfl) trivial fun a w h => then_normal (wp_ret (then_ret ?_))
      exact at_return (S := S_spec_IsValidSource) (x := (x0, ())) (false, ()) [] h (by kernel_rfl) trivial (congrArg (fun z => (z, ())) (show (false) = validSo x0 from by first | rfl | (unfold validSo; rw [if_pos (notF h1), if_pos (notF h2), if_pos h3, if_pos h4, if_neg (neT h5)]; done) | (unfold validSo; simp_all)))
     ·replace h5 : (validFT x0.2.2.2.1) = true := notF h5
      refine wp_skip (then_normal (wp_seq (wp_seq ?_)))
      refine at_regq [] { ts := [1, 2, 3, 4], os := [1] } [] gamOK hT h (by kernel_rfl) trivial fun a w h => then_normal (wp_block ?_)
      replace h := at_out (σ' := ⟨[(1, aP 1 0), (2, aB false), (3, aI ((List.length x0.1 : Nat) : Int)), (4, aI 0)], [(1, oX 78 [.ro s52 x0.1, cI x0.2.1.1, cI x0.2.1.2.1, cI x0.2.1.2.2.1, cI x0.2.1.2.2.2, .ro s47 x0.2.2.1, .ro s183 x0.2.2.2.1, cI x0.2.2.2.2])]⟩) { ts := [1, 2, 3, 4], os := [1] } h (by kernel_rfl)
      refine at_loop (fun i : Nat => (⟨[(1, aP 1 0), (2, aB false), (3, aI ((List.length x0.1 : Nat) : Int)), (4, aI ((i : Nat) : Int))], [(1, oX 78 [.ro s52 x0.1, cI x0.2.1.1, cI x0.2.1.2.1, cI x0.2.1.2.2.1, cI x0.2.1.2.2.2, .ro s47 x0.2.2.1, .ro s183 x0.2.2.2.1, cI x0.2.2.2.2])]⟩ : St)) (fun i => (i ≤ (List.length x0.1) ∧ allN (srcB x0) i = true)) (fun i => (List.length x0.1) - i) (0) h (st_congr1 (fun (d0 : Int) => (⟨[(1, aP 1 0), (2, aB false), (3, aI ((List.length x0.1 : Nat) : Int)), (4, aI d0)], [(1, oX 78 [.ro s52 x0.1, cI x0.2.1.1, cI x0.2.1.2.1, cI x0.2.1.2.2.1, cI x0.2.1.2.2.2, .ro s47 x0.2.2.1, .ro s183 x0.2.2.2.1, cI x0.2.2.2.2])]⟩ : St)) (show (0 : Int) = (((0) : Nat) : Int) from by first | with_reducible rfl | (rfl) | rfl)) (by exact ⟨Nat.zero_le _, rfl⟩) ?_
      intro i a w hok0 h
      refine wp_seq (wp_seq ?_)
      refine at_regq [] { ts := [1, 2, 3, 4, 41], os := [1] } [] gamOK hT h (by kernel_rfl) trivial fun a w h => then_normal ?_
      refine at_test (decide (((i : Nat) : Int) < ((List.length x0.1 : Nat) : Int))) h (by kernel_rfl) (fun h6 => ?_) (fun h6 => ?_)
      ·replace h6 : ((i : Nat) : Int) < ((List.length x0.1 : Nat) : Int) := of_decide_eq_true h6
       refine wp_skip (then_normal (wp_seq (wp_block (wp_seq ?_))))
       refine at_regq [{}, {}, {}, {}, {}, { ids := [2] }] { ts := [1, 2, 3, 4, 5], os := [1, 2] } [(0 : Int) ≤ ((i : Nat) : Int) ∧ ((i : Nat) : Int) < ((List.length x0.1 : Nat) : Int)] gamOK hT h (by kernel_rfl) ⟨(by refine ⟨?_, ?_⟩ <;> (first | omega | (simp only [lsA]; omega) | (simp <;> omega))), trivial⟩ fun a w h => then_normal (wp_seq ?_)
       refine at_regq [{}, {}, {}, {}, {}, { ids := [3] }] { ts := [1, 2, 3, 4, 5, 6], os := [1, 2, 3] } [(0 : Int) ≤ ((i : Nat) : Int) ∧ ((i : Nat) : Int) < ((List.length x0.2.2.1 : Nat) : Int)] gamOK hT h (by kernel_rfl) ⟨(by refine ⟨?_, ?_⟩ <;> (first | omega | (simp only [lsA]; omega) | (simp <;> omega))), trivial⟩ fun a w h => then_normal (wp_seq ?_)
       rcases Bool.eq_false_or_eq_true (!(validG (x0.1.getD i (0, [])))) with h7 | h7
       ·have hzh7 : (validG (x0.1.getD i (0, []))) = false := notT h7
        refine at_anyq [{}, {}, { hint := some (aB true) }, {}, {}, {}, {}, {}, {}, {}, {}, {}, {}, {}, {}, {}, {}, {}, {}, {}, {}, {}, {}, {}, {}, {}, {}, {}, {}, {}, {}, {}, {}, {}, {}, {}, {}, {}, {}, {}, {}, {}] { ts := [1, 2, 3, 4, 58, 59, 60, 61, 64, 65, 66, 69, 70, 71, 72, 75, 76, 77, 78, 81, 82, 83, 84, 85, 86, 89, 90, 91, 92, 93, 94, 95], os := [1] } [Q_spec_IsValidGeneration (x0.1.getD i (0, [])), (AV.p (.c (.v (.bool (!(validG (x0.1.getD i (0, []))))))) = AV.p (.c (.v (.bool true))))] gamOK hT mixed h (by kernel_rfl) ⟨(by exact (Sh.fit_getD hf0.1 i)), hint_bool (h7), trivial⟩ fun a w h => then_normal ?_
        refine at_test true h (by kernel_rfl) (fun hh => ?_) (fun hh => nomatch hh)
        refine wp_seq ?_
        refine at_reg [] { ts := [1, 2, 3, 4, 58, 59, 60, 61, 64, 65, 66, 69, 70, 71, 72, 75, 76, 77, 78, 81, 82, 83, 84, 85, 86, 89, 90, 91, 92, 93, 94], os := [1] } ⟨[(1, aP 1 0), (2, aB false), (3, aI ((List.length x0.1 : Nat) : Int)), (4, aI ((i : Nat) : Int)), (58, .p (.c (.v undef))), (59, .p (.c (.v undef))), (60, .p (.c (.v undef))), (61, .p (.c (.v undef))), (64, .p (.c (.v undef))), (65, .p (.c (.v undef))), (66, .p (.c (.v undef))), (69, .p (.c (.v undef))), (70, .p (.c (.v undef))), (71, .p (.c (.v undef))), (72, .p (.c (.v undef))), (75, .p (.c (.v undef))), (76, .p (.c (.v undef))), (77, .p (.c (.v undef))), (78, .p (.c (.v undef))), (81, .p (.c (.v undef))), (82, .p (.c (.v undef))), (83, .p (.c (.v undef))), (84, .p (.c (.v undef))), (85, .p (.c (.v undef))), (86, .p (.c (.v undef))), (89, .p (.c (.v undef))), (90, .p (.c (.v undef))), (91, .p (.c (.v undef))), (92, .p (.c (.v undef))), (93, .p (.c (.v undef))), (94, .p (.c (.v undef)))], [(1, oX 78 [.ro s52 x0.1, cI x0.2.1.1, cI x0.2.1.2.1, cI x0.2.1.2.2.1, cI x0.2.1.2.2.2, .ro s47 x0.2.2.1, .ro s183 x0.2.2.2.1, cI x0.2.2.2.2])]⟩ [] gamOK hT h (by kernel_rfl) trivial fun a w h => then_normal (wp_ret (in_ret (then_ret ?_)))
        have hs8 : (allN (srcB x0) (List.length x0.1)) = false := by exact allN_at (i := i) (by omega) (by exact srcB_f (by first | (left; assumption) | (right; right; left; assumption) | (right; left; omega) | (right; right; right; left; omega) | (right; right; right; right; left; omega) | (right; right; right; right; right; left; omega) | (right; right; right; right; right; right; omega)))
        refine then_ret (in_ret (then_ret ?_))
        exact at_return (S := S_spec_IsValidSource) (x := (x0, ())) (false, ()) [] h (by kernel_rfl) trivial (congrArg (fun z => (z, ())) (show (false) = validSo x0 from by first | rfl | (unfold validSo; rw [if_pos (notF h1), if_pos (notF h2), if_pos h3, if_pos h4, if_pos h5, if_neg (neT hs8)]; done) | (unfold validSo; simp_all)))
       ·have hzh7 : (validG (x0.1.getD i (0, []))) = true := notF h7
        have hvh7 := validG_t (notF h7)
        by_cases h9 : (x0.1.getD i (0, [])).1 = ((i : Nat) : Int)
        ·rcases Bool.eq_false_or_eq_true (!(validR (x0.2.2.1.getD i (0, (0, (0, ([], 0))))))) with h10 | h10
         ·have hzh10 : (validR (x0.2.2.1.getD i (0, (0, (0, ([], 0)))))) = false := notT h10
          refine at_anyq [{}, {}, { hint := some (aB false) }, {}, {}, {}, {}, { hint := some (aB false) }, {}, {}, {}, {}, { hint := some (aB true) }, {}, {}, {}, {}, {}, {}, {}, {}, {}, {}, {}, {}, {}, {}, {}, {}, {}, {}, {}, {}, {}, {}, {}, {}, {}, {}, {}, {}, {}] { ts := [1, 2, 3, 4, 58, 59, 60, 61, 64, 65, 66, 69, 70, 71, 72, 75, 76, 77, 78, 81, 82, 83, 84, 85, 86, 89, 90, 91, 92, 93, 94, 95], os := [1, 2] } [Q_spec_IsValidGeneration (x0.1.getD i (0, [])), (AV.p (.c (.v (.bool (!(validG (x0.1.getD i (0, []))))))) = AV.p (.c (.v (.bool false)))), (AV.p (.c (.v (.bool (!decide ((x0.1.getD i (0, [])).1 = ((i : Nat) : Int)))))) = AV.p (.c (.v (.bool false)))), Q_spec_IsValidRecoder (x0.2.2.1.getD i (0, (0, (0, ([], 0))))), (AV.p (.c (.v (.bool (!(validR (x0.2.2.1.getD i (0, (0, (0, ([], 0)))))))))) = AV.p (.c (.v (.bool true))))] gamOK hT mixed h (by kernel_rfl) ⟨(by exact (Sh.fit_getD hf0.1 i)), hint_bool (h7), hint_bool (ndT h9), (by exact (Sh.fit_getD hf0.2.2.1 i)), hint_bool (h10), trivial⟩ fun a w h => then_normal ?_
          refine at_test true h (by kernel_rfl) (fun hh => ?_) (fun hh => nomatch hh)
          refine wp_seq ?_
          refine at_reg [] { ts := [1, 2, 3, 4, 58, 59, 60, 61, 64, 65, 66, 69, 70, 71, 72, 75, 76, 77, 78, 81, 82, 83, 84, 85, 86, 89, 90, 91, 92, 93, 94], os := [1, 2] } ⟨[(1, aP 1 0), (2, aB false), (3, aI ((List.length x0.1 : Nat) : Int)), (4, aI ((i : Nat) : Int)), (58, aP 2 0), (59, aI (x0.1.getD i (0, [])).1), (60, aI ((i : Nat) : Int)), (61, aB false), (64, aG [cI (x0.2.2.1.getD i (0, (0, (0, ([], 0))))).1, cI (x0.2.2.1.getD i (0, (0, (0, ([], 0))))).2.1, cI (x0.2.2.1.getD i (0, (0, (0, ([], 0))))).2.2.1, .ro s49 (x0.2.2.1.getD i (0, (0, (0, ([], 0))))).2.2.2.1, cI (x0.2.2.1.getD i (0, (0, (0, ([], 0))))).2.2.2.2]), (65, aB (validR (x0.2.2.1.getD i (0, (0, (0, ([], 0))))))), (66, aB true), (69, .p (.c (.v undef))), (70, .p (.c (.v undef))), (71, .p (.c (.v undef))), (72, .p (.c (.v undef))), (75, .p (.c (.v undef))), (76, .p (.c (.v undef))), (77, .p (.c (.v undef))), (78, .p (.c (.v undef))), (81, .p (.c (.v undef))), (82, .p (.c (.v undef))), (83, .p (.c (.v undef))), (84, .p (.c (.v undef))), (85, .p (.c (.v undef))), (86, .p (.c (.v undef))), (89, .p (.c (.v undef))), (90, .p (.c (.v undef))), (91, .p (.c (.v undef))), (92, .p (.c (.v undef))), (93, .p (.c (.v undef))), (94, .p (.c (.v undef)))], [(1, oX 78 [.ro s52 x0.1, cI x0.2.1.1, cI x0.2.1.2.1, cI x0.2.1.2.2.1, cI x0.2.1.2.2.2, .ro s47 x0.2.2.1, .ro s183 x0.2.2.2.1, cI x0.2.2.2.2]), (2, oX 52 [cI (x0.1.getD i (0, [])).1, .ro s22 (x0.1.getD i (0, [])).2])]⟩ [] gamOK hT h (by kernel_rfl) trivial fun a w h => then_normal (wp_ret (in_ret (then_ret ?_)))
          have hs11 : (allN (srcB x0) (List.length x0.1)) = false := by exact allN_at (i := i) (by omega) (by exact srcB_f (by first | (left; assumption) | (right; right; left; assumption) | (right; left; omega) | (right; right; right; left; omega) | (right; right; right; right; left; omega) | (right; right; right; right; right; left; omega) | (right; right; right; right; right; right; omega)))
          refine then_ret (in_ret (then_ret ?_))
          exact at_return (S := S_spec_IsValidSource) (x := (x0, ())) (false, ()) [] h (by kernel_rfl) trivial (congrArg (fun z => (z, ())) (show (false) = validSo x0 from by first | rfl | (unfold validSo; rw [if_pos (notF h1), if_pos (notF h2), if_pos h3, if_pos h4, if_pos h5, if_neg (neT hs11)]; done) | (unfold validSo; simp_all)))
         ·have hzh10 : (validR (x0.2.2.1.getD i (0, (0, (0, ([], 0)))))) = true := notF h10
          have hvh10 := validR_t (notF h10)
          by_cases h12 : ((List.length (x0.2.2.1.getD i (0, (0, (0, ([], 0))))).2.2.2.1 : Nat) : Int) > 0
          ·refine at_anyq [{}, {}, { hint := some (aB false) }, {}, {}, {}, {}, { hint := some (aB false) }, {}, {}, {}, {}, { hint := some (aB false) }, {}, {}, {}, {}, {}, { hint := some (aB true) }, {}, {}, {}, {}, {}, {}, {}, {}, {}, {}, {}, {}, {}, {}, {}, {}, {}, {}, {}, {}, {}, {}, {}] { ts := [1, 2, 3, 4, 58, 59, 60, 61, 64, 65, 66, 69, 70, 71, 72, 75, 76, 77, 78, 81, 82, 83, 84, 85, 86, 89, 90, 91, 92, 93, 94, 95], os := [1, 2, 3] } [Q_spec_IsValidGeneration (x0.1.getD i (0, [])), (AV.p (.c (.v (.bool (!(validG (x0.1.getD i (0, []))))))) = AV.p (.c (.v (.bool false)))), (AV.p (.c (.v (.bool (!decide ((x0.1.getD i (0, [])).1 = ((i : Nat) : Int)))))) = AV.p (.c (.v (.bool false)))), Q_spec_IsValidRecoder (x0.2.2.1.getD i (0, (0, (0, ([], 0))))), (AV.p (.c (.v (.bool (!(validR (x0.2.2.1.getD i (0, (0, (0, ([], 0)))))))))) = AV.p (.c (.v (.bool false)))), (AV.p (.c (.v (.bool (decide (((List.length (x0.2.2.1.getD i (0, (0, (0, ([], 0))))).2.2.2.1 : Nat) : Int) > 0))))) = AV.p (.c (.v (.bool true))))] gamOK hT mixed h (by kernel_rfl) ⟨(by exact (Sh.fit_getD hf0.1 i)), hint_bool (h7), hint_bool (ndT h9), (by exact (Sh.fit_getD hf0.2.2.1 i)), hint_bool (h10), hint_bool (decide_eq_true h12), trivial⟩ fun a w h => then_normal ?_
           refine at_test true h (by kernel_rfl) (fun hh => ?_) (fun hh => nomatch hh)
           refine wp_seq ?_
           refine at_reg [] { ts := [1, 2, 3, 4, 58, 59, 60, 61, 64, 65, 66, 69, 70, 71, 72, 75, 76, 77, 78, 81, 82, 83, 84, 85, 86, 89, 90, 91, 92, 93, 94], os := [1, 2, 3] } ⟨[(1, aP 1 0), (2, aB false), (3, aI ((List.length x0.1 : Nat) : Int)), (4, aI ((i : Nat) : Int)), (58, aP 2 0), (59, aI (x0.1.getD i (0, [])).1), (60, aI ((i : Nat) : Int)), (61, aB false), (64, aG [cI (x0.2.2.1.getD i (0, (0, (0, ([], 0))))).1, cI (x0.2.2.1.getD i (0, (0, (0, ([], 0))))).2.1, cI (x0.2.2.1.getD i (0, (0, (0, ([], 0))))).2.2.1, .ro s49 (x0.2.2.1.getD i (0, (0, (0, ([], 0))))).2.2.2.1, cI (x0.2.2.1.getD i (0, (0, (0, ([], 0))))).2.2.2.2]), (65, aB (validR (x0.2.2.1.getD i (0, (0, (0, ([], 0))))))), (66, aB false), (69, aP 3 3), (70, aF s49 (x0.2.2.1.getD i (0, (0, (0, ([], 0))))).2.2.2.1), (71, aI ((List.length (x0.2.2.1.getD i (0, (0, (0, ([], 0))))).2.2.2.1 : Nat) : Int)), (72, aB true), (75, .p (.c (.v undef))), (76, .p (.c (.v undef))), (77, .p (.c (.v undef))), (78, .p (.c (.v undef))), (81, .p (.c (.v undef))), (82, .p (.c (.v undef))), (83, .p (.c (.v undef))), (84, .p (.c (.v undef))), (85, .p (.c (.v undef))), (86, .p (.c (.v undef))), (89, .p (.c (.v undef))), (90, .p (.c (.v undef))), (91, .p (.c (.v undef))), (92, .p (.c (.v undef))), (93, .p (.c (.v undef))), (94, .p (.c (.v undef)))], [(1, oX 78 [.ro s52 x0.1, cI x0.2.1.1, cI x0.2.1.2.1, cI x0.2.1.2.2.1, cI x0.2.1.2.2.2, .ro s47 x0.2.2.1, .ro s183 x0.2.2.2.1, cI x0.2.2.2.2]), (2, oX 52 [cI (x0.1.getD i (0, [])).1, .ro s22 (x0.1.getD i (0, [])).2]), (3, oX 47 [cI (x0.2.2.1.getD i (0, (0, (0, ([], 0))))).1, cI (x0.2.2.1.getD i (0, (0, (0, ([], 0))))).2.1, cI (x0.2.2.1.getD i (0, (0, (0, ([], 0))))).2.2.1, .ro s49 (x0.2.2.1.getD i (0, (0, (0, ([], 0))))).2.2.2.1, cI (x0.2.2.1.getD i (0, (0, (0, ([], 0))))).2.2.2.2])]⟩ [] gamOK hT h (by kernel_rfl) trivial fun a w h => then_normal (wp_ret (in_ret (then_ret ?_)))
           have hs13 : (allN (srcB x0) (List.length x0.1)) = false := by exact allN_at (i := i) (by omega) (by exact srcB_f (by first | (left; assumption) | (right; right; left; assumption) | (right; left; omega) | (right; right; right; left; omega) | (right; right; right; right; left; omega) | (right; right; right; right; right; left; omega) | (right; right; right; right; right; right; omega)))
           refine then_ret (in_ret (then_ret ?_))
           exact at_return (S := S_spec_IsValidSource) (x := (x0, ())) (false, ()) [] h (by kernel_rfl) trivial (congrArg (fun z => (z, ())) (show (false) = validSo x0 from by first | rfl | (unfold validSo; rw [if_pos (notF h1), if_pos (notF h2), if_pos h3, if_pos h4, if_pos h5, if_neg (neT hs13)]; done) | (unfold validSo; simp_all)))
          ·by_cases h14 : (x0.2.2.1.getD i (0, (0, (0, ([], 0))))).1 = ((i : Nat) : Int)
           ·by_cases h15 : (x0.2.2.1.getD i (0, (0, (0, ([], 0))))).2.1 = ((List.length (x0.1.getD i (0, [])).2 : Nat) : Int)
            ·refine at_anyq [{}, {}, { hint := some (aB false) }, {}, {}, {}, {}, { hint := some (aB false) }, {}, {}, {}, {}, { hint := some (aB false) }, {}, {}, {}, {}, {}, { hint := some (aB false) }, {}, {}, {}, {}, {}, { hint := some (aB false) }, {}, {}, {}, {}, {}, {}, {}, { hint := some (aB false) }, {}, {}, {}, {}, {}, {}, {}, {}, {}] { ts := [1, 2, 3, 4, 58, 59, 60, 61, 64, 65, 66, 69, 70, 71, 72, 75, 76, 77, 78, 81, 82, 83, 84, 85, 86, 89, 90, 91, 92, 93, 94, 95], os := [1, 2, 3] } [Q_spec_IsValidGeneration (x0.1.getD i (0, [])), (AV.p (.c (.v (.bool (!(validG (x0.1.getD i (0, []))))))) = AV.p (.c (.v (.bool false)))), (AV.p (.c (.v (.bool (!decide ((x0.1.getD i (0, [])).1 = ((i : Nat) : Int)))))) = AV.p (.c (.v (.bool false)))), Q_spec_IsValidRecoder (x0.2.2.1.getD i (0, (0, (0, ([], 0))))), (AV.p (.c (.v (.bool (!(validR (x0.2.2.1.getD i (0, (0, (0, ([], 0)))))))))) = AV.p (.c (.v (.bool false)))), (AV.p (.c (.v (.bool (decide (((List.length (x0.2.2.1.getD i (0, (0, (0, ([], 0))))).2.2.2.1 : Nat) : Int) > 0))))) = AV.p (.c (.v (.bool false)))), (AV.p (.c (.v (.bool (!decide ((x0.2.2.1.getD i (0, (0, (0, ([], 0))))).1 = ((i : Nat) : Int)))))) = AV.p (.c (.v (.bool false)))), (AV.p (.c (.v (.bool (!decide ((x0.2.2.1.getD i (0, (0, (0, ([], 0))))).2.1 = ((List.length (x0.1.getD i (0, [])).2 : Nat) : Int)))))) = AV.p (.c (.v (.bool false)))), Q_spec_ColumnsOf (x0.1.getD i (0, [])).2] gamOK hT mixed h (by kernel_rfl) ⟨(by exact (Sh.fit_getD hf0.1 i)), hint_bool (h7), hint_bool (ndT h9), (by exact (Sh.fit_getD hf0.2.2.1 i)), hint_bool (h10), hint_bool (decide_eq_false h12), hint_bool (ndT h14), hint_bool (ndT h15), (by exact (Sh.fit_getD hf0.1 i).2), trivial⟩ fun a w h => then_normal ?_
             refine at_test (!decide ((x0.2.2.1.getD i (0, (0, (0, ([], 0))))).2.2.1 = (colsOf (x0.1.getD i (0, [])).2))) h (by kernel_rfl) (fun h16 => ?_) (fun h16 => ?_)
             ·replace h16 : ¬ ((x0.2.2.1.getD i (0, (0, (0, ([], 0))))).2.2.1 = (colsOf (x0.1.getD i (0, [])).2)) := of_decide_eq_false (notT h16)
              refine wp_seq ?_
              refine at_reg [] { ts := [1, 2, 3, 4, 58, 59, 60, 61, 64, 65, 66, 69, 70, 71, 72, 75, 76, 77, 78, 81, 82, 83, 84, 85, 86, 89, 90, 91, 92, 93, 94], os := [1, 2, 3] } ⟨[(1, aP 1 0), (2, aB false), (3, aI ((List.length x0.1 : Nat) : Int)), (4, aI ((i : Nat) : Int)), (58, aP 2 0), (59, aI (x0.1.getD i (0, [])).1), (60, aI ((i : Nat) : Int)), (61, aB false), (64, aG [cI (x0.2.2.1.getD i (0, (0, (0, ([], 0))))).1, cI (x0.2.2.1.getD i (0, (0, (0, ([], 0))))).2.1, cI (x0.2.2.1.getD i (0, (0, (0, ([], 0))))).2.2.1, .ro s49 (x0.2.2.1.getD i (0, (0, (0, ([], 0))))).2.2.2.1, cI (x0.2.2.1.getD i (0, (0, (0, ([], 0))))).2.2.2.2]), (65, aB (validR (x0.2.2.1.getD i (0, (0, (0, ([], 0))))))), (66, aB false), (69, aP 3 3), (70, aF s49 (x0.2.2.1.getD i (0, (0, (0, ([], 0))))).2.2.2.1), (71, aI ((List.length (x0.2.2.1.getD i (0, (0, (0, ([], 0))))).2.2.2.1 : Nat) : Int)), (72, aB false), (75, aP 3 0), (76, aI (x0.2.2.1.getD i (0, (0, (0, ([], 0))))).1), (77, aI ((i : Nat) : Int)), (78, aB false), (81, aP 3 1), (82, aI (x0.2.2.1.getD i (0, (0, (0, ([], 0))))).2.1), (83, aP 2 1), (84, aF s22 (x0.1.getD i (0, [])).2), (85, aI ((List.length (x0.1.getD i (0, [])).2 : Nat) : Int)), (86, aB false), (89, aP 3 2), (90, aI (x0.2.2.1.getD i (0, (0, (0, ([], 0))))).2.2.1), (91, aP 2 1), (92, aF s22 (x0.1.getD i (0, [])).2), (93, aI (colsOf (x0.1.getD i (0, [])).2)), (94, aB (!decide ((x0.2.2.1.getD i (0, (0, (0, ([], 0))))).2.2.1 = (colsOf (x0.1.getD i (0, [])).2))))], [(1, oX 78 [.ro s52 x0.1, cI x0.2.1.1, cI x0.2.1.2.1, cI x0.2.1.2.2.1, cI x0.2.1.2.2.2, .ro s47 x0.2.2.1, .ro s183 x0.2.2.2.1, cI x0.2.2.2.2]), (2, oX 52 [cI (x0.1.getD i (0, [])).1, .ro s22 (x0.1.getD i (0, [])).2]), (3, oX 47 [cI (x0.2.2.1.getD i (0, (0, (0, ([], 0))))).1, cI (x0.2.2.1.getD i (0, (0, (0, ([], 0))))).2.1, cI (x0.2.2.1.getD i (0, (0, (0, ([], 0))))).2.2.1, .ro s49 (x0.2.2.1.getD i (0, (0, (0, ([], 0))))).2.2.2.1, cI (x0.2.2.1.getD i (0, (0, (0, ([], 0))))).2.2.2.2])]⟩ [] gamOK hT h (by kernel_rfl) trivial fun a w h => then_normal (wp_ret (in_ret (then_ret ?_)))
              have hs17 : (allN (srcB x0) (List.length x0.1)) = false := by exact allN_at (i := i) (by omega) (by exact srcB_f (by first | (left; assumption) | (right; right; left; assumption) | (right; left; omega) | (right; right; right; left; omega) | (right; right; right; right; left; omega) | (right; right; right; right; right; left; omega) | (right; right; right; right; right; right; omega)))
              refine then_ret (in_ret (then_ret ?_))
              exact at_return (S := S_spec_IsValidSource) (x := (x0, ())) (false, ()) [] h (by kernel_rfl) trivial (congrArg (fun z => (z, ())) (show (false) = validSo x0 from by first | rfl | (unfold validSo; rw [if_pos (notF h1), if_pos (notF h2), if_pos h3, if_pos h4, if_pos h5, if_neg (neT hs17)]; done) | (unfold validSo; simp_all)))
             ·replace h16 : (x0.2.2.1.getD i (0, (0, (0, ([], 0))))).2.2.1 = (colsOf (x0.1.getD i (0, [])).2) := of_decide_eq_true (notF h16)
              refine wp_skip (in_normal (then_normal ?_))
              refine at_reg [{}, { nw := true }] { ts := [1, 2, 3, 4, 58, 59, 60, 61, 64, 65, 66, 69, 70, 71, 72, 75, 76, 77, 78, 81, 82, 83, 84, 85, 86, 89, 90, 91, 92, 93, 94], os := [1, 2, 3] } ⟨[(1, aP 1 0), (2, aB false), (3, aI ((List.length x0.1 : Nat) : Int)), (4, aI (((i : Nat) : Int) + 1)), (58, aP 2 0), (59, aI (x0.1.getD i (0, [])).1), (60, aI ((i : Nat) : Int)), (61, aB false), (64, aG [cI (x0.2.2.1.getD i (0, (0, (0, ([], 0))))).1, cI (x0.2.2.1.getD i (0, (0, (0, ([], 0))))).2.1, cI (x0.2.2.1.getD i (0, (0, (0, ([], 0))))).2.2.1, .ro s49 (x0.2.2.1.getD i (0, (0, (0, ([], 0))))).2.2.2.1, cI (x0.2.2.1.getD i (0, (0, (0, ([], 0))))).2.2.2.2]), (65, aB (validR (x0.2.2.1.getD i (0, (0, (0, ([], 0))))))), (66, aB false), (69, aP 3 3), (70, aF s49 (x0.2.2.1.getD i (0, (0, (0, ([], 0))))).2.2.2.1), (71, aI ((List.length (x0.2.2.1.getD i (0, (0, (0, ([], 0))))).2.2.2.1 : Nat) : Int)), (72, aB false), (75, aP 3 0), (76, aI (x0.2.2.1.getD i (0, (0, (0, ([], 0))))).1), (77, aI ((i : Nat) : Int)), (78, aB false), (81, aP 3 1), (82, aI (x0.2.2.1.getD i (0, (0, (0, ([], 0))))).2.1), (83, aP 2 1), (84, aF s22 (x0.1.getD i (0, [])).2), (85, aI ((List.length (x0.1.getD i (0, [])).2 : Nat) : Int)), (86, aB false), (89, aP 3 2), (90, aI (x0.2.2.1.getD i (0, (0, (0, ([], 0))))).2.2.1), (91, aP 2 1), (92, aF s22 (x0.1.getD i (0, [])).2), (93, aI (colsOf (x0.1.getD i (0, [])).2)), (94, aB (!decide ((x0.2.2.1.getD i (0, (0, (0, ([], 0))))).2.2.1 = (colsOf (x0.1.getD i (0, [])).2))))], [(1, oX 78 [.ro s52 x0.1, cI x0.2.1.1, cI x0.2.1.2.1, cI x0.2.1.2.2.1, cI x0.2.1.2.2.2, .ro s47 x0.2.2.1, .ro s183 x0.2.2.2.1, cI x0.2.2.2.2]), (2, oX 52 [cI (x0.1.getD i (0, [])).1, .ro s22 (x0.1.getD i (0, [])).2]), (3, oX 47 [cI (x0.2.2.1.getD i (0, (0, (0, ([], 0))))).1, cI (x0.2.2.1.getD i (0, (0, (0, ([], 0))))).2.1, cI (x0.2.2.1.getD i (0, (0, (0, ([], 0))))).2.2.1, .ro s49 (x0.2.2.1.getD i (0, (0, (0, ([], 0))))).2.2.2.1, cI (x0.2.2.1.getD i (0, (0, (0, ([], 0))))).2.2.2.2])]⟩ [I64 (((i : Nat) : Int) + 1)] gamOK hT h (by kernel_rfl) ⟨⟨by first | omega | (simp only [lsA]; omega) | (simp <;> omega), by first | omega | (simp only [lsA]; omega) | (simp <;> omega)⟩, trivial⟩ fun a w h => ?_
              replace h := at_out (σ' := ⟨[(1, aP 1 0), (2, aB false), (3, aI ((List.length x0.1 : Nat) : Int)), (4, aI (((i : Nat) : Int) + 1))], [(1, oX 78 [.ro s52 x0.1, cI x0.2.1.1, cI x0.2.1.2.1, cI x0.2.1.2.2.1, cI x0.2.1.2.2.2, .ro s47 x0.2.2.1, .ro s183 x0.2.2.2.1, cI x0.2.2.2.2])]⟩) { ts := [1, 2, 3, 4], os := [1] } h (by kernel_rfl)
              exact ⟨i + 1, at_eq h (st_congr1 (fun (d0 : Int) => (⟨[(1, aP 1 0), (2, aB false), (3, aI ((List.length x0.1 : Nat) : Int)), (4, aI d0)], [(1, oX 78 [.ro s52 x0.1, cI x0.2.1.1, cI x0.2.1.2.1, cI x0.2.1.2.2.1, cI x0.2.1.2.2.2, .ro s47 x0.2.2.1, .ro s183 x0.2.2.2.1, cI x0.2.2.2.2])]⟩ : St)) (show (((i : Nat) : Int) + 1 : Int) = (((i + 1) : Nat) : Int) from by first | with_reducible rfl | (omega) | rfl)), (by exact ⟨by omega, allN_succ hok0.2 (by exact srcB_t (by assumption) (by omega) (by assumption) (by omega) (by omega) (by omega) (by omega))⟩), (by omega)⟩
            ·refine at_anyq [{}, {}, { hint := some (aB false) }, {}, {}, {}, {}, { hint := some (aB false) }, {}, {}, {}, {}, { hint := some (aB false) }, {}, {}, {}, {}, {}, { hint := some (aB false) }, {}, {}, {}, {}, {}, { hint := some (aB false) }, {}, {}, {}, {}, {}, {}, {}, { hint := some (aB true) }, {}, {}, {}, {}, {}, {}, {}, {}, {}] { ts := [1, 2, 3, 4, 58, 59, 60, 61, 64, 65, 66, 69, 70, 71, 72, 75, 76, 77, 78, 81, 82, 83, 84, 85, 86, 89, 90, 91, 92, 93, 94, 95], os := [1, 2, 3] } [Q_spec_IsValidGeneration (x0.1.getD i (0, [])), (AV.p (.c (.v (.bool (!(validG (x0.1.getD i (0, []))))))) = AV.p (.c (.v (.bool false)))), (AV.p (.c (.v (.bool (!decide ((x0.1.getD i (0, [])).1 = ((i : Nat) : Int)))))) = AV.p (.c (.v (.bool false)))), Q_spec_IsValidRecoder (x0.2.2.1.getD i (0, (0, (0, ([], 0))))), (AV.p (.c (.v (.bool (!(validR (x0.2.2.1.getD i (0, (0, (0, ([], 0)))))))))) = AV.p (.c (.v (.bool false)))), (AV.p (.c (.v (.bool (decide (((List.length (x0.2.2.1.getD i (0, (0, (0, ([], 0))))).2.2.2.1 : Nat) : Int) > 0))))) = AV.p (.c (.v (.bool false)))), (AV.p (.c (.v (.bool (!decide ((x0.2.2.1.getD i (0, (0, (0, ([], 0))))).1 = ((i : Nat) : Int)))))) = AV.p (.c (.v (.bool false)))), (AV.p (.c (.v (.bool (!decide ((x0.2.2.1.getD i (0, (0, (0, ([], 0))))).2.1 = ((List.length (x0.1.getD i (0, [])).2 : Nat) : Int)))))) = AV.p (.c (.v (.bool true))))] gamOK hT mixed h (by kernel_rfl) ⟨(by exact (Sh.fit_getD hf0.1 i)), hint_bool (h7), hint_bool (ndT h9), (by exact (Sh.fit_getD hf0.2.2.1 i)), hint_bool (h10), hint_bool (decide_eq_false h12), hint_bool (ndT h14), hint_bool (ndF h15), trivial⟩ fun a w h => then_normal ?_
             refine at_test true h (by kernel_rfl) (fun hh => ?_) (fun hh => nomatch hh)
             refine wp_seq ?_
             refine at_reg [] { ts := [1, 2, 3, 4, 58, 59, 60, 61, 64, 65, 66, 69, 70, 71, 72, 75, 76, 77, 78, 81, 82, 83, 84, 85, 86, 89, 90, 91, 92, 93, 94], os := [1, 2, 3] } ⟨[(1, aP 1 0), (2, aB false), (3, aI ((List.length x0.1 : Nat) : Int)), (4, aI ((i : Nat) : Int)), (58, aP 2 0), (59, aI (x0.1.getD i (0, [])).1), (60, aI ((i : Nat) : Int)), (61, aB false), (64, aG [cI (x0.2.2.1.getD i (0, (0, (0, ([], 0))))).1, cI (x0.2.2.1.getD i (0, (0, (0, ([], 0))))).2.1, cI (x0.2.2.1.getD i (0, (0, (0, ([], 0))))).2.2.1, .ro s49 (x0.2.2.1.getD i (0, (0, (0, ([], 0))))).2.2.2.1, cI (x0.2.2.1.getD i (0, (0, (0, ([], 0))))).2.2.2.2]), (65, aB (validR (x0.2.2.1.getD i (0, (0, (0, ([], 0))))))), (66, aB false), (69, aP 3 3), (70, aF s49 (x0.2.2.1.getD i (0, (0, (0, ([], 0))))).2.2.2.1), (71, aI ((List.length (x0.2.2.1.getD i (0, (0, (0, ([], 0))))).2.2.2.1 : Nat) : Int)), (72, aB false), (75, aP 3 0), (76, aI (x0.2.2.1.getD i (0, (0, (0, ([], 0))))).1), (77, aI ((i : Nat) : Int)), (78, aB false), (81, aP 3 1), (82, aI (x0.2.2.1.getD i (0, (0, (0, ([], 0))))).2.1), (83, aP 2 1), (84, aF s22 (x0.1.getD i (0, [])).2), (85, aI ((List.length (x0.1.getD i (0, [])).2 : Nat) : Int)), (86, aB true), (89, .p (.c (.v undef))), (90, .p (.c (.v undef))), (91, .p (.c (.v undef))), (92, .p (.c (.v undef))), (93, .p (.c (.v undef))), (94, .p (.c (.v undef)))], [(1, oX 78 [.ro s52 x0.1, cI x0.2.1.1, cI x0.2.1.2.1, cI x0.2.1.2.2.1, cI x0.2.1.2.2.2, .ro s47 x0.2.2.1, .ro s183 x0.2.2.2.1, cI x0.2.2.2.2]), (2, oX 52 [cI (x0.1.getD i (0, [])).1, .ro s22 (x0.1.getD i (0, [])).2]), (3, oX 47 [cI (x0.2.2.1.getD i (0, (0, (0, ([], 0))))).1, cI (x0.2.2.1.getD i (0, (0, (0, ([], 0))))).2.1, cI (x0.2.2.1.getD i (0, (0, (0, ([], 0))))).2.2.1, .ro s49 (x0.2.2.1.getD i (0, (0, (0, ([], 0))))).2.2.2.1, cI (x0.2.2.1.getD i (0, (0, (0, ([], 0))))).2.2.2.2])]⟩ [] gamOK hT h (by kernel_rfl) trivial fun a w h => then_normal (wp_ret (in_ret (then_ret ?_)))
             have hs18 : (allN (srcB x0) (List.length x0.1)) = false := by exact allN_at (i := i) (by omega) (by exact srcB_f (by first | (left; assumption) | (right; right; left; assumption) | (right; left; omega) | (right; right; right; left; omega) | (right; right; right; right; left; omega) | (right; right; right; right; right; left; omega) | (right; right; right; right; right; right; omega)))
             refine then_ret (in_ret (then_ret ?_))
             exact at_return (S := S_spec_IsValidSource) (x := (x0, ())) (false, ()) [] h (by kernel_rfl) trivial (congrArg (fun z => (z, ())) (show (false) = validSo x0 from by first | rfl | (unfold validSo; rw [if_pos (notF h1), if_pos (notF h2), if_pos h3, if_pos h4, if_pos h5, if_neg (neT hs18)]; done) | (unfold validSo; simp_all)))
           ·refine at_anyq [{}, {}, { hint := some (aB false) }, {}, {}, {}, {}, { hint := some (aB false) }, {}, {}, {}, {}, { hint := some (aB false) }, {}, {}, {}, {}, {}, { hint := some (aB false) }, {}, {}, {}, {}, {}, { hint := some (aB true) }, {}, {}, {}, {}, {}, {}, {}, {}, {}, {}, {}, {}, {}, {}, {}, {}, {}] { ts := [1, 2, 3, 4, 58, 59, 60, 61, 64, 65, 66, 69, 70, 71, 72, 75, 76, 77, 78, 81, 82, 83, 84, 85, 86, 89, 90, 91, 92, 93, 94, 95], os := [1, 2, 3] } [Q_spec_IsValidGeneration (x0.1.getD i (0, [])), (AV.p (.c (.v (.bool (!(validG (x0.1.getD i (0, []))))))) = AV.p (.c (.v (.bool false)))), (AV.p (.c (.v (.bool (!decide ((x0.1.getD i (0, [])).1 = ((i : Nat) : Int)))))) = AV.p (.c (.v (.bool false)))), Q_spec_IsValidRecoder (x0.2.2.1.getD i (0, (0, (0, ([], 0))))), (AV.p (.c (.v (.bool (!(validR (x0.2.2.1.getD i (0, (0, (0, ([], 0)))))))))) = AV.p (.c (.v (.bool false)))), (AV.p (.c (.v (.bool (decide (((List.length (x0.2.2.1.getD i (0, (0, (0, ([], 0))))).2.2.2.1 : Nat) : Int) > 0))))) = AV.p (.c (.v (.bool false)))), (AV.p (.c (.v (.bool (!decide ((x0.2.2.1.getD i (0, (0, (0, ([], 0))))).1 = ((i : Nat) : Int)))))) = AV.p (.c (.v (.bool true))))] gamOK hT mixed h (by kernel_rfl) ⟨(by exact (Sh.fit_getD hf0.1 i)), hint_bool (h7), hint_bool (ndT h9), (by exact (Sh.fit_getD hf0.2.2.1 i)), hint_bool (h10), hint_bool (decide_eq_false h12), hint_bool (ndF h14), trivial⟩ fun a w h => then_normal ?_
            refine at_test true h (by kernel_rfl) (fun hh => ?_) (fun hh => nomatch hh)
            refine wp_seq ?_
            refine at_reg [] { ts := [1, 2, 3, 4, 58, 59, 60, 61, 64, 65, 66, 69, 70, 71, 72, 75, 76, 77, 78, 81, 82, 83, 84, 85, 86, 89, 90, 91, 92, 93, 94], os := [1, 2, 3] } ⟨[(1, aP 1 0), (2, aB false), (3, aI ((List.length x0.1 : Nat) : Int)), (4, aI ((i : Nat) : Int)), (58, aP 2 0), (59, aI (x0.1.getD i (0, [])).1), (60, aI ((i : Nat) : Int)), (61, aB false), (64, aG [cI (x0.2.2.1.getD i (0, (0, (0, ([], 0))))).1, cI (x0.2.2.1.getD i (0, (0, (0, ([], 0))))).2.1, cI (x0.2.2.1.getD i (0, (0, (0, ([], 0))))).2.2.1, .ro s49 (x0.2.2.1.getD i (0, (0, (0, ([], 0))))).2.2.2.1, cI (x0.2.2.1.getD i (0, (0, (0, ([], 0))))).2.2.2.2]), (65, aB (validR (x0.2.2.1.getD i (0, (0, (0, ([], 0))))))), (66, aB false), (69, aP 3 3), (70, aF s49 (x0.2.2.1.getD i (0, (0, (0, ([], 0))))).2.2.2.1), (71, aI ((List.length (x0.2.2.1.getD i (0, (0, (0, ([], 0))))).2.2.2.1 : Nat) : Int)), (72, aB false), (75, aP 3 0), (76, aI (x0.2.2.1.getD i (0, (0, (0, ([], 0))))).1), (77, aI ((i : Nat) : Int)), (78, aB true), (81, .p (.c (.v undef))), (82, .p (.c (.v undef))), (83, .p (.c (.v undef))), (84, .p (.c (.v undef))), (85, .p (.c (.v undef))), (86, .p (.c (.v undef))), (89, .p (.c (.v undef))), (90, .p (.c (.v undef))), (91, .p (.c (.v undef))), (92, .p (.c (.v undef))), (93, .p (.c (.v undef))), (94, .p (.c (.v undef)))], [(1, oX 78 [.ro s52 x0.1, cI x0.2.1.1, cI x0.2.1.2.1, cI x0.2.1.2.2.1, cI x0.2.1.2.2.2, .ro s47 x0.2.2.1, .ro s183 x0.2.2.2.1, cI x0.2.2.2.2]), (2, oX 52 [cI (x0.1.getD i (0, [])).1, .ro s22 (x0.1.getD i (0, [])).2]), (3, oX 47 [cI (x0.2.2.1.getD i (0, (0, (0, ([], 0))))).1, cI (x0.2.2.1.getD i (0, (0, (0, ([], 0))))).2.1, cI (x0.2.2.1.getD i (0, (0, (0, ([], 0))))).2.2.1, .ro s49 (x0.2.2.1.getD i (0, (0, (0, ([], 0))))).2.2.2.1, cI (x0.2.2.1.getD i (0, (0, (0, ([], 0))))).2.2.2.2])]⟩ [] gamOK hT h (by kernel_rfl) trivial fun a w h => then_normal (wp_ret (in_ret (then_ret ?_)))
            have hs19 : (allN (srcB x0) (List.length x0.1)) = false := by exact allN_at (i := i) (by omega) (by exact srcB_f (by first | (left; assumption) | (right; right; left; assumption) | (right; left; omega) | (right; right; right; left; omega) | (right; right; right; right; left; omega) | (right; right; right; right; right; left; omega) | (right; right; right; right; right; right; omega)))
            refine then_ret (in_ret (then_ret ?_))
            exact at_return (S := S_spec_IsValidSource) (x := (x0, ())) (false, ()) [] h (by kernel_rfl) trivial (congrArg (fun z => (z, ())) (show (false) = validSo x0 from by first | rfl | (unfold validSo; rw [if_pos (notF h1), if_pos (notF h2), if_pos h3, if_pos h4, if_pos h5, if_neg (neT hs19)]; done) | (unfold validSo; simp_all)))
        ·refine at_anyq [{}, {}, { hint := some (aB false) }, {}, {}, {}, {}, { hint := some (aB true) }, {}, {}, {}, {}, {}, {}, {}, {}, {}, {}, {}, {}, {}, {}, {}, {}, {}, {}, {}, {}, {}, {}, {}, {}, {}, {}, {}, {}, {}, {}, {}, {}, {}, {}] { ts := [1, 2, 3, 4, 58, 59, 60, 61, 64, 65, 66, 69, 70, 71, 72, 75, 76, 77, 78, 81, 82, 83, 84, 85, 86, 89, 90, 91, 92, 93, 94, 95], os := [1, 2] } [Q_spec_IsValidGeneration (x0.1.getD i (0, [])), (AV.p (.c (.v (.bool (!(validG (x0.1.getD i (0, []))))))) = AV.p (.c (.v (.bool false)))), (AV.p (.c (.v (.bool (!decide ((x0.1.getD i (0, [])).1 = ((i : Nat) : Int)))))) = AV.p (.c (.v (.bool true))))] gamOK hT mixed h (by kernel_rfl) ⟨(by exact (Sh.fit_getD hf0.1 i)), hint_bool (h7), hint_bool (ndF h9), trivial⟩ fun a w h => then_normal ?_
         refine at_test true h (by kernel_rfl) (fun hh => ?_) (fun hh => nomatch hh)
         refine wp_seq ?_
         refine at_reg [] { ts := [1, 2, 3, 4, 58, 59, 60, 61, 64, 65, 66, 69, 70, 71, 72, 75, 76, 77, 78, 81, 82, 83, 84, 85, 86, 89, 90, 91, 92, 93, 94], os := [1, 2] } ⟨[(1, aP 1 0), (2, aB false), (3, aI ((List.length x0.1 : Nat) : Int)), (4, aI ((i : Nat) : Int)), (58, aP 2 0), (59, aI (x0.1.getD i (0, [])).1), (60, aI ((i : Nat) : Int)), (61, aB true), (64, .p (.c (.v undef))), (65, .p (.c (.v undef))), (66, .p (.c (.v undef))), (69, .p (.c (.v undef))), (70, .p (.c (.v undef))), (71, .p (.c (.v undef))), (72, .p (.c (.v undef))), (75, .p (.c (.v undef))), (76, .p (.c (.v undef))), (77, .p (.c (.v undef))), (78, .p (.c (.v undef))), (81, .p (.c (.v undef))), (82, .p (.c (.v undef))), (83, .p (.c (.v undef))), (84, .p (.c (.v undef))), (85, .p (.c (.v undef))), (86, .p (.c (.v undef))), (89, .p (.c (.v undef))), (90, .p (.c (.v undef))), (91, .p (.c (.v undef))), (92, .p (.c (.v undef))), (93, .p (.c (.v undef))), (94, .p (.c (.v undef)))], [(1, oX 78 [.ro s52 x0.1, cI x0.2.1.1, cI x0.2.1.2.1, cI x0.2.1.2.2.1, cI x0.2.1.2.2.2, .ro s47 x0.2.2.1, .ro s183 x0.2.2.2.1, cI x0.2.2.2.2]), (2, oX 52 [cI (x0.1.getD i (0, [])).1, .ro s22 (x0.1.getD i (0, [])).2])]⟩ [] gamOK hT h (by kernel_rfl) trivial fun a w h => then_normal (wp_ret (in_ret (then_ret ?_)))
         have hs20 : (allN (srcB x0) (List.length x0.1)) = false := by exact allN_at (i := i) (by omega) (by exact srcB_f (by first | (left; assumption) | (right; right; left; assumption) | (right; left; omega) | (right; right; right; left; omega) | (right; right; right; right; left; omega) | (right; right; right; right; right; left; omega) | (right; right; right; right; right; right; omega)))
         refine then_ret (in_ret (then_ret ?_))
         exact at_return (S := S_spec_IsValidSource) (x := (x0, ())) (false, ()) [] h (by kernel_rfl) trivial (congrArg (fun z => (z, ())) (show (false) = validSo x0 from by first | rfl | (unfold validSo; rw [if_pos (notF h1), if_pos (notF h2), if_pos h3, if_pos h4, if_pos h5, if_neg (neT hs20)]; done) | (unfold validSo; simp_all)))
      ·replace h6 : ¬ (((i : Nat) : Int) < ((List.length x0.1 : Nat) : Int)) := of_decide_eq_false h6
       refine wp_exit (then_exit ?_)
       have hs21 : (allN (srcB x0) (List.length x0.1)) = true := by exact allN_eq (by omega) hok0.1 hok0.2
       refine then_exit (in_hit (then_normal (wp_seq ?_)))
       refine at_regq [] { ts := [2], os := [] } [] gamOK hT h (by kernel_rfl) trivial fun a w h => then_normal (wp_ret ?_)
       exact at_return (S := S_spec_IsValidSource) (x := (x0, ())) (true, ()) [] h (by kernel_rfl) trivial (congrArg (fun z => (z, ())) (show (true) = validSo x0 from by first | rfl | (unfold validSo; rw [if_pos (notF h1), if_pos (notF h2), if_pos h3, if_pos h4, if_pos h5, if_pos hs21]; done) | (unfold validSo; simp_all)))
    ·refine at_regq [{}, {}, { hint := some (aB false) }, {}, {}, {}, {}, { hint := some (aB false) }, {}, {}, {}, {}, {}, {}, { hint := some (aB false) }, {}, {}, {}, {}, {}, {}, { hint := some (aB true) }] { ts := [1, 2, 3, 38], os := [1] } [True, (AV.p (.c (.v (.bool (!(inR ((List.length x0.1 : Nat) : Int) 1 60))))) = AV.p (.c (.v (.bool false)))), True, (AV.p (.c (.v (.bool (!(validW x0.2.1))))) = AV.p (.c (.v (.bool false)))), (AV.p (.c (.v (.bool (!decide (x0.2.1.2.2.2 = ((List.length x0.1 : Nat) : Int)))))) = AV.p (.c (.v (.bool false)))), (AV.p (.c (.v (.bool (!decide (((List.length x0.2.2.1 : Nat) : Int) = ((List.length x0.1 : Nat) : Int)))))) = AV.p (.c (.v (.bool true))))] gamOK hT h (by kernel_rfl) ⟨trivial, hint_bool (h1), trivial, hint_bool (h2), hint_bool (ndT h3), hint_bool (ndF h4), trivial⟩ fun a w h => then_normal ?_
     refine at_test true h (by kernel_rfl) (fun hh => ?_) (fun hh => nomatch hh)
     refine wp_seq ?_
     refine at_regq [] { ts := [1, 2, 3], os := [1] } [] gamOK hT h (by kernel_rfl) trivial fun a w h => then_normal (wp_ret (then_ret ?_))
     exact at_return (S := S_spec_IsValidSource) (x := (x0, ())) (false, ()) [] h (by kernel_rfl) trivial (congrArg (fun z => (z, ())) (show (false) = validSo x0 from by first | rfl | (unfold validSo; rw [if_pos (notF h1), if_pos (notF h2), if_pos h3, if_neg h4]; done) | (unfold validSo; simp_all)))
   ·refine at_regq [{}, {}, { hint := some (aB false) }, {}, {}, {}, {}, { hint := some (aB false) }, {}, {}, {}, {}, {}, {}, { hint := some (aB true) }] { ts := [1, 2, 3, 38], os := [1] } [True, (AV.p (.c (.v (.bool (!(inR ((List.length x0.1 : Nat) : Int) 1 60))))) = AV.p (.c (.v (.bool false)))), True, (AV.p (.c (.v (.bool (!(validW x0.2.1))))) = AV.p (.c (.v (.bool false)))), (AV.p (.c (.v (.bool (!decide (x0.2.1.2.2.2 = ((List.length x0.1 : Nat) : Int)))))) = AV.p (.c (.v (.bool true))))] gamOK hT h (by kernel_rfl) ⟨trivial, hint_bool (h1), trivial, hint_bool (h2), hint_bool (ndF h3), trivial⟩ fun a w h => then_normal ?_
    refine at_test true h (by kernel_rfl) (fun hh => ?_) (fun hh => nomatch hh)
    refine wp_seq ?_
    refine at_regq [] { ts := [1, 2, 3], os := [1] } [] gamOK hT h (by kernel_rfl) trivial fun a w h => then_normal (wp_ret (then_ret ?_))
    exact at_return (S := S_spec_IsValidSource) (x := (x0, ())) (false, ()) [] h (by kernel_rfl) trivial (congrArg (fun z => (z, ())) (show (false) = validSo x0 from by first | rfl | (unfold validSo; rw [if_pos (notF h1), if_pos (notF h2), if_neg h3]; done) | (unfold validSo; simp_all)))

def finW (x0 : T72) : Bool := (if (validW x0) = true then decide (x0.1 = x0.2.2.2) else false)
def S_impl_IsFinished : Sum := { fid := 83, dom := [s72], cod := [(.bool 4)], dp := true, fz := false, pre := fun x => True, g := fun x => ((finW x.1), ()) }
def S_impl_IsFinished_tab : List (Nat × Sum) := [(136, S_impl_IsValidWindow)]
theorem S_impl_IsFinished_ok : FnOK Tryz.prog 83 S_impl_IsFinished := by
 refine at_enter 12 (fun x => ⟨[(0, aG [cI x.1.1, cI x.1.2.1, cI x.1.2.2.1, cI x.1.2.2.2])], []⟩) Tryz.func83 rfl (by kernel_rfl) (fun x => rfl) ?_
 rintro w0 Z0 ⟨x0, u⟩ a w
 revert x0
 intro (x0 : T72) hpre hlens h
 replace h : At w0 Z0 [] 12 ⟨[(0, aG [cI x0.1, cI x0.2.1, cI x0.2.2.1, cI x0.2.2.2])], []⟩ a w := h
 have hT : TabOK Tryz.prog S_impl_IsFinished_tab := (.cons S_impl_IsValidWindow_ok .nil)
 refine wp_seq ?_
 refine at_regq [{ ids := [1] }] { ts := [1, 2], os := [1] } [] gamOK hT h (by kernel_rfl) trivial fun a w h => then_normal (wp_seq ?_)
 rcases Bool.eq_false_or_eq_true ((validW x0)) with h1 | h1
 ·have hvh1 := validW_t h1
  refine at_regq [{}, { hint := some (aB true) }] { ts := [2], os := [] } [True, (AV.p (.c (.v (.bool ((validW x0))))) = AV.p (.c (.v (.bool true))))] gamOK hT h (by kernel_rfl) ⟨trivial, hint_bool (h1), trivial⟩ fun a w h => then_normal (wp_ret ?_)
  exact at_return (S := S_impl_IsFinished) (x := (x0, ())) (decide (x0.1 = x0.2.2.2), ()) [] h (by kernel_rfl) trivial (congrArg (fun z => (z, ())) (show (decide (x0.1 = x0.2.2.2)) = finW x0 from by first | rfl | (unfold finW; rw [if_pos h1])))
 ·refine at_regq [{}, { hint := some (aB false) }] { ts := [2], os := [] } [True, (AV.p (.c (.v (.bool ((validW x0))))) = AV.p (.c (.v (.bool false))))] gamOK hT h (by kernel_rfl) ⟨trivial, hint_bool (h1), trivial⟩ fun a w h => then_normal (wp_ret ?_)
  exact at_return (S := S_impl_IsFinished) (x := (x0, ())) (false, ()) [] h (by kernel_rfl) trivial (congrArg (fun z => (z, ())) (show (false) = finW x0 from by first | rfl | (unfold finW; rw [if_neg (neT h1)])))

def S_spec_IsFinished : Sum := { fid := 78, dom := [s72], cod := [(.bool 4)], dp := true, fz := false, pre := fun x => True, g := fun x => ((finW x.1), ()) }
def S_spec_IsFinished_tab : List (Nat × Sum) := [(133, S_spec_IsValidWindow)]
theorem S_spec_IsFinished_ok : FnOK Tryz.prog 78 S_spec_IsFinished := by
 refine at_enter 12 (fun x => ⟨[(0, aG [cI x.1.1, cI x.1.2.1, cI x.1.2.2.1, cI x.1.2.2.2])], []⟩) Tryz.func78 rfl (by kernel_rfl) (fun x => rfl) ?_
 rintro w0 Z0 ⟨x0, u⟩ a w
 revert x0
 intro (x0 : T72) hpre hlens h
 replace h : At w0 Z0 [] 12 ⟨[(0, aG [cI x0.1, cI x0.2.1, cI x0.2.2.1, cI x0.2.2.2])], []⟩ a w := h
 have hT : TabOK Tryz.prog S_spec_IsFinished_tab := (.cons S_spec_IsValidWindow_ok .nil)
 refine wp_seq ?_
 refine at_regq [{ ids := [1] }] { ts := [1, 2], os := [1] } [] gamOK hT h (by kernel_rfl) trivial fun a w h => then_normal (wp_seq ?_)
 rcases Bool.eq_false_or_eq_true ((validW x0)) with h1 | h1
 ·have hvh1 := validW_t h1
  refine at_regq [{}, { hint := some (aB true) }] { ts := [2], os := [] } [True, (AV.p (.c (.v (.bool ((validW x0))))) = AV.p (.c (.v (.bool true))))] gamOK hT h (by kernel_rfl) ⟨trivial, hint_bool (h1), trivial⟩ fun a w h => then_normal (wp_ret ?_)
  exact at_return (S := S_spec_IsFinished) (x := (x0, ())) (decide (x0.1 = x0.2.2.2), ()) [] h (by kernel_rfl) trivial (congrArg (fun z => (z, ())) (show (decide (x0.1 = x0.2.2.2)) = finW x0 from by first | rfl | (unfold finW; rw [if_pos h1]; done) | (unfold finW; simp_all)))
 ·refine at_regq [{}, { hint := some (aB false) }] { ts := [2], os := [] } [True, (AV.p (.c (.v (.bool ((validW x0))))) = AV.p (.c (.v (.bool false))))] gamOK hT h (by kernel_rfl) ⟨trivial, hint_bool (h1), trivial⟩ fun a w h => then_normal (wp_ret ?_)
  exact at_return (S := S_spec_IsFinished) (x := (x0, ())) (false, ()) [] h (by kernel_rfl) trivial (congrArg (fun z => (z, ())) (show (false) = finW x0 from by first | rfl | (unfold finW; rw [if_neg (neT h1)]; done) | (unfold finW; simp_all)))

def srcDone (x0 : T78) : Bool := (if (validSo x0) = true then (finW x0.2.1) else false)
abbrev Q_impl_SourceDone := (fun (x0 : T78) => Sh.fit s78 x0)
def S_impl_SourceDone : Sum := { fid := 30, dom := [s78], cod := [(.bool 4)], dp := true, fz := false, pre := fun x => Q_impl_SourceDone x.1, g := fun x => ((srcDone x.1), ()) }
def S_impl_SourceDone_tab : List (Nat × Sum) := [(82, S_impl_IsValidSource), (83, S_impl_IsFinished)]
theorem S_impl_SourceDone_ok : FnOK Tryz.prog 30 S_impl_SourceDone := by
 refine at_enter 10 (fun x => ⟨[(0, aG [.ro s52 x.1.1, cI x.1.2.1.1, cI x.1.2.1.2.1, cI x.1.2.1.2.2.1, cI x.1.2.1.2.2.2, .ro s47 x.1.2.2.1, .ro s183 x.1.2.2.2.1, cI x.1.2.2.2.2])], []⟩) Tryz.func30 rfl (by kernel_rfl) (fun x => rfl) ?_
 rintro w0 Z0 ⟨x0, u⟩ a w
 revert x0
 intro (x0 : T78) hpre hlens h
 replace h : At w0 Z0 [] 10 ⟨[(0, aG [.ro s52 x0.1, cI x0.2.1.1, cI x0.2.1.2.1, cI x0.2.1.2.2.1, cI x0.2.1.2.2.2, .ro s47 x0.2.2.1, .ro s183 x0.2.2.2.1, cI x0.2.2.2.2])], []⟩ a w := h
 replace hpre : Q_impl_SourceDone x0 := hpre
 have hl1 : List.length x0.1 ≤ 9223372036854775807 := hlens.1.1.1
 have hl2 : List.length x0.2.2.1 ≤ 9223372036854775807 := hlens.1.2.2.1.1
 have hl3 : List.length x0.2.2.2.1 ≤ 9223372036854775807 := hlens.1.2.2.2.1.1
 have hT : TabOK Tryz.prog S_impl_SourceDone_tab := (.cons S_impl_IsValidSource_ok (.cons S_impl_IsFinished_ok .nil))
 have hf0 : Sh.fit s78 x0 := hpre
 have hn0_1 : List.length x0.1 ≤ 1073741824 := hf0.1.1
 have hn0_2 : List.length x0.2.2.1 ≤ 1073741824 := hf0.2.2.1.1
 have hn0_3 : List.length x0.2.2.2.1 ≤ 1073741824 := hf0.2.2.2.1.1
 refine wp_seq ?_
 refine at_regq [{ ids := [1] }] { ts := [1, 2], os := [1] } [] gamOK hT h (by kernel_rfl) trivial fun a w h => then_normal (wp_seq ?_)
 rcases Bool.eq_false_or_eq_true ((validSo x0)) with h1 | h1
 ·refine at_regq [{}, { hint := some (aB true) }] { ts := [2], os := [] } [Q_impl_IsValidSource x0, (AV.p (.c (.v (.bool ((validSo x0))))) = AV.p (.c (.v (.bool true)))), True] gamOK hT h (by kernel_rfl) ⟨(by exact hf0), hint_bool (h1), trivial, trivial⟩ fun a w h => then_normal (wp_ret ?_)
  exact at_return (S := S_impl_SourceDone) (x := (x0, ())) ((finW x0.2.1), ()) [] h (by kernel_rfl) trivial (congrArg (fun z => (z, ())) (show ((finW x0.2.1)) = srcDone x0 from by first | rfl | (unfold srcDone; rw [if_pos h1])))
 ·refine at_regq [{}, { hint := some (aB false) }] { ts := [2], os := [] } [Q_impl_IsValidSource x0, (AV.p (.c (.v (.bool ((validSo x0))))) = AV.p (.c (.v (.bool false))))] gamOK hT h (by kernel_rfl) ⟨(by exact hf0), hint_bool (h1), trivial⟩ fun a w h => then_normal (wp_ret ?_)
  exact at_return (S := S_impl_SourceDone) (x := (x0, ())) (false, ()) [] h (by kernel_rfl) trivial (congrArg (fun z => (z, ())) (show (false) = srcDone x0 from by first | rfl | (unfold srcDone; rw [if_neg (neT h1)])))

abbrev Q_spec_SourceDone := (fun (x0 : T78) => Sh.fit s78 x0)
def S_spec_SourceDone : Sum := { fid := 28, dom := [s78], cod := [(.bool 4)], dp := true, fz := false, pre := fun x => Q_spec_SourceDone x.1, g := fun x => ((srcDone x.1), ()) }
def S_spec_SourceDone_tab : List (Nat × Sum) := [(77, S_spec_IsValidSource), (78, S_spec_IsFinished)]
theorem S_spec_SourceDone_ok : FnOK Tryz.prog 28 S_spec_SourceDone := by
 refine at_enter 10 (fun x => ⟨[(0, aG [.ro s52 x.1.1, cI x.1.2.1.1, cI x.1.2.1.2.1, cI x.1.2.1.2.2.1, cI x.1.2.1.2.2.2, .ro s47 x.1.2.2.1, .ro s183 x.1.2.2.2.1, cI x.1.2.2.2.2])], []⟩) Tryz.func28 rfl (by kernel_rfl) (fun x => rfl) ?_
 rintro w0 Z0 ⟨x0, u⟩ a w
 revert x0
 intro (x0 : T78) hpre hlens h
 replace h : At w0 Z0 [] 10 ⟨[(0, aG [.ro s52 x0.1, cI x0.2.1.1, cI x0.2.1.2.1, cI x0.2.1.2.2.1, cI x0.2.1.2.2.2, .ro s47 x0.2.2.1, .ro s183 x0.2.2.2.1, cI x0.2.2.2.2])], []⟩ a w := h
 replace hpre : Q_spec_SourceDone x0 := hpre
 have hl1 : List.length x0.1 ≤ 9223372036854775807 := hlens.1.1.1
 have hl2 : List.length x0.2.2.1 ≤ 9223372036854775807 := hlens.1.2.2.1.1
 have hl3 : List.length x0.2.2.2.1 ≤ 9223372036854775807 := hlens.1.2.2.2.1.1
 have hT : TabOK Tryz.prog S_spec_SourceDone_tab := (.cons S_spec_IsValidSource_ok (.cons S_spec_IsFinished_ok .nil))
 have hf0 : Sh.fit s78 x0 := hpre
 have hn0_1 : List.length x0.1 ≤ 1073741824 := hf0.1.1
 have hn0_2 : List.length x0.2.2.1 ≤ 1073741824 := hf0.2.2.1.1
 have hn0_3 : List.length x0.2.2.2.1 ≤ 1073741824 := hf0.2.2.2.1.1
 refine wp_seq ?_
 refine at_regq [{ ids := [1] }] { ts := [1, 2], os := [1] } [] gamOK hT h (by kernel_rfl) trivial fun a w h => then_normal (wp_seq ?_)
 rcases Bool.eq_false_or_eq_true ((validSo x0)) with h1 | h1
 ·refine at_regq [{}, { hint := some (aB true) }] { ts := [2], os := [] } [Q_spec_IsValidSource x0, (AV.p (.c (.v (.bool ((validSo x0))))) = AV.p (.c (.v (.bool true)))), True] gamOK hT h (by kernel_rfl) ⟨(by exact hf0), hint_bool (h1), trivial, trivial⟩ fun a w h => then_normal (wp_ret ?_)
  exact at_return (S := S_spec_SourceDone) (x := (x0, ())) ((finW x0.2.1), ()) [] h (by kernel_rfl) trivial (congrArg (fun z => (z, ())) (show ((finW x0.2.1)) = srcDone x0 from by first | rfl | (unfold srcDone; rw [if_pos h1]; done) | (unfold srcDone; simp_all)))
 ·refine at_regq [{}, { hint := some (aB false) }] { ts := [2], os := [] } [Q_spec_IsValidSource x0, (AV.p (.c (.v (.bool ((validSo x0))))) = AV.p (.c (.v (.bool false))))] gamOK hT h (by kernel_rfl) ⟨(by exact hf0), hint_bool (h1), trivial⟩ fun a w h => then_normal (wp_ret ?_)
  exact at_return (S := S_spec_SourceDone) (x := (x0, ())) (false, ()) [] h (by kernel_rfl) trivial (congrArg (fun z => (z, ())) (show (false) = srcDone x0 from by first | rfl | (unfold srcDone; rw [if_neg (neT h1)]; done) | (unfold srcDone; simp_all)))

def D_laws_FnExactSourceDone := (fun (_ : T69) => true)
abbrev Q_laws_FnExactSourceDone := (fun (x0 : T69) => Sh.i64 s69 x0)
def S_laws_FnExactSourceDone : Sum := { fid := 5, dom := [s69], cod := [(.bool 4)], dp := true, fz := false, pre := fun x => Q_laws_FnExactSourceDone x.1, g := fun x => ((D_laws_FnExactSourceDone x.1), ()) }
def S_laws_FnExactSourceDone_tab : List (Nat × Sum) := [(27, S_laws_szSource), (29, S_laws_toSource), (28, S_spec_SourceDone), (30, S_impl_SourceDone), (31, S_laws_eqSource)]
theorem S_laws_FnExactSourceDone_ok : FnOK Tryz.prog 5 S_laws_FnExactSourceDone := by
 refine at_enter 27 (fun x => ⟨[(0, aG [.ro s39 x.1.1, cI x.1.2.1.1, cI x.1.2.1.2.1, cI x.1.2.1.2.2.1, cI x.1.2.1.2.2.2, .ro s42 x.1.2.2.1, .ro s186 x.1.2.2.2.1, cI x.1.2.2.2.2])], []⟩) Tryz.func5 rfl (by kernel_rfl) (fun x => rfl) ?_
 rintro w0 Z0 ⟨x0, u⟩ a w
 revert x0
 intro (x0 : T69) hpre hlens h
 replace h : At w0 Z0 [] 27 ⟨[(0, aG [.ro s39 x0.1, cI x0.2.1.1, cI x0.2.1.2.1, cI x0.2.1.2.2.1, cI x0.2.1.2.2.2, .ro s42 x0.2.2.1, .ro s186 x0.2.2.2.1, cI x0.2.2.2.2])], []⟩ a w := h
 replace hpre : Q_laws_FnExactSourceDone x0 := hpre
 have hl1 : List.length x0.1 ≤ 9223372036854775807 := hlens.1.1.1
 have hl2 : List.length x0.2.2.1 ≤ 9223372036854775807 := hlens.1.2.2.1.1
 have hl3 : List.length x0.2.2.2.1 ≤ 9223372036854775807 := hlens.1.2.2.2.1.1
 have hT : TabOK Tryz.prog S_laws_FnExactSourceDone_tab := (.cons S_laws_szSource_ok (.cons S_laws_toSource_ok (.cons S_spec_SourceDone_ok (.cons S_impl_SourceDone_ok (.cons S_laws_eqSource_ok .nil)))))
 have hq0 : Sh.sz s78 x0 = Sh.sz s69 x0 := rfl
 have hb0 : Sh.ctT s78 x0 ≤ 17 * Sh.sz s78 x0 := Sh.ctT_le2 s78 x0
 have hz0 : Sh.ct s78 x0 ≤ 17 * (1 + Sh.sz s78 x0) := Sh.ct_le s78 x0
 have ht0 : Sh.sz s69 x0 = ((Sh.sz s24 x0.1) + ((0 + (0 + (0 + 0))) + ((Sh.sz s64 x0.2.2.1) + ((Sh.sz s65 x0.2.2.2.1) + 0)))) := rfl
 have hs0_1 : Sh.sz s24 x0.1 = List.length x0.1 + ctL (Sh.sz s39) x0.1 := rfl
 have hs0_2 : Sh.sz s64 x0.2.2.1 = List.length x0.2.2.1 + ctL (Sh.sz s42) x0.2.2.1 := rfl
 have hs0_3 : Sh.sz s65 x0.2.2.2.1 = List.length x0.2.2.2.1 := sz_flat (by rfl) _
 refine wp_seq ?_
 refine at_regq [{ ids := [1] }] { ts := [1, 2], os := [1] } [] gamOK hT h (by kernel_rfl) trivial fun a w h => then_normal (wp_seq ?_)
 refine at_regq [] { ts := [1, 2, 3], os := [1] } [] gamOK hT h (by kernel_rfl) trivial fun a w h => then_normal (wp_seq ?_)
 refine at_regq [] { ts := [1, 2, 3], os := [1] } [(pSz s69) x0 1048576] gamOK hT h (by kernel_rfl) ⟨(by (show (0 : Int) ≤ _ ∧ _ ≤ (9223372036854775807 : Int); constructor <;> omega)), trivial⟩ fun a w h => then_normal (wp_seq (wp_seq ?_))
 refine at_regq [] { ts := [1, 2, 11], os := [1] } [] gamOK hT h (by kernel_rfl) trivial fun a w h => then_normal ?_
 refine at_test (decide (((szD s69) x0 1048576) < 0)) h (by kernel_rfl) (fun h1 => ?_) (fun h1 => ?_)
 ·replace h1 : ((szD s69) x0 1048576) < 0 := of_decide_eq_true h1
  have hvh1 := szD_neg h1 (by omega)
  refine wp_seq ?_
  refine at_regq [] { ts := [1, 2], os := [1] } [] gamOK hT h (by kernel_rfl) trivial fun a w h => then_normal (wp_ret (then_ret ?_))
  exact at_return (S := S_laws_FnExactSourceDone) (x := (x0, ())) (true, ()) [] h (by kernel_rfl) trivial (congrArg (fun z => (z, ())) (show (true) = D_laws_FnExactSourceDone x0 from by unfold D_laws_FnExactSourceDone; rfl))
 ·replace h1 : ¬ (((szD s69) x0 1048576) < 0) := of_decide_eq_false h1
  have hvh1 := szD_val h1 (by omega)
  refine wp_skip (then_normal (wp_seq ?_))
  refine at_regq [{}, { ids := [2, 3, 4] }] { ts := [1, 2, 4], os := [1] } [(pTo s69) x0, Q_spec_SourceDone x0] gamOK hT h (by kernel_rfl) ⟨(by (show Sh.sz _ _ ≤ 1048576; omega)), (by exact (Sh.fit_of_sz s78 rfl (x := x0) (by omega))), trivial⟩ fun a w h => then_normal (wp_seq ?_)
  refine at_regq [{}, { ids := [5, 6, 7] }, { ids := [8] }] { ts := [1, 2, 4, 5], os := [1, 5, 6, 7, 8] } [(pTo s69) x0] gamOK hT h (by kernel_rfl) ⟨(by (show Sh.sz _ _ ≤ 1048576; omega)), trivial⟩ fun a w h => then_normal (wp_seq ?_)
  refine at_regq [] { ts := [1, 2, 4, 5, 6], os := [1, 5, 6, 7, 8] } [Q_impl_SourceDone x0] gamOK hT h (by kernel_rfl) ⟨(by exact (Sh.fit_of_sz s78 rfl (x := x0) (by omega))), trivial⟩ fun a w h => then_normal (wp_seq (wp_seq ?_))
  refine at_regq [] { ts := [1, 2, 5, 21], os := [1, 5, 6, 7, 8] } [] gamOK hT h (by kernel_rfl) trivial fun a w h => then_normal ?_
  refine at_test (!((srcDone x0) == (srcDone x0))) h (by kernel_rfl) (fun h2 => ?_) (fun h2 => ?_)
  ·replace h2 : ((srcDone x0) == (srcDone x0)) = false := notT h2
   refine wp_seq ?_
   refine at_reg [] { ts := [1, 2, 5], os := [1, 5, 6, 7, 8] } ⟨[(1, aP 1 0), (2, aB false), (5, aP 8 0)], [(1, oX 69 [.ro s39 x0.1, cI x0.2.1.1, cI x0.2.1.2.1, cI x0.2.1.2.2.1, cI x0.2.1.2.2.2, .ro s42 x0.2.2.1, .ro s186 x0.2.2.2.1, cI x0.2.2.2.2]), (5, oR s52 x0.1), (6, oR s47 x0.2.2.1), (7, oR s183 x0.2.2.2.1), (8, oX 78 [.sl 5, cI x0.2.1.1, cI x0.2.1.2.1, cI x0.2.1.2.2.1, cI x0.2.1.2.2.2, .sl 6, .sl 7, cI x0.2.2.2.2])]⟩ [] gamOK hT h (by kernel_rfl) trivial fun a w h => then_normal (wp_ret (then_ret ?_))
   exact at_return (S := S_laws_FnExactSourceDone) (x := (x0, ())) (false, ()) [] h (by kernel_rfl) trivial (congrArg (fun z => (z, ())) (show (false) = D_laws_FnExactSourceDone x0 from by unfold D_laws_FnExactSourceDone; exact absurd (beqT (show _ = _ from by first | rfl | (rfl))) (neT h2)))
  ·replace h2 : ((srcDone x0) == (srcDone x0)) = true := notF h2
   refine wp_skip (then_normal (wp_seq (wp_seq ?_)))
   refine at_any [{}, {}, { ids := [9, 10, 11] }, {}, {}] { ts := [2, 26], os := [] } ⟨[(2, aB false), (26, aB (!((Sh.eqB s78) x0 x0)))], []⟩ [(pTo s69) x0, True] gamOK hT mixed h (by kernel_rfl) ⟨(by (show Sh.sz _ _ ≤ 1048576; omega)), trivial, trivial⟩ fun a w h => then_normal ?_
   refine at_test (!((Sh.eqB s78) x0 x0)) h (by kernel_rfl) (fun h3 => ?_) (fun h3 => ?_)
   ·replace h3 : ((Sh.eqB s78) x0 x0) = false := notT h3
    refine wp_seq ?_
    refine at_regq [] { ts := [2], os := [] } [] gamOK hT h (by kernel_rfl) trivial fun a w h => then_normal (wp_ret (then_ret ?_))
    exact at_return (S := S_laws_FnExactSourceDone) (x := (x0, ())) (false, ()) [] h (by kernel_rfl) trivial (congrArg (fun z => (z, ())) (show (false) = D_laws_FnExactSourceDone x0 from by unfold D_laws_FnExactSourceDone; exact absurd ((Sh.eqB_iff _).2 (show _ = _ from by first | rfl | (rfl))) (neT h3)))
   ·replace h3 : ((Sh.eqB s78) x0 x0) = true := notF h3
    refine wp_skip (then_normal (wp_seq ?_))
    refine at_regq [] { ts := [2], os := [] } [] gamOK hT h (by kernel_rfl) trivial fun a w h => then_normal (wp_ret ?_)
    exact at_return (S := S_laws_FnExactSourceDone) (x := (x0, ())) (true, ()) [] h (by kernel_rfl) trivial (congrArg (fun z => (z, ())) (show (true) = D_laws_FnExactSourceDone x0 from by unfold D_laws_FnExactSourceDone; rfl))

theorem opn3 : OpensS Tryz.prog 3 (.int 3) := opensS_int Tryz.underlying3
theorem co3 : Tryz.prog.cellsOf 3 = 1 := by kernel_rfl
theorem opn22 : OpensS Tryz.prog 22 s22 := opensS_slice (a := (.int 3)) Tryz.underlying22 co3 opn3
theorem co22 : Tryz.prog.cellsOf 22 = 1 := by kernel_rfl
theorem opn37 : OpensS Tryz.prog 37 s37 := opensS_slice (a := s22) Tryz.underlying37 co22 opn22
theorem co37 : Tryz.prog.cellsOf 37 = 1 := by kernel_rfl
theorem co39 : Tryz.prog.cellsOf 39 = 2 := by kernel_rfl
theorem opn39 : OpensS Tryz.prog 39 s39 := by
  intro H enc w base spare held fuel cs x h
  obtain ⟨xs, n, _, _, hl, hlen, hf⟩ := DataW.trod_struct Tryz.underlying39 h
  obtain ⟨a0, k0, i0⟩ := opensS_field (a := (.int 3)) (i := 0) 0 1 hf hlen rfl rfl rfl co3 opn3
  obtain ⟨a1, k1, i1⟩ := opensS_field (a := s37) (i := 1) 1 1 hf hlen rfl rfl rfl co37 opn37
  rw [co39] at hl
  exact ⟨(a0, a1), (rdS_pair (off := 0) k0 (rdS_last (off := 1) k1 (by omega))), ⟨i0, i1⟩⟩
theorem opn24 : OpensS Tryz.prog 24 s24 := opensS_slice (a := s39) Tryz.underlying24 co39 opn39
theorem co24 : Tryz.prog.cellsOf 24 = 1 := by kernel_rfl
theorem co63 : Tryz.prog.cellsOf 63 = 4 := by kernel_rfl
theorem opn63 : OpensS Tryz.prog 63 s63 := by
  intro H enc w base spare held fuel cs x h
  obtain ⟨xs, n, _, _, hl, hlen, hf⟩ := DataW.trod_struct Tryz.underlying63 h
  obtain ⟨a0, k0, i0⟩ := opensS_field (a := (.int 3)) (i := 0) 0 1 hf hlen rfl rfl rfl co3 opn3
  obtain ⟨a1, k1, i1⟩ := opensS_field (a := (.int 3)) (i := 1) 1 1 hf hlen rfl rfl rfl co3 opn3
  obtain ⟨a2, k2, i2⟩ := opensS_field (a := (.int 3)) (i := 2) 2 1 hf hlen rfl rfl rfl co3 opn3
  obtain ⟨a3, k3, i3⟩ := opensS_field (a := (.int 3)) (i := 3) 3 1 hf hlen rfl rfl rfl co3 opn3
  rw [co63] at hl
  exact ⟨(a0, (a1, (a2, a3))), (rdS_pair (off := 0) k0 (rdS_pair (off := 1) k1 (rdS_pair (off := 2) k2 (rdS_last (off := 3) k3 (by omega))))), ⟨i0, ⟨i1, ⟨i2, i3⟩⟩⟩⟩
theorem co147 : Tryz.prog.cellsOf 147 = 3 := by kernel_rfl
theorem opn147 : OpensS Tryz.prog 147 s147 := by
  intro H enc w base spare held fuel cs x h
  obtain ⟨xs, n, _, _, hl, hlen, hf⟩ := DataW.trod_struct Tryz.underlying147 h
  obtain ⟨a0, k0, i0⟩ := opensS_field (a := (.int 3)) (i := 0) 0 1 hf hlen rfl rfl rfl co3 opn3
  obtain ⟨a1, k1, i1⟩ := opensS_field (a := s22) (i := 1) 1 1 hf hlen rfl rfl rfl co22 opn22
  obtain ⟨a2, k2, i2⟩ := opensS_field (a := s22) (i := 2) 2 1 hf hlen rfl rfl rfl co22 opn22
  rw [co147] at hl
  exact ⟨(a0, (a1, a2)), (rdS_pair (off := 0) k0 (rdS_pair (off := 1) k1 (rdS_last (off := 2) k2 (by omega)))), ⟨i0, ⟨i1, i2⟩⟩⟩
theorem opn40 : OpensS Tryz.prog 40 s40 := opensS_slice (a := s147) Tryz.underlying40 co147 opn147
theorem co40 : Tryz.prog.cellsOf 40 = 1 := by kernel_rfl
theorem co42 : Tryz.prog.cellsOf 42 = 5 := by kernel_rfl
theorem opn42 : OpensS Tryz.prog 42 s42 := by
  intro H enc w base spare held fuel cs x h
  obtain ⟨xs, n, _, _, hl, hlen, hf⟩ := DataW.trod_struct Tryz.underlying42 h
  obtain ⟨a0, k0, i0⟩ := opensS_field (a := (.int 3)) (i := 0) 0 1 hf hlen rfl rfl rfl co3 opn3
  obtain ⟨a1, k1, i1⟩ := opensS_field (a := (.int 3)) (i := 1) 1 1 hf hlen rfl rfl rfl co3 opn3
  obtain ⟨a2, k2, i2⟩ := opensS_field (a := (.int 3)) (i := 2) 2 1 hf hlen rfl rfl rfl co3 opn3
  obtain ⟨a3, k3, i3⟩ := opensS_field (a := s40) (i := 3) 3 1 hf hlen rfl rfl rfl co40 opn40
  obtain ⟨a4, k4, i4⟩ := opensS_field (a := (.int 3)) (i := 4) 4 1 hf hlen rfl rfl rfl co3 opn3
  rw [co42] at hl
  exact ⟨(a0, (a1, (a2, (a3, a4)))), (rdS_pair (off := 0) k0 (rdS_pair (off := 1) k1 (rdS_pair (off := 2) k2 (rdS_pair (off := 3) k3 (rdS_last (off := 4) k4 (by omega)))))), ⟨i0, ⟨i1, ⟨i2, ⟨i3, i4⟩⟩⟩⟩⟩
theorem opn64 : OpensS Tryz.prog 64 s64 := opensS_slice (a := s42) Tryz.underlying64 co42 opn42
theorem co64 : Tryz.prog.cellsOf 64 = 1 := by kernel_rfl
theorem co186 : Tryz.prog.cellsOf 186 = 3 := by kernel_rfl
theorem opn186 : OpensS Tryz.prog 186 s186 := by
  intro H enc w base spare held fuel cs x h
  obtain ⟨xs, n, _, _, hl, hlen, hf⟩ := DataW.trod_struct Tryz.underlying186 h
  obtain ⟨a0, k0, i0⟩ := opensS_field (a := (.int 3)) (i := 0) 0 1 hf hlen rfl rfl rfl co3 opn3
  obtain ⟨a1, k1, i1⟩ := opensS_field (a := (.int 3)) (i := 1) 1 1 hf hlen rfl rfl rfl co3 opn3
  obtain ⟨a2, k2, i2⟩ := opensS_field (a := (.int 3)) (i := 2) 2 1 hf hlen rfl rfl rfl co3 opn3
  rw [co186] at hl
  exact ⟨(a0, (a1, a2)), (rdS_pair (off := 0) k0 (rdS_pair (off := 1) k1 (rdS_last (off := 2) k2 (by omega)))), ⟨i0, ⟨i1, i2⟩⟩⟩
theorem opn65 : OpensS Tryz.prog 65 s65 := opensS_slice (a := s186) Tryz.underlying65 co186 opn186
theorem co65 : Tryz.prog.cellsOf 65 = 1 := by kernel_rfl
theorem co67 : Tryz.prog.cellsOf 67 = 1 := by kernel_rfl
theorem opn67 : OpensS Tryz.prog 67 s67 := by
  intro H enc w base spare held fuel cs x h
  obtain ⟨xs, n, _, _, hl, hlen, hf⟩ := DataW.trod_struct Tryz.underlying67 h
  obtain ⟨a0, k0, i0⟩ := opensS_field (a := s65) (i := 0) 0 1 hf hlen rfl rfl rfl co65 opn65
  rw [co67] at hl
  exact ⟨a0, (rdS_last (off := 0) k0 (by omega)), i0⟩
theorem co69 : Tryz.prog.cellsOf 69 = 8 := by kernel_rfl
theorem opn69 : OpensS Tryz.prog 69 s69 := by
  intro H enc w base spare held fuel cs x h
  obtain ⟨xs, n, _, _, hl, hlen, hf⟩ := DataW.trod_struct Tryz.underlying69 h
  obtain ⟨a0, k0, i0⟩ := opensS_field (a := s24) (i := 0) 0 1 hf hlen rfl rfl rfl co24 opn24
  obtain ⟨a1, k1, i1⟩ := opensS_field (a := s63) (i := 1) 1 4 hf hlen rfl rfl rfl co63 opn63
  obtain ⟨a2, k2, i2⟩ := opensS_field (a := s64) (i := 2) 5 1 hf hlen rfl rfl rfl co64 opn64
  obtain ⟨a3, k3, i3⟩ := opensS_field (a := s67) (i := 3) 6 1 hf hlen rfl rfl rfl co67 opn67
  obtain ⟨a4, k4, i4⟩ := opensS_field (a := (.int 3)) (i := 4) 7 1 hf hlen rfl rfl rfl co3 opn3
  rw [co69] at hl
  exact ⟨(a0, (a1, (a2, (a3, a4)))), (rdS_pair (off := 0) k0 (rdS_pair (off := 1) k1 (rdS_pair (off := 5) k2 (rdS_pair (off := 6) k3 (rdS_last (off := 7) k4 (by omega)))))), ⟨i0, ⟨i1, ⟨i2, ⟨i3, i4⟩⟩⟩⟩⟩
namespace fnExactSourceDone
open Go.ChangeShapes Go.WideShapes Go.ChangeAt Go.RowKit
theorem own : ownKnob Tryz.prog.godebug = none := by kernel_rfl
theorem laidOut : laidOutB Tryz.prog = true := fxLaid
set_option maxRecDepth 100000 in
theorem lifted (os : Os) (started : os.Started) (H : Type) (enc : TypeId × Value → H) :
    ReturnsInHanded {} Tryz.checked os 5 .any (Rows.fnExactSourceDoneSpec.pre6 enc Tryz.prog Tryz.f5 Rows.fnExactSourceDoneRow.domain false) (Rows.fnExactSourceDoneSpec.post enc Tryz.prog Tryz.f5 false true false false) := by
  refine returnsInHanded_of_change (C := Tryz.checked) own started (by kernel_rfl) Tryz.func5
    (ChangeSpec.witness6 (enc := enc) (C := Tryz.checked) false ⟨#[], #[.agg #[.slice none 0 0, .int .i64 0, .int .i64 0, .int .i64 0, .int .i64 0, .slice none 0 0, .slice none 0 0, .int .i64 0]], []⟩ 8 (by kernel_rfl) (by kernel_rfl) (by kernel_rfl) (by kernel_rfl)) ?_
  intro W base args ds gs before hval0 hW hcnd _
  have hval : ∀ (j : Nat) t v, Tryz.f5.params[j]? = some t → args[j]? = some v → Value.okWide Tryz.prog W .any base t v := hval0
  have hW' := hW
  obtain ⟨p, q, hA0, hV, rfl, hfz, hnd⟩ := hW
  have hA : DataW.TrodAll enc Tryz.prog W 0 (fun _ => true) true Tryz.f5.params.toList args.toList ds p := hA0
  rw [Tryz.params5] at hA hval
  obtain ⟨v0, vs0, d0, ds0, p0, q0, hargs, rfl, rfl, h0, r0⟩ := trodAll_cons hA
  obtain ⟨rfl, rfl, rfl⟩ := trodAll_nil r0
  obtain rfl : args = #[v0] := by cases args; simp_all
  obtain ⟨rfl, rfl⟩ := trodVars_none hV
  have k0 := h0
  have lt0 : ∀ x ∈ p0, x.block < W.heap.size := by obtain ⟨m, hm⟩ := k0; exact DataW.trod_lt m _ _ _ hm
  obtain ⟨cs0, rfl, _⟩ := okWide_struct Tryz.underlying69 (hval 0 69 v0 rfl rfl)
  obtain ⟨cs0⟩ := cs0
  obtain ⟨x0, hx0, i0⟩ : ∃ x : (s69).D, (s69).rd W (fun b => b < W.heap.size) cs0 x ∧ (s69).i64 x := by obtain ⟨fuel, hf⟩ := h0; exact opn69 hf
  clear hA0 hval0
  refine (calls_law S_laws_FnExactSourceDone_ok (by kernel_rfl) W (fun b => b < W.heap.size) [.agg cs0.toArray] (x0, ()) (fun _ h => h) ⟨argRd_st hx0, trivial⟩ i0).mono fun e W' hr => ?_
  obtain ⟨he, bel⟩ := ret_bool hr
  subst he
  exact ⟨_, rfl, _, _, _, [], _, [], hW', trodAll_mk1 (shut_bool Tryz.underlying4 _), (trodAll_cons_mk (Below.trod laidOut (by kernel_rfl) (of_decide_eq_true (by kernel_rfl)) k0 bel lt0) trodAll_mk0), rfl, bel.frame _, fun h => by cases h⟩
theorem closed : joinedFacts Tryz.prog 5 Tryz.f5 (Rows.fnExactSourceDoneSpec) Rows.fnExactSourceDoneRow = true := by
  unfold joinedFacts
  exact (and2 (and2 (and2 (and2 (and2 (and2 (and2 (and2 (and2 (and2 (and2 (and2 (and2 (and2 (and2 (and2 (and2 (and2 (and2 (and2 (and2 (and2 (and2 (and2 (and2 (and2 (and2 (and2 (and2 (and2 (and2 (by kernel_rfl) fxLaid) fxMaps) (by kernel_rfl)) (by kernel_rfl)) (by kernel_rfl)) (by kernel_rfl)) (by kernel_rfl)) (by kernel_rfl)) (by kernel_rfl)) (by kernel_rfl)) (by kernel_rfl)) (by kernel_rfl)) (by kernel_rfl)) (by kernel_rfl)) (by kernel_rfl)) (by kernel_rfl)) (by kernel_rfl)) (by kernel_rfl)) (by kernel_rfl)) (by kernel_rfl)) (by kernel_rfl)) (by kernel_rfl)) (by kernel_rfl)) (by kernel_rfl)) fxEnter) (by rw [fxLifts]; kernel_rfl)) (by rw [fxMake]; kernel_rfl)) (by kernel_rfl)) (by kernel_rfl)) (by kernel_rfl)) (by kernel_rfl))
theorem over : Rows.fnExactSourceDoneRow.holds Tryz.pinned (OpenSpec.ofChange Rows.fnExactSourceDoneSpec) :=
  OpenClaim.holds_of_wide 5 Tryz.f5 rfl rfl rfl rfl rfl rfl rfl ⟨rfl, rfl, rfl, rfl, rfl⟩ rfl rfl rfl rfl rfl (by kernel_rfl) Tryz.func5 closed
    (of_decide_eq_true (by kernel_rfl)) (by unfold Func.isWrapper; first | (rw [if_pos (by decide +kernel)]; kernel_rfl) | (rw [if_neg (by decide +kernel)]; exact ⟨rfl, rfl⟩))
    (fun os started H enc _ => lifted os started H enc)
/-- the statement -/
theorem proved : Rows.FnExactSourceDoneSaid := over
end fnExactSourceDone

end Go.Proofs.YtdmkjcnppgfeoaaGreat

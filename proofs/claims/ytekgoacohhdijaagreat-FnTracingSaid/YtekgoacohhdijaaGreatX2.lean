/- The walks of the functions that the law reaches: each summary holds. No condition. -/
import Derived.Test.YtekgoacohhdijaaGreatX1
import Derived.Test.YtekgoacohhdijaaGreatLA
import Derived.Test.YtekgoacohhdijaaGreatProg
namespace Go.Proofs.YtekgoacohhdijaaGreat
open Go.RowKit Go.Maps Go.Sort Go.Shelf
set_option linter.unusedVariables false
set_option linter.unusedSimpArgs false
def validMan (x0 : T31) : Bool := (if (inR x0.1 0 7) = true then (if (isFmt x0.2.1 x0.2.2.1 x0.2.2.2.1) = true then (if ((List.length x0.2.2.2.2.1 : Nat) : Int) = x0.2.2.1 then (if (List.all x0.2.2.2.2.1 isGrp) = true then (inR x0.2.2.2.2.2 0 2147483646) else false) else false) else false) else false)
abbrev Q_spec_IsValidManifest := (fun (x0 : T31) => Sh.fit s31 x0)
def S_spec_IsValidManifest : Sum := { fid := 62, dom := [s31], cod := [(.bool 4)], dp := true, fz := false, pre := fun x => Q_spec_IsValidManifest x.1, g := fun x => ((validMan x.1), ()) }
def S_spec_IsValidManifest_tab : List (Nat × Sum) := [(36, S_spec_l1In), (79, S_spec_l14Range), (73, S_spec_IsGroupElement)]
theorem S_spec_IsValidManifest_ok : FnOK Tryz.prog 62 S_spec_IsValidManifest := by
 refine at_enter 43 (fun x => ⟨[(0, aG [cI x.1.1, cI x.1.2.1, cI x.1.2.2.1, cI x.1.2.2.2.1, .ro (.int 3) x.1.2.2.2.2.1, cI x.1.2.2.2.2.2])], []⟩) Tryz.func62 rfl (by kernel_rfl) (fun x => rfl) ?_
 rintro w0 Z0 ⟨x0, u⟩ a w
 revert x0
 intro (x0 : T31) hpre hlens h
 replace hpre : Q_spec_IsValidManifest x0 := hpre
 have hT : TabOK Tryz.prog w0 [] S_spec_IsValidManifest_tab := (.cons S_spec_l1In_ok (.cons S_spec_l14Range_ok (.cons S_spec_IsGroupElement_ok .nil)))
 have hf0 : Sh.fit s31 x0 := hpre
 have hn0_1 : List.length x0.2.2.2.2.1 ≤ 1073741824 := hf0.2.2.2.2.1.1
 refine wp_seq ?_
 refine at_regq [{ ids := [1] }] { ts := [1, 2], os := [1] } [] gamOK hT h (by kernel_rfl) trivial fun a w h => then_normal (wp_seq (wp_seq ?_))
 rcases Bool.eq_false_or_eq_true (!(inR x0.1 0 7)) with h1 | h1
 ·have hzh1 : (inR x0.1 0 7) = false := notT h1
  have hvh1 := inR_f (notT h1)
  refine at_regq [{}, {}, {}, { hint := some (aB true) }] { ts := [1, 2, 25], os := [1] } [True, (AV.p (.c (.v (.bool (!(inR x0.1 0 7))))) = AV.p (.c (.v (.bool true))))] gamOK hT h (by kernel_rfl) ⟨trivial, hint_bool (h1), trivial⟩ fun a w h => then_normal ?_
  refine at_test true h (by kernel_rfl) (fun hh => ?_) (fun hh => nomatch hh)
  refine wp_seq ?_
  refine at_regq [] { ts := [1, 2], os := [1] } [] gamOK hT h (by kernel_rfl) trivial fun a w h => then_normal (wp_ret (then_ret ?_))
  exact at_return (false, ()) [] h (by kernel_rfl) trivial (congrArg (fun z => (z, ())) (show (false) = validMan x0 from by first | rfl | (unfold validMan; rw [if_neg (neT (notT h1))])))
 ·have hzh1 : (inR x0.1 0 7) = true := notF h1
  have hvh1 := inR_t (notF h1)
  rcases Bool.eq_false_or_eq_true (!(isFmt x0.2.1 x0.2.2.1 x0.2.2.2.1)) with h2 | h2
  ·have hzh2 : (isFmt x0.2.1 x0.2.2.1 x0.2.2.2.1) = false := notT h2
   refine at_regq [{}, {}, {}, { hint := some (aB false) }, {}, {}, {}, {}, {}, {}, {}, {}, { hint := some (aB true) }] { ts := [1, 2, 25], os := [1] } [True, (AV.p (.c (.v (.bool (!(inR x0.1 0 7))))) = AV.p (.c (.v (.bool false)))), True, (AV.p (.c (.v (.bool (!(isFmt x0.2.1 x0.2.2.1 x0.2.2.2.1))))) = AV.p (.c (.v (.bool true))))] gamOK hT h (by kernel_rfl) ⟨trivial, hint_bool (h1), trivial, hint_bool (h2), trivial⟩ fun a w h => then_normal ?_
   refine at_test true h (by kernel_rfl) (fun hh => ?_) (fun hh => nomatch hh)
   refine wp_seq ?_
   refine at_regq [] { ts := [1, 2], os := [1] } [] gamOK hT h (by kernel_rfl) trivial fun a w h => then_normal (wp_ret (then_ret ?_))
   exact at_return (false, ()) [] h (by kernel_rfl) trivial (congrArg (fun z => (z, ())) (show (false) = validMan x0 from by first | rfl | (unfold validMan; rw [if_pos (notF h1), if_neg (neT (notT h2))])))
  ·have hzh2 : (isFmt x0.2.1 x0.2.2.1 x0.2.2.2.1) = true := notF h2
   have hvh2 := isFmt_t (notF h2)
   refine at_regq [{}, {}, {}, { hint := some (aB false) }, {}, {}, {}, {}, {}, {}, {}, {}, { hint := some (aB false) }] { ts := [1, 2, 25], os := [1] } [True, (AV.p (.c (.v (.bool (!(inR x0.1 0 7))))) = AV.p (.c (.v (.bool false)))), True, (AV.p (.c (.v (.bool (!(isFmt x0.2.1 x0.2.2.1 x0.2.2.2.1))))) = AV.p (.c (.v (.bool false))))] gamOK hT h (by kernel_rfl) ⟨trivial, hint_bool (h1), trivial, hint_bool (h2), trivial⟩ fun a w h => then_normal ?_
   refine at_test (!decide (((List.length x0.2.2.2.2.1 : Nat) : Int) = x0.2.2.1)) h (by kernel_rfl) (fun h3 => ?_) (fun h3 => ?_)
   ·replace h3 : ¬ (((List.length x0.2.2.2.2.1 : Nat) : Int) = x0.2.2.1) := of_decide_eq_false (notT h3)
    refine wp_seq ?_
    refine at_regq [] { ts := [1, 2], os := [1] } [] gamOK hT h (by kernel_rfl) trivial fun a w h => then_normal (wp_ret (then_ret ?_))
    exact at_return (false, ()) [] h (by kernel_rfl) trivial (congrArg (fun z => (z, ())) (show (false) = validMan x0 from by first | rfl | (unfold validMan; rw [if_pos (notF h1), if_pos (notF h2), if_neg h3])))
   ·replace h3 : ((List.length x0.2.2.2.2.1 : Nat) : Int) = x0.2.2.1 := of_decide_eq_true (notF h3)
    refine wp_skip (then_normal (wp_seq (wp_seq ?_)))
    refine at_regq [] { ts := [1, 2, 3], os := [1] } [] gamOK hT h (by kernel_rfl) trivial fun a w h => then_normal (wp_block ?_)
    replace h := at_out (σ' := ⟨[(1, aP 1 0), (2, aB false), (3, aI 0)], [(1, oX 31 [cI x0.1, cI x0.2.1, cI x0.2.2.1, cI x0.2.2.2.1, .ro (.int 3) x0.2.2.2.2.1, cI x0.2.2.2.2.2])]⟩) { ts := [1, 2, 3], os := [1] } h (by kernel_rfl)
    refine at_loop (fun i : Nat => (⟨[(1, aP 1 0), (2, aB false), (3, aI ((i : Nat) : Int))], [(1, oX 31 [cI x0.1, cI x0.2.1, cI x0.2.2.1, cI x0.2.2.2.1, .ro (.int 3) x0.2.2.2.2.1, cI x0.2.2.2.2.2])]⟩ : St)) (fun i => (i ≤ List.length x0.2.2.2.2.1 ∧ allTo1 isGrp x0.2.2.2.2.1 0 i)) (fun i => List.length x0.2.2.2.2.1 - i) (0) h (st_congr1 (fun (d0 : Int) => (⟨[(1, aP 1 0), (2, aB false), (3, aI d0)], [(1, oX 31 [cI x0.1, cI x0.2.1, cI x0.2.2.1, cI x0.2.2.2.1, .ro (.int 3) x0.2.2.2.2.1, cI x0.2.2.2.2.2])]⟩ : St)) (show (0 : Int) = (((0) : Nat) : Int) from by first | with_reducible rfl | (rfl) | rfl)) (by exact ⟨Nat.zero_le _, allTo1_zero⟩) ?_
    intro i a w hok0 h
    refine wp_seq (wp_seq ?_)
    refine at_regq [] { ts := [1, 2, 3, 30], os := [1] } [] gamOK hT h (by kernel_rfl) trivial fun a w h => then_normal ?_
    refine at_test (decide (((i : Nat) : Int) < ((List.length x0.2.2.2.2.1 : Nat) : Int))) h (by kernel_rfl) (fun h4 => ?_) (fun h4 => ?_)
    ·replace h4 : ((i : Nat) : Int) < ((List.length x0.2.2.2.2.1 : Nat) : Int) := of_decide_eq_true h4
     refine wp_skip (then_normal (wp_seq (wp_block (wp_seq ?_))))
     refine at_regq [] { ts := [1, 2, 3, 39], os := [1] } [(0 : Int) ≤ ((i : Nat) : Int) ∧ ((i : Nat) : Int) < ((List.length x0.2.2.2.2.1 : Nat) : Int), True] gamOK hT h (by kernel_rfl) ⟨(by refine ⟨?_, ?_⟩ <;> (first | omega | (simp only [lsA]; omega) | (simp <;> omega))), trivial, trivial⟩ fun a w h => then_normal ?_
     refine at_test (!(isGrp (x0.2.2.2.2.1.getD i 0))) h (by kernel_rfl) (fun h5 => ?_) (fun h5 => ?_)
     ·replace h5 : (isGrp (x0.2.2.2.2.1.getD i 0)) = false := notT h5
      refine wp_seq ?_
      refine at_regq [] { ts := [1, 2, 3], os := [1] } [] gamOK hT h (by kernel_rfl) trivial fun a w h => then_normal (wp_ret (in_ret (then_ret ?_)))
      have hs6 : (List.all x0.2.2.2.2.1 isGrp) = false := by exact all_at (z := 0) (i := i) (by omega) (by first | assumption | (simp_all; done))
      refine then_ret (in_ret (then_ret ?_))
      exact at_return (false, ()) [] h (by kernel_rfl) trivial (congrArg (fun z => (z, ())) (show (false) = validMan x0 from by first | rfl | (unfold validMan; rw [if_pos (notF h1), if_pos (notF h2), if_pos h3, if_neg (neT hs6)])))
     ·replace h5 : (isGrp (x0.2.2.2.2.1.getD i 0)) = true := notF h5
      have hvh5 := isGrp_t h5
      refine wp_skip (in_normal (then_normal ?_))
      refine at_regq [{}, { nw := true }] { ts := [1, 2, 3], os := [1] } [I64 (((i : Nat) : Int) + 1)] gamOK hT h (by kernel_rfl) ⟨⟨by first | omega | (simp only [lsA]; omega) | (simp <;> omega), by first | omega | (simp only [lsA]; omega) | (simp <;> omega)⟩, trivial⟩ fun a w h => ?_
      replace h := at_out (σ' := ⟨[(1, aP 1 0), (2, aB false), (3, aI (((i : Nat) : Int) + 1))], [(1, oX 31 [cI x0.1, cI x0.2.1, cI x0.2.2.1, cI x0.2.2.2.1, .ro (.int 3) x0.2.2.2.2.1, cI x0.2.2.2.2.2])]⟩) { ts := [1, 2, 3], os := [1] } h (by kernel_rfl)
      exact ⟨i + 1, at_eq h (st_congr1 (fun (d0 : Int) => (⟨[(1, aP 1 0), (2, aB false), (3, aI d0)], [(1, oX 31 [cI x0.1, cI x0.2.1, cI x0.2.2.1, cI x0.2.2.2.1, .ro (.int 3) x0.2.2.2.2.1, cI x0.2.2.2.2.2])]⟩ : St)) (show (((i : Nat) : Int) + 1 : Int) = (((i + 1) : Nat) : Int) from by first | with_reducible rfl | (omega) | rfl)), (by exact ⟨by omega, allTo1_succ hok0.2 (by first | assumption | (simp_all; done))⟩), (by omega)⟩
    ·replace h4 : ¬ (((i : Nat) : Int) < ((List.length x0.2.2.2.2.1 : Nat) : Int)) := of_decide_eq_false h4
     refine wp_exit (then_exit ?_)
     have hs7 : (List.all x0.2.2.2.2.1 isGrp) = true := by exact all_of (z := 0) (i := i) (by omega) hok0.2
     refine then_exit (in_hit (then_normal (wp_seq ?_)))
     refine at_regq [] { ts := [2], os := [] } [True] gamOK hT h (by kernel_rfl) ⟨trivial, trivial⟩ fun a w h => then_normal (wp_ret ?_)
     exact at_return ((inR x0.2.2.2.2.2 0 2147483646), ()) [] h (by kernel_rfl) trivial (congrArg (fun z => (z, ())) (show ((inR x0.2.2.2.2.2 0 2147483646)) = validMan x0 from by first | rfl | (unfold validMan; rw [if_pos (notF h1), if_pos (notF h2), if_pos h3, if_pos hs7])))
theorem validMan_len {m : T31} (h : validMan m = true) : 1 ≤ List.length m.2.2.2.2.1 := by
 unfold validMan at h
 repeat' (split at h)
 all_goals first | (cases h; done) | (have := isFmt_t (by assumption); omega) | (exfalso; revert h; decide) | skip

abbrev Q_impl_IsValidManifest := (fun (x0 : T31) => Sh.fit s31 x0)
def S_impl_IsValidManifest : Sum := { fid := 23, dom := [s31], cod := [(.bool 4)], dp := true, fz := false, pre := fun x => Q_impl_IsValidManifest x.1, g := fun x => ((validMan x.1), ()) }
def S_impl_IsValidManifest_tab : List (Nat × Sum) := [(41, S_impl_InRange), (42, S_impl_isFormat), (100003, S_slices_ContainsFunc_S_int_int__IsValidManifest_1)]
theorem S_impl_IsValidManifest_ok : FnOK Tryz.prog 23 S_impl_IsValidManifest := by
 refine at_enter 35 (fun x => ⟨[(0, aG [cI x.1.1, cI x.1.2.1, cI x.1.2.2.1, cI x.1.2.2.2.1, .ro (.int 3) x.1.2.2.2.2.1, cI x.1.2.2.2.2.2])], []⟩) Tryz.func23 rfl (by kernel_rfl) (fun x => rfl) ?_
 rintro w0 Z0 ⟨x0, u⟩ a w
 revert x0
 intro (x0 : T31) hpre hlens h
 replace hpre : Q_impl_IsValidManifest x0 := hpre
 have hT : TabOK Tryz.prog w0 [] S_impl_IsValidManifest_tab := (.cons S_impl_InRange_ok (.cons S_impl_isFormat_ok (.cons S_slices_ContainsFunc_S_int_int__IsValidManifest_1_ok .nil)))
 have hf0 : Sh.fit s31 x0 := hpre
 have hn0_1 : List.length x0.2.2.2.2.1 ≤ 1073741824 := hf0.2.2.2.2.1.1
 refine wp_seq ?_
 refine at_regq [{ ids := [1] }] { ts := [1, 2], os := [1] } [] gamOK hT h (by kernel_rfl) trivial fun a w h => then_normal (wp_seq (wp_seq ?_))
 rcases Bool.eq_false_or_eq_true (!(inR x0.1 0 7)) with h1 | h1
 ·have hzh1 : (inR x0.1 0 7) = false := notT h1
  have hvh1 := inR_f (notT h1)
  refine at_regq [{}, {}, {}, { hint := some (aB true) }] { ts := [1, 2, 30], os := [1] } [True, (AV.p (.c (.v (.bool (!(inR x0.1 0 7))))) = AV.p (.c (.v (.bool true))))] gamOK hT h (by kernel_rfl) ⟨trivial, hint_bool (h1), trivial⟩ fun a w h => then_normal ?_
  refine at_test true h (by kernel_rfl) (fun hh => ?_) (fun hh => nomatch hh)
  refine wp_seq ?_
  refine at_regq [] { ts := [1, 2], os := [1] } [] gamOK hT h (by kernel_rfl) trivial fun a w h => then_normal (wp_ret (then_ret ?_))
  exact at_return (false, ()) [] h (by kernel_rfl) trivial (congrArg (fun z => (z, ())) (show (false) = validMan x0 from by first | rfl | (unfold validMan; rw [if_neg (neT (notT h1))]; done) | (unfold validMan; (repeat (first | rfl | split)) <;> (first | rfl | omega | (simp_all [-List.all_eq_true, -List.any_eq_true, -List.all_eq_false, -List.any_eq_false, D_slices_ContainsFunc_S_int_int__IsValidManifest_1, any_not]; done) | (simp_all [-List.all_eq_true, -List.any_eq_true, -List.all_eq_false, -List.any_eq_false, D_slices_ContainsFunc_S_int_int__IsValidManifest_1, any_not]; omega) | (exfalso; simp_all [-List.all_eq_true, -List.any_eq_true, -List.all_eq_false, -List.any_eq_false, D_slices_ContainsFunc_S_int_int__IsValidManifest_1, any_not]; omega)))))
 ·have hzh1 : (inR x0.1 0 7) = true := notF h1
  have hvh1 := inR_t (notF h1)
  rcases Bool.eq_false_or_eq_true (!(isFmt x0.2.1 x0.2.2.1 x0.2.2.2.1)) with h2 | h2
  ·have hzh2 : (isFmt x0.2.1 x0.2.2.1 x0.2.2.2.1) = false := notT h2
   refine at_regq [{}, {}, {}, { hint := some (aB false) }, {}, {}, {}, {}, {}, {}, {}, {}, { hint := some (aB true) }] { ts := [1, 2, 30], os := [1] } [True, (AV.p (.c (.v (.bool (!(inR x0.1 0 7))))) = AV.p (.c (.v (.bool false)))), True, (AV.p (.c (.v (.bool (!(isFmt x0.2.1 x0.2.2.1 x0.2.2.2.1))))) = AV.p (.c (.v (.bool true))))] gamOK hT h (by kernel_rfl) ⟨trivial, hint_bool (h1), trivial, hint_bool (h2), trivial⟩ fun a w h => then_normal ?_
   refine at_test true h (by kernel_rfl) (fun hh => ?_) (fun hh => nomatch hh)
   refine wp_seq ?_
   refine at_regq [] { ts := [1, 2], os := [1] } [] gamOK hT h (by kernel_rfl) trivial fun a w h => then_normal (wp_ret (then_ret ?_))
   exact at_return (false, ()) [] h (by kernel_rfl) trivial (congrArg (fun z => (z, ())) (show (false) = validMan x0 from by first | rfl | (unfold validMan; rw [if_pos (notF h1), if_neg (neT (notT h2))]; done) | (unfold validMan; (repeat (first | rfl | split)) <;> (first | rfl | omega | (simp_all [-List.all_eq_true, -List.any_eq_true, -List.all_eq_false, -List.any_eq_false, D_slices_ContainsFunc_S_int_int__IsValidManifest_1, any_not]; done) | (simp_all [-List.all_eq_true, -List.any_eq_true, -List.all_eq_false, -List.any_eq_false, D_slices_ContainsFunc_S_int_int__IsValidManifest_1, any_not]; omega) | (exfalso; simp_all [-List.all_eq_true, -List.any_eq_true, -List.all_eq_false, -List.any_eq_false, D_slices_ContainsFunc_S_int_int__IsValidManifest_1, any_not]; omega)))))
  ·have hzh2 : (isFmt x0.2.1 x0.2.2.1 x0.2.2.2.1) = true := notF h2
   have hvh2 := isFmt_t (notF h2)
   by_cases h3 : ((List.length x0.2.2.2.2.1 : Nat) : Int) = x0.2.2.1
   ·refine at_regq [{}, {}, {}, { hint := some (aB false) }, {}, {}, {}, {}, {}, {}, {}, {}, { hint := some (aB false) }, {}, {}, {}, {}, {}, {}, {}, { hint := some (aB false) }] { ts := [1, 2, 30], os := [1] } [True, (AV.p (.c (.v (.bool (!(inR x0.1 0 7))))) = AV.p (.c (.v (.bool false)))), True, (AV.p (.c (.v (.bool (!(isFmt x0.2.1 x0.2.2.1 x0.2.2.2.1))))) = AV.p (.c (.v (.bool false)))), (AV.p (.c (.v (.bool (!decide (((List.length x0.2.2.2.2.1 : Nat) : Int) = x0.2.2.1))))) = AV.p (.c (.v (.bool false)))), True] gamOK hT h (by kernel_rfl) ⟨trivial, hint_bool (h1), trivial, hint_bool (h2), hint_bool (ndT h3), trivial, trivial⟩ fun a w h => then_normal ?_
    refine at_test (!(inR x0.2.2.2.2.2 0 2147483646)) h (by kernel_rfl) (fun h4 => ?_) (fun h4 => ?_)
    ·replace h4 : (inR x0.2.2.2.2.2 0 2147483646) = false := notT h4
     have hvh4 := inR_f h4
     refine wp_seq ?_
     refine at_regq [] { ts := [1, 2], os := [1] } [] gamOK hT h (by kernel_rfl) trivial fun a w h => then_normal (wp_ret (then_ret ?_))
     exact at_return (false, ()) [] h (by kernel_rfl) trivial (congrArg (fun z => (z, ())) (show (false) = validMan x0 from by first | rfl | (unfold validMan; rw [if_pos (notF h1), if_pos (notF h2), if_pos h3, if_neg (neT h4)]; done) | (unfold validMan; (repeat (first | rfl | split)) <;> (first | rfl | omega | (simp_all [-List.all_eq_true, -List.any_eq_true, -List.all_eq_false, -List.any_eq_false, D_slices_ContainsFunc_S_int_int__IsValidManifest_1, any_not]; done) | (simp_all [-List.all_eq_true, -List.any_eq_true, -List.all_eq_false, -List.any_eq_false, D_slices_ContainsFunc_S_int_int__IsValidManifest_1, any_not]; omega) | (exfalso; simp_all [-List.all_eq_true, -List.any_eq_true, -List.all_eq_false, -List.any_eq_false, D_slices_ContainsFunc_S_int_int__IsValidManifest_1, any_not]; omega)))))
    ·replace h4 : (inR x0.2.2.2.2.2 0 2147483646) = true := notF h4
     have hvh4 := inR_t h4
     refine wp_skip (then_normal (wp_seq ?_))
     refine at_regq [{}, {}, { key := some 100003 }] { ts := [2], os := [] } [True] gamOK hT h (by kernel_rfl) ⟨trivial, trivial⟩ fun a w h => then_normal (wp_ret ?_)
     exact at_return (!(D_slices_ContainsFunc_S_int_int__IsValidManifest_1 x0.2.2.2.2.1 ()), ()) [] h (by kernel_rfl) trivial (congrArg (fun z => (z, ())) (show (!(D_slices_ContainsFunc_S_int_int__IsValidManifest_1 x0.2.2.2.2.1 ())) = validMan x0 from by first | rfl | (unfold validMan; rw [if_pos (notF h1), if_pos (notF h2), if_pos h3, if_pos h4]; done) | (unfold validMan; (repeat (first | rfl | split)) <;> (first | rfl | omega | (simp_all [-List.all_eq_true, -List.any_eq_true, -List.all_eq_false, -List.any_eq_false, D_slices_ContainsFunc_S_int_int__IsValidManifest_1, any_not]; done) | (simp_all [-List.all_eq_true, -List.any_eq_true, -List.all_eq_false, -List.any_eq_false, D_slices_ContainsFunc_S_int_int__IsValidManifest_1, any_not]; omega) | (exfalso; simp_all [-List.all_eq_true, -List.any_eq_true, -List.all_eq_false, -List.any_eq_false, D_slices_ContainsFunc_S_int_int__IsValidManifest_1, any_not]; omega)))))
   ·refine at_regq [{}, {}, {}, { hint := some (aB false) }, {}, {}, {}, {}, {}, {}, {}, {}, { hint := some (aB false) }, {}, {}, {}, {}, {}, {}, {}, { hint := some (aB true) }] { ts := [1, 2, 30], os := [1] } [True, (AV.p (.c (.v (.bool (!(inR x0.1 0 7))))) = AV.p (.c (.v (.bool false)))), True, (AV.p (.c (.v (.bool (!(isFmt x0.2.1 x0.2.2.1 x0.2.2.2.1))))) = AV.p (.c (.v (.bool false)))), (AV.p (.c (.v (.bool (!decide (((List.length x0.2.2.2.2.1 : Nat) : Int) = x0.2.2.1))))) = AV.p (.c (.v (.bool true))))] gamOK hT h (by kernel_rfl) ⟨trivial, hint_bool (h1), trivial, hint_bool (h2), hint_bool (ndF h3), trivial⟩ fun a w h => then_normal ?_
    refine at_test true h (by kernel_rfl) (fun hh => ?_) (fun hh => nomatch hh)
    refine wp_seq ?_
    refine at_regq [] { ts := [1, 2], os := [1] } [] gamOK hT h (by kernel_rfl) trivial fun a w h => then_normal (wp_ret (then_ret ?_))
    exact at_return (false, ()) [] h (by kernel_rfl) trivial (congrArg (fun z => (z, ())) (show (false) = validMan x0 from by first | rfl | (unfold validMan; rw [if_pos (notF h1), if_pos (notF h2), if_neg h3]; done) | (unfold validMan; (repeat (first | rfl | split)) <;> (first | rfl | omega | (simp_all [-List.all_eq_true, -List.any_eq_true, -List.all_eq_false, -List.any_eq_false, D_slices_ContainsFunc_S_int_int__IsValidManifest_1, any_not]; done) | (simp_all [-List.all_eq_true, -List.any_eq_true, -List.all_eq_false, -List.any_eq_false, D_slices_ContainsFunc_S_int_int__IsValidManifest_1, any_not]; omega) | (exfalso; simp_all [-List.all_eq_true, -List.any_eq_true, -List.all_eq_false, -List.any_eq_false, D_slices_ContainsFunc_S_int_int__IsValidManifest_1, any_not]; omega)))))
def mkMan (s src : Int) (k : (List Int)) (g : T26) : T31 := signMan s (src, g.1, ((List.length g.2 : Nat) : Int), colsOf g.2, hashSyms k g, 0)
def makeMan (s src : Int) (k : (List Int)) (g : T26) : T31 × Bool := if (isKey s = true ∧ hsOK k g) ∧ validMan (mkMan s src k g) = true then (mkMan s src k g, true) else ((0, 0, 0, 0, [], 0), false)
theorem mkMan_no {s src : Int} {k : (List Int)} {g : T26} (h : ¬ hsOK k g) : validMan (mkMan s src k g) = false := by
 rw [Bool.eq_false_iff]; intro e
 have := validMan_len e
 unfold mkMan signMan hashSyms at this
 rw [if_neg h] at this
 exact absurd this (by simp)
theorem makeMan_no {s src : Int} {k : (List Int)} {g : T26} (h : isKey s = false ∨ List.length (hashSyms k g) = 0 ∨ validMan (mkMan s src k g) = false ∨ ¬ hsOK k g) : ((0, 0, 0, 0, [], 0), false) = makeMan s src k g := by
 unfold makeMan
 rw [if_neg]
 rintro ⟨⟨h1, h2⟩, h3⟩
 rcases h with h | h | h | h
 ·rw [h1] at h; cases h
 ·exact hashSyms_nil h h2
 ·rw [h3] at h; cases h
 ·exact h h2
theorem makeMan_yes {s src : Int} {k : (List Int)} {g : T26} (h1 : isKey s = true) (h2 : validMan (mkMan s src k g) = true) : (mkMan s src k g, true) = makeMan s src k g := by
 unfold makeMan
 rw [if_pos]
 refine ⟨⟨h1, Decidable.byContradiction fun h => ?_⟩, h2⟩
 rw [mkMan_no h] at h2; cases h2

def checkP (x0 : (List Int)) (x1 : T31) (x2 : T36) : Int := (if (validMan x1) = true then (if (validK x0) = true then (if x1.2.2.2.1 = ((List.length x0 : Nat) : Int) then (if (validP x2 x1.2.2.1 x1.2.2.2.1) = true then (if x2.1 = x1.2.1 then (if (verH x0 x1.2.2.2.2.1 x2) = true then 0 else 3) else 2) else 1) else 1) else 1) else 1)
abbrev Q_impl_CheckPacket := (fun (x0 : (List Int)) (x1 : T31) (x2 : T36) => Sh.fit s29 x0 ∧ Sh.fit s31 x1 ∧ Sh.fit s36 x2)
def S_impl_CheckPacket : Sum := { fid := 24, dom := [s29, s31, s36], cod := [(.int 3)], dp := true, fz := false, pre := fun x => Q_impl_CheckPacket x.1 x.2.1 x.2.2.1, g := fun x => ((checkP x.1 x.2.1 x.2.2.1), ()) }
def S_impl_CheckPacket_tab : List (Nat × Sum) := [(23, S_impl_IsValidManifest), (46, S_impl_IsValidHashKey), (47, S_impl_IsValidPacket), (48, S_impl_VerifyHash)]
theorem S_impl_CheckPacket_ok : FnOK Tryz.prog 24 S_impl_CheckPacket := by
 refine at_enter 46 (fun x => ⟨[(0, aG [.ro (.int 3) x.1]), (1, aG [cI x.2.1.1, cI x.2.1.2.1, cI x.2.1.2.2.1, cI x.2.1.2.2.2.1, .ro (.int 3) x.2.1.2.2.2.2.1, cI x.2.1.2.2.2.2.2]), (2, aG [cI x.2.2.1.1, .ro (.int 3) x.2.2.1.2.1, .ro (.int 3) x.2.2.1.2.2])], []⟩) Tryz.func24 rfl (by kernel_rfl) (fun x => rfl) ?_
 rintro w0 Z0 ⟨x0, x1, x2, u⟩ a w
 revert x0 x1 x2
 intro (x0 : (List Int)) (x1 : T31) (x2 : T36) hpre hlens h
 replace hpre : Q_impl_CheckPacket x0 x1 x2 := hpre
 have hT : TabOK Tryz.prog w0 [] S_impl_CheckPacket_tab := (.cons S_impl_IsValidManifest_ok (.cons S_impl_IsValidHashKey_ok (.cons S_impl_IsValidPacket_ok (.cons S_impl_VerifyHash_ok .nil))))
 obtain ⟨hf0, hf1, hf2⟩ := hpre
 have hn0_1 : List.length x0 ≤ 1073741824 := hf0.1
 have hn1_2 : List.length x1.2.2.2.2.1 ≤ 1073741824 := hf1.2.2.2.2.1.1
 have hn2_3 : List.length x2.2.1 ≤ 1073741824 := hf2.2.1.1
 have hn2_4 : List.length x2.2.2 ≤ 1073741824 := hf2.2.2.1
 refine wp_seq ?_
 refine at_regq [{ ids := [1] }, { ids := [2] }, { ids := [3] }] { ts := [3, 4, 5, 6], os := [1, 2, 3] } [] gamOK hT h (by kernel_rfl) trivial fun a w h => then_normal (wp_seq (wp_block (wp_seq ?_)))
 rcases Bool.eq_false_or_eq_true (!(validMan x1)) with h1 | h1
 ·have hzh1 : (validMan x1) = false := notT h1
  refine at_regq [{}, {}, { hint := some (aB true) }] { ts := [3, 4, 5, 6, 7], os := [1, 2, 3] } [Q_impl_IsValidManifest x1, (AV.p (.c (.v (.bool (!(validMan x1))))) = AV.p (.c (.v (.bool true))))] gamOK hT h (by kernel_rfl) ⟨(by exact hf1), hint_bool (h1), trivial⟩ fun a w h => then_normal ?_
  refine at_test true h (by kernel_rfl) (fun hh => ?_) (fun hh => nomatch hh)
  refine wp_seq ?_
  refine at_regq [] { ts := [6], os := [] } [] gamOK hT h (by kernel_rfl) trivial fun a w h => then_normal (wp_ret (in_ret (then_ret ?_)))
  exact at_return (1, ()) [] h (by kernel_rfl) trivial (congrArg (fun z => (z, ())) (show (1) = checkP x0 x1 x2 from by first | rfl | (unfold checkP; rw [if_neg (neT (notT h1))])))
 ·have hzh1 : (validMan x1) = true := notF h1
  rcases Bool.eq_false_or_eq_true (!(validK x0)) with h2 | h2
  ·have hzh2 : (validK x0) = false := notT h2
   refine at_regq [{}, {}, { hint := some (aB false) }, {}, {}, {}, { hint := some (aB true) }] { ts := [3, 4, 5, 6, 7], os := [1, 2, 3] } [Q_impl_IsValidManifest x1, (AV.p (.c (.v (.bool (!(validMan x1))))) = AV.p (.c (.v (.bool false)))), Q_impl_IsValidHashKey x0, (AV.p (.c (.v (.bool (!(validK x0))))) = AV.p (.c (.v (.bool true))))] gamOK hT h (by kernel_rfl) ⟨(by exact hf1), hint_bool (h1), (by exact hf0), hint_bool (h2), trivial⟩ fun a w h => then_normal ?_
   refine at_test true h (by kernel_rfl) (fun hh => ?_) (fun hh => nomatch hh)
   refine wp_seq ?_
   refine at_regq [] { ts := [6], os := [] } [] gamOK hT h (by kernel_rfl) trivial fun a w h => then_normal (wp_ret (in_ret (then_ret ?_)))
   exact at_return (1, ()) [] h (by kernel_rfl) trivial (congrArg (fun z => (z, ())) (show (1) = checkP x0 x1 x2 from by first | rfl | (unfold checkP; rw [if_pos (notF h1), if_neg (neT (notT h2))])))
  ·have hzh2 : (validK x0) = true := notF h2
   have hvh2 := validK_t (notF h2)
   by_cases h3 : x1.2.2.2.1 = ((List.length x0 : Nat) : Int)
   ·refine at_regq [{}, {}, { hint := some (aB false) }, {}, {}, {}, { hint := some (aB false) }, {}, {}, {}, {}, {}, {}, {}, { hint := some (aB false) }] { ts := [3, 4, 5, 6, 7], os := [1, 2, 3] } [Q_impl_IsValidManifest x1, (AV.p (.c (.v (.bool (!(validMan x1))))) = AV.p (.c (.v (.bool false)))), Q_impl_IsValidHashKey x0, (AV.p (.c (.v (.bool (!(validK x0))))) = AV.p (.c (.v (.bool false)))), (AV.p (.c (.v (.bool (!decide (x1.2.2.2.1 = ((List.length x0 : Nat) : Int)))))) = AV.p (.c (.v (.bool false)))), Q_impl_IsValidPacket x2 x1.2.2.1 x1.2.2.2.1] gamOK hT h (by kernel_rfl) ⟨(by exact hf1), hint_bool (h1), (by exact hf0), hint_bool (h2), hint_bool (ndT h3), (by exact hf2), trivial⟩ fun a w h => then_normal ?_
    refine at_test (!(validP x2 x1.2.2.1 x1.2.2.2.1)) h (by kernel_rfl) (fun h4 => ?_) (fun h4 => ?_)
    ·replace h4 : (validP x2 x1.2.2.1 x1.2.2.2.1) = false := notT h4
     refine wp_seq ?_
     refine at_regq [] { ts := [6], os := [] } [] gamOK hT h (by kernel_rfl) trivial fun a w h => then_normal (wp_ret (in_ret (then_ret ?_)))
     exact at_return (1, ()) [] h (by kernel_rfl) trivial (congrArg (fun z => (z, ())) (show (1) = checkP x0 x1 x2 from by first | rfl | (unfold checkP; rw [if_pos (notF h1), if_pos (notF h2), if_pos h3, if_neg (neT h4)])))
    ·replace h4 : (validP x2 x1.2.2.1 x1.2.2.2.1) = true := notF h4
     have hvh4 := validP_n h4
     refine wp_seq ?_
     refine at_regq [] { ts := [3, 4, 5, 6, 33], os := [1, 2, 3] } [] gamOK hT h (by kernel_rfl) trivial fun a w h => then_normal ?_
     refine at_test (!decide (x2.1 = x1.2.1)) h (by kernel_rfl) (fun h5 => ?_) (fun h5 => ?_)
     ·replace h5 : ¬ (x2.1 = x1.2.1) := of_decide_eq_false (notT h5)
      refine wp_seq ?_
      refine at_regq [] { ts := [6], os := [] } [] gamOK hT h (by kernel_rfl) trivial fun a w h => then_normal (wp_ret (in_ret (then_ret ?_)))
      exact at_return (2, ()) [] h (by kernel_rfl) trivial (congrArg (fun z => (z, ())) (show (2) = checkP x0 x1 x2 from by first | rfl | (unfold checkP; rw [if_pos (notF h1), if_pos (notF h2), if_pos h3, if_pos h4, if_neg h5])))
     ·replace h5 : x2.1 = x1.2.1 := of_decide_eq_true (notF h5)
      refine wp_seq ?_
      refine at_regq [] { ts := [6, 39], os := [] } [Q_impl_VerifyHash x0 x1.2.2.2.2.1 x2] gamOK hT h (by kernel_rfl) ⟨(by exact ⟨hf0, hf1.2.2.2.2.1, hf2⟩), trivial⟩ fun a w h => then_normal ?_
      refine at_test (!(verH x0 x1.2.2.2.2.1 x2)) h (by kernel_rfl) (fun h6 => ?_) (fun h6 => ?_)
      ·replace h6 : (verH x0 x1.2.2.2.2.1 x2) = false := notT h6
       refine wp_seq ?_
       refine at_regq [] { ts := [6], os := [] } [] gamOK hT h (by kernel_rfl) trivial fun a w h => then_normal (wp_ret (in_ret (then_ret ?_)))
       exact at_return (3, ()) [] h (by kernel_rfl) trivial (congrArg (fun z => (z, ())) (show (3) = checkP x0 x1 x2 from by first | rfl | (unfold checkP; rw [if_pos (notF h1), if_pos (notF h2), if_pos h3, if_pos h4, if_pos h5, if_neg (neT h6)])))
      ·replace h6 : (verH x0 x1.2.2.2.2.1 x2) = true := notF h6
       refine wp_skip (in_normal (then_normal (wp_seq ?_)))
       refine at_regq [] { ts := [6], os := [] } [] gamOK hT h (by kernel_rfl) trivial fun a w h => then_normal (wp_ret ?_)
       exact at_return (0, ()) [] h (by kernel_rfl) trivial (congrArg (fun z => (z, ())) (show (0) = checkP x0 x1 x2 from by first | rfl | (unfold checkP; rw [if_pos (notF h1), if_pos (notF h2), if_pos h3, if_pos h4, if_pos h5, if_pos h6])))
   ·refine at_regq [{}, {}, { hint := some (aB false) }, {}, {}, {}, { hint := some (aB false) }, {}, {}, {}, {}, {}, {}, {}, { hint := some (aB true) }] { ts := [3, 4, 5, 6, 7], os := [1, 2, 3] } [Q_impl_IsValidManifest x1, (AV.p (.c (.v (.bool (!(validMan x1))))) = AV.p (.c (.v (.bool false)))), Q_impl_IsValidHashKey x0, (AV.p (.c (.v (.bool (!(validK x0))))) = AV.p (.c (.v (.bool false)))), (AV.p (.c (.v (.bool (!decide (x1.2.2.2.1 = ((List.length x0 : Nat) : Int)))))) = AV.p (.c (.v (.bool true))))] gamOK hT h (by kernel_rfl) ⟨(by exact hf1), hint_bool (h1), (by exact hf0), hint_bool (h2), hint_bool (ndF h3), trivial⟩ fun a w h => then_normal ?_
    refine at_test true h (by kernel_rfl) (fun hh => ?_) (fun hh => nomatch hh)
    refine wp_seq ?_
    refine at_regq [] { ts := [6], os := [] } [] gamOK hT h (by kernel_rfl) trivial fun a w h => then_normal (wp_ret (in_ret (then_ret ?_)))
    exact at_return (1, ()) [] h (by kernel_rfl) trivial (congrArg (fun z => (z, ())) (show (1) = checkP x0 x1 x2 from by first | rfl | (unfold checkP; rw [if_pos (notF h1), if_pos (notF h2), if_neg h3])))

abbrev Q_spec_MakeManifest := (fun (x0 : Int) (x1 : Int) (x2 : (List Int)) (x3 : T26) => Sh.fit s29 x2 ∧ Sh.fit s26 x3)
def S_spec_MakeManifest : Sum := { fid := 35, dom := [(.int 3), (.int 3), s29, s26], cod := [s31, (.bool 4)], dp := true, fz := false, pre := fun x => Q_spec_MakeManifest x.1 x.2.1 x.2.2.1 x.2.2.2.1, g := fun x => ((makeMan x.1 x.2.1 x.2.2.1 x.2.2.2.1).1, ((makeMan x.1 x.2.1 x.2.2.1 x.2.2.2.1).2, ())) }
def S_spec_MakeManifest_tab : List (Nat × Sum) := [(58, S_spec_IsValidKey), (19, S_spec_IsValidGeneration), (59, S_spec_IsValidHashKey), (34, S_spec_ColumnsOf), (61, S_spec_HashSymbols), (60, S_spec_SignManifest), (62, S_spec_IsValidManifest)]
theorem S_spec_MakeManifest_ok : FnOK Tryz.prog 35 S_spec_MakeManifest := by
 refine at_enter 54 (fun x => ⟨[(0, aI x.1), (1, aI x.2.1), (2, aG [.ro (.int 3) x.2.2.1]), (3, aG [cI x.2.2.2.1.1, .ro s27 x.2.2.2.1.2])], []⟩) Tryz.func35 rfl (by kernel_rfl) (fun x => rfl) ?_
 rintro w0 Z0 ⟨x0, x1, x2, x3, u⟩ a w
 revert x0 x1 x2 x3
 intro (x0 : Int) (x1 : Int) (x2 : (List Int)) (x3 : T26) hpre hlens h
 replace hpre : Q_spec_MakeManifest x0 x1 x2 x3 := hpre
 have hT : TabOK Tryz.prog w0 [] S_spec_MakeManifest_tab := (.cons S_spec_IsValidKey_ok (.cons S_spec_IsValidGeneration_ok (.cons S_spec_IsValidHashKey_ok (.cons S_spec_ColumnsOf_ok (.cons S_spec_HashSymbols_ok (.cons S_spec_SignManifest_ok (.cons S_spec_IsValidManifest_ok .nil)))))))
 obtain ⟨hf2, hf3⟩ := hpre
 have hn2_1 : List.length x2 ≤ 1073741824 := hf2.1
 have hn3_2 : List.length x3.2 ≤ 1073741824 := hf3.2.1
 refine wp_seq ?_
 refine at_regq [{ ids := [1] }, { ids := [2] }, { ids := [3] }] { ts := [0, 1, 6, 7, 8, 9], os := [1, 2, 3] } [] gamOK hT h (by kernel_rfl) trivial fun a w h => then_normal (wp_seq (wp_seq ?_))
 rcases Bool.eq_false_or_eq_true (!(isKey x0)) with h1 | h1
 ·have hzh1 : (isKey x0) = false := notT h1
  refine at_anyq [{}, {}, { hint := some (aB true) }, {}, {}, {}, {}, {}, {}, {}, {}, {}, {}, {}, {}, {}, {}, {}, {}, {}, {}, {}] { ts := [0, 1, 6, 7, 8, 9, 32], os := [1, 2, 3] } [True, (AV.p (.c (.v (.bool (!(isKey x0))))) = AV.p (.c (.v (.bool true))))] gamOK hT mixed h (by kernel_rfl) ⟨trivial, hint_bool (h1), trivial⟩ fun a w h => then_normal ?_
  refine at_test true h (by kernel_rfl) (fun hh => ?_) (fun hh => nomatch hh)
  refine wp_seq ?_
  refine at_regq [] { ts := [0, 1, 6, 7, 8, 9], os := [1, 2, 3] } [] gamOK hT h (by kernel_rfl) trivial fun a w h => then_normal (wp_ret (then_ret ?_))
  exact at_return ((0, (0, (0, (0, (([] : List Int), 0))))), (false, ())) [] h (by kernel_rfl) trivial (congrArg (fun z => (z.1, z.2, ())) (show (((0, (0, (0, (0, (([] : List Int), 0))))), false)) = makeMan x0 x1 x2 x3 from by first | exact makeMan_no (by first | (left; assumption) | (right; left; assumption) | (right; right; left; assumption) | (right; right; right; intro e; have e1 := e.1; have e2 := e.2.1; have e3 := e.2.2; first | omega | (simp_all; done))) | exact makeMan_yes (by assumption) (by assumption)))
 ·have hzh1 : (isKey x0) = true := notF h1
  have hvh1 := isKey_t (notF h1)
  rcases Bool.eq_false_or_eq_true (!(validG x3)) with h2 | h2
  ·have hzh2 : (validG x3) = false := notT h2
   refine at_anyq [{}, {}, { hint := some (aB false) }, {}, {}, {}, { hint := some (aB true) }, {}, {}, {}, {}, {}, {}, {}, {}, {}, {}, {}, {}, {}, {}, {}] { ts := [0, 1, 6, 7, 8, 9, 32], os := [1, 2, 3] } [True, (AV.p (.c (.v (.bool (!(isKey x0))))) = AV.p (.c (.v (.bool false)))), Q_spec_IsValidGeneration x3, (AV.p (.c (.v (.bool (!(validG x3))))) = AV.p (.c (.v (.bool true))))] gamOK hT mixed h (by kernel_rfl) ⟨trivial, hint_bool (h1), (by exact hf3), hint_bool (h2), trivial⟩ fun a w h => then_normal ?_
   refine at_test true h (by kernel_rfl) (fun hh => ?_) (fun hh => nomatch hh)
   refine wp_seq ?_
   refine at_regq [] { ts := [0, 1, 6, 7, 8, 9], os := [1, 2, 3] } [] gamOK hT h (by kernel_rfl) trivial fun a w h => then_normal (wp_ret (then_ret ?_))
   exact at_return ((0, (0, (0, (0, (([] : List Int), 0))))), (false, ())) [] h (by kernel_rfl) trivial (congrArg (fun z => (z.1, z.2, ())) (show (((0, (0, (0, (0, (([] : List Int), 0))))), false)) = makeMan x0 x1 x2 x3 from by first | exact makeMan_no (by first | (left; assumption) | (right; left; assumption) | (right; right; left; assumption) | (right; right; right; intro e; have e1 := e.1; have e2 := e.2.1; have e3 := e.2.2; first | omega | (simp_all; done))) | exact makeMan_yes (by assumption) (by assumption)))
  ·have hzh2 : (validG x3) = true := notF h2
   have hvh2 := validG_t (notF h2)
   rcases Bool.eq_false_or_eq_true (!(validK x2)) with h3 | h3
   ·have hzh3 : (validK x2) = false := notT h3
    refine at_anyq [{}, {}, { hint := some (aB false) }, {}, {}, {}, { hint := some (aB false) }, {}, {}, {}, {}, { hint := some (aB true) }, {}, {}, {}, {}, {}, {}, {}, {}, {}, {}] { ts := [0, 1, 6, 7, 8, 9, 32], os := [1, 2, 3] } [True, (AV.p (.c (.v (.bool (!(isKey x0))))) = AV.p (.c (.v (.bool false)))), Q_spec_IsValidGeneration x3, (AV.p (.c (.v (.bool (!(validG x3))))) = AV.p (.c (.v (.bool false)))), Q_spec_IsValidHashKey x2, (AV.p (.c (.v (.bool (!(validK x2))))) = AV.p (.c (.v (.bool true))))] gamOK hT mixed h (by kernel_rfl) ⟨trivial, hint_bool (h1), (by exact hf3), hint_bool (h2), (by exact hf2), hint_bool (h3), trivial⟩ fun a w h => then_normal ?_
    refine at_test true h (by kernel_rfl) (fun hh => ?_) (fun hh => nomatch hh)
    refine wp_seq ?_
    refine at_regq [] { ts := [0, 1, 6, 7, 8, 9], os := [1, 2, 3] } [] gamOK hT h (by kernel_rfl) trivial fun a w h => then_normal (wp_ret (then_ret ?_))
    exact at_return ((0, (0, (0, (0, (([] : List Int), 0))))), (false, ())) [] h (by kernel_rfl) trivial (congrArg (fun z => (z.1, z.2, ())) (show (((0, (0, (0, (0, (([] : List Int), 0))))), false)) = makeMan x0 x1 x2 x3 from by first | exact makeMan_no (by first | (left; assumption) | (right; left; assumption) | (right; right; left; assumption) | (right; right; right; intro e; have e1 := e.1; have e2 := e.2.1; have e3 := e.2.2; first | omega | (simp_all; done))) | exact makeMan_yes (by assumption) (by assumption)))
   ·have hzh3 : (validK x2) = true := notF h3
    have hvh3 := validK_t (notF h3)
    refine at_anyq [{}, {}, { hint := some (aB false) }, {}, {}, {}, { hint := some (aB false) }, {}, {}, {}, {}, { hint := some (aB false) }, {}, {}, {}, {}, {}, {}, {}, {}, {}, {}] { ts := [0, 1, 6, 7, 8, 9, 32], os := [1, 2, 3] } [True, (AV.p (.c (.v (.bool (!(isKey x0))))) = AV.p (.c (.v (.bool false)))), Q_spec_IsValidGeneration x3, (AV.p (.c (.v (.bool (!(validG x3))))) = AV.p (.c (.v (.bool false)))), Q_spec_IsValidHashKey x2, (AV.p (.c (.v (.bool (!(validK x2))))) = AV.p (.c (.v (.bool false)))), Q_spec_ColumnsOf x3.2] gamOK hT mixed h (by kernel_rfl) ⟨trivial, hint_bool (h1), (by exact hf3), hint_bool (h2), (by exact hf2), hint_bool (h3), (by exact hf3.2), trivial⟩ fun a w h => then_normal ?_
    refine at_test (!decide ((colsOf x3.2) = ((List.length x2 : Nat) : Int))) h (by kernel_rfl) (fun h4 => ?_) (fun h4 => ?_)
    ·replace h4 : ¬ ((colsOf x3.2) = ((List.length x2 : Nat) : Int)) := of_decide_eq_false (notT h4)
     refine wp_seq ?_
     refine at_regq [] { ts := [0, 1, 6, 7, 8, 9], os := [1, 2, 3] } [] gamOK hT h (by kernel_rfl) trivial fun a w h => then_normal (wp_ret (then_ret ?_))
     exact at_return ((0, (0, (0, (0, (([] : List Int), 0))))), (false, ())) [] h (by kernel_rfl) trivial (congrArg (fun z => (z.1, z.2, ())) (show (((0, (0, (0, (0, (([] : List Int), 0))))), false)) = makeMan x0 x1 x2 x3 from by first | exact makeMan_no (by first | (left; assumption) | (right; left; assumption) | (right; right; left; assumption) | (right; right; right; intro e; have e1 := e.1; have e2 := e.2.1; have e3 := e.2.2; first | omega | (simp_all; done))) | exact makeMan_yes (by assumption) (by assumption)))
    ·replace h4 : (colsOf x3.2) = ((List.length x2 : Nat) : Int) := of_decide_eq_true (notF h4)
     refine wp_skip (then_normal (wp_seq ?_))
     refine at_anyq [{}, {}, {}, {}, {}, {}, {}, {}, {}, {}, {}, {}, { ids := [4] }, {}, { ids := [5] }, { ids := [6] }, {}] { ts := [8, 9, 10], os := [3, 5, 6] } [Q_spec_ColumnsOf x3.2, Q_spec_HashSymbols x2 x3, Q_spec_SignManifest x0 (x1, (x3.1, (((List.length x3.2 : Nat) : Int), ((colsOf x3.2), ((hashSyms x2 x3), 0)))))] gamOK hT mixed h (by kernel_rfl) ⟨(by exact hf3.2), (by exact ⟨hf2, hf3⟩), (by exact ⟨trivial, ⟨hf3.1, ⟨trivial, ⟨trivial, ⟨(Sh.fit_len (t := 27) (s := .int 3) rfl (Nat.le_trans hashSyms_len (hf3).2.1)), trivial⟩⟩⟩⟩⟩), trivial⟩ fun a w h => then_normal (wp_seq (wp_seq ?_))
     refine at_regq [] { ts := [8, 9, 10, 51], os := [3, 5, 6] } [Q_spec_IsValidManifest (signMan x0 (x1, (x3.1, (((List.length x3.2 : Nat) : Int), ((colsOf x3.2), ((hashSyms x2 x3), 0))))))] gamOK hT h (by kernel_rfl) ⟨(by exact (show Sh.fit s31 (signMan x0 (x1, (x3.1, (((List.length x3.2 : Nat) : Int), ((colsOf x3.2), ((hashSyms x2 x3), 0)))))) from (⟨trivial, ⟨hf3.1, ⟨trivial, ⟨trivial, ⟨(Sh.fit_len (t := 27) (s := .int 3) rfl (Nat.le_trans hashSyms_len (hf3).2.1)), trivial⟩⟩⟩⟩⟩))), trivial⟩ fun a w h => then_normal ?_
     refine at_test (!(validMan (signMan x0 (x1, (x3.1, (((List.length x3.2 : Nat) : Int), ((colsOf x3.2), ((hashSyms x2 x3), 0)))))))) h (by kernel_rfl) (fun h5 => ?_) (fun h5 => ?_)
     ·replace h5 : (validMan (signMan x0 (x1, (x3.1, (((List.length x3.2 : Nat) : Int), ((colsOf x3.2), ((hashSyms x2 x3), 0))))))) = false := notT h5
      refine wp_seq ?_
      refine at_regq [] { ts := [8, 9, 10], os := [3, 5, 6] } [] gamOK hT h (by kernel_rfl) trivial fun a w h => then_normal (wp_ret (then_ret ?_))
      exact at_return ((0, (0, (0, (0, (([] : List Int), 0))))), (false, ())) [] h (by kernel_rfl) trivial (congrArg (fun z => (z.1, z.2, ())) (show (((0, (0, (0, (0, (([] : List Int), 0))))), false)) = makeMan x0 x1 x2 x3 from by first | exact makeMan_no (by first | (left; assumption) | (right; left; assumption) | (right; right; left; assumption) | (right; right; right; intro e; have e1 := e.1; have e2 := e.2.1; have e3 := e.2.2; first | omega | (simp_all; done))) | exact makeMan_yes (by assumption) (by assumption)))
     ·replace h5 : (validMan (signMan x0 (x1, (x3.1, (((List.length x3.2 : Nat) : Int), ((colsOf x3.2), ((hashSyms x2 x3), 0))))))) = true := notF h5
      refine wp_skip (then_normal (wp_seq ?_))
      refine at_regq [] { ts := [8, 9], os := [3, 5] } [] gamOK hT h (by kernel_rfl) trivial fun a w h => then_normal (wp_ret ?_)
      exact at_return ((signMan x0 (x1, (x3.1, (((List.length x3.2 : Nat) : Int), ((colsOf x3.2), ((hashSyms x2 x3), 0)))))), (true, ())) [] h (by kernel_rfl) trivial (congrArg (fun z => (z.1, z.2, ())) (show (((signMan x0 (x1, (x3.1, (((List.length x3.2 : Nat) : Int), ((colsOf x3.2), ((hashSyms x2 x3), 0)))))), true)) = makeMan x0 x1 x2 x3 from by first | exact makeMan_no (by first | (left; assumption) | (right; left; assumption) | (right; right; left; assumption) | (right; right; right; intro e; have e1 := e.1; have e2 := e.2.1; have e3 := e.2.2; first | omega | (simp_all; done))) | exact makeMan_yes (by assumption) (by assumption)))

def signedL (x0 : Int) (x1 : T40) : Bool := decide (x1.2.2.2.2 = (linkMAC (nodeKey x0 x1.1) x1))
abbrev Q_impl_IsSignedBySender := (fun (x0 : Int) (x1 : T40) => Sh.fit s40 x1)
def S_impl_IsSignedBySender : Sum := { fid := 9, dom := [(.int 3), s40], cod := [(.bool 4)], dp := true, fz := false, pre := fun x => Q_impl_IsSignedBySender x.1 x.2.1, g := fun x => ((signedL x.1 x.2.1), ()) }
def S_impl_IsSignedBySender_tab : List (Nat × Sum) := [(16, S_impl_NodeKey), (15, S_impl_LinkMAC)]
theorem S_impl_IsSignedBySender_ok : FnOK Tryz.prog 9 S_impl_IsSignedBySender := by
 refine at_enter 14 (fun x => ⟨[(0, aI x.1), (1, aG [cI x.2.1.1, cI x.2.1.2.1, cI x.2.1.2.2.1, cI x.2.1.2.2.2.1.1, .ro (.int 3) x.2.1.2.2.2.1.2.1, .ro (.int 3) x.2.1.2.2.2.1.2.2, cI x.2.1.2.2.2.2])], []⟩) Tryz.func9 rfl (by kernel_rfl) (fun x => rfl) ?_
 rintro w0 Z0 ⟨x0, x1, u⟩ a w
 revert x0 x1
 intro (x0 : Int) (x1 : T40) hpre hlens h
 replace hpre : Q_impl_IsSignedBySender x0 x1 := hpre
 have hT : TabOK Tryz.prog w0 [] S_impl_IsSignedBySender_tab := (.cons S_impl_NodeKey_ok (.cons S_impl_LinkMAC_ok .nil))
 have hf1 : Sh.fit s40 x1 := hpre
 have hn1_1 : List.length x1.2.2.2.1.2.1 ≤ 1073741824 := hf1.2.2.2.1.2.1.1
 have hn1_2 : List.length x1.2.2.2.1.2.2 ≤ 1073741824 := hf1.2.2.2.1.2.2.1
 refine wp_seq ?_
 refine at_regq [{ ids := [1] }] { ts := [0, 3, 4], os := [1] } [] gamOK hT h (by kernel_rfl) trivial fun a w h => then_normal (wp_seq ?_)
 refine at_anyq [{}, {}, {}, {}, {}, {}, {}, {}, {}, {}] { ts := [4], os := [] } [True, Q_impl_LinkMAC (nodeKey x0 x1.1) x1] gamOK hT mixed h (by kernel_rfl) ⟨trivial, (by exact hf1), trivial⟩ fun a w h => then_normal (wp_ret ?_)
 exact at_return (decide (x1.2.2.2.2 = (linkMAC (nodeKey x0 x1.1) x1)), ()) [] h (by kernel_rfl) trivial (congrArg (fun z => (z, ())) (show (decide (x1.2.2.2.2 = (linkMAC (nodeKey x0 x1.1) x1))) = signedL x0 x1 from by rfl))

def isProof (x0 : Int) (x1 : (List Int)) (x2 : T31) (x3 : T40) : Bool := (if (signedL x0 x3) = true then (if (validMan x2) = true then decide ((checkP x1 x2 x3.2.2.2.1) = 3) else false) else false)
abbrev Q_impl_IsProof := (fun (x0 : Int) (x1 : (List Int)) (x2 : T31) (x3 : T40) => Sh.fit s29 x1 ∧ Sh.fit s31 x2 ∧ Sh.fit s40 x3)
def S_impl_IsProof : Sum := { fid := 10, dom := [(.int 3), s29, s31, s40], cod := [(.bool 4)], dp := true, fz := false, pre := fun x => Q_impl_IsProof x.1 x.2.1 x.2.2.1 x.2.2.2.1, g := fun x => ((isProof x.1 x.2.1 x.2.2.1 x.2.2.2.1), ()) }
def S_impl_IsProof_tab : List (Nat × Sum) := [(9, S_impl_IsSignedBySender), (23, S_impl_IsValidManifest), (24, S_impl_CheckPacket)]
theorem S_impl_IsProof_ok : FnOK Tryz.prog 10 S_impl_IsProof := by
 refine at_enter 24 (fun x => ⟨[(0, aI x.1), (1, aG [.ro (.int 3) x.2.1]), (2, aG [cI x.2.2.1.1, cI x.2.2.1.2.1, cI x.2.2.1.2.2.1, cI x.2.2.1.2.2.2.1, .ro (.int 3) x.2.2.1.2.2.2.2.1, cI x.2.2.1.2.2.2.2.2]), (3, aG [cI x.2.2.2.1.1, cI x.2.2.2.1.2.1, cI x.2.2.2.1.2.2.1, cI x.2.2.2.1.2.2.2.1.1, .ro (.int 3) x.2.2.2.1.2.2.2.1.2.1, .ro (.int 3) x.2.2.2.1.2.2.2.1.2.2, cI x.2.2.2.1.2.2.2.2])], []⟩) Tryz.func10 rfl (by kernel_rfl) (fun x => rfl) ?_
 rintro w0 Z0 ⟨x0, x1, x2, x3, u⟩ a w
 revert x0 x1 x2 x3
 intro (x0 : Int) (x1 : (List Int)) (x2 : T31) (x3 : T40) hpre hlens h
 replace hpre : Q_impl_IsProof x0 x1 x2 x3 := hpre
 have hT : TabOK Tryz.prog w0 [] S_impl_IsProof_tab := (.cons S_impl_IsSignedBySender_ok (.cons S_impl_IsValidManifest_ok (.cons S_impl_CheckPacket_ok .nil)))
 obtain ⟨hf1, hf2, hf3⟩ := hpre
 have hn1_1 : List.length x1 ≤ 1073741824 := hf1.1
 have hn2_2 : List.length x2.2.2.2.2.1 ≤ 1073741824 := hf2.2.2.2.2.1.1
 have hn3_3 : List.length x3.2.2.2.1.2.1 ≤ 1073741824 := hf3.2.2.2.1.2.1.1
 have hn3_4 : List.length x3.2.2.2.1.2.2 ≤ 1073741824 := hf3.2.2.2.1.2.2.1
 refine wp_seq ?_
 refine at_regq [{ ids := [1] }, { ids := [2] }, { ids := [3] }] { ts := [0, 5, 6, 7, 8], os := [1, 2, 3] } [] gamOK hT h (by kernel_rfl) trivial fun a w h => then_normal (wp_seq ?_)
 rcases Bool.eq_false_or_eq_true ((signedL x0 x3)) with h1 | h1
 ·rcases Bool.eq_false_or_eq_true ((validMan x2)) with h2 | h2
  ·refine at_regq [{}, {}, { hint := some (aB true) }, {}, {}, { hint := some (aB true) }] { ts := [8], os := [] } [Q_impl_IsSignedBySender x0 x3, (AV.p (.c (.v (.bool ((signedL x0 x3))))) = AV.p (.c (.v (.bool true)))), Q_impl_IsValidManifest x2, (AV.p (.c (.v (.bool ((validMan x2))))) = AV.p (.c (.v (.bool true)))), Q_impl_CheckPacket x1 x2 x3.2.2.2.1] gamOK hT h (by kernel_rfl) ⟨(by exact hf3), hint_bool (h1), (by exact hf2), hint_bool (h2), (by exact ⟨hf1, hf2, hf3.2.2.2.1⟩), trivial⟩ fun a w h => then_normal (wp_ret ?_)
   exact at_return (decide ((checkP x1 x2 x3.2.2.2.1) = 3), ()) [] h (by kernel_rfl) trivial (congrArg (fun z => (z, ())) (show (decide ((checkP x1 x2 x3.2.2.2.1) = 3)) = isProof x0 x1 x2 x3 from by first | rfl | (unfold isProof; rw [if_pos h1, if_pos h2])))
  ·refine at_regq [{}, {}, { hint := some (aB true) }, {}, {}, { hint := some (aB false) }] { ts := [8], os := [] } [Q_impl_IsSignedBySender x0 x3, (AV.p (.c (.v (.bool ((signedL x0 x3))))) = AV.p (.c (.v (.bool true)))), Q_impl_IsValidManifest x2, (AV.p (.c (.v (.bool ((validMan x2))))) = AV.p (.c (.v (.bool false))))] gamOK hT h (by kernel_rfl) ⟨(by exact hf3), hint_bool (h1), (by exact hf2), hint_bool (h2), trivial⟩ fun a w h => then_normal (wp_ret ?_)
   exact at_return (false, ()) [] h (by kernel_rfl) trivial (congrArg (fun z => (z, ())) (show (false) = isProof x0 x1 x2 x3 from by first | rfl | (unfold isProof; rw [if_pos h1, if_neg (neT h2)])))
 ·refine at_regq [{}, {}, { hint := some (aB false) }] { ts := [8], os := [] } [Q_impl_IsSignedBySender x0 x3, (AV.p (.c (.v (.bool ((signedL x0 x3))))) = AV.p (.c (.v (.bool false))))] gamOK hT h (by kernel_rfl) ⟨(by exact hf3), hint_bool (h1), trivial⟩ fun a w h => then_normal (wp_ret ?_)
  exact at_return (false, ()) [] h (by kernel_rfl) trivial (congrArg (fun z => (z, ())) (show (false) = isProof x0 x1 x2 x3 from by first | rfl | (unfold isProof; rw [if_neg (neT h1)])))

def rndN (x0 : Int) (x1 : Int) (x2 : Int) : Int := (if (inR x2 1 1000000000000) = true then (Int.tmod (Int.tmod ((keyed x0 ([x1, 71])) * (keyed x0 ([x1, 71]))) 2147483647) x2) else 0)
def S_spec_RandomNumber : Sum := { fid := 56, dom := [(.int 3), (.int 3), (.int 3)], cod := [(.int 3)], dp := true, fz := false, pre := fun x => True, g := fun x => ((rndN x.1 x.2.1 x.2.2.1), ()) }
def S_spec_RandomNumber_tab : List (Nat × Sum) := [(36, S_spec_l1In), (75, S_spec_KeyedHash)]
theorem S_spec_RandomNumber_ok : FnOK Tryz.prog 56 S_spec_RandomNumber := by
 refine at_enter 21 (fun x => ⟨[(0, aI x.1), (1, aI x.2.1), (2, aI x.2.2.1)], []⟩) Tryz.func56 rfl (by kernel_rfl) (fun x => rfl) ?_
 rintro w0 Z0 ⟨x0, x1, x2, u⟩ a w
 revert x0 x1 x2
 intro (x0 : Int) (x1 : Int) (x2 : Int) hpre hlens h
 have hT : TabOK Tryz.prog w0 [] S_spec_RandomNumber_tab := (.cons S_spec_l1In_ok (.cons S_spec_KeyedHash_ok .nil))
 have hkb := keyed_bd x0 ([x1, 71])
 refine wp_seq ?_
 refine at_regq [] { ts := [0, 1, 2, 6], os := [] } [] gamOK hT h (by kernel_rfl) trivial fun a w h => then_normal (wp_seq (wp_seq ?_))
 refine at_regq [] { ts := [0, 1, 2, 6, 10], os := [] } [True] gamOK hT h (by kernel_rfl) ⟨trivial, trivial⟩ fun a w h => then_normal ?_
 refine at_test (!(inR x2 1 1000000000000)) h (by kernel_rfl) (fun h1 => ?_) (fun h1 => ?_)
 ·replace h1 : (inR x2 1 1000000000000) = false := notT h1
  have hvh1 := inR_f h1
  refine wp_seq ?_
  refine at_regq [] { ts := [0, 1, 2, 6], os := [] } [] gamOK hT h (by kernel_rfl) trivial fun a w h => then_normal (wp_ret (then_ret ?_))
  exact at_return (0, ()) [] h (by kernel_rfl) trivial (congrArg (fun z => (z, ())) (show (0) = rndN x0 x1 x2 from by first | rfl | (unfold rndN; rw [if_neg (neT h1)])))
 ·replace h1 : (inR x2 1 1000000000000) = true := notF h1
  have hvh1 := inR_t h1
  refine wp_skip (then_normal (wp_seq ?_))
  refine at_regq [{}, {}, { ids := [1] }] { ts := [2, 6, 7], os := [] } [pKey x0 ([x1, 71])] gamOK hT h (by kernel_rfl) ⟨(by (show _ ≤ _; simp)), trivial⟩ fun a w h => then_normal (wp_seq ?_)
  refine at_regq [{}, {}, { nw := true }] { ts := [6], os := [] } [I64 ((keyed x0 ([x1, 71])) * (keyed x0 ([x1, 71]))), (2147483647 : Int) ≠ 0, (x2 : Int) ≠ 0] gamOK hT h (by kernel_rfl) ⟨⟨by (have hA0 := mul_f (keyed x0 ([x1, 71])) (keyed x0 ([x1, 71])); first | omega | (simp only [lsA]; omega) | (simp <;> omega)), by (have hA0 := mul_f (keyed x0 ([x1, 71])) (keyed x0 ([x1, 71])); first | omega | (simp only [lsA]; omega) | (simp <;> omega))⟩, (by first | omega | (simp only [lsA]; omega) | (simp <;> omega)), (by first | omega | (simp only [lsA]; omega) | (simp <;> omega)), trivial⟩ fun a w h => then_normal (wp_ret ?_)
  exact at_return ((Int.tmod (Int.tmod ((keyed x0 ([x1, 71])) * (keyed x0 ([x1, 71]))) 2147483647) x2), ()) [] h (by kernel_rfl) trivial (congrArg (fun z => (z, ())) (show ((Int.tmod (Int.tmod ((keyed x0 ([x1, 71])) * (keyed x0 ([x1, 71]))) 2147483647) x2)) = rndN x0 x1 x2 from by first | rfl | (unfold rndN; rw [if_pos h1])))
theorem rndN_el (s i : Int) : LA.El (rndN s i 1019) := by
 have hkb := keyed_bd s ([i, 71])
 have hm := mul_f (keyed s ([i, 71])) (keyed s ([i, 71]))
 have h1 := tmod_f (keyed s ([i, 71]) * keyed s ([i, 71])) 2147483647 (by decide)
 have h2 := tmod_f ((keyed s ([i, 71]) * keyed s ([i, 71])).tmod 2147483647) 1019 (by decide)
 unfold rndN LA.El
 rw [if_pos (show inR 1019 1 1000000000000 = true from rfl)]
 omega
def unitL (n : Nat) (k : Int) : List Int := (List.range n).map fun (j : Nat) => if (j : Int) = k then 1 else 0
theorem unitL_snoc (n : Nat) (k : Int) : unitL (n + 1) k = unitL n k ++ [if (n : Int) = k then 1 else 0] := by unfold unitL; rw [List.range_succ, List.map_append]; rfl
theorem unitL_len (n : Nat) (k : Int) : (unitL n k).length = n := by simp [unitL]
theorem unitL_set {n : Nat} {k : Int} (h0 : 0 ≤ k) (h : k < n) : List.set (List.replicate n (0 : Int)) k.toNat 1 = unitL n k := by
 apply List.ext_getElem
 ·simp [unitL]
 ·intro i h1 h2
  rw [List.getElem_set]
  simp only [unitL, List.getElem_map, List.getElem_range, List.getElem_replicate]
  by_cases e : k.toNat = i
  ·rw [if_pos e, if_pos (by omega)]
  ·rw [if_neg e, if_neg (by omega)]
def unitV (w i : Int) : List Int := if inR w 0 40 = true ∧ inR i 0 (w - 1) = true then unitL w.toNat i else []
theorem unitV_y {w i : Int} (h : inR w 0 40 = true) (h2 : inR i 0 (w - 1) = true) : unitL w.toNat i = unitV w i := (if_pos ⟨h, h2⟩).symm
theorem unitV_n {w i : Int} (h : inR w 0 40 = false ∨ inR i 0 (w - 1) = false) : [] = unitV w i := by
 unfold unitV; rw [if_neg]
 rintro ⟨h1, h2⟩
 rcases h with h | h
 ·rw [h1] at h; cases h
 ·rw [h2] at h; cases h
theorem unitV_len (w i : Int) : (unitV w i).length ≤ 40 := by
 unfold unitV; split
 ·rename_i h; rw [unitL_len]; have := inR_t h.1; omega
 ·exact Nat.zero_le _
theorem unitL_ok (n : Nat) (k : Int) : LA.VokB n (unitL n k) := ⟨unitL_len n k, fun x hx => by
 obtain ⟨j, _, rfl⟩ := List.mem_map.1 hx
 unfold LA.El; split <;> omega⟩
def rndL (s : Int) (n : Nat) : List Int := (List.range n).map fun (j : Nat) => rndN s (j : Int) 1019
theorem rndL_snoc (s : Int) (n : Nat) : rndL s (n + 1) = rndL s n ++ [rndN s (n : Int) 1019] := by unfold rndL; rw [List.range_succ, List.map_append]; rfl
theorem rndL_len (s : Int) (n : Nat) : (rndL s n).length = n := by simp [rndL]
theorem rndL_at {s : Int} {n i : Nat} (h : i < n) : (rndL s n).getD i 0 = rndN s (i : Int) 1019 := by rw [getD_of_lt (by rw [rndL_len]; exact h)]; simp [rndL]
theorem rndL_zero (s : Int) (n : Nat) : List.replicate n (0 : Int) = copyTo 0 (rndL s n) 0 := by
 have e := copyTo_zero (z := (0 : Int)) (xs := rndL s n)
 rw [rndL_len] at e; exact e
theorem rndL_set {s : Int} {n i : Nat} (h : i < n) : (copyTo 0 (rndL s n) i).set i (rndN s (i : Int) 1019) = copyTo 0 (rndL s n) (i + 1) := by
 rw [← rndL_at h]; exact copyTo_set (by rw [rndL_len]; exact h)
def rndS (s w : Int) : List Int := if inR w 1 40 = true then rndL s w.toNat else []
theorem rndS_len (s w : Int) : (rndS s w).length ≤ 40 := by
 unfold rndS; split
 ·rename_i h; rw [rndL_len]; have := inR_t h; omega
 ·exact Nat.zero_le _
theorem rndS_eq {s w : Int} {i : Nat} (h : i = 0 ∨ ((i : Int) ≤ w ∧ inR w 1 40 = true)) (he : ¬ (i : Int) < w ∨ inR w 1 40 = false) : rndL s i = rndS s w := by
 unfold rndS
 cases hi : inR w 1 40 with
 | true =>
  rw [if_pos rfl]
  have hw := inR_t hi
  rcases he with he | he
  ·congr 1; omega
  ·rw [hi] at he; cases he
 | false =>
  rw [if_neg (by decide)]
  rcases h with h | h
  ·subst h; rfl
  ·rw [hi] at h; cases h.2
def rndV (s w : Int) : List Int := if 0 < (rndS s w).length ∧ LA.leadS (rndS s w) < 0 then (rndS s w).set 0 1 else rndS s w
theorem rndV_1 {s w : Int} (h : inR w 1 40 = true) (h2 : LA.leadS (rndL s w.toNat) < 0) : (rndL s w.toNat).set 0 1 = rndV s w := by
 unfold rndV rndS; rw [if_pos h, if_pos ⟨by rw [rndL_len]; have := inR_t h; omega, h2⟩]
theorem rndV_2 {s w : Int} (h : inR w 1 40 = true) (h2 : ¬ LA.leadS (rndL s w.toNat) < 0) : rndL s w.toNat = rndV s w := by
 unfold rndV rndS; rw [if_pos h, if_neg (fun e => h2 e.2)]
theorem rndV_0 {s w : Int} (h : inR w 1 40 = false) : [] = rndV s w := by
 unfold rndV rndS; rw [h]; simp
theorem rndV_len (s w : Int) : (rndV s w).length ≤ 40 := by
 have := rndS_len s w
 unfold rndV; split
 ·rw [List.length_set]; exact this
 ·exact this
theorem rndV_at {s w : Int} (h : 1 ≤ w ∧ w ≤ 40) : (rndV s w).length = w.toNat := by
 have e : rndS s w = rndL s w.toNat := if_pos (inR_true h)
 unfold rndV; rw [e]; split
 ·rw [List.length_set, rndL_len]
 ·rw [rndL_len]
theorem rndV_ok {s w : Int} (h : 1 ≤ w ∧ w ≤ 40) : LA.VokB w.toNat (rndV s w) := by
 refine ⟨rndV_at h, fun x hx => ?_⟩
 have e : rndS s w = rndL s w.toNat := if_pos (inR_true h)
 have hl : ∀ y ∈ rndL s w.toNat, LA.El y := fun y hy => by
  obtain ⟨j, _, rfl⟩ := List.mem_map.1 hy
  exact rndN_el _ _
 unfold rndV at hx; rw [e] at hx
 split at hx
 ·rcases List.mem_or_eq_of_mem_set hx with hx | hx
  ·exact hl x hx
  ·rw [hx]; unfold LA.El; omega
 ·exact hl x hx
def combTo (vs : List (List Int)) (cs : List Int) : Nat → List Int
 | 0 => List.replicate (vs.getD 0 []).length 0
 | i + 1 => LA.addS (combTo vs cs i) (vs.getD i []) (cs.getD i 0)
def combS (vs : List (List Int)) (cs : List Int) : List Int := combTo vs cs vs.length
abbrev cvB (vs : List (List Int)) (v : List Int) : Bool := validV v && decide (v.length = (vs.getD 0 []).length)
theorem cvB_ok {vs : List (List Int)} {v : List Int} (h : cvB vs v = true) : LA.VokB (vs.getD 0 []).length v := by
 unfold cvB at h; rw [Bool.and_eq_true] at h
 exact ⟨of_decide_eq_true h.2, (validV_t h.1).2.1⟩
theorem cvB_40 {vs : List (List Int)} {v : List Int} (h : cvB vs v = true) : (vs.getD 0 []).length ≤ 40 := by
 unfold cvB at h; rw [Bool.and_eq_true] at h
 have h1 := of_decide_eq_true h.2
 have := (validV_t h.1).1; omega
theorem combTo_ok {n : Nat} {vs : List (List Int)} {cs : List Int} (hn : (vs.getD 0 []).length = n) (hc : ∀ j, 0 ≤ cs.getD j 0 ∧ cs.getD j 0 ≤ 1018) : ∀ i, (∀ j, j < i → LA.VokB n (vs.getD j [])) → LA.VokB n (combTo vs cs i)
 | 0, _ => by
  refine ⟨by simp only [combTo]; rw [List.length_replicate, hn], fun x hx => ?_⟩
  simp only [combTo] at hx
  rw [(List.mem_replicate.1 hx).2]; unfold LA.El; omega
 | i + 1, h => (LA.addS_ok (combTo_ok hn hc i (fun j hj => h j (by omega))) (h i (by omega)) (hc i)).1
def combV (vs : List (List Int)) (cs : List Int) : List Int := if (¬ vs.length = 0 ∧ vs.length = cs.length) ∧ validV cs = true ∧ vs.all (cvB vs) = true then combS vs cs else []
theorem combV_y {vs : List (List Int)} {cs : List Int} (h1 : ¬ vs.length = 0) (h2 : vs.length = cs.length) (h3 : validV cs = true) (h4 : vs.all (cvB vs) = true) : combS vs cs = combV vs cs := (if_pos ⟨⟨h1, h2⟩, h3, h4⟩).symm
theorem combV_n {vs : List (List Int)} {cs : List Int} (h : vs.length = 0 ∨ ¬ vs.length = cs.length ∨ validV cs = false ∨ vs.all (cvB vs) = false) : [] = combV vs cs := by
 unfold combV; rw [if_neg]
 rintro ⟨⟨h1, h2⟩, h3, h4⟩
 rcases h with h | h | h | h
 ·exact h1 h
 ·exact h h2
 ·rw [h3] at h; cases h
 ·rw [h4] at h; cases h
theorem combV_len (vs : List (List Int)) (cs : List Int) : (combV vs cs).length ≤ 40 := by
 unfold combV; split
 ·rename_i h
  have hp := List.all_eq_true.1 h.2.2
  have h0 := hp _ (getD_mem (z := []) (show 0 < vs.length by have := h.1.1; omega))
  have := (combTo_ok (n := (vs.getD 0 []).length) (cs := cs) rfl (validV_t h.2.1).2.2 vs.length (fun j hj => cvB_ok (hp _ (getD_mem hj)))).1
  have := cvB_40 h0
  unfold combS; omega
 ·exact Nat.zero_le _
theorem combV_pos {vs : List (List Int)} {cs : List Int} (h : ¬ (combV vs cs).length = 0) : 0 < vs.length := by
 rcases Nat.eq_zero_or_pos vs.length with h0 | h0
 ·rw [← combV_n (.inl h0)] at h; exact absurd rfl h
 ·exact h0
def combP (vs : List (List Int)) (cs : List Int) : Prop := (0 < vs.length ∧ vs.length ≤ cs.length ∧ (vs.getD 0 []).length ≤ 40) ∧ (∀ j, j < vs.length → LA.VokB (vs.getD 0 []).length (vs.getD j [])) ∧ ∀ j, 0 ≤ cs.getD j 0 ∧ cs.getD j 0 ≤ 1018

abbrev Q_spec_Combine := (fun (x0 : (List (List Int))) (x1 : (List Int)) => Sh.fit s24 x0 ∧ Sh.fit s27 x1)
def S_spec_Combine : Sum := { fid := 21, dom := [s24, s27], cod := [s27], dp := true, fz := false, pre := fun x => Q_spec_Combine x.1 x.2.1, g := fun x => ((combV x.1 x.2.1), ()) }
def S_spec_Combine_tab : List (Nat × Sum) := [(20, S_spec_IsValidVector), (39, S_spec_AddScaled)]
theorem S_spec_Combine_ok : FnOK Tryz.prog 21 S_spec_Combine := by
 refine at_enter 64 (fun x => ⟨[(0, aF s27 x.1), (1, aF (.int 3) x.2.1)], []⟩) Tryz.func21 rfl (by kernel_rfl) (fun x => rfl) ?_
 rintro w0 Z0 ⟨x0, x1, u⟩ a w
 revert x0 x1
 intro (x0 : (List (List Int))) (x1 : (List Int)) hpre hlens h
 replace hpre : Q_spec_Combine x0 x1 := hpre
 have hT : TabOK Tryz.prog w0 [] S_spec_Combine_tab := (.cons S_spec_IsValidVector_ok (.cons S_spec_AddScaled_ok .nil))
 obtain ⟨hf0, hf1⟩ := hpre
 have hn0_1 : List.length x0 ≤ 1073741824 := hf0.1
 have hn1_2 : List.length x1 ≤ 1073741824 := hf1.1
 refine wp_seq ?_
 refine at_regq [] { ts := [0, 1, 4], os := [] } [] gamOK hT h (by kernel_rfl) trivial fun a w h => then_normal (wp_seq (wp_seq ?_))
 by_cases h1 : ((List.length x0 : Nat) : Int) = 0
 ·refine at_regq [{}, {}, { hint := some (aB true) }] { ts := [0, 1, 4, 21], os := [] } [(AV.p (.c (.v (.bool (decide (((List.length x0 : Nat) : Int) = 0))))) = AV.p (.c (.v (.bool true))))] gamOK hT h (by kernel_rfl) ⟨hint_bool (decide_eq_true h1), trivial⟩ fun a w h => then_normal ?_
  refine at_test true h (by kernel_rfl) (fun hh => ?_) (fun hh => nomatch hh)
  refine wp_seq ?_
  refine at_regq [{ ids := [1] }] { ts := [0, 1, 4], os := [1] } [] gamOK hT h (by kernel_rfl) trivial fun a w h => then_normal (wp_ret (then_ret ?_))
  exact at_return (([] : List Int), ()) [] h (by kernel_rfl) trivial (congrArg (fun z => (z, ())) (show (([] : List Int)) = combV x0 x1 from by first | exact combV_n (by first | (left; omega) | (right; left; omega) | (right; right; left; assumption) | (right; right; right; assumption)) | (rw [← combV_y (by omega) (by omega) (by assumption) (all_of (z := []) (i := i) (by omega) hok0.2)]; show _ = combTo x0 x1 (List.length x0); rw [show List.length x0 = i by omega]; done) | exact combV_n (Or.inr (Or.inr (Or.inr (all_at (z := []) (i := i) (by omega) (by (show ((validV _) && _) = false; rw [Bool.and_eq_false_iff]; first | (left; assumption) | (right; exact decide_eq_false (by omega))))))))))
 ·by_cases h2 : ((List.length x0 : Nat) : Int) = ((List.length x1 : Nat) : Int)
  ·refine at_regq [{}, {}, { hint := some (aB false) }, {}, {}, {}, {}, {}, { hint := some (aB false) }] { ts := [0, 1, 4, 21], os := [] } [(AV.p (.c (.v (.bool (decide (((List.length x0 : Nat) : Int) = 0))))) = AV.p (.c (.v (.bool false)))), (AV.p (.c (.v (.bool (!decide (((List.length x0 : Nat) : Int) = ((List.length x1 : Nat) : Int)))))) = AV.p (.c (.v (.bool false)))), Q_spec_IsValidVector x1] gamOK hT h (by kernel_rfl) ⟨hint_bool (decide_eq_false h1), hint_bool (ndT h2), (by exact hf1), trivial⟩ fun a w h => then_normal ?_
   refine at_test (!(validV x1)) h (by kernel_rfl) (fun h3 => ?_) (fun h3 => ?_)
   ·replace h3 : (validV x1) = false := notT h3
    refine wp_seq ?_
    refine at_regq [{ ids := [1] }] { ts := [0, 1, 4], os := [1] } [] gamOK hT h (by kernel_rfl) trivial fun a w h => then_normal (wp_ret (then_ret ?_))
    exact at_return (([] : List Int), ()) [] h (by kernel_rfl) trivial (congrArg (fun z => (z, ())) (show (([] : List Int)) = combV x0 x1 from by first | exact combV_n (by first | (left; omega) | (right; left; omega) | (right; right; left; assumption) | (right; right; right; assumption)) | (rw [← combV_y (by omega) (by omega) (by assumption) (all_of (z := []) (i := i) (by omega) hok0.2)]; show _ = combTo x0 x1 (List.length x0); rw [show List.length x0 = i by omega]; done) | exact combV_n (Or.inr (Or.inr (Or.inr (all_at (z := []) (i := i) (by omega) (by (show ((validV _) && _) = false; rw [Bool.and_eq_false_iff]; first | (left; assumption) | (right; exact decide_eq_false (by omega))))))))))
   ·replace h3 : (validV x1) = true := notF h3
    have hvh3 := validV_t h3
    refine wp_skip (then_normal (wp_seq ?_))
    refine at_regq [{}, {}, {}, {}, { ids := [2] }] { ts := [0, 1, 4, 5], os := [2] } [(0 : Int) ≤ 0 ∧ 0 < ((List.length x0 : Nat) : Int), (0 : Int) ≤ ((List.length (x0.getD 0 []) : Nat) : Int) ∧ ((List.length (x0.getD 0 []) : Nat) : Int) = ((List.length (x0.getD 0 []) : Nat) : Int) ∧ ((List.length (x0.getD 0 []) : Nat) : Int) * (8 : Nat) ≤ (140737488355328 : Int)] gamOK hT h (by kernel_rfl) ⟨(by refine ⟨?_, ?_⟩ <;> (first | omega | (simp only [lsA]; omega) | (simp <;> omega))), (by refine ⟨?_, ?_, ?_⟩ <;> ((have hA0 := mul_f ((List.length (x0.getD 0 []) : Nat) : Int) (8 : Nat); have hL1 := (show List.length (x0.getD 0 []) ≤ 1073741824 from ((Sh.fit_getD hf0 0)).1); first | omega | (simp only [lsA]; omega) | (simp <;> omega)))), trivial⟩ fun a w h => then_normal (wp_seq (wp_seq ?_))
    refine at_regq [] { ts := [0, 1, 4, 5, 6], os := [2] } [] gamOK hT h (by kernel_rfl) trivial fun a w h => then_normal (wp_block ?_)
    replace h := at_out (σ' := ⟨[(0, aF s27 x0), (1, aF (.int 3) x1), (4, .p (.c (cN))), (5, aS 2), (6, aI 0)], [(2, oR (.int 3) (List.replicate (List.length (x0.getD 0 [])) (0 : Int)))]⟩) { ts := [0, 1, 4, 5, 6], os := [2] } h (by kernel_rfl)
    refine at_loop (fun i : Nat => (⟨[(0, aF s27 x0), (1, aF (.int 3) x1), (4, .p (.c (cN))), (5, aS 2), (6, aI ((i : Nat) : Int))], [(2, oR (.int 3) (combTo x0 x1 i))]⟩ : St)) (fun i => (i ≤ List.length x0 ∧ allTo1 (cvB x0) x0 [] i)) (fun i => List.length x0 - i) (0) h (st_congr2 (fun (d0 : List Int) (d1 : Int) => (⟨[(0, aF s27 x0), (1, aF (.int 3) x1), (4, .p (.c (cN))), (5, aS 2), (6, aI d1)], [(2, oR (.int 3) d0)]⟩ : St)) (show ((List.replicate (List.length (x0.getD 0 [])) (0 : Int)) : List Int) = (combTo x0 x1 (0)) from by first | with_reducible rfl | (rfl) | rfl) (show (0 : Int) = (((0) : Nat) : Int) from by first | with_reducible rfl | (rfl) | rfl)) (by exact ⟨Nat.zero_le _, allTo1_zero⟩) ?_
    intro i a w hok0 h
    refine wp_seq (wp_seq ?_)
    refine at_regq [] { ts := [0, 1, 4, 5, 6, 31], os := [2] } [] gamOK hT h (by kernel_rfl) trivial fun a w h => then_normal ?_
    refine at_test (decide (((i : Nat) : Int) < ((List.length x0 : Nat) : Int))) h (by kernel_rfl) (fun h4 => ?_) (fun h4 => ?_)
    ·replace h4 : ((i : Nat) : Int) < ((List.length x0 : Nat) : Int) := of_decide_eq_true h4
     have hvr := (validV_t (v := x1) (by assumption)).2.2
     have hck := hvr i
     refine wp_skip (then_normal (wp_seq (wp_block (wp_seq (wp_seq ?_)))))
     rcases Bool.eq_false_or_eq_true (!(validV (x0.getD i []))) with h5 | h5
     ·have hzh5 : (validV (x0.getD i [])) = false := notT h5
      refine at_anyq [{}, {}, {}, {}, {}, { hint := some (aB true) }, {}, {}, {}, {}, {}, {}, {}, {}, {}, {}, {}, {}] { ts := [0, 1, 4, 5, 6, 41, 42, 43, 44, 45, 46, 47, 48, 49, 50, 51], os := [2] } [(0 : Int) ≤ ((i : Nat) : Int) ∧ ((i : Nat) : Int) < ((List.length x0 : Nat) : Int), Q_spec_IsValidVector (x0.getD i []), (AV.p (.c (.v (.bool (!(validV (x0.getD i [])))))) = AV.p (.c (.v (.bool true))))] gamOK hT mixed h (by kernel_rfl) ⟨(by refine ⟨?_, ?_⟩ <;> (first | omega | (simp only [lsA]; omega) | (simp <;> omega))), (by exact (Sh.fit_getD hf0 i)), hint_bool (h5), trivial⟩ fun a w h => then_normal ?_
      refine at_test true h (by kernel_rfl) (fun hh => ?_) (fun hh => nomatch hh)
      refine wp_seq ?_
      refine at_regq [{ ids := [3] }] { ts := [0, 1, 4, 5, 6, 41, 42, 43, 44, 45, 46, 47, 48, 49, 50], os := [2, 3] } [] gamOK hT h (by kernel_rfl) trivial fun a w h => then_normal (wp_ret (then_ret (in_ret (then_ret (then_ret (in_ret (then_ret ?_)))))))
      exact at_return (([] : List Int), ()) [] h (by kernel_rfl) trivial (congrArg (fun z => (z, ())) (show (([] : List Int)) = combV x0 x1 from by first | exact combV_n (by first | (left; omega) | (right; left; omega) | (right; right; left; assumption) | (right; right; right; assumption)) | (rw [← combV_y (by omega) (by omega) (by assumption) (all_of (z := []) (i := i) (by omega) hok0.2)]; show _ = combTo x0 x1 (List.length x0); rw [show List.length x0 = i by omega]; done) | exact combV_n (Or.inr (Or.inr (Or.inr (all_at (z := []) (i := i) (by omega) (by (show ((validV _) && _) = false; rw [Bool.and_eq_false_iff]; first | (left; assumption) | (right; exact decide_eq_false (by omega))))))))))
     ·have hzh5 : (validV (x0.getD i [])) = true := notF h5
      have hvh5 := validV_t (notF h5)
      refine at_anyq [{}, {}, {}, {}, {}, { hint := some (aB false) }, {}, {}, {}, {}, {}, {}, {}, {}, {}, {}, {}, {}] { ts := [0, 1, 4, 5, 6, 41, 42, 43, 44, 45, 46, 47, 48, 49, 50, 51], os := [2] } [(0 : Int) ≤ ((i : Nat) : Int) ∧ ((i : Nat) : Int) < ((List.length x0 : Nat) : Int), Q_spec_IsValidVector (x0.getD i []), (AV.p (.c (.v (.bool (!(validV (x0.getD i [])))))) = AV.p (.c (.v (.bool false)))), (0 : Int) ≤ ((i : Nat) : Int) ∧ ((i : Nat) : Int) < ((List.length x0 : Nat) : Int), (0 : Int) ≤ 0 ∧ 0 < ((List.length x0 : Nat) : Int)] gamOK hT mixed h (by kernel_rfl) ⟨(by refine ⟨?_, ?_⟩ <;> (first | omega | (simp only [lsA]; omega) | (simp <;> omega))), (by exact (Sh.fit_getD hf0 i)), hint_bool (h5), (by refine ⟨?_, ?_⟩ <;> (first | omega | (simp only [lsA]; omega) | (simp <;> omega))), (by refine ⟨?_, ?_⟩ <;> (first | omega | (simp only [lsA]; omega) | (simp <;> omega))), trivial⟩ fun a w h => then_normal ?_
      refine at_test (!decide (((List.length (x0.getD i []) : Nat) : Int) = ((List.length (x0.getD 0 []) : Nat) : Int))) h (by kernel_rfl) (fun h6 => ?_) (fun h6 => ?_)
      ·replace h6 : ¬ (((List.length (x0.getD i []) : Nat) : Int) = ((List.length (x0.getD 0 []) : Nat) : Int)) := of_decide_eq_false (notT h6)
       refine wp_seq ?_
       refine at_regq [{ ids := [3] }] { ts := [0, 1, 4, 5, 6, 41, 42, 43, 44, 45, 46, 47, 48, 49, 50], os := [2, 3] } [] gamOK hT h (by kernel_rfl) trivial fun a w h => then_normal (wp_ret (then_ret (in_ret (then_ret (then_ret (in_ret (then_ret ?_)))))))
       exact at_return (([] : List Int), ()) [] h (by kernel_rfl) trivial (congrArg (fun z => (z, ())) (show (([] : List Int)) = combV x0 x1 from by first | exact combV_n (by first | (left; omega) | (right; left; omega) | (right; right; left; assumption) | (right; right; right; assumption)) | (rw [← combV_y (by omega) (by omega) (by assumption) (all_of (z := []) (i := i) (by omega) hok0.2)]; show _ = combTo x0 x1 (List.length x0); rw [show List.length x0 = i by omega]; done) | exact combV_n (Or.inr (Or.inr (Or.inr (all_at (z := []) (i := i) (by omega) (by (show ((validV _) && _) = false; rw [Bool.and_eq_false_iff]; first | (left; assumption) | (right; exact decide_eq_false (by omega))))))))))
      ·replace h6 : ((List.length (x0.getD i []) : Nat) : Int) = ((List.length (x0.getD 0 []) : Nat) : Int) := of_decide_eq_true (notF h6)
       refine wp_skip (then_normal ?_)
       refine at_anyq [{}, {}, {}, {}, {}, {}, {}, {}, {}, { ids := [4] }, {}] { ts := [0, 1, 4, 5, 6, 41, 42, 43, 44, 45, 46, 47, 48, 49, 50], os := [4] } [(0 : Int) ≤ ((i : Nat) : Int) ∧ ((i : Nat) : Int) < ((List.length x0 : Nat) : Int), (0 : Int) ≤ ((i : Nat) : Int) ∧ ((i : Nat) : Int) < ((List.length x1 : Nat) : Int), Q_spec_AddScaled (combTo x0 x1 i) (x0.getD i []) (x1.getD i 0)] gamOK hT mixed h (by kernel_rfl) ⟨(by refine ⟨?_, ?_⟩ <;> (first | omega | (simp only [lsA]; omega) | (simp <;> omega))), (by refine ⟨?_, ?_⟩ <;> (first | omega | (simp only [lsA]; omega) | (simp <;> omega))), (by (have hci : cvB x0 (x0.getD i []) = true := (by (show ((validV _) && _) = true; rw [Bool.and_eq_true]; exact ⟨by assumption, decide_eq_true (by omega)⟩)); have hcv := cvB_ok hci; have hco := combTo_ok (n := List.length (x0.getD 0 [])) (vs := x0) (cs := x1) rfl hvr i (fun j hj => cvB_ok (hok0.2 j hj)); exact ⟨fitV hco (cvB_40 hci), fitV hcv (cvB_40 hci)⟩)), trivial⟩ fun a w h => in_normal (then_normal ?_)
       refine at_regq [{}, { nw := true }] { ts := [0, 1, 4, 5, 6, 41, 42, 43, 44, 45, 46, 47, 48, 49, 50], os := [4] } [I64 (((i : Nat) : Int) + 1)] gamOK hT h (by kernel_rfl) ⟨⟨by first | omega | (simp only [lsA]; omega) | (simp <;> omega), by first | omega | (simp only [lsA]; omega) | (simp <;> omega)⟩, trivial⟩ fun a w h => ?_
       replace h := at_out (σ' := ⟨[(0, aF s27 x0), (1, aF (.int 3) x1), (4, .p (.c (cN))), (5, aS 2), (6, aI (((i : Nat) : Int) + 1))], [(2, oR (.int 3) (addV (combTo x0 x1 i) (x0.getD i []) (x1.getD i 0)))]⟩) { ts := [0, 1, 4, 5, 6], os := [4], rn := [(4, 2)] } h (by kernel_rfl)
       exact ⟨i + 1, at_eq h (st_congr2 (fun (d0 : List Int) (d1 : Int) => (⟨[(0, aF s27 x0), (1, aF (.int 3) x1), (4, .p (.c (cN))), (5, aS 2), (6, aI d1)], [(2, oR (.int 3) d0)]⟩ : St)) (show ((addV (combTo x0 x1 i) (x0.getD i []) (x1.getD i 0)) : List Int) = (combTo x0 x1 (i + 1)) from by first | with_reducible rfl | ((have hci : cvB x0 (x0.getD i []) = true := (by (show ((validV _) && _) = true; rw [Bool.and_eq_true]; exact ⟨by assumption, decide_eq_true (by omega)⟩)); have hcv := cvB_ok hci; have hco := combTo_ok (n := List.length (x0.getD 0 [])) (vs := x0) (cs := x1) rfl hvr i (fun j hj => cvB_ok (hok0.2 j hj)); rw [addV_L hco hcv (cvB_40 hci) (by omega)]; rfl)) | rfl) (show (((i : Nat) : Int) + 1 : Int) = (((i + 1) : Nat) : Int) from by first | with_reducible rfl | (omega) | rfl)), (by exact ⟨by omega, allTo1_succ hok0.2 (by (show ((validV _) && _) = true; rw [Bool.and_eq_true]; exact ⟨by assumption, decide_eq_true (by omega)⟩))⟩), (by omega)⟩
    ·replace h4 : ¬ (((i : Nat) : Int) < ((List.length x0 : Nat) : Int)) := of_decide_eq_false h4
     refine wp_exit (then_exit (then_exit (in_hit (then_normal (wp_seq ?_)))))
     refine at_regq [] { ts := [4], os := [2] } [] gamOK hT h (by kernel_rfl) trivial fun a w h => then_normal (wp_ret ?_)
     exact at_return ((combTo x0 x1 i), ()) [] h (by kernel_rfl) trivial (congrArg (fun z => (z, ())) (show ((combTo x0 x1 i)) = combV x0 x1 from by first | exact combV_n (by first | (left; omega) | (right; left; omega) | (right; right; left; assumption) | (right; right; right; assumption)) | (rw [← combV_y (by omega) (by omega) (by assumption) (all_of (z := []) (i := i) (by omega) hok0.2)]; show _ = combTo x0 x1 (List.length x0); rw [show List.length x0 = i by omega]; done) | exact combV_n (Or.inr (Or.inr (Or.inr (all_at (z := []) (i := i) (by omega) (by (show ((validV _) && _) = false; rw [Bool.and_eq_false_iff]; first | (left; assumption) | (right; exact decide_eq_false (by omega))))))))))
  ·refine at_regq [{}, {}, { hint := some (aB false) }, {}, {}, {}, {}, {}, { hint := some (aB true) }] { ts := [0, 1, 4, 21], os := [] } [(AV.p (.c (.v (.bool (decide (((List.length x0 : Nat) : Int) = 0))))) = AV.p (.c (.v (.bool false)))), (AV.p (.c (.v (.bool (!decide (((List.length x0 : Nat) : Int) = ((List.length x1 : Nat) : Int)))))) = AV.p (.c (.v (.bool true))))] gamOK hT h (by kernel_rfl) ⟨hint_bool (decide_eq_false h1), hint_bool (ndF h2), trivial⟩ fun a w h => then_normal ?_
   refine at_test true h (by kernel_rfl) (fun hh => ?_) (fun hh => nomatch hh)
   refine wp_seq ?_
   refine at_regq [{ ids := [1] }] { ts := [0, 1, 4], os := [1] } [] gamOK hT h (by kernel_rfl) trivial fun a w h => then_normal (wp_ret (then_ret ?_))
   exact at_return (([] : List Int), ()) [] h (by kernel_rfl) trivial (congrArg (fun z => (z, ())) (show (([] : List Int)) = combV x0 x1 from by first | exact combV_n (by first | (left; omega) | (right; left; omega) | (right; right; left; assumption) | (right; right; right; assumption)) | (rw [← combV_y (by omega) (by omega) (by assumption) (all_of (z := []) (i := i) (by omega) hok0.2)]; show _ = combTo x0 x1 (List.length x0); rw [show List.length x0 = i by omega]; done) | exact combV_n (Or.inr (Or.inr (Or.inr (all_at (z := []) (i := i) (by omega) (by (show ((validV _) && _) = false; rw [Bool.and_eq_false_iff]; first | (left; assumption) | (right; exact decide_eq_false (by omega))))))))))

def codePk (g : T26) (cs : List Int) : T36 × Bool := if validG g = true ∧ validV cs = true ∧ cs.length = g.2.length then ((g.1, cs, combV g.2 cs), true) else ((0, [], []), false)
theorem codePk_y {g : T26} {cs : List Int} (h1 : validG g = true) (h2 : validV cs = true) (h3 : cs.length = g.2.length) : ((g.1, cs, combV g.2 cs), true) = codePk g cs := (if_pos ⟨h1, h2, h3⟩).symm
theorem codePk_n {g : T26} {cs : List Int} (h : validG g = false ∨ validV cs = false ∨ ¬ cs.length = g.2.length) : ((0, [], []), false) = codePk g cs := by
 unfold codePk; rw [if_neg]
 rintro ⟨h1, h2, h3⟩
 rcases h with h | h | h
 ·rw [h1] at h; cases h
 ·rw [h2] at h; cases h
 ·exact h h3
theorem genP {g : T26} (h : validG g = true) {cs : List Int} (hc : LA.VokB g.2.length cs) : combP g.2 cs := by
 have h1 := validG_t h
 have hm := validM_t h1.2.2.1
 have hk := validM_ok h1.2.2.1
 have h0 := (validV_t (hm.2 _ (getD_mem (z := []) (show 0 < g.2.length by omega))).1).1
 exact ⟨⟨by omega, by have := hc.1; omega, h0⟩, fun j hj => hk _ (LA.getD_in hj), fun j => hc.rng j⟩
theorem genC {g : T26} (h : validG g = true) {cs : List Int} (hc : LA.VokB g.2.length cs) : combV g.2 cs = combS g.2 cs := by
 have h1 := validG_t h
 have hm := validM_t h1.2.2.1
 refine (combV_y (by omega) hc.1.symm (validV_of hc (by omega)) ?_).symm
 rw [List.all_eq_true]; intro v hv
 have h2 := hm.2 v hv
 unfold cvB
 rw [Bool.and_eq_true]; exact ⟨h2.1, decide_eq_true h2.2⟩
abbrev Q_spec_CodePacket := (fun (x0 : T26) (x1 : (List Int)) => Sh.fit s26 x0 ∧ Sh.fit s27 x1)
def S_spec_CodePacket : Sum := { fid := 7, dom := [s26, s27], cod := [s36, (.bool 4)], dp := true, fz := false, pre := fun x => Q_spec_CodePacket x.1 x.2.1, g := fun x => ((codePk x.1 x.2.1).1, ((codePk x.1 x.2.1).2, ())) }
def S_spec_CodePacket_tab : List (Nat × Sum) := [(19, S_spec_IsValidGeneration), (20, S_spec_IsValidVector), (21, S_spec_Combine)]
theorem S_spec_CodePacket_ok : FnOK Tryz.prog 7 S_spec_CodePacket := by
 refine at_enter 33 (fun x => ⟨[(0, aG [cI x.1.1, .ro s27 x.1.2]), (1, aF (.int 3) x.2.1)], []⟩) Tryz.func7 rfl (by kernel_rfl) (fun x => rfl) ?_
 rintro w0 Z0 ⟨x0, x1, u⟩ a w
 revert x0 x1
 intro (x0 : T26) (x1 : (List Int)) hpre hlens h
 replace hpre : Q_spec_CodePacket x0 x1 := hpre
 have hT : TabOK Tryz.prog w0 [] S_spec_CodePacket_tab := (.cons S_spec_IsValidGeneration_ok (.cons S_spec_IsValidVector_ok (.cons S_spec_Combine_ok .nil)))
 obtain ⟨hf0, hf1⟩ := hpre
 have hn0_1 : List.length x0.2 ≤ 1073741824 := hf0.2.1
 have hn1_2 : List.length x1 ≤ 1073741824 := hf1.1
 refine wp_seq ?_
 refine at_regq [{ ids := [1] }, { ids := [2] }] { ts := [1, 2, 4, 5], os := [1, 2] } [] gamOK hT h (by kernel_rfl) trivial fun a w h => then_normal (wp_seq (wp_seq ?_))
 rcases Bool.eq_false_or_eq_true (!(validG x0)) with h1 | h1
 ·have hzh1 : (validG x0) = false := notT h1
  refine at_regq [{}, {}, { hint := some (aB true) }] { ts := [1, 2, 4, 5, 21], os := [1, 2] } [Q_spec_IsValidGeneration x0, (AV.p (.c (.v (.bool (!(validG x0))))) = AV.p (.c (.v (.bool true))))] gamOK hT h (by kernel_rfl) ⟨(by exact hf0), hint_bool (h1), trivial⟩ fun a w h => then_normal ?_
  refine at_test true h (by kernel_rfl) (fun hh => ?_) (fun hh => nomatch hh)
  refine wp_seq ?_
  refine at_regq [] { ts := [1, 2, 4, 5], os := [1, 2] } [] gamOK hT h (by kernel_rfl) trivial fun a w h => then_normal (wp_ret (then_ret ?_))
  exact at_return ((0, (([] : List Int), ([] : List Int))), (false, ())) [] h (by kernel_rfl) trivial (congrArg (fun z => (z.1, z.2, ())) (show (((0, (([] : List Int), ([] : List Int))), false)) = codePk x0 x1 from by first | exact codePk_n (by first | (left; assumption) | (right; left; assumption) | (right; right; omega)) | exact codePk_y (cs := x1) (by assumption) (by assumption) (by omega)))
 ·have hzh1 : (validG x0) = true := notF h1
  have hvh1 := validG_t (notF h1)
  rcases Bool.eq_false_or_eq_true (!(validV x1)) with h2 | h2
  ·have hzh2 : (validV x1) = false := notT h2
   refine at_regq [{}, {}, { hint := some (aB false) }, {}, {}, {}, { hint := some (aB true) }] { ts := [1, 2, 4, 5, 21], os := [1, 2] } [Q_spec_IsValidGeneration x0, (AV.p (.c (.v (.bool (!(validG x0))))) = AV.p (.c (.v (.bool false)))), Q_spec_IsValidVector x1, (AV.p (.c (.v (.bool (!(validV x1))))) = AV.p (.c (.v (.bool true))))] gamOK hT h (by kernel_rfl) ⟨(by exact hf0), hint_bool (h1), (by exact hf1), hint_bool (h2), trivial⟩ fun a w h => then_normal ?_
   refine at_test true h (by kernel_rfl) (fun hh => ?_) (fun hh => nomatch hh)
   refine wp_seq ?_
   refine at_regq [] { ts := [1, 2, 4, 5], os := [1, 2] } [] gamOK hT h (by kernel_rfl) trivial fun a w h => then_normal (wp_ret (then_ret ?_))
   exact at_return ((0, (([] : List Int), ([] : List Int))), (false, ())) [] h (by kernel_rfl) trivial (congrArg (fun z => (z.1, z.2, ())) (show (((0, (([] : List Int), ([] : List Int))), false)) = codePk x0 x1 from by first | exact codePk_n (by first | (left; assumption) | (right; left; assumption) | (right; right; omega)) | exact codePk_y (cs := x1) (by assumption) (by assumption) (by omega)))
  ·have hzh2 : (validV x1) = true := notF h2
   have hvh2 := validV_t (notF h2)
   refine at_regq [{}, {}, { hint := some (aB false) }, {}, {}, {}, { hint := some (aB false) }] { ts := [1, 2, 4, 5, 21], os := [1, 2] } [Q_spec_IsValidGeneration x0, (AV.p (.c (.v (.bool (!(validG x0))))) = AV.p (.c (.v (.bool false)))), Q_spec_IsValidVector x1, (AV.p (.c (.v (.bool (!(validV x1))))) = AV.p (.c (.v (.bool false))))] gamOK hT h (by kernel_rfl) ⟨(by exact hf0), hint_bool (h1), (by exact hf1), hint_bool (h2), trivial⟩ fun a w h => then_normal ?_
   refine at_test (!decide (((List.length x1 : Nat) : Int) = ((List.length x0.2 : Nat) : Int))) h (by kernel_rfl) (fun h3 => ?_) (fun h3 => ?_)
   ·replace h3 : ¬ (((List.length x1 : Nat) : Int) = ((List.length x0.2 : Nat) : Int)) := of_decide_eq_false (notT h3)
    refine wp_seq ?_
    refine at_regq [] { ts := [1, 2, 4, 5], os := [1, 2] } [] gamOK hT h (by kernel_rfl) trivial fun a w h => then_normal (wp_ret (then_ret ?_))
    exact at_return ((0, (([] : List Int), ([] : List Int))), (false, ())) [] h (by kernel_rfl) trivial (congrArg (fun z => (z.1, z.2, ())) (show (((0, (([] : List Int), ([] : List Int))), false)) = codePk x0 x1 from by first | exact codePk_n (by first | (left; assumption) | (right; left; assumption) | (right; right; omega)) | exact codePk_y (cs := x1) (by assumption) (by assumption) (by omega)))
   ·replace h3 : ((List.length x1 : Nat) : Int) = ((List.length x0.2 : Nat) : Int) := of_decide_eq_true (notF h3)
    refine wp_skip (then_normal (wp_seq ?_))
    refine at_anyq [{}, {}, { ids := [3] }, {}, { ids := [4] }, {}, {}, {}, { ids := [5] }, {}, {}, {}] { ts := [4, 5], os := [2, 4, 5] } [(List.length ([] : List Int) + List.length x1) * 8 ≤ 140737488355328, Q_spec_Combine x0.2 x1] gamOK hT mixed h (by kernel_rfl) ⟨(by first | omega | (simp only [lsA]; omega) | (simp <;> omega)), (by exact ⟨hf0.2, hf1⟩), trivial⟩ fun a w h => then_normal (wp_ret ?_)
    exact at_return ((x0.1, ((([] : List Int) ++ x1), (combV x0.2 x1))), (true, ())) [] h (by kernel_rfl) trivial (congrArg (fun z => (z.1, z.2, ())) (show (((x0.1, ((([] : List Int) ++ x1), (combV x0.2 x1))), true)) = codePk x0 x1 from by first | exact codePk_n (by first | (left; assumption) | (right; left; assumption) | (right; right; omega)) | exact codePk_y (cs := x1) (by assumption) (by assumption) (by omega)))

def and255 (z : Int) : Int := IntKind.i64.wrap ((BitVec.ofInt (IntKind.i64).bits z &&& BitVec.ofInt (IntKind.i64).bits 255).toNat : Int)
theorem and255_bd (z : Int) : 0 ≤ and255 z ∧ and255 z ≤ 255 := by
 unfold and255
 have e : (BitVec.ofInt (IntKind.i64).bits z &&& BitVec.ofInt (IntKind.i64).bits 255).toNat ≤ 255 := by
  rw [BitVec.toNat_and]
  have h2 : (BitVec.ofInt (IntKind.i64).bits 255).toNat = 255 := by decide
  rw [h2]; exact Nat.and_le_right
 rw [IntKind.wrap_i64]; omega
def lcgF (h : Int) : Int := IntKind.i64.wrap (IntKind.i64.wrap (h * 6364136223846793005) + 1442695040888963407)
def xorF (h : Int) : Int := IntKind.i64.wrap ((BitVec.ofInt (IntKind.i64).bits (Int.fdiv h (2 ^ (min (33 : Int).toNat (IntKind.i64).bits))) ^^^ BitVec.ofInt (IntKind.i64).bits (Int.fdiv h (2 ^ (min (47 : Int).toNat (IntKind.i64).bits)))).toNat : Int)
def hsF (h c : Int) : Int := IntKind.i64.wrap ((BitVec.ofInt (IntKind.i64).bits (IntKind.i64.wrap (IntKind.i64.wrap (IntKind.i64.wrap (h * 137) + c) + 11)) &&& BitVec.ofInt (IntKind.i64).bits 1073741823).toNat : Int)
def hsTo (code : List Int) : Nat → Int
 | 0 => 193017 + ((List.length code : Nat) : Int)
 | i + 1 => hsF (hsTo code i) (code.getD i 0)
def newC (code : List Int) : T70 := (code, 0, hsTo code (min (List.length code) 4000))
abbrev Q_spec_l1New := (fun (x0 : (List Int)) => Sh.fit s22 x0)
def B_spec_l1New : NS := { t := 70, s := s70, dom := [s22], pre := fun x => Q_spec_l1New x.1, g := fun x => (newC x.1) }
def S_spec_l1New : Sum := nSum 17 B_spec_l1New
def S_spec_l1New_tab : List (Nat × Sum) := []
theorem S_spec_l1New_ok : FnOK Tryz.prog 17 S_spec_l1New := by
 refine at_enterN (B := B_spec_l1New) 32 (fun x => ⟨[(0, aF (.u8 5) x.1)], []⟩) Tryz.func17 rfl (by kernel_rfl) (fun x => rfl) ?_
 rintro w0 Z0 ⟨x0, u⟩ a w
 revert x0
 intro (x0 : (List Int)) hpre hlens h
 replace h : At w0 Z0 [] 32 ⟨[(0, aF (.u8 5) x0)], []⟩ a w := h
 replace hpre : Q_spec_l1New x0 := hpre
 have hl1 : List.length x0 ≤ 9223372036854775807 := hlens.1.1
 have hu0 : u8L x0 := hlens.1.2
 have hT : TabOK Tryz.prog w0 [] S_spec_l1New_tab := .nil
 have hf0 : Sh.fit s22 x0 := hpre
 have hn0_1 : List.length x0 ≤ 1073741824 := hf0.1
 refine wp_seq ?_
 refine at_regq [] { ts := [0, 2], os := [] } [] gamOK hT h (by kernel_rfl) trivial fun a w h => then_normal (wp_seq ?_)
 refine at_regq [{}, {}, { nw := true }] { ts := [0, 2, 3], os := [] } [I64 (193017 + ((List.length x0 : Nat) : Int))] gamOK hT h (by kernel_rfl) ⟨⟨by first | omega | (simp only [lsA]; omega) | (simp <;> omega), by first | omega | (simp only [lsA]; omega) | (simp <;> omega)⟩, trivial⟩ fun a w h => then_normal (wp_seq (wp_seq ?_))
 refine at_regq [] { ts := [0, 2, 3, 4], os := [] } [] gamOK hT h (by kernel_rfl) trivial fun a w h => then_normal (wp_block ?_)
 replace h := at_out (σ' := ⟨[(0, aF (.u8 5) x0), (2, .p (.c (.v (.pointer none)))), (3, aI (193017 + ((List.length x0 : Nat) : Int))), (4, aI 0)], []⟩) { ts := [0, 2, 3, 4], os := [] } h (by kernel_rfl)
 refine at_loop (fun i : Nat => (⟨[(0, aF (.u8 5) x0), (2, .p (.c (.v (.pointer none)))), (3, aI (hsTo x0 i)), (4, aI ((i : Nat) : Int))], []⟩ : St)) (fun i => i ≤ (min (List.length x0) 4000)) (fun i => (min (List.length x0) 4000) - i) (0) h (st_congr2 (fun (d0 : Int) (d1 : Int) => (⟨[(0, aF (.u8 5) x0), (2, .p (.c (.v (.pointer none)))), (3, aI d0), (4, aI d1)], []⟩ : St)) (show (193017 + ((List.length x0 : Nat) : Int) : Int) = (hsTo x0 (0)) from by first | with_reducible rfl | (rfl) | rfl) (show (0 : Int) = (((0) : Nat) : Int) from by first | with_reducible rfl | (rfl) | rfl)) (by omega) ?_
 intro i a w hok0 h
 have hu1 := getD_u8 hu0 i
 refine wp_seq (wp_seq ?_)
 by_cases h1 : ((i : Nat) : Int) < ((List.length x0 : Nat) : Int)
 ·refine at_regq [{}, {}, {}, { hint := some (aB true) }] { ts := [0, 2, 3, 4, 13, 14, 15], os := [] } [(AV.p (.c (.v (.bool (decide (((i : Nat) : Int) < ((List.length x0 : Nat) : Int)))))) = AV.p (.c (.v (.bool true))))] gamOK hT h (by kernel_rfl) ⟨hint_bool (decide_eq_true h1), trivial⟩ fun a w h => then_normal ?_
  refine at_test (decide (((i : Nat) : Int) < 4000)) h (by kernel_rfl) (fun h2 => ?_) (fun h2 => ?_)
  ·replace h2 : ((i : Nat) : Int) < 4000 := of_decide_eq_true h2
   refine wp_skip (then_normal (wp_seq (wp_block ?_)))
   refine at_regq [{}, {}, {}, {}, {}, {}, { hint := some (aI (x0.getD i 0)) }, {}, {}, { hint := some (aI (hsF (hsTo x0 i) (x0.getD i 0))) }] { ts := [0, 2, 3, 4, 13, 14], os := [] } [(0 : Int) ≤ ((i : Nat) : Int) ∧ ((i : Nat) : Int) < ((List.length x0 : Nat) : Int), (AV.p (.c (.v (.int .i64 (IntKind.i64.wrap ((x0.getD i 0)))))) = AV.p (.c (.v (.int .i64 ((x0.getD i 0)))))), (AV.p (.c (.v (.int .i64 (IntKind.i64.wrap ((BitVec.ofInt (IntKind.i64).bits (IntKind.i64.wrap ((IntKind.i64.wrap ((IntKind.i64.wrap ((hsTo x0 i) * 137)) + (x0.getD i 0))) + 11)) &&& BitVec.ofInt (IntKind.i64).bits 1073741823).toNat : Int))))) = AV.p (.c (.v (.int .i64 ((hsF (hsTo x0 i) (x0.getD i 0)))))))] gamOK hT h (by kernel_rfl) ⟨(by refine ⟨?_, ?_⟩ <;> (first | omega | (simp only [lsA]; omega) | (simp <;> omega))), hint_int (wrap_id ⟨by first | omega | (simp only [lsA]; omega) | (simp <;> omega), by first | omega | (simp only [lsA]; omega) | (simp <;> omega)⟩), hint_int (by rfl), trivial⟩ fun a w h => in_normal (then_normal ?_)
   refine at_regq [{}, { nw := true }] { ts := [0, 2, 3, 4, 13, 14], os := [] } [I64 (((i : Nat) : Int) + 1)] gamOK hT h (by kernel_rfl) ⟨⟨by first | omega | (simp only [lsA]; omega) | (simp <;> omega), by first | omega | (simp only [lsA]; omega) | (simp <;> omega)⟩, trivial⟩ fun a w h => ?_
   replace h := at_out (σ' := ⟨[(0, aF (.u8 5) x0), (2, .p (.c (.v (.pointer none)))), (3, aI (hsF (hsTo x0 i) (x0.getD i 0))), (4, aI (((i : Nat) : Int) + 1))], []⟩) { ts := [0, 2, 3, 4], os := [] } h (by kernel_rfl)
   exact ⟨i + 1, at_eq h (st_congr2 (fun (d0 : Int) (d1 : Int) => (⟨[(0, aF (.u8 5) x0), (2, .p (.c (.v (.pointer none)))), (3, aI d0), (4, aI d1)], []⟩ : St)) (show ((hsF (hsTo x0 i) (x0.getD i 0)) : Int) = (hsTo x0 (i + 1)) from by first | with_reducible rfl | (rfl) | rfl) (show (((i : Nat) : Int) + 1 : Int) = (((i + 1) : Nat) : Int) from by first | with_reducible rfl | (omega) | rfl)), (by omega), (by omega)⟩
  ·replace h2 : ¬ (((i : Nat) : Int) < 4000) := of_decide_eq_false h2
   refine wp_exit (then_exit ?_)
   replace h := at_out (σ' := ⟨[(0, aF (.u8 5) x0), (2, .p (.c (.v (.pointer none)))), (3, aI (hsTo x0 i))], []⟩) { ts := [0, 2, 3], os := [] } h (by kernel_rfl)
   replace h := at_eq (σ' := ⟨[(0, aF (.u8 5) x0), (2, .p (.c (.v (.pointer none)))), (3, aI (hsTo x0 (min (List.length x0) 4000)))], []⟩) h (st_congr1 (fun (d0 : Int) => (⟨[(0, aF (.u8 5) x0), (2, .p (.c (.v (.pointer none)))), (3, aI d0)], []⟩ : St)) (show ((hsTo x0 i) : Int) = (hsTo x0 (min (List.length x0) 4000)) from by first | with_reducible rfl | (rw [show i = (min (List.length x0) 4000) by omega]) | rfl))
   refine then_exit (in_hit (then_normal (wp_seq ?_)))
   refine at_regq [{}, {}, {}, { ids := [1] }] { ts := [2], os := [1] } [] gamOK hT h (by kernel_rfl) trivial fun a w h => then_normal (wp_ret ?_)
   exact at_returnN (B := B_spec_l1New) (x := (x0, ())) ((x0, (0, (hsTo x0 (min (List.length x0) 4000))))) [] h (by kernel_rfl) trivial (show (x0, (0, (hsTo x0 (min (List.length x0) 4000)))) = newC x0 from by rfl)
 ·refine at_regq [{}, {}, {}, { hint := some (aB false) }] { ts := [0, 2, 3, 4, 13, 14, 15], os := [] } [(AV.p (.c (.v (.bool (decide (((i : Nat) : Int) < ((List.length x0 : Nat) : Int)))))) = AV.p (.c (.v (.bool false))))] gamOK hT h (by kernel_rfl) ⟨hint_bool (decide_eq_false h1), trivial⟩ fun a w h => then_normal ?_
  refine at_test false h (by kernel_rfl) (fun hh => nomatch hh) (fun hh => ?_)
  refine wp_exit (then_exit ?_)
  replace h := at_out (σ' := ⟨[(0, aF (.u8 5) x0), (2, .p (.c (.v (.pointer none)))), (3, aI (hsTo x0 i))], []⟩) { ts := [0, 2, 3], os := [] } h (by kernel_rfl)
  replace h := at_eq (σ' := ⟨[(0, aF (.u8 5) x0), (2, .p (.c (.v (.pointer none)))), (3, aI (hsTo x0 (min (List.length x0) 4000)))], []⟩) h (st_congr1 (fun (d0 : Int) => (⟨[(0, aF (.u8 5) x0), (2, .p (.c (.v (.pointer none)))), (3, aI d0)], []⟩ : St)) (show ((hsTo x0 i) : Int) = (hsTo x0 (min (List.length x0) 4000)) from by first | with_reducible rfl | (rw [show i = (min (List.length x0) 4000) by omega]) | rfl))
  refine then_exit (in_hit (then_normal (wp_seq ?_)))
  refine at_regq [{}, {}, {}, { ids := [1] }] { ts := [2], os := [1] } [] gamOK hT h (by kernel_rfl) trivial fun a w h => then_normal (wp_ret ?_)
  exact at_returnN (B := B_spec_l1New) (x := (x0, ())) ((x0, (0, (hsTo x0 (min (List.length x0) 4000))))) [] h (by kernel_rfl) trivial (show (x0, (0, (hsTo x0 (min (List.length x0) 4000)))) = newC x0 from by rfl)

@[irreducible]
def byteC (x0 : T70) : T70 × Int := (if x0.2.1 < ((List.length x0.1 : Nat) : Int) then ((x0.1, (x0.2.1 + 1, (lcgF x0.2.2))), (and255 (and255 (xorF (lcgF x0.2.2)) + x0.1.getD x0.2.1.toNat 0))) else ((x0.1, (x0.2.1, (lcgF x0.2.2))), (and255 (xorF (lcgF x0.2.2)))))
abbrev Q_spec_l1Byte := (fun (x0 : T70) => 0 ≤ x0.2.1)
def B_spec_l1Byte : BS := { t := 70, s := s70, dom := [], cod := [(.int 3)], pre := fun y x => Q_spec_l1Byte y, upd := fun y x => (byteC y).1, g := fun y x => ((byteC y).2, ()) }
def S_spec_l1Byte : Sum := bSum 57 B_spec_l1Byte
def S_spec_l1Byte_tab : List (Nat × Sum) := []
theorem S_spec_l1Byte_ok : FnOK Tryz.prog 57 S_spec_l1Byte := by
 refine at_enterB (B := B_spec_l1Byte) 58 (fun v y x => ⟨[(0, aP 1 0)], [(1, oX 70 [.ro (.u8 5) y.1, cI y.2.1, cI y.2.2]), (2, oP 1 v)]⟩) Tryz.func57 rfl (by kernel_rfl) (fun v y x => rfl) ?_
 rintro w0 Z0 b0 x0 ⟨u⟩ a w
 revert x0
 intro (x0 : T70) hpre hlens0 hlens h
 replace h : At w0 Z0 [b0] 58 ⟨[(0, aP 1 0)], [(1, oX 70 [.ro (.u8 5) x0.1, cI x0.2.1, cI x0.2.2]), (2, oP 1 (Value.pointer (some ⟨b0, 0, none⟩)))]⟩ a w := h
 replace hpre : Q_spec_l1Byte x0 := hpre
 have hl1 : List.length x0.1 ≤ 9223372036854775807 := hlens0.1.1
 have hu0 : u8L x0.1 := hlens0.1.2
 have hT : TabOK Tryz.prog w0 [b0] S_spec_l1Byte_tab := .nil
 have hp : (0 : Int) ≤ x0.2.1 := hpre
 refine wp_seq ?_
 refine at_regq [] { ts := [0, 2], os := [1, 2] } [] gamOK hT h (by kernel_rfl) trivial fun a w h => then_normal (wp_seq ?_)
 refine at_regq [{}, {}, {}, {}, {}, {}, { hint := some (aI (lcgF x0.2.2)) }] { ts := [0, 2], os := [1, 2] } [(AV.p (.c (.v (.int .i64 (IntKind.i64.wrap ((IntKind.i64.wrap (x0.2.2 * 6364136223846793005)) + 1442695040888963407))))) = AV.p (.c (.v (.int .i64 ((lcgF x0.2.2))))))] gamOK hT h (by kernel_rfl) ⟨hint_int (by rfl), trivial⟩ fun a w h => then_normal (wp_seq ?_)
 refine at_anyq [{}, {}, {}, {}, {}, {}, {}, {}, {}, {}, { hint := some (aI (xorF (lcgF x0.2.2))) }, { hint := some (aI (and255 (xorF (lcgF x0.2.2)))) }, {}] { ts := [0, 2, 3], os := [1, 2] } [(0 : Int) ≤ 33, (0 : Int) ≤ 47, (AV.p (.c (.v (.int .i64 (IntKind.i64.wrap ((BitVec.ofInt (IntKind.i64).bits (Int.fdiv (lcgF x0.2.2) (2 ^ (min (33 : Int).toNat (IntKind.i64).bits))) ^^^ BitVec.ofInt (IntKind.i64).bits (Int.fdiv (lcgF x0.2.2) (2 ^ (min (47 : Int).toNat (IntKind.i64).bits)))).toNat : Int))))) = AV.p (.c (.v (.int .i64 ((xorF (lcgF x0.2.2))))))), (AV.p (.c (.v (.int .i64 (IntKind.i64.wrap ((BitVec.ofInt (IntKind.i64).bits (xorF (lcgF x0.2.2)) &&& BitVec.ofInt (IntKind.i64).bits 255).toNat : Int))))) = AV.p (.c (.v (.int .i64 ((and255 (xorF (lcgF x0.2.2))))))))] gamOK hT mixed h (by kernel_rfl) ⟨(by first | omega | (simp only [lsA]; omega) | (simp <;> omega)), (by first | omega | (simp only [lsA]; omega) | (simp <;> omega)), hint_int (by rfl), hint_int (by rfl), trivial⟩ fun a w h => then_normal (wp_seq (wp_seq ?_))
 refine at_anyq [{}, {}, {}, {}, {}, {}, {}, {}, {}, {}] { ts := [0, 2, 3, 34], os := [1, 2] } [] gamOK hT mixed h (by kernel_rfl) trivial fun a w h => then_normal ?_
 refine at_test (decide (x0.2.1 < ((List.length x0.1 : Nat) : Int))) h (by kernel_rfl) (fun h1 => ?_) (fun h1 => ?_)
 ·replace h1 : x0.2.1 < ((List.length x0.1 : Nat) : Int) := of_decide_eq_true h1
  have hu1 := getD_u8 hu0 x0.2.1.toNat
  have ha1 := and255_bd (xorF (lcgF x0.2.2))
  refine wp_seq ?_
  refine at_anyq [{}, {}, {}, {}, {}, {}, {}, {}, {}, {}, {}, { hint := some (aI (x0.1.getD ((x0.2.1).toNat) 0)) }, { nw := true }, { hint := some (aI (and255 (and255 (xorF (lcgF x0.2.2)) + x0.1.getD x0.2.1.toNat 0))) }, {}] { ts := [0, 2, 3], os := [1, 2] } [(0 : Int) ≤ x0.2.1 ∧ x0.2.1 < ((List.length x0.1 : Nat) : Int), (AV.p (.c (.v (.int .i64 (IntKind.i64.wrap ((x0.1.getD ((x0.2.1).toNat) 0)))))) = AV.p (.c (.v (.int .i64 ((x0.1.getD ((x0.2.1).toNat) 0)))))), I64 ((and255 (xorF (lcgF x0.2.2))) + (x0.1.getD ((x0.2.1).toNat) 0)), (AV.p (.c (.v (.int .i64 (IntKind.i64.wrap ((BitVec.ofInt (IntKind.i64).bits ((and255 (xorF (lcgF x0.2.2))) + (x0.1.getD ((x0.2.1).toNat) 0)) &&& BitVec.ofInt (IntKind.i64).bits 255).toNat : Int))))) = AV.p (.c (.v (.int .i64 ((and255 (and255 (xorF (lcgF x0.2.2)) + x0.1.getD x0.2.1.toNat 0)))))))] gamOK hT mixed h (by kernel_rfl) ⟨(by refine ⟨?_, ?_⟩ <;> (first | omega | (simp only [lsA]; omega) | (simp <;> omega))), hint_int (wrap_id ⟨by first | omega | (simp only [lsA]; omega) | (simp <;> omega), by first | omega | (simp only [lsA]; omega) | (simp <;> omega)⟩), ⟨by first | omega | (simp only [lsA]; omega) | (simp <;> omega), by first | omega | (simp only [lsA]; omega) | (simp <;> omega)⟩, hint_int (by rfl), trivial⟩ fun a w h => then_normal ?_
  refine at_regq [{}, {}, {}, {}, {}, { nw := true }] { ts := [2, 3], os := [1, 2] } [I64 (x0.2.1 + 1)] gamOK hT h (by kernel_rfl) ⟨⟨by first | omega | (simp only [lsA]; omega) | (simp <;> omega), by first | omega | (simp only [lsA]; omega) | (simp <;> omega)⟩, trivial⟩ fun a w h => then_normal (wp_seq ?_)
  refine at_regq [] { ts := [2], os := [1, 2] } [] gamOK hT h (by kernel_rfl) trivial fun a w h => then_normal (wp_ret ?_)
  have hr2 : (((x0.1, (x0.2.1 + 1, (lcgF x0.2.2))), (and255 (and255 (xorF (lcgF x0.2.2)) + x0.1.getD x0.2.1.toNat 0))) : T70 × Int) = byteC x0 := by (unfold byteC; rw [if_pos h1])
  exact at_returnB (B := B_spec_l1Byte) (c0 := x0) (x := (())) ((x0.1, (x0.2.1 + 1, (lcgF x0.2.2)))) ((and255 (and255 (xorF (lcgF x0.2.2)) + x0.1.getD x0.2.1.toNat 0)), ()) [(Value.pointer (some ⟨b0, 0, none⟩)) = (Value.pointer (some ⟨b0, 0, none⟩))] h (by kernel_rfl) ⟨rfl, trivial⟩ (congrArg (a₁ := ((x0.1, (x0.2.1 + 1, (lcgF x0.2.2))), (and255 (and255 (xorF (lcgF x0.2.2)) + x0.1.getD x0.2.1.toNat 0)))) (a₂ := byteC x0) (fun (z : T70 × Int) => z.1) hr2) (congrArg (a₁ := ((x0.1, (x0.2.1 + 1, (lcgF x0.2.2))), (and255 (and255 (xorF (lcgF x0.2.2)) + x0.1.getD x0.2.1.toNat 0)))) (a₂ := byteC x0) (fun (z : T70 × Int) => (z.2, ())) hr2)
 ·replace h1 : ¬ (x0.2.1 < ((List.length x0.1 : Nat) : Int)) := of_decide_eq_false h1
  refine wp_skip (then_normal (wp_seq ?_))
  refine at_regq [] { ts := [2], os := [1, 2] } [] gamOK hT h (by kernel_rfl) trivial fun a w h => then_normal (wp_ret ?_)
  have hr3 : (((x0.1, (x0.2.1, (lcgF x0.2.2))), (and255 (xorF (lcgF x0.2.2)))) : T70 × Int) = byteC x0 := by (unfold byteC; rw [if_neg h1])
  exact at_returnB (B := B_spec_l1Byte) (c0 := x0) (x := (())) ((x0.1, (x0.2.1, (lcgF x0.2.2)))) ((and255 (xorF (lcgF x0.2.2))), ()) [(Value.pointer (some ⟨b0, 0, none⟩)) = (Value.pointer (some ⟨b0, 0, none⟩))] h (by kernel_rfl) ⟨rfl, trivial⟩ (congrArg (a₁ := ((x0.1, (x0.2.1, (lcgF x0.2.2))), (and255 (xorF (lcgF x0.2.2))))) (a₂ := byteC x0) (fun (z : T70 × Int) => z.1) hr3) (congrArg (a₁ := ((x0.1, (x0.2.1, (lcgF x0.2.2))), (and255 (xorF (lcgF x0.2.2))))) (a₂ := byteC x0) (fun (z : T70 × Int) => (z.2, ())) hr3)
theorem byte_bd (x : T70) : 0 ≤ (byteC x).2 ∧ (byteC x).2 ≤ 255 := by
 unfold byteC; split <;> exact and255_bd _
theorem byte_ok {x : T70} (h : 0 ≤ x.2.1) : 0 ≤ (byteC x).1.2.1 := by
 unfold byteC; split
 ·show (0 : Int) ≤ x.2.1 + 1; omega
 ·exact h

@[irreducible]
def belowC (x0 : T70) (x1 : Int) : T70 × Int := (if x1 ≤ 0 then (x0, 0) else (if x1 ≤ 256 then ((byteC x0).1, (Int.tmod (byteC x0).2 x1)) else ((byteC (byteC (byteC x0).1).1).1, (Int.tmod ((((byteC x0).2 * 65536) + ((byteC (byteC x0).1).2 * 256)) + (byteC (byteC (byteC x0).1).1).2) x1))))
abbrev Q_spec_l1Below := (fun (x0 : T70) (x1 : Int) => 0 ≤ x0.2.1)
def B_spec_l1Below : BS := { t := 70, s := s70, dom := [(.int 3)], cod := [(.int 3)], pre := fun y x => Q_spec_l1Below y x.1, upd := fun y x => (belowC y x.1).1, g := fun y x => ((belowC y x.1).2, ()) }
def S_spec_l1Below : Sum := bSum 33 B_spec_l1Below
def S_spec_l1Below_tab : List (Nat × Sum) := [(57, S_spec_l1Byte)]
theorem S_spec_l1Below_ok : FnOK Tryz.prog 33 S_spec_l1Below := by
 refine at_enterB (B := B_spec_l1Below) 31 (fun v y x => ⟨[(0, aP 1 0), (1, aI x.1)], [(1, oX 70 [.ro (.u8 5) y.1, cI y.2.1, cI y.2.2]), (2, oP 1 v)]⟩) Tryz.func33 rfl (by kernel_rfl) (fun v y x => rfl) ?_
 rintro w0 Z0 b0 x0 ⟨x1, u⟩ a w
 revert x0 x1
 intro (x0 : T70) (x1 : Int) hpre hlens0 hlens h
 replace h : At w0 Z0 [b0] 31 ⟨[(0, aP 1 0), (1, aI x1)], [(1, oX 70 [.ro (.u8 5) x0.1, cI x0.2.1, cI x0.2.2]), (2, oP 1 (Value.pointer (some ⟨b0, 0, none⟩)))]⟩ a w := h
 replace hpre : Q_spec_l1Below x0 x1 := hpre
 have hl1 : List.length x0.1 ≤ 9223372036854775807 := hlens0.1.1
 have hu0 : u8L x0.1 := hlens0.1.2
 have hT : TabOK Tryz.prog w0 [b0] S_spec_l1Below_tab := (.cons S_spec_l1Byte_ok .nil)
 have hb1 := byte_ok hpre
 have hb2 := byte_ok hb1
 have hb3 := byte_ok hb2
 have hd1 := byte_bd x0
 have hd2 := byte_bd (byteC x0).1
 have hd3 := byte_bd (byteC (byteC x0).1).1
 refine wp_seq ?_
 refine at_regq [] { ts := [0, 1, 4], os := [1, 2] } [] gamOK hT h (by kernel_rfl) trivial fun a w h => then_normal (wp_seq (wp_seq ?_))
 refine at_regq [] { ts := [0, 1, 4, 9], os := [1, 2] } [] gamOK hT h (by kernel_rfl) trivial fun a w h => then_normal ?_
 refine at_test (decide (x1 ≤ 0)) h (by kernel_rfl) (fun h1 => ?_) (fun h1 => ?_)
 ·replace h1 : x1 ≤ 0 := of_decide_eq_true h1
  refine wp_seq ?_
  refine at_regq [] { ts := [0, 1, 4], os := [1, 2] } [] gamOK hT h (by kernel_rfl) trivial fun a w h => then_normal (wp_ret (then_ret ?_))
  have hr2 : ((x0, 0) : T70 × Int) = belowC x0 x1 := by (unfold belowC; rw [if_pos h1])
  exact at_returnB (B := B_spec_l1Below) (c0 := x0) (x := (x1, ())) (x0) (0, ()) [(Value.pointer (some ⟨b0, 0, none⟩)) = (Value.pointer (some ⟨b0, 0, none⟩))] h (by kernel_rfl) ⟨rfl, trivial⟩ (congrArg (a₁ := (x0, 0)) (a₂ := belowC x0 x1) (fun (z : T70 × Int) => z.1) hr2) (congrArg (a₁ := (x0, 0)) (a₂ := belowC x0 x1) (fun (z : T70 × Int) => (z.2, ())) hr2)
 ·replace h1 : ¬ (x1 ≤ 0) := of_decide_eq_false h1
  refine wp_skip (then_normal (wp_seq (wp_seq ?_)))
  refine at_regq [] { ts := [0, 1, 4, 11], os := [1, 2] } [] gamOK hT h (by kernel_rfl) trivial fun a w h => then_normal ?_
  refine at_test (decide (x1 ≤ 256)) h (by kernel_rfl) (fun h3 => ?_) (fun h3 => ?_)
  ·replace h3 : x1 ≤ 256 := of_decide_eq_true h3
   refine wp_seq ?_
   refine at_regq [] { ts := [0, 1, 4], os := [1, 2] } [B_spec_l1Byte.pre x0 (()), (x1 : Int) ≠ 0] gamOK hT h (by kernel_rfl) ⟨(by first | exact hpre | exact hb1 | exact hb2 | exact hb3), (by first | omega | (simp only [lsA]; omega) | (simp <;> omega)), trivial⟩ fun a w h => then_normal (wp_ret (then_ret ?_))
   have hr4 : (((byteC x0).1, (Int.tmod (byteC x0).2 x1)) : T70 × Int) = belowC x0 x1 := by (unfold belowC; rw [if_neg h1, if_pos h3])
   exact at_returnB (B := B_spec_l1Below) (c0 := x0) (x := (x1, ())) ((byteC x0).1) ((Int.tmod (byteC x0).2 x1), ()) [(Value.pointer (some ⟨b0, 0, none⟩)) = (Value.pointer (some ⟨b0, 0, none⟩))] h (by kernel_rfl) ⟨rfl, trivial⟩ (congrArg (a₁ := ((byteC x0).1, (Int.tmod (byteC x0).2 x1))) (a₂ := belowC x0 x1) (fun (z : T70 × Int) => z.1) hr4) (congrArg (a₁ := ((byteC x0).1, (Int.tmod (byteC x0).2 x1))) (a₂ := belowC x0 x1) (fun (z : T70 × Int) => (z.2, ())) hr4)
  ·replace h3 : ¬ (x1 ≤ 256) := of_decide_eq_false h3
   refine wp_skip (then_normal (wp_seq ?_))
   refine at_regq [] { ts := [0, 1, 4, 5], os := [1, 2] } [B_spec_l1Byte.pre x0 (())] gamOK hT h (by kernel_rfl) ⟨(by first | exact hpre | exact hb1 | exact hb2 | exact hb3), trivial⟩ fun a w h => then_normal (wp_seq ?_)
   refine at_regq [] { ts := [0, 1, 4, 5, 6], os := [1, 2] } [B_spec_l1Byte.pre (byteC x0).1 (())] gamOK hT h (by kernel_rfl) ⟨(by first | exact hpre | exact hb1 | exact hb2 | exact hb3), trivial⟩ fun a w h => then_normal (wp_seq ?_)
   refine at_regq [] { ts := [1, 4, 5, 6, 7], os := [1, 2] } [B_spec_l1Byte.pre (byteC (byteC x0).1).1 (())] gamOK hT h (by kernel_rfl) ⟨(by first | exact hpre | exact hb1 | exact hb2 | exact hb3), trivial⟩ fun a w h => then_normal (wp_seq ?_)
   refine at_regq [{}, { nw := true }, {}, { nw := true }, { nw := true }, {}, { nw := true }] { ts := [4], os := [1, 2] } [I64 ((byteC x0).2 * 65536), I64 ((byteC (byteC x0).1).2 * 256), I64 (((byteC x0).2 * 65536) + ((byteC (byteC x0).1).2 * 256)), I64 ((((byteC x0).2 * 65536) + ((byteC (byteC x0).1).2 * 256)) + (byteC (byteC (byteC x0).1).1).2), (x1 : Int) ≠ 0] gamOK hT h (by kernel_rfl) ⟨⟨by first | omega | (simp only [lsA]; omega) | (simp <;> omega), by first | omega | (simp only [lsA]; omega) | (simp <;> omega)⟩, ⟨by first | omega | (simp only [lsA]; omega) | (simp <;> omega), by first | omega | (simp only [lsA]; omega) | (simp <;> omega)⟩, ⟨by first | omega | (simp only [lsA]; omega) | (simp <;> omega), by first | omega | (simp only [lsA]; omega) | (simp <;> omega)⟩, ⟨by first | omega | (simp only [lsA]; omega) | (simp <;> omega), by first | omega | (simp only [lsA]; omega) | (simp <;> omega)⟩, (by first | omega | (simp only [lsA]; omega) | (simp <;> omega)), trivial⟩ fun a w h => then_normal (wp_ret ?_)
   have hr5 : (((byteC (byteC (byteC x0).1).1).1, (Int.tmod ((((byteC x0).2 * 65536) + ((byteC (byteC x0).1).2 * 256)) + (byteC (byteC (byteC x0).1).1).2) x1)) : T70 × Int) = belowC x0 x1 := by (unfold belowC; rw [if_neg h1, if_neg h3])
   exact at_returnB (B := B_spec_l1Below) (c0 := x0) (x := (x1, ())) ((byteC (byteC (byteC x0).1).1).1) ((Int.tmod ((((byteC x0).2 * 65536) + ((byteC (byteC x0).1).2 * 256)) + (byteC (byteC (byteC x0).1).1).2) x1), ()) [(Value.pointer (some ⟨b0, 0, none⟩)) = (Value.pointer (some ⟨b0, 0, none⟩))] h (by kernel_rfl) ⟨rfl, trivial⟩ (congrArg (a₁ := ((byteC (byteC (byteC x0).1).1).1, (Int.tmod ((((byteC x0).2 * 65536) + ((byteC (byteC x0).1).2 * 256)) + (byteC (byteC (byteC x0).1).1).2) x1))) (a₂ := belowC x0 x1) (fun (z : T70 × Int) => z.1) hr5) (congrArg (a₁ := ((byteC (byteC (byteC x0).1).1).1, (Int.tmod ((((byteC x0).2 * 65536) + ((byteC (byteC x0).1).2 * 256)) + (byteC (byteC (byteC x0).1).1).2) x1))) (a₂ := belowC x0 x1) (fun (z : T70 × Int) => (z.2, ())) hr5)
theorem below_ok {x : T70} {n : Int} (h : 0 ≤ x.2.1) : 0 ≤ (belowC x n).1.2.1 := by
 unfold belowC
 split
 ·exact h
 ·split
  ·exact byte_ok h
  ·exact byte_ok (byte_ok (byte_ok h))
theorem below_bd (x : T70) {n : Int} (h : 0 < n) : 0 ≤ (belowC x n).2 ∧ (belowC x n).2 < n := by
 unfold belowC
 rw [if_neg (by omega)]
 have hd1 := byte_bd x; have hd2 := byte_bd (byteC x).1; have hd3 := byte_bd (byteC (byteC x).1).1
 split
 ·exact LA.tmod_lt hd1.1 h
 ·exact LA.tmod_lt (by first | omega | (dsimp only; omega)) h

def bigF (x0 : (List Int)) : Bool := decide (((List.length x0 : Nat) : Int) > 1048576)
def S_laws_big : Sum := { fid := 4, dom := [s22], cod := [(.bool 4)], dp := true, fz := false, pre := fun x => True, g := fun x => ((bigF x.1), ()) }
def S_laws_big_tab : List (Nat × Sum) := []
theorem S_laws_big_ok : FnOK Tryz.prog 4 S_laws_big := by
 refine at_enter 6 (fun x => ⟨[(0, aF (.u8 5) x.1)], []⟩) Tryz.func4 rfl (by kernel_rfl) (fun x => rfl) ?_
 rintro w0 Z0 ⟨x0, u⟩ a w
 revert x0
 intro (x0 : (List Int)) hpre hlens h
 have hl1 : List.length x0 ≤ 9223372036854775807 := hlens.1.1
 have hu0 : u8L x0 := hlens.1.2
 have hT : TabOK Tryz.prog w0 [] S_laws_big_tab := .nil
 refine wp_seq ?_
 refine at_regq [] { ts := [0, 2], os := [] } [] gamOK hT h (by kernel_rfl) trivial fun a w h => then_normal (wp_seq ?_)
 refine at_regq [] { ts := [2], os := [] } [] gamOK hT h (by kernel_rfl) trivial fun a w h => then_normal (wp_ret ?_)
 exact at_return (decide (((List.length x0 : Nat) : Int) > 1048576), ()) [] h (by kernel_rfl) trivial (congrArg (fun z => (z, ())) (show (decide (((List.length x0 : Nat) : Int) > 1048576)) = bigF x0 from by rfl))
theorem big_f {x : List Int} (h : bigF x = false) : List.length x ≤ 1048576 := by
 have := of_decide_eq_false h; omega

def atF (x0 : (List Int)) (x1 : Int) : Int := (if x1 < ((List.length x0 : Nat) : Int) then (x0.getD ((x1).toNat) 0) else (Int.tmod ((x1 * 31) + (((List.length x0 : Nat) : Int) * 7)) 256))
abbrev Q_laws_at := (fun (x0 : List Int) (x1 : Int) => List.length x0 ≤ 1048576 ∧ (0 ≤ x1 ∧ x1 ≤ 1048576))
def S_laws_at : Sum := { fid := 6, dom := [s22, (.int 3)], cod := [(.int 3)], dp := true, fz := false, pre := fun x => Q_laws_at x.1 x.2.1, g := fun x => ((atF x.1 x.2.1), ()) }
def S_laws_at_tab : List (Nat × Sum) := []
theorem S_laws_at_ok : FnOK Tryz.prog 6 S_laws_at := by
 refine at_enter 21 (fun x => ⟨[(0, aF (.u8 5) x.1), (1, aI x.2.1)], []⟩) Tryz.func6 rfl (by kernel_rfl) (fun x => rfl) ?_
 rintro w0 Z0 ⟨x0, x1, u⟩ a w
 revert x0 x1
 intro (x0 : (List Int)) (x1 : Int) hpre hlens h
 replace hpre : Q_laws_at x0 x1 := hpre
 have hl1 : List.length x0 ≤ 9223372036854775807 := hlens.1.1
 have hu0 : u8L x0 := hlens.1.2
 have hT : TabOK Tryz.prog w0 [] S_laws_at_tab := .nil
 have hpz : List.length x0 ≤ 1048576 ∧ (0 ≤ x1 ∧ x1 ≤ 1048576) := hpre
 refine wp_seq ?_
 refine at_regq [] { ts := [0, 1, 4], os := [] } [] gamOK hT h (by kernel_rfl) trivial fun a w h => then_normal (wp_seq (wp_seq ?_))
 refine at_regq [] { ts := [0, 1, 4, 8], os := [] } [] gamOK hT h (by kernel_rfl) trivial fun a w h => then_normal ?_
 refine at_test (decide (x1 < ((List.length x0 : Nat) : Int))) h (by kernel_rfl) (fun h1 => ?_) (fun h1 => ?_)
 ·replace h1 : x1 < ((List.length x0 : Nat) : Int) := of_decide_eq_true h1
  have hu1 := getD_u8 hu0 x1.toNat
  refine wp_seq ?_
  refine at_regq [{}, {}, {}, {}, { hint := some (aI (x0.getD ((x1).toNat) 0)) }] { ts := [0, 1, 4], os := [] } [(0 : Int) ≤ x1 ∧ x1 < ((List.length x0 : Nat) : Int), (AV.p (.c (.v (.int .i64 (IntKind.i64.wrap ((x0.getD ((x1).toNat) 0)))))) = AV.p (.c (.v (.int .i64 ((x0.getD ((x1).toNat) 0))))))] gamOK hT h (by kernel_rfl) ⟨(by refine ⟨?_, ?_⟩ <;> (first | omega | (simp only [lsA]; omega) | (simp <;> omega))), hint_int (wrap_id ⟨by first | omega | (simp only [lsA]; omega) | (simp <;> omega), by first | omega | (simp only [lsA]; omega) | (simp <;> omega)⟩), trivial⟩ fun a w h => then_normal (wp_ret (then_ret ?_))
  exact at_return ((x0.getD ((x1).toNat) 0), ()) [] h (by kernel_rfl) trivial (congrArg (fun z => (z, ())) (show ((x0.getD ((x1).toNat) 0)) = atF x0 x1 from by first | rfl | (unfold atF; rw [if_pos h1])))
 ·replace h1 : ¬ (x1 < ((List.length x0 : Nat) : Int)) := of_decide_eq_false h1
  have hu1 := getD_u8 hu0 x1.toNat
  refine wp_skip (then_normal (wp_seq ?_))
  refine at_regq [{}, { nw := true }, {}, {}, { nw := true }, { nw := true }] { ts := [4], os := [] } [I64 (x1 * 31), I64 (((List.length x0 : Nat) : Int) * 7), I64 ((x1 * 31) + (((List.length x0 : Nat) : Int) * 7)), (256 : Int) ≠ 0] gamOK hT h (by kernel_rfl) ⟨⟨by first | omega | (simp only [lsA]; omega) | (simp <;> omega), by first | omega | (simp only [lsA]; omega) | (simp <;> omega)⟩, ⟨by first | omega | (simp only [lsA]; omega) | (simp <;> omega), by first | omega | (simp only [lsA]; omega) | (simp <;> omega)⟩, ⟨by first | omega | (simp only [lsA]; omega) | (simp <;> omega), by first | omega | (simp only [lsA]; omega) | (simp <;> omega)⟩, (by first | omega | (simp only [lsA]; omega) | (simp <;> omega)), trivial⟩ fun a w h => then_normal (wp_ret ?_)
  exact at_return ((Int.tmod ((x1 * 31) + (((List.length x0 : Nat) : Int) * 7)) 256), ()) [] h (by kernel_rfl) trivial (congrArg (fun z => (z, ())) (show ((Int.tmod ((x1 * 31) + (((List.length x0 : Nat) : Int) * 7)) 256)) = atF x0 x1 from by first | rfl | (unfold atF; rw [if_neg h1])))
theorem at_bd {x : List Int} (hu : u8L x) {i : Int} (h : 0 ≤ i) : 0 ≤ atF x i ∧ atF x i < 256 := by
 unfold atF; split
 ·exact getD_u8 hu _
 ·exact LA.tmod_lt (by omega) (by decide)

def rowIt (x : T70) : Nat → T70 × List Int
 | 0 => (x, [])
 | i + 1 => ((belowC (rowIt x i).1 256).1, (rowIt x i).2 ++ [(belowC (rowIt x i).1 256).2])
def genIt (x : T70) (n : Nat) : Nat → T70 × List (List Int)
 | 0 => (x, [])
 | i + 1 => ((rowIt (genIt x n i).1 n).1, (genIt x n i).2 ++ [(rowIt (genIt x n i).1 n).2])
theorem rowIt_inv {x : T70} (hx : 0 ≤ x.2.1) : ∀ i, 0 ≤ (rowIt x i).1.2.1 ∧ (rowIt x i).2.length = i ∧ ∀ e ∈ (rowIt x i).2, LA.El e
 | 0 => ⟨hx, rfl, fun e he => by cases he⟩
 | i + 1 => by
  obtain ⟨h1, h2, h3⟩ := rowIt_inv hx i
  have hb := below_bd (rowIt x i).1 (n := 256) (by decide)
  refine ⟨below_ok h1, by simp [rowIt, h2], fun y hy => ?_⟩
  rcases List.mem_append.1 hy with hy | hy
  ·exact h3 y hy
  ·have : y = (belowC (rowIt x i).1 256).2 := by simpa using hy
   rw [this]; unfold LA.El; omega
theorem genIt_inv {x : T70} {n : Nat} (hx : 0 ≤ x.2.1) : ∀ i, 0 ≤ (genIt x n i).1.2.1 ∧ (genIt x n i).2.length = i ∧ ∀ r ∈ (genIt x n i).2, LA.VokB n r
 | 0 => ⟨hx, rfl, fun e he => by cases he⟩
 | i + 1 => by
  obtain ⟨h1, h2, h3⟩ := genIt_inv (n := n) hx i
  have hr := rowIt_inv h1 n
  refine ⟨hr.1, by simp [genIt, h2], fun y hy => ?_⟩
  rcases List.mem_append.1 hy with hy | hy
  ·exact h3 y hy
  ·have : y = (rowIt (genIt x n i).1 n).2 := by simpa using hy
   rw [this]; exact ⟨hr.2.1, hr.2.2⟩
theorem validG_of {a : Int} {m : List (List Int)} {n : Nat} (ha : 0 ≤ a ∧ a ≤ 1000000000000) (h1 : 1 ≤ m.length ∧ m.length ≤ 8) (hn : 1 ≤ n ∧ n ≤ 16) (h2 : ∀ r ∈ m, LA.VokB n r) : validG (a, m) = true ∧ colsOf m = (n : Int) := by
 have h0 : (m.getD 0 []).length = n := (h2 _ (getD_mem (z := []) (show 0 < m.length by omega))).1
 have hc : colsOf m = (n : Int) := by rw [colsOf_at h1.1, h0]
 have hm : validM m = true := by
  unfold validM
  have ha : m.all (fun r => validV r && decide (List.length r = List.length (m.getD 0 []))) = true := List.all_eq_true.2 fun r hr => by
   rw [Bool.and_eq_true]
   exact ⟨validV_of (h2 r hr) (by omega), decide_eq_true (by rw [h0]; exact (h2 r hr).1)⟩
  rw [if_pos ha]
  exact decide_eq_true (by omega)
 refine ⟨?_, hc⟩
 unfold validG
 rw [if_pos (show inR a 0 1000000000000 = true from inR_true ha), if_pos (show inR ((List.length m : Nat) : Int) 1 8 = true from inR_true (by omega)), if_pos hm, hc]
 exact inR_true (by omega)
def genD (x0 : T70) : T70 × T26 := ((genIt (belowC (belowC (belowC x0 5).1 3).1 4).1 (1 + (belowC (belowC x0 5).1 3).2).toNat (1 + (belowC (belowC (belowC x0 5).1 3).1 4).2).toNat).1, ((belowC x0 5).2, (genIt (belowC (belowC (belowC x0 5).1 3).1 4).1 (1 + (belowC (belowC x0 5).1 3).2).toNat (1 + (belowC (belowC (belowC x0 5).1 3).1 4).2).toNat).2))
abbrev Q_spec_l10Gen := (fun (x0 : T70) => 0 ≤ x0.2.1)
def B_spec_l10Gen : BS := { t := 70, s := s70, dom := [], cod := [s26], pre := fun y x => Q_spec_l10Gen y, upd := fun y x => (genD y).1, g := fun y x => ((genD y).2, ()) }
def S_spec_l10Gen : Sum := bSum 31 B_spec_l10Gen
def S_spec_l10Gen_tab : List (Nat × Sum) := [(33, S_spec_l1Below)]
theorem S_spec_l10Gen_ok : FnOK Tryz.prog 31 S_spec_l10Gen := by
 refine at_enterB (B := B_spec_l10Gen) 39 (fun v y x => ⟨[(0, aP 1 0)], [(1, oX 70 [.ro (.u8 5) y.1, cI y.2.1, cI y.2.2]), (2, oP 1 v)]⟩) Tryz.func31 rfl (by kernel_rfl) (fun v y x => rfl) ?_
 rintro w0 Z0 b0 x0 ⟨u⟩ a w
 revert x0
 intro (x0 : T70) hpre hlens0 hlens h
 replace h : At w0 Z0 [b0] 39 ⟨[(0, aP 1 0)], [(1, oX 70 [.ro (.u8 5) x0.1, cI x0.2.1, cI x0.2.2]), (2, oP 1 (Value.pointer (some ⟨b0, 0, none⟩)))]⟩ a w := h
 replace hpre : Q_spec_l10Gen x0 := hpre
 have hl1 : List.length x0.1 ≤ 9223372036854775807 := hlens0.1.1
 have hu0 : u8L x0.1 := hlens0.1.2
 have hT : TabOK Tryz.prog w0 [b0] S_spec_l10Gen_tab := (.cons S_spec_l1Below_ok .nil)
 have hb1 := below_bd x0 (n := 5) (by decide)
 have hb2 := below_bd (belowC x0 5).1 (n := 3) (by decide)
 have hb3 := below_bd (belowC (belowC x0 5).1 3).1 (n := 4) (by decide)
 have hc := below_ok (n := 4) (below_ok (n := 3) (below_ok (n := 5) hpre))
 refine wp_seq ?_
 refine at_regq [{ ids := [3] }] { ts := [0, 2], os := [1, 2, 3] } [] gamOK hT h (by kernel_rfl) trivial fun a w h => then_normal (wp_seq ?_)
 refine at_regq [{}, {}, {}, { ids := [4] }] { ts := [0, 2, 3], os := [1, 2, 3, 4] } [B_spec_l1Below.pre x0 (5, ())] gamOK hT h (by kernel_rfl) ⟨(by exact hpre), trivial⟩ fun a w h => then_normal (wp_seq ?_)
 refine at_regq [{}, {}, { nw := true }] { ts := [0, 2, 3, 4], os := [1, 2, 3, 4] } [B_spec_l1Below.pre (belowC x0 5).1 (3, ()), I64 (1 + (belowC (belowC x0 5).1 3).2)] gamOK hT h (by kernel_rfl) ⟨(by exact (below_ok hpre)), ⟨by first | omega | (simp only [lsA]; omega) | (simp <;> omega), by first | omega | (simp only [lsA]; omega) | (simp <;> omega)⟩, trivial⟩ fun a w h => then_normal (wp_seq (wp_seq ?_))
 refine at_regq [{}, {}, { nw := true }] { ts := [0, 2, 3, 4, 5], os := [1, 2, 3, 4] } [B_spec_l1Below.pre (belowC (belowC x0 5).1 3).1 (4, ()), I64 (1 + (belowC (belowC (belowC x0 5).1 3).1 4).2)] gamOK hT h (by kernel_rfl) ⟨(by exact (below_ok (below_ok hpre))), ⟨by first | omega | (simp only [lsA]; omega) | (simp <;> omega), by first | omega | (simp only [lsA]; omega) | (simp <;> omega)⟩, trivial⟩ fun a w h => then_normal (wp_block ?_)
 replace h := at_out (σ' := ⟨[(0, aP 1 0), (2, aP 3 0), (3, aP 4 0), (4, aI (1 + (belowC (belowC x0 5).1 3).2)), (5, aI (1 + (belowC (belowC (belowC x0 5).1 3).1 4).2))], [(1, oX 70 [.ro (.u8 5) (belowC (belowC (belowC x0 5).1 3).1 4).1.1, cI (belowC (belowC (belowC x0 5).1 3).1 4).1.2.1, cI (belowC (belowC (belowC x0 5).1 3).1 4).1.2.2]), (2, oP 1 (Value.pointer (some ⟨b0, 0, none⟩))), (3, oX 26 [cI 0, cN]), (4, oX 26 [cI (belowC x0 5).2, .sl 5]), (5, oR s27 ([] : List (List Int)))]⟩) { mt := [⟨some 4, 1, 5, true, s27⟩], ts := [0, 2, 3, 4, 5], os := [1, 2, 3, 4, 5] } h (by kernel_rfl)
 refine at_loop (fun i : Nat => (⟨[(0, aP 1 0), (2, aP 3 0), (3, aP 4 0), (4, aI (1 + (belowC (belowC x0 5).1 3).2)), (5, aI ((1 + (belowC (belowC (belowC x0 5).1 3).1 4).2) - ((i : Nat) : Int)))], [(1, oX 70 [.ro (.u8 5) (genIt (belowC (belowC (belowC x0 5).1 3).1 4).1 (1 + (belowC (belowC x0 5).1 3).2).toNat i).1.1, cI (genIt (belowC (belowC (belowC x0 5).1 3).1 4).1 (1 + (belowC (belowC x0 5).1 3).2).toNat i).1.2.1, cI (genIt (belowC (belowC (belowC x0 5).1 3).1 4).1 (1 + (belowC (belowC x0 5).1 3).2).toNat i).1.2.2]), (2, oP 1 (Value.pointer (some ⟨b0, 0, none⟩))), (3, oX 26 [cI 0, cN]), (4, oX 26 [cI (belowC x0 5).2, .sl 5]), (5, oR s27 (genIt (belowC (belowC (belowC x0 5).1 3).1 4).1 (1 + (belowC (belowC x0 5).1 3).2).toNat i).2)]⟩ : St)) (fun i => ((i : Nat) : Int) ≤ (1 + (belowC (belowC (belowC x0 5).1 3).1 4).2)) (fun i => ((1 + (belowC (belowC (belowC x0 5).1 3).1 4).2)).toNat - i) (0) h (st_congr5 (fun (d0 : List Int) (d1 : Int) (d2 : Int) (d3 : List (List Int)) (d4 : Int) => (⟨[(0, aP 1 0), (2, aP 3 0), (3, aP 4 0), (4, aI (1 + (belowC (belowC x0 5).1 3).2)), (5, aI d4)], [(1, oX 70 [.ro (.u8 5) d0, cI d1, cI d2]), (2, oP 1 (Value.pointer (some ⟨b0, 0, none⟩))), (3, oX 26 [cI 0, cN]), (4, oX 26 [cI (belowC x0 5).2, .sl 5]), (5, oR s27 d3)]⟩ : St)) (show ((belowC (belowC (belowC x0 5).1 3).1 4).1.1 : List Int) = (genIt (belowC (belowC (belowC x0 5).1 3).1 4).1 (1 + (belowC (belowC x0 5).1 3).2).toNat (0)).1.1 from by first | with_reducible rfl | (first | rfl | omega) | rfl) (show ((belowC (belowC (belowC x0 5).1 3).1 4).1.2.1 : Int) = (genIt (belowC (belowC (belowC x0 5).1 3).1 4).1 (1 + (belowC (belowC x0 5).1 3).2).toNat (0)).1.2.1 from by first | with_reducible rfl | (first | rfl | omega) | rfl) (show ((belowC (belowC (belowC x0 5).1 3).1 4).1.2.2 : Int) = (genIt (belowC (belowC (belowC x0 5).1 3).1 4).1 (1 + (belowC (belowC x0 5).1 3).2).toNat (0)).1.2.2 from by first | with_reducible rfl | (first | rfl | omega) | rfl) (show (([] : List (List Int)) : List (List Int)) = (genIt (belowC (belowC (belowC x0 5).1 3).1 4).1 (1 + (belowC (belowC x0 5).1 3).2).toNat (0)).2 from by first | with_reducible rfl | (first | rfl | omega) | rfl) (show (1 + (belowC (belowC (belowC x0 5).1 3).1 4).2 : Int) = ((1 + (belowC (belowC (belowC x0 5).1 3).1 4).2) - (((0) : Nat) : Int)) from by first | with_reducible rfl | (first | rfl | omega) | rfl)) (by omega) ?_
 intro i a w hok0 h
 have hgi := genIt_inv (n := (1 + (belowC (belowC x0 5).1 3).2).toNat) hc i
 have hgl := hgi.2.1
 refine wp_seq (wp_seq ?_)
 refine at_regq [] { ts := [0, 2, 3, 4, 5, 18], os := [1, 2, 3, 4, 5] } [] gamOK hT h (by kernel_rfl) trivial fun a w h => then_normal ?_
 refine at_test (decide (((1 + (belowC (belowC (belowC x0 5).1 3).1 4).2) - ((i : Nat) : Int)) > 0)) h (by kernel_rfl) (fun h1 => ?_) (fun h1 => ?_)
 ·replace h1 : ((1 + (belowC (belowC (belowC x0 5).1 3).1 4).2) - ((i : Nat) : Int)) > 0 := of_decide_eq_true h1
  refine wp_skip (then_normal (wp_seq (wp_block (wp_seq ?_))))
  refine at_regq [{ ids := [6] }] { ts := [0, 2, 3, 4, 5, 6], os := [1, 2, 3, 4, 5, 6] } [] gamOK hT h (by kernel_rfl) trivial fun a w h => then_normal (wp_seq (wp_seq ?_))
  refine at_regq [] { ts := [0, 2, 3, 4, 5, 6, 7], os := [1, 2, 3, 4, 5, 6] } [] gamOK hT h (by kernel_rfl) trivial fun a w h => then_normal (wp_block ?_)
  replace h := at_out (σ' := ⟨[(0, aP 1 0), (2, aP 3 0), (3, aP 4 0), (4, aI (1 + (belowC (belowC x0 5).1 3).2)), (5, aI ((1 + (belowC (belowC (belowC x0 5).1 3).1 4).2) - ((i : Nat) : Int))), (6, aS 6), (7, aI 0)], [(1, oX 70 [.ro (.u8 5) (genIt (belowC (belowC (belowC x0 5).1 3).1 4).1 (1 + (belowC (belowC x0 5).1 3).2).toNat i).1.1, cI (genIt (belowC (belowC (belowC x0 5).1 3).1 4).1 (1 + (belowC (belowC x0 5).1 3).2).toNat i).1.2.1, cI (genIt (belowC (belowC (belowC x0 5).1 3).1 4).1 (1 + (belowC (belowC x0 5).1 3).2).toNat i).1.2.2]), (2, oP 1 (Value.pointer (some ⟨b0, 0, none⟩))), (3, oX 26 [cI 0, cN]), (4, oX 26 [cI (belowC x0 5).2, .sl 5]), (5, oR s27 (genIt (belowC (belowC (belowC x0 5).1 3).1 4).1 (1 + (belowC (belowC x0 5).1 3).2).toNat i).2), (6, oR (.int 3) ([] : List Int))]⟩) { ts := [0, 2, 3, 4, 5, 6, 7], os := [1, 2, 3, 4, 5, 6] } h (by kernel_rfl)
  refine at_loop (fun k : Nat => (⟨[(0, aP 1 0), (2, aP 3 0), (3, aP 4 0), (4, aI (1 + (belowC (belowC x0 5).1 3).2)), (5, aI ((1 + (belowC (belowC (belowC x0 5).1 3).1 4).2) - ((i : Nat) : Int))), (6, aS 6), (7, aI ((k : Nat) : Int))], [(1, oX 70 [.ro (.u8 5) (rowIt (genIt (belowC (belowC (belowC x0 5).1 3).1 4).1 (1 + (belowC (belowC x0 5).1 3).2).toNat i).1 k).1.1, cI (rowIt (genIt (belowC (belowC (belowC x0 5).1 3).1 4).1 (1 + (belowC (belowC x0 5).1 3).2).toNat i).1 k).1.2.1, cI (rowIt (genIt (belowC (belowC (belowC x0 5).1 3).1 4).1 (1 + (belowC (belowC x0 5).1 3).2).toNat i).1 k).1.2.2]), (2, oP 1 (Value.pointer (some ⟨b0, 0, none⟩))), (3, oX 26 [cI 0, cN]), (4, oX 26 [cI (belowC x0 5).2, .sl 5]), (5, oR s27 (genIt (belowC (belowC (belowC x0 5).1 3).1 4).1 (1 + (belowC (belowC x0 5).1 3).2).toNat i).2), (6, oR (.int 3) (rowIt (genIt (belowC (belowC (belowC x0 5).1 3).1 4).1 (1 + (belowC (belowC x0 5).1 3).2).toNat i).1 k).2)]⟩ : St)) (fun k => k ≤ (1 + (belowC (belowC x0 5).1 3).2).toNat) (fun k => (1 + (belowC (belowC x0 5).1 3).2).toNat - k) (0) h (st_congr5 (fun (d0 : List Int) (d1 : Int) (d2 : Int) (d3 : List Int) (d4 : Int) => (⟨[(0, aP 1 0), (2, aP 3 0), (3, aP 4 0), (4, aI (1 + (belowC (belowC x0 5).1 3).2)), (5, aI ((1 + (belowC (belowC (belowC x0 5).1 3).1 4).2) - ((i : Nat) : Int))), (6, aS 6), (7, aI d4)], [(1, oX 70 [.ro (.u8 5) d0, cI d1, cI d2]), (2, oP 1 (Value.pointer (some ⟨b0, 0, none⟩))), (3, oX 26 [cI 0, cN]), (4, oX 26 [cI (belowC x0 5).2, .sl 5]), (5, oR s27 (genIt (belowC (belowC (belowC x0 5).1 3).1 4).1 (1 + (belowC (belowC x0 5).1 3).2).toNat i).2), (6, oR (.int 3) d3)]⟩ : St)) (show ((genIt (belowC (belowC (belowC x0 5).1 3).1 4).1 (1 + (belowC (belowC x0 5).1 3).2).toNat i).1.1 : List Int) = (rowIt (genIt (belowC (belowC (belowC x0 5).1 3).1 4).1 (1 + (belowC (belowC x0 5).1 3).2).toNat i).1 (0)).1.1 from by first | with_reducible rfl | (rfl) | rfl) (show ((genIt (belowC (belowC (belowC x0 5).1 3).1 4).1 (1 + (belowC (belowC x0 5).1 3).2).toNat i).1.2.1 : Int) = (rowIt (genIt (belowC (belowC (belowC x0 5).1 3).1 4).1 (1 + (belowC (belowC x0 5).1 3).2).toNat i).1 (0)).1.2.1 from by first | with_reducible rfl | (rfl) | rfl) (show ((genIt (belowC (belowC (belowC x0 5).1 3).1 4).1 (1 + (belowC (belowC x0 5).1 3).2).toNat i).1.2.2 : Int) = (rowIt (genIt (belowC (belowC (belowC x0 5).1 3).1 4).1 (1 + (belowC (belowC x0 5).1 3).2).toNat i).1 (0)).1.2.2 from by first | with_reducible rfl | (rfl) | rfl) (show (([] : List Int) : List Int) = (rowIt (genIt (belowC (belowC (belowC x0 5).1 3).1 4).1 (1 + (belowC (belowC x0 5).1 3).2).toNat i).1 (0)).2 from by first | with_reducible rfl | (rfl) | rfl) (show (0 : Int) = (((0) : Nat) : Int) from by first | with_reducible rfl | (rfl) | rfl)) (by omega) ?_
  intro k a w hok1 h
  have hri := rowIt_inv hgi.1 k
  have hrl := hri.2.1
  refine wp_seq (wp_seq ?_)
  refine at_regq [] { ts := [0, 2, 3, 4, 5, 6, 7, 24], os := [1, 2, 3, 4, 5, 6] } [] gamOK hT h (by kernel_rfl) trivial fun a w h => then_normal ?_
  refine at_test (decide (((k : Nat) : Int) < 1 + (belowC (belowC x0 5).1 3).2)) h (by kernel_rfl) (fun h2 => ?_) (fun h2 => ?_)
  ·replace h2 : ((k : Nat) : Int) < 1 + (belowC (belowC x0 5).1 3).2 := of_decide_eq_true h2
   refine wp_skip (then_normal (wp_seq (wp_block ?_)))
   refine at_regq [{}, {}, {}, { ids := [7] }, { ids := [8] }] { ts := [0, 2, 3, 4, 5, 6, 7], os := [1, 2, 3, 4, 5, 8] } [B_spec_l1Below.pre (rowIt (genIt (belowC (belowC (belowC x0 5).1 3).1 4).1 (1 + (belowC (belowC x0 5).1 3).2).toNat i).1 k).1 (256, ()), (List.length (rowIt (genIt (belowC (belowC (belowC x0 5).1 3).1 4).1 (1 + (belowC (belowC x0 5).1 3).2).toNat i).1 k).2 + List.length ([(belowC (rowIt (genIt (belowC (belowC (belowC x0 5).1 3).1 4).1 (1 + (belowC (belowC x0 5).1 3).2).toNat i).1 k).1 256).2])) * 8 ≤ 140737488355328] gamOK hT h (by kernel_rfl) ⟨(by exact hri.1), (by first | omega | (simp only [lsA]; omega) | (simp <;> omega)), trivial⟩ fun a w h => in_normal (then_normal ?_)
   refine at_regq [{}, { nw := true }] { ts := [0, 2, 3, 4, 5, 6, 7], os := [1, 2, 3, 4, 5, 8] } [I64 (((k : Nat) : Int) + 1)] gamOK hT h (by kernel_rfl) ⟨⟨by first | omega | (simp only [lsA]; omega) | (simp <;> omega), by first | omega | (simp only [lsA]; omega) | (simp <;> omega)⟩, trivial⟩ fun a w h => ?_
   replace h := at_out (σ' := ⟨[(0, aP 1 0), (2, aP 3 0), (3, aP 4 0), (4, aI (1 + (belowC (belowC x0 5).1 3).2)), (5, aI ((1 + (belowC (belowC (belowC x0 5).1 3).1 4).2) - ((i : Nat) : Int))), (6, aS 6), (7, aI (((k : Nat) : Int) + 1))], [(1, oX 70 [.ro (.u8 5) (belowC (rowIt (genIt (belowC (belowC (belowC x0 5).1 3).1 4).1 (1 + (belowC (belowC x0 5).1 3).2).toNat i).1 k).1 256).1.1, cI (belowC (rowIt (genIt (belowC (belowC (belowC x0 5).1 3).1 4).1 (1 + (belowC (belowC x0 5).1 3).2).toNat i).1 k).1 256).1.2.1, cI (belowC (rowIt (genIt (belowC (belowC (belowC x0 5).1 3).1 4).1 (1 + (belowC (belowC x0 5).1 3).2).toNat i).1 k).1 256).1.2.2]), (2, oP 1 (Value.pointer (some ⟨b0, 0, none⟩))), (3, oX 26 [cI 0, cN]), (4, oX 26 [cI (belowC x0 5).2, .sl 5]), (5, oR s27 (genIt (belowC (belowC (belowC x0 5).1 3).1 4).1 (1 + (belowC (belowC x0 5).1 3).2).toNat i).2), (6, oR (.int 3) ((rowIt (genIt (belowC (belowC (belowC x0 5).1 3).1 4).1 (1 + (belowC (belowC x0 5).1 3).2).toNat i).1 k).2 ++ ([(belowC (rowIt (genIt (belowC (belowC (belowC x0 5).1 3).1 4).1 (1 + (belowC (belowC x0 5).1 3).2).toNat i).1 k).1 256).2])))]⟩) { ts := [0, 2, 3, 4, 5, 6, 7], os := [1, 2, 3, 4, 5, 8], rn := [(8, 6)] } h (by kernel_rfl)
   exact ⟨k + 1, at_eq h (st_congr5 (fun (d0 : List Int) (d1 : Int) (d2 : Int) (d3 : List Int) (d4 : Int) => (⟨[(0, aP 1 0), (2, aP 3 0), (3, aP 4 0), (4, aI (1 + (belowC (belowC x0 5).1 3).2)), (5, aI ((1 + (belowC (belowC (belowC x0 5).1 3).1 4).2) - ((i : Nat) : Int))), (6, aS 6), (7, aI d4)], [(1, oX 70 [.ro (.u8 5) d0, cI d1, cI d2]), (2, oP 1 (Value.pointer (some ⟨b0, 0, none⟩))), (3, oX 26 [cI 0, cN]), (4, oX 26 [cI (belowC x0 5).2, .sl 5]), (5, oR s27 (genIt (belowC (belowC (belowC x0 5).1 3).1 4).1 (1 + (belowC (belowC x0 5).1 3).2).toNat i).2), (6, oR (.int 3) d3)]⟩ : St)) (show ((belowC (rowIt (genIt (belowC (belowC (belowC x0 5).1 3).1 4).1 (1 + (belowC (belowC x0 5).1 3).2).toNat i).1 k).1 256).1.1 : List Int) = (rowIt (genIt (belowC (belowC (belowC x0 5).1 3).1 4).1 (1 + (belowC (belowC x0 5).1 3).2).toNat i).1 (k + 1)).1.1 from by first | with_reducible rfl | (rfl) | rfl) (show ((belowC (rowIt (genIt (belowC (belowC (belowC x0 5).1 3).1 4).1 (1 + (belowC (belowC x0 5).1 3).2).toNat i).1 k).1 256).1.2.1 : Int) = (rowIt (genIt (belowC (belowC (belowC x0 5).1 3).1 4).1 (1 + (belowC (belowC x0 5).1 3).2).toNat i).1 (k + 1)).1.2.1 from by first | with_reducible rfl | (rfl) | rfl) (show ((belowC (rowIt (genIt (belowC (belowC (belowC x0 5).1 3).1 4).1 (1 + (belowC (belowC x0 5).1 3).2).toNat i).1 k).1 256).1.2.2 : Int) = (rowIt (genIt (belowC (belowC (belowC x0 5).1 3).1 4).1 (1 + (belowC (belowC x0 5).1 3).2).toNat i).1 (k + 1)).1.2.2 from by first | with_reducible rfl | (rfl) | rfl) (show (((rowIt (genIt (belowC (belowC (belowC x0 5).1 3).1 4).1 (1 + (belowC (belowC x0 5).1 3).2).toNat i).1 k).2 ++ ([(belowC (rowIt (genIt (belowC (belowC (belowC x0 5).1 3).1 4).1 (1 + (belowC (belowC x0 5).1 3).2).toNat i).1 k).1 256).2])) : List Int) = (rowIt (genIt (belowC (belowC (belowC x0 5).1 3).1 4).1 (1 + (belowC (belowC x0 5).1 3).2).toNat i).1 (k + 1)).2 from by first | with_reducible rfl | (rfl) | rfl) (show (((k : Nat) : Int) + 1 : Int) = (((k + 1) : Nat) : Int) from by first | with_reducible rfl | (omega) | rfl)), (by omega), (by omega)⟩
  ·replace h2 : ¬ (((k : Nat) : Int) < 1 + (belowC (belowC x0 5).1 3).2) := of_decide_eq_false h2
   refine wp_exit (then_exit ?_)
   replace h := at_out (σ' := ⟨[(0, aP 1 0), (2, aP 3 0), (3, aP 4 0), (4, aI (1 + (belowC (belowC x0 5).1 3).2)), (5, aI ((1 + (belowC (belowC (belowC x0 5).1 3).1 4).2) - ((i : Nat) : Int))), (6, aS 6)], [(1, oX 70 [.ro (.u8 5) (rowIt (genIt (belowC (belowC (belowC x0 5).1 3).1 4).1 (1 + (belowC (belowC x0 5).1 3).2).toNat i).1 k).1.1, cI (rowIt (genIt (belowC (belowC (belowC x0 5).1 3).1 4).1 (1 + (belowC (belowC x0 5).1 3).2).toNat i).1 k).1.2.1, cI (rowIt (genIt (belowC (belowC (belowC x0 5).1 3).1 4).1 (1 + (belowC (belowC x0 5).1 3).2).toNat i).1 k).1.2.2]), (2, oP 1 (Value.pointer (some ⟨b0, 0, none⟩))), (3, oX 26 [cI 0, cN]), (4, oX 26 [cI (belowC x0 5).2, .sl 5]), (5, oR s27 (genIt (belowC (belowC (belowC x0 5).1 3).1 4).1 (1 + (belowC (belowC x0 5).1 3).2).toNat i).2), (6, oR (.int 3) (rowIt (genIt (belowC (belowC (belowC x0 5).1 3).1 4).1 (1 + (belowC (belowC x0 5).1 3).2).toNat i).1 k).2)]⟩) { ts := [0, 2, 3, 4, 5, 6], os := [1, 2, 3, 4, 5, 6] } h (by kernel_rfl)
   replace h := at_eq (σ' := ⟨[(0, aP 1 0), (2, aP 3 0), (3, aP 4 0), (4, aI (1 + (belowC (belowC x0 5).1 3).2)), (5, aI ((1 + (belowC (belowC (belowC x0 5).1 3).1 4).2) - ((i : Nat) : Int))), (6, aS 6)], [(1, oX 70 [.ro (.u8 5) (rowIt (genIt (belowC (belowC (belowC x0 5).1 3).1 4).1 (1 + (belowC (belowC x0 5).1 3).2).toNat i).1 (1 + (belowC (belowC x0 5).1 3).2).toNat).1.1, cI (rowIt (genIt (belowC (belowC (belowC x0 5).1 3).1 4).1 (1 + (belowC (belowC x0 5).1 3).2).toNat i).1 (1 + (belowC (belowC x0 5).1 3).2).toNat).1.2.1, cI (rowIt (genIt (belowC (belowC (belowC x0 5).1 3).1 4).1 (1 + (belowC (belowC x0 5).1 3).2).toNat i).1 (1 + (belowC (belowC x0 5).1 3).2).toNat).1.2.2]), (2, oP 1 (Value.pointer (some ⟨b0, 0, none⟩))), (3, oX 26 [cI 0, cN]), (4, oX 26 [cI (belowC x0 5).2, .sl 5]), (5, oR s27 (genIt (belowC (belowC (belowC x0 5).1 3).1 4).1 (1 + (belowC (belowC x0 5).1 3).2).toNat i).2), (6, oR (.int 3) (rowIt (genIt (belowC (belowC (belowC x0 5).1 3).1 4).1 (1 + (belowC (belowC x0 5).1 3).2).toNat i).1 (1 + (belowC (belowC x0 5).1 3).2).toNat).2)]⟩) h (st_congr4 (fun (d0 : List Int) (d1 : Int) (d2 : Int) (d3 : List Int) => (⟨[(0, aP 1 0), (2, aP 3 0), (3, aP 4 0), (4, aI (1 + (belowC (belowC x0 5).1 3).2)), (5, aI ((1 + (belowC (belowC (belowC x0 5).1 3).1 4).2) - ((i : Nat) : Int))), (6, aS 6)], [(1, oX 70 [.ro (.u8 5) d0, cI d1, cI d2]), (2, oP 1 (Value.pointer (some ⟨b0, 0, none⟩))), (3, oX 26 [cI 0, cN]), (4, oX 26 [cI (belowC x0 5).2, .sl 5]), (5, oR s27 (genIt (belowC (belowC (belowC x0 5).1 3).1 4).1 (1 + (belowC (belowC x0 5).1 3).2).toNat i).2), (6, oR (.int 3) d3)]⟩ : St)) (show ((rowIt (genIt (belowC (belowC (belowC x0 5).1 3).1 4).1 (1 + (belowC (belowC x0 5).1 3).2).toNat i).1 k).1.1 : List Int) = (rowIt (genIt (belowC (belowC (belowC x0 5).1 3).1 4).1 (1 + (belowC (belowC x0 5).1 3).2).toNat i).1 (1 + (belowC (belowC x0 5).1 3).2).toNat).1.1 from by first | with_reducible rfl | (rw [show (1 + (belowC (belowC x0 5).1 3).2).toNat = k by omega]) | rfl) (show ((rowIt (genIt (belowC (belowC (belowC x0 5).1 3).1 4).1 (1 + (belowC (belowC x0 5).1 3).2).toNat i).1 k).1.2.1 : Int) = (rowIt (genIt (belowC (belowC (belowC x0 5).1 3).1 4).1 (1 + (belowC (belowC x0 5).1 3).2).toNat i).1 (1 + (belowC (belowC x0 5).1 3).2).toNat).1.2.1 from by first | with_reducible rfl | (rw [show (1 + (belowC (belowC x0 5).1 3).2).toNat = k by omega]) | rfl) (show ((rowIt (genIt (belowC (belowC (belowC x0 5).1 3).1 4).1 (1 + (belowC (belowC x0 5).1 3).2).toNat i).1 k).1.2.2 : Int) = (rowIt (genIt (belowC (belowC (belowC x0 5).1 3).1 4).1 (1 + (belowC (belowC x0 5).1 3).2).toNat i).1 (1 + (belowC (belowC x0 5).1 3).2).toNat).1.2.2 from by first | with_reducible rfl | (rw [show (1 + (belowC (belowC x0 5).1 3).2).toNat = k by omega]) | rfl) (show ((rowIt (genIt (belowC (belowC (belowC x0 5).1 3).1 4).1 (1 + (belowC (belowC x0 5).1 3).2).toNat i).1 k).2 : List Int) = (rowIt (genIt (belowC (belowC (belowC x0 5).1 3).1 4).1 (1 + (belowC (belowC x0 5).1 3).2).toNat i).1 (1 + (belowC (belowC x0 5).1 3).2).toNat).2 from by first | with_reducible rfl | (rw [show (1 + (belowC (belowC x0 5).1 3).2).toNat = k by omega]) | rfl))
   refine then_exit (in_hit (then_normal ?_))
   refine at_regq [{}, {}, {}, { ids := [9] }, { ids := [10] }] { ts := [0, 2, 3, 4, 5], os := [1, 2, 3, 4, 10] } [(List.length (genIt (belowC (belowC (belowC x0 5).1 3).1 4).1 (1 + (belowC (belowC x0 5).1 3).2).toNat i).2 + List.length ([(rowIt (genIt (belowC (belowC (belowC x0 5).1 3).1 4).1 (1 + (belowC (belowC x0 5).1 3).2).toNat i).1 (1 + (belowC (belowC x0 5).1 3).2).toNat).2])) * 24 ≤ 140737488355328] gamOK hT h (by kernel_rfl) ⟨(by first | omega | (simp only [lsA]; omega) | (simp <;> omega)), trivial⟩ fun a w h => in_normal (then_normal ?_)
   refine at_regq [{}, { nw := true }] { ts := [0, 2, 3, 4, 5], os := [1, 2, 3, 4, 10] } [I64 (((1 + (belowC (belowC (belowC x0 5).1 3).1 4).2) - ((i : Nat) : Int)) - 1)] gamOK hT h (by kernel_rfl) ⟨⟨by first | omega | (simp only [lsA]; omega) | (simp <;> omega), by first | omega | (simp only [lsA]; omega) | (simp <;> omega)⟩, trivial⟩ fun a w h => ?_
   replace h := at_out (σ' := ⟨[(0, aP 1 0), (2, aP 3 0), (3, aP 4 0), (4, aI (1 + (belowC (belowC x0 5).1 3).2)), (5, aI (((1 + (belowC (belowC (belowC x0 5).1 3).1 4).2) - ((i : Nat) : Int)) - 1))], [(1, oX 70 [.ro (.u8 5) (rowIt (genIt (belowC (belowC (belowC x0 5).1 3).1 4).1 (1 + (belowC (belowC x0 5).1 3).2).toNat i).1 (1 + (belowC (belowC x0 5).1 3).2).toNat).1.1, cI (rowIt (genIt (belowC (belowC (belowC x0 5).1 3).1 4).1 (1 + (belowC (belowC x0 5).1 3).2).toNat i).1 (1 + (belowC (belowC x0 5).1 3).2).toNat).1.2.1, cI (rowIt (genIt (belowC (belowC (belowC x0 5).1 3).1 4).1 (1 + (belowC (belowC x0 5).1 3).2).toNat i).1 (1 + (belowC (belowC x0 5).1 3).2).toNat).1.2.2]), (2, oP 1 (Value.pointer (some ⟨b0, 0, none⟩))), (3, oX 26 [cI 0, cN]), (4, oX 26 [cI (belowC x0 5).2, .sl 5]), (5, oR s27 ((genIt (belowC (belowC (belowC x0 5).1 3).1 4).1 (1 + (belowC (belowC x0 5).1 3).2).toNat i).2 ++ ([(rowIt (genIt (belowC (belowC (belowC x0 5).1 3).1 4).1 (1 + (belowC (belowC x0 5).1 3).2).toNat i).1 (1 + (belowC (belowC x0 5).1 3).2).toNat).2])))]⟩) { ts := [0, 2, 3, 4, 5], os := [1, 2, 3, 4, 10], rn := [(10, 5)] } h (by kernel_rfl)
   exact ⟨i + 1, at_eq h (st_congr5 (fun (d0 : List Int) (d1 : Int) (d2 : Int) (d3 : List (List Int)) (d4 : Int) => (⟨[(0, aP 1 0), (2, aP 3 0), (3, aP 4 0), (4, aI (1 + (belowC (belowC x0 5).1 3).2)), (5, aI d4)], [(1, oX 70 [.ro (.u8 5) d0, cI d1, cI d2]), (2, oP 1 (Value.pointer (some ⟨b0, 0, none⟩))), (3, oX 26 [cI 0, cN]), (4, oX 26 [cI (belowC x0 5).2, .sl 5]), (5, oR s27 d3)]⟩ : St)) (show ((rowIt (genIt (belowC (belowC (belowC x0 5).1 3).1 4).1 (1 + (belowC (belowC x0 5).1 3).2).toNat i).1 (1 + (belowC (belowC x0 5).1 3).2).toNat).1.1 : List Int) = (genIt (belowC (belowC (belowC x0 5).1 3).1 4).1 (1 + (belowC (belowC x0 5).1 3).2).toNat (i + 1)).1.1 from by first | with_reducible rfl | (rfl) | rfl) (show ((rowIt (genIt (belowC (belowC (belowC x0 5).1 3).1 4).1 (1 + (belowC (belowC x0 5).1 3).2).toNat i).1 (1 + (belowC (belowC x0 5).1 3).2).toNat).1.2.1 : Int) = (genIt (belowC (belowC (belowC x0 5).1 3).1 4).1 (1 + (belowC (belowC x0 5).1 3).2).toNat (i + 1)).1.2.1 from by first | with_reducible rfl | (rfl) | rfl) (show ((rowIt (genIt (belowC (belowC (belowC x0 5).1 3).1 4).1 (1 + (belowC (belowC x0 5).1 3).2).toNat i).1 (1 + (belowC (belowC x0 5).1 3).2).toNat).1.2.2 : Int) = (genIt (belowC (belowC (belowC x0 5).1 3).1 4).1 (1 + (belowC (belowC x0 5).1 3).2).toNat (i + 1)).1.2.2 from by first | with_reducible rfl | (rfl) | rfl) (show (((genIt (belowC (belowC (belowC x0 5).1 3).1 4).1 (1 + (belowC (belowC x0 5).1 3).2).toNat i).2 ++ ([(rowIt (genIt (belowC (belowC (belowC x0 5).1 3).1 4).1 (1 + (belowC (belowC x0 5).1 3).2).toNat i).1 (1 + (belowC (belowC x0 5).1 3).2).toNat).2])) : List (List Int)) = (genIt (belowC (belowC (belowC x0 5).1 3).1 4).1 (1 + (belowC (belowC x0 5).1 3).2).toNat (i + 1)).2 from by first | with_reducible rfl | (rfl) | rfl) (show (((1 + (belowC (belowC (belowC x0 5).1 3).1 4).2) - ((i : Nat) : Int)) - 1 : Int) = ((1 + (belowC (belowC (belowC x0 5).1 3).1 4).2) - (((i + 1) : Nat) : Int)) from by first | with_reducible rfl | (omega) | rfl)), (by omega), (by omega)⟩
 ·replace h1 : ¬ (((1 + (belowC (belowC (belowC x0 5).1 3).1 4).2) - ((i : Nat) : Int)) > 0) := of_decide_eq_false h1
  refine wp_exit (then_exit ?_)
  replace h := at_out (σ' := ⟨[(2, aP 3 0), (3, aP 4 0)], [(1, oX 70 [.ro (.u8 5) (genIt (belowC (belowC (belowC x0 5).1 3).1 4).1 (1 + (belowC (belowC x0 5).1 3).2).toNat i).1.1, cI (genIt (belowC (belowC (belowC x0 5).1 3).1 4).1 (1 + (belowC (belowC x0 5).1 3).2).toNat i).1.2.1, cI (genIt (belowC (belowC (belowC x0 5).1 3).1 4).1 (1 + (belowC (belowC x0 5).1 3).2).toNat i).1.2.2]), (2, oP 1 (Value.pointer (some ⟨b0, 0, none⟩))), (3, oX 26 [cI 0, cN]), (4, oX 26 [cI (belowC x0 5).2, .sl 5]), (5, oR s27 (genIt (belowC (belowC (belowC x0 5).1 3).1 4).1 (1 + (belowC (belowC x0 5).1 3).2).toNat i).2)]⟩) { ts := [2, 3], os := [1, 2, 3, 4, 5] } h (by kernel_rfl)
  replace h := at_eq (σ' := ⟨[(2, aP 3 0), (3, aP 4 0)], [(1, oX 70 [.ro (.u8 5) (genIt (belowC (belowC (belowC x0 5).1 3).1 4).1 (1 + (belowC (belowC x0 5).1 3).2).toNat (1 + (belowC (belowC (belowC x0 5).1 3).1 4).2).toNat).1.1, cI (genIt (belowC (belowC (belowC x0 5).1 3).1 4).1 (1 + (belowC (belowC x0 5).1 3).2).toNat (1 + (belowC (belowC (belowC x0 5).1 3).1 4).2).toNat).1.2.1, cI (genIt (belowC (belowC (belowC x0 5).1 3).1 4).1 (1 + (belowC (belowC x0 5).1 3).2).toNat (1 + (belowC (belowC (belowC x0 5).1 3).1 4).2).toNat).1.2.2]), (2, oP 1 (Value.pointer (some ⟨b0, 0, none⟩))), (3, oX 26 [cI 0, cN]), (4, oX 26 [cI (belowC x0 5).2, .sl 5]), (5, oR s27 (genIt (belowC (belowC (belowC x0 5).1 3).1 4).1 (1 + (belowC (belowC x0 5).1 3).2).toNat (1 + (belowC (belowC (belowC x0 5).1 3).1 4).2).toNat).2)]⟩) h (st_congr4 (fun (d0 : List Int) (d1 : Int) (d2 : Int) (d3 : List (List Int)) => (⟨[(2, aP 3 0), (3, aP 4 0)], [(1, oX 70 [.ro (.u8 5) d0, cI d1, cI d2]), (2, oP 1 (Value.pointer (some ⟨b0, 0, none⟩))), (3, oX 26 [cI 0, cN]), (4, oX 26 [cI (belowC x0 5).2, .sl 5]), (5, oR s27 d3)]⟩ : St)) (show ((genIt (belowC (belowC (belowC x0 5).1 3).1 4).1 (1 + (belowC (belowC x0 5).1 3).2).toNat i).1.1 : List Int) = (genIt (belowC (belowC (belowC x0 5).1 3).1 4).1 (1 + (belowC (belowC x0 5).1 3).2).toNat (1 + (belowC (belowC (belowC x0 5).1 3).1 4).2).toNat).1.1 from by first | with_reducible rfl | (rw [show (1 + (belowC (belowC (belowC x0 5).1 3).1 4).2).toNat = i by omega]) | rfl) (show ((genIt (belowC (belowC (belowC x0 5).1 3).1 4).1 (1 + (belowC (belowC x0 5).1 3).2).toNat i).1.2.1 : Int) = (genIt (belowC (belowC (belowC x0 5).1 3).1 4).1 (1 + (belowC (belowC x0 5).1 3).2).toNat (1 + (belowC (belowC (belowC x0 5).1 3).1 4).2).toNat).1.2.1 from by first | with_reducible rfl | (rw [show (1 + (belowC (belowC (belowC x0 5).1 3).1 4).2).toNat = i by omega]) | rfl) (show ((genIt (belowC (belowC (belowC x0 5).1 3).1 4).1 (1 + (belowC (belowC x0 5).1 3).2).toNat i).1.2.2 : Int) = (genIt (belowC (belowC (belowC x0 5).1 3).1 4).1 (1 + (belowC (belowC x0 5).1 3).2).toNat (1 + (belowC (belowC (belowC x0 5).1 3).1 4).2).toNat).1.2.2 from by first | with_reducible rfl | (rw [show (1 + (belowC (belowC (belowC x0 5).1 3).1 4).2).toNat = i by omega]) | rfl) (show ((genIt (belowC (belowC (belowC x0 5).1 3).1 4).1 (1 + (belowC (belowC x0 5).1 3).2).toNat i).2 : List (List Int)) = (genIt (belowC (belowC (belowC x0 5).1 3).1 4).1 (1 + (belowC (belowC x0 5).1 3).2).toNat (1 + (belowC (belowC (belowC x0 5).1 3).1 4).2).toNat).2 from by first | with_reducible rfl | (rw [show (1 + (belowC (belowC (belowC x0 5).1 3).1 4).2).toNat = i by omega]) | rfl))
  refine then_exit (in_hit (then_normal (wp_seq ?_)))
  refine at_regq [] { ts := [2], os := [1, 2, 3, 5] } [] gamOK hT h (by kernel_rfl) trivial fun a w h => then_normal (wp_ret ?_)
  have hr3 : (((genIt (belowC (belowC (belowC x0 5).1 3).1 4).1 (1 + (belowC (belowC x0 5).1 3).2).toNat (1 + (belowC (belowC (belowC x0 5).1 3).1 4).2).toNat).1, ((belowC x0 5).2, (genIt (belowC (belowC (belowC x0 5).1 3).1 4).1 (1 + (belowC (belowC x0 5).1 3).2).toNat (1 + (belowC (belowC (belowC x0 5).1 3).1 4).2).toNat).2)) : T70 × T26) = genD x0 := by rfl
  exact at_returnB (B := B_spec_l10Gen) (c0 := x0) (x := (())) ((genIt (belowC (belowC (belowC x0 5).1 3).1 4).1 (1 + (belowC (belowC x0 5).1 3).2).toNat (1 + (belowC (belowC (belowC x0 5).1 3).1 4).2).toNat).1) (((belowC x0 5).2, (genIt (belowC (belowC (belowC x0 5).1 3).1 4).1 (1 + (belowC (belowC x0 5).1 3).2).toNat (1 + (belowC (belowC (belowC x0 5).1 3).1 4).2).toNat).2), ()) [(Value.pointer (some ⟨b0, 0, none⟩)) = (Value.pointer (some ⟨b0, 0, none⟩))] h (by kernel_rfl) ⟨rfl, trivial⟩ (congrArg (a₁ := ((genIt (belowC (belowC (belowC x0 5).1 3).1 4).1 (1 + (belowC (belowC x0 5).1 3).2).toNat (1 + (belowC (belowC (belowC x0 5).1 3).1 4).2).toNat).1, ((belowC x0 5).2, (genIt (belowC (belowC (belowC x0 5).1 3).1 4).1 (1 + (belowC (belowC x0 5).1 3).2).toNat (1 + (belowC (belowC (belowC x0 5).1 3).1 4).2).toNat).2))) (a₂ := genD x0) (fun (z : T70 × T26) => z.1) hr3) (congrArg (a₁ := ((genIt (belowC (belowC (belowC x0 5).1 3).1 4).1 (1 + (belowC (belowC x0 5).1 3).2).toNat (1 + (belowC (belowC (belowC x0 5).1 3).1 4).2).toNat).1, ((belowC x0 5).2, (genIt (belowC (belowC (belowC x0 5).1 3).1 4).1 (1 + (belowC (belowC x0 5).1 3).2).toNat (1 + (belowC (belowC (belowC x0 5).1 3).1 4).2).toNat).2))) (a₂ := genD x0) (fun (z : T70 × T26) => (z.2, ())) hr3)
theorem genD_ok {x : T70} (h : 0 ≤ x.2.1) : 0 ≤ (genD x).1.2.1 ∧ validG (genD x).2 = true ∧ ((genD x).2.1 ≤ 4 ∧ List.length (genD x).2.2 ≤ 4 ∧ colsOf (genD x).2.2 ≤ 3) := by
 have b1 := below_bd x (n := 5) (by decide)
 have b2 := below_bd (belowC x 5).1 (n := 3) (by decide)
 have b3 := below_bd (belowC (belowC x 5).1 3).1 (n := 4) (by decide)
 have hx := below_ok (n := 4) (below_ok (n := 3) (below_ok (n := 5) h))
 have hi := genIt_inv (n := (1 + (belowC (belowC x 5).1 3).2).toNat) hx (1 + (belowC (belowC (belowC x 5).1 3).1 4).2).toNat
 have hv := validG_of (a := (belowC x 5).2) (n := (1 + (belowC (belowC x 5).1 3).2).toNat) (by omega) (by rw [hi.2.1]; omega) (by omega) hi.2.2
 refine ⟨hi.1, hv.1, by show (belowC x 5).2 ≤ 4; omega, ?_, ?_⟩
 ·show List.length (genIt _ _ _).2 ≤ 4
  rw [hi.2.1]; omega
 ·show colsOf (genIt _ _ _).2 ≤ 3
  rw [hv.2]; omega
theorem validG_fit {g : T26} (h : validG g = true) : Sh.fit s26 g := by
 have h1 := validG_t h
 have hm := validM_t h1.2.2.1
 refine ⟨trivial, by omega, fun r hr => ⟨by have := (hm.2 r hr).2; have := colsOf_at (m := g.2) (by omega); omega, fun _ _ => trivial⟩⟩

def hkTo (s : Int) (n : Nat) : List Int := (List.range n).map fun (j : Nat) => powG 4 (1 + rndN s (300 + (j : Int)) 1018)
theorem hkTo_succ (s : Int) (n : Nat) : hkTo s (n + 1) = hkTo s n ++ [powG 4 (1 + rndN s (300 + (n : Int)) 1018)] := by unfold hkTo; rw [List.range_succ, List.map_append]; rfl
theorem hkTo_len (s : Int) (n : Nat) : (hkTo s n).length = n := by simp [hkTo]
def hkD (s w : Int) : List Int := if inR w 1 16 = true then hkTo s w.toNat else []
theorem hkD_end {s w : Int} {i : Nat} (h : i = 0 ∨ ((i : Int) ≤ w ∧ inR w 1 16 = true)) (he : ¬ (i : Int) < w ∨ inR w 1 16 = false) : hkTo s i = hkD s w := by
 unfold hkD
 cases hi : inR w 1 16 with
 | true =>
  rw [if_pos rfl]
  have hw := inR_t hi
  rcases he with he | he
  ·congr 1; omega
  ·rw [hi] at he; cases he
 | false =>
  rw [if_neg (by decide)]
  rcases h with h | h
  ·subst h; rfl
  ·rw [hi] at h; cases h.2
theorem hkD_len (s w : Int) : (hkD s w).length ≤ 16 := by
 unfold hkD; split
 ·rename_i h; rw [hkTo_len]; have := inR_t h; omega
 ·exact Nat.zero_le _
theorem rnd1018 (s i : Int) : 0 ≤ rndN s i 1018 ∧ rndN s i 1018 ≤ 1017 := by
 have hkb := keyed_bd s ([i, 71])
 have hm := mul_f (keyed s ([i, 71])) (keyed s ([i, 71]))
 have h1 := tmod_f (keyed s ([i, 71]) * keyed s ([i, 71])) 2147483647 (by decide)
 have h2 := tmod_f ((keyed s ([i, 71]) * keyed s ([i, 71])).tmod 2147483647) 1018 (by decide)
 unfold rndN
 rw [if_pos (show inR 1018 1 1000000000000 = true from rfl)]
 omega
theorem isGrp_four : isGrp 4 = true := by decide +kernel
theorem pow4_all : ∀ n : Fin 1018, powD 4 (1 + (n.val : Int)) 2039 ≠ 1 := by decide +kernel
theorem gen_ok (s i : Int) : isGrp (powG 4 (1 + rndN s i 1018)) = true ∧ powG 4 (1 + rndN s i 1018) ≠ 1 := by
 have h := rnd1018 s i
 rw [powG_at isGrp_four (by omega)]
 refine ⟨isGrp_pow isGrp_four (by omega), ?_⟩
 have := pow4_all ⟨(rndN s i 1018).toNat, by omega⟩
 rw [show (((rndN s i 1018).toNat : Nat) : Int) = rndN s i 1018 by omega] at this
 exact this
theorem hkD_ok {s w : Int} (h : 1 ≤ w ∧ w ≤ 16) : validK (hkD s w) = true ∧ ((List.length (hkD s w) : Nat) : Int) = w := by
 have e : hkD s w = hkTo s w.toNat := if_pos (inR_true h)
 rw [e]
 refine ⟨?_, by rw [hkTo_len]; omega⟩
 unfold validK
 have ha : (hkTo s w.toNat).all (fun g => !decide (g = 1) && isGrp g) = true := List.all_eq_true.2 fun g hg => by
  obtain ⟨j, _, rfl⟩ := List.mem_map.1 hg
  have := gen_ok s (300 + (j : Int))
  rw [this.1, decide_eq_false this.2]; rfl
 rw [if_pos ha, hkTo_len]
 exact inR_true (by omega)
def S_spec_NewHashKey : Sum := { fid := 32, dom := [(.int 3), (.int 3)], cod := [s29], dp := true, fz := false, pre := fun x => True, g := fun x => ((hkD x.1 x.2.1), ()) }
def S_spec_NewHashKey_tab : List (Nat × Sum) := [(36, S_spec_l1In), (56, S_spec_RandomNumber), (55, S_spec_PowGroup)]
theorem S_spec_NewHashKey_ok : FnOK Tryz.prog 32 S_spec_NewHashKey := by
 refine at_enter 29 (fun x => ⟨[(0, aI x.1), (1, aI x.2.1)], []⟩) Tryz.func32 rfl (by kernel_rfl) (fun x => rfl) ?_
 rintro w0 Z0 ⟨x0, x1, u⟩ a w
 revert x0 x1
 intro (x0 : Int) (x1 : Int) hpre hlens h
 have hT : TabOK Tryz.prog w0 [] S_spec_NewHashKey_tab := (.cons S_spec_l1In_ok (.cons S_spec_RandomNumber_ok (.cons S_spec_PowGroup_ok .nil)))
 refine wp_seq ?_
 refine at_regq [{ ids := [1] }] { ts := [0, 1, 4], os := [1] } [] gamOK hT h (by kernel_rfl) trivial fun a w h => then_normal (wp_seq ?_)
 refine at_regq [{}, { ids := [2] }] { ts := [0, 1, 4, 5], os := [1, 2] } [] gamOK hT h (by kernel_rfl) trivial fun a w h => then_normal (wp_seq (wp_seq ?_))
 refine at_regq [] { ts := [0, 1, 4, 5, 6], os := [1, 2] } [] gamOK hT h (by kernel_rfl) trivial fun a w h => then_normal (wp_block ?_)
 replace h := at_out (σ' := ⟨[(0, aI x0), (1, aI x1), (4, aP 1 0), (5, aP 2 0), (6, aI 0)], [(1, oX 29 [cN]), (2, oX 29 [.sl 3]), (3, oR (.int 3) ([] : List Int))]⟩) { mt := [⟨some 2, 0, 3, true, (.int 3)⟩], ts := [0, 1, 4, 5, 6], os := [1, 2, 3] } h (by kernel_rfl)
 refine at_loop (fun i : Nat => (⟨[(0, aI x0), (1, aI x1), (4, aP 1 0), (5, aP 2 0), (6, aI ((i : Nat) : Int))], [(1, oX 29 [cN]), (2, oX 29 [.sl 3]), (3, oR (.int 3) (hkTo x0 i))]⟩ : St)) (fun i => (i = 0 ∨ ((i : Int) ≤ x1 ∧ inR x1 1 16 = true))) (fun i => x1.toNat - i) (0) h (st_congr2 (fun (d0 : List Int) (d1 : Int) => (⟨[(0, aI x0), (1, aI x1), (4, aP 1 0), (5, aP 2 0), (6, aI d1)], [(1, oX 29 [cN]), (2, oX 29 [.sl 3]), (3, oR (.int 3) d0)]⟩ : St)) (show (([] : List Int) : List Int) = (hkTo x0 (0)) from by first | with_reducible rfl | (rfl) | rfl) (show (0 : Int) = (((0) : Nat) : Int) from by first | with_reducible rfl | (rfl) | rfl)) (by exact Or.inl rfl) ?_
 intro i a w hok0 h
 have hul := hkTo_len x0 i
 have hi16 : i ≤ 16 := by rcases hok0 with h | h; omega; have := inR_t h.2; omega
 refine wp_seq (wp_seq ?_)
 by_cases h1 : ((i : Nat) : Int) < x1
 ·refine at_regq [{}, {}, { hint := some (aB true) }] { ts := [0, 1, 4, 5, 6, 12, 13, 14], os := [1, 2, 3] } [(AV.p (.c (.v (.bool (decide (((i : Nat) : Int) < x1))))) = AV.p (.c (.v (.bool true)))), True] gamOK hT h (by kernel_rfl) ⟨hint_bool (decide_eq_true h1), trivial, trivial⟩ fun a w h => then_normal ?_
  refine at_test ((inR x1 1 16)) h (by kernel_rfl) (fun h2 => ?_) (fun h2 => ?_)
  ·have hvh2 := inR_t h2
   have hrn := rnd1018 x0 (300 + ((i : Nat) : Int))
   have hiw := inR_t (show inR x1 1 16 = true from by assumption)
   refine wp_skip (then_normal (wp_seq (wp_block ?_)))
   refine at_anyq [{}, {}, {}, {}, { nw := true }, {}, { nw := true }, {}, { ids := [4] }, { ids := [5] }, {}, {}] { ts := [0, 1, 4, 5, 6, 12, 13], os := [1, 2, 5] } [I64 (300 + ((i : Nat) : Int)), True, I64 (1 + (rndN x0 (300 + ((i : Nat) : Int)) 1018)), True, (List.length (hkTo x0 i) + List.length ([(powG 4 (1 + (rndN x0 (300 + ((i : Nat) : Int)) 1018)))])) * 8 ≤ 140737488355328] gamOK hT mixed h (by kernel_rfl) ⟨⟨by first | omega | (simp only [lsA]; omega) | (simp <;> omega), by first | omega | (simp only [lsA]; omega) | (simp <;> omega)⟩, trivial, ⟨by first | omega | (simp only [lsA]; omega) | (simp <;> omega), by first | omega | (simp only [lsA]; omega) | (simp <;> omega)⟩, trivial, (by first | omega | (simp only [lsA]; omega) | (simp <;> omega)), trivial⟩ fun a w h => in_normal (then_normal ?_)
   refine at_regq [{}, { nw := true }] { ts := [0, 1, 4, 5, 6, 12, 13], os := [1, 2, 5] } [I64 (((i : Nat) : Int) + 1)] gamOK hT h (by kernel_rfl) ⟨⟨by first | omega | (simp only [lsA]; omega) | (simp <;> omega), by first | omega | (simp only [lsA]; omega) | (simp <;> omega)⟩, trivial⟩ fun a w h => ?_
   replace h := at_out (σ' := ⟨[(0, aI x0), (1, aI x1), (4, aP 1 0), (5, aP 2 0), (6, aI (((i : Nat) : Int) + 1))], [(1, oX 29 [cN]), (2, oX 29 [.sl 3]), (3, oR (.int 3) ((hkTo x0 i) ++ ([(powG 4 (1 + (rndN x0 (300 + ((i : Nat) : Int)) 1018)))])))]⟩) { ts := [0, 1, 4, 5, 6], os := [1, 2, 5], rn := [(5, 3)] } h (by kernel_rfl)
   exact ⟨i + 1, at_eq h (st_congr2 (fun (d0 : List Int) (d1 : Int) => (⟨[(0, aI x0), (1, aI x1), (4, aP 1 0), (5, aP 2 0), (6, aI d1)], [(1, oX 29 [cN]), (2, oX 29 [.sl 3]), (3, oR (.int 3) d0)]⟩ : St)) (show (((hkTo x0 i) ++ ([(powG 4 (1 + (rndN x0 (300 + ((i : Nat) : Int)) 1018)))])) : List Int) = (hkTo x0 (i + 1)) from by first | with_reducible rfl | ((rw [hkTo_succ])) | rfl) (show (((i : Nat) : Int) + 1 : Int) = (((i + 1) : Nat) : Int) from by first | with_reducible rfl | (omega) | rfl)), (by exact Or.inr ⟨by omega, by assumption⟩), (by omega)⟩
  ·have hvh2 := inR_f h2
   refine wp_exit (then_exit ?_)
   replace h := at_out (σ' := ⟨[(4, aP 1 0), (5, aP 2 0)], [(1, oX 29 [cN]), (2, oX 29 [.sl 3]), (3, oR (.int 3) (hkTo x0 i))]⟩) { ts := [4, 5], os := [1, 2, 3] } h (by kernel_rfl)
   replace h := at_eq (σ' := ⟨[(4, aP 1 0), (5, aP 2 0)], [(1, oX 29 [cN]), (2, oX 29 [.sl 3]), (3, oR (.int 3) (hkD x0 x1))]⟩) h (st_congr1 (fun (d0 : List Int) => (⟨[(4, aP 1 0), (5, aP 2 0)], [(1, oX 29 [cN]), (2, oX 29 [.sl 3]), (3, oR (.int 3) d0)]⟩ : St)) (show ((hkTo x0 i) : List Int) = (hkD x0 x1) from by first | with_reducible rfl | (exact hkD_end hok0 (by first | (left; omega) | (right; assumption))) | rfl))
   refine then_exit (in_hit (then_normal (wp_seq ?_)))
   refine at_regq [] { ts := [4], os := [1, 3] } [] gamOK hT h (by kernel_rfl) trivial fun a w h => then_normal (wp_ret ?_)
   exact at_return ((hkD x0 x1), ()) [] h (by kernel_rfl) trivial (congrArg (fun z => (z, ())) (show ((hkD x0 x1)) = hkD x0 x1 from by rfl))
 ·refine at_regq [{}, {}, { hint := some (aB false) }] { ts := [0, 1, 4, 5, 6, 12, 13, 14], os := [1, 2, 3] } [(AV.p (.c (.v (.bool (decide (((i : Nat) : Int) < x1))))) = AV.p (.c (.v (.bool false))))] gamOK hT h (by kernel_rfl) ⟨hint_bool (decide_eq_false h1), trivial⟩ fun a w h => then_normal ?_
  refine at_test false h (by kernel_rfl) (fun hh => nomatch hh) (fun hh => ?_)
  refine wp_exit (then_exit ?_)
  replace h := at_out (σ' := ⟨[(4, aP 1 0), (5, aP 2 0)], [(1, oX 29 [cN]), (2, oX 29 [.sl 3]), (3, oR (.int 3) (hkTo x0 i))]⟩) { ts := [4, 5], os := [1, 2, 3] } h (by kernel_rfl)
  replace h := at_eq (σ' := ⟨[(4, aP 1 0), (5, aP 2 0)], [(1, oX 29 [cN]), (2, oX 29 [.sl 3]), (3, oR (.int 3) (hkD x0 x1))]⟩) h (st_congr1 (fun (d0 : List Int) => (⟨[(4, aP 1 0), (5, aP 2 0)], [(1, oX 29 [cN]), (2, oX 29 [.sl 3]), (3, oR (.int 3) d0)]⟩ : St)) (show ((hkTo x0 i) : List Int) = (hkD x0 x1) from by first | with_reducible rfl | (exact hkD_end hok0 (by first | (left; omega) | (right; assumption))) | rfl))
  refine then_exit (in_hit (then_normal (wp_seq ?_)))
  refine at_regq [] { ts := [4], os := [1, 3] } [] gamOK hT h (by kernel_rfl) trivial fun a w h => then_normal (wp_ret ?_)
  exact at_return ((hkD x0 x1), ()) [] h (by kernel_rfl) trivial (congrArg (fun z => (z, ())) (show ((hkD x0 x1)) = hkD x0 x1 from by rfl))

theorem mkMan_ok {s src : Int} {k : List Int} {g : T26} (hk : hsOK k g) (hs : 0 ≤ src ∧ src ≤ 7) : validMan (mkMan s src k g) = true := by
 have hg := validG_t hk.2.1
 have hl : List.length (hashSyms k g) = List.length g.2 := by unfold hashSyms; rw [if_pos hk, List.length_map]
 have ha : (hashSyms k g).all isGrp = true := List.all_eq_true.2 fun y hy => by
  unfold hashSyms at hy; rw [if_pos hk] at hy
  obtain ⟨r, hr, rfl⟩ := List.mem_map.1 hy
  have hv := (validM_t hg.2.2.1).2 r hr
  exact hpw_grp (validK_t hk.1).2 (validV_t hv.1).2.2 _ (Nat.le_refl _)
 have hm := manMAC_bd s (src, g.1, ((List.length g.2 : Nat) : Int), colsOf g.2, hashSyms k g, 0)
 have hf : isFmt g.1 ((List.length g.2 : Nat) : Int) (colsOf g.2) = true := by
  unfold isFmt
  rw [if_pos (show inR g.1 0 1000000000000 = true from inR_true hg.1), if_pos (show inR ((List.length g.2 : Nat) : Int) 1 8 = true from inR_true (by omega))]
  exact inR_true hg.2.2.2
 unfold mkMan signMan validMan
 simp only [ha, hf, hl, show inR src 0 7 = true from inR_true hs, if_true]
 first
  | exact inR_true (by omega)
  | (simp only [show inR (manMAC s (src, g.1, ((List.length g.2 : Nat) : Int), colsOf g.2, hashSyms k g, 0)) 0 2147483646 = true from inR_true (by omega)]; simp)
def madeD (x0 : T70) : T70 × T26 × (List Int) × T31 := ((belowC (belowC (belowC (genD x0).1 99).1 5).1 3).1, (genD x0).2, (hkD (belowC (genD x0).1 99).2 (colsOf (genD x0).2.2)), (makeMan (1 + (belowC (belowC (genD x0).1 99).1 5).2) (belowC (belowC (belowC (genD x0).1 99).1 5).1 3).2 (hkD (belowC (genD x0).1 99).2 (colsOf (genD x0).2.2)) (genD x0).2).1)
abbrev Q_spec_l19Made := (fun (x0 : T70) => 0 ≤ x0.2.1)
def B_spec_l19Made : BS := { t := 70, s := s70, dom := [], cod := [s26, s29, s31], pre := fun y x => Q_spec_l19Made y, upd := fun y x => (madeD y).1, g := fun y x => ((madeD y).2.1, ((madeD y).2.2.1, ((madeD y).2.2.2, ()))) }
def S_spec_l19Made : Sum := bSum 18 B_spec_l19Made
def S_spec_l19Made_tab : List (Nat × Sum) := [(31, S_spec_l10Gen), (33, S_spec_l1Below), (34, S_spec_ColumnsOf), (32, S_spec_NewHashKey), (35, S_spec_MakeManifest)]
theorem S_spec_l19Made_ok : FnOK Tryz.prog 18 S_spec_l19Made := by
 refine at_enterB (B := B_spec_l19Made) 31 (fun v y x => ⟨[(0, aP 1 0)], [(1, oX 70 [.ro (.u8 5) y.1, cI y.2.1, cI y.2.2]), (2, oP 1 v)]⟩) Tryz.func18 rfl (by kernel_rfl) (fun v y x => rfl) ?_
 rintro w0 Z0 b0 x0 ⟨u⟩ a w
 revert x0
 intro (x0 : T70) hpre hlens0 hlens h
 replace h : At w0 Z0 [b0] 31 ⟨[(0, aP 1 0)], [(1, oX 70 [.ro (.u8 5) x0.1, cI x0.2.1, cI x0.2.2]), (2, oP 1 (Value.pointer (some ⟨b0, 0, none⟩)))]⟩ a w := h
 replace hpre : Q_spec_l19Made x0 := hpre
 have hl1 : List.length x0.1 ≤ 9223372036854775807 := hlens0.1.1
 have hu0 : u8L x0.1 := hlens0.1.2
 have hT : TabOK Tryz.prog w0 [b0] S_spec_l19Made_tab := (.cons S_spec_l10Gen_ok (.cons S_spec_l1Below_ok (.cons S_spec_ColumnsOf_ok (.cons S_spec_NewHashKey_ok (.cons S_spec_MakeManifest_ok .nil)))))
 have hgo := genD_ok hpre
 have hg1 := hgo.1
 have hgf := validG_fit hgo.2.1
 have hb2 := below_bd (belowC (genD x0).1 99).1 (n := 5) (by decide)
 have hb3 := below_bd (belowC (belowC (genD x0).1 99).1 5).1 (n := 3) (by decide)
 refine wp_seq ?_
 refine at_regq [{ ids := [3] }, { ids := [4] }, { ids := [5] }] { ts := [0, 2, 3, 4], os := [1, 2, 3, 4, 5] } [] gamOK hT h (by kernel_rfl) trivial fun a w h => then_normal (wp_seq ?_)
 refine at_regq [{}, { ids := [6] }, { ids := [7] }] { ts := [0, 2, 3, 4, 5], os := [1, 2, 3, 4, 5, 6, 7] } [B_spec_l10Gen.pre x0 (())] gamOK hT h (by kernel_rfl) ⟨(by exact hpre), trivial⟩ fun a w h => then_normal (wp_seq ?_)
 refine at_anyq [{}, {}, {}, {}, {}, { ids := [8] }, { ids := [9] }, {}] { ts := [0, 2, 3, 4, 5, 6], os := [1, 2, 3, 4, 5, 6, 7, 8, 9] } [B_spec_l1Below.pre (genD x0).1 (99, ()), Q_spec_ColumnsOf (genD x0).2.2, True] gamOK hT mixed h (by kernel_rfl) ⟨(by exact (genD_ok hpre).1), (by exact hgf.2), trivial, trivial⟩ fun a w h => then_normal (wp_seq ?_)
 refine at_anyq [{}, {}, { nw := true }, {}, {}, {}, {}, { ids := [10] }, {}, {}, {}, { ids := [11] }, {}, {}] { ts := [2, 3, 4, 5, 6, 7], os := [1, 2, 3, 4, 5, 6, 7, 8, 9, 10, 11] } [B_spec_l1Below.pre (belowC (genD x0).1 99).1 (5, ()), I64 (1 + (belowC (belowC (genD x0).1 99).1 5).2), B_spec_l1Below.pre (belowC (belowC (genD x0).1 99).1 5).1 (3, ()), Q_spec_MakeManifest (1 + (belowC (belowC (genD x0).1 99).1 5).2) (belowC (belowC (belowC (genD x0).1 99).1 5).1 3).2 (hkD (belowC (genD x0).1 99).2 (colsOf (genD x0).2.2)) (genD x0).2] gamOK hT mixed h (by kernel_rfl) ⟨(by exact (below_ok (genD_ok hpre).1)), ⟨by first | omega | (simp only [lsA]; omega) | (simp <;> omega), by first | omega | (simp only [lsA]; omega) | (simp <;> omega)⟩, (by exact (below_ok (below_ok (genD_ok hpre).1))), (by exact ⟨(Sh.fit_len (t := 27) (s := .int 3) rfl (Nat.le_trans (hkD_len _ _) (by decide))), hgf⟩), trivial⟩ fun a w h => then_normal (wp_seq ?_)
 refine at_anyq [{}, {}, {}, {}, {}, {}] { ts := [2, 3, 4], os := [1, 2, 3, 4, 5, 6, 8, 10] } [] gamOK hT mixed h (by kernel_rfl) trivial fun a w h => then_normal (wp_ret ?_)
 have hr1 : (((belowC (belowC (belowC (genD x0).1 99).1 5).1 3).1, (genD x0).2, (hkD (belowC (genD x0).1 99).2 (colsOf (genD x0).2.2)), (makeMan (1 + (belowC (belowC (genD x0).1 99).1 5).2) (belowC (belowC (belowC (genD x0).1 99).1 5).1 3).2 (hkD (belowC (genD x0).1 99).2 (colsOf (genD x0).2.2)) (genD x0).2).1) : T70 × T26 × (List Int) × T31) = madeD x0 := by rfl
 exact at_returnB (B := B_spec_l19Made) (c0 := x0) (x := (())) ((belowC (belowC (belowC (genD x0).1 99).1 5).1 3).1) ((genD x0).2, ((hkD (belowC (genD x0).1 99).2 (colsOf (genD x0).2.2)), ((makeMan (1 + (belowC (belowC (genD x0).1 99).1 5).2) (belowC (belowC (belowC (genD x0).1 99).1 5).1 3).2 (hkD (belowC (genD x0).1 99).2 (colsOf (genD x0).2.2)) (genD x0).2).1, ()))) [(Value.pointer (some ⟨b0, 0, none⟩)) = (Value.pointer (some ⟨b0, 0, none⟩))] h (by kernel_rfl) ⟨rfl, trivial⟩ (congrArg (a₁ := ((belowC (belowC (belowC (genD x0).1 99).1 5).1 3).1, (genD x0).2, (hkD (belowC (genD x0).1 99).2 (colsOf (genD x0).2.2)), (makeMan (1 + (belowC (belowC (genD x0).1 99).1 5).2) (belowC (belowC (belowC (genD x0).1 99).1 5).1 3).2 (hkD (belowC (genD x0).1 99).2 (colsOf (genD x0).2.2)) (genD x0).2).1)) (a₂ := madeD x0) (fun (z : T70 × T26 × (List Int) × T31) => z.1) hr1) (congrArg (a₁ := ((belowC (belowC (belowC (genD x0).1 99).1 5).1 3).1, (genD x0).2, (hkD (belowC (genD x0).1 99).2 (colsOf (genD x0).2.2)), (makeMan (1 + (belowC (belowC (genD x0).1 99).1 5).2) (belowC (belowC (belowC (genD x0).1 99).1 5).1 3).2 (hkD (belowC (genD x0).1 99).2 (colsOf (genD x0).2.2)) (genD x0).2).1)) (a₂ := madeD x0) (fun (z : T70 × T26 × (List Int) × T31) => (z.2.1, z.2.2.1, z.2.2.2, ())) hr1)
theorem madeD_ok {x : T70} (h : 0 ≤ x.2.1) : 0 ≤ (madeD x).1.2.1 ∧ (validG (madeD x).2.1 = true ∧ (madeD x).2.1.1 ≤ 4 ∧ List.length (madeD x).2.1.2 ≤ 4 ∧ colsOf (madeD x).2.1.2 ≤ 3) ∧ hsOK (madeD x).2.2.1 (madeD x).2.1 ∧ ∃ s src, (isKey s = true ∧ 0 ≤ src ∧ src ≤ 2) ∧ (madeD x).2.2.2 = mkMan s src (madeD x).2.2.1 (madeD x).2.1 := by
 obtain ⟨g1, g2, g3⟩ := genD_ok h
 have b2 := below_bd (belowC (genD x).1 99).1 (n := 5) (by decide)
 have b3 := below_bd (belowC (belowC (genD x).1 99).1 5).1 (n := 3) (by decide)
 have hv := validG_t g2
 have hk := hkD_ok (s := (belowC (genD x).1 99).2) hv.2.2.2
 have hs : hsOK (hkD (belowC (genD x).1 99).2 (colsOf (genD x).2.2)) (genD x).2 := ⟨hk.1, g2, hk.2.symm⟩
 have hky : isKey (1 + (belowC (belowC (genD x).1 99).1 5).2) = true := inR_true (by omega)
 refine ⟨below_ok (below_ok (below_ok g1)), ⟨g2, g3⟩, hs, _, _, ⟨hky, b3.1, by omega⟩, ?_⟩
 show (makeMan _ _ _ _).1 = _
 rw [← makeMan_yes hky (mkMan_ok hs (by omega))]; rfl

def drawS (x0 : (List Int)) : T26 × (List Int) × T31 := ((madeD (newC x0)).2.1, (madeD (newC x0)).2.2.1, (madeD (newC x0)).2.2.2)
abbrev Q_spec_DrawSigned := (fun (x0 : (List Int)) => Sh.fit s22 x0)
def S_spec_DrawSigned : Sum := { fid := 5, dom := [s22], cod := [s26, s29, s31], dp := true, fz := false, pre := fun x => Q_spec_DrawSigned x.1, g := fun x => ((drawS x.1).1, ((drawS x.1).2.1, ((drawS x.1).2.2, ()))) }
def S_spec_DrawSigned_tab : List (Nat × Sum) := [(17, S_spec_l1New), (18, S_spec_l19Made)]
theorem S_spec_DrawSigned_ok : FnOK Tryz.prog 5 S_spec_DrawSigned := by
 refine at_enter 13 (fun x => ⟨[(0, aF (.u8 5) x.1)], []⟩) Tryz.func5 rfl (by kernel_rfl) (fun x => rfl) ?_
 rintro w0 Z0 ⟨x0, u⟩ a w
 revert x0
 intro (x0 : (List Int)) hpre hlens h
 replace hpre : Q_spec_DrawSigned x0 := hpre
 have hu0 : u8L x0 := hlens.1.2
 have hT : TabOK Tryz.prog w0 [] S_spec_DrawSigned_tab := (.cons S_spec_l1New_ok (.cons S_spec_l19Made_ok .nil))
 have hf0 : Sh.fit s22 x0 := hpre
 have hn0_1 : List.length x0 ≤ 1073741824 := hf0.1
 refine wp_seq ?_
 refine at_regq [{ ids := [1] }, { ids := [2] }, { ids := [3] }] { ts := [0, 2, 3, 4], os := [1, 2, 3] } [] gamOK hT h (by kernel_rfl) trivial fun a w h => then_normal (wp_seq ?_)
 refine at_regq [{}, { ids := [4] }] { ts := [2, 3, 4, 5], os := [1, 2, 3, 4] } [B_spec_l1New.pre (x0, ())] gamOK hT h (by kernel_rfl) ⟨(by exact hf0), trivial⟩ fun a w h => then_normal (wp_seq ?_)
 refine at_regq [{}, { ids := [5, 6, 7] }] { ts := [2, 3, 4], os := [1, 2, 3, 5, 6, 7] } [B_spec_l19Made.pre (newC x0) (())] gamOK hT h (by kernel_rfl) ⟨(by exact Int.le_refl 0), trivial⟩ fun a w h => then_normal (wp_ret ?_)
 exact at_return ((madeD (newC x0)).2.1, ((madeD (newC x0)).2.2.1, ((madeD (newC x0)).2.2.2, ()))) [] h (by kernel_rfl) trivial (congrArg (fun z => (z.1, z.2.1, z.2.2, ())) (show (((madeD (newC x0)).2.1, (madeD (newC x0)).2.2.1, (madeD (newC x0)).2.2.2)) = drawS x0 from by rfl))
structure DrawSOK (d : T26 × List Int × T31) : Prop where
 hk : hsOK d.2.1 d.1
 id : 0 ≤ d.1.1 ∧ d.1.1 ≤ 4
 len : 1 ≤ List.length d.1.2 ∧ List.length d.1.2 ≤ 4
 col : 1 ≤ List.length d.2.1 ∧ List.length d.2.1 ≤ 16
 fg : Sh.fit s26 d.1
 fk : Sh.fit s29 d.2.1
 man : ∃ s src, (isKey s = true ∧ 0 ≤ src ∧ src ≤ 2) ∧ d.2.2 = mkMan s src d.2.1 d.1
 fm : Sh.fit s31 d.2.2
theorem drawS_ok (x : List Int) : DrawSOK (drawS x) := by
 obtain ⟨h1, h2, h3, s, src, h4, h5⟩ := madeD_ok (x := newC x) (Int.le_refl 0)
 have hv := validG_t h2.1
 have hk := (validK_t h3.1).1
 have hl := hashSyms_len (k := (madeD (newC x)).2.2.1) (g := (madeD (newC x)).2.1)
 have hm : List.length (madeD (newC x)).2.2.2.2.2.2.2.1 ≤ 8 := by
  rw [h5]; show List.length (hashSyms _ _) ≤ 8; omega
 exact ⟨h3, ⟨hv.1.1, h2.2.1⟩, ⟨hv.2.1.1, h2.2.2.1⟩, hk, validG_fit h2.1, ⟨Nat.le_trans hk.2 (by decide), fun _ _ => trivial⟩, ⟨s, src, h4, h5⟩, ⟨trivial, trivial, trivial, trivial, ⟨Nat.le_trans hm (by decide), fun _ _ => trivial⟩, trivial⟩⟩

def atsL (x : List Int) (o : Int) (n : Nat) : List Int := (List.range n).map fun (j : Nat) => atF x ((j : Int) + o)
theorem atsL_len (x : List Int) (o : Int) (n : Nat) : (atsL x o n).length = n := by simp [atsL]
theorem atsL_at {x : List Int} {o : Int} {n i : Nat} (h : i < n) : (atsL x o n).getD i 0 = atF x ((i : Int) + o) := by rw [getD_of_lt (by rw [atsL_len]; exact h)]; simp [atsL]
theorem atsL_zero (x : List Int) (o : Int) (n : Nat) : List.replicate n (0 : Int) = copyTo 0 (atsL x o n) 0 := by
 have e := copyTo_zero (z := (0 : Int)) (xs := atsL x o n)
 rw [atsL_len] at e; exact e
theorem atsL_set {x : List Int} {o : Int} {n i : Nat} (h : i < n) : (copyTo 0 (atsL x o n) i).set i (atF x ((i : Int) + o)) = copyTo 0 (atsL x o n) (i + 1) := by
 rw [← atsL_at h]; exact copyTo_set (by rw [atsL_len]; exact h)
theorem atsL_ok {x : List Int} (hu : u8L x) {o : Int} (ho : 0 ≤ o) (n : Nat) : LA.VokB n (atsL x o n) := ⟨atsL_len x o n, fun y hy => by
 obtain ⟨j, _, rfl⟩ := List.mem_map.1 hy
 have := at_bd hu (i := (j : Int) + o) (by omega)
 unfold LA.El; omega⟩
def fp (x : GF) : Nat → GF
 | 0 => 1
 | n + 1 => fp x n * x
theorem fp_add (x : GF) (a : Nat) : ∀ b, fp x (a + b) = fp x a * fp x b
 | 0 => by show fp x a = fp x a * 1; grind
 | b + 1 => by show fp x (a + b) * x = fp x a * (fp x b * x); rw [fp_add x a b]; grind
theorem fp_mulx (x y : GF) : ∀ n, fp (x * y) n = fp x n * fp y n
 | 0 => by show (1 : GF) = 1 * 1; decide
 | n + 1 => by show fp (x * y) n * (x * y) = (fp x n * x) * (fp y n * y); rw [fp_mulx x y n]; grind
theorem fp_one : ∀ n, fp 1 n = 1
 | 0 => rfl
 | n + 1 => by show fp 1 n * 1 = 1; rw [fp_one n]; decide
theorem fp_mul (x : GF) (a : Nat) : ∀ b, fp x (a * b) = fp (fp x a) b
 | 0 => rfl
 | b + 1 => by rw [Nat.mul_succ, fp_add, fp_mul x a b]; rfl
theorem fp_mod {x : GF} (h : fp x 1019 = 1) (n : Nat) : fp x (n % 1019) = fp x n := by
 have e : n = 1019 * (n / 1019) + n % 1019 := (Nat.div_add_mod n 1019).symm
 have e2 : fp x n = fp x (1019 * (n / 1019)) * fp x (n % 1019) := by rw [← fp_add, ← e]
 rw [e2, fp_mul, h, fp_one]; grind
theorem gpw_fp : ∀ (f n : Nat) (x : GF), n < 2 ^ f → gpw f x n = fp x n
 | 0, n, x, h => by
  have : n = 0 := by simpa using h
  subst this; rfl
 | f + 1, n, x, h => by
  have ih := gpw_fp f (n / 2) (x * x) (by rw [Nat.pow_succ] at h; omega)
  simp only [gpw]
  rw [ih]
  by_cases h0 : n = 0
  ·subst h0; rfl
  ·have e0 : n.beq 0 = false := by cases n with | zero => exact absurd rfl h0 | succ n => rfl
   rw [e0]; simp only [cond_false]
   have e1 : fp (x * x) (n / 2) = fp x (2 * (n / 2)) := by
    rw [fp_mul]; congr 1
    show x * x = (1 * x) * x; grind
   rw [e1]
   by_cases ho : n % 2 = 1
   ·rw [ho]; simp only [Nat.beq, cond_true]
    have e2 : fp x n = fp x (2 * (n / 2) + 1) := by congr 1; omega
    rw [e2]
    show x * _ = fp x (2 * (n / 2)) * x; grind
   ·have ho' : n % 2 = 0 := by omega
    rw [ho']; simp only [Nat.beq, cond_false]
    have e2 : fp x n = fp x (2 * (n / 2)) := by congr 1; omega
    rw [e2]; grind
theorem fp_grp {x : Int} (h : isGrp x = true) : fp (gc x) 1019 = 1 := by
 rw [← gpw_fp 10 1019 _ (by decide)]; exact (isGrp_iff.1 h).2
def hz (es : List Int) (v : Nat → Nat) : Nat → GF
 | 0 => 1
 | i + 1 => hz es v i * fp (gc (es.getD i 0)) (v i)
theorem hpw_hz {es xs : List Int} (he : ∀ g ∈ es, isGrp g = true) (hx : ∀ j, 0 ≤ xs.getD j 0 ∧ xs.getD j 0 ≤ 1018) : ∀ i, i ≤ es.length → gc (hpw es xs i) = hz es (fun j => (xs.getD j 0).toNat) i
 | 0, _ => rfl
 | i + 1, hi => by
  have ih := hpw_hz he hx i (by omega)
  have h1 := isGrp_t (hpw_grp he hx i (by omega))
  have h2 := hx i
  have h3 := pow_bd (grp_at he i) (n := xs.getD i 0) (by omega)
  simp only [hpw, hz]
  rw [gc_mod (Int.mul_nonneg (by omega) h3.1), gc_mul (by omega) h3.1, ih, pow_gc (grp_at he i) (by omega), gpw_fp 10 _ _ (by omega)]
theorem hz_grp {es : List Int} {v : Nat → Nat} (he : ∀ g ∈ es, isGrp g = true) : ∀ i, i ≤ es.length → fp (hz es v i) 1019 = 1
 | 0, _ => fp_one _
 | i + 1, hi => by
  simp only [hz]
  rw [fp_mulx, hz_grp he i (by omega), ← fp_mul, Nat.mul_comm, fp_mul, fp_grp (he _ (getD_mem (z := 0) (by omega))), fp_one]; decide
theorem hz_congr {es : List Int} {v w : Nat → Nat} : ∀ i, (∀ j, j < i → v j = w j) → hz es v i = hz es w i
 | 0, _ => rfl
 | i + 1, h => by simp only [hz]; rw [hz_congr i (fun j hj => h j (by omega)), h i (by omega)]
theorem hz_null {es : List Int} : ∀ i, hz es (fun _ => 0) i = 1
 | 0 => rfl
 | i + 1 => by simp only [hz]; rw [hz_null i]; show (1 : GF) * 1 = 1; decide
theorem hz_add {es : List Int} {a b : Nat → Nat} {c : Nat} (he : ∀ g ∈ es, isGrp g = true) : ∀ i, i ≤ es.length → hz es (fun j => (a j + c * b j) % 1019) i = hz es a i * fp (hz es b i) c
 | 0, _ => by simp only [hz]; rw [fp_one]; decide
 | i + 1, hi => by
  have ih := hz_add (a := a) (b := b) (c := c) he i (by omega)
  simp only [hz]
  rw [ih, fp_mod (fp_grp (he _ (getD_mem (z := 0) (by omega)))), fp_add, fp_mulx, Nat.mul_comm c, fp_mul]; grind
theorem hz_comb {k cs : List Int} {vs : List (List Int)} {n : Nat} (hk : ∀ g ∈ k, isGrp g = true) (hn : k.length = n) (hv : ∀ j, j < vs.length → LA.VokB n (vs.getD j [])) (h0 : (vs.getD 0 []).length = n) (hc : ∀ j, 0 ≤ cs.getD j 0 ∧ cs.getD j 0 ≤ 1018) : ∀ i, i ≤ vs.length → hz k (fun j => ((combTo vs cs i).getD j 0).toNat) n = hz (vs.map (powsL k)) (fun j => (cs.getD j 0).toNat) i
 | 0, _ => by
  show hz k (fun j => ((combTo vs cs 0).getD j 0).toNat) n = 1
  rw [← hz_null (es := k) n]
  refine hz_congr n fun j hj => ?_
  simp only [combTo]
  rw [List.getD_eq_getElem?_getD, List.getElem?_replicate]
  split <;> rfl
 | i + 1, hi => by
  have ih := hz_comb hk hn hv h0 hc i (by omega)
  have hci := hc i
  have ho := combTo_ok (n := n) (vs := vs) (cs := cs) h0 hc i (fun j hj => hv j (by omega))
  have hvi := hv i (by omega)
  have e1 : hz k (fun j => ((combTo vs cs (i + 1)).getD j 0).toNat) n = hz k (fun j => (((combTo vs cs i).getD j 0).toNat + (cs.getD i 0).toNat * ((vs.getD i []).getD j 0).toNat) % 1019) n := by
   refine hz_congr n fun j hj => ?_
   simp only [combTo]
   rw [LA.addS_at (by rw [ho.1, hvi.1])]
   have g1 := ho.rng j
   have g2 := hvi.rng j
   have g3 := Int.mul_nonneg hci.1 g2.1
   rw [Int.tmod_eq_emod_of_nonneg (by omega), Int.toNat_emod (by omega) (by decide), Int.toNat_add g1.1 g3, Int.toNat_mul hci.1 g2.1]
   rfl
  rw [e1, hz_add hk n (by omega), ih]
  show _ = hz (vs.map (powsL k)) (fun j => (cs.getD j 0).toNat) i * fp (gc ((vs.map (powsL k)).getD i 0)) (cs.getD i 0).toNat
  congr 2
  have e2 : (vs.map (powsL k)).getD i 0 = powsL k (vs.getD i []) := by
   rw [getD_of_lt (by rw [List.length_map]; omega), getD_of_lt (by omega), List.getElem_map]
  rw [e2]; unfold powsL
  rw [hpw_hz hk hvi.rng _ (Nat.le_refl _), hn]
theorem gc_small {x y : Int} (hx : isGrp x = true) (hy : isGrp y = true) (h : gc x = gc y) : x = y := by
 have a := isGrp_t hx; have b := isGrp_t hy
 exact gc_inj (by omega) (by omega) h
theorem hash_comb {k cs : List Int} {vs : List (List Int)} (hk : ∀ g ∈ k, isGrp g = true) (hv : ∀ j, j < vs.length → LA.VokB k.length (vs.getD j [])) (h0 : (vs.getD 0 []).length = k.length) (hc : ∀ j, 0 ≤ cs.getD j 0 ∧ cs.getD j 0 ≤ 1018) : powsL k (combS vs cs) = powsL (vs.map (powsL k)) cs := by
 have hg : ∀ g ∈ vs.map (powsL k), isGrp g = true := fun g h => by
  obtain ⟨r, hr, rfl⟩ := List.mem_map.1 h
  obtain ⟨i, hi, rfl⟩ := List.getElem_of_mem hr
  have := hv i hi
  rw [getD_of_lt hi] at this
  exact hpw_grp hk this.rng _ (Nat.le_refl _)
 have ho := combTo_ok (n := k.length) (vs := vs) (cs := cs) h0 hc vs.length hv
 have e := hz_comb hk rfl hv h0 hc vs.length (Nat.le_refl _)
 have e0 : ∀ es xs : List Int, powsL es xs = hpw es xs es.length := fun _ _ => rfl
 rw [e0 k, e0 (vs.map (powsL k))]
 unfold combS
 refine gc_small (hpw_grp hk ho.rng _ (Nat.le_refl _)) (hpw_grp hg hc _ (Nat.le_refl _)) ?_
 rw [hpw_hz hk ho.rng _ (Nat.le_refl _), hpw_hz hg hc _ (Nat.le_refl _), e, List.length_map]
theorem hz_bump {es : List Int} {v : Nat → Nat} {d x : Nat} (he : ∀ g ∈ es, isGrp g = true) : ∀ i, i ≤ es.length → hz es (fun j => if j = d then (v j + x) % 1019 else v j) i = hz es v i * (if d < i then fp (gc (es.getD d 0)) x else 1)
 | 0, _ => by simp only [hz]; rw [if_neg (by omega)]; decide
 | i + 1, hi => by
  have ih := hz_bump (v := v) (d := d) (x := x) he i (by omega)
  simp only [hz]
  rw [ih]
  by_cases h : i = d
  ·subst h
   rw [if_neg (by omega), if_pos rfl, if_pos (by omega), fp_mod (fp_grp (he _ (getD_mem (z := 0) (by omega)))), fp_add]; grind
  ·rw [if_neg h]
   by_cases h2 : d < i
   ·rw [if_pos h2, if_pos (by omega)]; grind
   ·rw [if_neg h2, if_neg (by omega)]; grind
theorem fp_prime {x : GF} (h : fp x 1019 = 1) {n : Nat} (h0 : 1 ≤ n ∧ n ≤ 1018) (h1 : fp x n = 1) : x = 1 := by
 have hf := LA.fermat (Fin.ofNat 1019 n) (fun e => by have := congrArg Fin.val e; simp [Fin.ofNat] at this; omega)
 generalize LA.pwB 10 (Fin.ofNat 1019 n) 1017 = u at hf
 have h2 := congrArg Fin.val hf
 rw [Fin.val_mul] at h2
 have h3 : (n * u.val) % 1019 = 1 := by
  have : (Fin.ofNat 1019 n).val = n := by show n % 1019 = n; omega
  rw [this] at h2; exact h2
 have h4 : fp x ((n * u.val) % 1019) = 1 := by rw [fp_mod h, fp_mul, h1, fp_one]
 rw [h3] at h4
 have : fp x 1 = x := by show 1 * x = x; grind
 rw [← this]; exact h4
theorem hash_bump {k v : List Int} {d : Nat} {x : Int} (hk : ∀ g ∈ k, isGrp g = true) (h1 : ∀ g ∈ k, g ≠ 1) (hv : LA.VokB k.length v) (hd : d < k.length) (hx : 1 ≤ x ∧ x ≤ 1018) : powsL k (v.set d ((v.getD d 0 + x).tmod 1019)) ≠ powsL k v := by
 intro e
 have hvr := hv.rng
 have hvd := hvr d
 have hb := LA.tmod_lt (show 0 ≤ v.getD d 0 + x by omega) (show (0 : Int) < 1019 by decide)
 have hs : ∀ j, (v.set d ((v.getD d 0 + x).tmod 1019)).getD j 0 = if j = d then (v.getD d 0 + x).tmod 1019 else v.getD j 0 := fun j => by
  rw [List.getD_eq_getElem?_getD, List.getElem?_set]
  by_cases hj : d = j
  ·subst hj; rw [if_pos rfl, if_pos rfl, if_pos (by rw [hv.1]; exact hd)]; rfl
  ·rw [if_neg hj, if_neg (fun e => hj e.symm), List.getD_eq_getElem?_getD]
 have hr : ∀ j, 0 ≤ (v.set d ((v.getD d 0 + x).tmod 1019)).getD j 0 ∧ (v.set d ((v.getD d 0 + x).tmod 1019)).getD j 0 ≤ 1018 := fun j => by
  rw [hs]; split
  ·omega
  ·exact hvr j
 have e1 := congrArg gc e
 unfold powsL at e1
 rw [hpw_hz hk hr _ (Nat.le_refl _), hpw_hz hk hvr _ (Nat.le_refl _)] at e1
 have e2 : hz k (fun j => ((v.set d ((v.getD d 0 + x).tmod 1019)).getD j 0).toNat) k.length = hz k (fun j => if j = d then ((v.getD j 0).toNat + x.toNat) % 1019 else (v.getD j 0).toNat) k.length := hz_congr _ fun j _ => by
  rw [hs]; split
  ·rename_i hj; subst hj
   rw [Int.tmod_eq_emod_of_nonneg (by omega)]; omega
  ·rfl
 rw [e2, hz_bump (v := fun j => (v.getD j 0).toNat) hk k.length (Nat.le_refl _), if_pos hd] at e1
 have hg := hz_grp (v := fun j => (v.getD j 0).toNat) hk k.length (Nat.le_refl _)
 generalize hz k (fun j => (v.getD j 0).toNat) k.length = z at e1 hg
 have hi : fp z 1018 * z = 1 := hg
 have e3 : fp (gc (k.getD d 0)) x.toNat = 1 := by
  have : fp z 1018 * (z * fp (gc (k.getD d 0)) x.toNat) = fp z 1018 * z := by rw [e1]
  rw [hi] at this
  have h2 : fp z 1018 * (z * fp (gc (k.getD d 0)) x.toNat) = (fp z 1018 * z) * fp (gc (k.getD d 0)) x.toNat := by grind
  rw [h2, hi] at this
  have h3 : (1 : GF) * fp (gc (k.getD d 0)) x.toNat = fp (gc (k.getD d 0)) x.toNat := by grind
  rw [h3] at this; exact this
 have hm := getD_mem (z := (0 : Int)) hd
 have h4 := fp_prime (fp_grp (hk _ hm)) (n := x.toNat) (by omega) e3
 exact h1 _ hm (gc_small (hk _ hm) isGrp_one h4)
theorem hsOK_rows {k : List Int} {g : T26} (h : hsOK k g) : (∀ j, j < g.2.length → LA.VokB k.length (g.2.getD j [])) ∧ (g.2.getD 0 []).length = k.length := by
 have h1 := validG_t h.2.1
 have h2 := validM_ok h1.2.2.1
 have h3 := colsOf_at (m := g.2) (by omega)
 have h4 := h.2.2
 have h5 : (g.2.getD 0 []).length = k.length := by omega
 refine ⟨fun j hj => ?_, h5⟩
 have := h2 _ (LA.getD_in hj)
 rwa [h5] at this
theorem verH_iff {k cs y : List Int} {g : T26} {a : Int} (h : hsOK k g) (hc : LA.VokB g.2.length cs) (hy : LA.VokB k.length y) : verH k (hashSyms k g) (a, cs, y) = true ↔ powsL k y = powsL k (combS g.2 cs) := by
 have hk := validK_t h.1
 have h1 := validG_t h.2.1
 obtain ⟨hr, h0⟩ := hsOK_rows h
 have e1 : hashV k y = powsL k y := by
  unfold hashV
  rw [if_pos h.1, if_pos (validV_of hy (by omega)), if_pos (by have := hy.1; omega)]
 have e2 : hashSyms k g = g.2.map (powsL k) := by
  unfold hashSyms; rw [if_pos h]
 have hg : (hashSyms k g).all isGrp = true := List.all_eq_true.2 fun z hz => by
  rw [e2] at hz
  obtain ⟨r, hr', rfl⟩ := List.mem_map.1 hz
  obtain ⟨i, hi, rfl⟩ := List.getElem_of_mem hr'
  have := hr i hi
  rw [getD_of_lt hi] at this
  exact hpw_grp hk.2 this.rng _ (Nat.le_refl _)
 have e3 : combH (hashSyms k g) cs = powsL k (combS g.2 cs) := by
  unfold combH
  rw [if_pos ⟨validV_of hc (by omega), by rw [e2, List.length_map, hc.1], hg⟩, hash_comb hk.2 hr h0 hc.rng, e2]
 have hy1 : isGrp (powsL k y) = true := hpw_grp hk.2 hy.rng _ (Nat.le_refl _)
 have hy2 := isGrp_t hy1
 unfold verH
 simp only [e1, e3]
 rw [if_neg (by omega), decide_eq_true_iff]
theorem chk_at {s src a : Int} {k cs y : List Int} {g : T26} (h : hsOK k g) (hs : 0 ≤ src ∧ src ≤ 7) (hc : LA.VokB g.2.length cs) (hy : LA.VokB k.length y) (ha : 0 ≤ a ∧ a ≤ 1000000000000) : checkP k (mkMan s src k g) (a, cs, y) = if a = g.1 then (if verH k (hashSyms k g) (a, cs, y) = true then 0 else 3) else 2 := by
 have hk := validK_t h.1
 have h1 := validG_t h.2.1
 have hf : isFmt a ((List.length g.2 : Nat) : Int) (colsOf g.2) = true := by
  unfold isFmt
  rw [if_pos (show inR a 0 1000000000000 = true from inR_true ha), if_pos (show inR ((List.length g.2 : Nat) : Int) 1 8 = true from inR_true (by omega))]
  exact inR_true h1.2.2.2
 have hv : validP (a, cs, y) ((List.length g.2 : Nat) : Int) (colsOf g.2) = true := validP_of ⟨hf, by show ((List.length cs : Nat) : Int) = _; rw [hc.1], by show ((List.length y : Nat) : Int) = _; rw [hy.1]; exact h.2.2.symm, validV_of hc (by omega), validV_of hy (by omega)⟩
 unfold checkP
 rw [if_pos (mkMan_ok h hs), if_pos h.1, if_pos (show (mkMan s src k g).2.2.2.1 = _ from h.2.2), if_pos (show validP (a, cs, y) (mkMan s src k g).2.2.1 (mkMan s src k g).2.2.2.1 = true from hv)]
 rfl
theorem combS_len {k cs : List Int} {g : T26} (h : hsOK k g) (hc : LA.VokB g.2.length cs) : LA.VokB k.length (combS g.2 cs) := by
 obtain ⟨hr, h0⟩ := hsOK_rows h
 exact combTo_ok h0 hc.rng g.2.length hr
theorem chk_code {s src : Int} {k cs : List Int} {g : T26} (h : hsOK k g) (hs : 0 ≤ src ∧ src ≤ 7) (hc : LA.VokB g.2.length cs) : checkP k (mkMan s src k g) (g.1, cs, combS g.2 cs) = 0 := by
 have h1 := validG_t h.2.1
 rw [chk_at h hs hc (combS_len h hc) (by omega), if_pos rfl, if_pos ((verH_iff h hc (combS_len h hc)).2 rfl)]
theorem validK_one {k : List Int} (h : validK k = true) : ∀ g ∈ k, g ≠ 1 := fun g hg e => by
 unfold validK at h
 split at h
 ·rename_i ha
  have := List.all_eq_true.1 ha g hg
  rw [e] at this
  exact absurd this (by simp)
 ·cases h
theorem chk_bump {s src x : Int} {k cs : List Int} {g : T26} {d : Nat} (h : hsOK k g) (hs : 0 ≤ src ∧ src ≤ 7) (hc : LA.VokB g.2.length cs) (hd : d < k.length) (hx : 1 ≤ x ∧ x ≤ 1018) : checkP k (mkMan s src k g) (g.1, cs, (combS g.2 cs).set d (((combS g.2 cs).getD d 0 + x).tmod 1019)) = 3 := by
 have h1 := validG_t h.2.1
 have hv := combS_len h hc
 have hvd := hv.rng d
 have hb := LA.El.mod (show 0 ≤ (combS g.2 cs).getD d 0 + x by omega)
 have hy : LA.VokB k.length ((combS g.2 cs).set d (((combS g.2 cs).getD d 0 + x).tmod 1019)) := ⟨by rw [List.length_set]; exact hv.1, fun z hz => by
  rcases List.mem_or_eq_of_mem_set hz with hz | hz
  ·exact hv.2 z hz
  ·rw [hz]; exact hb⟩
 rw [chk_at h hs hc hy (by omega), if_pos rfl, if_neg]
 intro e
 exact hash_bump (validK_t h.1).2 (validK_one h.1) hv hd hx ((verH_iff h hc hy).1 e)
def S_laws_sameInts : Sum := { fid := 11, dom := [s27, s27], cod := [(.bool 4)], dp := true, fz := false, pre := fun x => True, g := fun x => (((Sh.eqB s27) x.1 x.2.1), ()) }
def S_laws_sameInts_tab : List (Nat × Sum) := []
theorem S_laws_sameInts_ok : FnOK Tryz.prog 11 S_laws_sameInts := by
 refine at_enter 26 (fun x => ⟨[(0, aF (.int 3) x.1), (1, aF (.int 3) x.2.1)], []⟩) Tryz.func11 rfl (by kernel_rfl) (fun x => rfl) ?_
 rintro w0 Z0 ⟨x0, x1, u⟩ a w
 revert x0 x1
 intro (x0 : (List Int)) (x1 : (List Int)) hpre hlens h
 have hl1 : List.length x0 ≤ 9223372036854775807 := hlens.1.1
 have hl2 : List.length x1 ≤ 9223372036854775807 := hlens.2.1.1
 have hT : TabOK Tryz.prog w0 [] S_laws_sameInts_tab := .nil
 refine wp_seq ?_
 refine at_regq [] { ts := [0, 1, 4], os := [] } [] gamOK hT h (by kernel_rfl) trivial fun a w h => then_normal (wp_seq (wp_seq ?_))
 refine at_regq [] { ts := [0, 1, 4, 10], os := [] } [] gamOK hT h (by kernel_rfl) trivial fun a w h => then_normal ?_
 refine at_test (!decide (((List.length x0 : Nat) : Int) = ((List.length x1 : Nat) : Int))) h (by kernel_rfl) (fun h1 => ?_) (fun h1 => ?_)
 ·replace h1 : ¬ (((List.length x0 : Nat) : Int) = ((List.length x1 : Nat) : Int)) := of_decide_eq_false (notT h1)
  refine wp_seq ?_
  refine at_regq [] { ts := [0, 1, 4], os := [] } [] gamOK hT h (by kernel_rfl) trivial fun a w h => then_normal (wp_ret (then_ret ?_))
  exact at_return (false, ()) [] h (by kernel_rfl) trivial (congrArg (fun z => (z, ())) (show (false) = (Sh.eqB s27) x0 x1 from by exact (Sh.eqB_ne (fun e => h1 (by rw [e]))).symm))
 ·replace h1 : ((List.length x0 : Nat) : Int) = ((List.length x1 : Nat) : Int) := of_decide_eq_true (notF h1)
  refine wp_skip (then_normal (wp_seq (wp_seq ?_)))
  refine at_regq [] { ts := [0, 1, 4, 5], os := [] } [] gamOK hT h (by kernel_rfl) trivial fun a w h => then_normal (wp_block ?_)
  replace h := at_out (σ' := ⟨[(0, aF (.int 3) x0), (1, aF (.int 3) x1), (4, aB false), (5, aI 0)], []⟩) { ts := [0, 1, 4, 5], os := [] } h (by kernel_rfl)
  refine at_loop (fun i : Nat => (⟨[(0, aF (.int 3) x0), (1, aF (.int 3) x1), (4, aB false), (5, aI ((i : Nat) : Int))], []⟩ : St)) (fun i => (i ≤ List.length x0 ∧ x0.take i = x1.take i)) (fun i => List.length x0 - i) (0) h (st_congr1 (fun (d0 : Int) => (⟨[(0, aF (.int 3) x0), (1, aF (.int 3) x1), (4, aB false), (5, aI d0)], []⟩ : St)) (show (0 : Int) = (((0) : Nat) : Int) from by first | with_reducible rfl | (rfl) | rfl)) (by exact ⟨Nat.zero_le _, rfl⟩) ?_
  intro i a w hok0 h
  refine wp_seq (wp_seq ?_)
  refine at_regq [] { ts := [0, 1, 4, 5, 14], os := [] } [] gamOK hT h (by kernel_rfl) trivial fun a w h => then_normal ?_
  refine at_test (decide (((i : Nat) : Int) < ((List.length x0 : Nat) : Int))) h (by kernel_rfl) (fun h2 => ?_) (fun h2 => ?_)
  ·replace h2 : ((i : Nat) : Int) < ((List.length x0 : Nat) : Int) := of_decide_eq_true h2
   refine wp_skip (then_normal (wp_seq (wp_block (wp_seq ?_))))
   refine at_anyq [{}, {}, {}, {}, {}, {}, {}, {}, {}] { ts := [0, 1, 4, 5, 25], os := [] } [(0 : Int) ≤ ((i : Nat) : Int) ∧ ((i : Nat) : Int) < ((List.length x0 : Nat) : Int), (0 : Int) ≤ ((i : Nat) : Int) ∧ ((i : Nat) : Int) < ((List.length x1 : Nat) : Int)] gamOK hT mixed h (by kernel_rfl) ⟨(by refine ⟨?_, ?_⟩ <;> (first | omega | (simp only [lsA]; omega) | (simp <;> omega))), (by refine ⟨?_, ?_⟩ <;> (first | omega | (simp only [lsA]; omega) | (simp <;> omega))), trivial⟩ fun a w h => then_normal ?_
   refine at_test (!decide ((x0.getD i 0) = (x1.getD i 0))) h (by kernel_rfl) (fun h3 => ?_) (fun h3 => ?_)
   ·replace h3 : ¬ ((x0.getD i 0) = (x1.getD i 0)) := of_decide_eq_false (notT h3)
    refine wp_seq ?_
    refine at_regq [] { ts := [0, 1, 4, 5], os := [] } [] gamOK hT h (by kernel_rfl) trivial fun a w h => then_normal (wp_ret (in_ret (then_ret (then_ret (in_ret (then_ret ?_))))))
    exact at_return (false, ()) [] h (by kernel_rfl) trivial (congrArg (fun z => (z, ())) (show (false) = (Sh.eqB s27) x0 x1 from by exact (Sh.eqB_ne (s := s27) (fun e => h3 (by rw [e]))).symm))
   ·replace h3 : (x0.getD i 0) = (x1.getD i 0) := of_decide_eq_true (notF h3)
    refine wp_skip (in_normal (then_normal ?_))
    refine at_regq [{}, { nw := true }] { ts := [0, 1, 4, 5], os := [] } [I64 (((i : Nat) : Int) + 1)] gamOK hT h (by kernel_rfl) ⟨⟨by first | omega | (simp only [lsA]; omega) | (simp <;> omega), by first | omega | (simp only [lsA]; omega) | (simp <;> omega)⟩, trivial⟩ fun a w h => ?_
    replace h := at_out (σ' := ⟨[(0, aF (.int 3) x0), (1, aF (.int 3) x1), (4, aB false), (5, aI (((i : Nat) : Int) + 1))], []⟩) { ts := [0, 1, 4, 5], os := [] } h (by kernel_rfl)
    exact ⟨i + 1, at_eq h (st_congr1 (fun (d0 : Int) => (⟨[(0, aF (.int 3) x0), (1, aF (.int 3) x1), (4, aB false), (5, aI d0)], []⟩ : St)) (show (((i : Nat) : Int) + 1 : Int) = (((i + 1) : Nat) : Int) from by first | with_reducible rfl | (omega) | rfl)), (by exact ⟨by omega, eqTo_step (z := 0) (by omega) (by omega) hok0.2 h3⟩), (by omega)⟩
  ·replace h2 : ¬ (((i : Nat) : Int) < ((List.length x0 : Nat) : Int)) := of_decide_eq_false h2
   refine wp_exit (then_exit (then_exit (in_hit (then_normal (wp_seq ?_)))))
   refine at_regq [] { ts := [4], os := [] } [] gamOK hT h (by kernel_rfl) trivial fun a w h => then_normal (wp_ret ?_)
   exact at_return (true, ()) [] h (by kernel_rfl) trivial (congrArg (fun z => (z, ())) (show (true) = (Sh.eqB s27) x0 x1 from by (have e := hok0.2; rw [take_all (by omega), take_all (by omega)] at e; exact ((Sh.eqB_iff s27).2 e).symm)))

def S_maps_Keys_map_int_bool_int_bool_ : Sum := { fid := 26, dom := [], cod := [], dp := true, pre := fun _ => True, g := fun _ => (), prim := some (keysM 60 51) }
theorem S_maps_Keys_map_int_bool_int_bool__ok : FnOK Tryz.prog 26 S_maps_Keys_map_int_bool_int_bool_ := keys_ok fun b W => callsIn_wide.1 (AnyZI.keys_in Tryz.keysA Fence.wide 5 trivial rfl (some b) W)

theorem sortsA (m : Nat) : AnyZI.SortsIn Tryz.prog Tryz.sortedA_ren Fence.wide m :=
  ⟨fun blk off cap ss W hH hblk hsz => callsIn_wide.2 (AnyM.slices_Sort_int Tryz.sortA blk off cap ss W hH hblk hsz),
   fun p cap W => callsIn_wide.2 (AnyM.slices_Sort_int_none Tryz.sortA p cap W)⟩
def S_slices_Sorted_int_ : Sum := { fid := 25, dom := [], cod := [], dp := true, pre := fun _ => True, g := fun _ => (), prim := some (sortedM 3 51) }
set_option maxHeartbeats 1000000 in
theorem S_slices_Sorted_int__ok : FnOK Tryz.prog 25 S_slices_Sorted_int_ := sorted_ok Tryz.underlying3 fun W Bm b nn D0 R hc hb hown hmax hbytes => by
  have hseq : SeqGives Fence.wide 2 Tryz.prog 51 #[.pointer (some ⟨Bm, 0, none⟩)] encZ (fun ss => ss.Perm (intKeys D0)) (Maps.size D0) W :=
    AnyZI.keys_gives (ρ := Tryz.keysA_ren) { Tryz.keysA with } Fence.wide _ trivial rfl (by omega) Bm b nn D0 _ hb hc hown
  have cS := AnyZI.sorted_in Tryz.sortedA Fence.wide 5 trivial trivial trivial trivial rfl (by omega) (sortsA _) (enters_of Tryz.func50 (by kernel_rfl) rfl) 51 #[.pointer (some ⟨Bm, 0, none⟩)] trivial (enters_of Tryz.func51 (by kernel_rfl) rfl) _ _ hmax hbytes _ hseq
  exact callsIn_wide.1 cS

theorem mset_len (es : List (Int × Int)) (n v : Int) : (mset es n v).length ≤ es.length + 1 := by
 unfold mset; split
 ·rw [List.length_set]; omega
 ·simp
def susTo (ms : Int) (k : (List Int)) (m : T31) (l : List T40) : Nat → List (Int × Int)
 | 0 => []
 | i + 1 => if isProof ms k m (l.getD i (0, (0, (0, ((0, ([], [])), 0))))) = true then mset (susTo ms k m l i) (l.getD i (0, (0, (0, ((0, ([], [])), 0))))).1 1 else susTo ms k m l i
def susL (ms : Int) (k : (List Int)) (m : T31) (l : List T40) : List Int := sortK (susTo ms k m l (List.length l))
theorem susTo_len (ms : Int) (k : (List Int)) (m : T31) (l : List T40) : ∀ i, (susTo ms k m l i).length ≤ i
 | 0 => Nat.le_refl _
 | i + 1 => by
  have h1 := susTo_len ms k m l i
  simp only [susTo]
  split
  ·have := mset_len (susTo ms k m l i) (l.getD i (0, (0, (0, ((0, ([], [])), 0))))).1 1; omega
  ·omega
theorem sus_y {ms : Int} {k : (List Int)} {m : T31} {l : List T40} {i : Nat} (h : isProof ms k m (l.getD i (0, (0, (0, ((0, ([], [])), 0))))) = true) : mset (susTo ms k m l i) (l.getD i (0, (0, (0, ((0, ([], [])), 0))))).1 1 = susTo ms k m l (i + 1) := by simp only [susTo]; rw [if_pos h]
theorem sus_n {ms : Int} {k : (List Int)} {m : T31} {l : List T40} {i : Nat} (h : isProof ms k m (l.getD i (0, (0, (0, ((0, ([], [])), 0))))) = false) : susTo ms k m l i = susTo ms k m l (i + 1) := by simp only [susTo]; rw [if_neg (by rw [h]; decide)]
def fpTo (ms : Int) (k : (List Int)) (m : T31) (l : List T40) : Nat → Int
 | 0 => -1
 | i + 1 => if isProof ms k m (l.getD i (0, (0, (0, ((0, ([], [])), 0))))) = true ∧ (fpTo ms k m l i < 0 ∨ (l.getD i (0, (0, (0, ((0, ([], [])), 0))))).2.2.1 < (l.getD (fpTo ms k m l i).toNat (0, (0, (0, ((0, ([], [])), 0))))).2.2.1) then (i : Int) else fpTo ms k m l i
theorem fpTo_bd (ms : Int) (k : (List Int)) (m : T31) (l : List T40) : ∀ i, -1 ≤ fpTo ms k m l i ∧ fpTo ms k m l i < (i : Int)
 | 0 => by simp only [fpTo]; omega
 | i + 1 => by have := fpTo_bd ms k m l i; simp only [fpTo]; split <;> omega
theorem fp_y {ms : Int} {k : (List Int)} {m : T31} {l : List T40} {i : Nat} (h : isProof ms k m (l.getD i (0, (0, (0, ((0, ([], [])), 0))))) = true) (h2 : fpTo ms k m l i < 0 ∨ (l.getD i (0, (0, (0, ((0, ([], [])), 0))))).2.2.1 < (l.getD (fpTo ms k m l i).toNat (0, (0, (0, ((0, ([], [])), 0))))).2.2.1) : (i : Int) = fpTo ms k m l (i + 1) := by simp only [fpTo]; rw [if_pos ⟨h, h2⟩]
theorem fp_n {ms : Int} {k : (List Int)} {m : T31} {l : List T40} {i : Nat} (h : isProof ms k m (l.getD i (0, (0, (0, ((0, ([], [])), 0))))) = false ∨ ¬ fpTo ms k m l i < 0 ∧ ¬ (l.getD i (0, (0, (0, ((0, ([], [])), 0))))).2.2.1 < (l.getD (fpTo ms k m l i).toNat (0, (0, (0, ((0, ([], [])), 0))))).2.2.1) : fpTo ms k m l i = fpTo ms k m l (i + 1) := by
 simp only [fpTo]
 rw [if_neg]
 rintro ⟨h1, h2⟩
 rcases h with h | h
 ·rw [h] at h1; cases h1
 ·rcases h2 with h2 | h2
  ·exact h.1 h2
  ·exact h.2 h2
def fpL (ms : Int) (k : (List Int)) (m : T31) (l : List T40) : Int := if fpTo ms k m l (List.length l) < 0 then -1 else (l.getD (fpTo ms k m l (List.length l)).toNat (0, (0, (0, ((0, ([], [])), 0))))).1
abbrev Q_impl_FirstPolluter := (fun (x0 : Int) (x1 : (List Int)) (x2 : T31) (x3 : (List T40)) => Sh.fit s29 x1 ∧ Sh.fit s31 x2 ∧ Sh.fit s42 x3)
def S_impl_FirstPolluter : Sum := { fid := 13, dom := [(.int 3), s29, s31, s42], cod := [(.int 3)], dp := true, fz := false, pre := fun x => Q_impl_FirstPolluter x.1 x.2.1 x.2.2.1 x.2.2.2.1, g := fun x => ((fpL x.1 x.2.1 x.2.2.1 x.2.2.2.1), ()) }
def S_impl_FirstPolluter_tab : List (Nat × Sum) := [(10, S_impl_IsProof)]
theorem S_impl_FirstPolluter_ok : FnOK Tryz.prog 13 S_impl_FirstPolluter := by
 refine at_enter 47 (fun x => ⟨[(0, aI x.1), (1, aG [.ro (.int 3) x.2.1]), (2, aG [cI x.2.2.1.1, cI x.2.2.1.2.1, cI x.2.2.1.2.2.1, cI x.2.2.1.2.2.2.1, .ro (.int 3) x.2.2.1.2.2.2.2.1, cI x.2.2.1.2.2.2.2.2]), (3, aF s40 x.2.2.2.1)], []⟩) Tryz.func13 rfl (by kernel_rfl) (fun x => rfl) ?_
 rintro w0 Z0 ⟨x0, x1, x2, x3, u⟩ a w
 revert x0 x1 x2 x3
 intro (x0 : Int) (x1 : (List Int)) (x2 : T31) (x3 : (List T40)) hpre hlens h
 replace hpre : Q_impl_FirstPolluter x0 x1 x2 x3 := hpre
 have hT : TabOK Tryz.prog w0 [] S_impl_FirstPolluter_tab := (.cons S_impl_IsProof_ok .nil)
 obtain ⟨hf1, hf2, hf3⟩ := hpre
 have hn1_1 : List.length x1 ≤ 1073741824 := hf1.1
 have hn2_2 : List.length x2.2.2.2.2.1 ≤ 1073741824 := hf2.2.2.2.2.1.1
 have hn3_3 : List.length x3 ≤ 1073741824 := hf3.1
 have hfe := fpTo_bd x0 x1 x2 x3 (List.length x3)
 refine wp_seq ?_
 refine at_regq [{ ids := [1] }, { ids := [2] }] { ts := [0, 3, 5, 6, 8], os := [1, 2] } [] gamOK hT h (by kernel_rfl) trivial fun a w h => then_normal (wp_seq ?_)
 refine at_regq [] { ts := [0, 3, 5, 6, 8, 9], os := [1, 2] } [] gamOK hT h (by kernel_rfl) trivial fun a w h => then_normal (wp_seq (wp_seq ?_))
 refine at_regq [] { ts := [0, 3, 5, 6, 8, 9, 12, 13, 14], os := [1, 2] } [] gamOK hT h (by kernel_rfl) trivial fun a w h => then_normal (wp_block ?_)
 replace h := at_out (σ' := ⟨[(0, aI x0), (3, aF s40 x3), (5, aP 1 0), (6, aP 2 0), (8, aI 0), (9, aI (-1)), (12, aF s40 x3), (13, aI ((List.length x3 : Nat) : Int)), (14, aI 0)], [(1, oX 29 [.ro (.int 3) x1]), (2, oX 31 [cI x2.1, cI x2.2.1, cI x2.2.2.1, cI x2.2.2.2.1, .ro (.int 3) x2.2.2.2.2.1, cI x2.2.2.2.2.2])]⟩) { ts := [0, 3, 5, 6, 8, 9, 12, 13, 14], os := [1, 2] } h (by kernel_rfl)
 refine at_loop (fun i : Nat => (⟨[(0, aI x0), (3, aF s40 x3), (5, aP 1 0), (6, aP 2 0), (8, aI 0), (9, aI (fpTo x0 x1 x2 x3 i)), (12, aF s40 x3), (13, aI ((List.length x3 : Nat) : Int)), (14, aI ((i : Nat) : Int))], [(1, oX 29 [.ro (.int 3) x1]), (2, oX 31 [cI x2.1, cI x2.2.1, cI x2.2.2.1, cI x2.2.2.2.1, .ro (.int 3) x2.2.2.2.2.1, cI x2.2.2.2.2.2])]⟩ : St)) (fun i => i ≤ List.length x3) (fun i => List.length x3 - i) (0) h (st_congr2 (fun (d0 : Int) (d1 : Int) => (⟨[(0, aI x0), (3, aF s40 x3), (5, aP 1 0), (6, aP 2 0), (8, aI 0), (9, aI d0), (12, aF s40 x3), (13, aI ((List.length x3 : Nat) : Int)), (14, aI d1)], [(1, oX 29 [.ro (.int 3) x1]), (2, oX 31 [cI x2.1, cI x2.2.1, cI x2.2.2.1, cI x2.2.2.2.1, .ro (.int 3) x2.2.2.2.2.1, cI x2.2.2.2.2.2])]⟩ : St)) (show ((-1) : Int) = (fpTo x0 x1 x2 x3 (0)) from by first | with_reducible rfl | (rfl) | rfl) (show (0 : Int) = (((0) : Nat) : Int) from by first | with_reducible rfl | (rfl) | rfl)) (by omega) ?_
 intro i a w hok0 h
 have hfb := fpTo_bd x0 x1 x2 x3 i
 refine wp_seq ?_
 refine at_regq [] { ts := [0, 3, 5, 6, 8, 9, 12, 13, 14, 15], os := [1, 2] } [] gamOK hT h (by kernel_rfl) trivial fun a w h => then_normal (wp_seq ?_)
 refine at_test (decide (((i : Nat) : Int) < ((List.length x3 : Nat) : Int))) h (by kernel_rfl) (fun h1 => ?_) (fun h1 => ?_)
 ·replace h1 : ((i : Nat) : Int) < ((List.length x3 : Nat) : Int) := of_decide_eq_true h1
  refine wp_skip (then_normal (wp_seq (wp_block (wp_seq ?_))))
  refine at_regq [{}, {}, {}, { ids := [3] }] { ts := [0, 3, 5, 6, 8, 9, 10, 11, 12, 13, 14], os := [1, 2, 3] } [(0 : Int) ≤ ((i : Nat) : Int) ∧ ((i : Nat) : Int) < ((List.length x3 : Nat) : Int)] gamOK hT h (by kernel_rfl) ⟨(by refine ⟨?_, ?_⟩ <;> (first | omega | (simp only [lsA]; omega) | (simp <;> omega))), trivial⟩ fun a w h => then_normal (wp_seq ?_)
  rcases Bool.eq_false_or_eq_true ((isProof x0 x1 x2 (x3.getD i (0, (0, (0, ((0, ([], [])), 0))))))) with h2 | h2
  ·by_cases h3 : (fpTo x0 x1 x2 x3 i) < 0
   ·refine at_anyq [{}, {}, {}, {}, { hint := some (aB true) }, {}, {}, { hint := some (aB true) }, {}, {}, {}, {}, {}, {}, {}, {}, {}, {}, {}] { ts := [0, 3, 5, 6, 8, 9, 10, 12, 13, 14, 25, 26, 27, 28, 29, 30, 31, 32, 33, 34, 35, 36, 37], os := [1, 2] } [Q_impl_IsProof x0 x1 x2 (x3.getD i (0, (0, (0, ((0, ([], [])), 0))))), (AV.p (.c (.v (.bool ((isProof x0 x1 x2 (x3.getD i (0, (0, (0, ((0, ([], [])), 0)))))))))) = AV.p (.c (.v (.bool true)))), (AV.p (.c (.v (.bool (decide ((fpTo x0 x1 x2 x3 i) < 0))))) = AV.p (.c (.v (.bool true))))] gamOK hT mixed h (by kernel_rfl) ⟨(by exact ⟨hf1, hf2, Sh.fit_getD hf3 i⟩), hint_bool (h2), hint_bool (decide_eq_true h3), trivial⟩ fun a w h => then_normal ?_
    refine at_test true h (by kernel_rfl) (fun hh => ?_) (fun hh => nomatch hh)
    refine at_regq [] { ts := [0, 3, 5, 6, 8, 9, 12, 13, 14, 25, 26, 27, 28, 29, 30, 31, 32, 33, 34, 35, 36], os := [1, 2] } [] gamOK hT h (by kernel_rfl) trivial fun a w h => in_normal (then_normal ?_)
    refine at_regq [{ nw := true }] { ts := [0, 3, 5, 6, 8, 9, 12, 13, 14, 25, 26, 27, 28, 29, 30, 31, 32, 33, 34, 35, 36], os := [1, 2] } [I64 (((i : Nat) : Int) + 1)] gamOK hT h (by kernel_rfl) ⟨⟨by first | omega | (simp only [lsA]; omega) | (simp <;> omega), by first | omega | (simp only [lsA]; omega) | (simp <;> omega)⟩, trivial⟩ fun a w h => ?_
    replace h := at_out (σ' := ⟨[(0, aI x0), (3, aF s40 x3), (5, aP 1 0), (6, aP 2 0), (8, aI 0), (9, aI ((i : Nat) : Int)), (12, aF s40 x3), (13, aI ((List.length x3 : Nat) : Int)), (14, aI (((i : Nat) : Int) + 1))], [(1, oX 29 [.ro (.int 3) x1]), (2, oX 31 [cI x2.1, cI x2.2.1, cI x2.2.2.1, cI x2.2.2.2.1, .ro (.int 3) x2.2.2.2.2.1, cI x2.2.2.2.2.2])]⟩) { ts := [0, 3, 5, 6, 8, 9, 12, 13, 14], os := [1, 2] } h (by kernel_rfl)
    exact ⟨i + 1, at_eq h (st_congr2 (fun (d0 : Int) (d1 : Int) => (⟨[(0, aI x0), (3, aF s40 x3), (5, aP 1 0), (6, aP 2 0), (8, aI 0), (9, aI d0), (12, aF s40 x3), (13, aI ((List.length x3 : Nat) : Int)), (14, aI d1)], [(1, oX 29 [.ro (.int 3) x1]), (2, oX 31 [cI x2.1, cI x2.2.1, cI x2.2.2.1, cI x2.2.2.2.1, .ro (.int 3) x2.2.2.2.2.1, cI x2.2.2.2.2.2])]⟩ : St)) (show (((i : Nat) : Int) : Int) = (fpTo x0 x1 x2 x3 (i + 1)) from by first | with_reducible rfl | (first | exact fp_y (by assumption) (by omega) | exact fp_n (by first | (left; assumption) | (right; omega))) | rfl) (show (((i : Nat) : Int) + 1 : Int) = (((i + 1) : Nat) : Int) from by first | with_reducible rfl | (omega) | rfl)), (by omega), (by omega)⟩
   ·refine at_anyq [{}, {}, {}, {}, { hint := some (aB true) }, {}, {}, { hint := some (aB false) }, {}, {}, {}, {}, {}, {}, {}, {}, {}, {}, {}] { ts := [0, 3, 5, 6, 8, 9, 10, 12, 13, 14, 25, 26, 27, 28, 29, 30, 31, 32, 33, 34, 35, 36, 37], os := [1, 2, 3] } [Q_impl_IsProof x0 x1 x2 (x3.getD i (0, (0, (0, ((0, ([], [])), 0))))), (AV.p (.c (.v (.bool ((isProof x0 x1 x2 (x3.getD i (0, (0, (0, ((0, ([], [])), 0)))))))))) = AV.p (.c (.v (.bool true)))), (AV.p (.c (.v (.bool (decide ((fpTo x0 x1 x2 x3 i) < 0))))) = AV.p (.c (.v (.bool false)))), (0 : Int) ≤ (fpTo x0 x1 x2 x3 i) ∧ (fpTo x0 x1 x2 x3 i) < ((List.length x3 : Nat) : Int)] gamOK hT mixed h (by kernel_rfl) ⟨(by exact ⟨hf1, hf2, Sh.fit_getD hf3 i⟩), hint_bool (h2), hint_bool (decide_eq_false h3), (by refine ⟨?_, ?_⟩ <;> (first | omega | (simp only [lsA]; omega) | (simp <;> omega))), trivial⟩ fun a w h => then_normal ?_
    refine at_test (decide ((x3.getD i (0, (0, (0, ((0, ([], [])), 0))))).2.2.1 < (x3.getD (((fpTo x0 x1 x2 x3 i)).toNat) (0, (0, (0, ((0, ([], [])), 0))))).2.2.1)) h (by kernel_rfl) (fun h4 => ?_) (fun h4 => ?_)
    ·replace h4 : (x3.getD i (0, (0, (0, ((0, ([], [])), 0))))).2.2.1 < (x3.getD (((fpTo x0 x1 x2 x3 i)).toNat) (0, (0, (0, ((0, ([], [])), 0))))).2.2.1 := of_decide_eq_true h4
     refine at_regq [] { ts := [0, 3, 5, 6, 8, 9, 12, 13, 14, 25, 26, 27, 28, 29, 30, 31, 32, 33, 34, 35, 36], os := [1, 2, 3] } [] gamOK hT h (by kernel_rfl) trivial fun a w h => in_normal (then_normal ?_)
     refine at_regq [{ nw := true }] { ts := [0, 3, 5, 6, 8, 9, 12, 13, 14, 25, 26, 27, 28, 29, 30, 31, 32, 33, 34, 35, 36], os := [1, 2, 3] } [I64 (((i : Nat) : Int) + 1)] gamOK hT h (by kernel_rfl) ⟨⟨by first | omega | (simp only [lsA]; omega) | (simp <;> omega), by first | omega | (simp only [lsA]; omega) | (simp <;> omega)⟩, trivial⟩ fun a w h => ?_
     replace h := at_out (σ' := ⟨[(0, aI x0), (3, aF s40 x3), (5, aP 1 0), (6, aP 2 0), (8, aI 0), (9, aI ((i : Nat) : Int)), (12, aF s40 x3), (13, aI ((List.length x3 : Nat) : Int)), (14, aI (((i : Nat) : Int) + 1))], [(1, oX 29 [.ro (.int 3) x1]), (2, oX 31 [cI x2.1, cI x2.2.1, cI x2.2.2.1, cI x2.2.2.2.1, .ro (.int 3) x2.2.2.2.2.1, cI x2.2.2.2.2.2])]⟩) { ts := [0, 3, 5, 6, 8, 9, 12, 13, 14], os := [1, 2] } h (by kernel_rfl)
     exact ⟨i + 1, at_eq h (st_congr2 (fun (d0 : Int) (d1 : Int) => (⟨[(0, aI x0), (3, aF s40 x3), (5, aP 1 0), (6, aP 2 0), (8, aI 0), (9, aI d0), (12, aF s40 x3), (13, aI ((List.length x3 : Nat) : Int)), (14, aI d1)], [(1, oX 29 [.ro (.int 3) x1]), (2, oX 31 [cI x2.1, cI x2.2.1, cI x2.2.2.1, cI x2.2.2.2.1, .ro (.int 3) x2.2.2.2.2.1, cI x2.2.2.2.2.2])]⟩ : St)) (show (((i : Nat) : Int) : Int) = (fpTo x0 x1 x2 x3 (i + 1)) from by first | with_reducible rfl | (first | exact fp_y (by assumption) (by omega) | exact fp_n (by first | (left; assumption) | (right; omega))) | rfl) (show (((i : Nat) : Int) + 1 : Int) = (((i + 1) : Nat) : Int) from by first | with_reducible rfl | (omega) | rfl)), (by omega), (by omega)⟩
    ·replace h4 : ¬ ((x3.getD i (0, (0, (0, ((0, ([], [])), 0))))).2.2.1 < (x3.getD (((fpTo x0 x1 x2 x3 i)).toNat) (0, (0, (0, ((0, ([], [])), 0))))).2.2.1) := of_decide_eq_false h4
     refine wp_skip (in_normal (then_normal ?_))
     refine at_regq [{ nw := true }] { ts := [0, 3, 5, 6, 8, 9, 12, 13, 14, 25, 26, 27, 28, 29, 30, 31, 32, 33, 34, 35, 36], os := [1, 2, 3] } [I64 (((i : Nat) : Int) + 1)] gamOK hT h (by kernel_rfl) ⟨⟨by first | omega | (simp only [lsA]; omega) | (simp <;> omega), by first | omega | (simp only [lsA]; omega) | (simp <;> omega)⟩, trivial⟩ fun a w h => ?_
     replace h := at_out (σ' := ⟨[(0, aI x0), (3, aF s40 x3), (5, aP 1 0), (6, aP 2 0), (8, aI 0), (9, aI (fpTo x0 x1 x2 x3 i)), (12, aF s40 x3), (13, aI ((List.length x3 : Nat) : Int)), (14, aI (((i : Nat) : Int) + 1))], [(1, oX 29 [.ro (.int 3) x1]), (2, oX 31 [cI x2.1, cI x2.2.1, cI x2.2.2.1, cI x2.2.2.2.1, .ro (.int 3) x2.2.2.2.2.1, cI x2.2.2.2.2.2])]⟩) { ts := [0, 3, 5, 6, 8, 9, 12, 13, 14], os := [1, 2] } h (by kernel_rfl)
     exact ⟨i + 1, at_eq h (st_congr2 (fun (d0 : Int) (d1 : Int) => (⟨[(0, aI x0), (3, aF s40 x3), (5, aP 1 0), (6, aP 2 0), (8, aI 0), (9, aI d0), (12, aF s40 x3), (13, aI ((List.length x3 : Nat) : Int)), (14, aI d1)], [(1, oX 29 [.ro (.int 3) x1]), (2, oX 31 [cI x2.1, cI x2.2.1, cI x2.2.2.1, cI x2.2.2.2.1, .ro (.int 3) x2.2.2.2.2.1, cI x2.2.2.2.2.2])]⟩ : St)) (show ((fpTo x0 x1 x2 x3 i) : Int) = (fpTo x0 x1 x2 x3 (i + 1)) from by first | with_reducible rfl | (first | exact fp_y (by assumption) (by omega) | exact fp_n (by first | (left; assumption) | (right; omega))) | rfl) (show (((i : Nat) : Int) + 1 : Int) = (((i + 1) : Nat) : Int) from by first | with_reducible rfl | (omega) | rfl)), (by omega), (by omega)⟩
  ·refine at_anyq [{}, {}, {}, {}, { hint := some (aB false) }, {}, {}, {}, {}, {}, {}, {}, {}, {}, {}, {}, {}, {}, {}] { ts := [0, 3, 5, 6, 8, 9, 10, 12, 13, 14, 25, 26, 27, 28, 29, 30, 31, 32, 33, 34, 35, 36, 37], os := [1, 2] } [Q_impl_IsProof x0 x1 x2 (x3.getD i (0, (0, (0, ((0, ([], [])), 0))))), (AV.p (.c (.v (.bool ((isProof x0 x1 x2 (x3.getD i (0, (0, (0, ((0, ([], [])), 0)))))))))) = AV.p (.c (.v (.bool false))))] gamOK hT mixed h (by kernel_rfl) ⟨(by exact ⟨hf1, hf2, Sh.fit_getD hf3 i⟩), hint_bool (h2), trivial⟩ fun a w h => then_normal ?_
   refine at_test false h (by kernel_rfl) (fun hh => nomatch hh) (fun hh => ?_)
   refine wp_skip (in_normal (then_normal ?_))
   refine at_regq [{ nw := true }] { ts := [0, 3, 5, 6, 8, 9, 12, 13, 14, 25, 26, 27, 28, 29, 30, 31, 32, 33, 34, 35, 36], os := [1, 2] } [I64 (((i : Nat) : Int) + 1)] gamOK hT h (by kernel_rfl) ⟨⟨by first | omega | (simp only [lsA]; omega) | (simp <;> omega), by first | omega | (simp only [lsA]; omega) | (simp <;> omega)⟩, trivial⟩ fun a w h => ?_
   replace h := at_out (σ' := ⟨[(0, aI x0), (3, aF s40 x3), (5, aP 1 0), (6, aP 2 0), (8, aI 0), (9, aI (fpTo x0 x1 x2 x3 i)), (12, aF s40 x3), (13, aI ((List.length x3 : Nat) : Int)), (14, aI (((i : Nat) : Int) + 1))], [(1, oX 29 [.ro (.int 3) x1]), (2, oX 31 [cI x2.1, cI x2.2.1, cI x2.2.2.1, cI x2.2.2.2.1, .ro (.int 3) x2.2.2.2.2.1, cI x2.2.2.2.2.2])]⟩) { ts := [0, 3, 5, 6, 8, 9, 12, 13, 14], os := [1, 2] } h (by kernel_rfl)
   exact ⟨i + 1, at_eq h (st_congr2 (fun (d0 : Int) (d1 : Int) => (⟨[(0, aI x0), (3, aF s40 x3), (5, aP 1 0), (6, aP 2 0), (8, aI 0), (9, aI d0), (12, aF s40 x3), (13, aI ((List.length x3 : Nat) : Int)), (14, aI d1)], [(1, oX 29 [.ro (.int 3) x1]), (2, oX 31 [cI x2.1, cI x2.2.1, cI x2.2.2.1, cI x2.2.2.2.1, .ro (.int 3) x2.2.2.2.2.1, cI x2.2.2.2.2.2])]⟩ : St)) (show ((fpTo x0 x1 x2 x3 i) : Int) = (fpTo x0 x1 x2 x3 (i + 1)) from by first | with_reducible rfl | (first | exact fp_y (by assumption) (by omega) | exact fp_n (by first | (left; assumption) | (right; omega))) | rfl) (show (((i : Nat) : Int) + 1 : Int) = (((i + 1) : Nat) : Int) from by first | with_reducible rfl | (omega) | rfl)), (by omega), (by omega)⟩
 ·replace h1 : ¬ (((i : Nat) : Int) < ((List.length x3 : Nat) : Int)) := of_decide_eq_false h1
  refine wp_exit (then_exit ?_)
  replace h := at_out (σ' := ⟨[(3, aF s40 x3), (8, aI 0), (9, aI (fpTo x0 x1 x2 x3 i))], []⟩) { ts := [3, 8, 9], os := [] } h (by kernel_rfl)
  replace h := at_eq (σ' := ⟨[(3, aF s40 x3), (8, aI 0), (9, aI (fpTo x0 x1 x2 x3 (List.length x3)))], []⟩) h (st_congr1 (fun (d0 : Int) => (⟨[(3, aF s40 x3), (8, aI 0), (9, aI d0)], []⟩ : St)) (show ((fpTo x0 x1 x2 x3 i) : Int) = (fpTo x0 x1 x2 x3 (List.length x3)) from by first | with_reducible rfl | (rw [show List.length x3 = i by omega]) | rfl))
  refine then_exit (in_hit (then_normal (wp_seq (wp_seq ?_))))
  refine at_regq [] { ts := [3, 8, 9, 41], os := [] } [] gamOK hT h (by kernel_rfl) trivial fun a w h => then_normal ?_
  refine at_test (decide ((fpTo x0 x1 x2 x3 (List.length x3)) < 0)) h (by kernel_rfl) (fun h5 => ?_) (fun h5 => ?_)
  ·replace h5 : (fpTo x0 x1 x2 x3 (List.length x3)) < 0 := of_decide_eq_true h5
   refine wp_seq ?_
   refine at_regq [] { ts := [3, 8, 9], os := [] } [] gamOK hT h (by kernel_rfl) trivial fun a w h => then_normal (wp_ret (then_ret ?_))
   exact at_return ((-1), ()) [] h (by kernel_rfl) trivial (congrArg (fun z => (z, ())) (show ((-1)) = fpL x0 x1 x2 x3 from by (unfold fpL; first | (rw [if_pos (by assumption)]; done) | (rw [if_neg (by omega)]; done))))
  ·replace h5 : ¬ ((fpTo x0 x1 x2 x3 (List.length x3)) < 0) := of_decide_eq_false h5
   refine wp_skip (then_normal (wp_seq ?_))
   refine at_regq [] { ts := [8], os := [] } [(0 : Int) ≤ (fpTo x0 x1 x2 x3 (List.length x3)) ∧ (fpTo x0 x1 x2 x3 (List.length x3)) < ((List.length x3 : Nat) : Int)] gamOK hT h (by kernel_rfl) ⟨(by refine ⟨?_, ?_⟩ <;> (first | omega | (simp only [lsA]; omega) | (simp <;> omega))), trivial⟩ fun a w h => then_normal (wp_ret ?_)
   exact at_return ((x3.getD (((fpTo x0 x1 x2 x3 (List.length x3))).toNat) (0, (0, (0, ((0, ([], [])), 0))))).1, ()) [] h (by kernel_rfl) trivial (congrArg (fun z => (z, ())) (show ((x3.getD (((fpTo x0 x1 x2 x3 (List.length x3))).toNat) (0, (0, (0, ((0, ([], [])), 0))))).1) = fpL x0 x1 x2 x3 from by (unfold fpL; first | (rw [if_pos (by assumption)]; done) | (rw [if_neg (by omega)]; done))))

abbrev Q_impl_Suspects := (fun (x0 : Int) (x1 : (List Int)) (x2 : T31) (x3 : (List T40)) => Sh.fit s29 x1 ∧ Sh.fit s31 x2 ∧ Sh.fit s42 x3 ∧ ∀ j, j < List.length x3 → I64 (x3.getD j (0, (0, (0, ((0, ([], [])), 0))))).1)
def S_impl_Suspects : Sum := { fid := 12, dom := [(.int 3), s29, s31, s42], cod := [s27], dp := true, fz := false, pre := fun x => Q_impl_Suspects x.1 x.2.1 x.2.2.1 x.2.2.2.1, g := fun x => ((susL x.1 x.2.1 x.2.2.1 x.2.2.2.1), ()) }
def S_impl_Suspects_tab : List (Nat × Sum) := [(10, S_impl_IsProof), (26, S_maps_Keys_map_int_bool_int_bool_), (25, S_slices_Sorted_int_)]
theorem S_impl_Suspects_ok : FnOK Tryz.prog 12 S_impl_Suspects := by
 refine at_enter 31 (fun x => ⟨[(0, aI x.1), (1, aG [.ro (.int 3) x.2.1]), (2, aG [cI x.2.2.1.1, cI x.2.2.1.2.1, cI x.2.2.1.2.2.1, cI x.2.2.1.2.2.2.1, .ro (.int 3) x.2.2.1.2.2.2.2.1, cI x.2.2.1.2.2.2.2.2]), (3, aF s40 x.2.2.2.1)], []⟩) Tryz.func12 rfl (by kernel_rfl) (fun x => rfl) ?_
 rintro w0 Z0 ⟨x0, x1, x2, x3, u⟩ a w
 revert x0 x1 x2 x3
 intro (x0 : Int) (x1 : (List Int)) (x2 : T31) (x3 : (List T40)) hpre hlens h
 replace hpre : Q_impl_Suspects x0 x1 x2 x3 := hpre
 have hT : TabOK Tryz.prog w0 [] S_impl_Suspects_tab := (.cons S_impl_IsProof_ok (.cons S_maps_Keys_map_int_bool_int_bool__ok (.cons S_slices_Sorted_int__ok .nil)))
 obtain ⟨hf1, hf2, hf3, hpx⟩ := hpre
 have hn1_1 : List.length x1 ≤ 1073741824 := hf1.1
 have hn2_2 : List.length x2.2.2.2.2.1 ≤ 1073741824 := hf2.2.2.2.2.1.1
 have hn3_3 : List.length x3 ≤ 1073741824 := hf3.1
 have hsl9 := susTo_len x0 x1 x2 x3 (List.length x3)
 refine wp_seq ?_
 refine at_regq [{ ids := [1] }, { ids := [2] }] { ts := [0, 3, 5, 6, 8], os := [1, 2] } [] gamOK hT h (by kernel_rfl) trivial fun a w h => then_normal (wp_seq ?_)
 refine at_regq [{ ids := [3] }] { ts := [0, 3, 5, 6, 8, 9], os := [1, 2, 3] } [] gamOK hT h (by kernel_rfl) trivial fun a w h => then_normal (wp_seq (wp_seq ?_))
 refine at_regq [] { ts := [0, 5, 6, 8, 9, 13, 14, 15], os := [1, 2, 3] } [] gamOK hT h (by kernel_rfl) trivial fun a w h => then_normal (wp_block ?_)
 replace h := at_out (σ' := ⟨[(0, aI x0), (5, aP 1 0), (6, aP 2 0), (8, .p (.c (cN))), (9, aS 3), (13, aF s40 x3), (14, aI ((List.length x3 : Nat) : Int)), (15, aI 0)], [(1, oX 29 [.ro (.int 3) x1]), (2, oX 31 [cI x2.1, cI x2.2.1, cI x2.2.2.1, cI x2.2.2.2.1, .ro (.int 3) x2.2.2.2.2.1, cI x2.2.2.2.2.2]), (3, some (.mp true ([] : List (Int × Int))))]⟩) { ts := [0, 5, 6, 8, 9, 13, 14, 15], os := [1, 2, 3] } h (by kernel_rfl)
 refine at_loop (fun i : Nat => (⟨[(0, aI x0), (5, aP 1 0), (6, aP 2 0), (8, .p (.c (cN))), (9, aS 3), (13, aF s40 x3), (14, aI ((List.length x3 : Nat) : Int)), (15, aI ((i : Nat) : Int))], [(1, oX 29 [.ro (.int 3) x1]), (2, oX 31 [cI x2.1, cI x2.2.1, cI x2.2.2.1, cI x2.2.2.2.1, .ro (.int 3) x2.2.2.2.2.1, cI x2.2.2.2.2.2]), (3, some (.mp true (susTo x0 x1 x2 x3 i)))]⟩ : St)) (fun i => i ≤ List.length x3) (fun i => List.length x3 - i) (0) h (st_congr2 (fun (d0 : List (Int × Int)) (d1 : Int) => (⟨[(0, aI x0), (5, aP 1 0), (6, aP 2 0), (8, .p (.c (cN))), (9, aS 3), (13, aF s40 x3), (14, aI ((List.length x3 : Nat) : Int)), (15, aI d1)], [(1, oX 29 [.ro (.int 3) x1]), (2, oX 31 [cI x2.1, cI x2.2.1, cI x2.2.2.1, cI x2.2.2.2.1, .ro (.int 3) x2.2.2.2.2.1, cI x2.2.2.2.2.2]), (3, some (.mp true d0))]⟩ : St)) (show (([] : List (Int × Int)) : List (Int × Int)) = (susTo x0 x1 x2 x3 (0)) from by first | with_reducible rfl | (rfl) | rfl) (show (0 : Int) = (((0) : Nat) : Int) from by first | with_reducible rfl | (rfl) | rfl)) (by omega) ?_
 intro i a w hok0 h
 have hsl := susTo_len x0 x1 x2 x3 i
 refine wp_seq ?_
 refine at_regq [] { ts := [0, 5, 6, 8, 9, 13, 14, 15, 16], os := [1, 2, 3] } [] gamOK hT h (by kernel_rfl) trivial fun a w h => then_normal (wp_seq ?_)
 refine at_test (decide (((i : Nat) : Int) < ((List.length x3 : Nat) : Int))) h (by kernel_rfl) (fun h1 => ?_) (fun h1 => ?_)
 ·replace h1 : ((i : Nat) : Int) < ((List.length x3 : Nat) : Int) := of_decide_eq_true h1
  have hi64 := hpx i (by omega)
  have hi65 := hi64.1
  have hi66 := hi64.2
  refine wp_skip (then_normal (wp_seq (wp_block (wp_seq ?_))))
  refine at_regq [{}, {}, { ids := [4] }] { ts := [0, 5, 6, 8, 9, 11, 13, 14, 15], os := [1, 2, 3, 4] } [(0 : Int) ≤ ((i : Nat) : Int) ∧ ((i : Nat) : Int) < ((List.length x3 : Nat) : Int)] gamOK hT h (by kernel_rfl) ⟨(by refine ⟨?_, ?_⟩ <;> (first | omega | (simp only [lsA]; omega) | (simp <;> omega))), trivial⟩ fun a w h => then_normal (wp_seq ?_)
  refine at_regq [] { ts := [0, 5, 6, 8, 9, 11, 13, 14, 15, 23], os := [1, 2, 3, 4] } [Q_impl_IsProof x0 x1 x2 (x3.getD i (0, (0, (0, ((0, ([], [])), 0)))))] gamOK hT h (by kernel_rfl) ⟨(by exact ⟨hf1, hf2, Sh.fit_getD hf3 i⟩), trivial⟩ fun a w h => then_normal ?_
  refine at_test ((isProof x0 x1 x2 (x3.getD i (0, (0, (0, ((0, ([], [])), 0))))))) h (by kernel_rfl) (fun h2 => ?_) (fun h2 => ?_)
  ·refine at_regq [] { ts := [0, 5, 6, 8, 9, 13, 14, 15], os := [1, 2, 3] } [I64 ((x3.getD i (0, (0, (0, ((0, ([], [])), 0))))).1)] gamOK hT h (by kernel_rfl) ⟨⟨by first | omega | (simp only [lsA]; omega) | (simp <;> omega), by first | omega | (simp only [lsA]; omega) | (simp <;> omega)⟩, trivial⟩ fun a w h => in_normal (then_normal ?_)
   refine at_regq [{ nw := true }] { ts := [0, 5, 6, 8, 9, 13, 14, 15], os := [1, 2, 3] } [I64 (((i : Nat) : Int) + 1)] gamOK hT h (by kernel_rfl) ⟨⟨by first | omega | (simp only [lsA]; omega) | (simp <;> omega), by first | omega | (simp only [lsA]; omega) | (simp <;> omega)⟩, trivial⟩ fun a w h => ?_
   replace h := at_out (σ' := ⟨[(0, aI x0), (5, aP 1 0), (6, aP 2 0), (8, .p (.c (cN))), (9, aS 3), (13, aF s40 x3), (14, aI ((List.length x3 : Nat) : Int)), (15, aI (((i : Nat) : Int) + 1))], [(1, oX 29 [.ro (.int 3) x1]), (2, oX 31 [cI x2.1, cI x2.2.1, cI x2.2.2.1, cI x2.2.2.2.1, .ro (.int 3) x2.2.2.2.2.1, cI x2.2.2.2.2.2]), (3, some (.mp true (mset (susTo x0 x1 x2 x3 i) (x3.getD i (0, (0, (0, ((0, ([], [])), 0))))).1 1)))]⟩) { ts := [0, 5, 6, 8, 9, 13, 14, 15], os := [1, 2, 3] } h (by kernel_rfl)
   exact ⟨i + 1, at_eq h (st_congr2 (fun (d0 : List (Int × Int)) (d1 : Int) => (⟨[(0, aI x0), (5, aP 1 0), (6, aP 2 0), (8, .p (.c (cN))), (9, aS 3), (13, aF s40 x3), (14, aI ((List.length x3 : Nat) : Int)), (15, aI d1)], [(1, oX 29 [.ro (.int 3) x1]), (2, oX 31 [cI x2.1, cI x2.2.1, cI x2.2.2.1, cI x2.2.2.2.1, .ro (.int 3) x2.2.2.2.2.1, cI x2.2.2.2.2.2]), (3, some (.mp true d0))]⟩ : St)) (show ((mset (susTo x0 x1 x2 x3 i) (x3.getD i (0, (0, (0, ((0, ([], [])), 0))))).1 1) : List (Int × Int)) = (susTo x0 x1 x2 x3 (i + 1)) from by first | with_reducible rfl | (first | exact sus_y (by assumption) | exact sus_n (by assumption)) | rfl) (show (((i : Nat) : Int) + 1 : Int) = (((i + 1) : Nat) : Int) from by first | with_reducible rfl | (omega) | rfl)), (by omega), (by omega)⟩
  ·refine wp_skip (in_normal (then_normal ?_))
   refine at_regq [{ nw := true }] { ts := [0, 5, 6, 8, 9, 13, 14, 15], os := [1, 2, 3] } [I64 (((i : Nat) : Int) + 1)] gamOK hT h (by kernel_rfl) ⟨⟨by first | omega | (simp only [lsA]; omega) | (simp <;> omega), by first | omega | (simp only [lsA]; omega) | (simp <;> omega)⟩, trivial⟩ fun a w h => ?_
   replace h := at_out (σ' := ⟨[(0, aI x0), (5, aP 1 0), (6, aP 2 0), (8, .p (.c (cN))), (9, aS 3), (13, aF s40 x3), (14, aI ((List.length x3 : Nat) : Int)), (15, aI (((i : Nat) : Int) + 1))], [(1, oX 29 [.ro (.int 3) x1]), (2, oX 31 [cI x2.1, cI x2.2.1, cI x2.2.2.1, cI x2.2.2.2.1, .ro (.int 3) x2.2.2.2.2.1, cI x2.2.2.2.2.2]), (3, some (.mp true (susTo x0 x1 x2 x3 i)))]⟩) { ts := [0, 5, 6, 8, 9, 13, 14, 15], os := [1, 2, 3] } h (by kernel_rfl)
   exact ⟨i + 1, at_eq h (st_congr2 (fun (d0 : List (Int × Int)) (d1 : Int) => (⟨[(0, aI x0), (5, aP 1 0), (6, aP 2 0), (8, .p (.c (cN))), (9, aS 3), (13, aF s40 x3), (14, aI ((List.length x3 : Nat) : Int)), (15, aI d1)], [(1, oX 29 [.ro (.int 3) x1]), (2, oX 31 [cI x2.1, cI x2.2.1, cI x2.2.2.1, cI x2.2.2.2.1, .ro (.int 3) x2.2.2.2.2.1, cI x2.2.2.2.2.2]), (3, some (.mp true d0))]⟩ : St)) (show ((susTo x0 x1 x2 x3 i) : List (Int × Int)) = (susTo x0 x1 x2 x3 (i + 1)) from by first | with_reducible rfl | (first | exact sus_y (by assumption) | exact sus_n (by assumption)) | rfl) (show (((i : Nat) : Int) + 1 : Int) = (((i + 1) : Nat) : Int) from by first | with_reducible rfl | (omega) | rfl)), (by omega), (by omega)⟩
 ·replace h1 : ¬ (((i : Nat) : Int) < ((List.length x3 : Nat) : Int)) := of_decide_eq_false h1
  refine wp_exit (then_exit ?_)
  replace h := at_out (σ' := ⟨[(8, .p (.c (cN))), (9, aS 3)], [(3, some (.mp true (susTo x0 x1 x2 x3 i)))]⟩) { ts := [8, 9], os := [3] } h (by kernel_rfl)
  replace h := at_eq (σ' := ⟨[(8, .p (.c (cN))), (9, aS 3)], [(3, some (.mp true (susTo x0 x1 x2 x3 (List.length x3))))]⟩) h (st_congr1 (fun (d0 : List (Int × Int)) => (⟨[(8, .p (.c (cN))), (9, aS 3)], [(3, some (.mp true d0))]⟩ : St)) (show ((susTo x0 x1 x2 x3 i) : List (Int × Int)) = (susTo x0 x1 x2 x3 (List.length x3)) from by first | with_reducible rfl | (rw [show List.length x3 = i by omega]) | rfl))
  refine then_exit (in_hit (then_normal (wp_seq ?_)))
  refine at_regq [{}, { ids := [5] }, { ids := [6] }] { ts := [8], os := [6] } [List.length (susTo x0 x1 x2 x3 (List.length x3)) ≤ 1073741824] gamOK hT h (by kernel_rfl) ⟨(by first | omega | (simp only [lsA]; omega) | (simp <;> omega)), trivial⟩ fun a w h => then_normal (wp_ret ?_)
  exact at_return ((sortK (susTo x0 x1 x2 x3 (List.length x3))), ()) [] h (by kernel_rfl) trivial (congrArg (fun z => (z, ())) (show ((sortK (susTo x0 x1 x2 x3 (List.length x3)))) = susL x0 x1 x2 x3 from by rfl))

abbrev Q_impl_EqualLinkPackets := (fun (x0 : T40) (x1 : T40) => Sh.fit s40 x0 ∧ Sh.fit s40 x1)
def S_impl_EqualLinkPackets : Sum := { fid := 14, dom := [s40, s40], cod := [(.bool 4)], dp := true, fz := false, pre := fun x => Q_impl_EqualLinkPackets x.1 x.2.1, g := fun x => (((Sh.eqB s40) x.1 x.2.1), ()) }
def S_impl_EqualLinkPackets_tab : List (Nat × Sum) := [(27, S_impl_EqualPackets)]
theorem S_impl_EqualLinkPackets_ok : FnOK Tryz.prog 14 S_impl_EqualLinkPackets := by
 refine at_enter 38 (fun x => ⟨[(0, aG [cI x.1.1, cI x.1.2.1, cI x.1.2.2.1, cI x.1.2.2.2.1.1, .ro (.int 3) x.1.2.2.2.1.2.1, .ro (.int 3) x.1.2.2.2.1.2.2, cI x.1.2.2.2.2]), (1, aG [cI x.2.1.1, cI x.2.1.2.1, cI x.2.1.2.2.1, cI x.2.1.2.2.2.1.1, .ro (.int 3) x.2.1.2.2.2.1.2.1, .ro (.int 3) x.2.1.2.2.2.1.2.2, cI x.2.1.2.2.2.2])], []⟩) Tryz.func14 rfl (by kernel_rfl) (fun x => rfl) ?_
 rintro w0 Z0 ⟨x0, x1, u⟩ a w
 revert x0 x1
 intro (x0 : T40) (x1 : T40) hpre hlens h
 replace hpre : Q_impl_EqualLinkPackets x0 x1 := hpre
 have hT : TabOK Tryz.prog w0 [] S_impl_EqualLinkPackets_tab := (.cons S_impl_EqualPackets_ok .nil)
 obtain ⟨hf0, hf1⟩ := hpre
 have hn0_1 : List.length x0.2.2.2.1.2.1 ≤ 1073741824 := hf0.2.2.2.1.2.1.1
 have hn0_2 : List.length x0.2.2.2.1.2.2 ≤ 1073741824 := hf0.2.2.2.1.2.2.1
 have hn1_3 : List.length x1.2.2.2.1.2.1 ≤ 1073741824 := hf1.2.2.2.1.2.1.1
 have hn1_4 : List.length x1.2.2.2.1.2.2 ≤ 1073741824 := hf1.2.2.2.1.2.2.1
 refine wp_seq ?_
 refine at_regq [{ ids := [1] }, { ids := [2] }] { ts := [2, 3, 4], os := [1, 2] } [] gamOK hT h (by kernel_rfl) trivial fun a w h => then_normal (wp_seq ?_)
 by_cases h1 : x0.1 = x1.1
 ·by_cases h2 : x0.2.1 = x1.2.1
  ·by_cases h3 : x0.2.2.1 = x1.2.2.1
   ·by_cases h4 : x0.2.2.2.2 = x1.2.2.2.2
    ·refine at_regq [{}, {}, {}, {}, { hint := some (aB true) }, {}, {}, {}, {}, {}, { hint := some (aB true) }, {}, {}, {}, {}, {}, {}, { hint := some (aB true) }, {}, {}, {}, {}, {}, {}, { hint := some (aB true) }] { ts := [4], os := [] } [(AV.p (.c (.v (.bool (decide (x0.1 = x1.1))))) = AV.p (.c (.v (.bool true)))), (AV.p (.c (.v (.bool (decide (x0.2.1 = x1.2.1))))) = AV.p (.c (.v (.bool true)))), (AV.p (.c (.v (.bool (decide (x0.2.2.1 = x1.2.2.1))))) = AV.p (.c (.v (.bool true)))), (AV.p (.c (.v (.bool (decide (x0.2.2.2.2 = x1.2.2.2.2))))) = AV.p (.c (.v (.bool true)))), True] gamOK hT h (by kernel_rfl) ⟨hint_bool (decide_eq_true h1), hint_bool (decide_eq_true h2), hint_bool (decide_eq_true h3), hint_bool (decide_eq_true h4), trivial, trivial⟩ fun a w h => then_normal (wp_ret ?_)
     exact at_return (((Sh.eqB s36) x0.2.2.2.1 x1.2.2.2.1), ()) [] h (by kernel_rfl) trivial (congrArg (fun z => (z, ())) (show (((Sh.eqB s36) x0.2.2.2.1 x1.2.2.2.1)) = (Sh.eqB s40) x0 x1 from by (show _ = Sh.eqB s40 x0 x1; simp_all [Sh.eqB])))
    ·refine at_regq [{}, {}, {}, {}, { hint := some (aB true) }, {}, {}, {}, {}, {}, { hint := some (aB true) }, {}, {}, {}, {}, {}, {}, { hint := some (aB true) }, {}, {}, {}, {}, {}, {}, { hint := some (aB false) }] { ts := [4], os := [] } [(AV.p (.c (.v (.bool (decide (x0.1 = x1.1))))) = AV.p (.c (.v (.bool true)))), (AV.p (.c (.v (.bool (decide (x0.2.1 = x1.2.1))))) = AV.p (.c (.v (.bool true)))), (AV.p (.c (.v (.bool (decide (x0.2.2.1 = x1.2.2.1))))) = AV.p (.c (.v (.bool true)))), (AV.p (.c (.v (.bool (decide (x0.2.2.2.2 = x1.2.2.2.2))))) = AV.p (.c (.v (.bool false))))] gamOK hT h (by kernel_rfl) ⟨hint_bool (decide_eq_true h1), hint_bool (decide_eq_true h2), hint_bool (decide_eq_true h3), hint_bool (decide_eq_false h4), trivial⟩ fun a w h => then_normal (wp_ret ?_)
     exact at_return (false, ()) [] h (by kernel_rfl) trivial (congrArg (fun z => (z, ())) (show (false) = (Sh.eqB s40) x0 x1 from by (show _ = Sh.eqB s40 x0 x1; simp_all [Sh.eqB])))
   ·refine at_regq [{}, {}, {}, {}, { hint := some (aB true) }, {}, {}, {}, {}, {}, { hint := some (aB true) }, {}, {}, {}, {}, {}, {}, { hint := some (aB false) }] { ts := [4], os := [] } [(AV.p (.c (.v (.bool (decide (x0.1 = x1.1))))) = AV.p (.c (.v (.bool true)))), (AV.p (.c (.v (.bool (decide (x0.2.1 = x1.2.1))))) = AV.p (.c (.v (.bool true)))), (AV.p (.c (.v (.bool (decide (x0.2.2.1 = x1.2.2.1))))) = AV.p (.c (.v (.bool false))))] gamOK hT h (by kernel_rfl) ⟨hint_bool (decide_eq_true h1), hint_bool (decide_eq_true h2), hint_bool (decide_eq_false h3), trivial⟩ fun a w h => then_normal (wp_ret ?_)
    exact at_return (false, ()) [] h (by kernel_rfl) trivial (congrArg (fun z => (z, ())) (show (false) = (Sh.eqB s40) x0 x1 from by (show _ = Sh.eqB s40 x0 x1; simp_all [Sh.eqB])))
  ·refine at_regq [{}, {}, {}, {}, { hint := some (aB true) }, {}, {}, {}, {}, {}, { hint := some (aB false) }] { ts := [4], os := [] } [(AV.p (.c (.v (.bool (decide (x0.1 = x1.1))))) = AV.p (.c (.v (.bool true)))), (AV.p (.c (.v (.bool (decide (x0.2.1 = x1.2.1))))) = AV.p (.c (.v (.bool false))))] gamOK hT h (by kernel_rfl) ⟨hint_bool (decide_eq_true h1), hint_bool (decide_eq_false h2), trivial⟩ fun a w h => then_normal (wp_ret ?_)
   exact at_return (false, ()) [] h (by kernel_rfl) trivial (congrArg (fun z => (z, ())) (show (false) = (Sh.eqB s40) x0 x1 from by (show _ = Sh.eqB s40 x0 x1; simp_all [Sh.eqB])))
 ·refine at_regq [{}, {}, {}, {}, { hint := some (aB false) }] { ts := [4], os := [] } [(AV.p (.c (.v (.bool (decide (x0.1 = x1.1))))) = AV.p (.c (.v (.bool false))))] gamOK hT h (by kernel_rfl) ⟨hint_bool (decide_eq_false h1), trivial⟩ fun a w h => then_normal (wp_ret ?_)
  exact at_return (false, ()) [] h (by kernel_rfl) trivial (congrArg (fun z => (z, ())) (show (false) = (Sh.eqB s40) x0 x1 from by (show _ = Sh.eqB s40 x0 x1; simp_all [Sh.eqB])))

end Go.Proofs.YtekgoacohhdijaaGreat

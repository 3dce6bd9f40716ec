/- The law FnExactRecordProof returns true for every input and leaves its arguments as they were. No condition. -/
import Derived.Test.YtdmkjcnppgfeoaaRecordProof2
import Derived.Test.YtdmkjcnppgfeoaaLA
import Derived.Test.YtdmkjcnppgfeoaaProg
import Derived.Test.YtdmkjcnppgfeoaaRows
import Derived.Test.YtdmkjcnppgfeoaaFX
namespace Go.Proofs.Ytdmkjcnppgfeoaa
open Go.RowKit
set_option linter.unusedVariables false
set_option linter.unusedSimpArgs false
def validMan (x0 : T59) : Bool := (if (inR x0.1 0 7) = true then (if (isFmt x0.2.1 x0.2.2.1 x0.2.2.2.1) = true then (if ((List.length x0.2.2.2.2.1 : Nat) : Int) = x0.2.2.1 then (if (List.all x0.2.2.2.2.1 isGrp) = true then (inR x0.2.2.2.2.2 0 2147483646) else false) else false) else false) else false)
def S_spec_IsValidManifest : Sum := { fid := 189, dom := [s59], cod := [(.bool 4)], dp := true, fz := false, pre := fun x => (fun (x0 : T59) => Sh.fit s59 x0) x.1, g := fun x => ((validMan x.1), ()) }
def S_spec_IsValidManifest_tab : List (Nat × Sum) := [(103, S_spec_l1In), (220, S_spec_l14Range), (263, S_spec_IsGroupElement)]
theorem S_spec_IsValidManifest_ok : FnOK Try.prog 189 S_spec_IsValidManifest := by
  refine at_enter 43 (fun x => ⟨[(0, aG [cI x.1.1, cI x.1.2.1, cI x.1.2.2.1, cI x.1.2.2.2.1, .ro (.int 3) x.1.2.2.2.2.1, cI x.1.2.2.2.2.2])], []⟩) Try.func189 rfl (by kernel_rfl) (fun x => rfl) ?_
  rintro w0 Z0 ⟨x0, u⟩ a w
  revert x0
  intro (x0 : T59) hpre hlens h
  replace h : At w0 Z0 [] 43 ⟨[(0, aG [cI x0.1, cI x0.2.1, cI x0.2.2.1, cI x0.2.2.2.1, .ro (.int 3) x0.2.2.2.2.1, cI x0.2.2.2.2.2])], []⟩ a w := h
  replace hpre : (fun (x0 : T59) => Sh.fit s59 x0) x0 := hpre
  have hl1 : List.length x0.2.2.2.2.1 ≤ 9223372036854775807 := hlens.1.2.2.2.2.1.1
  have hT : TabOK Try.prog S_spec_IsValidManifest_tab := (.cons S_spec_l1In_ok (.cons S_spec_l14Range_ok (.cons S_spec_IsGroupElement_ok .nil)))
  have hf0 : Sh.fit s59 x0 := hpre
  have hn0_1 : List.length x0.2.2.2.2.1 ≤ 1073741824 := hf0.2.2.2.2.1.1
  refine wp_seq ?_
  refine at_regq (T := S_spec_IsValidManifest_tab) [{ ids := [1] }] { ts := [1, 2], os := [1] } [] gamOK hT h (by kernel_rfl) trivial ?_
  intro a w h
  refine then_normal ?_
  refine wp_seq ?_
  refine wp_seq ?_
  rcases Bool.eq_false_or_eq_true (!(inR x0.1 0 7)) with h1 | h1
  · skip
    have hzh1 : (inR x0.1 0 7) = false := notT h1
    have hvh1 := inR_f (notT h1)
    refine at_regq (T := S_spec_IsValidManifest_tab) [{}, {}, {}, { hint := some (aB true) }] { ts := [1, 2, 25], os := [1] } [True, (AV.p (.c (.v (.bool (!(inR x0.1 0 7))))) = AV.p (.c (.v (.bool true))))] gamOK hT h (by kernel_rfl) ⟨trivial, hint_bool (h1), trivial⟩ ?_
    intro a w h
    refine then_normal ?_
    refine at_test true h (by kernel_rfl) (fun hh => ?_) (fun hh => nomatch hh)
    refine wp_seq ?_
    refine at_regq (T := S_spec_IsValidManifest_tab) [] { ts := [1, 2], os := [1] } [] gamOK hT h (by kernel_rfl) trivial ?_
    intro a w h
    refine then_normal ?_
    refine wp_ret ?_
    refine then_ret ?_
    exact at_return (S := S_spec_IsValidManifest) (x := (x0, ())) (false, ()) [] h (by kernel_rfl) trivial (congrArg (fun z => (z, ())) (show (false) = validMan x0 from by first | rfl | (unfold validMan; rw [if_neg (neT (notT h1))])))
  · skip
    have hzh1 : (inR x0.1 0 7) = true := notF h1
    have hvh1 := inR_t (notF h1)
    rcases Bool.eq_false_or_eq_true (!(isFmt x0.2.1 x0.2.2.1 x0.2.2.2.1)) with h2 | h2
    · skip
      have hzh2 : (isFmt x0.2.1 x0.2.2.1 x0.2.2.2.1) = false := notT h2
      refine at_regq (T := S_spec_IsValidManifest_tab) [{}, {}, {}, { hint := some (aB false) }, {}, {}, {}, {}, {}, {}, {}, {}, { hint := some (aB true) }] { ts := [1, 2, 25], os := [1] } [True, (AV.p (.c (.v (.bool (!(inR x0.1 0 7))))) = AV.p (.c (.v (.bool false)))), True, (AV.p (.c (.v (.bool (!(isFmt x0.2.1 x0.2.2.1 x0.2.2.2.1))))) = AV.p (.c (.v (.bool true))))] gamOK hT h (by kernel_rfl) ⟨trivial, hint_bool (h1), trivial, hint_bool (h2), trivial⟩ ?_
      intro a w h
      refine then_normal ?_
      refine at_test true h (by kernel_rfl) (fun hh => ?_) (fun hh => nomatch hh)
      refine wp_seq ?_
      refine at_regq (T := S_spec_IsValidManifest_tab) [] { ts := [1, 2], os := [1] } [] gamOK hT h (by kernel_rfl) trivial ?_
      intro a w h
      refine then_normal ?_
      refine wp_ret ?_
      refine then_ret ?_
      exact at_return (S := S_spec_IsValidManifest) (x := (x0, ())) (false, ()) [] h (by kernel_rfl) trivial (congrArg (fun z => (z, ())) (show (false) = validMan x0 from by first | rfl | (unfold validMan; rw [if_pos (notF h1), if_neg (neT (notT h2))])))
    · skip
      have hzh2 : (isFmt x0.2.1 x0.2.2.1 x0.2.2.2.1) = true := notF h2
      have hvh2 := isFmt_t (notF h2)
      refine at_regq (T := S_spec_IsValidManifest_tab) [{}, {}, {}, { hint := some (aB false) }, {}, {}, {}, {}, {}, {}, {}, {}, { hint := some (aB false) }] { ts := [1, 2, 25], os := [1] } [True, (AV.p (.c (.v (.bool (!(inR x0.1 0 7))))) = AV.p (.c (.v (.bool false)))), True, (AV.p (.c (.v (.bool (!(isFmt x0.2.1 x0.2.2.1 x0.2.2.2.1))))) = AV.p (.c (.v (.bool false))))] gamOK hT h (by kernel_rfl) ⟨trivial, hint_bool (h1), trivial, hint_bool (h2), trivial⟩ ?_
      intro a w h
      refine then_normal ?_
      refine at_test (!decide (((List.length x0.2.2.2.2.1 : Nat) : Int) = x0.2.2.1)) h (by kernel_rfl) (fun h3 => ?_) (fun h3 => ?_)
      · replace h3 : ¬ (((List.length x0.2.2.2.2.1 : Nat) : Int) = x0.2.2.1) := of_decide_eq_false (notT h3)
        refine wp_seq ?_
        refine at_regq (T := S_spec_IsValidManifest_tab) [] { ts := [1, 2], os := [1] } [] gamOK hT h (by kernel_rfl) trivial ?_
        intro a w h
        refine then_normal ?_
        refine wp_ret ?_
        refine then_ret ?_
        exact at_return (S := S_spec_IsValidManifest) (x := (x0, ())) (false, ()) [] h (by kernel_rfl) trivial (congrArg (fun z => (z, ())) (show (false) = validMan x0 from by first | rfl | (unfold validMan; rw [if_pos (notF h1), if_pos (notF h2), if_neg h3])))
      · replace h3 : ((List.length x0.2.2.2.2.1 : Nat) : Int) = x0.2.2.1 := of_decide_eq_true (notF h3)
        refine wp_skip ?_
        refine then_normal ?_
        refine wp_seq ?_
        refine wp_seq ?_
        refine at_regq (T := S_spec_IsValidManifest_tab) [] { ts := [1, 2, 3], os := [1] } [] gamOK hT h (by kernel_rfl) trivial ?_
        intro a w h
        refine then_normal ?_
        refine wp_block ?_
        replace h := at_out (σ' := ⟨[(1, aP 1 0), (2, aB false), (3, aI 0)], [(1, oX 59 [cI x0.1, cI x0.2.1, cI x0.2.2.1, cI x0.2.2.2.1, .ro (.int 3) x0.2.2.2.2.1, cI x0.2.2.2.2.2])]⟩) { ts := [1, 2, 3], os := [1] } h (by kernel_rfl)
        refine at_loop (fun i : Nat => (⟨[(1, aP 1 0), (2, aB false), (3, aI ((i : Nat) : Int))], [(1, oX 59 [cI x0.1, cI x0.2.1, cI x0.2.2.1, cI x0.2.2.2.1, .ro (.int 3) x0.2.2.2.2.1, cI x0.2.2.2.2.2])]⟩ : St)) (fun i => (i ≤ List.length x0.2.2.2.2.1 ∧ allTo1 isGrp x0.2.2.2.2.1 0 i)) (fun i => List.length x0.2.2.2.2.1 - i) (0) h (st_congr1 (fun (d0 : Int) => (⟨[(1, aP 1 0), (2, aB false), (3, aI d0)], [(1, oX 59 [cI x0.1, cI x0.2.1, cI x0.2.2.1, cI x0.2.2.2.1, .ro (.int 3) x0.2.2.2.2.1, cI x0.2.2.2.2.2])]⟩ : St)) (show (0 : Int) = (((0) : Nat) : Int) from by first | with_reducible rfl | (rfl) | rfl)) (by exact ⟨Nat.zero_le _, allTo1_zero⟩) ?_
        intro i a w hok0 h
        refine wp_seq ?_
        refine wp_seq ?_
        refine at_reg (T := S_spec_IsValidManifest_tab) [] { ts := [1, 2, 3, 30], os := [1] } ⟨[(1, aP 1 0), (2, aB false), (3, aI ((i : Nat) : Int)), (30, aB (decide (((i : Nat) : Int) < ((List.length x0.2.2.2.2.1 : Nat) : Int))))], [(1, oX 59 [cI x0.1, cI x0.2.1, cI x0.2.2.1, cI x0.2.2.2.1, .ro (.int 3) x0.2.2.2.2.1, cI x0.2.2.2.2.2])]⟩ [] gamOK hT h (by kernel_rfl) trivial ?_
        intro a w h
        refine then_normal ?_
        refine at_test (decide (((i : Nat) : Int) < ((List.length x0.2.2.2.2.1 : Nat) : Int))) h (by kernel_rfl) (fun h4 => ?_) (fun h4 => ?_)
        · replace h4 : ((i : Nat) : Int) < ((List.length x0.2.2.2.2.1 : Nat) : Int) := of_decide_eq_true h4
          refine wp_skip ?_
          refine then_normal ?_
          refine wp_seq ?_
          refine wp_block ?_
          refine wp_seq ?_
          refine at_regq (T := S_spec_IsValidManifest_tab) [] { ts := [1, 2, 3, 39], os := [1] } [(0 : Int) ≤ ((i : Nat) : Int) ∧ ((i : Nat) : Int) < ((List.length x0.2.2.2.2.1 : Nat) : Int), True] gamOK hT h (by kernel_rfl) ⟨(by refine ⟨?_, ?_⟩ <;> (first | omega | (simp only [List.length_append, List.length_cons, List.length_nil, List.length_set, List.length_take, List.length_drop, List.length_replicate, List.length_map, Nat.min_def]; omega) | (simp; done) | (simp; omega) | done)), trivial, trivial⟩ ?_
          intro a w h
          refine then_normal ?_
          refine at_test (!(isGrp (x0.2.2.2.2.1.getD i 0))) h (by kernel_rfl) (fun h5 => ?_) (fun h5 => ?_)
          · replace h5 : (isGrp (x0.2.2.2.2.1.getD i 0)) = false := notT h5
            refine wp_seq ?_
            refine at_regq (T := S_spec_IsValidManifest_tab) [] { ts := [1, 2, 3], os := [1] } [] gamOK hT h (by kernel_rfl) trivial ?_
            intro a w h
            refine then_normal ?_
            refine wp_ret ?_
            refine in_ret ?_
            refine then_ret ?_
            have hs6 : (List.all x0.2.2.2.2.1 isGrp) = false := by exact all_at (z := 0) (i := i) (by omega) (by first | assumption | (simp_all; done))
            refine then_ret ?_
            refine in_ret ?_
            refine then_ret ?_
            exact at_return (S := S_spec_IsValidManifest) (x := (x0, ())) (false, ()) [] h (by kernel_rfl) trivial (congrArg (fun z => (z, ())) (show (false) = validMan x0 from by first | rfl | (unfold validMan; rw [if_pos (notF h1), if_pos (notF h2), if_pos h3, if_neg (neT hs6)])))
          · replace h5 : (isGrp (x0.2.2.2.2.1.getD i 0)) = true := notF h5
            have hvh5 := isGrp_t h5
            refine wp_skip ?_
            refine in_normal ?_
            refine then_normal ?_
            refine at_regq (T := S_spec_IsValidManifest_tab) [{}, { nw := true }] { ts := [1, 2, 3], os := [1] } [I64 (((i : Nat) : Int) + 1)] gamOK hT h (by kernel_rfl) ⟨⟨by first | omega | (simp only [List.length_append, List.length_cons, List.length_nil, List.length_set, List.length_take, List.length_drop, List.length_replicate, List.length_map, Nat.min_def]; omega) | (simp; done) | (simp; omega) | done, by first | omega | (simp only [List.length_append, List.length_cons, List.length_nil, List.length_set, List.length_take, List.length_drop, List.length_replicate, List.length_map, Nat.min_def]; omega) | (simp; done) | (simp; omega) | done⟩, trivial⟩ ?_
            intro a w h
            replace h := at_out (σ' := ⟨[(1, aP 1 0), (2, aB false), (3, aI (((i : Nat) : Int) + 1))], [(1, oX 59 [cI x0.1, cI x0.2.1, cI x0.2.2.1, cI x0.2.2.2.1, .ro (.int 3) x0.2.2.2.2.1, cI x0.2.2.2.2.2])]⟩) { ts := [1, 2, 3], os := [1] } h (by kernel_rfl)
            exact ⟨i + 1, at_eq h (st_congr1 (fun (d0 : Int) => (⟨[(1, aP 1 0), (2, aB false), (3, aI d0)], [(1, oX 59 [cI x0.1, cI x0.2.1, cI x0.2.2.1, cI x0.2.2.2.1, .ro (.int 3) x0.2.2.2.2.1, cI x0.2.2.2.2.2])]⟩ : St)) (show (((i : Nat) : Int) + 1 : Int) = (((i + 1) : Nat) : Int) from by first | with_reducible rfl | (omega) | rfl)), (by exact ⟨by omega, allTo1_succ hok0.2 (by first | assumption | (simp_all; done))⟩), (by omega)⟩
        · replace h4 : ¬ (((i : Nat) : Int) < ((List.length x0.2.2.2.2.1 : Nat) : Int)) := of_decide_eq_false h4
          refine wp_exit ?_
          refine then_exit ?_
          have hs7 : (List.all x0.2.2.2.2.1 isGrp) = true := by exact all_of (z := 0) (i := i) (by omega) hok0.2
          refine then_exit ?_
          refine in_hit ?_
          refine then_normal ?_
          refine wp_seq ?_
          refine at_regq (T := S_spec_IsValidManifest_tab) [] { ts := [2], os := [] } [True] gamOK hT h (by kernel_rfl) ⟨trivial, trivial⟩ ?_
          intro a w h
          refine then_normal ?_
          refine wp_ret ?_
          exact at_return (S := S_spec_IsValidManifest) (x := (x0, ())) ((inR x0.2.2.2.2.2 0 2147483646), ()) [] h (by kernel_rfl) trivial (congrArg (fun z => (z, ())) (show ((inR x0.2.2.2.2.2 0 2147483646)) = validMan x0 from by first | rfl | (unfold validMan; rw [if_pos (notF h1), if_pos (notF h2), if_pos h3, if_pos hs7])))
theorem validMan_len {m : T59} (h : validMan m = true) : 1 ≤ List.length m.2.2.2.2.1 := by
  unfold validMan at h
  repeat' (split at h)
  all_goals first | (cases h; done) | (have := isFmt_t (by assumption); omega) | (exfalso; revert h; decide) | skip

def S_impl_IsValidManifest : Sum := { fid := 195, dom := [s59], cod := [(.bool 4)], dp := true, fz := false, pre := fun x => (fun (x0 : T59) => Sh.fit s59 x0) x.1, g := fun x => ((validMan x.1), ()) }
def S_impl_IsValidManifest_tab : List (Nat × Sum) := [(107, S_impl_InRange), (228, S_impl_isFormat), (100007, S_slices_ContainsFunc_S_int_int__IsValidManifest_1)]
theorem S_impl_IsValidManifest_ok : FnOK Try.prog 195 S_impl_IsValidManifest := by
  refine at_enter 35 (fun x => ⟨[(0, aG [cI x.1.1, cI x.1.2.1, cI x.1.2.2.1, cI x.1.2.2.2.1, .ro (.int 3) x.1.2.2.2.2.1, cI x.1.2.2.2.2.2])], []⟩) Try.func195 rfl (by kernel_rfl) (fun x => rfl) ?_
  rintro w0 Z0 ⟨x0, u⟩ a w
  revert x0
  intro (x0 : T59) hpre hlens h
  replace h : At w0 Z0 [] 35 ⟨[(0, aG [cI x0.1, cI x0.2.1, cI x0.2.2.1, cI x0.2.2.2.1, .ro (.int 3) x0.2.2.2.2.1, cI x0.2.2.2.2.2])], []⟩ a w := h
  replace hpre : (fun (x0 : T59) => Sh.fit s59 x0) x0 := hpre
  have hl1 : List.length x0.2.2.2.2.1 ≤ 9223372036854775807 := hlens.1.2.2.2.2.1.1
  have hT : TabOK Try.prog S_impl_IsValidManifest_tab := (.cons S_impl_InRange_ok (.cons S_impl_isFormat_ok (.cons S_slices_ContainsFunc_S_int_int__IsValidManifest_1_ok .nil)))
  have hf0 : Sh.fit s59 x0 := hpre
  have hn0_1 : List.length x0.2.2.2.2.1 ≤ 1073741824 := hf0.2.2.2.2.1.1
  refine wp_seq ?_
  refine at_regq (T := S_impl_IsValidManifest_tab) [{ ids := [1] }] { ts := [1, 2], os := [1] } [] gamOK hT h (by kernel_rfl) trivial ?_
  intro a w h
  refine then_normal ?_
  refine wp_seq ?_
  refine wp_seq ?_
  rcases Bool.eq_false_or_eq_true (!(inR x0.1 0 7)) with h1 | h1
  · skip
    have hzh1 : (inR x0.1 0 7) = false := notT h1
    have hvh1 := inR_f (notT h1)
    refine at_regq (T := S_impl_IsValidManifest_tab) [{}, {}, {}, { hint := some (aB true) }] { ts := [1, 2, 30], os := [1] } [True, (AV.p (.c (.v (.bool (!(inR x0.1 0 7))))) = AV.p (.c (.v (.bool true))))] gamOK hT h (by kernel_rfl) ⟨trivial, hint_bool (h1), trivial⟩ ?_
    intro a w h
    refine then_normal ?_
    refine at_test true h (by kernel_rfl) (fun hh => ?_) (fun hh => nomatch hh)
    refine wp_seq ?_
    refine at_regq (T := S_impl_IsValidManifest_tab) [] { ts := [1, 2], os := [1] } [] gamOK hT h (by kernel_rfl) trivial ?_
    intro a w h
    refine then_normal ?_
    refine wp_ret ?_
    refine then_ret ?_
    exact at_return (S := S_impl_IsValidManifest) (x := (x0, ())) (false, ()) [] h (by kernel_rfl) trivial (congrArg (fun z => (z, ())) (show (false) = validMan x0 from by first | rfl | (unfold validMan; rw [if_neg (neT (notT h1))]; done) | (unfold validMan; (repeat (first | rfl | split)) <;> (first | rfl | omega | (simp_all [-List.all_eq_true, -List.any_eq_true, -List.all_eq_false, -List.any_eq_false, D_slices_ContainsFunc_S_int_int__IsValidManifest_1, any_not]; done) | (simp_all [-List.all_eq_true, -List.any_eq_true, -List.all_eq_false, -List.any_eq_false, D_slices_ContainsFunc_S_int_int__IsValidManifest_1, any_not]; omega) | (exfalso; simp_all [-List.all_eq_true, -List.any_eq_true, -List.all_eq_false, -List.any_eq_false, D_slices_ContainsFunc_S_int_int__IsValidManifest_1, any_not]; omega)))))
  · skip
    have hzh1 : (inR x0.1 0 7) = true := notF h1
    have hvh1 := inR_t (notF h1)
    rcases Bool.eq_false_or_eq_true (!(isFmt x0.2.1 x0.2.2.1 x0.2.2.2.1)) with h2 | h2
    · skip
      have hzh2 : (isFmt x0.2.1 x0.2.2.1 x0.2.2.2.1) = false := notT h2
      refine at_regq (T := S_impl_IsValidManifest_tab) [{}, {}, {}, { hint := some (aB false) }, {}, {}, {}, {}, {}, {}, {}, {}, { hint := some (aB true) }] { ts := [1, 2, 30], os := [1] } [True, (AV.p (.c (.v (.bool (!(inR x0.1 0 7))))) = AV.p (.c (.v (.bool false)))), True, (AV.p (.c (.v (.bool (!(isFmt x0.2.1 x0.2.2.1 x0.2.2.2.1))))) = AV.p (.c (.v (.bool true))))] gamOK hT h (by kernel_rfl) ⟨trivial, hint_bool (h1), trivial, hint_bool (h2), trivial⟩ ?_
      intro a w h
      refine then_normal ?_
      refine at_test true h (by kernel_rfl) (fun hh => ?_) (fun hh => nomatch hh)
      refine wp_seq ?_
      refine at_regq (T := S_impl_IsValidManifest_tab) [] { ts := [1, 2], os := [1] } [] gamOK hT h (by kernel_rfl) trivial ?_
      intro a w h
      refine then_normal ?_
      refine wp_ret ?_
      refine then_ret ?_
      exact at_return (S := S_impl_IsValidManifest) (x := (x0, ())) (false, ()) [] h (by kernel_rfl) trivial (congrArg (fun z => (z, ())) (show (false) = validMan x0 from by first | rfl | (unfold validMan; rw [if_pos (notF h1), if_neg (neT (notT h2))]; done) | (unfold validMan; (repeat (first | rfl | split)) <;> (first | rfl | omega | (simp_all [-List.all_eq_true, -List.any_eq_true, -List.all_eq_false, -List.any_eq_false, D_slices_ContainsFunc_S_int_int__IsValidManifest_1, any_not]; done) | (simp_all [-List.all_eq_true, -List.any_eq_true, -List.all_eq_false, -List.any_eq_false, D_slices_ContainsFunc_S_int_int__IsValidManifest_1, any_not]; omega) | (exfalso; simp_all [-List.all_eq_true, -List.any_eq_true, -List.all_eq_false, -List.any_eq_false, D_slices_ContainsFunc_S_int_int__IsValidManifest_1, any_not]; omega)))))
    · skip
      have hzh2 : (isFmt x0.2.1 x0.2.2.1 x0.2.2.2.1) = true := notF h2
      have hvh2 := isFmt_t (notF h2)
      by_cases h3 : ((List.length x0.2.2.2.2.1 : Nat) : Int) = x0.2.2.1
      · skip
        refine at_regq (T := S_impl_IsValidManifest_tab) [{}, {}, {}, { hint := some (aB false) }, {}, {}, {}, {}, {}, {}, {}, {}, { hint := some (aB false) }, {}, {}, {}, {}, {}, {}, {}, { hint := some (aB false) }] { ts := [1, 2, 30], os := [1] } [True, (AV.p (.c (.v (.bool (!(inR x0.1 0 7))))) = AV.p (.c (.v (.bool false)))), True, (AV.p (.c (.v (.bool (!(isFmt x0.2.1 x0.2.2.1 x0.2.2.2.1))))) = AV.p (.c (.v (.bool false)))), (AV.p (.c (.v (.bool (!decide (((List.length x0.2.2.2.2.1 : Nat) : Int) = x0.2.2.1))))) = AV.p (.c (.v (.bool false)))), True] gamOK hT h (by kernel_rfl) ⟨trivial, hint_bool (h1), trivial, hint_bool (h2), hint_bool (ndT h3), trivial, trivial⟩ ?_
        intro a w h
        refine then_normal ?_
        refine at_test (!(inR x0.2.2.2.2.2 0 2147483646)) h (by kernel_rfl) (fun h4 => ?_) (fun h4 => ?_)
        · replace h4 : (inR x0.2.2.2.2.2 0 2147483646) = false := notT h4
          have hvh4 := inR_f h4
          refine wp_seq ?_
          refine at_regq (T := S_impl_IsValidManifest_tab) [] { ts := [1, 2], os := [1] } [] gamOK hT h (by kernel_rfl) trivial ?_
          intro a w h
          refine then_normal ?_
          refine wp_ret ?_
          refine then_ret ?_
          exact at_return (S := S_impl_IsValidManifest) (x := (x0, ())) (false, ()) [] h (by kernel_rfl) trivial (congrArg (fun z => (z, ())) (show (false) = validMan x0 from by first | rfl | (unfold validMan; rw [if_pos (notF h1), if_pos (notF h2), if_pos h3, if_neg (neT h4)]; done) | (unfold validMan; (repeat (first | rfl | split)) <;> (first | rfl | omega | (simp_all [-List.all_eq_true, -List.any_eq_true, -List.all_eq_false, -List.any_eq_false, D_slices_ContainsFunc_S_int_int__IsValidManifest_1, any_not]; done) | (simp_all [-List.all_eq_true, -List.any_eq_true, -List.all_eq_false, -List.any_eq_false, D_slices_ContainsFunc_S_int_int__IsValidManifest_1, any_not]; omega) | (exfalso; simp_all [-List.all_eq_true, -List.any_eq_true, -List.all_eq_false, -List.any_eq_false, D_slices_ContainsFunc_S_int_int__IsValidManifest_1, any_not]; omega)))))
        · replace h4 : (inR x0.2.2.2.2.2 0 2147483646) = true := notF h4
          have hvh4 := inR_t h4
          refine wp_skip ?_
          refine then_normal ?_
          refine wp_seq ?_
          refine at_regq (T := S_impl_IsValidManifest_tab) [{}, {}, { key := some 100007 }] { ts := [2], os := [] } [True] gamOK hT h (by kernel_rfl) ⟨trivial, trivial⟩ ?_
          intro a w h
          refine then_normal ?_
          refine wp_ret ?_
          exact at_return (S := S_impl_IsValidManifest) (x := (x0, ())) (!(D_slices_ContainsFunc_S_int_int__IsValidManifest_1 x0.2.2.2.2.1 ()), ()) [] h (by kernel_rfl) trivial (congrArg (fun z => (z, ())) (show (!(D_slices_ContainsFunc_S_int_int__IsValidManifest_1 x0.2.2.2.2.1 ())) = validMan x0 from by first | rfl | (unfold validMan; rw [if_pos (notF h1), if_pos (notF h2), if_pos h3, if_pos h4]; done) | (unfold validMan; (repeat (first | rfl | split)) <;> (first | rfl | omega | (simp_all [-List.all_eq_true, -List.any_eq_true, -List.all_eq_false, -List.any_eq_false, D_slices_ContainsFunc_S_int_int__IsValidManifest_1, any_not]; done) | (simp_all [-List.all_eq_true, -List.any_eq_true, -List.all_eq_false, -List.any_eq_false, D_slices_ContainsFunc_S_int_int__IsValidManifest_1, any_not]; omega) | (exfalso; simp_all [-List.all_eq_true, -List.any_eq_true, -List.all_eq_false, -List.any_eq_false, D_slices_ContainsFunc_S_int_int__IsValidManifest_1, any_not]; omega)))))
      · skip
        refine at_regq (T := S_impl_IsValidManifest_tab) [{}, {}, {}, { hint := some (aB false) }, {}, {}, {}, {}, {}, {}, {}, {}, { hint := some (aB false) }, {}, {}, {}, {}, {}, {}, {}, { hint := some (aB true) }] { ts := [1, 2, 30], os := [1] } [True, (AV.p (.c (.v (.bool (!(inR x0.1 0 7))))) = AV.p (.c (.v (.bool false)))), True, (AV.p (.c (.v (.bool (!(isFmt x0.2.1 x0.2.2.1 x0.2.2.2.1))))) = AV.p (.c (.v (.bool false)))), (AV.p (.c (.v (.bool (!decide (((List.length x0.2.2.2.2.1 : Nat) : Int) = x0.2.2.1))))) = AV.p (.c (.v (.bool true))))] gamOK hT h (by kernel_rfl) ⟨trivial, hint_bool (h1), trivial, hint_bool (h2), hint_bool (ndF h3), trivial⟩ ?_
        intro a w h
        refine then_normal ?_
        refine at_test true h (by kernel_rfl) (fun hh => ?_) (fun hh => nomatch hh)
        refine wp_seq ?_
        refine at_regq (T := S_impl_IsValidManifest_tab) [] { ts := [1, 2], os := [1] } [] gamOK hT h (by kernel_rfl) trivial ?_
        intro a w h
        refine then_normal ?_
        refine wp_ret ?_
        refine then_ret ?_
        exact at_return (S := S_impl_IsValidManifest) (x := (x0, ())) (false, ()) [] h (by kernel_rfl) trivial (congrArg (fun z => (z, ())) (show (false) = validMan x0 from by first | rfl | (unfold validMan; rw [if_pos (notF h1), if_pos (notF h2), if_neg h3]; done) | (unfold validMan; (repeat (first | rfl | split)) <;> (first | rfl | omega | (simp_all [-List.all_eq_true, -List.any_eq_true, -List.all_eq_false, -List.any_eq_false, D_slices_ContainsFunc_S_int_int__IsValidManifest_1, any_not]; done) | (simp_all [-List.all_eq_true, -List.any_eq_true, -List.all_eq_false, -List.any_eq_false, D_slices_ContainsFunc_S_int_int__IsValidManifest_1, any_not]; omega) | (exfalso; simp_all [-List.all_eq_true, -List.any_eq_true, -List.all_eq_false, -List.any_eq_false, D_slices_ContainsFunc_S_int_int__IsValidManifest_1, any_not]; omega)))))

def checkP (x0 : (List Int)) (x1 : T59) (x2 : T61) : Int := (if (validMan x1) = true then (if (validK x0) = true then (if x1.2.2.2.1 = ((List.length x0 : Nat) : Int) then (if (validP x2 x1.2.2.1 x1.2.2.2.1) = true then (if x2.1 = x1.2.1 then (if (verH x0 x1.2.2.2.2.1 x2) = true then 0 else 3) else 2) else 1) else 1) else 1) else 1)
def S_impl_CheckPacket : Sum := { fid := 196, dom := [s57, s59, s61], cod := [(.int 3)], dp := true, fz := false, pre := fun x => (fun (x0 : (List Int)) (x1 : T59) (x2 : T61) => Sh.fit s57 x0 ∧ Sh.fit s59 x1 ∧ Sh.fit s61 x2) x.1 x.2.1 x.2.2.1, g := fun x => ((checkP x.1 x.2.1 x.2.2.1), ()) }
def S_impl_CheckPacket_tab : List (Nat × Sum) := [(195, S_impl_IsValidManifest), (270, S_impl_IsValidHashKey), (230, S_impl_IsValidPacket), (271, S_impl_VerifyHash)]
theorem S_impl_CheckPacket_ok : FnOK Try.prog 196 S_impl_CheckPacket := by
  refine at_enter 46 (fun x => ⟨[(0, aG [.ro (.int 3) x.1]), (1, aG [cI x.2.1.1, cI x.2.1.2.1, cI x.2.1.2.2.1, cI x.2.1.2.2.2.1, .ro (.int 3) x.2.1.2.2.2.2.1, cI x.2.1.2.2.2.2.2]), (2, aG [cI x.2.2.1.1, .ro (.int 3) x.2.2.1.2.1, .ro (.int 3) x.2.2.1.2.2])], []⟩) Try.func196 rfl (by kernel_rfl) (fun x => rfl) ?_
  rintro w0 Z0 ⟨x0, x1, x2, u⟩ a w
  revert x0 x1 x2
  intro (x0 : (List Int)) (x1 : T59) (x2 : T61) hpre hlens h
  replace h : At w0 Z0 [] 46 ⟨[(0, aG [.ro (.int 3) x0]), (1, aG [cI x1.1, cI x1.2.1, cI x1.2.2.1, cI x1.2.2.2.1, .ro (.int 3) x1.2.2.2.2.1, cI x1.2.2.2.2.2]), (2, aG [cI x2.1, .ro (.int 3) x2.2.1, .ro (.int 3) x2.2.2])], []⟩ a w := h
  replace hpre : (fun (x0 : (List Int)) (x1 : T59) (x2 : T61) => Sh.fit s57 x0 ∧ Sh.fit s59 x1 ∧ Sh.fit s61 x2) x0 x1 x2 := hpre
  have hl1 : List.length x0 ≤ 9223372036854775807 := hlens.1.1
  have hl2 : List.length x1.2.2.2.2.1 ≤ 9223372036854775807 := hlens.2.1.2.2.2.2.1.1
  have hl3 : List.length x2.2.1 ≤ 9223372036854775807 := hlens.2.2.1.2.1.1
  have hl4 : List.length x2.2.2 ≤ 9223372036854775807 := hlens.2.2.1.2.2.1
  have hT : TabOK Try.prog S_impl_CheckPacket_tab := (.cons S_impl_IsValidManifest_ok (.cons S_impl_IsValidHashKey_ok (.cons S_impl_IsValidPacket_ok (.cons S_impl_VerifyHash_ok .nil))))
  obtain ⟨hf0, hf1, hf2⟩ := hpre
  have hn0_1 : List.length x0 ≤ 1073741824 := hf0.1
  have hn1_2 : List.length x1.2.2.2.2.1 ≤ 1073741824 := hf1.2.2.2.2.1.1
  have hn2_3 : List.length x2.2.1 ≤ 1073741824 := hf2.2.1.1
  have hn2_4 : List.length x2.2.2 ≤ 1073741824 := hf2.2.2.1
  refine wp_seq ?_
  refine at_regq (T := S_impl_CheckPacket_tab) [{ ids := [1] }, { ids := [2] }, { ids := [3] }] { ts := [3, 4, 5, 6], os := [1, 2, 3] } [] gamOK hT h (by kernel_rfl) trivial ?_
  intro a w h
  refine then_normal ?_
  refine wp_seq ?_
  refine wp_block ?_
  refine wp_seq ?_
  rcases Bool.eq_false_or_eq_true (!(validMan x1)) with h1 | h1
  · skip
    have hzh1 : (validMan x1) = false := notT h1
    refine at_regq (T := S_impl_CheckPacket_tab) [{}, {}, { hint := some (aB true) }] { ts := [3, 4, 5, 6, 7], os := [1, 2, 3] } [(fun (x0 : T59) => Sh.fit s59 x0) x1, (AV.p (.c (.v (.bool (!(validMan x1))))) = AV.p (.c (.v (.bool true))))] gamOK hT h (by kernel_rfl) ⟨(by exact hf1), hint_bool (h1), trivial⟩ ?_
    intro a w h
    refine then_normal ?_
    refine at_test true h (by kernel_rfl) (fun hh => ?_) (fun hh => nomatch hh)
    refine wp_seq ?_
    refine at_regq (T := S_impl_CheckPacket_tab) [] { ts := [6], os := [] } [] gamOK hT h (by kernel_rfl) trivial ?_
    intro a w h
    refine then_normal ?_
    refine wp_ret ?_
    refine in_ret ?_
    refine then_ret ?_
    exact at_return (S := S_impl_CheckPacket) (x := (x0, x1, x2, ())) (1, ()) [] h (by kernel_rfl) trivial (congrArg (fun z => (z, ())) (show (1) = checkP x0 x1 x2 from by first | rfl | (unfold checkP; rw [if_neg (neT (notT h1))])))
  · skip
    have hzh1 : (validMan x1) = true := notF h1
    rcases Bool.eq_false_or_eq_true (!(validK x0)) with h2 | h2
    · skip
      have hzh2 : (validK x0) = false := notT h2
      refine at_regq (T := S_impl_CheckPacket_tab) [{}, {}, { hint := some (aB false) }, {}, {}, {}, { hint := some (aB true) }] { ts := [3, 4, 5, 6, 7], os := [1, 2, 3] } [(fun (x0 : T59) => Sh.fit s59 x0) x1, (AV.p (.c (.v (.bool (!(validMan x1))))) = AV.p (.c (.v (.bool false)))), (fun (x0 : (List Int)) => Sh.fit s57 x0) x0, (AV.p (.c (.v (.bool (!(validK x0))))) = AV.p (.c (.v (.bool true))))] gamOK hT h (by kernel_rfl) ⟨(by exact hf1), hint_bool (h1), (by exact hf0), hint_bool (h2), trivial⟩ ?_
      intro a w h
      refine then_normal ?_
      refine at_test true h (by kernel_rfl) (fun hh => ?_) (fun hh => nomatch hh)
      refine wp_seq ?_
      refine at_regq (T := S_impl_CheckPacket_tab) [] { ts := [6], os := [] } [] gamOK hT h (by kernel_rfl) trivial ?_
      intro a w h
      refine then_normal ?_
      refine wp_ret ?_
      refine in_ret ?_
      refine then_ret ?_
      exact at_return (S := S_impl_CheckPacket) (x := (x0, x1, x2, ())) (1, ()) [] h (by kernel_rfl) trivial (congrArg (fun z => (z, ())) (show (1) = checkP x0 x1 x2 from by first | rfl | (unfold checkP; rw [if_pos (notF h1), if_neg (neT (notT h2))])))
    · skip
      have hzh2 : (validK x0) = true := notF h2
      have hvh2 := validK_t (notF h2)
      by_cases h3 : x1.2.2.2.1 = ((List.length x0 : Nat) : Int)
      · skip
        refine at_regq (T := S_impl_CheckPacket_tab) [{}, {}, { hint := some (aB false) }, {}, {}, {}, { hint := some (aB false) }, {}, {}, {}, {}, {}, {}, {}, { hint := some (aB false) }] { ts := [3, 4, 5, 6, 7], os := [1, 2, 3] } [(fun (x0 : T59) => Sh.fit s59 x0) x1, (AV.p (.c (.v (.bool (!(validMan x1))))) = AV.p (.c (.v (.bool false)))), (fun (x0 : (List Int)) => Sh.fit s57 x0) x0, (AV.p (.c (.v (.bool (!(validK x0))))) = AV.p (.c (.v (.bool false)))), (AV.p (.c (.v (.bool (!decide (x1.2.2.2.1 = ((List.length x0 : Nat) : Int)))))) = AV.p (.c (.v (.bool false)))), (fun (x0 : T61) (x1 : Int) (x2 : Int) => Sh.fit s61 x0) x2 x1.2.2.1 x1.2.2.2.1] gamOK hT h (by kernel_rfl) ⟨(by exact hf1), hint_bool (h1), (by exact hf0), hint_bool (h2), hint_bool (ndT h3), (by exact hf2), trivial⟩ ?_
        intro a w h
        refine then_normal ?_
        refine at_test (!(validP x2 x1.2.2.1 x1.2.2.2.1)) h (by kernel_rfl) (fun h4 => ?_) (fun h4 => ?_)
        · replace h4 : (validP x2 x1.2.2.1 x1.2.2.2.1) = false := notT h4
          refine wp_seq ?_
          refine at_regq (T := S_impl_CheckPacket_tab) [] { ts := [6], os := [] } [] gamOK hT h (by kernel_rfl) trivial ?_
          intro a w h
          refine then_normal ?_
          refine wp_ret ?_
          refine in_ret ?_
          refine then_ret ?_
          exact at_return (S := S_impl_CheckPacket) (x := (x0, x1, x2, ())) (1, ()) [] h (by kernel_rfl) trivial (congrArg (fun z => (z, ())) (show (1) = checkP x0 x1 x2 from by first | rfl | (unfold checkP; rw [if_pos (notF h1), if_pos (notF h2), if_pos h3, if_neg (neT h4)])))
        · replace h4 : (validP x2 x1.2.2.1 x1.2.2.2.1) = true := notF h4
          have hvh4 := validP_n h4
          refine wp_seq ?_
          refine at_regq (T := S_impl_CheckPacket_tab) [] { ts := [3, 4, 5, 6, 33], os := [1, 2, 3] } [] gamOK hT h (by kernel_rfl) trivial ?_
          intro a w h
          refine then_normal ?_
          refine at_test (!decide (x2.1 = x1.2.1)) h (by kernel_rfl) (fun h5 => ?_) (fun h5 => ?_)
          · replace h5 : ¬ (x2.1 = x1.2.1) := of_decide_eq_false (notT h5)
            refine wp_seq ?_
            refine at_reg (T := S_impl_CheckPacket_tab) [] { ts := [6], os := [] } ⟨[(6, aI 2)], []⟩ [] gamOK hT h (by kernel_rfl) trivial ?_
            intro a w h
            refine then_normal ?_
            refine wp_ret ?_
            refine in_ret ?_
            refine then_ret ?_
            exact at_return (S := S_impl_CheckPacket) (x := (x0, x1, x2, ())) (2, ()) [] h (by kernel_rfl) trivial (congrArg (fun z => (z, ())) (show (2) = checkP x0 x1 x2 from by first | rfl | (unfold checkP; rw [if_pos (notF h1), if_pos (notF h2), if_pos h3, if_pos h4, if_neg h5])))
          · replace h5 : x2.1 = x1.2.1 := of_decide_eq_true (notF h5)
            refine wp_seq ?_
            refine at_reg (T := S_impl_CheckPacket_tab) [] { ts := [6, 39], os := [] } ⟨[(6, aI 0), (39, aB (!(verH x0 x1.2.2.2.2.1 x2)))], []⟩ [(fun (x0 : (List Int)) (x1 : (List Int)) (x2 : T61) => Sh.fit s57 x0 ∧ Sh.fit s22 x1 ∧ Sh.fit s61 x2) x0 x1.2.2.2.2.1 x2] gamOK hT h (by kernel_rfl) ⟨(by exact ⟨hf0, hf1.2.2.2.2.1, hf2⟩), trivial⟩ ?_
            intro a w h
            refine then_normal ?_
            refine at_test (!(verH x0 x1.2.2.2.2.1 x2)) h (by kernel_rfl) (fun h6 => ?_) (fun h6 => ?_)
            · replace h6 : (verH x0 x1.2.2.2.2.1 x2) = false := notT h6
              refine wp_seq ?_
              refine at_regq (T := S_impl_CheckPacket_tab) [] { ts := [6], os := [] } [] gamOK hT h (by kernel_rfl) trivial ?_
              intro a w h
              refine then_normal ?_
              refine wp_ret ?_
              refine in_ret ?_
              refine then_ret ?_
              exact at_return (S := S_impl_CheckPacket) (x := (x0, x1, x2, ())) (3, ()) [] h (by kernel_rfl) trivial (congrArg (fun z => (z, ())) (show (3) = checkP x0 x1 x2 from by first | rfl | (unfold checkP; rw [if_pos (notF h1), if_pos (notF h2), if_pos h3, if_pos h4, if_pos h5, if_neg (neT h6)])))
            · replace h6 : (verH x0 x1.2.2.2.2.1 x2) = true := notF h6
              refine wp_skip ?_
              refine in_normal ?_
              refine then_normal ?_
              refine wp_seq ?_
              refine at_regq (T := S_impl_CheckPacket_tab) [] { ts := [6], os := [] } [] gamOK hT h (by kernel_rfl) trivial ?_
              intro a w h
              refine then_normal ?_
              refine wp_ret ?_
              exact at_return (S := S_impl_CheckPacket) (x := (x0, x1, x2, ())) (0, ()) [] h (by kernel_rfl) trivial (congrArg (fun z => (z, ())) (show (0) = checkP x0 x1 x2 from by first | rfl | (unfold checkP; rw [if_pos (notF h1), if_pos (notF h2), if_pos h3, if_pos h4, if_pos h5, if_pos h6])))
      · skip
        refine at_regq (T := S_impl_CheckPacket_tab) [{}, {}, { hint := some (aB false) }, {}, {}, {}, { hint := some (aB false) }, {}, {}, {}, {}, {}, {}, {}, { hint := some (aB true) }] { ts := [3, 4, 5, 6, 7], os := [1, 2, 3] } [(fun (x0 : T59) => Sh.fit s59 x0) x1, (AV.p (.c (.v (.bool (!(validMan x1))))) = AV.p (.c (.v (.bool false)))), (fun (x0 : (List Int)) => Sh.fit s57 x0) x0, (AV.p (.c (.v (.bool (!(validK x0))))) = AV.p (.c (.v (.bool false)))), (AV.p (.c (.v (.bool (!decide (x1.2.2.2.1 = ((List.length x0 : Nat) : Int)))))) = AV.p (.c (.v (.bool true))))] gamOK hT h (by kernel_rfl) ⟨(by exact hf1), hint_bool (h1), (by exact hf0), hint_bool (h2), hint_bool (ndF h3), trivial⟩ ?_
        intro a w h
        refine then_normal ?_
        refine at_test true h (by kernel_rfl) (fun hh => ?_) (fun hh => nomatch hh)
        refine wp_seq ?_
        refine at_regq (T := S_impl_CheckPacket_tab) [] { ts := [6], os := [] } [] gamOK hT h (by kernel_rfl) trivial ?_
        intro a w h
        refine then_normal ?_
        refine wp_ret ?_
        refine in_ret ?_
        refine then_ret ?_
        exact at_return (S := S_impl_CheckPacket) (x := (x0, x1, x2, ())) (1, ()) [] h (by kernel_rfl) trivial (congrArg (fun z => (z, ())) (show (1) = checkP x0 x1 x2 from by first | rfl | (unfold checkP; rw [if_pos (notF h1), if_pos (notF h2), if_neg h3])))

def S_spec_CheckPacket : Sum := { fid := 190, dom := [s57, s59, s61], cod := [(.int 3)], dp := true, fz := false, pre := fun x => (fun (x0 : (List Int)) (x1 : T59) (x2 : T61) => Sh.fit s57 x0 ∧ Sh.fit s59 x1 ∧ Sh.fit s61 x2) x.1 x.2.1 x.2.2.1, g := fun x => ((checkP x.1 x.2.1 x.2.2.1), ()) }
def S_spec_CheckPacket_tab : List (Nat × Sum) := [(189, S_spec_IsValidManifest), (264, S_spec_IsValidHashKey), (142, S_spec_IsValidPacket), (265, S_spec_VerifyHash)]
theorem S_spec_CheckPacket_ok : FnOK Try.prog 190 S_spec_CheckPacket := by
  refine at_enter 46 (fun x => ⟨[(0, aG [.ro (.int 3) x.1]), (1, aG [cI x.2.1.1, cI x.2.1.2.1, cI x.2.1.2.2.1, cI x.2.1.2.2.2.1, .ro (.int 3) x.2.1.2.2.2.2.1, cI x.2.1.2.2.2.2.2]), (2, aG [cI x.2.2.1.1, .ro (.int 3) x.2.2.1.2.1, .ro (.int 3) x.2.2.1.2.2])], []⟩) Try.func190 rfl (by kernel_rfl) (fun x => rfl) ?_
  rintro w0 Z0 ⟨x0, x1, x2, u⟩ a w
  revert x0 x1 x2
  intro (x0 : (List Int)) (x1 : T59) (x2 : T61) hpre hlens h
  replace h : At w0 Z0 [] 46 ⟨[(0, aG [.ro (.int 3) x0]), (1, aG [cI x1.1, cI x1.2.1, cI x1.2.2.1, cI x1.2.2.2.1, .ro (.int 3) x1.2.2.2.2.1, cI x1.2.2.2.2.2]), (2, aG [cI x2.1, .ro (.int 3) x2.2.1, .ro (.int 3) x2.2.2])], []⟩ a w := h
  replace hpre : (fun (x0 : (List Int)) (x1 : T59) (x2 : T61) => Sh.fit s57 x0 ∧ Sh.fit s59 x1 ∧ Sh.fit s61 x2) x0 x1 x2 := hpre
  have hl1 : List.length x0 ≤ 9223372036854775807 := hlens.1.1
  have hl2 : List.length x1.2.2.2.2.1 ≤ 9223372036854775807 := hlens.2.1.2.2.2.2.1.1
  have hl3 : List.length x2.2.1 ≤ 9223372036854775807 := hlens.2.2.1.2.1.1
  have hl4 : List.length x2.2.2 ≤ 9223372036854775807 := hlens.2.2.1.2.2.1
  have hT : TabOK Try.prog S_spec_CheckPacket_tab := (.cons S_spec_IsValidManifest_ok (.cons S_spec_IsValidHashKey_ok (.cons S_spec_IsValidPacket_ok (.cons S_spec_VerifyHash_ok .nil))))
  obtain ⟨hf0, hf1, hf2⟩ := hpre
  have hn0_1 : List.length x0 ≤ 1073741824 := hf0.1
  have hn1_2 : List.length x1.2.2.2.2.1 ≤ 1073741824 := hf1.2.2.2.2.1.1
  have hn2_3 : List.length x2.2.1 ≤ 1073741824 := hf2.2.1.1
  have hn2_4 : List.length x2.2.2 ≤ 1073741824 := hf2.2.2.1
  refine wp_seq ?_
  refine at_regq (T := S_spec_CheckPacket_tab) [{ ids := [1] }, { ids := [2] }, { ids := [3] }] { ts := [3, 4, 5, 6], os := [1, 2, 3] } [] gamOK hT h (by kernel_rfl) trivial ?_
  intro a w h
  refine then_normal ?_
  refine wp_seq ?_
  refine wp_block ?_
  refine wp_seq ?_
  rcases Bool.eq_false_or_eq_true (!(validMan x1)) with h1 | h1
  · skip
    have hzh1 : (validMan x1) = false := notT h1
    refine at_regq (T := S_spec_CheckPacket_tab) [{}, {}, { hint := some (aB true) }] { ts := [3, 4, 5, 6, 7], os := [1, 2, 3] } [(fun (x0 : T59) => Sh.fit s59 x0) x1, (AV.p (.c (.v (.bool (!(validMan x1))))) = AV.p (.c (.v (.bool true))))] gamOK hT h (by kernel_rfl) ⟨(by exact hf1), hint_bool (h1), trivial⟩ ?_
    intro a w h
    refine then_normal ?_
    refine at_test true h (by kernel_rfl) (fun hh => ?_) (fun hh => nomatch hh)
    refine wp_seq ?_
    refine at_regq (T := S_spec_CheckPacket_tab) [] { ts := [6], os := [] } [] gamOK hT h (by kernel_rfl) trivial ?_
    intro a w h
    refine then_normal ?_
    refine wp_ret ?_
    refine in_ret ?_
    refine then_ret ?_
    exact at_return (S := S_spec_CheckPacket) (x := (x0, x1, x2, ())) (1, ()) [] h (by kernel_rfl) trivial (congrArg (fun z => (z, ())) (show (1) = checkP x0 x1 x2 from by first | rfl | (unfold checkP; rw [if_neg (neT (notT h1))]; done) | (unfold checkP; simp_all)))
  · skip
    have hzh1 : (validMan x1) = true := notF h1
    rcases Bool.eq_false_or_eq_true (!(validK x0)) with h2 | h2
    · skip
      have hzh2 : (validK x0) = false := notT h2
      refine at_regq (T := S_spec_CheckPacket_tab) [{}, {}, { hint := some (aB false) }, {}, {}, {}, { hint := some (aB true) }] { ts := [3, 4, 5, 6, 7], os := [1, 2, 3] } [(fun (x0 : T59) => Sh.fit s59 x0) x1, (AV.p (.c (.v (.bool (!(validMan x1))))) = AV.p (.c (.v (.bool false)))), (fun (x0 : (List Int)) => Sh.fit s57 x0) x0, (AV.p (.c (.v (.bool (!(validK x0))))) = AV.p (.c (.v (.bool true))))] gamOK hT h (by kernel_rfl) ⟨(by exact hf1), hint_bool (h1), (by exact hf0), hint_bool (h2), trivial⟩ ?_
      intro a w h
      refine then_normal ?_
      refine at_test true h (by kernel_rfl) (fun hh => ?_) (fun hh => nomatch hh)
      refine wp_seq ?_
      refine at_regq (T := S_spec_CheckPacket_tab) [] { ts := [6], os := [] } [] gamOK hT h (by kernel_rfl) trivial ?_
      intro a w h
      refine then_normal ?_
      refine wp_ret ?_
      refine in_ret ?_
      refine then_ret ?_
      exact at_return (S := S_spec_CheckPacket) (x := (x0, x1, x2, ())) (1, ()) [] h (by kernel_rfl) trivial (congrArg (fun z => (z, ())) (show (1) = checkP x0 x1 x2 from by first | rfl | (unfold checkP; rw [if_pos (notF h1), if_neg (neT (notT h2))]; done) | (unfold checkP; simp_all)))
    · skip
      have hzh2 : (validK x0) = true := notF h2
      have hvh2 := validK_t (notF h2)
      by_cases h3 : x1.2.2.2.1 = ((List.length x0 : Nat) : Int)
      · skip
        refine at_regq (T := S_spec_CheckPacket_tab) [{}, {}, { hint := some (aB false) }, {}, {}, {}, { hint := some (aB false) }, {}, {}, {}, {}, {}, {}, {}, { hint := some (aB false) }] { ts := [3, 4, 5, 6, 7], os := [1, 2, 3] } [(fun (x0 : T59) => Sh.fit s59 x0) x1, (AV.p (.c (.v (.bool (!(validMan x1))))) = AV.p (.c (.v (.bool false)))), (fun (x0 : (List Int)) => Sh.fit s57 x0) x0, (AV.p (.c (.v (.bool (!(validK x0))))) = AV.p (.c (.v (.bool false)))), (AV.p (.c (.v (.bool (!decide (x1.2.2.2.1 = ((List.length x0 : Nat) : Int)))))) = AV.p (.c (.v (.bool false)))), (fun (x0 : T61) (x1 : Int) (x2 : Int) => Sh.fit s61 x0) x2 x1.2.2.1 x1.2.2.2.1] gamOK hT h (by kernel_rfl) ⟨(by exact hf1), hint_bool (h1), (by exact hf0), hint_bool (h2), hint_bool (ndT h3), (by exact hf2), trivial⟩ ?_
        intro a w h
        refine then_normal ?_
        refine at_test (!(validP x2 x1.2.2.1 x1.2.2.2.1)) h (by kernel_rfl) (fun h4 => ?_) (fun h4 => ?_)
        · replace h4 : (validP x2 x1.2.2.1 x1.2.2.2.1) = false := notT h4
          refine wp_seq ?_
          refine at_regq (T := S_spec_CheckPacket_tab) [] { ts := [6], os := [] } [] gamOK hT h (by kernel_rfl) trivial ?_
          intro a w h
          refine then_normal ?_
          refine wp_ret ?_
          refine in_ret ?_
          refine then_ret ?_
          exact at_return (S := S_spec_CheckPacket) (x := (x0, x1, x2, ())) (1, ()) [] h (by kernel_rfl) trivial (congrArg (fun z => (z, ())) (show (1) = checkP x0 x1 x2 from by first | rfl | (unfold checkP; rw [if_pos (notF h1), if_pos (notF h2), if_pos h3, if_neg (neT h4)]; done) | (unfold checkP; simp_all)))
        · replace h4 : (validP x2 x1.2.2.1 x1.2.2.2.1) = true := notF h4
          have hvh4 := validP_n h4
          refine wp_seq ?_
          refine at_regq (T := S_spec_CheckPacket_tab) [] { ts := [3, 4, 5, 6, 33], os := [1, 2, 3] } [] gamOK hT h (by kernel_rfl) trivial ?_
          intro a w h
          refine then_normal ?_
          refine at_test (!decide (x2.1 = x1.2.1)) h (by kernel_rfl) (fun h5 => ?_) (fun h5 => ?_)
          · replace h5 : ¬ (x2.1 = x1.2.1) := of_decide_eq_false (notT h5)
            refine wp_seq ?_
            refine at_reg (T := S_spec_CheckPacket_tab) [] { ts := [6], os := [] } ⟨[(6, aI 2)], []⟩ [] gamOK hT h (by kernel_rfl) trivial ?_
            intro a w h
            refine then_normal ?_
            refine wp_ret ?_
            refine in_ret ?_
            refine then_ret ?_
            exact at_return (S := S_spec_CheckPacket) (x := (x0, x1, x2, ())) (2, ()) [] h (by kernel_rfl) trivial (congrArg (fun z => (z, ())) (show (2) = checkP x0 x1 x2 from by first | rfl | (unfold checkP; rw [if_pos (notF h1), if_pos (notF h2), if_pos h3, if_pos h4, if_neg h5]; done) | (unfold checkP; simp_all)))
          · replace h5 : x2.1 = x1.2.1 := of_decide_eq_true (notF h5)
            refine wp_seq ?_
            refine at_reg (T := S_spec_CheckPacket_tab) [] { ts := [6, 39], os := [] } ⟨[(6, aI 0), (39, aB (!(verH x0 x1.2.2.2.2.1 x2)))], []⟩ [(fun (x0 : (List Int)) (x1 : (List Int)) (x2 : T61) => Sh.fit s57 x0 ∧ Sh.fit s22 x1 ∧ Sh.fit s61 x2) x0 x1.2.2.2.2.1 x2] gamOK hT h (by kernel_rfl) ⟨(by exact ⟨hf0, hf1.2.2.2.2.1, hf2⟩), trivial⟩ ?_
            intro a w h
            refine then_normal ?_
            refine at_test (!(verH x0 x1.2.2.2.2.1 x2)) h (by kernel_rfl) (fun h6 => ?_) (fun h6 => ?_)
            · replace h6 : (verH x0 x1.2.2.2.2.1 x2) = false := notT h6
              refine wp_seq ?_
              refine at_regq (T := S_spec_CheckPacket_tab) [] { ts := [6], os := [] } [] gamOK hT h (by kernel_rfl) trivial ?_
              intro a w h
              refine then_normal ?_
              refine wp_ret ?_
              refine in_ret ?_
              refine then_ret ?_
              exact at_return (S := S_spec_CheckPacket) (x := (x0, x1, x2, ())) (3, ()) [] h (by kernel_rfl) trivial (congrArg (fun z => (z, ())) (show (3) = checkP x0 x1 x2 from by first | rfl | (unfold checkP; rw [if_pos (notF h1), if_pos (notF h2), if_pos h3, if_pos h4, if_pos h5, if_neg (neT h6)]; done) | (unfold checkP; simp_all)))
            · replace h6 : (verH x0 x1.2.2.2.2.1 x2) = true := notF h6
              refine wp_skip ?_
              refine in_normal ?_
              refine then_normal ?_
              refine wp_seq ?_
              refine at_regq (T := S_spec_CheckPacket_tab) [] { ts := [6], os := [] } [] gamOK hT h (by kernel_rfl) trivial ?_
              intro a w h
              refine then_normal ?_
              refine wp_ret ?_
              exact at_return (S := S_spec_CheckPacket) (x := (x0, x1, x2, ())) (0, ()) [] h (by kernel_rfl) trivial (congrArg (fun z => (z, ())) (show (0) = checkP x0 x1 x2 from by first | rfl | (unfold checkP; rw [if_pos (notF h1), if_pos (notF h2), if_pos h3, if_pos h4, if_pos h5, if_pos h6]; done) | (unfold checkP; simp_all)))
      · skip
        refine at_regq (T := S_spec_CheckPacket_tab) [{}, {}, { hint := some (aB false) }, {}, {}, {}, { hint := some (aB false) }, {}, {}, {}, {}, {}, {}, {}, { hint := some (aB true) }] { ts := [3, 4, 5, 6, 7], os := [1, 2, 3] } [(fun (x0 : T59) => Sh.fit s59 x0) x1, (AV.p (.c (.v (.bool (!(validMan x1))))) = AV.p (.c (.v (.bool false)))), (fun (x0 : (List Int)) => Sh.fit s57 x0) x0, (AV.p (.c (.v (.bool (!(validK x0))))) = AV.p (.c (.v (.bool false)))), (AV.p (.c (.v (.bool (!decide (x1.2.2.2.1 = ((List.length x0 : Nat) : Int)))))) = AV.p (.c (.v (.bool true))))] gamOK hT h (by kernel_rfl) ⟨(by exact hf1), hint_bool (h1), (by exact hf0), hint_bool (h2), hint_bool (ndF h3), trivial⟩ ?_
        intro a w h
        refine then_normal ?_
        refine at_test true h (by kernel_rfl) (fun hh => ?_) (fun hh => nomatch hh)
        refine wp_seq ?_
        refine at_regq (T := S_spec_CheckPacket_tab) [] { ts := [6], os := [] } [] gamOK hT h (by kernel_rfl) trivial ?_
        intro a w h
        refine then_normal ?_
        refine wp_ret ?_
        refine in_ret ?_
        refine then_ret ?_
        exact at_return (S := S_spec_CheckPacket) (x := (x0, x1, x2, ())) (1, ()) [] h (by kernel_rfl) trivial (congrArg (fun z => (z, ())) (show (1) = checkP x0 x1 x2 from by first | rfl | (unfold checkP; rw [if_pos (notF h1), if_pos (notF h2), if_neg h3]; done) | (unfold checkP; simp_all)))
def filterP (k : (List Int)) (m : T59) (xs : List T61) : List T61 := List.filter (fun p => decide (checkP k m p = 0)) xs

def validLg (x0 : (List T159)) : Bool := (if (allN (fun i => (inR (x0.getD i (0, (0, 0))).1 0 7 && inR (x0.getD i (0, (0, 0))).2.1 0 1000000000000) && !(List.any (List.take i x0) fun e => Sh.eqB s159 (x0.getD i (0, (0, 0))) e)) (List.length x0)) = true then decide (((List.length x0 : Nat) : Int) ≤ 40) else false)
def S_impl_IsValidLedger : Sum := { fid := 98, dom := [s53], cod := [(.bool 4)], dp := true, fz := false, pre := fun x => (fun (x0 : (List T159)) => Sh.fit s53 x0) x.1, g := fun x => ((validLg x.1), ()) }
def S_impl_IsValidLedger_tab : List (Nat × Sum) := [(107, S_impl_InRange), (197, S_slices_Contains_S_impl_Proof_impl_Proof_)]
theorem S_impl_IsValidLedger_ok : FnOK Try.prog 98 S_impl_IsValidLedger := by
  refine at_enter 36 (fun x => ⟨[(0, aG [.ro s159 x.1])], []⟩) Try.func98 rfl (by kernel_rfl) (fun x => rfl) ?_
  rintro w0 Z0 ⟨x0, u⟩ a w
  revert x0
  intro (x0 : (List T159)) hpre hlens h
  replace h : At w0 Z0 [] 36 ⟨[(0, aG [.ro s159 x0])], []⟩ a w := h
  replace hpre : (fun (x0 : (List T159)) => Sh.fit s53 x0) x0 := hpre
  have hl1 : List.length x0 ≤ 9223372036854775807 := hlens.1.1
  have hT : TabOK Try.prog S_impl_IsValidLedger_tab := (.cons S_impl_InRange_ok (.cons S_slices_Contains_S_impl_Proof_impl_Proof__ok .nil))
  have hf0 : Sh.fit s53 x0 := hpre
  have hn0_1 : List.length x0 ≤ 1073741824 := hf0.1
  refine wp_seq ?_
  refine at_regq (T := S_impl_IsValidLedger_tab) [{ ids := [1] }] { ts := [1, 2], os := [1] } [] gamOK hT h (by kernel_rfl) trivial ?_
  intro a w h
  refine then_normal ?_
  refine wp_seq ?_
  refine wp_seq ?_
  refine at_regq (T := S_impl_IsValidLedger_tab) [] { ts := [1, 2, 6, 7, 8], os := [1] } [] gamOK hT h (by kernel_rfl) trivial ?_
  intro a w h
  refine then_normal ?_
  refine wp_block ?_
  replace h := at_out (σ' := ⟨[(1, aP 1 0), (2, aB false), (6, aF s159 x0), (7, aI ((List.length x0 : Nat) : Int)), (8, aI 0)], [(1, oX 53 [.ro s159 x0])]⟩) { ts := [1, 2, 6, 7, 8], os := [1] } h (by kernel_rfl)
  refine at_loop (fun i : Nat => (⟨[(1, aP 1 0), (2, aB false), (6, aF s159 x0), (7, aI ((List.length x0 : Nat) : Int)), (8, aI ((i : Nat) : Int))], [(1, oX 53 [.ro s159 x0])]⟩ : St)) (fun i => (i ≤ (List.length x0) ∧ allN (fun i => (inR (x0.getD i (0, (0, 0))).1 0 7 && inR (x0.getD i (0, (0, 0))).2.1 0 1000000000000) && !(List.any (List.take i x0) fun e => Sh.eqB s159 (x0.getD i (0, (0, 0))) e)) i = true)) (fun i => (List.length x0) - i) (0) h (st_congr1 (fun (d0 : Int) => (⟨[(1, aP 1 0), (2, aB false), (6, aF s159 x0), (7, aI ((List.length x0 : Nat) : Int)), (8, aI d0)], [(1, oX 53 [.ro s159 x0])]⟩ : St)) (show (0 : Int) = (((0) : Nat) : Int) from by first | with_reducible rfl | (rfl) | rfl)) (by exact ⟨Nat.zero_le _, rfl⟩) ?_
  intro i a w hok0 h
  refine wp_seq ?_
  refine at_regq (T := S_impl_IsValidLedger_tab) [] { ts := [1, 2, 6, 7, 8, 9], os := [1] } [] gamOK hT h (by kernel_rfl) trivial ?_
  intro a w h
  refine then_normal ?_
  refine wp_seq ?_
  refine at_test (decide (((i : Nat) : Int) < ((List.length x0 : Nat) : Int))) h (by kernel_rfl) (fun h1 => ?_) (fun h1 => ?_)
  · replace h1 : ((i : Nat) : Int) < ((List.length x0 : Nat) : Int) := of_decide_eq_true h1
    refine wp_skip ?_
    refine then_normal ?_
    refine wp_seq ?_
    refine wp_block ?_
    refine wp_seq ?_
    refine at_reg (T := S_impl_IsValidLedger_tab) [{}, {}, {}, { ids := [2] }] { ts := [1, 2, 3, 4, 6, 7, 8], os := [1, 2] } ⟨[(1, aP 1 0), (2, aB false), (3, aI ((i : Nat) : Int)), (4, aP 2 0), (6, aF s159 x0), (7, aI ((List.length x0 : Nat) : Int)), (8, aI ((i : Nat) : Int))], [(1, oX 53 [.ro s159 x0]), (2, oX 159 [cI (x0.getD i (0, (0, 0))).1, cI (x0.getD i (0, (0, 0))).2.1, cI (x0.getD i (0, (0, 0))).2.2])]⟩ [(0 : Int) ≤ ((i : Nat) : Int) ∧ ((i : Nat) : Int) < ((List.length x0 : Nat) : Int)] gamOK hT h (by kernel_rfl) ⟨(by refine ⟨?_, ?_⟩ <;> (first | omega | (simp only [List.length_append, List.length_cons, List.length_nil, List.length_set, List.length_take, List.length_drop, List.length_replicate, List.length_map, Nat.min_def]; omega) | (simp; done) | (simp; omega) | done)), trivial⟩ ?_
    intro a w h
    refine then_normal ?_
    refine wp_seq ?_
    rcases Bool.eq_false_or_eq_true (!(inR (x0.getD i (0, (0, 0))).1 0 7)) with h2 | h2
    · skip
      have hzh2 : (inR (x0.getD i (0, (0, 0))).1 0 7) = false := notT h2
      have hvh2 := inR_f (notT h2)
      refine at_anyq (T := S_impl_IsValidLedger_tab) [{}, {}, {}, { hint := some (aB true) }, {}, {}, {}, {}, {}, {}, {}, {}, {}, {}, {}, {}, {}, {}] { ts := [1, 2, 6, 7, 8, 18, 19, 20, 21, 24, 25, 26, 27, 28, 29, 30], os := [1] } [True, (AV.p (.c (.v (.bool (!(inR (x0.getD i (0, (0, 0))).1 0 7))))) = AV.p (.c (.v (.bool true))))] gamOK hT mixed h (by kernel_rfl) ⟨trivial, hint_bool (h2), trivial⟩ ?_
      intro a w h
      refine then_normal ?_
      refine at_test true h (by kernel_rfl) (fun hh => ?_) (fun hh => nomatch hh)
      refine wp_seq ?_
      refine at_regq (T := S_impl_IsValidLedger_tab) [] { ts := [1, 2, 6, 7, 8, 18, 19, 20, 21, 24, 25, 26, 27, 28, 29], os := [1] } [] gamOK hT h (by kernel_rfl) trivial ?_
      intro a w h
      refine then_normal ?_
      refine wp_ret ?_
      refine in_ret ?_
      refine then_ret ?_
      have hs3 : (allN (fun i => (inR (x0.getD i (0, (0, 0))).1 0 7 && inR (x0.getD i (0, (0, 0))).2.1 0 1000000000000) && !(List.any (List.take i x0) fun e => Sh.eqB s159 (x0.getD i (0, (0, 0))) e)) (List.length x0)) = false := by exact allN_at (i := i) (by omega) (by (show ((inR _ 0 7 && inR _ 0 1000000000000) && !(List.any _ _)) = false; first | (rw [show inR (x0.getD i (0, (0, 0))).1 0 7 = false by assumption]; rfl) | (rw [show inR (x0.getD i (0, (0, 0))).2.1 0 1000000000000 = false by assumption, Bool.and_false]; rfl) | (rw [Bool.and_eq_false_iff]; right; simp only [Bool.not_eq_false']; assumption)))
      refine then_ret ?_
      refine in_ret ?_
      refine then_ret ?_
      exact at_return (S := S_impl_IsValidLedger) (x := (x0, ())) (false, ()) [] h (by kernel_rfl) trivial (congrArg (fun z => (z, ())) (show (false) = validLg x0 from by first | rfl | (unfold validLg; rw [if_neg (neT hs3)])))
    · skip
      have hzh2 : (inR (x0.getD i (0, (0, 0))).1 0 7) = true := notF h2
      have hvh2 := inR_t (notF h2)
      rcases Bool.eq_false_or_eq_true (!(inR (x0.getD i (0, (0, 0))).2.1 0 1000000000000)) with h4 | h4
      · skip
        have hzh4 : (inR (x0.getD i (0, (0, 0))).2.1 0 1000000000000) = false := notT h4
        have hvh4 := inR_f (notT h4)
        refine at_anyq (T := S_impl_IsValidLedger_tab) [{}, {}, {}, { hint := some (aB false) }, {}, {}, {}, {}, { hint := some (aB true) }, {}, {}, {}, {}, {}, {}, {}, {}, {}] { ts := [1, 2, 6, 7, 8, 18, 19, 20, 21, 24, 25, 26, 27, 28, 29, 30], os := [1, 2] } [True, (AV.p (.c (.v (.bool (!(inR (x0.getD i (0, (0, 0))).1 0 7))))) = AV.p (.c (.v (.bool false)))), True, (AV.p (.c (.v (.bool (!(inR (x0.getD i (0, (0, 0))).2.1 0 1000000000000))))) = AV.p (.c (.v (.bool true))))] gamOK hT mixed h (by kernel_rfl) ⟨trivial, hint_bool (h2), trivial, hint_bool (h4), trivial⟩ ?_
        intro a w h
        refine then_normal ?_
        refine at_test true h (by kernel_rfl) (fun hh => ?_) (fun hh => nomatch hh)
        refine wp_seq ?_
        refine at_regq (T := S_impl_IsValidLedger_tab) [] { ts := [1, 2, 6, 7, 8, 18, 19, 20, 21, 24, 25, 26, 27, 28, 29], os := [1, 2] } [] gamOK hT h (by kernel_rfl) trivial ?_
        intro a w h
        refine then_normal ?_
        refine wp_ret ?_
        refine in_ret ?_
        refine then_ret ?_
        have hs5 : (allN (fun i => (inR (x0.getD i (0, (0, 0))).1 0 7 && inR (x0.getD i (0, (0, 0))).2.1 0 1000000000000) && !(List.any (List.take i x0) fun e => Sh.eqB s159 (x0.getD i (0, (0, 0))) e)) (List.length x0)) = false := by exact allN_at (i := i) (by omega) (by (show ((inR _ 0 7 && inR _ 0 1000000000000) && !(List.any _ _)) = false; first | (rw [show inR (x0.getD i (0, (0, 0))).1 0 7 = false by assumption]; rfl) | (rw [show inR (x0.getD i (0, (0, 0))).2.1 0 1000000000000 = false by assumption, Bool.and_false]; rfl) | (rw [Bool.and_eq_false_iff]; right; simp only [Bool.not_eq_false']; assumption)))
        refine then_ret ?_
        refine in_ret ?_
        refine then_ret ?_
        exact at_return (S := S_impl_IsValidLedger) (x := (x0, ())) (false, ()) [] h (by kernel_rfl) trivial (congrArg (fun z => (z, ())) (show (false) = validLg x0 from by first | rfl | (unfold validLg; rw [if_neg (neT hs5)])))
      · skip
        have hzh4 : (inR (x0.getD i (0, (0, 0))).2.1 0 1000000000000) = true := notF h4
        have hvh4 := inR_t (notF h4)
        refine at_anyq (T := S_impl_IsValidLedger_tab) [{}, {}, {}, { hint := some (aB false) }, {}, {}, {}, {}, { hint := some (aB false) }, {}, {}, {}, {}, {}, {}, {}, {}, {}] { ts := [1, 2, 6, 7, 8, 18, 19, 20, 21, 24, 25, 26, 27, 28, 29, 30], os := [1, 2] } [True, (AV.p (.c (.v (.bool (!(inR (x0.getD i (0, (0, 0))).1 0 7))))) = AV.p (.c (.v (.bool false)))), True, (AV.p (.c (.v (.bool (!(inR (x0.getD i (0, (0, 0))).2.1 0 1000000000000))))) = AV.p (.c (.v (.bool false)))), (0 : Int) ≤ 0 ∧ 0 ≤ ((i : Nat) : Int) ∧ ((i : Nat) : Int) ≤ ((List.length x0 : Nat) : Int), True] gamOK hT mixed h (by kernel_rfl) ⟨trivial, hint_bool (h2), trivial, hint_bool (h4), (by refine ⟨?_, ?_, ?_⟩ <;> (first | omega | (simp only [List.length_append, List.length_cons, List.length_nil, List.length_set, List.length_take, List.length_drop, List.length_replicate, List.length_map, Nat.min_def]; omega) | (simp; done) | (simp; omega) | done)), trivial, trivial⟩ ?_
        intro a w h
        refine then_normal ?_
        refine at_test ((D_slices_Contains_S_impl_Proof_impl_Proof_ (List.drop 0 (List.take i x0)) (x0.getD i (0, (0, 0))))) h (by kernel_rfl) (fun h6 => ?_) (fun h6 => ?_)
        · refine wp_seq ?_
          refine at_regq (T := S_impl_IsValidLedger_tab) [] { ts := [1, 2, 6, 7, 8, 18, 19, 20, 21, 24, 25, 26, 27, 28, 29], os := [1, 2] } [] gamOK hT h (by kernel_rfl) trivial ?_
          intro a w h
          refine then_normal ?_
          refine wp_ret ?_
          refine in_ret ?_
          refine then_ret ?_
          have hs7 : (allN (fun i => (inR (x0.getD i (0, (0, 0))).1 0 7 && inR (x0.getD i (0, (0, 0))).2.1 0 1000000000000) && !(List.any (List.take i x0) fun e => Sh.eqB s159 (x0.getD i (0, (0, 0))) e)) (List.length x0)) = false := by exact allN_at (i := i) (by omega) (by (show ((inR _ 0 7 && inR _ 0 1000000000000) && !(List.any _ _)) = false; first | (rw [show inR (x0.getD i (0, (0, 0))).1 0 7 = false by assumption]; rfl) | (rw [show inR (x0.getD i (0, (0, 0))).2.1 0 1000000000000 = false by assumption, Bool.and_false]; rfl) | (rw [Bool.and_eq_false_iff]; right; simp only [Bool.not_eq_false']; assumption)))
          refine then_ret ?_
          refine in_ret ?_
          refine then_ret ?_
          exact at_return (S := S_impl_IsValidLedger) (x := (x0, ())) (false, ()) [] h (by kernel_rfl) trivial (congrArg (fun z => (z, ())) (show (false) = validLg x0 from by first | rfl | (unfold validLg; rw [if_neg (neT hs7)])))
        · refine wp_skip ?_
          refine in_normal ?_
          refine then_normal ?_
          refine at_regq (T := S_impl_IsValidLedger_tab) [{ nw := true }] { ts := [1, 2, 6, 7, 8, 18, 19, 20, 21, 24, 25, 26, 27, 28, 29], os := [1, 2] } [I64 (((i : Nat) : Int) + 1)] gamOK hT h (by kernel_rfl) ⟨⟨by first | omega | (simp only [List.length_append, List.length_cons, List.length_nil, List.length_set, List.length_take, List.length_drop, List.length_replicate, List.length_map, Nat.min_def]; omega) | (simp; done) | (simp; omega) | done, by first | omega | (simp only [List.length_append, List.length_cons, List.length_nil, List.length_set, List.length_take, List.length_drop, List.length_replicate, List.length_map, Nat.min_def]; omega) | (simp; done) | (simp; omega) | done⟩, trivial⟩ ?_
          intro a w h
          replace h := at_out (σ' := ⟨[(1, aP 1 0), (2, aB false), (6, aF s159 x0), (7, aI ((List.length x0 : Nat) : Int)), (8, aI (((i : Nat) : Int) + 1))], [(1, oX 53 [.ro s159 x0])]⟩) { ts := [1, 2, 6, 7, 8], os := [1] } h (by kernel_rfl)
          exact ⟨i + 1, at_eq h (st_congr1 (fun (d0 : Int) => (⟨[(1, aP 1 0), (2, aB false), (6, aF s159 x0), (7, aI ((List.length x0 : Nat) : Int)), (8, aI d0)], [(1, oX 53 [.ro s159 x0])]⟩ : St)) (show (((i : Nat) : Int) + 1 : Int) = (((i + 1) : Nat) : Int) from by first | with_reducible rfl | (omega) | rfl)), (by exact ⟨by omega, allN_succ hok0.2 (by (show ((inR _ 0 7 && inR _ 0 1000000000000) && !(List.any _ _)) = true; rw [show inR (x0.getD i (0, (0, 0))).1 0 7 = true by assumption, show inR (x0.getD i (0, (0, 0))).2.1 0 1000000000000 = true by assumption]; simp only [Bool.true_and, Bool.not_eq_true']; assumption))⟩), (by omega)⟩
  · replace h1 : ¬ (((i : Nat) : Int) < ((List.length x0 : Nat) : Int)) := of_decide_eq_false h1
    refine wp_exit ?_
    refine then_exit ?_
    have hs8 : (allN (fun i => (inR (x0.getD i (0, (0, 0))).1 0 7 && inR (x0.getD i (0, (0, 0))).2.1 0 1000000000000) && !(List.any (List.take i x0) fun e => Sh.eqB s159 (x0.getD i (0, (0, 0))) e)) (List.length x0)) = true := by exact allN_eq (by omega) hok0.1 hok0.2
    refine then_exit ?_
    refine in_hit ?_
    refine then_normal ?_
    refine wp_seq ?_
    refine at_reg (T := S_impl_IsValidLedger_tab) [] { ts := [2], os := [] } ⟨[(2, aB (decide (((List.length x0 : Nat) : Int) ≤ 40)))], []⟩ [] gamOK hT h (by kernel_rfl) trivial ?_
    intro a w h
    refine then_normal ?_
    refine wp_ret ?_
    exact at_return (S := S_impl_IsValidLedger) (x := (x0, ())) (decide (((List.length x0 : Nat) : Int) ≤ 40), ()) [] h (by kernel_rfl) trivial (congrArg (fun z => (z, ())) (show (decide (((List.length x0 : Nat) : Int) ≤ 40)) = validLg x0 from by first | rfl | (unfold validLg; rw [if_pos hs8])))

def S_spec_IsValidLedger : Sum := { fid := 94, dom := [s53], cod := [(.bool 4)], dp := true, fz := false, pre := fun x => (fun (x0 : (List T159)) => Sh.fit s53 x0) x.1, g := fun x => ((validLg x.1), ()) }
def S_spec_IsValidLedger_tab : List (Nat × Sum) := [(103, S_spec_l1In), (191, S_spec_l29Has)]
theorem S_spec_IsValidLedger_ok : FnOK Try.prog 94 S_spec_IsValidLedger := by
  refine at_enter 39 (fun x => ⟨[(0, aG [.ro s159 x.1])], []⟩) Try.func94 rfl (by kernel_rfl) (fun x => rfl) ?_
  rintro w0 Z0 ⟨x0, u⟩ a w
  revert x0
  intro (x0 : (List T159)) hpre hlens h
  replace h : At w0 Z0 [] 39 ⟨[(0, aG [.ro s159 x0])], []⟩ a w := h
  replace hpre : (fun (x0 : (List T159)) => Sh.fit s53 x0) x0 := hpre
  have hl1 : List.length x0 ≤ 9223372036854775807 := hlens.1.1
  have hT : TabOK Try.prog S_spec_IsValidLedger_tab := (.cons S_spec_l1In_ok (.cons S_spec_l29Has_ok .nil))
  have hf0 : Sh.fit s53 x0 := hpre
  have hn0_1 : List.length x0 ≤ 1073741824 := hf0.1
  refine wp_seq ?_
  refine at_regq (T := S_spec_IsValidLedger_tab) [{ ids := [1] }] { ts := [1, 2], os := [1] } [] gamOK hT h (by kernel_rfl) trivial ?_
  intro a w h
  refine then_normal ?_
  refine wp_seq ?_
  refine wp_seq ?_
  refine at_regq (T := S_spec_IsValidLedger_tab) [] { ts := [1, 2, 3], os := [1] } [] gamOK hT h (by kernel_rfl) trivial ?_
  intro a w h
  refine then_normal ?_
  refine wp_block ?_
  replace h := at_out (σ' := ⟨[(1, aP 1 0), (2, aB false), (3, aI 0)], [(1, oX 53 [.ro s159 x0])]⟩) { ts := [1, 2, 3], os := [1] } h (by kernel_rfl)
  refine at_loop (fun i : Nat => (⟨[(1, aP 1 0), (2, aB false), (3, aI ((i : Nat) : Int))], [(1, oX 53 [.ro s159 x0])]⟩ : St)) (fun i => (i ≤ (List.length x0) ∧ allN (fun i => (inR (x0.getD i (0, (0, 0))).1 0 7 && inR (x0.getD i (0, (0, 0))).2.1 0 1000000000000) && !(List.any (List.take i x0) fun e => Sh.eqB s159 (x0.getD i (0, (0, 0))) e)) i = true)) (fun i => (List.length x0) - i) (0) h (st_congr1 (fun (d0 : Int) => (⟨[(1, aP 1 0), (2, aB false), (3, aI d0)], [(1, oX 53 [.ro s159 x0])]⟩ : St)) (show (0 : Int) = (((0) : Nat) : Int) from by first | with_reducible rfl | (rfl) | rfl)) (by exact ⟨Nat.zero_le _, rfl⟩) ?_
  intro i a w hok0 h
  refine wp_seq ?_
  refine wp_seq ?_
  refine at_regq (T := S_spec_IsValidLedger_tab) [] { ts := [1, 2, 3, 9], os := [1] } [] gamOK hT h (by kernel_rfl) trivial ?_
  intro a w h
  refine then_normal ?_
  refine at_test (decide (((i : Nat) : Int) < ((List.length x0 : Nat) : Int))) h (by kernel_rfl) (fun h1 => ?_) (fun h1 => ?_)
  · replace h1 : ((i : Nat) : Int) < ((List.length x0 : Nat) : Int) := of_decide_eq_true h1
    refine wp_skip ?_
    refine then_normal ?_
    refine wp_seq ?_
    refine wp_block ?_
    refine wp_seq ?_
    refine at_reg (T := S_spec_IsValidLedger_tab) [{}, {}, {}, {}, {}, { ids := [2] }] { ts := [1, 2, 3, 4], os := [1, 2] } ⟨[(1, aP 1 0), (2, aB false), (3, aI ((i : Nat) : Int)), (4, aP 2 0)], [(1, oX 53 [.ro s159 x0]), (2, oX 159 [cI (x0.getD i (0, (0, 0))).1, cI (x0.getD i (0, (0, 0))).2.1, cI (x0.getD i (0, (0, 0))).2.2])]⟩ [(0 : Int) ≤ ((i : Nat) : Int) ∧ ((i : Nat) : Int) < ((List.length x0 : Nat) : Int)] gamOK hT h (by kernel_rfl) ⟨(by refine ⟨?_, ?_⟩ <;> (first | omega | (simp only [List.length_append, List.length_cons, List.length_nil, List.length_set, List.length_take, List.length_drop, List.length_replicate, List.length_map, Nat.min_def]; omega) | (simp; done) | (simp; omega) | done)), trivial⟩ ?_
    intro a w h
    refine then_normal ?_
    refine wp_seq ?_
    rcases Bool.eq_false_or_eq_true (!(inR (x0.getD i (0, (0, 0))).1 0 7)) with h2 | h2
    · skip
      have hzh2 : (inR (x0.getD i (0, (0, 0))).1 0 7) = false := notT h2
      have hvh2 := inR_f (notT h2)
      refine at_anyq (T := S_spec_IsValidLedger_tab) [{}, {}, {}, { hint := some (aB true) }, {}, {}, {}, {}, {}, {}, {}, {}, {}, {}, {}, {}, {}, {}] { ts := [1, 2, 3, 22, 23, 24, 25, 28, 29, 30, 31, 32, 33, 34], os := [1] } [True, (AV.p (.c (.v (.bool (!(inR (x0.getD i (0, (0, 0))).1 0 7))))) = AV.p (.c (.v (.bool true))))] gamOK hT mixed h (by kernel_rfl) ⟨trivial, hint_bool (h2), trivial⟩ ?_
      intro a w h
      refine then_normal ?_
      refine at_test true h (by kernel_rfl) (fun hh => ?_) (fun hh => nomatch hh)
      refine wp_seq ?_
      refine at_regq (T := S_spec_IsValidLedger_tab) [] { ts := [1, 2, 3, 22, 23, 24, 25, 28, 29, 30, 31, 32, 33], os := [1] } [] gamOK hT h (by kernel_rfl) trivial ?_
      intro a w h
      refine then_normal ?_
      refine wp_ret ?_
      refine in_ret ?_
      refine then_ret ?_
      have hs3 : (allN (fun i => (inR (x0.getD i (0, (0, 0))).1 0 7 && inR (x0.getD i (0, (0, 0))).2.1 0 1000000000000) && !(List.any (List.take i x0) fun e => Sh.eqB s159 (x0.getD i (0, (0, 0))) e)) (List.length x0)) = false := by exact allN_at (i := i) (by omega) (by (show ((inR _ 0 7 && inR _ 0 1000000000000) && !(List.any _ _)) = false; first | (rw [show inR (x0.getD i (0, (0, 0))).1 0 7 = false by assumption]; rfl) | (rw [show inR (x0.getD i (0, (0, 0))).2.1 0 1000000000000 = false by assumption, Bool.and_false]; rfl) | (rw [Bool.and_eq_false_iff]; right; simp only [Bool.not_eq_false']; assumption)))
      refine then_ret ?_
      refine in_ret ?_
      refine then_ret ?_
      exact at_return (S := S_spec_IsValidLedger) (x := (x0, ())) (false, ()) [] h (by kernel_rfl) trivial (congrArg (fun z => (z, ())) (show (false) = validLg x0 from by first | rfl | (unfold validLg; rw [if_neg (neT hs3)]; done) | (unfold validLg; simp_all)))
    · skip
      have hzh2 : (inR (x0.getD i (0, (0, 0))).1 0 7) = true := notF h2
      have hvh2 := inR_t (notF h2)
      rcases Bool.eq_false_or_eq_true (!(inR (x0.getD i (0, (0, 0))).2.1 0 1000000000000)) with h4 | h4
      · skip
        have hzh4 : (inR (x0.getD i (0, (0, 0))).2.1 0 1000000000000) = false := notT h4
        have hvh4 := inR_f (notT h4)
        refine at_anyq (T := S_spec_IsValidLedger_tab) [{}, {}, {}, { hint := some (aB false) }, {}, {}, {}, {}, { hint := some (aB true) }, {}, {}, {}, {}, {}, {}, {}, {}, {}] { ts := [1, 2, 3, 22, 23, 24, 25, 28, 29, 30, 31, 32, 33, 34], os := [1, 2] } [True, (AV.p (.c (.v (.bool (!(inR (x0.getD i (0, (0, 0))).1 0 7))))) = AV.p (.c (.v (.bool false)))), True, (AV.p (.c (.v (.bool (!(inR (x0.getD i (0, (0, 0))).2.1 0 1000000000000))))) = AV.p (.c (.v (.bool true))))] gamOK hT mixed h (by kernel_rfl) ⟨trivial, hint_bool (h2), trivial, hint_bool (h4), trivial⟩ ?_
        intro a w h
        refine then_normal ?_
        refine at_test true h (by kernel_rfl) (fun hh => ?_) (fun hh => nomatch hh)
        refine wp_seq ?_
        refine at_regq (T := S_spec_IsValidLedger_tab) [] { ts := [1, 2, 3, 22, 23, 24, 25, 28, 29, 30, 31, 32, 33], os := [1, 2] } [] gamOK hT h (by kernel_rfl) trivial ?_
        intro a w h
        refine then_normal ?_
        refine wp_ret ?_
        refine in_ret ?_
        refine then_ret ?_
        have hs5 : (allN (fun i => (inR (x0.getD i (0, (0, 0))).1 0 7 && inR (x0.getD i (0, (0, 0))).2.1 0 1000000000000) && !(List.any (List.take i x0) fun e => Sh.eqB s159 (x0.getD i (0, (0, 0))) e)) (List.length x0)) = false := by exact allN_at (i := i) (by omega) (by (show ((inR _ 0 7 && inR _ 0 1000000000000) && !(List.any _ _)) = false; first | (rw [show inR (x0.getD i (0, (0, 0))).1 0 7 = false by assumption]; rfl) | (rw [show inR (x0.getD i (0, (0, 0))).2.1 0 1000000000000 = false by assumption, Bool.and_false]; rfl) | (rw [Bool.and_eq_false_iff]; right; simp only [Bool.not_eq_false']; assumption)))
        refine then_ret ?_
        refine in_ret ?_
        refine then_ret ?_
        exact at_return (S := S_spec_IsValidLedger) (x := (x0, ())) (false, ()) [] h (by kernel_rfl) trivial (congrArg (fun z => (z, ())) (show (false) = validLg x0 from by first | rfl | (unfold validLg; rw [if_neg (neT hs5)]; done) | (unfold validLg; simp_all)))
      · skip
        have hzh4 : (inR (x0.getD i (0, (0, 0))).2.1 0 1000000000000) = true := notF h4
        have hvh4 := inR_t (notF h4)
        refine at_anyq (T := S_spec_IsValidLedger_tab) [{}, {}, {}, { hint := some (aB false) }, {}, {}, {}, {}, { hint := some (aB false) }, {}, {}, {}, {}, {}, {}, {}, {}, {}] { ts := [1, 2, 3, 22, 23, 24, 25, 28, 29, 30, 31, 32, 33, 34], os := [1, 2] } [True, (AV.p (.c (.v (.bool (!(inR (x0.getD i (0, (0, 0))).1 0 7))))) = AV.p (.c (.v (.bool false)))), True, (AV.p (.c (.v (.bool (!(inR (x0.getD i (0, (0, 0))).2.1 0 1000000000000))))) = AV.p (.c (.v (.bool false)))), (0 : Int) ≤ 0 ∧ 0 ≤ ((i : Nat) : Int) ∧ ((i : Nat) : Int) ≤ ((List.length x0 : Nat) : Int), True] gamOK hT mixed h (by kernel_rfl) ⟨trivial, hint_bool (h2), trivial, hint_bool (h4), (by refine ⟨?_, ?_, ?_⟩ <;> (first | omega | (simp only [List.length_append, List.length_cons, List.length_nil, List.length_set, List.length_take, List.length_drop, List.length_replicate, List.length_map, Nat.min_def]; omega) | (simp; done) | (simp; omega) | done)), trivial, trivial⟩ ?_
        intro a w h
        refine then_normal ?_
        refine at_test ((D_spec_l29Has (List.drop 0 (List.take i x0)) (x0.getD i (0, (0, 0))))) h (by kernel_rfl) (fun h6 => ?_) (fun h6 => ?_)
        · refine wp_seq ?_
          refine at_regq (T := S_spec_IsValidLedger_tab) [] { ts := [1, 2, 3, 22, 23, 24, 25, 28, 29, 30, 31, 32, 33], os := [1, 2] } [] gamOK hT h (by kernel_rfl) trivial ?_
          intro a w h
          refine then_normal ?_
          refine wp_ret ?_
          refine in_ret ?_
          refine then_ret ?_
          have hs7 : (allN (fun i => (inR (x0.getD i (0, (0, 0))).1 0 7 && inR (x0.getD i (0, (0, 0))).2.1 0 1000000000000) && !(List.any (List.take i x0) fun e => Sh.eqB s159 (x0.getD i (0, (0, 0))) e)) (List.length x0)) = false := by exact allN_at (i := i) (by omega) (by (show ((inR _ 0 7 && inR _ 0 1000000000000) && !(List.any _ _)) = false; first | (rw [show inR (x0.getD i (0, (0, 0))).1 0 7 = false by assumption]; rfl) | (rw [show inR (x0.getD i (0, (0, 0))).2.1 0 1000000000000 = false by assumption, Bool.and_false]; rfl) | (rw [Bool.and_eq_false_iff]; right; simp only [Bool.not_eq_false']; assumption)))
          refine then_ret ?_
          refine in_ret ?_
          refine then_ret ?_
          exact at_return (S := S_spec_IsValidLedger) (x := (x0, ())) (false, ()) [] h (by kernel_rfl) trivial (congrArg (fun z => (z, ())) (show (false) = validLg x0 from by first | rfl | (unfold validLg; rw [if_neg (neT hs7)]; done) | (unfold validLg; simp_all)))
        · refine wp_skip ?_
          refine in_normal ?_
          refine then_normal ?_
          refine at_regq (T := S_spec_IsValidLedger_tab) [{}, { nw := true }] { ts := [1, 2, 3, 22, 23, 24, 25, 28, 29, 30, 31, 32, 33], os := [1, 2] } [I64 (((i : Nat) : Int) + 1)] gamOK hT h (by kernel_rfl) ⟨⟨by first | omega | (simp only [List.length_append, List.length_cons, List.length_nil, List.length_set, List.length_take, List.length_drop, List.length_replicate, List.length_map, Nat.min_def]; omega) | (simp; done) | (simp; omega) | done, by first | omega | (simp only [List.length_append, List.length_cons, List.length_nil, List.length_set, List.length_take, List.length_drop, List.length_replicate, List.length_map, Nat.min_def]; omega) | (simp; done) | (simp; omega) | done⟩, trivial⟩ ?_
          intro a w h
          replace h := at_out (σ' := ⟨[(1, aP 1 0), (2, aB false), (3, aI (((i : Nat) : Int) + 1))], [(1, oX 53 [.ro s159 x0])]⟩) { ts := [1, 2, 3], os := [1] } h (by kernel_rfl)
          exact ⟨i + 1, at_eq h (st_congr1 (fun (d0 : Int) => (⟨[(1, aP 1 0), (2, aB false), (3, aI d0)], [(1, oX 53 [.ro s159 x0])]⟩ : St)) (show (((i : Nat) : Int) + 1 : Int) = (((i + 1) : Nat) : Int) from by first | with_reducible rfl | (omega) | rfl)), (by exact ⟨by omega, allN_succ hok0.2 (by (show ((inR _ 0 7 && inR _ 0 1000000000000) && !(List.any _ _)) = true; rw [show inR (x0.getD i (0, (0, 0))).1 0 7 = true by assumption, show inR (x0.getD i (0, (0, 0))).2.1 0 1000000000000 = true by assumption]; simp only [Bool.true_and, Bool.not_eq_true']; assumption))⟩), (by omega)⟩
  · replace h1 : ¬ (((i : Nat) : Int) < ((List.length x0 : Nat) : Int)) := of_decide_eq_false h1
    refine wp_exit ?_
    refine then_exit ?_
    have hs8 : (allN (fun i => (inR (x0.getD i (0, (0, 0))).1 0 7 && inR (x0.getD i (0, (0, 0))).2.1 0 1000000000000) && !(List.any (List.take i x0) fun e => Sh.eqB s159 (x0.getD i (0, (0, 0))) e)) (List.length x0)) = true := by exact allN_eq (by omega) hok0.1 hok0.2
    refine then_exit ?_
    refine in_hit ?_
    refine then_normal ?_
    refine wp_seq ?_
    refine at_reg (T := S_spec_IsValidLedger_tab) [] { ts := [2], os := [] } ⟨[(2, aB (decide (((List.length x0 : Nat) : Int) ≤ 40)))], []⟩ [] gamOK hT h (by kernel_rfl) trivial ?_
    intro a w h
    refine then_normal ?_
    refine wp_ret ?_
    exact at_return (S := S_spec_IsValidLedger) (x := (x0, ())) (decide (((List.length x0 : Nat) : Int) ≤ 40), ()) [] h (by kernel_rfl) trivial (congrArg (fun z => (z, ())) (show (decide (((List.length x0 : Nat) : Int) ≤ 40)) = validLg x0 from by first | rfl | (unfold validLg; rw [if_pos hs8]; done) | (unfold validLg; simp_all)))

def signedL (x0 : Int) (x1 : T63) : Bool := decide (x1.2.2.2.2 = (linkMAC (nodeKey x0 x1.1) x1))
def S_impl_IsSignedBySender : Sum := { fid := 194, dom := [(.int 3), s63], cod := [(.bool 4)], dp := true, fz := false, pre := fun x => (fun (x0 : Int) (x1 : T63) => Sh.fit s63 x1) x.1 x.2.1, g := fun x => ((signedL x.1 x.2.1), ()) }
def S_impl_IsSignedBySender_tab : List (Nat × Sum) := [(267, S_impl_NodeKey), (266, S_impl_LinkMAC)]
theorem S_impl_IsSignedBySender_ok : FnOK Try.prog 194 S_impl_IsSignedBySender := by
  refine at_enter 14 (fun x => ⟨[(0, aI x.1), (1, aG [cI x.2.1.1, cI x.2.1.2.1, cI x.2.1.2.2.1, cI x.2.1.2.2.2.1.1, .ro (.int 3) x.2.1.2.2.2.1.2.1, .ro (.int 3) x.2.1.2.2.2.1.2.2, cI x.2.1.2.2.2.2])], []⟩) Try.func194 rfl (by kernel_rfl) (fun x => rfl) ?_
  rintro w0 Z0 ⟨x0, x1, u⟩ a w
  revert x0 x1
  intro (x0 : Int) (x1 : T63) hpre hlens h
  replace h : At w0 Z0 [] 14 ⟨[(0, aI x0), (1, aG [cI x1.1, cI x1.2.1, cI x1.2.2.1, cI x1.2.2.2.1.1, .ro (.int 3) x1.2.2.2.1.2.1, .ro (.int 3) x1.2.2.2.1.2.2, cI x1.2.2.2.2])], []⟩ a w := h
  replace hpre : (fun (x0 : Int) (x1 : T63) => Sh.fit s63 x1) x0 x1 := hpre
  have hl1 : List.length x1.2.2.2.1.2.1 ≤ 9223372036854775807 := hlens.2.1.2.2.2.1.2.1.1
  have hl2 : List.length x1.2.2.2.1.2.2 ≤ 9223372036854775807 := hlens.2.1.2.2.2.1.2.2.1
  have hT : TabOK Try.prog S_impl_IsSignedBySender_tab := (.cons S_impl_NodeKey_ok (.cons S_impl_LinkMAC_ok .nil))
  have hf1 : Sh.fit s63 x1 := hpre
  have hn1_1 : List.length x1.2.2.2.1.2.1 ≤ 1073741824 := hf1.2.2.2.1.2.1.1
  have hn1_2 : List.length x1.2.2.2.1.2.2 ≤ 1073741824 := hf1.2.2.2.1.2.2.1
  refine wp_seq ?_
  refine at_regq (T := S_impl_IsSignedBySender_tab) [{ ids := [1] }] { ts := [0, 3, 4], os := [1] } [] gamOK hT h (by kernel_rfl) trivial ?_
  intro a w h
  refine then_normal ?_
  refine wp_seq ?_
  refine at_anyq (T := S_impl_IsSignedBySender_tab) [{}, {}, {}, {}, {}, {}, {}, {}, {}, {}] { ts := [4], os := [] } [True, (fun (x0 : Int) (x1 : T63) => Sh.fit s63 x1) (nodeKey x0 x1.1) x1] gamOK hT mixed h (by kernel_rfl) ⟨trivial, (by exact hf1), trivial⟩ ?_
  intro a w h
  refine then_normal ?_
  refine wp_ret ?_
  exact at_return (S := S_impl_IsSignedBySender) (x := (x0, x1, ())) (decide (x1.2.2.2.2 = (linkMAC (nodeKey x0 x1.1) x1)), ()) [] h (by kernel_rfl) trivial (congrArg (fun z => (z, ())) (show (decide (x1.2.2.2.2 = (linkMAC (nodeKey x0 x1.1) x1))) = signedL x0 x1 from by rfl))

def S_spec_IsSignedBySender : Sum := { fid := 188, dom := [(.int 3), s63], cod := [(.bool 4)], dp := true, fz := false, pre := fun x => (fun (x0 : Int) (x1 : T63) => Sh.fit s63 x1) x.1 x.2.1, g := fun x => ((signedL x.1 x.2.1), ()) }
def S_spec_IsSignedBySender_tab : List (Nat × Sum) := [(262, S_spec_NodeKey), (261, S_spec_LinkMAC)]
theorem S_spec_IsSignedBySender_ok : FnOK Try.prog 188 S_spec_IsSignedBySender := by
  refine at_enter 14 (fun x => ⟨[(0, aI x.1), (1, aG [cI x.2.1.1, cI x.2.1.2.1, cI x.2.1.2.2.1, cI x.2.1.2.2.2.1.1, .ro (.int 3) x.2.1.2.2.2.1.2.1, .ro (.int 3) x.2.1.2.2.2.1.2.2, cI x.2.1.2.2.2.2])], []⟩) Try.func188 rfl (by kernel_rfl) (fun x => rfl) ?_
  rintro w0 Z0 ⟨x0, x1, u⟩ a w
  revert x0 x1
  intro (x0 : Int) (x1 : T63) hpre hlens h
  replace h : At w0 Z0 [] 14 ⟨[(0, aI x0), (1, aG [cI x1.1, cI x1.2.1, cI x1.2.2.1, cI x1.2.2.2.1.1, .ro (.int 3) x1.2.2.2.1.2.1, .ro (.int 3) x1.2.2.2.1.2.2, cI x1.2.2.2.2])], []⟩ a w := h
  replace hpre : (fun (x0 : Int) (x1 : T63) => Sh.fit s63 x1) x0 x1 := hpre
  have hl1 : List.length x1.2.2.2.1.2.1 ≤ 9223372036854775807 := hlens.2.1.2.2.2.1.2.1.1
  have hl2 : List.length x1.2.2.2.1.2.2 ≤ 9223372036854775807 := hlens.2.1.2.2.2.1.2.2.1
  have hT : TabOK Try.prog S_spec_IsSignedBySender_tab := (.cons S_spec_NodeKey_ok (.cons S_spec_LinkMAC_ok .nil))
  have hf1 : Sh.fit s63 x1 := hpre
  have hn1_1 : List.length x1.2.2.2.1.2.1 ≤ 1073741824 := hf1.2.2.2.1.2.1.1
  have hn1_2 : List.length x1.2.2.2.1.2.2 ≤ 1073741824 := hf1.2.2.2.1.2.2.1
  refine wp_seq ?_
  refine at_regq (T := S_spec_IsSignedBySender_tab) [{ ids := [1] }] { ts := [0, 3, 4], os := [1] } [] gamOK hT h (by kernel_rfl) trivial ?_
  intro a w h
  refine then_normal ?_
  refine wp_seq ?_
  refine at_anyq (T := S_spec_IsSignedBySender_tab) [{}, {}, {}, {}, {}, {}, {}, {}, {}, {}] { ts := [4], os := [] } [True, (fun (x0 : Int) (x1 : T63) => Sh.fit s63 x1) (nodeKey x0 x1.1) x1] gamOK hT mixed h (by kernel_rfl) ⟨trivial, (by exact hf1), trivial⟩ ?_
  intro a w h
  refine then_normal ?_
  refine wp_ret ?_
  exact at_return (S := S_spec_IsSignedBySender) (x := (x0, x1, ())) (decide (x1.2.2.2.2 = (linkMAC (nodeKey x0 x1.1) x1)), ()) [] h (by kernel_rfl) trivial (congrArg (fun z => (z, ())) (show (decide (x1.2.2.2.2 = (linkMAC (nodeKey x0 x1.1) x1))) = signedL x0 x1 from by first | rfl | (unfold signedL; rfl; done) | (unfold signedL; simp_all)))

def isProof (x0 : Int) (x1 : (List Int)) (x2 : T59) (x3 : T63) : Bool := (if (signedL x0 x3) = true then (if (validMan x2) = true then decide ((checkP x1 x2 x3.2.2.2.1) = 3) else false) else false)
def S_impl_IsProof : Sum := { fid := 97, dom := [(.int 3), s57, s59, s63], cod := [(.bool 4)], dp := true, fz := false, pre := fun x => (fun (x0 : Int) (x1 : (List Int)) (x2 : T59) (x3 : T63) => Sh.fit s57 x1 ∧ Sh.fit s59 x2 ∧ Sh.fit s63 x3) x.1 x.2.1 x.2.2.1 x.2.2.2.1, g := fun x => ((isProof x.1 x.2.1 x.2.2.1 x.2.2.2.1), ()) }
def S_impl_IsProof_tab : List (Nat × Sum) := [(194, S_impl_IsSignedBySender), (195, S_impl_IsValidManifest), (196, S_impl_CheckPacket)]
theorem S_impl_IsProof_ok : FnOK Try.prog 97 S_impl_IsProof := by
  refine at_enter 24 (fun x => ⟨[(0, aI x.1), (1, aG [.ro (.int 3) x.2.1]), (2, aG [cI x.2.2.1.1, cI x.2.2.1.2.1, cI x.2.2.1.2.2.1, cI x.2.2.1.2.2.2.1, .ro (.int 3) x.2.2.1.2.2.2.2.1, cI x.2.2.1.2.2.2.2.2]), (3, aG [cI x.2.2.2.1.1, cI x.2.2.2.1.2.1, cI x.2.2.2.1.2.2.1, cI x.2.2.2.1.2.2.2.1.1, .ro (.int 3) x.2.2.2.1.2.2.2.1.2.1, .ro (.int 3) x.2.2.2.1.2.2.2.1.2.2, cI x.2.2.2.1.2.2.2.2])], []⟩) Try.func97 rfl (by kernel_rfl) (fun x => rfl) ?_
  rintro w0 Z0 ⟨x0, x1, x2, x3, u⟩ a w
  revert x0 x1 x2 x3
  intro (x0 : Int) (x1 : (List Int)) (x2 : T59) (x3 : T63) hpre hlens h
  replace h : At w0 Z0 [] 24 ⟨[(0, aI x0), (1, aG [.ro (.int 3) x1]), (2, aG [cI x2.1, cI x2.2.1, cI x2.2.2.1, cI x2.2.2.2.1, .ro (.int 3) x2.2.2.2.2.1, cI x2.2.2.2.2.2]), (3, aG [cI x3.1, cI x3.2.1, cI x3.2.2.1, cI x3.2.2.2.1.1, .ro (.int 3) x3.2.2.2.1.2.1, .ro (.int 3) x3.2.2.2.1.2.2, cI x3.2.2.2.2])], []⟩ a w := h
  replace hpre : (fun (x0 : Int) (x1 : (List Int)) (x2 : T59) (x3 : T63) => Sh.fit s57 x1 ∧ Sh.fit s59 x2 ∧ Sh.fit s63 x3) x0 x1 x2 x3 := hpre
  have hl1 : List.length x1 ≤ 9223372036854775807 := hlens.2.1.1
  have hl2 : List.length x2.2.2.2.2.1 ≤ 9223372036854775807 := hlens.2.2.1.2.2.2.2.1.1
  have hl3 : List.length x3.2.2.2.1.2.1 ≤ 9223372036854775807 := hlens.2.2.2.1.2.2.2.1.2.1.1
  have hl4 : List.length x3.2.2.2.1.2.2 ≤ 9223372036854775807 := hlens.2.2.2.1.2.2.2.1.2.2.1
  have hT : TabOK Try.prog S_impl_IsProof_tab := (.cons S_impl_IsSignedBySender_ok (.cons S_impl_IsValidManifest_ok (.cons S_impl_CheckPacket_ok .nil)))
  obtain ⟨hf1, hf2, hf3⟩ := hpre
  have hn1_1 : List.length x1 ≤ 1073741824 := hf1.1
  have hn2_2 : List.length x2.2.2.2.2.1 ≤ 1073741824 := hf2.2.2.2.2.1.1
  have hn3_3 : List.length x3.2.2.2.1.2.1 ≤ 1073741824 := hf3.2.2.2.1.2.1.1
  have hn3_4 : List.length x3.2.2.2.1.2.2 ≤ 1073741824 := hf3.2.2.2.1.2.2.1
  refine wp_seq ?_
  refine at_regq (T := S_impl_IsProof_tab) [{ ids := [1] }, { ids := [2] }, { ids := [3] }] { ts := [0, 5, 6, 7, 8], os := [1, 2, 3] } [] gamOK hT h (by kernel_rfl) trivial ?_
  intro a w h
  refine then_normal ?_
  refine wp_seq ?_
  rcases Bool.eq_false_or_eq_true ((signedL x0 x3)) with h1 | h1
  · skip
    rcases Bool.eq_false_or_eq_true ((validMan x2)) with h2 | h2
    · skip
      refine at_regq (T := S_impl_IsProof_tab) [{}, {}, { hint := some (aB true) }, {}, {}, { hint := some (aB true) }] { ts := [8], os := [] } [(fun (x0 : Int) (x1 : T63) => Sh.fit s63 x1) x0 x3, (AV.p (.c (.v (.bool ((signedL x0 x3))))) = AV.p (.c (.v (.bool true)))), (fun (x0 : T59) => Sh.fit s59 x0) x2, (AV.p (.c (.v (.bool ((validMan x2))))) = AV.p (.c (.v (.bool true)))), (fun (x0 : (List Int)) (x1 : T59) (x2 : T61) => Sh.fit s57 x0 ∧ Sh.fit s59 x1 ∧ Sh.fit s61 x2) x1 x2 x3.2.2.2.1] gamOK hT h (by kernel_rfl) ⟨(by exact hf3), hint_bool (h1), (by exact hf2), hint_bool (h2), (by exact ⟨hf1, hf2, hf3.2.2.2.1⟩), trivial⟩ ?_
      intro a w h
      refine then_normal ?_
      refine wp_ret ?_
      exact at_return (S := S_impl_IsProof) (x := (x0, x1, x2, x3, ())) (decide ((checkP x1 x2 x3.2.2.2.1) = 3), ()) [] h (by kernel_rfl) trivial (congrArg (fun z => (z, ())) (show (decide ((checkP x1 x2 x3.2.2.2.1) = 3)) = isProof x0 x1 x2 x3 from by first | rfl | (unfold isProof; rw [if_pos h1, if_pos h2])))
    · skip
      refine at_regq (T := S_impl_IsProof_tab) [{}, {}, { hint := some (aB true) }, {}, {}, { hint := some (aB false) }] { ts := [8], os := [] } [(fun (x0 : Int) (x1 : T63) => Sh.fit s63 x1) x0 x3, (AV.p (.c (.v (.bool ((signedL x0 x3))))) = AV.p (.c (.v (.bool true)))), (fun (x0 : T59) => Sh.fit s59 x0) x2, (AV.p (.c (.v (.bool ((validMan x2))))) = AV.p (.c (.v (.bool false))))] gamOK hT h (by kernel_rfl) ⟨(by exact hf3), hint_bool (h1), (by exact hf2), hint_bool (h2), trivial⟩ ?_
      intro a w h
      refine then_normal ?_
      refine wp_ret ?_
      exact at_return (S := S_impl_IsProof) (x := (x0, x1, x2, x3, ())) (false, ()) [] h (by kernel_rfl) trivial (congrArg (fun z => (z, ())) (show (false) = isProof x0 x1 x2 x3 from by first | rfl | (unfold isProof; rw [if_pos h1, if_neg (neT h2)])))
  · skip
    refine at_regq (T := S_impl_IsProof_tab) [{}, {}, { hint := some (aB false) }] { ts := [8], os := [] } [(fun (x0 : Int) (x1 : T63) => Sh.fit s63 x1) x0 x3, (AV.p (.c (.v (.bool ((signedL x0 x3))))) = AV.p (.c (.v (.bool false))))] gamOK hT h (by kernel_rfl) ⟨(by exact hf3), hint_bool (h1), trivial⟩ ?_
    intro a w h
    refine then_normal ?_
    refine wp_ret ?_
    exact at_return (S := S_impl_IsProof) (x := (x0, x1, x2, x3, ())) (false, ()) [] h (by kernel_rfl) trivial (congrArg (fun z => (z, ())) (show (false) = isProof x0 x1 x2 x3 from by first | rfl | (unfold isProof; rw [if_neg (neT h1)])))
def pfOf (p : T63) : T159 := (p.1, p.2.2.1, p.2.2.2.2)
def recPf (l : List T159) (ms : Int) (k : (List Int)) (m : T59) (p : T63) : List T159 × Bool := if isProof ms k m p = true ∧ validLg (l ++ [pfOf p]) = true then (l ++ [pfOf p], true) else (l, false)
theorem recPf_y {l : List T159} {ms : Int} {k : (List Int)} {m : T59} {p : T63} (h : isProof ms k m p = true) (h2 : validLg (l ++ [pfOf p]) = true) : (l ++ [pfOf p], true) = recPf l ms k m p := by unfold recPf; rw [if_pos ⟨h, h2⟩]
theorem recPf_n {l : List T159} {ms : Int} {k : (List Int)} {m : T59} {p : T63} (h : isProof ms k m p = false ∨ validLg (l ++ [pfOf p]) = false) : (l, false) = recPf l ms k m p := by
  unfold recPf; rw [if_neg]
  rintro ⟨h1, h2⟩
  rcases h with h | h
  · rw [h1] at h; cases h
  · rw [h2] at h; cases h
theorem recPf_len (l : List T159) (ms : Int) (k : (List Int)) (m : T59) (p : T63) : List.length (recPf l ms k m p).1 ≤ List.length l + 1 := by
  unfold recPf; split
  · simp
  · show List.length l ≤ _; omega

def S_spec_IsProof : Sum := { fid := 93, dom := [(.int 3), s57, s59, s63], cod := [(.bool 4)], dp := true, fz := false, pre := fun x => (fun (x0 : Int) (x1 : (List Int)) (x2 : T59) (x3 : T63) => Sh.fit s57 x1 ∧ Sh.fit s59 x2 ∧ Sh.fit s63 x3) x.1 x.2.1 x.2.2.1 x.2.2.2.1, g := fun x => ((isProof x.1 x.2.1 x.2.2.1 x.2.2.2.1), ()) }
def S_spec_IsProof_tab : List (Nat × Sum) := [(188, S_spec_IsSignedBySender), (189, S_spec_IsValidManifest), (190, S_spec_CheckPacket)]
theorem S_spec_IsProof_ok : FnOK Try.prog 93 S_spec_IsProof := by
  refine at_enter 24 (fun x => ⟨[(0, aI x.1), (1, aG [.ro (.int 3) x.2.1]), (2, aG [cI x.2.2.1.1, cI x.2.2.1.2.1, cI x.2.2.1.2.2.1, cI x.2.2.1.2.2.2.1, .ro (.int 3) x.2.2.1.2.2.2.2.1, cI x.2.2.1.2.2.2.2.2]), (3, aG [cI x.2.2.2.1.1, cI x.2.2.2.1.2.1, cI x.2.2.2.1.2.2.1, cI x.2.2.2.1.2.2.2.1.1, .ro (.int 3) x.2.2.2.1.2.2.2.1.2.1, .ro (.int 3) x.2.2.2.1.2.2.2.1.2.2, cI x.2.2.2.1.2.2.2.2])], []⟩) Try.func93 rfl (by kernel_rfl) (fun x => rfl) ?_
  rintro w0 Z0 ⟨x0, x1, x2, x3, u⟩ a w
  revert x0 x1 x2 x3
  intro (x0 : Int) (x1 : (List Int)) (x2 : T59) (x3 : T63) hpre hlens h
  replace h : At w0 Z0 [] 24 ⟨[(0, aI x0), (1, aG [.ro (.int 3) x1]), (2, aG [cI x2.1, cI x2.2.1, cI x2.2.2.1, cI x2.2.2.2.1, .ro (.int 3) x2.2.2.2.2.1, cI x2.2.2.2.2.2]), (3, aG [cI x3.1, cI x3.2.1, cI x3.2.2.1, cI x3.2.2.2.1.1, .ro (.int 3) x3.2.2.2.1.2.1, .ro (.int 3) x3.2.2.2.1.2.2, cI x3.2.2.2.2])], []⟩ a w := h
  replace hpre : (fun (x0 : Int) (x1 : (List Int)) (x2 : T59) (x3 : T63) => Sh.fit s57 x1 ∧ Sh.fit s59 x2 ∧ Sh.fit s63 x3) x0 x1 x2 x3 := hpre
  have hl1 : List.length x1 ≤ 9223372036854775807 := hlens.2.1.1
  have hl2 : List.length x2.2.2.2.2.1 ≤ 9223372036854775807 := hlens.2.2.1.2.2.2.2.1.1
  have hl3 : List.length x3.2.2.2.1.2.1 ≤ 9223372036854775807 := hlens.2.2.2.1.2.2.2.1.2.1.1
  have hl4 : List.length x3.2.2.2.1.2.2 ≤ 9223372036854775807 := hlens.2.2.2.1.2.2.2.1.2.2.1
  have hT : TabOK Try.prog S_spec_IsProof_tab := (.cons S_spec_IsSignedBySender_ok (.cons S_spec_IsValidManifest_ok (.cons S_spec_CheckPacket_ok .nil)))
  obtain ⟨hf1, hf2, hf3⟩ := hpre
  have hn1_1 : List.length x1 ≤ 1073741824 := hf1.1
  have hn2_2 : List.length x2.2.2.2.2.1 ≤ 1073741824 := hf2.2.2.2.2.1.1
  have hn3_3 : List.length x3.2.2.2.1.2.1 ≤ 1073741824 := hf3.2.2.2.1.2.1.1
  have hn3_4 : List.length x3.2.2.2.1.2.2 ≤ 1073741824 := hf3.2.2.2.1.2.2.1
  refine wp_seq ?_
  refine at_regq (T := S_spec_IsProof_tab) [{ ids := [1] }, { ids := [2] }, { ids := [3] }] { ts := [0, 5, 6, 7, 8], os := [1, 2, 3] } [] gamOK hT h (by kernel_rfl) trivial ?_
  intro a w h
  refine then_normal ?_
  refine wp_seq ?_
  rcases Bool.eq_false_or_eq_true ((signedL x0 x3)) with h1 | h1
  · skip
    rcases Bool.eq_false_or_eq_true ((validMan x2)) with h2 | h2
    · skip
      refine at_regq (T := S_spec_IsProof_tab) [{}, {}, { hint := some (aB true) }, {}, {}, { hint := some (aB true) }] { ts := [8], os := [] } [(fun (x0 : Int) (x1 : T63) => Sh.fit s63 x1) x0 x3, (AV.p (.c (.v (.bool ((signedL x0 x3))))) = AV.p (.c (.v (.bool true)))), (fun (x0 : T59) => Sh.fit s59 x0) x2, (AV.p (.c (.v (.bool ((validMan x2))))) = AV.p (.c (.v (.bool true)))), (fun (x0 : (List Int)) (x1 : T59) (x2 : T61) => Sh.fit s57 x0 ∧ Sh.fit s59 x1 ∧ Sh.fit s61 x2) x1 x2 x3.2.2.2.1] gamOK hT h (by kernel_rfl) ⟨(by exact hf3), hint_bool (h1), (by exact hf2), hint_bool (h2), (by exact ⟨hf1, hf2, hf3.2.2.2.1⟩), trivial⟩ ?_
      intro a w h
      refine then_normal ?_
      refine wp_ret ?_
      exact at_return (S := S_spec_IsProof) (x := (x0, x1, x2, x3, ())) (decide ((checkP x1 x2 x3.2.2.2.1) = 3), ()) [] h (by kernel_rfl) trivial (congrArg (fun z => (z, ())) (show (decide ((checkP x1 x2 x3.2.2.2.1) = 3)) = isProof x0 x1 x2 x3 from by first | rfl | (unfold isProof; rw [if_pos h1, if_pos h2]; done) | (unfold isProof; simp_all)))
    · skip
      refine at_regq (T := S_spec_IsProof_tab) [{}, {}, { hint := some (aB true) }, {}, {}, { hint := some (aB false) }] { ts := [8], os := [] } [(fun (x0 : Int) (x1 : T63) => Sh.fit s63 x1) x0 x3, (AV.p (.c (.v (.bool ((signedL x0 x3))))) = AV.p (.c (.v (.bool true)))), (fun (x0 : T59) => Sh.fit s59 x0) x2, (AV.p (.c (.v (.bool ((validMan x2))))) = AV.p (.c (.v (.bool false))))] gamOK hT h (by kernel_rfl) ⟨(by exact hf3), hint_bool (h1), (by exact hf2), hint_bool (h2), trivial⟩ ?_
      intro a w h
      refine then_normal ?_
      refine wp_ret ?_
      exact at_return (S := S_spec_IsProof) (x := (x0, x1, x2, x3, ())) (false, ()) [] h (by kernel_rfl) trivial (congrArg (fun z => (z, ())) (show (false) = isProof x0 x1 x2 x3 from by first | rfl | (unfold isProof; rw [if_pos h1, if_neg (neT h2)]; done) | (unfold isProof; simp_all)))
  · skip
    refine at_regq (T := S_spec_IsProof_tab) [{}, {}, { hint := some (aB false) }] { ts := [8], os := [] } [(fun (x0 : Int) (x1 : T63) => Sh.fit s63 x1) x0 x3, (AV.p (.c (.v (.bool ((signedL x0 x3))))) = AV.p (.c (.v (.bool false))))] gamOK hT h (by kernel_rfl) ⟨(by exact hf3), hint_bool (h1), trivial⟩ ?_
    intro a w h
    refine then_normal ?_
    refine wp_ret ?_
    exact at_return (S := S_spec_IsProof) (x := (x0, x1, x2, x3, ())) (false, ()) [] h (by kernel_rfl) trivial (congrArg (fun z => (z, ())) (show (false) = isProof x0 x1 x2 x3 from by first | rfl | (unfold isProof; rw [if_neg (neT h1)]; done) | (unfold isProof; simp_all)))

def S_impl_RecordProof : Sum := { fid := 26, dom := [s53, (.int 3), s57, s59, s63], cod := [s53, (.bool 4)], dp := true, fz := false, pre := fun x => (fun (x0 : (List T159)) (x1 : Int) (x2 : (List Int)) (x3 : T59) (x4 : T63) => Sh.fit s53 x0 ∧ Sh.fit s57 x2 ∧ Sh.fit s59 x3 ∧ Sh.fit s63 x4 ∧ List.length x0 ≤ 1073741823) x.1 x.2.1 x.2.2.1 x.2.2.2.1 x.2.2.2.2.1, g := fun x => ((recPf x.1 x.2.1 x.2.2.1 x.2.2.2.1 x.2.2.2.2.1).1, ((recPf x.1 x.2.1 x.2.2.1 x.2.2.2.1 x.2.2.2.2.1).2, ())) }
def S_impl_RecordProof_tab : List (Nat × Sum) := [(96, S__impl_Ledger_clone), (97, S_impl_IsProof), (98, S_impl_IsValidLedger)]
theorem S_impl_RecordProof_ok : FnOK Try.prog 26 S_impl_RecordProof := by
  refine at_enter 40 (fun x => ⟨[(0, aG [.ro s159 x.1]), (1, aI x.2.1), (2, aG [.ro (.int 3) x.2.2.1]), (3, aG [cI x.2.2.2.1.1, cI x.2.2.2.1.2.1, cI x.2.2.2.1.2.2.1, cI x.2.2.2.1.2.2.2.1, .ro (.int 3) x.2.2.2.1.2.2.2.2.1, cI x.2.2.2.1.2.2.2.2.2]), (4, aG [cI x.2.2.2.2.1.1, cI x.2.2.2.2.1.2.1, cI x.2.2.2.2.1.2.2.1, cI x.2.2.2.2.1.2.2.2.1.1, .ro (.int 3) x.2.2.2.2.1.2.2.2.1.2.1, .ro (.int 3) x.2.2.2.2.1.2.2.2.1.2.2, cI x.2.2.2.2.1.2.2.2.2])], []⟩) Try.func26 rfl (by kernel_rfl) (fun x => rfl) ?_
  rintro w0 Z0 ⟨x0, x1, x2, x3, x4, u⟩ a w
  revert x0 x1 x2 x3 x4
  intro (x0 : (List T159)) (x1 : Int) (x2 : (List Int)) (x3 : T59) (x4 : T63) hpre hlens h
  replace h : At w0 Z0 [] 40 ⟨[(0, aG [.ro s159 x0]), (1, aI x1), (2, aG [.ro (.int 3) x2]), (3, aG [cI x3.1, cI x3.2.1, cI x3.2.2.1, cI x3.2.2.2.1, .ro (.int 3) x3.2.2.2.2.1, cI x3.2.2.2.2.2]), (4, aG [cI x4.1, cI x4.2.1, cI x4.2.2.1, cI x4.2.2.2.1.1, .ro (.int 3) x4.2.2.2.1.2.1, .ro (.int 3) x4.2.2.2.1.2.2, cI x4.2.2.2.2])], []⟩ a w := h
  replace hpre : (fun (x0 : (List T159)) (x1 : Int) (x2 : (List Int)) (x3 : T59) (x4 : T63) => Sh.fit s53 x0 ∧ Sh.fit s57 x2 ∧ Sh.fit s59 x3 ∧ Sh.fit s63 x4 ∧ List.length x0 ≤ 1073741823) x0 x1 x2 x3 x4 := hpre
  have hl1 : List.length x0 ≤ 9223372036854775807 := hlens.1.1
  have hl2 : List.length x2 ≤ 9223372036854775807 := hlens.2.2.1.1
  have hl3 : List.length x3.2.2.2.2.1 ≤ 9223372036854775807 := hlens.2.2.2.1.2.2.2.2.1.1
  have hl4 : List.length x4.2.2.2.1.2.1 ≤ 9223372036854775807 := hlens.2.2.2.2.1.2.2.2.1.2.1.1
  have hl5 : List.length x4.2.2.2.1.2.2 ≤ 9223372036854775807 := hlens.2.2.2.2.1.2.2.2.1.2.2.1
  have hT : TabOK Try.prog S_impl_RecordProof_tab := (.cons S__impl_Ledger_clone_ok (.cons S_impl_IsProof_ok (.cons S_impl_IsValidLedger_ok .nil)))
  obtain ⟨hf0, hf2, hf3, hf4, hpx⟩ := hpre
  have hn0_1 : List.length x0 ≤ 1073741824 := hf0.1
  have hn2_2 : List.length x2 ≤ 1073741824 := hf2.1
  have hn3_3 : List.length x3.2.2.2.2.1 ≤ 1073741824 := hf3.2.2.2.2.1.1
  have hn4_4 : List.length x4.2.2.2.1.2.1 ≤ 1073741824 := hf4.2.2.2.1.2.1.1
  have hn4_5 : List.length x4.2.2.2.1.2.2 ≤ 1073741824 := hf4.2.2.2.1.2.2.1
  refine wp_seq ?_
  refine at_regq (T := S_impl_RecordProof_tab) [{ ids := [1] }, { ids := [2] }, { ids := [3] }, { ids := [4] }, { ids := [5] }] { ts := [1, 5, 7, 8, 9, 10, 11], os := [1, 2, 3, 4, 5] } [] gamOK hT h (by kernel_rfl) trivial ?_
  intro a w h
  refine then_normal ?_
  refine wp_seq ?_
  refine at_regq (T := S_impl_RecordProof_tab) [{}, { ids := [6] }, { ids := [7] }] { ts := [1, 5, 7, 8, 9, 10, 11, 12], os := [1, 2, 3, 4, 5, 6, 7] } [(lenOK (α := T159)) x0] gamOK hT h (by kernel_rfl) ⟨(by first | assumption | trivial | (first | omega | (simp only [List.length_append, List.length_cons, List.length_nil, List.length_set, List.length_take, List.length_drop, List.length_replicate, List.length_map, Nat.min_def]; omega) | (simp; done) | (simp; omega) | done)), trivial⟩ ?_
  intro a w h
  refine then_normal ?_
  refine wp_seq ?_
  refine wp_seq ?_
  refine at_regq (T := S_impl_RecordProof_tab) [] { ts := [5, 9, 10, 11, 12, 20], os := [1, 4, 5, 6, 7] } [(fun (x0 : Int) (x1 : (List Int)) (x2 : T59) (x3 : T63) => Sh.fit s57 x1 ∧ Sh.fit s59 x2 ∧ Sh.fit s63 x3) x1 x2 x3 x4] gamOK hT h (by kernel_rfl) ⟨(by exact ⟨hf2, hf3, hf4⟩), trivial⟩ ?_
  intro a w h
  refine then_normal ?_
  refine at_test (!(isProof x1 x2 x3 x4)) h (by kernel_rfl) (fun h1 => ?_) (fun h1 => ?_)
  · replace h1 : (isProof x1 x2 x3 x4) = false := notT h1
    refine wp_seq ?_
    refine at_reg (T := S_impl_RecordProof_tab) [] { ts := [5, 9, 10, 11, 12], os := [1, 4, 5, 6, 7] } ⟨[(5, aP 1 0), (9, aP 4 0), (10, aP 5 0), (11, aB false), (12, aP 7 0)], [(1, oX 53 [.ro s159 x0]), (4, oX 63 [cI x4.1, cI x4.2.1, cI x4.2.2.1, cI x4.2.2.2.1.1, .ro (.int 3) x4.2.2.2.1.2.1, .ro (.int 3) x4.2.2.2.1.2.2, cI x4.2.2.2.2]), (5, oX 53 [.sl 6]), (6, oR s159 x0), (7, oX 53 [.sl 6])]⟩ [] gamOK hT h (by kernel_rfl) trivial ?_
    intro a w h
    refine then_normal ?_
    refine wp_ret ?_
    refine then_ret ?_
    exact at_return (S := S_impl_RecordProof) (x := (x0, x1, x2, x3, x4, ())) (x0, (false, ())) [] h (by kernel_rfl) trivial (congrArg (fun z => (z.1, z.2, ())) (show ((x0, false)) = recPf x0 x1 x2 x3 x4 from by first | exact recPf_y (by assumption) (by assumption) | exact recPf_n (by first | (left; assumption) | (right; assumption))))
  · replace h1 : (isProof x1 x2 x3 x4) = true := notF h1
    refine wp_skip ?_
    refine then_normal ?_
    refine wp_seq ?_
    refine at_reg (T := S_impl_RecordProof_tab) [{}, {}, {}, {}, {}, {}, {}, {}, {}, { ids := [8] }, { ids := [9] }] { ts := [5, 10, 11, 12], os := [1, 5, 7, 9] } ⟨[(5, aP 1 0), (10, aP 5 0), (11, aB false), (12, aP 7 0)], [(1, oX 53 [.ro s159 x0]), (5, oX 53 [cN]), (7, oX 53 [.sl 9]), (9, oR s159 (x0 ++ ([(x4.1, (x4.2.2.1, x4.2.2.2.2))])))]⟩ [(List.length x0 + List.length ([(x4.1, (x4.2.2.1, x4.2.2.2.2))])) * 24 ≤ 140737488355328] gamOK hT h (by kernel_rfl) ⟨(by first | omega | (simp only [List.length_append, List.length_cons, List.length_nil, List.length_set, List.length_take, List.length_drop, List.length_replicate, List.length_map, Nat.min_def]; omega) | (simp; done) | (simp; omega) | done), trivial⟩ ?_
    intro a w h
    refine then_normal ?_
    refine wp_seq ?_
    refine wp_seq ?_
    refine at_regq (T := S_impl_RecordProof_tab) [] { ts := [5, 10, 11, 12, 36], os := [1, 5, 7, 9] } [(fun (x0 : (List T159)) => Sh.fit s53 x0) (x0 ++ ([(x4.1, (x4.2.2.1, x4.2.2.2.2))]))] gamOK hT h (by kernel_rfl) ⟨(by first | exact hf0 | exact Sh.fit_len (t := 51) (s := s159) rfl (by rw [List.length_append, List.length_singleton]; omega)), trivial⟩ ?_
    intro a w h
    refine then_normal ?_
    refine at_test (!(validLg (x0 ++ ([(x4.1, (x4.2.2.1, x4.2.2.2.2))])))) h (by kernel_rfl) (fun h2 => ?_) (fun h2 => ?_)
    · replace h2 : (validLg (x0 ++ ([(x4.1, (x4.2.2.1, x4.2.2.2.2))]))) = false := notT h2
      refine wp_seq ?_
      refine at_regq (T := S_impl_RecordProof_tab) [{}, { ids := [10] }] { ts := [10, 11, 12], os := [5, 7, 9, 10] } [(lenOK (α := T159)) x0] gamOK hT h (by kernel_rfl) ⟨(by first | assumption | trivial | (first | omega | (simp only [List.length_append, List.length_cons, List.length_nil, List.length_set, List.length_take, List.length_drop, List.length_replicate, List.length_map, Nat.min_def]; omega) | (simp; done) | (simp; omega) | done)), trivial⟩ ?_
      intro a w h
      refine then_normal ?_
      refine wp_ret ?_
      refine then_ret ?_
      exact at_return (S := S_impl_RecordProof) (x := (x0, x1, x2, x3, x4, ())) (x0, (false, ())) [] h (by kernel_rfl) trivial (congrArg (fun z => (z.1, z.2, ())) (show ((x0, false)) = recPf x0 x1 x2 x3 x4 from by first | exact recPf_y (by assumption) (by assumption) | exact recPf_n (by first | (left; assumption) | (right; assumption))))
    · replace h2 : (validLg (x0 ++ ([(x4.1, (x4.2.2.1, x4.2.2.2.2))]))) = true := notF h2
      refine wp_skip ?_
      refine then_normal ?_
      refine wp_seq ?_
      refine at_regq (T := S_impl_RecordProof_tab) [] { ts := [10, 11], os := [5, 9] } [] gamOK hT h (by kernel_rfl) trivial ?_
      intro a w h
      refine then_normal ?_
      refine wp_ret ?_
      exact at_return (S := S_impl_RecordProof) (x := (x0, x1, x2, x3, x4, ())) ((x0 ++ ([(x4.1, (x4.2.2.1, x4.2.2.2.2))])), (true, ())) [] h (by kernel_rfl) trivial (congrArg (fun z => (z.1, z.2, ())) (show (((x0 ++ ([(x4.1, (x4.2.2.1, x4.2.2.2.2))])), true)) = recPf x0 x1 x2 x3 x4 from by first | exact recPf_y (by assumption) (by assumption) | exact recPf_n (by first | (left; assumption) | (right; assumption))))

def S_spec_RecordProof : Sum := { fid := 21, dom := [s53, (.int 3), s57, s59, s63], cod := [s53, (.bool 4)], dp := true, fz := false, pre := fun x => (fun (x0 : (List T159)) (x1 : Int) (x2 : (List Int)) (x3 : T59) (x4 : T63) => Sh.fit s53 x0 ∧ Sh.fit s57 x2 ∧ Sh.fit s59 x3 ∧ Sh.fit s63 x4 ∧ List.length x0 ≤ 1073741823) x.1 x.2.1 x.2.2.1 x.2.2.2.1 x.2.2.2.2.1, g := fun x => ((recPf x.1 x.2.1 x.2.2.1 x.2.2.2.1 x.2.2.2.2.1).1, ((recPf x.1 x.2.1 x.2.2.1 x.2.2.2.1 x.2.2.2.2.1).2, ())) }
def S_spec_RecordProof_tab : List (Nat × Sum) := [(92, S_spec_l29Copy), (93, S_spec_IsProof), (94, S_spec_IsValidLedger)]
theorem S_spec_RecordProof_ok : FnOK Try.prog 21 S_spec_RecordProof := by
  refine at_enter 41 (fun x => ⟨[(0, aG [.ro s159 x.1]), (1, aI x.2.1), (2, aG [.ro (.int 3) x.2.2.1]), (3, aG [cI x.2.2.2.1.1, cI x.2.2.2.1.2.1, cI x.2.2.2.1.2.2.1, cI x.2.2.2.1.2.2.2.1, .ro (.int 3) x.2.2.2.1.2.2.2.2.1, cI x.2.2.2.1.2.2.2.2.2]), (4, aG [cI x.2.2.2.2.1.1, cI x.2.2.2.2.1.2.1, cI x.2.2.2.2.1.2.2.1, cI x.2.2.2.2.1.2.2.2.1.1, .ro (.int 3) x.2.2.2.2.1.2.2.2.1.2.1, .ro (.int 3) x.2.2.2.2.1.2.2.2.1.2.2, cI x.2.2.2.2.1.2.2.2.2])], []⟩) Try.func21 rfl (by kernel_rfl) (fun x => rfl) ?_
  rintro w0 Z0 ⟨x0, x1, x2, x3, x4, u⟩ a w
  revert x0 x1 x2 x3 x4
  intro (x0 : (List T159)) (x1 : Int) (x2 : (List Int)) (x3 : T59) (x4 : T63) hpre hlens h
  replace h : At w0 Z0 [] 41 ⟨[(0, aG [.ro s159 x0]), (1, aI x1), (2, aG [.ro (.int 3) x2]), (3, aG [cI x3.1, cI x3.2.1, cI x3.2.2.1, cI x3.2.2.2.1, .ro (.int 3) x3.2.2.2.2.1, cI x3.2.2.2.2.2]), (4, aG [cI x4.1, cI x4.2.1, cI x4.2.2.1, cI x4.2.2.2.1.1, .ro (.int 3) x4.2.2.2.1.2.1, .ro (.int 3) x4.2.2.2.1.2.2, cI x4.2.2.2.2])], []⟩ a w := h
  replace hpre : (fun (x0 : (List T159)) (x1 : Int) (x2 : (List Int)) (x3 : T59) (x4 : T63) => Sh.fit s53 x0 ∧ Sh.fit s57 x2 ∧ Sh.fit s59 x3 ∧ Sh.fit s63 x4 ∧ List.length x0 ≤ 1073741823) x0 x1 x2 x3 x4 := hpre
  have hl1 : List.length x0 ≤ 9223372036854775807 := hlens.1.1
  have hl2 : List.length x2 ≤ 9223372036854775807 := hlens.2.2.1.1
  have hl3 : List.length x3.2.2.2.2.1 ≤ 9223372036854775807 := hlens.2.2.2.1.2.2.2.2.1.1
  have hl4 : List.length x4.2.2.2.1.2.1 ≤ 9223372036854775807 := hlens.2.2.2.2.1.2.2.2.1.2.1.1
  have hl5 : List.length x4.2.2.2.1.2.2 ≤ 9223372036854775807 := hlens.2.2.2.2.1.2.2.2.1.2.2.1
  have hT : TabOK Try.prog S_spec_RecordProof_tab := (.cons S_spec_l29Copy_ok (.cons S_spec_IsProof_ok (.cons S_spec_IsValidLedger_ok .nil)))
  obtain ⟨hf0, hf2, hf3, hf4, hpx⟩ := hpre
  have hn0_1 : List.length x0 ≤ 1073741824 := hf0.1
  have hn2_2 : List.length x2 ≤ 1073741824 := hf2.1
  have hn3_3 : List.length x3.2.2.2.2.1 ≤ 1073741824 := hf3.2.2.2.2.1.1
  have hn4_4 : List.length x4.2.2.2.1.2.1 ≤ 1073741824 := hf4.2.2.2.1.2.1.1
  have hn4_5 : List.length x4.2.2.2.1.2.2 ≤ 1073741824 := hf4.2.2.2.1.2.2.1
  refine wp_seq ?_
  refine at_regq (T := S_spec_RecordProof_tab) [{ ids := [1] }, { ids := [2] }, { ids := [3] }, { ids := [4] }, { ids := [5] }] { ts := [1, 5, 7, 8, 9, 10, 11], os := [1, 2, 3, 4, 5] } [] gamOK hT h (by kernel_rfl) trivial ?_
  intro a w h
  refine then_normal ?_
  refine wp_seq ?_
  refine at_regq (T := S_spec_RecordProof_tab) [{}, { ids := [6] }, { ids := [7] }] { ts := [1, 5, 7, 8, 9, 10, 11, 12], os := [1, 2, 3, 4, 5, 6, 7] } [(lenOK (α := T159)) x0] gamOK hT h (by kernel_rfl) ⟨(by first | assumption | trivial | (first | omega | (simp only [List.length_append, List.length_cons, List.length_nil, List.length_set, List.length_take, List.length_drop, List.length_replicate, List.length_map, Nat.min_def]; omega) | (simp; done) | (simp; omega) | done)), trivial⟩ ?_
  intro a w h
  refine then_normal ?_
  refine wp_seq ?_
  refine at_regq (T := S_spec_RecordProof_tab) [{}, {}, {}, {}, {}, {}, {}, {}, {}, { ids := [8] }, { ids := [9] }] { ts := [1, 5, 7, 8, 9, 10, 11, 12], os := [1, 2, 3, 4, 5, 7, 9] } [(List.length x0 + List.length ([(x4.1, (x4.2.2.1, x4.2.2.2.2))])) * 24 ≤ 140737488355328] gamOK hT h (by kernel_rfl) ⟨(by first | omega | (simp only [List.length_append, List.length_cons, List.length_nil, List.length_set, List.length_take, List.length_drop, List.length_replicate, List.length_map, Nat.min_def]; omega) | (simp; done) | (simp; omega) | done), trivial⟩ ?_
  intro a w h
  refine then_normal ?_
  refine wp_seq ?_
  refine wp_seq ?_
  rcases Bool.eq_false_or_eq_true (!(isProof x1 x2 x3 x4)) with h1 | h1
  · skip
    have hzh1 : (isProof x1 x2 x3 x4) = false := notT h1
    refine at_reg (T := S_spec_RecordProof_tab) [{}, {}, {}, {}, {}, { hint := some (aB true) }] { ts := [5, 10, 11, 12, 37], os := [1, 5, 7, 9] } ⟨[(5, aP 1 0), (10, aP 5 0), (11, aB false), (12, aP 7 0), (37, aB true)], [(1, oX 53 [.ro s159 x0]), (5, oX 53 [cN]), (7, oX 53 [.sl 9]), (9, oR s159 (x0 ++ ([(x4.1, (x4.2.2.1, x4.2.2.2.2))])))]⟩ [(fun (x0 : Int) (x1 : (List Int)) (x2 : T59) (x3 : T63) => Sh.fit s57 x1 ∧ Sh.fit s59 x2 ∧ Sh.fit s63 x3) x1 x2 x3 x4, (AV.p (.c (.v (.bool (!(isProof x1 x2 x3 x4))))) = AV.p (.c (.v (.bool true))))] gamOK hT h (by kernel_rfl) ⟨(by exact ⟨hf2, hf3, hf4⟩), hint_bool (h1), trivial⟩ ?_
    intro a w h
    refine then_normal ?_
    refine at_test true h (by kernel_rfl) (fun hh => ?_) (fun hh => nomatch hh)
    refine wp_seq ?_
    refine at_regq (T := S_spec_RecordProof_tab) [{}, { ids := [10] }] { ts := [10, 11, 12], os := [5, 7, 9, 10] } [(lenOK (α := T159)) x0] gamOK hT h (by kernel_rfl) ⟨(by first | assumption | trivial | (first | omega | (simp only [List.length_append, List.length_cons, List.length_nil, List.length_set, List.length_take, List.length_drop, List.length_replicate, List.length_map, Nat.min_def]; omega) | (simp; done) | (simp; omega) | done)), trivial⟩ ?_
    intro a w h
    refine then_normal ?_
    refine wp_ret ?_
    refine then_ret ?_
    exact at_return (S := S_spec_RecordProof) (x := (x0, x1, x2, x3, x4, ())) (x0, (false, ())) [] h (by kernel_rfl) trivial (congrArg (fun z => (z.1, z.2, ())) (show ((x0, false)) = recPf x0 x1 x2 x3 x4 from by first | exact recPf_y (by assumption) (by assumption) | exact recPf_n (by first | (left; assumption) | (right; assumption))))
  · skip
    have hzh1 : (isProof x1 x2 x3 x4) = true := notF h1
    refine at_reg (T := S_spec_RecordProof_tab) [{}, {}, {}, {}, {}, { hint := some (aB false) }] { ts := [5, 10, 11, 12, 37], os := [1, 5, 7, 9] } ⟨[(5, aP 1 0), (10, aP 5 0), (11, aB false), (12, aP 7 0), (37, aB (!(validLg (x0 ++ ([(x4.1, (x4.2.2.1, x4.2.2.2.2))])))))], [(1, oX 53 [.ro s159 x0]), (5, oX 53 [cN]), (7, oX 53 [.sl 9]), (9, oR s159 (x0 ++ ([(x4.1, (x4.2.2.1, x4.2.2.2.2))])))]⟩ [(fun (x0 : Int) (x1 : (List Int)) (x2 : T59) (x3 : T63) => Sh.fit s57 x1 ∧ Sh.fit s59 x2 ∧ Sh.fit s63 x3) x1 x2 x3 x4, (AV.p (.c (.v (.bool (!(isProof x1 x2 x3 x4))))) = AV.p (.c (.v (.bool false)))), (fun (x0 : (List T159)) => Sh.fit s53 x0) (x0 ++ ([(x4.1, (x4.2.2.1, x4.2.2.2.2))]))] gamOK hT h (by kernel_rfl) ⟨(by exact ⟨hf2, hf3, hf4⟩), hint_bool (h1), (by first | exact hf0 | exact Sh.fit_len (t := 51) (s := s159) rfl (by rw [List.length_append, List.length_singleton]; omega)), trivial⟩ ?_
    intro a w h
    refine then_normal ?_
    refine at_test (!(validLg (x0 ++ ([(x4.1, (x4.2.2.1, x4.2.2.2.2))])))) h (by kernel_rfl) (fun h2 => ?_) (fun h2 => ?_)
    · replace h2 : (validLg (x0 ++ ([(x4.1, (x4.2.2.1, x4.2.2.2.2))]))) = false := notT h2
      refine wp_seq ?_
      refine at_regq (T := S_spec_RecordProof_tab) [{}, { ids := [10] }] { ts := [10, 11, 12], os := [5, 7, 9, 10] } [(lenOK (α := T159)) x0] gamOK hT h (by kernel_rfl) ⟨(by first | assumption | trivial | (first | omega | (simp only [List.length_append, List.length_cons, List.length_nil, List.length_set, List.length_take, List.length_drop, List.length_replicate, List.length_map, Nat.min_def]; omega) | (simp; done) | (simp; omega) | done)), trivial⟩ ?_
      intro a w h
      refine then_normal ?_
      refine wp_ret ?_
      refine then_ret ?_
      exact at_return (S := S_spec_RecordProof) (x := (x0, x1, x2, x3, x4, ())) (x0, (false, ())) [] h (by kernel_rfl) trivial (congrArg (fun z => (z.1, z.2, ())) (show ((x0, false)) = recPf x0 x1 x2 x3 x4 from by first | exact recPf_y (by assumption) (by assumption) | exact recPf_n (by first | (left; assumption) | (right; assumption))))
    · replace h2 : (validLg (x0 ++ ([(x4.1, (x4.2.2.1, x4.2.2.2.2))]))) = true := notF h2
      refine wp_skip ?_
      refine then_normal ?_
      refine wp_seq ?_
      refine at_regq (T := S_spec_RecordProof_tab) [] { ts := [10, 11], os := [5, 9] } [] gamOK hT h (by kernel_rfl) trivial ?_
      intro a w h
      refine then_normal ?_
      refine wp_ret ?_
      exact at_return (S := S_spec_RecordProof) (x := (x0, x1, x2, x3, x4, ())) ((x0 ++ ([(x4.1, (x4.2.2.1, x4.2.2.2.2))])), (true, ())) [] h (by kernel_rfl) trivial (congrArg (fun z => (z.1, z.2, ())) (show (((x0 ++ ([(x4.1, (x4.2.2.1, x4.2.2.2.2))])), true)) = recPf x0 x1 x2 x3 x4 from by first | exact recPf_y (by assumption) (by assumption) | exact recPf_n (by first | (left; assumption) | (right; assumption))))

def D_laws_FnExactRecordProof := (fun (_ : (List T237)) (_ : Int) (_ : (List Int)) (_ : T42) (_ : T46) => true)
def S_laws_FnExactRecordProof : Sum := { fid := 4, dom := [s38, (.int 3), s40, s42, s46], cod := [(.bool 4)], dp := true, fz := false, pre := fun x => (fun (x0 : (List T237)) (x1 : Int) (x2 : (List Int)) (x3 : T42) (x4 : T46) => Sh.i64 s38 x0 ∧ Sh.i64 (.int 3) x1 ∧ Sh.i64 s40 x2 ∧ Sh.i64 s42 x3 ∧ Sh.i64 s46 x4) x.1 x.2.1 x.2.2.1 x.2.2.2.1 x.2.2.2.2.1, g := fun x => ((D_laws_FnExactRecordProof x.1 x.2.1 x.2.2.1 x.2.2.2.1 x.2.2.2.2.1), ()) }
def S_laws_FnExactRecordProof_tab : List (Nat × Sum) := [(17, S_laws_szLedger), (18, S_laws_szHashKey), (19, S_laws_szManifest), (20, S_laws_szLinkPacket), (22, S_laws_toLedger), (23, S_laws_toHashKey), (24, S_laws_toManifest), (25, S_laws_toLinkPacket), (21, S_spec_RecordProof), (26, S_impl_RecordProof), (27, S_laws_eqLedger), (28, S_laws_eqHashKey), (29, S_laws_eqManifest), (30, S_laws_eqLinkPacket), (31, S_laws_markLedger), (32, S_laws_markHashKey), (33, S_laws_markManifest), (34, S_laws_markLinkPacket), (35, S_laws_heldLedger)]
theorem S_laws_FnExactRecordProof_ok : FnOK Try.prog 4 S_laws_FnExactRecordProof := by
  refine at_enter 170 (fun x => ⟨[(0, aG [.ro s237 x.1]), (1, aI x.2.1), (2, aG [.ro (.int 3) x.2.2.1]), (3, aG [cI x.2.2.2.1.1, cI x.2.2.2.1.2.1, cI x.2.2.2.1.2.2.1, cI x.2.2.2.1.2.2.2.1, .ro (.int 3) x.2.2.2.1.2.2.2.2.1, cI x.2.2.2.1.2.2.2.2.2]), (4, aG [cI x.2.2.2.2.1.1, cI x.2.2.2.2.1.2.1, cI x.2.2.2.2.1.2.2.1, cI x.2.2.2.2.1.2.2.2.1.1, .ro (.int 3) x.2.2.2.2.1.2.2.2.1.2.1, .ro (.int 3) x.2.2.2.2.1.2.2.2.1.2.2, cI x.2.2.2.2.1.2.2.2.2])], []⟩) Try.func4 rfl (by kernel_rfl) (fun x => rfl) ?_
  rintro w0 Z0 ⟨x0, x1, x2, x3, x4, u⟩ a w
  revert x0 x1 x2 x3 x4
  intro (x0 : (List T237)) (x1 : Int) (x2 : (List Int)) (x3 : T42) (x4 : T46) hpre hlens h
  replace h : At w0 Z0 [] 170 ⟨[(0, aG [.ro s237 x0]), (1, aI x1), (2, aG [.ro (.int 3) x2]), (3, aG [cI x3.1, cI x3.2.1, cI x3.2.2.1, cI x3.2.2.2.1, .ro (.int 3) x3.2.2.2.2.1, cI x3.2.2.2.2.2]), (4, aG [cI x4.1, cI x4.2.1, cI x4.2.2.1, cI x4.2.2.2.1.1, .ro (.int 3) x4.2.2.2.1.2.1, .ro (.int 3) x4.2.2.2.1.2.2, cI x4.2.2.2.2])], []⟩ a w := h
  replace hpre : (fun (x0 : (List T237)) (x1 : Int) (x2 : (List Int)) (x3 : T42) (x4 : T46) => Sh.i64 s38 x0 ∧ Sh.i64 (.int 3) x1 ∧ Sh.i64 s40 x2 ∧ Sh.i64 s42 x3 ∧ Sh.i64 s46 x4) x0 x1 x2 x3 x4 := hpre
  have hl1 : List.length x0 ≤ 9223372036854775807 := hlens.1.1
  have hl2 : List.length x2 ≤ 9223372036854775807 := hlens.2.2.1.1
  have hl3 : List.length x3.2.2.2.2.1 ≤ 9223372036854775807 := hlens.2.2.2.1.2.2.2.2.1.1
  have hl4 : List.length x4.2.2.2.1.2.1 ≤ 9223372036854775807 := hlens.2.2.2.2.1.2.2.2.1.2.1.1
  have hl5 : List.length x4.2.2.2.1.2.2 ≤ 9223372036854775807 := hlens.2.2.2.2.1.2.2.2.1.2.2.1
  have hT : TabOK Try.prog S_laws_FnExactRecordProof_tab := (.cons S_laws_szLedger_ok (.cons S_laws_szHashKey_ok (.cons S_laws_szManifest_ok (.cons S_laws_szLinkPacket_ok (.cons S_laws_toLedger_ok (.cons S_laws_toHashKey_ok (.cons S_laws_toManifest_ok (.cons S_laws_toLinkPacket_ok (.cons S_spec_RecordProof_ok (.cons S_impl_RecordProof_ok (.cons S_laws_eqLedger_ok (.cons S_laws_eqHashKey_ok (.cons S_laws_eqManifest_ok (.cons S_laws_eqLinkPacket_ok (.cons S_laws_markLedger_ok (.cons S_laws_markHashKey_ok (.cons S_laws_markManifest_ok (.cons S_laws_markLinkPacket_ok (.cons S_laws_heldLedger_ok .nil)))))))))))))))))))
  have hq0 : Sh.sz s53 x0 = Sh.sz s38 x0 := rfl
  have hb0 : Sh.ctT s53 x0 ≤ 3 * Sh.sz s53 x0 := Sh.ctT_le2 s53 x0
  have hz0 : Sh.ct s53 x0 ≤ 3 * (1 + Sh.sz s53 x0) := Sh.ct_le s53 x0
  have ht0 : Sh.sz s38 x0 = (Sh.sz s36 x0) := rfl
  have hs0_1 : Sh.sz s36 x0 = List.length x0 := sz_flat (by rfl) _
  have hq2 : Sh.sz s57 x2 = Sh.sz s40 x2 := rfl
  have hb2 : Sh.ctT s57 x2 ≤ 1 * Sh.sz s57 x2 := Sh.ctT_le2 s57 x2
  have hz2 : Sh.ct s57 x2 ≤ 1 * (1 + Sh.sz s57 x2) := Sh.ct_le s57 x2
  have ht2 : Sh.sz s40 x2 = (Sh.sz s22 x2) := rfl
  have hs2_1 : Sh.sz s22 x2 = List.length x2 := sz_flat (by rfl) _
  have hq3 : Sh.sz s59 x3 = Sh.sz s42 x3 := rfl
  have hb3 : Sh.ctT s59 x3 ≤ 6 * Sh.sz s59 x3 := Sh.ctT_le2 s59 x3
  have hz3 : Sh.ct s59 x3 ≤ 6 * (1 + Sh.sz s59 x3) := Sh.ct_le s59 x3
  have ht3 : Sh.sz s42 x3 = (0 + (0 + (0 + (0 + ((Sh.sz s22 x3.2.2.2.2.1) + 0))))) := rfl
  have hs3_1 : Sh.sz s22 x3.2.2.2.2.1 = List.length x3.2.2.2.2.1 := sz_flat (by rfl) _
  have hq4 : Sh.sz s63 x4 = Sh.sz s46 x4 := rfl
  have hb4 : Sh.ctT s63 x4 ≤ 7 * Sh.sz s63 x4 := Sh.ctT_le2 s63 x4
  have hz4 : Sh.ct s63 x4 ≤ 7 * (1 + Sh.sz s63 x4) := Sh.ct_le s63 x4
  have ht4 : Sh.sz s46 x4 = (0 + (0 + (0 + ((0 + ((Sh.sz s22 x4.2.2.2.1.2.1) + (Sh.sz s22 x4.2.2.2.1.2.2))) + 0)))) := rfl
  have hs4_1 : Sh.sz s22 x4.2.2.2.1.2.1 = List.length x4.2.2.2.1.2.1 := sz_flat (by rfl) _
  have hs4_2 : Sh.sz s22 x4.2.2.2.1.2.2 = List.length x4.2.2.2.1.2.2 := sz_flat (by rfl) _
  have hr1 : Sh.ctT s53 ((recPf x0 x1 x2 x3 x4).1) ≤ 3 * Sh.sz s53 ((recPf x0 x1 x2 x3 x4).1) := Sh.ctT_le2 s53 _
  have hr2 : Sh.sz s53 ((recPf x0 x1 x2 x3 x4).1) = List.length (recPf x0 x1 x2 x3 x4).1 := sz_flat (t := 0) (a := s159) (by rfl) _
  have hr3 := recPf_len x0 x1 x2 x3 x4
  refine wp_seq ?_
  refine at_regq (T := S_laws_FnExactRecordProof_tab) [{ ids := [1] }, { ids := [2] }, { ids := [3] }, { ids := [4] }] { ts := [1, 5, 7, 8, 9, 10], os := [1, 2, 3, 4] } [] gamOK hT h (by kernel_rfl) trivial ?_
  intro a w h
  refine then_normal ?_
  refine wp_seq ?_
  refine at_regq (T := S_laws_FnExactRecordProof_tab) [] { ts := [1, 5, 7, 8, 9, 10, 11], os := [1, 2, 3, 4] } [] gamOK hT h (by kernel_rfl) trivial ?_
  intro a w h
  refine then_normal ?_
  refine wp_seq ?_
  refine at_regq (T := S_laws_FnExactRecordProof_tab) [] { ts := [1, 5, 7, 8, 9, 10, 11], os := [1, 2, 3, 4] } [(pSz s38) x0 1048576] gamOK hT h (by kernel_rfl) ⟨(by (show (0 : Int) ≤ _ ∧ _ ≤ (9223372036854775807 : Int); constructor <;> omega)), trivial⟩ ?_
  intro a w h
  refine then_normal ?_
  refine wp_seq ?_
  refine wp_seq ?_
  refine at_reg (T := S_laws_FnExactRecordProof_tab) [] { ts := [1, 5, 7, 8, 9, 10, 11, 29], os := [1, 2, 3, 4] } ⟨[(1, aI x1), (5, aP 1 0), (7, aP 2 0), (8, aP 3 0), (9, aP 4 0), (10, aB false), (11, aI ((szD s38) x0 1048576)), (29, aB (decide (((szD s38) x0 1048576) < 0)))], [(1, oX 38 [.ro s237 x0]), (2, oX 40 [.ro (.int 3) x2]), (3, oX 42 [cI x3.1, cI x3.2.1, cI x3.2.2.1, cI x3.2.2.2.1, .ro (.int 3) x3.2.2.2.2.1, cI x3.2.2.2.2.2]), (4, oX 46 [cI x4.1, cI x4.2.1, cI x4.2.2.1, cI x4.2.2.2.1.1, .ro (.int 3) x4.2.2.2.1.2.1, .ro (.int 3) x4.2.2.2.1.2.2, cI x4.2.2.2.2])]⟩ [] gamOK hT h (by kernel_rfl) trivial ?_
  intro a w h
  refine then_normal ?_
  refine at_test (decide (((szD s38) x0 1048576) < 0)) h (by kernel_rfl) (fun h1 => ?_) (fun h1 => ?_)
  · replace h1 : ((szD s38) x0 1048576) < 0 := of_decide_eq_true h1
    have hvh1 := szD_neg h1 (by omega)
    refine wp_seq ?_
    refine at_regq (T := S_laws_FnExactRecordProof_tab) [] { ts := [1, 5, 7, 8, 9, 10, 11], os := [1, 2, 3, 4] } [] gamOK hT h (by kernel_rfl) trivial ?_
    intro a w h
    refine then_normal ?_
    refine wp_ret ?_
    refine then_ret ?_
    exact at_return (S := S_laws_FnExactRecordProof) (x := (x0, x1, x2, x3, x4, ())) (true, ()) [] h (by kernel_rfl) trivial (congrArg (fun z => (z, ())) (show (true) = D_laws_FnExactRecordProof x0 x1 x2 x3 x4 from by unfold D_laws_FnExactRecordProof; rfl))
  · replace h1 : ¬ (((szD s38) x0 1048576) < 0) := of_decide_eq_false h1
    have hvh1 := szD_val h1 (by omega)
    refine wp_skip ?_
    refine then_normal ?_
    refine wp_seq ?_
    refine at_regq (T := S_laws_FnExactRecordProof_tab) [] { ts := [1, 5, 7, 8, 9, 10, 11], os := [1, 2, 3, 4] } [(pSz s40) x2 ((szD s38) x0 1048576)] gamOK hT h (by kernel_rfl) ⟨(by (show (0 : Int) ≤ _ ∧ _ ≤ (9223372036854775807 : Int); constructor <;> omega)), trivial⟩ ?_
    intro a w h
    refine then_normal ?_
    refine wp_seq ?_
    refine wp_seq ?_
    refine at_regq (T := S_laws_FnExactRecordProof_tab) [] { ts := [1, 5, 7, 8, 9, 10, 11, 34], os := [1, 2, 3, 4] } [] gamOK hT h (by kernel_rfl) trivial ?_
    intro a w h
    refine then_normal ?_
    refine at_test (decide (((szD s40) x2 ((szD s38) x0 1048576)) < 0)) h (by kernel_rfl) (fun h2 => ?_) (fun h2 => ?_)
    · replace h2 : ((szD s40) x2 ((szD s38) x0 1048576)) < 0 := of_decide_eq_true h2
      have hvh2 := szD_neg h2 (by omega)
      refine wp_seq ?_
      refine at_regq (T := S_laws_FnExactRecordProof_tab) [] { ts := [1, 5, 7, 8, 9, 10, 11], os := [1, 2, 3, 4] } [] gamOK hT h (by kernel_rfl) trivial ?_
      intro a w h
      refine then_normal ?_
      refine wp_ret ?_
      refine then_ret ?_
      exact at_return (S := S_laws_FnExactRecordProof) (x := (x0, x1, x2, x3, x4, ())) (true, ()) [] h (by kernel_rfl) trivial (congrArg (fun z => (z, ())) (show (true) = D_laws_FnExactRecordProof x0 x1 x2 x3 x4 from by unfold D_laws_FnExactRecordProof; rfl))
    · replace h2 : ¬ (((szD s40) x2 ((szD s38) x0 1048576)) < 0) := of_decide_eq_false h2
      have hvh2 := szD_val h2 (by omega)
      refine wp_skip ?_
      refine then_normal ?_
      refine wp_seq ?_
      refine at_regq (T := S_laws_FnExactRecordProof_tab) [] { ts := [1, 5, 7, 8, 9, 10, 11], os := [1, 2, 3, 4] } [(pSz s42) x3 ((szD s40) x2 ((szD s38) x0 1048576))] gamOK hT h (by kernel_rfl) ⟨(by (show (0 : Int) ≤ _ ∧ _ ≤ (9223372036854775807 : Int); constructor <;> omega)), trivial⟩ ?_
      intro a w h
      refine then_normal ?_
      refine wp_seq ?_
      refine wp_seq ?_
      refine at_reg (T := S_laws_FnExactRecordProof_tab) [] { ts := [1, 5, 7, 8, 9, 10, 11, 39], os := [1, 2, 3, 4] } ⟨[(1, aI x1), (5, aP 1 0), (7, aP 2 0), (8, aP 3 0), (9, aP 4 0), (10, aB false), (11, aI ((szD s42) x3 ((szD s40) x2 ((szD s38) x0 1048576)))), (39, aB (decide (((szD s42) x3 ((szD s40) x2 ((szD s38) x0 1048576))) < 0)))], [(1, oX 38 [.ro s237 x0]), (2, oX 40 [.ro (.int 3) x2]), (3, oX 42 [cI x3.1, cI x3.2.1, cI x3.2.2.1, cI x3.2.2.2.1, .ro (.int 3) x3.2.2.2.2.1, cI x3.2.2.2.2.2]), (4, oX 46 [cI x4.1, cI x4.2.1, cI x4.2.2.1, cI x4.2.2.2.1.1, .ro (.int 3) x4.2.2.2.1.2.1, .ro (.int 3) x4.2.2.2.1.2.2, cI x4.2.2.2.2])]⟩ [] gamOK hT h (by kernel_rfl) trivial ?_
      intro a w h
      refine then_normal ?_
      refine at_test (decide (((szD s42) x3 ((szD s40) x2 ((szD s38) x0 1048576))) < 0)) h (by kernel_rfl) (fun h3 => ?_) (fun h3 => ?_)
      · replace h3 : ((szD s42) x3 ((szD s40) x2 ((szD s38) x0 1048576))) < 0 := of_decide_eq_true h3
        have hvh3 := szD_neg h3 (by omega)
        refine wp_seq ?_
        refine at_regq (T := S_laws_FnExactRecordProof_tab) [] { ts := [1, 5, 7, 8, 9, 10, 11], os := [1, 2, 3, 4] } [] gamOK hT h (by kernel_rfl) trivial ?_
        intro a w h
        refine then_normal ?_
        refine wp_ret ?_
        refine then_ret ?_
        exact at_return (S := S_laws_FnExactRecordProof) (x := (x0, x1, x2, x3, x4, ())) (true, ()) [] h (by kernel_rfl) trivial (congrArg (fun z => (z, ())) (show (true) = D_laws_FnExactRecordProof x0 x1 x2 x3 x4 from by unfold D_laws_FnExactRecordProof; rfl))
      · replace h3 : ¬ (((szD s42) x3 ((szD s40) x2 ((szD s38) x0 1048576))) < 0) := of_decide_eq_false h3
        have hvh3 := szD_val h3 (by omega)
        refine wp_skip ?_
        refine then_normal ?_
        refine wp_seq ?_
        refine at_regq (T := S_laws_FnExactRecordProof_tab) [] { ts := [1, 5, 7, 8, 9, 10, 11], os := [1, 2, 3, 4] } [(pSz s46) x4 ((szD s42) x3 ((szD s40) x2 ((szD s38) x0 1048576)))] gamOK hT h (by kernel_rfl) ⟨(by (show (0 : Int) ≤ _ ∧ _ ≤ (9223372036854775807 : Int); constructor <;> omega)), trivial⟩ ?_
        intro a w h
        refine then_normal ?_
        refine wp_seq ?_
        refine wp_seq ?_
        refine at_regq (T := S_laws_FnExactRecordProof_tab) [] { ts := [1, 5, 7, 8, 9, 10, 44], os := [1, 2, 3, 4] } [] gamOK hT h (by kernel_rfl) trivial ?_
        intro a w h
        refine then_normal ?_
        refine at_test (decide (((szD s46) x4 ((szD s42) x3 ((szD s40) x2 ((szD s38) x0 1048576)))) < 0)) h (by kernel_rfl) (fun h4 => ?_) (fun h4 => ?_)
        · replace h4 : ((szD s46) x4 ((szD s42) x3 ((szD s40) x2 ((szD s38) x0 1048576)))) < 0 := of_decide_eq_true h4
          have hvh4 := szD_neg h4 (by omega)
          refine wp_seq ?_
          refine at_regq (T := S_laws_FnExactRecordProof_tab) [] { ts := [1, 5, 7, 8, 9, 10], os := [1, 2, 3, 4] } [] gamOK hT h (by kernel_rfl) trivial ?_
          intro a w h
          refine then_normal ?_
          refine wp_ret ?_
          refine then_ret ?_
          exact at_return (S := S_laws_FnExactRecordProof) (x := (x0, x1, x2, x3, x4, ())) (true, ()) [] h (by kernel_rfl) trivial (congrArg (fun z => (z, ())) (show (true) = D_laws_FnExactRecordProof x0 x1 x2 x3 x4 from by unfold D_laws_FnExactRecordProof; rfl))
        · replace h4 : ¬ (((szD s46) x4 ((szD s42) x3 ((szD s40) x2 ((szD s38) x0 1048576)))) < 0) := of_decide_eq_false h4
          have hvh4 := szD_val h4 (by omega)
          refine wp_skip ?_
          refine then_normal ?_
          refine wp_seq ?_
          refine at_anyq (T := S_laws_FnExactRecordProof_tab) [{}, { ids := [5] }, {}, {}, { ids := [6] }, {}, { ids := [7] }, {}, { ids := [8, 9] }, { ids := [10] }, {}, {}, {}, { ids := [11] }, {}, {}] { ts := [1, 5, 7, 8, 9, 10, 12, 13], os := [1, 2, 3, 4, 10, 11] } [(pTo s38) x0, (pTo s40) x2, (pTo s42) x3, (pTo s46) x4, (fun (x0 : (List T159)) (x1 : Int) (x2 : (List Int)) (x3 : T59) (x4 : T63) => Sh.fit s53 x0 ∧ Sh.fit s57 x2 ∧ Sh.fit s59 x3 ∧ Sh.fit s63 x4 ∧ List.length x0 ≤ 1073741823) x0 x1 x2 x3 x4] gamOK hT mixed h (by kernel_rfl) ⟨(by (show Sh.sz _ _ ≤ 1048576; omega)), (by (show Sh.sz _ _ ≤ 1048576; omega)), (by (show Sh.sz _ _ ≤ 1048576; omega)), (by (show Sh.sz _ _ ≤ 1048576; omega)), (by exact ⟨(Sh.fit_of_sz s53 rfl (x := x0) (by omega)), (Sh.fit_of_sz s57 rfl (x := x2) (by omega)), (Sh.fit_of_sz s59 rfl (x := x3) (by omega)), (Sh.fit_of_sz s63 rfl (x := x4) (by omega)), (by first | assumption | omega | (refine ⟨?_, ?_⟩ <;> omega))⟩), trivial⟩ ?_
          intro a w h
          refine then_normal ?_
          refine wp_seq ?_
          refine at_reg (T := S_laws_FnExactRecordProof_tab) [{}, { ids := [12] }, { ids := [13] }] { ts := [1, 5, 7, 8, 9, 10, 12, 13, 14], os := [1, 2, 3, 4, 10, 11, 12, 13] } ⟨[(1, aI x1), (5, aP 1 0), (7, aP 2 0), (8, aP 3 0), (9, aP 4 0), (10, aB false), (12, aP 11 0), (13, aB (recPf x0 x1 x2 x3 x4).2), (14, aP 13 0)], [(1, oX 38 [.ro s237 x0]), (2, oX 40 [.ro (.int 3) x2]), (3, oX 42 [cI x3.1, cI x3.2.1, cI x3.2.2.1, cI x3.2.2.2.1, .ro (.int 3) x3.2.2.2.2.1, cI x3.2.2.2.2.2]), (4, oX 46 [cI x4.1, cI x4.2.1, cI x4.2.2.1, cI x4.2.2.2.1.1, .ro (.int 3) x4.2.2.2.1.2.1, .ro (.int 3) x4.2.2.2.1.2.2, cI x4.2.2.2.2]), (10, oR s159 (recPf x0 x1 x2 x3 x4).1), (11, oX 53 [.sl 10]), (12, oR s159 x0), (13, oX 53 [.sl 12])]⟩ [(pTo s38) x0] gamOK hT h (by kernel_rfl) ⟨(by (show Sh.sz _ _ ≤ 1048576; omega)), trivial⟩ ?_
          intro a w h
          refine then_normal ?_
          refine wp_seq ?_
          refine at_regq (T := S_laws_FnExactRecordProof_tab) [{}, { ids := [14] }, { ids := [15] }] { ts := [1, 5, 7, 8, 9, 10, 12, 13, 14, 15], os := [1, 2, 3, 4, 10, 11, 12, 13, 14, 15] } [(pTo s40) x2] gamOK hT h (by kernel_rfl) ⟨(by (show Sh.sz _ _ ≤ 1048576; omega)), trivial⟩ ?_
          intro a w h
          refine then_normal ?_
          refine wp_seq ?_
          refine at_regq (T := S_laws_FnExactRecordProof_tab) [{}, { ids := [16] }, { ids := [17] }] { ts := [1, 5, 7, 8, 9, 10, 12, 13, 14, 15, 16], os := [1, 2, 3, 4, 10, 11, 12, 13, 14, 15, 16, 17] } [(pTo s42) x3] gamOK hT h (by kernel_rfl) ⟨(by (show Sh.sz _ _ ≤ 1048576; omega)), trivial⟩ ?_
          intro a w h
          refine then_normal ?_
          refine wp_seq ?_
          refine at_regq (T := S_laws_FnExactRecordProof_tab) [{}, { ids := [18, 19] }, { ids := [20] }] { ts := [1, 5, 7, 8, 9, 10, 12, 13, 14, 15, 16, 17], os := [1, 2, 3, 4, 10, 11, 12, 13, 14, 15, 16, 17, 18, 19, 20] } [(pTo s46) x4] gamOK hT h (by kernel_rfl) ⟨(by (show Sh.sz _ _ ≤ 1048576; omega)), trivial⟩ ?_
          intro a w h
          refine then_normal ?_
          refine wp_seq ?_
          refine at_reg (T := S_laws_FnExactRecordProof_tab) [{}, {}, {}, {}, {}, { ids := [21] }, {}, {}, {}, { ids := [22] }] { ts := [1, 5, 7, 8, 9, 10, 12, 13, 14, 15, 16, 17, 18, 19], os := [1, 2, 3, 4, 10, 11, 12, 13, 14, 15, 16, 17, 18, 19, 20, 21, 22] } ⟨[(1, aI x1), (5, aP 1 0), (7, aP 2 0), (8, aP 3 0), (9, aP 4 0), (10, aB false), (12, aP 11 0), (13, aB (recPf x0 x1 x2 x3 x4).2), (14, aP 13 0), (15, aP 15 0), (16, aP 17 0), (17, aP 20 0), (18, aP 22 0), (19, aB (recPf x0 x1 x2 x3 x4).2)], [(1, oX 38 [.ro s237 x0]), (2, oX 40 [.ro (.int 3) x2]), (3, oX 42 [cI x3.1, cI x3.2.1, cI x3.2.2.1, cI x3.2.2.2.1, .ro (.int 3) x3.2.2.2.2.1, cI x3.2.2.2.2.2]), (4, oX 46 [cI x4.1, cI x4.2.1, cI x4.2.2.1, cI x4.2.2.2.1.1, .ro (.int 3) x4.2.2.2.1.2.1, .ro (.int 3) x4.2.2.2.1.2.2, cI x4.2.2.2.2]), (10, oR s159 (recPf x0 x1 x2 x3 x4).1), (11, oX 53 [.sl 10]), (12, oR s159 x0), (13, oX 53 [.sl 12]), (14, oR (.int 3) x2), (15, oX 57 [.sl 14]), (16, oR (.int 3) x3.2.2.2.2.1), (17, oX 59 [cI x3.1, cI x3.2.1, cI x3.2.2.1, cI x3.2.2.2.1, .sl 16, cI x3.2.2.2.2.2]), (18, oR (.int 3) x4.2.2.2.1.2.1), (19, oR (.int 3) x4.2.2.2.1.2.2), (20, oX 63 [cI x4.1, cI x4.2.1, cI x4.2.2.1, cI x4.2.2.2.1.1, .sl 18, .sl 19, cI x4.2.2.2.2]), (21, oR s159 (recPf x0 x1 x2 x3 x4).1), (22, oX 53 [.sl 21])]⟩ [(fun (x0 : (List T159)) (x1 : Int) (x2 : (List Int)) (x3 : T59) (x4 : T63) => Sh.fit s53 x0 ∧ Sh.fit s57 x2 ∧ Sh.fit s59 x3 ∧ Sh.fit s63 x4 ∧ List.length x0 ≤ 1073741823) x0 x1 x2 x3 x4] gamOK hT h (by kernel_rfl) ⟨(by exact ⟨(Sh.fit_of_sz s53 rfl (x := x0) (by omega)), (Sh.fit_of_sz s57 rfl (x := x2) (by omega)), (Sh.fit_of_sz s59 rfl (x := x3) (by omega)), (Sh.fit_of_sz s63 rfl (x := x4) (by omega)), (by first | assumption | omega | (refine ⟨?_, ?_⟩ <;> omega))⟩), trivial⟩ ?_
          intro a w h
          refine then_normal ?_
          refine wp_seq ?_
          refine wp_seq ?_
          rcases Bool.eq_false_or_eq_true (!((Sh.eqB s53) (recPf x0 x1 x2 x3 x4).1 (recPf x0 x1 x2 x3 x4).1)) with h5 | h5
          · skip
            have hzh5 : ((Sh.eqB s53) (recPf x0 x1 x2 x3 x4).1 (recPf x0 x1 x2 x3 x4).1) = false := notT h5
            refine at_regq (T := S_laws_FnExactRecordProof_tab) [{}, {}, {}, { hint := some (aB true) }] { ts := [1, 5, 7, 8, 9, 10, 12, 13, 14, 15, 16, 17, 18, 19, 83], os := [1, 2, 3, 4, 10, 11, 12, 13, 14, 15, 16, 17, 18, 19, 20, 21, 22] } [True, (AV.p (.c (.v (.bool (!((Sh.eqB s53) (recPf x0 x1 x2 x3 x4).1 (recPf x0 x1 x2 x3 x4).1))))) = AV.p (.c (.v (.bool true))))] gamOK hT h (by kernel_rfl) ⟨trivial, hint_bool (h5), trivial⟩ ?_
            intro a w h
            refine then_normal ?_
            refine at_test true h (by kernel_rfl) (fun hh => ?_) (fun hh => nomatch hh)
            refine wp_seq ?_
            refine at_regq (T := S_laws_FnExactRecordProof_tab) [] { ts := [1, 5, 7, 8, 9, 10, 12, 13, 14, 15, 16, 17, 18, 19], os := [1, 2, 3, 4, 10, 11, 12, 13, 14, 15, 16, 17, 18, 19, 20, 21, 22] } [] gamOK hT h (by kernel_rfl) trivial ?_
            intro a w h
            refine then_normal ?_
            refine wp_ret ?_
            refine then_ret ?_
            exact at_return (S := S_laws_FnExactRecordProof) (x := (x0, x1, x2, x3, x4, ())) (false, ()) [] h (by kernel_rfl) trivial (congrArg (fun z => (z, ())) (show (false) = D_laws_FnExactRecordProof x0 x1 x2 x3 x4 from by unfold D_laws_FnExactRecordProof; exact absurd ((Sh.eqB_iff _).2 (show _ = _ from by first | rfl | (rfl))) (neT (notT h5))))
          · skip
            have hzh5 : ((Sh.eqB s53) (recPf x0 x1 x2 x3 x4).1 (recPf x0 x1 x2 x3 x4).1) = true := notF h5
            refine at_regq (T := S_laws_FnExactRecordProof_tab) [{}, {}, {}, { hint := some (aB false) }] { ts := [1, 5, 7, 8, 9, 10, 12, 13, 14, 15, 16, 17, 18, 19, 83], os := [1, 2, 3, 4, 10, 11, 12, 13, 14, 15, 16, 17, 18, 19, 20, 21, 22] } [True, (AV.p (.c (.v (.bool (!((Sh.eqB s53) (recPf x0 x1 x2 x3 x4).1 (recPf x0 x1 x2 x3 x4).1))))) = AV.p (.c (.v (.bool false))))] gamOK hT h (by kernel_rfl) ⟨trivial, hint_bool (h5), trivial⟩ ?_
            intro a w h
            refine then_normal ?_
            refine at_test (!((recPf x0 x1 x2 x3 x4).2 == (recPf x0 x1 x2 x3 x4).2)) h (by kernel_rfl) (fun h6 => ?_) (fun h6 => ?_)
            · replace h6 : ((recPf x0 x1 x2 x3 x4).2 == (recPf x0 x1 x2 x3 x4).2) = false := notT h6
              refine wp_seq ?_
              refine at_regq (T := S_laws_FnExactRecordProof_tab) [] { ts := [1, 5, 7, 8, 9, 10, 12, 13, 14, 15, 16, 17, 18, 19], os := [1, 2, 3, 4, 10, 11, 12, 13, 14, 15, 16, 17, 18, 19, 20, 21, 22] } [] gamOK hT h (by kernel_rfl) trivial ?_
              intro a w h
              refine then_normal ?_
              refine wp_ret ?_
              refine then_ret ?_
              exact at_return (S := S_laws_FnExactRecordProof) (x := (x0, x1, x2, x3, x4, ())) (false, ()) [] h (by kernel_rfl) trivial (congrArg (fun z => (z, ())) (show (false) = D_laws_FnExactRecordProof x0 x1 x2 x3 x4 from by unfold D_laws_FnExactRecordProof; exact absurd (beqT (show _ = _ from by first | rfl | (rfl))) (neT h6)))
            · replace h6 : ((recPf x0 x1 x2 x3 x4).2 == (recPf x0 x1 x2 x3 x4).2) = true := notF h6
              refine wp_skip ?_
              refine then_normal ?_
              refine wp_seq ?_
              refine wp_seq ?_
              refine at_anyq (T := S_laws_FnExactRecordProof_tab) [{}, {}, { ids := [23] }, {}, {}] { ts := [1, 5, 7, 8, 9, 10, 12, 13, 14, 15, 16, 17, 18, 19, 88], os := [1, 2, 3, 4, 10, 11, 12, 13, 14, 15, 16, 17, 18, 19, 20, 21, 22] } [(pTo s38) x0, True] gamOK hT mixed h (by kernel_rfl) ⟨(by (show Sh.sz _ _ ≤ 1048576; omega)), trivial, trivial⟩ ?_
              intro a w h
              refine then_normal ?_
              refine at_test (!((Sh.eqB s53) x0 x0)) h (by kernel_rfl) (fun h7 => ?_) (fun h7 => ?_)
              · replace h7 : ((Sh.eqB s53) x0 x0) = false := notT h7
                refine wp_seq ?_
                refine at_regq (T := S_laws_FnExactRecordProof_tab) [] { ts := [1, 5, 7, 8, 9, 10, 12, 13, 14, 15, 16, 17, 18, 19], os := [1, 2, 3, 4, 10, 11, 12, 13, 14, 15, 16, 17, 18, 19, 20, 21, 22] } [] gamOK hT h (by kernel_rfl) trivial ?_
                intro a w h
                refine then_normal ?_
                refine wp_ret ?_
                refine then_ret ?_
                exact at_return (S := S_laws_FnExactRecordProof) (x := (x0, x1, x2, x3, x4, ())) (false, ()) [] h (by kernel_rfl) trivial (congrArg (fun z => (z, ())) (show (false) = D_laws_FnExactRecordProof x0 x1 x2 x3 x4 from by unfold D_laws_FnExactRecordProof; exact absurd ((Sh.eqB_iff _).2 (show _ = _ from by first | rfl | (rfl))) (neT h7)))
              · replace h7 : ((Sh.eqB s53) x0 x0) = true := notF h7
                refine wp_skip ?_
                refine then_normal ?_
                refine wp_seq ?_
                refine wp_seq ?_
                refine at_anyq (T := S_laws_FnExactRecordProof_tab) [{}, {}, { ids := [24] }, {}, {}] { ts := [1, 5, 7, 8, 9, 10, 12, 13, 14, 15, 16, 17, 18, 19, 93], os := [1, 2, 3, 4, 10, 11, 12, 13, 14, 15, 16, 17, 18, 19, 20, 21, 22] } [(pTo s40) x2, True] gamOK hT mixed h (by kernel_rfl) ⟨(by (show Sh.sz _ _ ≤ 1048576; omega)), trivial, trivial⟩ ?_
                intro a w h
                refine then_normal ?_
                refine at_test (!((Sh.eqB s57) x2 x2)) h (by kernel_rfl) (fun h8 => ?_) (fun h8 => ?_)
                · replace h8 : ((Sh.eqB s57) x2 x2) = false := notT h8
                  refine wp_seq ?_
                  refine at_reg (T := S_laws_FnExactRecordProof_tab) [] { ts := [1, 5, 7, 8, 9, 10, 12, 13, 14, 15, 16, 17, 18, 19], os := [1, 2, 3, 4, 10, 11, 12, 13, 14, 15, 16, 17, 18, 19, 20, 21, 22] } ⟨[(1, aI x1), (5, aP 1 0), (7, aP 2 0), (8, aP 3 0), (9, aP 4 0), (10, aB false), (12, aP 11 0), (13, aB (recPf x0 x1 x2 x3 x4).2), (14, aP 13 0), (15, aP 15 0), (16, aP 17 0), (17, aP 20 0), (18, aP 22 0), (19, aB (recPf x0 x1 x2 x3 x4).2)], [(1, oX 38 [.ro s237 x0]), (2, oX 40 [.ro (.int 3) x2]), (3, oX 42 [cI x3.1, cI x3.2.1, cI x3.2.2.1, cI x3.2.2.2.1, .ro (.int 3) x3.2.2.2.2.1, cI x3.2.2.2.2.2]), (4, oX 46 [cI x4.1, cI x4.2.1, cI x4.2.2.1, cI x4.2.2.2.1.1, .ro (.int 3) x4.2.2.2.1.2.1, .ro (.int 3) x4.2.2.2.1.2.2, cI x4.2.2.2.2]), (10, oR s159 (recPf x0 x1 x2 x3 x4).1), (11, oX 53 [.sl 10]), (12, oR s159 x0), (13, oX 53 [.sl 12]), (14, oR (.int 3) x2), (15, oX 57 [.sl 14]), (16, oR (.int 3) x3.2.2.2.2.1), (17, oX 59 [cI x3.1, cI x3.2.1, cI x3.2.2.1, cI x3.2.2.2.1, .sl 16, cI x3.2.2.2.2.2]), (18, oR (.int 3) x4.2.2.2.1.2.1), (19, oR (.int 3) x4.2.2.2.1.2.2), (20, oX 63 [cI x4.1, cI x4.2.1, cI x4.2.2.1, cI x4.2.2.2.1.1, .sl 18, .sl 19, cI x4.2.2.2.2]), (21, oR s159 (recPf x0 x1 x2 x3 x4).1), (22, oX 53 [.sl 21])]⟩ [] gamOK hT h (by kernel_rfl) trivial ?_
                  intro a w h
                  refine then_normal ?_
                  refine wp_ret ?_
                  refine then_ret ?_
                  exact at_return (S := S_laws_FnExactRecordProof) (x := (x0, x1, x2, x3, x4, ())) (false, ()) [] h (by kernel_rfl) trivial (congrArg (fun z => (z, ())) (show (false) = D_laws_FnExactRecordProof x0 x1 x2 x3 x4 from by unfold D_laws_FnExactRecordProof; exact absurd ((Sh.eqB_iff _).2 (show _ = _ from by first | rfl | (rfl))) (neT h8)))
                · replace h8 : ((Sh.eqB s57) x2 x2) = true := notF h8
                  refine wp_skip ?_
                  refine then_normal ?_
                  refine wp_seq ?_
                  refine wp_seq ?_
                  refine at_any (T := S_laws_FnExactRecordProof_tab) [{}, {}, { ids := [25] }, {}, {}] { ts := [1, 5, 7, 8, 9, 10, 12, 13, 14, 15, 16, 17, 18, 19, 98], os := [1, 2, 3, 4, 10, 11, 12, 13, 14, 15, 16, 17, 18, 19, 20, 21, 22] } ⟨[(1, aI x1), (5, aP 1 0), (7, aP 2 0), (8, aP 3 0), (9, aP 4 0), (10, aB false), (12, aP 11 0), (13, aB (recPf x0 x1 x2 x3 x4).2), (14, aP 13 0), (15, aP 15 0), (16, aP 17 0), (17, aP 20 0), (18, aP 22 0), (19, aB (recPf x0 x1 x2 x3 x4).2), (98, aB (!((Sh.eqB s59) x3 x3)))], [(1, oX 38 [.ro s237 x0]), (2, oX 40 [.ro (.int 3) x2]), (3, oX 42 [cI x3.1, cI x3.2.1, cI x3.2.2.1, cI x3.2.2.2.1, .ro (.int 3) x3.2.2.2.2.1, cI x3.2.2.2.2.2]), (4, oX 46 [cI x4.1, cI x4.2.1, cI x4.2.2.1, cI x4.2.2.2.1.1, .ro (.int 3) x4.2.2.2.1.2.1, .ro (.int 3) x4.2.2.2.1.2.2, cI x4.2.2.2.2]), (10, oR s159 (recPf x0 x1 x2 x3 x4).1), (11, oX 53 [.sl 10]), (12, oR s159 x0), (13, oX 53 [.sl 12]), (14, oR (.int 3) x2), (15, oX 57 [.sl 14]), (16, oR (.int 3) x3.2.2.2.2.1), (17, oX 59 [cI x3.1, cI x3.2.1, cI x3.2.2.1, cI x3.2.2.2.1, .sl 16, cI x3.2.2.2.2.2]), (18, oR (.int 3) x4.2.2.2.1.2.1), (19, oR (.int 3) x4.2.2.2.1.2.2), (20, oX 63 [cI x4.1, cI x4.2.1, cI x4.2.2.1, cI x4.2.2.2.1.1, .sl 18, .sl 19, cI x4.2.2.2.2]), (21, oR s159 (recPf x0 x1 x2 x3 x4).1), (22, oX 53 [.sl 21])]⟩ [(pTo s42) x3, True] gamOK hT mixed h (by kernel_rfl) ⟨(by (show Sh.sz _ _ ≤ 1048576; omega)), trivial, trivial⟩ ?_
                  intro a w h
                  refine then_normal ?_
                  refine at_test (!((Sh.eqB s59) x3 x3)) h (by kernel_rfl) (fun h9 => ?_) (fun h9 => ?_)
                  · replace h9 : ((Sh.eqB s59) x3 x3) = false := notT h9
                    refine wp_seq ?_
                    refine at_regq (T := S_laws_FnExactRecordProof_tab) [] { ts := [1, 5, 7, 8, 9, 10, 12, 13, 14, 15, 16, 17, 18, 19], os := [1, 2, 3, 4, 10, 11, 12, 13, 14, 15, 16, 17, 18, 19, 20, 21, 22] } [] gamOK hT h (by kernel_rfl) trivial ?_
                    intro a w h
                    refine then_normal ?_
                    refine wp_ret ?_
                    refine then_ret ?_
                    exact at_return (S := S_laws_FnExactRecordProof) (x := (x0, x1, x2, x3, x4, ())) (false, ()) [] h (by kernel_rfl) trivial (congrArg (fun z => (z, ())) (show (false) = D_laws_FnExactRecordProof x0 x1 x2 x3 x4 from by unfold D_laws_FnExactRecordProof; exact absurd ((Sh.eqB_iff _).2 (show _ = _ from by first | rfl | (rfl))) (neT h9)))
                  · replace h9 : ((Sh.eqB s59) x3 x3) = true := notF h9
                    refine wp_skip ?_
                    refine then_normal ?_
                    refine wp_seq ?_
                    refine wp_seq ?_
                    refine at_anyq (T := S_laws_FnExactRecordProof_tab) [{}, {}, { ids := [26, 27] }, {}, {}] { ts := [1, 5, 7, 8, 9, 10, 12, 13, 14, 15, 16, 17, 18, 19, 103], os := [1, 2, 3, 4, 10, 11, 12, 13, 14, 15, 16, 17, 18, 19, 20, 21, 22] } [(pTo s46) x4, True] gamOK hT mixed h (by kernel_rfl) ⟨(by (show Sh.sz _ _ ≤ 1048576; omega)), trivial, trivial⟩ ?_
                    intro a w h
                    refine then_normal ?_
                    refine at_test (!((Sh.eqB s63) x4 x4)) h (by kernel_rfl) (fun h10 => ?_) (fun h10 => ?_)
                    · replace h10 : ((Sh.eqB s63) x4 x4) = false := notT h10
                      refine wp_seq ?_
                      refine at_regq (T := S_laws_FnExactRecordProof_tab) [] { ts := [1, 5, 7, 8, 9, 10, 12, 13, 14, 15, 16, 17, 18, 19], os := [1, 2, 3, 4, 10, 11, 12, 13, 14, 15, 16, 17, 18, 19, 20, 21, 22] } [] gamOK hT h (by kernel_rfl) trivial ?_
                      intro a w h
                      refine then_normal ?_
                      refine wp_ret ?_
                      refine then_ret ?_
                      exact at_return (S := S_laws_FnExactRecordProof) (x := (x0, x1, x2, x3, x4, ())) (false, ()) [] h (by kernel_rfl) trivial (congrArg (fun z => (z, ())) (show (false) = D_laws_FnExactRecordProof x0 x1 x2 x3 x4 from by unfold D_laws_FnExactRecordProof; exact absurd ((Sh.eqB_iff _).2 (show _ = _ from by first | rfl | (rfl))) (neT h10)))
                    · replace h10 : ((Sh.eqB s63) x4 x4) = true := notF h10
                      refine wp_skip ?_
                      refine then_normal ?_
                      refine wp_seq ?_
                      refine at_regq (T := S_laws_FnExactRecordProof_tab) [] { ts := [1, 5, 7, 8, 9, 10, 12, 13, 14, 15, 16, 17, 18, 19, 20], os := [1, 2, 3, 4, 10, 11, 12, 13, 14, 15, 16, 17, 18, 19, 20, 21, 22] } [] gamOK hT h (by kernel_rfl) trivial ?_
                      intro a w h
                      refine then_normal ?_
                      refine wp_seq ?_
                      refine at_regq (T := S_laws_FnExactRecordProof_tab) [] { ts := [1, 5, 7, 8, 9, 10, 12, 13, 15, 16, 17, 18, 19, 20], os := [1, 2, 3, 4, 10, 11, 14, 15, 16, 17, 18, 19, 20, 21, 22] } [(pMkT s53) x0 1] gamOK hT h (by kernel_rfl) ⟨(by (show (0 : Int) ≤ _ ∧ _ + ((Sh.ctT _ _ : Nat) : Int) ≤ (4611686018427387904 : Int); (try simp only [held_marked, held_markedT, mkK, mkKT, Sh.ctT_mkT, Sh.ct_mk]); constructor <;> omega)), trivial⟩ ?_
                      intro a w h
                      refine then_normal ?_
                      refine wp_seq ?_
                      refine at_reg (T := S_laws_FnExactRecordProof_tab) [] { ts := [1, 5, 7, 8, 9, 10, 12, 13, 16, 17, 18, 19, 20], os := [1, 2, 3, 4, 10, 11, 16, 17, 18, 19, 20, 21, 22] } ⟨[(1, aI x1), (5, aP 1 0), (7, aP 2 0), (8, aP 3 0), (9, aP 4 0), (10, aB false), (12, aP 11 0), (13, aB (recPf x0 x1 x2 x3 x4).2), (16, aP 17 0), (17, aP 20 0), (18, aP 22 0), (19, aB (recPf x0 x1 x2 x3 x4).2), (20, aI ((mkKT s57) x2 ((mkKT s53) x0 1)))], [(1, oX 38 [.ro s237 x0]), (2, oX 40 [.ro (.int 3) x2]), (3, oX 42 [cI x3.1, cI x3.2.1, cI x3.2.2.1, cI x3.2.2.2.1, .ro (.int 3) x3.2.2.2.2.1, cI x3.2.2.2.2.2]), (4, oX 46 [cI x4.1, cI x4.2.1, cI x4.2.2.1, cI x4.2.2.2.1.1, .ro (.int 3) x4.2.2.2.1.2.1, .ro (.int 3) x4.2.2.2.1.2.2, cI x4.2.2.2.2]), (10, oR s159 (recPf x0 x1 x2 x3 x4).1), (11, oX 53 [.sl 10]), (16, oR (.int 3) x3.2.2.2.2.1), (17, oX 59 [cI x3.1, cI x3.2.1, cI x3.2.2.1, cI x3.2.2.2.1, .sl 16, cI x3.2.2.2.2.2]), (18, oR (.int 3) x4.2.2.2.1.2.1), (19, oR (.int 3) x4.2.2.2.1.2.2), (20, oX 63 [cI x4.1, cI x4.2.1, cI x4.2.2.1, cI x4.2.2.2.1.1, .sl 18, .sl 19, cI x4.2.2.2.2]), (21, oR s159 (recPf x0 x1 x2 x3 x4).1), (22, oX 53 [.sl 21])]⟩ [(pMkT s57) x2 ((mkKT s53) x0 1)] gamOK hT h (by kernel_rfl) ⟨(by (show (0 : Int) ≤ _ ∧ _ + ((Sh.ctT _ _ : Nat) : Int) ≤ (4611686018427387904 : Int); (try simp only [held_marked, held_markedT, mkK, mkKT, Sh.ctT_mkT, Sh.ct_mk]); constructor <;> omega)), trivial⟩ ?_
                      intro a w h
                      refine then_normal ?_
                      refine wp_seq ?_
                      refine at_regq (T := S_laws_FnExactRecordProof_tab) [] { ts := [1, 5, 7, 8, 9, 10, 12, 13, 17, 18, 19, 20], os := [1, 2, 3, 4, 10, 11, 18, 19, 20, 21, 22] } [(pMkT s59) x3 ((mkKT s57) x2 ((mkKT s53) x0 1))] gamOK hT h (by kernel_rfl) ⟨(by (show (0 : Int) ≤ _ ∧ _ + ((Sh.ctT _ _ : Nat) : Int) ≤ (4611686018427387904 : Int); (try simp only [held_marked, held_markedT, mkK, mkKT, Sh.ctT_mkT, Sh.ct_mk]); constructor <;> omega)), trivial⟩ ?_
                      intro a w h
                      refine then_normal ?_
                      refine wp_seq ?_
                      refine at_regq (T := S_laws_FnExactRecordProof_tab) [] { ts := [1, 5, 7, 8, 9, 10, 12, 13, 18, 19, 20], os := [1, 2, 3, 4, 10, 11, 21, 22] } [(pMkT s63) x4 ((mkKT s59) x3 ((mkKT s57) x2 ((mkKT s53) x0 1)))] gamOK hT h (by kernel_rfl) ⟨(by (show (0 : Int) ≤ _ ∧ _ + ((Sh.ctT _ _ : Nat) : Int) ≤ (4611686018427387904 : Int); (try simp only [held_marked, held_markedT, mkK, mkKT, Sh.ctT_mkT, Sh.ct_mk]); constructor <;> omega)), trivial⟩ ?_
                      intro a w h
                      refine then_normal ?_
                      refine wp_seq ?_
                      refine wp_seq ?_
                      by_cases h11 : ((mkKT s63) x4 ((mkKT s59) x3 ((mkKT s57) x2 ((mkKT s53) x0 1)))) < 0
                      · skip
                        refine at_regq (T := S_laws_FnExactRecordProof_tab) [{}, { hint := some (aB true) }] { ts := [1, 5, 7, 8, 9, 10, 12, 13, 18, 128], os := [1, 2, 3, 4, 10, 11, 21, 22] } [(AV.p (.c (.v (.bool (decide (((mkKT s63) x4 ((mkKT s59) x3 ((mkKT s57) x2 ((mkKT s53) x0 1)))) < 0))))) = AV.p (.c (.v (.bool true))))] gamOK hT h (by kernel_rfl) ⟨hint_bool (decide_eq_true h11), trivial⟩ ?_
                        intro a w h
                        refine then_normal ?_
                        refine at_test true h (by kernel_rfl) (fun hh => ?_) (fun hh => nomatch hh)
                        refine wp_seq ?_
                        refine at_reg (T := S_laws_FnExactRecordProof_tab) [] { ts := [1, 5, 7, 8, 9, 10, 12, 13, 18], os := [1, 2, 3, 4, 10, 11, 21, 22] } ⟨[(1, aI x1), (5, aP 1 0), (7, aP 2 0), (8, aP 3 0), (9, aP 4 0), (10, aB false), (12, aP 11 0), (13, aB (recPf x0 x1 x2 x3 x4).2), (18, aP 22 0)], [(1, oX 38 [.ro s237 x0]), (2, oX 40 [.ro (.int 3) x2]), (3, oX 42 [cI x3.1, cI x3.2.1, cI x3.2.2.1, cI x3.2.2.2.1, .ro (.int 3) x3.2.2.2.2.1, cI x3.2.2.2.2.2]), (4, oX 46 [cI x4.1, cI x4.2.1, cI x4.2.2.1, cI x4.2.2.2.1.1, .ro (.int 3) x4.2.2.2.1.2.1, .ro (.int 3) x4.2.2.2.1.2.2, cI x4.2.2.2.2]), (10, oR s159 (recPf x0 x1 x2 x3 x4).1), (11, oX 53 [.sl 10]), (21, oR s159 (recPf x0 x1 x2 x3 x4).1), (22, oX 53 [.sl 21])]⟩ [] gamOK hT h (by kernel_rfl) trivial ?_
                        intro a w h
                        refine then_normal ?_
                        refine wp_ret ?_
                        refine then_ret ?_
                        exact at_return (S := S_laws_FnExactRecordProof) (x := (x0, x1, x2, x3, x4, ())) (false, ()) [] h (by kernel_rfl) trivial (congrArg (fun z => (z, ())) (show (false) = D_laws_FnExactRecordProof x0 x1 x2 x3 x4 from by unfold D_laws_FnExactRecordProof; (exfalso; simp only [mkK, mkKT, Sh.ctT_mkT, Sh.ct_mk] at h11; first | omega | exact h11 trivial | exact h11 rfl)))
                      · skip
                        refine at_regq (T := S_laws_FnExactRecordProof_tab) [{}, { hint := some (aB false) }, {}, {}, {}, {}, { hint := some (aB false) }] { ts := [1, 5, 7, 8, 9, 10, 12, 13, 18, 128], os := [1, 2, 3, 4, 10, 11, 21, 22] } [(AV.p (.c (.v (.bool (decide (((mkKT s63) x4 ((mkKT s59) x3 ((mkKT s57) x2 ((mkKT s53) x0 1)))) < 0))))) = AV.p (.c (.v (.bool false)))), True, (AV.p (.c (.v (.bool (!((Sh.eqB s53) (recPf x0 x1 x2 x3 x4).1 (recPf x0 x1 x2 x3 x4).1))))) = AV.p (.c (.v (.bool false))))] gamOK hT h (by kernel_rfl) ⟨hint_bool (decide_eq_false h11), trivial, hint_bool (h5), trivial⟩ ?_
                        intro a w h
                        refine then_normal ?_
                        refine at_test (!((recPf x0 x1 x2 x3 x4).2 == (recPf x0 x1 x2 x3 x4).2)) h (by kernel_rfl) (fun h12 => ?_) (fun h12 => ?_)
                        · replace h12 : ((recPf x0 x1 x2 x3 x4).2 == (recPf x0 x1 x2 x3 x4).2) = false := notT h12
                          refine wp_seq ?_
                          refine at_reg (T := S_laws_FnExactRecordProof_tab) [] { ts := [1, 5, 7, 8, 9, 10, 12, 13, 18], os := [1, 2, 3, 4, 10, 11, 21, 22] } ⟨[(1, aI x1), (5, aP 1 0), (7, aP 2 0), (8, aP 3 0), (9, aP 4 0), (10, aB false), (12, aP 11 0), (13, aB (recPf x0 x1 x2 x3 x4).2), (18, aP 22 0)], [(1, oX 38 [.ro s237 x0]), (2, oX 40 [.ro (.int 3) x2]), (3, oX 42 [cI x3.1, cI x3.2.1, cI x3.2.2.1, cI x3.2.2.2.1, .ro (.int 3) x3.2.2.2.2.1, cI x3.2.2.2.2.2]), (4, oX 46 [cI x4.1, cI x4.2.1, cI x4.2.2.1, cI x4.2.2.2.1.1, .ro (.int 3) x4.2.2.2.1.2.1, .ro (.int 3) x4.2.2.2.1.2.2, cI x4.2.2.2.2]), (10, oR s159 (recPf x0 x1 x2 x3 x4).1), (11, oX 53 [.sl 10]), (21, oR s159 (recPf x0 x1 x2 x3 x4).1), (22, oX 53 [.sl 21])]⟩ [] gamOK hT h (by kernel_rfl) trivial ?_
                          intro a w h
                          refine then_normal ?_
                          refine wp_ret ?_
                          refine then_ret ?_
                          exact at_return (S := S_laws_FnExactRecordProof) (x := (x0, x1, x2, x3, x4, ())) (false, ()) [] h (by kernel_rfl) trivial (congrArg (fun z => (z, ())) (show (false) = D_laws_FnExactRecordProof x0 x1 x2 x3 x4 from by unfold D_laws_FnExactRecordProof; exact absurd (beqT (show _ = _ from by first | rfl | (rfl))) (neT h12)))
                        · replace h12 : ((recPf x0 x1 x2 x3 x4).2 == (recPf x0 x1 x2 x3 x4).2) = true := notF h12
                          refine wp_skip ?_
                          refine then_normal ?_
                          refine wp_seq ?_
                          refine at_reg (T := S_laws_FnExactRecordProof_tab) [] { ts := [1, 5, 7, 8, 9, 10, 12, 13, 18, 21], os := [1, 2, 3, 4, 10, 11, 21, 22] } ⟨[(1, aI x1), (5, aP 1 0), (7, aP 2 0), (8, aP 3 0), (9, aP 4 0), (10, aB false), (12, aP 11 0), (13, aB (recPf x0 x1 x2 x3 x4).2), (18, aP 22 0), (21, aI 1)], [(1, oX 38 [.ro s237 x0]), (2, oX 40 [.ro (.int 3) x2]), (3, oX 42 [cI x3.1, cI x3.2.1, cI x3.2.2.1, cI x3.2.2.2.1, .ro (.int 3) x3.2.2.2.2.1, cI x3.2.2.2.2.2]), (4, oX 46 [cI x4.1, cI x4.2.1, cI x4.2.2.1, cI x4.2.2.2.1.1, .ro (.int 3) x4.2.2.2.1.2.1, .ro (.int 3) x4.2.2.2.1.2.2, cI x4.2.2.2.2]), (10, oR s159 (recPf x0 x1 x2 x3 x4).1), (11, oX 53 [.sl 10]), (21, oR s159 (recPf x0 x1 x2 x3 x4).1), (22, oX 53 [.sl 21])]⟩ [] gamOK hT h (by kernel_rfl) trivial ?_
                          intro a w h
                          refine then_normal ?_
                          refine wp_seq ?_
                          refine at_regq (T := S_laws_FnExactRecordProof_tab) [] { ts := [1, 5, 7, 8, 9, 10, 12, 13, 18, 21], os := [1, 2, 3, 4, 10, 11, 21, 22] } [(pMkT s53) (recPf x0 x1 x2 x3 x4).1 1] gamOK hT h (by kernel_rfl) ⟨(by (show (0 : Int) ≤ _ ∧ _ + ((Sh.ctT _ _ : Nat) : Int) ≤ (4611686018427387904 : Int); (try simp only [held_marked, held_markedT, mkK, mkKT, Sh.ctT_mkT, Sh.ct_mk]); constructor <;> omega)), trivial⟩ ?_
                          intro a w h
                          refine then_normal ?_
                          refine wp_seq ?_
                          refine at_regq (T := S_laws_FnExactRecordProof_tab) [] { ts := [1, 5, 7, 8, 9, 10, 12, 13, 18, 21, 22], os := [1, 2, 3, 4, 10, 11, 21, 22] } [] gamOK hT h (by kernel_rfl) trivial ?_
                          intro a w h
                          refine then_normal ?_
                          refine wp_seq ?_
                          refine at_regq (T := S_laws_FnExactRecordProof_tab) [] { ts := [1, 5, 7, 8, 9, 10, 12, 13, 18, 21, 22], os := [1, 2, 3, 4, 10, 11, 21, 22] } [(pMkT s53) ((Sh.mkT s53) (recPf x0 x1 x2 x3 x4).1 1) 1] gamOK hT h (by kernel_rfl) ⟨(by (show (0 : Int) ≤ _ ∧ _ + ((Sh.ctT _ _ : Nat) : Int) ≤ (4611686018427387904 : Int); (try simp only [held_marked, held_markedT, mkK, mkKT, Sh.ctT_mkT, Sh.ct_mk]); constructor <;> omega)), trivial⟩ ?_
                          intro a w h
                          refine then_normal ?_
                          refine wp_seq ?_
                          refine wp_seq ?_
                          refine at_reg (T := S_laws_FnExactRecordProof_tab) [] { ts := [1, 5, 7, 8, 9, 10, 12, 13, 18, 21, 22, 136], os := [1, 2, 3, 4, 10, 11, 21, 22] } ⟨[(1, aI x1), (5, aP 1 0), (7, aP 2 0), (8, aP 3 0), (9, aP 4 0), (10, aB false), (12, aP 11 0), (13, aB (recPf x0 x1 x2 x3 x4).2), (18, aP 22 0), (21, aI ((mkKT s53) (recPf x0 x1 x2 x3 x4).1 1)), (22, aI ((heldDT s53) ((Sh.mkT s53) (recPf x0 x1 x2 x3 x4).1 1) 1)), (136, aB (decide (((heldDT s53) ((Sh.mkT s53) (recPf x0 x1 x2 x3 x4).1 1) 1) < 0)))], [(1, oX 38 [.ro s237 x0]), (2, oX 40 [.ro (.int 3) x2]), (3, oX 42 [cI x3.1, cI x3.2.1, cI x3.2.2.1, cI x3.2.2.2.1, .ro (.int 3) x3.2.2.2.2.1, cI x3.2.2.2.2.2]), (4, oX 46 [cI x4.1, cI x4.2.1, cI x4.2.2.1, cI x4.2.2.2.1.1, .ro (.int 3) x4.2.2.2.1.2.1, .ro (.int 3) x4.2.2.2.1.2.2, cI x4.2.2.2.2]), (10, oR s159 (recPf x0 x1 x2 x3 x4).1), (11, oX 53 [.sl 10]), (21, oR s159 ((Sh.mkT s53) (recPf x0 x1 x2 x3 x4).1 1)), (22, oX 53 [.sl 21])]⟩ [] gamOK hT h (by kernel_rfl) trivial ?_
                          intro a w h
                          refine then_normal ?_
                          refine at_test (decide (((heldDT s53) ((Sh.mkT s53) (recPf x0 x1 x2 x3 x4).1 1) 1) < 0)) h (by kernel_rfl) (fun h13 => ?_) (fun h13 => ?_)
                          · replace h13 : ((heldDT s53) ((Sh.mkT s53) (recPf x0 x1 x2 x3 x4).1 1) 1) < 0 := of_decide_eq_true h13
                            refine wp_seq ?_
                            refine at_regq (T := S_laws_FnExactRecordProof_tab) [] { ts := [1, 5, 7, 8, 9, 10, 12, 13, 18, 21, 22], os := [1, 2, 3, 4, 10, 11, 21, 22] } [] gamOK hT h (by kernel_rfl) trivial ?_
                            intro a w h
                            refine then_normal ?_
                            refine wp_ret ?_
                            refine then_ret ?_
                            exact at_return (S := S_laws_FnExactRecordProof) (x := (x0, x1, x2, x3, x4, ())) (false, ()) [] h (by kernel_rfl) trivial (congrArg (fun z => (z, ())) (show (false) = D_laws_FnExactRecordProof x0 x1 x2 x3 x4 from by unfold D_laws_FnExactRecordProof; (exfalso; simp only [held_marked, held_markedT, mkK, mkKT, Sh.ctT_mkT, Sh.ct_mk] at h13; first | omega | exact h13 trivial | exact h13 rfl)))
                          · replace h13 : ¬ (((heldDT s53) ((Sh.mkT s53) (recPf x0 x1 x2 x3 x4).1 1) 1) < 0) := of_decide_eq_false h13
                            refine wp_skip ?_
                            refine then_normal ?_
                            refine wp_seq ?_
                            refine wp_seq ?_
                            refine at_regq (T := S_laws_FnExactRecordProof_tab) [] { ts := [1, 5, 7, 8, 9, 10, 12, 13, 18, 21, 139], os := [1, 2, 3, 4, 10, 11, 21, 22] } [] gamOK hT h (by kernel_rfl) trivial ?_
                            intro a w h
                            refine then_normal ?_
                            refine at_test (!decide (((heldDT s53) ((Sh.mkT s53) (recPf x0 x1 x2 x3 x4).1 1) 1) = ((mkKT s53) (recPf x0 x1 x2 x3 x4).1 1))) h (by kernel_rfl) (fun h14 => ?_) (fun h14 => ?_)
                            · replace h14 : ¬ (((heldDT s53) ((Sh.mkT s53) (recPf x0 x1 x2 x3 x4).1 1) 1) = ((mkKT s53) (recPf x0 x1 x2 x3 x4).1 1)) := of_decide_eq_false (notT h14)
                              refine wp_seq ?_
                              refine at_regq (T := S_laws_FnExactRecordProof_tab) [] { ts := [1, 5, 7, 8, 9, 10, 12, 13, 18, 21], os := [1, 2, 3, 4, 10, 11, 21, 22] } [] gamOK hT h (by kernel_rfl) trivial ?_
                              intro a w h
                              refine then_normal ?_
                              refine wp_ret ?_
                              refine then_ret ?_
                              exact at_return (S := S_laws_FnExactRecordProof) (x := (x0, x1, x2, x3, x4, ())) (false, ()) [] h (by kernel_rfl) trivial (congrArg (fun z => (z, ())) (show (false) = D_laws_FnExactRecordProof x0 x1 x2 x3 x4 from by unfold D_laws_FnExactRecordProof; (exfalso; simp only [held_marked, held_markedT, mkK, mkKT, Sh.ctT_mkT, Sh.ct_mk] at h14; first | omega | exact h14 trivial | exact h14 rfl)))
                            · replace h14 : ((heldDT s53) ((Sh.mkT s53) (recPf x0 x1 x2 x3 x4).1 1) 1) = ((mkKT s53) (recPf x0 x1 x2 x3 x4).1 1) := of_decide_eq_true (notF h14)
                              refine wp_skip ?_
                              refine then_normal ?_
                              refine wp_seq ?_
                              refine at_anyq (T := S_laws_FnExactRecordProof_tab) [{}, { ids := [28] }, {}, {}, { ids := [29] }, {}, { ids := [30] }, {}, { ids := [31, 32] }, { ids := [33] }, {}, {}, {}, { ids := [34] }, {}, {}] { ts := [10, 12, 13, 18, 21, 23, 24], os := [10, 11, 21, 22, 33, 34] } [(pTo s38) x0, (pTo s40) x2, (pTo s42) x3, (pTo s46) x4, (fun (x0 : (List T159)) (x1 : Int) (x2 : (List Int)) (x3 : T59) (x4 : T63) => Sh.fit s53 x0 ∧ Sh.fit s57 x2 ∧ Sh.fit s59 x3 ∧ Sh.fit s63 x4 ∧ List.length x0 ≤ 1073741823) x0 x1 x2 x3 x4] gamOK hT mixed h (by kernel_rfl) ⟨(by (show Sh.sz _ _ ≤ 1048576; omega)), (by (show Sh.sz _ _ ≤ 1048576; omega)), (by (show Sh.sz _ _ ≤ 1048576; omega)), (by (show Sh.sz _ _ ≤ 1048576; omega)), (by exact ⟨(Sh.fit_of_sz s53 rfl (x := x0) (by omega)), (Sh.fit_of_sz s57 rfl (x := x2) (by omega)), (Sh.fit_of_sz s59 rfl (x := x3) (by omega)), (Sh.fit_of_sz s63 rfl (x := x4) (by omega)), (by first | assumption | omega | (refine ⟨?_, ?_⟩ <;> omega))⟩), trivial⟩ ?_
                              intro a w h
                              refine then_normal ?_
                              refine wp_seq ?_
                              refine wp_seq ?_
                              refine at_regq (T := S_laws_FnExactRecordProof_tab) [{}, {}, {}, { hint := some (aB false) }] { ts := [10, 18, 21, 161], os := [21, 22] } [True, (AV.p (.c (.v (.bool (!((Sh.eqB s53) (recPf x0 x1 x2 x3 x4).1 (recPf x0 x1 x2 x3 x4).1))))) = AV.p (.c (.v (.bool false))))] gamOK hT h (by kernel_rfl) ⟨trivial, hint_bool (h5), trivial⟩ ?_
                              intro a w h
                              refine then_normal ?_
                              refine at_test (!((recPf x0 x1 x2 x3 x4).2 == (recPf x0 x1 x2 x3 x4).2)) h (by kernel_rfl) (fun h15 => ?_) (fun h15 => ?_)
                              · replace h15 : ((recPf x0 x1 x2 x3 x4).2 == (recPf x0 x1 x2 x3 x4).2) = false := notT h15
                                refine wp_seq ?_
                                refine at_reg (T := S_laws_FnExactRecordProof_tab) [] { ts := [10, 18, 21], os := [21, 22] } ⟨[(10, aB false), (18, aP 22 0), (21, aI ((mkKT s53) (recPf x0 x1 x2 x3 x4).1 1))], [(21, oR s159 ((Sh.mkT s53) (recPf x0 x1 x2 x3 x4).1 1)), (22, oX 53 [.sl 21])]⟩ [] gamOK hT h (by kernel_rfl) trivial ?_
                                intro a w h
                                refine then_normal ?_
                                refine wp_ret ?_
                                refine then_ret ?_
                                exact at_return (S := S_laws_FnExactRecordProof) (x := (x0, x1, x2, x3, x4, ())) (false, ()) [] h (by kernel_rfl) trivial (congrArg (fun z => (z, ())) (show (false) = D_laws_FnExactRecordProof x0 x1 x2 x3 x4 from by unfold D_laws_FnExactRecordProof; exact absurd (beqT (show _ = _ from by first | rfl | (rfl))) (neT h15)))
                              · replace h15 : ((recPf x0 x1 x2 x3 x4).2 == (recPf x0 x1 x2 x3 x4).2) = true := notF h15
                                refine wp_skip ?_
                                refine then_normal ?_
                                refine wp_seq ?_
                                refine at_reg (T := S_laws_FnExactRecordProof_tab) [] { ts := [10, 18, 21, 22], os := [21, 22] } ⟨[(10, aB false), (18, aP 22 0), (21, aI ((mkKT s53) (recPf x0 x1 x2 x3 x4).1 1)), (22, aI 1)], [(21, oR s159 ((Sh.mkT s53) (recPf x0 x1 x2 x3 x4).1 1)), (22, oX 53 [.sl 21])]⟩ [] gamOK hT h (by kernel_rfl) trivial ?_
                                intro a w h
                                refine then_normal ?_
                                refine wp_seq ?_
                                refine at_regq (T := S_laws_FnExactRecordProof_tab) [] { ts := [10, 21, 22], os := [] } [(pMkT s53) ((Sh.mkT s53) (recPf x0 x1 x2 x3 x4).1 1) 1] gamOK hT h (by kernel_rfl) ⟨(by (show (0 : Int) ≤ _ ∧ _ + ((Sh.ctT _ _ : Nat) : Int) ≤ (4611686018427387904 : Int); (try simp only [held_marked, held_markedT, mkK, mkKT, Sh.ctT_mkT, Sh.ct_mk]); constructor <;> omega)), trivial⟩ ?_
                                intro a w h
                                refine then_normal ?_
                                refine wp_seq ?_
                                refine wp_seq ?_
                                refine at_regq (T := S_laws_FnExactRecordProof_tab) [] { ts := [10, 21, 22, 166], os := [] } [] gamOK hT h (by kernel_rfl) trivial ?_
                                intro a w h
                                refine then_normal ?_
                                refine at_test (decide (((heldDT s53) ((Sh.mkT s53) (recPf x0 x1 x2 x3 x4).1 1) 1) < 0)) h (by kernel_rfl) (fun h16 => ?_) (fun h16 => ?_)
                                · replace h16 : ((heldDT s53) ((Sh.mkT s53) (recPf x0 x1 x2 x3 x4).1 1) 1) < 0 := of_decide_eq_true h16
                                  refine wp_seq ?_
                                  refine at_regq (T := S_laws_FnExactRecordProof_tab) [] { ts := [10, 21, 22], os := [] } [] gamOK hT h (by kernel_rfl) trivial ?_
                                  intro a w h
                                  refine then_normal ?_
                                  refine wp_ret ?_
                                  refine then_ret ?_
                                  exact at_return (S := S_laws_FnExactRecordProof) (x := (x0, x1, x2, x3, x4, ())) (false, ()) [] h (by kernel_rfl) trivial (congrArg (fun z => (z, ())) (show (false) = D_laws_FnExactRecordProof x0 x1 x2 x3 x4 from by unfold D_laws_FnExactRecordProof; (exfalso; simp only [held_marked, held_markedT, mkK, mkKT, Sh.ctT_mkT, Sh.ct_mk] at h16; first | omega | exact h16 trivial | exact h16 rfl)))
                                · replace h16 : ¬ (((heldDT s53) ((Sh.mkT s53) (recPf x0 x1 x2 x3 x4).1 1) 1) < 0) := of_decide_eq_false h16
                                  refine wp_skip ?_
                                  refine then_normal ?_
                                  refine wp_seq ?_
                                  refine wp_seq ?_
                                  refine at_regq (T := S_laws_FnExactRecordProof_tab) [] { ts := [10, 169], os := [] } [] gamOK hT h (by kernel_rfl) trivial ?_
                                  intro a w h
                                  refine then_normal ?_
                                  refine at_test (!decide (((heldDT s53) ((Sh.mkT s53) (recPf x0 x1 x2 x3 x4).1 1) 1) = ((mkKT s53) (recPf x0 x1 x2 x3 x4).1 1))) h (by kernel_rfl) (fun h17 => ?_) (fun h17 => ?_)
                                  · replace h17 : ¬ (((heldDT s53) ((Sh.mkT s53) (recPf x0 x1 x2 x3 x4).1 1) 1) = ((mkKT s53) (recPf x0 x1 x2 x3 x4).1 1)) := of_decide_eq_false (notT h17)
                                    refine wp_seq ?_
                                    refine at_reg (T := S_laws_FnExactRecordProof_tab) [] { ts := [10], os := [] } ⟨[(10, aB false)], []⟩ [] gamOK hT h (by kernel_rfl) trivial ?_
                                    intro a w h
                                    refine then_normal ?_
                                    refine wp_ret ?_
                                    refine then_ret ?_
                                    exact at_return (S := S_laws_FnExactRecordProof) (x := (x0, x1, x2, x3, x4, ())) (false, ()) [] h (by kernel_rfl) trivial (congrArg (fun z => (z, ())) (show (false) = D_laws_FnExactRecordProof x0 x1 x2 x3 x4 from by unfold D_laws_FnExactRecordProof; (exfalso; simp only [held_marked, held_markedT, mkK, mkKT, Sh.ctT_mkT, Sh.ct_mk] at h17; first | omega | exact h17 trivial | exact h17 rfl)))
                                  · replace h17 : ((heldDT s53) ((Sh.mkT s53) (recPf x0 x1 x2 x3 x4).1 1) 1) = ((mkKT s53) (recPf x0 x1 x2 x3 x4).1 1) := of_decide_eq_true (notF h17)
                                    refine wp_skip ?_
                                    refine then_normal ?_
                                    refine wp_seq ?_
                                    refine at_reg (T := S_laws_FnExactRecordProof_tab) [] { ts := [10], os := [] } ⟨[(10, aB true)], []⟩ [] gamOK hT h (by kernel_rfl) trivial ?_
                                    intro a w h
                                    refine then_normal ?_
                                    refine wp_ret ?_
                                    exact at_return (S := S_laws_FnExactRecordProof) (x := (x0, x1, x2, x3, x4, ())) (true, ()) [] h (by kernel_rfl) trivial (congrArg (fun z => (z, ())) (show (true) = D_laws_FnExactRecordProof x0 x1 x2 x3 x4 from by unfold D_laws_FnExactRecordProof; rfl))

theorem opn3 : OpensS Try.prog 3 (.int 3) := opensS_int Try.underlying3
theorem co3 : Try.prog.cellsOf 3 = 1 := by kernel_rfl
theorem co237 : Try.prog.cellsOf 237 = 3 := by kernel_rfl
theorem opn237 : OpensS Try.prog 237 s237 := by
  intro H enc w base spare held fuel cs x h
  obtain ⟨xs, n, _, _, hl, hlen, hf⟩ := DataW.trod_struct Try.underlying237 h
  obtain ⟨a0, k0, i0⟩ := opensS_field (a := (.int 3)) (i := 0) 0 1 hf hlen rfl rfl rfl co3 opn3
  obtain ⟨a1, k1, i1⟩ := opensS_field (a := (.int 3)) (i := 1) 1 1 hf hlen rfl rfl rfl co3 opn3
  obtain ⟨a2, k2, i2⟩ := opensS_field (a := (.int 3)) (i := 2) 2 1 hf hlen rfl rfl rfl co3 opn3
  rw [co237] at hl
  exact ⟨(a0, (a1, a2)), (rdS_pair (off := 0) k0 (rdS_pair (off := 1) k1 (rdS_last (off := 2) k2 (by omega)))), ⟨i0, ⟨i1, i2⟩⟩⟩
theorem opn36 : OpensS Try.prog 36 s36 := opensS_slice (a := s237) Try.underlying36 co237 opn237
theorem co36 : Try.prog.cellsOf 36 = 1 := by kernel_rfl
theorem co38 : Try.prog.cellsOf 38 = 1 := by kernel_rfl
theorem opn38 : OpensS Try.prog 38 s38 := by
  intro H enc w base spare held fuel cs x h
  obtain ⟨xs, n, _, _, hl, hlen, hf⟩ := DataW.trod_struct Try.underlying38 h
  obtain ⟨a0, k0, i0⟩ := opensS_field (a := s36) (i := 0) 0 1 hf hlen rfl rfl rfl co36 opn36
  rw [co38] at hl
  exact ⟨a0, (rdS_last (off := 0) k0 (by omega)), i0⟩
theorem opn22 : OpensS Try.prog 22 s22 := opensS_slice (a := (.int 3)) Try.underlying22 co3 opn3
theorem co22 : Try.prog.cellsOf 22 = 1 := by kernel_rfl
theorem co40 : Try.prog.cellsOf 40 = 1 := by kernel_rfl
theorem opn40 : OpensS Try.prog 40 s40 := by
  intro H enc w base spare held fuel cs x h
  obtain ⟨xs, n, _, _, hl, hlen, hf⟩ := DataW.trod_struct Try.underlying40 h
  obtain ⟨a0, k0, i0⟩ := opensS_field (a := s22) (i := 0) 0 1 hf hlen rfl rfl rfl co22 opn22
  rw [co40] at hl
  exact ⟨a0, (rdS_last (off := 0) k0 (by omega)), i0⟩
theorem co42 : Try.prog.cellsOf 42 = 6 := by kernel_rfl
theorem opn42 : OpensS Try.prog 42 s42 := by
  intro H enc w base spare held fuel cs x h
  obtain ⟨xs, n, _, _, hl, hlen, hf⟩ := DataW.trod_struct Try.underlying42 h
  obtain ⟨a0, k0, i0⟩ := opensS_field (a := (.int 3)) (i := 0) 0 1 hf hlen rfl rfl rfl co3 opn3
  obtain ⟨a1, k1, i1⟩ := opensS_field (a := (.int 3)) (i := 1) 1 1 hf hlen rfl rfl rfl co3 opn3
  obtain ⟨a2, k2, i2⟩ := opensS_field (a := (.int 3)) (i := 2) 2 1 hf hlen rfl rfl rfl co3 opn3
  obtain ⟨a3, k3, i3⟩ := opensS_field (a := (.int 3)) (i := 3) 3 1 hf hlen rfl rfl rfl co3 opn3
  obtain ⟨a4, k4, i4⟩ := opensS_field (a := s22) (i := 4) 4 1 hf hlen rfl rfl rfl co22 opn22
  obtain ⟨a5, k5, i5⟩ := opensS_field (a := (.int 3)) (i := 5) 5 1 hf hlen rfl rfl rfl co3 opn3
  rw [co42] at hl
  exact ⟨(a0, (a1, (a2, (a3, (a4, a5))))), (rdS_pair (off := 0) k0 (rdS_pair (off := 1) k1 (rdS_pair (off := 2) k2 (rdS_pair (off := 3) k3 (rdS_pair (off := 4) k4 (rdS_last (off := 5) k5 (by omega))))))), ⟨i0, ⟨i1, ⟨i2, ⟨i3, ⟨i4, i5⟩⟩⟩⟩⟩⟩
theorem co44 : Try.prog.cellsOf 44 = 3 := by kernel_rfl
theorem opn44 : OpensS Try.prog 44 s44 := by
  intro H enc w base spare held fuel cs x h
  obtain ⟨xs, n, _, _, hl, hlen, hf⟩ := DataW.trod_struct Try.underlying44 h
  obtain ⟨a0, k0, i0⟩ := opensS_field (a := (.int 3)) (i := 0) 0 1 hf hlen rfl rfl rfl co3 opn3
  obtain ⟨a1, k1, i1⟩ := opensS_field (a := s22) (i := 1) 1 1 hf hlen rfl rfl rfl co22 opn22
  obtain ⟨a2, k2, i2⟩ := opensS_field (a := s22) (i := 2) 2 1 hf hlen rfl rfl rfl co22 opn22
  rw [co44] at hl
  exact ⟨(a0, (a1, a2)), (rdS_pair (off := 0) k0 (rdS_pair (off := 1) k1 (rdS_last (off := 2) k2 (by omega)))), ⟨i0, ⟨i1, i2⟩⟩⟩
theorem co46 : Try.prog.cellsOf 46 = 7 := by kernel_rfl
theorem opn46 : OpensS Try.prog 46 s46 := by
  intro H enc w base spare held fuel cs x h
  obtain ⟨xs, n, _, _, hl, hlen, hf⟩ := DataW.trod_struct Try.underlying46 h
  obtain ⟨a0, k0, i0⟩ := opensS_field (a := (.int 3)) (i := 0) 0 1 hf hlen rfl rfl rfl co3 opn3
  obtain ⟨a1, k1, i1⟩ := opensS_field (a := (.int 3)) (i := 1) 1 1 hf hlen rfl rfl rfl co3 opn3
  obtain ⟨a2, k2, i2⟩ := opensS_field (a := (.int 3)) (i := 2) 2 1 hf hlen rfl rfl rfl co3 opn3
  obtain ⟨a3, k3, i3⟩ := opensS_field (a := s44) (i := 3) 3 3 hf hlen rfl rfl rfl co44 opn44
  obtain ⟨a4, k4, i4⟩ := opensS_field (a := (.int 3)) (i := 4) 6 1 hf hlen rfl rfl rfl co3 opn3
  rw [co46] at hl
  exact ⟨(a0, (a1, (a2, (a3, a4)))), (rdS_pair (off := 0) k0 (rdS_pair (off := 1) k1 (rdS_pair (off := 2) k2 (rdS_pair (off := 3) k3 (rdS_last (off := 6) k4 (by omega)))))), ⟨i0, ⟨i1, ⟨i2, ⟨i3, i4⟩⟩⟩⟩⟩
namespace fnExactRecordProof
open Go.ChangeShapes Go.WideShapes Go.ChangeAt Go.RowKit
theorem own : ownKnob Try.prog.godebug = none := by kernel_rfl
theorem laidOut : laidOutB Try.prog = true := fxLaid
set_option maxRecDepth 100000 in
theorem lifted (os : Os) (started : os.Started) (H : Type) (enc : TypeId × Value → H) :
    ReturnsInHanded {} Try.checked os 4 .any (Rows.fnExactRecordProofSpec.pre6 enc Try.prog Try.f4 Rows.fnExactRecordProofRow.domain false) (Rows.fnExactRecordProofSpec.post enc Try.prog Try.f4 false true false false) := by
  refine returnsInHanded_of_change (C := Try.checked) own started (by kernel_rfl) Try.func4
    (ChangeSpec.witness6 (enc := enc) (C := Try.checked) false ⟨#[], #[.agg #[.slice none 0 0], .int .i64 0, .agg #[.slice none 0 0], .agg #[.int .i64 0, .int .i64 0, .int .i64 0, .int .i64 0, .slice none 0 0, .int .i64 0], .agg #[.int .i64 0, .int .i64 0, .int .i64 0, .int .i64 0, .slice none 0 0, .slice none 0 0, .int .i64 0]], []⟩ 8 (by kernel_rfl) (by kernel_rfl) (by kernel_rfl) (by kernel_rfl)) ?_
  intro W base args ds gs before hval0 hW hcnd _
  have hval : ∀ (j : Nat) t v, Try.f4.params[j]? = some t → args[j]? = some v → Value.okWide Try.prog W .any base t v := hval0
  have hW' := hW
  obtain ⟨p, q, hA0, hV, rfl, hfz, hnd⟩ := hW
  have hA : DataW.TrodAll enc Try.prog W 0 (fun _ => true) true Try.f4.params.toList args.toList ds p := hA0
  rw [Try.params4] at hA hval
  obtain ⟨v0, vs0, d0, ds0, p0, q0, hargs, rfl, rfl, h0, r0⟩ := trodAll_cons hA
  obtain ⟨v1, vs1, d1, ds1, p1, q1, rfl, rfl, rfl, h1, r1⟩ := trodAll_cons r0
  obtain ⟨v2, vs2, d2, ds2, p2, q2, rfl, rfl, rfl, h2, r2⟩ := trodAll_cons r1
  obtain ⟨v3, vs3, d3, ds3, p3, q3, rfl, rfl, rfl, h3, r3⟩ := trodAll_cons r2
  obtain ⟨v4, vs4, d4, ds4, p4, q4, rfl, rfl, rfl, h4, r4⟩ := trodAll_cons r3
  obtain ⟨rfl, rfl, rfl⟩ := trodAll_nil r4
  obtain rfl : args = #[v0, v1, v2, v3, v4] := by cases args; simp_all
  obtain ⟨rfl, rfl⟩ := trodVars_none hV
  have k0 := h0
  have lt0 : ∀ x ∈ p0, x.block < W.heap.size := by obtain ⟨m, hm⟩ := k0; exact DataW.trod_lt m _ _ _ hm
  obtain ⟨cs0, rfl, _⟩ := okWide_struct Try.underlying38 (hval 0 38 v0 rfl rfl)
  obtain ⟨cs0⟩ := cs0
  obtain ⟨x0, hx0, i0⟩ : ∃ x : (s38).D, (s38).rd W (fun b => b < W.heap.size) cs0 x ∧ (s38).i64 x := by obtain ⟨fuel, hf⟩ := h0; exact opn38 hf
  have k1 := h1
  have lt1 : ∀ x ∈ p1, x.block < W.heap.size := by obtain ⟨m, hm⟩ := k1; exact DataW.trod_lt m _ _ _ hm
  obtain ⟨a1, rfl, rfl, rfl, w1⟩ := open_int Try.underlying3 (hval 1 3 v1 rfl rfl) h1
  have k2 := h2
  have lt2 : ∀ x ∈ p2, x.block < W.heap.size := by obtain ⟨m, hm⟩ := k2; exact DataW.trod_lt m _ _ _ hm
  obtain ⟨cs2, rfl, _⟩ := okWide_struct Try.underlying40 (hval 2 40 v2 rfl rfl)
  obtain ⟨cs2⟩ := cs2
  obtain ⟨x2, hx2, i2⟩ : ∃ x : (s40).D, (s40).rd W (fun b => b < W.heap.size) cs2 x ∧ (s40).i64 x := by obtain ⟨fuel, hf⟩ := h2; exact opn40 hf
  have k3 := h3
  have lt3 : ∀ x ∈ p3, x.block < W.heap.size := by obtain ⟨m, hm⟩ := k3; exact DataW.trod_lt m _ _ _ hm
  obtain ⟨cs3, rfl, _⟩ := okWide_struct Try.underlying42 (hval 3 42 v3 rfl rfl)
  obtain ⟨cs3⟩ := cs3
  obtain ⟨x3, hx3, i3⟩ : ∃ x : (s42).D, (s42).rd W (fun b => b < W.heap.size) cs3 x ∧ (s42).i64 x := by obtain ⟨fuel, hf⟩ := h3; exact opn42 hf
  have k4 := h4
  have lt4 : ∀ x ∈ p4, x.block < W.heap.size := by obtain ⟨m, hm⟩ := k4; exact DataW.trod_lt m _ _ _ hm
  obtain ⟨cs4, rfl, _⟩ := okWide_struct Try.underlying46 (hval 4 46 v4 rfl rfl)
  obtain ⟨cs4⟩ := cs4
  obtain ⟨x4, hx4, i4⟩ : ∃ x : (s46).D, (s46).rd W (fun b => b < W.heap.size) cs4 x ∧ (s46).i64 x := by obtain ⟨fuel, hf⟩ := h4; exact opn46 hf
  clear hA0 hval0
  refine (calls_law S_laws_FnExactRecordProof_ok (by kernel_rfl) W (fun b => b < W.heap.size) [.agg cs0.toArray, .int .i64 a1, .agg cs2.toArray, .agg cs3.toArray, .agg cs4.toArray] (x0, a1, x2, x3, x4, ()) (fun _ h => h) ⟨argRd_st hx0, argRd_int a1, argRd_st hx2, argRd_st hx3, argRd_st hx4, trivial⟩ ⟨i0, (show I64 a1 from by unfold I64; simpa [Lit.wf, IntKind.min, IntKind.max, IntKind.signed, IntKind.bits] using w1), i2, i3, i4⟩).mono fun e W' hr => ?_
  obtain ⟨he, bel⟩ := ret_bool hr
  subst he
  exact ⟨_, rfl, _, _, _, [], _, [], hW', trodAll_mk1 (shut_bool Try.underlying4 _), (trodAll_cons_mk (Below.trod laidOut (by kernel_rfl) (of_decide_eq_true (by kernel_rfl)) k0 bel lt0) (trodAll_cons_mk (Below.trod laidOut (by kernel_rfl) (of_decide_eq_true (by kernel_rfl)) k1 bel lt1) (trodAll_cons_mk (Below.trod laidOut (by kernel_rfl) (of_decide_eq_true (by kernel_rfl)) k2 bel lt2) (trodAll_cons_mk (Below.trod laidOut (by kernel_rfl) (of_decide_eq_true (by kernel_rfl)) k3 bel lt3) (trodAll_cons_mk (Below.trod laidOut (by kernel_rfl) (of_decide_eq_true (by kernel_rfl)) k4 bel lt4) trodAll_mk0))))), rfl, bel.frame _, fun h => by cases h⟩
theorem closed : joinedFacts Try.prog 4 Try.f4 (Rows.fnExactRecordProofSpec) Rows.fnExactRecordProofRow = true := by
  unfold joinedFacts
  exact (and2 (and2 (and2 (and2 (and2 (and2 (and2 (and2 (and2 (and2 (and2 (and2 (and2 (and2 (and2 (and2 (and2 (and2 (and2 (and2 (and2 (and2 (and2 (and2 (and2 (and2 (and2 (and2 (and2 (and2 (and2 (by kernel_rfl) fxLaid) fxMaps) (by kernel_rfl)) (by kernel_rfl)) (by kernel_rfl)) (by kernel_rfl)) (by kernel_rfl)) (by kernel_rfl)) (by kernel_rfl)) (by kernel_rfl)) (by kernel_rfl)) (by kernel_rfl)) (by kernel_rfl)) (by kernel_rfl)) (by kernel_rfl)) (by kernel_rfl)) (by kernel_rfl)) (by kernel_rfl)) (by kernel_rfl)) (by kernel_rfl)) (by kernel_rfl)) (by kernel_rfl)) (by kernel_rfl)) (by kernel_rfl)) fxEnter) (by rw [fxLifts]; kernel_rfl)) (by rw [fxMake]; kernel_rfl)) (by kernel_rfl)) (by kernel_rfl)) (by kernel_rfl)) (by kernel_rfl))
theorem over : Rows.fnExactRecordProofRow.holds Try.pinned (OpenSpec.ofChange Rows.fnExactRecordProofSpec) :=
  OpenClaim.holds_of_wide 4 Try.f4 rfl rfl rfl rfl rfl rfl rfl ⟨rfl, rfl, rfl, rfl, rfl⟩ rfl rfl rfl rfl rfl (by kernel_rfl) Try.func4 closed
    (of_decide_eq_true (by kernel_rfl)) (by unfold Func.isWrapper; first | (rw [if_pos (by decide +kernel)]; kernel_rfl) | (rw [if_neg (by decide +kernel)]; exact ⟨rfl, rfl⟩))
    (fun os started H enc _ => lifted os started H enc)
/-- the statement -/
theorem proved : Rows.FnExactRecordProofSaid := over
end fnExactRecordProof

end Go.Proofs.Ytdmkjcnppgfeoaa

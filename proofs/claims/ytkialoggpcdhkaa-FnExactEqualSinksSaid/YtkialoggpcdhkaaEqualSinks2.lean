/- The law FnExactEqualSinks returns true for every input and leaves its arguments as they were. No condition. -/
import Derived.Test.YtkialoggpcdhkaaEqualSinks1
import Derived.Test.YtkialoggpcdhkaaProg
import Derived.Test.YtkialoggpcdhkaaRows
import Derived.Test.YtkialoggpcdhkaaFX
namespace Go.Proofs.Ytkialoggpcdhkaa
open Go.RowKit
set_option linter.unusedVariables false
set_option linter.unusedSimpArgs false
def S_impl_EqualSinks : Sum := { fid := 18, dom := [s32, s32], cod := [(.bool 4)], dp := true, fz := false, pre := fun x => True, g := fun x => (((Sh.eqB s32) x.1 x.2.1), ()) }
def S_impl_EqualSinks_tab : List (Nat × Sum) := [(93, S_slices_Equal_S_int_int_), (100009, S_slices_EqualFunc_S_impl_Decoder_S_impl_Decoder_impl_Decoder_impl_Decoder__EqualDecoders), (100010, S_slices_EqualFunc_S_impl_Generation_S_impl_Generation_impl_Generation_impl_Generation__EqualGenerations)]
theorem S_impl_EqualSinks_ok : FnOK Try.prog 18 S_impl_EqualSinks := by
  refine at_enter 45 (fun x => ⟨[(0, aG [cI x.1.1, cI x.1.2.1, .ro (.int 3) x.1.2.2.1, .ro s141 x.1.2.2.2.1, .ro s86 x.1.2.2.2.2.1, cI x.1.2.2.2.2.2]), (1, aG [cI x.2.1.1, cI x.2.1.2.1, .ro (.int 3) x.2.1.2.2.1, .ro s141 x.2.1.2.2.2.1, .ro s86 x.2.1.2.2.2.2.1, cI x.2.1.2.2.2.2.2])], []⟩) Try.func18 rfl (by kernel_rfl) (fun x => rfl) ?_
  rintro w0 Z0 ⟨x0, x1, u⟩ a w
  revert x0 x1
  intro (x0 : T32) (x1 : T32) hpre hlens h
  replace h : At w0 Z0 [] 45 ⟨[(0, aG [cI x0.1, cI x0.2.1, .ro (.int 3) x0.2.2.1, .ro s141 x0.2.2.2.1, .ro s86 x0.2.2.2.2.1, cI x0.2.2.2.2.2]), (1, aG [cI x1.1, cI x1.2.1, .ro (.int 3) x1.2.2.1, .ro s141 x1.2.2.2.1, .ro s86 x1.2.2.2.2.1, cI x1.2.2.2.2.2])], []⟩ a w := h
  have hl1 : List.length x0.2.2.1 ≤ 9223372036854775807 := hlens.1.2.2.1.1
  have hl2 : List.length x0.2.2.2.1 ≤ 9223372036854775807 := hlens.1.2.2.2.1.1
  have hl3 : List.length x0.2.2.2.2.1 ≤ 9223372036854775807 := hlens.1.2.2.2.2.1.1
  have hl4 : List.length x1.2.2.1 ≤ 9223372036854775807 := hlens.2.1.2.2.1.1
  have hl5 : List.length x1.2.2.2.1 ≤ 9223372036854775807 := hlens.2.1.2.2.2.1.1
  have hl6 : List.length x1.2.2.2.2.1 ≤ 9223372036854775807 := hlens.2.1.2.2.2.2.1.1
  have hT : TabOK Try.prog S_impl_EqualSinks_tab := (.cons S_slices_Equal_S_int_int__ok (.cons S_slices_EqualFunc_S_impl_Decoder_S_impl_Decoder_impl_Decoder_impl_Decoder__EqualDecoders_ok (.cons S_slices_EqualFunc_S_impl_Generation_S_impl_Generation_impl_Generation_impl_Generation__EqualGenerations_ok .nil)))
  refine wp_seq ?_
  refine at_regq (T := S_impl_EqualSinks_tab) [{ ids := [1] }, { ids := [2] }] { ts := [2, 3, 4], os := [1, 2] } [] gamOK hT h (by kernel_rfl) trivial ?_
  intro a w h
  refine then_normal ?_
  refine wp_seq ?_
  by_cases h1 : x0.1 = x1.1
  · skip
    by_cases h2 : x0.2.1 = x1.2.1
    · skip
      by_cases h3 : x0.2.2.2.2.2 = x1.2.2.2.2.2
      · skip
        rcases Bool.eq_false_or_eq_true (((Sh.eqB s22) x0.2.2.1 x1.2.2.1)) with h4 | h4
        · skip
          rcases Bool.eq_false_or_eq_true ((D_slices_EqualFunc_S_impl_Decoder_S_impl_Decoder_impl_Decoder_impl_Decoder__EqualDecoders x0.2.2.2.1 x1.2.2.2.1 ())) with h5 | h5
          · skip
            refine at_regq (T := S_impl_EqualSinks_tab) [{}, {}, {}, {}, { hint := some (aB true) }, {}, {}, {}, {}, {}, { hint := some (aB true) }, {}, {}, {}, {}, {}, {}, { hint := some (aB true) }, {}, {}, {}, {}, {}, {}, { hint := some (aB true) }, {}, {}, {}, {}, {}, {}, { hint := some (aB true), key := some 100009 }, {}, {}, {}, {}, {}, {}, { key := some 100010 }] { ts := [4], os := [] } [(AV.p (.c (.v (.bool (decide (x0.1 = x1.1))))) = AV.p (.c (.v (.bool true)))), (AV.p (.c (.v (.bool (decide (x0.2.1 = x1.2.1))))) = AV.p (.c (.v (.bool true)))), (AV.p (.c (.v (.bool (decide (x0.2.2.2.2.2 = x1.2.2.2.2.2))))) = AV.p (.c (.v (.bool true)))), True, (AV.p (.c (.v (.bool (((Sh.eqB s22) x0.2.2.1 x1.2.2.1))))) = AV.p (.c (.v (.bool true)))), True, (AV.p (.c (.v (.bool ((D_slices_EqualFunc_S_impl_Decoder_S_impl_Decoder_impl_Decoder_impl_Decoder__EqualDecoders x0.2.2.2.1 x1.2.2.2.1 ()))))) = AV.p (.c (.v (.bool true)))), True] gamOK hT h (by kernel_rfl) ⟨hint_bool (decide_eq_true h1), hint_bool (decide_eq_true h2), hint_bool (decide_eq_true h3), trivial, hint_bool (h4), trivial, hint_bool (h5), trivial, trivial⟩ ?_
            intro a w h
            refine then_normal ?_
            refine wp_ret ?_
            exact at_return (S := S_impl_EqualSinks) (x := (x0, x1, ())) ((D_slices_EqualFunc_S_impl_Generation_S_impl_Generation_impl_Generation_impl_Generation__EqualGenerations x0.2.2.2.2.1 x1.2.2.2.2.1 ()), ()) [] h (by kernel_rfl) trivial (congrArg (fun z => (z, ())) (show ((D_slices_EqualFunc_S_impl_Generation_S_impl_Generation_impl_Generation_impl_Generation__EqualGenerations x0.2.2.2.2.1 x1.2.2.2.2.1 ())) = (Sh.eqB s32) x0 x1 from by (show _ = Sh.eqB s32 x0 x1; simp_all [Sh.eqB, eqF_eqL, D_slices_EqualFunc_S_impl_Decoder_S_impl_Decoder_impl_Decoder_impl_Decoder__EqualDecoders, D_slices_EqualFunc_S_impl_Generation_S_impl_Generation_impl_Generation_impl_Generation__EqualGenerations])))
          · skip
            refine at_regq (T := S_impl_EqualSinks_tab) [{}, {}, {}, {}, { hint := some (aB true) }, {}, {}, {}, {}, {}, { hint := some (aB true) }, {}, {}, {}, {}, {}, {}, { hint := some (aB true) }, {}, {}, {}, {}, {}, {}, { hint := some (aB true) }, {}, {}, {}, {}, {}, {}, { hint := some (aB false), key := some 100009 }] { ts := [4], os := [] } [(AV.p (.c (.v (.bool (decide (x0.1 = x1.1))))) = AV.p (.c (.v (.bool true)))), (AV.p (.c (.v (.bool (decide (x0.2.1 = x1.2.1))))) = AV.p (.c (.v (.bool true)))), (AV.p (.c (.v (.bool (decide (x0.2.2.2.2.2 = x1.2.2.2.2.2))))) = AV.p (.c (.v (.bool true)))), True, (AV.p (.c (.v (.bool (((Sh.eqB s22) x0.2.2.1 x1.2.2.1))))) = AV.p (.c (.v (.bool true)))), True, (AV.p (.c (.v (.bool ((D_slices_EqualFunc_S_impl_Decoder_S_impl_Decoder_impl_Decoder_impl_Decoder__EqualDecoders x0.2.2.2.1 x1.2.2.2.1 ()))))) = AV.p (.c (.v (.bool false))))] gamOK hT h (by kernel_rfl) ⟨hint_bool (decide_eq_true h1), hint_bool (decide_eq_true h2), hint_bool (decide_eq_true h3), trivial, hint_bool (h4), trivial, hint_bool (h5), trivial⟩ ?_
            intro a w h
            refine then_normal ?_
            refine wp_ret ?_
            exact at_return (S := S_impl_EqualSinks) (x := (x0, x1, ())) (false, ()) [] h (by kernel_rfl) trivial (congrArg (fun z => (z, ())) (show (false) = (Sh.eqB s32) x0 x1 from by (show _ = Sh.eqB s32 x0 x1; simp_all [Sh.eqB, eqF_eqL, D_slices_EqualFunc_S_impl_Decoder_S_impl_Decoder_impl_Decoder_impl_Decoder__EqualDecoders, D_slices_EqualFunc_S_impl_Generation_S_impl_Generation_impl_Generation_impl_Generation__EqualGenerations])))
        · skip
          refine at_regq (T := S_impl_EqualSinks_tab) [{}, {}, {}, {}, { hint := some (aB true) }, {}, {}, {}, {}, {}, { hint := some (aB true) }, {}, {}, {}, {}, {}, {}, { hint := some (aB true) }, {}, {}, {}, {}, {}, {}, { hint := some (aB false) }] { ts := [4], os := [] } [(AV.p (.c (.v (.bool (decide (x0.1 = x1.1))))) = AV.p (.c (.v (.bool true)))), (AV.p (.c (.v (.bool (decide (x0.2.1 = x1.2.1))))) = AV.p (.c (.v (.bool true)))), (AV.p (.c (.v (.bool (decide (x0.2.2.2.2.2 = x1.2.2.2.2.2))))) = AV.p (.c (.v (.bool true)))), True, (AV.p (.c (.v (.bool (((Sh.eqB s22) x0.2.2.1 x1.2.2.1))))) = AV.p (.c (.v (.bool false))))] gamOK hT h (by kernel_rfl) ⟨hint_bool (decide_eq_true h1), hint_bool (decide_eq_true h2), hint_bool (decide_eq_true h3), trivial, hint_bool (h4), trivial⟩ ?_
          intro a w h
          refine then_normal ?_
          refine wp_ret ?_
          exact at_return (S := S_impl_EqualSinks) (x := (x0, x1, ())) (false, ()) [] h (by kernel_rfl) trivial (congrArg (fun z => (z, ())) (show (false) = (Sh.eqB s32) x0 x1 from by (show _ = Sh.eqB s32 x0 x1; simp_all [Sh.eqB, eqF_eqL, D_slices_EqualFunc_S_impl_Decoder_S_impl_Decoder_impl_Decoder_impl_Decoder__EqualDecoders, D_slices_EqualFunc_S_impl_Generation_S_impl_Generation_impl_Generation_impl_Generation__EqualGenerations])))
      · skip
        refine at_regq (T := S_impl_EqualSinks_tab) [{}, {}, {}, {}, { hint := some (aB true) }, {}, {}, {}, {}, {}, { hint := some (aB true) }, {}, {}, {}, {}, {}, {}, { hint := some (aB false) }] { ts := [4], os := [] } [(AV.p (.c (.v (.bool (decide (x0.1 = x1.1))))) = AV.p (.c (.v (.bool true)))), (AV.p (.c (.v (.bool (decide (x0.2.1 = x1.2.1))))) = AV.p (.c (.v (.bool true)))), (AV.p (.c (.v (.bool (decide (x0.2.2.2.2.2 = x1.2.2.2.2.2))))) = AV.p (.c (.v (.bool false))))] gamOK hT h (by kernel_rfl) ⟨hint_bool (decide_eq_true h1), hint_bool (decide_eq_true h2), hint_bool (decide_eq_false h3), trivial⟩ ?_
        intro a w h
        refine then_normal ?_
        refine wp_ret ?_
        exact at_return (S := S_impl_EqualSinks) (x := (x0, x1, ())) (false, ()) [] h (by kernel_rfl) trivial (congrArg (fun z => (z, ())) (show (false) = (Sh.eqB s32) x0 x1 from by (show _ = Sh.eqB s32 x0 x1; simp_all [Sh.eqB, eqF_eqL, D_slices_EqualFunc_S_impl_Decoder_S_impl_Decoder_impl_Decoder_impl_Decoder__EqualDecoders, D_slices_EqualFunc_S_impl_Generation_S_impl_Generation_impl_Generation_impl_Generation__EqualGenerations])))
    · skip
      refine at_regq (T := S_impl_EqualSinks_tab) [{}, {}, {}, {}, { hint := some (aB true) }, {}, {}, {}, {}, {}, { hint := some (aB false) }] { ts := [4], os := [] } [(AV.p (.c (.v (.bool (decide (x0.1 = x1.1))))) = AV.p (.c (.v (.bool true)))), (AV.p (.c (.v (.bool (decide (x0.2.1 = x1.2.1))))) = AV.p (.c (.v (.bool false))))] gamOK hT h (by kernel_rfl) ⟨hint_bool (decide_eq_true h1), hint_bool (decide_eq_false h2), trivial⟩ ?_
      intro a w h
      refine then_normal ?_
      refine wp_ret ?_
      exact at_return (S := S_impl_EqualSinks) (x := (x0, x1, ())) (false, ()) [] h (by kernel_rfl) trivial (congrArg (fun z => (z, ())) (show (false) = (Sh.eqB s32) x0 x1 from by (show _ = Sh.eqB s32 x0 x1; simp_all [Sh.eqB, eqF_eqL, D_slices_EqualFunc_S_impl_Decoder_S_impl_Decoder_impl_Decoder_impl_Decoder__EqualDecoders, D_slices_EqualFunc_S_impl_Generation_S_impl_Generation_impl_Generation_impl_Generation__EqualGenerations])))
  · skip
    refine at_regq (T := S_impl_EqualSinks_tab) [{}, {}, {}, {}, { hint := some (aB false) }] { ts := [4], os := [] } [(AV.p (.c (.v (.bool (decide (x0.1 = x1.1))))) = AV.p (.c (.v (.bool false))))] gamOK hT h (by kernel_rfl) ⟨hint_bool (decide_eq_false h1), trivial⟩ ?_
    intro a w h
    refine then_normal ?_
    refine wp_ret ?_
    exact at_return (S := S_impl_EqualSinks) (x := (x0, x1, ())) (false, ()) [] h (by kernel_rfl) trivial (congrArg (fun z => (z, ())) (show (false) = (Sh.eqB s32) x0 x1 from by (show _ = Sh.eqB s32 x0 x1; simp_all [Sh.eqB, eqF_eqL, D_slices_EqualFunc_S_impl_Decoder_S_impl_Decoder_impl_Decoder_impl_Decoder__EqualDecoders, D_slices_EqualFunc_S_impl_Generation_S_impl_Generation_impl_Generation_impl_Generation__EqualGenerations])))

def S_spec_EqualSinks : Sum := { fid := 16, dom := [s32, s32], cod := [(.bool 4)], dp := true, fz := false, pre := fun x => True, g := fun x => (((Sh.eqB s32) x.1 x.2.1), ()) }
def S_spec_EqualSinks_tab : List (Nat × Sum) := [(88, S_spec_EqualInts), (89, S_spec_EqualDecoders), (90, S_spec_EqualGenerations)]
theorem S_spec_EqualSinks_ok : FnOK Try.prog 16 S_spec_EqualSinks := by
  refine at_enter 90 (fun x => ⟨[(0, aG [cI x.1.1, cI x.1.2.1, .ro (.int 3) x.1.2.2.1, .ro s141 x.1.2.2.2.1, .ro s86 x.1.2.2.2.2.1, cI x.1.2.2.2.2.2]), (1, aG [cI x.2.1.1, cI x.2.1.2.1, .ro (.int 3) x.2.1.2.2.1, .ro s141 x.2.1.2.2.2.1, .ro s86 x.2.1.2.2.2.2.1, cI x.2.1.2.2.2.2.2])], []⟩) Try.func16 rfl (by kernel_rfl) (fun x => rfl) ?_
  rintro w0 Z0 ⟨x0, x1, u⟩ a w
  revert x0 x1
  intro (x0 : T32) (x1 : T32) hpre hlens h
  replace h : At w0 Z0 [] 90 ⟨[(0, aG [cI x0.1, cI x0.2.1, .ro (.int 3) x0.2.2.1, .ro s141 x0.2.2.2.1, .ro s86 x0.2.2.2.2.1, cI x0.2.2.2.2.2]), (1, aG [cI x1.1, cI x1.2.1, .ro (.int 3) x1.2.2.1, .ro s141 x1.2.2.2.1, .ro s86 x1.2.2.2.2.1, cI x1.2.2.2.2.2])], []⟩ a w := h
  have hl1 : List.length x0.2.2.1 ≤ 9223372036854775807 := hlens.1.2.2.1.1
  have hl2 : List.length x0.2.2.2.1 ≤ 9223372036854775807 := hlens.1.2.2.2.1.1
  have hl3 : List.length x0.2.2.2.2.1 ≤ 9223372036854775807 := hlens.1.2.2.2.2.1.1
  have hl4 : List.length x1.2.2.1 ≤ 9223372036854775807 := hlens.2.1.2.2.1.1
  have hl5 : List.length x1.2.2.2.1 ≤ 9223372036854775807 := hlens.2.1.2.2.2.1.1
  have hl6 : List.length x1.2.2.2.2.1 ≤ 9223372036854775807 := hlens.2.1.2.2.2.2.1.1
  have hT : TabOK Try.prog S_spec_EqualSinks_tab := (.cons S_spec_EqualInts_ok (.cons S_spec_EqualDecoders_ok (.cons S_spec_EqualGenerations_ok .nil)))
  refine wp_seq ?_
  refine at_regq (T := S_spec_EqualSinks_tab) [{ ids := [1] }, { ids := [2] }] { ts := [2, 3, 4], os := [1, 2] } [] gamOK hT h (by kernel_rfl) trivial ?_
  intro a w h
  refine then_normal ?_
  refine wp_seq ?_
  refine wp_seq ?_
  by_cases h1 : x0.1 = x1.1
  · skip
    by_cases h2 : x0.2.1 = x1.2.1
    · skip
      rcases Bool.eq_false_or_eq_true (!((Sh.eqB s22) x0.2.2.1 x1.2.2.1)) with h3 | h3
      · skip
        have hzh3 : ((Sh.eqB s22) x0.2.2.1 x1.2.2.1) = false := notT h3
        refine at_regq (T := S_spec_EqualSinks_tab) [{}, {}, {}, {}, { hint := some (aB false) }, {}, {}, {}, {}, {}, { hint := some (aB false) }, {}, {}, {}, {}, {}, {}, {}, { hint := some (aB true) }] { ts := [2, 3, 4, 51], os := [1, 2] } [(AV.p (.c (.v (.bool (!decide (x0.1 = x1.1))))) = AV.p (.c (.v (.bool false)))), (AV.p (.c (.v (.bool (!decide (x0.2.1 = x1.2.1))))) = AV.p (.c (.v (.bool false)))), True, (AV.p (.c (.v (.bool (!((Sh.eqB s22) x0.2.2.1 x1.2.2.1))))) = AV.p (.c (.v (.bool true))))] gamOK hT h (by kernel_rfl) ⟨hint_bool (ndT h1), hint_bool (ndT h2), trivial, hint_bool (h3), trivial⟩ ?_
        intro a w h
        refine then_normal ?_
        refine at_test true h (by kernel_rfl) (fun hh => ?_) (fun hh => nomatch hh)
        refine wp_seq ?_
        refine at_regq (T := S_spec_EqualSinks_tab) [] { ts := [2, 3, 4], os := [1, 2] } [] gamOK hT h (by kernel_rfl) trivial ?_
        intro a w h
        refine then_normal ?_
        refine wp_ret ?_
        refine then_ret ?_
        exact at_return (S := S_spec_EqualSinks) (x := (x0, x1, ())) (false, ()) [] h (by kernel_rfl) trivial (congrArg (fun z => (z, ())) (show (false) = (Sh.eqB s32) x0 x1 from by (show _ = Sh.eqB s32 x0 x1; first | exact (Sh.eqB_ne (fun e => by subst e; simp_all [Sh.eqB_self, allEq])).symm | exact ((Sh.eqB_iff s32).2 (Prod.ext (by first | assumption | exact of_decide_eq_true (by assumption) | exact Sh.of_eqB (by assumption)) (Prod.ext (by first | assumption | exact of_decide_eq_true (by assumption) | exact Sh.of_eqB (by assumption)) (Prod.ext (by first | assumption | exact of_decide_eq_true (by assumption) | exact Sh.of_eqB (by assumption)) (Prod.ext (by first | assumption | exact of_decide_eq_true (by assumption) | exact Sh.of_eqB (by assumption)) (Prod.ext (by first | assumption | exact of_decide_eq_true (by assumption) | exact Sh.of_eqB (by assumption)) (by first | assumption | exact of_decide_eq_true (by assumption) | exact Sh.of_eqB (by assumption)))))))).symm)))
      · skip
        have hzh3 : ((Sh.eqB s22) x0.2.2.1 x1.2.2.1) = true := notF h3
        by_cases h4 : x0.2.2.2.2.2 = x1.2.2.2.2.2
        · skip
          by_cases h5 : ((List.length x0.2.2.2.1 : Nat) : Int) = ((List.length x1.2.2.2.1 : Nat) : Int)
          · skip
            refine at_regq (T := S_spec_EqualSinks_tab) [{}, {}, {}, {}, { hint := some (aB false) }, {}, {}, {}, {}, {}, { hint := some (aB false) }, {}, {}, {}, {}, {}, {}, {}, { hint := some (aB false) }, {}, {}, {}, {}, {}, {}, { hint := some (aB false) }, {}, {}, {}, {}, {}, {}, {}, {}, { hint := some (aB false) }] { ts := [2, 3, 4, 51], os := [1, 2] } [(AV.p (.c (.v (.bool (!decide (x0.1 = x1.1))))) = AV.p (.c (.v (.bool false)))), (AV.p (.c (.v (.bool (!decide (x0.2.1 = x1.2.1))))) = AV.p (.c (.v (.bool false)))), True, (AV.p (.c (.v (.bool (!((Sh.eqB s22) x0.2.2.1 x1.2.2.1))))) = AV.p (.c (.v (.bool false)))), (AV.p (.c (.v (.bool (!decide (x0.2.2.2.2.2 = x1.2.2.2.2.2))))) = AV.p (.c (.v (.bool false)))), (AV.p (.c (.v (.bool (!decide (((List.length x0.2.2.2.1 : Nat) : Int) = ((List.length x1.2.2.2.1 : Nat) : Int)))))) = AV.p (.c (.v (.bool false))))] gamOK hT h (by kernel_rfl) ⟨hint_bool (ndT h1), hint_bool (ndT h2), trivial, hint_bool (h3), hint_bool (ndT h4), hint_bool (ndT h5), trivial⟩ ?_
            intro a w h
            refine then_normal ?_
            refine at_test (!decide (((List.length x0.2.2.2.2.1 : Nat) : Int) = ((List.length x1.2.2.2.2.1 : Nat) : Int))) h (by kernel_rfl) (fun h6 => ?_) (fun h6 => ?_)
            · replace h6 : ¬ (((List.length x0.2.2.2.2.1 : Nat) : Int) = ((List.length x1.2.2.2.2.1 : Nat) : Int)) := of_decide_eq_false (notT h6)
              refine wp_seq ?_
              refine at_regq (T := S_spec_EqualSinks_tab) [] { ts := [2, 3, 4], os := [1, 2] } [] gamOK hT h (by kernel_rfl) trivial ?_
              intro a w h
              refine then_normal ?_
              refine wp_ret ?_
              refine then_ret ?_
              exact at_return (S := S_spec_EqualSinks) (x := (x0, x1, ())) (false, ()) [] h (by kernel_rfl) trivial (congrArg (fun z => (z, ())) (show (false) = (Sh.eqB s32) x0 x1 from by (show _ = Sh.eqB s32 x0 x1; first | exact (Sh.eqB_ne (fun e => by subst e; simp_all [Sh.eqB_self, allEq])).symm | exact ((Sh.eqB_iff s32).2 (Prod.ext (by first | assumption | exact of_decide_eq_true (by assumption) | exact Sh.of_eqB (by assumption)) (Prod.ext (by first | assumption | exact of_decide_eq_true (by assumption) | exact Sh.of_eqB (by assumption)) (Prod.ext (by first | assumption | exact of_decide_eq_true (by assumption) | exact Sh.of_eqB (by assumption)) (Prod.ext (by first | assumption | exact of_decide_eq_true (by assumption) | exact Sh.of_eqB (by assumption)) (Prod.ext (by first | assumption | exact of_decide_eq_true (by assumption) | exact Sh.of_eqB (by assumption)) (by first | assumption | exact of_decide_eq_true (by assumption) | exact Sh.of_eqB (by assumption)))))))).symm)))
            · replace h6 : ((List.length x0.2.2.2.2.1 : Nat) : Int) = ((List.length x1.2.2.2.2.1 : Nat) : Int) := of_decide_eq_true (notF h6)
              refine wp_skip ?_
              refine then_normal ?_
              refine wp_seq ?_
              refine wp_seq ?_
              refine at_regq (T := S_spec_EqualSinks_tab) [] { ts := [2, 3, 4, 5], os := [1, 2] } [] gamOK hT h (by kernel_rfl) trivial ?_
              intro a w h
              refine then_normal ?_
              refine wp_block ?_
              replace h := at_out (σ' := ⟨[(2, aP 1 0), (3, aP 2 0), (4, aB false), (5, aI 0)], [(1, oX 32 [cI x0.1, cI x0.2.1, .ro (.int 3) x0.2.2.1, .ro s141 x0.2.2.2.1, .ro s86 x0.2.2.2.2.1, cI x0.2.2.2.2.2]), (2, oX 32 [cI x1.1, cI x1.2.1, .ro (.int 3) x1.2.2.1, .ro s141 x1.2.2.2.1, .ro s86 x1.2.2.2.2.1, cI x1.2.2.2.2.2])]⟩) { ts := [2, 3, 4, 5], os := [1, 2] } h (by kernel_rfl)
              refine at_loop (fun i : Nat => (⟨[(2, aP 1 0), (3, aP 2 0), (4, aB false), (5, aI ((i : Nat) : Int))], [(1, oX 32 [cI x0.1, cI x0.2.1, .ro (.int 3) x0.2.2.1, .ro s141 x0.2.2.2.1, .ro s86 x0.2.2.2.2.1, cI x0.2.2.2.2.2]), (2, oX 32 [cI x1.1, cI x1.2.1, .ro (.int 3) x1.2.2.1, .ro s141 x1.2.2.2.1, .ro s86 x1.2.2.2.2.1, cI x1.2.2.2.2.2])]⟩ : St)) (fun i => (i ≤ List.length x0.2.2.2.1 ∧ List.take i x0.2.2.2.1 = List.take i x1.2.2.2.1)) (fun i => List.length x0.2.2.2.1 - i) (0) h (st_congr1 (fun (d0 : Int) => (⟨[(2, aP 1 0), (3, aP 2 0), (4, aB false), (5, aI d0)], [(1, oX 32 [cI x0.1, cI x0.2.1, .ro (.int 3) x0.2.2.1, .ro s141 x0.2.2.2.1, .ro s86 x0.2.2.2.2.1, cI x0.2.2.2.2.2]), (2, oX 32 [cI x1.1, cI x1.2.1, .ro (.int 3) x1.2.2.1, .ro s141 x1.2.2.2.1, .ro s86 x1.2.2.2.2.1, cI x1.2.2.2.2.2])]⟩ : St)) (show (0 : Int) = (((0) : Nat) : Int) from by first | with_reducible rfl | (rfl) | rfl)) (by exact ⟨Nat.zero_le _, rfl⟩) ?_
              intro i a w hok0 h
              refine wp_seq ?_
              refine wp_seq ?_
              refine at_reg (T := S_spec_EqualSinks_tab) [] { ts := [2, 3, 4, 5, 56], os := [1, 2] } ⟨[(2, aP 1 0), (3, aP 2 0), (4, aB false), (5, aI ((i : Nat) : Int)), (56, aB (decide (((i : Nat) : Int) < ((List.length x0.2.2.2.1 : Nat) : Int))))], [(1, oX 32 [cI x0.1, cI x0.2.1, .ro (.int 3) x0.2.2.1, .ro s141 x0.2.2.2.1, .ro s86 x0.2.2.2.2.1, cI x0.2.2.2.2.2]), (2, oX 32 [cI x1.1, cI x1.2.1, .ro (.int 3) x1.2.2.1, .ro s141 x1.2.2.2.1, .ro s86 x1.2.2.2.2.1, cI x1.2.2.2.2.2])]⟩ [] gamOK hT h (by kernel_rfl) trivial ?_
              intro a w h
              refine then_normal ?_
              refine at_test (decide (((i : Nat) : Int) < ((List.length x0.2.2.2.1 : Nat) : Int))) h (by kernel_rfl) (fun h7 => ?_) (fun h7 => ?_)
              · replace h7 : ((i : Nat) : Int) < ((List.length x0.2.2.2.1 : Nat) : Int) := of_decide_eq_true h7
                refine wp_skip ?_
                refine then_normal ?_
                refine wp_seq ?_
                refine wp_block ?_
                refine wp_seq ?_
                refine at_anyq (T := S_spec_EqualSinks_tab) [{}, {}, {}, {}, {}, {}, {}, {}, {}, {}, {}, {}] { ts := [2, 3, 4, 5, 70], os := [1, 2] } [(0 : Int) ≤ ((i : Nat) : Int) ∧ ((i : Nat) : Int) < ((List.length x0.2.2.2.1 : Nat) : Int), (0 : Int) ≤ ((i : Nat) : Int) ∧ ((i : Nat) : Int) < ((List.length x1.2.2.2.1 : Nat) : Int), True] gamOK hT mixed h (by kernel_rfl) ⟨(by refine ⟨?_, ?_⟩ <;> (first | omega | (simp only [List.length_append, List.length_cons, List.length_nil, List.length_set, List.length_take, List.length_drop, List.length_replicate, List.length_map, Nat.min_def]; omega) | (simp; done) | (simp; omega) | done)), (by refine ⟨?_, ?_⟩ <;> (first | omega | (simp only [List.length_append, List.length_cons, List.length_nil, List.length_set, List.length_take, List.length_drop, List.length_replicate, List.length_map, Nat.min_def]; omega) | (simp; done) | (simp; omega) | done)), trivial, trivial⟩ ?_
                intro a w h
                refine then_normal ?_
                refine at_test (!((Sh.eqB s141) (x0.2.2.2.1.getD i (0, (0, (0, (0, []))))) (x1.2.2.2.1.getD i (0, (0, (0, (0, []))))))) h (by kernel_rfl) (fun h8 => ?_) (fun h8 => ?_)
                · replace h8 : ((Sh.eqB s141) (x0.2.2.2.1.getD i (0, (0, (0, (0, []))))) (x1.2.2.2.1.getD i (0, (0, (0, (0, [])))))) = false := notT h8
                  refine wp_seq ?_
                  refine at_regq (T := S_spec_EqualSinks_tab) [] { ts := [2, 3, 4, 5], os := [1, 2] } [] gamOK hT h (by kernel_rfl) trivial ?_
                  intro a w h
                  refine then_normal ?_
                  refine wp_ret ?_
                  refine in_ret ?_
                  refine then_ret ?_
                  have hs9 : (Sh.eqB s29 x0.2.2.2.1 x1.2.2.2.1) = false := by exact Sh.eqB_ne (s := s29) (fun e => by simp_all [Sh.eqB_self])
                  refine then_ret ?_
                  refine in_ret ?_
                  refine then_ret ?_
                  exact at_return (S := S_spec_EqualSinks) (x := (x0, x1, ())) (false, ()) [] h (by kernel_rfl) trivial (congrArg (fun z => (z, ())) (show (false) = (Sh.eqB s32) x0 x1 from by (show _ = Sh.eqB s32 x0 x1; first | exact (Sh.eqB_ne (fun e => by subst e; simp_all [Sh.eqB_self, allEq])).symm | exact ((Sh.eqB_iff s32).2 (Prod.ext (by first | assumption | exact of_decide_eq_true (by assumption) | exact Sh.of_eqB (by assumption)) (Prod.ext (by first | assumption | exact of_decide_eq_true (by assumption) | exact Sh.of_eqB (by assumption)) (Prod.ext (by first | assumption | exact of_decide_eq_true (by assumption) | exact Sh.of_eqB (by assumption)) (Prod.ext (by first | assumption | exact of_decide_eq_true (by assumption) | exact Sh.of_eqB (by assumption)) (Prod.ext (by first | assumption | exact of_decide_eq_true (by assumption) | exact Sh.of_eqB (by assumption)) (by first | assumption | exact of_decide_eq_true (by assumption) | exact Sh.of_eqB (by assumption)))))))).symm)))
                · replace h8 : ((Sh.eqB s141) (x0.2.2.2.1.getD i (0, (0, (0, (0, []))))) (x1.2.2.2.1.getD i (0, (0, (0, (0, [])))))) = true := notF h8
                  refine wp_skip ?_
                  refine in_normal ?_
                  refine then_normal ?_
                  refine at_regq (T := S_spec_EqualSinks_tab) [{}, { nw := true }] { ts := [2, 3, 4, 5], os := [1, 2] } [I64 (((i : Nat) : Int) + 1)] gamOK hT h (by kernel_rfl) ⟨⟨by first | omega | (simp only [List.length_append, List.length_cons, List.length_nil, List.length_set, List.length_take, List.length_drop, List.length_replicate, List.length_map, Nat.min_def]; omega) | (simp; done) | (simp; omega) | done, by first | omega | (simp only [List.length_append, List.length_cons, List.length_nil, List.length_set, List.length_take, List.length_drop, List.length_replicate, List.length_map, Nat.min_def]; omega) | (simp; done) | (simp; omega) | done⟩, trivial⟩ ?_
                  intro a w h
                  replace h := at_out (σ' := ⟨[(2, aP 1 0), (3, aP 2 0), (4, aB false), (5, aI (((i : Nat) : Int) + 1))], [(1, oX 32 [cI x0.1, cI x0.2.1, .ro (.int 3) x0.2.2.1, .ro s141 x0.2.2.2.1, .ro s86 x0.2.2.2.2.1, cI x0.2.2.2.2.2]), (2, oX 32 [cI x1.1, cI x1.2.1, .ro (.int 3) x1.2.2.1, .ro s141 x1.2.2.2.1, .ro s86 x1.2.2.2.2.1, cI x1.2.2.2.2.2])]⟩) { ts := [2, 3, 4, 5], os := [1, 2] } h (by kernel_rfl)
                  exact ⟨i + 1, at_eq h (st_congr1 (fun (d0 : Int) => (⟨[(2, aP 1 0), (3, aP 2 0), (4, aB false), (5, aI d0)], [(1, oX 32 [cI x0.1, cI x0.2.1, .ro (.int 3) x0.2.2.1, .ro s141 x0.2.2.2.1, .ro s86 x0.2.2.2.2.1, cI x0.2.2.2.2.2]), (2, oX 32 [cI x1.1, cI x1.2.1, .ro (.int 3) x1.2.2.1, .ro s141 x1.2.2.2.1, .ro s86 x1.2.2.2.2.1, cI x1.2.2.2.2.2])]⟩ : St)) (show (((i : Nat) : Int) + 1 : Int) = (((i + 1) : Nat) : Int) from by first | with_reducible rfl | (omega) | rfl)), (by exact ⟨by omega, eqTo_step (z := (0, (0, (0, (0, []))))) (by omega) (by omega) hok0.2 (Sh.of_eqB (by assumption))⟩), (by omega)⟩
              · replace h7 : ¬ (((i : Nat) : Int) < ((List.length x0.2.2.2.1 : Nat) : Int)) := of_decide_eq_false h7
                refine wp_exit ?_
                refine then_exit ?_
                have hs10 : (Sh.eqB s29 x0.2.2.2.1 x1.2.2.2.1) = true := by (have e := hok0.2; rw [take_all (by omega), take_all (by omega)] at e; exact (Sh.eqB_iff s29).2 e)
                refine then_exit ?_
                refine in_hit ?_
                refine then_normal ?_
                refine wp_seq ?_
                refine wp_seq ?_
                refine at_regq (T := S_spec_EqualSinks_tab) [] { ts := [2, 3, 4, 6], os := [1, 2] } [] gamOK hT h (by kernel_rfl) trivial ?_
                intro a w h
                refine then_normal ?_
                refine wp_block ?_
                replace h := at_out (σ' := ⟨[(2, aP 1 0), (3, aP 2 0), (4, aB false), (6, aI 0)], [(1, oX 32 [cI x0.1, cI x0.2.1, .ro (.int 3) x0.2.2.1, .ro s141 x0.2.2.2.1, .ro s86 x0.2.2.2.2.1, cI x0.2.2.2.2.2]), (2, oX 32 [cI x1.1, cI x1.2.1, .ro (.int 3) x1.2.2.1, .ro s141 x1.2.2.2.1, .ro s86 x1.2.2.2.2.1, cI x1.2.2.2.2.2])]⟩) { ts := [2, 3, 4, 6], os := [1, 2] } h (by kernel_rfl)
                refine at_loop (fun i : Nat => (⟨[(2, aP 1 0), (3, aP 2 0), (4, aB false), (6, aI ((i : Nat) : Int))], [(1, oX 32 [cI x0.1, cI x0.2.1, .ro (.int 3) x0.2.2.1, .ro s141 x0.2.2.2.1, .ro s86 x0.2.2.2.2.1, cI x0.2.2.2.2.2]), (2, oX 32 [cI x1.1, cI x1.2.1, .ro (.int 3) x1.2.2.1, .ro s141 x1.2.2.2.1, .ro s86 x1.2.2.2.2.1, cI x1.2.2.2.2.2])]⟩ : St)) (fun i => (i ≤ List.length x0.2.2.2.2.1 ∧ List.take i x0.2.2.2.2.1 = List.take i x1.2.2.2.2.1)) (fun i => List.length x0.2.2.2.2.1 - i) (0) h (st_congr1 (fun (d0 : Int) => (⟨[(2, aP 1 0), (3, aP 2 0), (4, aB false), (6, aI d0)], [(1, oX 32 [cI x0.1, cI x0.2.1, .ro (.int 3) x0.2.2.1, .ro s141 x0.2.2.2.1, .ro s86 x0.2.2.2.2.1, cI x0.2.2.2.2.2]), (2, oX 32 [cI x1.1, cI x1.2.1, .ro (.int 3) x1.2.2.1, .ro s141 x1.2.2.2.1, .ro s86 x1.2.2.2.2.1, cI x1.2.2.2.2.2])]⟩ : St)) (show (0 : Int) = (((0) : Nat) : Int) from by first | with_reducible rfl | (rfl) | rfl)) (by exact ⟨Nat.zero_le _, rfl⟩) ?_
                intro i a w hok1 h
                refine wp_seq ?_
                refine wp_seq ?_
                refine at_regq (T := S_spec_EqualSinks_tab) [] { ts := [2, 3, 4, 6, 75], os := [1, 2] } [] gamOK hT h (by kernel_rfl) trivial ?_
                intro a w h
                refine then_normal ?_
                refine at_test (decide (((i : Nat) : Int) < ((List.length x0.2.2.2.2.1 : Nat) : Int))) h (by kernel_rfl) (fun h11 => ?_) (fun h11 => ?_)
                · replace h11 : ((i : Nat) : Int) < ((List.length x0.2.2.2.2.1 : Nat) : Int) := of_decide_eq_true h11
                  refine wp_skip ?_
                  refine then_normal ?_
                  refine wp_seq ?_
                  refine wp_block ?_
                  refine wp_seq ?_
                  refine at_anyq (T := S_spec_EqualSinks_tab) [{}, {}, {}, {}, {}, {}, {}, {}, {}, {}, {}, {}] { ts := [2, 3, 4, 6, 89], os := [1, 2] } [(0 : Int) ≤ ((i : Nat) : Int) ∧ ((i : Nat) : Int) < ((List.length x0.2.2.2.2.1 : Nat) : Int), (0 : Int) ≤ ((i : Nat) : Int) ∧ ((i : Nat) : Int) < ((List.length x1.2.2.2.2.1 : Nat) : Int), True] gamOK hT mixed h (by kernel_rfl) ⟨(by refine ⟨?_, ?_⟩ <;> (first | omega | (simp only [List.length_append, List.length_cons, List.length_nil, List.length_set, List.length_take, List.length_drop, List.length_replicate, List.length_map, Nat.min_def]; omega) | (simp; done) | (simp; omega) | done)), (by refine ⟨?_, ?_⟩ <;> (first | omega | (simp only [List.length_append, List.length_cons, List.length_nil, List.length_set, List.length_take, List.length_drop, List.length_replicate, List.length_map, Nat.min_def]; omega) | (simp; done) | (simp; omega) | done)), trivial, trivial⟩ ?_
                  intro a w h
                  refine then_normal ?_
                  refine at_test (!((Sh.eqB s86) (x0.2.2.2.2.1.getD i (0, [])) (x1.2.2.2.2.1.getD i (0, [])))) h (by kernel_rfl) (fun h12 => ?_) (fun h12 => ?_)
                  · replace h12 : ((Sh.eqB s86) (x0.2.2.2.2.1.getD i (0, [])) (x1.2.2.2.2.1.getD i (0, []))) = false := notT h12
                    refine wp_seq ?_
                    refine at_reg (T := S_spec_EqualSinks_tab) [] { ts := [2, 3, 4, 6], os := [1, 2] } ⟨[(2, aP 1 0), (3, aP 2 0), (4, aB false), (6, aI ((i : Nat) : Int))], [(1, oX 32 [cI x0.1, cI x0.2.1, .ro (.int 3) x0.2.2.1, .ro s141 x0.2.2.2.1, .ro s86 x0.2.2.2.2.1, cI x0.2.2.2.2.2]), (2, oX 32 [cI x1.1, cI x1.2.1, .ro (.int 3) x1.2.2.1, .ro s141 x1.2.2.2.1, .ro s86 x1.2.2.2.2.1, cI x1.2.2.2.2.2])]⟩ [] gamOK hT h (by kernel_rfl) trivial ?_
                    intro a w h
                    refine then_normal ?_
                    refine wp_ret ?_
                    refine in_ret ?_
                    refine then_ret ?_
                    have hs13 : (Sh.eqB s30 x0.2.2.2.2.1 x1.2.2.2.2.1) = false := by exact Sh.eqB_ne (s := s30) (fun e => by simp_all [Sh.eqB_self])
                    refine then_ret ?_
                    refine in_ret ?_
                    refine then_ret ?_
                    exact at_return (S := S_spec_EqualSinks) (x := (x0, x1, ())) (false, ()) [] h (by kernel_rfl) trivial (congrArg (fun z => (z, ())) (show (false) = (Sh.eqB s32) x0 x1 from by (show _ = Sh.eqB s32 x0 x1; first | exact (Sh.eqB_ne (fun e => by subst e; simp_all [Sh.eqB_self, allEq])).symm | exact ((Sh.eqB_iff s32).2 (Prod.ext (by first | assumption | exact of_decide_eq_true (by assumption) | exact Sh.of_eqB (by assumption)) (Prod.ext (by first | assumption | exact of_decide_eq_true (by assumption) | exact Sh.of_eqB (by assumption)) (Prod.ext (by first | assumption | exact of_decide_eq_true (by assumption) | exact Sh.of_eqB (by assumption)) (Prod.ext (by first | assumption | exact of_decide_eq_true (by assumption) | exact Sh.of_eqB (by assumption)) (Prod.ext (by first | assumption | exact of_decide_eq_true (by assumption) | exact Sh.of_eqB (by assumption)) (by first | assumption | exact of_decide_eq_true (by assumption) | exact Sh.of_eqB (by assumption)))))))).symm)))
                  · replace h12 : ((Sh.eqB s86) (x0.2.2.2.2.1.getD i (0, [])) (x1.2.2.2.2.1.getD i (0, []))) = true := notF h12
                    refine wp_skip ?_
                    refine in_normal ?_
                    refine then_normal ?_
                    refine at_reg (T := S_spec_EqualSinks_tab) [{}, { nw := true }] { ts := [2, 3, 4, 6], os := [1, 2] } ⟨[(2, aP 1 0), (3, aP 2 0), (4, aB false), (6, aI (((i : Nat) : Int) + 1))], [(1, oX 32 [cI x0.1, cI x0.2.1, .ro (.int 3) x0.2.2.1, .ro s141 x0.2.2.2.1, .ro s86 x0.2.2.2.2.1, cI x0.2.2.2.2.2]), (2, oX 32 [cI x1.1, cI x1.2.1, .ro (.int 3) x1.2.2.1, .ro s141 x1.2.2.2.1, .ro s86 x1.2.2.2.2.1, cI x1.2.2.2.2.2])]⟩ [I64 (((i : Nat) : Int) + 1)] gamOK hT h (by kernel_rfl) ⟨⟨by first | omega | (simp only [List.length_append, List.length_cons, List.length_nil, List.length_set, List.length_take, List.length_drop, List.length_replicate, List.length_map, Nat.min_def]; omega) | (simp; done) | (simp; omega) | done, by first | omega | (simp only [List.length_append, List.length_cons, List.length_nil, List.length_set, List.length_take, List.length_drop, List.length_replicate, List.length_map, Nat.min_def]; omega) | (simp; done) | (simp; omega) | done⟩, trivial⟩ ?_
                    intro a w h
                    replace h := at_out (σ' := ⟨[(2, aP 1 0), (3, aP 2 0), (4, aB false), (6, aI (((i : Nat) : Int) + 1))], [(1, oX 32 [cI x0.1, cI x0.2.1, .ro (.int 3) x0.2.2.1, .ro s141 x0.2.2.2.1, .ro s86 x0.2.2.2.2.1, cI x0.2.2.2.2.2]), (2, oX 32 [cI x1.1, cI x1.2.1, .ro (.int 3) x1.2.2.1, .ro s141 x1.2.2.2.1, .ro s86 x1.2.2.2.2.1, cI x1.2.2.2.2.2])]⟩) { ts := [2, 3, 4, 6], os := [1, 2] } h (by kernel_rfl)
                    exact ⟨i + 1, at_eq h (st_congr1 (fun (d0 : Int) => (⟨[(2, aP 1 0), (3, aP 2 0), (4, aB false), (6, aI d0)], [(1, oX 32 [cI x0.1, cI x0.2.1, .ro (.int 3) x0.2.2.1, .ro s141 x0.2.2.2.1, .ro s86 x0.2.2.2.2.1, cI x0.2.2.2.2.2]), (2, oX 32 [cI x1.1, cI x1.2.1, .ro (.int 3) x1.2.2.1, .ro s141 x1.2.2.2.1, .ro s86 x1.2.2.2.2.1, cI x1.2.2.2.2.2])]⟩ : St)) (show (((i : Nat) : Int) + 1 : Int) = (((i + 1) : Nat) : Int) from by first | with_reducible rfl | (omega) | rfl)), (by exact ⟨by omega, eqTo_step (z := (0, [])) (by omega) (by omega) hok1.2 (Sh.of_eqB (by assumption))⟩), (by omega)⟩
                · replace h11 : ¬ (((i : Nat) : Int) < ((List.length x0.2.2.2.2.1 : Nat) : Int)) := of_decide_eq_false h11
                  refine wp_exit ?_
                  refine then_exit ?_
                  have hs14 : (Sh.eqB s30 x0.2.2.2.2.1 x1.2.2.2.2.1) = true := by (have e := hok1.2; rw [take_all (by omega), take_all (by omega)] at e; exact (Sh.eqB_iff s30).2 e)
                  refine then_exit ?_
                  refine in_hit ?_
                  refine then_normal ?_
                  refine wp_seq ?_
                  refine at_regq (T := S_spec_EqualSinks_tab) [] { ts := [4], os := [] } [] gamOK hT h (by kernel_rfl) trivial ?_
                  intro a w h
                  refine then_normal ?_
                  refine wp_ret ?_
                  exact at_return (S := S_spec_EqualSinks) (x := (x0, x1, ())) (true, ()) [] h (by kernel_rfl) trivial (congrArg (fun z => (z, ())) (show (true) = (Sh.eqB s32) x0 x1 from by (show _ = Sh.eqB s32 x0 x1; first | exact (Sh.eqB_ne (fun e => by subst e; simp_all [Sh.eqB_self, allEq])).symm | exact ((Sh.eqB_iff s32).2 (Prod.ext (by first | assumption | exact of_decide_eq_true (by assumption) | exact Sh.of_eqB (by assumption)) (Prod.ext (by first | assumption | exact of_decide_eq_true (by assumption) | exact Sh.of_eqB (by assumption)) (Prod.ext (by first | assumption | exact of_decide_eq_true (by assumption) | exact Sh.of_eqB (by assumption)) (Prod.ext (by first | assumption | exact of_decide_eq_true (by assumption) | exact Sh.of_eqB (by assumption)) (Prod.ext (by first | assumption | exact of_decide_eq_true (by assumption) | exact Sh.of_eqB (by assumption)) (by first | assumption | exact of_decide_eq_true (by assumption) | exact Sh.of_eqB (by assumption)))))))).symm)))
          · skip
            refine at_regq (T := S_spec_EqualSinks_tab) [{}, {}, {}, {}, { hint := some (aB false) }, {}, {}, {}, {}, {}, { hint := some (aB false) }, {}, {}, {}, {}, {}, {}, {}, { hint := some (aB false) }, {}, {}, {}, {}, {}, {}, { hint := some (aB false) }, {}, {}, {}, {}, {}, {}, {}, {}, { hint := some (aB true) }] { ts := [2, 3, 4, 51], os := [1, 2] } [(AV.p (.c (.v (.bool (!decide (x0.1 = x1.1))))) = AV.p (.c (.v (.bool false)))), (AV.p (.c (.v (.bool (!decide (x0.2.1 = x1.2.1))))) = AV.p (.c (.v (.bool false)))), True, (AV.p (.c (.v (.bool (!((Sh.eqB s22) x0.2.2.1 x1.2.2.1))))) = AV.p (.c (.v (.bool false)))), (AV.p (.c (.v (.bool (!decide (x0.2.2.2.2.2 = x1.2.2.2.2.2))))) = AV.p (.c (.v (.bool false)))), (AV.p (.c (.v (.bool (!decide (((List.length x0.2.2.2.1 : Nat) : Int) = ((List.length x1.2.2.2.1 : Nat) : Int)))))) = AV.p (.c (.v (.bool true))))] gamOK hT h (by kernel_rfl) ⟨hint_bool (ndT h1), hint_bool (ndT h2), trivial, hint_bool (h3), hint_bool (ndT h4), hint_bool (ndF h5), trivial⟩ ?_
            intro a w h
            refine then_normal ?_
            refine at_test true h (by kernel_rfl) (fun hh => ?_) (fun hh => nomatch hh)
            refine wp_seq ?_
            refine at_regq (T := S_spec_EqualSinks_tab) [] { ts := [2, 3, 4], os := [1, 2] } [] gamOK hT h (by kernel_rfl) trivial ?_
            intro a w h
            refine then_normal ?_
            refine wp_ret ?_
            refine then_ret ?_
            exact at_return (S := S_spec_EqualSinks) (x := (x0, x1, ())) (false, ()) [] h (by kernel_rfl) trivial (congrArg (fun z => (z, ())) (show (false) = (Sh.eqB s32) x0 x1 from by (show _ = Sh.eqB s32 x0 x1; first | exact (Sh.eqB_ne (fun e => by subst e; simp_all [Sh.eqB_self, allEq])).symm | exact ((Sh.eqB_iff s32).2 (Prod.ext (by first | assumption | exact of_decide_eq_true (by assumption) | exact Sh.of_eqB (by assumption)) (Prod.ext (by first | assumption | exact of_decide_eq_true (by assumption) | exact Sh.of_eqB (by assumption)) (Prod.ext (by first | assumption | exact of_decide_eq_true (by assumption) | exact Sh.of_eqB (by assumption)) (Prod.ext (by first | assumption | exact of_decide_eq_true (by assumption) | exact Sh.of_eqB (by assumption)) (Prod.ext (by first | assumption | exact of_decide_eq_true (by assumption) | exact Sh.of_eqB (by assumption)) (by first | assumption | exact of_decide_eq_true (by assumption) | exact Sh.of_eqB (by assumption)))))))).symm)))
        · skip
          refine at_regq (T := S_spec_EqualSinks_tab) [{}, {}, {}, {}, { hint := some (aB false) }, {}, {}, {}, {}, {}, { hint := some (aB false) }, {}, {}, {}, {}, {}, {}, {}, { hint := some (aB false) }, {}, {}, {}, {}, {}, {}, { hint := some (aB true) }] { ts := [2, 3, 4, 51], os := [1, 2] } [(AV.p (.c (.v (.bool (!decide (x0.1 = x1.1))))) = AV.p (.c (.v (.bool false)))), (AV.p (.c (.v (.bool (!decide (x0.2.1 = x1.2.1))))) = AV.p (.c (.v (.bool false)))), True, (AV.p (.c (.v (.bool (!((Sh.eqB s22) x0.2.2.1 x1.2.2.1))))) = AV.p (.c (.v (.bool false)))), (AV.p (.c (.v (.bool (!decide (x0.2.2.2.2.2 = x1.2.2.2.2.2))))) = AV.p (.c (.v (.bool true))))] gamOK hT h (by kernel_rfl) ⟨hint_bool (ndT h1), hint_bool (ndT h2), trivial, hint_bool (h3), hint_bool (ndF h4), trivial⟩ ?_
          intro a w h
          refine then_normal ?_
          refine at_test true h (by kernel_rfl) (fun hh => ?_) (fun hh => nomatch hh)
          refine wp_seq ?_
          refine at_regq (T := S_spec_EqualSinks_tab) [] { ts := [2, 3, 4], os := [1, 2] } [] gamOK hT h (by kernel_rfl) trivial ?_
          intro a w h
          refine then_normal ?_
          refine wp_ret ?_
          refine then_ret ?_
          exact at_return (S := S_spec_EqualSinks) (x := (x0, x1, ())) (false, ()) [] h (by kernel_rfl) trivial (congrArg (fun z => (z, ())) (show (false) = (Sh.eqB s32) x0 x1 from by (show _ = Sh.eqB s32 x0 x1; first | exact (Sh.eqB_ne (fun e => by subst e; simp_all [Sh.eqB_self, allEq])).symm | exact ((Sh.eqB_iff s32).2 (Prod.ext (by first | assumption | exact of_decide_eq_true (by assumption) | exact Sh.of_eqB (by assumption)) (Prod.ext (by first | assumption | exact of_decide_eq_true (by assumption) | exact Sh.of_eqB (by assumption)) (Prod.ext (by first | assumption | exact of_decide_eq_true (by assumption) | exact Sh.of_eqB (by assumption)) (Prod.ext (by first | assumption | exact of_decide_eq_true (by assumption) | exact Sh.of_eqB (by assumption)) (Prod.ext (by first | assumption | exact of_decide_eq_true (by assumption) | exact Sh.of_eqB (by assumption)) (by first | assumption | exact of_decide_eq_true (by assumption) | exact Sh.of_eqB (by assumption)))))))).symm)))
    · skip
      refine at_regq (T := S_spec_EqualSinks_tab) [{}, {}, {}, {}, { hint := some (aB false) }, {}, {}, {}, {}, {}, { hint := some (aB true) }] { ts := [2, 3, 4, 51], os := [1, 2] } [(AV.p (.c (.v (.bool (!decide (x0.1 = x1.1))))) = AV.p (.c (.v (.bool false)))), (AV.p (.c (.v (.bool (!decide (x0.2.1 = x1.2.1))))) = AV.p (.c (.v (.bool true))))] gamOK hT h (by kernel_rfl) ⟨hint_bool (ndT h1), hint_bool (ndF h2), trivial⟩ ?_
      intro a w h
      refine then_normal ?_
      refine at_test true h (by kernel_rfl) (fun hh => ?_) (fun hh => nomatch hh)
      refine wp_seq ?_
      refine at_regq (T := S_spec_EqualSinks_tab) [] { ts := [2, 3, 4], os := [1, 2] } [] gamOK hT h (by kernel_rfl) trivial ?_
      intro a w h
      refine then_normal ?_
      refine wp_ret ?_
      refine then_ret ?_
      exact at_return (S := S_spec_EqualSinks) (x := (x0, x1, ())) (false, ()) [] h (by kernel_rfl) trivial (congrArg (fun z => (z, ())) (show (false) = (Sh.eqB s32) x0 x1 from by (show _ = Sh.eqB s32 x0 x1; first | exact (Sh.eqB_ne (fun e => by subst e; simp_all [Sh.eqB_self, allEq])).symm | exact ((Sh.eqB_iff s32).2 (Prod.ext (by first | assumption | exact of_decide_eq_true (by assumption) | exact Sh.of_eqB (by assumption)) (Prod.ext (by first | assumption | exact of_decide_eq_true (by assumption) | exact Sh.of_eqB (by assumption)) (Prod.ext (by first | assumption | exact of_decide_eq_true (by assumption) | exact Sh.of_eqB (by assumption)) (Prod.ext (by first | assumption | exact of_decide_eq_true (by assumption) | exact Sh.of_eqB (by assumption)) (Prod.ext (by first | assumption | exact of_decide_eq_true (by assumption) | exact Sh.of_eqB (by assumption)) (by first | assumption | exact of_decide_eq_true (by assumption) | exact Sh.of_eqB (by assumption)))))))).symm)))
  · skip
    refine at_regq (T := S_spec_EqualSinks_tab) [{}, {}, {}, {}, { hint := some (aB true) }] { ts := [2, 3, 4, 51], os := [1, 2] } [(AV.p (.c (.v (.bool (!decide (x0.1 = x1.1))))) = AV.p (.c (.v (.bool true))))] gamOK hT h (by kernel_rfl) ⟨hint_bool (ndF h1), trivial⟩ ?_
    intro a w h
    refine then_normal ?_
    refine at_test true h (by kernel_rfl) (fun hh => ?_) (fun hh => nomatch hh)
    refine wp_seq ?_
    refine at_regq (T := S_spec_EqualSinks_tab) [] { ts := [2, 3, 4], os := [1, 2] } [] gamOK hT h (by kernel_rfl) trivial ?_
    intro a w h
    refine then_normal ?_
    refine wp_ret ?_
    refine then_ret ?_
    exact at_return (S := S_spec_EqualSinks) (x := (x0, x1, ())) (false, ()) [] h (by kernel_rfl) trivial (congrArg (fun z => (z, ())) (show (false) = (Sh.eqB s32) x0 x1 from by (show _ = Sh.eqB s32 x0 x1; first | exact (Sh.eqB_ne (fun e => by subst e; simp_all [Sh.eqB_self, allEq])).symm | exact ((Sh.eqB_iff s32).2 (Prod.ext (by first | assumption | exact of_decide_eq_true (by assumption) | exact Sh.of_eqB (by assumption)) (Prod.ext (by first | assumption | exact of_decide_eq_true (by assumption) | exact Sh.of_eqB (by assumption)) (Prod.ext (by first | assumption | exact of_decide_eq_true (by assumption) | exact Sh.of_eqB (by assumption)) (Prod.ext (by first | assumption | exact of_decide_eq_true (by assumption) | exact Sh.of_eqB (by assumption)) (Prod.ext (by first | assumption | exact of_decide_eq_true (by assumption) | exact Sh.of_eqB (by assumption)) (by first | assumption | exact of_decide_eq_true (by assumption) | exact Sh.of_eqB (by assumption)))))))).symm)))

def D_laws_FnExactEqualSinks := (fun (_ : T26) (_ : T26) => true)
def S_laws_FnExactEqualSinks : Sum := { fid := 3, dom := [s26, s26], cod := [(.bool 4)], dp := true, fz := false, pre := fun x => (fun (x0 : T26) (x1 : T26) => Sh.i64 s26 x0 ∧ Sh.i64 s26 x1) x.1 x.2.1, g := fun x => ((D_laws_FnExactEqualSinks x.1 x.2.1), ()) }
def S_laws_FnExactEqualSinks_tab : List (Nat × Sum) := [(15, S_laws_szSink), (17, S_laws_toSink), (16, S_spec_EqualSinks), (18, S_impl_EqualSinks), (19, S_laws_eqSink)]
theorem S_laws_FnExactEqualSinks_ok : FnOK Try.prog 3 S_laws_FnExactEqualSinks := by
  refine at_enter 45 (fun x => ⟨[(0, aG [cI x.1.1, cI x.1.2.1, .ro (.int 3) x.1.2.2.1, .ro s196 x.1.2.2.2.1, .ro s82 x.1.2.2.2.2.1, cI x.1.2.2.2.2.2]), (1, aG [cI x.2.1.1, cI x.2.1.2.1, .ro (.int 3) x.2.1.2.2.1, .ro s196 x.2.1.2.2.2.1, .ro s82 x.2.1.2.2.2.2.1, cI x.2.1.2.2.2.2.2])], []⟩) Try.func3 rfl (by kernel_rfl) (fun x => rfl) ?_
  rintro w0 Z0 ⟨x0, x1, u⟩ a w
  revert x0 x1
  intro (x0 : T26) (x1 : T26) hpre hlens h
  replace h : At w0 Z0 [] 45 ⟨[(0, aG [cI x0.1, cI x0.2.1, .ro (.int 3) x0.2.2.1, .ro s196 x0.2.2.2.1, .ro s82 x0.2.2.2.2.1, cI x0.2.2.2.2.2]), (1, aG [cI x1.1, cI x1.2.1, .ro (.int 3) x1.2.2.1, .ro s196 x1.2.2.2.1, .ro s82 x1.2.2.2.2.1, cI x1.2.2.2.2.2])], []⟩ a w := h
  replace hpre : (fun (x0 : T26) (x1 : T26) => Sh.i64 s26 x0 ∧ Sh.i64 s26 x1) x0 x1 := hpre
  have hl1 : List.length x0.2.2.1 ≤ 9223372036854775807 := hlens.1.2.2.1.1
  have hl2 : List.length x0.2.2.2.1 ≤ 9223372036854775807 := hlens.1.2.2.2.1.1
  have hl3 : List.length x0.2.2.2.2.1 ≤ 9223372036854775807 := hlens.1.2.2.2.2.1.1
  have hl4 : List.length x1.2.2.1 ≤ 9223372036854775807 := hlens.2.1.2.2.1.1
  have hl5 : List.length x1.2.2.2.1 ≤ 9223372036854775807 := hlens.2.1.2.2.2.1.1
  have hl6 : List.length x1.2.2.2.2.1 ≤ 9223372036854775807 := hlens.2.1.2.2.2.2.1.1
  have hT : TabOK Try.prog S_laws_FnExactEqualSinks_tab := (.cons S_laws_szSink_ok (.cons S_laws_toSink_ok (.cons S_spec_EqualSinks_ok (.cons S_impl_EqualSinks_ok (.cons S_laws_eqSink_ok .nil)))))
  have hq0 : Sh.sz s32 x0 = Sh.sz s26 x0 := rfl
  have hb0 : Sh.ctT s32 x0 ≤ 11 * Sh.sz s32 x0 := Sh.ctT_le2 s32 x0
  have hz0 : Sh.ct s32 x0 ≤ 11 * (1 + Sh.sz s32 x0) := Sh.ct_le s32 x0
  have ht0 : Sh.sz s26 x0 = (0 + (0 + ((Sh.sz s22 x0.2.2.1) + ((Sh.sz s23 x0.2.2.2.1) + ((Sh.sz s24 x0.2.2.2.2.1) + 0))))) := rfl
  have hs0_1 : Sh.sz s22 x0.2.2.1 = List.length x0.2.2.1 := sz_flat (by rfl) _
  have hs0_2 : Sh.sz s23 x0.2.2.2.1 = List.length x0.2.2.2.1 + ctL (Sh.sz s196) x0.2.2.2.1 := rfl
  have hs0_3 : Sh.sz s24 x0.2.2.2.2.1 = List.length x0.2.2.2.2.1 + ctL (Sh.sz s82) x0.2.2.2.2.1 := rfl
  have hq1 : Sh.sz s32 x1 = Sh.sz s26 x1 := rfl
  have hb1 : Sh.ctT s32 x1 ≤ 11 * Sh.sz s32 x1 := Sh.ctT_le2 s32 x1
  have hz1 : Sh.ct s32 x1 ≤ 11 * (1 + Sh.sz s32 x1) := Sh.ct_le s32 x1
  have ht1 : Sh.sz s26 x1 = (0 + (0 + ((Sh.sz s22 x1.2.2.1) + ((Sh.sz s23 x1.2.2.2.1) + ((Sh.sz s24 x1.2.2.2.2.1) + 0))))) := rfl
  have hs1_1 : Sh.sz s22 x1.2.2.1 = List.length x1.2.2.1 := sz_flat (by rfl) _
  have hs1_2 : Sh.sz s23 x1.2.2.2.1 = List.length x1.2.2.2.1 + ctL (Sh.sz s196) x1.2.2.2.1 := rfl
  have hs1_3 : Sh.sz s24 x1.2.2.2.2.1 = List.length x1.2.2.2.2.1 + ctL (Sh.sz s82) x1.2.2.2.2.1 := rfl
  refine wp_seq ?_
  refine at_regq (T := S_laws_FnExactEqualSinks_tab) [{ ids := [1] }, { ids := [2] }] { ts := [2, 3, 4], os := [1, 2] } [] gamOK hT h (by kernel_rfl) trivial ?_
  intro a w h
  refine then_normal ?_
  refine wp_seq ?_
  refine at_regq (T := S_laws_FnExactEqualSinks_tab) [] { ts := [2, 3, 4, 5], os := [1, 2] } [] gamOK hT h (by kernel_rfl) trivial ?_
  intro a w h
  refine then_normal ?_
  refine wp_seq ?_
  refine at_regq (T := S_laws_FnExactEqualSinks_tab) [] { ts := [2, 3, 4, 5], os := [1, 2] } [(pSz s26) x0 1048576] gamOK hT h (by kernel_rfl) ⟨(by (show (0 : Int) ≤ _ ∧ _ ≤ (9223372036854775807 : Int); constructor <;> omega)), trivial⟩ ?_
  intro a w h
  refine then_normal ?_
  refine wp_seq ?_
  refine wp_seq ?_
  refine at_reg (T := S_laws_FnExactEqualSinks_tab) [] { ts := [2, 3, 4, 5, 14], os := [1, 2] } ⟨[(2, aP 1 0), (3, aP 2 0), (4, aB false), (5, aI ((szD s26) x0 1048576)), (14, aB (decide (((szD s26) x0 1048576) < 0)))], [(1, oX 26 [cI x0.1, cI x0.2.1, .ro (.int 3) x0.2.2.1, .ro s196 x0.2.2.2.1, .ro s82 x0.2.2.2.2.1, cI x0.2.2.2.2.2]), (2, oX 26 [cI x1.1, cI x1.2.1, .ro (.int 3) x1.2.2.1, .ro s196 x1.2.2.2.1, .ro s82 x1.2.2.2.2.1, cI x1.2.2.2.2.2])]⟩ [] gamOK hT h (by kernel_rfl) trivial ?_
  intro a w h
  refine then_normal ?_
  refine at_test (decide (((szD s26) x0 1048576) < 0)) h (by kernel_rfl) (fun h1 => ?_) (fun h1 => ?_)
  · replace h1 : ((szD s26) x0 1048576) < 0 := of_decide_eq_true h1
    have hvh1 := szD_neg h1 (by omega)
    refine wp_seq ?_
    refine at_regq (T := S_laws_FnExactEqualSinks_tab) [] { ts := [2, 3, 4, 5], os := [1, 2] } [] gamOK hT h (by kernel_rfl) trivial ?_
    intro a w h
    refine then_normal ?_
    refine wp_ret ?_
    refine then_ret ?_
    exact at_return (S := S_laws_FnExactEqualSinks) (x := (x0, x1, ())) (true, ()) [] h (by kernel_rfl) trivial (congrArg (fun z => (z, ())) (show (true) = D_laws_FnExactEqualSinks x0 x1 from by unfold D_laws_FnExactEqualSinks; rfl))
  · replace h1 : ¬ (((szD s26) x0 1048576) < 0) := of_decide_eq_false h1
    have hvh1 := szD_val h1 (by omega)
    refine wp_skip ?_
    refine then_normal ?_
    refine wp_seq ?_
    refine at_regq (T := S_laws_FnExactEqualSinks_tab) [] { ts := [2, 3, 4, 5], os := [1, 2] } [(pSz s26) x1 ((szD s26) x0 1048576)] gamOK hT h (by kernel_rfl) ⟨(by (show (0 : Int) ≤ _ ∧ _ ≤ (9223372036854775807 : Int); constructor <;> omega)), trivial⟩ ?_
    intro a w h
    refine then_normal ?_
    refine wp_seq ?_
    refine wp_seq ?_
    refine at_regq (T := S_laws_FnExactEqualSinks_tab) [] { ts := [2, 3, 4, 19], os := [1, 2] } [] gamOK hT h (by kernel_rfl) trivial ?_
    intro a w h
    refine then_normal ?_
    refine at_test (decide (((szD s26) x1 ((szD s26) x0 1048576)) < 0)) h (by kernel_rfl) (fun h2 => ?_) (fun h2 => ?_)
    · replace h2 : ((szD s26) x1 ((szD s26) x0 1048576)) < 0 := of_decide_eq_true h2
      have hvh2 := szD_neg h2 (by omega)
      refine wp_seq ?_
      refine at_regq (T := S_laws_FnExactEqualSinks_tab) [] { ts := [2, 3, 4], os := [1, 2] } [] gamOK hT h (by kernel_rfl) trivial ?_
      intro a w h
      refine then_normal ?_
      refine wp_ret ?_
      refine then_ret ?_
      exact at_return (S := S_laws_FnExactEqualSinks) (x := (x0, x1, ())) (true, ()) [] h (by kernel_rfl) trivial (congrArg (fun z => (z, ())) (show (true) = D_laws_FnExactEqualSinks x0 x1 from by unfold D_laws_FnExactEqualSinks; rfl))
    · replace h2 : ¬ (((szD s26) x1 ((szD s26) x0 1048576)) < 0) := of_decide_eq_false h2
      have hvh2 := szD_val h2 (by omega)
      refine wp_skip ?_
      refine then_normal ?_
      refine wp_seq ?_
      refine at_anyq (T := S_laws_FnExactEqualSinks_tab) [{}, { ids := [3, 4, 5] }, {}, { ids := [6, 7, 8] }, {}, {}] { ts := [2, 3, 4, 6], os := [1, 2] } [(pTo s26) x0, (pTo s26) x1, True] gamOK hT mixed h (by kernel_rfl) ⟨(by (show Sh.sz _ _ ≤ 1048576; omega)), (by (show Sh.sz _ _ ≤ 1048576; omega)), trivial, trivial⟩ ?_
      intro a w h
      refine then_normal ?_
      refine wp_seq ?_
      refine at_reg (T := S_laws_FnExactEqualSinks_tab) [{}, { ids := [9, 10, 11] }, { ids := [12] }] { ts := [2, 3, 4, 6, 7], os := [1, 2, 9, 10, 11, 12] } ⟨[(2, aP 1 0), (3, aP 2 0), (4, aB false), (6, aB ((Sh.eqB s32) x0 x1)), (7, aP 12 0)], [(1, oX 26 [cI x0.1, cI x0.2.1, .ro (.int 3) x0.2.2.1, .ro s196 x0.2.2.2.1, .ro s82 x0.2.2.2.2.1, cI x0.2.2.2.2.2]), (2, oX 26 [cI x1.1, cI x1.2.1, .ro (.int 3) x1.2.2.1, .ro s196 x1.2.2.2.1, .ro s82 x1.2.2.2.2.1, cI x1.2.2.2.2.2]), (9, oR (.int 3) x0.2.2.1), (10, oR s141 x0.2.2.2.1), (11, oR s86 x0.2.2.2.2.1), (12, oX 32 [cI x0.1, cI x0.2.1, .sl 9, .sl 10, .sl 11, cI x0.2.2.2.2.2])]⟩ [(pTo s26) x0] gamOK hT h (by kernel_rfl) ⟨(by (show Sh.sz _ _ ≤ 1048576; omega)), trivial⟩ ?_
      intro a w h
      refine then_normal ?_
      refine wp_seq ?_
      refine at_regq (T := S_laws_FnExactEqualSinks_tab) [{}, { ids := [13, 14, 15] }, { ids := [16] }] { ts := [2, 3, 4, 6, 7, 8], os := [1, 2, 9, 10, 11, 12, 13, 14, 15, 16] } [(pTo s26) x1] gamOK hT h (by kernel_rfl) ⟨(by (show Sh.sz _ _ ≤ 1048576; omega)), trivial⟩ ?_
      intro a w h
      refine then_normal ?_
      refine wp_seq ?_
      refine at_regq (T := S_laws_FnExactEqualSinks_tab) [] { ts := [2, 3, 4, 6, 7, 8, 9], os := [1, 2, 9, 10, 11, 12, 13, 14, 15, 16] } [True] gamOK hT h (by kernel_rfl) ⟨trivial, trivial⟩ ?_
      intro a w h
      refine then_normal ?_
      refine wp_seq ?_
      refine wp_seq ?_
      refine at_regq (T := S_laws_FnExactEqualSinks_tab) [] { ts := [2, 3, 4, 7, 8, 34], os := [1, 2, 9, 10, 11, 12, 13, 14, 15, 16] } [] gamOK hT h (by kernel_rfl) trivial ?_
      intro a w h
      refine then_normal ?_
      refine at_test (!(((Sh.eqB s32) x0 x1) == ((Sh.eqB s32) x0 x1))) h (by kernel_rfl) (fun h3 => ?_) (fun h3 => ?_)
      · replace h3 : (((Sh.eqB s32) x0 x1) == ((Sh.eqB s32) x0 x1)) = false := notT h3
        refine wp_seq ?_
        refine at_reg (T := S_laws_FnExactEqualSinks_tab) [] { ts := [2, 3, 4, 7, 8], os := [1, 2, 9, 10, 11, 12, 13, 14, 15, 16] } ⟨[(2, aP 1 0), (3, aP 2 0), (4, aB false), (7, aP 12 0), (8, aP 16 0)], [(1, oX 26 [cI x0.1, cI x0.2.1, .ro (.int 3) x0.2.2.1, .ro s196 x0.2.2.2.1, .ro s82 x0.2.2.2.2.1, cI x0.2.2.2.2.2]), (2, oX 26 [cI x1.1, cI x1.2.1, .ro (.int 3) x1.2.2.1, .ro s196 x1.2.2.2.1, .ro s82 x1.2.2.2.2.1, cI x1.2.2.2.2.2]), (9, oR (.int 3) x0.2.2.1), (10, oR s141 x0.2.2.2.1), (11, oR s86 x0.2.2.2.2.1), (12, oX 32 [cI x0.1, cI x0.2.1, .sl 9, .sl 10, .sl 11, cI x0.2.2.2.2.2]), (13, oR (.int 3) x1.2.2.1), (14, oR s141 x1.2.2.2.1), (15, oR s86 x1.2.2.2.2.1), (16, oX 32 [cI x1.1, cI x1.2.1, .sl 13, .sl 14, .sl 15, cI x1.2.2.2.2.2])]⟩ [] gamOK hT h (by kernel_rfl) trivial ?_
        intro a w h
        refine then_normal ?_
        refine wp_ret ?_
        refine then_ret ?_
        exact at_return (S := S_laws_FnExactEqualSinks) (x := (x0, x1, ())) (false, ()) [] h (by kernel_rfl) trivial (congrArg (fun z => (z, ())) (show (false) = D_laws_FnExactEqualSinks x0 x1 from by unfold D_laws_FnExactEqualSinks; exact absurd (beqT (show _ = _ from by first | rfl | (rfl))) (neT h3)))
      · replace h3 : (((Sh.eqB s32) x0 x1) == ((Sh.eqB s32) x0 x1)) = true := notF h3
        refine wp_skip ?_
        refine then_normal ?_
        refine wp_seq ?_
        refine wp_seq ?_
        refine at_any (T := S_laws_FnExactEqualSinks_tab) [{}, {}, { ids := [17, 18, 19] }, {}, {}] { ts := [3, 4, 8, 39], os := [2, 13, 14, 15, 16] } ⟨[(3, aP 2 0), (4, aB false), (8, aP 16 0), (39, aB (!((Sh.eqB s32) x0 x0)))], [(2, oX 26 [cI x1.1, cI x1.2.1, .ro (.int 3) x1.2.2.1, .ro s196 x1.2.2.2.1, .ro s82 x1.2.2.2.2.1, cI x1.2.2.2.2.2]), (13, oR (.int 3) x1.2.2.1), (14, oR s141 x1.2.2.2.1), (15, oR s86 x1.2.2.2.2.1), (16, oX 32 [cI x1.1, cI x1.2.1, .sl 13, .sl 14, .sl 15, cI x1.2.2.2.2.2])]⟩ [(pTo s26) x0, True] gamOK hT mixed h (by kernel_rfl) ⟨(by (show Sh.sz _ _ ≤ 1048576; omega)), trivial, trivial⟩ ?_
        intro a w h
        refine then_normal ?_
        refine at_test (!((Sh.eqB s32) x0 x0)) h (by kernel_rfl) (fun h4 => ?_) (fun h4 => ?_)
        · replace h4 : ((Sh.eqB s32) x0 x0) = false := notT h4
          refine wp_seq ?_
          refine at_regq (T := S_laws_FnExactEqualSinks_tab) [] { ts := [3, 4, 8], os := [2, 13, 14, 15, 16] } [] gamOK hT h (by kernel_rfl) trivial ?_
          intro a w h
          refine then_normal ?_
          refine wp_ret ?_
          refine then_ret ?_
          exact at_return (S := S_laws_FnExactEqualSinks) (x := (x0, x1, ())) (false, ()) [] h (by kernel_rfl) trivial (congrArg (fun z => (z, ())) (show (false) = D_laws_FnExactEqualSinks x0 x1 from by unfold D_laws_FnExactEqualSinks; exact absurd ((Sh.eqB_iff _).2 (show _ = _ from by first | rfl | (rfl))) (neT h4)))
        · replace h4 : ((Sh.eqB s32) x0 x0) = true := notF h4
          refine wp_skip ?_
          refine then_normal ?_
          refine wp_seq ?_
          refine wp_seq ?_
          refine at_anyq (T := S_laws_FnExactEqualSinks_tab) [{}, {}, { ids := [20, 21, 22] }, {}, {}] { ts := [4, 44], os := [] } [(pTo s26) x1, True] gamOK hT mixed h (by kernel_rfl) ⟨(by (show Sh.sz _ _ ≤ 1048576; omega)), trivial, trivial⟩ ?_
          intro a w h
          refine then_normal ?_
          refine at_test (!((Sh.eqB s32) x1 x1)) h (by kernel_rfl) (fun h5 => ?_) (fun h5 => ?_)
          · replace h5 : ((Sh.eqB s32) x1 x1) = false := notT h5
            refine wp_seq ?_
            refine at_regq (T := S_laws_FnExactEqualSinks_tab) [] { ts := [4], os := [] } [] gamOK hT h (by kernel_rfl) trivial ?_
            intro a w h
            refine then_normal ?_
            refine wp_ret ?_
            refine then_ret ?_
            exact at_return (S := S_laws_FnExactEqualSinks) (x := (x0, x1, ())) (false, ()) [] h (by kernel_rfl) trivial (congrArg (fun z => (z, ())) (show (false) = D_laws_FnExactEqualSinks x0 x1 from by unfold D_laws_FnExactEqualSinks; exact absurd ((Sh.eqB_iff _).2 (show _ = _ from by first | rfl | (rfl))) (neT h5)))
          · replace h5 : ((Sh.eqB s32) x1 x1) = true := notF h5
            refine wp_skip ?_
            refine then_normal ?_
            refine wp_seq ?_
            refine at_regq (T := S_laws_FnExactEqualSinks_tab) [] { ts := [4], os := [] } [] gamOK hT h (by kernel_rfl) trivial ?_
            intro a w h
            refine then_normal ?_
            refine wp_ret ?_
            exact at_return (S := S_laws_FnExactEqualSinks) (x := (x0, x1, ())) (true, ()) [] h (by kernel_rfl) trivial (congrArg (fun z => (z, ())) (show (true) = D_laws_FnExactEqualSinks x0 x1 from by unfold D_laws_FnExactEqualSinks; rfl))

theorem opn3 : OpensS Try.prog 3 (.int 3) := opensS_int Try.underlying3
theorem co3 : Try.prog.cellsOf 3 = 1 := by kernel_rfl
theorem opn22 : OpensS Try.prog 22 s22 := opensS_slice (a := (.int 3)) Try.underlying22 co3 opn3
theorem co22 : Try.prog.cellsOf 22 = 1 := by kernel_rfl
theorem opn80 : OpensS Try.prog 80 s80 := opensS_slice (a := s22) Try.underlying80 co22 opn22
theorem co80 : Try.prog.cellsOf 80 = 1 := by kernel_rfl
theorem co102 : Try.prog.cellsOf 102 = 2 := by kernel_rfl
theorem opn102 : OpensS Try.prog 102 s102 := by
  intro H enc w base spare held fuel cs x h
  obtain ⟨xs, n, _, _, hl, hlen, hf⟩ := DataW.trod_struct Try.underlying102 h
  obtain ⟨a0, k0, i0⟩ := opensS_field (a := (.int 3)) (i := 0) 0 1 hf hlen rfl rfl rfl co3 opn3
  obtain ⟨a1, k1, i1⟩ := opensS_field (a := s80) (i := 1) 1 1 hf hlen rfl rfl rfl co80 opn80
  rw [co102] at hl
  exact ⟨(a0, a1), (rdS_pair (off := 0) k0 (rdS_last (off := 1) k1 (by omega))), ⟨i0, i1⟩⟩
theorem co196 : Try.prog.cellsOf 196 = 5 := by kernel_rfl
theorem opn196 : OpensS Try.prog 196 s196 := by
  intro H enc w base spare held fuel cs x h
  obtain ⟨xs, n, _, _, hl, hlen, hf⟩ := DataW.trod_struct Try.underlying196 h
  obtain ⟨a0, k0, i0⟩ := opensS_field (a := (.int 3)) (i := 0) 0 1 hf hlen rfl rfl rfl co3 opn3
  obtain ⟨a1, k1, i1⟩ := opensS_field (a := (.int 3)) (i := 1) 1 1 hf hlen rfl rfl rfl co3 opn3
  obtain ⟨a2, k2, i2⟩ := opensS_field (a := (.int 3)) (i := 2) 2 1 hf hlen rfl rfl rfl co3 opn3
  obtain ⟨a3, k3, i3⟩ := opensS_field (a := s102) (i := 3) 3 2 hf hlen rfl rfl rfl co102 opn102
  rw [co196] at hl
  exact ⟨(a0, (a1, (a2, a3))), (rdS_pair (off := 0) k0 (rdS_pair (off := 1) k1 (rdS_pair (off := 2) k2 (rdS_last (off := 3) k3 (by omega))))), ⟨i0, ⟨i1, ⟨i2, i3⟩⟩⟩⟩
theorem opn23 : OpensS Try.prog 23 s23 := opensS_slice (a := s196) Try.underlying23 co196 opn196
theorem co23 : Try.prog.cellsOf 23 = 1 := by kernel_rfl
theorem co82 : Try.prog.cellsOf 82 = 2 := by kernel_rfl
theorem opn82 : OpensS Try.prog 82 s82 := by
  intro H enc w base spare held fuel cs x h
  obtain ⟨xs, n, _, _, hl, hlen, hf⟩ := DataW.trod_struct Try.underlying82 h
  obtain ⟨a0, k0, i0⟩ := opensS_field (a := (.int 3)) (i := 0) 0 1 hf hlen rfl rfl rfl co3 opn3
  obtain ⟨a1, k1, i1⟩ := opensS_field (a := s80) (i := 1) 1 1 hf hlen rfl rfl rfl co80 opn80
  rw [co82] at hl
  exact ⟨(a0, a1), (rdS_pair (off := 0) k0 (rdS_last (off := 1) k1 (by omega))), ⟨i0, i1⟩⟩
theorem opn24 : OpensS Try.prog 24 s24 := opensS_slice (a := s82) Try.underlying24 co82 opn82
theorem co24 : Try.prog.cellsOf 24 = 1 := by kernel_rfl
theorem co26 : Try.prog.cellsOf 26 = 6 := by kernel_rfl
theorem opn26 : OpensS Try.prog 26 s26 := by
  intro H enc w base spare held fuel cs x h
  obtain ⟨xs, n, _, _, hl, hlen, hf⟩ := DataW.trod_struct Try.underlying26 h
  obtain ⟨a0, k0, i0⟩ := opensS_field (a := (.int 3)) (i := 0) 0 1 hf hlen rfl rfl rfl co3 opn3
  obtain ⟨a1, k1, i1⟩ := opensS_field (a := (.int 3)) (i := 1) 1 1 hf hlen rfl rfl rfl co3 opn3
  obtain ⟨a2, k2, i2⟩ := opensS_field (a := s22) (i := 2) 2 1 hf hlen rfl rfl rfl co22 opn22
  obtain ⟨a3, k3, i3⟩ := opensS_field (a := s23) (i := 3) 3 1 hf hlen rfl rfl rfl co23 opn23
  obtain ⟨a4, k4, i4⟩ := opensS_field (a := s24) (i := 4) 4 1 hf hlen rfl rfl rfl co24 opn24
  obtain ⟨a5, k5, i5⟩ := opensS_field (a := (.int 3)) (i := 5) 5 1 hf hlen rfl rfl rfl co3 opn3
  rw [co26] at hl
  exact ⟨(a0, (a1, (a2, (a3, (a4, a5))))), (rdS_pair (off := 0) k0 (rdS_pair (off := 1) k1 (rdS_pair (off := 2) k2 (rdS_pair (off := 3) k3 (rdS_pair (off := 4) k4 (rdS_last (off := 5) k5 (by omega))))))), ⟨i0, ⟨i1, ⟨i2, ⟨i3, ⟨i4, i5⟩⟩⟩⟩⟩⟩
namespace fnExactEqualSinks
open Go.ChangeShapes Go.WideShapes Go.ChangeAt Go.RowKit
theorem own : ownKnob Try.prog.godebug = none := by kernel_rfl
theorem laidOut : laidOutB Try.prog = true := fxLaid
set_option maxRecDepth 100000 in
theorem lifted (os : Os) (started : os.Started) (H : Type) (enc : TypeId × Value → H) :
    ReturnsInHanded {} Try.checked os 3 .any (Rows.fnExactEqualSinksSpec.pre6 enc Try.prog Try.f3 Rows.fnExactEqualSinksRow.domain false) (Rows.fnExactEqualSinksSpec.post enc Try.prog Try.f3 false true false false) := by
  refine returnsInHanded_of_change (C := Try.checked) own started (by kernel_rfl) Try.func3
    (ChangeSpec.witness6 (enc := enc) (C := Try.checked) false ⟨#[], #[.agg #[.int .i64 0, .int .i64 0, .slice none 0 0, .slice none 0 0, .slice none 0 0, .int .i64 0], .agg #[.int .i64 0, .int .i64 0, .slice none 0 0, .slice none 0 0, .slice none 0 0, .int .i64 0]], []⟩ 8 (by kernel_rfl) (by kernel_rfl) (by kernel_rfl) (by kernel_rfl)) ?_
  intro W base args ds gs before hval0 hW hcnd _
  have hval : ∀ (j : Nat) t v, Try.f3.params[j]? = some t → args[j]? = some v → Value.okWide Try.prog W .any base t v := hval0
  have hW' := hW
  obtain ⟨p, q, hA0, hV, rfl, hfz, hnd⟩ := hW
  have hA : DataW.TrodAll enc Try.prog W 0 (fun _ => true) true Try.f3.params.toList args.toList ds p := hA0
  rw [Try.params3] at hA hval
  obtain ⟨v0, vs0, d0, ds0, p0, q0, hargs, rfl, rfl, h0, r0⟩ := trodAll_cons hA
  obtain ⟨v1, vs1, d1, ds1, p1, q1, rfl, rfl, rfl, h1, r1⟩ := trodAll_cons r0
  obtain ⟨rfl, rfl, rfl⟩ := trodAll_nil r1
  obtain rfl : args = #[v0, v1] := by cases args; simp_all
  obtain ⟨rfl, rfl⟩ := trodVars_none hV
  have k0 := h0
  have lt0 : ∀ x ∈ p0, x.block < W.heap.size := by obtain ⟨m, hm⟩ := k0; exact DataW.trod_lt m _ _ _ hm
  obtain ⟨cs0, rfl, _⟩ := okWide_struct Try.underlying26 (hval 0 26 v0 rfl rfl)
  obtain ⟨cs0⟩ := cs0
  obtain ⟨x0, hx0, i0⟩ : ∃ x : (s26).D, (s26).rd W (fun b => b < W.heap.size) cs0 x ∧ (s26).i64 x := by obtain ⟨fuel, hf⟩ := h0; exact opn26 hf
  have k1 := h1
  have lt1 : ∀ x ∈ p1, x.block < W.heap.size := by obtain ⟨m, hm⟩ := k1; exact DataW.trod_lt m _ _ _ hm
  obtain ⟨cs1, rfl, _⟩ := okWide_struct Try.underlying26 (hval 1 26 v1 rfl rfl)
  obtain ⟨cs1⟩ := cs1
  obtain ⟨x1, hx1, i1⟩ : ∃ x : (s26).D, (s26).rd W (fun b => b < W.heap.size) cs1 x ∧ (s26).i64 x := by obtain ⟨fuel, hf⟩ := h1; exact opn26 hf
  clear hA0 hval0
  refine (calls_law S_laws_FnExactEqualSinks_ok (by kernel_rfl) W (fun b => b < W.heap.size) [.agg cs0.toArray, .agg cs1.toArray] (x0, x1, ()) (fun _ h => h) ⟨argRd_st hx0, argRd_st hx1, trivial⟩ ⟨i0, i1⟩).mono fun e W' hr => ?_
  obtain ⟨he, bel⟩ := ret_bool hr
  subst he
  exact ⟨_, rfl, _, _, _, [], _, [], hW', trodAll_mk1 (shut_bool Try.underlying4 _), (trodAll_cons_mk (Below.trod laidOut (by kernel_rfl) (of_decide_eq_true (by kernel_rfl)) k0 bel lt0) (trodAll_cons_mk (Below.trod laidOut (by kernel_rfl) (of_decide_eq_true (by kernel_rfl)) k1 bel lt1) trodAll_mk0)), rfl, bel.frame _, fun h => by cases h⟩
theorem closed : joinedFacts Try.prog 3 Try.f3 (Rows.fnExactEqualSinksSpec) Rows.fnExactEqualSinksRow = true := by
  unfold joinedFacts
  exact (and2 (and2 (and2 (and2 (and2 (and2 (and2 (and2 (and2 (and2 (and2 (and2 (and2 (and2 (and2 (and2 (and2 (and2 (and2 (and2 (and2 (and2 (and2 (and2 (and2 (and2 (and2 (and2 (and2 (and2 (and2 (by kernel_rfl) fxLaid) fxMaps) (by kernel_rfl)) (by kernel_rfl)) (by kernel_rfl)) (by kernel_rfl)) (by kernel_rfl)) (by kernel_rfl)) (by kernel_rfl)) (by kernel_rfl)) (by kernel_rfl)) (by kernel_rfl)) (by kernel_rfl)) (by kernel_rfl)) (by kernel_rfl)) (by kernel_rfl)) (by kernel_rfl)) (by kernel_rfl)) (by kernel_rfl)) (by kernel_rfl)) (by kernel_rfl)) (by kernel_rfl)) (by kernel_rfl)) (by kernel_rfl)) fxEnter) (by rw [fxLifts]; kernel_rfl)) (by rw [fxMake]; kernel_rfl)) (by kernel_rfl)) (by kernel_rfl)) (by kernel_rfl)) (by kernel_rfl))
theorem over : Rows.fnExactEqualSinksRow.holds Try.pinned (OpenSpec.ofChange Rows.fnExactEqualSinksSpec) :=
  OpenClaim.holds_of_wide 3 Try.f3 rfl rfl rfl rfl rfl rfl rfl ⟨rfl, rfl, rfl, rfl, rfl⟩ rfl rfl rfl rfl rfl (by kernel_rfl) Try.func3 closed
    (of_decide_eq_true (by kernel_rfl)) (by unfold Func.isWrapper; first | (rw [if_pos (by decide +kernel)]; kernel_rfl) | (rw [if_neg (by decide +kernel)]; exact ⟨rfl, rfl⟩))
    (fun os started H enc _ => lifted os started H enc)
/-- the statement -/
theorem proved : Rows.FnExactEqualSinksSaid := over
end fnExactEqualSinks

end Go.Proofs.Ytkialoggpcdhkaa

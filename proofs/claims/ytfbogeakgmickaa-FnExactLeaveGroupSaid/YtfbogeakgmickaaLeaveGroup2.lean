/- The law FnExactLeaveGroup returns true for every input and leaves its arguments as they were. No condition. -/
import Derived.Test.YtfbogeakgmickaaLeaveGroup1
import Derived.Test.YtfbogeakgmickaaProg
import Derived.Test.YtfbogeakgmickaaRows
namespace Go.Proofs.Ytfbogeakgmickaa
open Go.RowKit
set_option linter.unusedVariables false
set_option linter.unusedSimpArgs false
def D_laws_FnExactLeaveGroup := (fun (_ : T70) (_ : Int) => true)
def S_laws_FnExactLeaveGroup : Sum := { fid := 7, dom := [s70, (.int 3)], cod := [(.bool 4)], dp := true, fz := false, pre := fun x => (fun (x0 : T70) (x1 : Int) => Sh.i64 s70 x0 ∧ Sh.i64 (.int 3) x1) x.1 x.2.1, g := fun x => ((D_laws_FnExactLeaveGroup x.1 x.2.1), ()) }
def S_laws_FnExactLeaveGroup_tab : List (Nat × Sum) := [(46, S_laws_szGroup), (48, S_laws_toGroup), (47, S_spec_LeaveGroup), (49, S_impl_LeaveGroup), (50, S_laws_eqGroup), (51, S_laws_markGroup), (52, S_laws_heldGroup)]
theorem S_laws_FnExactLeaveGroup_ok : FnOK Try.prog 7 S_laws_FnExactLeaveGroup := by
  refine at_enter 101 (fun x => ⟨[(0, aG [cI x.1.1, cI x.1.2.1, .ro (.int 3) x.1.2.2]), (1, aI x.2.1)], []⟩) Try.func7 rfl (by kernel_rfl) (fun x => rfl) ?_
  rintro w0 Z0 ⟨x0, x1, u⟩ a w
  revert x0 x1
  intro (x0 : T70) (x1 : Int) hpre hlens h
  replace h : At w0 Z0 [] 101 ⟨[(0, aG [cI x0.1, cI x0.2.1, .ro (.int 3) x0.2.2]), (1, aI x1)], []⟩ a w := h
  replace hpre : (fun (x0 : T70) (x1 : Int) => Sh.i64 s70 x0 ∧ Sh.i64 (.int 3) x1) x0 x1 := hpre
  have hl1 : List.length x0.2.2 ≤ 9223372036854775807 := hlens.1.2.2.1
  have hT : TabOK Try.prog S_laws_FnExactLeaveGroup_tab := (.cons S_laws_szGroup_ok (.cons S_laws_toGroup_ok (.cons S_spec_LeaveGroup_ok (.cons S_impl_LeaveGroup_ok (.cons S_laws_eqGroup_ok (.cons S_laws_markGroup_ok (.cons S_laws_heldGroup_ok .nil)))))))
  have hq0 : Sh.sz s72 x0 = Sh.sz s70 x0 := rfl
  have hb0 : Sh.ctT s72 x0 ≤ 3 * Sh.sz s72 x0 := Sh.ctT_le2 s72 x0
  have hz0 : Sh.ct s72 x0 ≤ 3 * (1 + Sh.sz s72 x0) := Sh.ct_le s72 x0
  have ht0 : Sh.sz s70 x0 = (0 + (0 + (Sh.sz s34 x0.2.2))) := rfl
  have hs0_1 : Sh.sz s34 x0.2.2 = List.length x0.2.2 := sz_flat (by rfl) _
  have hr1 : Sh.ctT s72 (D_impl_LeaveGroup x0 x1).1 ≤ 3 * Sh.sz s72 (D_impl_LeaveGroup x0 x1).1 := Sh.ctT_le2 s72 _
  have hr2 : Sh.sz s72 (D_impl_LeaveGroup x0 x1).1 = 0 + (0 + Sh.sz s34 (D_impl_LeaveGroup x0 x1).1.2.2) := rfl
  have hr3 : Sh.sz s34 (D_impl_LeaveGroup x0 x1).1.2.2 = List.length (D_impl_LeaveGroup x0 x1).1.2.2 := sz_flat (by rfl) _
  have hr4 := leaveGroup_len x0 x1
  refine wp_seq ?_
  refine at_regq (T := S_laws_FnExactLeaveGroup_tab) [{ ids := [1] }] { ts := [1, 2, 4], os := [1] } [] gamOK hT h (by kernel_rfl) trivial ?_
  intro a w h
  refine then_normal ?_
  refine wp_seq ?_
  refine at_regq (T := S_laws_FnExactLeaveGroup_tab) [] { ts := [1, 2, 4, 5], os := [1] } [] gamOK hT h (by kernel_rfl) trivial ?_
  intro a w h
  refine then_normal ?_
  refine wp_seq ?_
  refine at_regq (T := S_laws_FnExactLeaveGroup_tab) [] { ts := [1, 2, 4, 5], os := [1] } [(pSz s70) x0 1048576] gamOK hT h (by kernel_rfl) ⟨(by (show (0 : Int) ≤ _ ∧ _ ≤ (9223372036854775807 : Int); constructor <;> omega)), trivial⟩ ?_
  intro a w h
  refine then_normal ?_
  refine wp_seq ?_
  refine wp_seq ?_
  refine at_reg (T := S_laws_FnExactLeaveGroup_tab) [] { ts := [1, 2, 4, 20], os := [1] } ⟨[(1, aI x1), (2, aP 1 0), (4, aB false), (20, aB (decide (((szD s70) x0 1048576) < 0)))], [(1, oX 70 [cI x0.1, cI x0.2.1, .ro (.int 3) x0.2.2])]⟩ [] gamOK hT h (by kernel_rfl) trivial ?_
  intro a w h
  refine then_normal ?_
  refine at_test (decide (((szD s70) x0 1048576) < 0)) h (by kernel_rfl) (fun h1 => ?_) (fun h1 => ?_)
  · replace h1 : ((szD s70) x0 1048576) < 0 := of_decide_eq_true h1
    have hvh1 := szD_neg h1 (by omega)
    refine wp_seq ?_
    refine at_regq (T := S_laws_FnExactLeaveGroup_tab) [] { ts := [1, 2, 4], os := [1] } [] gamOK hT h (by kernel_rfl) trivial ?_
    intro a w h
    refine then_normal ?_
    refine wp_ret ?_
    refine then_ret ?_
    exact at_return (S := S_laws_FnExactLeaveGroup) (x := (x0, x1, ())) (true, ()) [] h (by kernel_rfl) trivial (congrArg (fun z => (z, ())) (show (true) = D_laws_FnExactLeaveGroup x0 x1 from by unfold D_laws_FnExactLeaveGroup; rfl))
  · replace h1 : ¬ (((szD s70) x0 1048576) < 0) := of_decide_eq_false h1
    have hvh1 := szD_val h1 (by omega)
    refine wp_skip ?_
    refine then_normal ?_
    refine wp_seq ?_
    refine at_regq (T := S_laws_FnExactLeaveGroup_tab) [{}, { ids := [2] }, {}, { ids := [3] }, {}, {}, {}, { ids := [4] }] { ts := [1, 2, 4, 6, 7], os := [1, 3, 4] } [(pTo s70) x0, (fun (x0 : T72) (x1 : Int) => Sh.fit s72 x0) x0 x1] gamOK hT h (by kernel_rfl) ⟨(by (show Sh.sz _ _ ≤ 1048576; omega)), (by exact (Sh.fit_of_sz s72 rfl (x := x0) (by omega))), trivial⟩ ?_
    intro a w h
    refine then_normal ?_
    refine wp_seq ?_
    refine at_regq (T := S_laws_FnExactLeaveGroup_tab) [{}, { ids := [5] }, { ids := [6] }] { ts := [1, 2, 4, 6, 7, 8], os := [1, 3, 4, 5, 6] } [(pTo s70) x0] gamOK hT h (by kernel_rfl) ⟨(by (show Sh.sz _ _ ≤ 1048576; omega)), trivial⟩ ?_
    intro a w h
    refine then_normal ?_
    refine wp_seq ?_
    refine at_regq (T := S_laws_FnExactLeaveGroup_tab) [{}, {}, { ids := [7] }, {}, {}, {}, { ids := [8] }] { ts := [1, 2, 4, 6, 7, 8, 9, 10], os := [1, 3, 4, 5, 6, 7, 8] } [(fun (x0 : T72) (x1 : Int) => Sh.fit s72 x0) x0 x1] gamOK hT h (by kernel_rfl) ⟨(by exact (Sh.fit_of_sz s72 rfl (x := x0) (by omega))), trivial⟩ ?_
    intro a w h
    refine then_normal ?_
    refine wp_seq ?_
    refine wp_seq ?_
    rcases Bool.eq_false_or_eq_true (!((Sh.eqB s72) (D_impl_LeaveGroup x0 x1).1 (D_spec_LeaveGroup x0 x1).1)) with h2 | h2
    · skip
      refine at_reg (T := S_laws_FnExactLeaveGroup_tab) [{}, {}, {}, { hint := some (aB true) }] { ts := [1, 2, 4, 6, 7, 8, 9, 10, 44], os := [1, 3, 4, 5, 6, 7, 8] } ⟨[(1, aI x1), (2, aP 1 0), (4, aB false), (6, aP 4 0), (7, aB (D_spec_LeaveGroup x0 x1).2), (8, aP 6 0), (9, aP 8 0), (10, aB (D_impl_LeaveGroup x0 x1).2), (44, aB true)], [(1, oX 70 [cI x0.1, cI x0.2.1, .ro (.int 3) x0.2.2]), (3, oR (.int 3) (D_spec_LeaveGroup x0 x1).1.2.2), (4, oX 72 [cI (D_spec_LeaveGroup x0 x1).1.1, cI (D_spec_LeaveGroup x0 x1).1.2.1, .sl 3]), (5, oR (.int 3) x0.2.2), (6, oX 72 [cI x0.1, cI x0.2.1, .sl 5]), (7, oR (.int 3) (D_impl_LeaveGroup x0 x1).1.2.2), (8, oX 72 [cI (D_impl_LeaveGroup x0 x1).1.1, cI (D_impl_LeaveGroup x0 x1).1.2.1, .sl 7])]⟩ [True, (AV.p (.c (.v (.bool (!((Sh.eqB s72) (D_impl_LeaveGroup x0 x1).1 (D_spec_LeaveGroup x0 x1).1))))) = AV.p (.c (.v (.bool true))))] gamOK hT h (by kernel_rfl) ⟨trivial, hint_bool (h2), trivial⟩ ?_
      intro a w h
      refine then_normal ?_
      refine at_test true h (by kernel_rfl) (fun hh => ?_) (fun hh => nomatch hh)
      refine wp_seq ?_
      refine at_regq (T := S_laws_FnExactLeaveGroup_tab) [] { ts := [1, 2, 4, 6, 7, 8, 9, 10], os := [1, 3, 4, 5, 6, 7, 8] } [] gamOK hT h (by kernel_rfl) trivial ?_
      intro a w h
      refine then_normal ?_
      refine wp_ret ?_
      refine then_ret ?_
      exact at_return (S := S_laws_FnExactLeaveGroup) (x := (x0, x1, ())) (false, ()) [] h (by kernel_rfl) trivial (congrArg (fun z => (z, ())) (show (false) = D_laws_FnExactLeaveGroup x0 x1 from by unfold D_laws_FnExactLeaveGroup; exact absurd ((Sh.eqB_iff _).2 (show _ = _ from by first | rfl | (rw [leaveGroup_eq]))) (neT (notT h2))))
    · skip
      refine at_reg (T := S_laws_FnExactLeaveGroup_tab) [{}, {}, {}, { hint := some (aB false) }] { ts := [1, 2, 4, 6, 7, 8, 9, 10, 44], os := [1, 3, 4, 5, 6, 7, 8] } ⟨[(1, aI x1), (2, aP 1 0), (4, aB false), (6, aP 4 0), (7, aB (D_spec_LeaveGroup x0 x1).2), (8, aP 6 0), (9, aP 8 0), (10, aB (D_impl_LeaveGroup x0 x1).2), (44, aB (!((D_impl_LeaveGroup x0 x1).2 == (D_spec_LeaveGroup x0 x1).2)))], [(1, oX 70 [cI x0.1, cI x0.2.1, .ro (.int 3) x0.2.2]), (3, oR (.int 3) (D_spec_LeaveGroup x0 x1).1.2.2), (4, oX 72 [cI (D_spec_LeaveGroup x0 x1).1.1, cI (D_spec_LeaveGroup x0 x1).1.2.1, .sl 3]), (5, oR (.int 3) x0.2.2), (6, oX 72 [cI x0.1, cI x0.2.1, .sl 5]), (7, oR (.int 3) (D_impl_LeaveGroup x0 x1).1.2.2), (8, oX 72 [cI (D_impl_LeaveGroup x0 x1).1.1, cI (D_impl_LeaveGroup x0 x1).1.2.1, .sl 7])]⟩ [True, (AV.p (.c (.v (.bool (!((Sh.eqB s72) (D_impl_LeaveGroup x0 x1).1 (D_spec_LeaveGroup x0 x1).1))))) = AV.p (.c (.v (.bool false))))] gamOK hT h (by kernel_rfl) ⟨trivial, hint_bool (h2), trivial⟩ ?_
      intro a w h
      refine then_normal ?_
      refine at_test (!((D_impl_LeaveGroup x0 x1).2 == (D_spec_LeaveGroup x0 x1).2)) h (by kernel_rfl) (fun h3 => ?_) (fun h3 => ?_)
      · replace h3 : ((D_impl_LeaveGroup x0 x1).2 == (D_spec_LeaveGroup x0 x1).2) = false := notT h3
        refine wp_seq ?_
        refine at_regq (T := S_laws_FnExactLeaveGroup_tab) [] { ts := [1, 2, 4, 6, 7, 8, 9, 10], os := [1, 3, 4, 5, 6, 7, 8] } [] gamOK hT h (by kernel_rfl) trivial ?_
        intro a w h
        refine then_normal ?_
        refine wp_ret ?_
        refine then_ret ?_
        exact at_return (S := S_laws_FnExactLeaveGroup) (x := (x0, x1, ())) (false, ()) [] h (by kernel_rfl) trivial (congrArg (fun z => (z, ())) (show (false) = D_laws_FnExactLeaveGroup x0 x1 from by unfold D_laws_FnExactLeaveGroup; exact absurd (beqT (show _ = _ from by first | rfl | (rw [leaveGroup_eq]))) (neT h3)))
      · replace h3 : ((D_impl_LeaveGroup x0 x1).2 == (D_spec_LeaveGroup x0 x1).2) = true := notF h3
        refine wp_skip ?_
        refine then_normal ?_
        refine wp_seq ?_
        refine wp_seq ?_
        refine at_anyq (T := S_laws_FnExactLeaveGroup_tab) [{}, {}, { ids := [9] }, {}, {}] { ts := [1, 2, 4, 6, 7, 8, 9, 10, 49], os := [1, 3, 4, 5, 6, 7, 8] } [(pTo s70) x0, True] gamOK hT mixed h (by kernel_rfl) ⟨(by (show Sh.sz _ _ ≤ 1048576; omega)), trivial, trivial⟩ ?_
        intro a w h
        refine then_normal ?_
        refine at_test (!((Sh.eqB s72) x0 x0)) h (by kernel_rfl) (fun h4 => ?_) (fun h4 => ?_)
        · replace h4 : ((Sh.eqB s72) x0 x0) = false := notT h4
          refine wp_seq ?_
          refine at_regq (T := S_laws_FnExactLeaveGroup_tab) [] { ts := [1, 2, 4, 6, 7, 8, 9, 10], os := [1, 3, 4, 5, 6, 7, 8] } [] gamOK hT h (by kernel_rfl) trivial ?_
          intro a w h
          refine then_normal ?_
          refine wp_ret ?_
          refine then_ret ?_
          exact at_return (S := S_laws_FnExactLeaveGroup) (x := (x0, x1, ())) (false, ()) [] h (by kernel_rfl) trivial (congrArg (fun z => (z, ())) (show (false) = D_laws_FnExactLeaveGroup x0 x1 from by unfold D_laws_FnExactLeaveGroup; exact absurd ((Sh.eqB_iff _).2 (show _ = _ from by first | rfl | (rw [leaveGroup_eq]))) (neT h4)))
        · replace h4 : ((Sh.eqB s72) x0 x0) = true := notF h4
          refine wp_skip ?_
          refine then_normal ?_
          refine wp_seq ?_
          refine at_regq (T := S_laws_FnExactLeaveGroup_tab) [] { ts := [1, 2, 4, 6, 7, 8, 9, 10, 11], os := [1, 3, 4, 5, 6, 7, 8] } [] gamOK hT h (by kernel_rfl) trivial ?_
          intro a w h
          refine then_normal ?_
          refine wp_seq ?_
          refine at_regq (T := S_laws_FnExactLeaveGroup_tab) [] { ts := [1, 2, 4, 6, 7, 9, 10, 11], os := [1, 3, 4, 7, 8] } [(pMkT s72) x0 1] gamOK hT h (by kernel_rfl) ⟨(by (show (0 : Int) ≤ _ ∧ _ + ((Sh.ctT _ _ : Nat) : Int) ≤ (4611686018427387904 : Int); (try simp only [mkK, mkKT, Sh.ctT_mkT, Sh.ct_mk]); constructor <;> omega)), trivial⟩ ?_
          intro a w h
          refine then_normal ?_
          refine wp_seq ?_
          refine wp_seq ?_
          by_cases h5 : ((mkKT s72) x0 1) < 0
          · skip
            refine at_reg (T := S_laws_FnExactLeaveGroup_tab) [{}, { hint := some (aB true) }] { ts := [1, 2, 4, 6, 7, 9, 65], os := [1, 3, 4, 7, 8] } ⟨[(1, aI x1), (2, aP 1 0), (4, aB false), (6, aP 4 0), (7, aB (D_spec_LeaveGroup x0 x1).2), (9, aP 8 0), (65, aB true)], [(1, oX 70 [cI x0.1, cI x0.2.1, .ro (.int 3) x0.2.2]), (3, oR (.int 3) (D_spec_LeaveGroup x0 x1).1.2.2), (4, oX 72 [cI (D_spec_LeaveGroup x0 x1).1.1, cI (D_spec_LeaveGroup x0 x1).1.2.1, .sl 3]), (7, oR (.int 3) (D_impl_LeaveGroup x0 x1).1.2.2), (8, oX 72 [cI (D_impl_LeaveGroup x0 x1).1.1, cI (D_impl_LeaveGroup x0 x1).1.2.1, .sl 7])]⟩ [(AV.p (.c (.v (.bool (decide (((mkKT s72) x0 1) < 0))))) = AV.p (.c (.v (.bool true))))] gamOK hT h (by kernel_rfl) ⟨hint_bool (decide_eq_true h5), trivial⟩ ?_
            intro a w h
            refine then_normal ?_
            refine at_test true h (by kernel_rfl) (fun hh => ?_) (fun hh => nomatch hh)
            refine wp_seq ?_
            refine at_regq (T := S_laws_FnExactLeaveGroup_tab) [] { ts := [1, 2, 4, 6, 7, 9], os := [1, 3, 4, 7, 8] } [] gamOK hT h (by kernel_rfl) trivial ?_
            intro a w h
            refine then_normal ?_
            refine wp_ret ?_
            refine then_ret ?_
            exact at_return (S := S_laws_FnExactLeaveGroup) (x := (x0, x1, ())) (false, ()) [] h (by kernel_rfl) trivial (congrArg (fun z => (z, ())) (show (false) = D_laws_FnExactLeaveGroup x0 x1 from by unfold D_laws_FnExactLeaveGroup; (exfalso; simp only [mkK, mkKT, Sh.ctT_mkT, Sh.ct_mk] at h5; first | omega | exact h5 trivial | exact h5 rfl)))
          · skip
            refine at_reg (T := S_laws_FnExactLeaveGroup_tab) [{}, { hint := some (aB false) }, {}, {}, {}, {}, { hint := some (aB false) }] { ts := [1, 2, 4, 6, 7, 9, 65], os := [1, 3, 4, 7, 8] } ⟨[(1, aI x1), (2, aP 1 0), (4, aB false), (6, aP 4 0), (7, aB (D_spec_LeaveGroup x0 x1).2), (9, aP 8 0), (65, aB (!((D_impl_LeaveGroup x0 x1).2 == (D_spec_LeaveGroup x0 x1).2)))], [(1, oX 70 [cI x0.1, cI x0.2.1, .ro (.int 3) x0.2.2]), (3, oR (.int 3) (D_spec_LeaveGroup x0 x1).1.2.2), (4, oX 72 [cI (D_spec_LeaveGroup x0 x1).1.1, cI (D_spec_LeaveGroup x0 x1).1.2.1, .sl 3]), (7, oR (.int 3) (D_impl_LeaveGroup x0 x1).1.2.2), (8, oX 72 [cI (D_impl_LeaveGroup x0 x1).1.1, cI (D_impl_LeaveGroup x0 x1).1.2.1, .sl 7])]⟩ [(AV.p (.c (.v (.bool (decide (((mkKT s72) x0 1) < 0))))) = AV.p (.c (.v (.bool false)))), True, (AV.p (.c (.v (.bool (!((Sh.eqB s72) (D_impl_LeaveGroup x0 x1).1 (D_spec_LeaveGroup x0 x1).1))))) = AV.p (.c (.v (.bool false))))] gamOK hT h (by kernel_rfl) ⟨hint_bool (decide_eq_false h5), trivial, hint_bool (h2), trivial⟩ ?_
            intro a w h
            refine then_normal ?_
            refine at_test (!((D_impl_LeaveGroup x0 x1).2 == (D_spec_LeaveGroup x0 x1).2)) h (by kernel_rfl) (fun h6 => ?_) (fun h6 => ?_)
            · replace h6 : ((D_impl_LeaveGroup x0 x1).2 == (D_spec_LeaveGroup x0 x1).2) = false := notT h6
              refine wp_seq ?_
              refine at_regq (T := S_laws_FnExactLeaveGroup_tab) [] { ts := [1, 2, 4, 6, 7, 9], os := [1, 3, 4, 7, 8] } [] gamOK hT h (by kernel_rfl) trivial ?_
              intro a w h
              refine then_normal ?_
              refine wp_ret ?_
              refine then_ret ?_
              exact at_return (S := S_laws_FnExactLeaveGroup) (x := (x0, x1, ())) (false, ()) [] h (by kernel_rfl) trivial (congrArg (fun z => (z, ())) (show (false) = D_laws_FnExactLeaveGroup x0 x1 from by unfold D_laws_FnExactLeaveGroup; exact absurd (beqT (show _ = _ from by first | rfl | (rw [leaveGroup_eq]))) (neT h6)))
            · replace h6 : ((D_impl_LeaveGroup x0 x1).2 == (D_spec_LeaveGroup x0 x1).2) = true := notF h6
              refine wp_skip ?_
              refine then_normal ?_
              refine wp_seq ?_
              refine at_regq (T := S_laws_FnExactLeaveGroup_tab) [] { ts := [1, 2, 4, 6, 7, 9, 12], os := [1, 3, 4, 7, 8] } [] gamOK hT h (by kernel_rfl) trivial ?_
              intro a w h
              refine then_normal ?_
              refine wp_seq ?_
              refine at_regq (T := S_laws_FnExactLeaveGroup_tab) [] { ts := [1, 2, 4, 6, 7, 9, 12], os := [1, 3, 4, 7, 8] } [(pMkT s72) (D_impl_LeaveGroup x0 x1).1 1] gamOK hT h (by kernel_rfl) ⟨(by (show (0 : Int) ≤ _ ∧ _ + ((Sh.ctT _ _ : Nat) : Int) ≤ (4611686018427387904 : Int); (try simp only [mkK, mkKT, Sh.ctT_mkT, Sh.ct_mk]); constructor <;> omega)), trivial⟩ ?_
              intro a w h
              refine then_normal ?_
              refine wp_seq ?_
              refine at_regq (T := S_laws_FnExactLeaveGroup_tab) [] { ts := [1, 2, 4, 6, 7, 9, 12, 13], os := [1, 3, 4, 7, 8] } [] gamOK hT h (by kernel_rfl) trivial ?_
              intro a w h
              refine then_normal ?_
              refine wp_seq ?_
              refine at_reg (T := S_laws_FnExactLeaveGroup_tab) [] { ts := [1, 2, 4, 6, 7, 9, 12, 13], os := [1, 3, 4, 7, 8] } ⟨[(1, aI x1), (2, aP 1 0), (4, aB false), (6, aP 4 0), (7, aB (D_spec_LeaveGroup x0 x1).2), (9, aP 8 0), (12, aI ((mkKT s72) (D_impl_LeaveGroup x0 x1).1 1)), (13, aI ((heldDT s72) ((Sh.mkT s72) (D_impl_LeaveGroup x0 x1).1 1) 1))], [(1, oX 70 [cI x0.1, cI x0.2.1, .ro (.int 3) x0.2.2]), (3, oR (.int 3) (D_spec_LeaveGroup x0 x1).1.2.2), (4, oX 72 [cI (D_spec_LeaveGroup x0 x1).1.1, cI (D_spec_LeaveGroup x0 x1).1.2.1, .sl 3]), (7, oR (.int 3) ((Sh.mkT s72) (D_impl_LeaveGroup x0 x1).1 1).2.2), (8, oX 72 [cI (D_impl_LeaveGroup x0 x1).1.1, cI (D_impl_LeaveGroup x0 x1).1.2.1, .sl 7])]⟩ [(pMkT s72) ((Sh.mkT s72) (D_impl_LeaveGroup x0 x1).1 1) 1] gamOK hT h (by kernel_rfl) ⟨(by (show (0 : Int) ≤ _ ∧ _ + ((Sh.ctT _ _ : Nat) : Int) ≤ (4611686018427387904 : Int); (try simp only [mkK, mkKT, Sh.ctT_mkT, Sh.ct_mk]); constructor <;> omega)), trivial⟩ ?_
              intro a w h
              refine then_normal ?_
              refine wp_seq ?_
              refine wp_seq ?_
              refine at_regq (T := S_laws_FnExactLeaveGroup_tab) [] { ts := [1, 2, 4, 6, 7, 9, 12, 13, 73], os := [1, 3, 4, 7, 8] } [] gamOK hT h (by kernel_rfl) trivial ?_
              intro a w h
              refine then_normal ?_
              refine at_test (decide (((heldDT s72) ((Sh.mkT s72) (D_impl_LeaveGroup x0 x1).1 1) 1) < 0)) h (by kernel_rfl) (fun h7 => ?_) (fun h7 => ?_)
              · replace h7 : ((heldDT s72) ((Sh.mkT s72) (D_impl_LeaveGroup x0 x1).1 1) 1) < 0 := of_decide_eq_true h7
                refine wp_seq ?_
                refine at_regq (T := S_laws_FnExactLeaveGroup_tab) [] { ts := [1, 2, 4, 6, 7, 9, 12, 13], os := [1, 3, 4, 7, 8] } [] gamOK hT h (by kernel_rfl) trivial ?_
                intro a w h
                refine then_normal ?_
                refine wp_ret ?_
                refine then_ret ?_
                exact at_return (S := S_laws_FnExactLeaveGroup) (x := (x0, x1, ())) (false, ()) [] h (by kernel_rfl) trivial (congrArg (fun z => (z, ())) (show (false) = D_laws_FnExactLeaveGroup x0 x1 from by unfold D_laws_FnExactLeaveGroup; (exfalso; simp only [held_marked, held_markedT, mkK, mkKT, Sh.ctT_mkT, Sh.ct_mk] at h7; first | omega | exact h7 trivial | exact h7 rfl)))
              · replace h7 : ¬ (((heldDT s72) ((Sh.mkT s72) (D_impl_LeaveGroup x0 x1).1 1) 1) < 0) := of_decide_eq_false h7
                refine wp_skip ?_
                refine then_normal ?_
                refine wp_seq ?_
                refine wp_seq ?_
                refine at_regq (T := S_laws_FnExactLeaveGroup_tab) [] { ts := [1, 2, 4, 6, 7, 9, 12, 76], os := [1, 3, 4, 7, 8] } [] gamOK hT h (by kernel_rfl) trivial ?_
                intro a w h
                refine then_normal ?_
                refine at_test (!decide (((heldDT s72) ((Sh.mkT s72) (D_impl_LeaveGroup x0 x1).1 1) 1) = ((mkKT s72) (D_impl_LeaveGroup x0 x1).1 1))) h (by kernel_rfl) (fun h8 => ?_) (fun h8 => ?_)
                · replace h8 : ¬ (((heldDT s72) ((Sh.mkT s72) (D_impl_LeaveGroup x0 x1).1 1) 1) = ((mkKT s72) (D_impl_LeaveGroup x0 x1).1 1)) := by simpa using h8
                  refine wp_seq ?_
                  refine at_regq (T := S_laws_FnExactLeaveGroup_tab) [] { ts := [1, 2, 4, 6, 7, 9, 12], os := [1, 3, 4, 7, 8] } [] gamOK hT h (by kernel_rfl) trivial ?_
                  intro a w h
                  refine then_normal ?_
                  refine wp_ret ?_
                  refine then_ret ?_
                  exact at_return (S := S_laws_FnExactLeaveGroup) (x := (x0, x1, ())) (false, ()) [] h (by kernel_rfl) trivial (congrArg (fun z => (z, ())) (show (false) = D_laws_FnExactLeaveGroup x0 x1 from by unfold D_laws_FnExactLeaveGroup; (exfalso; simp only [held_marked, held_markedT, mkK, mkKT, Sh.ctT_mkT, Sh.ct_mk] at h8; first | omega | exact h8 trivial | exact h8 rfl)))
                · replace h8 : ((heldDT s72) ((Sh.mkT s72) (D_impl_LeaveGroup x0 x1).1 1) 1) = ((mkKT s72) (D_impl_LeaveGroup x0 x1).1 1) := by simpa using h8
                  refine wp_skip ?_
                  refine then_normal ?_
                  refine wp_seq ?_
                  refine at_regq (T := S_laws_FnExactLeaveGroup_tab) [{}, { ids := [10] }, {}, { ids := [11] }, {}, {}, {}, { ids := [12] }] { ts := [4, 6, 7, 9, 12, 14, 15], os := [3, 4, 7, 8, 11, 12] } [(pTo s70) x0, (fun (x0 : T72) (x1 : Int) => Sh.fit s72 x0) x0 x1] gamOK hT h (by kernel_rfl) ⟨(by (show Sh.sz _ _ ≤ 1048576; omega)), (by exact (Sh.fit_of_sz s72 rfl (x := x0) (by omega))), trivial⟩ ?_
                  intro a w h
                  refine then_normal ?_
                  refine wp_seq ?_
                  refine wp_seq ?_
                  refine at_reg (T := S_laws_FnExactLeaveGroup_tab) [{}, {}, {}, { hint := some (aB false) }] { ts := [4, 9, 12, 92], os := [7, 8] } ⟨[(4, aB false), (9, aP 8 0), (12, aI ((mkKT s72) (D_impl_LeaveGroup x0 x1).1 1)), (92, aB (!((D_impl_LeaveGroup x0 x1).2 == (D_spec_LeaveGroup x0 x1).2)))], [(7, oR (.int 3) ((Sh.mkT s72) (D_impl_LeaveGroup x0 x1).1 1).2.2), (8, oX 72 [cI (D_impl_LeaveGroup x0 x1).1.1, cI (D_impl_LeaveGroup x0 x1).1.2.1, .sl 7])]⟩ [True, (AV.p (.c (.v (.bool (!((Sh.eqB s72) (D_impl_LeaveGroup x0 x1).1 (D_spec_LeaveGroup x0 x1).1))))) = AV.p (.c (.v (.bool false))))] gamOK hT h (by kernel_rfl) ⟨trivial, hint_bool (h2), trivial⟩ ?_
                  intro a w h
                  refine then_normal ?_
                  refine at_test (!((D_impl_LeaveGroup x0 x1).2 == (D_spec_LeaveGroup x0 x1).2)) h (by kernel_rfl) (fun h9 => ?_) (fun h9 => ?_)
                  · replace h9 : ((D_impl_LeaveGroup x0 x1).2 == (D_spec_LeaveGroup x0 x1).2) = false := notT h9
                    refine wp_seq ?_
                    refine at_regq (T := S_laws_FnExactLeaveGroup_tab) [] { ts := [4, 9, 12], os := [7, 8] } [] gamOK hT h (by kernel_rfl) trivial ?_
                    intro a w h
                    refine then_normal ?_
                    refine wp_ret ?_
                    refine then_ret ?_
                    exact at_return (S := S_laws_FnExactLeaveGroup) (x := (x0, x1, ())) (false, ()) [] h (by kernel_rfl) trivial (congrArg (fun z => (z, ())) (show (false) = D_laws_FnExactLeaveGroup x0 x1 from by unfold D_laws_FnExactLeaveGroup; exact absurd (beqT (show _ = _ from by first | rfl | (rw [leaveGroup_eq]))) (neT h9)))
                  · replace h9 : ((D_impl_LeaveGroup x0 x1).2 == (D_spec_LeaveGroup x0 x1).2) = true := notF h9
                    refine wp_skip ?_
                    refine then_normal ?_
                    refine wp_seq ?_
                    refine at_regq (T := S_laws_FnExactLeaveGroup_tab) [] { ts := [4, 9, 12, 13], os := [7, 8] } [] gamOK hT h (by kernel_rfl) trivial ?_
                    intro a w h
                    refine then_normal ?_
                    refine wp_seq ?_
                    refine at_regq (T := S_laws_FnExactLeaveGroup_tab) [] { ts := [4, 12, 13], os := [] } [(pMkT s72) ((Sh.mkT s72) (D_impl_LeaveGroup x0 x1).1 1) 1] gamOK hT h (by kernel_rfl) ⟨(by (show (0 : Int) ≤ _ ∧ _ + ((Sh.ctT _ _ : Nat) : Int) ≤ (4611686018427387904 : Int); (try simp only [mkK, mkKT, Sh.ctT_mkT, Sh.ct_mk]); constructor <;> omega)), trivial⟩ ?_
                    intro a w h
                    refine then_normal ?_
                    refine wp_seq ?_
                    refine wp_seq ?_
                    refine at_regq (T := S_laws_FnExactLeaveGroup_tab) [] { ts := [4, 12, 13, 97], os := [] } [] gamOK hT h (by kernel_rfl) trivial ?_
                    intro a w h
                    refine then_normal ?_
                    refine at_test (decide (((heldDT s72) ((Sh.mkT s72) (D_impl_LeaveGroup x0 x1).1 1) 1) < 0)) h (by kernel_rfl) (fun h10 => ?_) (fun h10 => ?_)
                    · replace h10 : ((heldDT s72) ((Sh.mkT s72) (D_impl_LeaveGroup x0 x1).1 1) 1) < 0 := of_decide_eq_true h10
                      refine wp_seq ?_
                      refine at_reg (T := S_laws_FnExactLeaveGroup_tab) [] { ts := [4, 12, 13], os := [] } ⟨[(4, aB false), (12, aI ((mkKT s72) (D_impl_LeaveGroup x0 x1).1 1)), (13, aI ((heldDT s72) ((Sh.mkT s72) (D_impl_LeaveGroup x0 x1).1 1) 1))], []⟩ [] gamOK hT h (by kernel_rfl) trivial ?_
                      intro a w h
                      refine then_normal ?_
                      refine wp_ret ?_
                      refine then_ret ?_
                      exact at_return (S := S_laws_FnExactLeaveGroup) (x := (x0, x1, ())) (false, ()) [] h (by kernel_rfl) trivial (congrArg (fun z => (z, ())) (show (false) = D_laws_FnExactLeaveGroup x0 x1 from by unfold D_laws_FnExactLeaveGroup; (exfalso; simp only [held_marked, held_markedT, mkK, mkKT, Sh.ctT_mkT, Sh.ct_mk] at h10; first | omega | exact h10 trivial | exact h10 rfl)))
                    · replace h10 : ¬ (((heldDT s72) ((Sh.mkT s72) (D_impl_LeaveGroup x0 x1).1 1) 1) < 0) := of_decide_eq_false h10
                      refine wp_skip ?_
                      refine then_normal ?_
                      refine wp_seq ?_
                      refine wp_seq ?_
                      refine at_reg (T := S_laws_FnExactLeaveGroup_tab) [] { ts := [4, 100], os := [] } ⟨[(4, aB false), (100, aB (!decide (((heldDT s72) ((Sh.mkT s72) (D_impl_LeaveGroup x0 x1).1 1) 1) = ((mkKT s72) (D_impl_LeaveGroup x0 x1).1 1))))], []⟩ [] gamOK hT h (by kernel_rfl) trivial ?_
                      intro a w h
                      refine then_normal ?_
                      refine at_test (!decide (((heldDT s72) ((Sh.mkT s72) (D_impl_LeaveGroup x0 x1).1 1) 1) = ((mkKT s72) (D_impl_LeaveGroup x0 x1).1 1))) h (by kernel_rfl) (fun h11 => ?_) (fun h11 => ?_)
                      · replace h11 : ¬ (((heldDT s72) ((Sh.mkT s72) (D_impl_LeaveGroup x0 x1).1 1) 1) = ((mkKT s72) (D_impl_LeaveGroup x0 x1).1 1)) := by simpa using h11
                        refine wp_seq ?_
                        refine at_regq (T := S_laws_FnExactLeaveGroup_tab) [] { ts := [4], os := [] } [] gamOK hT h (by kernel_rfl) trivial ?_
                        intro a w h
                        refine then_normal ?_
                        refine wp_ret ?_
                        refine then_ret ?_
                        exact at_return (S := S_laws_FnExactLeaveGroup) (x := (x0, x1, ())) (false, ()) [] h (by kernel_rfl) trivial (congrArg (fun z => (z, ())) (show (false) = D_laws_FnExactLeaveGroup x0 x1 from by unfold D_laws_FnExactLeaveGroup; (exfalso; simp only [held_marked, held_markedT, mkK, mkKT, Sh.ctT_mkT, Sh.ct_mk] at h11; first | omega | exact h11 trivial | exact h11 rfl)))
                      · replace h11 : ((heldDT s72) ((Sh.mkT s72) (D_impl_LeaveGroup x0 x1).1 1) 1) = ((mkKT s72) (D_impl_LeaveGroup x0 x1).1 1) := by simpa using h11
                        refine wp_skip ?_
                        refine then_normal ?_
                        refine wp_seq ?_
                        refine at_regq (T := S_laws_FnExactLeaveGroup_tab) [] { ts := [4], os := [] } [] gamOK hT h (by kernel_rfl) trivial ?_
                        intro a w h
                        refine then_normal ?_
                        refine wp_ret ?_
                        exact at_return (S := S_laws_FnExactLeaveGroup) (x := (x0, x1, ())) (true, ()) [] h (by kernel_rfl) trivial (congrArg (fun z => (z, ())) (show (true) = D_laws_FnExactLeaveGroup x0 x1 from by unfold D_laws_FnExactLeaveGroup; rfl))

theorem opn3 : OpensS Try.prog 3 (.int 3) := opensS_int Try.underlying3
theorem co3 : Try.prog.cellsOf 3 = 1 := by kernel_rfl
theorem opn34 : OpensS Try.prog 34 s34 := opensS_slice (a := (.int 3)) Try.underlying34 co3 opn3
theorem co34 : Try.prog.cellsOf 34 = 1 := by kernel_rfl
theorem co70 : Try.prog.cellsOf 70 = 3 := by kernel_rfl
theorem opn70 : OpensS Try.prog 70 s70 := by
  intro H enc w base spare held fuel cs x h
  obtain ⟨xs, n, _, _, hl, hlen, hf⟩ := DataW.trod_struct Try.underlying70 h
  obtain ⟨a0, k0, i0⟩ := opensS_field (a := (.int 3)) (i := 0) 0 1 hf hlen rfl rfl rfl co3 opn3
  obtain ⟨a1, k1, i1⟩ := opensS_field (a := (.int 3)) (i := 1) 1 1 hf hlen rfl rfl rfl co3 opn3
  obtain ⟨a2, k2, i2⟩ := opensS_field (a := s34) (i := 2) 2 1 hf hlen rfl rfl rfl co34 opn34
  rw [co70] at hl
  exact ⟨(a0, (a1, a2)), (rdS_pair (off := 0) k0 (rdS_pair (off := 1) k1 (rdS_last (off := 2) k2 (by omega)))), ⟨i0, ⟨i1, i2⟩⟩⟩
namespace fnExactLeaveGroup
open Go.ChangeShapes Go.WideShapes Go.ChangeAt Go.RowKit
theorem own : ownKnob Try.prog.godebug = none := by kernel_rfl
theorem laidOut : laidOutB Try.prog = true := by kernel_rfl
set_option maxRecDepth 100000 in
theorem lifted (os : Os) (started : os.Started) (H : Type) (enc : TypeId × Value → H) :
    ReturnsInHanded {} Try.checked os 7 .any (Rows.fnExactLeaveGroupSpec.pre6 enc Try.prog Try.f7 Rows.fnExactLeaveGroupRow.domain false) (Rows.fnExactLeaveGroupSpec.post enc Try.prog Try.f7 false true false false) := by
  refine returnsInHanded_of_change (C := Try.checked) own started (by kernel_rfl) Try.func7
    (ChangeSpec.witness6 (enc := enc) (C := Try.checked) false ⟨#[], #[.agg #[.int .i64 0, .int .i64 0, .slice none 0 0], .int .i64 0], []⟩ 8 (by kernel_rfl) (by kernel_rfl) (by kernel_rfl) (by kernel_rfl)) ?_
  intro W base args ds gs before hval0 hW hcnd _
  have hval : ∀ (j : Nat) t v, Try.f7.params[j]? = some t → args[j]? = some v → Value.okWide Try.prog W .any base t v := hval0
  have hW' := hW
  obtain ⟨p, q, hA0, hV, rfl, hfz, hnd⟩ := hW
  have hA : DataW.TrodAll enc Try.prog W 0 (fun _ => true) true Try.f7.params.toList args.toList ds p := hA0
  rw [Try.params7] at hA hval
  obtain ⟨v0, vs0, d0, ds0, p0, q0, hargs, rfl, rfl, h0, r0⟩ := trodAll_cons hA
  obtain ⟨v1, vs1, d1, ds1, p1, q1, rfl, rfl, rfl, h1, r1⟩ := trodAll_cons r0
  obtain ⟨rfl, rfl, rfl⟩ := trodAll_nil r1
  obtain rfl : args = #[v0, v1] := by cases args; simp_all
  obtain ⟨rfl, rfl⟩ := trodVars_none hV
  have k0 := h0
  have lt0 : ∀ x ∈ p0, x.block < W.heap.size := by obtain ⟨m, hm⟩ := k0; exact DataW.trod_lt m _ _ _ hm
  obtain ⟨cs0, rfl, _⟩ := okWide_struct Try.underlying70 (hval 0 70 v0 rfl rfl)
  obtain ⟨cs0⟩ := cs0
  obtain ⟨x0, hx0, i0⟩ : ∃ x : (s70).D, (s70).rd W (fun b => b < W.heap.size) cs0 x ∧ (s70).i64 x := by obtain ⟨fuel, hf⟩ := h0; exact opn70 hf
  have k1 := h1
  have lt1 : ∀ x ∈ p1, x.block < W.heap.size := by obtain ⟨m, hm⟩ := k1; exact DataW.trod_lt m _ _ _ hm
  obtain ⟨a1, rfl, rfl, rfl, w1⟩ := open_int Try.underlying3 (hval 1 3 v1 rfl rfl) h1
  clear hA0 hval0
  refine (calls_law S_laws_FnExactLeaveGroup_ok (by kernel_rfl) W (fun b => b < W.heap.size) [.agg cs0.toArray, .int .i64 a1] (x0, a1, ()) (fun _ h => h) ⟨argRd_st hx0, argRd_int a1, trivial⟩ ⟨i0, (show I64 a1 from by unfold I64; simpa [Lit.wf, IntKind.min, IntKind.max, IntKind.signed, IntKind.bits] using w1)⟩).mono fun e W' hr => ?_
  obtain ⟨he, bel⟩ := ret_bool hr
  subst he
  exact ⟨_, rfl, _, _, _, [], _, [], hW', trodAll_mk1 (shut_bool Try.underlying4 _), (trodAll_cons_mk (Below.trod laidOut (by kernel_rfl) (of_decide_eq_true (by kernel_rfl)) k0 bel lt0) (trodAll_cons_mk (Below.trod laidOut (by kernel_rfl) (of_decide_eq_true (by kernel_rfl)) k1 bel lt1) trodAll_mk0)), rfl, bel.frame _, fun h => by cases h⟩
theorem over : Rows.fnExactLeaveGroupRow.holds Try.pinned (OpenSpec.ofChange Rows.fnExactLeaveGroupSpec) :=
  OpenClaim.holds_of_wide 7 Try.f7 rfl rfl rfl rfl rfl rfl rfl ⟨rfl, rfl, rfl, rfl, rfl⟩ rfl rfl rfl rfl rfl (by kernel_rfl) Try.func7 (by kernel_rfl)
    (of_decide_eq_true (by kernel_rfl)) (by unfold Func.isWrapper; first | (rw [if_pos (by decide +kernel)]; kernel_rfl) | (rw [if_neg (by decide +kernel)]; exact ⟨rfl, rfl⟩))
    (fun os started H enc _ => lifted os started H enc)
/-- the statement -/
theorem proved : Rows.FnExactLeaveGroupSaid := over
end fnExactLeaveGroup

end Go.Proofs.Ytfbogeakgmickaa

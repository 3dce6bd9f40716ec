/- The law FnExactNewSink returns true for every input and leaves its arguments as they were. No condition. -/
import Derived.Test.YtfbogeakgmickaaNewSink1
import Derived.Test.YtfbogeakgmickaaProg
import Derived.Test.YtfbogeakgmickaaRows
namespace Go.Proofs.Ytfbogeakgmickaa
open Go.RowKit
set_option linter.unusedVariables false
set_option linter.unusedSimpArgs false
def D_laws_FnExactNewSink := (fun (_ : Int) (_ : Int) (_ : (List Int)) => true)
def S_laws_FnExactNewSink : Sum := { fid := 12, dom := [(.int 3), (.int 3), s34], cod := [(.bool 4)], dp := true, fz := false, pre := fun x => (fun (x0 : Int) (x1 : Int) (x2 : (List Int)) => Sh.i64 (.int 3) x0 ∧ Sh.i64 (.int 3) x1 ∧ Sh.i64 s34 x2) x.1 x.2.1 x.2.2.1, g := fun x => ((D_laws_FnExactNewSink x.1 x.2.1 x.2.2.1), ()) }
def S_laws_FnExactNewSink_tab : List (Nat × Sum) := [(32, S_laws_toIntS), (69, S_spec_NewSink), (70, S_impl_NewSink), (71, S_laws_eqSink), (35, S_laws_eqIntS), (37, S_laws_markIntS), (72, S_laws_markSink), (73, S_laws_heldSink)]
theorem S_laws_FnExactNewSink_ok : FnOK Try.prog 12 S_laws_FnExactNewSink := by
  refine at_enter 76 (fun x => ⟨[(0, aI x.1), (1, aI x.2.1), (2, aF (.int 3) x.2.2.1)], []⟩) Try.func12 rfl (by kernel_rfl) (fun x => rfl) ?_
  rintro w0 Z0 ⟨x0, x1, x2, u⟩ a w
  revert x0 x1 x2
  intro (x0 : Int) (x1 : Int) (x2 : (List Int)) hpre hlens h
  replace h : At w0 Z0 [] 76 ⟨[(0, aI x0), (1, aI x1), (2, aF (.int 3) x2)], []⟩ a w := h
  replace hpre : (fun (x0 : Int) (x1 : Int) (x2 : (List Int)) => Sh.i64 (.int 3) x0 ∧ Sh.i64 (.int 3) x1 ∧ Sh.i64 s34 x2) x0 x1 x2 := hpre
  have hl1 : List.length x2 ≤ 9223372036854775807 := hlens.2.2.1.1
  have hT : TabOK Try.prog S_laws_FnExactNewSink_tab := (.cons S_laws_toIntS_ok (.cons S_spec_NewSink_ok (.cons S_impl_NewSink_ok (.cons S_laws_eqSink_ok (.cons S_laws_eqIntS_ok (.cons S_laws_markIntS_ok (.cons S_laws_markSink_ok (.cons S_laws_heldSink_ok .nil))))))))
  have hq2 : Sh.sz s34 x2 = Sh.sz s34 x2 := rfl
  have hb2 : Sh.ctT s34 x2 ≤ 1 * Sh.sz s34 x2 := Sh.ctT_le2 s34 x2
  have hz2 : Sh.ct s34 x2 ≤ 1 * (1 + Sh.sz s34 x2) := Sh.ct_le s34 x2
  have hs2_1 : Sh.sz s34 x2 = List.length x2 := sz_flat (by rfl) _
  have hr1 : Sh.ctT s103 (newSink x0 x1 x2) ≤ 11 * Sh.sz s103 (newSink x0 x1 x2) := Sh.ctT_le2 s103 _
  have hr2 : Sh.sz s103 (newSink x0 x1 x2) ≤ List.length x2 := by
    have h1 : Sh.sz s34 x2 = List.length x2 := sz_flat (by rfl) _
    unfold newSink
    (repeat' split) <;> (first | (show 0 + (0 + (Sh.sz s34 x2 + (0 + (0 + 0)))) ≤ _; omega) | exact Nat.zero_le _)
  refine wp_seq ?_
  refine at_regq (T := S_laws_FnExactNewSink_tab) [] { ts := [0, 1, 2, 6], os := [] } [] gamOK hT h (by kernel_rfl) trivial ?_
  intro a w h
  refine then_normal ?_
  refine wp_seq ?_
  refine wp_seq ?_
  refine at_regq (T := S_laws_FnExactNewSink_tab) [] { ts := [0, 1, 2, 6, 16], os := [] } [] gamOK hT h (by kernel_rfl) trivial ?_
  intro a w h
  refine then_normal ?_
  refine at_test (decide (((List.length x2 : Nat) : Int) > 1048576)) h (by kernel_rfl) (fun h1 => ?_) (fun h1 => ?_)
  · replace h1 : ((List.length x2 : Nat) : Int) > 1048576 := of_decide_eq_true h1
    refine wp_seq ?_
    refine at_regq (T := S_laws_FnExactNewSink_tab) [] { ts := [0, 1, 2, 6], os := [] } [] gamOK hT h (by kernel_rfl) trivial ?_
    intro a w h
    refine then_normal ?_
    refine wp_ret ?_
    refine then_ret ?_
    exact at_return (S := S_laws_FnExactNewSink) (x := (x0, x1, x2, ())) (true, ()) [] h (by kernel_rfl) trivial (congrArg (fun z => (z, ())) (show (true) = D_laws_FnExactNewSink x0 x1 x2 from by unfold D_laws_FnExactNewSink; rfl))
  · replace h1 : ¬ (((List.length x2 : Nat) : Int) > 1048576) := of_decide_eq_false h1
    refine wp_skip ?_
    refine then_normal ?_
    refine wp_seq ?_
    refine at_regq (T := S_laws_FnExactNewSink_tab) [{}, {}, {}, { ids := [1] }, { ids := [2, 3, 4] }, { ids := [5] }] { ts := [0, 1, 2, 6, 7], os := [2, 3, 4, 5] } [(pTo s34) x2, (fun (x0 : Int) (x1 : Int) (x2 : (List Int)) => Sh.fit s34 x2) x0 x1 x2] gamOK hT h (by kernel_rfl) ⟨(by (show Sh.sz _ _ ≤ 1048576; omega)), (by exact (Sh.fit_of_sz s34 rfl (x := x2) (by omega))), trivial⟩ ?_
    intro a w h
    refine then_normal ?_
    refine wp_seq ?_
    refine at_reg (T := S_laws_FnExactNewSink_tab) [{}, { ids := [6] }] { ts := [0, 1, 2, 6, 7, 8], os := [2, 3, 4, 5, 6] } ⟨[(0, aI x0), (1, aI x1), (2, aF (.int 3) x2), (6, aB false), (7, aP 5 0), (8, aS 6)], [(2, oR (.int 3) (newSink x0 x1 x2).2.2.1), (3, oR s189 (newSink x0 x1 x2).2.2.2.1), (4, oR s192 (newSink x0 x1 x2).2.2.2.2.1), (5, oX 103 [cI (newSink x0 x1 x2).1, cI (newSink x0 x1 x2).2.1, .sl 2, .sl 3, .sl 4, cI (newSink x0 x1 x2).2.2.2.2.2]), (6, oR (.int 3) x2)]⟩ [(pTo s34) x2] gamOK hT h (by kernel_rfl) ⟨(by (show Sh.sz _ _ ≤ 1048576; omega)), trivial⟩ ?_
    intro a w h
    refine then_normal ?_
    refine wp_seq ?_
    refine at_regq (T := S_laws_FnExactNewSink_tab) [{}, {}, {}, { ids := [7, 8, 9] }, { ids := [10] }] { ts := [0, 1, 2, 6, 7, 8, 9], os := [2, 3, 4, 5, 6, 7, 8, 9, 10] } [(fun (x0 : Int) (x1 : Int) (x2 : (List Int)) => Sh.fit s34 x2) x0 x1 x2] gamOK hT h (by kernel_rfl) ⟨(by exact (Sh.fit_of_sz s34 rfl (x := x2) (by omega))), trivial⟩ ?_
    intro a w h
    refine then_normal ?_
    refine wp_seq ?_
    refine wp_seq ?_
    refine at_regq (T := S_laws_FnExactNewSink_tab) [] { ts := [0, 1, 2, 6, 7, 8, 9, 31], os := [2, 3, 4, 5, 6, 7, 8, 9, 10] } [True] gamOK hT h (by kernel_rfl) ⟨trivial, trivial⟩ ?_
    intro a w h
    refine then_normal ?_
    refine at_test (!((Sh.eqB s103) (newSink x0 x1 x2) (newSink x0 x1 x2))) h (by kernel_rfl) (fun h2 => ?_) (fun h2 => ?_)
    · replace h2 : ((Sh.eqB s103) (newSink x0 x1 x2) (newSink x0 x1 x2)) = false := notT h2
      refine wp_seq ?_
      refine at_regq (T := S_laws_FnExactNewSink_tab) [] { ts := [0, 1, 2, 6, 7, 8, 9], os := [2, 3, 4, 5, 6, 7, 8, 9, 10] } [] gamOK hT h (by kernel_rfl) trivial ?_
      intro a w h
      refine then_normal ?_
      refine wp_ret ?_
      refine then_ret ?_
      exact at_return (S := S_laws_FnExactNewSink) (x := (x0, x1, x2, ())) (false, ()) [] h (by kernel_rfl) trivial (congrArg (fun z => (z, ())) (show (false) = D_laws_FnExactNewSink x0 x1 x2 from by unfold D_laws_FnExactNewSink; exact absurd ((Sh.eqB_iff _).2 (show _ = _ from by first | rfl | (rfl))) (neT h2)))
    · replace h2 : ((Sh.eqB s103) (newSink x0 x1 x2) (newSink x0 x1 x2)) = true := notF h2
      refine wp_skip ?_
      refine then_normal ?_
      refine wp_seq ?_
      refine wp_seq ?_
      refine at_regq (T := S_laws_FnExactNewSink_tab) [{}, {}, { ids := [11] }] { ts := [0, 1, 2, 6, 7, 8, 9, 36], os := [2, 3, 4, 5, 6, 7, 8, 9, 10] } [(pTo s34) x2, True] gamOK hT h (by kernel_rfl) ⟨(by (show Sh.sz _ _ ≤ 1048576; omega)), trivial, trivial⟩ ?_
      intro a w h
      refine then_normal ?_
      refine at_test (!((Sh.eqB s34) x2 x2)) h (by kernel_rfl) (fun h3 => ?_) (fun h3 => ?_)
      · replace h3 : ((Sh.eqB s34) x2 x2) = false := notT h3
        refine wp_seq ?_
        refine at_reg (T := S_laws_FnExactNewSink_tab) [] { ts := [0, 1, 2, 6, 7, 8, 9], os := [2, 3, 4, 5, 6, 7, 8, 9, 10] } ⟨[(0, aI x0), (1, aI x1), (2, aF (.int 3) x2), (6, aB false), (7, aP 5 0), (8, aS 6), (9, aP 10 0)], [(2, oR (.int 3) (newSink x0 x1 x2).2.2.1), (3, oR s189 (newSink x0 x1 x2).2.2.2.1), (4, oR s192 (newSink x0 x1 x2).2.2.2.2.1), (5, oX 103 [cI (newSink x0 x1 x2).1, cI (newSink x0 x1 x2).2.1, .sl 2, .sl 3, .sl 4, cI (newSink x0 x1 x2).2.2.2.2.2]), (6, oR (.int 3) x2), (7, oR (.int 3) (newSink x0 x1 x2).2.2.1), (8, oR s189 (newSink x0 x1 x2).2.2.2.1), (9, oR s192 (newSink x0 x1 x2).2.2.2.2.1), (10, oX 103 [cI (newSink x0 x1 x2).1, cI (newSink x0 x1 x2).2.1, .sl 7, .sl 8, .sl 9, cI (newSink x0 x1 x2).2.2.2.2.2])]⟩ [] gamOK hT h (by kernel_rfl) trivial ?_
        intro a w h
        refine then_normal ?_
        refine wp_ret ?_
        refine then_ret ?_
        exact at_return (S := S_laws_FnExactNewSink) (x := (x0, x1, x2, ())) (false, ()) [] h (by kernel_rfl) trivial (congrArg (fun z => (z, ())) (show (false) = D_laws_FnExactNewSink x0 x1 x2 from by unfold D_laws_FnExactNewSink; exact absurd ((Sh.eqB_iff _).2 (show _ = _ from by first | rfl | (rfl))) (neT h3)))
      · replace h3 : ((Sh.eqB s34) x2 x2) = true := notF h3
        refine wp_skip ?_
        refine then_normal ?_
        refine wp_seq ?_
        refine at_reg (T := S_laws_FnExactNewSink_tab) [] { ts := [0, 1, 2, 6, 7, 8, 9, 10], os := [2, 3, 4, 5, 6, 7, 8, 9, 10] } ⟨[(0, aI x0), (1, aI x1), (2, aF (.int 3) x2), (6, aB false), (7, aP 5 0), (8, aS 6), (9, aP 10 0), (10, aI 1)], [(2, oR (.int 3) (newSink x0 x1 x2).2.2.1), (3, oR s189 (newSink x0 x1 x2).2.2.2.1), (4, oR s192 (newSink x0 x1 x2).2.2.2.2.1), (5, oX 103 [cI (newSink x0 x1 x2).1, cI (newSink x0 x1 x2).2.1, .sl 2, .sl 3, .sl 4, cI (newSink x0 x1 x2).2.2.2.2.2]), (6, oR (.int 3) x2), (7, oR (.int 3) (newSink x0 x1 x2).2.2.1), (8, oR s189 (newSink x0 x1 x2).2.2.2.1), (9, oR s192 (newSink x0 x1 x2).2.2.2.2.1), (10, oX 103 [cI (newSink x0 x1 x2).1, cI (newSink x0 x1 x2).2.1, .sl 7, .sl 8, .sl 9, cI (newSink x0 x1 x2).2.2.2.2.2])]⟩ [] gamOK hT h (by kernel_rfl) trivial ?_
        intro a w h
        refine then_normal ?_
        refine wp_seq ?_
        refine at_regq (T := S_laws_FnExactNewSink_tab) [] { ts := [0, 1, 2, 6, 7, 9, 10], os := [2, 3, 4, 5, 7, 8, 9, 10] } [(pMk s34) x2 1] gamOK hT h (by kernel_rfl) ⟨(by (show (0 : Int) ≤ _ ∧ _ + ((Sh.ct _ _ : Nat) : Int) ≤ (4611686018427387904 : Int); (try simp only [mkK, mkKT, Sh.ctT_mkT, Sh.ct_mk]); constructor <;> omega)), trivial⟩ ?_
        intro a w h
        refine then_normal ?_
        refine wp_seq ?_
        refine wp_seq ?_
        by_cases h4 : ((mkK s34) x2 1) < 0
        · skip
          refine at_regq (T := S_laws_FnExactNewSink_tab) [{}, { hint := some (aB true) }] { ts := [0, 1, 2, 6, 7, 9, 47], os := [2, 3, 4, 5, 7, 8, 9, 10] } [(AV.p (.c (.v (.bool (decide (((mkK s34) x2 1) < 0))))) = AV.p (.c (.v (.bool true))))] gamOK hT h (by kernel_rfl) ⟨hint_bool (decide_eq_true h4), trivial⟩ ?_
          intro a w h
          refine then_normal ?_
          refine at_test true h (by kernel_rfl) (fun hh => ?_) (fun hh => nomatch hh)
          refine wp_seq ?_
          refine at_regq (T := S_laws_FnExactNewSink_tab) [] { ts := [0, 1, 2, 6, 7, 9], os := [2, 3, 4, 5, 7, 8, 9, 10] } [] gamOK hT h (by kernel_rfl) trivial ?_
          intro a w h
          refine then_normal ?_
          refine wp_ret ?_
          refine then_ret ?_
          exact at_return (S := S_laws_FnExactNewSink) (x := (x0, x1, x2, ())) (false, ()) [] h (by kernel_rfl) trivial (congrArg (fun z => (z, ())) (show (false) = D_laws_FnExactNewSink x0 x1 x2 from by unfold D_laws_FnExactNewSink; (exfalso; simp only [mkK, mkKT, Sh.ctT_mkT, Sh.ct_mk] at h4; first | omega | exact h4 trivial | exact h4 rfl)))
        · skip
          refine at_regq (T := S_laws_FnExactNewSink_tab) [{}, { hint := some (aB false) }] { ts := [0, 1, 2, 6, 7, 9, 47], os := [2, 3, 4, 5, 7, 8, 9, 10] } [(AV.p (.c (.v (.bool (decide (((mkK s34) x2 1) < 0))))) = AV.p (.c (.v (.bool false)))), True] gamOK hT h (by kernel_rfl) ⟨hint_bool (decide_eq_false h4), trivial, trivial⟩ ?_
          intro a w h
          refine then_normal ?_
          refine at_test (!((Sh.eqB s103) (newSink x0 x1 x2) (newSink x0 x1 x2))) h (by kernel_rfl) (fun h5 => ?_) (fun h5 => ?_)
          · replace h5 : ((Sh.eqB s103) (newSink x0 x1 x2) (newSink x0 x1 x2)) = false := notT h5
            refine wp_seq ?_
            refine at_regq (T := S_laws_FnExactNewSink_tab) [] { ts := [0, 1, 2, 6, 7, 9], os := [2, 3, 4, 5, 7, 8, 9, 10] } [] gamOK hT h (by kernel_rfl) trivial ?_
            intro a w h
            refine then_normal ?_
            refine wp_ret ?_
            refine then_ret ?_
            exact at_return (S := S_laws_FnExactNewSink) (x := (x0, x1, x2, ())) (false, ()) [] h (by kernel_rfl) trivial (congrArg (fun z => (z, ())) (show (false) = D_laws_FnExactNewSink x0 x1 x2 from by unfold D_laws_FnExactNewSink; exact absurd ((Sh.eqB_iff _).2 (show _ = _ from by first | rfl | (rfl))) (neT h5)))
          · replace h5 : ((Sh.eqB s103) (newSink x0 x1 x2) (newSink x0 x1 x2)) = true := notF h5
            refine wp_skip ?_
            refine then_normal ?_
            refine wp_seq ?_
            refine at_regq (T := S_laws_FnExactNewSink_tab) [] { ts := [0, 1, 2, 6, 7, 9, 11], os := [2, 3, 4, 5, 7, 8, 9, 10] } [] gamOK hT h (by kernel_rfl) trivial ?_
            intro a w h
            refine then_normal ?_
            refine wp_seq ?_
            refine at_reg (T := S_laws_FnExactNewSink_tab) [] { ts := [0, 1, 2, 6, 7, 9, 11], os := [2, 3, 4, 5, 7, 8, 9, 10] } ⟨[(0, aI x0), (1, aI x1), (2, aF (.int 3) x2), (6, aB false), (7, aP 5 0), (9, aP 10 0), (11, aI ((mkKT s103) (newSink x0 x1 x2) 1))], [(2, oR (.int 3) (newSink x0 x1 x2).2.2.1), (3, oR s189 (newSink x0 x1 x2).2.2.2.1), (4, oR s192 (newSink x0 x1 x2).2.2.2.2.1), (5, oX 103 [cI (newSink x0 x1 x2).1, cI (newSink x0 x1 x2).2.1, .sl 2, .sl 3, .sl 4, cI (newSink x0 x1 x2).2.2.2.2.2]), (7, oR (.int 3) ((Sh.mkT s103) (newSink x0 x1 x2) 1).2.2.1), (8, oR s189 ((Sh.mkT s103) (newSink x0 x1 x2) 1).2.2.2.1), (9, oR s192 ((Sh.mkT s103) (newSink x0 x1 x2) 1).2.2.2.2.1), (10, oX 103 [cI (newSink x0 x1 x2).1, cI (newSink x0 x1 x2).2.1, .sl 7, .sl 8, .sl 9, cI (newSink x0 x1 x2).2.2.2.2.2])]⟩ [(pMkT s103) (newSink x0 x1 x2) 1] gamOK hT h (by kernel_rfl) ⟨(by (show (0 : Int) ≤ _ ∧ _ + ((Sh.ctT _ _ : Nat) : Int) ≤ (4611686018427387904 : Int); (try simp only [mkK, mkKT, Sh.ctT_mkT, Sh.ct_mk]); constructor <;> omega)), trivial⟩ ?_
            intro a w h
            refine then_normal ?_
            refine wp_seq ?_
            refine at_regq (T := S_laws_FnExactNewSink_tab) [] { ts := [0, 1, 2, 6, 7, 9, 11, 12], os := [2, 3, 4, 5, 7, 8, 9, 10] } [] gamOK hT h (by kernel_rfl) trivial ?_
            intro a w h
            refine then_normal ?_
            refine wp_seq ?_
            refine at_regq (T := S_laws_FnExactNewSink_tab) [] { ts := [0, 1, 2, 6, 7, 9, 11, 12], os := [2, 3, 4, 5, 7, 8, 9, 10] } [(pMkT s103) ((Sh.mkT s103) (newSink x0 x1 x2) 1) 1] gamOK hT h (by kernel_rfl) ⟨(by (show (0 : Int) ≤ _ ∧ _ + ((Sh.ctT _ _ : Nat) : Int) ≤ (4611686018427387904 : Int); (try simp only [mkK, mkKT, Sh.ctT_mkT, Sh.ct_mk]); constructor <;> omega)), trivial⟩ ?_
            intro a w h
            refine then_normal ?_
            refine wp_seq ?_
            refine wp_seq ?_
            refine at_regq (T := S_laws_FnExactNewSink_tab) [] { ts := [0, 1, 2, 6, 7, 9, 11, 12, 55], os := [2, 3, 4, 5, 7, 8, 9, 10] } [] gamOK hT h (by kernel_rfl) trivial ?_
            intro a w h
            refine then_normal ?_
            refine at_test (decide (((heldDT s103) ((Sh.mkT s103) (newSink x0 x1 x2) 1) 1) < 0)) h (by kernel_rfl) (fun h6 => ?_) (fun h6 => ?_)
            · replace h6 : ((heldDT s103) ((Sh.mkT s103) (newSink x0 x1 x2) 1) 1) < 0 := of_decide_eq_true h6
              refine wp_seq ?_
              refine at_reg (T := S_laws_FnExactNewSink_tab) [] { ts := [0, 1, 2, 6, 7, 9, 11, 12], os := [2, 3, 4, 5, 7, 8, 9, 10] } ⟨[(0, aI x0), (1, aI x1), (2, aF (.int 3) x2), (6, aB false), (7, aP 5 0), (9, aP 10 0), (11, aI ((mkKT s103) (newSink x0 x1 x2) 1)), (12, aI ((heldDT s103) ((Sh.mkT s103) (newSink x0 x1 x2) 1) 1))], [(2, oR (.int 3) (newSink x0 x1 x2).2.2.1), (3, oR s189 (newSink x0 x1 x2).2.2.2.1), (4, oR s192 (newSink x0 x1 x2).2.2.2.2.1), (5, oX 103 [cI (newSink x0 x1 x2).1, cI (newSink x0 x1 x2).2.1, .sl 2, .sl 3, .sl 4, cI (newSink x0 x1 x2).2.2.2.2.2]), (7, oR (.int 3) ((Sh.mkT s103) (newSink x0 x1 x2) 1).2.2.1), (8, oR s189 ((Sh.mkT s103) (newSink x0 x1 x2) 1).2.2.2.1), (9, oR s192 ((Sh.mkT s103) (newSink x0 x1 x2) 1).2.2.2.2.1), (10, oX 103 [cI (newSink x0 x1 x2).1, cI (newSink x0 x1 x2).2.1, .sl 7, .sl 8, .sl 9, cI (newSink x0 x1 x2).2.2.2.2.2])]⟩ [] gamOK hT h (by kernel_rfl) trivial ?_
              intro a w h
              refine then_normal ?_
              refine wp_ret ?_
              refine then_ret ?_
              exact at_return (S := S_laws_FnExactNewSink) (x := (x0, x1, x2, ())) (false, ()) [] h (by kernel_rfl) trivial (congrArg (fun z => (z, ())) (show (false) = D_laws_FnExactNewSink x0 x1 x2 from by unfold D_laws_FnExactNewSink; (exfalso; simp only [held_marked, held_markedT, mkK, mkKT, Sh.ctT_mkT, Sh.ct_mk] at h6; first | omega | exact h6 trivial | exact h6 rfl)))
            · replace h6 : ¬ (((heldDT s103) ((Sh.mkT s103) (newSink x0 x1 x2) 1) 1) < 0) := of_decide_eq_false h6
              refine wp_skip ?_
              refine then_normal ?_
              refine wp_seq ?_
              refine wp_seq ?_
              refine at_reg (T := S_laws_FnExactNewSink_tab) [] { ts := [0, 1, 2, 6, 7, 9, 11, 58], os := [2, 3, 4, 5, 7, 8, 9, 10] } ⟨[(0, aI x0), (1, aI x1), (2, aF (.int 3) x2), (6, aB false), (7, aP 5 0), (9, aP 10 0), (11, aI ((mkKT s103) (newSink x0 x1 x2) 1)), (58, aB (!decide (((heldDT s103) ((Sh.mkT s103) (newSink x0 x1 x2) 1) 1) = ((mkKT s103) (newSink x0 x1 x2) 1))))], [(2, oR (.int 3) (newSink x0 x1 x2).2.2.1), (3, oR s189 (newSink x0 x1 x2).2.2.2.1), (4, oR s192 (newSink x0 x1 x2).2.2.2.2.1), (5, oX 103 [cI (newSink x0 x1 x2).1, cI (newSink x0 x1 x2).2.1, .sl 2, .sl 3, .sl 4, cI (newSink x0 x1 x2).2.2.2.2.2]), (7, oR (.int 3) ((Sh.mkT s103) (newSink x0 x1 x2) 1).2.2.1), (8, oR s189 ((Sh.mkT s103) (newSink x0 x1 x2) 1).2.2.2.1), (9, oR s192 ((Sh.mkT s103) (newSink x0 x1 x2) 1).2.2.2.2.1), (10, oX 103 [cI (newSink x0 x1 x2).1, cI (newSink x0 x1 x2).2.1, .sl 7, .sl 8, .sl 9, cI (newSink x0 x1 x2).2.2.2.2.2])]⟩ [] gamOK hT h (by kernel_rfl) trivial ?_
              intro a w h
              refine then_normal ?_
              refine at_test (!decide (((heldDT s103) ((Sh.mkT s103) (newSink x0 x1 x2) 1) 1) = ((mkKT s103) (newSink x0 x1 x2) 1))) h (by kernel_rfl) (fun h7 => ?_) (fun h7 => ?_)
              · replace h7 : ¬ (((heldDT s103) ((Sh.mkT s103) (newSink x0 x1 x2) 1) 1) = ((mkKT s103) (newSink x0 x1 x2) 1)) := by simpa using h7
                refine wp_seq ?_
                refine at_regq (T := S_laws_FnExactNewSink_tab) [] { ts := [0, 1, 2, 6, 7, 9, 11], os := [2, 3, 4, 5, 7, 8, 9, 10] } [] gamOK hT h (by kernel_rfl) trivial ?_
                intro a w h
                refine then_normal ?_
                refine wp_ret ?_
                refine then_ret ?_
                exact at_return (S := S_laws_FnExactNewSink) (x := (x0, x1, x2, ())) (false, ()) [] h (by kernel_rfl) trivial (congrArg (fun z => (z, ())) (show (false) = D_laws_FnExactNewSink x0 x1 x2 from by unfold D_laws_FnExactNewSink; (exfalso; simp only [held_marked, held_markedT, mkK, mkKT, Sh.ctT_mkT, Sh.ct_mk] at h7; first | omega | exact h7 trivial | exact h7 rfl)))
              · replace h7 : ((heldDT s103) ((Sh.mkT s103) (newSink x0 x1 x2) 1) 1) = ((mkKT s103) (newSink x0 x1 x2) 1) := by simpa using h7
                refine wp_skip ?_
                refine then_normal ?_
                refine wp_seq ?_
                refine at_regq (T := S_laws_FnExactNewSink_tab) [{}, {}, {}, { ids := [12] }, { ids := [13, 14, 15] }, { ids := [16] }] { ts := [6, 7, 9, 11, 13], os := [2, 3, 4, 5, 7, 8, 9, 10, 13, 14, 15, 16] } [(pTo s34) x2, (fun (x0 : Int) (x1 : Int) (x2 : (List Int)) => Sh.fit s34 x2) x0 x1 x2] gamOK hT h (by kernel_rfl) ⟨(by (show Sh.sz _ _ ≤ 1048576; omega)), (by exact (Sh.fit_of_sz s34 rfl (x := x2) (by omega))), trivial⟩ ?_
                intro a w h
                refine then_normal ?_
                refine wp_seq ?_
                refine wp_seq ?_
                refine at_regq (T := S_laws_FnExactNewSink_tab) [] { ts := [6, 9, 11, 67], os := [7, 8, 9, 10] } [True] gamOK hT h (by kernel_rfl) ⟨trivial, trivial⟩ ?_
                intro a w h
                refine then_normal ?_
                refine at_test (!((Sh.eqB s103) (newSink x0 x1 x2) (newSink x0 x1 x2))) h (by kernel_rfl) (fun h8 => ?_) (fun h8 => ?_)
                · replace h8 : ((Sh.eqB s103) (newSink x0 x1 x2) (newSink x0 x1 x2)) = false := notT h8
                  refine wp_seq ?_
                  refine at_regq (T := S_laws_FnExactNewSink_tab) [] { ts := [6, 9, 11], os := [7, 8, 9, 10] } [] gamOK hT h (by kernel_rfl) trivial ?_
                  intro a w h
                  refine then_normal ?_
                  refine wp_ret ?_
                  refine then_ret ?_
                  exact at_return (S := S_laws_FnExactNewSink) (x := (x0, x1, x2, ())) (false, ()) [] h (by kernel_rfl) trivial (congrArg (fun z => (z, ())) (show (false) = D_laws_FnExactNewSink x0 x1 x2 from by unfold D_laws_FnExactNewSink; exact absurd ((Sh.eqB_iff _).2 (show _ = _ from by first | rfl | (rfl))) (neT h8)))
                · replace h8 : ((Sh.eqB s103) (newSink x0 x1 x2) (newSink x0 x1 x2)) = true := notF h8
                  refine wp_skip ?_
                  refine then_normal ?_
                  refine wp_seq ?_
                  refine at_regq (T := S_laws_FnExactNewSink_tab) [] { ts := [6, 9, 11, 12], os := [7, 8, 9, 10] } [] gamOK hT h (by kernel_rfl) trivial ?_
                  intro a w h
                  refine then_normal ?_
                  refine wp_seq ?_
                  refine at_reg (T := S_laws_FnExactNewSink_tab) [] { ts := [6, 11, 12], os := [] } ⟨[(6, aB false), (11, aI ((mkKT s103) (newSink x0 x1 x2) 1)), (12, aI ((heldDT s103) ((Sh.mkT s103) (newSink x0 x1 x2) 1) 1))], []⟩ [(pMkT s103) ((Sh.mkT s103) (newSink x0 x1 x2) 1) 1] gamOK hT h (by kernel_rfl) ⟨(by (show (0 : Int) ≤ _ ∧ _ + ((Sh.ctT _ _ : Nat) : Int) ≤ (4611686018427387904 : Int); (try simp only [mkK, mkKT, Sh.ctT_mkT, Sh.ct_mk]); constructor <;> omega)), trivial⟩ ?_
                  intro a w h
                  refine then_normal ?_
                  refine wp_seq ?_
                  refine wp_seq ?_
                  refine at_regq (T := S_laws_FnExactNewSink_tab) [] { ts := [6, 11, 12, 72], os := [] } [] gamOK hT h (by kernel_rfl) trivial ?_
                  intro a w h
                  refine then_normal ?_
                  refine at_test (decide (((heldDT s103) ((Sh.mkT s103) (newSink x0 x1 x2) 1) 1) < 0)) h (by kernel_rfl) (fun h9 => ?_) (fun h9 => ?_)
                  · replace h9 : ((heldDT s103) ((Sh.mkT s103) (newSink x0 x1 x2) 1) 1) < 0 := of_decide_eq_true h9
                    refine wp_seq ?_
                    refine at_regq (T := S_laws_FnExactNewSink_tab) [] { ts := [6, 11, 12], os := [] } [] gamOK hT h (by kernel_rfl) trivial ?_
                    intro a w h
                    refine then_normal ?_
                    refine wp_ret ?_
                    refine then_ret ?_
                    exact at_return (S := S_laws_FnExactNewSink) (x := (x0, x1, x2, ())) (false, ()) [] h (by kernel_rfl) trivial (congrArg (fun z => (z, ())) (show (false) = D_laws_FnExactNewSink x0 x1 x2 from by unfold D_laws_FnExactNewSink; (exfalso; simp only [held_marked, held_markedT, mkK, mkKT, Sh.ctT_mkT, Sh.ct_mk] at h9; first | omega | exact h9 trivial | exact h9 rfl)))
                  · replace h9 : ¬ (((heldDT s103) ((Sh.mkT s103) (newSink x0 x1 x2) 1) 1) < 0) := of_decide_eq_false h9
                    refine wp_skip ?_
                    refine then_normal ?_
                    refine wp_seq ?_
                    refine wp_seq ?_
                    refine at_regq (T := S_laws_FnExactNewSink_tab) [] { ts := [6, 75], os := [] } [] gamOK hT h (by kernel_rfl) trivial ?_
                    intro a w h
                    refine then_normal ?_
                    refine at_test (!decide (((heldDT s103) ((Sh.mkT s103) (newSink x0 x1 x2) 1) 1) = ((mkKT s103) (newSink x0 x1 x2) 1))) h (by kernel_rfl) (fun h10 => ?_) (fun h10 => ?_)
                    · replace h10 : ¬ (((heldDT s103) ((Sh.mkT s103) (newSink x0 x1 x2) 1) 1) = ((mkKT s103) (newSink x0 x1 x2) 1)) := by simpa using h10
                      refine wp_seq ?_
                      refine at_regq (T := S_laws_FnExactNewSink_tab) [] { ts := [6], os := [] } [] gamOK hT h (by kernel_rfl) trivial ?_
                      intro a w h
                      refine then_normal ?_
                      refine wp_ret ?_
                      refine then_ret ?_
                      exact at_return (S := S_laws_FnExactNewSink) (x := (x0, x1, x2, ())) (false, ()) [] h (by kernel_rfl) trivial (congrArg (fun z => (z, ())) (show (false) = D_laws_FnExactNewSink x0 x1 x2 from by unfold D_laws_FnExactNewSink; (exfalso; simp only [held_marked, held_markedT, mkK, mkKT, Sh.ctT_mkT, Sh.ct_mk] at h10; first | omega | exact h10 trivial | exact h10 rfl)))
                    · replace h10 : ((heldDT s103) ((Sh.mkT s103) (newSink x0 x1 x2) 1) 1) = ((mkKT s103) (newSink x0 x1 x2) 1) := by simpa using h10
                      refine wp_skip ?_
                      refine then_normal ?_
                      refine wp_seq ?_
                      refine at_regq (T := S_laws_FnExactNewSink_tab) [] { ts := [6], os := [] } [] gamOK hT h (by kernel_rfl) trivial ?_
                      intro a w h
                      refine then_normal ?_
                      refine wp_ret ?_
                      exact at_return (S := S_laws_FnExactNewSink) (x := (x0, x1, x2, ())) (true, ()) [] h (by kernel_rfl) trivial (congrArg (fun z => (z, ())) (show (true) = D_laws_FnExactNewSink x0 x1 x2 from by unfold D_laws_FnExactNewSink; rfl))

theorem opn3 : OpensS Try.prog 3 (.int 3) := opensS_int Try.underlying3
theorem co3 : Try.prog.cellsOf 3 = 1 := by kernel_rfl
theorem opn34 : OpensS Try.prog 34 s34 := opensS_slice (a := (.int 3)) Try.underlying34 co3 opn3
namespace fnExactNewSink
open Go.ChangeShapes Go.WideShapes Go.ChangeAt Go.RowKit
theorem own : ownKnob Try.prog.godebug = none := by kernel_rfl
theorem laidOut : laidOutB Try.prog = true := by kernel_rfl
set_option maxRecDepth 100000 in
theorem lifted (os : Os) (started : os.Started) (H : Type) (enc : TypeId × Value → H) :
    ReturnsInHanded {} Try.checked os 12 .any (Rows.fnExactNewSinkSpec.pre6 enc Try.prog Try.f12 Rows.fnExactNewSinkRow.domain false) (Rows.fnExactNewSinkSpec.post enc Try.prog Try.f12 false true false false) := by
  refine returnsInHanded_of_change (C := Try.checked) own started (by kernel_rfl) Try.func12
    (ChangeSpec.witness6 (enc := enc) (C := Try.checked) false ⟨#[], #[.int .i64 0, .int .i64 0, .slice none 0 0], []⟩ 8 (by kernel_rfl) (by kernel_rfl) (by kernel_rfl) (by kernel_rfl)) ?_
  intro W base args ds gs before hval0 hW hcnd _
  have hval : ∀ (j : Nat) t v, Try.f12.params[j]? = some t → args[j]? = some v → Value.okWide Try.prog W .any base t v := hval0
  have hW' := hW
  obtain ⟨p, q, hA0, hV, rfl, hfz, hnd⟩ := hW
  have hA : DataW.TrodAll enc Try.prog W 0 (fun _ => true) true Try.f12.params.toList args.toList ds p := hA0
  rw [Try.params12] at hA hval
  obtain ⟨v0, vs0, d0, ds0, p0, q0, hargs, rfl, rfl, h0, r0⟩ := trodAll_cons hA
  obtain ⟨v1, vs1, d1, ds1, p1, q1, rfl, rfl, rfl, h1, r1⟩ := trodAll_cons r0
  obtain ⟨v2, vs2, d2, ds2, p2, q2, rfl, rfl, rfl, h2, r2⟩ := trodAll_cons r1
  obtain ⟨rfl, rfl, rfl⟩ := trodAll_nil r2
  obtain rfl : args = #[v0, v1, v2] := by cases args; simp_all
  obtain ⟨rfl, rfl⟩ := trodVars_none hV
  have k0 := h0
  have lt0 : ∀ x ∈ p0, x.block < W.heap.size := by obtain ⟨m, hm⟩ := k0; exact DataW.trod_lt m _ _ _ hm
  obtain ⟨a0, rfl, rfl, rfl, w0⟩ := open_int Try.underlying3 (hval 0 3 v0 rfl rfl) h0
  have k1 := h1
  have lt1 : ∀ x ∈ p1, x.block < W.heap.size := by obtain ⟨m, hm⟩ := k1; exact DataW.trod_lt m _ _ _ hm
  obtain ⟨a1, rfl, rfl, rfl, w1⟩ := open_int Try.underlying3 (hval 1 3 v1 rfl rfl) h1
  have k2 := h2
  have lt2 : ∀ x ∈ p2, x.block < W.heap.size := by obtain ⟨m, hm⟩ := k2; exact DataW.trod_lt m _ _ _ hm
  obtain ⟨ad2, len2, cap2, rfl⟩ := okWide_slice Try.underlying34 (hval 2 34 v2 rfl rfl)
  obtain ⟨x2, hx2, i2⟩ : ∃ x : (s34).D, (s34).rd W (fun b => b < W.heap.size) [.slice ad2 len2 cap2] x ∧ (s34).i64 x := by obtain ⟨fuel, hf⟩ := h2; exact opn34 hf
  clear hA0 hval0
  refine (calls_law S_laws_FnExactNewSink_ok (by kernel_rfl) W (fun b => b < W.heap.size) [.int .i64 a0, .int .i64 a1, .slice ad2 len2 cap2] (a0, a1, x2, ()) (fun _ h => h) ⟨argRd_int a0, argRd_int a1, argRd_sl hx2, trivial⟩ ⟨(show I64 a0 from by unfold I64; simpa [Lit.wf, IntKind.min, IntKind.max, IntKind.signed, IntKind.bits] using w0), (show I64 a1 from by unfold I64; simpa [Lit.wf, IntKind.min, IntKind.max, IntKind.signed, IntKind.bits] using w1), i2⟩).mono fun e W' hr => ?_
  obtain ⟨he, bel⟩ := ret_bool hr
  subst he
  exact ⟨_, rfl, _, _, _, [], _, [], hW', trodAll_mk1 (shut_bool Try.underlying4 _), (trodAll_cons_mk (Below.trod laidOut (by kernel_rfl) (of_decide_eq_true (by kernel_rfl)) k0 bel lt0) (trodAll_cons_mk (Below.trod laidOut (by kernel_rfl) (of_decide_eq_true (by kernel_rfl)) k1 bel lt1) (trodAll_cons_mk (Below.trod laidOut (by kernel_rfl) (of_decide_eq_true (by kernel_rfl)) k2 bel lt2) trodAll_mk0))), rfl, bel.frame _, fun h => by cases h⟩
theorem over : Rows.fnExactNewSinkRow.holds Try.pinned (OpenSpec.ofChange Rows.fnExactNewSinkSpec) :=
  OpenClaim.holds_of_wide 12 Try.f12 rfl rfl rfl rfl rfl rfl rfl ⟨rfl, rfl, rfl, rfl, rfl⟩ rfl rfl rfl rfl rfl (by kernel_rfl) Try.func12 (by kernel_rfl)
    (of_decide_eq_true (by kernel_rfl)) (by unfold Func.isWrapper; first | (rw [if_pos (by decide +kernel)]; kernel_rfl) | (rw [if_neg (by decide +kernel)]; exact ⟨rfl, rfl⟩))
    (fun os started H enc _ => lifted os started H enc)
/-- the statement -/
theorem proved : Rows.FnExactNewSinkSaid := over
end fnExactNewSink

end Go.Proofs.Ytfbogeakgmickaa

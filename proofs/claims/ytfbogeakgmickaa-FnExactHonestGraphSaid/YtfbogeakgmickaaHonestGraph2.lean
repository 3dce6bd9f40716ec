/- The law FnExactHonestGraph returns true for every input and leaves its arguments as they were. No condition. -/
import Derived.Test.YtfbogeakgmickaaHonestGraph1
import Derived.Test.YtfbogeakgmickaaProg
import Derived.Test.YtfbogeakgmickaaRows
namespace Go.Proofs.Ytfbogeakgmickaa
open Go.RowKit
set_option linter.unusedVariables false
set_option linter.unusedSimpArgs false
def D_laws_FnExactHonestGraph := (fun (_ : T47) (_ : (List T164)) => true)
def S_laws_FnExactHonestGraph : Sum := { fid := 11, dom := [s47, s24], cod := [(.bool 4)], dp := true, fz := false, pre := fun x => (fun (x0 : T47) (x1 : (List T164)) => Sh.i64 s47 x0 ∧ Sh.i64 s24 x1) x.1 x.2.1, g := fun x => ((D_laws_FnExactHonestGraph x.1 x.2.1), ()) }
def S_laws_FnExactHonestGraph_tab : List (Nat × Sum) := [(29, S_laws_szGraph), (15, S_laws_szLedger), (31, S_laws_toGraph), (17, S_laws_toLedger), (67, S_spec_HonestGraph), (68, S_impl_HonestGraph), (34, S_laws_eqGraph), (19, S_laws_eqLedger), (36, S_laws_markGraph), (20, S_laws_markLedger), (38, S_laws_heldGraph)]
theorem S_laws_FnExactHonestGraph_ok : FnOK Try.prog 11 S_laws_FnExactHonestGraph := by
  refine at_enter 92 (fun x => ⟨[(0, aG [cI x.1.1, .ro s171 x.1.2]), (1, aG [.ro s164 x.2.1])], []⟩) Try.func11 rfl (by kernel_rfl) (fun x => rfl) ?_
  rintro w0 Z0 ⟨x0, x1, u⟩ a w
  revert x0 x1
  intro (x0 : T47) (x1 : (List T164)) hpre hlens h
  replace h : At w0 Z0 [] 92 ⟨[(0, aG [cI x0.1, .ro s171 x0.2]), (1, aG [.ro s164 x1])], []⟩ a w := h
  replace hpre : (fun (x0 : T47) (x1 : (List T164)) => Sh.i64 s47 x0 ∧ Sh.i64 s24 x1) x0 x1 := hpre
  have hl1 : List.length x0.2 ≤ 9223372036854775807 := hlens.1.2.1
  have hl2 : List.length x1 ≤ 9223372036854775807 := hlens.2.1.1
  have hT : TabOK Try.prog S_laws_FnExactHonestGraph_tab := (.cons S_laws_szGraph_ok (.cons S_laws_szLedger_ok (.cons S_laws_toGraph_ok (.cons S_laws_toLedger_ok (.cons S_spec_HonestGraph_ok (.cons S_impl_HonestGraph_ok (.cons S_laws_eqGraph_ok (.cons S_laws_eqLedger_ok (.cons S_laws_markGraph_ok (.cons S_laws_markLedger_ok (.cons S_laws_heldGraph_ok .nil)))))))))))
  have hq0 : Sh.sz s51 x0 = Sh.sz s47 x0 := rfl
  have hb0 : Sh.ctT s51 x0 ≤ 4 * Sh.sz s51 x0 := Sh.ctT_le2 s51 x0
  have hz0 : Sh.ct s51 x0 ≤ 4 * (1 + Sh.sz s51 x0) := Sh.ct_le s51 x0
  have ht0 : Sh.sz s47 x0 = (0 + (Sh.sz s45 x0.2)) := rfl
  have hs0_1 : Sh.sz s45 x0.2 = List.length x0.2 := sz_flat (by rfl) _
  have hq1 : Sh.sz s28 x1 = Sh.sz s24 x1 := rfl
  have hb1 : Sh.ctT s28 x1 ≤ 3 * Sh.sz s28 x1 := Sh.ctT_le2 s28 x1
  have hz1 : Sh.ct s28 x1 ≤ 3 * (1 + Sh.sz s28 x1) := Sh.ct_le s28 x1
  have ht1 : Sh.sz s24 x1 = (Sh.sz s22 x1) := rfl
  have hs1_1 : Sh.sz s22 x1 = List.length x1 := sz_flat (by rfl) _
  have hr1 : Sh.ctT s51 (D_spec_HonestGraph x0 x1) ≤ 4 * Sh.sz s51 (D_spec_HonestGraph x0 x1) := Sh.ctT_le2 s51 _
  have hr2 : Sh.sz s51 (D_spec_HonestGraph x0 x1) = 0 + Sh.sz s49 (D_spec_HonestGraph x0 x1).2 := rfl
  have hr3 : Sh.sz s49 (D_spec_HonestGraph x0 x1).2 = List.length (D_spec_HonestGraph x0 x1).2 := sz_flat (by rfl) _
  have hr4 : List.length (D_spec_HonestGraph x0 x1).2 ≤ List.length x0.2 := List.length_filter_le _ _
  have hr5 := honestGraph_eq x0 x1
  rw [← hr5] at hr1 hr2 hr3 hr4
  refine wp_seq ?_
  refine at_regq (T := S_laws_FnExactHonestGraph_tab) [{ ids := [1] }, { ids := [2] }] { ts := [2, 3, 4], os := [1, 2] } [] gamOK hT h (by kernel_rfl) trivial ?_
  intro a w h
  refine then_normal ?_
  refine wp_seq ?_
  refine at_regq (T := S_laws_FnExactHonestGraph_tab) [] { ts := [2, 3, 4, 5], os := [1, 2] } [] gamOK hT h (by kernel_rfl) trivial ?_
  intro a w h
  refine then_normal ?_
  refine wp_seq ?_
  refine at_regq (T := S_laws_FnExactHonestGraph_tab) [] { ts := [2, 3, 4, 5], os := [1, 2] } [(pSz s47) x0 1048576] gamOK hT h (by kernel_rfl) ⟨(by (show (0 : Int) ≤ _ ∧ _ ≤ (9223372036854775807 : Int); constructor <;> omega)), trivial⟩ ?_
  intro a w h
  refine then_normal ?_
  refine wp_seq ?_
  refine wp_seq ?_
  refine at_reg (T := S_laws_FnExactHonestGraph_tab) [] { ts := [2, 3, 4, 5, 18], os := [1, 2] } ⟨[(2, aP 1 0), (3, aP 2 0), (4, aB false), (5, aI ((szD s47) x0 1048576)), (18, aB (decide (((szD s47) x0 1048576) < 0)))], [(1, oX 47 [cI x0.1, .ro s171 x0.2]), (2, oX 24 [.ro s164 x1])]⟩ [] gamOK hT h (by kernel_rfl) trivial ?_
  intro a w h
  refine then_normal ?_
  refine at_test (decide (((szD s47) x0 1048576) < 0)) h (by kernel_rfl) (fun h1 => ?_) (fun h1 => ?_)
  · replace h1 : ((szD s47) x0 1048576) < 0 := of_decide_eq_true h1
    have hvh1 := szD_neg h1 (by omega)
    refine wp_seq ?_
    refine at_regq (T := S_laws_FnExactHonestGraph_tab) [] { ts := [2, 3, 4, 5], os := [1, 2] } [] gamOK hT h (by kernel_rfl) trivial ?_
    intro a w h
    refine then_normal ?_
    refine wp_ret ?_
    refine then_ret ?_
    exact at_return (S := S_laws_FnExactHonestGraph) (x := (x0, x1, ())) (true, ()) [] h (by kernel_rfl) trivial (congrArg (fun z => (z, ())) (show (true) = D_laws_FnExactHonestGraph x0 x1 from by unfold D_laws_FnExactHonestGraph; rfl))
  · replace h1 : ¬ (((szD s47) x0 1048576) < 0) := of_decide_eq_false h1
    have hvh1 := szD_val h1 (by omega)
    refine wp_skip ?_
    refine then_normal ?_
    refine wp_seq ?_
    refine at_regq (T := S_laws_FnExactHonestGraph_tab) [] { ts := [2, 3, 4, 5], os := [1, 2] } [(pSz s24) x1 ((szD s47) x0 1048576)] gamOK hT h (by kernel_rfl) ⟨(by (show (0 : Int) ≤ _ ∧ _ ≤ (9223372036854775807 : Int); constructor <;> omega)), trivial⟩ ?_
    intro a w h
    refine then_normal ?_
    refine wp_seq ?_
    refine wp_seq ?_
    refine at_regq (T := S_laws_FnExactHonestGraph_tab) [] { ts := [2, 3, 4, 23], os := [1, 2] } [] gamOK hT h (by kernel_rfl) trivial ?_
    intro a w h
    refine then_normal ?_
    refine at_test (decide (((szD s24) x1 ((szD s47) x0 1048576)) < 0)) h (by kernel_rfl) (fun h2 => ?_) (fun h2 => ?_)
    · replace h2 : ((szD s24) x1 ((szD s47) x0 1048576)) < 0 := of_decide_eq_true h2
      have hvh2 := szD_neg h2 (by omega)
      refine wp_seq ?_
      refine at_regq (T := S_laws_FnExactHonestGraph_tab) [] { ts := [2, 3, 4], os := [1, 2] } [] gamOK hT h (by kernel_rfl) trivial ?_
      intro a w h
      refine then_normal ?_
      refine wp_ret ?_
      refine then_ret ?_
      exact at_return (S := S_laws_FnExactHonestGraph) (x := (x0, x1, ())) (true, ()) [] h (by kernel_rfl) trivial (congrArg (fun z => (z, ())) (show (true) = D_laws_FnExactHonestGraph x0 x1 from by unfold D_laws_FnExactHonestGraph; rfl))
    · replace h2 : ¬ (((szD s24) x1 ((szD s47) x0 1048576)) < 0) := of_decide_eq_false h2
      have hvh2 := szD_val h2 (by omega)
      refine wp_skip ?_
      refine then_normal ?_
      refine wp_seq ?_
      refine at_anyq (T := S_laws_FnExactHonestGraph_tab) [{}, { ids := [3] }, {}, { ids := [4] }, { ids := [5] }, { ids := [6] }, {}] { ts := [2, 3, 4, 6], os := [1, 2, 5, 6] } [(pTo s47) x0, (pTo s24) x1, (fun (x0 : T51) (x1 : (List T114)) => Sh.fit s51 x0 ∧ Sh.fit s28 x1) x0 x1] gamOK hT mixed h (by kernel_rfl) ⟨(by (show Sh.sz _ _ ≤ 1048576; omega)), (by (show Sh.sz _ _ ≤ 1048576; omega)), (by exact ⟨(Sh.fit_of_sz s51 rfl (x := x0) (by omega)), (Sh.fit_of_sz s28 rfl (x := x1) (by omega))⟩), trivial⟩ ?_
      intro a w h
      refine then_normal ?_
      refine wp_seq ?_
      refine at_reg (T := S_laws_FnExactHonestGraph_tab) [{}, { ids := [7] }, { ids := [8] }] { ts := [2, 3, 4, 6, 7], os := [1, 2, 5, 6, 7, 8] } ⟨[(2, aP 1 0), (3, aP 2 0), (4, aB false), (6, aP 6 0), (7, aP 8 0)], [(1, oX 47 [cI x0.1, .ro s171 x0.2]), (2, oX 24 [.ro s164 x1]), (5, oR s127 (D_spec_HonestGraph x0 x1).2), (6, oX 51 [cI (D_spec_HonestGraph x0 x1).1, .sl 5]), (7, oR s127 x0.2), (8, oX 51 [cI x0.1, .sl 7])]⟩ [(pTo s47) x0] gamOK hT h (by kernel_rfl) ⟨(by (show Sh.sz _ _ ≤ 1048576; omega)), trivial⟩ ?_
      intro a w h
      refine then_normal ?_
      refine wp_seq ?_
      refine at_regq (T := S_laws_FnExactHonestGraph_tab) [{}, { ids := [9] }, { ids := [10] }] { ts := [2, 3, 4, 6, 7, 8], os := [1, 2, 5, 6, 7, 8, 9, 10] } [(pTo s24) x1] gamOK hT h (by kernel_rfl) ⟨(by (show Sh.sz _ _ ≤ 1048576; omega)), trivial⟩ ?_
      intro a w h
      refine then_normal ?_
      refine wp_seq ?_
      refine at_regq (T := S_laws_FnExactHonestGraph_tab) [{}, {}, { ids := [11] }, { ids := [12] }] { ts := [2, 3, 4, 6, 7, 8, 9], os := [1, 2, 5, 6, 7, 8, 9, 10, 11, 12] } [(fun (x0 : T51) (x1 : (List T114)) => Sh.fit s51 x0 ∧ Sh.fit s28 x1) x0 x1] gamOK hT h (by kernel_rfl) ⟨(by exact ⟨(Sh.fit_of_sz s51 rfl (x := x0) (by omega)), (Sh.fit_of_sz s28 rfl (x := x1) (by omega))⟩), trivial⟩ ?_
      intro a w h
      refine then_normal ?_
      refine wp_seq ?_
      refine wp_seq ?_
      refine at_regq (T := S_laws_FnExactHonestGraph_tab) [] { ts := [2, 3, 4, 6, 7, 8, 9, 39], os := [1, 2, 5, 6, 7, 8, 9, 10, 11, 12] } [True] gamOK hT h (by kernel_rfl) ⟨trivial, trivial⟩ ?_
      intro a w h
      refine then_normal ?_
      refine at_test (!((Sh.eqB s51) (D_impl_HonestGraph x0 x1) (D_spec_HonestGraph x0 x1))) h (by kernel_rfl) (fun h3 => ?_) (fun h3 => ?_)
      · replace h3 : ((Sh.eqB s51) (D_impl_HonestGraph x0 x1) (D_spec_HonestGraph x0 x1)) = false := notT h3
        refine wp_seq ?_
        refine at_reg (T := S_laws_FnExactHonestGraph_tab) [] { ts := [2, 3, 4, 6, 7, 8, 9], os := [1, 2, 5, 6, 7, 8, 9, 10, 11, 12] } ⟨[(2, aP 1 0), (3, aP 2 0), (4, aB false), (6, aP 6 0), (7, aP 8 0), (8, aP 10 0), (9, aP 12 0)], [(1, oX 47 [cI x0.1, .ro s171 x0.2]), (2, oX 24 [.ro s164 x1]), (5, oR s127 (D_spec_HonestGraph x0 x1).2), (6, oX 51 [cI (D_spec_HonestGraph x0 x1).1, .sl 5]), (7, oR s127 x0.2), (8, oX 51 [cI x0.1, .sl 7]), (9, oR s114 x1), (10, oX 28 [.sl 9]), (11, oR s127 (D_impl_HonestGraph x0 x1).2), (12, oX 51 [cI (D_impl_HonestGraph x0 x1).1, .sl 11])]⟩ [] gamOK hT h (by kernel_rfl) trivial ?_
        intro a w h
        refine then_normal ?_
        refine wp_ret ?_
        refine then_ret ?_
        exact at_return (S := S_laws_FnExactHonestGraph) (x := (x0, x1, ())) (false, ()) [] h (by kernel_rfl) trivial (congrArg (fun z => (z, ())) (show (false) = D_laws_FnExactHonestGraph x0 x1 from by unfold D_laws_FnExactHonestGraph; exact absurd ((Sh.eqB_iff _).2 (show _ = _ from by first | rfl | (exact honestGraph_eq _ _))) (neT h3)))
      · replace h3 : ((Sh.eqB s51) (D_impl_HonestGraph x0 x1) (D_spec_HonestGraph x0 x1)) = true := notF h3
        refine wp_skip ?_
        refine then_normal ?_
        refine wp_seq ?_
        refine wp_seq ?_
        refine at_any (T := S_laws_FnExactHonestGraph_tab) [{}, {}, { ids := [13] }, {}, {}] { ts := [2, 3, 4, 6, 7, 8, 9, 44], os := [1, 2, 5, 6, 7, 8, 9, 10, 11, 12] } ⟨[(2, aP 1 0), (3, aP 2 0), (4, aB false), (6, aP 6 0), (7, aP 8 0), (8, aP 10 0), (9, aP 12 0), (44, aB (!((Sh.eqB s51) x0 x0)))], [(1, oX 47 [cI x0.1, .ro s171 x0.2]), (2, oX 24 [.ro s164 x1]), (5, oR s127 (D_spec_HonestGraph x0 x1).2), (6, oX 51 [cI (D_spec_HonestGraph x0 x1).1, .sl 5]), (7, oR s127 x0.2), (8, oX 51 [cI x0.1, .sl 7]), (9, oR s114 x1), (10, oX 28 [.sl 9]), (11, oR s127 (D_impl_HonestGraph x0 x1).2), (12, oX 51 [cI (D_impl_HonestGraph x0 x1).1, .sl 11])]⟩ [(pTo s47) x0, True] gamOK hT mixed h (by kernel_rfl) ⟨(by (show Sh.sz _ _ ≤ 1048576; omega)), trivial, trivial⟩ ?_
        intro a w h
        refine then_normal ?_
        refine at_test (!((Sh.eqB s51) x0 x0)) h (by kernel_rfl) (fun h4 => ?_) (fun h4 => ?_)
        · replace h4 : ((Sh.eqB s51) x0 x0) = false := notT h4
          refine wp_seq ?_
          refine at_regq (T := S_laws_FnExactHonestGraph_tab) [] { ts := [2, 3, 4, 6, 7, 8, 9], os := [1, 2, 5, 6, 7, 8, 9, 10, 11, 12] } [] gamOK hT h (by kernel_rfl) trivial ?_
          intro a w h
          refine then_normal ?_
          refine wp_ret ?_
          refine then_ret ?_
          exact at_return (S := S_laws_FnExactHonestGraph) (x := (x0, x1, ())) (false, ()) [] h (by kernel_rfl) trivial (congrArg (fun z => (z, ())) (show (false) = D_laws_FnExactHonestGraph x0 x1 from by unfold D_laws_FnExactHonestGraph; exact absurd ((Sh.eqB_iff _).2 (show _ = _ from by first | rfl | (exact honestGraph_eq _ _))) (neT h4)))
        · replace h4 : ((Sh.eqB s51) x0 x0) = true := notF h4
          refine wp_skip ?_
          refine then_normal ?_
          refine wp_seq ?_
          refine wp_seq ?_
          refine at_anyq (T := S_laws_FnExactHonestGraph_tab) [{}, {}, { ids := [14] }, {}, {}] { ts := [2, 3, 4, 6, 7, 8, 9, 49], os := [1, 2, 5, 6, 7, 8, 9, 10, 11, 12] } [(pTo s24) x1, True] gamOK hT mixed h (by kernel_rfl) ⟨(by (show Sh.sz _ _ ≤ 1048576; omega)), trivial, trivial⟩ ?_
          intro a w h
          refine then_normal ?_
          refine at_test (!((Sh.eqB s28) x1 x1)) h (by kernel_rfl) (fun h5 => ?_) (fun h5 => ?_)
          · replace h5 : ((Sh.eqB s28) x1 x1) = false := notT h5
            refine wp_seq ?_
            refine at_regq (T := S_laws_FnExactHonestGraph_tab) [] { ts := [2, 3, 4, 6, 7, 8, 9], os := [1, 2, 5, 6, 7, 8, 9, 10, 11, 12] } [] gamOK hT h (by kernel_rfl) trivial ?_
            intro a w h
            refine then_normal ?_
            refine wp_ret ?_
            refine then_ret ?_
            exact at_return (S := S_laws_FnExactHonestGraph) (x := (x0, x1, ())) (false, ()) [] h (by kernel_rfl) trivial (congrArg (fun z => (z, ())) (show (false) = D_laws_FnExactHonestGraph x0 x1 from by unfold D_laws_FnExactHonestGraph; exact absurd ((Sh.eqB_iff _).2 (show _ = _ from by first | rfl | (exact honestGraph_eq _ _))) (neT h5)))
          · replace h5 : ((Sh.eqB s28) x1 x1) = true := notF h5
            refine wp_skip ?_
            refine then_normal ?_
            refine wp_seq ?_
            refine at_regq (T := S_laws_FnExactHonestGraph_tab) [] { ts := [2, 3, 4, 6, 7, 8, 9, 10], os := [1, 2, 5, 6, 7, 8, 9, 10, 11, 12] } [] gamOK hT h (by kernel_rfl) trivial ?_
            intro a w h
            refine then_normal ?_
            refine wp_seq ?_
            refine at_regq (T := S_laws_FnExactHonestGraph_tab) [] { ts := [2, 3, 4, 6, 8, 9, 10], os := [1, 2, 5, 6, 9, 10, 11, 12] } [(pMkT s51) x0 1] gamOK hT h (by kernel_rfl) ⟨(by (show (0 : Int) ≤ _ ∧ _ + ((Sh.ctT _ _ : Nat) : Int) ≤ (4611686018427387904 : Int); (try simp only [mkK, mkKT, Sh.ctT_mkT, Sh.ct_mk]); constructor <;> omega)), trivial⟩ ?_
            intro a w h
            refine then_normal ?_
            refine wp_seq ?_
            refine at_reg (T := S_laws_FnExactHonestGraph_tab) [] { ts := [2, 3, 4, 6, 9, 10], os := [1, 2, 5, 6, 11, 12] } ⟨[(2, aP 1 0), (3, aP 2 0), (4, aB false), (6, aP 6 0), (9, aP 12 0), (10, aI ((mkKT s28) x1 ((mkKT s51) x0 1)))], [(1, oX 47 [cI x0.1, .ro s171 x0.2]), (2, oX 24 [.ro s164 x1]), (5, oR s127 (D_spec_HonestGraph x0 x1).2), (6, oX 51 [cI (D_spec_HonestGraph x0 x1).1, .sl 5]), (11, oR s127 (D_impl_HonestGraph x0 x1).2), (12, oX 51 [cI (D_impl_HonestGraph x0 x1).1, .sl 11])]⟩ [(pMkT s28) x1 ((mkKT s51) x0 1)] gamOK hT h (by kernel_rfl) ⟨(by (show (0 : Int) ≤ _ ∧ _ + ((Sh.ctT _ _ : Nat) : Int) ≤ (4611686018427387904 : Int); (try simp only [mkK, mkKT, Sh.ctT_mkT, Sh.ct_mk]); constructor <;> omega)), trivial⟩ ?_
            intro a w h
            refine then_normal ?_
            refine wp_seq ?_
            refine wp_seq ?_
            by_cases h6 : ((mkKT s28) x1 ((mkKT s51) x0 1)) < 0
            · skip
              refine at_regq (T := S_laws_FnExactHonestGraph_tab) [{}, { hint := some (aB true) }] { ts := [2, 3, 4, 6, 9, 63], os := [1, 2, 5, 6, 11, 12] } [(AV.p (.c (.v (.bool (decide (((mkKT s28) x1 ((mkKT s51) x0 1)) < 0))))) = AV.p (.c (.v (.bool true))))] gamOK hT h (by kernel_rfl) ⟨hint_bool (decide_eq_true h6), trivial⟩ ?_
              intro a w h
              refine then_normal ?_
              refine at_test true h (by kernel_rfl) (fun hh => ?_) (fun hh => nomatch hh)
              refine wp_seq ?_
              refine at_regq (T := S_laws_FnExactHonestGraph_tab) [] { ts := [2, 3, 4, 6, 9], os := [1, 2, 5, 6, 11, 12] } [] gamOK hT h (by kernel_rfl) trivial ?_
              intro a w h
              refine then_normal ?_
              refine wp_ret ?_
              refine then_ret ?_
              exact at_return (S := S_laws_FnExactHonestGraph) (x := (x0, x1, ())) (false, ()) [] h (by kernel_rfl) trivial (congrArg (fun z => (z, ())) (show (false) = D_laws_FnExactHonestGraph x0 x1 from by unfold D_laws_FnExactHonestGraph; (exfalso; simp only [mkK, mkKT, Sh.ctT_mkT, Sh.ct_mk] at h6; first | omega | exact h6 trivial | exact h6 rfl)))
            · skip
              refine at_regq (T := S_laws_FnExactHonestGraph_tab) [{}, { hint := some (aB false) }] { ts := [2, 3, 4, 6, 9, 63], os := [1, 2, 5, 6, 11, 12] } [(AV.p (.c (.v (.bool (decide (((mkKT s28) x1 ((mkKT s51) x0 1)) < 0))))) = AV.p (.c (.v (.bool false)))), True] gamOK hT h (by kernel_rfl) ⟨hint_bool (decide_eq_false h6), trivial, trivial⟩ ?_
              intro a w h
              refine then_normal ?_
              refine at_test (!((Sh.eqB s51) (D_impl_HonestGraph x0 x1) (D_spec_HonestGraph x0 x1))) h (by kernel_rfl) (fun h7 => ?_) (fun h7 => ?_)
              · replace h7 : ((Sh.eqB s51) (D_impl_HonestGraph x0 x1) (D_spec_HonestGraph x0 x1)) = false := notT h7
                refine wp_seq ?_
                refine at_regq (T := S_laws_FnExactHonestGraph_tab) [] { ts := [2, 3, 4, 6, 9], os := [1, 2, 5, 6, 11, 12] } [] gamOK hT h (by kernel_rfl) trivial ?_
                intro a w h
                refine then_normal ?_
                refine wp_ret ?_
                refine then_ret ?_
                exact at_return (S := S_laws_FnExactHonestGraph) (x := (x0, x1, ())) (false, ()) [] h (by kernel_rfl) trivial (congrArg (fun z => (z, ())) (show (false) = D_laws_FnExactHonestGraph x0 x1 from by unfold D_laws_FnExactHonestGraph; exact absurd ((Sh.eqB_iff _).2 (show _ = _ from by first | rfl | (exact honestGraph_eq _ _))) (neT h7)))
              · replace h7 : ((Sh.eqB s51) (D_impl_HonestGraph x0 x1) (D_spec_HonestGraph x0 x1)) = true := notF h7
                refine wp_skip ?_
                refine then_normal ?_
                refine wp_seq ?_
                refine at_regq (T := S_laws_FnExactHonestGraph_tab) [] { ts := [2, 3, 4, 6, 9, 11], os := [1, 2, 5, 6, 11, 12] } [] gamOK hT h (by kernel_rfl) trivial ?_
                intro a w h
                refine then_normal ?_
                refine wp_seq ?_
                refine at_regq (T := S_laws_FnExactHonestGraph_tab) [] { ts := [2, 3, 4, 6, 9, 11], os := [1, 2, 5, 6, 11, 12] } [(pMkT s51) (D_impl_HonestGraph x0 x1) 1] gamOK hT h (by kernel_rfl) ⟨(by (show (0 : Int) ≤ _ ∧ _ + ((Sh.ctT _ _ : Nat) : Int) ≤ (4611686018427387904 : Int); (try simp only [mkK, mkKT, Sh.ctT_mkT, Sh.ct_mk]); constructor <;> omega)), trivial⟩ ?_
                intro a w h
                refine then_normal ?_
                refine wp_seq ?_
                refine at_reg (T := S_laws_FnExactHonestGraph_tab) [] { ts := [2, 3, 4, 6, 9, 11, 12], os := [1, 2, 5, 6, 11, 12] } ⟨[(2, aP 1 0), (3, aP 2 0), (4, aB false), (6, aP 6 0), (9, aP 12 0), (11, aI ((mkKT s51) (D_impl_HonestGraph x0 x1) 1)), (12, aI 1)], [(1, oX 47 [cI x0.1, .ro s171 x0.2]), (2, oX 24 [.ro s164 x1]), (5, oR s127 (D_spec_HonestGraph x0 x1).2), (6, oX 51 [cI (D_spec_HonestGraph x0 x1).1, .sl 5]), (11, oR s127 ((Sh.mkT s51) (D_impl_HonestGraph x0 x1) 1).2), (12, oX 51 [cI (D_impl_HonestGraph x0 x1).1, .sl 11])]⟩ [] gamOK hT h (by kernel_rfl) trivial ?_
                intro a w h
                refine then_normal ?_
                refine wp_seq ?_
                refine at_regq (T := S_laws_FnExactHonestGraph_tab) [] { ts := [2, 3, 4, 6, 9, 11, 12], os := [1, 2, 5, 6, 11, 12] } [(pMkT s51) ((Sh.mkT s51) (D_impl_HonestGraph x0 x1) 1) 1] gamOK hT h (by kernel_rfl) ⟨(by (show (0 : Int) ≤ _ ∧ _ + ((Sh.ctT _ _ : Nat) : Int) ≤ (4611686018427387904 : Int); (try simp only [mkK, mkKT, Sh.ctT_mkT, Sh.ct_mk]); constructor <;> omega)), trivial⟩ ?_
                intro a w h
                refine then_normal ?_
                refine wp_seq ?_
                refine wp_seq ?_
                refine at_regq (T := S_laws_FnExactHonestGraph_tab) [] { ts := [2, 3, 4, 6, 9, 11, 12, 71], os := [1, 2, 5, 6, 11, 12] } [] gamOK hT h (by kernel_rfl) trivial ?_
                intro a w h
                refine then_normal ?_
                refine at_test (decide (((heldDT s51) ((Sh.mkT s51) (D_impl_HonestGraph x0 x1) 1) 1) < 0)) h (by kernel_rfl) (fun h8 => ?_) (fun h8 => ?_)
                · replace h8 : ((heldDT s51) ((Sh.mkT s51) (D_impl_HonestGraph x0 x1) 1) 1) < 0 := of_decide_eq_true h8
                  refine wp_seq ?_
                  refine at_regq (T := S_laws_FnExactHonestGraph_tab) [] { ts := [2, 3, 4, 6, 9, 11, 12], os := [1, 2, 5, 6, 11, 12] } [] gamOK hT h (by kernel_rfl) trivial ?_
                  intro a w h
                  refine then_normal ?_
                  refine wp_ret ?_
                  refine then_ret ?_
                  exact at_return (S := S_laws_FnExactHonestGraph) (x := (x0, x1, ())) (false, ()) [] h (by kernel_rfl) trivial (congrArg (fun z => (z, ())) (show (false) = D_laws_FnExactHonestGraph x0 x1 from by unfold D_laws_FnExactHonestGraph; (exfalso; simp only [held_marked, held_markedT, mkK, mkKT, Sh.ctT_mkT, Sh.ct_mk] at h8; first | omega | exact h8 trivial | exact h8 rfl)))
                · replace h8 : ¬ (((heldDT s51) ((Sh.mkT s51) (D_impl_HonestGraph x0 x1) 1) 1) < 0) := of_decide_eq_false h8
                  refine wp_skip ?_
                  refine then_normal ?_
                  refine wp_seq ?_
                  refine wp_seq ?_
                  refine at_regq (T := S_laws_FnExactHonestGraph_tab) [] { ts := [2, 3, 4, 6, 9, 11, 74], os := [1, 2, 5, 6, 11, 12] } [] gamOK hT h (by kernel_rfl) trivial ?_
                  intro a w h
                  refine then_normal ?_
                  refine at_test (!decide (((heldDT s51) ((Sh.mkT s51) (D_impl_HonestGraph x0 x1) 1) 1) = ((mkKT s51) (D_impl_HonestGraph x0 x1) 1))) h (by kernel_rfl) (fun h9 => ?_) (fun h9 => ?_)
                  · replace h9 : ¬ (((heldDT s51) ((Sh.mkT s51) (D_impl_HonestGraph x0 x1) 1) 1) = ((mkKT s51) (D_impl_HonestGraph x0 x1) 1)) := by simpa using h9
                    refine wp_seq ?_
                    refine at_reg (T := S_laws_FnExactHonestGraph_tab) [] { ts := [2, 3, 4, 6, 9, 11], os := [1, 2, 5, 6, 11, 12] } ⟨[(2, aP 1 0), (3, aP 2 0), (4, aB false), (6, aP 6 0), (9, aP 12 0), (11, aI ((mkKT s51) (D_impl_HonestGraph x0 x1) 1))], [(1, oX 47 [cI x0.1, .ro s171 x0.2]), (2, oX 24 [.ro s164 x1]), (5, oR s127 (D_spec_HonestGraph x0 x1).2), (6, oX 51 [cI (D_spec_HonestGraph x0 x1).1, .sl 5]), (11, oR s127 ((Sh.mkT s51) (D_impl_HonestGraph x0 x1) 1).2), (12, oX 51 [cI (D_impl_HonestGraph x0 x1).1, .sl 11])]⟩ [] gamOK hT h (by kernel_rfl) trivial ?_
                    intro a w h
                    refine then_normal ?_
                    refine wp_ret ?_
                    refine then_ret ?_
                    exact at_return (S := S_laws_FnExactHonestGraph) (x := (x0, x1, ())) (false, ()) [] h (by kernel_rfl) trivial (congrArg (fun z => (z, ())) (show (false) = D_laws_FnExactHonestGraph x0 x1 from by unfold D_laws_FnExactHonestGraph; (exfalso; simp only [held_marked, held_markedT, mkK, mkKT, Sh.ctT_mkT, Sh.ct_mk] at h9; first | omega | exact h9 trivial | exact h9 rfl)))
                  · replace h9 : ((heldDT s51) ((Sh.mkT s51) (D_impl_HonestGraph x0 x1) 1) 1) = ((mkKT s51) (D_impl_HonestGraph x0 x1) 1) := by simpa using h9
                    refine wp_skip ?_
                    refine then_normal ?_
                    refine wp_seq ?_
                    refine at_any (T := S_laws_FnExactHonestGraph_tab) [{}, { ids := [15] }, {}, { ids := [16] }, { ids := [17] }, { ids := [18] }, {}] { ts := [4, 6, 9, 11, 13], os := [5, 6, 11, 12, 17, 18] } ⟨[(4, aB false), (6, aP 6 0), (9, aP 12 0), (11, aI ((mkKT s51) (D_impl_HonestGraph x0 x1) 1)), (13, aP 18 0)], [(5, oR s127 (D_spec_HonestGraph x0 x1).2), (6, oX 51 [cI (D_spec_HonestGraph x0 x1).1, .sl 5]), (11, oR s127 ((Sh.mkT s51) (D_impl_HonestGraph x0 x1) 1).2), (12, oX 51 [cI (D_impl_HonestGraph x0 x1).1, .sl 11]), (17, oR s127 (D_impl_HonestGraph x0 x1).2), (18, oX 51 [cI (D_impl_HonestGraph x0 x1).1, .sl 17])]⟩ [(pTo s47) x0, (pTo s24) x1, (fun (x0 : T51) (x1 : (List T114)) => Sh.fit s51 x0 ∧ Sh.fit s28 x1) x0 x1] gamOK hT mixed h (by kernel_rfl) ⟨(by (show Sh.sz _ _ ≤ 1048576; omega)), (by (show Sh.sz _ _ ≤ 1048576; omega)), (by exact ⟨(Sh.fit_of_sz s51 rfl (x := x0) (by omega)), (Sh.fit_of_sz s28 rfl (x := x1) (by omega))⟩), trivial⟩ ?_
                    intro a w h
                    refine then_normal ?_
                    refine wp_seq ?_
                    refine wp_seq ?_
                    refine at_regq (T := S_laws_FnExactHonestGraph_tab) [] { ts := [4, 9, 11, 83], os := [11, 12] } [True] gamOK hT h (by kernel_rfl) ⟨trivial, trivial⟩ ?_
                    intro a w h
                    refine then_normal ?_
                    refine at_test (!((Sh.eqB s51) (D_impl_HonestGraph x0 x1) (D_spec_HonestGraph x0 x1))) h (by kernel_rfl) (fun h10 => ?_) (fun h10 => ?_)
                    · replace h10 : ((Sh.eqB s51) (D_impl_HonestGraph x0 x1) (D_spec_HonestGraph x0 x1)) = false := notT h10
                      refine wp_seq ?_
                      refine at_regq (T := S_laws_FnExactHonestGraph_tab) [] { ts := [4, 9, 11], os := [11, 12] } [] gamOK hT h (by kernel_rfl) trivial ?_
                      intro a w h
                      refine then_normal ?_
                      refine wp_ret ?_
                      refine then_ret ?_
                      exact at_return (S := S_laws_FnExactHonestGraph) (x := (x0, x1, ())) (false, ()) [] h (by kernel_rfl) trivial (congrArg (fun z => (z, ())) (show (false) = D_laws_FnExactHonestGraph x0 x1 from by unfold D_laws_FnExactHonestGraph; exact absurd ((Sh.eqB_iff _).2 (show _ = _ from by first | rfl | (exact honestGraph_eq _ _))) (neT h10)))
                    · replace h10 : ((Sh.eqB s51) (D_impl_HonestGraph x0 x1) (D_spec_HonestGraph x0 x1)) = true := notF h10
                      refine wp_skip ?_
                      refine then_normal ?_
                      refine wp_seq ?_
                      refine at_regq (T := S_laws_FnExactHonestGraph_tab) [] { ts := [4, 9, 11, 12], os := [11, 12] } [] gamOK hT h (by kernel_rfl) trivial ?_
                      intro a w h
                      refine then_normal ?_
                      refine wp_seq ?_
                      refine at_regq (T := S_laws_FnExactHonestGraph_tab) [] { ts := [4, 11, 12], os := [] } [(pMkT s51) ((Sh.mkT s51) (D_impl_HonestGraph x0 x1) 1) 1] gamOK hT h (by kernel_rfl) ⟨(by (show (0 : Int) ≤ _ ∧ _ + ((Sh.ctT _ _ : Nat) : Int) ≤ (4611686018427387904 : Int); (try simp only [mkK, mkKT, Sh.ctT_mkT, Sh.ct_mk]); constructor <;> omega)), trivial⟩ ?_
                      intro a w h
                      refine then_normal ?_
                      refine wp_seq ?_
                      refine wp_seq ?_
                      refine at_reg (T := S_laws_FnExactHonestGraph_tab) [] { ts := [4, 11, 12, 88], os := [] } ⟨[(4, aB false), (11, aI ((mkKT s51) (D_impl_HonestGraph x0 x1) 1)), (12, aI ((heldDT s51) ((Sh.mkT s51) (D_impl_HonestGraph x0 x1) 1) 1)), (88, aB (decide (((heldDT s51) ((Sh.mkT s51) (D_impl_HonestGraph x0 x1) 1) 1) < 0)))], []⟩ [] gamOK hT h (by kernel_rfl) trivial ?_
                      intro a w h
                      refine then_normal ?_
                      refine at_test (decide (((heldDT s51) ((Sh.mkT s51) (D_impl_HonestGraph x0 x1) 1) 1) < 0)) h (by kernel_rfl) (fun h11 => ?_) (fun h11 => ?_)
                      · replace h11 : ((heldDT s51) ((Sh.mkT s51) (D_impl_HonestGraph x0 x1) 1) 1) < 0 := of_decide_eq_true h11
                        refine wp_seq ?_
                        refine at_regq (T := S_laws_FnExactHonestGraph_tab) [] { ts := [4, 11, 12], os := [] } [] gamOK hT h (by kernel_rfl) trivial ?_
                        intro a w h
                        refine then_normal ?_
                        refine wp_ret ?_
                        refine then_ret ?_
                        exact at_return (S := S_laws_FnExactHonestGraph) (x := (x0, x1, ())) (false, ()) [] h (by kernel_rfl) trivial (congrArg (fun z => (z, ())) (show (false) = D_laws_FnExactHonestGraph x0 x1 from by unfold D_laws_FnExactHonestGraph; (exfalso; simp only [held_marked, held_markedT, mkK, mkKT, Sh.ctT_mkT, Sh.ct_mk] at h11; first | omega | exact h11 trivial | exact h11 rfl)))
                      · replace h11 : ¬ (((heldDT s51) ((Sh.mkT s51) (D_impl_HonestGraph x0 x1) 1) 1) < 0) := of_decide_eq_false h11
                        refine wp_skip ?_
                        refine then_normal ?_
                        refine wp_seq ?_
                        refine wp_seq ?_
                        refine at_regq (T := S_laws_FnExactHonestGraph_tab) [] { ts := [4, 91], os := [] } [] gamOK hT h (by kernel_rfl) trivial ?_
                        intro a w h
                        refine then_normal ?_
                        refine at_test (!decide (((heldDT s51) ((Sh.mkT s51) (D_impl_HonestGraph x0 x1) 1) 1) = ((mkKT s51) (D_impl_HonestGraph x0 x1) 1))) h (by kernel_rfl) (fun h12 => ?_) (fun h12 => ?_)
                        · replace h12 : ¬ (((heldDT s51) ((Sh.mkT s51) (D_impl_HonestGraph x0 x1) 1) 1) = ((mkKT s51) (D_impl_HonestGraph x0 x1) 1)) := by simpa using h12
                          refine wp_seq ?_
                          refine at_regq (T := S_laws_FnExactHonestGraph_tab) [] { ts := [4], os := [] } [] gamOK hT h (by kernel_rfl) trivial ?_
                          intro a w h
                          refine then_normal ?_
                          refine wp_ret ?_
                          refine then_ret ?_
                          exact at_return (S := S_laws_FnExactHonestGraph) (x := (x0, x1, ())) (false, ()) [] h (by kernel_rfl) trivial (congrArg (fun z => (z, ())) (show (false) = D_laws_FnExactHonestGraph x0 x1 from by unfold D_laws_FnExactHonestGraph; (exfalso; simp only [held_marked, held_markedT, mkK, mkKT, Sh.ctT_mkT, Sh.ct_mk] at h12; first | omega | exact h12 trivial | exact h12 rfl)))
                        · replace h12 : ((heldDT s51) ((Sh.mkT s51) (D_impl_HonestGraph x0 x1) 1) 1) = ((mkKT s51) (D_impl_HonestGraph x0 x1) 1) := by simpa using h12
                          refine wp_skip ?_
                          refine then_normal ?_
                          refine wp_seq ?_
                          refine at_regq (T := S_laws_FnExactHonestGraph_tab) [] { ts := [4], os := [] } [] gamOK hT h (by kernel_rfl) trivial ?_
                          intro a w h
                          refine then_normal ?_
                          refine wp_ret ?_
                          exact at_return (S := S_laws_FnExactHonestGraph) (x := (x0, x1, ())) (true, ()) [] h (by kernel_rfl) trivial (congrArg (fun z => (z, ())) (show (true) = D_laws_FnExactHonestGraph x0 x1 from by unfold D_laws_FnExactHonestGraph; rfl))

theorem opn3 : OpensS Try.prog 3 (.int 3) := opensS_int Try.underlying3
theorem co3 : Try.prog.cellsOf 3 = 1 := by kernel_rfl
theorem co171 : Try.prog.cellsOf 171 = 3 := by kernel_rfl
theorem opn171 : OpensS Try.prog 171 s171 := by
  intro H enc w base spare held fuel cs x h
  obtain ⟨xs, n, _, _, hl, hlen, hf⟩ := DataW.trod_struct Try.underlying171 h
  obtain ⟨a0, k0, i0⟩ := opensS_field (a := (.int 3)) (i := 0) 0 1 hf hlen rfl rfl rfl co3 opn3
  obtain ⟨a1, k1, i1⟩ := opensS_field (a := (.int 3)) (i := 1) 1 1 hf hlen rfl rfl rfl co3 opn3
  obtain ⟨a2, k2, i2⟩ := opensS_field (a := (.int 3)) (i := 2) 2 1 hf hlen rfl rfl rfl co3 opn3
  rw [co171] at hl
  exact ⟨(a0, (a1, a2)), (rdS_pair (off := 0) k0 (rdS_pair (off := 1) k1 (rdS_last (off := 2) k2 (by omega)))), ⟨i0, ⟨i1, i2⟩⟩⟩
theorem opn45 : OpensS Try.prog 45 s45 := opensS_slice (a := s171) Try.underlying45 co171 opn171
theorem co45 : Try.prog.cellsOf 45 = 1 := by kernel_rfl
theorem co47 : Try.prog.cellsOf 47 = 2 := by kernel_rfl
theorem opn47 : OpensS Try.prog 47 s47 := by
  intro H enc w base spare held fuel cs x h
  obtain ⟨xs, n, _, _, hl, hlen, hf⟩ := DataW.trod_struct Try.underlying47 h
  obtain ⟨a0, k0, i0⟩ := opensS_field (a := (.int 3)) (i := 0) 0 1 hf hlen rfl rfl rfl co3 opn3
  obtain ⟨a1, k1, i1⟩ := opensS_field (a := s45) (i := 1) 1 1 hf hlen rfl rfl rfl co45 opn45
  rw [co47] at hl
  exact ⟨(a0, a1), (rdS_pair (off := 0) k0 (rdS_last (off := 1) k1 (by omega))), ⟨i0, i1⟩⟩
theorem co164 : Try.prog.cellsOf 164 = 3 := by kernel_rfl
theorem opn164 : OpensS Try.prog 164 s164 := by
  intro H enc w base spare held fuel cs x h
  obtain ⟨xs, n, _, _, hl, hlen, hf⟩ := DataW.trod_struct Try.underlying164 h
  obtain ⟨a0, k0, i0⟩ := opensS_field (a := (.int 3)) (i := 0) 0 1 hf hlen rfl rfl rfl co3 opn3
  obtain ⟨a1, k1, i1⟩ := opensS_field (a := (.int 3)) (i := 1) 1 1 hf hlen rfl rfl rfl co3 opn3
  obtain ⟨a2, k2, i2⟩ := opensS_field (a := (.int 3)) (i := 2) 2 1 hf hlen rfl rfl rfl co3 opn3
  rw [co164] at hl
  exact ⟨(a0, (a1, a2)), (rdS_pair (off := 0) k0 (rdS_pair (off := 1) k1 (rdS_last (off := 2) k2 (by omega)))), ⟨i0, ⟨i1, i2⟩⟩⟩
theorem opn22 : OpensS Try.prog 22 s22 := opensS_slice (a := s164) Try.underlying22 co164 opn164
theorem co22 : Try.prog.cellsOf 22 = 1 := by kernel_rfl
theorem co24 : Try.prog.cellsOf 24 = 1 := by kernel_rfl
theorem opn24 : OpensS Try.prog 24 s24 := by
  intro H enc w base spare held fuel cs x h
  obtain ⟨xs, n, _, _, hl, hlen, hf⟩ := DataW.trod_struct Try.underlying24 h
  obtain ⟨a0, k0, i0⟩ := opensS_field (a := s22) (i := 0) 0 1 hf hlen rfl rfl rfl co22 opn22
  rw [co24] at hl
  exact ⟨a0, (rdS_last (off := 0) k0 (by omega)), i0⟩
namespace fnExactHonestGraph
open Go.ChangeShapes Go.WideShapes Go.ChangeAt Go.RowKit
theorem own : ownKnob Try.prog.godebug = none := by kernel_rfl
theorem laidOut : laidOutB Try.prog = true := by kernel_rfl
set_option maxRecDepth 100000 in
theorem lifted (os : Os) (started : os.Started) (H : Type) (enc : TypeId × Value → H) :
    ReturnsInHanded {} Try.checked os 11 .any (Rows.fnExactHonestGraphSpec.pre6 enc Try.prog Try.f11 Rows.fnExactHonestGraphRow.domain false) (Rows.fnExactHonestGraphSpec.post enc Try.prog Try.f11 false true false false) := by
  refine returnsInHanded_of_change (C := Try.checked) own started (by kernel_rfl) Try.func11
    (ChangeSpec.witness6 (enc := enc) (C := Try.checked) false ⟨#[], #[.agg #[.int .i64 0, .slice none 0 0], .agg #[.slice none 0 0]], []⟩ 8 (by kernel_rfl) (by kernel_rfl) (by kernel_rfl) (by kernel_rfl)) ?_
  intro W base args ds gs before hval0 hW hcnd _
  have hval : ∀ (j : Nat) t v, Try.f11.params[j]? = some t → args[j]? = some v → Value.okWide Try.prog W .any base t v := hval0
  have hW' := hW
  obtain ⟨p, q, hA0, hV, rfl, hfz, hnd⟩ := hW
  have hA : DataW.TrodAll enc Try.prog W 0 (fun _ => true) true Try.f11.params.toList args.toList ds p := hA0
  rw [Try.params11] at hA hval
  obtain ⟨v0, vs0, d0, ds0, p0, q0, hargs, rfl, rfl, h0, r0⟩ := trodAll_cons hA
  obtain ⟨v1, vs1, d1, ds1, p1, q1, rfl, rfl, rfl, h1, r1⟩ := trodAll_cons r0
  obtain ⟨rfl, rfl, rfl⟩ := trodAll_nil r1
  obtain rfl : args = #[v0, v1] := by cases args; simp_all
  obtain ⟨rfl, rfl⟩ := trodVars_none hV
  have k0 := h0
  have lt0 : ∀ x ∈ p0, x.block < W.heap.size := by obtain ⟨m, hm⟩ := k0; exact DataW.trod_lt m _ _ _ hm
  obtain ⟨cs0, rfl, _⟩ := okWide_struct Try.underlying47 (hval 0 47 v0 rfl rfl)
  obtain ⟨cs0⟩ := cs0
  obtain ⟨x0, hx0, i0⟩ : ∃ x : (s47).D, (s47).rd W (fun b => b < W.heap.size) cs0 x ∧ (s47).i64 x := by obtain ⟨fuel, hf⟩ := h0; exact opn47 hf
  have k1 := h1
  have lt1 : ∀ x ∈ p1, x.block < W.heap.size := by obtain ⟨m, hm⟩ := k1; exact DataW.trod_lt m _ _ _ hm
  obtain ⟨cs1, rfl, _⟩ := okWide_struct Try.underlying24 (hval 1 24 v1 rfl rfl)
  obtain ⟨cs1⟩ := cs1
  obtain ⟨x1, hx1, i1⟩ : ∃ x : (s24).D, (s24).rd W (fun b => b < W.heap.size) cs1 x ∧ (s24).i64 x := by obtain ⟨fuel, hf⟩ := h1; exact opn24 hf
  clear hA0 hval0
  refine (calls_law S_laws_FnExactHonestGraph_ok (by kernel_rfl) W (fun b => b < W.heap.size) [.agg cs0.toArray, .agg cs1.toArray] (x0, x1, ()) (fun _ h => h) ⟨argRd_st hx0, argRd_st hx1, trivial⟩ ⟨i0, i1⟩).mono fun e W' hr => ?_
  obtain ⟨he, bel⟩ := ret_bool hr
  subst he
  exact ⟨_, rfl, _, _, _, [], _, [], hW', trodAll_mk1 (shut_bool Try.underlying4 _), (trodAll_cons_mk (Below.trod laidOut (by kernel_rfl) (of_decide_eq_true (by kernel_rfl)) k0 bel lt0) (trodAll_cons_mk (Below.trod laidOut (by kernel_rfl) (of_decide_eq_true (by kernel_rfl)) k1 bel lt1) trodAll_mk0)), rfl, bel.frame _, fun h => by cases h⟩
theorem over : Rows.fnExactHonestGraphRow.holds Try.pinned (OpenSpec.ofChange Rows.fnExactHonestGraphSpec) :=
  OpenClaim.holds_of_wide 11 Try.f11 rfl rfl rfl rfl rfl rfl rfl ⟨rfl, rfl, rfl, rfl, rfl⟩ rfl rfl rfl rfl rfl (by kernel_rfl) Try.func11 (by kernel_rfl)
    (of_decide_eq_true (by kernel_rfl)) (by unfold Func.isWrapper; first | (rw [if_pos (by decide +kernel)]; kernel_rfl) | (rw [if_neg (by decide +kernel)]; exact ⟨rfl, rfl⟩))
    (fun os started H enc _ => lifted os started H enc)
/-- the statement -/
theorem proved : Rows.FnExactHonestGraphSaid := over
end fnExactHonestGraph

end Go.Proofs.Ytfbogeakgmickaa

/- The law FnExactMakeManifest returns true for every input and leaves its arguments as they were. No condition. -/
import Derived.Test.YtkialoggpcdhkaaMakeManifest2
import Derived.Test.YtkialoggpcdhkaaLA
import Derived.Test.YtkialoggpcdhkaaProg
import Derived.Test.YtkialoggpcdhkaaRows
import Derived.Test.YtkialoggpcdhkaaFX
namespace Go.Proofs.Ytkialoggpcdhkaa
open Go.RowKit
set_option linter.unusedVariables false
set_option linter.unusedSimpArgs false
def D_laws_FnExactMakeManifest := (fun (_ : Int) (_ : Int) (_ : (List Int)) (_ : T82) => true)
def S_laws_FnExactMakeManifest : Sum := { fid := 6, dom := [(.int 3), (.int 3), s36, s82], cod := [(.bool 4)], dp := true, fz := false, pre := fun x => (fun (x0 : Int) (x1 : Int) (x2 : (List Int)) (x3 : T82) => Sh.i64 (.int 3) x0 ∧ Sh.i64 (.int 3) x1 ∧ Sh.i64 s36 x2 ∧ Sh.i64 s82 x3) x.1 x.2.1 x.2.2.1 x.2.2.2.1, g := fun x => ((D_laws_FnExactMakeManifest x.1 x.2.1 x.2.2.1 x.2.2.2.1), ()) }
def S_laws_FnExactMakeManifest_tab : List (Nat × Sum) := [(20, S_laws_szHashKey), (44, S_laws_szGeneration), (24, S_laws_toHashKey), (46, S_laws_toGeneration), (45, S_spec_MakeManifest), (47, S_impl_MakeManifest), (30, S_laws_eqManifest), (29, S_laws_eqHashKey), (48, S_laws_eqGeneration), (31, S_laws_markHashKey), (49, S_laws_markGeneration), (32, S_laws_markManifest), (50, S_laws_heldManifest)]
theorem S_laws_FnExactMakeManifest_ok : FnOK Try.prog 6 S_laws_FnExactMakeManifest := by
  refine at_enter 129 (fun x => ⟨[(0, aI x.1), (1, aI x.2.1), (2, aG [.ro (.int 3) x.2.2.1]), (3, aG [cI x.2.2.2.1.1, .ro s22 x.2.2.2.1.2])], []⟩) Try.func6 rfl (by kernel_rfl) (fun x => rfl) ?_
  rintro w0 Z0 ⟨x0, x1, x2, x3, u⟩ a w
  revert x0 x1 x2 x3
  intro (x0 : Int) (x1 : Int) (x2 : (List Int)) (x3 : T82) hpre hlens h
  replace h : At w0 Z0 [] 129 ⟨[(0, aI x0), (1, aI x1), (2, aG [.ro (.int 3) x2]), (3, aG [cI x3.1, .ro s22 x3.2])], []⟩ a w := h
  replace hpre : (fun (x0 : Int) (x1 : Int) (x2 : (List Int)) (x3 : T82) => Sh.i64 (.int 3) x0 ∧ Sh.i64 (.int 3) x1 ∧ Sh.i64 s36 x2 ∧ Sh.i64 s82 x3) x0 x1 x2 x3 := hpre
  have hl1 : List.length x2 ≤ 9223372036854775807 := hlens.2.2.1.1
  have hl2 : List.length x3.2 ≤ 9223372036854775807 := hlens.2.2.2.1.2.1
  have hT : TabOK Try.prog S_laws_FnExactMakeManifest_tab := (.cons S_laws_szHashKey_ok (.cons S_laws_szGeneration_ok (.cons S_laws_toHashKey_ok (.cons S_laws_toGeneration_ok (.cons S_spec_MakeManifest_ok (.cons S_impl_MakeManifest_ok (.cons S_laws_eqManifest_ok (.cons S_laws_eqHashKey_ok (.cons S_laws_eqGeneration_ok (.cons S_laws_markHashKey_ok (.cons S_laws_markGeneration_ok (.cons S_laws_markManifest_ok (.cons S_laws_heldManifest_ok .nil)))))))))))))
  have hq2 : Sh.sz s45 x2 = Sh.sz s36 x2 := rfl
  have hb2 : Sh.ctT s45 x2 ≤ 1 * Sh.sz s45 x2 := Sh.ctT_le2 s45 x2
  have hz2 : Sh.ct s45 x2 ≤ 1 * (1 + Sh.sz s45 x2) := Sh.ct_le s45 x2
  have ht2 : Sh.sz s36 x2 = (Sh.sz s22 x2) := rfl
  have hs2_1 : Sh.sz s22 x2 = List.length x2 := sz_flat (by rfl) _
  have hq3 : Sh.sz s86 x3 = Sh.sz s82 x3 := rfl
  have hb3 : Sh.ctT s86 x3 ≤ 2 * Sh.sz s86 x3 := Sh.ctT_le2 s86 x3
  have hz3 : Sh.ct s86 x3 ≤ 2 * (1 + Sh.sz s86 x3) := Sh.ct_le s86 x3
  have ht3 : Sh.sz s82 x3 = (0 + (Sh.sz s80 x3.2)) := rfl
  have hs3_1 : Sh.sz s80 x3.2 = List.length x3.2 + ctL (Sh.sz s22) x3.2 := rfl
  have hr1 : Sh.ctT s47 ((makeMan x0 x1 x2 x3).1) ≤ 6 * Sh.sz s47 ((makeMan x0 x1 x2 x3).1) := Sh.ctT_le2 s47 _
  have hr2 : Sh.sz s47 ((makeMan x0 x1 x2 x3).1) ≤ List.length x3.2 := by
    unfold makeMan
    split
    · show 0 + (0 + (0 + (0 + (Sh.sz s22 (hashSyms x2 x3) + 0)))) ≤ _
      have h1 : Sh.sz s22 (hashSyms x2 x3) = List.length (hashSyms x2 x3) := sz_flat (by rfl) _
      have h2 := hashSyms_len (k := x2) (g := x3)
      omega
    · exact Nat.zero_le _
  refine wp_seq ?_
  refine at_regq (T := S_laws_FnExactMakeManifest_tab) [{ ids := [1] }, { ids := [2] }] { ts := [0, 1, 6, 7, 8], os := [1, 2] } [] gamOK hT h (by kernel_rfl) trivial ?_
  intro a w h
  refine then_normal ?_
  refine wp_seq ?_
  refine at_regq (T := S_laws_FnExactMakeManifest_tab) [] { ts := [0, 1, 6, 7, 8, 9], os := [1, 2] } [] gamOK hT h (by kernel_rfl) trivial ?_
  intro a w h
  refine then_normal ?_
  refine wp_seq ?_
  refine at_regq (T := S_laws_FnExactMakeManifest_tab) [] { ts := [0, 1, 6, 7, 8, 9], os := [1, 2] } [(pSz s36) x2 1048576] gamOK hT h (by kernel_rfl) ⟨(by (show (0 : Int) ≤ _ ∧ _ ≤ (9223372036854775807 : Int); constructor <;> omega)), trivial⟩ ?_
  intro a w h
  refine then_normal ?_
  refine wp_seq ?_
  refine wp_seq ?_
  refine at_reg (T := S_laws_FnExactMakeManifest_tab) [] { ts := [0, 1, 6, 7, 8, 9, 25], os := [1, 2] } ⟨[(0, aI x0), (1, aI x1), (6, aP 1 0), (7, aP 2 0), (8, aB false), (9, aI ((szD s36) x2 1048576)), (25, aB (decide (((szD s36) x2 1048576) < 0)))], [(1, oX 36 [.ro (.int 3) x2]), (2, oX 82 [cI x3.1, .ro s22 x3.2])]⟩ [] gamOK hT h (by kernel_rfl) trivial ?_
  intro a w h
  refine then_normal ?_
  refine at_test (decide (((szD s36) x2 1048576) < 0)) h (by kernel_rfl) (fun h1 => ?_) (fun h1 => ?_)
  · replace h1 : ((szD s36) x2 1048576) < 0 := of_decide_eq_true h1
    have hvh1 := szD_neg h1 (by omega)
    refine wp_seq ?_
    refine at_regq (T := S_laws_FnExactMakeManifest_tab) [] { ts := [0, 1, 6, 7, 8, 9], os := [1, 2] } [] gamOK hT h (by kernel_rfl) trivial ?_
    intro a w h
    refine then_normal ?_
    refine wp_ret ?_
    refine then_ret ?_
    exact at_return (S := S_laws_FnExactMakeManifest) (x := (x0, x1, x2, x3, ())) (true, ()) [] h (by kernel_rfl) trivial (congrArg (fun z => (z, ())) (show (true) = D_laws_FnExactMakeManifest x0 x1 x2 x3 from by unfold D_laws_FnExactMakeManifest; rfl))
  · replace h1 : ¬ (((szD s36) x2 1048576) < 0) := of_decide_eq_false h1
    have hvh1 := szD_val h1 (by omega)
    refine wp_skip ?_
    refine then_normal ?_
    refine wp_seq ?_
    refine at_regq (T := S_laws_FnExactMakeManifest_tab) [] { ts := [0, 1, 6, 7, 8, 9], os := [1, 2] } [(pSz s82) x3 ((szD s36) x2 1048576)] gamOK hT h (by kernel_rfl) ⟨(by (show (0 : Int) ≤ _ ∧ _ ≤ (9223372036854775807 : Int); constructor <;> omega)), trivial⟩ ?_
    intro a w h
    refine then_normal ?_
    refine wp_seq ?_
    refine wp_seq ?_
    refine at_regq (T := S_laws_FnExactMakeManifest_tab) [] { ts := [0, 1, 6, 7, 8, 30], os := [1, 2] } [] gamOK hT h (by kernel_rfl) trivial ?_
    intro a w h
    refine then_normal ?_
    refine at_test (decide (((szD s82) x3 ((szD s36) x2 1048576)) < 0)) h (by kernel_rfl) (fun h2 => ?_) (fun h2 => ?_)
    · replace h2 : ((szD s82) x3 ((szD s36) x2 1048576)) < 0 := of_decide_eq_true h2
      have hvh2 := szD_neg h2 (by omega)
      refine wp_seq ?_
      refine at_regq (T := S_laws_FnExactMakeManifest_tab) [] { ts := [0, 1, 6, 7, 8], os := [1, 2] } [] gamOK hT h (by kernel_rfl) trivial ?_
      intro a w h
      refine then_normal ?_
      refine wp_ret ?_
      refine then_ret ?_
      exact at_return (S := S_laws_FnExactMakeManifest) (x := (x0, x1, x2, x3, ())) (true, ()) [] h (by kernel_rfl) trivial (congrArg (fun z => (z, ())) (show (true) = D_laws_FnExactMakeManifest x0 x1 x2 x3 from by unfold D_laws_FnExactMakeManifest; rfl))
    · replace h2 : ¬ (((szD s82) x3 ((szD s36) x2 1048576)) < 0) := of_decide_eq_false h2
      have hvh2 := szD_val h2 (by omega)
      refine wp_skip ?_
      refine then_normal ?_
      refine wp_seq ?_
      refine at_anyq (T := S_laws_FnExactMakeManifest_tab) [{}, {}, {}, { ids := [3] }, {}, { ids := [4] }, { ids := [5] }, {}, {}, {}, { ids := [6] }, {}, {}] { ts := [0, 1, 6, 7, 8, 10, 11], os := [1, 2, 5, 6] } [(pTo s36) x2, (pTo s82) x3, (fun (x0 : Int) (x1 : Int) (x2 : (List Int)) (x3 : T86) => Sh.fit s45 x2 ∧ Sh.fit s86 x3) x0 x1 x2 x3] gamOK hT mixed h (by kernel_rfl) ⟨(by (show Sh.sz _ _ ≤ 1048576; omega)), (by (show Sh.sz _ _ ≤ 1048576; omega)), (by exact ⟨(Sh.fit_of_sz s45 rfl (x := x2) (by omega)), (Sh.fit_of_sz s86 rfl (x := x3) (by omega))⟩), trivial⟩ ?_
      intro a w h
      refine then_normal ?_
      refine wp_seq ?_
      refine at_reg (T := S_laws_FnExactMakeManifest_tab) [{}, { ids := [7] }, { ids := [8] }] { ts := [0, 1, 6, 7, 8, 10, 11, 12], os := [1, 2, 5, 6, 7, 8] } ⟨[(0, aI x0), (1, aI x1), (6, aP 1 0), (7, aP 2 0), (8, aB false), (10, aP 6 0), (11, aB (makeMan x0 x1 x2 x3).2), (12, aP 8 0)], [(1, oX 36 [.ro (.int 3) x2]), (2, oX 82 [cI x3.1, .ro s22 x3.2]), (5, oR (.int 3) (makeMan x0 x1 x2 x3).1.2.2.2.2.1), (6, oX 47 [cI (makeMan x0 x1 x2 x3).1.1, cI (makeMan x0 x1 x2 x3).1.2.1, cI (makeMan x0 x1 x2 x3).1.2.2.1, cI (makeMan x0 x1 x2 x3).1.2.2.2.1, .sl 5, cI (makeMan x0 x1 x2 x3).1.2.2.2.2.2]), (7, oR (.int 3) x2), (8, oX 45 [.sl 7])]⟩ [(pTo s36) x2] gamOK hT h (by kernel_rfl) ⟨(by (show Sh.sz _ _ ≤ 1048576; omega)), trivial⟩ ?_
      intro a w h
      refine then_normal ?_
      refine wp_seq ?_
      refine at_regq (T := S_laws_FnExactMakeManifest_tab) [{}, { ids := [9] }, { ids := [10] }] { ts := [0, 1, 6, 7, 8, 10, 11, 12, 13], os := [1, 2, 5, 6, 7, 8, 9, 10] } [(pTo s82) x3] gamOK hT h (by kernel_rfl) ⟨(by (show Sh.sz _ _ ≤ 1048576; omega)), trivial⟩ ?_
      intro a w h
      refine then_normal ?_
      refine wp_seq ?_
      refine at_regq (T := S_laws_FnExactMakeManifest_tab) [{}, {}, {}, {}, { ids := [11] }, {}, {}, {}, { ids := [12] }] { ts := [0, 1, 6, 7, 8, 10, 11, 12, 13, 14, 15], os := [1, 2, 5, 6, 7, 8, 9, 10, 11, 12] } [(fun (x0 : Int) (x1 : Int) (x2 : (List Int)) (x3 : T86) => Sh.fit s45 x2 ∧ Sh.fit s86 x3) x0 x1 x2 x3] gamOK hT h (by kernel_rfl) ⟨(by exact ⟨(Sh.fit_of_sz s45 rfl (x := x2) (by omega)), (Sh.fit_of_sz s86 rfl (x := x3) (by omega))⟩), trivial⟩ ?_
      intro a w h
      refine then_normal ?_
      refine wp_seq ?_
      refine wp_seq ?_
      rcases Bool.eq_false_or_eq_true (!((Sh.eqB s47) (makeMan x0 x1 x2 x3).1 (makeMan x0 x1 x2 x3).1)) with h3 | h3
      · skip
        have hzh3 : ((Sh.eqB s47) (makeMan x0 x1 x2 x3).1 (makeMan x0 x1 x2 x3).1) = false := notT h3
        refine at_regq (T := S_laws_FnExactMakeManifest_tab) [{}, {}, {}, { hint := some (aB true) }] { ts := [0, 1, 6, 7, 8, 10, 11, 12, 13, 14, 15, 61], os := [1, 2, 5, 6, 7, 8, 9, 10, 11, 12] } [True, (AV.p (.c (.v (.bool (!((Sh.eqB s47) (makeMan x0 x1 x2 x3).1 (makeMan x0 x1 x2 x3).1))))) = AV.p (.c (.v (.bool true))))] gamOK hT h (by kernel_rfl) ⟨trivial, hint_bool (h3), trivial⟩ ?_
        intro a w h
        refine then_normal ?_
        refine at_test true h (by kernel_rfl) (fun hh => ?_) (fun hh => nomatch hh)
        refine wp_seq ?_
        refine at_reg (T := S_laws_FnExactMakeManifest_tab) [] { ts := [0, 1, 6, 7, 8, 10, 11, 12, 13, 14, 15], os := [1, 2, 5, 6, 7, 8, 9, 10, 11, 12] } ⟨[(0, aI x0), (1, aI x1), (6, aP 1 0), (7, aP 2 0), (8, aB false), (10, aP 6 0), (11, aB (makeMan x0 x1 x2 x3).2), (12, aP 8 0), (13, aP 10 0), (14, aP 12 0), (15, aB (makeMan x0 x1 x2 x3).2)], [(1, oX 36 [.ro (.int 3) x2]), (2, oX 82 [cI x3.1, .ro s22 x3.2]), (5, oR (.int 3) (makeMan x0 x1 x2 x3).1.2.2.2.2.1), (6, oX 47 [cI (makeMan x0 x1 x2 x3).1.1, cI (makeMan x0 x1 x2 x3).1.2.1, cI (makeMan x0 x1 x2 x3).1.2.2.1, cI (makeMan x0 x1 x2 x3).1.2.2.2.1, .sl 5, cI (makeMan x0 x1 x2 x3).1.2.2.2.2.2]), (7, oR (.int 3) x2), (8, oX 45 [.sl 7]), (9, oR s22 x3.2), (10, oX 86 [cI x3.1, .sl 9]), (11, oR (.int 3) (makeMan x0 x1 x2 x3).1.2.2.2.2.1), (12, oX 47 [cI (makeMan x0 x1 x2 x3).1.1, cI (makeMan x0 x1 x2 x3).1.2.1, cI (makeMan x0 x1 x2 x3).1.2.2.1, cI (makeMan x0 x1 x2 x3).1.2.2.2.1, .sl 11, cI (makeMan x0 x1 x2 x3).1.2.2.2.2.2])]⟩ [] gamOK hT h (by kernel_rfl) trivial ?_
        intro a w h
        refine then_normal ?_
        refine wp_ret ?_
        refine then_ret ?_
        exact at_return (S := S_laws_FnExactMakeManifest) (x := (x0, x1, x2, x3, ())) (false, ()) [] h (by kernel_rfl) trivial (congrArg (fun z => (z, ())) (show (false) = D_laws_FnExactMakeManifest x0 x1 x2 x3 from by unfold D_laws_FnExactMakeManifest; exact absurd ((Sh.eqB_iff _).2 (show _ = _ from by first | rfl | (rfl))) (neT (notT h3))))
      · skip
        have hzh3 : ((Sh.eqB s47) (makeMan x0 x1 x2 x3).1 (makeMan x0 x1 x2 x3).1) = true := notF h3
        refine at_regq (T := S_laws_FnExactMakeManifest_tab) [{}, {}, {}, { hint := some (aB false) }] { ts := [0, 1, 6, 7, 8, 10, 11, 12, 13, 14, 15, 61], os := [1, 2, 5, 6, 7, 8, 9, 10, 11, 12] } [True, (AV.p (.c (.v (.bool (!((Sh.eqB s47) (makeMan x0 x1 x2 x3).1 (makeMan x0 x1 x2 x3).1))))) = AV.p (.c (.v (.bool false))))] gamOK hT h (by kernel_rfl) ⟨trivial, hint_bool (h3), trivial⟩ ?_
        intro a w h
        refine then_normal ?_
        refine at_test (!((makeMan x0 x1 x2 x3).2 == (makeMan x0 x1 x2 x3).2)) h (by kernel_rfl) (fun h4 => ?_) (fun h4 => ?_)
        · replace h4 : ((makeMan x0 x1 x2 x3).2 == (makeMan x0 x1 x2 x3).2) = false := notT h4
          refine wp_seq ?_
          refine at_reg (T := S_laws_FnExactMakeManifest_tab) [] { ts := [0, 1, 6, 7, 8, 10, 11, 12, 13, 14, 15], os := [1, 2, 5, 6, 7, 8, 9, 10, 11, 12] } ⟨[(0, aI x0), (1, aI x1), (6, aP 1 0), (7, aP 2 0), (8, aB false), (10, aP 6 0), (11, aB (makeMan x0 x1 x2 x3).2), (12, aP 8 0), (13, aP 10 0), (14, aP 12 0), (15, aB (makeMan x0 x1 x2 x3).2)], [(1, oX 36 [.ro (.int 3) x2]), (2, oX 82 [cI x3.1, .ro s22 x3.2]), (5, oR (.int 3) (makeMan x0 x1 x2 x3).1.2.2.2.2.1), (6, oX 47 [cI (makeMan x0 x1 x2 x3).1.1, cI (makeMan x0 x1 x2 x3).1.2.1, cI (makeMan x0 x1 x2 x3).1.2.2.1, cI (makeMan x0 x1 x2 x3).1.2.2.2.1, .sl 5, cI (makeMan x0 x1 x2 x3).1.2.2.2.2.2]), (7, oR (.int 3) x2), (8, oX 45 [.sl 7]), (9, oR s22 x3.2), (10, oX 86 [cI x3.1, .sl 9]), (11, oR (.int 3) (makeMan x0 x1 x2 x3).1.2.2.2.2.1), (12, oX 47 [cI (makeMan x0 x1 x2 x3).1.1, cI (makeMan x0 x1 x2 x3).1.2.1, cI (makeMan x0 x1 x2 x3).1.2.2.1, cI (makeMan x0 x1 x2 x3).1.2.2.2.1, .sl 11, cI (makeMan x0 x1 x2 x3).1.2.2.2.2.2])]⟩ [] gamOK hT h (by kernel_rfl) trivial ?_
          intro a w h
          refine then_normal ?_
          refine wp_ret ?_
          refine then_ret ?_
          exact at_return (S := S_laws_FnExactMakeManifest) (x := (x0, x1, x2, x3, ())) (false, ()) [] h (by kernel_rfl) trivial (congrArg (fun z => (z, ())) (show (false) = D_laws_FnExactMakeManifest x0 x1 x2 x3 from by unfold D_laws_FnExactMakeManifest; exact absurd (beqT (show _ = _ from by first | rfl | (rfl))) (neT h4)))
        · replace h4 : ((makeMan x0 x1 x2 x3).2 == (makeMan x0 x1 x2 x3).2) = true := notF h4
          refine wp_skip ?_
          refine then_normal ?_
          refine wp_seq ?_
          refine wp_seq ?_
          refine at_any (T := S_laws_FnExactMakeManifest_tab) [{}, {}, { ids := [13] }, {}, {}] { ts := [0, 1, 6, 7, 8, 10, 11, 12, 13, 14, 15, 66], os := [1, 2, 5, 6, 7, 8, 9, 10, 11, 12] } ⟨[(0, aI x0), (1, aI x1), (6, aP 1 0), (7, aP 2 0), (8, aB false), (10, aP 6 0), (11, aB (makeMan x0 x1 x2 x3).2), (12, aP 8 0), (13, aP 10 0), (14, aP 12 0), (15, aB (makeMan x0 x1 x2 x3).2), (66, aB (!((Sh.eqB s45) x2 x2)))], [(1, oX 36 [.ro (.int 3) x2]), (2, oX 82 [cI x3.1, .ro s22 x3.2]), (5, oR (.int 3) (makeMan x0 x1 x2 x3).1.2.2.2.2.1), (6, oX 47 [cI (makeMan x0 x1 x2 x3).1.1, cI (makeMan x0 x1 x2 x3).1.2.1, cI (makeMan x0 x1 x2 x3).1.2.2.1, cI (makeMan x0 x1 x2 x3).1.2.2.2.1, .sl 5, cI (makeMan x0 x1 x2 x3).1.2.2.2.2.2]), (7, oR (.int 3) x2), (8, oX 45 [.sl 7]), (9, oR s22 x3.2), (10, oX 86 [cI x3.1, .sl 9]), (11, oR (.int 3) (makeMan x0 x1 x2 x3).1.2.2.2.2.1), (12, oX 47 [cI (makeMan x0 x1 x2 x3).1.1, cI (makeMan x0 x1 x2 x3).1.2.1, cI (makeMan x0 x1 x2 x3).1.2.2.1, cI (makeMan x0 x1 x2 x3).1.2.2.2.1, .sl 11, cI (makeMan x0 x1 x2 x3).1.2.2.2.2.2])]⟩ [(pTo s36) x2, True] gamOK hT mixed h (by kernel_rfl) ⟨(by (show Sh.sz _ _ ≤ 1048576; omega)), trivial, trivial⟩ ?_
          intro a w h
          refine then_normal ?_
          refine at_test (!((Sh.eqB s45) x2 x2)) h (by kernel_rfl) (fun h5 => ?_) (fun h5 => ?_)
          · replace h5 : ((Sh.eqB s45) x2 x2) = false := notT h5
            refine wp_seq ?_
            refine at_regq (T := S_laws_FnExactMakeManifest_tab) [] { ts := [0, 1, 6, 7, 8, 10, 11, 12, 13, 14, 15], os := [1, 2, 5, 6, 7, 8, 9, 10, 11, 12] } [] gamOK hT h (by kernel_rfl) trivial ?_
            intro a w h
            refine then_normal ?_
            refine wp_ret ?_
            refine then_ret ?_
            exact at_return (S := S_laws_FnExactMakeManifest) (x := (x0, x1, x2, x3, ())) (false, ()) [] h (by kernel_rfl) trivial (congrArg (fun z => (z, ())) (show (false) = D_laws_FnExactMakeManifest x0 x1 x2 x3 from by unfold D_laws_FnExactMakeManifest; exact absurd ((Sh.eqB_iff _).2 (show _ = _ from by first | rfl | (rfl))) (neT h5)))
          · replace h5 : ((Sh.eqB s45) x2 x2) = true := notF h5
            refine wp_skip ?_
            refine then_normal ?_
            refine wp_seq ?_
            refine wp_seq ?_
            refine at_anyq (T := S_laws_FnExactMakeManifest_tab) [{}, {}, { ids := [14] }, {}, {}] { ts := [0, 1, 6, 7, 8, 10, 11, 12, 13, 14, 15, 71], os := [1, 2, 5, 6, 7, 8, 9, 10, 11, 12] } [(pTo s82) x3, True] gamOK hT mixed h (by kernel_rfl) ⟨(by (show Sh.sz _ _ ≤ 1048576; omega)), trivial, trivial⟩ ?_
            intro a w h
            refine then_normal ?_
            refine at_test (!((Sh.eqB s86) x3 x3)) h (by kernel_rfl) (fun h6 => ?_) (fun h6 => ?_)
            · replace h6 : ((Sh.eqB s86) x3 x3) = false := notT h6
              refine wp_seq ?_
              refine at_regq (T := S_laws_FnExactMakeManifest_tab) [] { ts := [0, 1, 6, 7, 8, 10, 11, 12, 13, 14, 15], os := [1, 2, 5, 6, 7, 8, 9, 10, 11, 12] } [] gamOK hT h (by kernel_rfl) trivial ?_
              intro a w h
              refine then_normal ?_
              refine wp_ret ?_
              refine then_ret ?_
              exact at_return (S := S_laws_FnExactMakeManifest) (x := (x0, x1, x2, x3, ())) (false, ()) [] h (by kernel_rfl) trivial (congrArg (fun z => (z, ())) (show (false) = D_laws_FnExactMakeManifest x0 x1 x2 x3 from by unfold D_laws_FnExactMakeManifest; exact absurd ((Sh.eqB_iff _).2 (show _ = _ from by first | rfl | (rfl))) (neT h6)))
            · replace h6 : ((Sh.eqB s86) x3 x3) = true := notF h6
              refine wp_skip ?_
              refine then_normal ?_
              refine wp_seq ?_
              refine at_regq (T := S_laws_FnExactMakeManifest_tab) [] { ts := [0, 1, 6, 7, 8, 10, 11, 12, 13, 14, 15, 16], os := [1, 2, 5, 6, 7, 8, 9, 10, 11, 12] } [] gamOK hT h (by kernel_rfl) trivial ?_
              intro a w h
              refine then_normal ?_
              refine wp_seq ?_
              refine at_regq (T := S_laws_FnExactMakeManifest_tab) [] { ts := [0, 1, 6, 7, 8, 10, 11, 13, 14, 15, 16], os := [1, 2, 5, 6, 9, 10, 11, 12] } [(pMkT s45) x2 1] gamOK hT h (by kernel_rfl) ⟨(by (show (0 : Int) ≤ _ ∧ _ + ((Sh.ctT _ _ : Nat) : Int) ≤ (4611686018427387904 : Int); (try simp only [mkK, mkKT, Sh.ctT_mkT, Sh.ct_mk]); constructor <;> omega)), trivial⟩ ?_
              intro a w h
              refine then_normal ?_
              refine wp_seq ?_
              refine at_reg (T := S_laws_FnExactMakeManifest_tab) [] { ts := [0, 1, 6, 7, 8, 10, 11, 14, 15, 16], os := [1, 2, 5, 6, 11, 12] } ⟨[(0, aI x0), (1, aI x1), (6, aP 1 0), (7, aP 2 0), (8, aB false), (10, aP 6 0), (11, aB (makeMan x0 x1 x2 x3).2), (14, aP 12 0), (15, aB (makeMan x0 x1 x2 x3).2), (16, aI ((mkKT s86) x3 ((mkKT s45) x2 1)))], [(1, oX 36 [.ro (.int 3) x2]), (2, oX 82 [cI x3.1, .ro s22 x3.2]), (5, oR (.int 3) (makeMan x0 x1 x2 x3).1.2.2.2.2.1), (6, oX 47 [cI (makeMan x0 x1 x2 x3).1.1, cI (makeMan x0 x1 x2 x3).1.2.1, cI (makeMan x0 x1 x2 x3).1.2.2.1, cI (makeMan x0 x1 x2 x3).1.2.2.2.1, .sl 5, cI (makeMan x0 x1 x2 x3).1.2.2.2.2.2]), (11, oR (.int 3) (makeMan x0 x1 x2 x3).1.2.2.2.2.1), (12, oX 47 [cI (makeMan x0 x1 x2 x3).1.1, cI (makeMan x0 x1 x2 x3).1.2.1, cI (makeMan x0 x1 x2 x3).1.2.2.1, cI (makeMan x0 x1 x2 x3).1.2.2.2.1, .sl 11, cI (makeMan x0 x1 x2 x3).1.2.2.2.2.2])]⟩ [(pMkT s86) x3 ((mkKT s45) x2 1)] gamOK hT h (by kernel_rfl) ⟨(by (show (0 : Int) ≤ _ ∧ _ + ((Sh.ctT _ _ : Nat) : Int) ≤ (4611686018427387904 : Int); (try simp only [mkK, mkKT, Sh.ctT_mkT, Sh.ct_mk]); constructor <;> omega)), trivial⟩ ?_
              intro a w h
              refine then_normal ?_
              refine wp_seq ?_
              refine wp_seq ?_
              by_cases h7 : ((mkKT s86) x3 ((mkKT s45) x2 1)) < 0
              · skip
                refine at_regq (T := S_laws_FnExactMakeManifest_tab) [{}, { hint := some (aB true) }] { ts := [0, 1, 6, 7, 8, 10, 11, 14, 90], os := [1, 2, 5, 6, 11, 12] } [(AV.p (.c (.v (.bool (decide (((mkKT s86) x3 ((mkKT s45) x2 1)) < 0))))) = AV.p (.c (.v (.bool true))))] gamOK hT h (by kernel_rfl) ⟨hint_bool (decide_eq_true h7), trivial⟩ ?_
                intro a w h
                refine then_normal ?_
                refine at_test true h (by kernel_rfl) (fun hh => ?_) (fun hh => nomatch hh)
                refine wp_seq ?_
                refine at_regq (T := S_laws_FnExactMakeManifest_tab) [] { ts := [0, 1, 6, 7, 8, 10, 11, 14], os := [1, 2, 5, 6, 11, 12] } [] gamOK hT h (by kernel_rfl) trivial ?_
                intro a w h
                refine then_normal ?_
                refine wp_ret ?_
                refine then_ret ?_
                exact at_return (S := S_laws_FnExactMakeManifest) (x := (x0, x1, x2, x3, ())) (false, ()) [] h (by kernel_rfl) trivial (congrArg (fun z => (z, ())) (show (false) = D_laws_FnExactMakeManifest x0 x1 x2 x3 from by unfold D_laws_FnExactMakeManifest; (exfalso; simp only [mkK, mkKT, Sh.ctT_mkT, Sh.ct_mk] at h7; first | omega | exact h7 trivial | exact h7 rfl)))
              · skip
                refine at_regq (T := S_laws_FnExactMakeManifest_tab) [{}, { hint := some (aB false) }, {}, {}, {}, {}, { hint := some (aB false) }] { ts := [0, 1, 6, 7, 8, 10, 11, 14, 90], os := [1, 2, 5, 6, 11, 12] } [(AV.p (.c (.v (.bool (decide (((mkKT s86) x3 ((mkKT s45) x2 1)) < 0))))) = AV.p (.c (.v (.bool false)))), True, (AV.p (.c (.v (.bool (!((Sh.eqB s47) (makeMan x0 x1 x2 x3).1 (makeMan x0 x1 x2 x3).1))))) = AV.p (.c (.v (.bool false))))] gamOK hT h (by kernel_rfl) ⟨hint_bool (decide_eq_false h7), trivial, hint_bool (h3), trivial⟩ ?_
                intro a w h
                refine then_normal ?_
                refine at_test (!((makeMan x0 x1 x2 x3).2 == (makeMan x0 x1 x2 x3).2)) h (by kernel_rfl) (fun h8 => ?_) (fun h8 => ?_)
                · replace h8 : ((makeMan x0 x1 x2 x3).2 == (makeMan x0 x1 x2 x3).2) = false := notT h8
                  refine wp_seq ?_
                  refine at_regq (T := S_laws_FnExactMakeManifest_tab) [] { ts := [0, 1, 6, 7, 8, 10, 11, 14], os := [1, 2, 5, 6, 11, 12] } [] gamOK hT h (by kernel_rfl) trivial ?_
                  intro a w h
                  refine then_normal ?_
                  refine wp_ret ?_
                  refine then_ret ?_
                  exact at_return (S := S_laws_FnExactMakeManifest) (x := (x0, x1, x2, x3, ())) (false, ()) [] h (by kernel_rfl) trivial (congrArg (fun z => (z, ())) (show (false) = D_laws_FnExactMakeManifest x0 x1 x2 x3 from by unfold D_laws_FnExactMakeManifest; exact absurd (beqT (show _ = _ from by first | rfl | (rfl))) (neT h8)))
                · replace h8 : ((makeMan x0 x1 x2 x3).2 == (makeMan x0 x1 x2 x3).2) = true := notF h8
                  refine wp_skip ?_
                  refine then_normal ?_
                  refine wp_seq ?_
                  refine at_regq (T := S_laws_FnExactMakeManifest_tab) [] { ts := [0, 1, 6, 7, 8, 10, 11, 14, 17], os := [1, 2, 5, 6, 11, 12] } [] gamOK hT h (by kernel_rfl) trivial ?_
                  intro a w h
                  refine then_normal ?_
                  refine wp_seq ?_
                  refine at_regq (T := S_laws_FnExactMakeManifest_tab) [] { ts := [0, 1, 6, 7, 8, 10, 11, 14, 17], os := [1, 2, 5, 6, 11, 12] } [(pMkT s47) (makeMan x0 x1 x2 x3).1 1] gamOK hT h (by kernel_rfl) ⟨(by (show (0 : Int) ≤ _ ∧ _ + ((Sh.ctT _ _ : Nat) : Int) ≤ (4611686018427387904 : Int); (try simp only [mkK, mkKT, Sh.ctT_mkT, Sh.ct_mk]); constructor <;> omega)), trivial⟩ ?_
                  intro a w h
                  refine then_normal ?_
                  refine wp_seq ?_
                  refine at_reg (T := S_laws_FnExactMakeManifest_tab) [] { ts := [0, 1, 6, 7, 8, 10, 11, 14, 17, 18], os := [1, 2, 5, 6, 11, 12] } ⟨[(0, aI x0), (1, aI x1), (6, aP 1 0), (7, aP 2 0), (8, aB false), (10, aP 6 0), (11, aB (makeMan x0 x1 x2 x3).2), (14, aP 12 0), (17, aI ((mkKT s47) (makeMan x0 x1 x2 x3).1 1)), (18, aI 1)], [(1, oX 36 [.ro (.int 3) x2]), (2, oX 82 [cI x3.1, .ro s22 x3.2]), (5, oR (.int 3) (makeMan x0 x1 x2 x3).1.2.2.2.2.1), (6, oX 47 [cI (makeMan x0 x1 x2 x3).1.1, cI (makeMan x0 x1 x2 x3).1.2.1, cI (makeMan x0 x1 x2 x3).1.2.2.1, cI (makeMan x0 x1 x2 x3).1.2.2.2.1, .sl 5, cI (makeMan x0 x1 x2 x3).1.2.2.2.2.2]), (11, oR (.int 3) ((Sh.mkT s47) (makeMan x0 x1 x2 x3).1 1).2.2.2.2.1), (12, oX 47 [cI (makeMan x0 x1 x2 x3).1.1, cI (makeMan x0 x1 x2 x3).1.2.1, cI (makeMan x0 x1 x2 x3).1.2.2.1, cI (makeMan x0 x1 x2 x3).1.2.2.2.1, .sl 11, cI (makeMan x0 x1 x2 x3).1.2.2.2.2.2])]⟩ [] gamOK hT h (by kernel_rfl) trivial ?_
                  intro a w h
                  refine then_normal ?_
                  refine wp_seq ?_
                  refine at_regq (T := S_laws_FnExactMakeManifest_tab) [] { ts := [0, 1, 6, 7, 8, 10, 11, 14, 17, 18], os := [1, 2, 5, 6, 11, 12] } [(pMkT s47) ((Sh.mkT s47) (makeMan x0 x1 x2 x3).1 1) 1] gamOK hT h (by kernel_rfl) ⟨(by (show (0 : Int) ≤ _ ∧ _ + ((Sh.ctT _ _ : Nat) : Int) ≤ (4611686018427387904 : Int); (try simp only [mkK, mkKT, Sh.ctT_mkT, Sh.ct_mk]); constructor <;> omega)), trivial⟩ ?_
                  intro a w h
                  refine then_normal ?_
                  refine wp_seq ?_
                  refine wp_seq ?_
                  refine at_regq (T := S_laws_FnExactMakeManifest_tab) [] { ts := [0, 1, 6, 7, 8, 10, 11, 14, 17, 18, 98], os := [1, 2, 5, 6, 11, 12] } [] gamOK hT h (by kernel_rfl) trivial ?_
                  intro a w h
                  refine then_normal ?_
                  refine at_test (decide (((heldDT s47) ((Sh.mkT s47) (makeMan x0 x1 x2 x3).1 1) 1) < 0)) h (by kernel_rfl) (fun h9 => ?_) (fun h9 => ?_)
                  · replace h9 : ((heldDT s47) ((Sh.mkT s47) (makeMan x0 x1 x2 x3).1 1) 1) < 0 := of_decide_eq_true h9
                    refine wp_seq ?_
                    refine at_regq (T := S_laws_FnExactMakeManifest_tab) [] { ts := [0, 1, 6, 7, 8, 10, 11, 14, 17, 18], os := [1, 2, 5, 6, 11, 12] } [] gamOK hT h (by kernel_rfl) trivial ?_
                    intro a w h
                    refine then_normal ?_
                    refine wp_ret ?_
                    refine then_ret ?_
                    exact at_return (S := S_laws_FnExactMakeManifest) (x := (x0, x1, x2, x3, ())) (false, ()) [] h (by kernel_rfl) trivial (congrArg (fun z => (z, ())) (show (false) = D_laws_FnExactMakeManifest x0 x1 x2 x3 from by unfold D_laws_FnExactMakeManifest; (exfalso; simp only [held_marked, held_markedT, mkK, mkKT, Sh.ctT_mkT, Sh.ct_mk] at h9; first | omega | exact h9 trivial | exact h9 rfl)))
                  · replace h9 : ¬ (((heldDT s47) ((Sh.mkT s47) (makeMan x0 x1 x2 x3).1 1) 1) < 0) := of_decide_eq_false h9
                    refine wp_skip ?_
                    refine then_normal ?_
                    refine wp_seq ?_
                    refine wp_seq ?_
                    refine at_regq (T := S_laws_FnExactMakeManifest_tab) [] { ts := [0, 1, 6, 7, 8, 10, 11, 14, 17, 101], os := [1, 2, 5, 6, 11, 12] } [] gamOK hT h (by kernel_rfl) trivial ?_
                    intro a w h
                    refine then_normal ?_
                    refine at_test (!decide (((heldDT s47) ((Sh.mkT s47) (makeMan x0 x1 x2 x3).1 1) 1) = ((mkKT s47) (makeMan x0 x1 x2 x3).1 1))) h (by kernel_rfl) (fun h10 => ?_) (fun h10 => ?_)
                    · replace h10 : ¬ (((heldDT s47) ((Sh.mkT s47) (makeMan x0 x1 x2 x3).1 1) 1) = ((mkKT s47) (makeMan x0 x1 x2 x3).1 1)) := of_decide_eq_false (notT h10)
                      refine wp_seq ?_
                      refine at_reg (T := S_laws_FnExactMakeManifest_tab) [] { ts := [0, 1, 6, 7, 8, 10, 11, 14, 17], os := [1, 2, 5, 6, 11, 12] } ⟨[(0, aI x0), (1, aI x1), (6, aP 1 0), (7, aP 2 0), (8, aB false), (10, aP 6 0), (11, aB (makeMan x0 x1 x2 x3).2), (14, aP 12 0), (17, aI ((mkKT s47) (makeMan x0 x1 x2 x3).1 1))], [(1, oX 36 [.ro (.int 3) x2]), (2, oX 82 [cI x3.1, .ro s22 x3.2]), (5, oR (.int 3) (makeMan x0 x1 x2 x3).1.2.2.2.2.1), (6, oX 47 [cI (makeMan x0 x1 x2 x3).1.1, cI (makeMan x0 x1 x2 x3).1.2.1, cI (makeMan x0 x1 x2 x3).1.2.2.1, cI (makeMan x0 x1 x2 x3).1.2.2.2.1, .sl 5, cI (makeMan x0 x1 x2 x3).1.2.2.2.2.2]), (11, oR (.int 3) ((Sh.mkT s47) (makeMan x0 x1 x2 x3).1 1).2.2.2.2.1), (12, oX 47 [cI (makeMan x0 x1 x2 x3).1.1, cI (makeMan x0 x1 x2 x3).1.2.1, cI (makeMan x0 x1 x2 x3).1.2.2.1, cI (makeMan x0 x1 x2 x3).1.2.2.2.1, .sl 11, cI (makeMan x0 x1 x2 x3).1.2.2.2.2.2])]⟩ [] gamOK hT h (by kernel_rfl) trivial ?_
                      intro a w h
                      refine then_normal ?_
                      refine wp_ret ?_
                      refine then_ret ?_
                      exact at_return (S := S_laws_FnExactMakeManifest) (x := (x0, x1, x2, x3, ())) (false, ()) [] h (by kernel_rfl) trivial (congrArg (fun z => (z, ())) (show (false) = D_laws_FnExactMakeManifest x0 x1 x2 x3 from by unfold D_laws_FnExactMakeManifest; (exfalso; simp only [held_marked, held_markedT, mkK, mkKT, Sh.ctT_mkT, Sh.ct_mk] at h10; first | omega | exact h10 trivial | exact h10 rfl)))
                    · replace h10 : ((heldDT s47) ((Sh.mkT s47) (makeMan x0 x1 x2 x3).1 1) 1) = ((mkKT s47) (makeMan x0 x1 x2 x3).1 1) := of_decide_eq_true (notF h10)
                      refine wp_skip ?_
                      refine then_normal ?_
                      refine wp_seq ?_
                      refine at_any (T := S_laws_FnExactMakeManifest_tab) [{}, {}, {}, { ids := [15] }, {}, { ids := [16] }, { ids := [17] }, {}, {}, {}, { ids := [18] }, {}, {}] { ts := [8, 10, 11, 14, 17, 19, 20], os := [5, 6, 11, 12, 17, 18] } ⟨[(8, aB false), (10, aP 6 0), (11, aB (makeMan x0 x1 x2 x3).2), (14, aP 12 0), (17, aI ((mkKT s47) (makeMan x0 x1 x2 x3).1 1)), (19, aP 18 0), (20, aB (makeMan x0 x1 x2 x3).2)], [(5, oR (.int 3) (makeMan x0 x1 x2 x3).1.2.2.2.2.1), (6, oX 47 [cI (makeMan x0 x1 x2 x3).1.1, cI (makeMan x0 x1 x2 x3).1.2.1, cI (makeMan x0 x1 x2 x3).1.2.2.1, cI (makeMan x0 x1 x2 x3).1.2.2.2.1, .sl 5, cI (makeMan x0 x1 x2 x3).1.2.2.2.2.2]), (11, oR (.int 3) ((Sh.mkT s47) (makeMan x0 x1 x2 x3).1 1).2.2.2.2.1), (12, oX 47 [cI (makeMan x0 x1 x2 x3).1.1, cI (makeMan x0 x1 x2 x3).1.2.1, cI (makeMan x0 x1 x2 x3).1.2.2.1, cI (makeMan x0 x1 x2 x3).1.2.2.2.1, .sl 11, cI (makeMan x0 x1 x2 x3).1.2.2.2.2.2]), (17, oR (.int 3) (makeMan x0 x1 x2 x3).1.2.2.2.2.1), (18, oX 47 [cI (makeMan x0 x1 x2 x3).1.1, cI (makeMan x0 x1 x2 x3).1.2.1, cI (makeMan x0 x1 x2 x3).1.2.2.1, cI (makeMan x0 x1 x2 x3).1.2.2.2.1, .sl 17, cI (makeMan x0 x1 x2 x3).1.2.2.2.2.2])]⟩ [(pTo s36) x2, (pTo s82) x3, (fun (x0 : Int) (x1 : Int) (x2 : (List Int)) (x3 : T86) => Sh.fit s45 x2 ∧ Sh.fit s86 x3) x0 x1 x2 x3] gamOK hT mixed h (by kernel_rfl) ⟨(by (show Sh.sz _ _ ≤ 1048576; omega)), (by (show Sh.sz _ _ ≤ 1048576; omega)), (by exact ⟨(Sh.fit_of_sz s45 rfl (x := x2) (by omega)), (Sh.fit_of_sz s86 rfl (x := x3) (by omega))⟩), trivial⟩ ?_
                      intro a w h
                      refine then_normal ?_
                      refine wp_seq ?_
                      refine wp_seq ?_
                      refine at_regq (T := S_laws_FnExactMakeManifest_tab) [{}, {}, {}, { hint := some (aB false) }] { ts := [8, 14, 17, 120], os := [11, 12] } [True, (AV.p (.c (.v (.bool (!((Sh.eqB s47) (makeMan x0 x1 x2 x3).1 (makeMan x0 x1 x2 x3).1))))) = AV.p (.c (.v (.bool false))))] gamOK hT h (by kernel_rfl) ⟨trivial, hint_bool (h3), trivial⟩ ?_
                      intro a w h
                      refine then_normal ?_
                      refine at_test (!((makeMan x0 x1 x2 x3).2 == (makeMan x0 x1 x2 x3).2)) h (by kernel_rfl) (fun h11 => ?_) (fun h11 => ?_)
                      · replace h11 : ((makeMan x0 x1 x2 x3).2 == (makeMan x0 x1 x2 x3).2) = false := notT h11
                        refine wp_seq ?_
                        refine at_regq (T := S_laws_FnExactMakeManifest_tab) [] { ts := [8, 14, 17], os := [11, 12] } [] gamOK hT h (by kernel_rfl) trivial ?_
                        intro a w h
                        refine then_normal ?_
                        refine wp_ret ?_
                        refine then_ret ?_
                        exact at_return (S := S_laws_FnExactMakeManifest) (x := (x0, x1, x2, x3, ())) (false, ()) [] h (by kernel_rfl) trivial (congrArg (fun z => (z, ())) (show (false) = D_laws_FnExactMakeManifest x0 x1 x2 x3 from by unfold D_laws_FnExactMakeManifest; exact absurd (beqT (show _ = _ from by first | rfl | (rfl))) (neT h11)))
                      · replace h11 : ((makeMan x0 x1 x2 x3).2 == (makeMan x0 x1 x2 x3).2) = true := notF h11
                        refine wp_skip ?_
                        refine then_normal ?_
                        refine wp_seq ?_
                        refine at_regq (T := S_laws_FnExactMakeManifest_tab) [] { ts := [8, 14, 17, 18], os := [11, 12] } [] gamOK hT h (by kernel_rfl) trivial ?_
                        intro a w h
                        refine then_normal ?_
                        refine wp_seq ?_
                        refine at_regq (T := S_laws_FnExactMakeManifest_tab) [] { ts := [8, 17, 18], os := [] } [(pMkT s47) ((Sh.mkT s47) (makeMan x0 x1 x2 x3).1 1) 1] gamOK hT h (by kernel_rfl) ⟨(by (show (0 : Int) ≤ _ ∧ _ + ((Sh.ctT _ _ : Nat) : Int) ≤ (4611686018427387904 : Int); (try simp only [mkK, mkKT, Sh.ctT_mkT, Sh.ct_mk]); constructor <;> omega)), trivial⟩ ?_
                        intro a w h
                        refine then_normal ?_
                        refine wp_seq ?_
                        refine wp_seq ?_
                        refine at_reg (T := S_laws_FnExactMakeManifest_tab) [] { ts := [8, 17, 18, 125], os := [] } ⟨[(8, aB false), (17, aI ((mkKT s47) (makeMan x0 x1 x2 x3).1 1)), (18, aI ((heldDT s47) ((Sh.mkT s47) (makeMan x0 x1 x2 x3).1 1) 1)), (125, aB (decide (((heldDT s47) ((Sh.mkT s47) (makeMan x0 x1 x2 x3).1 1) 1) < 0)))], []⟩ [] gamOK hT h (by kernel_rfl) trivial ?_
                        intro a w h
                        refine then_normal ?_
                        refine at_test (decide (((heldDT s47) ((Sh.mkT s47) (makeMan x0 x1 x2 x3).1 1) 1) < 0)) h (by kernel_rfl) (fun h12 => ?_) (fun h12 => ?_)
                        · replace h12 : ((heldDT s47) ((Sh.mkT s47) (makeMan x0 x1 x2 x3).1 1) 1) < 0 := of_decide_eq_true h12
                          refine wp_seq ?_
                          refine at_regq (T := S_laws_FnExactMakeManifest_tab) [] { ts := [8, 17, 18], os := [] } [] gamOK hT h (by kernel_rfl) trivial ?_
                          intro a w h
                          refine then_normal ?_
                          refine wp_ret ?_
                          refine then_ret ?_
                          exact at_return (S := S_laws_FnExactMakeManifest) (x := (x0, x1, x2, x3, ())) (false, ()) [] h (by kernel_rfl) trivial (congrArg (fun z => (z, ())) (show (false) = D_laws_FnExactMakeManifest x0 x1 x2 x3 from by unfold D_laws_FnExactMakeManifest; (exfalso; simp only [held_marked, held_markedT, mkK, mkKT, Sh.ctT_mkT, Sh.ct_mk] at h12; first | omega | exact h12 trivial | exact h12 rfl)))
                        · replace h12 : ¬ (((heldDT s47) ((Sh.mkT s47) (makeMan x0 x1 x2 x3).1 1) 1) < 0) := of_decide_eq_false h12
                          refine wp_skip ?_
                          refine then_normal ?_
                          refine wp_seq ?_
                          refine wp_seq ?_
                          refine at_regq (T := S_laws_FnExactMakeManifest_tab) [] { ts := [8, 128], os := [] } [] gamOK hT h (by kernel_rfl) trivial ?_
                          intro a w h
                          refine then_normal ?_
                          refine at_test (!decide (((heldDT s47) ((Sh.mkT s47) (makeMan x0 x1 x2 x3).1 1) 1) = ((mkKT s47) (makeMan x0 x1 x2 x3).1 1))) h (by kernel_rfl) (fun h13 => ?_) (fun h13 => ?_)
                          · replace h13 : ¬ (((heldDT s47) ((Sh.mkT s47) (makeMan x0 x1 x2 x3).1 1) 1) = ((mkKT s47) (makeMan x0 x1 x2 x3).1 1)) := of_decide_eq_false (notT h13)
                            refine wp_seq ?_
                            refine at_regq (T := S_laws_FnExactMakeManifest_tab) [] { ts := [8], os := [] } [] gamOK hT h (by kernel_rfl) trivial ?_
                            intro a w h
                            refine then_normal ?_
                            refine wp_ret ?_
                            refine then_ret ?_
                            exact at_return (S := S_laws_FnExactMakeManifest) (x := (x0, x1, x2, x3, ())) (false, ()) [] h (by kernel_rfl) trivial (congrArg (fun z => (z, ())) (show (false) = D_laws_FnExactMakeManifest x0 x1 x2 x3 from by unfold D_laws_FnExactMakeManifest; (exfalso; simp only [held_marked, held_markedT, mkK, mkKT, Sh.ctT_mkT, Sh.ct_mk] at h13; first | omega | exact h13 trivial | exact h13 rfl)))
                          · replace h13 : ((heldDT s47) ((Sh.mkT s47) (makeMan x0 x1 x2 x3).1 1) 1) = ((mkKT s47) (makeMan x0 x1 x2 x3).1 1) := of_decide_eq_true (notF h13)
                            refine wp_skip ?_
                            refine then_normal ?_
                            refine wp_seq ?_
                            refine at_regq (T := S_laws_FnExactMakeManifest_tab) [] { ts := [8], os := [] } [] gamOK hT h (by kernel_rfl) trivial ?_
                            intro a w h
                            refine then_normal ?_
                            refine wp_ret ?_
                            exact at_return (S := S_laws_FnExactMakeManifest) (x := (x0, x1, x2, x3, ())) (true, ()) [] h (by kernel_rfl) trivial (congrArg (fun z => (z, ())) (show (true) = D_laws_FnExactMakeManifest x0 x1 x2 x3 from by unfold D_laws_FnExactMakeManifest; rfl))

theorem opn3 : OpensS Try.prog 3 (.int 3) := opensS_int Try.underlying3
theorem co3 : Try.prog.cellsOf 3 = 1 := by kernel_rfl
theorem opn22 : OpensS Try.prog 22 s22 := opensS_slice (a := (.int 3)) Try.underlying22 co3 opn3
theorem co22 : Try.prog.cellsOf 22 = 1 := by kernel_rfl
theorem co36 : Try.prog.cellsOf 36 = 1 := by kernel_rfl
theorem opn36 : OpensS Try.prog 36 s36 := by
  intro H enc w base spare held fuel cs x h
  obtain ⟨xs, n, _, _, hl, hlen, hf⟩ := DataW.trod_struct Try.underlying36 h
  obtain ⟨a0, k0, i0⟩ := opensS_field (a := s22) (i := 0) 0 1 hf hlen rfl rfl rfl co22 opn22
  rw [co36] at hl
  exact ⟨a0, (rdS_last (off := 0) k0 (by omega)), i0⟩
theorem opn80 : OpensS Try.prog 80 s80 := opensS_slice (a := s22) Try.underlying80 co22 opn22
theorem co80 : Try.prog.cellsOf 80 = 1 := by kernel_rfl
theorem co82 : Try.prog.cellsOf 82 = 2 := by kernel_rfl
theorem opn82 : OpensS Try.prog 82 s82 := by
  intro H enc w base spare held fuel cs x h
  obtain ⟨xs, n, _, _, hl, hlen, hf⟩ := DataW.trod_struct Try.underlying82 h
  obtain ⟨a0, k0, i0⟩ := opensS_field (a := (.int 3)) (i := 0) 0 1 hf hlen rfl rfl rfl co3 opn3
  obtain ⟨a1, k1, i1⟩ := opensS_field (a := s80) (i := 1) 1 1 hf hlen rfl rfl rfl co80 opn80
  rw [co82] at hl
  exact ⟨(a0, a1), (rdS_pair (off := 0) k0 (rdS_last (off := 1) k1 (by omega))), ⟨i0, i1⟩⟩
namespace fnExactMakeManifest
open Go.ChangeShapes Go.WideShapes Go.ChangeAt Go.RowKit
theorem own : ownKnob Try.prog.godebug = none := by kernel_rfl
theorem laidOut : laidOutB Try.prog = true := fxLaid
set_option maxRecDepth 100000 in
theorem lifted (os : Os) (started : os.Started) (H : Type) (enc : TypeId × Value → H) :
    ReturnsInHanded {} Try.checked os 6 .any (Rows.fnExactMakeManifestSpec.pre6 enc Try.prog Try.f6 Rows.fnExactMakeManifestRow.domain false) (Rows.fnExactMakeManifestSpec.post enc Try.prog Try.f6 false true false false) := by
  refine returnsInHanded_of_change (C := Try.checked) own started (by kernel_rfl) Try.func6
    (ChangeSpec.witness6 (enc := enc) (C := Try.checked) false ⟨#[], #[.int .i64 0, .int .i64 0, .agg #[.slice none 0 0], .agg #[.int .i64 0, .slice none 0 0]], []⟩ 8 (by kernel_rfl) (by kernel_rfl) (by kernel_rfl) (by kernel_rfl)) ?_
  intro W base args ds gs before hval0 hW hcnd _
  have hval : ∀ (j : Nat) t v, Try.f6.params[j]? = some t → args[j]? = some v → Value.okWide Try.prog W .any base t v := hval0
  have hW' := hW
  obtain ⟨p, q, hA0, hV, rfl, hfz, hnd⟩ := hW
  have hA : DataW.TrodAll enc Try.prog W 0 (fun _ => true) true Try.f6.params.toList args.toList ds p := hA0
  rw [Try.params6] at hA hval
  obtain ⟨v0, vs0, d0, ds0, p0, q0, hargs, rfl, rfl, h0, r0⟩ := trodAll_cons hA
  obtain ⟨v1, vs1, d1, ds1, p1, q1, rfl, rfl, rfl, h1, r1⟩ := trodAll_cons r0
  obtain ⟨v2, vs2, d2, ds2, p2, q2, rfl, rfl, rfl, h2, r2⟩ := trodAll_cons r1
  obtain ⟨v3, vs3, d3, ds3, p3, q3, rfl, rfl, rfl, h3, r3⟩ := trodAll_cons r2
  obtain ⟨rfl, rfl, rfl⟩ := trodAll_nil r3
  obtain rfl : args = #[v0, v1, v2, v3] := by cases args; simp_all
  obtain ⟨rfl, rfl⟩ := trodVars_none hV
  have k0 := h0
  have lt0 : ∀ x ∈ p0, x.block < W.heap.size := by obtain ⟨m, hm⟩ := k0; exact DataW.trod_lt m _ _ _ hm
  obtain ⟨a0, rfl, rfl, rfl, w0⟩ := open_int Try.underlying3 (hval 0 3 v0 rfl rfl) h0
  have k1 := h1
  have lt1 : ∀ x ∈ p1, x.block < W.heap.size := by obtain ⟨m, hm⟩ := k1; exact DataW.trod_lt m _ _ _ hm
  obtain ⟨a1, rfl, rfl, rfl, w1⟩ := open_int Try.underlying3 (hval 1 3 v1 rfl rfl) h1
  have k2 := h2
  have lt2 : ∀ x ∈ p2, x.block < W.heap.size := by obtain ⟨m, hm⟩ := k2; exact DataW.trod_lt m _ _ _ hm
  obtain ⟨cs2, rfl, _⟩ := okWide_struct Try.underlying36 (hval 2 36 v2 rfl rfl)
  obtain ⟨cs2⟩ := cs2
  obtain ⟨x2, hx2, i2⟩ : ∃ x : (s36).D, (s36).rd W (fun b => b < W.heap.size) cs2 x ∧ (s36).i64 x := by obtain ⟨fuel, hf⟩ := h2; exact opn36 hf
  have k3 := h3
  have lt3 : ∀ x ∈ p3, x.block < W.heap.size := by obtain ⟨m, hm⟩ := k3; exact DataW.trod_lt m _ _ _ hm
  obtain ⟨cs3, rfl, _⟩ := okWide_struct Try.underlying82 (hval 3 82 v3 rfl rfl)
  obtain ⟨cs3⟩ := cs3
  obtain ⟨x3, hx3, i3⟩ : ∃ x : (s82).D, (s82).rd W (fun b => b < W.heap.size) cs3 x ∧ (s82).i64 x := by obtain ⟨fuel, hf⟩ := h3; exact opn82 hf
  clear hA0 hval0
  refine (calls_law S_laws_FnExactMakeManifest_ok (by kernel_rfl) W (fun b => b < W.heap.size) [.int .i64 a0, .int .i64 a1, .agg cs2.toArray, .agg cs3.toArray] (a0, a1, x2, x3, ()) (fun _ h => h) ⟨argRd_int a0, argRd_int a1, argRd_st hx2, argRd_st hx3, trivial⟩ ⟨(show I64 a0 from by unfold I64; simpa [Lit.wf, IntKind.min, IntKind.max, IntKind.signed, IntKind.bits] using w0), (show I64 a1 from by unfold I64; simpa [Lit.wf, IntKind.min, IntKind.max, IntKind.signed, IntKind.bits] using w1), i2, i3⟩).mono fun e W' hr => ?_
  obtain ⟨he, bel⟩ := ret_bool hr
  subst he
  exact ⟨_, rfl, _, _, _, [], _, [], hW', trodAll_mk1 (shut_bool Try.underlying4 _), (trodAll_cons_mk (Below.trod laidOut (by kernel_rfl) (of_decide_eq_true (by kernel_rfl)) k0 bel lt0) (trodAll_cons_mk (Below.trod laidOut (by kernel_rfl) (of_decide_eq_true (by kernel_rfl)) k1 bel lt1) (trodAll_cons_mk (Below.trod laidOut (by kernel_rfl) (of_decide_eq_true (by kernel_rfl)) k2 bel lt2) (trodAll_cons_mk (Below.trod laidOut (by kernel_rfl) (of_decide_eq_true (by kernel_rfl)) k3 bel lt3) trodAll_mk0)))), rfl, bel.frame _, fun h => by cases h⟩
theorem closed : joinedFacts Try.prog 6 Try.f6 (Rows.fnExactMakeManifestSpec) Rows.fnExactMakeManifestRow = true := by
  unfold joinedFacts
  exact (and2 (and2 (and2 (and2 (and2 (and2 (and2 (and2 (and2 (and2 (and2 (and2 (and2 (and2 (and2 (and2 (and2 (and2 (and2 (and2 (and2 (and2 (and2 (and2 (and2 (and2 (and2 (and2 (and2 (and2 (and2 (by kernel_rfl) fxLaid) fxMaps) (by kernel_rfl)) (by kernel_rfl)) (by kernel_rfl)) (by kernel_rfl)) (by kernel_rfl)) (by kernel_rfl)) (by kernel_rfl)) (by kernel_rfl)) (by kernel_rfl)) (by kernel_rfl)) (by kernel_rfl)) (by kernel_rfl)) (by kernel_rfl)) (by kernel_rfl)) (by kernel_rfl)) (by kernel_rfl)) (by kernel_rfl)) (by kernel_rfl)) (by kernel_rfl)) (by kernel_rfl)) (by kernel_rfl)) (by kernel_rfl)) fxEnter) (by rw [fxLifts]; kernel_rfl)) (by rw [fxMake]; kernel_rfl)) (by kernel_rfl)) (by kernel_rfl)) (by kernel_rfl)) (by kernel_rfl))
theorem over : Rows.fnExactMakeManifestRow.holds Try.pinned (OpenSpec.ofChange Rows.fnExactMakeManifestSpec) :=
  OpenClaim.holds_of_wide 6 Try.f6 rfl rfl rfl rfl rfl rfl rfl ⟨rfl, rfl, rfl, rfl, rfl⟩ rfl rfl rfl rfl rfl (by kernel_rfl) Try.func6 closed
    (of_decide_eq_true (by kernel_rfl)) (by unfold Func.isWrapper; first | (rw [if_pos (by decide +kernel)]; kernel_rfl) | (rw [if_neg (by decide +kernel)]; exact ⟨rfl, rfl⟩))
    (fun os started H enc _ => lifted os started H enc)
/-- the statement -/
theorem proved : Rows.FnExactMakeManifestSaid := over
end fnExactMakeManifest

end Go.Proofs.Ytkialoggpcdhkaa

/- The law FnExactRecode returns true for every input and leaves its arguments as they were. No condition. -/
import Derived.Test.YtdmkjcnppgfeoaaRecode3
import Derived.Test.YtdmkjcnppgfeoaaLA
import Derived.Test.YtdmkjcnppgfeoaaProg
import Derived.Test.YtdmkjcnppgfeoaaRows
import Derived.Test.YtdmkjcnppgfeoaaFX
namespace Go.Proofs.Ytdmkjcnppgfeoaa
open Go.RowKit
set_option linter.unusedVariables false
set_option linter.unusedSimpArgs false
def D_laws_FnExactRecode := (fun (_ : T124) (_ : Int) => true)
abbrev Q_laws_FnExactRecode := (fun (x0 : T124) (x1 : Int) => Sh.i64 s124 x0 ∧ Sh.i64 (.int 3) x1)
def S_laws_FnExactRecode : Sum := { fid := 9, dom := [s124, (.int 3)], cod := [(.bool 4)], dp := true, fz := false, pre := fun x => Q_laws_FnExactRecode x.1 x.2.1, g := fun x => ((D_laws_FnExactRecode x.1 x.2.1), ()) }
def S_laws_FnExactRecode_tab : List (Nat × Sum) := [(63, S_laws_szRecoder), (65, S_laws_toRecoder), (64, S_spec_Recode), (66, S_impl_Recode), (67, S_laws_eqRecoder), (59, S_laws_eqCodedPacket), (68, S_laws_markRecoder), (61, S_laws_markCodedPacket), (69, S_laws_heldRecoder), (70, S_laws_heldCodedPacket)]
theorem S_laws_FnExactRecode_ok : FnOK Try.prog 9 S_laws_FnExactRecode := by
 refine at_enter 138 (fun x => ⟨[(0, aG [cI x.1.1, cI x.1.2.1, cI x.1.2.2.1, .ro s44 x.1.2.2.2.1, cI x.1.2.2.2.2]), (1, aI x.2.1)], []⟩) Try.func9 rfl (by kernel_rfl) (fun x => rfl) ?_
 rintro w0 Z0 ⟨x0, x1, u⟩ a w
 revert x0 x1
 intro (x0 : T124) (x1 : Int) hpre hlens h
 replace h : At w0 Z0 [] 138 ⟨[(0, aG [cI x0.1, cI x0.2.1, cI x0.2.2.1, .ro s44 x0.2.2.2.1, cI x0.2.2.2.2]), (1, aI x1)], []⟩ a w := h
 replace hpre : Q_laws_FnExactRecode x0 x1 := hpre
 have hl1 : List.length x0.2.2.2.1 ≤ 9223372036854775807 := hlens.1.2.2.2.1.1
 have hT : TabOK Try.prog S_laws_FnExactRecode_tab := (.cons S_laws_szRecoder_ok (.cons S_laws_toRecoder_ok (.cons S_spec_Recode_ok (.cons S_impl_Recode_ok (.cons S_laws_eqRecoder_ok (.cons S_laws_eqCodedPacket_ok (.cons S_laws_markRecoder_ok (.cons S_laws_markCodedPacket_ok (.cons S_laws_heldRecoder_ok (.cons S_laws_heldCodedPacket_ok .nil))))))))))
 have hq0 : Sh.sz s128 x0 = Sh.sz s124 x0 := rfl
 have hb0 : Sh.ctT s128 x0 ≤ 7 * Sh.sz s128 x0 := Sh.ctT_le2 s128 x0
 have hz0 : Sh.ct s128 x0 ≤ 7 * (1 + Sh.sz s128 x0) := Sh.ct_le s128 x0
 have ht0 : Sh.sz s124 x0 = (0 + (0 + (0 + ((Sh.sz s122 x0.2.2.2.1) + 0)))) := rfl
 have hs0_1 : Sh.sz s122 x0.2.2.2.1 = List.length x0.2.2.2.1 + ctL (Sh.sz s44) x0.2.2.2.1 := rfl
 have hr1 : Sh.ctT s128 ((recodeR x0 x1).1) ≤ 7 * Sh.sz s128 ((recodeR x0 x1).1) := Sh.ctT_le2 s128 _
 have hr2 : Sh.ctT s61 ((recodeR x0 x1).2.1) ≤ 3 * Sh.sz s61 ((recodeR x0 x1).2.1) := Sh.ctT_le2 s61 _
 have hr3 := recodeR_sz x0 x1
 refine wp_seq ?_
 refine at_regq [{ ids := [1] }] { ts := [1, 2, 4], os := [1] } [] gamOK hT h (by kernel_rfl) trivial fun a w h => then_normal (wp_seq ?_)
 refine at_regq [] { ts := [1, 2, 4, 5], os := [1] } [] gamOK hT h (by kernel_rfl) trivial fun a w h => then_normal (wp_seq ?_)
 refine at_regq [] { ts := [1, 2, 4, 5], os := [1] } [(pSz s124) x0 1048576] gamOK hT h (by kernel_rfl) ⟨(by (show (0 : Int) ≤ _ ∧ _ ≤ (9223372036854775807 : Int); constructor <;> omega)), trivial⟩ fun a w h => then_normal (wp_seq (wp_seq ?_))
 refine at_regq [] { ts := [1, 2, 4, 23], os := [1] } [] gamOK hT h (by kernel_rfl) trivial fun a w h => then_normal ?_
 refine at_test (decide (((szD s124) x0 1048576) < 0)) h (by kernel_rfl) (fun h1 => ?_) (fun h1 => ?_)
 ·replace h1 : ((szD s124) x0 1048576) < 0 := of_decide_eq_true h1
  have hvh1 := szD_neg h1 (by omega)
  refine wp_seq ?_
  refine at_regq [] { ts := [1, 2, 4], os := [1] } [] gamOK hT h (by kernel_rfl) trivial fun a w h => then_normal (wp_ret (then_ret ?_))
  exact at_return (S := S_laws_FnExactRecode) (x := (x0, x1, ())) (true, ()) [] h (by kernel_rfl) trivial (congrArg (fun z => (z, ())) (show (true) = D_laws_FnExactRecode x0 x1 from by unfold D_laws_FnExactRecode; rfl))
 ·replace h1 : ¬ (((szD s124) x0 1048576) < 0) := of_decide_eq_false h1
  have hvh1 := szD_val h1 (by omega)
  refine wp_skip (then_normal (wp_seq ?_))
  refine at_regq [{}, { ids := [2] }, {}, { ids := [3, 4, 5] }, {}, {}, {}, {}, { ids := [6] }, { ids := [7] }] { ts := [1, 2, 4, 6, 7, 8], os := [1, 3, 4, 5, 6, 7] } [(pTo s124) x0, Q_spec_Recode x0 x1] gamOK hT h (by kernel_rfl) ⟨(by (show Sh.sz _ _ ≤ 1048576; omega)), (by exact (Sh.fit_of_sz s128 rfl (x := x0) (by omega))), trivial⟩ fun a w h => then_normal (wp_seq ?_)
  refine at_regq [{}, { ids := [8] }, { ids := [9] }] { ts := [1, 2, 4, 6, 7, 8, 9], os := [1, 3, 4, 5, 6, 7, 8, 9] } [(pTo s124) x0] gamOK hT h (by kernel_rfl) ⟨(by (show Sh.sz _ _ ≤ 1048576; omega)), trivial⟩ fun a w h => then_normal (wp_seq ?_)
  refine at_regq [{}, {}, { ids := [10, 11, 12] }, {}, {}, {}, {}, { ids := [13] }, { ids := [14] }] { ts := [1, 2, 4, 6, 7, 8, 9, 10, 11, 12], os := [1, 3, 4, 5, 6, 7, 8, 9, 10, 11, 12, 13, 14] } [Q_impl_Recode x0 x1] gamOK hT h (by kernel_rfl) ⟨(by exact (Sh.fit_of_sz s128 rfl (x := x0) (by omega))), trivial⟩ fun a w h => then_normal (wp_seq (wp_seq ?_))
  rcases Bool.eq_false_or_eq_true (!((Sh.eqB s128) (recodeR x0 x1).1 (recodeR x0 x1).1)) with h2 | h2
  ·have hzh2 : ((Sh.eqB s128) (recodeR x0 x1).1 (recodeR x0 x1).1) = false := notT h2
   refine at_regq [{}, {}, {}, { hint := some (aB true) }] { ts := [1, 2, 4, 6, 7, 8, 9, 10, 11, 12, 55], os := [1, 3, 4, 5, 6, 7, 8, 9, 10, 11, 12, 13, 14] } [True, (AV.p (.c (.v (.bool (!((Sh.eqB s128) (recodeR x0 x1).1 (recodeR x0 x1).1))))) = AV.p (.c (.v (.bool true))))] gamOK hT h (by kernel_rfl) ⟨trivial, hint_bool (h2), trivial⟩ fun a w h => then_normal ?_
   refine at_test true h (by kernel_rfl) (fun hh => ?_) (fun hh => nomatch hh)
   refine wp_seq ?_
   refine at_reg [] { ts := [1, 2, 4, 6, 7, 8, 9, 10, 11, 12], os := [1, 3, 4, 5, 6, 7, 8, 9, 10, 11, 12, 13, 14] } ⟨[(1, aI x1), (2, aP 1 0), (4, aB false), (6, aP 6 0), (7, aP 7 0), (8, aB (recodeR x0 x1).2.2), (9, aP 9 0), (10, aP 13 0), (11, aP 14 0), (12, aB (recodeR x0 x1).2.2)], [(1, oX 124 [cI x0.1, cI x0.2.1, cI x0.2.2.1, .ro s44 x0.2.2.2.1, cI x0.2.2.2.2]), (3, oR s61 (recodeR x0 x1).1.2.2.2.1), (4, oR (.int 3) (recodeR x0 x1).2.1.2.1), (5, oR (.int 3) (recodeR x0 x1).2.1.2.2), (6, oX 128 [cI (recodeR x0 x1).1.1, cI (recodeR x0 x1).1.2.1, cI (recodeR x0 x1).1.2.2.1, .sl 3, cI (recodeR x0 x1).1.2.2.2.2]), (7, oX 61 [cI (recodeR x0 x1).2.1.1, .sl 4, .sl 5]), (8, oR s61 x0.2.2.2.1), (9, oX 128 [cI x0.1, cI x0.2.1, cI x0.2.2.1, .sl 8, cI x0.2.2.2.2]), (10, oR s61 (recodeR x0 x1).1.2.2.2.1), (11, oR (.int 3) (recodeR x0 x1).2.1.2.1), (12, oR (.int 3) (recodeR x0 x1).2.1.2.2), (13, oX 128 [cI (recodeR x0 x1).1.1, cI (recodeR x0 x1).1.2.1, cI (recodeR x0 x1).1.2.2.1, .sl 10, cI (recodeR x0 x1).1.2.2.2.2]), (14, oX 61 [cI (recodeR x0 x1).2.1.1, .sl 11, .sl 12])]⟩ [] gamOK hT h (by kernel_rfl) trivial fun a w h => then_normal (wp_ret (then_ret ?_))
   exact at_return (S := S_laws_FnExactRecode) (x := (x0, x1, ())) (false, ()) [] h (by kernel_rfl) trivial (congrArg (fun z => (z, ())) (show (false) = D_laws_FnExactRecode x0 x1 from by unfold D_laws_FnExactRecode; exact absurd ((Sh.eqB_iff _).2 (show _ = _ from by first | rfl | (rfl))) (neT (notT h2))))
  ·have hzh2 : ((Sh.eqB s128) (recodeR x0 x1).1 (recodeR x0 x1).1) = true := notF h2
   rcases Bool.eq_false_or_eq_true (!((Sh.eqB s61) (recodeR x0 x1).2.1 (recodeR x0 x1).2.1)) with h3 | h3
   ·have hzh3 : ((Sh.eqB s61) (recodeR x0 x1).2.1 (recodeR x0 x1).2.1) = false := notT h3
    refine at_regq [{}, {}, {}, { hint := some (aB false) }, {}, {}, {}, {}, { hint := some (aB true) }] { ts := [1, 2, 4, 6, 7, 8, 9, 10, 11, 12, 55], os := [1, 3, 4, 5, 6, 7, 8, 9, 10, 11, 12, 13, 14] } [True, (AV.p (.c (.v (.bool (!((Sh.eqB s128) (recodeR x0 x1).1 (recodeR x0 x1).1))))) = AV.p (.c (.v (.bool false)))), True, (AV.p (.c (.v (.bool (!((Sh.eqB s61) (recodeR x0 x1).2.1 (recodeR x0 x1).2.1))))) = AV.p (.c (.v (.bool true))))] gamOK hT h (by kernel_rfl) ⟨trivial, hint_bool (h2), trivial, hint_bool (h3), trivial⟩ fun a w h => then_normal ?_
    refine at_test true h (by kernel_rfl) (fun hh => ?_) (fun hh => nomatch hh)
    refine wp_seq ?_
    refine at_reg [] { ts := [1, 2, 4, 6, 7, 8, 9, 10, 11, 12], os := [1, 3, 4, 5, 6, 7, 8, 9, 10, 11, 12, 13, 14] } ⟨[(1, aI x1), (2, aP 1 0), (4, aB false), (6, aP 6 0), (7, aP 7 0), (8, aB (recodeR x0 x1).2.2), (9, aP 9 0), (10, aP 13 0), (11, aP 14 0), (12, aB (recodeR x0 x1).2.2)], [(1, oX 124 [cI x0.1, cI x0.2.1, cI x0.2.2.1, .ro s44 x0.2.2.2.1, cI x0.2.2.2.2]), (3, oR s61 (recodeR x0 x1).1.2.2.2.1), (4, oR (.int 3) (recodeR x0 x1).2.1.2.1), (5, oR (.int 3) (recodeR x0 x1).2.1.2.2), (6, oX 128 [cI (recodeR x0 x1).1.1, cI (recodeR x0 x1).1.2.1, cI (recodeR x0 x1).1.2.2.1, .sl 3, cI (recodeR x0 x1).1.2.2.2.2]), (7, oX 61 [cI (recodeR x0 x1).2.1.1, .sl 4, .sl 5]), (8, oR s61 x0.2.2.2.1), (9, oX 128 [cI x0.1, cI x0.2.1, cI x0.2.2.1, .sl 8, cI x0.2.2.2.2]), (10, oR s61 (recodeR x0 x1).1.2.2.2.1), (11, oR (.int 3) (recodeR x0 x1).2.1.2.1), (12, oR (.int 3) (recodeR x0 x1).2.1.2.2), (13, oX 128 [cI (recodeR x0 x1).1.1, cI (recodeR x0 x1).1.2.1, cI (recodeR x0 x1).1.2.2.1, .sl 10, cI (recodeR x0 x1).1.2.2.2.2]), (14, oX 61 [cI (recodeR x0 x1).2.1.1, .sl 11, .sl 12])]⟩ [] gamOK hT h (by kernel_rfl) trivial fun a w h => then_normal (wp_ret (then_ret ?_))
    exact at_return (S := S_laws_FnExactRecode) (x := (x0, x1, ())) (false, ()) [] h (by kernel_rfl) trivial (congrArg (fun z => (z, ())) (show (false) = D_laws_FnExactRecode x0 x1 from by unfold D_laws_FnExactRecode; exact absurd ((Sh.eqB_iff _).2 (show _ = _ from by first | rfl | (rfl))) (neT (notT h3))))
   ·have hzh3 : ((Sh.eqB s61) (recodeR x0 x1).2.1 (recodeR x0 x1).2.1) = true := notF h3
    refine at_regq [{}, {}, {}, { hint := some (aB false) }, {}, {}, {}, {}, { hint := some (aB false) }] { ts := [1, 2, 4, 6, 7, 8, 9, 10, 11, 12, 55], os := [1, 3, 4, 5, 6, 7, 8, 9, 10, 11, 12, 13, 14] } [True, (AV.p (.c (.v (.bool (!((Sh.eqB s128) (recodeR x0 x1).1 (recodeR x0 x1).1))))) = AV.p (.c (.v (.bool false)))), True, (AV.p (.c (.v (.bool (!((Sh.eqB s61) (recodeR x0 x1).2.1 (recodeR x0 x1).2.1))))) = AV.p (.c (.v (.bool false))))] gamOK hT h (by kernel_rfl) ⟨trivial, hint_bool (h2), trivial, hint_bool (h3), trivial⟩ fun a w h => then_normal ?_
    refine at_test (!((recodeR x0 x1).2.2 == (recodeR x0 x1).2.2)) h (by kernel_rfl) (fun h4 => ?_) (fun h4 => ?_)
    ·replace h4 : ((recodeR x0 x1).2.2 == (recodeR x0 x1).2.2) = false := notT h4
     refine wp_seq ?_
     refine at_reg [] { ts := [1, 2, 4, 6, 7, 8, 9, 10, 11, 12], os := [1, 3, 4, 5, 6, 7, 8, 9, 10, 11, 12, 13, 14] } ⟨[(1, aI x1), (2, aP 1 0), (4, aB false), (6, aP 6 0), (7, aP 7 0), (8, aB (recodeR x0 x1).2.2), (9, aP 9 0), (10, aP 13 0), (11, aP 14 0), (12, aB (recodeR x0 x1).2.2)], [(1, oX 124 [cI x0.1, cI x0.2.1, cI x0.2.2.1, .ro s44 x0.2.2.2.1, cI x0.2.2.2.2]), (3, oR s61 (recodeR x0 x1).1.2.2.2.1), (4, oR (.int 3) (recodeR x0 x1).2.1.2.1), (5, oR (.int 3) (recodeR x0 x1).2.1.2.2), (6, oX 128 [cI (recodeR x0 x1).1.1, cI (recodeR x0 x1).1.2.1, cI (recodeR x0 x1).1.2.2.1, .sl 3, cI (recodeR x0 x1).1.2.2.2.2]), (7, oX 61 [cI (recodeR x0 x1).2.1.1, .sl 4, .sl 5]), (8, oR s61 x0.2.2.2.1), (9, oX 128 [cI x0.1, cI x0.2.1, cI x0.2.2.1, .sl 8, cI x0.2.2.2.2]), (10, oR s61 (recodeR x0 x1).1.2.2.2.1), (11, oR (.int 3) (recodeR x0 x1).2.1.2.1), (12, oR (.int 3) (recodeR x0 x1).2.1.2.2), (13, oX 128 [cI (recodeR x0 x1).1.1, cI (recodeR x0 x1).1.2.1, cI (recodeR x0 x1).1.2.2.1, .sl 10, cI (recodeR x0 x1).1.2.2.2.2]), (14, oX 61 [cI (recodeR x0 x1).2.1.1, .sl 11, .sl 12])]⟩ [] gamOK hT h (by kernel_rfl) trivial fun a w h => then_normal (wp_ret (then_ret ?_))
     exact at_return (S := S_laws_FnExactRecode) (x := (x0, x1, ())) (false, ()) [] h (by kernel_rfl) trivial (congrArg (fun z => (z, ())) (show (false) = D_laws_FnExactRecode x0 x1 from by unfold D_laws_FnExactRecode; exact absurd (beqT (show _ = _ from by first | rfl | (rfl))) (neT h4)))
    ·replace h4 : ((recodeR x0 x1).2.2 == (recodeR x0 x1).2.2) = true := notF h4
     refine wp_skip (then_normal (wp_seq (wp_seq ?_)))
     refine at_any [{}, {}, { ids := [15] }, {}, {}] { ts := [1, 2, 4, 6, 7, 8, 9, 10, 11, 12, 60], os := [1, 3, 4, 5, 6, 7, 8, 9, 10, 11, 12, 13, 14] } ⟨[(1, aI x1), (2, aP 1 0), (4, aB false), (6, aP 6 0), (7, aP 7 0), (8, aB (recodeR x0 x1).2.2), (9, aP 9 0), (10, aP 13 0), (11, aP 14 0), (12, aB (recodeR x0 x1).2.2), (60, aB (!((Sh.eqB s128) x0 x0)))], [(1, oX 124 [cI x0.1, cI x0.2.1, cI x0.2.2.1, .ro s44 x0.2.2.2.1, cI x0.2.2.2.2]), (3, oR s61 (recodeR x0 x1).1.2.2.2.1), (4, oR (.int 3) (recodeR x0 x1).2.1.2.1), (5, oR (.int 3) (recodeR x0 x1).2.1.2.2), (6, oX 128 [cI (recodeR x0 x1).1.1, cI (recodeR x0 x1).1.2.1, cI (recodeR x0 x1).1.2.2.1, .sl 3, cI (recodeR x0 x1).1.2.2.2.2]), (7, oX 61 [cI (recodeR x0 x1).2.1.1, .sl 4, .sl 5]), (8, oR s61 x0.2.2.2.1), (9, oX 128 [cI x0.1, cI x0.2.1, cI x0.2.2.1, .sl 8, cI x0.2.2.2.2]), (10, oR s61 (recodeR x0 x1).1.2.2.2.1), (11, oR (.int 3) (recodeR x0 x1).2.1.2.1), (12, oR (.int 3) (recodeR x0 x1).2.1.2.2), (13, oX 128 [cI (recodeR x0 x1).1.1, cI (recodeR x0 x1).1.2.1, cI (recodeR x0 x1).1.2.2.1, .sl 10, cI (recodeR x0 x1).1.2.2.2.2]), (14, oX 61 [cI (recodeR x0 x1).2.1.1, .sl 11, .sl 12])]⟩ [(pTo s124) x0, True] gamOK hT mixed h (by kernel_rfl) ⟨(by (show Sh.sz _ _ ≤ 1048576; omega)), trivial, trivial⟩ fun a w h => then_normal ?_
     refine at_test (!((Sh.eqB s128) x0 x0)) h (by kernel_rfl) (fun h5 => ?_) (fun h5 => ?_)
     ·replace h5 : ((Sh.eqB s128) x0 x0) = false := notT h5
      refine wp_seq ?_
      refine at_regq [] { ts := [1, 2, 4, 6, 7, 8, 9, 10, 11, 12], os := [1, 3, 4, 5, 6, 7, 8, 9, 10, 11, 12, 13, 14] } [] gamOK hT h (by kernel_rfl) trivial fun a w h => then_normal (wp_ret (then_ret ?_))
      exact at_return (S := S_laws_FnExactRecode) (x := (x0, x1, ())) (false, ()) [] h (by kernel_rfl) trivial (congrArg (fun z => (z, ())) (show (false) = D_laws_FnExactRecode x0 x1 from by unfold D_laws_FnExactRecode; exact absurd ((Sh.eqB_iff _).2 (show _ = _ from by first | rfl | (rfl))) (neT h5)))
     ·replace h5 : ((Sh.eqB s128) x0 x0) = true := notF h5
      refine wp_skip (then_normal (wp_seq ?_))
      refine at_regq [] { ts := [1, 2, 4, 6, 7, 8, 9, 10, 11, 12, 13], os := [1, 3, 4, 5, 6, 7, 8, 9, 10, 11, 12, 13, 14] } [] gamOK hT h (by kernel_rfl) trivial fun a w h => then_normal (wp_seq ?_)
      refine at_regq [] { ts := [1, 2, 4, 6, 7, 8, 10, 11, 12, 13], os := [1, 3, 4, 5, 6, 7, 10, 11, 12, 13, 14] } [(pMkT s128) x0 1] gamOK hT h (by kernel_rfl) ⟨(by (show (0 : Int) ≤ _ ∧ _ + ((Sh.ctT _ _ : Nat) : Int) ≤ (4611686018427387904 : Int); (try simp only [held_marked, held_markedT, mkK, mkKT, Sh.ctT_mkT, Sh.ct_mk]); constructor <;> omega)), trivial⟩ fun a w h => then_normal (wp_seq (wp_seq ?_))
      by_cases h6 : ((mkKT s128) x0 1) < 0
      ·refine at_regq [{}, { hint := some (aB true) }] { ts := [1, 2, 4, 6, 7, 8, 10, 11, 82], os := [1, 3, 4, 5, 6, 7, 10, 11, 12, 13, 14] } [(AV.p (.c (.v (.bool (decide (((mkKT s128) x0 1) < 0))))) = AV.p (.c (.v (.bool true))))] gamOK hT h (by kernel_rfl) ⟨hint_bool (decide_eq_true h6), trivial⟩ fun a w h => then_normal ?_
       refine at_test true h (by kernel_rfl) (fun hh => ?_) (fun hh => nomatch hh)
       refine wp_seq ?_
       refine at_regq [] { ts := [1, 2, 4, 6, 7, 8, 10, 11], os := [1, 3, 4, 5, 6, 7, 10, 11, 12, 13, 14] } [] gamOK hT h (by kernel_rfl) trivial fun a w h => then_normal (wp_ret (then_ret ?_))
       exact at_return (S := S_laws_FnExactRecode) (x := (x0, x1, ())) (false, ()) [] h (by kernel_rfl) trivial (congrArg (fun z => (z, ())) (show (false) = D_laws_FnExactRecode x0 x1 from by unfold D_laws_FnExactRecode; (exfalso; simp only [mkK, mkKT, Sh.ctT_mkT, Sh.ct_mk] at h6; first | omega | exact h6 trivial | exact h6 rfl)))
      ·refine at_regq [{}, { hint := some (aB false) }, {}, {}, {}, {}, { hint := some (aB false) }, {}, {}, {}, {}, {}, { hint := some (aB false) }] { ts := [1, 2, 4, 6, 7, 8, 10, 11, 82], os := [1, 3, 4, 5, 6, 7, 10, 11, 12, 13, 14] } [(AV.p (.c (.v (.bool (decide (((mkKT s128) x0 1) < 0))))) = AV.p (.c (.v (.bool false)))), True, (AV.p (.c (.v (.bool (!((Sh.eqB s128) (recodeR x0 x1).1 (recodeR x0 x1).1))))) = AV.p (.c (.v (.bool false)))), True, (AV.p (.c (.v (.bool (!((Sh.eqB s61) (recodeR x0 x1).2.1 (recodeR x0 x1).2.1))))) = AV.p (.c (.v (.bool false))))] gamOK hT h (by kernel_rfl) ⟨hint_bool (decide_eq_false h6), trivial, hint_bool (h2), trivial, hint_bool (h3), trivial⟩ fun a w h => then_normal ?_
       refine at_test (!((recodeR x0 x1).2.2 == (recodeR x0 x1).2.2)) h (by kernel_rfl) (fun h7 => ?_) (fun h7 => ?_)
       ·replace h7 : ((recodeR x0 x1).2.2 == (recodeR x0 x1).2.2) = false := notT h7
        refine wp_seq ?_
        refine at_regq [] { ts := [1, 2, 4, 6, 7, 8, 10, 11], os := [1, 3, 4, 5, 6, 7, 10, 11, 12, 13, 14] } [] gamOK hT h (by kernel_rfl) trivial fun a w h => then_normal (wp_ret (then_ret ?_))
        exact at_return (S := S_laws_FnExactRecode) (x := (x0, x1, ())) (false, ()) [] h (by kernel_rfl) trivial (congrArg (fun z => (z, ())) (show (false) = D_laws_FnExactRecode x0 x1 from by unfold D_laws_FnExactRecode; exact absurd (beqT (show _ = _ from by first | rfl | (rfl))) (neT h7)))
       ·replace h7 : ((recodeR x0 x1).2.2 == (recodeR x0 x1).2.2) = true := notF h7
        refine wp_skip (then_normal (wp_seq ?_))
        refine at_regq [] { ts := [1, 2, 4, 6, 7, 8, 10, 11, 14], os := [1, 3, 4, 5, 6, 7, 10, 11, 12, 13, 14] } [] gamOK hT h (by kernel_rfl) trivial fun a w h => then_normal (wp_seq ?_)
        refine at_regq [] { ts := [1, 2, 4, 6, 7, 8, 10, 11, 14], os := [1, 3, 4, 5, 6, 7, 10, 11, 12, 13, 14] } [(pMkT s128) (recodeR x0 x1).1 1] gamOK hT h (by kernel_rfl) ⟨(by (show (0 : Int) ≤ _ ∧ _ + ((Sh.ctT _ _ : Nat) : Int) ≤ (4611686018427387904 : Int); (try simp only [held_marked, held_markedT, mkK, mkKT, Sh.ctT_mkT, Sh.ct_mk]); constructor <;> omega)), trivial⟩ fun a w h => then_normal (wp_seq ?_)
        refine at_regq [] { ts := [1, 2, 4, 6, 7, 8, 10, 11, 14], os := [1, 3, 4, 5, 6, 7, 10, 11, 12, 13, 14] } [(pMkT s61) (recodeR x0 x1).2.1 ((mkKT s128) (recodeR x0 x1).1 1)] gamOK hT h (by kernel_rfl) ⟨(by (show (0 : Int) ≤ _ ∧ _ + ((Sh.ctT _ _ : Nat) : Int) ≤ (4611686018427387904 : Int); (try simp only [held_marked, held_markedT, mkK, mkKT, Sh.ctT_mkT, Sh.ct_mk]); constructor <;> omega)), trivial⟩ fun a w h => then_normal (wp_seq ?_)
        refine at_regq [] { ts := [1, 2, 4, 6, 7, 8, 10, 11, 14, 15], os := [1, 3, 4, 5, 6, 7, 10, 11, 12, 13, 14] } [] gamOK hT h (by kernel_rfl) trivial fun a w h => then_normal (wp_seq ?_)
        refine at_regq [] { ts := [1, 2, 4, 6, 7, 8, 10, 11, 14, 15], os := [1, 3, 4, 5, 6, 7, 10, 11, 12, 13, 14] } [(pMkT s128) ((Sh.mkT s128) (recodeR x0 x1).1 1) 1] gamOK hT h (by kernel_rfl) ⟨(by (show (0 : Int) ≤ _ ∧ _ + ((Sh.ctT _ _ : Nat) : Int) ≤ (4611686018427387904 : Int); (try simp only [held_marked, held_markedT, mkK, mkKT, Sh.ctT_mkT, Sh.ct_mk]); constructor <;> omega)), trivial⟩ fun a w h => then_normal (wp_seq (wp_seq ?_))
        refine at_reg [] { ts := [1, 2, 4, 6, 7, 8, 10, 11, 14, 15, 93], os := [1, 3, 4, 5, 6, 7, 10, 11, 12, 13, 14] } ⟨[(1, aI x1), (2, aP 1 0), (4, aB false), (6, aP 6 0), (7, aP 7 0), (8, aB (recodeR x0 x1).2.2), (10, aP 13 0), (11, aP 14 0), (14, aI ((mkKT s61) (recodeR x0 x1).2.1 ((mkKT s128) (recodeR x0 x1).1 1))), (15, aI ((heldDT s128) ((Sh.mkT s128) (recodeR x0 x1).1 1) 1)), (93, aB (decide (((heldDT s128) ((Sh.mkT s128) (recodeR x0 x1).1 1) 1) < 0)))], [(1, oX 124 [cI x0.1, cI x0.2.1, cI x0.2.2.1, .ro s44 x0.2.2.2.1, cI x0.2.2.2.2]), (3, oR s61 (recodeR x0 x1).1.2.2.2.1), (4, oR (.int 3) (recodeR x0 x1).2.1.2.1), (5, oR (.int 3) (recodeR x0 x1).2.1.2.2), (6, oX 128 [cI (recodeR x0 x1).1.1, cI (recodeR x0 x1).1.2.1, cI (recodeR x0 x1).1.2.2.1, .sl 3, cI (recodeR x0 x1).1.2.2.2.2]), (7, oX 61 [cI (recodeR x0 x1).2.1.1, .sl 4, .sl 5]), (10, oR s61 ((Sh.mkT s128) (recodeR x0 x1).1 1).2.2.2.1), (11, oR (.int 3) ((Sh.mkT s61) (recodeR x0 x1).2.1 ((mkKT s128) (recodeR x0 x1).1 1)).2.1), (12, oR (.int 3) ((Sh.mkT s61) (recodeR x0 x1).2.1 ((mkKT s128) (recodeR x0 x1).1 1)).2.2), (13, oX 128 [cI (recodeR x0 x1).1.1, cI (recodeR x0 x1).1.2.1, cI (recodeR x0 x1).1.2.2.1, .sl 10, cI (recodeR x0 x1).1.2.2.2.2]), (14, oX 61 [cI (recodeR x0 x1).2.1.1, .sl 11, .sl 12])]⟩ [] gamOK hT h (by kernel_rfl) trivial fun a w h => then_normal ?_
        refine at_test (decide (((heldDT s128) ((Sh.mkT s128) (recodeR x0 x1).1 1) 1) < 0)) h (by kernel_rfl) (fun h8 => ?_) (fun h8 => ?_)
        ·replace h8 : ((heldDT s128) ((Sh.mkT s128) (recodeR x0 x1).1 1) 1) < 0 := of_decide_eq_true h8
         refine wp_seq ?_
         refine at_regq [] { ts := [1, 2, 4, 6, 7, 8, 10, 11, 14, 15], os := [1, 3, 4, 5, 6, 7, 10, 11, 12, 13, 14] } [] gamOK hT h (by kernel_rfl) trivial fun a w h => then_normal (wp_ret (then_ret ?_))
         exact at_return (S := S_laws_FnExactRecode) (x := (x0, x1, ())) (false, ()) [] h (by kernel_rfl) trivial (congrArg (fun z => (z, ())) (show (false) = D_laws_FnExactRecode x0 x1 from by unfold D_laws_FnExactRecode; (exfalso; simp only [held_marked, held_markedT, mkK, mkKT, Sh.ctT_mkT, Sh.ct_mk] at h8; first | omega | exact h8 trivial | exact h8 rfl)))
        ·replace h8 : ¬ (((heldDT s128) ((Sh.mkT s128) (recodeR x0 x1).1 1) 1) < 0) := of_decide_eq_false h8
         refine wp_skip (then_normal (wp_seq ?_))
         refine at_regq [] { ts := [1, 2, 4, 6, 7, 8, 10, 11, 14, 15], os := [1, 3, 4, 5, 6, 7, 10, 11, 12, 13, 14] } [(pMkT s61) ((Sh.mkT s61) (recodeR x0 x1).2.1 ((mkKT s128) (recodeR x0 x1).1 1)) ((heldDT s128) ((Sh.mkT s128) (recodeR x0 x1).1 1) 1)] gamOK hT h (by kernel_rfl) ⟨(by (show (0 : Int) ≤ _ ∧ _ + ((Sh.ctT _ _ : Nat) : Int) ≤ (4611686018427387904 : Int); (try simp only [held_marked, held_markedT, mkK, mkKT, Sh.ctT_mkT, Sh.ct_mk]); constructor <;> omega)), trivial⟩ fun a w h => then_normal (wp_seq (wp_seq ?_))
         refine at_regq [] { ts := [1, 2, 4, 6, 7, 8, 10, 11, 14, 15, 98], os := [1, 3, 4, 5, 6, 7, 10, 11, 12, 13, 14] } [] gamOK hT h (by kernel_rfl) trivial fun a w h => then_normal ?_
         refine at_test (decide (((heldDT s61) ((Sh.mkT s61) (recodeR x0 x1).2.1 ((mkKT s128) (recodeR x0 x1).1 1)) ((heldDT s128) ((Sh.mkT s128) (recodeR x0 x1).1 1) 1)) < 0)) h (by kernel_rfl) (fun h9 => ?_) (fun h9 => ?_)
         ·replace h9 : ((heldDT s61) ((Sh.mkT s61) (recodeR x0 x1).2.1 ((mkKT s128) (recodeR x0 x1).1 1)) ((heldDT s128) ((Sh.mkT s128) (recodeR x0 x1).1 1) 1)) < 0 := of_decide_eq_true h9
          refine wp_seq ?_
          refine at_regq [] { ts := [1, 2, 4, 6, 7, 8, 10, 11, 14, 15], os := [1, 3, 4, 5, 6, 7, 10, 11, 12, 13, 14] } [] gamOK hT h (by kernel_rfl) trivial fun a w h => then_normal (wp_ret (then_ret ?_))
          exact at_return (S := S_laws_FnExactRecode) (x := (x0, x1, ())) (false, ()) [] h (by kernel_rfl) trivial (congrArg (fun z => (z, ())) (show (false) = D_laws_FnExactRecode x0 x1 from by unfold D_laws_FnExactRecode; (exfalso; simp only [held_marked, held_markedT, mkK, mkKT, Sh.ctT_mkT, Sh.ct_mk] at h9; first | omega | exact h9 trivial | exact h9 rfl)))
         ·replace h9 : ¬ (((heldDT s61) ((Sh.mkT s61) (recodeR x0 x1).2.1 ((mkKT s128) (recodeR x0 x1).1 1)) ((heldDT s128) ((Sh.mkT s128) (recodeR x0 x1).1 1) 1)) < 0) := of_decide_eq_false h9
          refine wp_skip (then_normal (wp_seq (wp_seq ?_)))
          refine at_regq [] { ts := [1, 2, 4, 6, 7, 8, 10, 11, 14, 101], os := [1, 3, 4, 5, 6, 7, 10, 11, 12, 13, 14] } [] gamOK hT h (by kernel_rfl) trivial fun a w h => then_normal ?_
          refine at_test (!decide (((heldDT s61) ((Sh.mkT s61) (recodeR x0 x1).2.1 ((mkKT s128) (recodeR x0 x1).1 1)) ((heldDT s128) ((Sh.mkT s128) (recodeR x0 x1).1 1) 1)) = ((mkKT s61) (recodeR x0 x1).2.1 ((mkKT s128) (recodeR x0 x1).1 1)))) h (by kernel_rfl) (fun h10 => ?_) (fun h10 => ?_)
          ·replace h10 : ¬ (((heldDT s61) ((Sh.mkT s61) (recodeR x0 x1).2.1 ((mkKT s128) (recodeR x0 x1).1 1)) ((heldDT s128) ((Sh.mkT s128) (recodeR x0 x1).1 1) 1)) = ((mkKT s61) (recodeR x0 x1).2.1 ((mkKT s128) (recodeR x0 x1).1 1))) := of_decide_eq_false (notT h10)
           refine wp_seq ?_
           refine at_regq [] { ts := [1, 2, 4, 6, 7, 8, 10, 11, 14], os := [1, 3, 4, 5, 6, 7, 10, 11, 12, 13, 14] } [] gamOK hT h (by kernel_rfl) trivial fun a w h => then_normal (wp_ret (then_ret ?_))
           exact at_return (S := S_laws_FnExactRecode) (x := (x0, x1, ())) (false, ()) [] h (by kernel_rfl) trivial (congrArg (fun z => (z, ())) (show (false) = D_laws_FnExactRecode x0 x1 from by unfold D_laws_FnExactRecode; (exfalso; simp only [held_marked, held_markedT, mkK, mkKT, Sh.ctT_mkT, Sh.ct_mk] at h10; first | omega | exact h10 trivial | exact h10 rfl)))
          ·replace h10 : ((heldDT s61) ((Sh.mkT s61) (recodeR x0 x1).2.1 ((mkKT s128) (recodeR x0 x1).1 1)) ((heldDT s128) ((Sh.mkT s128) (recodeR x0 x1).1 1) 1)) = ((mkKT s61) (recodeR x0 x1).2.1 ((mkKT s128) (recodeR x0 x1).1 1)) := of_decide_eq_true (notF h10)
           refine wp_skip (then_normal (wp_seq ?_))
           refine at_regq [{}, { ids := [16] }, {}, { ids := [17, 18, 19] }, {}, {}, {}, {}, { ids := [20] }, { ids := [21] }] { ts := [4, 6, 7, 8, 10, 11, 14, 16, 17, 18], os := [3, 4, 5, 6, 7, 10, 11, 12, 13, 14, 17, 18, 19, 20, 21] } [(pTo s124) x0, Q_impl_Recode x0 x1] gamOK hT h (by kernel_rfl) ⟨(by (show Sh.sz _ _ ≤ 1048576; omega)), (by exact (Sh.fit_of_sz s128 rfl (x := x0) (by omega))), trivial⟩ fun a w h => then_normal (wp_seq (wp_seq ?_))
           refine at_regq [{}, {}, {}, { hint := some (aB false) }, {}, {}, {}, {}, { hint := some (aB false) }] { ts := [4, 10, 11, 14, 124], os := [10, 11, 12, 13, 14] } [True, (AV.p (.c (.v (.bool (!((Sh.eqB s128) (recodeR x0 x1).1 (recodeR x0 x1).1))))) = AV.p (.c (.v (.bool false)))), True, (AV.p (.c (.v (.bool (!((Sh.eqB s61) (recodeR x0 x1).2.1 (recodeR x0 x1).2.1))))) = AV.p (.c (.v (.bool false))))] gamOK hT h (by kernel_rfl) ⟨trivial, hint_bool (h2), trivial, hint_bool (h3), trivial⟩ fun a w h => then_normal ?_
           refine at_test (!((recodeR x0 x1).2.2 == (recodeR x0 x1).2.2)) h (by kernel_rfl) (fun h11 => ?_) (fun h11 => ?_)
           ·replace h11 : ((recodeR x0 x1).2.2 == (recodeR x0 x1).2.2) = false := notT h11
            refine wp_seq ?_
            refine at_regq [] { ts := [4, 10, 11, 14], os := [10, 11, 12, 13, 14] } [] gamOK hT h (by kernel_rfl) trivial fun a w h => then_normal (wp_ret (then_ret ?_))
            exact at_return (S := S_laws_FnExactRecode) (x := (x0, x1, ())) (false, ()) [] h (by kernel_rfl) trivial (congrArg (fun z => (z, ())) (show (false) = D_laws_FnExactRecode x0 x1 from by unfold D_laws_FnExactRecode; exact absurd (beqT (show _ = _ from by first | rfl | (rfl))) (neT h11)))
           ·replace h11 : ((recodeR x0 x1).2.2 == (recodeR x0 x1).2.2) = true := notF h11
            refine wp_skip (then_normal (wp_seq ?_))
            refine at_regq [] { ts := [4, 10, 11, 14, 15], os := [10, 11, 12, 13, 14] } [] gamOK hT h (by kernel_rfl) trivial fun a w h => then_normal (wp_seq ?_)
            refine at_regq [] { ts := [4, 11, 14, 15], os := [11, 12, 14] } [(pMkT s128) ((Sh.mkT s128) (recodeR x0 x1).1 1) 1] gamOK hT h (by kernel_rfl) ⟨(by (show (0 : Int) ≤ _ ∧ _ + ((Sh.ctT _ _ : Nat) : Int) ≤ (4611686018427387904 : Int); (try simp only [held_marked, held_markedT, mkK, mkKT, Sh.ctT_mkT, Sh.ct_mk]); constructor <;> omega)), trivial⟩ fun a w h => then_normal (wp_seq (wp_seq ?_))
            refine at_regq [] { ts := [4, 11, 14, 15, 129], os := [11, 12, 14] } [] gamOK hT h (by kernel_rfl) trivial fun a w h => then_normal ?_
            refine at_test (decide (((heldDT s128) ((Sh.mkT s128) (recodeR x0 x1).1 1) 1) < 0)) h (by kernel_rfl) (fun h12 => ?_) (fun h12 => ?_)
            ·replace h12 : ((heldDT s128) ((Sh.mkT s128) (recodeR x0 x1).1 1) 1) < 0 := of_decide_eq_true h12
             refine wp_seq ?_
             refine at_reg [] { ts := [4, 11, 14, 15], os := [11, 12, 14] } ⟨[(4, aB false), (11, aP 14 0), (14, aI ((mkKT s61) (recodeR x0 x1).2.1 ((mkKT s128) (recodeR x0 x1).1 1))), (15, aI ((heldDT s128) ((Sh.mkT s128) (recodeR x0 x1).1 1) 1))], [(11, oR (.int 3) ((Sh.mkT s61) (recodeR x0 x1).2.1 ((mkKT s128) (recodeR x0 x1).1 1)).2.1), (12, oR (.int 3) ((Sh.mkT s61) (recodeR x0 x1).2.1 ((mkKT s128) (recodeR x0 x1).1 1)).2.2), (14, oX 61 [cI (recodeR x0 x1).2.1.1, .sl 11, .sl 12])]⟩ [] gamOK hT h (by kernel_rfl) trivial fun a w h => then_normal (wp_ret (then_ret ?_))
             exact at_return (S := S_laws_FnExactRecode) (x := (x0, x1, ())) (false, ()) [] h (by kernel_rfl) trivial (congrArg (fun z => (z, ())) (show (false) = D_laws_FnExactRecode x0 x1 from by unfold D_laws_FnExactRecode; (exfalso; simp only [held_marked, held_markedT, mkK, mkKT, Sh.ctT_mkT, Sh.ct_mk] at h12; first | omega | exact h12 trivial | exact h12 rfl)))
            ·replace h12 : ¬ (((heldDT s128) ((Sh.mkT s128) (recodeR x0 x1).1 1) 1) < 0) := of_decide_eq_false h12
             refine wp_skip (then_normal (wp_seq ?_))
             refine at_reg [] { ts := [4, 14, 15], os := [] } ⟨[(4, aB false), (14, aI ((mkKT s61) (recodeR x0 x1).2.1 ((mkKT s128) (recodeR x0 x1).1 1))), (15, aI ((heldDT s61) ((Sh.mkT s61) (recodeR x0 x1).2.1 ((mkKT s128) (recodeR x0 x1).1 1)) ((heldDT s128) ((Sh.mkT s128) (recodeR x0 x1).1 1) 1)))], []⟩ [(pMkT s61) ((Sh.mkT s61) (recodeR x0 x1).2.1 ((mkKT s128) (recodeR x0 x1).1 1)) ((heldDT s128) ((Sh.mkT s128) (recodeR x0 x1).1 1) 1)] gamOK hT h (by kernel_rfl) ⟨(by (show (0 : Int) ≤ _ ∧ _ + ((Sh.ctT _ _ : Nat) : Int) ≤ (4611686018427387904 : Int); (try simp only [held_marked, held_markedT, mkK, mkKT, Sh.ctT_mkT, Sh.ct_mk]); constructor <;> omega)), trivial⟩ fun a w h => then_normal (wp_seq (wp_seq ?_))
             refine at_regq [] { ts := [4, 14, 15, 134], os := [] } [] gamOK hT h (by kernel_rfl) trivial fun a w h => then_normal ?_
             refine at_test (decide (((heldDT s61) ((Sh.mkT s61) (recodeR x0 x1).2.1 ((mkKT s128) (recodeR x0 x1).1 1)) ((heldDT s128) ((Sh.mkT s128) (recodeR x0 x1).1 1) 1)) < 0)) h (by kernel_rfl) (fun h13 => ?_) (fun h13 => ?_)
             ·replace h13 : ((heldDT s61) ((Sh.mkT s61) (recodeR x0 x1).2.1 ((mkKT s128) (recodeR x0 x1).1 1)) ((heldDT s128) ((Sh.mkT s128) (recodeR x0 x1).1 1) 1)) < 0 := of_decide_eq_true h13
              refine wp_seq ?_
              refine at_regq [] { ts := [4, 14, 15], os := [] } [] gamOK hT h (by kernel_rfl) trivial fun a w h => then_normal (wp_ret (then_ret ?_))
              exact at_return (S := S_laws_FnExactRecode) (x := (x0, x1, ())) (false, ()) [] h (by kernel_rfl) trivial (congrArg (fun z => (z, ())) (show (false) = D_laws_FnExactRecode x0 x1 from by unfold D_laws_FnExactRecode; (exfalso; simp only [held_marked, held_markedT, mkK, mkKT, Sh.ctT_mkT, Sh.ct_mk] at h13; first | omega | exact h13 trivial | exact h13 rfl)))
             ·replace h13 : ¬ (((heldDT s61) ((Sh.mkT s61) (recodeR x0 x1).2.1 ((mkKT s128) (recodeR x0 x1).1 1)) ((heldDT s128) ((Sh.mkT s128) (recodeR x0 x1).1 1) 1)) < 0) := of_decide_eq_false h13
              refine wp_skip (then_normal (wp_seq (wp_seq ?_)))
              refine at_regq [] { ts := [4, 137], os := [] } [] gamOK hT h (by kernel_rfl) trivial fun a w h => then_normal ?_
              refine at_test (!decide (((heldDT s61) ((Sh.mkT s61) (recodeR x0 x1).2.1 ((mkKT s128) (recodeR x0 x1).1 1)) ((heldDT s128) ((Sh.mkT s128) (recodeR x0 x1).1 1) 1)) = ((mkKT s61) (recodeR x0 x1).2.1 ((mkKT s128) (recodeR x0 x1).1 1)))) h (by kernel_rfl) (fun h14 => ?_) (fun h14 => ?_)
              ·replace h14 : ¬ (((heldDT s61) ((Sh.mkT s61) (recodeR x0 x1).2.1 ((mkKT s128) (recodeR x0 x1).1 1)) ((heldDT s128) ((Sh.mkT s128) (recodeR x0 x1).1 1) 1)) = ((mkKT s61) (recodeR x0 x1).2.1 ((mkKT s128) (recodeR x0 x1).1 1))) := of_decide_eq_false (notT h14)
               refine wp_seq ?_
               refine at_regq [] { ts := [4], os := [] } [] gamOK hT h (by kernel_rfl) trivial fun a w h => then_normal (wp_ret (then_ret ?_))
               exact at_return (S := S_laws_FnExactRecode) (x := (x0, x1, ())) (false, ()) [] h (by kernel_rfl) trivial (congrArg (fun z => (z, ())) (show (false) = D_laws_FnExactRecode x0 x1 from by unfold D_laws_FnExactRecode; (exfalso; simp only [held_marked, held_markedT, mkK, mkKT, Sh.ctT_mkT, Sh.ct_mk] at h14; first | omega | exact h14 trivial | exact h14 rfl)))
              ·replace h14 : ((heldDT s61) ((Sh.mkT s61) (recodeR x0 x1).2.1 ((mkKT s128) (recodeR x0 x1).1 1)) ((heldDT s128) ((Sh.mkT s128) (recodeR x0 x1).1 1) 1)) = ((mkKT s61) (recodeR x0 x1).2.1 ((mkKT s128) (recodeR x0 x1).1 1)) := of_decide_eq_true (notF h14)
               refine wp_skip (then_normal (wp_seq ?_))
               refine at_regq [] { ts := [4], os := [] } [] gamOK hT h (by kernel_rfl) trivial fun a w h => then_normal (wp_ret ?_)
               exact at_return (S := S_laws_FnExactRecode) (x := (x0, x1, ())) (true, ()) [] h (by kernel_rfl) trivial (congrArg (fun z => (z, ())) (show (true) = D_laws_FnExactRecode x0 x1 from by unfold D_laws_FnExactRecode; rfl))

theorem opn3 : OpensS Try.prog 3 (.int 3) := opensS_int Try.underlying3
theorem co3 : Try.prog.cellsOf 3 = 1 := by kernel_rfl
theorem opn22 : OpensS Try.prog 22 s22 := opensS_slice (a := (.int 3)) Try.underlying22 co3 opn3
theorem co22 : Try.prog.cellsOf 22 = 1 := by kernel_rfl
theorem co44 : Try.prog.cellsOf 44 = 3 := by kernel_rfl
theorem opn44 : OpensS Try.prog 44 s44 := by
  intro H enc w base spare held fuel cs x h
  obtain ⟨xs, n, _, _, hl, hlen, hf⟩ := DataW.trod_struct Try.underlying44 h
  obtain ⟨a0, k0, i0⟩ := opensS_field (a := (.int 3)) (i := 0) 0 1 hf hlen rfl rfl rfl co3 opn3
  obtain ⟨a1, k1, i1⟩ := opensS_field (a := s22) (i := 1) 1 1 hf hlen rfl rfl rfl co22 opn22
  obtain ⟨a2, k2, i2⟩ := opensS_field (a := s22) (i := 2) 2 1 hf hlen rfl rfl rfl co22 opn22
  rw [co44] at hl
  exact ⟨(a0, (a1, a2)), (rdS_pair (off := 0) k0 (rdS_pair (off := 1) k1 (rdS_last (off := 2) k2 (by omega)))), ⟨i0, ⟨i1, i2⟩⟩⟩
theorem opn122 : OpensS Try.prog 122 s122 := opensS_slice (a := s44) Try.underlying122 co44 opn44
theorem co122 : Try.prog.cellsOf 122 = 1 := by kernel_rfl
theorem co124 : Try.prog.cellsOf 124 = 5 := by kernel_rfl
theorem opn124 : OpensS Try.prog 124 s124 := by
  intro H enc w base spare held fuel cs x h
  obtain ⟨xs, n, _, _, hl, hlen, hf⟩ := DataW.trod_struct Try.underlying124 h
  obtain ⟨a0, k0, i0⟩ := opensS_field (a := (.int 3)) (i := 0) 0 1 hf hlen rfl rfl rfl co3 opn3
  obtain ⟨a1, k1, i1⟩ := opensS_field (a := (.int 3)) (i := 1) 1 1 hf hlen rfl rfl rfl co3 opn3
  obtain ⟨a2, k2, i2⟩ := opensS_field (a := (.int 3)) (i := 2) 2 1 hf hlen rfl rfl rfl co3 opn3
  obtain ⟨a3, k3, i3⟩ := opensS_field (a := s122) (i := 3) 3 1 hf hlen rfl rfl rfl co122 opn122
  obtain ⟨a4, k4, i4⟩ := opensS_field (a := (.int 3)) (i := 4) 4 1 hf hlen rfl rfl rfl co3 opn3
  rw [co124] at hl
  exact ⟨(a0, (a1, (a2, (a3, a4)))), (rdS_pair (off := 0) k0 (rdS_pair (off := 1) k1 (rdS_pair (off := 2) k2 (rdS_pair (off := 3) k3 (rdS_last (off := 4) k4 (by omega)))))), ⟨i0, ⟨i1, ⟨i2, ⟨i3, i4⟩⟩⟩⟩⟩
namespace fnExactRecode
open Go.ChangeShapes Go.WideShapes Go.ChangeAt Go.RowKit
theorem own : ownKnob Try.prog.godebug = none := by kernel_rfl
theorem laidOut : laidOutB Try.prog = true := fxLaid
set_option maxRecDepth 100000 in
theorem lifted (os : Os) (started : os.Started) (H : Type) (enc : TypeId × Value → H) :
    ReturnsInHanded {} Try.checked os 9 .any (Rows.fnExactRecodeSpec.pre6 enc Try.prog Try.f9 Rows.fnExactRecodeRow.domain false) (Rows.fnExactRecodeSpec.post enc Try.prog Try.f9 false true false false) := by
  refine returnsInHanded_of_change (C := Try.checked) own started (by kernel_rfl) Try.func9
    (ChangeSpec.witness6 (enc := enc) (C := Try.checked) false ⟨#[], #[.agg #[.int .i64 0, .int .i64 0, .int .i64 0, .slice none 0 0, .int .i64 0], .int .i64 0], []⟩ 8 (by kernel_rfl) (by kernel_rfl) (by kernel_rfl) (by kernel_rfl)) ?_
  intro W base args ds gs before hval0 hW hcnd _
  have hval : ∀ (j : Nat) t v, Try.f9.params[j]? = some t → args[j]? = some v → Value.okWide Try.prog W .any base t v := hval0
  have hW' := hW
  obtain ⟨p, q, hA0, hV, rfl, hfz, hnd⟩ := hW
  have hA : DataW.TrodAll enc Try.prog W 0 (fun _ => true) true Try.f9.params.toList args.toList ds p := hA0
  rw [Try.params9] at hA hval
  obtain ⟨v0, vs0, d0, ds0, p0, q0, hargs, rfl, rfl, h0, r0⟩ := trodAll_cons hA
  obtain ⟨v1, vs1, d1, ds1, p1, q1, rfl, rfl, rfl, h1, r1⟩ := trodAll_cons r0
  obtain ⟨rfl, rfl, rfl⟩ := trodAll_nil r1
  obtain rfl : args = #[v0, v1] := by cases args; simp_all
  obtain ⟨rfl, rfl⟩ := trodVars_none hV
  have k0 := h0
  have lt0 : ∀ x ∈ p0, x.block < W.heap.size := by obtain ⟨m, hm⟩ := k0; exact DataW.trod_lt m _ _ _ hm
  obtain ⟨cs0, rfl, _⟩ := okWide_struct Try.underlying124 (hval 0 124 v0 rfl rfl)
  obtain ⟨cs0⟩ := cs0
  obtain ⟨x0, hx0, i0⟩ : ∃ x : (s124).D, (s124).rd W (fun b => b < W.heap.size) cs0 x ∧ (s124).i64 x := by obtain ⟨fuel, hf⟩ := h0; exact opn124 hf
  have k1 := h1
  have lt1 : ∀ x ∈ p1, x.block < W.heap.size := by obtain ⟨m, hm⟩ := k1; exact DataW.trod_lt m _ _ _ hm
  obtain ⟨a1, rfl, rfl, rfl, w1⟩ := open_int Try.underlying3 (hval 1 3 v1 rfl rfl) h1
  clear hA0 hval0
  refine (calls_law S_laws_FnExactRecode_ok (by kernel_rfl) W (fun b => b < W.heap.size) [.agg cs0.toArray, .int .i64 a1] (x0, a1, ()) (fun _ h => h) ⟨argRd_st hx0, argRd_int a1, trivial⟩ ⟨i0, (show I64 a1 from by unfold I64; simpa [Lit.wf, IntKind.min, IntKind.max, IntKind.signed, IntKind.bits] using w1)⟩).mono fun e W' hr => ?_
  obtain ⟨he, bel⟩ := ret_bool hr
  subst he
  exact ⟨_, rfl, _, _, _, [], _, [], hW', trodAll_mk1 (shut_bool Try.underlying4 _), (trodAll_cons_mk (Below.trod laidOut (by kernel_rfl) (of_decide_eq_true (by kernel_rfl)) k0 bel lt0) (trodAll_cons_mk (Below.trod laidOut (by kernel_rfl) (of_decide_eq_true (by kernel_rfl)) k1 bel lt1) trodAll_mk0)), rfl, bel.frame _, fun h => by cases h⟩
theorem closed : joinedFacts Try.prog 9 Try.f9 (Rows.fnExactRecodeSpec) Rows.fnExactRecodeRow = true := by
  unfold joinedFacts
  exact (and2 (and2 (and2 (and2 (and2 (and2 (and2 (and2 (and2 (and2 (and2 (and2 (and2 (and2 (and2 (and2 (and2 (and2 (and2 (and2 (and2 (and2 (and2 (and2 (and2 (and2 (and2 (and2 (and2 (and2 (and2 (by kernel_rfl) fxLaid) fxMaps) (by kernel_rfl)) (by kernel_rfl)) (by kernel_rfl)) (by kernel_rfl)) (by kernel_rfl)) (by kernel_rfl)) (by kernel_rfl)) (by kernel_rfl)) (by kernel_rfl)) (by kernel_rfl)) (by kernel_rfl)) (by kernel_rfl)) (by kernel_rfl)) (by kernel_rfl)) (by kernel_rfl)) (by kernel_rfl)) (by kernel_rfl)) (by kernel_rfl)) (by kernel_rfl)) (by kernel_rfl)) (by kernel_rfl)) (by kernel_rfl)) fxEnter) (by rw [fxLifts]; kernel_rfl)) (by rw [fxMake]; kernel_rfl)) (by kernel_rfl)) (by kernel_rfl)) (by kernel_rfl)) (by kernel_rfl))
theorem over : Rows.fnExactRecodeRow.holds Try.pinned (OpenSpec.ofChange Rows.fnExactRecodeSpec) :=
  OpenClaim.holds_of_wide 9 Try.f9 rfl rfl rfl rfl rfl rfl rfl ⟨rfl, rfl, rfl, rfl, rfl⟩ rfl rfl rfl rfl rfl (by kernel_rfl) Try.func9 closed
    (of_decide_eq_true (by kernel_rfl)) (by unfold Func.isWrapper; first | (rw [if_pos (by decide +kernel)]; kernel_rfl) | (rw [if_neg (by decide +kernel)]; exact ⟨rfl, rfl⟩))
    (fun os started H enc _ => lifted os started H enc)
/-- the statement -/
theorem proved : Rows.FnExactRecodeSaid := over
end fnExactRecode

end Go.Proofs.Ytdmkjcnppgfeoaa

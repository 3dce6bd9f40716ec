/- The law FnEarlySymbols returns true for every input and leaves its arguments as they were. No condition. -/
import Derived.Test.YtgeonngfipikeaaFnEarlySymbols3
import Derived.Test.YtgeonngfipikeaaLA
import Derived.Test.YtgeonngfipikeaaProg
import Derived.Test.YtgeonngfipikeaaRows
import Derived.Test.YtgeonngfipikeaaFX
namespace Go.Proofs.Ytgeonngfipikeaa
open Go.RowKit
set_option linter.unusedVariables false
set_option linter.unusedSimpArgs false
def D_laws_FnEarlySymbols := (fun (_ : List Int) => true)
abbrev Q_laws_FnEarlySymbols := (fun (x0 : List Int) => Sh.i64 s22 x0)
def S_laws_FnEarlySymbols : Sum := { fid := 3, dom := [s22], cod := [(.bool 4)], dp := true, fz := false, pre := fun x => Q_laws_FnEarlySymbols x.1, g := fun x => ((D_laws_FnEarlySymbols x.1), ()) }
def S_laws_FnEarlySymbols_tab : List (Nat × Sum) := [(6, S_laws_big), (7, S_spec_DrawCollected), (8, S_impl_DecodedSymbol), (9, S_laws_sameInts), (10, S_spec_SourcePacket), (11, S_impl_AddPacket), (12, S_impl_RecoverGeneration), (13, S_impl_CountDecoded), (14, S_impl_MissingDegrees), (15, S_impl_IsComplete)]
theorem S_laws_FnEarlySymbols_ok : FnOK Try.prog 3 S_laws_FnEarlySymbols := by
 refine at_enter 103 (fun x => ⟨[(0, aF (.u8 5) x.1)], []⟩) Try.func3 rfl (by kernel_rfl) (fun x => rfl) ?_
 rintro w0 Z0 ⟨x0, u⟩ a w
 revert x0
 intro (x0 : (List Int)) hpre hlens h
 replace hpre : Q_laws_FnEarlySymbols x0 := hpre
 have hl1 : List.length x0 ≤ 9223372036854775807 := hlens.1.1
 have hu0 : u8L x0 := hlens.1.2
 have hT : TabOK Try.prog S_laws_FnEarlySymbols_tab := (.cons S_laws_big_ok (.cons S_spec_DrawCollected_ok (.cons S_impl_DecodedSymbol_ok (.cons S_laws_sameInts_ok (.cons S_spec_SourcePacket_ok (.cons S_impl_AddPacket_ok (.cons S_impl_RecoverGeneration_ok (.cons S_impl_CountDecoded_ok (.cons S_impl_MissingDegrees_ok (.cons S_impl_IsComplete_ok .nil))))))))))
 refine wp_seq ?_
 refine at_regq [] { ts := [0, 2], os := [] } [] gamOK hT h (by kernel_rfl) trivial fun a w h => then_normal (wp_seq (wp_seq ?_))
 refine at_regq [] { ts := [0, 2, 18], os := [] } [True] gamOK hT h (by kernel_rfl) ⟨trivial, trivial⟩ fun a w h => then_normal ?_
 refine at_test ((bigF x0)) h (by kernel_rfl) (fun h1 => ?_) (fun h1 => ?_)
 ·refine wp_seq ?_
  refine at_regq [] { ts := [0, 2], os := [] } [] gamOK hT h (by kernel_rfl) trivial fun a w h => then_normal (wp_ret (then_ret ?_))
  exact at_return (true, ()) [] h (by kernel_rfl) trivial (congrArg (fun z => (z, ())) (show (true) = D_laws_FnEarlySymbols x0 from by unfold D_laws_FnEarlySymbols; rfl))
 ·have hbz : List.length x0 ≤ 1048576 := big_f h1
  obtain ⟨hd1, hd2, hd3, hd4⟩ := drawC_ok x0
  have hd5 := hd4.fit hd1
  obtain ⟨e1, e2, e3, e4⟩ := law_early_end hd1 hd4
  refine wp_skip (then_normal (wp_seq ?_))
  refine at_regq [{}, {}, {}, {}, {}, { ids := [1] }, { ids := [2] }] { ts := [2, 3, 4], os := [1, 2] } [Q_spec_DrawCollected x0] gamOK hT h (by kernel_rfl) ⟨(by exact (Sh.fit_len (t := 22) (s := (.u8 5)) rfl (by omega))), trivial⟩ fun a w h => then_normal (wp_seq ?_)
  refine at_regq [] { ts := [2, 3, 4, 5], os := [1, 2] } [] gamOK hT h (by kernel_rfl) trivial fun a w h => then_normal (wp_seq (wp_seq ?_))
  refine at_regq [] { ts := [2, 3, 4, 5, 6], os := [1, 2] } [] gamOK hT h (by kernel_rfl) trivial fun a w h => then_normal (wp_block ?_)
  replace h := at_out (σ' := ⟨[(2, aB false), (3, aP 1 0), (4, aP 2 0), (5, aI 0), (6, aI 0)], [(1, oX 26 [cI (drawC x0).1.1, .ro s33 (drawC x0).1.2]), (2, oX 30 [cI (drawC x0).2.1, cI (drawC x0).2.2.1, cI (drawC x0).2.2.2.1, cI (drawC x0).2.2.2.2.1, .ro s33 (drawC x0).2.2.2.2.2])]⟩) { ts := [2, 3, 4, 5, 6], os := [1, 2] } h (by kernel_rfl)
  refine at_loop (fun i : Nat => (⟨[(2, aB false), (3, aP 1 0), (4, aP 2 0), (5, aI ((List.length (List.filter (fun (k : Nat) => (decF (drawC x0).2 (k : Int)).2) (List.range i)) : Nat) : Int)), (6, aI ((i : Nat) : Int))], [(1, oX 26 [cI (drawC x0).1.1, .ro s33 (drawC x0).1.2]), (2, oX 30 [cI (drawC x0).2.1, cI (drawC x0).2.2.1, cI (drawC x0).2.2.2.1, cI (drawC x0).2.2.2.2.1, .ro s33 (drawC x0).2.2.2.2.2])]⟩ : St)) (fun i => i ≤ List.length (drawC x0).1.2) (fun i => List.length (drawC x0).1.2 - i) (0) h (st_congr2 (fun (d0 : Int) (d1 : Int) => (⟨[(2, aB false), (3, aP 1 0), (4, aP 2 0), (5, aI d0), (6, aI d1)], [(1, oX 26 [cI (drawC x0).1.1, .ro s33 (drawC x0).1.2]), (2, oX 30 [cI (drawC x0).2.1, cI (drawC x0).2.2.1, cI (drawC x0).2.2.2.1, cI (drawC x0).2.2.2.2.1, .ro s33 (drawC x0).2.2.2.2.2])]⟩ : St)) (show (0 : Int) = ((List.length (List.filter (fun (k : Nat) => (decF (drawC x0).2 (k : Int)).2) (List.range (0))) : Nat) : Int) from by first | with_reducible rfl | (rfl) | rfl) (show (0 : Int) = (((0) : Nat) : Int) from by first | with_reducible rfl | (rfl) | rfl)) (by omega) ?_
  intro i a w hok0 h
  have hcr := cnt_range (fun (k : Nat) => (decF (drawC x0).2 (k : Int)).2) i
  refine wp_seq (wp_seq ?_)
  refine at_regq [] { ts := [2, 3, 4, 5, 6, 28], os := [1, 2] } [] gamOK hT h (by kernel_rfl) trivial fun a w h => then_normal ?_
  refine at_test (decide (((i : Nat) : Int) < ((List.length (drawC x0).1.2 : Nat) : Int))) h (by kernel_rfl) (fun h2 => ?_) (fun h2 => ?_)
  ·replace h2 : ((i : Nat) : Int) < ((List.length (drawC x0).1.2 : Nat) : Int) := of_decide_eq_true h2
   obtain ⟨l1, l2, l3, l4, l5⟩ := law_early (i := i) hd1 hd4 (by omega) rfl
   refine wp_skip (then_normal (wp_seq (wp_block (wp_seq ?_))))
   refine at_regq [{}, {}, { ids := [3] }] { ts := [2, 3, 4, 5, 6, 7, 8], os := [1, 2, 3] } [Q_impl_DecodedSymbol (drawC x0).2 ((i : Nat) : Int)] gamOK hT h (by kernel_rfl) ⟨(by exact hd5), trivial⟩ fun a w h => then_normal (wp_seq (wp_seq ?_))
   refine at_regq [] { ts := [2, 3, 4, 5, 6, 7, 37], os := [1, 2, 3] } [] gamOK hT h (by kernel_rfl) trivial fun a w h => then_normal ?_
   refine at_test ((decF (drawC x0).2 ((i : Nat) : Int)).2) h (by kernel_rfl) (fun h3 => ?_) (fun h3 => ?_)
   ·refine wp_seq ?_
    refine at_regq [{}, { nw := true }] { ts := [2, 3, 4, 5, 6, 7], os := [1, 2, 3] } [I64 (((List.length (List.filter (fun (k : Nat) => (decF (drawC x0).2 (k : Int)).2) (List.range i)) : Nat) : Int) + 1)] gamOK hT h (by kernel_rfl) ⟨⟨by first | omega | (simp only [lsA]; omega) | (simp <;> omega), by first | omega | (simp only [lsA]; omega) | (simp <;> omega)⟩, trivial⟩ fun a w h => then_normal (wp_seq ?_)
    refine at_regq [] { ts := [2, 3, 4, 5, 6, 47], os := [1, 2] } [(0 : Int) ≤ ((i : Nat) : Int) ∧ ((i : Nat) : Int) < ((List.length (drawC x0).1.2 : Nat) : Int), True] gamOK hT h (by kernel_rfl) ⟨(by refine ⟨?_, ?_⟩ <;> ((have hL0 := (show List.length (drawC x0).1.2 ≤ 1073741824 from (hd3.2).1); first | omega | (simp only [lsA]; omega) | (simp <;> omega)))), trivial, trivial⟩ fun a w h => then_normal ?_
    refine at_test (!((Sh.eqB s33) (decF (drawC x0).2 ((i : Nat) : Int)).1 ((drawC x0).1.2.getD i []))) h (by kernel_rfl) (fun h4 => ?_) (fun h4 => ?_)
    ·replace h4 : ((Sh.eqB s33) (decF (drawC x0).2 ((i : Nat) : Int)).1 ((drawC x0).1.2.getD i [])) = false := notT h4
     refine wp_seq ?_
     refine at_regq [] { ts := [2, 3, 4, 5, 6], os := [1, 2] } [] gamOK hT h (by kernel_rfl) trivial fun a w h => then_normal (wp_ret (then_ret (in_ret (then_ret (then_ret (in_ret (then_ret ?_)))))))
     exact at_return (false, ()) [] h (by kernel_rfl) trivial (congrArg (fun z => (z, ())) (show (false) = D_laws_FnEarlySymbols x0 from by unfold D_laws_FnEarlySymbols; (exfalso; first | contradiction | (simp_all [Sh.eqB_self]; done) | (simp_all [Sh.eqB_self]; omega) | omega)))
    ·replace h4 : ((Sh.eqB s33) (decF (drawC x0).2 ((i : Nat) : Int)).1 ((drawC x0).1.2.getD i [])) = true := notF h4
     refine wp_skip (then_normal (wp_seq ?_))
     refine at_regq [{}, {}, { ids := [4, 5] }, {}, {}, {}, { ids := [6] }] { ts := [2, 3, 4, 5, 6, 9], os := [1, 2, 4, 5, 6] } [Q_spec_SourcePacket (drawC x0).1 ((i : Nat) : Int)] gamOK hT h (by kernel_rfl) ⟨(by exact hd3), trivial⟩ fun a w h => then_normal (wp_seq ?_)
     refine at_regq [{}, {}, { ids := [7] }, {}, {}, {}, { ids := [8] }] { ts := [2, 3, 4, 5, 6, 11], os := [1, 2, 7, 8] } [Q_impl_AddPacket (drawC x0).2 (D_spec_SourcePacket (drawC x0).1 ((i : Nat) : Int)).1] gamOK hT h (by kernel_rfl) ⟨(by exact ⟨hd5, l5⟩), trivial⟩ fun a w h => then_normal (wp_seq ?_)
     refine at_regq [{}, {}, { ids := [9] }] { ts := [2, 3, 4, 5, 6, 13, 14], os := [1, 2, 9] } [Q_impl_DecodedSymbol (addPk (drawC x0).2 (D_spec_SourcePacket (drawC x0).1 ((i : Nat) : Int)).1).1 ((i : Nat) : Int)] gamOK hT h (by kernel_rfl) ⟨(by exact l4), trivial⟩ fun a w h => then_normal (wp_seq ?_)
     rcases Bool.eq_false_or_eq_true (!(decF (addPk (drawC x0).2 (D_spec_SourcePacket (drawC x0).1 ((i : Nat) : Int)).1).1 ((i : Nat) : Int)).2) with h5 | h5
     ·have hzh5 : (decF (addPk (drawC x0).2 (D_spec_SourcePacket (drawC x0).1 ((i : Nat) : Int)).1).1 ((i : Nat) : Int)).2 = false := notT h5
      refine at_regq [{}, { hint := some (aB true) }] { ts := [2, 3, 4, 5, 6, 69, 70, 71, 72, 73, 74, 75, 76, 77], os := [1, 2] } [(AV.p (.c (.v (.bool (!(decF (addPk (drawC x0).2 (D_spec_SourcePacket (drawC x0).1 ((i : Nat) : Int)).1).1 ((i : Nat) : Int)).2)))) = AV.p (.c (.v (.bool true))))] gamOK hT h (by kernel_rfl) ⟨hint_bool (h5), trivial⟩ fun a w h => then_normal ?_
      refine at_test true h (by kernel_rfl) (fun hh => ?_) (fun hh => nomatch hh)
      refine wp_seq ?_
      refine at_regq [] { ts := [2, 3, 4, 5, 6, 69, 70, 71, 72, 73, 74, 75, 76], os := [1, 2] } [] gamOK hT h (by kernel_rfl) trivial fun a w h => then_normal (wp_ret (in_ret (then_ret (then_ret (in_ret (then_ret ?_))))))
      exact at_return (false, ()) [] h (by kernel_rfl) trivial (congrArg (fun z => (z, ())) (show (false) = D_laws_FnEarlySymbols x0 from by unfold D_laws_FnEarlySymbols; (exfalso; first | contradiction | (simp_all [Sh.eqB_self]; done) | (simp_all [Sh.eqB_self]; omega) | omega)))
     ·have hzh5 : (decF (addPk (drawC x0).2 (D_spec_SourcePacket (drawC x0).1 ((i : Nat) : Int)).1).1 ((i : Nat) : Int)).2 = true := notF h5
      refine at_regq [{}, { hint := some (aB false) }] { ts := [2, 3, 4, 5, 6, 69, 70, 71, 72, 73, 74, 75, 76, 77], os := [1, 2, 9] } [(AV.p (.c (.v (.bool (!(decF (addPk (drawC x0).2 (D_spec_SourcePacket (drawC x0).1 ((i : Nat) : Int)).1).1 ((i : Nat) : Int)).2)))) = AV.p (.c (.v (.bool false)))), (0 : Int) ≤ ((i : Nat) : Int) ∧ ((i : Nat) : Int) < ((List.length (drawC x0).1.2 : Nat) : Int), True] gamOK hT h (by kernel_rfl) ⟨hint_bool (h5), (by refine ⟨?_, ?_⟩ <;> ((have hL0 := (show List.length (drawC x0).1.2 ≤ 1073741824 from (hd3.2).1); first | omega | (simp only [lsA]; omega) | (simp <;> omega)))), trivial, trivial⟩ fun a w h => then_normal ?_
      refine at_test (!((Sh.eqB s33) (decF (addPk (drawC x0).2 (D_spec_SourcePacket (drawC x0).1 ((i : Nat) : Int)).1).1 ((i : Nat) : Int)).1 ((drawC x0).1.2.getD i []))) h (by kernel_rfl) (fun h6 => ?_) (fun h6 => ?_)
      ·replace h6 : ((Sh.eqB s33) (decF (addPk (drawC x0).2 (D_spec_SourcePacket (drawC x0).1 ((i : Nat) : Int)).1).1 ((i : Nat) : Int)).1 ((drawC x0).1.2.getD i [])) = false := notT h6
       refine wp_seq ?_
       refine at_regq [] { ts := [2, 3, 4, 5, 6, 69, 70, 71, 72, 73, 74, 75, 76], os := [1, 2, 9] } [] gamOK hT h (by kernel_rfl) trivial fun a w h => then_normal (wp_ret (in_ret (then_ret (then_ret (in_ret (then_ret ?_))))))
       exact at_return (false, ()) [] h (by kernel_rfl) trivial (congrArg (fun z => (z, ())) (show (false) = D_laws_FnEarlySymbols x0 from by unfold D_laws_FnEarlySymbols; (exfalso; first | contradiction | (simp_all [Sh.eqB_self]; done) | (simp_all [Sh.eqB_self]; omega) | omega)))
      ·replace h6 : ((Sh.eqB s33) (decF (addPk (drawC x0).2 (D_spec_SourcePacket (drawC x0).1 ((i : Nat) : Int)).1).1 ((i : Nat) : Int)).1 ((drawC x0).1.2.getD i [])) = true := notF h6
       refine wp_skip (in_normal (then_normal ?_))
       refine at_regq [{}, { nw := true }] { ts := [2, 3, 4, 5, 6, 69, 70, 71, 72, 73, 74, 75, 76], os := [1, 2, 9] } [I64 (((i : Nat) : Int) + 1)] gamOK hT h (by kernel_rfl) ⟨⟨by first | omega | (simp only [lsA]; omega) | (simp <;> omega), by first | omega | (simp only [lsA]; omega) | (simp <;> omega)⟩, trivial⟩ fun a w h => ?_
       replace h := at_out (σ' := ⟨[(2, aB false), (3, aP 1 0), (4, aP 2 0), (5, aI (((List.length (List.filter (fun (k : Nat) => (decF (drawC x0).2 (k : Int)).2) (List.range i)) : Nat) : Int) + 1)), (6, aI (((i : Nat) : Int) + 1))], [(1, oX 26 [cI (drawC x0).1.1, .ro s33 (drawC x0).1.2]), (2, oX 30 [cI (drawC x0).2.1, cI (drawC x0).2.2.1, cI (drawC x0).2.2.2.1, cI (drawC x0).2.2.2.2.1, .ro s33 (drawC x0).2.2.2.2.2])]⟩) { ts := [2, 3, 4, 5, 6], os := [1, 2] } h (by kernel_rfl)
       exact ⟨i + 1, at_eq h (st_congr2 (fun (d0 : Int) (d1 : Int) => (⟨[(2, aB false), (3, aP 1 0), (4, aP 2 0), (5, aI d0), (6, aI d1)], [(1, oX 26 [cI (drawC x0).1.1, .ro s33 (drawC x0).1.2]), (2, oX 30 [cI (drawC x0).2.1, cI (drawC x0).2.2.1, cI (drawC x0).2.2.2.1, cI (drawC x0).2.2.2.2.1, .ro s33 (drawC x0).2.2.2.2.2])]⟩ : St)) (show (((List.length (List.filter (fun (k : Nat) => (decF (drawC x0).2 (k : Int)).2) (List.range i)) : Nat) : Int) + 1 : Int) = ((List.length (List.filter (fun (k : Nat) => (decF (drawC x0).2 (k : Int)).2) (List.range (i + 1))) : Nat) : Int) from by first | with_reducible rfl | (first | (rw [cnt_y (i := i) (by assumption)]; omega) | (rw [cnt_n (i := i) (by assumption)]; done)) | rfl) (show (((i : Nat) : Int) + 1 : Int) = (((i + 1) : Nat) : Int) from by first | with_reducible rfl | (omega) | rfl)), (by omega), (by omega)⟩
   ·refine wp_skip (then_normal (wp_seq ?_))
    refine at_regq [{}, {}, { ids := [10, 11] }, {}, {}, {}, { ids := [12] }] { ts := [2, 3, 4, 5, 6, 9], os := [1, 2, 10, 11, 12] } [Q_spec_SourcePacket (drawC x0).1 ((i : Nat) : Int)] gamOK hT h (by kernel_rfl) ⟨(by exact hd3), trivial⟩ fun a w h => then_normal (wp_seq ?_)
    refine at_regq [{}, {}, { ids := [13] }, {}, {}, {}, { ids := [14] }] { ts := [2, 3, 4, 5, 6, 11], os := [1, 2, 13, 14] } [Q_impl_AddPacket (drawC x0).2 (D_spec_SourcePacket (drawC x0).1 ((i : Nat) : Int)).1] gamOK hT h (by kernel_rfl) ⟨(by exact ⟨hd5, l5⟩), trivial⟩ fun a w h => then_normal (wp_seq ?_)
    refine at_regq [{}, {}, { ids := [15] }] { ts := [2, 3, 4, 5, 6, 13, 14], os := [1, 2, 15] } [Q_impl_DecodedSymbol (addPk (drawC x0).2 (D_spec_SourcePacket (drawC x0).1 ((i : Nat) : Int)).1).1 ((i : Nat) : Int)] gamOK hT h (by kernel_rfl) ⟨(by exact l4), trivial⟩ fun a w h => then_normal (wp_seq ?_)
    rcases Bool.eq_false_or_eq_true (!(decF (addPk (drawC x0).2 (D_spec_SourcePacket (drawC x0).1 ((i : Nat) : Int)).1).1 ((i : Nat) : Int)).2) with h7 | h7
    ·have hzh7 : (decF (addPk (drawC x0).2 (D_spec_SourcePacket (drawC x0).1 ((i : Nat) : Int)).1).1 ((i : Nat) : Int)).2 = false := notT h7
     refine at_regq [{}, { hint := some (aB true) }] { ts := [2, 3, 4, 5, 6, 69, 70, 71, 72, 73, 74, 75, 76, 77], os := [1, 2] } [(AV.p (.c (.v (.bool (!(decF (addPk (drawC x0).2 (D_spec_SourcePacket (drawC x0).1 ((i : Nat) : Int)).1).1 ((i : Nat) : Int)).2)))) = AV.p (.c (.v (.bool true))))] gamOK hT h (by kernel_rfl) ⟨hint_bool (h7), trivial⟩ fun a w h => then_normal ?_
     refine at_test true h (by kernel_rfl) (fun hh => ?_) (fun hh => nomatch hh)
     refine wp_seq ?_
     refine at_regq [] { ts := [2, 3, 4, 5, 6, 69, 70, 71, 72, 73, 74, 75, 76], os := [1, 2] } [] gamOK hT h (by kernel_rfl) trivial fun a w h => then_normal (wp_ret (in_ret (then_ret (then_ret (in_ret (then_ret ?_))))))
     exact at_return (false, ()) [] h (by kernel_rfl) trivial (congrArg (fun z => (z, ())) (show (false) = D_laws_FnEarlySymbols x0 from by unfold D_laws_FnEarlySymbols; (exfalso; first | contradiction | (simp_all [Sh.eqB_self]; done) | (simp_all [Sh.eqB_self]; omega) | omega)))
    ·have hzh7 : (decF (addPk (drawC x0).2 (D_spec_SourcePacket (drawC x0).1 ((i : Nat) : Int)).1).1 ((i : Nat) : Int)).2 = true := notF h7
     refine at_regq [{}, { hint := some (aB false) }] { ts := [2, 3, 4, 5, 6, 69, 70, 71, 72, 73, 74, 75, 76, 77], os := [1, 2, 15] } [(AV.p (.c (.v (.bool (!(decF (addPk (drawC x0).2 (D_spec_SourcePacket (drawC x0).1 ((i : Nat) : Int)).1).1 ((i : Nat) : Int)).2)))) = AV.p (.c (.v (.bool false)))), (0 : Int) ≤ ((i : Nat) : Int) ∧ ((i : Nat) : Int) < ((List.length (drawC x0).1.2 : Nat) : Int), True] gamOK hT h (by kernel_rfl) ⟨hint_bool (h7), (by refine ⟨?_, ?_⟩ <;> ((have hL0 := (show List.length (drawC x0).1.2 ≤ 1073741824 from (hd3.2).1); first | omega | (simp only [lsA]; omega) | (simp <;> omega)))), trivial, trivial⟩ fun a w h => then_normal ?_
     refine at_test (!((Sh.eqB s33) (decF (addPk (drawC x0).2 (D_spec_SourcePacket (drawC x0).1 ((i : Nat) : Int)).1).1 ((i : Nat) : Int)).1 ((drawC x0).1.2.getD i []))) h (by kernel_rfl) (fun h8 => ?_) (fun h8 => ?_)
     ·replace h8 : ((Sh.eqB s33) (decF (addPk (drawC x0).2 (D_spec_SourcePacket (drawC x0).1 ((i : Nat) : Int)).1).1 ((i : Nat) : Int)).1 ((drawC x0).1.2.getD i [])) = false := notT h8
      refine wp_seq ?_
      refine at_regq [] { ts := [2, 3, 4, 5, 6, 69, 70, 71, 72, 73, 74, 75, 76], os := [1, 2, 15] } [] gamOK hT h (by kernel_rfl) trivial fun a w h => then_normal (wp_ret (in_ret (then_ret (then_ret (in_ret (then_ret ?_))))))
      exact at_return (false, ()) [] h (by kernel_rfl) trivial (congrArg (fun z => (z, ())) (show (false) = D_laws_FnEarlySymbols x0 from by unfold D_laws_FnEarlySymbols; (exfalso; first | contradiction | (simp_all [Sh.eqB_self]; done) | (simp_all [Sh.eqB_self]; omega) | omega)))
     ·replace h8 : ((Sh.eqB s33) (decF (addPk (drawC x0).2 (D_spec_SourcePacket (drawC x0).1 ((i : Nat) : Int)).1).1 ((i : Nat) : Int)).1 ((drawC x0).1.2.getD i [])) = true := notF h8
      refine wp_skip (in_normal (then_normal ?_))
      refine at_regq [{}, { nw := true }] { ts := [2, 3, 4, 5, 6, 69, 70, 71, 72, 73, 74, 75, 76], os := [1, 2, 15] } [I64 (((i : Nat) : Int) + 1)] gamOK hT h (by kernel_rfl) ⟨⟨by first | omega | (simp only [lsA]; omega) | (simp <;> omega), by first | omega | (simp only [lsA]; omega) | (simp <;> omega)⟩, trivial⟩ fun a w h => ?_
      replace h := at_out (σ' := ⟨[(2, aB false), (3, aP 1 0), (4, aP 2 0), (5, aI ((List.length (List.filter (fun (k : Nat) => (decF (drawC x0).2 (k : Int)).2) (List.range i)) : Nat) : Int)), (6, aI (((i : Nat) : Int) + 1))], [(1, oX 26 [cI (drawC x0).1.1, .ro s33 (drawC x0).1.2]), (2, oX 30 [cI (drawC x0).2.1, cI (drawC x0).2.2.1, cI (drawC x0).2.2.2.1, cI (drawC x0).2.2.2.2.1, .ro s33 (drawC x0).2.2.2.2.2])]⟩) { ts := [2, 3, 4, 5, 6], os := [1, 2] } h (by kernel_rfl)
      exact ⟨i + 1, at_eq h (st_congr2 (fun (d0 : Int) (d1 : Int) => (⟨[(2, aB false), (3, aP 1 0), (4, aP 2 0), (5, aI d0), (6, aI d1)], [(1, oX 26 [cI (drawC x0).1.1, .ro s33 (drawC x0).1.2]), (2, oX 30 [cI (drawC x0).2.1, cI (drawC x0).2.2.1, cI (drawC x0).2.2.2.1, cI (drawC x0).2.2.2.2.1, .ro s33 (drawC x0).2.2.2.2.2])]⟩ : St)) (show (((List.length (List.filter (fun (k : Nat) => (decF (drawC x0).2 (k : Int)).2) (List.range i)) : Nat) : Int) : Int) = ((List.length (List.filter (fun (k : Nat) => (decF (drawC x0).2 (k : Int)).2) (List.range (i + 1))) : Nat) : Int) from by first | with_reducible rfl | (first | (rw [cnt_y (i := i) (by assumption)]; omega) | (rw [cnt_n (i := i) (by assumption)]; done)) | rfl) (show (((i : Nat) : Int) + 1 : Int) = (((i + 1) : Nat) : Int) from by first | with_reducible rfl | (omega) | rfl)), (by omega), (by omega)⟩
  ·replace h2 : ¬ (((i : Nat) : Int) < ((List.length (drawC x0).1.2 : Nat) : Int)) := of_decide_eq_false h2
   refine wp_exit (then_exit ?_)
   replace h := at_out (σ' := ⟨[(2, aB false), (3, aP 1 0), (4, aP 2 0), (5, aI ((List.length (List.filter (fun (k : Nat) => (decF (drawC x0).2 (k : Int)).2) (List.range i)) : Nat) : Int))], [(1, oX 26 [cI (drawC x0).1.1, .ro s33 (drawC x0).1.2]), (2, oX 30 [cI (drawC x0).2.1, cI (drawC x0).2.2.1, cI (drawC x0).2.2.2.1, cI (drawC x0).2.2.2.2.1, .ro s33 (drawC x0).2.2.2.2.2])]⟩) { ts := [2, 3, 4, 5], os := [1, 2] } h (by kernel_rfl)
   replace h := at_eq (σ' := ⟨[(2, aB false), (3, aP 1 0), (4, aP 2 0), (5, aI ((List.length (List.filter (fun (k : Nat) => (decF (drawC x0).2 (k : Int)).2) (List.range (List.length (drawC x0).1.2))) : Nat) : Int))], [(1, oX 26 [cI (drawC x0).1.1, .ro s33 (drawC x0).1.2]), (2, oX 30 [cI (drawC x0).2.1, cI (drawC x0).2.2.1, cI (drawC x0).2.2.2.1, cI (drawC x0).2.2.2.2.1, .ro s33 (drawC x0).2.2.2.2.2])]⟩) h (st_congr1 (fun (d0 : Int) => (⟨[(2, aB false), (3, aP 1 0), (4, aP 2 0), (5, aI d0)], [(1, oX 26 [cI (drawC x0).1.1, .ro s33 (drawC x0).1.2]), (2, oX 30 [cI (drawC x0).2.1, cI (drawC x0).2.2.1, cI (drawC x0).2.2.2.1, cI (drawC x0).2.2.2.2.1, .ro s33 (drawC x0).2.2.2.2.2])]⟩ : St)) (show (((List.length (List.filter (fun (k : Nat) => (decF (drawC x0).2 (k : Int)).2) (List.range i)) : Nat) : Int) : Int) = ((List.length (List.filter (fun (k : Nat) => (decF (drawC x0).2 (k : Int)).2) (List.range (List.length (drawC x0).1.2))) : Nat) : Int) from by first | with_reducible rfl | (rw [show List.length (drawC x0).1.2 = i by omega]) | rfl))
   refine then_exit (in_hit (then_normal (wp_seq ?_)))
   refine at_regq [{}, { ids := [16] }, {}, {}, {}, { ids := [17] }] { ts := [2, 3, 4, 5, 16], os := [1, 2] } [Q_impl_RecoverGeneration (drawC x0).2] gamOK hT h (by kernel_rfl) ⟨(by exact hd5), trivial⟩ fun a w h => then_normal (wp_seq ?_)
   by_cases h9 : ((List.length (List.filter (fun (k : Nat) => (decF (drawC x0).2 (k : Int)).2) (List.range (List.length (drawC x0).1.2))) : Nat) : Int) = (cntD (drawC x0).2)
   ·by_cases h10 : ((List.length (List.filter (fun (k : Nat) => (decF (drawC x0).2 (k : Int)).2) (List.range (List.length (drawC x0).1.2))) : Nat) : Int) ≤ ((List.length (drawC x0).1.2 : Nat) : Int) - (missD (drawC x0).2)
    ·refine at_anyq [{}, {}, {}, { hint := some (aB true) }, {}, {}, {}, {}, {}, {}, {}, { nw := true }, { hint := some (aB true) }, {}, {}, {}, {}, {}, {}, {}, {}] { ts := [2], os := [] } [Q_impl_CountDecoded (drawC x0).2, (AV.p (.c (.v (.bool (decide (((List.length (List.filter (fun (k : Nat) => (decF (drawC x0).2 (k : Int)).2) (List.range (List.length (drawC x0).1.2))) : Nat) : Int) = (cntD (drawC x0).2)))))) = AV.p (.c (.v (.bool true)))), Q_impl_MissingDegrees (drawC x0).2, I64 (((List.length (drawC x0).1.2 : Nat) : Int) - (missD (drawC x0).2)), (AV.p (.c (.v (.bool (decide (((List.length (List.filter (fun (k : Nat) => (decF (drawC x0).2 (k : Int)).2) (List.range (List.length (drawC x0).1.2))) : Nat) : Int) ≤ ((List.length (drawC x0).1.2 : Nat) : Int) - (missD (drawC x0).2)))))) = AV.p (.c (.v (.bool true)))), Q_impl_IsComplete (drawC x0).2] gamOK hT mixed h (by kernel_rfl) ⟨(by exact hd5), hint_bool (decide_eq_true h9), (by exact hd5), ⟨by (have hL0 := (show List.length (drawC x0).1.2 ≤ 1073741824 from (hd3.2).1); first | omega | (simp only [lsA]; omega) | (simp <;> omega)), by (have hL0 := (show List.length (drawC x0).1.2 ≤ 1073741824 from (hd3.2).1); first | omega | (simp only [lsA]; omega) | (simp <;> omega))⟩, hint_bool (decide_eq_true h10), (by exact hd5), trivial⟩ fun a w h => then_normal (wp_ret ?_)
     exact at_return (((recG (drawC x0).2).2 == (D_impl_IsComplete (drawC x0).2)), ()) [] h (by kernel_rfl) trivial (congrArg (fun z => (z, ())) (show (((recG (drawC x0).2).2 == (D_impl_IsComplete (drawC x0).2))) = D_laws_FnEarlySymbols x0 from by unfold D_laws_FnEarlySymbols; first | exact beqT e3 | (rw [e3]; simp; done)))
    ·refine at_anyq [{}, {}, {}, { hint := some (aB true) }, {}, {}, {}, {}, {}, {}, {}, { nw := true }, { hint := some (aB false) }, {}, {}, {}, {}, {}, {}, {}, {}] { ts := [2], os := [] } [Q_impl_CountDecoded (drawC x0).2, (AV.p (.c (.v (.bool (decide (((List.length (List.filter (fun (k : Nat) => (decF (drawC x0).2 (k : Int)).2) (List.range (List.length (drawC x0).1.2))) : Nat) : Int) = (cntD (drawC x0).2)))))) = AV.p (.c (.v (.bool true)))), Q_impl_MissingDegrees (drawC x0).2, I64 (((List.length (drawC x0).1.2 : Nat) : Int) - (missD (drawC x0).2)), (AV.p (.c (.v (.bool (decide (((List.length (List.filter (fun (k : Nat) => (decF (drawC x0).2 (k : Int)).2) (List.range (List.length (drawC x0).1.2))) : Nat) : Int) ≤ ((List.length (drawC x0).1.2 : Nat) : Int) - (missD (drawC x0).2)))))) = AV.p (.c (.v (.bool false))))] gamOK hT mixed h (by kernel_rfl) ⟨(by exact hd5), hint_bool (decide_eq_true h9), (by exact hd5), ⟨by (have hL0 := (show List.length (drawC x0).1.2 ≤ 1073741824 from (hd3.2).1); first | omega | (simp only [lsA]; omega) | (simp <;> omega)), by (have hL0 := (show List.length (drawC x0).1.2 ≤ 1073741824 from (hd3.2).1); first | omega | (simp only [lsA]; omega) | (simp <;> omega))⟩, hint_bool (decide_eq_false h10), trivial⟩ fun a w h => then_normal (wp_ret ?_)
     exact at_return (false, ()) [] h (by kernel_rfl) trivial (congrArg (fun z => (z, ())) (show (false) = D_laws_FnEarlySymbols x0 from by unfold D_laws_FnEarlySymbols; (exfalso; first | contradiction | (simp_all [Sh.eqB_self]; done) | (simp_all [Sh.eqB_self]; omega) | omega)))
   ·refine at_anyq [{}, {}, {}, { hint := some (aB false) }, {}, {}, {}, {}, {}, {}, {}, {}, {}, {}, {}, {}, {}, {}, {}, {}, {}] { ts := [2], os := [] } [Q_impl_CountDecoded (drawC x0).2, (AV.p (.c (.v (.bool (decide (((List.length (List.filter (fun (k : Nat) => (decF (drawC x0).2 (k : Int)).2) (List.range (List.length (drawC x0).1.2))) : Nat) : Int) = (cntD (drawC x0).2)))))) = AV.p (.c (.v (.bool false))))] gamOK hT mixed h (by kernel_rfl) ⟨(by exact hd5), hint_bool (decide_eq_false h9), trivial⟩ fun a w h => then_normal (wp_ret ?_)
    exact at_return (false, ()) [] h (by kernel_rfl) trivial (congrArg (fun z => (z, ())) (show (false) = D_laws_FnEarlySymbols x0 from by unfold D_laws_FnEarlySymbols; (exfalso; first | contradiction | (simp_all [Sh.eqB_self]; done) | (simp_all [Sh.eqB_self]; omega) | omega)))

theorem opn5 : OpensS Try.prog 5 (.u8 5) := opensS_u8 Try.underlying5
theorem co5 : Try.prog.cellsOf 5 = 1 := by kernel_rfl
theorem opn22 : OpensS Try.prog 22 s22 := opensS_slice (a := (.u8 5)) Try.underlying22 co5 opn5
namespace fnEarlySymbols
open Go.ChangeShapes Go.WideShapes Go.ChangeAt Go.RowKit
theorem own : ownKnob Try.prog.godebug = none := by kernel_rfl
theorem laidOut : laidOutB Try.prog = true := fxLaid
set_option maxRecDepth 100000 in
theorem lifted (os : Os) (started : os.Started) (H : Type) (enc : TypeId × Value → H) :
    ReturnsInHanded {} Try.checked os 3 .any (Rows.fnEarlySymbolsSpec.pre6 enc Try.prog Try.f3 Rows.fnEarlySymbolsRow.domain false) (Rows.fnEarlySymbolsSpec.post enc Try.prog Try.f3 false true false false) := by
  refine returnsInHanded_of_change (C := Try.checked) own started (by kernel_rfl) Try.func3
    (ChangeSpec.witness6 (enc := enc) (C := Try.checked) false ⟨#[], #[.slice none 0 0], []⟩ 8 (by kernel_rfl) (by kernel_rfl) (by kernel_rfl) (by kernel_rfl)) ?_
  intro W base args ds gs before hval0 hW hcnd _
  have hval : ∀ (j : Nat) t v, Try.f3.params[j]? = some t → args[j]? = some v → Value.okWide Try.prog W .any base t v := hval0
  have hW' := hW
  obtain ⟨p, q, hA0, hV, rfl, hfz, hnd⟩ := hW
  have hA : DataW.TrodAll enc Try.prog W 0 (fun _ => true) true Try.f3.params.toList args.toList ds p := hA0
  rw [Try.params3] at hA hval
  obtain ⟨v0, vs0, d0, ds0, p0, q0, hargs, rfl, rfl, h0, r0⟩ := trodAll_cons hA
  obtain ⟨rfl, rfl, rfl⟩ := trodAll_nil r0
  obtain rfl : args = #[v0] := by cases args; simp_all
  obtain ⟨rfl, rfl⟩ := trodVars_none hV
  have k0 := h0
  have lt0 : ∀ x ∈ p0, x.block < W.heap.size := by obtain ⟨m, hm⟩ := k0; exact DataW.trod_lt m _ _ _ hm
  obtain ⟨ad0, len0, cap0, rfl⟩ := okWide_slice Try.underlying22 (hval 0 22 v0 rfl rfl)
  obtain ⟨x0, hx0, i0⟩ : ∃ x : (s22).D, (s22).rd W (fun b => b < W.heap.size) [.slice ad0 len0 cap0] x ∧ (s22).i64 x := by obtain ⟨fuel, hf⟩ := h0; exact opn22 hf
  clear hA0 hval0
  refine (calls_law S_laws_FnEarlySymbols_ok (by kernel_rfl) W (fun b => b < W.heap.size) [.slice ad0 len0 cap0] (x0, ()) (fun _ h => h) ⟨argRd_sl hx0, trivial⟩ i0).mono fun e W' hr => ?_
  obtain ⟨he, bel⟩ := ret_bool hr
  subst he
  exact ⟨_, rfl, _, _, _, [], _, [], hW', trodAll_mk1 (shut_bool Try.underlying4 _), (trodAll_cons_mk (Below.trod laidOut (by kernel_rfl) (of_decide_eq_true (by kernel_rfl)) k0 bel lt0) trodAll_mk0), rfl, bel.frame _, fun h => by cases h⟩
theorem closed : joinedFacts Try.prog 3 Try.f3 (Rows.fnEarlySymbolsSpec) Rows.fnEarlySymbolsRow = true := by
  unfold joinedFacts
  exact (and2 (and2 (and2 (and2 (and2 (and2 (and2 (and2 (and2 (and2 (and2 (and2 (and2 (and2 (and2 (and2 (and2 (and2 (and2 (and2 (and2 (and2 (and2 (and2 (and2 (and2 (and2 (and2 (and2 (and2 (and2 (by kernel_rfl) fxLaid) fxMaps) (by kernel_rfl)) (by kernel_rfl)) (by kernel_rfl)) (by kernel_rfl)) (by kernel_rfl)) (by kernel_rfl)) (by kernel_rfl)) (by kernel_rfl)) (by kernel_rfl)) (by kernel_rfl)) (by kernel_rfl)) (by kernel_rfl)) (by kernel_rfl)) (by kernel_rfl)) (by kernel_rfl)) (by kernel_rfl)) (by kernel_rfl)) (by kernel_rfl)) (by kernel_rfl)) (by kernel_rfl)) (by kernel_rfl)) (by kernel_rfl)) fxEnter) (by rw [fxLifts]; kernel_rfl)) (by rw [fxMake]; kernel_rfl)) (by kernel_rfl)) (by kernel_rfl)) (by kernel_rfl)) (by kernel_rfl))
theorem over : Rows.fnEarlySymbolsRow.holds Try.pinned (OpenSpec.ofChange Rows.fnEarlySymbolsSpec) :=
  OpenClaim.holds_of_wide 3 Try.f3 rfl rfl rfl rfl rfl rfl rfl ⟨rfl, rfl, rfl, rfl, rfl⟩ rfl rfl rfl rfl rfl (by kernel_rfl) Try.func3 closed
    (of_decide_eq_true (by kernel_rfl)) (by unfold Func.isWrapper; first | (rw [if_pos (by decide +kernel)]; kernel_rfl) | (rw [if_neg (by decide +kernel)]; exact ⟨rfl, rfl⟩))
    (fun os started H enc _ => lifted os started H enc)
/-- the statement -/
theorem proved : Rows.FnEarlySymbolsSaid := over
end fnEarlySymbols

end Go.Proofs.Ytgeonngfipikeaa

/- The walks of the functions that the law reaches: each summary holds. No condition. -/
import Derived.Test.YtpffjagdefkfkaaFnManifests1
import Derived.Test.YtpffjagdefkfkaaLA
import Derived.Test.YtpffjagdefkfkaaProg
namespace Go.Proofs.Ytpffjagdefkfkaa
open Go.RowKit
set_option linter.unusedVariables false
set_option linter.unusedSimpArgs false
abbrev Q_impl_HashSymbols := (fun (x0 : (List Int)) (x1 : T26) => Sh.fit s29 x0 ∧ Sh.fit s26 x1)
def S_impl_HashSymbols : Sum := { fid := 48, dom := [s29, s26], cod := [s27], dp := true, fz := false, pre := fun x => Q_impl_HashSymbols x.1 x.2.1, g := fun x => ((hashSyms x.1 x.2.1), ()) }
def S_impl_HashSymbols_tab : List (Nat × Sum) := [(61, S_impl_IsValidHashKey), (103, S_impl_IsValidGeneration), (50, S_impl_SymbolWidth), (104, S_impl_powers)]
theorem S_impl_HashSymbols_ok : FnOK Try.prog 48 S_impl_HashSymbols := by
 refine at_enter 40 (fun x => ⟨[(0, aG [.ro (.int 3) x.1]), (1, aG [cI x.2.1.1, .ro s27 x.2.1.2])], []⟩) Try.func48 rfl (by kernel_rfl) (fun x => rfl) ?_
 rintro w0 Z0 ⟨x0, x1, u⟩ a w
 revert x0 x1
 intro (x0 : (List Int)) (x1 : T26) hpre hlens h
 replace hpre : Q_impl_HashSymbols x0 x1 := hpre
 have hT : TabOK Try.prog S_impl_HashSymbols_tab := (.cons S_impl_IsValidHashKey_ok (.cons S_impl_IsValidGeneration_ok (.cons S_impl_SymbolWidth_ok (.cons S_impl_powers_ok .nil))))
 obtain ⟨hf0, hf1⟩ := hpre
 have hn0_1 : List.length x0 ≤ 1073741824 := hf0.1
 have hn1_2 : List.length x1.2 ≤ 1073741824 := hf1.2.1
 refine wp_seq ?_
 refine at_regq [{ ids := [1] }, { ids := [2] }] { ts := [2, 3, 4], os := [1, 2] } [] gamOK hT h (by kernel_rfl) trivial fun a w h => then_normal (wp_seq (wp_seq ?_))
 rcases Bool.eq_false_or_eq_true (!(validK x0)) with h1 | h1
 ·have hzh1 : (validK x0) = false := notT h1
  refine at_anyq [{}, {}, { hint := some (aB true) }, {}, {}, {}, {}, {}, {}, {}, {}, {}, {}, {}, {}, {}] { ts := [2, 3, 4, 23], os := [1, 2] } [Q_impl_IsValidHashKey x0, (AV.p (.c (.v (.bool (!(validK x0))))) = AV.p (.c (.v (.bool true))))] gamOK hT mixed h (by kernel_rfl) ⟨(by exact hf0), hint_bool (h1), trivial⟩ fun a w h => then_normal ?_
  refine at_test true h (by kernel_rfl) (fun hh => ?_) (fun hh => nomatch hh)
  refine wp_seq ?_
  refine at_regq [] { ts := [2, 3, 4], os := [1, 2] } [] gamOK hT h (by kernel_rfl) trivial fun a w h => then_normal (wp_ret (then_ret ?_))
  exact at_return (([] : List Int), ()) [] h (by kernel_rfl) trivial (congrArg (fun z => (z, ())) (show (([] : List Int)) = hashSyms x0 x1 from by first | exact hashSyms_y ⟨by assumption, by assumption, by omega⟩ | exact hashSyms_n (fun e => by have e1 := e.1; have e2 := e.2.1; have e3 := e.2.2; first | omega | (simp_all; done))))
 ·have hzh1 : (validK x0) = true := notF h1
  have hvh1 := validK_t (notF h1)
  rcases Bool.eq_false_or_eq_true (!(validG x1)) with h2 | h2
  ·have hzh2 : (validG x1) = false := notT h2
   refine at_anyq [{}, {}, { hint := some (aB false) }, {}, {}, {}, { hint := some (aB true) }, {}, {}, {}, {}, {}, {}, {}, {}, {}] { ts := [2, 3, 4, 23], os := [1, 2] } [Q_impl_IsValidHashKey x0, (AV.p (.c (.v (.bool (!(validK x0))))) = AV.p (.c (.v (.bool false)))), Q_impl_IsValidGeneration x1, (AV.p (.c (.v (.bool (!(validG x1))))) = AV.p (.c (.v (.bool true))))] gamOK hT mixed h (by kernel_rfl) ⟨(by exact hf0), hint_bool (h1), (by exact hf1), hint_bool (h2), trivial⟩ fun a w h => then_normal ?_
   refine at_test true h (by kernel_rfl) (fun hh => ?_) (fun hh => nomatch hh)
   refine wp_seq ?_
   refine at_regq [] { ts := [2, 3, 4], os := [1, 2] } [] gamOK hT h (by kernel_rfl) trivial fun a w h => then_normal (wp_ret (then_ret ?_))
   exact at_return (([] : List Int), ()) [] h (by kernel_rfl) trivial (congrArg (fun z => (z, ())) (show (([] : List Int)) = hashSyms x0 x1 from by first | exact hashSyms_y ⟨by assumption, by assumption, by omega⟩ | exact hashSyms_n (fun e => by have e1 := e.1; have e2 := e.2.1; have e3 := e.2.2; first | omega | (simp_all; done))))
  ·have hzh2 : (validG x1) = true := notF h2
   have hvh2 := validG_t (notF h2)
   refine at_anyq [{}, {}, { hint := some (aB false) }, {}, {}, {}, { hint := some (aB false) }, {}, {}, {}, {}, {}, {}, {}, {}, {}] { ts := [2, 3, 4, 23], os := [1, 2] } [Q_impl_IsValidHashKey x0, (AV.p (.c (.v (.bool (!(validK x0))))) = AV.p (.c (.v (.bool false)))), Q_impl_IsValidGeneration x1, (AV.p (.c (.v (.bool (!(validG x1))))) = AV.p (.c (.v (.bool false)))), Q_impl_SymbolWidth x1] gamOK hT mixed h (by kernel_rfl) ⟨(by exact hf0), hint_bool (h1), (by exact hf1), hint_bool (h2), (by exact hf1), trivial⟩ fun a w h => then_normal ?_
   refine at_test (!decide ((colsOf x1.2) = ((List.length x0 : Nat) : Int))) h (by kernel_rfl) (fun h3 => ?_) (fun h3 => ?_)
   ·replace h3 : ¬ ((colsOf x1.2) = ((List.length x0 : Nat) : Int)) := of_decide_eq_false (notT h3)
    refine wp_seq ?_
    refine at_regq [] { ts := [2, 3, 4], os := [1, 2] } [] gamOK hT h (by kernel_rfl) trivial fun a w h => then_normal (wp_ret (then_ret ?_))
    exact at_return (([] : List Int), ()) [] h (by kernel_rfl) trivial (congrArg (fun z => (z, ())) (show (([] : List Int)) = hashSyms x0 x1 from by first | exact hashSyms_y ⟨by assumption, by assumption, by omega⟩ | exact hashSyms_n (fun e => by have e1 := e.1; have e2 := e.2.1; have e3 := e.2.2; first | omega | (simp_all; done))))
   ·replace h3 : (colsOf x1.2) = ((List.length x0 : Nat) : Int) := of_decide_eq_true (notF h3)
    refine wp_skip (then_normal (wp_seq ?_))
    refine at_regq [] { ts := [2, 3, 4, 5], os := [1, 2] } [] gamOK hT h (by kernel_rfl) trivial fun a w h => then_normal (wp_seq (wp_seq ?_))
    refine at_regq [] { ts := [2, 4, 5, 25, 26, 27], os := [1] } [] gamOK hT h (by kernel_rfl) trivial fun a w h => then_normal (wp_block ?_)
    replace h := at_out (σ' := ⟨[(2, aP 1 0), (4, .p (.c (cN))), (5, aS 3), (25, aF s27 x1.2), (26, aI ((List.length x1.2 : Nat) : Int)), (27, aI 0)], [(1, oX 29 [.ro (.int 3) x0]), (3, oR (.int 3) ([] : List Int))]⟩) { mt := [⟨none, 5, 3, true, (.int 3)⟩], ts := [2, 4, 5, 25, 26, 27], os := [1, 3] } h (by kernel_rfl)
    refine at_loop (fun i : Nat => (⟨[(2, aP 1 0), (4, .p (.c (cN))), (5, aS 3), (25, aF s27 x1.2), (26, aI ((List.length x1.2 : Nat) : Int)), (27, aI ((i : Nat) : Int))], [(1, oX 29 [.ro (.int 3) x0]), (3, oR (.int 3) (List.map (fun s => powsL x0 s) (List.take i x1.2)))]⟩ : St)) (fun i => i ≤ List.length x1.2) (fun i => List.length x1.2 - i) (0) h (st_congr2 (fun (d0 : List Int) (d1 : Int) => (⟨[(2, aP 1 0), (4, .p (.c (cN))), (5, aS 3), (25, aF s27 x1.2), (26, aI ((List.length x1.2 : Nat) : Int)), (27, aI d1)], [(1, oX 29 [.ro (.int 3) x0]), (3, oR (.int 3) d0)]⟩ : St)) (show (([] : List Int) : List Int) = (List.map (fun s => powsL x0 s) (List.take (0) x1.2)) from by first | with_reducible rfl | (first | rfl | simp) | rfl) (show (0 : Int) = (((0) : Nat) : Int) from by first | with_reducible rfl | (first | rfl | simp) | rfl)) (by omega) ?_
    intro i a w hok0 h
    have hlt0 := len_take_le (xs := x1.2) i
    refine wp_seq ?_
    refine at_regq [] { ts := [2, 4, 5, 25, 26, 27, 28], os := [1, 3] } [] gamOK hT h (by kernel_rfl) trivial fun a w h => then_normal (wp_seq ?_)
    refine at_test (decide (((i : Nat) : Int) < ((List.length x1.2 : Nat) : Int))) h (by kernel_rfl) (fun h4 => ?_) (fun h4 => ?_)
    ·replace h4 : ((i : Nat) : Int) < ((List.length x1.2 : Nat) : Int) := of_decide_eq_true h4
     have hgm := (validG_t (g := x1) (by assumption)).2.2.1
     have hgc := colsOf_at (m := x1.2) (by omega)
     have hga := validM_at hgm i (by omega)
     have hgv := (validM_t hgm).2 _ (getD_mem (z := []) (show i < List.length x1.2 by omega))
     have hgr := (validV_t hgv.1).2.2
     refine wp_skip (then_normal (wp_seq (wp_block (wp_seq ?_))))
     refine at_regq [] { ts := [2, 4, 5, 7, 25, 26, 27], os := [1, 3] } [(0 : Int) ≤ ((i : Nat) : Int) ∧ ((i : Nat) : Int) < ((List.length x1.2 : Nat) : Int)] gamOK hT h (by kernel_rfl) ⟨(by refine ⟨?_, ?_⟩ <;> (first | omega | (simp only [lsA]; omega) | (simp <;> omega))), trivial⟩ fun a w h => then_normal ?_
     refine at_regq [{}, {}, {}, {}, {}, { ids := [4] }, { ids := [5] }] { ts := [2, 4, 5, 25, 26, 27], os := [1, 5] } [Q_impl_powers x0 (x1.2.getD i []), (List.length (List.map (fun s => powsL x0 s) (List.take i x1.2)) + List.length ([(powsL x0 (x1.2.getD i []))])) * 8 ≤ 140737488355328] gamOK hT h (by kernel_rfl) ⟨(by exact ⟨hf0, (Sh.fit_getD hf1.2 i), by omega, grp_at (validK_t (by assumption)).2, hgr⟩), (by first | omega | (simp only [lsA]; omega) | (simp <;> omega)), trivial⟩ fun a w h => in_normal (then_normal ?_)
     refine at_regq [{ nw := true }] { ts := [2, 4, 5, 25, 26, 27], os := [1, 5] } [I64 (((i : Nat) : Int) + 1)] gamOK hT h (by kernel_rfl) ⟨⟨by first | omega | (simp only [lsA]; omega) | (simp <;> omega), by first | omega | (simp only [lsA]; omega) | (simp <;> omega)⟩, trivial⟩ fun a w h => ?_
     replace h := at_out (σ' := ⟨[(2, aP 1 0), (4, .p (.c (cN))), (5, aS 3), (25, aF s27 x1.2), (26, aI ((List.length x1.2 : Nat) : Int)), (27, aI (((i : Nat) : Int) + 1))], [(1, oX 29 [.ro (.int 3) x0]), (3, oR (.int 3) ((List.map (fun s => powsL x0 s) (List.take i x1.2)) ++ ([(powsL x0 (x1.2.getD i []))])))]⟩) { ts := [2, 4, 5, 25, 26, 27], os := [1, 5], rn := [(5, 3)] } h (by kernel_rfl)
     exact ⟨i + 1, at_eq h (st_congr2 (fun (d0 : List Int) (d1 : Int) => (⟨[(2, aP 1 0), (4, .p (.c (cN))), (5, aS 3), (25, aF s27 x1.2), (26, aI ((List.length x1.2 : Nat) : Int)), (27, aI d1)], [(1, oX 29 [.ro (.int 3) x0]), (3, oR (.int 3) d0)]⟩ : St)) (show (((List.map (fun s => powsL x0 s) (List.take i x1.2)) ++ ([(powsL x0 (x1.2.getD i []))])) : List Int) = (List.map (fun s => powsL x0 s) (List.take (i + 1) x1.2)) from by first | with_reducible rfl | (rw [map_snoc (z := []) (by omega)]; done) | rfl) (show (((i : Nat) : Int) + 1 : Int) = (((i + 1) : Nat) : Int) from by first | with_reducible rfl | (omega) | rfl)), (by omega), (by omega)⟩
    ·replace h4 : ¬ (((i : Nat) : Int) < ((List.length x1.2 : Nat) : Int)) := of_decide_eq_false h4
     refine wp_exit (then_exit ?_)
     replace h := at_out (σ' := ⟨[(4, .p (.c (cN))), (5, aS 3)], [(3, oR (.int 3) (List.map (fun s => powsL x0 s) (List.take i x1.2)))]⟩) { ts := [4, 5], os := [3] } h (by kernel_rfl)
     replace h := at_eq (σ' := ⟨[(4, .p (.c (cN))), (5, aS 3)], [(3, oR (.int 3) (List.map (fun s => powsL x0 s) x1.2))]⟩) h (st_congr1 (fun (d0 : List Int) => (⟨[(4, .p (.c (cN))), (5, aS 3)], [(3, oR (.int 3) d0)]⟩ : St)) (show ((List.map (fun s => powsL x0 s) (List.take i x1.2)) : List Int) = (List.map (fun s => powsL x0 s) x1.2) from by first | with_reducible rfl | (rw [take_all (by omega)]) | rfl))
     refine then_exit (in_hit (then_normal (wp_seq ?_)))
     refine at_regq [] { ts := [4], os := [3] } [] gamOK hT h (by kernel_rfl) trivial fun a w h => then_normal (wp_ret ?_)
     exact at_return ((List.map (fun s => powsL x0 s) x1.2), ()) [] h (by kernel_rfl) trivial (congrArg (fun z => (z, ())) (show ((List.map (fun s => powsL x0 s) x1.2)) = hashSyms x0 x1 from by first | exact hashSyms_y ⟨by assumption, by assumption, by omega⟩ | exact hashSyms_n (fun e => by have e1 := e.1; have e2 := e.2.1; have e3 := e.2.2; first | omega | (simp_all; done))))

abbrev Q_spec_HashSymbols := (fun (x0 : (List Int)) (x1 : T26) => Sh.fit s29 x0 ∧ Sh.fit s26 x1)
def S_spec_HashSymbols : Sum := { fid := 160, dom := [s29, s26], cod := [s27], dp := true, fz := false, pre := fun x => Q_spec_HashSymbols x.1 x.2.1, g := fun x => ((hashSyms x.1 x.2.1), ()) }
def S_spec_HashSymbols_tab : List (Nat × Sum) := [(59, S_spec_IsValidGeneration), (128, S_spec_IsValidHashKey), (101, S_spec_ColumnsOf), (167, S_spec_HashVector)]
theorem S_spec_HashSymbols_ok : FnOK Try.prog 160 S_spec_HashSymbols := by
 refine at_enter 43 (fun x => ⟨[(0, aG [.ro (.int 3) x.1]), (1, aG [cI x.2.1.1, .ro s27 x.2.1.2])], []⟩) Try.func160 rfl (by kernel_rfl) (fun x => rfl) ?_
 rintro w0 Z0 ⟨x0, x1, u⟩ a w
 revert x0 x1
 intro (x0 : (List Int)) (x1 : T26) hpre hlens h
 replace hpre : Q_spec_HashSymbols x0 x1 := hpre
 have hT : TabOK Try.prog S_spec_HashSymbols_tab := (.cons S_spec_IsValidGeneration_ok (.cons S_spec_IsValidHashKey_ok (.cons S_spec_ColumnsOf_ok (.cons S_spec_HashVector_ok .nil))))
 obtain ⟨hf0, hf1⟩ := hpre
 have hn0_1 : List.length x0 ≤ 1073741824 := hf0.1
 have hn1_2 : List.length x1.2 ≤ 1073741824 := hf1.2.1
 refine wp_seq ?_
 refine at_regq [{ ids := [1] }, { ids := [2] }] { ts := [2, 3, 4], os := [1, 2] } [] gamOK hT h (by kernel_rfl) trivial fun a w h => then_normal (wp_seq ?_)
 refine at_regq [{ ids := [3] }] { ts := [2, 3, 4, 5], os := [1, 2, 3] } [] gamOK hT h (by kernel_rfl) trivial fun a w h => then_normal (wp_seq (wp_seq ?_))
 refine at_regq [] { ts := [2, 3, 4, 5, 6], os := [1, 2, 3] } [] gamOK hT h (by kernel_rfl) trivial fun a w h => then_normal (wp_block ?_)
 replace h := at_out (σ' := ⟨[(2, aP 1 0), (3, aP 2 0), (4, .p (.c (cN))), (5, aS 3), (6, aI 0)], [(1, oX 29 [.ro (.int 3) x0]), (2, oX 26 [cI x1.1, .ro s27 x1.2]), (3, oR (.int 3) ([] : List Int))]⟩) { ts := [2, 3, 4, 5, 6], os := [1, 2, 3] } h (by kernel_rfl)
 refine at_loop (fun i : Nat => (⟨[(2, aP 1 0), (3, aP 2 0), (4, .p (.c (cN))), (5, aS 3), (6, aI ((i : Nat) : Int))], [(1, oX 29 [.ro (.int 3) x0]), (2, oX 26 [cI x1.1, .ro s27 x1.2]), (3, oR (.int 3) (List.map (fun s => powsL x0 s) (List.take i x1.2)))]⟩ : St)) (fun i => (i ≤ List.length x1.2 ∧ (i = 0 ∨ hsOK x0 x1))) (fun i => List.length x1.2 - i) (0) h (st_congr2 (fun (d0 : List Int) (d1 : Int) => (⟨[(2, aP 1 0), (3, aP 2 0), (4, .p (.c (cN))), (5, aS 3), (6, aI d1)], [(1, oX 29 [.ro (.int 3) x0]), (2, oX 26 [cI x1.1, .ro s27 x1.2]), (3, oR (.int 3) d0)]⟩ : St)) (show (([] : List Int) : List Int) = (List.map (fun s => powsL x0 s) (List.take (0) x1.2)) from by first | with_reducible rfl | (first | rfl | simp) | rfl) (show (0 : Int) = (((0) : Nat) : Int) from by first | with_reducible rfl | (first | rfl | simp) | rfl)) (by exact ⟨Nat.zero_le _, Or.inl rfl⟩) ?_
 intro i a w hok0 h
 have hlt := len_take_le (xs := x1.2) i
 refine wp_seq (wp_seq ?_)
 by_cases h1 : ((i : Nat) : Int) < ((List.length x1.2 : Nat) : Int)
 ·rcases Bool.eq_false_or_eq_true ((validG x1)) with h2 | h2
  ·have hvh2 := validG_t h2
   rcases Bool.eq_false_or_eq_true ((validK x0)) with h3 | h3
   ·have hvh3 := validK_t h3
    refine at_anyq [{}, {}, {}, {}, { hint := some (aB true) }, {}, {}, { hint := some (aB true) }, {}, {}, {}, { hint := some (aB true) }, {}, {}, {}, {}, {}, {}, {}, {}, {}, {}] { ts := [2, 3, 4, 5, 6, 14, 15, 18, 19, 22, 23, 24, 25, 26, 27, 28, 29], os := [1, 2, 3] } [(AV.p (.c (.v (.bool (decide (((i : Nat) : Int) < ((List.length x1.2 : Nat) : Int)))))) = AV.p (.c (.v (.bool true)))), Q_spec_IsValidGeneration x1, (AV.p (.c (.v (.bool ((validG x1))))) = AV.p (.c (.v (.bool true)))), Q_spec_IsValidHashKey x0, (AV.p (.c (.v (.bool ((validK x0))))) = AV.p (.c (.v (.bool true)))), Q_spec_ColumnsOf x1.2] gamOK hT mixed h (by kernel_rfl) ⟨hint_bool (decide_eq_true h1), (by exact hf1), hint_bool (h2), (by exact hf0), hint_bool (h3), (by exact hf1.2), trivial⟩ fun a w h => then_normal ?_
    refine at_test (decide ((colsOf x1.2) = ((List.length x0 : Nat) : Int))) h (by kernel_rfl) (fun h4 => ?_) (fun h4 => ?_)
    ·replace h4 : (colsOf x1.2) = ((List.length x0 : Nat) : Int) := of_decide_eq_true h4
     refine wp_skip (then_normal (wp_seq (wp_block ?_)))
     refine at_anyq [{}, {}, {}, {}, {}, {}, {}, {}, { ids := [4] }, { ids := [5] }, {}] { ts := [2, 3, 4, 5, 6, 14, 15, 18, 19, 22, 23, 24, 25, 26, 27, 28], os := [1, 2, 5] } [(0 : Int) ≤ ((i : Nat) : Int) ∧ ((i : Nat) : Int) < ((List.length x1.2 : Nat) : Int), Q_spec_HashVector x0 (x1.2.getD i []), (List.length (List.map (fun s => powsL x0 s) (List.take i x1.2)) + List.length ([(hashV x0 (x1.2.getD i []))])) * 8 ≤ 140737488355328] gamOK hT mixed h (by kernel_rfl) ⟨(by refine ⟨?_, ?_⟩ <;> (first | omega | (simp only [lsA]; omega) | (simp <;> omega))), (by exact ⟨hf0, Sh.fit_getD hf1.2 i⟩), (by first | omega | (simp only [lsA]; omega) | (simp <;> omega)), trivial⟩ fun a w h => in_normal (then_normal ?_)
     refine at_regq [{}, { nw := true }] { ts := [2, 3, 4, 5, 6, 14, 15, 18, 19, 22, 23, 24, 25, 26, 27, 28], os := [1, 2, 5] } [I64 (((i : Nat) : Int) + 1)] gamOK hT h (by kernel_rfl) ⟨⟨by first | omega | (simp only [lsA]; omega) | (simp <;> omega), by first | omega | (simp only [lsA]; omega) | (simp <;> omega)⟩, trivial⟩ fun a w h => ?_
     replace h := at_out (σ' := ⟨[(2, aP 1 0), (3, aP 2 0), (4, .p (.c (cN))), (5, aS 3), (6, aI (((i : Nat) : Int) + 1))], [(1, oX 29 [.ro (.int 3) x0]), (2, oX 26 [cI x1.1, .ro s27 x1.2]), (3, oR (.int 3) ((List.map (fun s => powsL x0 s) (List.take i x1.2)) ++ ([(hashV x0 (x1.2.getD i []))])))]⟩) { ts := [2, 3, 4, 5, 6], os := [1, 2, 5], rn := [(5, 3)] } h (by kernel_rfl)
     exact ⟨i + 1, at_eq h (st_congr2 (fun (d0 : List Int) (d1 : Int) => (⟨[(2, aP 1 0), (3, aP 2 0), (4, .p (.c (cN))), (5, aS 3), (6, aI d1)], [(1, oX 29 [.ro (.int 3) x0]), (2, oX 26 [cI x1.1, .ro s27 x1.2]), (3, oR (.int 3) d0)]⟩ : St)) (show (((List.map (fun s => powsL x0 s) (List.take i x1.2)) ++ ([(hashV x0 (x1.2.getD i []))])) : List Int) = (List.map (fun s => powsL x0 s) (List.take (i + 1) x1.2)) from by first | with_reducible rfl | ((rw [map_snoc (z := []) (by omega), hashV_sym ⟨by assumption, by assumption, by omega⟩ (by omega)]; done)) | rfl) (show (((i : Nat) : Int) + 1 : Int) = (((i + 1) : Nat) : Int) from by first | with_reducible rfl | (omega) | rfl)), (by exact ⟨by omega, Or.inr ⟨by assumption, by assumption, by omega⟩⟩), (by omega)⟩
    ·replace h4 : ¬ ((colsOf x1.2) = ((List.length x0 : Nat) : Int)) := of_decide_eq_false h4
     refine wp_exit (then_exit (then_exit (in_hit (then_normal (wp_seq ?_)))))
     refine at_regq [] { ts := [4], os := [3] } [] gamOK hT h (by kernel_rfl) trivial fun a w h => then_normal (wp_ret ?_)
     exact at_return ((List.map (fun s => powsL x0 s) (List.take i x1.2)), ()) [] h (by kernel_rfl) trivial (congrArg (fun z => (z, ())) (show ((List.map (fun s => powsL x0 s) (List.take i x1.2))) = hashSyms x0 x1 from by exact hashSyms_end hok0.1 hok0.2 (by first | (left; omega) | (right; intro e; have e1 := e.1; have e2 := e.2.1; have e3 := e.2.2; first | omega | (simp_all; done)))))
   ·refine at_anyq [{}, {}, {}, {}, { hint := some (aB true) }, {}, {}, { hint := some (aB true) }, {}, {}, {}, { hint := some (aB false) }, {}, {}, {}, {}, {}, {}, {}, {}, {}, {}] { ts := [2, 3, 4, 5, 6, 14, 15, 18, 19, 22, 23, 24, 25, 26, 27, 28, 29], os := [1, 2, 3] } [(AV.p (.c (.v (.bool (decide (((i : Nat) : Int) < ((List.length x1.2 : Nat) : Int)))))) = AV.p (.c (.v (.bool true)))), Q_spec_IsValidGeneration x1, (AV.p (.c (.v (.bool ((validG x1))))) = AV.p (.c (.v (.bool true)))), Q_spec_IsValidHashKey x0, (AV.p (.c (.v (.bool ((validK x0))))) = AV.p (.c (.v (.bool false))))] gamOK hT mixed h (by kernel_rfl) ⟨hint_bool (decide_eq_true h1), (by exact hf1), hint_bool (h2), (by exact hf0), hint_bool (h3), trivial⟩ fun a w h => then_normal ?_
    refine at_test false h (by kernel_rfl) (fun hh => nomatch hh) (fun hh => ?_)
    refine wp_exit (then_exit (then_exit (in_hit (then_normal (wp_seq ?_)))))
    refine at_regq [] { ts := [4], os := [3] } [] gamOK hT h (by kernel_rfl) trivial fun a w h => then_normal (wp_ret ?_)
    exact at_return ((List.map (fun s => powsL x0 s) (List.take i x1.2)), ()) [] h (by kernel_rfl) trivial (congrArg (fun z => (z, ())) (show ((List.map (fun s => powsL x0 s) (List.take i x1.2))) = hashSyms x0 x1 from by exact hashSyms_end hok0.1 hok0.2 (by first | (left; omega) | (right; intro e; have e1 := e.1; have e2 := e.2.1; have e3 := e.2.2; first | omega | (simp_all; done)))))
  ·refine at_anyq [{}, {}, {}, {}, { hint := some (aB true) }, {}, {}, { hint := some (aB false) }, {}, {}, {}, {}, {}, {}, {}, {}, {}, {}, {}, {}, {}, {}] { ts := [2, 3, 4, 5, 6, 14, 15, 18, 19, 22, 23, 24, 25, 26, 27, 28, 29], os := [1, 2, 3] } [(AV.p (.c (.v (.bool (decide (((i : Nat) : Int) < ((List.length x1.2 : Nat) : Int)))))) = AV.p (.c (.v (.bool true)))), Q_spec_IsValidGeneration x1, (AV.p (.c (.v (.bool ((validG x1))))) = AV.p (.c (.v (.bool false))))] gamOK hT mixed h (by kernel_rfl) ⟨hint_bool (decide_eq_true h1), (by exact hf1), hint_bool (h2), trivial⟩ fun a w h => then_normal ?_
   refine at_test false h (by kernel_rfl) (fun hh => nomatch hh) (fun hh => ?_)
   refine wp_exit (then_exit (then_exit (in_hit (then_normal (wp_seq ?_)))))
   refine at_regq [] { ts := [4], os := [3] } [] gamOK hT h (by kernel_rfl) trivial fun a w h => then_normal (wp_ret ?_)
   exact at_return ((List.map (fun s => powsL x0 s) (List.take i x1.2)), ()) [] h (by kernel_rfl) trivial (congrArg (fun z => (z, ())) (show ((List.map (fun s => powsL x0 s) (List.take i x1.2))) = hashSyms x0 x1 from by exact hashSyms_end hok0.1 hok0.2 (by first | (left; omega) | (right; intro e; have e1 := e.1; have e2 := e.2.1; have e3 := e.2.2; first | omega | (simp_all; done)))))
 ·refine at_anyq [{}, {}, {}, {}, { hint := some (aB false) }, {}, {}, {}, {}, {}, {}, {}, {}, {}, {}, {}, {}, {}, {}, {}, {}, {}] { ts := [2, 3, 4, 5, 6, 14, 15, 18, 19, 22, 23, 24, 25, 26, 27, 28, 29], os := [1, 2, 3] } [(AV.p (.c (.v (.bool (decide (((i : Nat) : Int) < ((List.length x1.2 : Nat) : Int)))))) = AV.p (.c (.v (.bool false))))] gamOK hT mixed h (by kernel_rfl) ⟨hint_bool (decide_eq_false h1), trivial⟩ fun a w h => then_normal ?_
  refine at_test false h (by kernel_rfl) (fun hh => nomatch hh) (fun hh => ?_)
  refine wp_exit (then_exit (then_exit (in_hit (then_normal (wp_seq ?_)))))
  refine at_regq [] { ts := [4], os := [3] } [] gamOK hT h (by kernel_rfl) trivial fun a w h => then_normal (wp_ret ?_)
  exact at_return ((List.map (fun s => powsL x0 s) (List.take i x1.2)), ()) [] h (by kernel_rfl) trivial (congrArg (fun z => (z, ())) (show ((List.map (fun s => powsL x0 s) (List.take i x1.2))) = hashSyms x0 x1 from by exact hashSyms_end hok0.1 hok0.2 (by first | (left; omega) | (right; intro e; have e1 := e.1; have e2 := e.2.1; have e3 := e.2.2; first | omega | (simp_all; done)))))

abbrev Q_impl_CombineHashes := (fun (x0 : (List Int)) (x1 : (List Int)) => Sh.fit s27 x0 ∧ Sh.fit s27 x1)
def S_impl_CombineHashes : Sum := { fid := 114, dom := [s27, s27], cod := [(.int 3)], dp := true, fz := false, pre := fun x => Q_impl_CombineHashes x.1 x.2.1, g := fun x => ((combH x.1 x.2.1), ()) }
def S_impl_CombineHashes_tab : List (Nat × Sum) := [(112, S_impl_IsValidVector), (55, S_impl_IsGroupElement), (104, S_impl_powers)]
theorem S_impl_CombineHashes_ok : FnOK Try.prog 114 S_impl_CombineHashes := by
 refine at_enter 30 (fun x => ⟨[(0, aF (.int 3) x.1), (1, aF (.int 3) x.2.1)], []⟩) Try.func114 rfl (by kernel_rfl) (fun x => rfl) ?_
 rintro w0 Z0 ⟨x0, x1, u⟩ a w
 revert x0 x1
 intro (x0 : (List Int)) (x1 : (List Int)) hpre hlens h
 replace hpre : Q_impl_CombineHashes x0 x1 := hpre
 have hT : TabOK Try.prog S_impl_CombineHashes_tab := (.cons S_impl_IsValidVector_ok (.cons S_impl_IsGroupElement_ok (.cons S_impl_powers_ok .nil)))
 obtain ⟨hf0, hf1⟩ := hpre
 have hn0_1 : List.length x0 ≤ 1073741824 := hf0.1
 have hn1_2 : List.length x1 ≤ 1073741824 := hf1.1
 refine wp_seq ?_
 refine at_regq [] { ts := [0, 1, 4], os := [] } [] gamOK hT h (by kernel_rfl) trivial fun a w h => then_normal (wp_seq (wp_seq ?_))
 rcases Bool.eq_false_or_eq_true (!(validV x1)) with h1 | h1
 ·have hzh1 : (validV x1) = false := notT h1
  refine at_regq [{}, {}, { hint := some (aB true) }] { ts := [0, 1, 4, 16], os := [] } [Q_impl_IsValidVector x1, (AV.p (.c (.v (.bool (!(validV x1))))) = AV.p (.c (.v (.bool true))))] gamOK hT h (by kernel_rfl) ⟨(by exact hf1), hint_bool (h1), trivial⟩ fun a w h => then_normal ?_
  refine at_test true h (by kernel_rfl) (fun hh => ?_) (fun hh => nomatch hh)
  refine wp_seq ?_
  refine at_regq [] { ts := [0, 1, 4], os := [] } [] gamOK hT h (by kernel_rfl) trivial fun a w h => then_normal (wp_ret (then_ret ?_))
  exact at_return (0, ()) [] h (by kernel_rfl) trivial (congrArg (fun z => (z, ())) (show (0) = combH x0 x1 from by (unfold combH; first | (rw [if_pos ⟨by assumption, by omega, by assumption⟩]; done) | (rw [if_neg (fun e => by have e1 := e.1; have e2 := e.2.1; have e3 := e.2.2; first | omega | (simp_all; done))]; done))))
 ·have hzh1 : (validV x1) = true := notF h1
  have hvh1 := validV_t (notF h1)
  refine at_regq [{}, {}, { hint := some (aB false) }] { ts := [0, 1, 4, 16], os := [] } [Q_impl_IsValidVector x1, (AV.p (.c (.v (.bool (!(validV x1))))) = AV.p (.c (.v (.bool false))))] gamOK hT h (by kernel_rfl) ⟨(by exact hf1), hint_bool (h1), trivial⟩ fun a w h => then_normal ?_
  refine at_test (!decide (((List.length x0 : Nat) : Int) = ((List.length x1 : Nat) : Int))) h (by kernel_rfl) (fun h2 => ?_) (fun h2 => ?_)
  ·replace h2 : ¬ (((List.length x0 : Nat) : Int) = ((List.length x1 : Nat) : Int)) := of_decide_eq_false (notT h2)
   refine wp_seq ?_
   refine at_regq [] { ts := [0, 1, 4], os := [] } [] gamOK hT h (by kernel_rfl) trivial fun a w h => then_normal (wp_ret (then_ret ?_))
   exact at_return (0, ()) [] h (by kernel_rfl) trivial (congrArg (fun z => (z, ())) (show (0) = combH x0 x1 from by (unfold combH; first | (rw [if_pos ⟨by assumption, by omega, by assumption⟩]; done) | (rw [if_neg (fun e => by have e1 := e.1; have e2 := e.2.1; have e3 := e.2.2; first | omega | (simp_all; done))]; done))))
  ·replace h2 : ((List.length x0 : Nat) : Int) = ((List.length x1 : Nat) : Int) := of_decide_eq_true (notF h2)
   refine wp_skip (then_normal (wp_seq (wp_seq ?_)))
   refine at_regq [] { ts := [0, 1, 4, 17, 18, 19], os := [] } [] gamOK hT h (by kernel_rfl) trivial fun a w h => then_normal (wp_block ?_)
   replace h := at_out (σ' := ⟨[(0, aF (.int 3) x0), (1, aF (.int 3) x1), (4, aI 0), (17, aF (.int 3) x0), (18, aI ((List.length x0 : Nat) : Int)), (19, aI 0)], []⟩) { ts := [0, 1, 4, 17, 18, 19], os := [] } h (by kernel_rfl)
   refine at_loop (fun i : Nat => (⟨[(0, aF (.int 3) x0), (1, aF (.int 3) x1), (4, aI 0), (17, aF (.int 3) x0), (18, aI ((List.length x0 : Nat) : Int)), (19, aI ((i : Nat) : Int))], []⟩ : St)) (fun i => (i ≤ List.length x0 ∧ allTo1 isGrp x0 0 i)) (fun i => List.length x0 - i) (0) h (st_congr1 (fun (d0 : Int) => (⟨[(0, aF (.int 3) x0), (1, aF (.int 3) x1), (4, aI 0), (17, aF (.int 3) x0), (18, aI ((List.length x0 : Nat) : Int)), (19, aI d0)], []⟩ : St)) (show (0 : Int) = (((0) : Nat) : Int) from by first | with_reducible rfl | (rfl) | rfl)) (by exact ⟨Nat.zero_le _, allTo1_zero⟩) ?_
   intro i a w hok0 h
   refine wp_seq ?_
   refine at_regq [] { ts := [0, 1, 4, 17, 18, 19, 20], os := [] } [] gamOK hT h (by kernel_rfl) trivial fun a w h => then_normal (wp_seq ?_)
   refine at_test (decide (((i : Nat) : Int) < ((List.length x0 : Nat) : Int))) h (by kernel_rfl) (fun h3 => ?_) (fun h3 => ?_)
   ·replace h3 : ((i : Nat) : Int) < ((List.length x0 : Nat) : Int) := of_decide_eq_true h3
    refine wp_skip (then_normal (wp_seq (wp_block (wp_seq ?_))))
    refine at_regq [] { ts := [0, 1, 4, 6, 17, 18, 19], os := [] } [(0 : Int) ≤ ((i : Nat) : Int) ∧ ((i : Nat) : Int) < ((List.length x0 : Nat) : Int)] gamOK hT h (by kernel_rfl) ⟨(by refine ⟨?_, ?_⟩ <;> (first | omega | (simp only [lsA]; omega) | (simp <;> omega))), trivial⟩ fun a w h => then_normal (wp_seq ?_)
    refine at_regq [] { ts := [0, 1, 4, 17, 18, 19, 25], os := [] } [True] gamOK hT h (by kernel_rfl) ⟨trivial, trivial⟩ fun a w h => then_normal ?_
    refine at_test (!(isGrp (x0.getD i 0))) h (by kernel_rfl) (fun h4 => ?_) (fun h4 => ?_)
    ·replace h4 : (isGrp (x0.getD i 0)) = false := notT h4
     refine wp_seq ?_
     refine at_regq [] { ts := [0, 1, 4, 17, 18, 19], os := [] } [] gamOK hT h (by kernel_rfl) trivial fun a w h => then_normal (wp_ret (in_ret (then_ret ?_)))
     have hs5 : (List.all x0 isGrp) = false := by exact all_at (z := 0) (i := i) (by omega) (by first | assumption | (simp_all; done))
     refine then_ret (in_ret (then_ret ?_))
     exact at_return (0, ()) [] h (by kernel_rfl) trivial (congrArg (fun z => (z, ())) (show (0) = combH x0 x1 from by (unfold combH; first | (rw [if_pos ⟨by assumption, by omega, by assumption⟩]; done) | (rw [if_neg (fun e => by have e1 := e.1; have e2 := e.2.1; have e3 := e.2.2; first | omega | (simp_all; done))]; done))))
    ·replace h4 : (isGrp (x0.getD i 0)) = true := notF h4
     have hvh4 := isGrp_t h4
     refine wp_skip (in_normal (then_normal ?_))
     refine at_regq [{ nw := true }] { ts := [0, 1, 4, 17, 18, 19], os := [] } [I64 (((i : Nat) : Int) + 1)] gamOK hT h (by kernel_rfl) ⟨⟨by first | omega | (simp only [lsA]; omega) | (simp <;> omega), by first | omega | (simp only [lsA]; omega) | (simp <;> omega)⟩, trivial⟩ fun a w h => ?_
     replace h := at_out (σ' := ⟨[(0, aF (.int 3) x0), (1, aF (.int 3) x1), (4, aI 0), (17, aF (.int 3) x0), (18, aI ((List.length x0 : Nat) : Int)), (19, aI (((i : Nat) : Int) + 1))], []⟩) { ts := [0, 1, 4, 17, 18, 19], os := [] } h (by kernel_rfl)
     exact ⟨i + 1, at_eq h (st_congr1 (fun (d0 : Int) => (⟨[(0, aF (.int 3) x0), (1, aF (.int 3) x1), (4, aI 0), (17, aF (.int 3) x0), (18, aI ((List.length x0 : Nat) : Int)), (19, aI d0)], []⟩ : St)) (show (((i : Nat) : Int) + 1 : Int) = (((i + 1) : Nat) : Int) from by first | with_reducible rfl | (omega) | rfl)), (by exact ⟨by omega, allTo1_succ hok0.2 (by first | assumption | (simp_all; done))⟩), (by omega)⟩
   ·replace h3 : ¬ (((i : Nat) : Int) < ((List.length x0 : Nat) : Int)) := of_decide_eq_false h3
    refine wp_exit (then_exit ?_)
    have hs6 : (List.all x0 isGrp) = true := by exact all_of (z := 0) (i := i) (by omega) hok0.2
    refine then_exit (in_hit (then_normal (wp_seq ?_)))
    refine at_regq [] { ts := [4], os := [] } [Q_impl_powers x0 x1] gamOK hT h (by kernel_rfl) ⟨(by exact ⟨hf0, hf1, by omega, grp_at (List.all_eq_true.1 (by assumption)), (validV_t (by assumption)).2.2⟩), trivial⟩ fun a w h => then_normal (wp_ret ?_)
    exact at_return ((powsL x0 x1), ()) [] h (by kernel_rfl) trivial (congrArg (fun z => (z, ())) (show ((powsL x0 x1)) = combH x0 x1 from by (unfold combH; first | (rw [if_pos ⟨by assumption, by omega, by assumption⟩]; done) | (rw [if_neg (fun e => by have e1 := e.1; have e2 := e.2.1; have e3 := e.2.2; first | omega | (simp_all; done))]; done))))

def verH (x0 : (List Int)) (x1 : (List Int)) (x2 : T42) : Bool := (if (hashV x0 x2.2.2) = 0 then false else decide ((hashV x0 x2.2.2) = (combH x1 x2.2.1)))
abbrev Q_impl_VerifyHash := (fun (x0 : (List Int)) (x1 : (List Int)) (x2 : T42) => Sh.fit s29 x0 ∧ Sh.fit s27 x1 ∧ Sh.fit s42 x2)
def S_impl_VerifyHash : Sum := { fid := 63, dom := [s29, s27, s42], cod := [(.bool 4)], dp := true, fz := false, pre := fun x => Q_impl_VerifyHash x.1 x.2.1 x.2.2.1, g := fun x => ((verH x.1 x.2.1 x.2.2.1), ()) }
def S_impl_VerifyHash_tab : List (Nat × Sum) := [(113, S_impl_HashVector), (114, S_impl_CombineHashes)]
theorem S_impl_VerifyHash_ok : FnOK Try.prog 63 S_impl_VerifyHash := by
 refine at_enter 22 (fun x => ⟨[(0, aG [.ro (.int 3) x.1]), (1, aF (.int 3) x.2.1), (2, aG [cI x.2.2.1.1, .ro (.int 3) x.2.2.1.2.1, .ro (.int 3) x.2.2.1.2.2])], []⟩) Try.func63 rfl (by kernel_rfl) (fun x => rfl) ?_
 rintro w0 Z0 ⟨x0, x1, x2, u⟩ a w
 revert x0 x1 x2
 intro (x0 : (List Int)) (x1 : (List Int)) (x2 : T42) hpre hlens h
 replace hpre : Q_impl_VerifyHash x0 x1 x2 := hpre
 have hT : TabOK Try.prog S_impl_VerifyHash_tab := (.cons S_impl_HashVector_ok (.cons S_impl_CombineHashes_ok .nil))
 obtain ⟨hf0, hf1, hf2⟩ := hpre
 have hn0_1 : List.length x0 ≤ 1073741824 := hf0.1
 have hn1_2 : List.length x1 ≤ 1073741824 := hf1.1
 have hn2_3 : List.length x2.2.1 ≤ 1073741824 := hf2.2.1.1
 have hn2_4 : List.length x2.2.2 ≤ 1073741824 := hf2.2.2.1
 refine wp_seq ?_
 refine at_regq [{ ids := [1] }, { ids := [2] }] { ts := [1, 3, 5, 6], os := [1, 2] } [] gamOK hT h (by kernel_rfl) trivial fun a w h => then_normal (wp_seq ?_)
 refine at_regq [] { ts := [1, 5, 6, 7], os := [2] } [Q_impl_HashVector x0 x2.2.2] gamOK hT h (by kernel_rfl) ⟨(by exact ⟨hf0, hf2.2.2⟩), trivial⟩ fun a w h => then_normal (wp_seq ?_)
 by_cases h1 : (hashV x0 x2.2.2) = 0
 ·refine at_regq [{}, { hint := some (aB false) }] { ts := [6], os := [] } [(AV.p (.c (.v (.bool (!decide ((hashV x0 x2.2.2) = 0))))) = AV.p (.c (.v (.bool false))))] gamOK hT h (by kernel_rfl) ⟨hint_bool (ndT h1), trivial⟩ fun a w h => then_normal (wp_ret ?_)
  exact at_return (false, ()) [] h (by kernel_rfl) trivial (congrArg (fun z => (z, ())) (show (false) = verH x0 x1 x2 from by first | rfl | (unfold verH; rw [if_pos h1])))
 ·refine at_regq [{}, { hint := some (aB true) }] { ts := [6], os := [] } [(AV.p (.c (.v (.bool (!decide ((hashV x0 x2.2.2) = 0))))) = AV.p (.c (.v (.bool true)))), Q_impl_CombineHashes x1 x2.2.1] gamOK hT h (by kernel_rfl) ⟨hint_bool (ndF h1), (by exact ⟨hf1, hf2.2.1⟩), trivial⟩ fun a w h => then_normal (wp_ret ?_)
  exact at_return (decide ((hashV x0 x2.2.2) = (combH x1 x2.2.1)), ()) [] h (by kernel_rfl) trivial (congrArg (fun z => (z, ())) (show (decide ((hashV x0 x2.2.2) = (combH x1 x2.2.1))) = verH x0 x1 x2 from by first | rfl | (unfold verH; rw [if_neg h1])))

def isFmt (x0 : Int) (x1 : Int) (x2 : Int) : Bool := (if (inR x0 0 1000000000000) = true then (if (inR x1 1 8) = true then (inR x2 1 16) else false) else false)
def S_impl_isFormat : Sum := { fid := 52, dom := [(.int 3), (.int 3), (.int 3)], cod := [(.bool 4)], dp := true, fz := false, pre := fun x => True, g := fun x => ((isFmt x.1 x.2.1 x.2.2.1), ()) }
def S_impl_isFormat_tab : List (Nat × Sum) := [(51, S_impl_InRange)]
theorem S_impl_isFormat_ok : FnOK Try.prog 52 S_impl_isFormat := by
 refine at_enter 17 (fun x => ⟨[(0, aI x.1), (1, aI x.2.1), (2, aI x.2.2.1)], []⟩) Try.func52 rfl (by kernel_rfl) (fun x => rfl) ?_
 rintro w0 Z0 ⟨x0, x1, x2, u⟩ a w
 revert x0 x1 x2
 intro (x0 : Int) (x1 : Int) (x2 : Int) hpre hlens h
 have hT : TabOK Try.prog S_impl_isFormat_tab := (.cons S_impl_InRange_ok .nil)
 refine wp_seq ?_
 refine at_regq [] { ts := [0, 1, 2, 6], os := [] } [] gamOK hT h (by kernel_rfl) trivial fun a w h => then_normal (wp_seq ?_)
 rcases Bool.eq_false_or_eq_true ((inR x0 0 1000000000000)) with h1 | h1
 ·have hvh1 := inR_t h1
  rcases Bool.eq_false_or_eq_true ((inR x1 1 8)) with h2 | h2
  ·have hvh2 := inR_t h2
   refine at_regq [{}, { hint := some (aB true) }, {}, {}, { hint := some (aB true) }] { ts := [6], os := [] } [True, (AV.p (.c (.v (.bool ((inR x0 0 1000000000000))))) = AV.p (.c (.v (.bool true)))), True, (AV.p (.c (.v (.bool ((inR x1 1 8))))) = AV.p (.c (.v (.bool true)))), True] gamOK hT h (by kernel_rfl) ⟨trivial, hint_bool (h1), trivial, hint_bool (h2), trivial, trivial⟩ fun a w h => then_normal (wp_ret ?_)
   exact at_return ((inR x2 1 16), ()) [] h (by kernel_rfl) trivial (congrArg (fun z => (z, ())) (show ((inR x2 1 16)) = isFmt x0 x1 x2 from by first | rfl | (unfold isFmt; rw [if_pos h1, if_pos h2])))
  ·have hvh2 := inR_f h2
   refine at_regq [{}, { hint := some (aB true) }, {}, {}, { hint := some (aB false) }] { ts := [6], os := [] } [True, (AV.p (.c (.v (.bool ((inR x0 0 1000000000000))))) = AV.p (.c (.v (.bool true)))), True, (AV.p (.c (.v (.bool ((inR x1 1 8))))) = AV.p (.c (.v (.bool false))))] gamOK hT h (by kernel_rfl) ⟨trivial, hint_bool (h1), trivial, hint_bool (h2), trivial⟩ fun a w h => then_normal (wp_ret ?_)
   exact at_return (false, ()) [] h (by kernel_rfl) trivial (congrArg (fun z => (z, ())) (show (false) = isFmt x0 x1 x2 from by first | rfl | (unfold isFmt; rw [if_pos h1, if_neg (neT h2)])))
 ·have hvh1 := inR_f h1
  refine at_regq [{}, { hint := some (aB false) }] { ts := [6], os := [] } [True, (AV.p (.c (.v (.bool ((inR x0 0 1000000000000))))) = AV.p (.c (.v (.bool false))))] gamOK hT h (by kernel_rfl) ⟨trivial, hint_bool (h1), trivial⟩ fun a w h => then_normal (wp_ret ?_)
  exact at_return (false, ()) [] h (by kernel_rfl) trivial (congrArg (fun z => (z, ())) (show (false) = isFmt x0 x1 x2 from by first | rfl | (unfold isFmt; rw [if_neg (neT h1)])))
theorem isFmt_t {g s w : Int} (h : isFmt g s w = true) : (0 ≤ g ∧ g ≤ 1000000000000) ∧ (1 ≤ s ∧ s ≤ 8) ∧ (1 ≤ w ∧ w ≤ 16) := by
 unfold isFmt at h
 split at h
 ·split at h
  ·exact ⟨inR_t (by assumption), inR_t (by assumption), inR_t h⟩
  ·cases h
 ·cases h

def S_spec_l14Range : Sum := { fid := 126, dom := [(.int 3), (.int 3), (.int 3)], cod := [(.bool 4)], dp := true, fz := false, pre := fun x => True, g := fun x => ((isFmt x.1 x.2.1 x.2.2.1), ()) }
def S_spec_l14Range_tab : List (Nat × Sum) := [(84, S_spec_l1In)]
theorem S_spec_l14Range_ok : FnOK Try.prog 126 S_spec_l14Range := by
 refine at_enter 17 (fun x => ⟨[(0, aI x.1), (1, aI x.2.1), (2, aI x.2.2.1)], []⟩) Try.func126 rfl (by kernel_rfl) (fun x => rfl) ?_
 rintro w0 Z0 ⟨x0, x1, x2, u⟩ a w
 revert x0 x1 x2
 intro (x0 : Int) (x1 : Int) (x2 : Int) hpre hlens h
 have hT : TabOK Try.prog S_spec_l14Range_tab := (.cons S_spec_l1In_ok .nil)
 refine wp_seq ?_
 refine at_regq [] { ts := [0, 1, 2, 6], os := [] } [] gamOK hT h (by kernel_rfl) trivial fun a w h => then_normal (wp_seq ?_)
 rcases Bool.eq_false_or_eq_true ((inR x0 0 1000000000000)) with h1 | h1
 ·have hvh1 := inR_t h1
  rcases Bool.eq_false_or_eq_true ((inR x1 1 8)) with h2 | h2
  ·have hvh2 := inR_t h2
   refine at_regq [{}, { hint := some (aB true) }, {}, {}, { hint := some (aB true) }] { ts := [6], os := [] } [True, (AV.p (.c (.v (.bool ((inR x0 0 1000000000000))))) = AV.p (.c (.v (.bool true)))), True, (AV.p (.c (.v (.bool ((inR x1 1 8))))) = AV.p (.c (.v (.bool true)))), True] gamOK hT h (by kernel_rfl) ⟨trivial, hint_bool (h1), trivial, hint_bool (h2), trivial, trivial⟩ fun a w h => then_normal (wp_ret ?_)
   exact at_return ((inR x2 1 16), ()) [] h (by kernel_rfl) trivial (congrArg (fun z => (z, ())) (show ((inR x2 1 16)) = isFmt x0 x1 x2 from by first | rfl | (unfold isFmt; rw [if_pos h1, if_pos h2]; done) | (unfold isFmt; simp_all)))
  ·have hvh2 := inR_f h2
   refine at_regq [{}, { hint := some (aB true) }, {}, {}, { hint := some (aB false) }] { ts := [6], os := [] } [True, (AV.p (.c (.v (.bool ((inR x0 0 1000000000000))))) = AV.p (.c (.v (.bool true)))), True, (AV.p (.c (.v (.bool ((inR x1 1 8))))) = AV.p (.c (.v (.bool false))))] gamOK hT h (by kernel_rfl) ⟨trivial, hint_bool (h1), trivial, hint_bool (h2), trivial⟩ fun a w h => then_normal (wp_ret ?_)
   exact at_return (false, ()) [] h (by kernel_rfl) trivial (congrArg (fun z => (z, ())) (show (false) = isFmt x0 x1 x2 from by first | rfl | (unfold isFmt; rw [if_pos h1, if_neg (neT h2)]; done) | (unfold isFmt; simp_all)))
 ·have hvh1 := inR_f h1
  refine at_regq [{}, { hint := some (aB false) }] { ts := [6], os := [] } [True, (AV.p (.c (.v (.bool ((inR x0 0 1000000000000))))) = AV.p (.c (.v (.bool false))))] gamOK hT h (by kernel_rfl) ⟨trivial, hint_bool (h1), trivial⟩ fun a w h => then_normal (wp_ret ?_)
  exact at_return (false, ()) [] h (by kernel_rfl) trivial (congrArg (fun z => (z, ())) (show (false) = isFmt x0 x1 x2 from by first | rfl | (unfold isFmt; rw [if_neg (neT h1)]; done) | (unfold isFmt; simp_all)))

def validP (x0 : T42) (x1 : Int) (x2 : Int) : Bool := (if (isFmt x0.1 x1 x2) = true then (if ((List.length x0.2.1 : Nat) : Int) = x1 then (if ((List.length x0.2.2 : Nat) : Int) = x2 then (if (validV x0.2.1) = true then (validV x0.2.2) else false) else false) else false) else false)
abbrev Q_impl_IsValidPacket := (fun (x0 : T42) (x1 : Int) (x2 : Int) => Sh.fit s42 x0)
def S_impl_IsValidPacket : Sum := { fid := 62, dom := [s42, (.int 3), (.int 3)], cod := [(.bool 4)], dp := true, fz := false, pre := fun x => Q_impl_IsValidPacket x.1 x.2.1 x.2.2.1, g := fun x => ((validP x.1 x.2.1 x.2.2.1), ()) }
def S_impl_IsValidPacket_tab : List (Nat × Sum) := [(52, S_impl_isFormat), (112, S_impl_IsValidVector)]
theorem S_impl_IsValidPacket_ok : FnOK Try.prog 62 S_impl_IsValidPacket := by
 refine at_enter 36 (fun x => ⟨[(0, aG [cI x.1.1, .ro (.int 3) x.1.2.1, .ro (.int 3) x.1.2.2]), (1, aI x.2.1), (2, aI x.2.2.1)], []⟩) Try.func62 rfl (by kernel_rfl) (fun x => rfl) ?_
 rintro w0 Z0 ⟨x0, x1, x2, u⟩ a w
 revert x0 x1 x2
 intro (x0 : T42) (x1 : Int) (x2 : Int) hpre hlens h
 replace hpre : Q_impl_IsValidPacket x0 x1 x2 := hpre
 have hT : TabOK Try.prog S_impl_IsValidPacket_tab := (.cons S_impl_isFormat_ok (.cons S_impl_IsValidVector_ok .nil))
 have hf0 : Sh.fit s42 x0 := hpre
 have hn0_1 : List.length x0.2.1 ≤ 1073741824 := hf0.2.1.1
 have hn0_2 : List.length x0.2.2 ≤ 1073741824 := hf0.2.2.1
 refine wp_seq ?_
 refine at_regq [{ ids := [1] }] { ts := [1, 2, 3, 6], os := [1] } [] gamOK hT h (by kernel_rfl) trivial fun a w h => then_normal (wp_seq ?_)
 rcases Bool.eq_false_or_eq_true ((isFmt x0.1 x1 x2)) with h1 | h1
 ·have hvh1 := isFmt_t h1
  by_cases h2 : ((List.length x0.2.1 : Nat) : Int) = x1
  ·by_cases h3 : ((List.length x0.2.2 : Nat) : Int) = x2
   ·rcases Bool.eq_false_or_eq_true ((validV x0.2.1)) with h4 | h4
    ·have hvh4 := validV_t h4
     refine at_regq [{}, {}, {}, {}, { hint := some (aB true) }, {}, {}, {}, {}, {}, { hint := some (aB true) }, {}, {}, {}, {}, {}, {}, { hint := some (aB true) }, {}, {}, {}, {}, { hint := some (aB true) }] { ts := [6], os := [] } [True, (AV.p (.c (.v (.bool ((isFmt x0.1 x1 x2))))) = AV.p (.c (.v (.bool true)))), (AV.p (.c (.v (.bool (decide (((List.length x0.2.1 : Nat) : Int) = x1))))) = AV.p (.c (.v (.bool true)))), (AV.p (.c (.v (.bool (decide (((List.length x0.2.2 : Nat) : Int) = x2))))) = AV.p (.c (.v (.bool true)))), Q_impl_IsValidVector x0.2.1, (AV.p (.c (.v (.bool ((validV x0.2.1))))) = AV.p (.c (.v (.bool true)))), Q_impl_IsValidVector x0.2.2] gamOK hT h (by kernel_rfl) ⟨trivial, hint_bool (h1), hint_bool (decide_eq_true h2), hint_bool (decide_eq_true h3), (by exact hf0.2.1), hint_bool (h4), (by exact hf0.2.2), trivial⟩ fun a w h => then_normal (wp_ret ?_)
     exact at_return ((validV x0.2.2), ()) [] h (by kernel_rfl) trivial (congrArg (fun z => (z, ())) (show ((validV x0.2.2)) = validP x0 x1 x2 from by first | rfl | (unfold validP; rw [if_pos h1, if_pos h2, if_pos h3, if_pos h4])))
    ·refine at_regq [{}, {}, {}, {}, { hint := some (aB true) }, {}, {}, {}, {}, {}, { hint := some (aB true) }, {}, {}, {}, {}, {}, {}, { hint := some (aB true) }, {}, {}, {}, {}, { hint := some (aB false) }] { ts := [6], os := [] } [True, (AV.p (.c (.v (.bool ((isFmt x0.1 x1 x2))))) = AV.p (.c (.v (.bool true)))), (AV.p (.c (.v (.bool (decide (((List.length x0.2.1 : Nat) : Int) = x1))))) = AV.p (.c (.v (.bool true)))), (AV.p (.c (.v (.bool (decide (((List.length x0.2.2 : Nat) : Int) = x2))))) = AV.p (.c (.v (.bool true)))), Q_impl_IsValidVector x0.2.1, (AV.p (.c (.v (.bool ((validV x0.2.1))))) = AV.p (.c (.v (.bool false))))] gamOK hT h (by kernel_rfl) ⟨trivial, hint_bool (h1), hint_bool (decide_eq_true h2), hint_bool (decide_eq_true h3), (by exact hf0.2.1), hint_bool (h4), trivial⟩ fun a w h => then_normal (wp_ret ?_)
     exact at_return (false, ()) [] h (by kernel_rfl) trivial (congrArg (fun z => (z, ())) (show (false) = validP x0 x1 x2 from by first | rfl | (unfold validP; rw [if_pos h1, if_pos h2, if_pos h3, if_neg (neT h4)])))
   ·refine at_regq [{}, {}, {}, {}, { hint := some (aB true) }, {}, {}, {}, {}, {}, { hint := some (aB true) }, {}, {}, {}, {}, {}, {}, { hint := some (aB false) }] { ts := [6], os := [] } [True, (AV.p (.c (.v (.bool ((isFmt x0.1 x1 x2))))) = AV.p (.c (.v (.bool true)))), (AV.p (.c (.v (.bool (decide (((List.length x0.2.1 : Nat) : Int) = x1))))) = AV.p (.c (.v (.bool true)))), (AV.p (.c (.v (.bool (decide (((List.length x0.2.2 : Nat) : Int) = x2))))) = AV.p (.c (.v (.bool false))))] gamOK hT h (by kernel_rfl) ⟨trivial, hint_bool (h1), hint_bool (decide_eq_true h2), hint_bool (decide_eq_false h3), trivial⟩ fun a w h => then_normal (wp_ret ?_)
    exact at_return (false, ()) [] h (by kernel_rfl) trivial (congrArg (fun z => (z, ())) (show (false) = validP x0 x1 x2 from by first | rfl | (unfold validP; rw [if_pos h1, if_pos h2, if_neg h3])))
  ·refine at_regq [{}, {}, {}, {}, { hint := some (aB true) }, {}, {}, {}, {}, {}, { hint := some (aB false) }] { ts := [6], os := [] } [True, (AV.p (.c (.v (.bool ((isFmt x0.1 x1 x2))))) = AV.p (.c (.v (.bool true)))), (AV.p (.c (.v (.bool (decide (((List.length x0.2.1 : Nat) : Int) = x1))))) = AV.p (.c (.v (.bool false))))] gamOK hT h (by kernel_rfl) ⟨trivial, hint_bool (h1), hint_bool (decide_eq_false h2), trivial⟩ fun a w h => then_normal (wp_ret ?_)
   exact at_return (false, ()) [] h (by kernel_rfl) trivial (congrArg (fun z => (z, ())) (show (false) = validP x0 x1 x2 from by first | rfl | (unfold validP; rw [if_pos h1, if_neg h2])))
 ·refine at_regq [{}, {}, {}, {}, { hint := some (aB false) }] { ts := [6], os := [] } [True, (AV.p (.c (.v (.bool ((isFmt x0.1 x1 x2))))) = AV.p (.c (.v (.bool false))))] gamOK hT h (by kernel_rfl) ⟨trivial, hint_bool (h1), trivial⟩ fun a w h => then_normal (wp_ret ?_)
  exact at_return (false, ()) [] h (by kernel_rfl) trivial (congrArg (fun z => (z, ())) (show (false) = validP x0 x1 x2 from by first | rfl | (unfold validP; rw [if_neg (neT h1)])))
theorem validP_t {p : T42} {s w : Int} (h : validP p s w = true) : isFmt p.1 s w = true ∧ ((List.length p.2.1 : Nat) : Int) = s ∧ ((List.length p.2.2 : Nat) : Int) = w ∧ validV p.2.1 = true ∧ validV p.2.2 = true := by
 unfold validP at h
 split at h
 ·split at h
  ·split at h
   ·split at h
    ·exact ⟨by assumption, by assumption, by assumption, by assumption, h⟩
    ·cases h
   ·cases h
  ·cases h
 ·cases h
theorem validP_n {p : T42} {s w : Int} (h : validP p s w = true) : ((0 ≤ p.1 ∧ p.1 ≤ 1000000000000) ∧ (1 ≤ s ∧ s ≤ 8) ∧ (1 ≤ w ∧ w ≤ 16)) ∧ ((List.length p.2.1 : Nat) : Int) = s ∧ ((List.length p.2.2 : Nat) : Int) = w := ⟨isFmt_t (validP_t h).1, (validP_t h).2.1, (validP_t h).2.2.1⟩
theorem validP_of {p : T42} {s w : Int} (h : isFmt p.1 s w = true ∧ ((List.length p.2.1 : Nat) : Int) = s ∧ ((List.length p.2.2 : Nat) : Int) = w ∧ validV p.2.1 = true ∧ validV p.2.2 = true) : validP p s w = true := by
 unfold validP; rw [if_pos h.1, if_pos h.2.1, if_pos h.2.2.1, if_pos h.2.2.2.1]; exact h.2.2.2.2

def D_impl_IsValidManifest_1 := (fun e => !isGrp e)
def S_impl_IsValidManifest_1 : Sum := { fid := 54, dom := [(.int 3)], cod := [(.bool 4)], dp := true, fz := false, pre := fun x => True, g := fun x => ((D_impl_IsValidManifest_1 x.1), ()) }
def S_impl_IsValidManifest_1_tab : List (Nat × Sum) := [(55, S_impl_IsGroupElement)]
theorem S_impl_IsValidManifest_1_ok : FnOK Try.prog 54 S_impl_IsValidManifest_1 := by
 refine at_enter 6 (fun x => ⟨[(0, aI x.1)], []⟩) Try.func54 rfl (by kernel_rfl) (fun x => rfl) ?_
 rintro w0 Z0 ⟨x0, u⟩ a w
 revert x0
 intro (x0 : Int) hpre hlens h
 have hT : TabOK Try.prog S_impl_IsValidManifest_1_tab := (.cons S_impl_IsGroupElement_ok .nil)
 refine wp_seq ?_
 refine at_regq [] { ts := [0, 2], os := [] } [] gamOK hT h (by kernel_rfl) trivial fun a w h => then_normal (wp_seq ?_)
 refine at_regq [] { ts := [2], os := [] } [True] gamOK hT h (by kernel_rfl) ⟨trivial, trivial⟩ fun a w h => then_normal (wp_ret ?_)
 exact at_return (!(isGrp x0), ()) [] h (by kernel_rfl) trivial (congrArg (fun z => (z, ())) (show (!(isGrp x0)) = D_impl_IsValidManifest_1 x0 from by unfold D_impl_IsValidManifest_1; rfl))

def D_slices_IndexFunc_S_int_int__IsValidManifest_1 := (fun (xs : List Int) (cap : Unit) => idxF (fun e => !isGrp e) xs)
def S_slices_IndexFunc_S_int_int__IsValidManifest_1 : Sum := { fid := 91, dom := [s27, (.fn0 54)], cod := [(.int 3)], dp := true, fz := false, pre := fun x => True, g := fun x => ((D_slices_IndexFunc_S_int_int__IsValidManifest_1 x.1 x.2.1), ()) }
def S_slices_IndexFunc_S_int_int__IsValidManifest_1_tab : List (Nat × Sum) := [(54, S_impl_IsValidManifest_1)]
theorem S_slices_IndexFunc_S_int_int__IsValidManifest_1_ok : FnOK Try.prog 91 S_slices_IndexFunc_S_int_int__IsValidManifest_1 := by
 refine at_enter 19 (fun x => ⟨[(0, aF (.int 3) x.1), (1, .p (.c (.cl 54 .cnil)))], []⟩) Try.func91 rfl (by kernel_rfl) (fun x => rfl) ?_
 rintro w0 Z0 ⟨x0, x1, u⟩ a w
 revert x0 x1
 intro (x0 : (List Int)) (x1 : Unit) hpre hlens h
 have hl1 : List.length x0 ≤ 9223372036854775807 := hlens.1.1
 have hT : TabOK Try.prog S_slices_IndexFunc_S_int_int__IsValidManifest_1_tab := (.cons S_impl_IsValidManifest_1_ok .nil)
 refine wp_seq ?_
 refine at_regq [] { ts := [0, 1, 4], os := [] } [] gamOK hT h (by kernel_rfl) trivial fun a w h => then_normal (wp_seq (wp_seq ?_))
 refine at_regq [] { ts := [0, 1, 4, 7, 8], os := [] } [] gamOK hT h (by kernel_rfl) trivial fun a w h => then_normal (wp_block ?_)
 replace h := at_out (σ' := ⟨[(0, aF (.int 3) x0), (1, .p (.c (.cl 54 .cnil))), (4, aI 0), (7, aI ((List.length x0 : Nat) : Int)), (8, aI 0)], []⟩) { ts := [0, 1, 4, 7, 8], os := [] } h (by kernel_rfl)
 refine at_loop (fun i : Nat => (⟨[(0, aF (.int 3) x0), (1, .p (.c (.cl 54 .cnil))), (4, aI 0), (7, aI ((List.length x0 : Nat) : Int)), (8, aI ((i : Nat) : Int))], []⟩ : St)) (fun i => (i ≤ List.length x0 ∧ noneTo (fun e => !isGrp e) x0 0 i)) (fun i => List.length x0 - i) (0) h (st_congr1 (fun (d0 : Int) => (⟨[(0, aF (.int 3) x0), (1, .p (.c (.cl 54 .cnil))), (4, aI 0), (7, aI ((List.length x0 : Nat) : Int)), (8, aI d0)], []⟩ : St)) (show (0 : Int) = (((0) : Nat) : Int) from by first | with_reducible rfl | (rfl) | rfl)) (by exact ⟨Nat.zero_le _, noneTo_zero⟩) ?_
 intro i a w hok0 h
 refine wp_seq ?_
 refine at_regq [] { ts := [0, 1, 4, 7, 8, 9], os := [] } [] gamOK hT h (by kernel_rfl) trivial fun a w h => then_normal (wp_seq ?_)
 refine at_test (decide (((i : Nat) : Int) < ((List.length x0 : Nat) : Int))) h (by kernel_rfl) (fun h1 => ?_) (fun h1 => ?_)
 ·replace h1 : ((i : Nat) : Int) < ((List.length x0 : Nat) : Int) := of_decide_eq_true h1
  refine wp_skip (then_normal (wp_seq (wp_block (wp_seq ?_))))
  refine at_regq [] { ts := [0, 1, 4, 5, 7, 8], os := [] } [] gamOK hT h (by kernel_rfl) trivial fun a w h => then_normal (wp_seq ?_)
  refine at_regq [] { ts := [0, 1, 4, 5, 7, 8, 16], os := [] } [(0 : Int) ≤ ((i : Nat) : Int) ∧ ((i : Nat) : Int) < ((List.length x0 : Nat) : Int), True] gamOK hT h (by kernel_rfl) ⟨(by refine ⟨?_, ?_⟩ <;> (first | omega | (simp only [lsA]; omega) | (simp <;> omega))), trivial, trivial⟩ fun a w h => then_normal ?_
  refine at_test ((D_impl_IsValidManifest_1 (x0.getD i 0))) h (by kernel_rfl) (fun h2 => ?_) (fun h2 => ?_)
  ·refine wp_seq ?_
   refine at_regq [] { ts := [0, 1, 4, 7, 8], os := [] } [] gamOK hT h (by kernel_rfl) trivial fun a w h => then_normal (wp_ret (in_ret (then_ret (then_ret (in_ret (then_ret ?_))))))
   exact at_return (((i : Nat) : Int), ()) [] h (by kernel_rfl) trivial (congrArg (fun z => (z, ())) (show (((i : Nat) : Int)) = D_slices_IndexFunc_S_int_int__IsValidManifest_1 x0 x1 from by unfold D_slices_IndexFunc_S_int_int__IsValidManifest_1; exact (idxF_at (z := 0) (by omega) hok0.2 h2).symm))
  ·refine wp_skip (in_normal (then_normal ?_))
   refine at_regq [{ nw := true }] { ts := [0, 1, 4, 7, 8], os := [] } [I64 (((i : Nat) : Int) + 1)] gamOK hT h (by kernel_rfl) ⟨⟨by first | omega | (simp only [lsA]; omega) | (simp <;> omega), by first | omega | (simp only [lsA]; omega) | (simp <;> omega)⟩, trivial⟩ fun a w h => ?_
   replace h := at_out (σ' := ⟨[(0, aF (.int 3) x0), (1, .p (.c (.cl 54 .cnil))), (4, aI 0), (7, aI ((List.length x0 : Nat) : Int)), (8, aI (((i : Nat) : Int) + 1))], []⟩) { ts := [0, 1, 4, 7, 8], os := [] } h (by kernel_rfl)
   exact ⟨i + 1, at_eq h (st_congr1 (fun (d0 : Int) => (⟨[(0, aF (.int 3) x0), (1, .p (.c (.cl 54 .cnil))), (4, aI 0), (7, aI ((List.length x0 : Nat) : Int)), (8, aI d0)], []⟩ : St)) (show (((i : Nat) : Int) + 1 : Int) = (((i + 1) : Nat) : Int) from by first | with_reducible rfl | (omega) | rfl)), (by exact ⟨by omega, noneTo_succ hok0.2 h2⟩), (by omega)⟩
 ·replace h1 : ¬ (((i : Nat) : Int) < ((List.length x0 : Nat) : Int)) := of_decide_eq_false h1
  refine wp_exit (then_exit (then_exit (in_hit (then_normal (wp_seq ?_)))))
  refine at_regq [] { ts := [4], os := [] } [] gamOK hT h (by kernel_rfl) trivial fun a w h => then_normal (wp_ret ?_)
  exact at_return ((-1), ()) [] h (by kernel_rfl) trivial (congrArg (fun z => (z, ())) (show ((-1)) = D_slices_IndexFunc_S_int_int__IsValidManifest_1 x0 x1 from by unfold D_slices_IndexFunc_S_int_int__IsValidManifest_1; exact (idxF_none (z := 0) (by omega) hok0.2).symm))

def D_slices_ContainsFunc_S_int_int__IsValidManifest_1 := (fun (xs : List Int) (cap : Unit) => xs.any fun e => !isGrp e)
def S_slices_ContainsFunc_S_int_int__IsValidManifest_1 : Sum := { fid := 53, dom := [s27, (.fn0 54)], cod := [(.bool 4)], dp := true, fz := false, pre := fun x => True, g := fun x => ((D_slices_ContainsFunc_S_int_int__IsValidManifest_1 x.1 x.2.1), ()) }
def S_slices_ContainsFunc_S_int_int__IsValidManifest_1_tab : List (Nat × Sum) := [(100007, S_slices_IndexFunc_S_int_int__IsValidManifest_1)]
theorem S_slices_ContainsFunc_S_int_int__IsValidManifest_1_ok : FnOK Try.prog 53 S_slices_ContainsFunc_S_int_int__IsValidManifest_1 := by
 refine at_enter 9 (fun x => ⟨[(0, aF (.int 3) x.1), (1, .p (.c (.cl 54 .cnil)))], []⟩) Try.func53 rfl (by kernel_rfl) (fun x => rfl) ?_
 rintro w0 Z0 ⟨x0, x1, u⟩ a w
 revert x0 x1
 intro (x0 : (List Int)) (x1 : Unit) hpre hlens h
 have hl1 : List.length x0 ≤ 9223372036854775807 := hlens.1.1
 have hT : TabOK Try.prog S_slices_ContainsFunc_S_int_int__IsValidManifest_1_tab := (.cons S_slices_IndexFunc_S_int_int__IsValidManifest_1_ok .nil)
 refine wp_seq ?_
 refine at_regq [] { ts := [0, 1, 4], os := [] } [] gamOK hT h (by kernel_rfl) trivial fun a w h => then_normal (wp_seq ?_)
 refine at_regq [{}, {}, { key := some 100007 }] { ts := [4], os := [] } [True] gamOK hT h (by kernel_rfl) ⟨trivial, trivial⟩ fun a w h => then_normal (wp_ret ?_)
 exact at_return (decide ((D_slices_IndexFunc_S_int_int__IsValidManifest_1 x0 ()) ≥ 0), ()) [] h (by kernel_rfl) trivial (congrArg (fun z => (z, ())) (show (decide ((D_slices_IndexFunc_S_int_int__IsValidManifest_1 x0 ()) ≥ 0)) = D_slices_ContainsFunc_S_int_int__IsValidManifest_1 x0 x1 from by unfold D_slices_ContainsFunc_S_int_int__IsValidManifest_1; exact idxF_any))

def validMan (x0 : T31) : Bool := (if (inR x0.1 0 7) = true then (if (isFmt x0.2.1 x0.2.2.1 x0.2.2.2.1) = true then (if ((List.length x0.2.2.2.2.1 : Nat) : Int) = x0.2.2.1 then (if (List.all x0.2.2.2.2.1 isGrp) = true then (inR x0.2.2.2.2.2 0 2147483646) else false) else false) else false) else false)
abbrev Q_spec_IsValidManifest := (fun (x0 : T31) => Sh.fit s31 x0)
def S_spec_IsValidManifest : Sum := { fid := 76, dom := [s31], cod := [(.bool 4)], dp := true, fz := false, pre := fun x => Q_spec_IsValidManifest x.1, g := fun x => ((validMan x.1), ()) }
def S_spec_IsValidManifest_tab : List (Nat × Sum) := [(84, S_spec_l1In), (126, S_spec_l14Range), (127, S_spec_IsGroupElement)]
theorem S_spec_IsValidManifest_ok : FnOK Try.prog 76 S_spec_IsValidManifest := by
 refine at_enter 43 (fun x => ⟨[(0, aG [cI x.1.1, cI x.1.2.1, cI x.1.2.2.1, cI x.1.2.2.2.1, .ro (.int 3) x.1.2.2.2.2.1, cI x.1.2.2.2.2.2])], []⟩) Try.func76 rfl (by kernel_rfl) (fun x => rfl) ?_
 rintro w0 Z0 ⟨x0, u⟩ a w
 revert x0
 intro (x0 : T31) hpre hlens h
 replace hpre : Q_spec_IsValidManifest x0 := hpre
 have hT : TabOK Try.prog S_spec_IsValidManifest_tab := (.cons S_spec_l1In_ok (.cons S_spec_l14Range_ok (.cons S_spec_IsGroupElement_ok .nil)))
 have hf0 : Sh.fit s31 x0 := hpre
 have hn0_1 : List.length x0.2.2.2.2.1 ≤ 1073741824 := hf0.2.2.2.2.1.1
 refine wp_seq ?_
 refine at_regq [{ ids := [1] }] { ts := [1, 2], os := [1] } [] gamOK hT h (by kernel_rfl) trivial fun a w h => then_normal (wp_seq (wp_seq ?_))
 rcases Bool.eq_false_or_eq_true (!(inR x0.1 0 7)) with h1 | h1
 ·have hzh1 : (inR x0.1 0 7) = false := notT h1
  have hvh1 := inR_f (notT h1)
  refine at_regq [{}, {}, {}, { hint := some (aB true) }] { ts := [1, 2, 25], os := [1] } [True, (AV.p (.c (.v (.bool (!(inR x0.1 0 7))))) = AV.p (.c (.v (.bool true))))] gamOK hT h (by kernel_rfl) ⟨trivial, hint_bool (h1), trivial⟩ fun a w h => then_normal ?_
  refine at_test true h (by kernel_rfl) (fun hh => ?_) (fun hh => nomatch hh)
  refine wp_seq ?_
  refine at_regq [] { ts := [1, 2], os := [1] } [] gamOK hT h (by kernel_rfl) trivial fun a w h => then_normal (wp_ret (then_ret ?_))
  exact at_return (false, ()) [] h (by kernel_rfl) trivial (congrArg (fun z => (z, ())) (show (false) = validMan x0 from by first | rfl | (unfold validMan; rw [if_neg (neT (notT h1))])))
 ·have hzh1 : (inR x0.1 0 7) = true := notF h1
  have hvh1 := inR_t (notF h1)
  rcases Bool.eq_false_or_eq_true (!(isFmt x0.2.1 x0.2.2.1 x0.2.2.2.1)) with h2 | h2
  ·have hzh2 : (isFmt x0.2.1 x0.2.2.1 x0.2.2.2.1) = false := notT h2
   refine at_regq [{}, {}, {}, { hint := some (aB false) }, {}, {}, {}, {}, {}, {}, {}, {}, { hint := some (aB true) }] { ts := [1, 2, 25], os := [1] } [True, (AV.p (.c (.v (.bool (!(inR x0.1 0 7))))) = AV.p (.c (.v (.bool false)))), True, (AV.p (.c (.v (.bool (!(isFmt x0.2.1 x0.2.2.1 x0.2.2.2.1))))) = AV.p (.c (.v (.bool true))))] gamOK hT h (by kernel_rfl) ⟨trivial, hint_bool (h1), trivial, hint_bool (h2), trivial⟩ fun a w h => then_normal ?_
   refine at_test true h (by kernel_rfl) (fun hh => ?_) (fun hh => nomatch hh)
   refine wp_seq ?_
   refine at_regq [] { ts := [1, 2], os := [1] } [] gamOK hT h (by kernel_rfl) trivial fun a w h => then_normal (wp_ret (then_ret ?_))
   exact at_return (false, ()) [] h (by kernel_rfl) trivial (congrArg (fun z => (z, ())) (show (false) = validMan x0 from by first | rfl | (unfold validMan; rw [if_pos (notF h1), if_neg (neT (notT h2))])))
  ·have hzh2 : (isFmt x0.2.1 x0.2.2.1 x0.2.2.2.1) = true := notF h2
   have hvh2 := isFmt_t (notF h2)
   refine at_regq [{}, {}, {}, { hint := some (aB false) }, {}, {}, {}, {}, {}, {}, {}, {}, { hint := some (aB false) }] { ts := [1, 2, 25], os := [1] } [True, (AV.p (.c (.v (.bool (!(inR x0.1 0 7))))) = AV.p (.c (.v (.bool false)))), True, (AV.p (.c (.v (.bool (!(isFmt x0.2.1 x0.2.2.1 x0.2.2.2.1))))) = AV.p (.c (.v (.bool false))))] gamOK hT h (by kernel_rfl) ⟨trivial, hint_bool (h1), trivial, hint_bool (h2), trivial⟩ fun a w h => then_normal ?_
   refine at_test (!decide (((List.length x0.2.2.2.2.1 : Nat) : Int) = x0.2.2.1)) h (by kernel_rfl) (fun h3 => ?_) (fun h3 => ?_)
   ·replace h3 : ¬ (((List.length x0.2.2.2.2.1 : Nat) : Int) = x0.2.2.1) := of_decide_eq_false (notT h3)
    refine wp_seq ?_
    refine at_regq [] { ts := [1, 2], os := [1] } [] gamOK hT h (by kernel_rfl) trivial fun a w h => then_normal (wp_ret (then_ret ?_))
    exact at_return (false, ()) [] h (by kernel_rfl) trivial (congrArg (fun z => (z, ())) (show (false) = validMan x0 from by first | rfl | (unfold validMan; rw [if_pos (notF h1), if_pos (notF h2), if_neg h3])))
   ·replace h3 : ((List.length x0.2.2.2.2.1 : Nat) : Int) = x0.2.2.1 := of_decide_eq_true (notF h3)
    refine wp_skip (then_normal (wp_seq (wp_seq ?_)))
    refine at_regq [] { ts := [1, 2, 3], os := [1] } [] gamOK hT h (by kernel_rfl) trivial fun a w h => then_normal (wp_block ?_)
    replace h := at_out (σ' := ⟨[(1, aP 1 0), (2, aB false), (3, aI 0)], [(1, oX 31 [cI x0.1, cI x0.2.1, cI x0.2.2.1, cI x0.2.2.2.1, .ro (.int 3) x0.2.2.2.2.1, cI x0.2.2.2.2.2])]⟩) { ts := [1, 2, 3], os := [1] } h (by kernel_rfl)
    refine at_loop (fun i : Nat => (⟨[(1, aP 1 0), (2, aB false), (3, aI ((i : Nat) : Int))], [(1, oX 31 [cI x0.1, cI x0.2.1, cI x0.2.2.1, cI x0.2.2.2.1, .ro (.int 3) x0.2.2.2.2.1, cI x0.2.2.2.2.2])]⟩ : St)) (fun i => (i ≤ List.length x0.2.2.2.2.1 ∧ allTo1 isGrp x0.2.2.2.2.1 0 i)) (fun i => List.length x0.2.2.2.2.1 - i) (0) h (st_congr1 (fun (d0 : Int) => (⟨[(1, aP 1 0), (2, aB false), (3, aI d0)], [(1, oX 31 [cI x0.1, cI x0.2.1, cI x0.2.2.1, cI x0.2.2.2.1, .ro (.int 3) x0.2.2.2.2.1, cI x0.2.2.2.2.2])]⟩ : St)) (show (0 : Int) = (((0) : Nat) : Int) from by first | with_reducible rfl | (rfl) | rfl)) (by exact ⟨Nat.zero_le _, allTo1_zero⟩) ?_
    intro i a w hok0 h
    refine wp_seq (wp_seq ?_)
    refine at_regq [] { ts := [1, 2, 3, 30], os := [1] } [] gamOK hT h (by kernel_rfl) trivial fun a w h => then_normal ?_
    refine at_test (decide (((i : Nat) : Int) < ((List.length x0.2.2.2.2.1 : Nat) : Int))) h (by kernel_rfl) (fun h4 => ?_) (fun h4 => ?_)
    ·replace h4 : ((i : Nat) : Int) < ((List.length x0.2.2.2.2.1 : Nat) : Int) := of_decide_eq_true h4
     refine wp_skip (then_normal (wp_seq (wp_block (wp_seq ?_))))
     refine at_regq [] { ts := [1, 2, 3, 39], os := [1] } [(0 : Int) ≤ ((i : Nat) : Int) ∧ ((i : Nat) : Int) < ((List.length x0.2.2.2.2.1 : Nat) : Int), True] gamOK hT h (by kernel_rfl) ⟨(by refine ⟨?_, ?_⟩ <;> (first | omega | (simp only [lsA]; omega) | (simp <;> omega))), trivial, trivial⟩ fun a w h => then_normal ?_
     refine at_test (!(isGrp (x0.2.2.2.2.1.getD i 0))) h (by kernel_rfl) (fun h5 => ?_) (fun h5 => ?_)
     ·replace h5 : (isGrp (x0.2.2.2.2.1.getD i 0)) = false := notT h5
      refine wp_seq ?_
      refine at_regq [] { ts := [1, 2, 3], os := [1] } [] gamOK hT h (by kernel_rfl) trivial fun a w h => then_normal (wp_ret (in_ret (then_ret ?_)))
      have hs6 : (List.all x0.2.2.2.2.1 isGrp) = false := by exact all_at (z := 0) (i := i) (by omega) (by first | assumption | (simp_all; done))
      refine then_ret (in_ret (then_ret ?_))
      exact at_return (false, ()) [] h (by kernel_rfl) trivial (congrArg (fun z => (z, ())) (show (false) = validMan x0 from by first | rfl | (unfold validMan; rw [if_pos (notF h1), if_pos (notF h2), if_pos h3, if_neg (neT hs6)])))
     ·replace h5 : (isGrp (x0.2.2.2.2.1.getD i 0)) = true := notF h5
      have hvh5 := isGrp_t h5
      refine wp_skip (in_normal (then_normal ?_))
      refine at_regq [{}, { nw := true }] { ts := [1, 2, 3], os := [1] } [I64 (((i : Nat) : Int) + 1)] gamOK hT h (by kernel_rfl) ⟨⟨by first | omega | (simp only [lsA]; omega) | (simp <;> omega), by first | omega | (simp only [lsA]; omega) | (simp <;> omega)⟩, trivial⟩ fun a w h => ?_
      replace h := at_out (σ' := ⟨[(1, aP 1 0), (2, aB false), (3, aI (((i : Nat) : Int) + 1))], [(1, oX 31 [cI x0.1, cI x0.2.1, cI x0.2.2.1, cI x0.2.2.2.1, .ro (.int 3) x0.2.2.2.2.1, cI x0.2.2.2.2.2])]⟩) { ts := [1, 2, 3], os := [1] } h (by kernel_rfl)
      exact ⟨i + 1, at_eq h (st_congr1 (fun (d0 : Int) => (⟨[(1, aP 1 0), (2, aB false), (3, aI d0)], [(1, oX 31 [cI x0.1, cI x0.2.1, cI x0.2.2.1, cI x0.2.2.2.1, .ro (.int 3) x0.2.2.2.2.1, cI x0.2.2.2.2.2])]⟩ : St)) (show (((i : Nat) : Int) + 1 : Int) = (((i + 1) : Nat) : Int) from by first | with_reducible rfl | (omega) | rfl)), (by exact ⟨by omega, allTo1_succ hok0.2 (by first | assumption | (simp_all; done))⟩), (by omega)⟩
    ·replace h4 : ¬ (((i : Nat) : Int) < ((List.length x0.2.2.2.2.1 : Nat) : Int)) := of_decide_eq_false h4
     refine wp_exit (then_exit ?_)
     have hs7 : (List.all x0.2.2.2.2.1 isGrp) = true := by exact all_of (z := 0) (i := i) (by omega) hok0.2
     refine then_exit (in_hit (then_normal (wp_seq ?_)))
     refine at_regq [] { ts := [2], os := [] } [True] gamOK hT h (by kernel_rfl) ⟨trivial, trivial⟩ fun a w h => then_normal (wp_ret ?_)
     exact at_return ((inR x0.2.2.2.2.2 0 2147483646), ()) [] h (by kernel_rfl) trivial (congrArg (fun z => (z, ())) (show ((inR x0.2.2.2.2.2 0 2147483646)) = validMan x0 from by first | rfl | (unfold validMan; rw [if_pos (notF h1), if_pos (notF h2), if_pos h3, if_pos hs7])))
theorem validMan_len {m : T31} (h : validMan m = true) : 1 ≤ List.length m.2.2.2.2.1 := by
 unfold validMan at h
 repeat' (split at h)
 all_goals first | (cases h; done) | (have := isFmt_t (by assumption); omega) | (exfalso; revert h; decide) | skip

abbrev Q_impl_IsValidManifest := (fun (x0 : T31) => Sh.fit s31 x0)
def S_impl_IsValidManifest : Sum := { fid := 12, dom := [s31], cod := [(.bool 4)], dp := true, fz := false, pre := fun x => Q_impl_IsValidManifest x.1, g := fun x => ((validMan x.1), ()) }
def S_impl_IsValidManifest_tab : List (Nat × Sum) := [(51, S_impl_InRange), (52, S_impl_isFormat), (100008, S_slices_ContainsFunc_S_int_int__IsValidManifest_1)]
theorem S_impl_IsValidManifest_ok : FnOK Try.prog 12 S_impl_IsValidManifest := by
 refine at_enter 35 (fun x => ⟨[(0, aG [cI x.1.1, cI x.1.2.1, cI x.1.2.2.1, cI x.1.2.2.2.1, .ro (.int 3) x.1.2.2.2.2.1, cI x.1.2.2.2.2.2])], []⟩) Try.func12 rfl (by kernel_rfl) (fun x => rfl) ?_
 rintro w0 Z0 ⟨x0, u⟩ a w
 revert x0
 intro (x0 : T31) hpre hlens h
 replace hpre : Q_impl_IsValidManifest x0 := hpre
 have hT : TabOK Try.prog S_impl_IsValidManifest_tab := (.cons S_impl_InRange_ok (.cons S_impl_isFormat_ok (.cons S_slices_ContainsFunc_S_int_int__IsValidManifest_1_ok .nil)))
 have hf0 : Sh.fit s31 x0 := hpre
 have hn0_1 : List.length x0.2.2.2.2.1 ≤ 1073741824 := hf0.2.2.2.2.1.1
 refine wp_seq ?_
 refine at_regq [{ ids := [1] }] { ts := [1, 2], os := [1] } [] gamOK hT h (by kernel_rfl) trivial fun a w h => then_normal (wp_seq (wp_seq ?_))
 rcases Bool.eq_false_or_eq_true (!(inR x0.1 0 7)) with h1 | h1
 ·have hzh1 : (inR x0.1 0 7) = false := notT h1
  have hvh1 := inR_f (notT h1)
  refine at_regq [{}, {}, {}, { hint := some (aB true) }] { ts := [1, 2, 30], os := [1] } [True, (AV.p (.c (.v (.bool (!(inR x0.1 0 7))))) = AV.p (.c (.v (.bool true))))] gamOK hT h (by kernel_rfl) ⟨trivial, hint_bool (h1), trivial⟩ fun a w h => then_normal ?_
  refine at_test true h (by kernel_rfl) (fun hh => ?_) (fun hh => nomatch hh)
  refine wp_seq ?_
  refine at_regq [] { ts := [1, 2], os := [1] } [] gamOK hT h (by kernel_rfl) trivial fun a w h => then_normal (wp_ret (then_ret ?_))
  exact at_return (false, ()) [] h (by kernel_rfl) trivial (congrArg (fun z => (z, ())) (show (false) = validMan x0 from by first | rfl | (unfold validMan; rw [if_neg (neT (notT h1))]; done) | (unfold validMan; (repeat (first | rfl | split)) <;> (first | rfl | omega | (simp_all [-List.all_eq_true, -List.any_eq_true, -List.all_eq_false, -List.any_eq_false, D_slices_ContainsFunc_S_int_int__IsValidManifest_1, any_not]; done) | (simp_all [-List.all_eq_true, -List.any_eq_true, -List.all_eq_false, -List.any_eq_false, D_slices_ContainsFunc_S_int_int__IsValidManifest_1, any_not]; omega) | (exfalso; simp_all [-List.all_eq_true, -List.any_eq_true, -List.all_eq_false, -List.any_eq_false, D_slices_ContainsFunc_S_int_int__IsValidManifest_1, any_not]; omega)))))
 ·have hzh1 : (inR x0.1 0 7) = true := notF h1
  have hvh1 := inR_t (notF h1)
  rcases Bool.eq_false_or_eq_true (!(isFmt x0.2.1 x0.2.2.1 x0.2.2.2.1)) with h2 | h2
  ·have hzh2 : (isFmt x0.2.1 x0.2.2.1 x0.2.2.2.1) = false := notT h2
   refine at_regq [{}, {}, {}, { hint := some (aB false) }, {}, {}, {}, {}, {}, {}, {}, {}, { hint := some (aB true) }] { ts := [1, 2, 30], os := [1] } [True, (AV.p (.c (.v (.bool (!(inR x0.1 0 7))))) = AV.p (.c (.v (.bool false)))), True, (AV.p (.c (.v (.bool (!(isFmt x0.2.1 x0.2.2.1 x0.2.2.2.1))))) = AV.p (.c (.v (.bool true))))] gamOK hT h (by kernel_rfl) ⟨trivial, hint_bool (h1), trivial, hint_bool (h2), trivial⟩ fun a w h => then_normal ?_
   refine at_test true h (by kernel_rfl) (fun hh => ?_) (fun hh => nomatch hh)
   refine wp_seq ?_
   refine at_regq [] { ts := [1, 2], os := [1] } [] gamOK hT h (by kernel_rfl) trivial fun a w h => then_normal (wp_ret (then_ret ?_))
   exact at_return (false, ()) [] h (by kernel_rfl) trivial (congrArg (fun z => (z, ())) (show (false) = validMan x0 from by first | rfl | (unfold validMan; rw [if_pos (notF h1), if_neg (neT (notT h2))]; done) | (unfold validMan; (repeat (first | rfl | split)) <;> (first | rfl | omega | (simp_all [-List.all_eq_true, -List.any_eq_true, -List.all_eq_false, -List.any_eq_false, D_slices_ContainsFunc_S_int_int__IsValidManifest_1, any_not]; done) | (simp_all [-List.all_eq_true, -List.any_eq_true, -List.all_eq_false, -List.any_eq_false, D_slices_ContainsFunc_S_int_int__IsValidManifest_1, any_not]; omega) | (exfalso; simp_all [-List.all_eq_true, -List.any_eq_true, -List.all_eq_false, -List.any_eq_false, D_slices_ContainsFunc_S_int_int__IsValidManifest_1, any_not]; omega)))))
  ·have hzh2 : (isFmt x0.2.1 x0.2.2.1 x0.2.2.2.1) = true := notF h2
   have hvh2 := isFmt_t (notF h2)
   by_cases h3 : ((List.length x0.2.2.2.2.1 : Nat) : Int) = x0.2.2.1
   ·refine at_regq [{}, {}, {}, { hint := some (aB false) }, {}, {}, {}, {}, {}, {}, {}, {}, { hint := some (aB false) }, {}, {}, {}, {}, {}, {}, {}, { hint := some (aB false) }] { ts := [1, 2, 30], os := [1] } [True, (AV.p (.c (.v (.bool (!(inR x0.1 0 7))))) = AV.p (.c (.v (.bool false)))), True, (AV.p (.c (.v (.bool (!(isFmt x0.2.1 x0.2.2.1 x0.2.2.2.1))))) = AV.p (.c (.v (.bool false)))), (AV.p (.c (.v (.bool (!decide (((List.length x0.2.2.2.2.1 : Nat) : Int) = x0.2.2.1))))) = AV.p (.c (.v (.bool false)))), True] gamOK hT h (by kernel_rfl) ⟨trivial, hint_bool (h1), trivial, hint_bool (h2), hint_bool (ndT h3), trivial, trivial⟩ fun a w h => then_normal ?_
    refine at_test (!(inR x0.2.2.2.2.2 0 2147483646)) h (by kernel_rfl) (fun h4 => ?_) (fun h4 => ?_)
    ·replace h4 : (inR x0.2.2.2.2.2 0 2147483646) = false := notT h4
     have hvh4 := inR_f h4
     refine wp_seq ?_
     refine at_regq [] { ts := [1, 2], os := [1] } [] gamOK hT h (by kernel_rfl) trivial fun a w h => then_normal (wp_ret (then_ret ?_))
     exact at_return (false, ()) [] h (by kernel_rfl) trivial (congrArg (fun z => (z, ())) (show (false) = validMan x0 from by first | rfl | (unfold validMan; rw [if_pos (notF h1), if_pos (notF h2), if_pos h3, if_neg (neT h4)]; done) | (unfold validMan; (repeat (first | rfl | split)) <;> (first | rfl | omega | (simp_all [-List.all_eq_true, -List.any_eq_true, -List.all_eq_false, -List.any_eq_false, D_slices_ContainsFunc_S_int_int__IsValidManifest_1, any_not]; done) | (simp_all [-List.all_eq_true, -List.any_eq_true, -List.all_eq_false, -List.any_eq_false, D_slices_ContainsFunc_S_int_int__IsValidManifest_1, any_not]; omega) | (exfalso; simp_all [-List.all_eq_true, -List.any_eq_true, -List.all_eq_false, -List.any_eq_false, D_slices_ContainsFunc_S_int_int__IsValidManifest_1, any_not]; omega)))))
    ·replace h4 : (inR x0.2.2.2.2.2 0 2147483646) = true := notF h4
     have hvh4 := inR_t h4
     refine wp_skip (then_normal (wp_seq ?_))
     refine at_regq [{}, {}, { key := some 100008 }] { ts := [2], os := [] } [True] gamOK hT h (by kernel_rfl) ⟨trivial, trivial⟩ fun a w h => then_normal (wp_ret ?_)
     exact at_return (!(D_slices_ContainsFunc_S_int_int__IsValidManifest_1 x0.2.2.2.2.1 ()), ()) [] h (by kernel_rfl) trivial (congrArg (fun z => (z, ())) (show (!(D_slices_ContainsFunc_S_int_int__IsValidManifest_1 x0.2.2.2.2.1 ())) = validMan x0 from by first | rfl | (unfold validMan; rw [if_pos (notF h1), if_pos (notF h2), if_pos h3, if_pos h4]; done) | (unfold validMan; (repeat (first | rfl | split)) <;> (first | rfl | omega | (simp_all [-List.all_eq_true, -List.any_eq_true, -List.all_eq_false, -List.any_eq_false, D_slices_ContainsFunc_S_int_int__IsValidManifest_1, any_not]; done) | (simp_all [-List.all_eq_true, -List.any_eq_true, -List.all_eq_false, -List.any_eq_false, D_slices_ContainsFunc_S_int_int__IsValidManifest_1, any_not]; omega) | (exfalso; simp_all [-List.all_eq_true, -List.any_eq_true, -List.all_eq_false, -List.any_eq_false, D_slices_ContainsFunc_S_int_int__IsValidManifest_1, any_not]; omega)))))
   ·refine at_regq [{}, {}, {}, { hint := some (aB false) }, {}, {}, {}, {}, {}, {}, {}, {}, { hint := some (aB false) }, {}, {}, {}, {}, {}, {}, {}, { hint := some (aB true) }] { ts := [1, 2, 30], os := [1] } [True, (AV.p (.c (.v (.bool (!(inR x0.1 0 7))))) = AV.p (.c (.v (.bool false)))), True, (AV.p (.c (.v (.bool (!(isFmt x0.2.1 x0.2.2.1 x0.2.2.2.1))))) = AV.p (.c (.v (.bool false)))), (AV.p (.c (.v (.bool (!decide (((List.length x0.2.2.2.2.1 : Nat) : Int) = x0.2.2.1))))) = AV.p (.c (.v (.bool true))))] gamOK hT h (by kernel_rfl) ⟨trivial, hint_bool (h1), trivial, hint_bool (h2), hint_bool (ndF h3), trivial⟩ fun a w h => then_normal ?_
    refine at_test true h (by kernel_rfl) (fun hh => ?_) (fun hh => nomatch hh)
    refine wp_seq ?_
    refine at_regq [] { ts := [1, 2], os := [1] } [] gamOK hT h (by kernel_rfl) trivial fun a w h => then_normal (wp_ret (then_ret ?_))
    exact at_return (false, ()) [] h (by kernel_rfl) trivial (congrArg (fun z => (z, ())) (show (false) = validMan x0 from by first | rfl | (unfold validMan; rw [if_pos (notF h1), if_pos (notF h2), if_neg h3]; done) | (unfold validMan; (repeat (first | rfl | split)) <;> (first | rfl | omega | (simp_all [-List.all_eq_true, -List.any_eq_true, -List.all_eq_false, -List.any_eq_false, D_slices_ContainsFunc_S_int_int__IsValidManifest_1, any_not]; done) | (simp_all [-List.all_eq_true, -List.any_eq_true, -List.all_eq_false, -List.any_eq_false, D_slices_ContainsFunc_S_int_int__IsValidManifest_1, any_not]; omega) | (exfalso; simp_all [-List.all_eq_true, -List.any_eq_true, -List.all_eq_false, -List.any_eq_false, D_slices_ContainsFunc_S_int_int__IsValidManifest_1, any_not]; omega)))))
def mkMan (s src : Int) (k : (List Int)) (g : T26) : T31 := signMan s (src, g.1, ((List.length g.2 : Nat) : Int), colsOf g.2, hashSyms k g, 0)
def makeMan (s src : Int) (k : (List Int)) (g : T26) : T31 × Bool := if (isKey s = true ∧ hsOK k g) ∧ validMan (mkMan s src k g) = true then (mkMan s src k g, true) else ((0, 0, 0, 0, [], 0), false)
theorem mkMan_no {s src : Int} {k : (List Int)} {g : T26} (h : ¬ hsOK k g) : validMan (mkMan s src k g) = false := by
 rw [Bool.eq_false_iff]; intro e
 have := validMan_len e
 unfold mkMan signMan hashSyms at this
 rw [if_neg h] at this
 exact absurd this (by simp)
theorem makeMan_no {s src : Int} {k : (List Int)} {g : T26} (h : isKey s = false ∨ List.length (hashSyms k g) = 0 ∨ validMan (mkMan s src k g) = false ∨ ¬ hsOK k g) : ((0, 0, 0, 0, [], 0), false) = makeMan s src k g := by
 unfold makeMan
 rw [if_neg]
 rintro ⟨⟨h1, h2⟩, h3⟩
 rcases h with h | h | h | h
 ·rw [h1] at h; cases h
 ·exact hashSyms_nil h h2
 ·rw [h3] at h; cases h
 ·exact h h2
theorem makeMan_yes {s src : Int} {k : (List Int)} {g : T26} (h1 : isKey s = true) (h2 : validMan (mkMan s src k g) = true) : (mkMan s src k g, true) = makeMan s src k g := by
 unfold makeMan
 rw [if_pos]
 refine ⟨⟨h1, Decidable.byContradiction fun h => ?_⟩, h2⟩
 rw [mkMan_no h] at h2; cases h2

def checkP (x0 : (List Int)) (x1 : T31) (x2 : T42) : Int := (if (validMan x1) = true then (if (validK x0) = true then (if x1.2.2.2.1 = ((List.length x0 : Nat) : Int) then (if (validP x2 x1.2.2.1 x1.2.2.2.1) = true then (if x2.1 = x1.2.1 then (if (verH x0 x1.2.2.2.2.1 x2) = true then 0 else 3) else 2) else 1) else 1) else 1) else 1)
abbrev Q_impl_CheckPacket := (fun (x0 : (List Int)) (x1 : T31) (x2 : T42) => Sh.fit s29 x0 ∧ Sh.fit s31 x1 ∧ Sh.fit s42 x2)
def S_impl_CheckPacket : Sum := { fid := 17, dom := [s29, s31, s42], cod := [(.int 3)], dp := true, fz := false, pre := fun x => Q_impl_CheckPacket x.1 x.2.1 x.2.2.1, g := fun x => ((checkP x.1 x.2.1 x.2.2.1), ()) }
def S_impl_CheckPacket_tab : List (Nat × Sum) := [(12, S_impl_IsValidManifest), (61, S_impl_IsValidHashKey), (62, S_impl_IsValidPacket), (63, S_impl_VerifyHash)]
theorem S_impl_CheckPacket_ok : FnOK Try.prog 17 S_impl_CheckPacket := by
 refine at_enter 46 (fun x => ⟨[(0, aG [.ro (.int 3) x.1]), (1, aG [cI x.2.1.1, cI x.2.1.2.1, cI x.2.1.2.2.1, cI x.2.1.2.2.2.1, .ro (.int 3) x.2.1.2.2.2.2.1, cI x.2.1.2.2.2.2.2]), (2, aG [cI x.2.2.1.1, .ro (.int 3) x.2.2.1.2.1, .ro (.int 3) x.2.2.1.2.2])], []⟩) Try.func17 rfl (by kernel_rfl) (fun x => rfl) ?_
 rintro w0 Z0 ⟨x0, x1, x2, u⟩ a w
 revert x0 x1 x2
 intro (x0 : (List Int)) (x1 : T31) (x2 : T42) hpre hlens h
 replace hpre : Q_impl_CheckPacket x0 x1 x2 := hpre
 have hT : TabOK Try.prog S_impl_CheckPacket_tab := (.cons S_impl_IsValidManifest_ok (.cons S_impl_IsValidHashKey_ok (.cons S_impl_IsValidPacket_ok (.cons S_impl_VerifyHash_ok .nil))))
 obtain ⟨hf0, hf1, hf2⟩ := hpre
 have hn0_1 : List.length x0 ≤ 1073741824 := hf0.1
 have hn1_2 : List.length x1.2.2.2.2.1 ≤ 1073741824 := hf1.2.2.2.2.1.1
 have hn2_3 : List.length x2.2.1 ≤ 1073741824 := hf2.2.1.1
 have hn2_4 : List.length x2.2.2 ≤ 1073741824 := hf2.2.2.1
 refine wp_seq ?_
 refine at_regq [{ ids := [1] }, { ids := [2] }, { ids := [3] }] { ts := [3, 4, 5, 6], os := [1, 2, 3] } [] gamOK hT h (by kernel_rfl) trivial fun a w h => then_normal (wp_seq (wp_block (wp_seq ?_)))
 rcases Bool.eq_false_or_eq_true (!(validMan x1)) with h1 | h1
 ·have hzh1 : (validMan x1) = false := notT h1
  refine at_regq [{}, {}, { hint := some (aB true) }] { ts := [3, 4, 5, 6, 7], os := [1, 2, 3] } [Q_impl_IsValidManifest x1, (AV.p (.c (.v (.bool (!(validMan x1))))) = AV.p (.c (.v (.bool true))))] gamOK hT h (by kernel_rfl) ⟨(by exact hf1), hint_bool (h1), trivial⟩ fun a w h => then_normal ?_
  refine at_test true h (by kernel_rfl) (fun hh => ?_) (fun hh => nomatch hh)
  refine wp_seq ?_
  refine at_regq [] { ts := [6], os := [] } [] gamOK hT h (by kernel_rfl) trivial fun a w h => then_normal (wp_ret (in_ret (then_ret ?_)))
  exact at_return (1, ()) [] h (by kernel_rfl) trivial (congrArg (fun z => (z, ())) (show (1) = checkP x0 x1 x2 from by first | rfl | (unfold checkP; rw [if_neg (neT (notT h1))])))
 ·have hzh1 : (validMan x1) = true := notF h1
  rcases Bool.eq_false_or_eq_true (!(validK x0)) with h2 | h2
  ·have hzh2 : (validK x0) = false := notT h2
   refine at_regq [{}, {}, { hint := some (aB false) }, {}, {}, {}, { hint := some (aB true) }] { ts := [3, 4, 5, 6, 7], os := [1, 2, 3] } [Q_impl_IsValidManifest x1, (AV.p (.c (.v (.bool (!(validMan x1))))) = AV.p (.c (.v (.bool false)))), Q_impl_IsValidHashKey x0, (AV.p (.c (.v (.bool (!(validK x0))))) = AV.p (.c (.v (.bool true))))] gamOK hT h (by kernel_rfl) ⟨(by exact hf1), hint_bool (h1), (by exact hf0), hint_bool (h2), trivial⟩ fun a w h => then_normal ?_
   refine at_test true h (by kernel_rfl) (fun hh => ?_) (fun hh => nomatch hh)
   refine wp_seq ?_
   refine at_regq [] { ts := [6], os := [] } [] gamOK hT h (by kernel_rfl) trivial fun a w h => then_normal (wp_ret (in_ret (then_ret ?_)))
   exact at_return (1, ()) [] h (by kernel_rfl) trivial (congrArg (fun z => (z, ())) (show (1) = checkP x0 x1 x2 from by first | rfl | (unfold checkP; rw [if_pos (notF h1), if_neg (neT (notT h2))])))
  ·have hzh2 : (validK x0) = true := notF h2
   have hvh2 := validK_t (notF h2)
   by_cases h3 : x1.2.2.2.1 = ((List.length x0 : Nat) : Int)
   ·refine at_regq [{}, {}, { hint := some (aB false) }, {}, {}, {}, { hint := some (aB false) }, {}, {}, {}, {}, {}, {}, {}, { hint := some (aB false) }] { ts := [3, 4, 5, 6, 7], os := [1, 2, 3] } [Q_impl_IsValidManifest x1, (AV.p (.c (.v (.bool (!(validMan x1))))) = AV.p (.c (.v (.bool false)))), Q_impl_IsValidHashKey x0, (AV.p (.c (.v (.bool (!(validK x0))))) = AV.p (.c (.v (.bool false)))), (AV.p (.c (.v (.bool (!decide (x1.2.2.2.1 = ((List.length x0 : Nat) : Int)))))) = AV.p (.c (.v (.bool false)))), Q_impl_IsValidPacket x2 x1.2.2.1 x1.2.2.2.1] gamOK hT h (by kernel_rfl) ⟨(by exact hf1), hint_bool (h1), (by exact hf0), hint_bool (h2), hint_bool (ndT h3), (by exact hf2), trivial⟩ fun a w h => then_normal ?_
    refine at_test (!(validP x2 x1.2.2.1 x1.2.2.2.1)) h (by kernel_rfl) (fun h4 => ?_) (fun h4 => ?_)
    ·replace h4 : (validP x2 x1.2.2.1 x1.2.2.2.1) = false := notT h4
     refine wp_seq ?_
     refine at_regq [] { ts := [6], os := [] } [] gamOK hT h (by kernel_rfl) trivial fun a w h => then_normal (wp_ret (in_ret (then_ret ?_)))
     exact at_return (1, ()) [] h (by kernel_rfl) trivial (congrArg (fun z => (z, ())) (show (1) = checkP x0 x1 x2 from by first | rfl | (unfold checkP; rw [if_pos (notF h1), if_pos (notF h2), if_pos h3, if_neg (neT h4)])))
    ·replace h4 : (validP x2 x1.2.2.1 x1.2.2.2.1) = true := notF h4
     have hvh4 := validP_n h4
     refine wp_seq ?_
     refine at_regq [] { ts := [3, 4, 5, 6, 33], os := [1, 2, 3] } [] gamOK hT h (by kernel_rfl) trivial fun a w h => then_normal ?_
     refine at_test (!decide (x2.1 = x1.2.1)) h (by kernel_rfl) (fun h5 => ?_) (fun h5 => ?_)
     ·replace h5 : ¬ (x2.1 = x1.2.1) := of_decide_eq_false (notT h5)
      refine wp_seq ?_
      refine at_regq [] { ts := [6], os := [] } [] gamOK hT h (by kernel_rfl) trivial fun a w h => then_normal (wp_ret (in_ret (then_ret ?_)))
      exact at_return (2, ()) [] h (by kernel_rfl) trivial (congrArg (fun z => (z, ())) (show (2) = checkP x0 x1 x2 from by first | rfl | (unfold checkP; rw [if_pos (notF h1), if_pos (notF h2), if_pos h3, if_pos h4, if_neg h5])))
     ·replace h5 : x2.1 = x1.2.1 := of_decide_eq_true (notF h5)
      refine wp_seq ?_
      refine at_regq [] { ts := [6, 39], os := [] } [Q_impl_VerifyHash x0 x1.2.2.2.2.1 x2] gamOK hT h (by kernel_rfl) ⟨(by exact ⟨hf0, hf1.2.2.2.2.1, hf2⟩), trivial⟩ fun a w h => then_normal ?_
      refine at_test (!(verH x0 x1.2.2.2.2.1 x2)) h (by kernel_rfl) (fun h6 => ?_) (fun h6 => ?_)
      ·replace h6 : (verH x0 x1.2.2.2.2.1 x2) = false := notT h6
       refine wp_seq ?_
       refine at_regq [] { ts := [6], os := [] } [] gamOK hT h (by kernel_rfl) trivial fun a w h => then_normal (wp_ret (in_ret (then_ret ?_)))
       exact at_return (3, ()) [] h (by kernel_rfl) trivial (congrArg (fun z => (z, ())) (show (3) = checkP x0 x1 x2 from by first | rfl | (unfold checkP; rw [if_pos (notF h1), if_pos (notF h2), if_pos h3, if_pos h4, if_pos h5, if_neg (neT h6)])))
      ·replace h6 : (verH x0 x1.2.2.2.2.1 x2) = true := notF h6
       refine wp_skip (in_normal (then_normal (wp_seq ?_)))
       refine at_regq [] { ts := [6], os := [] } [] gamOK hT h (by kernel_rfl) trivial fun a w h => then_normal (wp_ret ?_)
       exact at_return (0, ()) [] h (by kernel_rfl) trivial (congrArg (fun z => (z, ())) (show (0) = checkP x0 x1 x2 from by first | rfl | (unfold checkP; rw [if_pos (notF h1), if_pos (notF h2), if_pos h3, if_pos h4, if_pos h5, if_pos h6])))
   ·refine at_regq [{}, {}, { hint := some (aB false) }, {}, {}, {}, { hint := some (aB false) }, {}, {}, {}, {}, {}, {}, {}, { hint := some (aB true) }] { ts := [3, 4, 5, 6, 7], os := [1, 2, 3] } [Q_impl_IsValidManifest x1, (AV.p (.c (.v (.bool (!(validMan x1))))) = AV.p (.c (.v (.bool false)))), Q_impl_IsValidHashKey x0, (AV.p (.c (.v (.bool (!(validK x0))))) = AV.p (.c (.v (.bool false)))), (AV.p (.c (.v (.bool (!decide (x1.2.2.2.1 = ((List.length x0 : Nat) : Int)))))) = AV.p (.c (.v (.bool true))))] gamOK hT h (by kernel_rfl) ⟨(by exact hf1), hint_bool (h1), (by exact hf0), hint_bool (h2), hint_bool (ndF h3), trivial⟩ fun a w h => then_normal ?_
    refine at_test true h (by kernel_rfl) (fun hh => ?_) (fun hh => nomatch hh)
    refine wp_seq ?_
    refine at_regq [] { ts := [6], os := [] } [] gamOK hT h (by kernel_rfl) trivial fun a w h => then_normal (wp_ret (in_ret (then_ret ?_)))
    exact at_return (1, ()) [] h (by kernel_rfl) trivial (congrArg (fun z => (z, ())) (show (1) = checkP x0 x1 x2 from by first | rfl | (unfold checkP; rw [if_pos (notF h1), if_pos (notF h2), if_neg h3])))

abbrev Q_impl_MakeManifest := (fun (x0 : Int) (x1 : Int) (x2 : (List Int)) (x3 : T26) => Sh.fit s29 x2 ∧ Sh.fit s26 x3)
def S_impl_MakeManifest : Sum := { fid := 11, dom := [(.int 3), (.int 3), s29, s26], cod := [s31, (.bool 4)], dp := true, fz := false, pre := fun x => Q_impl_MakeManifest x.1 x.2.1 x.2.2.1 x.2.2.2.1, g := fun x => ((makeMan x.1 x.2.1 x.2.2.1 x.2.2.2.1).1, ((makeMan x.1 x.2.1 x.2.2.1 x.2.2.2.1).2, ())) }
def S_impl_MakeManifest_tab : List (Nat × Sum) := [(48, S_impl_HashSymbols), (49, S_impl_IsValidKey), (50, S_impl_SymbolWidth), (15, S_impl_SignManifest), (12, S_impl_IsValidManifest)]
theorem S_impl_MakeManifest_ok : FnOK Try.prog 11 S_impl_MakeManifest := by
 refine at_enter 40 (fun x => ⟨[(0, aI x.1), (1, aI x.2.1), (2, aG [.ro (.int 3) x.2.2.1]), (3, aG [cI x.2.2.2.1.1, .ro s27 x.2.2.2.1.2])], []⟩) Try.func11 rfl (by kernel_rfl) (fun x => rfl) ?_
 rintro w0 Z0 ⟨x0, x1, x2, x3, u⟩ a w
 revert x0 x1 x2 x3
 intro (x0 : Int) (x1 : Int) (x2 : (List Int)) (x3 : T26) hpre hlens h
 replace hpre : Q_impl_MakeManifest x0 x1 x2 x3 := hpre
 have hT : TabOK Try.prog S_impl_MakeManifest_tab := (.cons S_impl_HashSymbols_ok (.cons S_impl_IsValidKey_ok (.cons S_impl_SymbolWidth_ok (.cons S_impl_SignManifest_ok (.cons S_impl_IsValidManifest_ok .nil)))))
 obtain ⟨hf2, hf3⟩ := hpre
 have hn2_1 : List.length x2 ≤ 1073741824 := hf2.1
 have hn3_2 : List.length x3.2 ≤ 1073741824 := hf3.2.1
 refine wp_seq ?_
 refine at_regq [{ ids := [1] }, { ids := [2] }, { ids := [3] }] { ts := [0, 1, 6, 7, 8, 9], os := [1, 2, 3] } [] gamOK hT h (by kernel_rfl) trivial fun a w h => then_normal (wp_seq ?_)
 refine at_regq [{}, {}, { ids := [4] }] { ts := [0, 1, 7, 8, 9, 10], os := [2, 3, 4] } [Q_impl_HashSymbols x2 x3] gamOK hT h (by kernel_rfl) ⟨(by exact ⟨hf2, hf3⟩), trivial⟩ fun a w h => then_normal (wp_seq (wp_seq ?_))
 rcases Bool.eq_false_or_eq_true (!(isKey x0)) with h1 | h1
 ·have hzh1 : (isKey x0) = false := notT h1
  refine at_regq [{}, {}, { hint := some (aB true) }] { ts := [0, 1, 7, 8, 9, 10, 21], os := [2, 3, 4] } [True, (AV.p (.c (.v (.bool (!(isKey x0))))) = AV.p (.c (.v (.bool true))))] gamOK hT h (by kernel_rfl) ⟨trivial, hint_bool (h1), trivial⟩ fun a w h => then_normal ?_
  refine at_test true h (by kernel_rfl) (fun hh => ?_) (fun hh => nomatch hh)
  refine wp_seq ?_
  refine at_regq [] { ts := [0, 1, 7, 8, 9, 10], os := [2, 3, 4] } [] gamOK hT h (by kernel_rfl) trivial fun a w h => then_normal (wp_ret (then_ret ?_))
  exact at_return ((0, (0, (0, (0, (([] : List Int), 0))))), (false, ())) [] h (by kernel_rfl) trivial (congrArg (fun z => (z.1, z.2, ())) (show (((0, (0, (0, (0, (([] : List Int), 0))))), false)) = makeMan x0 x1 x2 x3 from by first | exact makeMan_no (by first | (left; assumption) | (right; left; assumption) | (right; right; left; assumption) | (right; right; right; intro e; have e1 := e.1; have e2 := e.2.1; have e3 := e.2.2; first | omega | (simp_all; done))) | exact makeMan_yes (by assumption) (by assumption)))
 ·have hzh1 : (isKey x0) = true := notF h1
  have hvh1 := isKey_t (notF h1)
  refine at_regq [{}, {}, { hint := some (aB false) }] { ts := [0, 1, 7, 8, 9, 10, 21], os := [2, 3, 4] } [True, (AV.p (.c (.v (.bool (!(isKey x0))))) = AV.p (.c (.v (.bool false))))] gamOK hT h (by kernel_rfl) ⟨trivial, hint_bool (h1), trivial⟩ fun a w h => then_normal ?_
  refine at_nil (List.length (hashSyms x2 x3)) h (by kernel_rfl) (fun h2 => ?_) ?_
  ·refine wp_seq ?_
   refine at_regq [] { ts := [0, 1, 7, 8, 9, 10], os := [2, 3, 4] } [] gamOK hT h (by kernel_rfl) trivial fun a w h => then_normal (wp_ret (then_ret ?_))
   exact at_return ((0, (0, (0, (0, (([] : List Int), 0))))), (false, ())) [] h (by kernel_rfl) trivial (congrArg (fun z => (z.1, z.2, ())) (show (((0, (0, (0, (0, (([] : List Int), 0))))), false)) = makeMan x0 x1 x2 x3 from by first | exact makeMan_no (by first | (left; assumption) | (right; left; assumption) | (right; right; left; assumption) | (right; right; right; intro e; have e1 := e.1; have e2 := e.2.1; have e3 := e.2.2; first | omega | (simp_all; done))) | exact makeMan_yes (by assumption) (by assumption)))
  ·refine wp_skip (then_normal (wp_seq ?_))
   refine at_anyq [{}, {}, {}, {}, {}, {}, {}, {}, {}, {}, {}, { ids := [5] }, { ids := [6] }, {}] { ts := [8, 9, 11], os := [3, 5, 6] } [Q_impl_SymbolWidth x3, Q_impl_SignManifest x0 (x1, (x3.1, (((List.length x3.2 : Nat) : Int), ((colsOf x3.2), ((hashSyms x2 x3), 0)))))] gamOK hT mixed h (by kernel_rfl) ⟨(by exact hf3), (by exact ⟨trivial, ⟨hf3.1, ⟨trivial, ⟨trivial, ⟨(Sh.fit_len (t := 27) (s := .int 3) rfl (Nat.le_trans hashSyms_len (hf3).2.1)), trivial⟩⟩⟩⟩⟩), trivial⟩ fun a w h => then_normal (wp_seq (wp_seq ?_))
   refine at_regq [] { ts := [8, 9, 11, 37], os := [3, 5, 6] } [Q_impl_IsValidManifest (signMan x0 (x1, (x3.1, (((List.length x3.2 : Nat) : Int), ((colsOf x3.2), ((hashSyms x2 x3), 0))))))] gamOK hT h (by kernel_rfl) ⟨(by exact (show Sh.fit s31 (signMan x0 (x1, (x3.1, (((List.length x3.2 : Nat) : Int), ((colsOf x3.2), ((hashSyms x2 x3), 0)))))) from (⟨trivial, ⟨hf3.1, ⟨trivial, ⟨trivial, ⟨(Sh.fit_len (t := 27) (s := .int 3) rfl (Nat.le_trans hashSyms_len (hf3).2.1)), trivial⟩⟩⟩⟩⟩))), trivial⟩ fun a w h => then_normal ?_
   refine at_test (!(validMan (signMan x0 (x1, (x3.1, (((List.length x3.2 : Nat) : Int), ((colsOf x3.2), ((hashSyms x2 x3), 0)))))))) h (by kernel_rfl) (fun h3 => ?_) (fun h3 => ?_)
   ·replace h3 : (validMan (signMan x0 (x1, (x3.1, (((List.length x3.2 : Nat) : Int), ((colsOf x3.2), ((hashSyms x2 x3), 0))))))) = false := notT h3
    refine wp_seq ?_
    refine at_regq [] { ts := [8, 9, 11], os := [3, 5, 6] } [] gamOK hT h (by kernel_rfl) trivial fun a w h => then_normal (wp_ret (then_ret ?_))
    exact at_return ((0, (0, (0, (0, (([] : List Int), 0))))), (false, ())) [] h (by kernel_rfl) trivial (congrArg (fun z => (z.1, z.2, ())) (show (((0, (0, (0, (0, (([] : List Int), 0))))), false)) = makeMan x0 x1 x2 x3 from by first | exact makeMan_no (by first | (left; assumption) | (right; left; assumption) | (right; right; left; assumption) | (right; right; right; intro e; have e1 := e.1; have e2 := e.2.1; have e3 := e.2.2; first | omega | (simp_all; done))) | exact makeMan_yes (by assumption) (by assumption)))
   ·replace h3 : (validMan (signMan x0 (x1, (x3.1, (((List.length x3.2 : Nat) : Int), ((colsOf x3.2), ((hashSyms x2 x3), 0))))))) = true := notF h3
    refine wp_skip (then_normal (wp_seq ?_))
    refine at_regq [] { ts := [8, 9], os := [3, 5] } [] gamOK hT h (by kernel_rfl) trivial fun a w h => then_normal (wp_ret ?_)
    exact at_return ((signMan x0 (x1, (x3.1, (((List.length x3.2 : Nat) : Int), ((colsOf x3.2), ((hashSyms x2 x3), 0)))))), (true, ())) [] h (by kernel_rfl) trivial (congrArg (fun z => (z.1, z.2, ())) (show (((signMan x0 (x1, (x3.1, (((List.length x3.2 : Nat) : Int), ((colsOf x3.2), ((hashSyms x2 x3), 0)))))), true)) = makeMan x0 x1 x2 x3 from by first | exact makeMan_no (by first | (left; assumption) | (right; left; assumption) | (right; right; left; assumption) | (right; right; right; intro e; have e1 := e.1; have e2 := e.2.1; have e3 := e.2.2; first | omega | (simp_all; done))) | exact makeMan_yes (by assumption) (by assumption)))

abbrev Q_spec_MakeManifest := (fun (x0 : Int) (x1 : Int) (x2 : (List Int)) (x3 : T26) => Sh.fit s29 x2 ∧ Sh.fit s26 x3)
def S_spec_MakeManifest : Sum := { fid := 102, dom := [(.int 3), (.int 3), s29, s26], cod := [s31, (.bool 4)], dp := true, fz := false, pre := fun x => Q_spec_MakeManifest x.1 x.2.1 x.2.2.1 x.2.2.2.1, g := fun x => ((makeMan x.1 x.2.1 x.2.2.1 x.2.2.2.1).1, ((makeMan x.1 x.2.1 x.2.2.1 x.2.2.2.1).2, ())) }
def S_spec_MakeManifest_tab : List (Nat × Sum) := [(158, S_spec_IsValidKey), (59, S_spec_IsValidGeneration), (128, S_spec_IsValidHashKey), (101, S_spec_ColumnsOf), (160, S_spec_HashSymbols), (159, S_spec_SignManifest), (76, S_spec_IsValidManifest)]
theorem S_spec_MakeManifest_ok : FnOK Try.prog 102 S_spec_MakeManifest := by
 refine at_enter 54 (fun x => ⟨[(0, aI x.1), (1, aI x.2.1), (2, aG [.ro (.int 3) x.2.2.1]), (3, aG [cI x.2.2.2.1.1, .ro s27 x.2.2.2.1.2])], []⟩) Try.func102 rfl (by kernel_rfl) (fun x => rfl) ?_
 rintro w0 Z0 ⟨x0, x1, x2, x3, u⟩ a w
 revert x0 x1 x2 x3
 intro (x0 : Int) (x1 : Int) (x2 : (List Int)) (x3 : T26) hpre hlens h
 replace hpre : Q_spec_MakeManifest x0 x1 x2 x3 := hpre
 have hT : TabOK Try.prog S_spec_MakeManifest_tab := (.cons S_spec_IsValidKey_ok (.cons S_spec_IsValidGeneration_ok (.cons S_spec_IsValidHashKey_ok (.cons S_spec_ColumnsOf_ok (.cons S_spec_HashSymbols_ok (.cons S_spec_SignManifest_ok (.cons S_spec_IsValidManifest_ok .nil)))))))
 obtain ⟨hf2, hf3⟩ := hpre
 have hn2_1 : List.length x2 ≤ 1073741824 := hf2.1
 have hn3_2 : List.length x3.2 ≤ 1073741824 := hf3.2.1
 refine wp_seq ?_
 refine at_regq [{ ids := [1] }, { ids := [2] }, { ids := [3] }] { ts := [0, 1, 6, 7, 8, 9], os := [1, 2, 3] } [] gamOK hT h (by kernel_rfl) trivial fun a w h => then_normal (wp_seq (wp_seq ?_))
 rcases Bool.eq_false_or_eq_true (!(isKey x0)) with h1 | h1
 ·have hzh1 : (isKey x0) = false := notT h1
  refine at_anyq [{}, {}, { hint := some (aB true) }, {}, {}, {}, {}, {}, {}, {}, {}, {}, {}, {}, {}, {}, {}, {}, {}, {}, {}, {}] { ts := [0, 1, 6, 7, 8, 9, 32], os := [1, 2, 3] } [True, (AV.p (.c (.v (.bool (!(isKey x0))))) = AV.p (.c (.v (.bool true))))] gamOK hT mixed h (by kernel_rfl) ⟨trivial, hint_bool (h1), trivial⟩ fun a w h => then_normal ?_
  refine at_test true h (by kernel_rfl) (fun hh => ?_) (fun hh => nomatch hh)
  refine wp_seq ?_
  refine at_regq [] { ts := [0, 1, 6, 7, 8, 9], os := [1, 2, 3] } [] gamOK hT h (by kernel_rfl) trivial fun a w h => then_normal (wp_ret (then_ret ?_))
  exact at_return ((0, (0, (0, (0, (([] : List Int), 0))))), (false, ())) [] h (by kernel_rfl) trivial (congrArg (fun z => (z.1, z.2, ())) (show (((0, (0, (0, (0, (([] : List Int), 0))))), false)) = makeMan x0 x1 x2 x3 from by first | exact makeMan_no (by first | (left; assumption) | (right; left; assumption) | (right; right; left; assumption) | (right; right; right; intro e; have e1 := e.1; have e2 := e.2.1; have e3 := e.2.2; first | omega | (simp_all; done))) | exact makeMan_yes (by assumption) (by assumption)))
 ·have hzh1 : (isKey x0) = true := notF h1
  have hvh1 := isKey_t (notF h1)
  rcases Bool.eq_false_or_eq_true (!(validG x3)) with h2 | h2
  ·have hzh2 : (validG x3) = false := notT h2
   refine at_anyq [{}, {}, { hint := some (aB false) }, {}, {}, {}, { hint := some (aB true) }, {}, {}, {}, {}, {}, {}, {}, {}, {}, {}, {}, {}, {}, {}, {}] { ts := [0, 1, 6, 7, 8, 9, 32], os := [1, 2, 3] } [True, (AV.p (.c (.v (.bool (!(isKey x0))))) = AV.p (.c (.v (.bool false)))), Q_spec_IsValidGeneration x3, (AV.p (.c (.v (.bool (!(validG x3))))) = AV.p (.c (.v (.bool true))))] gamOK hT mixed h (by kernel_rfl) ⟨trivial, hint_bool (h1), (by exact hf3), hint_bool (h2), trivial⟩ fun a w h => then_normal ?_
   refine at_test true h (by kernel_rfl) (fun hh => ?_) (fun hh => nomatch hh)
   refine wp_seq ?_
   refine at_regq [] { ts := [0, 1, 6, 7, 8, 9], os := [1, 2, 3] } [] gamOK hT h (by kernel_rfl) trivial fun a w h => then_normal (wp_ret (then_ret ?_))
   exact at_return ((0, (0, (0, (0, (([] : List Int), 0))))), (false, ())) [] h (by kernel_rfl) trivial (congrArg (fun z => (z.1, z.2, ())) (show (((0, (0, (0, (0, (([] : List Int), 0))))), false)) = makeMan x0 x1 x2 x3 from by first | exact makeMan_no (by first | (left; assumption) | (right; left; assumption) | (right; right; left; assumption) | (right; right; right; intro e; have e1 := e.1; have e2 := e.2.1; have e3 := e.2.2; first | omega | (simp_all; done))) | exact makeMan_yes (by assumption) (by assumption)))
  ·have hzh2 : (validG x3) = true := notF h2
   have hvh2 := validG_t (notF h2)
   rcases Bool.eq_false_or_eq_true (!(validK x2)) with h3 | h3
   ·have hzh3 : (validK x2) = false := notT h3
    refine at_anyq [{}, {}, { hint := some (aB false) }, {}, {}, {}, { hint := some (aB false) }, {}, {}, {}, {}, { hint := some (aB true) }, {}, {}, {}, {}, {}, {}, {}, {}, {}, {}] { ts := [0, 1, 6, 7, 8, 9, 32], os := [1, 2, 3] } [True, (AV.p (.c (.v (.bool (!(isKey x0))))) = AV.p (.c (.v (.bool false)))), Q_spec_IsValidGeneration x3, (AV.p (.c (.v (.bool (!(validG x3))))) = AV.p (.c (.v (.bool false)))), Q_spec_IsValidHashKey x2, (AV.p (.c (.v (.bool (!(validK x2))))) = AV.p (.c (.v (.bool true))))] gamOK hT mixed h (by kernel_rfl) ⟨trivial, hint_bool (h1), (by exact hf3), hint_bool (h2), (by exact hf2), hint_bool (h3), trivial⟩ fun a w h => then_normal ?_
    refine at_test true h (by kernel_rfl) (fun hh => ?_) (fun hh => nomatch hh)
    refine wp_seq ?_
    refine at_regq [] { ts := [0, 1, 6, 7, 8, 9], os := [1, 2, 3] } [] gamOK hT h (by kernel_rfl) trivial fun a w h => then_normal (wp_ret (then_ret ?_))
    exact at_return ((0, (0, (0, (0, (([] : List Int), 0))))), (false, ())) [] h (by kernel_rfl) trivial (congrArg (fun z => (z.1, z.2, ())) (show (((0, (0, (0, (0, (([] : List Int), 0))))), false)) = makeMan x0 x1 x2 x3 from by first | exact makeMan_no (by first | (left; assumption) | (right; left; assumption) | (right; right; left; assumption) | (right; right; right; intro e; have e1 := e.1; have e2 := e.2.1; have e3 := e.2.2; first | omega | (simp_all; done))) | exact makeMan_yes (by assumption) (by assumption)))
   ·have hzh3 : (validK x2) = true := notF h3
    have hvh3 := validK_t (notF h3)
    refine at_anyq [{}, {}, { hint := some (aB false) }, {}, {}, {}, { hint := some (aB false) }, {}, {}, {}, {}, { hint := some (aB false) }, {}, {}, {}, {}, {}, {}, {}, {}, {}, {}] { ts := [0, 1, 6, 7, 8, 9, 32], os := [1, 2, 3] } [True, (AV.p (.c (.v (.bool (!(isKey x0))))) = AV.p (.c (.v (.bool false)))), Q_spec_IsValidGeneration x3, (AV.p (.c (.v (.bool (!(validG x3))))) = AV.p (.c (.v (.bool false)))), Q_spec_IsValidHashKey x2, (AV.p (.c (.v (.bool (!(validK x2))))) = AV.p (.c (.v (.bool false)))), Q_spec_ColumnsOf x3.2] gamOK hT mixed h (by kernel_rfl) ⟨trivial, hint_bool (h1), (by exact hf3), hint_bool (h2), (by exact hf2), hint_bool (h3), (by exact hf3.2), trivial⟩ fun a w h => then_normal ?_
    refine at_test (!decide ((colsOf x3.2) = ((List.length x2 : Nat) : Int))) h (by kernel_rfl) (fun h4 => ?_) (fun h4 => ?_)
    ·replace h4 : ¬ ((colsOf x3.2) = ((List.length x2 : Nat) : Int)) := of_decide_eq_false (notT h4)
     refine wp_seq ?_
     refine at_regq [] { ts := [0, 1, 6, 7, 8, 9], os := [1, 2, 3] } [] gamOK hT h (by kernel_rfl) trivial fun a w h => then_normal (wp_ret (then_ret ?_))
     exact at_return ((0, (0, (0, (0, (([] : List Int), 0))))), (false, ())) [] h (by kernel_rfl) trivial (congrArg (fun z => (z.1, z.2, ())) (show (((0, (0, (0, (0, (([] : List Int), 0))))), false)) = makeMan x0 x1 x2 x3 from by first | exact makeMan_no (by first | (left; assumption) | (right; left; assumption) | (right; right; left; assumption) | (right; right; right; intro e; have e1 := e.1; have e2 := e.2.1; have e3 := e.2.2; first | omega | (simp_all; done))) | exact makeMan_yes (by assumption) (by assumption)))
    ·replace h4 : (colsOf x3.2) = ((List.length x2 : Nat) : Int) := of_decide_eq_true (notF h4)
     refine wp_skip (then_normal (wp_seq ?_))
     refine at_anyq [{}, {}, {}, {}, {}, {}, {}, {}, {}, {}, {}, {}, { ids := [4] }, {}, { ids := [5] }, { ids := [6] }, {}] { ts := [8, 9, 10], os := [3, 5, 6] } [Q_spec_ColumnsOf x3.2, Q_spec_HashSymbols x2 x3, Q_spec_SignManifest x0 (x1, (x3.1, (((List.length x3.2 : Nat) : Int), ((colsOf x3.2), ((hashSyms x2 x3), 0)))))] gamOK hT mixed h (by kernel_rfl) ⟨(by exact hf3.2), (by exact ⟨hf2, hf3⟩), (by exact ⟨trivial, ⟨hf3.1, ⟨trivial, ⟨trivial, ⟨(Sh.fit_len (t := 27) (s := .int 3) rfl (Nat.le_trans hashSyms_len (hf3).2.1)), trivial⟩⟩⟩⟩⟩), trivial⟩ fun a w h => then_normal (wp_seq (wp_seq ?_))
     refine at_regq [] { ts := [8, 9, 10, 51], os := [3, 5, 6] } [Q_spec_IsValidManifest (signMan x0 (x1, (x3.1, (((List.length x3.2 : Nat) : Int), ((colsOf x3.2), ((hashSyms x2 x3), 0))))))] gamOK hT h (by kernel_rfl) ⟨(by exact (show Sh.fit s31 (signMan x0 (x1, (x3.1, (((List.length x3.2 : Nat) : Int), ((colsOf x3.2), ((hashSyms x2 x3), 0)))))) from (⟨trivial, ⟨hf3.1, ⟨trivial, ⟨trivial, ⟨(Sh.fit_len (t := 27) (s := .int 3) rfl (Nat.le_trans hashSyms_len (hf3).2.1)), trivial⟩⟩⟩⟩⟩))), trivial⟩ fun a w h => then_normal ?_
     refine at_test (!(validMan (signMan x0 (x1, (x3.1, (((List.length x3.2 : Nat) : Int), ((colsOf x3.2), ((hashSyms x2 x3), 0)))))))) h (by kernel_rfl) (fun h5 => ?_) (fun h5 => ?_)
     ·replace h5 : (validMan (signMan x0 (x1, (x3.1, (((List.length x3.2 : Nat) : Int), ((colsOf x3.2), ((hashSyms x2 x3), 0))))))) = false := notT h5
      refine wp_seq ?_
      refine at_regq [] { ts := [8, 9, 10], os := [3, 5, 6] } [] gamOK hT h (by kernel_rfl) trivial fun a w h => then_normal (wp_ret (then_ret ?_))
      exact at_return ((0, (0, (0, (0, (([] : List Int), 0))))), (false, ())) [] h (by kernel_rfl) trivial (congrArg (fun z => (z.1, z.2, ())) (show (((0, (0, (0, (0, (([] : List Int), 0))))), false)) = makeMan x0 x1 x2 x3 from by first | exact makeMan_no (by first | (left; assumption) | (right; left; assumption) | (right; right; left; assumption) | (right; right; right; intro e; have e1 := e.1; have e2 := e.2.1; have e3 := e.2.2; first | omega | (simp_all; done))) | exact makeMan_yes (by assumption) (by assumption)))
     ·replace h5 : (validMan (signMan x0 (x1, (x3.1, (((List.length x3.2 : Nat) : Int), ((colsOf x3.2), ((hashSyms x2 x3), 0))))))) = true := notF h5
      refine wp_skip (then_normal (wp_seq ?_))
      refine at_regq [] { ts := [8, 9], os := [3, 5] } [] gamOK hT h (by kernel_rfl) trivial fun a w h => then_normal (wp_ret ?_)
      exact at_return ((signMan x0 (x1, (x3.1, (((List.length x3.2 : Nat) : Int), ((colsOf x3.2), ((hashSyms x2 x3), 0)))))), (true, ())) [] h (by kernel_rfl) trivial (congrArg (fun z => (z.1, z.2, ())) (show (((signMan x0 (x1, (x3.1, (((List.length x3.2 : Nat) : Int), ((colsOf x3.2), ((hashSyms x2 x3), 0)))))), true)) = makeMan x0 x1 x2 x3 from by first | exact makeMan_no (by first | (left; assumption) | (right; left; assumption) | (right; right; left; assumption) | (right; right; right; intro e; have e1 := e.1; have e2 := e.2.1; have e3 := e.2.2; first | omega | (simp_all; done))) | exact makeMan_yes (by assumption) (by assumption)))

def signedL (x0 : Int) (x1 : T53) : Bool := decide (x1.2.2.2.2 = (linkMAC (nodeKey x0 x1.1) x1))
abbrev Q_impl_IsSignedBySender := (fun (x0 : Int) (x1 : T53) => Sh.fit s53 x1)
def S_impl_IsSignedBySender : Sum := { fid := 27, dom := [(.int 3), s53], cod := [(.bool 4)], dp := true, fz := false, pre := fun x => Q_impl_IsSignedBySender x.1 x.2.1, g := fun x => ((signedL x.1 x.2.1), ()) }
def S_impl_IsSignedBySender_tab : List (Nat × Sum) := [(79, S_impl_NodeKey), (78, S_impl_LinkMAC)]
theorem S_impl_IsSignedBySender_ok : FnOK Try.prog 27 S_impl_IsSignedBySender := by
 refine at_enter 14 (fun x => ⟨[(0, aI x.1), (1, aG [cI x.2.1.1, cI x.2.1.2.1, cI x.2.1.2.2.1, cI x.2.1.2.2.2.1.1, .ro (.int 3) x.2.1.2.2.2.1.2.1, .ro (.int 3) x.2.1.2.2.2.1.2.2, cI x.2.1.2.2.2.2])], []⟩) Try.func27 rfl (by kernel_rfl) (fun x => rfl) ?_
 rintro w0 Z0 ⟨x0, x1, u⟩ a w
 revert x0 x1
 intro (x0 : Int) (x1 : T53) hpre hlens h
 replace hpre : Q_impl_IsSignedBySender x0 x1 := hpre
 have hT : TabOK Try.prog S_impl_IsSignedBySender_tab := (.cons S_impl_NodeKey_ok (.cons S_impl_LinkMAC_ok .nil))
 have hf1 : Sh.fit s53 x1 := hpre
 have hn1_1 : List.length x1.2.2.2.1.2.1 ≤ 1073741824 := hf1.2.2.2.1.2.1.1
 have hn1_2 : List.length x1.2.2.2.1.2.2 ≤ 1073741824 := hf1.2.2.2.1.2.2.1
 refine wp_seq ?_
 refine at_regq [{ ids := [1] }] { ts := [0, 3, 4], os := [1] } [] gamOK hT h (by kernel_rfl) trivial fun a w h => then_normal (wp_seq ?_)
 refine at_anyq [{}, {}, {}, {}, {}, {}, {}, {}, {}, {}] { ts := [4], os := [] } [True, Q_impl_LinkMAC (nodeKey x0 x1.1) x1] gamOK hT mixed h (by kernel_rfl) ⟨trivial, (by exact hf1), trivial⟩ fun a w h => then_normal (wp_ret ?_)
 exact at_return (decide (x1.2.2.2.2 = (linkMAC (nodeKey x0 x1.1) x1)), ()) [] h (by kernel_rfl) trivial (congrArg (fun z => (z, ())) (show (decide (x1.2.2.2.2 = (linkMAC (nodeKey x0 x1.1) x1))) = signedL x0 x1 from by rfl))

def isProof (x0 : Int) (x1 : (List Int)) (x2 : T31) (x3 : T53) : Bool := (if (signedL x0 x3) = true then (if (validMan x2) = true then decide ((checkP x1 x2 x3.2.2.2.1) = 3) else false) else false)
abbrev Q_impl_IsProof := (fun (x0 : Int) (x1 : (List Int)) (x2 : T31) (x3 : T53) => Sh.fit s29 x1 ∧ Sh.fit s31 x2 ∧ Sh.fit s53 x3)
def S_impl_IsProof : Sum := { fid := 24, dom := [(.int 3), s29, s31, s53], cod := [(.bool 4)], dp := true, fz := false, pre := fun x => Q_impl_IsProof x.1 x.2.1 x.2.2.1 x.2.2.2.1, g := fun x => ((isProof x.1 x.2.1 x.2.2.1 x.2.2.2.1), ()) }
def S_impl_IsProof_tab : List (Nat × Sum) := [(27, S_impl_IsSignedBySender), (12, S_impl_IsValidManifest), (17, S_impl_CheckPacket)]
theorem S_impl_IsProof_ok : FnOK Try.prog 24 S_impl_IsProof := by
 refine at_enter 24 (fun x => ⟨[(0, aI x.1), (1, aG [.ro (.int 3) x.2.1]), (2, aG [cI x.2.2.1.1, cI x.2.2.1.2.1, cI x.2.2.1.2.2.1, cI x.2.2.1.2.2.2.1, .ro (.int 3) x.2.2.1.2.2.2.2.1, cI x.2.2.1.2.2.2.2.2]), (3, aG [cI x.2.2.2.1.1, cI x.2.2.2.1.2.1, cI x.2.2.2.1.2.2.1, cI x.2.2.2.1.2.2.2.1.1, .ro (.int 3) x.2.2.2.1.2.2.2.1.2.1, .ro (.int 3) x.2.2.2.1.2.2.2.1.2.2, cI x.2.2.2.1.2.2.2.2])], []⟩) Try.func24 rfl (by kernel_rfl) (fun x => rfl) ?_
 rintro w0 Z0 ⟨x0, x1, x2, x3, u⟩ a w
 revert x0 x1 x2 x3
 intro (x0 : Int) (x1 : (List Int)) (x2 : T31) (x3 : T53) hpre hlens h
 replace hpre : Q_impl_IsProof x0 x1 x2 x3 := hpre
 have hT : TabOK Try.prog S_impl_IsProof_tab := (.cons S_impl_IsSignedBySender_ok (.cons S_impl_IsValidManifest_ok (.cons S_impl_CheckPacket_ok .nil)))
 obtain ⟨hf1, hf2, hf3⟩ := hpre
 have hn1_1 : List.length x1 ≤ 1073741824 := hf1.1
 have hn2_2 : List.length x2.2.2.2.2.1 ≤ 1073741824 := hf2.2.2.2.2.1.1
 have hn3_3 : List.length x3.2.2.2.1.2.1 ≤ 1073741824 := hf3.2.2.2.1.2.1.1
 have hn3_4 : List.length x3.2.2.2.1.2.2 ≤ 1073741824 := hf3.2.2.2.1.2.2.1
 refine wp_seq ?_
 refine at_regq [{ ids := [1] }, { ids := [2] }, { ids := [3] }] { ts := [0, 5, 6, 7, 8], os := [1, 2, 3] } [] gamOK hT h (by kernel_rfl) trivial fun a w h => then_normal (wp_seq ?_)
 rcases Bool.eq_false_or_eq_true ((signedL x0 x3)) with h1 | h1
 ·rcases Bool.eq_false_or_eq_true ((validMan x2)) with h2 | h2
  ·refine at_regq [{}, {}, { hint := some (aB true) }, {}, {}, { hint := some (aB true) }] { ts := [8], os := [] } [Q_impl_IsSignedBySender x0 x3, (AV.p (.c (.v (.bool ((signedL x0 x3))))) = AV.p (.c (.v (.bool true)))), Q_impl_IsValidManifest x2, (AV.p (.c (.v (.bool ((validMan x2))))) = AV.p (.c (.v (.bool true)))), Q_impl_CheckPacket x1 x2 x3.2.2.2.1] gamOK hT h (by kernel_rfl) ⟨(by exact hf3), hint_bool (h1), (by exact hf2), hint_bool (h2), (by exact ⟨hf1, hf2, hf3.2.2.2.1⟩), trivial⟩ fun a w h => then_normal (wp_ret ?_)
   exact at_return (decide ((checkP x1 x2 x3.2.2.2.1) = 3), ()) [] h (by kernel_rfl) trivial (congrArg (fun z => (z, ())) (show (decide ((checkP x1 x2 x3.2.2.2.1) = 3)) = isProof x0 x1 x2 x3 from by first | rfl | (unfold isProof; rw [if_pos h1, if_pos h2])))
  ·refine at_regq [{}, {}, { hint := some (aB true) }, {}, {}, { hint := some (aB false) }] { ts := [8], os := [] } [Q_impl_IsSignedBySender x0 x3, (AV.p (.c (.v (.bool ((signedL x0 x3))))) = AV.p (.c (.v (.bool true)))), Q_impl_IsValidManifest x2, (AV.p (.c (.v (.bool ((validMan x2))))) = AV.p (.c (.v (.bool false))))] gamOK hT h (by kernel_rfl) ⟨(by exact hf3), hint_bool (h1), (by exact hf2), hint_bool (h2), trivial⟩ fun a w h => then_normal (wp_ret ?_)
   exact at_return (false, ()) [] h (by kernel_rfl) trivial (congrArg (fun z => (z, ())) (show (false) = isProof x0 x1 x2 x3 from by first | rfl | (unfold isProof; rw [if_pos h1, if_neg (neT h2)])))
 ·refine at_regq [{}, {}, { hint := some (aB false) }] { ts := [8], os := [] } [Q_impl_IsSignedBySender x0 x3, (AV.p (.c (.v (.bool ((signedL x0 x3))))) = AV.p (.c (.v (.bool false))))] gamOK hT h (by kernel_rfl) ⟨(by exact hf3), hint_bool (h1), trivial⟩ fun a w h => then_normal (wp_ret ?_)
  exact at_return (false, ()) [] h (by kernel_rfl) trivial (congrArg (fun z => (z, ())) (show (false) = isProof x0 x1 x2 x3 from by first | rfl | (unfold isProof; rw [if_neg (neT h1)])))

def rndN (x0 : Int) (x1 : Int) (x2 : Int) : Int := (if (inR x2 1 1000000000000) = true then (Int.tmod (Int.tmod ((keyed x0 ([x1, 71])) * (keyed x0 ([x1, 71]))) 2147483647) x2) else 0)
def S_spec_RandomNumber : Sum := { fid := 157, dom := [(.int 3), (.int 3), (.int 3)], cod := [(.int 3)], dp := true, fz := false, pre := fun x => True, g := fun x => ((rndN x.1 x.2.1 x.2.2.1), ()) }
def S_spec_RandomNumber_tab : List (Nat × Sum) := [(84, S_spec_l1In), (165, S_spec_KeyedHash)]
theorem S_spec_RandomNumber_ok : FnOK Try.prog 157 S_spec_RandomNumber := by
 refine at_enter 21 (fun x => ⟨[(0, aI x.1), (1, aI x.2.1), (2, aI x.2.2.1)], []⟩) Try.func157 rfl (by kernel_rfl) (fun x => rfl) ?_
 rintro w0 Z0 ⟨x0, x1, x2, u⟩ a w
 revert x0 x1 x2
 intro (x0 : Int) (x1 : Int) (x2 : Int) hpre hlens h
 have hT : TabOK Try.prog S_spec_RandomNumber_tab := (.cons S_spec_l1In_ok (.cons S_spec_KeyedHash_ok .nil))
 have hkb := keyed_bd x0 ([x1, 71])
 refine wp_seq ?_
 refine at_regq [] { ts := [0, 1, 2, 6], os := [] } [] gamOK hT h (by kernel_rfl) trivial fun a w h => then_normal (wp_seq (wp_seq ?_))
 refine at_regq [] { ts := [0, 1, 2, 6, 10], os := [] } [True] gamOK hT h (by kernel_rfl) ⟨trivial, trivial⟩ fun a w h => then_normal ?_
 refine at_test (!(inR x2 1 1000000000000)) h (by kernel_rfl) (fun h1 => ?_) (fun h1 => ?_)
 ·replace h1 : (inR x2 1 1000000000000) = false := notT h1
  have hvh1 := inR_f h1
  refine wp_seq ?_
  refine at_regq [] { ts := [0, 1, 2, 6], os := [] } [] gamOK hT h (by kernel_rfl) trivial fun a w h => then_normal (wp_ret (then_ret ?_))
  exact at_return (0, ()) [] h (by kernel_rfl) trivial (congrArg (fun z => (z, ())) (show (0) = rndN x0 x1 x2 from by first | rfl | (unfold rndN; rw [if_neg (neT h1)])))
 ·replace h1 : (inR x2 1 1000000000000) = true := notF h1
  have hvh1 := inR_t h1
  refine wp_skip (then_normal (wp_seq ?_))
  refine at_regq [{}, {}, { ids := [1] }] { ts := [2, 6, 7], os := [] } [pKey x0 ([x1, 71])] gamOK hT h (by kernel_rfl) ⟨(by (show _ ≤ _; simp)), trivial⟩ fun a w h => then_normal (wp_seq ?_)
  refine at_regq [{}, {}, { nw := true }] { ts := [6], os := [] } [I64 ((keyed x0 ([x1, 71])) * (keyed x0 ([x1, 71]))), (2147483647 : Int) ≠ 0, (x2 : Int) ≠ 0] gamOK hT h (by kernel_rfl) ⟨⟨by (have hA0 := mul_f (keyed x0 ([x1, 71])) (keyed x0 ([x1, 71])); first | omega | (simp only [lsA]; omega) | (simp <;> omega)), by (have hA0 := mul_f (keyed x0 ([x1, 71])) (keyed x0 ([x1, 71])); first | omega | (simp only [lsA]; omega) | (simp <;> omega))⟩, (by first | omega | (simp only [lsA]; omega) | (simp <;> omega)), (by first | omega | (simp only [lsA]; omega) | (simp <;> omega)), trivial⟩ fun a w h => then_normal (wp_ret ?_)
  exact at_return ((Int.tmod (Int.tmod ((keyed x0 ([x1, 71])) * (keyed x0 ([x1, 71]))) 2147483647) x2), ()) [] h (by kernel_rfl) trivial (congrArg (fun z => (z, ())) (show ((Int.tmod (Int.tmod ((keyed x0 ([x1, 71])) * (keyed x0 ([x1, 71]))) 2147483647) x2)) = rndN x0 x1 x2 from by first | rfl | (unfold rndN; rw [if_pos h1])))
theorem rndN_el (s i : Int) : LA.El (rndN s i 1019) := by
 have hkb := keyed_bd s ([i, 71])
 have hm := mul_f (keyed s ([i, 71])) (keyed s ([i, 71]))
 have h1 := tmod_f (keyed s ([i, 71]) * keyed s ([i, 71])) 2147483647 (by decide)
 have h2 := tmod_f ((keyed s ([i, 71]) * keyed s ([i, 71])).tmod 2147483647) 1019 (by decide)
 unfold rndN LA.El
 rw [if_pos (show inR 1019 1 1000000000000 = true from rfl)]
 omega
def unitL (n : Nat) (k : Int) : List Int := (List.range n).map fun (j : Nat) => if (j : Int) = k then 1 else 0
theorem unitL_snoc (n : Nat) (k : Int) : unitL (n + 1) k = unitL n k ++ [if (n : Int) = k then 1 else 0] := by unfold unitL; rw [List.range_succ, List.map_append]; rfl
theorem unitL_len (n : Nat) (k : Int) : (unitL n k).length = n := by simp [unitL]
theorem unitL_set {n : Nat} {k : Int} (h0 : 0 ≤ k) (h : k < n) : List.set (List.replicate n (0 : Int)) k.toNat 1 = unitL n k := by
 apply List.ext_getElem
 ·simp [unitL]
 ·intro i h1 h2
  rw [List.getElem_set]
  simp only [unitL, List.getElem_map, List.getElem_range, List.getElem_replicate]
  by_cases e : k.toNat = i
  ·rw [if_pos e, if_pos (by omega)]
  ·rw [if_neg e, if_neg (by omega)]
def unitV (w i : Int) : List Int := if inR w 0 40 = true ∧ inR i 0 (w - 1) = true then unitL w.toNat i else []
theorem unitV_y {w i : Int} (h : inR w 0 40 = true) (h2 : inR i 0 (w - 1) = true) : unitL w.toNat i = unitV w i := (if_pos ⟨h, h2⟩).symm
theorem unitV_n {w i : Int} (h : inR w 0 40 = false ∨ inR i 0 (w - 1) = false) : [] = unitV w i := by
 unfold unitV; rw [if_neg]
 rintro ⟨h1, h2⟩
 rcases h with h | h
 ·rw [h1] at h; cases h
 ·rw [h2] at h; cases h
theorem unitV_len (w i : Int) : (unitV w i).length ≤ 40 := by
 unfold unitV; split
 ·rename_i h; rw [unitL_len]; have := inR_t h.1; omega
 ·exact Nat.zero_le _
theorem unitL_ok (n : Nat) (k : Int) : LA.VokB n (unitL n k) := ⟨unitL_len n k, fun x hx => by
 obtain ⟨j, _, rfl⟩ := List.mem_map.1 hx
 unfold LA.El; split <;> omega⟩
def rndL (s : Int) (n : Nat) : List Int := (List.range n).map fun (j : Nat) => rndN s (j : Int) 1019
theorem rndL_snoc (s : Int) (n : Nat) : rndL s (n + 1) = rndL s n ++ [rndN s (n : Int) 1019] := by unfold rndL; rw [List.range_succ, List.map_append]; rfl
theorem rndL_len (s : Int) (n : Nat) : (rndL s n).length = n := by simp [rndL]
theorem rndL_at {s : Int} {n i : Nat} (h : i < n) : (rndL s n).getD i 0 = rndN s (i : Int) 1019 := by rw [getD_of_lt (by rw [rndL_len]; exact h)]; simp [rndL]
theorem rndL_zero (s : Int) (n : Nat) : List.replicate n (0 : Int) = copyTo 0 (rndL s n) 0 := by
 have e := copyTo_zero (z := (0 : Int)) (xs := rndL s n)
 rw [rndL_len] at e; exact e
theorem rndL_set {s : Int} {n i : Nat} (h : i < n) : (copyTo 0 (rndL s n) i).set i (rndN s (i : Int) 1019) = copyTo 0 (rndL s n) (i + 1) := by
 rw [← rndL_at h]; exact copyTo_set (by rw [rndL_len]; exact h)
def rndS (s w : Int) : List Int := if inR w 1 40 = true then rndL s w.toNat else []
theorem rndS_len (s w : Int) : (rndS s w).length ≤ 40 := by
 unfold rndS; split
 ·rename_i h; rw [rndL_len]; have := inR_t h; omega
 ·exact Nat.zero_le _
theorem rndS_eq {s w : Int} {i : Nat} (h : i = 0 ∨ ((i : Int) ≤ w ∧ inR w 1 40 = true)) (he : ¬ (i : Int) < w ∨ inR w 1 40 = false) : rndL s i = rndS s w := by
 unfold rndS
 cases hi : inR w 1 40 with
 | true =>
  rw [if_pos rfl]
  have hw := inR_t hi
  rcases he with he | he
  ·congr 1; omega
  ·rw [hi] at he; cases he
 | false =>
  rw [if_neg (by decide)]
  rcases h with h | h
  ·subst h; rfl
  ·rw [hi] at h; cases h.2
def rndV (s w : Int) : List Int := if 0 < (rndS s w).length ∧ LA.leadS (rndS s w) < 0 then (rndS s w).set 0 1 else rndS s w
theorem rndV_1 {s w : Int} (h : inR w 1 40 = true) (h2 : LA.leadS (rndL s w.toNat) < 0) : (rndL s w.toNat).set 0 1 = rndV s w := by
 unfold rndV rndS; rw [if_pos h, if_pos ⟨by rw [rndL_len]; have := inR_t h; omega, h2⟩]
theorem rndV_2 {s w : Int} (h : inR w 1 40 = true) (h2 : ¬ LA.leadS (rndL s w.toNat) < 0) : rndL s w.toNat = rndV s w := by
 unfold rndV rndS; rw [if_pos h, if_neg (fun e => h2 e.2)]
theorem rndV_0 {s w : Int} (h : inR w 1 40 = false) : [] = rndV s w := by
 unfold rndV rndS; rw [h]; simp
theorem rndV_len (s w : Int) : (rndV s w).length ≤ 40 := by
 have := rndS_len s w
 unfold rndV; split
 ·rw [List.length_set]; exact this
 ·exact this
theorem rndV_at {s w : Int} (h : 1 ≤ w ∧ w ≤ 40) : (rndV s w).length = w.toNat := by
 have e : rndS s w = rndL s w.toNat := if_pos (inR_true h)
 unfold rndV; rw [e]; split
 ·rw [List.length_set, rndL_len]
 ·rw [rndL_len]
theorem rndV_ok {s w : Int} (h : 1 ≤ w ∧ w ≤ 40) : LA.VokB w.toNat (rndV s w) := by
 refine ⟨rndV_at h, fun x hx => ?_⟩
 have e : rndS s w = rndL s w.toNat := if_pos (inR_true h)
 have hl : ∀ y ∈ rndL s w.toNat, LA.El y := fun y hy => by
  obtain ⟨j, _, rfl⟩ := List.mem_map.1 hy
  exact rndN_el _ _
 unfold rndV at hx; rw [e] at hx
 split at hx
 ·rcases List.mem_or_eq_of_mem_set hx with hx | hx
  ·exact hl x hx
  ·rw [hx]; unfold LA.El; omega
 ·exact hl x hx
def combTo (vs : List (List Int)) (cs : List Int) : Nat → List Int
 | 0 => List.replicate (vs.getD 0 []).length 0
 | i + 1 => LA.addS (combTo vs cs i) (vs.getD i []) (cs.getD i 0)
def combS (vs : List (List Int)) (cs : List Int) : List Int := combTo vs cs vs.length
abbrev cvB (vs : List (List Int)) (v : List Int) : Bool := validV v && decide (v.length = (vs.getD 0 []).length)
theorem cvB_ok {vs : List (List Int)} {v : List Int} (h : cvB vs v = true) : LA.VokB (vs.getD 0 []).length v := by
 unfold cvB at h; rw [Bool.and_eq_true] at h
 exact ⟨of_decide_eq_true h.2, (validV_t h.1).2.1⟩
theorem cvB_40 {vs : List (List Int)} {v : List Int} (h : cvB vs v = true) : (vs.getD 0 []).length ≤ 40 := by
 unfold cvB at h; rw [Bool.and_eq_true] at h
 have h1 := of_decide_eq_true h.2
 have := (validV_t h.1).1; omega
theorem combTo_ok {n : Nat} {vs : List (List Int)} {cs : List Int} (hn : (vs.getD 0 []).length = n) (hc : ∀ j, 0 ≤ cs.getD j 0 ∧ cs.getD j 0 ≤ 1018) : ∀ i, (∀ j, j < i → LA.VokB n (vs.getD j [])) → LA.VokB n (combTo vs cs i)
 | 0, _ => by
  refine ⟨by simp only [combTo]; rw [List.length_replicate, hn], fun x hx => ?_⟩
  simp only [combTo] at hx
  rw [(List.mem_replicate.1 hx).2]; unfold LA.El; omega
 | i + 1, h => (LA.addS_ok (combTo_ok hn hc i (fun j hj => h j (by omega))) (h i (by omega)) (hc i)).1
def combV (vs : List (List Int)) (cs : List Int) : List Int := if (¬ vs.length = 0 ∧ vs.length = cs.length) ∧ validV cs = true ∧ vs.all (cvB vs) = true then combS vs cs else []
theorem combV_y {vs : List (List Int)} {cs : List Int} (h1 : ¬ vs.length = 0) (h2 : vs.length = cs.length) (h3 : validV cs = true) (h4 : vs.all (cvB vs) = true) : combS vs cs = combV vs cs := (if_pos ⟨⟨h1, h2⟩, h3, h4⟩).symm
theorem combV_n {vs : List (List Int)} {cs : List Int} (h : vs.length = 0 ∨ ¬ vs.length = cs.length ∨ validV cs = false ∨ vs.all (cvB vs) = false) : [] = combV vs cs := by
 unfold combV; rw [if_neg]
 rintro ⟨⟨h1, h2⟩, h3, h4⟩
 rcases h with h | h | h | h
 ·exact h1 h
 ·exact h h2
 ·rw [h3] at h; cases h
 ·rw [h4] at h; cases h
theorem combV_len (vs : List (List Int)) (cs : List Int) : (combV vs cs).length ≤ 40 := by
 unfold combV; split
 ·rename_i h
  have hp := List.all_eq_true.1 h.2.2
  have h0 := hp _ (getD_mem (z := []) (show 0 < vs.length by have := h.1.1; omega))
  have := (combTo_ok (n := (vs.getD 0 []).length) (cs := cs) rfl (validV_t h.2.1).2.2 vs.length (fun j hj => cvB_ok (hp _ (getD_mem hj)))).1
  have := cvB_40 h0
  unfold combS; omega
 ·exact Nat.zero_le _
theorem combV_pos {vs : List (List Int)} {cs : List Int} (h : ¬ (combV vs cs).length = 0) : 0 < vs.length := by
 rcases Nat.eq_zero_or_pos vs.length with h0 | h0
 ·rw [← combV_n (.inl h0)] at h; exact absurd rfl h
 ·exact h0
def combP (vs : List (List Int)) (cs : List Int) : Prop := (0 < vs.length ∧ vs.length ≤ cs.length ∧ (vs.getD 0 []).length ≤ 40) ∧ (∀ j, j < vs.length → LA.VokB (vs.getD 0 []).length (vs.getD j [])) ∧ ∀ j, 0 ≤ cs.getD j 0 ∧ cs.getD j 0 ≤ 1018

abbrev Q_spec_Combine := (fun (x0 : (List (List Int))) (x1 : (List Int)) => Sh.fit s24 x0 ∧ Sh.fit s27 x1)
def S_spec_Combine : Sum := { fid := 60, dom := [s24, s27], cod := [s27], dp := true, fz := false, pre := fun x => Q_spec_Combine x.1 x.2.1, g := fun x => ((combV x.1 x.2.1), ()) }
def S_spec_Combine_tab : List (Nat × Sum) := [(31, S_spec_IsValidVector), (111, S_spec_AddScaled)]
theorem S_spec_Combine_ok : FnOK Try.prog 60 S_spec_Combine := by
 refine at_enter 64 (fun x => ⟨[(0, aF s27 x.1), (1, aF (.int 3) x.2.1)], []⟩) Try.func60 rfl (by kernel_rfl) (fun x => rfl) ?_
 rintro w0 Z0 ⟨x0, x1, u⟩ a w
 revert x0 x1
 intro (x0 : (List (List Int))) (x1 : (List Int)) hpre hlens h
 replace hpre : Q_spec_Combine x0 x1 := hpre
 have hT : TabOK Try.prog S_spec_Combine_tab := (.cons S_spec_IsValidVector_ok (.cons S_spec_AddScaled_ok .nil))
 obtain ⟨hf0, hf1⟩ := hpre
 have hn0_1 : List.length x0 ≤ 1073741824 := hf0.1
 have hn1_2 : List.length x1 ≤ 1073741824 := hf1.1
 refine wp_seq ?_
 refine at_regq [] { ts := [0, 1, 4], os := [] } [] gamOK hT h (by kernel_rfl) trivial fun a w h => then_normal (wp_seq (wp_seq ?_))
 by_cases h1 : ((List.length x0 : Nat) : Int) = 0
 ·refine at_regq [{}, {}, { hint := some (aB true) }] { ts := [0, 1, 4, 21], os := [] } [(AV.p (.c (.v (.bool (decide (((List.length x0 : Nat) : Int) = 0))))) = AV.p (.c (.v (.bool true))))] gamOK hT h (by kernel_rfl) ⟨hint_bool (decide_eq_true h1), trivial⟩ fun a w h => then_normal ?_
  refine at_test true h (by kernel_rfl) (fun hh => ?_) (fun hh => nomatch hh)
  refine wp_seq ?_
  refine at_regq [{ ids := [1] }] { ts := [0, 1, 4], os := [1] } [] gamOK hT h (by kernel_rfl) trivial fun a w h => then_normal (wp_ret (then_ret ?_))
  exact at_return (([] : List Int), ()) [] h (by kernel_rfl) trivial (congrArg (fun z => (z, ())) (show (([] : List Int)) = combV x0 x1 from by first | exact combV_n (by first | (left; omega) | (right; left; omega) | (right; right; left; assumption) | (right; right; right; assumption)) | (rw [← combV_y (by omega) (by omega) (by assumption) (all_of (z := []) (i := i) (by omega) hok0.2)]; show _ = combTo x0 x1 (List.length x0); rw [show List.length x0 = i by omega]; done) | exact combV_n (Or.inr (Or.inr (Or.inr (all_at (z := []) (i := i) (by omega) (by (show ((validV _) && _) = false; rw [Bool.and_eq_false_iff]; first | (left; assumption) | (right; exact decide_eq_false (by omega))))))))))
 ·by_cases h2 : ((List.length x0 : Nat) : Int) = ((List.length x1 : Nat) : Int)
  ·refine at_regq [{}, {}, { hint := some (aB false) }, {}, {}, {}, {}, {}, { hint := some (aB false) }] { ts := [0, 1, 4, 21], os := [] } [(AV.p (.c (.v (.bool (decide (((List.length x0 : Nat) : Int) = 0))))) = AV.p (.c (.v (.bool false)))), (AV.p (.c (.v (.bool (!decide (((List.length x0 : Nat) : Int) = ((List.length x1 : Nat) : Int)))))) = AV.p (.c (.v (.bool false)))), Q_spec_IsValidVector x1] gamOK hT h (by kernel_rfl) ⟨hint_bool (decide_eq_false h1), hint_bool (ndT h2), (by exact hf1), trivial⟩ fun a w h => then_normal ?_
   refine at_test (!(validV x1)) h (by kernel_rfl) (fun h3 => ?_) (fun h3 => ?_)
   ·replace h3 : (validV x1) = false := notT h3
    refine wp_seq ?_
    refine at_regq [{ ids := [1] }] { ts := [0, 1, 4], os := [1] } [] gamOK hT h (by kernel_rfl) trivial fun a w h => then_normal (wp_ret (then_ret ?_))
    exact at_return (([] : List Int), ()) [] h (by kernel_rfl) trivial (congrArg (fun z => (z, ())) (show (([] : List Int)) = combV x0 x1 from by first | exact combV_n (by first | (left; omega) | (right; left; omega) | (right; right; left; assumption) | (right; right; right; assumption)) | (rw [← combV_y (by omega) (by omega) (by assumption) (all_of (z := []) (i := i) (by omega) hok0.2)]; show _ = combTo x0 x1 (List.length x0); rw [show List.length x0 = i by omega]; done) | exact combV_n (Or.inr (Or.inr (Or.inr (all_at (z := []) (i := i) (by omega) (by (show ((validV _) && _) = false; rw [Bool.and_eq_false_iff]; first | (left; assumption) | (right; exact decide_eq_false (by omega))))))))))
   ·replace h3 : (validV x1) = true := notF h3
    have hvh3 := validV_t h3
    refine wp_skip (then_normal (wp_seq ?_))
    refine at_regq [{}, {}, {}, {}, { ids := [2] }] { ts := [0, 1, 4, 5], os := [2] } [(0 : Int) ≤ 0 ∧ 0 < ((List.length x0 : Nat) : Int), (0 : Int) ≤ ((List.length (x0.getD 0 []) : Nat) : Int) ∧ ((List.length (x0.getD 0 []) : Nat) : Int) = ((List.length (x0.getD 0 []) : Nat) : Int) ∧ ((List.length (x0.getD 0 []) : Nat) : Int) * (8 : Nat) ≤ (140737488355328 : Int)] gamOK hT h (by kernel_rfl) ⟨(by refine ⟨?_, ?_⟩ <;> (first | omega | (simp only [lsA]; omega) | (simp <;> omega))), (by refine ⟨?_, ?_, ?_⟩ <;> ((have hA0 := mul_f ((List.length (x0.getD 0 []) : Nat) : Int) (8 : Nat); have hL1 := (show List.length (x0.getD 0 []) ≤ 1073741824 from ((Sh.fit_getD hf0 0)).1); first | omega | (simp only [lsA]; omega) | (simp <;> omega)))), trivial⟩ fun a w h => then_normal (wp_seq (wp_seq ?_))
    refine at_regq [] { ts := [0, 1, 4, 5, 6], os := [2] } [] gamOK hT h (by kernel_rfl) trivial fun a w h => then_normal (wp_block ?_)
    replace h := at_out (σ' := ⟨[(0, aF s27 x0), (1, aF (.int 3) x1), (4, .p (.c (cN))), (5, aS 2), (6, aI 0)], [(2, oR (.int 3) (List.replicate (List.length (x0.getD 0 [])) (0 : Int)))]⟩) { ts := [0, 1, 4, 5, 6], os := [2] } h (by kernel_rfl)
    refine at_loop (fun i : Nat => (⟨[(0, aF s27 x0), (1, aF (.int 3) x1), (4, .p (.c (cN))), (5, aS 2), (6, aI ((i : Nat) : Int))], [(2, oR (.int 3) (combTo x0 x1 i))]⟩ : St)) (fun i => (i ≤ List.length x0 ∧ allTo1 (cvB x0) x0 [] i)) (fun i => List.length x0 - i) (0) h (st_congr2 (fun (d0 : List Int) (d1 : Int) => (⟨[(0, aF s27 x0), (1, aF (.int 3) x1), (4, .p (.c (cN))), (5, aS 2), (6, aI d1)], [(2, oR (.int 3) d0)]⟩ : St)) (show ((List.replicate (List.length (x0.getD 0 [])) (0 : Int)) : List Int) = (combTo x0 x1 (0)) from by first | with_reducible rfl | (rfl) | rfl) (show (0 : Int) = (((0) : Nat) : Int) from by first | with_reducible rfl | (rfl) | rfl)) (by exact ⟨Nat.zero_le _, allTo1_zero⟩) ?_
    intro i a w hok0 h
    refine wp_seq (wp_seq ?_)
    refine at_regq [] { ts := [0, 1, 4, 5, 6, 31], os := [2] } [] gamOK hT h (by kernel_rfl) trivial fun a w h => then_normal ?_
    refine at_test (decide (((i : Nat) : Int) < ((List.length x0 : Nat) : Int))) h (by kernel_rfl) (fun h4 => ?_) (fun h4 => ?_)
    ·replace h4 : ((i : Nat) : Int) < ((List.length x0 : Nat) : Int) := of_decide_eq_true h4
     have hvr := (validV_t (v := x1) (by assumption)).2.2
     have hck := hvr i
     refine wp_skip (then_normal (wp_seq (wp_block (wp_seq (wp_seq ?_)))))
     rcases Bool.eq_false_or_eq_true (!(validV (x0.getD i []))) with h5 | h5
     ·have hzh5 : (validV (x0.getD i [])) = false := notT h5
      refine at_anyq [{}, {}, {}, {}, {}, { hint := some (aB true) }, {}, {}, {}, {}, {}, {}, {}, {}, {}, {}, {}, {}] { ts := [0, 1, 4, 5, 6, 41, 42, 43, 44, 45, 46, 47, 48, 49, 50, 51], os := [2] } [(0 : Int) ≤ ((i : Nat) : Int) ∧ ((i : Nat) : Int) < ((List.length x0 : Nat) : Int), Q_spec_IsValidVector (x0.getD i []), (AV.p (.c (.v (.bool (!(validV (x0.getD i [])))))) = AV.p (.c (.v (.bool true))))] gamOK hT mixed h (by kernel_rfl) ⟨(by refine ⟨?_, ?_⟩ <;> (first | omega | (simp only [lsA]; omega) | (simp <;> omega))), (by exact (Sh.fit_getD hf0 i)), hint_bool (h5), trivial⟩ fun a w h => then_normal ?_
      refine at_test true h (by kernel_rfl) (fun hh => ?_) (fun hh => nomatch hh)
      refine wp_seq ?_
      refine at_regq [{ ids := [3] }] { ts := [0, 1, 4, 5, 6, 41, 42, 43, 44, 45, 46, 47, 48, 49, 50], os := [2, 3] } [] gamOK hT h (by kernel_rfl) trivial fun a w h => then_normal (wp_ret (then_ret (in_ret (then_ret (then_ret (in_ret (then_ret ?_)))))))
      exact at_return (([] : List Int), ()) [] h (by kernel_rfl) trivial (congrArg (fun z => (z, ())) (show (([] : List Int)) = combV x0 x1 from by first | exact combV_n (by first | (left; omega) | (right; left; omega) | (right; right; left; assumption) | (right; right; right; assumption)) | (rw [← combV_y (by omega) (by omega) (by assumption) (all_of (z := []) (i := i) (by omega) hok0.2)]; show _ = combTo x0 x1 (List.length x0); rw [show List.length x0 = i by omega]; done) | exact combV_n (Or.inr (Or.inr (Or.inr (all_at (z := []) (i := i) (by omega) (by (show ((validV _) && _) = false; rw [Bool.and_eq_false_iff]; first | (left; assumption) | (right; exact decide_eq_false (by omega))))))))))
     ·have hzh5 : (validV (x0.getD i [])) = true := notF h5
      have hvh5 := validV_t (notF h5)
      refine at_anyq [{}, {}, {}, {}, {}, { hint := some (aB false) }, {}, {}, {}, {}, {}, {}, {}, {}, {}, {}, {}, {}] { ts := [0, 1, 4, 5, 6, 41, 42, 43, 44, 45, 46, 47, 48, 49, 50, 51], os := [2] } [(0 : Int) ≤ ((i : Nat) : Int) ∧ ((i : Nat) : Int) < ((List.length x0 : Nat) : Int), Q_spec_IsValidVector (x0.getD i []), (AV.p (.c (.v (.bool (!(validV (x0.getD i [])))))) = AV.p (.c (.v (.bool false)))), (0 : Int) ≤ ((i : Nat) : Int) ∧ ((i : Nat) : Int) < ((List.length x0 : Nat) : Int), (0 : Int) ≤ 0 ∧ 0 < ((List.length x0 : Nat) : Int)] gamOK hT mixed h (by kernel_rfl) ⟨(by refine ⟨?_, ?_⟩ <;> (first | omega | (simp only [lsA]; omega) | (simp <;> omega))), (by exact (Sh.fit_getD hf0 i)), hint_bool (h5), (by refine ⟨?_, ?_⟩ <;> (first | omega | (simp only [lsA]; omega) | (simp <;> omega))), (by refine ⟨?_, ?_⟩ <;> (first | omega | (simp only [lsA]; omega) | (simp <;> omega))), trivial⟩ fun a w h => then_normal ?_
      refine at_test (!decide (((List.length (x0.getD i []) : Nat) : Int) = ((List.length (x0.getD 0 []) : Nat) : Int))) h (by kernel_rfl) (fun h6 => ?_) (fun h6 => ?_)
      ·replace h6 : ¬ (((List.length (x0.getD i []) : Nat) : Int) = ((List.length (x0.getD 0 []) : Nat) : Int)) := of_decide_eq_false (notT h6)
       refine wp_seq ?_
       refine at_regq [{ ids := [3] }] { ts := [0, 1, 4, 5, 6, 41, 42, 43, 44, 45, 46, 47, 48, 49, 50], os := [2, 3] } [] gamOK hT h (by kernel_rfl) trivial fun a w h => then_normal (wp_ret (then_ret (in_ret (then_ret (then_ret (in_ret (then_ret ?_)))))))
       exact at_return (([] : List Int), ()) [] h (by kernel_rfl) trivial (congrArg (fun z => (z, ())) (show (([] : List Int)) = combV x0 x1 from by first | exact combV_n (by first | (left; omega) | (right; left; omega) | (right; right; left; assumption) | (right; right; right; assumption)) | (rw [← combV_y (by omega) (by omega) (by assumption) (all_of (z := []) (i := i) (by omega) hok0.2)]; show _ = combTo x0 x1 (List.length x0); rw [show List.length x0 = i by omega]; done) | exact combV_n (Or.inr (Or.inr (Or.inr (all_at (z := []) (i := i) (by omega) (by (show ((validV _) && _) = false; rw [Bool.and_eq_false_iff]; first | (left; assumption) | (right; exact decide_eq_false (by omega))))))))))
      ·replace h6 : ((List.length (x0.getD i []) : Nat) : Int) = ((List.length (x0.getD 0 []) : Nat) : Int) := of_decide_eq_true (notF h6)
       refine wp_skip (then_normal ?_)
       refine at_anyq [{}, {}, {}, {}, {}, {}, {}, {}, {}, { ids := [4] }, {}] { ts := [0, 1, 4, 5, 6, 41, 42, 43, 44, 45, 46, 47, 48, 49, 50], os := [4] } [(0 : Int) ≤ ((i : Nat) : Int) ∧ ((i : Nat) : Int) < ((List.length x0 : Nat) : Int), (0 : Int) ≤ ((i : Nat) : Int) ∧ ((i : Nat) : Int) < ((List.length x1 : Nat) : Int), Q_spec_AddScaled (combTo x0 x1 i) (x0.getD i []) (x1.getD i 0)] gamOK hT mixed h (by kernel_rfl) ⟨(by refine ⟨?_, ?_⟩ <;> (first | omega | (simp only [lsA]; omega) | (simp <;> omega))), (by refine ⟨?_, ?_⟩ <;> (first | omega | (simp only [lsA]; omega) | (simp <;> omega))), (by (have hci : cvB x0 (x0.getD i []) = true := (by (show ((validV _) && _) = true; rw [Bool.and_eq_true]; exact ⟨by assumption, decide_eq_true (by omega)⟩)); have hcv := cvB_ok hci; have hco := combTo_ok (n := List.length (x0.getD 0 [])) (vs := x0) (cs := x1) rfl hvr i (fun j hj => cvB_ok (hok0.2 j hj)); exact ⟨fitV hco (cvB_40 hci), fitV hcv (cvB_40 hci)⟩)), trivial⟩ fun a w h => in_normal (then_normal ?_)
       refine at_regq [{}, { nw := true }] { ts := [0, 1, 4, 5, 6, 41, 42, 43, 44, 45, 46, 47, 48, 49, 50], os := [4] } [I64 (((i : Nat) : Int) + 1)] gamOK hT h (by kernel_rfl) ⟨⟨by first | omega | (simp only [lsA]; omega) | (simp <;> omega), by first | omega | (simp only [lsA]; omega) | (simp <;> omega)⟩, trivial⟩ fun a w h => ?_
       replace h := at_out (σ' := ⟨[(0, aF s27 x0), (1, aF (.int 3) x1), (4, .p (.c (cN))), (5, aS 2), (6, aI (((i : Nat) : Int) + 1))], [(2, oR (.int 3) (addV (combTo x0 x1 i) (x0.getD i []) (x1.getD i 0)))]⟩) { ts := [0, 1, 4, 5, 6], os := [4], rn := [(4, 2)] } h (by kernel_rfl)
       exact ⟨i + 1, at_eq h (st_congr2 (fun (d0 : List Int) (d1 : Int) => (⟨[(0, aF s27 x0), (1, aF (.int 3) x1), (4, .p (.c (cN))), (5, aS 2), (6, aI d1)], [(2, oR (.int 3) d0)]⟩ : St)) (show ((addV (combTo x0 x1 i) (x0.getD i []) (x1.getD i 0)) : List Int) = (combTo x0 x1 (i + 1)) from by first | with_reducible rfl | ((have hci : cvB x0 (x0.getD i []) = true := (by (show ((validV _) && _) = true; rw [Bool.and_eq_true]; exact ⟨by assumption, decide_eq_true (by omega)⟩)); have hcv := cvB_ok hci; have hco := combTo_ok (n := List.length (x0.getD 0 [])) (vs := x0) (cs := x1) rfl hvr i (fun j hj => cvB_ok (hok0.2 j hj)); rw [addV_L hco hcv (cvB_40 hci) (by omega)]; rfl)) | rfl) (show (((i : Nat) : Int) + 1 : Int) = (((i + 1) : Nat) : Int) from by first | with_reducible rfl | (omega) | rfl)), (by exact ⟨by omega, allTo1_succ hok0.2 (by (show ((validV _) && _) = true; rw [Bool.and_eq_true]; exact ⟨by assumption, decide_eq_true (by omega)⟩))⟩), (by omega)⟩
    ·replace h4 : ¬ (((i : Nat) : Int) < ((List.length x0 : Nat) : Int)) := of_decide_eq_false h4
     refine wp_exit (then_exit (then_exit (in_hit (then_normal (wp_seq ?_)))))
     refine at_regq [] { ts := [4], os := [2] } [] gamOK hT h (by kernel_rfl) trivial fun a w h => then_normal (wp_ret ?_)
     exact at_return ((combTo x0 x1 i), ()) [] h (by kernel_rfl) trivial (congrArg (fun z => (z, ())) (show ((combTo x0 x1 i)) = combV x0 x1 from by first | exact combV_n (by first | (left; omega) | (right; left; omega) | (right; right; left; assumption) | (right; right; right; assumption)) | (rw [← combV_y (by omega) (by omega) (by assumption) (all_of (z := []) (i := i) (by omega) hok0.2)]; show _ = combTo x0 x1 (List.length x0); rw [show List.length x0 = i by omega]; done) | exact combV_n (Or.inr (Or.inr (Or.inr (all_at (z := []) (i := i) (by omega) (by (show ((validV _) && _) = false; rw [Bool.and_eq_false_iff]; first | (left; assumption) | (right; exact decide_eq_false (by omega))))))))))
  ·refine at_regq [{}, {}, { hint := some (aB false) }, {}, {}, {}, {}, {}, { hint := some (aB true) }] { ts := [0, 1, 4, 21], os := [] } [(AV.p (.c (.v (.bool (decide (((List.length x0 : Nat) : Int) = 0))))) = AV.p (.c (.v (.bool false)))), (AV.p (.c (.v (.bool (!decide (((List.length x0 : Nat) : Int) = ((List.length x1 : Nat) : Int)))))) = AV.p (.c (.v (.bool true))))] gamOK hT h (by kernel_rfl) ⟨hint_bool (decide_eq_false h1), hint_bool (ndF h2), trivial⟩ fun a w h => then_normal ?_
   refine at_test true h (by kernel_rfl) (fun hh => ?_) (fun hh => nomatch hh)
   refine wp_seq ?_
   refine at_regq [{ ids := [1] }] { ts := [0, 1, 4], os := [1] } [] gamOK hT h (by kernel_rfl) trivial fun a w h => then_normal (wp_ret (then_ret ?_))
   exact at_return (([] : List Int), ()) [] h (by kernel_rfl) trivial (congrArg (fun z => (z, ())) (show (([] : List Int)) = combV x0 x1 from by first | exact combV_n (by first | (left; omega) | (right; left; omega) | (right; right; left; assumption) | (right; right; right; assumption)) | (rw [← combV_y (by omega) (by omega) (by assumption) (all_of (z := []) (i := i) (by omega) hok0.2)]; show _ = combTo x0 x1 (List.length x0); rw [show List.length x0 = i by omega]; done) | exact combV_n (Or.inr (Or.inr (Or.inr (all_at (z := []) (i := i) (by omega) (by (show ((validV _) && _) = false; rw [Bool.and_eq_false_iff]; first | (left; assumption) | (right; exact decide_eq_false (by omega))))))))))

def codePk (g : T26) (cs : List Int) : T42 × Bool := if validG g = true ∧ validV cs = true ∧ cs.length = g.2.length then ((g.1, cs, combV g.2 cs), true) else ((0, [], []), false)
theorem codePk_y {g : T26} {cs : List Int} (h1 : validG g = true) (h2 : validV cs = true) (h3 : cs.length = g.2.length) : ((g.1, cs, combV g.2 cs), true) = codePk g cs := (if_pos ⟨h1, h2, h3⟩).symm
theorem codePk_n {g : T26} {cs : List Int} (h : validG g = false ∨ validV cs = false ∨ ¬ cs.length = g.2.length) : ((0, [], []), false) = codePk g cs := by
 unfold codePk; rw [if_neg]
 rintro ⟨h1, h2, h3⟩
 rcases h with h | h | h
 ·rw [h1] at h; cases h
 ·rw [h2] at h; cases h
 ·exact h h3
theorem genP {g : T26} (h : validG g = true) {cs : List Int} (hc : LA.VokB g.2.length cs) : combP g.2 cs := by
 have h1 := validG_t h
 have hm := validM_t h1.2.2.1
 have hk := validM_ok h1.2.2.1
 have h0 := (validV_t (hm.2 _ (getD_mem (z := []) (show 0 < g.2.length by omega))).1).1
 exact ⟨⟨by omega, by have := hc.1; omega, h0⟩, fun j hj => hk _ (LA.getD_in hj), fun j => hc.rng j⟩
theorem genC {g : T26} (h : validG g = true) {cs : List Int} (hc : LA.VokB g.2.length cs) : combV g.2 cs = combS g.2 cs := by
 have h1 := validG_t h
 have hm := validM_t h1.2.2.1
 refine (combV_y (by omega) hc.1.symm (validV_of hc (by omega)) ?_).symm
 rw [List.all_eq_true]; intro v hv
 have h2 := hm.2 v hv
 unfold cvB
 rw [Bool.and_eq_true]; exact ⟨h2.1, decide_eq_true h2.2⟩
abbrev Q_spec_CodePacket := (fun (x0 : T26) (x1 : (List Int)) => Sh.fit s26 x0 ∧ Sh.fit s27 x1)
def S_spec_CodePacket : Sum := { fid := 16, dom := [s26, s27], cod := [s42, (.bool 4)], dp := true, fz := false, pre := fun x => Q_spec_CodePacket x.1 x.2.1, g := fun x => ((codePk x.1 x.2.1).1, ((codePk x.1 x.2.1).2, ())) }
def S_spec_CodePacket_tab : List (Nat × Sum) := [(59, S_spec_IsValidGeneration), (31, S_spec_IsValidVector), (60, S_spec_Combine)]
theorem S_spec_CodePacket_ok : FnOK Try.prog 16 S_spec_CodePacket := by
 refine at_enter 33 (fun x => ⟨[(0, aG [cI x.1.1, .ro s27 x.1.2]), (1, aF (.int 3) x.2.1)], []⟩) Try.func16 rfl (by kernel_rfl) (fun x => rfl) ?_
 rintro w0 Z0 ⟨x0, x1, u⟩ a w
 revert x0 x1
 intro (x0 : T26) (x1 : (List Int)) hpre hlens h
 replace hpre : Q_spec_CodePacket x0 x1 := hpre
 have hT : TabOK Try.prog S_spec_CodePacket_tab := (.cons S_spec_IsValidGeneration_ok (.cons S_spec_IsValidVector_ok (.cons S_spec_Combine_ok .nil)))
 obtain ⟨hf0, hf1⟩ := hpre
 have hn0_1 : List.length x0.2 ≤ 1073741824 := hf0.2.1
 have hn1_2 : List.length x1 ≤ 1073741824 := hf1.1
 refine wp_seq ?_
 refine at_regq [{ ids := [1] }, { ids := [2] }] { ts := [1, 2, 4, 5], os := [1, 2] } [] gamOK hT h (by kernel_rfl) trivial fun a w h => then_normal (wp_seq (wp_seq ?_))
 rcases Bool.eq_false_or_eq_true (!(validG x0)) with h1 | h1
 ·have hzh1 : (validG x0) = false := notT h1
  refine at_regq [{}, {}, { hint := some (aB true) }] { ts := [1, 2, 4, 5, 21], os := [1, 2] } [Q_spec_IsValidGeneration x0, (AV.p (.c (.v (.bool (!(validG x0))))) = AV.p (.c (.v (.bool true))))] gamOK hT h (by kernel_rfl) ⟨(by exact hf0), hint_bool (h1), trivial⟩ fun a w h => then_normal ?_
  refine at_test true h (by kernel_rfl) (fun hh => ?_) (fun hh => nomatch hh)
  refine wp_seq ?_
  refine at_regq [] { ts := [1, 2, 4, 5], os := [1, 2] } [] gamOK hT h (by kernel_rfl) trivial fun a w h => then_normal (wp_ret (then_ret ?_))
  exact at_return ((0, (([] : List Int), ([] : List Int))), (false, ())) [] h (by kernel_rfl) trivial (congrArg (fun z => (z.1, z.2, ())) (show (((0, (([] : List Int), ([] : List Int))), false)) = codePk x0 x1 from by first | exact codePk_n (by first | (left; assumption) | (right; left; assumption) | (right; right; omega)) | exact codePk_y (cs := x1) (by assumption) (by assumption) (by omega)))
 ·have hzh1 : (validG x0) = true := notF h1
  have hvh1 := validG_t (notF h1)
  rcases Bool.eq_false_or_eq_true (!(validV x1)) with h2 | h2
  ·have hzh2 : (validV x1) = false := notT h2
   refine at_regq [{}, {}, { hint := some (aB false) }, {}, {}, {}, { hint := some (aB true) }] { ts := [1, 2, 4, 5, 21], os := [1, 2] } [Q_spec_IsValidGeneration x0, (AV.p (.c (.v (.bool (!(validG x0))))) = AV.p (.c (.v (.bool false)))), Q_spec_IsValidVector x1, (AV.p (.c (.v (.bool (!(validV x1))))) = AV.p (.c (.v (.bool true))))] gamOK hT h (by kernel_rfl) ⟨(by exact hf0), hint_bool (h1), (by exact hf1), hint_bool (h2), trivial⟩ fun a w h => then_normal ?_
   refine at_test true h (by kernel_rfl) (fun hh => ?_) (fun hh => nomatch hh)
   refine wp_seq ?_
   refine at_regq [] { ts := [1, 2, 4, 5], os := [1, 2] } [] gamOK hT h (by kernel_rfl) trivial fun a w h => then_normal (wp_ret (then_ret ?_))
   exact at_return ((0, (([] : List Int), ([] : List Int))), (false, ())) [] h (by kernel_rfl) trivial (congrArg (fun z => (z.1, z.2, ())) (show (((0, (([] : List Int), ([] : List Int))), false)) = codePk x0 x1 from by first | exact codePk_n (by first | (left; assumption) | (right; left; assumption) | (right; right; omega)) | exact codePk_y (cs := x1) (by assumption) (by assumption) (by omega)))
  ·have hzh2 : (validV x1) = true := notF h2
   have hvh2 := validV_t (notF h2)
   refine at_regq [{}, {}, { hint := some (aB false) }, {}, {}, {}, { hint := some (aB false) }] { ts := [1, 2, 4, 5, 21], os := [1, 2] } [Q_spec_IsValidGeneration x0, (AV.p (.c (.v (.bool (!(validG x0))))) = AV.p (.c (.v (.bool false)))), Q_spec_IsValidVector x1, (AV.p (.c (.v (.bool (!(validV x1))))) = AV.p (.c (.v (.bool false))))] gamOK hT h (by kernel_rfl) ⟨(by exact hf0), hint_bool (h1), (by exact hf1), hint_bool (h2), trivial⟩ fun a w h => then_normal ?_
   refine at_test (!decide (((List.length x1 : Nat) : Int) = ((List.length x0.2 : Nat) : Int))) h (by kernel_rfl) (fun h3 => ?_) (fun h3 => ?_)
   ·replace h3 : ¬ (((List.length x1 : Nat) : Int) = ((List.length x0.2 : Nat) : Int)) := of_decide_eq_false (notT h3)
    refine wp_seq ?_
    refine at_regq [] { ts := [1, 2, 4, 5], os := [1, 2] } [] gamOK hT h (by kernel_rfl) trivial fun a w h => then_normal (wp_ret (then_ret ?_))
    exact at_return ((0, (([] : List Int), ([] : List Int))), (false, ())) [] h (by kernel_rfl) trivial (congrArg (fun z => (z.1, z.2, ())) (show (((0, (([] : List Int), ([] : List Int))), false)) = codePk x0 x1 from by first | exact codePk_n (by first | (left; assumption) | (right; left; assumption) | (right; right; omega)) | exact codePk_y (cs := x1) (by assumption) (by assumption) (by omega)))
   ·replace h3 : ((List.length x1 : Nat) : Int) = ((List.length x0.2 : Nat) : Int) := of_decide_eq_true (notF h3)
    refine wp_skip (then_normal (wp_seq ?_))
    refine at_anyq [{}, {}, { ids := [3] }, {}, { ids := [4] }, {}, {}, {}, { ids := [5] }, {}, {}, {}] { ts := [4, 5], os := [2, 4, 5] } [(List.length ([] : List Int) + List.length x1) * 8 ≤ 140737488355328, Q_spec_Combine x0.2 x1] gamOK hT mixed h (by kernel_rfl) ⟨(by first | omega | (simp only [lsA]; omega) | (simp <;> omega)), (by exact ⟨hf0.2, hf1⟩), trivial⟩ fun a w h => then_normal (wp_ret ?_)
    exact at_return ((x0.1, ((([] : List Int) ++ x1), (combV x0.2 x1))), (true, ())) [] h (by kernel_rfl) trivial (congrArg (fun z => (z.1, z.2, ())) (show (((x0.1, ((([] : List Int) ++ x1), (combV x0.2 x1))), true)) = codePk x0 x1 from by first | exact codePk_n (by first | (left; assumption) | (right; left; assumption) | (right; right; omega)) | exact codePk_y (cs := x1) (by assumption) (by assumption) (by omega)))

def and255 (z : Int) : Int := IntKind.i64.wrap ((BitVec.ofInt (IntKind.i64).bits z &&& BitVec.ofInt (IntKind.i64).bits 255).toNat : Int)
theorem and255_bd (z : Int) : 0 ≤ and255 z ∧ and255 z ≤ 255 := by
 unfold and255
 have e : (BitVec.ofInt (IntKind.i64).bits z &&& BitVec.ofInt (IntKind.i64).bits 255).toNat ≤ 255 := by
  rw [BitVec.toNat_and]
  have h2 : (BitVec.ofInt (IntKind.i64).bits 255).toNat = 255 := by decide
  rw [h2]; exact Nat.and_le_right
 rw [IntKind.wrap_i64]; omega
def lcgF (h : Int) : Int := IntKind.i64.wrap (IntKind.i64.wrap (h * 6364136223846793005) + 1442695040888963407)
def xorF (h : Int) : Int := IntKind.i64.wrap ((BitVec.ofInt (IntKind.i64).bits (Int.fdiv h (2 ^ (min (33 : Int).toNat (IntKind.i64).bits))) ^^^ BitVec.ofInt (IntKind.i64).bits (Int.fdiv h (2 ^ (min (47 : Int).toNat (IntKind.i64).bits)))).toNat : Int)
def hsF (h c : Int) : Int := IntKind.i64.wrap ((BitVec.ofInt (IntKind.i64).bits (IntKind.i64.wrap (IntKind.i64.wrap (IntKind.i64.wrap (h * 137) + c) + 11)) &&& BitVec.ofInt (IntKind.i64).bits 1073741823).toNat : Int)
def hsTo (code : List Int) : Nat → Int
 | 0 => 193017 + ((List.length code : Nat) : Int)
 | i + 1 => hsF (hsTo code i) (code.getD i 0)
def newC (code : List Int) : T109 := (code, 0, hsTo code (min (List.length code) 4000))
abbrev Q_spec_l1New := (fun (x0 : (List Int)) => Sh.fit s22 x0)
def B_spec_l1New : NS := { t := 109, s := s109, dom := [s22], pre := fun x => Q_spec_l1New x.1, g := fun x => (newC x.1) }
def S_spec_l1New : Sum := nSum 46 B_spec_l1New
def S_spec_l1New_tab : List (Nat × Sum) := []
theorem S_spec_l1New_ok : FnOK Try.prog 46 S_spec_l1New := by
 refine at_enterN (B := B_spec_l1New) 32 (fun x => ⟨[(0, aF (.u8 5) x.1)], []⟩) Try.func46 rfl (by kernel_rfl) (fun x => rfl) ?_
 rintro w0 Z0 ⟨x0, u⟩ a w
 revert x0
 intro (x0 : (List Int)) hpre hlens h
 replace h : At w0 Z0 [] 32 ⟨[(0, aF (.u8 5) x0)], []⟩ a w := h
 replace hpre : Q_spec_l1New x0 := hpre
 have hl1 : List.length x0 ≤ 9223372036854775807 := hlens.1.1
 have hu0 : u8L x0 := hlens.1.2
 have hT : TabOK Try.prog S_spec_l1New_tab := .nil
 have hf0 : Sh.fit s22 x0 := hpre
 have hn0_1 : List.length x0 ≤ 1073741824 := hf0.1
 refine wp_seq ?_
 refine at_regq [] { ts := [0, 2], os := [] } [] gamOK hT h (by kernel_rfl) trivial fun a w h => then_normal (wp_seq ?_)
 refine at_regq [{}, {}, { nw := true }] { ts := [0, 2, 3], os := [] } [I64 (193017 + ((List.length x0 : Nat) : Int))] gamOK hT h (by kernel_rfl) ⟨⟨by first | omega | (simp only [lsA]; omega) | (simp <;> omega), by first | omega | (simp only [lsA]; omega) | (simp <;> omega)⟩, trivial⟩ fun a w h => then_normal (wp_seq (wp_seq ?_))
 refine at_regq [] { ts := [0, 2, 3, 4], os := [] } [] gamOK hT h (by kernel_rfl) trivial fun a w h => then_normal (wp_block ?_)
 replace h := at_out (σ' := ⟨[(0, aF (.u8 5) x0), (2, .p (.c (.v (.pointer none)))), (3, aI (193017 + ((List.length x0 : Nat) : Int))), (4, aI 0)], []⟩) { ts := [0, 2, 3, 4], os := [] } h (by kernel_rfl)
 refine at_loop (fun i : Nat => (⟨[(0, aF (.u8 5) x0), (2, .p (.c (.v (.pointer none)))), (3, aI (hsTo x0 i)), (4, aI ((i : Nat) : Int))], []⟩ : St)) (fun i => i ≤ (min (List.length x0) 4000)) (fun i => (min (List.length x0) 4000) - i) (0) h (st_congr2 (fun (d0 : Int) (d1 : Int) => (⟨[(0, aF (.u8 5) x0), (2, .p (.c (.v (.pointer none)))), (3, aI d0), (4, aI d1)], []⟩ : St)) (show (193017 + ((List.length x0 : Nat) : Int) : Int) = (hsTo x0 (0)) from by first | with_reducible rfl | (rfl) | rfl) (show (0 : Int) = (((0) : Nat) : Int) from by first | with_reducible rfl | (rfl) | rfl)) (by omega) ?_
 intro i a w hok0 h
 have hu1 := getD_u8 hu0 i
 refine wp_seq (wp_seq ?_)
 by_cases h1 : ((i : Nat) : Int) < ((List.length x0 : Nat) : Int)
 ·refine at_regq [{}, {}, {}, { hint := some (aB true) }] { ts := [0, 2, 3, 4, 13, 14, 15], os := [] } [(AV.p (.c (.v (.bool (decide (((i : Nat) : Int) < ((List.length x0 : Nat) : Int)))))) = AV.p (.c (.v (.bool true))))] gamOK hT h (by kernel_rfl) ⟨hint_bool (decide_eq_true h1), trivial⟩ fun a w h => then_normal ?_
  refine at_test (decide (((i : Nat) : Int) < 4000)) h (by kernel_rfl) (fun h2 => ?_) (fun h2 => ?_)
  ·replace h2 : ((i : Nat) : Int) < 4000 := of_decide_eq_true h2
   refine wp_skip (then_normal (wp_seq (wp_block ?_)))
   refine at_regq [{}, {}, {}, {}, {}, {}, { hint := some (aI (x0.getD i 0)) }, {}, {}, { hint := some (aI (hsF (hsTo x0 i) (x0.getD i 0))) }] { ts := [0, 2, 3, 4, 13, 14], os := [] } [(0 : Int) ≤ ((i : Nat) : Int) ∧ ((i : Nat) : Int) < ((List.length x0 : Nat) : Int), (AV.p (.c (.v (.int .i64 (IntKind.i64.wrap ((x0.getD i 0)))))) = AV.p (.c (.v (.int .i64 ((x0.getD i 0)))))), (AV.p (.c (.v (.int .i64 (IntKind.i64.wrap ((BitVec.ofInt (IntKind.i64).bits (IntKind.i64.wrap ((IntKind.i64.wrap ((IntKind.i64.wrap ((hsTo x0 i) * 137)) + (x0.getD i 0))) + 11)) &&& BitVec.ofInt (IntKind.i64).bits 1073741823).toNat : Int))))) = AV.p (.c (.v (.int .i64 ((hsF (hsTo x0 i) (x0.getD i 0)))))))] gamOK hT h (by kernel_rfl) ⟨(by refine ⟨?_, ?_⟩ <;> (first | omega | (simp only [lsA]; omega) | (simp <;> omega))), hint_int (wrap_id ⟨by first | omega | (simp only [lsA]; omega) | (simp <;> omega), by first | omega | (simp only [lsA]; omega) | (simp <;> omega)⟩), hint_int (by rfl), trivial⟩ fun a w h => in_normal (then_normal ?_)
   refine at_regq [{}, { nw := true }] { ts := [0, 2, 3, 4, 13, 14], os := [] } [I64 (((i : Nat) : Int) + 1)] gamOK hT h (by kernel_rfl) ⟨⟨by first | omega | (simp only [lsA]; omega) | (simp <;> omega), by first | omega | (simp only [lsA]; omega) | (simp <;> omega)⟩, trivial⟩ fun a w h => ?_
   replace h := at_out (σ' := ⟨[(0, aF (.u8 5) x0), (2, .p (.c (.v (.pointer none)))), (3, aI (hsF (hsTo x0 i) (x0.getD i 0))), (4, aI (((i : Nat) : Int) + 1))], []⟩) { ts := [0, 2, 3, 4], os := [] } h (by kernel_rfl)
   exact ⟨i + 1, at_eq h (st_congr2 (fun (d0 : Int) (d1 : Int) => (⟨[(0, aF (.u8 5) x0), (2, .p (.c (.v (.pointer none)))), (3, aI d0), (4, aI d1)], []⟩ : St)) (show ((hsF (hsTo x0 i) (x0.getD i 0)) : Int) = (hsTo x0 (i + 1)) from by first | with_reducible rfl | (rfl) | rfl) (show (((i : Nat) : Int) + 1 : Int) = (((i + 1) : Nat) : Int) from by first | with_reducible rfl | (omega) | rfl)), (by omega), (by omega)⟩
  ·replace h2 : ¬ (((i : Nat) : Int) < 4000) := of_decide_eq_false h2
   refine wp_exit (then_exit ?_)
   replace h := at_out (σ' := ⟨[(0, aF (.u8 5) x0), (2, .p (.c (.v (.pointer none)))), (3, aI (hsTo x0 i))], []⟩) { ts := [0, 2, 3], os := [] } h (by kernel_rfl)
   replace h := at_eq (σ' := ⟨[(0, aF (.u8 5) x0), (2, .p (.c (.v (.pointer none)))), (3, aI (hsTo x0 (min (List.length x0) 4000)))], []⟩) h (st_congr1 (fun (d0 : Int) => (⟨[(0, aF (.u8 5) x0), (2, .p (.c (.v (.pointer none)))), (3, aI d0)], []⟩ : St)) (show ((hsTo x0 i) : Int) = (hsTo x0 (min (List.length x0) 4000)) from by first | with_reducible rfl | (rw [show i = (min (List.length x0) 4000) by omega]) | rfl))
   refine then_exit (in_hit (then_normal (wp_seq ?_)))
   refine at_regq [{}, {}, {}, { ids := [1] }] { ts := [2], os := [1] } [] gamOK hT h (by kernel_rfl) trivial fun a w h => then_normal (wp_ret ?_)
   exact at_returnN (B := B_spec_l1New) (x := (x0, ())) ((x0, (0, (hsTo x0 (min (List.length x0) 4000))))) [] h (by kernel_rfl) trivial (show (x0, (0, (hsTo x0 (min (List.length x0) 4000)))) = newC x0 from by rfl)
 ·refine at_regq [{}, {}, {}, { hint := some (aB false) }] { ts := [0, 2, 3, 4, 13, 14, 15], os := [] } [(AV.p (.c (.v (.bool (decide (((i : Nat) : Int) < ((List.length x0 : Nat) : Int)))))) = AV.p (.c (.v (.bool false))))] gamOK hT h (by kernel_rfl) ⟨hint_bool (decide_eq_false h1), trivial⟩ fun a w h => then_normal ?_
  refine at_test false h (by kernel_rfl) (fun hh => nomatch hh) (fun hh => ?_)
  refine wp_exit (then_exit ?_)
  replace h := at_out (σ' := ⟨[(0, aF (.u8 5) x0), (2, .p (.c (.v (.pointer none)))), (3, aI (hsTo x0 i))], []⟩) { ts := [0, 2, 3], os := [] } h (by kernel_rfl)
  replace h := at_eq (σ' := ⟨[(0, aF (.u8 5) x0), (2, .p (.c (.v (.pointer none)))), (3, aI (hsTo x0 (min (List.length x0) 4000)))], []⟩) h (st_congr1 (fun (d0 : Int) => (⟨[(0, aF (.u8 5) x0), (2, .p (.c (.v (.pointer none)))), (3, aI d0)], []⟩ : St)) (show ((hsTo x0 i) : Int) = (hsTo x0 (min (List.length x0) 4000)) from by first | with_reducible rfl | (rw [show i = (min (List.length x0) 4000) by omega]) | rfl))
  refine then_exit (in_hit (then_normal (wp_seq ?_)))
  refine at_regq [{}, {}, {}, { ids := [1] }] { ts := [2], os := [1] } [] gamOK hT h (by kernel_rfl) trivial fun a w h => then_normal (wp_ret ?_)
  exact at_returnN (B := B_spec_l1New) (x := (x0, ())) ((x0, (0, (hsTo x0 (min (List.length x0) 4000))))) [] h (by kernel_rfl) trivial (show (x0, (0, (hsTo x0 (min (List.length x0) 4000)))) = newC x0 from by rfl)

@[irreducible]
def byteC (x0 : T109) : T109 × Int := (if x0.2.1 < ((List.length x0.1 : Nat) : Int) then ((x0.1, (x0.2.1 + 1, (lcgF x0.2.2))), (and255 (and255 (xorF (lcgF x0.2.2)) + x0.1.getD x0.2.1.toNat 0))) else ((x0.1, (x0.2.1, (lcgF x0.2.2))), (and255 (xorF (lcgF x0.2.2)))))
abbrev Q_spec_l1Byte := (fun (x0 : T109) => 0 ≤ x0.2.1)
def B_spec_l1Byte : BS := { t := 109, s := s109, dom := [], cod := [(.int 3)], pre := fun y x => Q_spec_l1Byte y, upd := fun y x => (byteC y).1, g := fun y x => ((byteC y).2, ()) }
def S_spec_l1Byte : Sum := bSum 119 B_spec_l1Byte
def S_spec_l1Byte_tab : List (Nat × Sum) := []
theorem S_spec_l1Byte_ok : FnOK Try.prog 119 S_spec_l1Byte := by
 refine at_enterB (B := B_spec_l1Byte) 58 (fun v y x => ⟨[(0, aP 1 0)], [(1, oX 109 [.ro (.u8 5) y.1, cI y.2.1, cI y.2.2]), (2, oP 1 v)]⟩) Try.func119 rfl (by kernel_rfl) (fun v y x => rfl) ?_
 rintro w0 Z0 b0 x0 ⟨u⟩ a w
 revert x0
 intro (x0 : T109) hpre hlens0 hlens h
 replace h : At w0 Z0 [b0] 58 ⟨[(0, aP 1 0)], [(1, oX 109 [.ro (.u8 5) x0.1, cI x0.2.1, cI x0.2.2]), (2, oP 1 (Value.pointer (some ⟨b0, 0, none⟩)))]⟩ a w := h
 replace hpre : Q_spec_l1Byte x0 := hpre
 have hl1 : List.length x0.1 ≤ 9223372036854775807 := hlens0.1.1
 have hu0 : u8L x0.1 := hlens0.1.2
 have hT : TabOK Try.prog S_spec_l1Byte_tab := .nil
 have hp : (0 : Int) ≤ x0.2.1 := hpre
 refine wp_seq ?_
 refine at_regq [] { ts := [0, 2], os := [1, 2] } [] gamOK hT h (by kernel_rfl) trivial fun a w h => then_normal (wp_seq ?_)
 refine at_regq [{}, {}, {}, {}, {}, {}, { hint := some (aI (lcgF x0.2.2)) }] { ts := [0, 2], os := [1, 2] } [(AV.p (.c (.v (.int .i64 (IntKind.i64.wrap ((IntKind.i64.wrap (x0.2.2 * 6364136223846793005)) + 1442695040888963407))))) = AV.p (.c (.v (.int .i64 ((lcgF x0.2.2))))))] gamOK hT h (by kernel_rfl) ⟨hint_int (by rfl), trivial⟩ fun a w h => then_normal (wp_seq ?_)
 refine at_anyq [{}, {}, {}, {}, {}, {}, {}, {}, {}, {}, { hint := some (aI (xorF (lcgF x0.2.2))) }, { hint := some (aI (and255 (xorF (lcgF x0.2.2)))) }, {}] { ts := [0, 2, 3], os := [1, 2] } [(0 : Int) ≤ 33, (0 : Int) ≤ 47, (AV.p (.c (.v (.int .i64 (IntKind.i64.wrap ((BitVec.ofInt (IntKind.i64).bits (Int.fdiv (lcgF x0.2.2) (2 ^ (min (33 : Int).toNat (IntKind.i64).bits))) ^^^ BitVec.ofInt (IntKind.i64).bits (Int.fdiv (lcgF x0.2.2) (2 ^ (min (47 : Int).toNat (IntKind.i64).bits)))).toNat : Int))))) = AV.p (.c (.v (.int .i64 ((xorF (lcgF x0.2.2))))))), (AV.p (.c (.v (.int .i64 (IntKind.i64.wrap ((BitVec.ofInt (IntKind.i64).bits (xorF (lcgF x0.2.2)) &&& BitVec.ofInt (IntKind.i64).bits 255).toNat : Int))))) = AV.p (.c (.v (.int .i64 ((and255 (xorF (lcgF x0.2.2))))))))] gamOK hT mixed h (by kernel_rfl) ⟨(by first | omega | (simp only [lsA]; omega) | (simp <;> omega)), (by first | omega | (simp only [lsA]; omega) | (simp <;> omega)), hint_int (by rfl), hint_int (by rfl), trivial⟩ fun a w h => then_normal (wp_seq (wp_seq ?_))
 refine at_anyq [{}, {}, {}, {}, {}, {}, {}, {}, {}, {}] { ts := [0, 2, 3, 34], os := [1, 2] } [] gamOK hT mixed h (by kernel_rfl) trivial fun a w h => then_normal ?_
 refine at_test (decide (x0.2.1 < ((List.length x0.1 : Nat) : Int))) h (by kernel_rfl) (fun h1 => ?_) (fun h1 => ?_)
 ·replace h1 : x0.2.1 < ((List.length x0.1 : Nat) : Int) := of_decide_eq_true h1
  have hu1 := getD_u8 hu0 x0.2.1.toNat
  have ha1 := and255_bd (xorF (lcgF x0.2.2))
  refine wp_seq ?_
  refine at_anyq [{}, {}, {}, {}, {}, {}, {}, {}, {}, {}, {}, { hint := some (aI (x0.1.getD ((x0.2.1).toNat) 0)) }, { nw := true }, { hint := some (aI (and255 (and255 (xorF (lcgF x0.2.2)) + x0.1.getD x0.2.1.toNat 0))) }, {}] { ts := [0, 2, 3], os := [1, 2] } [(0 : Int) ≤ x0.2.1 ∧ x0.2.1 < ((List.length x0.1 : Nat) : Int), (AV.p (.c (.v (.int .i64 (IntKind.i64.wrap ((x0.1.getD ((x0.2.1).toNat) 0)))))) = AV.p (.c (.v (.int .i64 ((x0.1.getD ((x0.2.1).toNat) 0)))))), I64 ((and255 (xorF (lcgF x0.2.2))) + (x0.1.getD ((x0.2.1).toNat) 0)), (AV.p (.c (.v (.int .i64 (IntKind.i64.wrap ((BitVec.ofInt (IntKind.i64).bits ((and255 (xorF (lcgF x0.2.2))) + (x0.1.getD ((x0.2.1).toNat) 0)) &&& BitVec.ofInt (IntKind.i64).bits 255).toNat : Int))))) = AV.p (.c (.v (.int .i64 ((and255 (and255 (xorF (lcgF x0.2.2)) + x0.1.getD x0.2.1.toNat 0)))))))] gamOK hT mixed h (by kernel_rfl) ⟨(by refine ⟨?_, ?_⟩ <;> (first | omega | (simp only [lsA]; omega) | (simp <;> omega))), hint_int (wrap_id ⟨by first | omega | (simp only [lsA]; omega) | (simp <;> omega), by first | omega | (simp only [lsA]; omega) | (simp <;> omega)⟩), ⟨by first | omega | (simp only [lsA]; omega) | (simp <;> omega), by first | omega | (simp only [lsA]; omega) | (simp <;> omega)⟩, hint_int (by rfl), trivial⟩ fun a w h => then_normal ?_
  refine at_regq [{}, {}, {}, {}, {}, { nw := true }] { ts := [2, 3], os := [1, 2] } [I64 (x0.2.1 + 1)] gamOK hT h (by kernel_rfl) ⟨⟨by first | omega | (simp only [lsA]; omega) | (simp <;> omega), by first | omega | (simp only [lsA]; omega) | (simp <;> omega)⟩, trivial⟩ fun a w h => then_normal (wp_seq ?_)
  refine at_regq [] { ts := [2], os := [1, 2] } [] gamOK hT h (by kernel_rfl) trivial fun a w h => then_normal (wp_ret ?_)
  have hr2 : (((x0.1, (x0.2.1 + 1, (lcgF x0.2.2))), (and255 (and255 (xorF (lcgF x0.2.2)) + x0.1.getD x0.2.1.toNat 0))) : T109 × Int) = byteC x0 := by (unfold byteC; rw [if_pos h1])
  exact at_returnB (B := B_spec_l1Byte) (c0 := x0) (x := (())) ((x0.1, (x0.2.1 + 1, (lcgF x0.2.2)))) ((and255 (and255 (xorF (lcgF x0.2.2)) + x0.1.getD x0.2.1.toNat 0)), ()) [(Value.pointer (some ⟨b0, 0, none⟩)) = (Value.pointer (some ⟨b0, 0, none⟩))] h (by kernel_rfl) ⟨rfl, trivial⟩ (congrArg (a₁ := ((x0.1, (x0.2.1 + 1, (lcgF x0.2.2))), (and255 (and255 (xorF (lcgF x0.2.2)) + x0.1.getD x0.2.1.toNat 0)))) (a₂ := byteC x0) (fun (z : T109 × Int) => z.1) hr2) (congrArg (a₁ := ((x0.1, (x0.2.1 + 1, (lcgF x0.2.2))), (and255 (and255 (xorF (lcgF x0.2.2)) + x0.1.getD x0.2.1.toNat 0)))) (a₂ := byteC x0) (fun (z : T109 × Int) => (z.2, ())) hr2)
 ·replace h1 : ¬ (x0.2.1 < ((List.length x0.1 : Nat) : Int)) := of_decide_eq_false h1
  refine wp_skip (then_normal (wp_seq ?_))
  refine at_regq [] { ts := [2], os := [1, 2] } [] gamOK hT h (by kernel_rfl) trivial fun a w h => then_normal (wp_ret ?_)
  have hr3 : (((x0.1, (x0.2.1, (lcgF x0.2.2))), (and255 (xorF (lcgF x0.2.2)))) : T109 × Int) = byteC x0 := by (unfold byteC; rw [if_neg h1])
  exact at_returnB (B := B_spec_l1Byte) (c0 := x0) (x := (())) ((x0.1, (x0.2.1, (lcgF x0.2.2)))) ((and255 (xorF (lcgF x0.2.2))), ()) [(Value.pointer (some ⟨b0, 0, none⟩)) = (Value.pointer (some ⟨b0, 0, none⟩))] h (by kernel_rfl) ⟨rfl, trivial⟩ (congrArg (a₁ := ((x0.1, (x0.2.1, (lcgF x0.2.2))), (and255 (xorF (lcgF x0.2.2))))) (a₂ := byteC x0) (fun (z : T109 × Int) => z.1) hr3) (congrArg (a₁ := ((x0.1, (x0.2.1, (lcgF x0.2.2))), (and255 (xorF (lcgF x0.2.2))))) (a₂ := byteC x0) (fun (z : T109 × Int) => (z.2, ())) hr3)
theorem byte_bd (x : T109) : 0 ≤ (byteC x).2 ∧ (byteC x).2 ≤ 255 := by
 unfold byteC; split <;> exact and255_bd _
theorem byte_ok {x : T109} (h : 0 ≤ x.2.1) : 0 ≤ (byteC x).1.2.1 := by
 unfold byteC; split
 ·show (0 : Int) ≤ x.2.1 + 1; omega
 ·exact h

@[irreducible]
def belowC (x0 : T109) (x1 : Int) : T109 × Int := (if x1 ≤ 0 then (x0, 0) else (if x1 ≤ 256 then ((byteC x0).1, (Int.tmod (byteC x0).2 x1)) else ((byteC (byteC (byteC x0).1).1).1, (Int.tmod ((((byteC x0).2 * 65536) + ((byteC (byteC x0).1).2 * 256)) + (byteC (byteC (byteC x0).1).1).2) x1))))
abbrev Q_spec_l1Below := (fun (x0 : T109) (x1 : Int) => 0 ≤ x0.2.1)
def B_spec_l1Below : BS := { t := 109, s := s109, dom := [(.int 3)], cod := [(.int 3)], pre := fun y x => Q_spec_l1Below y x.1, upd := fun y x => (belowC y x.1).1, g := fun y x => ((belowC y x.1).2, ()) }
def S_spec_l1Below : Sum := bSum 73 B_spec_l1Below
def S_spec_l1Below_tab : List (Nat × Sum) := [(119, S_spec_l1Byte)]
theorem S_spec_l1Below_ok : FnOK Try.prog 73 S_spec_l1Below := by
 refine at_enterB (B := B_spec_l1Below) 31 (fun v y x => ⟨[(0, aP 1 0), (1, aI x.1)], [(1, oX 109 [.ro (.u8 5) y.1, cI y.2.1, cI y.2.2]), (2, oP 1 v)]⟩) Try.func73 rfl (by kernel_rfl) (fun v y x => rfl) ?_
 rintro w0 Z0 b0 x0 ⟨x1, u⟩ a w
 revert x0 x1
 intro (x0 : T109) (x1 : Int) hpre hlens0 hlens h
 replace h : At w0 Z0 [b0] 31 ⟨[(0, aP 1 0), (1, aI x1)], [(1, oX 109 [.ro (.u8 5) x0.1, cI x0.2.1, cI x0.2.2]), (2, oP 1 (Value.pointer (some ⟨b0, 0, none⟩)))]⟩ a w := h
 replace hpre : Q_spec_l1Below x0 x1 := hpre
 have hl1 : List.length x0.1 ≤ 9223372036854775807 := hlens0.1.1
 have hu0 : u8L x0.1 := hlens0.1.2
 have hT : TabOK Try.prog S_spec_l1Below_tab := (.cons S_spec_l1Byte_ok .nil)
 have hb1 := byte_ok hpre
 have hb2 := byte_ok hb1
 have hb3 := byte_ok hb2
 have hd1 := byte_bd x0
 have hd2 := byte_bd (byteC x0).1
 have hd3 := byte_bd (byteC (byteC x0).1).1
 refine wp_seq ?_
 refine at_regq [] { ts := [0, 1, 4], os := [1, 2] } [] gamOK hT h (by kernel_rfl) trivial fun a w h => then_normal (wp_seq (wp_seq ?_))
 refine at_regq [] { ts := [0, 1, 4, 9], os := [1, 2] } [] gamOK hT h (by kernel_rfl) trivial fun a w h => then_normal ?_
 refine at_test (decide (x1 ≤ 0)) h (by kernel_rfl) (fun h1 => ?_) (fun h1 => ?_)
 ·replace h1 : x1 ≤ 0 := of_decide_eq_true h1
  refine wp_seq ?_
  refine at_regq [] { ts := [0, 1, 4], os := [1, 2] } [] gamOK hT h (by kernel_rfl) trivial fun a w h => then_normal (wp_ret (then_ret ?_))
  have hr2 : ((x0, 0) : T109 × Int) = belowC x0 x1 := by (unfold belowC; rw [if_pos h1])
  exact at_returnB (B := B_spec_l1Below) (c0 := x0) (x := (x1, ())) (x0) (0, ()) [(Value.pointer (some ⟨b0, 0, none⟩)) = (Value.pointer (some ⟨b0, 0, none⟩))] h (by kernel_rfl) ⟨rfl, trivial⟩ (congrArg (a₁ := (x0, 0)) (a₂ := belowC x0 x1) (fun (z : T109 × Int) => z.1) hr2) (congrArg (a₁ := (x0, 0)) (a₂ := belowC x0 x1) (fun (z : T109 × Int) => (z.2, ())) hr2)
 ·replace h1 : ¬ (x1 ≤ 0) := of_decide_eq_false h1
  refine wp_skip (then_normal (wp_seq (wp_seq ?_)))
  refine at_regq [] { ts := [0, 1, 4, 11], os := [1, 2] } [] gamOK hT h (by kernel_rfl) trivial fun a w h => then_normal ?_
  refine at_test (decide (x1 ≤ 256)) h (by kernel_rfl) (fun h3 => ?_) (fun h3 => ?_)
  ·replace h3 : x1 ≤ 256 := of_decide_eq_true h3
   refine wp_seq ?_
   refine at_regq [] { ts := [0, 1, 4], os := [1, 2] } [B_spec_l1Byte.pre x0 (()), (x1 : Int) ≠ 0] gamOK hT h (by kernel_rfl) ⟨(by first | exact hpre | exact hb1 | exact hb2 | exact hb3), (by first | omega | (simp only [lsA]; omega) | (simp <;> omega)), trivial⟩ fun a w h => then_normal (wp_ret (then_ret ?_))
   have hr4 : (((byteC x0).1, (Int.tmod (byteC x0).2 x1)) : T109 × Int) = belowC x0 x1 := by (unfold belowC; rw [if_neg h1, if_pos h3])
   exact at_returnB (B := B_spec_l1Below) (c0 := x0) (x := (x1, ())) ((byteC x0).1) ((Int.tmod (byteC x0).2 x1), ()) [(Value.pointer (some ⟨b0, 0, none⟩)) = (Value.pointer (some ⟨b0, 0, none⟩))] h (by kernel_rfl) ⟨rfl, trivial⟩ (congrArg (a₁ := ((byteC x0).1, (Int.tmod (byteC x0).2 x1))) (a₂ := belowC x0 x1) (fun (z : T109 × Int) => z.1) hr4) (congrArg (a₁ := ((byteC x0).1, (Int.tmod (byteC x0).2 x1))) (a₂ := belowC x0 x1) (fun (z : T109 × Int) => (z.2, ())) hr4)
  ·replace h3 : ¬ (x1 ≤ 256) := of_decide_eq_false h3
   refine wp_skip (then_normal (wp_seq ?_))
   refine at_regq [] { ts := [0, 1, 4, 5], os := [1, 2] } [B_spec_l1Byte.pre x0 (())] gamOK hT h (by kernel_rfl) ⟨(by first | exact hpre | exact hb1 | exact hb2 | exact hb3), trivial⟩ fun a w h => then_normal (wp_seq ?_)
   refine at_regq [] { ts := [0, 1, 4, 5, 6], os := [1, 2] } [B_spec_l1Byte.pre (byteC x0).1 (())] gamOK hT h (by kernel_rfl) ⟨(by first | exact hpre | exact hb1 | exact hb2 | exact hb3), trivial⟩ fun a w h => then_normal (wp_seq ?_)
   refine at_regq [] { ts := [1, 4, 5, 6, 7], os := [1, 2] } [B_spec_l1Byte.pre (byteC (byteC x0).1).1 (())] gamOK hT h (by kernel_rfl) ⟨(by first | exact hpre | exact hb1 | exact hb2 | exact hb3), trivial⟩ fun a w h => then_normal (wp_seq ?_)
   refine at_regq [{}, { nw := true }, {}, { nw := true }, { nw := true }, {}, { nw := true }] { ts := [4], os := [1, 2] } [I64 ((byteC x0).2 * 65536), I64 ((byteC (byteC x0).1).2 * 256), I64 (((byteC x0).2 * 65536) + ((byteC (byteC x0).1).2 * 256)), I64 ((((byteC x0).2 * 65536) + ((byteC (byteC x0).1).2 * 256)) + (byteC (byteC (byteC x0).1).1).2), (x1 : Int) ≠ 0] gamOK hT h (by kernel_rfl) ⟨⟨by first | omega | (simp only [lsA]; omega) | (simp <;> omega), by first | omega | (simp only [lsA]; omega) | (simp <;> omega)⟩, ⟨by first | omega | (simp only [lsA]; omega) | (simp <;> omega), by first | omega | (simp only [lsA]; omega) | (simp <;> omega)⟩, ⟨by first | omega | (simp only [lsA]; omega) | (simp <;> omega), by first | omega | (simp only [lsA]; omega) | (simp <;> omega)⟩, ⟨by first | omega | (simp only [lsA]; omega) | (simp <;> omega), by first | omega | (simp only [lsA]; omega) | (simp <;> omega)⟩, (by first | omega | (simp only [lsA]; omega) | (simp <;> omega)), trivial⟩ fun a w h => then_normal (wp_ret ?_)
   have hr5 : (((byteC (byteC (byteC x0).1).1).1, (Int.tmod ((((byteC x0).2 * 65536) + ((byteC (byteC x0).1).2 * 256)) + (byteC (byteC (byteC x0).1).1).2) x1)) : T109 × Int) = belowC x0 x1 := by (unfold belowC; rw [if_neg h1, if_neg h3])
   exact at_returnB (B := B_spec_l1Below) (c0 := x0) (x := (x1, ())) ((byteC (byteC (byteC x0).1).1).1) ((Int.tmod ((((byteC x0).2 * 65536) + ((byteC (byteC x0).1).2 * 256)) + (byteC (byteC (byteC x0).1).1).2) x1), ()) [(Value.pointer (some ⟨b0, 0, none⟩)) = (Value.pointer (some ⟨b0, 0, none⟩))] h (by kernel_rfl) ⟨rfl, trivial⟩ (congrArg (a₁ := ((byteC (byteC (byteC x0).1).1).1, (Int.tmod ((((byteC x0).2 * 65536) + ((byteC (byteC x0).1).2 * 256)) + (byteC (byteC (byteC x0).1).1).2) x1))) (a₂ := belowC x0 x1) (fun (z : T109 × Int) => z.1) hr5) (congrArg (a₁ := ((byteC (byteC (byteC x0).1).1).1, (Int.tmod ((((byteC x0).2 * 65536) + ((byteC (byteC x0).1).2 * 256)) + (byteC (byteC (byteC x0).1).1).2) x1))) (a₂ := belowC x0 x1) (fun (z : T109 × Int) => (z.2, ())) hr5)
theorem below_ok {x : T109} {n : Int} (h : 0 ≤ x.2.1) : 0 ≤ (belowC x n).1.2.1 := by
 unfold belowC
 split
 ·exact h
 ·split
  ·exact byte_ok h
  ·exact byte_ok (byte_ok (byte_ok h))
theorem below_bd (x : T109) {n : Int} (h : 0 < n) : 0 ≤ (belowC x n).2 ∧ (belowC x n).2 < n := by
 unfold belowC
 rw [if_neg (by omega)]
 have hd1 := byte_bd x; have hd2 := byte_bd (byteC x).1; have hd3 := byte_bd (byteC (byteC x).1).1
 split
 ·exact LA.tmod_lt hd1.1 h
 ·exact LA.tmod_lt (by first | omega | (dsimp only; omega)) h

def onceC (x0 : T109) (x1 : Int) : T109 × Bool := ((belowC x0 x1).1, decide ((belowC x0 x1).2 = 0))
abbrev Q_spec_l1Once := (fun (x0 : T109) (x1 : Int) => 0 ≤ x0.2.1)
def B_spec_l1Once : BS := { t := 109, s := s109, dom := [(.int 3)], cod := [(.bool 4)], pre := fun y x => Q_spec_l1Once y x.1, upd := fun y x => (onceC y x.1).1, g := fun y x => ((onceC y x.1).2, ()) }
def S_spec_l1Once : Sum := bSum 121 B_spec_l1Once
def S_spec_l1Once_tab : List (Nat × Sum) := [(73, S_spec_l1Below)]
theorem S_spec_l1Once_ok : FnOK Try.prog 121 S_spec_l1Once := by
 refine at_enterB (B := B_spec_l1Once) 9 (fun v y x => ⟨[(0, aP 1 0), (1, aI x.1)], [(1, oX 109 [.ro (.u8 5) y.1, cI y.2.1, cI y.2.2]), (2, oP 1 v)]⟩) Try.func121 rfl (by kernel_rfl) (fun v y x => rfl) ?_
 rintro w0 Z0 b0 x0 ⟨x1, u⟩ a w
 revert x0 x1
 intro (x0 : T109) (x1 : Int) hpre hlens0 hlens h
 replace h : At w0 Z0 [b0] 9 ⟨[(0, aP 1 0), (1, aI x1)], [(1, oX 109 [.ro (.u8 5) x0.1, cI x0.2.1, cI x0.2.2]), (2, oP 1 (Value.pointer (some ⟨b0, 0, none⟩)))]⟩ a w := h
 replace hpre : Q_spec_l1Once x0 x1 := hpre
 have hl1 : List.length x0.1 ≤ 9223372036854775807 := hlens0.1.1
 have hu0 : u8L x0.1 := hlens0.1.2
 have hT : TabOK Try.prog S_spec_l1Once_tab := (.cons S_spec_l1Below_ok .nil)
 refine wp_seq ?_
 refine at_regq [] { ts := [0, 1, 4], os := [1, 2] } [] gamOK hT h (by kernel_rfl) trivial fun a w h => then_normal (wp_seq ?_)
 refine at_regq [] { ts := [4], os := [1, 2] } [B_spec_l1Below.pre x0 (x1, ())] gamOK hT h (by kernel_rfl) ⟨(by exact hpre), trivial⟩ fun a w h => then_normal (wp_ret ?_)
 have hr1 : (((belowC x0 x1).1, decide ((belowC x0 x1).2 = 0)) : T109 × Bool) = onceC x0 x1 := by rfl
 exact at_returnB (B := B_spec_l1Once) (c0 := x0) (x := (x1, ())) ((belowC x0 x1).1) (decide ((belowC x0 x1).2 = 0), ()) [(Value.pointer (some ⟨b0, 0, none⟩)) = (Value.pointer (some ⟨b0, 0, none⟩))] h (by kernel_rfl) ⟨rfl, trivial⟩ (congrArg (a₁ := ((belowC x0 x1).1, decide ((belowC x0 x1).2 = 0))) (a₂ := onceC x0 x1) (fun (z : T109 × Bool) => z.1) hr1) (congrArg (a₁ := ((belowC x0 x1).1, decide ((belowC x0 x1).2 = 0))) (a₂ := onceC x0 x1) (fun (z : T109 × Bool) => (z.2, ())) hr1)
theorem once_ok {x : T109} {n : Int} (h : 0 ≤ x.2.1) : 0 ≤ (onceC x n).1.2.1 := below_ok h

def bigF (x0 : (List Int)) : Bool := decide (((List.length x0 : Nat) : Int) > 1048576)
def S_laws_big : Sum := { fid := 8, dom := [s22], cod := [(.bool 4)], dp := true, fz := false, pre := fun x => True, g := fun x => ((bigF x.1), ()) }
def S_laws_big_tab : List (Nat × Sum) := []
theorem S_laws_big_ok : FnOK Try.prog 8 S_laws_big := by
 refine at_enter 6 (fun x => ⟨[(0, aF (.u8 5) x.1)], []⟩) Try.func8 rfl (by kernel_rfl) (fun x => rfl) ?_
 rintro w0 Z0 ⟨x0, u⟩ a w
 revert x0
 intro (x0 : (List Int)) hpre hlens h
 have hl1 : List.length x0 ≤ 9223372036854775807 := hlens.1.1
 have hu0 : u8L x0 := hlens.1.2
 have hT : TabOK Try.prog S_laws_big_tab := .nil
 refine wp_seq ?_
 refine at_regq [] { ts := [0, 2], os := [] } [] gamOK hT h (by kernel_rfl) trivial fun a w h => then_normal (wp_seq ?_)
 refine at_regq [] { ts := [2], os := [] } [] gamOK hT h (by kernel_rfl) trivial fun a w h => then_normal (wp_ret ?_)
 exact at_return (decide (((List.length x0 : Nat) : Int) > 1048576), ()) [] h (by kernel_rfl) trivial (congrArg (fun z => (z, ())) (show (decide (((List.length x0 : Nat) : Int) > 1048576)) = bigF x0 from by rfl))
theorem big_f {x : List Int} (h : bigF x = false) : List.length x ≤ 1048576 := by
 have := of_decide_eq_false h; omega

def atF (x0 : (List Int)) (x1 : Int) : Int := (if x1 < ((List.length x0 : Nat) : Int) then (x0.getD ((x1).toNat) 0) else (Int.tmod ((x1 * 31) + (((List.length x0 : Nat) : Int) * 7)) 256))
abbrev Q_laws_at := (fun (x0 : List Int) (x1 : Int) => List.length x0 ≤ 1048576 ∧ (0 ≤ x1 ∧ x1 ≤ 1048576))
def S_laws_at : Sum := { fid := 10, dom := [s22, (.int 3)], cod := [(.int 3)], dp := true, fz := false, pre := fun x => Q_laws_at x.1 x.2.1, g := fun x => ((atF x.1 x.2.1), ()) }
def S_laws_at_tab : List (Nat × Sum) := []
theorem S_laws_at_ok : FnOK Try.prog 10 S_laws_at := by
 refine at_enter 21 (fun x => ⟨[(0, aF (.u8 5) x.1), (1, aI x.2.1)], []⟩) Try.func10 rfl (by kernel_rfl) (fun x => rfl) ?_
 rintro w0 Z0 ⟨x0, x1, u⟩ a w
 revert x0 x1
 intro (x0 : (List Int)) (x1 : Int) hpre hlens h
 replace hpre : Q_laws_at x0 x1 := hpre
 have hl1 : List.length x0 ≤ 9223372036854775807 := hlens.1.1
 have hu0 : u8L x0 := hlens.1.2
 have hT : TabOK Try.prog S_laws_at_tab := .nil
 have hpz : List.length x0 ≤ 1048576 ∧ (0 ≤ x1 ∧ x1 ≤ 1048576) := hpre
 refine wp_seq ?_
 refine at_regq [] { ts := [0, 1, 4], os := [] } [] gamOK hT h (by kernel_rfl) trivial fun a w h => then_normal (wp_seq (wp_seq ?_))
 refine at_regq [] { ts := [0, 1, 4, 8], os := [] } [] gamOK hT h (by kernel_rfl) trivial fun a w h => then_normal ?_
 refine at_test (decide (x1 < ((List.length x0 : Nat) : Int))) h (by kernel_rfl) (fun h1 => ?_) (fun h1 => ?_)
 ·replace h1 : x1 < ((List.length x0 : Nat) : Int) := of_decide_eq_true h1
  have hu1 := getD_u8 hu0 x1.toNat
  refine wp_seq ?_
  refine at_regq [{}, {}, {}, {}, { hint := some (aI (x0.getD ((x1).toNat) 0)) }] { ts := [0, 1, 4], os := [] } [(0 : Int) ≤ x1 ∧ x1 < ((List.length x0 : Nat) : Int), (AV.p (.c (.v (.int .i64 (IntKind.i64.wrap ((x0.getD ((x1).toNat) 0)))))) = AV.p (.c (.v (.int .i64 ((x0.getD ((x1).toNat) 0))))))] gamOK hT h (by kernel_rfl) ⟨(by refine ⟨?_, ?_⟩ <;> (first | omega | (simp only [lsA]; omega) | (simp <;> omega))), hint_int (wrap_id ⟨by first | omega | (simp only [lsA]; omega) | (simp <;> omega), by first | omega | (simp only [lsA]; omega) | (simp <;> omega)⟩), trivial⟩ fun a w h => then_normal (wp_ret (then_ret ?_))
  exact at_return ((x0.getD ((x1).toNat) 0), ()) [] h (by kernel_rfl) trivial (congrArg (fun z => (z, ())) (show ((x0.getD ((x1).toNat) 0)) = atF x0 x1 from by first | rfl | (unfold atF; rw [if_pos h1])))
 ·replace h1 : ¬ (x1 < ((List.length x0 : Nat) : Int)) := of_decide_eq_false h1
  have hu1 := getD_u8 hu0 x1.toNat
  refine wp_skip (then_normal (wp_seq ?_))
  refine at_regq [{}, { nw := true }, {}, {}, { nw := true }, { nw := true }] { ts := [4], os := [] } [I64 (x1 * 31), I64 (((List.length x0 : Nat) : Int) * 7), I64 ((x1 * 31) + (((List.length x0 : Nat) : Int) * 7)), (256 : Int) ≠ 0] gamOK hT h (by kernel_rfl) ⟨⟨by first | omega | (simp only [lsA]; omega) | (simp <;> omega), by first | omega | (simp only [lsA]; omega) | (simp <;> omega)⟩, ⟨by first | omega | (simp only [lsA]; omega) | (simp <;> omega), by first | omega | (simp only [lsA]; omega) | (simp <;> omega)⟩, ⟨by first | omega | (simp only [lsA]; omega) | (simp <;> omega), by first | omega | (simp only [lsA]; omega) | (simp <;> omega)⟩, (by first | omega | (simp only [lsA]; omega) | (simp <;> omega)), trivial⟩ fun a w h => then_normal (wp_ret ?_)
  exact at_return ((Int.tmod ((x1 * 31) + (((List.length x0 : Nat) : Int) * 7)) 256), ()) [] h (by kernel_rfl) trivial (congrArg (fun z => (z, ())) (show ((Int.tmod ((x1 * 31) + (((List.length x0 : Nat) : Int) * 7)) 256)) = atF x0 x1 from by first | rfl | (unfold atF; rw [if_neg h1])))
theorem at_bd {x : List Int} (hu : u8L x) {i : Int} (h : 0 ≤ i) : 0 ≤ atF x i ∧ atF x i < 256 := by
 unfold atF; split
 ·exact getD_u8 hu _
 ·exact LA.tmod_lt (by omega) (by decide)

def pickC (x0 : T109) (x1 : (List Int)) : T109 × Int := ((belowC x0 ((List.length x1 : Nat) : Int)).1, (x1.getD (((belowC x0 ((List.length x1 : Nat) : Int)).2).toNat) 0))
abbrev Q_spec_l1Int := (fun (x0 : T109) (x1 : List Int) => 0 ≤ x0.2.1 ∧ (0 < List.length x1 ∧ List.length x1 ≤ 1000))
def B_spec_l1Int : BS := { t := 109, s := s109, dom := [s27], cod := [(.int 3)], pre := fun y x => Q_spec_l1Int y x.1, upd := fun y x => (pickC y x.1).1, g := fun y x => ((pickC y x.1).2, ()) }
def S_spec_l1Int : Sum := bSum 116 B_spec_l1Int
def S_spec_l1Int_tab : List (Nat × Sum) := [(73, S_spec_l1Below)]
theorem S_spec_l1Int_ok : FnOK Try.prog 116 S_spec_l1Int := by
 refine at_enterB (B := B_spec_l1Int) 12 (fun v y x => ⟨[(0, aP 1 0), (1, aF (.int 3) x.1)], [(1, oX 109 [.ro (.u8 5) y.1, cI y.2.1, cI y.2.2]), (2, oP 1 v)]⟩) Try.func116 rfl (by kernel_rfl) (fun v y x => rfl) ?_
 rintro w0 Z0 b0 x0 ⟨x1, u⟩ a w
 revert x0 x1
 intro (x0 : T109) (x1 : (List Int)) hpre hlens0 hlens h
 replace h : At w0 Z0 [b0] 12 ⟨[(0, aP 1 0), (1, aF (.int 3) x1)], [(1, oX 109 [.ro (.u8 5) x0.1, cI x0.2.1, cI x0.2.2]), (2, oP 1 (Value.pointer (some ⟨b0, 0, none⟩)))]⟩ a w := h
 replace hpre : Q_spec_l1Int x0 x1 := hpre
 have hl1 : List.length x0.1 ≤ 9223372036854775807 := hlens0.1.1
 have hu0 : u8L x0.1 := hlens0.1.2
 have hl2 : List.length x1 ≤ 9223372036854775807 := hlens.1.1
 have hT : TabOK Try.prog S_spec_l1Int_tab := (.cons S_spec_l1Below_ok .nil)
 have hp1 := hpre.1
 have hp2 := hpre.2.1
 have hp3 := hpre.2.2
 have hb := below_bd x0 (n := ((List.length x1 : Nat) : Int)) (by omega)
 refine wp_seq ?_
 refine at_regq [] { ts := [0, 1, 4], os := [1, 2] } [] gamOK hT h (by kernel_rfl) trivial fun a w h => then_normal (wp_seq ?_)
 refine at_regq [] { ts := [4], os := [1, 2] } [B_spec_l1Below.pre x0 (((List.length x1 : Nat) : Int), ()), (0 : Int) ≤ (belowC x0 ((List.length x1 : Nat) : Int)).2 ∧ (belowC x0 ((List.length x1 : Nat) : Int)).2 < ((List.length x1 : Nat) : Int)] gamOK hT h (by kernel_rfl) ⟨(by exact hpre.1), (by refine ⟨?_, ?_⟩ <;> (first | omega | (simp only [lsA]; omega) | (simp <;> omega))), trivial⟩ fun a w h => then_normal (wp_ret ?_)
 have hr1 : (((belowC x0 ((List.length x1 : Nat) : Int)).1, (x1.getD (((belowC x0 ((List.length x1 : Nat) : Int)).2).toNat) 0)) : T109 × Int) = pickC x0 x1 := by rfl
 exact at_returnB (B := B_spec_l1Int) (c0 := x0) (x := (x1, ())) ((belowC x0 ((List.length x1 : Nat) : Int)).1) ((x1.getD (((belowC x0 ((List.length x1 : Nat) : Int)).2).toNat) 0), ()) [(Value.pointer (some ⟨b0, 0, none⟩)) = (Value.pointer (some ⟨b0, 0, none⟩))] h (by kernel_rfl) ⟨rfl, trivial⟩ (congrArg (a₁ := ((belowC x0 ((List.length x1 : Nat) : Int)).1, (x1.getD (((belowC x0 ((List.length x1 : Nat) : Int)).2).toNat) 0))) (a₂ := pickC x0 x1) (fun (z : T109 × Int) => z.1) hr1) (congrArg (a₁ := ((belowC x0 ((List.length x1 : Nat) : Int)).1, (x1.getD (((belowC x0 ((List.length x1 : Nat) : Int)).2).toNat) 0))) (a₂ := pickC x0 x1) (fun (z : T109 × Int) => (z.2, ())) hr1)
theorem pickC_ok {x : T109} {l : List Int} (h : 0 ≤ x.2.1) : 0 ≤ (pickC x l).1.2.1 := below_ok h
theorem pickC_mem {x : T109} {l : List Int} (h : 0 < List.length l) : (pickC x l).2 ∈ l := by
 have hb := below_bd x (n := ((List.length l : Nat) : Int)) (by omega)
 exact getD_mem (by omega)

def elemC (x0 : T109) : T109 × Int := ((belowC x0 1019).1, (belowC x0 1019).2)
abbrev Q_spec_l4Element := (fun (x0 : T109) => 0 ≤ x0.2.1)
def B_spec_l4Element : BS := { t := 109, s := s109, dom := [], cod := [(.int 3)], pre := fun y x => Q_spec_l4Element y, upd := fun y x => (elemC y).1, g := fun y x => ((elemC y).2, ()) }
def S_spec_l4Element : Sum := bSum 134 B_spec_l4Element
def S_spec_l4Element_tab : List (Nat × Sum) := [(73, S_spec_l1Below)]
theorem S_spec_l4Element_ok : FnOK Try.prog 134 S_spec_l4Element := by
 refine at_enterB (B := B_spec_l4Element) 5 (fun v y x => ⟨[(0, aP 1 0)], [(1, oX 109 [.ro (.u8 5) y.1, cI y.2.1, cI y.2.2]), (2, oP 1 v)]⟩) Try.func134 rfl (by kernel_rfl) (fun v y x => rfl) ?_
 rintro w0 Z0 b0 x0 ⟨u⟩ a w
 revert x0
 intro (x0 : T109) hpre hlens0 hlens h
 replace h : At w0 Z0 [b0] 5 ⟨[(0, aP 1 0)], [(1, oX 109 [.ro (.u8 5) x0.1, cI x0.2.1, cI x0.2.2]), (2, oP 1 (Value.pointer (some ⟨b0, 0, none⟩)))]⟩ a w := h
 replace hpre : Q_spec_l4Element x0 := hpre
 have hl1 : List.length x0.1 ≤ 9223372036854775807 := hlens0.1.1
 have hu0 : u8L x0.1 := hlens0.1.2
 have hT : TabOK Try.prog S_spec_l4Element_tab := (.cons S_spec_l1Below_ok .nil)
 refine wp_seq ?_
 refine at_regq [] { ts := [0, 2], os := [1, 2] } [] gamOK hT h (by kernel_rfl) trivial fun a w h => then_normal (wp_seq ?_)
 refine at_regq [] { ts := [2], os := [1, 2] } [B_spec_l1Below.pre x0 (1019, ())] gamOK hT h (by kernel_rfl) ⟨(by exact hpre), trivial⟩ fun a w h => then_normal (wp_ret ?_)
 have hr1 : (((belowC x0 1019).1, (belowC x0 1019).2) : T109 × Int) = elemC x0 := by rfl
 exact at_returnB (B := B_spec_l4Element) (c0 := x0) (x := (())) ((belowC x0 1019).1) ((belowC x0 1019).2, ()) [(Value.pointer (some ⟨b0, 0, none⟩)) = (Value.pointer (some ⟨b0, 0, none⟩))] h (by kernel_rfl) ⟨rfl, trivial⟩ (congrArg (a₁ := ((belowC x0 1019).1, (belowC x0 1019).2)) (a₂ := elemC x0) (fun (z : T109 × Int) => z.1) hr1) (congrArg (a₁ := ((belowC x0 1019).1, (belowC x0 1019).2)) (a₂ := elemC x0) (fun (z : T109 × Int) => (z.2, ())) hr1)
theorem elem_ok {x : T109} (h : 0 ≤ x.2.1) : 0 ≤ (elemC x).1.2.1 := below_ok h
theorem elem_bd (x : T109) : LA.El (elemC x).2 := by have := below_bd x (n := 1019) (by decide); show 0 ≤ _ ∧ _ ≤ 1018; unfold elemC; dsimp only; omega
def vecS (q : T109 × List Int) : T109 × List Int := if (onceC q.1 3).2 = true then ((onceC q.1 3).1, q.2 ++ [0]) else ((elemC (onceC q.1 3).1).1, q.2 ++ [(elemC (onceC q.1 3).1).2])
def vecIt (x : T109) : Nat → T109 × List Int
 | 0 => (x, [])
 | i + 1 => vecS (vecIt x i)
theorem vecIt_y {x : T109} {i : Nat} (h : (onceC (vecIt x i).1 3).2 = true) : vecIt x (i + 1) = ((onceC (vecIt x i).1 3).1, (vecIt x i).2 ++ [0]) := if_pos h
theorem vecIt_n {x : T109} {i : Nat} (h : (onceC (vecIt x i).1 3).2 = false) : vecIt x (i + 1) = ((elemC (onceC (vecIt x i).1 3).1).1, (vecIt x i).2 ++ [(elemC (onceC (vecIt x i).1 3).1).2]) := if_neg (by rw [h]; decide)
theorem vecIt_inv {x : T109} (hx : 0 ≤ x.2.1) : ∀ i, 0 ≤ (vecIt x i).1.2.1 ∧ (vecIt x i).2.length = i ∧ ∀ e ∈ (vecIt x i).2, LA.El e
 | 0 => ⟨hx, rfl, fun e he => by cases he⟩
 | i + 1 => by
  obtain ⟨h1, h2, h3⟩ := vecIt_inv hx i
  have e : vecIt x (i + 1) = vecS (vecIt x i) := rfl
  have hb := elem_bd (onceC (vecIt x i).1 3).1
  rw [e]; unfold vecS
  split
  ·refine ⟨once_ok h1, by simp [h2], fun y hy => ?_⟩
   rcases List.mem_append.1 hy with hy | hy
   ·exact h3 y hy
   ·have : y = 0 := by simpa using hy
    rw [this]; unfold LA.El; omega
  ·refine ⟨elem_ok (once_ok h1), by simp [h2], fun y hy => ?_⟩
   rcases List.mem_append.1 hy with hy | hy
   ·exact h3 y hy
   ·have : y = (elemC (onceC (vecIt x i).1 3).1).2 := by simpa using hy
    rw [this]; exact hb

@[irreducible]
def grpE (x0 : T109) : T109 × Int := (if (onceC x0 5).2 = true then ((pickC (onceC x0 5).1 ([(-1), 0, 1, 2, 2038, 2039])).1, (pickC (onceC x0 5).1 ([(-1), 0, 1, 2, 2038, 2039])).2) else ((elemC (onceC x0 5).1).1, (powD 4 (elemC (onceC x0 5).1).2 2039)))
abbrev Q_spec_l4Group := (fun (x0 : T109) => 0 ≤ x0.2.1)
def B_spec_l4Group : BS := { t := 109, s := s109, dom := [], cod := [(.int 3)], pre := fun y x => Q_spec_l4Group y, upd := fun y x => (grpE y).1, g := fun y x => ((grpE y).2, ()) }
def S_spec_l4Group : Sum := bSum 117 B_spec_l4Group
def S_spec_l4Group_tab : List (Nat × Sum) := [(121, S_spec_l1Once), (116, S_spec_l1Int), (134, S_spec_l4Element), (163, S_spec_l4Pow)]
theorem S_spec_l4Group_ok : FnOK Try.prog 117 S_spec_l4Group := by
 refine at_enterB (B := B_spec_l4Group) 11 (fun v y x => ⟨[(0, aP 1 0)], [(1, oX 109 [.ro (.u8 5) y.1, cI y.2.1, cI y.2.2]), (2, oP 1 v)]⟩) Try.func117 rfl (by kernel_rfl) (fun v y x => rfl) ?_
 rintro w0 Z0 b0 x0 ⟨u⟩ a w
 revert x0
 intro (x0 : T109) hpre hlens0 hlens h
 replace h : At w0 Z0 [b0] 11 ⟨[(0, aP 1 0)], [(1, oX 109 [.ro (.u8 5) x0.1, cI x0.2.1, cI x0.2.2]), (2, oP 1 (Value.pointer (some ⟨b0, 0, none⟩)))]⟩ a w := h
 replace hpre : Q_spec_l4Group x0 := hpre
 have hl1 : List.length x0.1 ≤ 9223372036854775807 := hlens0.1.1
 have hu0 : u8L x0.1 := hlens0.1.2
 have hT : TabOK Try.prog S_spec_l4Group_tab := (.cons S_spec_l1Once_ok (.cons S_spec_l1Int_ok (.cons S_spec_l4Element_ok (.cons S_spec_l4Pow_ok .nil))))
 have heb := elem_bd (onceC x0 5).1
 have he1 := heb.1
 have he2 := heb.2
 refine wp_seq ?_
 refine at_regq [] { ts := [0, 2], os := [1, 2] } [] gamOK hT h (by kernel_rfl) trivial fun a w h => then_normal (wp_seq (wp_seq ?_))
 refine at_regq [] { ts := [0, 2, 4], os := [1, 2] } [B_spec_l1Once.pre x0 (5, ())] gamOK hT h (by kernel_rfl) ⟨(by exact hpre), trivial⟩ fun a w h => then_normal ?_
 refine at_test ((onceC x0 5).2) h (by kernel_rfl) (fun h1 => ?_) (fun h1 => ?_)
 ·refine wp_seq ?_
  refine at_regq [{}, { ids := [3], frz := true }] { ts := [0, 2], os := [1, 2] } [B_spec_l1Int.pre (onceC x0 5).1 ([(-1), 0, 1, 2, 2038, 2039], ())] gamOK hT h (by kernel_rfl) ⟨(by exact ⟨(once_ok hpre), by simp, by simp⟩), trivial⟩ fun a w h => then_normal (wp_ret (then_ret ?_))
  have hr2 : (((pickC (onceC x0 5).1 ([(-1), 0, 1, 2, 2038, 2039])).1, (pickC (onceC x0 5).1 ([(-1), 0, 1, 2, 2038, 2039])).2) : T109 × Int) = grpE x0 := by (unfold grpE; rw [if_pos h1])
  exact at_returnB (B := B_spec_l4Group) (c0 := x0) (x := (())) ((pickC (onceC x0 5).1 ([(-1), 0, 1, 2, 2038, 2039])).1) ((pickC (onceC x0 5).1 ([(-1), 0, 1, 2, 2038, 2039])).2, ()) [(Value.pointer (some ⟨b0, 0, none⟩)) = (Value.pointer (some ⟨b0, 0, none⟩))] h (by kernel_rfl) ⟨rfl, trivial⟩ (congrArg (a₁ := ((pickC (onceC x0 5).1 ([(-1), 0, 1, 2, 2038, 2039])).1, (pickC (onceC x0 5).1 ([(-1), 0, 1, 2, 2038, 2039])).2)) (a₂ := grpE x0) (fun (z : T109 × Int) => z.1) hr2) (congrArg (a₁ := ((pickC (onceC x0 5).1 ([(-1), 0, 1, 2, 2038, 2039])).1, (pickC (onceC x0 5).1 ([(-1), 0, 1, 2, 2038, 2039])).2)) (a₂ := grpE x0) (fun (z : T109 × Int) => (z.2, ())) hr2)
 ·refine wp_skip (then_normal (wp_seq ?_))
  refine at_regq [] { ts := [2], os := [1, 2] } [B_spec_l4Element.pre (onceC x0 5).1 (()), powP 4 (elemC (onceC x0 5).1).2 2039] gamOK hT h (by kernel_rfl) ⟨(by exact (once_ok hpre)), (by (show _ ∧ _; refine ⟨⟨?_, ?_⟩, ⟨?_, ?_⟩, ?_, ?_⟩ <;> omega)), trivial⟩ fun a w h => then_normal (wp_ret ?_)
  have hr3 : (((elemC (onceC x0 5).1).1, (powD 4 (elemC (onceC x0 5).1).2 2039)) : T109 × Int) = grpE x0 := by (unfold grpE; rw [if_neg (neT h1)])
  exact at_returnB (B := B_spec_l4Group) (c0 := x0) (x := (())) ((elemC (onceC x0 5).1).1) ((powD 4 (elemC (onceC x0 5).1).2 2039), ()) [(Value.pointer (some ⟨b0, 0, none⟩)) = (Value.pointer (some ⟨b0, 0, none⟩))] h (by kernel_rfl) ⟨rfl, trivial⟩ (congrArg (a₁ := ((elemC (onceC x0 5).1).1, (powD 4 (elemC (onceC x0 5).1).2 2039))) (a₂ := grpE x0) (fun (z : T109 × Int) => z.1) hr3) (congrArg (a₁ := ((elemC (onceC x0 5).1).1, (powD 4 (elemC (onceC x0 5).1).2 2039))) (a₂ := grpE x0) (fun (z : T109 × Int) => (z.2, ())) hr3)
theorem grpE_ok {x : T109} (h : 0 ≤ x.2.1) : 0 ≤ (grpE x).1.2.1 := by
 unfold grpE; split
 ·exact pickC_ok (once_ok h)
 ·exact elem_ok (once_ok h)

def vecD (x0 : T109) (x1 : Int) : T109 × (List Int) := ((vecIt x0 x1.toNat).1, (vecIt x0 x1.toNat).2)
abbrev Q_spec_l5Vector := (fun (x0 : T109) (x1 : Int) => 0 ≤ x0.2.1 ∧ x1 ≤ 1000)
def B_spec_l5Vector : BS := { t := 109, s := s109, dom := [(.int 3)], cod := [s27], pre := fun y x => Q_spec_l5Vector y x.1, upd := fun y x => (vecD y x.1).1, g := fun y x => ((vecD y x.1).2, ()) }
def S_spec_l5Vector : Sum := bSum 153 B_spec_l5Vector
def S_spec_l5Vector_tab : List (Nat × Sum) := [(121, S_spec_l1Once), (134, S_spec_l4Element)]
theorem S_spec_l5Vector_ok : FnOK Try.prog 153 S_spec_l5Vector := by
 refine at_enterB (B := B_spec_l5Vector) 24 (fun v y x => ⟨[(0, aP 1 0), (1, aI x.1)], [(1, oX 109 [.ro (.u8 5) y.1, cI y.2.1, cI y.2.2]), (2, oP 1 v)]⟩) Try.func153 rfl (by kernel_rfl) (fun v y x => rfl) ?_
 rintro w0 Z0 b0 x0 ⟨x1, u⟩ a w
 revert x0 x1
 intro (x0 : T109) (x1 : Int) hpre hlens0 hlens h
 replace h : At w0 Z0 [b0] 24 ⟨[(0, aP 1 0), (1, aI x1)], [(1, oX 109 [.ro (.u8 5) x0.1, cI x0.2.1, cI x0.2.2]), (2, oP 1 (Value.pointer (some ⟨b0, 0, none⟩)))]⟩ a w := h
 replace hpre : Q_spec_l5Vector x0 x1 := hpre
 have hl1 : List.length x0.1 ≤ 9223372036854775807 := hlens0.1.1
 have hu0 : u8L x0.1 := hlens0.1.2
 have hT : TabOK Try.prog S_spec_l5Vector_tab := (.cons S_spec_l1Once_ok (.cons S_spec_l4Element_ok .nil))
 have hp2 := hpre.2
 refine wp_seq ?_
 refine at_regq [] { ts := [0, 1, 4], os := [1, 2] } [] gamOK hT h (by kernel_rfl) trivial fun a w h => then_normal (wp_seq ?_)
 refine at_regq [{ ids := [3] }] { ts := [0, 1, 4, 5], os := [1, 2, 3] } [] gamOK hT h (by kernel_rfl) trivial fun a w h => then_normal (wp_seq (wp_seq ?_))
 refine at_regq [] { ts := [0, 1, 4, 5, 6], os := [1, 2, 3] } [] gamOK hT h (by kernel_rfl) trivial fun a w h => then_normal (wp_block ?_)
 replace h := at_out (σ' := ⟨[(0, aP 1 0), (1, aI x1), (4, .p (.c (cN))), (5, aS 3), (6, aI 0)], [(1, oX 109 [.ro (.u8 5) x0.1, cI x0.2.1, cI x0.2.2]), (2, oP 1 (Value.pointer (some ⟨b0, 0, none⟩))), (3, oR (.int 3) ([] : List Int))]⟩) { ts := [0, 1, 4, 5, 6], os := [1, 2, 3] } h (by kernel_rfl)
 refine at_loop (fun i : Nat => (⟨[(0, aP 1 0), (1, aI x1), (4, .p (.c (cN))), (5, aS 3), (6, aI ((i : Nat) : Int))], [(1, oX 109 [.ro (.u8 5) (vecIt x0 i).1.1, cI (vecIt x0 i).1.2.1, cI (vecIt x0 i).1.2.2]), (2, oP 1 (Value.pointer (some ⟨b0, 0, none⟩))), (3, oR (.int 3) (vecIt x0 i).2)]⟩ : St)) (fun i => i ≤ x1.toNat) (fun i => x1.toNat - i) (0) h (st_congr5 (fun (d0 : List Int) (d1 : Int) (d2 : Int) (d3 : List Int) (d4 : Int) => (⟨[(0, aP 1 0), (1, aI x1), (4, .p (.c (cN))), (5, aS 3), (6, aI d4)], [(1, oX 109 [.ro (.u8 5) d0, cI d1, cI d2]), (2, oP 1 (Value.pointer (some ⟨b0, 0, none⟩))), (3, oR (.int 3) d3)]⟩ : St)) (show (x0.1 : List Int) = (vecIt x0 (0)).1.1 from by first | with_reducible rfl | (rfl) | rfl) (show (x0.2.1 : Int) = (vecIt x0 (0)).1.2.1 from by first | with_reducible rfl | (rfl) | rfl) (show (x0.2.2 : Int) = (vecIt x0 (0)).1.2.2 from by first | with_reducible rfl | (rfl) | rfl) (show (([] : List Int) : List Int) = (vecIt x0 (0)).2 from by first | with_reducible rfl | (rfl) | rfl) (show (0 : Int) = (((0) : Nat) : Int) from by first | with_reducible rfl | (rfl) | rfl)) (by omega) ?_
 intro i a w hok0 h
 have hvi := vecIt_inv hpre.1 i
 have hvl := hvi.2.1
 refine wp_seq (wp_seq ?_)
 refine at_regq [] { ts := [0, 1, 4, 5, 6, 10], os := [1, 2, 3] } [] gamOK hT h (by kernel_rfl) trivial fun a w h => then_normal ?_
 refine at_test (decide (((i : Nat) : Int) < x1)) h (by kernel_rfl) (fun h1 => ?_) (fun h1 => ?_)
 ·replace h1 : ((i : Nat) : Int) < x1 := of_decide_eq_true h1
  refine wp_skip (then_normal (wp_seq (wp_block (wp_seq ?_))))
  refine at_regq [] { ts := [0, 1, 4, 5, 6, 14], os := [1, 2, 3] } [B_spec_l1Once.pre (vecIt x0 i).1 (3, ())] gamOK hT h (by kernel_rfl) ⟨(by exact hvi.1), trivial⟩ fun a w h => then_normal ?_
  refine at_test ((onceC (vecIt x0 i).1 3).2) h (by kernel_rfl) (fun h2 => ?_) (fun h2 => ?_)
  ·refine at_regq [{}, { ids := [4] }, { ids := [5] }] { ts := [0, 1, 4, 5, 6], os := [1, 2, 5] } [(List.length (vecIt x0 i).2 + List.length ([0])) * 8 ≤ 140737488355328] gamOK hT h (by kernel_rfl) ⟨(by first | omega | (simp only [lsA]; omega) | (simp <;> omega)), trivial⟩ fun a w h => in_normal (then_normal ?_)
   refine at_regq [{}, { nw := true }] { ts := [0, 1, 4, 5, 6], os := [1, 2, 5] } [I64 (((i : Nat) : Int) + 1)] gamOK hT h (by kernel_rfl) ⟨⟨by first | omega | (simp only [lsA]; omega) | (simp <;> omega), by first | omega | (simp only [lsA]; omega) | (simp <;> omega)⟩, trivial⟩ fun a w h => ?_
   replace h := at_out (σ' := ⟨[(0, aP 1 0), (1, aI x1), (4, .p (.c (cN))), (5, aS 3), (6, aI (((i : Nat) : Int) + 1))], [(1, oX 109 [.ro (.u8 5) (onceC (vecIt x0 i).1 3).1.1, cI (onceC (vecIt x0 i).1 3).1.2.1, cI (onceC (vecIt x0 i).1 3).1.2.2]), (2, oP 1 (Value.pointer (some ⟨b0, 0, none⟩))), (3, oR (.int 3) ((vecIt x0 i).2 ++ ([0])))]⟩) { ts := [0, 1, 4, 5, 6], os := [1, 2, 5], rn := [(5, 3)] } h (by kernel_rfl)
   exact ⟨i + 1, at_eq h (st_congr5 (fun (d0 : List Int) (d1 : Int) (d2 : Int) (d3 : List Int) (d4 : Int) => (⟨[(0, aP 1 0), (1, aI x1), (4, .p (.c (cN))), (5, aS 3), (6, aI d4)], [(1, oX 109 [.ro (.u8 5) d0, cI d1, cI d2]), (2, oP 1 (Value.pointer (some ⟨b0, 0, none⟩))), (3, oR (.int 3) d3)]⟩ : St)) (show ((onceC (vecIt x0 i).1 3).1.1 : List Int) = (vecIt x0 (i + 1)).1.1 from by first | with_reducible rfl | (first | (rw [vecIt_y (x := x0) (i := i) (by assumption)]; done) | (rw [vecIt_n (x := x0) (i := i) (by assumption)]; done)) | rfl) (show ((onceC (vecIt x0 i).1 3).1.2.1 : Int) = (vecIt x0 (i + 1)).1.2.1 from by first | with_reducible rfl | (first | (rw [vecIt_y (x := x0) (i := i) (by assumption)]; done) | (rw [vecIt_n (x := x0) (i := i) (by assumption)]; done)) | rfl) (show ((onceC (vecIt x0 i).1 3).1.2.2 : Int) = (vecIt x0 (i + 1)).1.2.2 from by first | with_reducible rfl | (first | (rw [vecIt_y (x := x0) (i := i) (by assumption)]; done) | (rw [vecIt_n (x := x0) (i := i) (by assumption)]; done)) | rfl) (show (((vecIt x0 i).2 ++ ([0])) : List Int) = (vecIt x0 (i + 1)).2 from by first | with_reducible rfl | (first | (rw [vecIt_y (x := x0) (i := i) (by assumption)]; done) | (rw [vecIt_n (x := x0) (i := i) (by assumption)]; done)) | rfl) (show (((i : Nat) : Int) + 1 : Int) = (((i + 1) : Nat) : Int) from by first | with_reducible rfl | (omega) | rfl)), (by omega), (by omega)⟩
  ·refine at_regq [{}, {}, {}, { ids := [6] }, { ids := [7] }] { ts := [0, 1, 4, 5, 6], os := [1, 2, 7] } [B_spec_l4Element.pre (onceC (vecIt x0 i).1 3).1 (()), (List.length (vecIt x0 i).2 + List.length ([(elemC (onceC (vecIt x0 i).1 3).1).2])) * 8 ≤ 140737488355328] gamOK hT h (by kernel_rfl) ⟨(by exact (once_ok hvi.1)), (by first | omega | (simp only [lsA]; omega) | (simp <;> omega)), trivial⟩ fun a w h => in_normal (then_normal ?_)
   refine at_regq [{}, { nw := true }] { ts := [0, 1, 4, 5, 6], os := [1, 2, 7] } [I64 (((i : Nat) : Int) + 1)] gamOK hT h (by kernel_rfl) ⟨⟨by first | omega | (simp only [lsA]; omega) | (simp <;> omega), by first | omega | (simp only [lsA]; omega) | (simp <;> omega)⟩, trivial⟩ fun a w h => ?_
   replace h := at_out (σ' := ⟨[(0, aP 1 0), (1, aI x1), (4, .p (.c (cN))), (5, aS 3), (6, aI (((i : Nat) : Int) + 1))], [(1, oX 109 [.ro (.u8 5) (elemC (onceC (vecIt x0 i).1 3).1).1.1, cI (elemC (onceC (vecIt x0 i).1 3).1).1.2.1, cI (elemC (onceC (vecIt x0 i).1 3).1).1.2.2]), (2, oP 1 (Value.pointer (some ⟨b0, 0, none⟩))), (3, oR (.int 3) ((vecIt x0 i).2 ++ ([(elemC (onceC (vecIt x0 i).1 3).1).2])))]⟩) { ts := [0, 1, 4, 5, 6], os := [1, 2, 7], rn := [(7, 3)] } h (by kernel_rfl)
   exact ⟨i + 1, at_eq h (st_congr5 (fun (d0 : List Int) (d1 : Int) (d2 : Int) (d3 : List Int) (d4 : Int) => (⟨[(0, aP 1 0), (1, aI x1), (4, .p (.c (cN))), (5, aS 3), (6, aI d4)], [(1, oX 109 [.ro (.u8 5) d0, cI d1, cI d2]), (2, oP 1 (Value.pointer (some ⟨b0, 0, none⟩))), (3, oR (.int 3) d3)]⟩ : St)) (show ((elemC (onceC (vecIt x0 i).1 3).1).1.1 : List Int) = (vecIt x0 (i + 1)).1.1 from by first | with_reducible rfl | (first | (rw [vecIt_y (x := x0) (i := i) (by assumption)]; done) | (rw [vecIt_n (x := x0) (i := i) (by assumption)]; done)) | rfl) (show ((elemC (onceC (vecIt x0 i).1 3).1).1.2.1 : Int) = (vecIt x0 (i + 1)).1.2.1 from by first | with_reducible rfl | (first | (rw [vecIt_y (x := x0) (i := i) (by assumption)]; done) | (rw [vecIt_n (x := x0) (i := i) (by assumption)]; done)) | rfl) (show ((elemC (onceC (vecIt x0 i).1 3).1).1.2.2 : Int) = (vecIt x0 (i + 1)).1.2.2 from by first | with_reducible rfl | (first | (rw [vecIt_y (x := x0) (i := i) (by assumption)]; done) | (rw [vecIt_n (x := x0) (i := i) (by assumption)]; done)) | rfl) (show (((vecIt x0 i).2 ++ ([(elemC (onceC (vecIt x0 i).1 3).1).2])) : List Int) = (vecIt x0 (i + 1)).2 from by first | with_reducible rfl | (first | (rw [vecIt_y (x := x0) (i := i) (by assumption)]; done) | (rw [vecIt_n (x := x0) (i := i) (by assumption)]; done)) | rfl) (show (((i : Nat) : Int) + 1 : Int) = (((i + 1) : Nat) : Int) from by first | with_reducible rfl | (omega) | rfl)), (by omega), (by omega)⟩
 ·replace h1 : ¬ (((i : Nat) : Int) < x1) := of_decide_eq_false h1
  refine wp_exit (then_exit ?_)
  replace h := at_out (σ' := ⟨[(4, .p (.c (cN))), (5, aS 3)], [(1, oX 109 [.ro (.u8 5) (vecIt x0 i).1.1, cI (vecIt x0 i).1.2.1, cI (vecIt x0 i).1.2.2]), (2, oP 1 (Value.pointer (some ⟨b0, 0, none⟩))), (3, oR (.int 3) (vecIt x0 i).2)]⟩) { ts := [4, 5], os := [1, 2, 3] } h (by kernel_rfl)
  replace h := at_eq (σ' := ⟨[(4, .p (.c (cN))), (5, aS 3)], [(1, oX 109 [.ro (.u8 5) (vecIt x0 x1.toNat).1.1, cI (vecIt x0 x1.toNat).1.2.1, cI (vecIt x0 x1.toNat).1.2.2]), (2, oP 1 (Value.pointer (some ⟨b0, 0, none⟩))), (3, oR (.int 3) (vecIt x0 x1.toNat).2)]⟩) h (st_congr4 (fun (d0 : List Int) (d1 : Int) (d2 : Int) (d3 : List Int) => (⟨[(4, .p (.c (cN))), (5, aS 3)], [(1, oX 109 [.ro (.u8 5) d0, cI d1, cI d2]), (2, oP 1 (Value.pointer (some ⟨b0, 0, none⟩))), (3, oR (.int 3) d3)]⟩ : St)) (show ((vecIt x0 i).1.1 : List Int) = (vecIt x0 x1.toNat).1.1 from by first | with_reducible rfl | (rw [show x1.toNat = i by omega]) | rfl) (show ((vecIt x0 i).1.2.1 : Int) = (vecIt x0 x1.toNat).1.2.1 from by first | with_reducible rfl | (rw [show x1.toNat = i by omega]) | rfl) (show ((vecIt x0 i).1.2.2 : Int) = (vecIt x0 x1.toNat).1.2.2 from by first | with_reducible rfl | (rw [show x1.toNat = i by omega]) | rfl) (show ((vecIt x0 i).2 : List Int) = (vecIt x0 x1.toNat).2 from by first | with_reducible rfl | (rw [show x1.toNat = i by omega]) | rfl))
  refine then_exit (in_hit (then_normal (wp_seq ?_)))
  refine at_regq [] { ts := [4], os := [1, 2, 3] } [] gamOK hT h (by kernel_rfl) trivial fun a w h => then_normal (wp_ret ?_)
  have hr3 : (((vecIt x0 x1.toNat).1, (vecIt x0 x1.toNat).2) : T109 × (List Int)) = vecD x0 x1 := by rfl
  exact at_returnB (B := B_spec_l5Vector) (c0 := x0) (x := (x1, ())) ((vecIt x0 x1.toNat).1) ((vecIt x0 x1.toNat).2, ()) [(Value.pointer (some ⟨b0, 0, none⟩)) = (Value.pointer (some ⟨b0, 0, none⟩))] h (by kernel_rfl) ⟨rfl, trivial⟩ (congrArg (a₁ := ((vecIt x0 x1.toNat).1, (vecIt x0 x1.toNat).2)) (a₂ := vecD x0 x1) (fun (z : T109 × (List Int)) => z.1) hr3) (congrArg (a₁ := ((vecIt x0 x1.toNat).1, (vecIt x0 x1.toNat).2)) (a₂ := vecD x0 x1) (fun (z : T109 × (List Int)) => (z.2, ())) hr3)
theorem vecD_ok {x : T109} {n : Int} (h : 0 ≤ x.2.1) : 0 ≤ (vecD x n).1.2.1 ∧ LA.VokB n.toNat (vecD x n).2 := ⟨(vecIt_inv h _).1, (vecIt_inv h _).2.1, (vecIt_inv h _).2.2⟩

@[irreducible]
def anyV (x0 : T109) (x1 : Int) : T109 × (List Int) := (if (belowC (vecD x0 x1).1 10).2 = 0 then ((pickC (belowC (vecD x0 x1).1 10).1 ([(-1), 0, 1019])).1, ((vecD x0 x1).2 ++ ([(pickC (belowC (vecD x0 x1).1 10).1 ([(-1), 0, 1019])).2]))) else (if (belowC (vecD x0 x1).1 10).2 = 1 then ((belowC (belowC (vecD x0 x1).1 10).1 2).1, (List.replicate ((40 + (belowC (belowC (vecD x0 x1).1 10).1 2).2).toNat) (0 : Int))) else ((belowC (vecD x0 x1).1 10).1, (vecD x0 x1).2)))
abbrev Q_spec_l5Any := (fun (x0 : T109) (x1 : Int) => 0 ≤ x0.2.1 ∧ x1 ≤ 1000)
def B_spec_l5Any : BS := { t := 109, s := s109, dom := [(.int 3)], cod := [s27], pre := fun y x => Q_spec_l5Any y x.1, upd := fun y x => (anyV y x.1).1, g := fun y x => ((anyV y x.1).2, ()) }
def S_spec_l5Any : Sum := bSum 135 B_spec_l5Any
def S_spec_l5Any_tab : List (Nat × Sum) := [(153, S_spec_l5Vector), (73, S_spec_l1Below), (116, S_spec_l1Int)]
theorem S_spec_l5Any_ok : FnOK Try.prog 135 S_spec_l5Any := by
 refine at_enterB (B := B_spec_l5Any) 26 (fun v y x => ⟨[(0, aP 1 0), (1, aI x.1)], [(1, oX 109 [.ro (.u8 5) y.1, cI y.2.1, cI y.2.2]), (2, oP 1 v)]⟩) Try.func135 rfl (by kernel_rfl) (fun v y x => rfl) ?_
 rintro w0 Z0 b0 x0 ⟨x1, u⟩ a w
 revert x0 x1
 intro (x0 : T109) (x1 : Int) hpre hlens0 hlens h
 replace h : At w0 Z0 [b0] 26 ⟨[(0, aP 1 0), (1, aI x1)], [(1, oX 109 [.ro (.u8 5) x0.1, cI x0.2.1, cI x0.2.2]), (2, oP 1 (Value.pointer (some ⟨b0, 0, none⟩)))]⟩ a w := h
 replace hpre : Q_spec_l5Any x0 x1 := hpre
 have hl1 : List.length x0.1 ≤ 9223372036854775807 := hlens0.1.1
 have hu0 : u8L x0.1 := hlens0.1.2
 have hT : TabOK Try.prog S_spec_l5Any_tab := (.cons S_spec_l5Vector_ok (.cons S_spec_l1Below_ok (.cons S_spec_l1Int_ok .nil)))
 have hvd := vecD_ok (n := x1) hpre.1
 have hvl := hvd.2.1
 have hp2 := hpre.2
 have hb2 := below_bd (belowC (vecD x0 x1).1 10).1 (n := 2) (by decide)
 refine wp_seq ?_
 refine at_regq [] { ts := [0, 1, 4], os := [1, 2] } [] gamOK hT h (by kernel_rfl) trivial fun a w h => then_normal (wp_seq ?_)
 refine at_regq [{}, {}, { ids := [3] }] { ts := [0, 4, 5], os := [1, 2, 3] } [B_spec_l5Vector.pre x0 (x1, ())] gamOK hT h (by kernel_rfl) ⟨(by exact hpre), trivial⟩ fun a w h => then_normal (wp_seq (wp_seq ?_))
 refine at_regq [] { ts := [0, 4, 5, 10], os := [1, 2, 3] } [B_spec_l1Below.pre (vecD x0 x1).1 (10, ())] gamOK hT h (by kernel_rfl) ⟨(by exact (vecD_ok hpre.1).1), trivial⟩ fun a w h => then_normal (wp_block (wp_seq ?_))
 refine at_regq [] { ts := [0, 4, 5, 10, 11], os := [1, 2, 3] } [] gamOK hT h (by kernel_rfl) trivial fun a w h => then_normal ?_
 refine at_test (decide ((belowC (vecD x0 x1).1 10).2 = 0)) h (by kernel_rfl) (fun h1 => ?_) (fun h1 => ?_)
 ·replace h1 : (belowC (vecD x0 x1).1 10).2 = 0 := of_decide_eq_true h1
  refine at_regq [{}, {}, { ids := [4], frz := true }, {}, { ids := [5] }, { ids := [6] }] { ts := [4, 5], os := [1, 2, 6] } [B_spec_l1Int.pre (belowC (vecD x0 x1).1 10).1 ([(-1), 0, 1019], ()), (List.length (vecD x0 x1).2 + List.length ([(pickC (belowC (vecD x0 x1).1 10).1 ([(-1), 0, 1019])).2])) * 8 ≤ 140737488355328] gamOK hT h (by kernel_rfl) ⟨(by exact ⟨(below_ok (vecD_ok hpre.1).1), by simp, by simp⟩), (by first | omega | (simp only [lsA]; omega) | (simp <;> omega)), trivial⟩ fun a w h => in_normal (then_normal (wp_seq ?_))
  refine at_regq [] { ts := [4], os := [1, 2, 6] } [] gamOK hT h (by kernel_rfl) trivial fun a w h => then_normal (wp_ret ?_)
  have hr2 : (((pickC (belowC (vecD x0 x1).1 10).1 ([(-1), 0, 1019])).1, ((vecD x0 x1).2 ++ ([(pickC (belowC (vecD x0 x1).1 10).1 ([(-1), 0, 1019])).2]))) : T109 × (List Int)) = anyV x0 x1 := by (unfold anyV; rw [if_pos h1])
  exact at_returnB (B := B_spec_l5Any) (c0 := x0) (x := (x1, ())) ((pickC (belowC (vecD x0 x1).1 10).1 ([(-1), 0, 1019])).1) (((vecD x0 x1).2 ++ ([(pickC (belowC (vecD x0 x1).1 10).1 ([(-1), 0, 1019])).2])), ()) [(Value.pointer (some ⟨b0, 0, none⟩)) = (Value.pointer (some ⟨b0, 0, none⟩))] h (by kernel_rfl) ⟨rfl, trivial⟩ (congrArg (a₁ := ((pickC (belowC (vecD x0 x1).1 10).1 ([(-1), 0, 1019])).1, ((vecD x0 x1).2 ++ ([(pickC (belowC (vecD x0 x1).1 10).1 ([(-1), 0, 1019])).2])))) (a₂ := anyV x0 x1) (fun (z : T109 × (List Int)) => z.1) hr2) (congrArg (a₁ := ((pickC (belowC (vecD x0 x1).1 10).1 ([(-1), 0, 1019])).1, ((vecD x0 x1).2 ++ ([(pickC (belowC (vecD x0 x1).1 10).1 ([(-1), 0, 1019])).2])))) (a₂ := anyV x0 x1) (fun (z : T109 × (List Int)) => (z.2, ())) hr2)
 ·replace h1 : ¬ ((belowC (vecD x0 x1).1 10).2 = 0) := of_decide_eq_false h1
  refine wp_seq ?_
  refine at_regq [] { ts := [0, 4, 5, 19], os := [1, 2, 3] } [] gamOK hT h (by kernel_rfl) trivial fun a w h => then_normal ?_
  refine at_test (decide ((belowC (vecD x0 x1).1 10).2 = 1)) h (by kernel_rfl) (fun h3 => ?_) (fun h3 => ?_)
  ·replace h3 : (belowC (vecD x0 x1).1 10).2 = 1 := of_decide_eq_true h3
   refine at_regq [{}, {}, { nw := true }, { ids := [7] }] { ts := [4, 5], os := [1, 2, 7] } [B_spec_l1Below.pre (belowC (vecD x0 x1).1 10).1 (2, ()), I64 (40 + (belowC (belowC (vecD x0 x1).1 10).1 2).2), (0 : Int) ≤ 40 + (belowC (belowC (vecD x0 x1).1 10).1 2).2 ∧ 40 + (belowC (belowC (vecD x0 x1).1 10).1 2).2 = 40 + (belowC (belowC (vecD x0 x1).1 10).1 2).2 ∧ (40 + (belowC (belowC (vecD x0 x1).1 10).1 2).2) * (8 : Nat) ≤ (140737488355328 : Int)] gamOK hT h (by kernel_rfl) ⟨(by exact (below_ok (vecD_ok hpre.1).1)), ⟨by first | omega | (simp only [lsA]; omega) | (simp <;> omega), by first | omega | (simp only [lsA]; omega) | (simp <;> omega)⟩, (by refine ⟨?_, ?_, ?_⟩ <;> ((have hA0 := mul_f (40 + (belowC (belowC (vecD x0 x1).1 10).1 2).2) (8 : Nat); first | omega | (simp only [lsA]; omega) | (simp <;> omega)))), trivial⟩ fun a w h => in_normal (then_normal (wp_seq ?_))
   refine at_regq [] { ts := [4], os := [1, 2, 7] } [] gamOK hT h (by kernel_rfl) trivial fun a w h => then_normal (wp_ret ?_)
   have hr4 : (((belowC (belowC (vecD x0 x1).1 10).1 2).1, (List.replicate ((40 + (belowC (belowC (vecD x0 x1).1 10).1 2).2).toNat) (0 : Int))) : T109 × (List Int)) = anyV x0 x1 := by (unfold anyV; rw [if_neg h1, if_pos h3])
   exact at_returnB (B := B_spec_l5Any) (c0 := x0) (x := (x1, ())) ((belowC (belowC (vecD x0 x1).1 10).1 2).1) ((List.replicate ((40 + (belowC (belowC (vecD x0 x1).1 10).1 2).2).toNat) (0 : Int)), ()) [(Value.pointer (some ⟨b0, 0, none⟩)) = (Value.pointer (some ⟨b0, 0, none⟩))] h (by kernel_rfl) ⟨rfl, trivial⟩ (congrArg (a₁ := ((belowC (belowC (vecD x0 x1).1 10).1 2).1, (List.replicate ((40 + (belowC (belowC (vecD x0 x1).1 10).1 2).2).toNat) (0 : Int)))) (a₂ := anyV x0 x1) (fun (z : T109 × (List Int)) => z.1) hr4) (congrArg (a₁ := ((belowC (belowC (vecD x0 x1).1 10).1 2).1, (List.replicate ((40 + (belowC (belowC (vecD x0 x1).1 10).1 2).2).toNat) (0 : Int)))) (a₂ := anyV x0 x1) (fun (z : T109 × (List Int)) => (z.2, ())) hr4)
  ·replace h3 : ¬ ((belowC (vecD x0 x1).1 10).2 = 1) := of_decide_eq_false h3
   refine wp_skip (in_normal (then_normal (wp_seq ?_)))
   refine at_regq [] { ts := [4], os := [1, 2, 3] } [] gamOK hT h (by kernel_rfl) trivial fun a w h => then_normal (wp_ret ?_)
   have hr5 : (((belowC (vecD x0 x1).1 10).1, (vecD x0 x1).2) : T109 × (List Int)) = anyV x0 x1 := by (unfold anyV; rw [if_neg h1, if_neg h3])
   exact at_returnB (B := B_spec_l5Any) (c0 := x0) (x := (x1, ())) ((belowC (vecD x0 x1).1 10).1) ((vecD x0 x1).2, ()) [(Value.pointer (some ⟨b0, 0, none⟩)) = (Value.pointer (some ⟨b0, 0, none⟩))] h (by kernel_rfl) ⟨rfl, trivial⟩ (congrArg (a₁ := ((belowC (vecD x0 x1).1 10).1, (vecD x0 x1).2)) (a₂ := anyV x0 x1) (fun (z : T109 × (List Int)) => z.1) hr5) (congrArg (a₁ := ((belowC (vecD x0 x1).1 10).1, (vecD x0 x1).2)) (a₂ := anyV x0 x1) (fun (z : T109 × (List Int)) => (z.2, ())) hr5)
theorem anyV_ok {x : T109} {n : Int} (h : 0 ≤ x.2.1) (hn : n ≤ 40) : 0 ≤ (anyV x n).1.2.1 ∧ List.length (anyV x n).2 ≤ 41 := by
 have hvd := vecD_ok (n := n) h
 have hvl := hvd.2.1
 have hb2 := below_bd (belowC (vecD x n).1 10).1 (n := 2) (by decide)
 unfold anyV
 (repeat' split) <;> refine ⟨?_, ?_⟩ <;> first
  | exact pickC_ok (below_ok hvd.1)
  | exact below_ok (below_ok hvd.1)
  | exact below_ok hvd.1
  | (simp; omega)
  | (dsimp only; omega)

def rowIt (x : T109) : Nat → T109 × List Int
 | 0 => (x, [])
 | i + 1 => ((belowC (rowIt x i).1 256).1, (rowIt x i).2 ++ [(belowC (rowIt x i).1 256).2])
def genIt (x : T109) (n : Nat) : Nat → T109 × List (List Int)
 | 0 => (x, [])
 | i + 1 => ((rowIt (genIt x n i).1 n).1, (genIt x n i).2 ++ [(rowIt (genIt x n i).1 n).2])
theorem rowIt_inv {x : T109} (hx : 0 ≤ x.2.1) : ∀ i, 0 ≤ (rowIt x i).1.2.1 ∧ (rowIt x i).2.length = i ∧ ∀ e ∈ (rowIt x i).2, LA.El e
 | 0 => ⟨hx, rfl, fun e he => by cases he⟩
 | i + 1 => by
  obtain ⟨h1, h2, h3⟩ := rowIt_inv hx i
  have hb := below_bd (rowIt x i).1 (n := 256) (by decide)
  refine ⟨below_ok h1, by simp [rowIt, h2], fun y hy => ?_⟩
  rcases List.mem_append.1 hy with hy | hy
  ·exact h3 y hy
  ·have : y = (belowC (rowIt x i).1 256).2 := by simpa using hy
   rw [this]; unfold LA.El; omega
theorem genIt_inv {x : T109} {n : Nat} (hx : 0 ≤ x.2.1) : ∀ i, 0 ≤ (genIt x n i).1.2.1 ∧ (genIt x n i).2.length = i ∧ ∀ r ∈ (genIt x n i).2, LA.VokB n r
 | 0 => ⟨hx, rfl, fun e he => by cases he⟩
 | i + 1 => by
  obtain ⟨h1, h2, h3⟩ := genIt_inv (n := n) hx i
  have hr := rowIt_inv h1 n
  refine ⟨hr.1, by simp [genIt, h2], fun y hy => ?_⟩
  rcases List.mem_append.1 hy with hy | hy
  ·exact h3 y hy
  ·have : y = (rowIt (genIt x n i).1 n).2 := by simpa using hy
   rw [this]; exact ⟨hr.2.1, hr.2.2⟩
theorem validG_of {a : Int} {m : List (List Int)} {n : Nat} (ha : 0 ≤ a ∧ a ≤ 1000000000000) (h1 : 1 ≤ m.length ∧ m.length ≤ 8) (hn : 1 ≤ n ∧ n ≤ 16) (h2 : ∀ r ∈ m, LA.VokB n r) : validG (a, m) = true ∧ colsOf m = (n : Int) := by
 have h0 : (m.getD 0 []).length = n := (h2 _ (getD_mem (z := []) (show 0 < m.length by omega))).1
 have hc : colsOf m = (n : Int) := by rw [colsOf_at h1.1, h0]
 have hm : validM m = true := by
  unfold validM
  have ha : m.all (fun r => validV r && decide (List.length r = List.length (m.getD 0 []))) = true := List.all_eq_true.2 fun r hr => by
   rw [Bool.and_eq_true]
   exact ⟨validV_of (h2 r hr) (by omega), decide_eq_true (by rw [h0]; exact (h2 r hr).1)⟩
  rw [if_pos ha]
  exact decide_eq_true (by omega)
 refine ⟨?_, hc⟩
 unfold validG
 rw [if_pos (show inR a 0 1000000000000 = true from inR_true ha), if_pos (show inR ((List.length m : Nat) : Int) 1 8 = true from inR_true (by omega)), if_pos hm, hc]
 exact inR_true (by omega)
def genD (x0 : T109) : T109 × T26 := ((genIt (belowC (belowC (belowC x0 5).1 3).1 4).1 (1 + (belowC (belowC x0 5).1 3).2).toNat (1 + (belowC (belowC (belowC x0 5).1 3).1 4).2).toNat).1, ((belowC x0 5).2, (genIt (belowC (belowC (belowC x0 5).1 3).1 4).1 (1 + (belowC (belowC x0 5).1 3).2).toNat (1 + (belowC (belowC (belowC x0 5).1 3).1 4).2).toNat).2))
abbrev Q_spec_l10Gen := (fun (x0 : T109) => 0 ≤ x0.2.1)
def B_spec_l10Gen : BS := { t := 109, s := s109, dom := [], cod := [s26], pre := fun y x => Q_spec_l10Gen y, upd := fun y x => (genD y).1, g := fun y x => ((genD y).2, ()) }
def S_spec_l10Gen : Sum := bSum 99 B_spec_l10Gen
def S_spec_l10Gen_tab : List (Nat × Sum) := [(73, S_spec_l1Below)]
theorem S_spec_l10Gen_ok : FnOK Try.prog 99 S_spec_l10Gen := by
 refine at_enterB (B := B_spec_l10Gen) 39 (fun v y x => ⟨[(0, aP 1 0)], [(1, oX 109 [.ro (.u8 5) y.1, cI y.2.1, cI y.2.2]), (2, oP 1 v)]⟩) Try.func99 rfl (by kernel_rfl) (fun v y x => rfl) ?_
 rintro w0 Z0 b0 x0 ⟨u⟩ a w
 revert x0
 intro (x0 : T109) hpre hlens0 hlens h
 replace h : At w0 Z0 [b0] 39 ⟨[(0, aP 1 0)], [(1, oX 109 [.ro (.u8 5) x0.1, cI x0.2.1, cI x0.2.2]), (2, oP 1 (Value.pointer (some ⟨b0, 0, none⟩)))]⟩ a w := h
 replace hpre : Q_spec_l10Gen x0 := hpre
 have hl1 : List.length x0.1 ≤ 9223372036854775807 := hlens0.1.1
 have hu0 : u8L x0.1 := hlens0.1.2
 have hT : TabOK Try.prog S_spec_l10Gen_tab := (.cons S_spec_l1Below_ok .nil)
 have hb1 := below_bd x0 (n := 5) (by decide)
 have hb2 := below_bd (belowC x0 5).1 (n := 3) (by decide)
 have hb3 := below_bd (belowC (belowC x0 5).1 3).1 (n := 4) (by decide)
 have hc := below_ok (n := 4) (below_ok (n := 3) (below_ok (n := 5) hpre))
 refine wp_seq ?_
 refine at_regq [{ ids := [3] }] { ts := [0, 2], os := [1, 2, 3] } [] gamOK hT h (by kernel_rfl) trivial fun a w h => then_normal (wp_seq ?_)
 refine at_regq [{}, {}, {}, { ids := [4] }] { ts := [0, 2, 3], os := [1, 2, 3, 4] } [B_spec_l1Below.pre x0 (5, ())] gamOK hT h (by kernel_rfl) ⟨(by exact hpre), trivial⟩ fun a w h => then_normal (wp_seq ?_)
 refine at_regq [{}, {}, { nw := true }] { ts := [0, 2, 3, 4], os := [1, 2, 3, 4] } [B_spec_l1Below.pre (belowC x0 5).1 (3, ()), I64 (1 + (belowC (belowC x0 5).1 3).2)] gamOK hT h (by kernel_rfl) ⟨(by exact (below_ok hpre)), ⟨by first | omega | (simp only [lsA]; omega) | (simp <;> omega), by first | omega | (simp only [lsA]; omega) | (simp <;> omega)⟩, trivial⟩ fun a w h => then_normal (wp_seq (wp_seq ?_))
 refine at_regq [{}, {}, { nw := true }] { ts := [0, 2, 3, 4, 5], os := [1, 2, 3, 4] } [B_spec_l1Below.pre (belowC (belowC x0 5).1 3).1 (4, ()), I64 (1 + (belowC (belowC (belowC x0 5).1 3).1 4).2)] gamOK hT h (by kernel_rfl) ⟨(by exact (below_ok (below_ok hpre))), ⟨by first | omega | (simp only [lsA]; omega) | (simp <;> omega), by first | omega | (simp only [lsA]; omega) | (simp <;> omega)⟩, trivial⟩ fun a w h => then_normal (wp_block ?_)
 replace h := at_out (σ' := ⟨[(0, aP 1 0), (2, aP 3 0), (3, aP 4 0), (4, aI (1 + (belowC (belowC x0 5).1 3).2)), (5, aI (1 + (belowC (belowC (belowC x0 5).1 3).1 4).2))], [(1, oX 109 [.ro (.u8 5) (belowC (belowC (belowC x0 5).1 3).1 4).1.1, cI (belowC (belowC (belowC x0 5).1 3).1 4).1.2.1, cI (belowC (belowC (belowC x0 5).1 3).1 4).1.2.2]), (2, oP 1 (Value.pointer (some ⟨b0, 0, none⟩))), (3, oX 26 [cI 0, cN]), (4, oX 26 [cI (belowC x0 5).2, .sl 5]), (5, oR s27 ([] : List (List Int)))]⟩) { mt := [⟨some 4, 1, 5, true, s27⟩], ts := [0, 2, 3, 4, 5], os := [1, 2, 3, 4, 5] } h (by kernel_rfl)
 refine at_loop (fun i : Nat => (⟨[(0, aP 1 0), (2, aP 3 0), (3, aP 4 0), (4, aI (1 + (belowC (belowC x0 5).1 3).2)), (5, aI ((1 + (belowC (belowC (belowC x0 5).1 3).1 4).2) - ((i : Nat) : Int)))], [(1, oX 109 [.ro (.u8 5) (genIt (belowC (belowC (belowC x0 5).1 3).1 4).1 (1 + (belowC (belowC x0 5).1 3).2).toNat i).1.1, cI (genIt (belowC (belowC (belowC x0 5).1 3).1 4).1 (1 + (belowC (belowC x0 5).1 3).2).toNat i).1.2.1, cI (genIt (belowC (belowC (belowC x0 5).1 3).1 4).1 (1 + (belowC (belowC x0 5).1 3).2).toNat i).1.2.2]), (2, oP 1 (Value.pointer (some ⟨b0, 0, none⟩))), (3, oX 26 [cI 0, cN]), (4, oX 26 [cI (belowC x0 5).2, .sl 5]), (5, oR s27 (genIt (belowC (belowC (belowC x0 5).1 3).1 4).1 (1 + (belowC (belowC x0 5).1 3).2).toNat i).2)]⟩ : St)) (fun i => ((i : Nat) : Int) ≤ (1 + (belowC (belowC (belowC x0 5).1 3).1 4).2)) (fun i => ((1 + (belowC (belowC (belowC x0 5).1 3).1 4).2)).toNat - i) (0) h (st_congr5 (fun (d0 : List Int) (d1 : Int) (d2 : Int) (d3 : List (List Int)) (d4 : Int) => (⟨[(0, aP 1 0), (2, aP 3 0), (3, aP 4 0), (4, aI (1 + (belowC (belowC x0 5).1 3).2)), (5, aI d4)], [(1, oX 109 [.ro (.u8 5) d0, cI d1, cI d2]), (2, oP 1 (Value.pointer (some ⟨b0, 0, none⟩))), (3, oX 26 [cI 0, cN]), (4, oX 26 [cI (belowC x0 5).2, .sl 5]), (5, oR s27 d3)]⟩ : St)) (show ((belowC (belowC (belowC x0 5).1 3).1 4).1.1 : List Int) = (genIt (belowC (belowC (belowC x0 5).1 3).1 4).1 (1 + (belowC (belowC x0 5).1 3).2).toNat (0)).1.1 from by first | with_reducible rfl | (first | rfl | omega) | rfl) (show ((belowC (belowC (belowC x0 5).1 3).1 4).1.2.1 : Int) = (genIt (belowC (belowC (belowC x0 5).1 3).1 4).1 (1 + (belowC (belowC x0 5).1 3).2).toNat (0)).1.2.1 from by first | with_reducible rfl | (first | rfl | omega) | rfl) (show ((belowC (belowC (belowC x0 5).1 3).1 4).1.2.2 : Int) = (genIt (belowC (belowC (belowC x0 5).1 3).1 4).1 (1 + (belowC (belowC x0 5).1 3).2).toNat (0)).1.2.2 from by first | with_reducible rfl | (first | rfl | omega) | rfl) (show (([] : List (List Int)) : List (List Int)) = (genIt (belowC (belowC (belowC x0 5).1 3).1 4).1 (1 + (belowC (belowC x0 5).1 3).2).toNat (0)).2 from by first | with_reducible rfl | (first | rfl | omega) | rfl) (show (1 + (belowC (belowC (belowC x0 5).1 3).1 4).2 : Int) = ((1 + (belowC (belowC (belowC x0 5).1 3).1 4).2) - (((0) : Nat) : Int)) from by first | with_reducible rfl | (first | rfl | omega) | rfl)) (by omega) ?_
 intro i a w hok0 h
 have hgi := genIt_inv (n := (1 + (belowC (belowC x0 5).1 3).2).toNat) hc i
 have hgl := hgi.2.1
 refine wp_seq (wp_seq ?_)
 refine at_regq [] { ts := [0, 2, 3, 4, 5, 18], os := [1, 2, 3, 4, 5] } [] gamOK hT h (by kernel_rfl) trivial fun a w h => then_normal ?_
 refine at_test (decide (((1 + (belowC (belowC (belowC x0 5).1 3).1 4).2) - ((i : Nat) : Int)) > 0)) h (by kernel_rfl) (fun h1 => ?_) (fun h1 => ?_)
 ·replace h1 : ((1 + (belowC (belowC (belowC x0 5).1 3).1 4).2) - ((i : Nat) : Int)) > 0 := of_decide_eq_true h1
  refine wp_skip (then_normal (wp_seq (wp_block (wp_seq ?_))))
  refine at_regq [{ ids := [6] }] { ts := [0, 2, 3, 4, 5, 6], os := [1, 2, 3, 4, 5, 6] } [] gamOK hT h (by kernel_rfl) trivial fun a w h => then_normal (wp_seq (wp_seq ?_))
  refine at_regq [] { ts := [0, 2, 3, 4, 5, 6, 7], os := [1, 2, 3, 4, 5, 6] } [] gamOK hT h (by kernel_rfl) trivial fun a w h => then_normal (wp_block ?_)
  replace h := at_out (σ' := ⟨[(0, aP 1 0), (2, aP 3 0), (3, aP 4 0), (4, aI (1 + (belowC (belowC x0 5).1 3).2)), (5, aI ((1 + (belowC (belowC (belowC x0 5).1 3).1 4).2) - ((i : Nat) : Int))), (6, aS 6), (7, aI 0)], [(1, oX 109 [.ro (.u8 5) (genIt (belowC (belowC (belowC x0 5).1 3).1 4).1 (1 + (belowC (belowC x0 5).1 3).2).toNat i).1.1, cI (genIt (belowC (belowC (belowC x0 5).1 3).1 4).1 (1 + (belowC (belowC x0 5).1 3).2).toNat i).1.2.1, cI (genIt (belowC (belowC (belowC x0 5).1 3).1 4).1 (1 + (belowC (belowC x0 5).1 3).2).toNat i).1.2.2]), (2, oP 1 (Value.pointer (some ⟨b0, 0, none⟩))), (3, oX 26 [cI 0, cN]), (4, oX 26 [cI (belowC x0 5).2, .sl 5]), (5, oR s27 (genIt (belowC (belowC (belowC x0 5).1 3).1 4).1 (1 + (belowC (belowC x0 5).1 3).2).toNat i).2), (6, oR (.int 3) ([] : List Int))]⟩) { ts := [0, 2, 3, 4, 5, 6, 7], os := [1, 2, 3, 4, 5, 6] } h (by kernel_rfl)
  refine at_loop (fun k : Nat => (⟨[(0, aP 1 0), (2, aP 3 0), (3, aP 4 0), (4, aI (1 + (belowC (belowC x0 5).1 3).2)), (5, aI ((1 + (belowC (belowC (belowC x0 5).1 3).1 4).2) - ((i : Nat) : Int))), (6, aS 6), (7, aI ((k : Nat) : Int))], [(1, oX 109 [.ro (.u8 5) (rowIt (genIt (belowC (belowC (belowC x0 5).1 3).1 4).1 (1 + (belowC (belowC x0 5).1 3).2).toNat i).1 k).1.1, cI (rowIt (genIt (belowC (belowC (belowC x0 5).1 3).1 4).1 (1 + (belowC (belowC x0 5).1 3).2).toNat i).1 k).1.2.1, cI (rowIt (genIt (belowC (belowC (belowC x0 5).1 3).1 4).1 (1 + (belowC (belowC x0 5).1 3).2).toNat i).1 k).1.2.2]), (2, oP 1 (Value.pointer (some ⟨b0, 0, none⟩))), (3, oX 26 [cI 0, cN]), (4, oX 26 [cI (belowC x0 5).2, .sl 5]), (5, oR s27 (genIt (belowC (belowC (belowC x0 5).1 3).1 4).1 (1 + (belowC (belowC x0 5).1 3).2).toNat i).2), (6, oR (.int 3) (rowIt (genIt (belowC (belowC (belowC x0 5).1 3).1 4).1 (1 + (belowC (belowC x0 5).1 3).2).toNat i).1 k).2)]⟩ : St)) (fun k => k ≤ (1 + (belowC (belowC x0 5).1 3).2).toNat) (fun k => (1 + (belowC (belowC x0 5).1 3).2).toNat - k) (0) h (st_congr5 (fun (d0 : List Int) (d1 : Int) (d2 : Int) (d3 : List Int) (d4 : Int) => (⟨[(0, aP 1 0), (2, aP 3 0), (3, aP 4 0), (4, aI (1 + (belowC (belowC x0 5).1 3).2)), (5, aI ((1 + (belowC (belowC (belowC x0 5).1 3).1 4).2) - ((i : Nat) : Int))), (6, aS 6), (7, aI d4)], [(1, oX 109 [.ro (.u8 5) d0, cI d1, cI d2]), (2, oP 1 (Value.pointer (some ⟨b0, 0, none⟩))), (3, oX 26 [cI 0, cN]), (4, oX 26 [cI (belowC x0 5).2, .sl 5]), (5, oR s27 (genIt (belowC (belowC (belowC x0 5).1 3).1 4).1 (1 + (belowC (belowC x0 5).1 3).2).toNat i).2), (6, oR (.int 3) d3)]⟩ : St)) (show ((genIt (belowC (belowC (belowC x0 5).1 3).1 4).1 (1 + (belowC (belowC x0 5).1 3).2).toNat i).1.1 : List Int) = (rowIt (genIt (belowC (belowC (belowC x0 5).1 3).1 4).1 (1 + (belowC (belowC x0 5).1 3).2).toNat i).1 (0)).1.1 from by first | with_reducible rfl | (rfl) | rfl) (show ((genIt (belowC (belowC (belowC x0 5).1 3).1 4).1 (1 + (belowC (belowC x0 5).1 3).2).toNat i).1.2.1 : Int) = (rowIt (genIt (belowC (belowC (belowC x0 5).1 3).1 4).1 (1 + (belowC (belowC x0 5).1 3).2).toNat i).1 (0)).1.2.1 from by first | with_reducible rfl | (rfl) | rfl) (show ((genIt (belowC (belowC (belowC x0 5).1 3).1 4).1 (1 + (belowC (belowC x0 5).1 3).2).toNat i).1.2.2 : Int) = (rowIt (genIt (belowC (belowC (belowC x0 5).1 3).1 4).1 (1 + (belowC (belowC x0 5).1 3).2).toNat i).1 (0)).1.2.2 from by first | with_reducible rfl | (rfl) | rfl) (show (([] : List Int) : List Int) = (rowIt (genIt (belowC (belowC (belowC x0 5).1 3).1 4).1 (1 + (belowC (belowC x0 5).1 3).2).toNat i).1 (0)).2 from by first | with_reducible rfl | (rfl) | rfl) (show (0 : Int) = (((0) : Nat) : Int) from by first | with_reducible rfl | (rfl) | rfl)) (by omega) ?_
  intro k a w hok1 h
  have hri := rowIt_inv hgi.1 k
  have hrl := hri.2.1
  refine wp_seq (wp_seq ?_)
  refine at_regq [] { ts := [0, 2, 3, 4, 5, 6, 7, 24], os := [1, 2, 3, 4, 5, 6] } [] gamOK hT h (by kernel_rfl) trivial fun a w h => then_normal ?_
  refine at_test (decide (((k : Nat) : Int) < 1 + (belowC (belowC x0 5).1 3).2)) h (by kernel_rfl) (fun h2 => ?_) (fun h2 => ?_)
  ·replace h2 : ((k : Nat) : Int) < 1 + (belowC (belowC x0 5).1 3).2 := of_decide_eq_true h2
   refine wp_skip (then_normal (wp_seq (wp_block ?_)))
   refine at_regq [{}, {}, {}, { ids := [7] }, { ids := [8] }] { ts := [0, 2, 3, 4, 5, 6, 7], os := [1, 2, 3, 4, 5, 8] } [B_spec_l1Below.pre (rowIt (genIt (belowC (belowC (belowC x0 5).1 3).1 4).1 (1 + (belowC (belowC x0 5).1 3).2).toNat i).1 k).1 (256, ()), (List.length (rowIt (genIt (belowC (belowC (belowC x0 5).1 3).1 4).1 (1 + (belowC (belowC x0 5).1 3).2).toNat i).1 k).2 + List.length ([(belowC (rowIt (genIt (belowC (belowC (belowC x0 5).1 3).1 4).1 (1 + (belowC (belowC x0 5).1 3).2).toNat i).1 k).1 256).2])) * 8 ≤ 140737488355328] gamOK hT h (by kernel_rfl) ⟨(by exact hri.1), (by first | omega | (simp only [lsA]; omega) | (simp <;> omega)), trivial⟩ fun a w h => in_normal (then_normal ?_)
   refine at_regq [{}, { nw := true }] { ts := [0, 2, 3, 4, 5, 6, 7], os := [1, 2, 3, 4, 5, 8] } [I64 (((k : Nat) : Int) + 1)] gamOK hT h (by kernel_rfl) ⟨⟨by first | omega | (simp only [lsA]; omega) | (simp <;> omega), by first | omega | (simp only [lsA]; omega) | (simp <;> omega)⟩, trivial⟩ fun a w h => ?_
   replace h := at_out (σ' := ⟨[(0, aP 1 0), (2, aP 3 0), (3, aP 4 0), (4, aI (1 + (belowC (belowC x0 5).1 3).2)), (5, aI ((1 + (belowC (belowC (belowC x0 5).1 3).1 4).2) - ((i : Nat) : Int))), (6, aS 6), (7, aI (((k : Nat) : Int) + 1))], [(1, oX 109 [.ro (.u8 5) (belowC (rowIt (genIt (belowC (belowC (belowC x0 5).1 3).1 4).1 (1 + (belowC (belowC x0 5).1 3).2).toNat i).1 k).1 256).1.1, cI (belowC (rowIt (genIt (belowC (belowC (belowC x0 5).1 3).1 4).1 (1 + (belowC (belowC x0 5).1 3).2).toNat i).1 k).1 256).1.2.1, cI (belowC (rowIt (genIt (belowC (belowC (belowC x0 5).1 3).1 4).1 (1 + (belowC (belowC x0 5).1 3).2).toNat i).1 k).1 256).1.2.2]), (2, oP 1 (Value.pointer (some ⟨b0, 0, none⟩))), (3, oX 26 [cI 0, cN]), (4, oX 26 [cI (belowC x0 5).2, .sl 5]), (5, oR s27 (genIt (belowC (belowC (belowC x0 5).1 3).1 4).1 (1 + (belowC (belowC x0 5).1 3).2).toNat i).2), (6, oR (.int 3) ((rowIt (genIt (belowC (belowC (belowC x0 5).1 3).1 4).1 (1 + (belowC (belowC x0 5).1 3).2).toNat i).1 k).2 ++ ([(belowC (rowIt (genIt (belowC (belowC (belowC x0 5).1 3).1 4).1 (1 + (belowC (belowC x0 5).1 3).2).toNat i).1 k).1 256).2])))]⟩) { ts := [0, 2, 3, 4, 5, 6, 7], os := [1, 2, 3, 4, 5, 8], rn := [(8, 6)] } h (by kernel_rfl)
   exact ⟨k + 1, at_eq h (st_congr5 (fun (d0 : List Int) (d1 : Int) (d2 : Int) (d3 : List Int) (d4 : Int) => (⟨[(0, aP 1 0), (2, aP 3 0), (3, aP 4 0), (4, aI (1 + (belowC (belowC x0 5).1 3).2)), (5, aI ((1 + (belowC (belowC (belowC x0 5).1 3).1 4).2) - ((i : Nat) : Int))), (6, aS 6), (7, aI d4)], [(1, oX 109 [.ro (.u8 5) d0, cI d1, cI d2]), (2, oP 1 (Value.pointer (some ⟨b0, 0, none⟩))), (3, oX 26 [cI 0, cN]), (4, oX 26 [cI (belowC x0 5).2, .sl 5]), (5, oR s27 (genIt (belowC (belowC (belowC x0 5).1 3).1 4).1 (1 + (belowC (belowC x0 5).1 3).2).toNat i).2), (6, oR (.int 3) d3)]⟩ : St)) (show ((belowC (rowIt (genIt (belowC (belowC (belowC x0 5).1 3).1 4).1 (1 + (belowC (belowC x0 5).1 3).2).toNat i).1 k).1 256).1.1 : List Int) = (rowIt (genIt (belowC (belowC (belowC x0 5).1 3).1 4).1 (1 + (belowC (belowC x0 5).1 3).2).toNat i).1 (k + 1)).1.1 from by first | with_reducible rfl | (rfl) | rfl) (show ((belowC (rowIt (genIt (belowC (belowC (belowC x0 5).1 3).1 4).1 (1 + (belowC (belowC x0 5).1 3).2).toNat i).1 k).1 256).1.2.1 : Int) = (rowIt (genIt (belowC (belowC (belowC x0 5).1 3).1 4).1 (1 + (belowC (belowC x0 5).1 3).2).toNat i).1 (k + 1)).1.2.1 from by first | with_reducible rfl | (rfl) | rfl) (show ((belowC (rowIt (genIt (belowC (belowC (belowC x0 5).1 3).1 4).1 (1 + (belowC (belowC x0 5).1 3).2).toNat i).1 k).1 256).1.2.2 : Int) = (rowIt (genIt (belowC (belowC (belowC x0 5).1 3).1 4).1 (1 + (belowC (belowC x0 5).1 3).2).toNat i).1 (k + 1)).1.2.2 from by first | with_reducible rfl | (rfl) | rfl) (show (((rowIt (genIt (belowC (belowC (belowC x0 5).1 3).1 4).1 (1 + (belowC (belowC x0 5).1 3).2).toNat i).1 k).2 ++ ([(belowC (rowIt (genIt (belowC (belowC (belowC x0 5).1 3).1 4).1 (1 + (belowC (belowC x0 5).1 3).2).toNat i).1 k).1 256).2])) : List Int) = (rowIt (genIt (belowC (belowC (belowC x0 5).1 3).1 4).1 (1 + (belowC (belowC x0 5).1 3).2).toNat i).1 (k + 1)).2 from by first | with_reducible rfl | (rfl) | rfl) (show (((k : Nat) : Int) + 1 : Int) = (((k + 1) : Nat) : Int) from by first | with_reducible rfl | (omega) | rfl)), (by omega), (by omega)⟩
  ·replace h2 : ¬ (((k : Nat) : Int) < 1 + (belowC (belowC x0 5).1 3).2) := of_decide_eq_false h2
   refine wp_exit (then_exit ?_)
   replace h := at_out (σ' := ⟨[(0, aP 1 0), (2, aP 3 0), (3, aP 4 0), (4, aI (1 + (belowC (belowC x0 5).1 3).2)), (5, aI ((1 + (belowC (belowC (belowC x0 5).1 3).1 4).2) - ((i : Nat) : Int))), (6, aS 6)], [(1, oX 109 [.ro (.u8 5) (rowIt (genIt (belowC (belowC (belowC x0 5).1 3).1 4).1 (1 + (belowC (belowC x0 5).1 3).2).toNat i).1 k).1.1, cI (rowIt (genIt (belowC (belowC (belowC x0 5).1 3).1 4).1 (1 + (belowC (belowC x0 5).1 3).2).toNat i).1 k).1.2.1, cI (rowIt (genIt (belowC (belowC (belowC x0 5).1 3).1 4).1 (1 + (belowC (belowC x0 5).1 3).2).toNat i).1 k).1.2.2]), (2, oP 1 (Value.pointer (some ⟨b0, 0, none⟩))), (3, oX 26 [cI 0, cN]), (4, oX 26 [cI (belowC x0 5).2, .sl 5]), (5, oR s27 (genIt (belowC (belowC (belowC x0 5).1 3).1 4).1 (1 + (belowC (belowC x0 5).1 3).2).toNat i).2), (6, oR (.int 3) (rowIt (genIt (belowC (belowC (belowC x0 5).1 3).1 4).1 (1 + (belowC (belowC x0 5).1 3).2).toNat i).1 k).2)]⟩) { ts := [0, 2, 3, 4, 5, 6], os := [1, 2, 3, 4, 5, 6] } h (by kernel_rfl)
   replace h := at_eq (σ' := ⟨[(0, aP 1 0), (2, aP 3 0), (3, aP 4 0), (4, aI (1 + (belowC (belowC x0 5).1 3).2)), (5, aI ((1 + (belowC (belowC (belowC x0 5).1 3).1 4).2) - ((i : Nat) : Int))), (6, aS 6)], [(1, oX 109 [.ro (.u8 5) (rowIt (genIt (belowC (belowC (belowC x0 5).1 3).1 4).1 (1 + (belowC (belowC x0 5).1 3).2).toNat i).1 (1 + (belowC (belowC x0 5).1 3).2).toNat).1.1, cI (rowIt (genIt (belowC (belowC (belowC x0 5).1 3).1 4).1 (1 + (belowC (belowC x0 5).1 3).2).toNat i).1 (1 + (belowC (belowC x0 5).1 3).2).toNat).1.2.1, cI (rowIt (genIt (belowC (belowC (belowC x0 5).1 3).1 4).1 (1 + (belowC (belowC x0 5).1 3).2).toNat i).1 (1 + (belowC (belowC x0 5).1 3).2).toNat).1.2.2]), (2, oP 1 (Value.pointer (some ⟨b0, 0, none⟩))), (3, oX 26 [cI 0, cN]), (4, oX 26 [cI (belowC x0 5).2, .sl 5]), (5, oR s27 (genIt (belowC (belowC (belowC x0 5).1 3).1 4).1 (1 + (belowC (belowC x0 5).1 3).2).toNat i).2), (6, oR (.int 3) (rowIt (genIt (belowC (belowC (belowC x0 5).1 3).1 4).1 (1 + (belowC (belowC x0 5).1 3).2).toNat i).1 (1 + (belowC (belowC x0 5).1 3).2).toNat).2)]⟩) h (st_congr4 (fun (d0 : List Int) (d1 : Int) (d2 : Int) (d3 : List Int) => (⟨[(0, aP 1 0), (2, aP 3 0), (3, aP 4 0), (4, aI (1 + (belowC (belowC x0 5).1 3).2)), (5, aI ((1 + (belowC (belowC (belowC x0 5).1 3).1 4).2) - ((i : Nat) : Int))), (6, aS 6)], [(1, oX 109 [.ro (.u8 5) d0, cI d1, cI d2]), (2, oP 1 (Value.pointer (some ⟨b0, 0, none⟩))), (3, oX 26 [cI 0, cN]), (4, oX 26 [cI (belowC x0 5).2, .sl 5]), (5, oR s27 (genIt (belowC (belowC (belowC x0 5).1 3).1 4).1 (1 + (belowC (belowC x0 5).1 3).2).toNat i).2), (6, oR (.int 3) d3)]⟩ : St)) (show ((rowIt (genIt (belowC (belowC (belowC x0 5).1 3).1 4).1 (1 + (belowC (belowC x0 5).1 3).2).toNat i).1 k).1.1 : List Int) = (rowIt (genIt (belowC (belowC (belowC x0 5).1 3).1 4).1 (1 + (belowC (belowC x0 5).1 3).2).toNat i).1 (1 + (belowC (belowC x0 5).1 3).2).toNat).1.1 from by first | with_reducible rfl | (rw [show (1 + (belowC (belowC x0 5).1 3).2).toNat = k by omega]) | rfl) (show ((rowIt (genIt (belowC (belowC (belowC x0 5).1 3).1 4).1 (1 + (belowC (belowC x0 5).1 3).2).toNat i).1 k).1.2.1 : Int) = (rowIt (genIt (belowC (belowC (belowC x0 5).1 3).1 4).1 (1 + (belowC (belowC x0 5).1 3).2).toNat i).1 (1 + (belowC (belowC x0 5).1 3).2).toNat).1.2.1 from by first | with_reducible rfl | (rw [show (1 + (belowC (belowC x0 5).1 3).2).toNat = k by omega]) | rfl) (show ((rowIt (genIt (belowC (belowC (belowC x0 5).1 3).1 4).1 (1 + (belowC (belowC x0 5).1 3).2).toNat i).1 k).1.2.2 : Int) = (rowIt (genIt (belowC (belowC (belowC x0 5).1 3).1 4).1 (1 + (belowC (belowC x0 5).1 3).2).toNat i).1 (1 + (belowC (belowC x0 5).1 3).2).toNat).1.2.2 from by first | with_reducible rfl | (rw [show (1 + (belowC (belowC x0 5).1 3).2).toNat = k by omega]) | rfl) (show ((rowIt (genIt (belowC (belowC (belowC x0 5).1 3).1 4).1 (1 + (belowC (belowC x0 5).1 3).2).toNat i).1 k).2 : List Int) = (rowIt (genIt (belowC (belowC (belowC x0 5).1 3).1 4).1 (1 + (belowC (belowC x0 5).1 3).2).toNat i).1 (1 + (belowC (belowC x0 5).1 3).2).toNat).2 from by first | with_reducible rfl | (rw [show (1 + (belowC (belowC x0 5).1 3).2).toNat = k by omega]) | rfl))
   refine then_exit (in_hit (then_normal ?_))
   refine at_regq [{}, {}, {}, { ids := [9] }, { ids := [10] }] { ts := [0, 2, 3, 4, 5], os := [1, 2, 3, 4, 10] } [(List.length (genIt (belowC (belowC (belowC x0 5).1 3).1 4).1 (1 + (belowC (belowC x0 5).1 3).2).toNat i).2 + List.length ([(rowIt (genIt (belowC (belowC (belowC x0 5).1 3).1 4).1 (1 + (belowC (belowC x0 5).1 3).2).toNat i).1 (1 + (belowC (belowC x0 5).1 3).2).toNat).2])) * 24 ≤ 140737488355328] gamOK hT h (by kernel_rfl) ⟨(by first | omega | (simp only [lsA]; omega) | (simp <;> omega)), trivial⟩ fun a w h => in_normal (then_normal ?_)
   refine at_regq [{}, { nw := true }] { ts := [0, 2, 3, 4, 5], os := [1, 2, 3, 4, 10] } [I64 (((1 + (belowC (belowC (belowC x0 5).1 3).1 4).2) - ((i : Nat) : Int)) - 1)] gamOK hT h (by kernel_rfl) ⟨⟨by first | omega | (simp only [lsA]; omega) | (simp <;> omega), by first | omega | (simp only [lsA]; omega) | (simp <;> omega)⟩, trivial⟩ fun a w h => ?_
   replace h := at_out (σ' := ⟨[(0, aP 1 0), (2, aP 3 0), (3, aP 4 0), (4, aI (1 + (belowC (belowC x0 5).1 3).2)), (5, aI (((1 + (belowC (belowC (belowC x0 5).1 3).1 4).2) - ((i : Nat) : Int)) - 1))], [(1, oX 109 [.ro (.u8 5) (rowIt (genIt (belowC (belowC (belowC x0 5).1 3).1 4).1 (1 + (belowC (belowC x0 5).1 3).2).toNat i).1 (1 + (belowC (belowC x0 5).1 3).2).toNat).1.1, cI (rowIt (genIt (belowC (belowC (belowC x0 5).1 3).1 4).1 (1 + (belowC (belowC x0 5).1 3).2).toNat i).1 (1 + (belowC (belowC x0 5).1 3).2).toNat).1.2.1, cI (rowIt (genIt (belowC (belowC (belowC x0 5).1 3).1 4).1 (1 + (belowC (belowC x0 5).1 3).2).toNat i).1 (1 + (belowC (belowC x0 5).1 3).2).toNat).1.2.2]), (2, oP 1 (Value.pointer (some ⟨b0, 0, none⟩))), (3, oX 26 [cI 0, cN]), (4, oX 26 [cI (belowC x0 5).2, .sl 5]), (5, oR s27 ((genIt (belowC (belowC (belowC x0 5).1 3).1 4).1 (1 + (belowC (belowC x0 5).1 3).2).toNat i).2 ++ ([(rowIt (genIt (belowC (belowC (belowC x0 5).1 3).1 4).1 (1 + (belowC (belowC x0 5).1 3).2).toNat i).1 (1 + (belowC (belowC x0 5).1 3).2).toNat).2])))]⟩) { ts := [0, 2, 3, 4, 5], os := [1, 2, 3, 4, 10], rn := [(10, 5)] } h (by kernel_rfl)
   exact ⟨i + 1, at_eq h (st_congr5 (fun (d0 : List Int) (d1 : Int) (d2 : Int) (d3 : List (List Int)) (d4 : Int) => (⟨[(0, aP 1 0), (2, aP 3 0), (3, aP 4 0), (4, aI (1 + (belowC (belowC x0 5).1 3).2)), (5, aI d4)], [(1, oX 109 [.ro (.u8 5) d0, cI d1, cI d2]), (2, oP 1 (Value.pointer (some ⟨b0, 0, none⟩))), (3, oX 26 [cI 0, cN]), (4, oX 26 [cI (belowC x0 5).2, .sl 5]), (5, oR s27 d3)]⟩ : St)) (show ((rowIt (genIt (belowC (belowC (belowC x0 5).1 3).1 4).1 (1 + (belowC (belowC x0 5).1 3).2).toNat i).1 (1 + (belowC (belowC x0 5).1 3).2).toNat).1.1 : List Int) = (genIt (belowC (belowC (belowC x0 5).1 3).1 4).1 (1 + (belowC (belowC x0 5).1 3).2).toNat (i + 1)).1.1 from by first | with_reducible rfl | (rfl) | rfl) (show ((rowIt (genIt (belowC (belowC (belowC x0 5).1 3).1 4).1 (1 + (belowC (belowC x0 5).1 3).2).toNat i).1 (1 + (belowC (belowC x0 5).1 3).2).toNat).1.2.1 : Int) = (genIt (belowC (belowC (belowC x0 5).1 3).1 4).1 (1 + (belowC (belowC x0 5).1 3).2).toNat (i + 1)).1.2.1 from by first | with_reducible rfl | (rfl) | rfl) (show ((rowIt (genIt (belowC (belowC (belowC x0 5).1 3).1 4).1 (1 + (belowC (belowC x0 5).1 3).2).toNat i).1 (1 + (belowC (belowC x0 5).1 3).2).toNat).1.2.2 : Int) = (genIt (belowC (belowC (belowC x0 5).1 3).1 4).1 (1 + (belowC (belowC x0 5).1 3).2).toNat (i + 1)).1.2.2 from by first | with_reducible rfl | (rfl) | rfl) (show (((genIt (belowC (belowC (belowC x0 5).1 3).1 4).1 (1 + (belowC (belowC x0 5).1 3).2).toNat i).2 ++ ([(rowIt (genIt (belowC (belowC (belowC x0 5).1 3).1 4).1 (1 + (belowC (belowC x0 5).1 3).2).toNat i).1 (1 + (belowC (belowC x0 5).1 3).2).toNat).2])) : List (List Int)) = (genIt (belowC (belowC (belowC x0 5).1 3).1 4).1 (1 + (belowC (belowC x0 5).1 3).2).toNat (i + 1)).2 from by first | with_reducible rfl | (rfl) | rfl) (show (((1 + (belowC (belowC (belowC x0 5).1 3).1 4).2) - ((i : Nat) : Int)) - 1 : Int) = ((1 + (belowC (belowC (belowC x0 5).1 3).1 4).2) - (((i + 1) : Nat) : Int)) from by first | with_reducible rfl | (omega) | rfl)), (by omega), (by omega)⟩
 ·replace h1 : ¬ (((1 + (belowC (belowC (belowC x0 5).1 3).1 4).2) - ((i : Nat) : Int)) > 0) := of_decide_eq_false h1
  refine wp_exit (then_exit ?_)
  replace h := at_out (σ' := ⟨[(2, aP 3 0), (3, aP 4 0)], [(1, oX 109 [.ro (.u8 5) (genIt (belowC (belowC (belowC x0 5).1 3).1 4).1 (1 + (belowC (belowC x0 5).1 3).2).toNat i).1.1, cI (genIt (belowC (belowC (belowC x0 5).1 3).1 4).1 (1 + (belowC (belowC x0 5).1 3).2).toNat i).1.2.1, cI (genIt (belowC (belowC (belowC x0 5).1 3).1 4).1 (1 + (belowC (belowC x0 5).1 3).2).toNat i).1.2.2]), (2, oP 1 (Value.pointer (some ⟨b0, 0, none⟩))), (3, oX 26 [cI 0, cN]), (4, oX 26 [cI (belowC x0 5).2, .sl 5]), (5, oR s27 (genIt (belowC (belowC (belowC x0 5).1 3).1 4).1 (1 + (belowC (belowC x0 5).1 3).2).toNat i).2)]⟩) { ts := [2, 3], os := [1, 2, 3, 4, 5] } h (by kernel_rfl)
  replace h := at_eq (σ' := ⟨[(2, aP 3 0), (3, aP 4 0)], [(1, oX 109 [.ro (.u8 5) (genIt (belowC (belowC (belowC x0 5).1 3).1 4).1 (1 + (belowC (belowC x0 5).1 3).2).toNat (1 + (belowC (belowC (belowC x0 5).1 3).1 4).2).toNat).1.1, cI (genIt (belowC (belowC (belowC x0 5).1 3).1 4).1 (1 + (belowC (belowC x0 5).1 3).2).toNat (1 + (belowC (belowC (belowC x0 5).1 3).1 4).2).toNat).1.2.1, cI (genIt (belowC (belowC (belowC x0 5).1 3).1 4).1 (1 + (belowC (belowC x0 5).1 3).2).toNat (1 + (belowC (belowC (belowC x0 5).1 3).1 4).2).toNat).1.2.2]), (2, oP 1 (Value.pointer (some ⟨b0, 0, none⟩))), (3, oX 26 [cI 0, cN]), (4, oX 26 [cI (belowC x0 5).2, .sl 5]), (5, oR s27 (genIt (belowC (belowC (belowC x0 5).1 3).1 4).1 (1 + (belowC (belowC x0 5).1 3).2).toNat (1 + (belowC (belowC (belowC x0 5).1 3).1 4).2).toNat).2)]⟩) h (st_congr4 (fun (d0 : List Int) (d1 : Int) (d2 : Int) (d3 : List (List Int)) => (⟨[(2, aP 3 0), (3, aP 4 0)], [(1, oX 109 [.ro (.u8 5) d0, cI d1, cI d2]), (2, oP 1 (Value.pointer (some ⟨b0, 0, none⟩))), (3, oX 26 [cI 0, cN]), (4, oX 26 [cI (belowC x0 5).2, .sl 5]), (5, oR s27 d3)]⟩ : St)) (show ((genIt (belowC (belowC (belowC x0 5).1 3).1 4).1 (1 + (belowC (belowC x0 5).1 3).2).toNat i).1.1 : List Int) = (genIt (belowC (belowC (belowC x0 5).1 3).1 4).1 (1 + (belowC (belowC x0 5).1 3).2).toNat (1 + (belowC (belowC (belowC x0 5).1 3).1 4).2).toNat).1.1 from by first | with_reducible rfl | (rw [show (1 + (belowC (belowC (belowC x0 5).1 3).1 4).2).toNat = i by omega]) | rfl) (show ((genIt (belowC (belowC (belowC x0 5).1 3).1 4).1 (1 + (belowC (belowC x0 5).1 3).2).toNat i).1.2.1 : Int) = (genIt (belowC (belowC (belowC x0 5).1 3).1 4).1 (1 + (belowC (belowC x0 5).1 3).2).toNat (1 + (belowC (belowC (belowC x0 5).1 3).1 4).2).toNat).1.2.1 from by first | with_reducible rfl | (rw [show (1 + (belowC (belowC (belowC x0 5).1 3).1 4).2).toNat = i by omega]) | rfl) (show ((genIt (belowC (belowC (belowC x0 5).1 3).1 4).1 (1 + (belowC (belowC x0 5).1 3).2).toNat i).1.2.2 : Int) = (genIt (belowC (belowC (belowC x0 5).1 3).1 4).1 (1 + (belowC (belowC x0 5).1 3).2).toNat (1 + (belowC (belowC (belowC x0 5).1 3).1 4).2).toNat).1.2.2 from by first | with_reducible rfl | (rw [show (1 + (belowC (belowC (belowC x0 5).1 3).1 4).2).toNat = i by omega]) | rfl) (show ((genIt (belowC (belowC (belowC x0 5).1 3).1 4).1 (1 + (belowC (belowC x0 5).1 3).2).toNat i).2 : List (List Int)) = (genIt (belowC (belowC (belowC x0 5).1 3).1 4).1 (1 + (belowC (belowC x0 5).1 3).2).toNat (1 + (belowC (belowC (belowC x0 5).1 3).1 4).2).toNat).2 from by first | with_reducible rfl | (rw [show (1 + (belowC (belowC (belowC x0 5).1 3).1 4).2).toNat = i by omega]) | rfl))
  refine then_exit (in_hit (then_normal (wp_seq ?_)))
  refine at_regq [] { ts := [2], os := [1, 2, 3, 5] } [] gamOK hT h (by kernel_rfl) trivial fun a w h => then_normal (wp_ret ?_)
  have hr3 : (((genIt (belowC (belowC (belowC x0 5).1 3).1 4).1 (1 + (belowC (belowC x0 5).1 3).2).toNat (1 + (belowC (belowC (belowC x0 5).1 3).1 4).2).toNat).1, ((belowC x0 5).2, (genIt (belowC (belowC (belowC x0 5).1 3).1 4).1 (1 + (belowC (belowC x0 5).1 3).2).toNat (1 + (belowC (belowC (belowC x0 5).1 3).1 4).2).toNat).2)) : T109 × T26) = genD x0 := by rfl
  exact at_returnB (B := B_spec_l10Gen) (c0 := x0) (x := (())) ((genIt (belowC (belowC (belowC x0 5).1 3).1 4).1 (1 + (belowC (belowC x0 5).1 3).2).toNat (1 + (belowC (belowC (belowC x0 5).1 3).1 4).2).toNat).1) (((belowC x0 5).2, (genIt (belowC (belowC (belowC x0 5).1 3).1 4).1 (1 + (belowC (belowC x0 5).1 3).2).toNat (1 + (belowC (belowC (belowC x0 5).1 3).1 4).2).toNat).2), ()) [(Value.pointer (some ⟨b0, 0, none⟩)) = (Value.pointer (some ⟨b0, 0, none⟩))] h (by kernel_rfl) ⟨rfl, trivial⟩ (congrArg (a₁ := ((genIt (belowC (belowC (belowC x0 5).1 3).1 4).1 (1 + (belowC (belowC x0 5).1 3).2).toNat (1 + (belowC (belowC (belowC x0 5).1 3).1 4).2).toNat).1, ((belowC x0 5).2, (genIt (belowC (belowC (belowC x0 5).1 3).1 4).1 (1 + (belowC (belowC x0 5).1 3).2).toNat (1 + (belowC (belowC (belowC x0 5).1 3).1 4).2).toNat).2))) (a₂ := genD x0) (fun (z : T109 × T26) => z.1) hr3) (congrArg (a₁ := ((genIt (belowC (belowC (belowC x0 5).1 3).1 4).1 (1 + (belowC (belowC x0 5).1 3).2).toNat (1 + (belowC (belowC (belowC x0 5).1 3).1 4).2).toNat).1, ((belowC x0 5).2, (genIt (belowC (belowC (belowC x0 5).1 3).1 4).1 (1 + (belowC (belowC x0 5).1 3).2).toNat (1 + (belowC (belowC (belowC x0 5).1 3).1 4).2).toNat).2))) (a₂ := genD x0) (fun (z : T109 × T26) => (z.2, ())) hr3)
theorem genD_ok {x : T109} (h : 0 ≤ x.2.1) : 0 ≤ (genD x).1.2.1 ∧ validG (genD x).2 = true ∧ ((genD x).2.1 ≤ 4 ∧ List.length (genD x).2.2 ≤ 4 ∧ colsOf (genD x).2.2 ≤ 3) := by
 have b1 := below_bd x (n := 5) (by decide)
 have b2 := below_bd (belowC x 5).1 (n := 3) (by decide)
 have b3 := below_bd (belowC (belowC x 5).1 3).1 (n := 4) (by decide)
 have hx := below_ok (n := 4) (below_ok (n := 3) (below_ok (n := 5) h))
 have hi := genIt_inv (n := (1 + (belowC (belowC x 5).1 3).2).toNat) hx (1 + (belowC (belowC (belowC x 5).1 3).1 4).2).toNat
 have hv := validG_of (a := (belowC x 5).2) (n := (1 + (belowC (belowC x 5).1 3).2).toNat) (by omega) (by rw [hi.2.1]; omega) (by omega) hi.2.2
 refine ⟨hi.1, hv.1, by show (belowC x 5).2 ≤ 4; omega, ?_, ?_⟩
 ·show List.length (genIt _ _ _).2 ≤ 4
  rw [hi.2.1]; omega
 ·show colsOf (genIt _ _ _).2 ≤ 3
  rw [hv.2]; omega
theorem validG_fit {g : T26} (h : validG g = true) : Sh.fit s26 g := by
 have h1 := validG_t h
 have hm := validM_t h1.2.2.1
 refine ⟨trivial, by omega, fun r hr => ⟨by have := (hm.2 r hr).2; have := colsOf_at (m := g.2) (by omega); omega, fun _ _ => trivial⟩⟩

end Go.Proofs.Ytpffjagdefkfkaa

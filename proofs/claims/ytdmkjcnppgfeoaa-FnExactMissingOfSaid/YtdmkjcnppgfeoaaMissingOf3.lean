/- The law FnExactMissingOf returns true for every input and leaves its arguments as they were. No condition. -/
import Derived.Test.YtdmkjcnppgfeoaaMissingOf2
import Derived.Test.YtdmkjcnppgfeoaaLA
import Derived.Test.YtdmkjcnppgfeoaaProg
import Derived.Test.YtdmkjcnppgfeoaaRows
import Derived.Test.YtdmkjcnppgfeoaaFX
namespace Go.Proofs.Ytdmkjcnppgfeoaa
open Go.RowKit
set_option linter.unusedVariables false
set_option linter.unusedSimpArgs false
abbrev Q_spec_l30Fits := (fun (x0 : T32) (x1 : Int) (x2 : Int) (x3 : Int) => Sh.fit s32 x0)
def S_spec_l30Fits : Sum := { fid := 181, dom := [s32, (.int 3), (.int 3), (.int 3)], cod := [(.bool 4)], dp := true, fz := false, pre := fun x => Q_spec_l30Fits x.1 x.2.1 x.2.2.1 x.2.2.2.1, g := fun x => ((fitsS x.1 x.2.1 x.2.2.1 x.2.2.2.1), ()) }
def S_spec_l30Fits_tab : List (Nat × Sum) := [(103, S_spec_l1In)]
theorem S_spec_l30Fits_ok : FnOK Try.prog 181 S_spec_l30Fits := by
 refine at_enter 30 (fun x => ⟨[(0, aG [cI x.1.1, cI x.1.2.1, .ro (.int 3) x.1.2.2.1, .ro s112 x.1.2.2.2.1, .ro s218 x.1.2.2.2.2.1, cI x.1.2.2.2.2.2]), (1, aI x.2.1), (2, aI x.2.2.1), (3, aI x.2.2.2.1)], []⟩) Try.func181 rfl (by kernel_rfl) (fun x => rfl) ?_
 rintro w0 Z0 ⟨x0, x1, x2, x3, u⟩ a w
 revert x0 x1 x2 x3
 intro (x0 : T32) (x1 : Int) (x2 : Int) (x3 : Int) hpre hlens h
 replace h : At w0 Z0 [] 30 ⟨[(0, aG [cI x0.1, cI x0.2.1, .ro (.int 3) x0.2.2.1, .ro s112 x0.2.2.2.1, .ro s218 x0.2.2.2.2.1, cI x0.2.2.2.2.2]), (1, aI x1), (2, aI x2), (3, aI x3)], []⟩ a w := h
 replace hpre : Q_spec_l30Fits x0 x1 x2 x3 := hpre
 have hl1 : List.length x0.2.2.1 ≤ 9223372036854775807 := hlens.1.2.2.1.1
 have hl2 : List.length x0.2.2.2.1 ≤ 9223372036854775807 := hlens.1.2.2.2.1.1
 have hl3 : List.length x0.2.2.2.2.1 ≤ 9223372036854775807 := hlens.1.2.2.2.2.1.1
 have hT : TabOK Try.prog S_spec_l30Fits_tab := (.cons S_spec_l1In_ok .nil)
 have hf0 : Sh.fit s32 x0 := hpre
 have hn0_1 : List.length x0.2.2.1 ≤ 1073741824 := hf0.2.2.1.1
 have hn0_2 : List.length x0.2.2.2.1 ≤ 1073741824 := hf0.2.2.2.1.1
 have hn0_3 : List.length x0.2.2.2.2.1 ≤ 1073741824 := hf0.2.2.2.2.1.1
 refine wp_seq ?_
 refine at_regq [{ ids := [1] }] { ts := [1, 2, 3, 4, 8], os := [1] } [] gamOK hT h (by kernel_rfl) trivial fun a w h => then_normal (wp_seq ?_)
 rcases Bool.eq_false_or_eq_true ((inR x1 0 (((List.length x0.2.2.1 : Nat) : Int) - 1))) with h1 | h1
 ·have hvh1 := inR_t h1
  by_cases h2 : (x0.2.2.1.getD ((x1).toNat) 0) = x2
  ·refine at_regq [{}, {}, {}, {}, { nw := true }, { hint := some (aB true) }, {}, {}, {}, {}, {}, {}, {}, { hint := some (aB true) }] { ts := [8], os := [] } [I64 (((List.length x0.2.2.1 : Nat) : Int) - 1), True, (AV.p (.c (.v (.bool ((inR x1 0 (((List.length x0.2.2.1 : Nat) : Int) - 1)))))) = AV.p (.c (.v (.bool true)))), (0 : Int) ≤ x1 ∧ x1 < ((List.length x0.2.2.1 : Nat) : Int), (AV.p (.c (.v (.bool (decide ((x0.2.2.1.getD ((x1).toNat) 0) = x2))))) = AV.p (.c (.v (.bool true))))] gamOK hT h (by kernel_rfl) ⟨⟨by first | omega | (simp only [lsA]; omega) | (simp <;> omega), by first | omega | (simp only [lsA]; omega) | (simp <;> omega)⟩, trivial, hint_bool (h1), (by refine ⟨?_, ?_⟩ <;> (first | omega | (simp only [lsA]; omega) | (simp <;> omega))), hint_bool (decide_eq_true h2), trivial⟩ fun a w h => then_normal (wp_ret ?_)
   exact at_return (S := S_spec_l30Fits) (x := (x0, x1, x2, x3, ())) (decide (x3 = x0.2.1), ()) [] h (by kernel_rfl) trivial (congrArg (fun z => (z, ())) (show (decide (x3 = x0.2.1)) = fitsS x0 x1 x2 x3 from by first | rfl | (unfold fitsS; rw [if_pos h1, if_pos h2]; done) | (unfold fitsS; (simp_all; try (intro e; exact absurd e.symm (by assumption))))))
  ·refine at_regq [{}, {}, {}, {}, { nw := true }, { hint := some (aB true) }, {}, {}, {}, {}, {}, {}, {}, { hint := some (aB false) }] { ts := [8], os := [] } [I64 (((List.length x0.2.2.1 : Nat) : Int) - 1), True, (AV.p (.c (.v (.bool ((inR x1 0 (((List.length x0.2.2.1 : Nat) : Int) - 1)))))) = AV.p (.c (.v (.bool true)))), (0 : Int) ≤ x1 ∧ x1 < ((List.length x0.2.2.1 : Nat) : Int), (AV.p (.c (.v (.bool (decide ((x0.2.2.1.getD ((x1).toNat) 0) = x2))))) = AV.p (.c (.v (.bool false))))] gamOK hT h (by kernel_rfl) ⟨⟨by first | omega | (simp only [lsA]; omega) | (simp <;> omega), by first | omega | (simp only [lsA]; omega) | (simp <;> omega)⟩, trivial, hint_bool (h1), (by refine ⟨?_, ?_⟩ <;> (first | omega | (simp only [lsA]; omega) | (simp <;> omega))), hint_bool (decide_eq_false h2), trivial⟩ fun a w h => then_normal (wp_ret ?_)
   exact at_return (S := S_spec_l30Fits) (x := (x0, x1, x2, x3, ())) (false, ()) [] h (by kernel_rfl) trivial (congrArg (fun z => (z, ())) (show (false) = fitsS x0 x1 x2 x3 from by first | rfl | (unfold fitsS; rw [if_pos h1, if_neg h2]; done) | (unfold fitsS; (simp_all; try (intro e; exact absurd e.symm (by assumption))))))
 ·have hvh1 := inR_f h1
  refine at_regq [{}, {}, {}, {}, { nw := true }, { hint := some (aB false) }] { ts := [8], os := [] } [I64 (((List.length x0.2.2.1 : Nat) : Int) - 1), True, (AV.p (.c (.v (.bool ((inR x1 0 (((List.length x0.2.2.1 : Nat) : Int) - 1)))))) = AV.p (.c (.v (.bool false))))] gamOK hT h (by kernel_rfl) ⟨⟨by first | omega | (simp only [lsA]; omega) | (simp <;> omega), by first | omega | (simp only [lsA]; omega) | (simp <;> omega)⟩, trivial, hint_bool (h1), trivial⟩ fun a w h => then_normal (wp_ret ?_)
  exact at_return (S := S_spec_l30Fits) (x := (x0, x1, x2, x3, ())) (false, ()) [] h (by kernel_rfl) trivial (congrArg (fun z => (z, ())) (show (false) = fitsS x0 x1 x2 x3 from by first | rfl | (unfold fitsS; rw [if_neg (neT h1)]; done) | (unfold fitsS; (simp_all; try (intro e; exact absurd e.symm (by assumption))))))

def D__impl_Sink_decoderAt_1 := (fun (x : T112) (g : Int) => cmpI x.1 g)
abbrev Q__impl_Sink_decoderAt_1 := (fun (x0 : T112) (x1 : Int) => Sh.fit s112 x0)
def S__impl_Sink_decoderAt_1 : Sum := { fid := 259, dom := [s112, (.int 3)], cod := [(.int 3)], dp := true, fz := false, pre := fun x => Q__impl_Sink_decoderAt_1 x.1 x.2.1, g := fun x => ((D__impl_Sink_decoderAt_1 x.1 x.2.1), ()) }
def S__impl_Sink_decoderAt_1_tab : List (Nat × Sum) := [(260, S_cmp_Compare_int_)]
theorem S__impl_Sink_decoderAt_1_ok : FnOK Try.prog 259 S__impl_Sink_decoderAt_1 := by
 refine at_enter 9 (fun x => ⟨[(0, aG [cI x.1.1, cI x.1.2.1, cI x.1.2.2.1, cI x.1.2.2.2.1, .ro s22 x.1.2.2.2.2]), (1, aI x.2.1)], []⟩) Try.func259 rfl (by kernel_rfl) (fun x => rfl) ?_
 rintro w0 Z0 ⟨x0, x1, u⟩ a w
 revert x0 x1
 intro (x0 : T112) (x1 : Int) hpre hlens h
 replace h : At w0 Z0 [] 9 ⟨[(0, aG [cI x0.1, cI x0.2.1, cI x0.2.2.1, cI x0.2.2.2.1, .ro s22 x0.2.2.2.2]), (1, aI x1)], []⟩ a w := h
 replace hpre : Q__impl_Sink_decoderAt_1 x0 x1 := hpre
 have hl1 : List.length x0.2.2.2.2 ≤ 9223372036854775807 := hlens.1.2.2.2.2.1
 have hT : TabOK Try.prog S__impl_Sink_decoderAt_1_tab := (.cons S_cmp_Compare_int__ok .nil)
 have hf0 : Sh.fit s112 x0 := hpre
 have hn0_1 : List.length x0.2.2.2.2 ≤ 1073741824 := hf0.2.2.2.2.1
 refine wp_seq ?_
 refine at_regq [{ ids := [1] }] { ts := [1, 2, 4], os := [1] } [] gamOK hT h (by kernel_rfl) trivial fun a w h => then_normal (wp_seq ?_)
 refine at_regq [] { ts := [4], os := [] } [True] gamOK hT h (by kernel_rfl) ⟨trivial, trivial⟩ fun a w h => then_normal (wp_ret ?_)
 exact at_return (S := S__impl_Sink_decoderAt_1) (x := (x0, x1, ())) ((cmpI x0.1 x1), ()) [] h (by kernel_rfl) trivial (congrArg (fun z => (z, ())) (show ((cmpI x0.1 x1)) = D__impl_Sink_decoderAt_1 x0 x1 from by unfold D__impl_Sink_decoderAt_1; rfl))

def D_slices_BinarySearchFunc_S_impl_Decoder_impl_Decoder_int__decoderAt_1 := (fun (xs : List T112) (v : Int) (_ : Unit) => (((bsK (fun x => x.1) (0, (0, (0, (0, [])))) xs v : Nat) : Int), fndK (fun x => x.1) (0, (0, (0, (0, [])))) xs v))
abbrev Q_slices_BinarySearchFunc_S_impl_Decoder_impl_Decoder_int__decoderAt_1 := (fun (x0 : (List T112)) (x1 : Int) (x2 : Unit) => Sh.fit s29 x0)
def S_slices_BinarySearchFunc_S_impl_Decoder_impl_Decoder_int__decoderAt_1 : Sum := { fid := 258, dom := [s29, (.int 3), (.fn0 259)], cod := [(.int 3), (.bool 4)], dp := true, fz := false, pre := fun x => Q_slices_BinarySearchFunc_S_impl_Decoder_impl_Decoder_int__decoderAt_1 x.1 x.2.1 x.2.2.1, g := fun x => ((D_slices_BinarySearchFunc_S_impl_Decoder_impl_Decoder_int__decoderAt_1 x.1 x.2.1 x.2.2.1).1, ((D_slices_BinarySearchFunc_S_impl_Decoder_impl_Decoder_int__decoderAt_1 x.1 x.2.1 x.2.2.1).2, ())) }
def S_slices_BinarySearchFunc_S_impl_Decoder_impl_Decoder_int__decoderAt_1_tab : List (Nat × Sum) := [(259, S__impl_Sink_decoderAt_1)]
theorem S_slices_BinarySearchFunc_S_impl_Decoder_impl_Decoder_int__decoderAt_1_ok : FnOK Try.prog 258 S_slices_BinarySearchFunc_S_impl_Decoder_impl_Decoder_int__decoderAt_1 := by
 refine at_enter 49 (fun x => ⟨[(0, aF s112 x.1), (1, aI x.2.1), (2, .p (.c (.cl 259 .cnil)))], []⟩) Try.func258 rfl (by kernel_rfl) (fun x => rfl) ?_
 rintro w0 Z0 ⟨x0, x1, x2, u⟩ a w
 revert x0 x1 x2
 intro (x0 : (List T112)) (x1 : Int) (x2 : Unit) hpre hlens h
 replace h : At w0 Z0 [] 49 ⟨[(0, aF s112 x0), (1, aI x1), (2, .p (.c (.cl 259 .cnil)))], []⟩ a w := h
 replace hpre : Q_slices_BinarySearchFunc_S_impl_Decoder_impl_Decoder_int__decoderAt_1 x0 x1 x2 := hpre
 have hl1 : List.length x0 ≤ 9223372036854775807 := hlens.1.1
 have hT : TabOK Try.prog S_slices_BinarySearchFunc_S_impl_Decoder_impl_Decoder_int__decoderAt_1_tab := (.cons S__impl_Sink_decoderAt_1_ok .nil)
 have hf0 : Sh.fit s29 x0 := hpre
 have hn0_1 : List.length x0 ≤ 1073741824 := hf0.1
 refine wp_seq ?_
 refine at_regq [] { ts := [0, 1, 2, 6, 7], os := [] } [] gamOK hT h (by kernel_rfl) trivial fun a w h => then_normal (wp_seq ?_)
 refine at_regq [] { ts := [0, 1, 2, 6, 7, 8], os := [] } [] gamOK hT h (by kernel_rfl) trivial fun a w h => then_normal (wp_seq ?_)
 refine at_regq [] { ts := [0, 1, 2, 6, 7, 8, 9, 10], os := [] } [] gamOK hT h (by kernel_rfl) trivial fun a w h => then_normal (wp_seq (wp_block ?_))
 replace h := at_out (σ' := ⟨[(0, aF s112 x0), (1, aI x1), (2, .p (.c (.cl 259 .cnil))), (6, aI 0), (7, aB false), (8, aI ((List.length x0 : Nat) : Int)), (9, aI 0), (10, aI ((List.length x0 : Nat) : Int))], []⟩) { ts := [0, 1, 2, 6, 7, 8, 9, 10], os := [] } h (by kernel_rfl)
 refine at_loop (fun q : (Nat × Nat) => (⟨[(0, aF s112 x0), (1, aI x1), (2, .p (.c (.cl 259 .cnil))), (6, aI 0), (7, aB false), (8, aI ((List.length x0 : Nat) : Int)), (9, aI ((q.1 : Nat) : Int)), (10, aI ((q.2 : Nat) : Int))], []⟩ : St)) (fun q => (q.1 ≤ q.2 ∧ q.2 ≤ List.length x0 ∧ bsF (ltK (fun x => x.1) (0, (0, (0, (0, [])))) x0 x1) q.1 q.2 = bsF (ltK (fun x => x.1) (0, (0, (0, (0, [])))) x0 x1) 0 (List.length x0))) (fun q => q.2 - q.1) ((0, List.length x0)) h (st_congr2 (fun (d0 : Int) (d1 : Int) => (⟨[(0, aF s112 x0), (1, aI x1), (2, .p (.c (.cl 259 .cnil))), (6, aI 0), (7, aB false), (8, aI ((List.length x0 : Nat) : Int)), (9, aI d0), (10, aI d1)], []⟩ : St)) (show (0 : Int) = ((((0, List.length x0)).1 : Nat) : Int) from by first | with_reducible rfl | (rfl) | rfl) (show (((List.length x0 : Nat) : Int) : Int) = ((((0, List.length x0)).2 : Nat) : Int) from by first | with_reducible rfl | (rfl) | rfl)) (by exact ⟨Nat.zero_le _, Nat.le_refl _, rfl⟩) ?_
 intro q a w hok0 h
 refine wp_seq (wp_seq ?_)
 refine at_regq [] { ts := [0, 1, 2, 6, 7, 8, 9, 10, 17], os := [] } [] gamOK hT h (by kernel_rfl) trivial fun a w h => then_normal ?_
 refine at_test (decide (((q.1 : Nat) : Int) < ((q.2 : Nat) : Int))) h (by kernel_rfl) (fun h1 => ?_) (fun h1 => ?_)
 ·replace h1 : ((q.1 : Nat) : Int) < ((q.2 : Nat) : Int) := of_decide_eq_true h1
  refine wp_skip (then_normal (wp_block (wp_seq ?_)))
  refine at_regq [{}, {}, { nw := true }, {}, {}, { hint := some (aI (((q.1 + q.2) / 2 : Nat) : Int)) }] { ts := [0, 1, 2, 6, 7, 8, 9, 10, 11], os := [] } [I64 (((q.1 : Nat) : Int) + ((q.2 : Nat) : Int)), (0 : Int) ≤ 1, (AV.p (.c (.v (.int .i64 (IntKind.i64.wrap ((Int.fdiv (IntKind.u64.wrap (((q.1 : Nat) : Int) + ((q.2 : Nat) : Int))) (2 ^ (min (1 : Int).toNat (IntKind.u64).bits)))))))) = AV.p (.c (.v (.int .i64 ((((q.1 + q.2) / 2 : Nat) : Int))))))] gamOK hT h (by kernel_rfl) ⟨⟨by first | omega | (simp only [lsA]; omega) | (simp <;> omega), by first | omega | (simp only [lsA]; omega) | (simp <;> omega)⟩, (by first | omega | (simp only [lsA]; omega) | (simp <;> omega)), hint_int (by exact half_eq (by omega)), trivial⟩ fun a w h => then_normal (wp_seq ?_)
  refine at_regq [] { ts := [0, 1, 2, 6, 7, 8, 9, 10, 11, 31], os := [] } [(0 : Int) ≤ (((q.1 + q.2) / 2 : Nat) : Int) ∧ (((q.1 + q.2) / 2 : Nat) : Int) < ((List.length x0 : Nat) : Int), Q__impl_Sink_decoderAt_1 (x0.getD ((q.1 + q.2) / 2) (0, (0, (0, (0, []))))) x1] gamOK hT h (by kernel_rfl) ⟨(by refine ⟨?_, ?_⟩ <;> (first | omega | (simp only [lsA]; omega) | (simp <;> omega))), (by exact (Sh.fit_getD hf0 ((q.1 + q.2) / 2))), trivial⟩ fun a w h => then_normal ?_
  refine at_test (decide ((D__impl_Sink_decoderAt_1 (x0.getD ((q.1 + q.2) / 2) (0, (0, (0, (0, []))))) x1) < 0)) h (by kernel_rfl) (fun h2 => ?_) (fun h2 => ?_)
  ·replace h2 : (D__impl_Sink_decoderAt_1 (x0.getD ((q.1 + q.2) / 2) (0, (0, (0, (0, []))))) x1) < 0 := of_decide_eq_true h2
   refine at_regq [{}, { nw := true }] { ts := [0, 1, 2, 6, 7, 8, 9, 10], os := [] } [I64 ((((q.1 + q.2) / 2 : Nat) : Int) + 1)] gamOK hT h (by kernel_rfl) ⟨⟨by first | omega | (simp only [lsA]; omega) | (simp <;> omega), by first | omega | (simp only [lsA]; omega) | (simp <;> omega)⟩, trivial⟩ fun a w h => in_normal ?_
   replace h := at_out (σ' := ⟨[(0, aF s112 x0), (1, aI x1), (2, .p (.c (.cl 259 .cnil))), (6, aI 0), (7, aB false), (8, aI ((List.length x0 : Nat) : Int)), (9, aI ((((q.1 + q.2) / 2 : Nat) : Int) + 1)), (10, aI ((q.2 : Nat) : Int))], []⟩) { ts := [0, 1, 2, 6, 7, 8, 9, 10], os := [] } h (by kernel_rfl)
   exact ⟨((q.1 + q.2) / 2 + 1, q.2), at_eq h (st_congr2 (fun (d0 : Int) (d1 : Int) => (⟨[(0, aF s112 x0), (1, aI x1), (2, .p (.c (.cl 259 .cnil))), (6, aI 0), (7, aB false), (8, aI ((List.length x0 : Nat) : Int)), (9, aI d0), (10, aI d1)], []⟩ : St)) (show ((((q.1 + q.2) / 2 : Nat) : Int) + 1 : Int) = (((((q.1 + q.2) / 2 + 1, q.2)).1 : Nat) : Int) from by first | with_reducible rfl | (dsimp only; omega) | rfl) (show (((q.2 : Nat) : Int) : Int) = (((((q.1 + q.2) / 2 + 1, q.2)).2 : Nat) : Int) from by first | with_reducible rfl | (dsimp only; omega) | rfl)), (by dsimp only; first | (refine ⟨by omega, by omega, ?_⟩; exact (bsF_up (by omega) (show ltK (fun x => x.1) (0, (0, (0, (0, [])))) x0 x1 _ = true from decide_eq_true (cmpI_lt.1 (by assumption)))).symm.trans hok0.2.2) | (refine ⟨by omega, by omega, ?_⟩; exact (bsF_down (by omega) (show ltK (fun x => x.1) (0, (0, (0, (0, [])))) x0 x1 _ = false from decide_eq_false (fun e => absurd (cmpI_lt.2 e) (by assumption)))).symm.trans hok0.2.2)), (by dsimp only; omega)⟩
  ·replace h2 : ¬ ((D__impl_Sink_decoderAt_1 (x0.getD ((q.1 + q.2) / 2) (0, (0, (0, (0, []))))) x1) < 0) := of_decide_eq_false h2
   refine at_regq [] { ts := [0, 1, 2, 6, 7, 8, 9, 10], os := [] } [] gamOK hT h (by kernel_rfl) trivial fun a w h => in_normal ?_
   replace h := at_out (σ' := ⟨[(0, aF s112 x0), (1, aI x1), (2, .p (.c (.cl 259 .cnil))), (6, aI 0), (7, aB false), (8, aI ((List.length x0 : Nat) : Int)), (9, aI ((q.1 : Nat) : Int)), (10, aI (((q.1 + q.2) / 2 : Nat) : Int))], []⟩) { ts := [0, 1, 2, 6, 7, 8, 9, 10], os := [] } h (by kernel_rfl)
   exact ⟨(q.1, (q.1 + q.2) / 2), at_eq h (st_congr2 (fun (d0 : Int) (d1 : Int) => (⟨[(0, aF s112 x0), (1, aI x1), (2, .p (.c (.cl 259 .cnil))), (6, aI 0), (7, aB false), (8, aI ((List.length x0 : Nat) : Int)), (9, aI d0), (10, aI d1)], []⟩ : St)) (show (((q.1 : Nat) : Int) : Int) = ((((q.1, (q.1 + q.2) / 2)).1 : Nat) : Int) from by first | with_reducible rfl | (dsimp only; omega) | rfl) (show ((((q.1 + q.2) / 2 : Nat) : Int) : Int) = ((((q.1, (q.1 + q.2) / 2)).2 : Nat) : Int) from by first | with_reducible rfl | (dsimp only; omega) | rfl)), (by dsimp only; first | (refine ⟨by omega, by omega, ?_⟩; exact (bsF_up (by omega) (show ltK (fun x => x.1) (0, (0, (0, (0, [])))) x0 x1 _ = true from decide_eq_true (cmpI_lt.1 (by assumption)))).symm.trans hok0.2.2) | (refine ⟨by omega, by omega, ?_⟩; exact (bsF_down (by omega) (show ltK (fun x => x.1) (0, (0, (0, (0, [])))) x0 x1 _ = false from decide_eq_false (fun e => absurd (cmpI_lt.2 e) (by assumption)))).symm.trans hok0.2.2)), (by dsimp only; omega)⟩
 ·replace h1 : ¬ (((q.1 : Nat) : Int) < ((q.2 : Nat) : Int)) := of_decide_eq_false h1
  refine wp_exit (then_exit (then_exit (in_hit (then_normal (wp_seq ?_)))))
  by_cases h3 : ((q.1 : Nat) : Int) < ((List.length x0 : Nat) : Int)
  ·refine at_regq [{}, {}, {}, { hint := some (aB true) }] { ts := [6, 7], os := [] } [(AV.p (.c (.v (.bool (decide (((q.1 : Nat) : Int) < ((List.length x0 : Nat) : Int)))))) = AV.p (.c (.v (.bool true)))), (0 : Int) ≤ ((q.1 : Nat) : Int) ∧ ((q.1 : Nat) : Int) < ((List.length x0 : Nat) : Int), Q__impl_Sink_decoderAt_1 (x0.getD q.1 (0, (0, (0, (0, []))))) x1] gamOK hT h (by kernel_rfl) ⟨hint_bool (decide_eq_true h3), (by refine ⟨?_, ?_⟩ <;> (first | omega | (simp only [lsA]; omega) | (simp <;> omega))), (by exact (Sh.fit_getD hf0 q.1)), trivial⟩ fun a w h => then_normal (wp_ret ?_)
   exact at_return (S := S_slices_BinarySearchFunc_S_impl_Decoder_impl_Decoder_int__decoderAt_1) (x := (x0, x1, x2, ())) (((q.1 : Nat) : Int), (decide ((D__impl_Sink_decoderAt_1 (x0.getD q.1 (0, (0, (0, (0, []))))) x1) = 0), ())) [] h (by kernel_rfl) trivial (congrArg (fun z => (z.1, z.2, ())) (show ((((q.1 : Nat) : Int), decide ((D__impl_Sink_decoderAt_1 (x0.getD q.1 (0, (0, (0, (0, []))))) x1) = 0))) = D_slices_BinarySearchFunc_S_impl_Decoder_impl_Decoder_int__decoderAt_1 x0 x1 x2 from by unfold D_slices_BinarySearchFunc_S_impl_Decoder_impl_Decoder_int__decoderAt_1; (have e := hok0.2.2; rw [bsF_end (by omega)] at e; have e1 : bsK (fun x => x.1) (0, (0, (0, (0, [])))) x0 x1 = q.1 := e.symm; unfold fndK; rw [e1]; exact Prod.ext rfl (by first | exact fnd_no (f := (fun x => x.1)) (z := (0, (0, (0, (0, []))))) (xs := x0) (v := x1) (q := q.1) (by omega) | exact fnd_eq (f := (fun x => x.1)) (z := (0, (0, (0, (0, []))))) (xs := x0) (v := x1) (q := q.1) (by omega)))))
  ·refine at_regq [{}, {}, {}, { hint := some (aB false) }] { ts := [6, 7], os := [] } [(AV.p (.c (.v (.bool (decide (((q.1 : Nat) : Int) < ((List.length x0 : Nat) : Int)))))) = AV.p (.c (.v (.bool false))))] gamOK hT h (by kernel_rfl) ⟨hint_bool (decide_eq_false h3), trivial⟩ fun a w h => then_normal (wp_ret ?_)
   exact at_return (S := S_slices_BinarySearchFunc_S_impl_Decoder_impl_Decoder_int__decoderAt_1) (x := (x0, x1, x2, ())) (((q.1 : Nat) : Int), (false, ())) [] h (by kernel_rfl) trivial (congrArg (fun z => (z.1, z.2, ())) (show ((((q.1 : Nat) : Int), false)) = D_slices_BinarySearchFunc_S_impl_Decoder_impl_Decoder_int__decoderAt_1 x0 x1 x2 from by unfold D_slices_BinarySearchFunc_S_impl_Decoder_impl_Decoder_int__decoderAt_1; (have e := hok0.2.2; rw [bsF_end (by omega)] at e; have e1 : bsK (fun x => x.1) (0, (0, (0, (0, [])))) x0 x1 = q.1 := e.symm; unfold fndK; rw [e1]; exact Prod.ext rfl (by first | exact fnd_no (f := (fun x => x.1)) (z := (0, (0, (0, (0, []))))) (xs := x0) (v := x1) (q := q.1) (by omega) | exact fnd_eq (f := (fun x => x.1)) (z := (0, (0, (0, (0, []))))) (xs := x0) (v := x1) (q := q.1) (by omega)))))

def D__impl_Sink_decoderAt (x0 : T32) (x1 : Int) : Int × Bool := ((D_slices_BinarySearchFunc_S_impl_Decoder_impl_Decoder_int__decoderAt_1 x0.2.2.2.1 x1 ()).1, (D_slices_BinarySearchFunc_S_impl_Decoder_impl_Decoder_int__decoderAt_1 x0.2.2.2.1 x1 ()).2)
abbrev Q__impl_Sink_decoderAt := (fun (x0 : T32) (x1 : Int) => Sh.fit s32 x0)
def S__impl_Sink_decoderAt : Sum := { fid := 186, dom := [s32, (.int 3)], cod := [(.int 3), (.bool 4)], dp := true, fz := false, pre := fun x => Q__impl_Sink_decoderAt x.1 x.2.1, g := fun x => ((D__impl_Sink_decoderAt x.1 x.2.1).1, ((D__impl_Sink_decoderAt x.1 x.2.1).2, ())) }
def S__impl_Sink_decoderAt_tab : List (Nat × Sum) := [(100008, S_slices_BinarySearchFunc_S_impl_Decoder_impl_Decoder_int__decoderAt_1)]
theorem S__impl_Sink_decoderAt_ok : FnOK Try.prog 186 S__impl_Sink_decoderAt := by
 refine at_enter 12 (fun x => ⟨[(0, aG [cI x.1.1, cI x.1.2.1, .ro (.int 3) x.1.2.2.1, .ro s112 x.1.2.2.2.1, .ro s218 x.1.2.2.2.2.1, cI x.1.2.2.2.2.2]), (1, aI x.2.1)], []⟩) Try.func186 rfl (by kernel_rfl) (fun x => rfl) ?_
 rintro w0 Z0 ⟨x0, x1, u⟩ a w
 revert x0 x1
 intro (x0 : T32) (x1 : Int) hpre hlens h
 replace h : At w0 Z0 [] 12 ⟨[(0, aG [cI x0.1, cI x0.2.1, .ro (.int 3) x0.2.2.1, .ro s112 x0.2.2.2.1, .ro s218 x0.2.2.2.2.1, cI x0.2.2.2.2.2]), (1, aI x1)], []⟩ a w := h
 replace hpre : Q__impl_Sink_decoderAt x0 x1 := hpre
 have hl1 : List.length x0.2.2.1 ≤ 9223372036854775807 := hlens.1.2.2.1.1
 have hl2 : List.length x0.2.2.2.1 ≤ 9223372036854775807 := hlens.1.2.2.2.1.1
 have hl3 : List.length x0.2.2.2.2.1 ≤ 9223372036854775807 := hlens.1.2.2.2.2.1.1
 have hT : TabOK Try.prog S__impl_Sink_decoderAt_tab := (.cons S_slices_BinarySearchFunc_S_impl_Decoder_impl_Decoder_int__decoderAt_1_ok .nil)
 have hf0 : Sh.fit s32 x0 := hpre
 have hn0_1 : List.length x0.2.2.1 ≤ 1073741824 := hf0.2.2.1.1
 have hn0_2 : List.length x0.2.2.2.1 ≤ 1073741824 := hf0.2.2.2.1.1
 have hn0_3 : List.length x0.2.2.2.2.1 ≤ 1073741824 := hf0.2.2.2.2.1.1
 refine wp_seq ?_
 refine at_regq [{ ids := [1] }] { ts := [1, 2, 4, 5], os := [1] } [] gamOK hT h (by kernel_rfl) trivial fun a w h => then_normal (wp_seq ?_)
 refine at_regq [{}, {}, {}, { key := some 100008 }] { ts := [4, 5], os := [] } [Q_slices_BinarySearchFunc_S_impl_Decoder_impl_Decoder_int__decoderAt_1 x0.2.2.2.1 x1 ()] gamOK hT h (by kernel_rfl) ⟨(by exact hf0.2.2.2.1), trivial⟩ fun a w h => then_normal (wp_ret ?_)
 exact at_return (S := S__impl_Sink_decoderAt) (x := (x0, x1, ())) ((D_slices_BinarySearchFunc_S_impl_Decoder_impl_Decoder_int__decoderAt_1 x0.2.2.2.1 x1 ()).1, ((D_slices_BinarySearchFunc_S_impl_Decoder_impl_Decoder_int__decoderAt_1 x0.2.2.2.1 x1 ()).2, ())) [] h (by kernel_rfl) trivial (congrArg (fun z => (z.1, z.2, ())) (show (((D_slices_BinarySearchFunc_S_impl_Decoder_impl_Decoder_int__decoderAt_1 x0.2.2.2.1 x1 ()).1, (D_slices_BinarySearchFunc_S_impl_Decoder_impl_Decoder_int__decoderAt_1 x0.2.2.2.1 x1 ()).2)) = D__impl_Sink_decoderAt x0 x1 from by rfl))

def D_spec_l30Done := (fun (s : T32) (v : Int) => s.2.2.2.2.1.any fun g => decide (g.1 = v))
abbrev Q_spec_l30Done := (fun (x0 : T32) (x1 : Int) => Sh.fit s32 x0)
def S_spec_l30Done : Sum := { fid := 104, dom := [s32, (.int 3)], cod := [(.bool 4)], dp := true, fz := false, pre := fun x => Q_spec_l30Done x.1 x.2.1, g := fun x => ((D_spec_l30Done x.1 x.2.1), ()) }
def S_spec_l30Done_tab : List (Nat × Sum) := []
theorem S_spec_l30Done_ok : FnOK Try.prog 104 S_spec_l30Done := by
 refine at_enter 21 (fun x => ⟨[(0, aG [cI x.1.1, cI x.1.2.1, .ro (.int 3) x.1.2.2.1, .ro s112 x.1.2.2.2.1, .ro s218 x.1.2.2.2.2.1, cI x.1.2.2.2.2.2]), (1, aI x.2.1)], []⟩) Try.func104 rfl (by kernel_rfl) (fun x => rfl) ?_
 rintro w0 Z0 ⟨x0, x1, u⟩ a w
 revert x0 x1
 intro (x0 : T32) (x1 : Int) hpre hlens h
 replace h : At w0 Z0 [] 21 ⟨[(0, aG [cI x0.1, cI x0.2.1, .ro (.int 3) x0.2.2.1, .ro s112 x0.2.2.2.1, .ro s218 x0.2.2.2.2.1, cI x0.2.2.2.2.2]), (1, aI x1)], []⟩ a w := h
 replace hpre : Q_spec_l30Done x0 x1 := hpre
 have hl1 : List.length x0.2.2.1 ≤ 9223372036854775807 := hlens.1.2.2.1.1
 have hl2 : List.length x0.2.2.2.1 ≤ 9223372036854775807 := hlens.1.2.2.2.1.1
 have hl3 : List.length x0.2.2.2.2.1 ≤ 9223372036854775807 := hlens.1.2.2.2.2.1.1
 have hT : TabOK Try.prog S_spec_l30Done_tab := .nil
 have hf0 : Sh.fit s32 x0 := hpre
 have hn0_1 : List.length x0.2.2.1 ≤ 1073741824 := hf0.2.2.1.1
 have hn0_2 : List.length x0.2.2.2.1 ≤ 1073741824 := hf0.2.2.2.1.1
 have hn0_3 : List.length x0.2.2.2.2.1 ≤ 1073741824 := hf0.2.2.2.2.1.1
 refine wp_seq ?_
 refine at_regq [{ ids := [1] }] { ts := [1, 2, 4], os := [1] } [] gamOK hT h (by kernel_rfl) trivial fun a w h => then_normal (wp_seq (wp_seq ?_))
 refine at_regq [] { ts := [1, 2, 4, 5], os := [1] } [] gamOK hT h (by kernel_rfl) trivial fun a w h => then_normal (wp_block ?_)
 replace h := at_out (σ' := ⟨[(1, aI x1), (2, aP 1 0), (4, aB false), (5, aI 0)], [(1, oX 32 [cI x0.1, cI x0.2.1, .ro (.int 3) x0.2.2.1, .ro s112 x0.2.2.2.1, .ro s218 x0.2.2.2.2.1, cI x0.2.2.2.2.2])]⟩) { ts := [1, 2, 4, 5], os := [1] } h (by kernel_rfl)
 refine at_loop (fun i : Nat => (⟨[(1, aI x1), (2, aP 1 0), (4, aB false), (5, aI ((i : Nat) : Int))], [(1, oX 32 [cI x0.1, cI x0.2.1, .ro (.int 3) x0.2.2.1, .ro s112 x0.2.2.2.1, .ro s218 x0.2.2.2.2.1, cI x0.2.2.2.2.2])]⟩ : St)) (fun i => (i ≤ List.length x0.2.2.2.2.1 ∧ noneTo (fun g => decide (g.1 = x1)) x0.2.2.2.2.1 (0, []) i)) (fun i => List.length x0.2.2.2.2.1 - i) (0) h (st_congr1 (fun (d0 : Int) => (⟨[(1, aI x1), (2, aP 1 0), (4, aB false), (5, aI d0)], [(1, oX 32 [cI x0.1, cI x0.2.1, .ro (.int 3) x0.2.2.1, .ro s112 x0.2.2.2.1, .ro s218 x0.2.2.2.2.1, cI x0.2.2.2.2.2])]⟩ : St)) (show (0 : Int) = (((0) : Nat) : Int) from by first | with_reducible rfl | (rfl) | rfl)) (by exact ⟨Nat.zero_le _, noneTo_zero⟩) ?_
 intro i a w hok0 h
 refine wp_seq (wp_seq ?_)
 refine at_regq [] { ts := [1, 2, 4, 5, 10], os := [1] } [] gamOK hT h (by kernel_rfl) trivial fun a w h => then_normal ?_
 refine at_test (decide (((i : Nat) : Int) < ((List.length x0.2.2.2.2.1 : Nat) : Int))) h (by kernel_rfl) (fun h1 => ?_) (fun h1 => ?_)
 ·replace h1 : ((i : Nat) : Int) < ((List.length x0.2.2.2.2.1 : Nat) : Int) := of_decide_eq_true h1
  refine wp_skip (then_normal (wp_seq (wp_block (wp_seq ?_))))
  refine at_regq [] { ts := [1, 2, 4, 5, 20], os := [1] } [(0 : Int) ≤ ((i : Nat) : Int) ∧ ((i : Nat) : Int) < ((List.length x0.2.2.2.2.1 : Nat) : Int)] gamOK hT h (by kernel_rfl) ⟨(by refine ⟨?_, ?_⟩ <;> (first | omega | (simp only [lsA]; omega) | (simp <;> omega))), trivial⟩ fun a w h => then_normal ?_
  refine at_test (decide ((x0.2.2.2.2.1.getD i (0, [])).1 = x1)) h (by kernel_rfl) (fun h2 => ?_) (fun h2 => ?_)
  ·replace h2 : (x0.2.2.2.2.1.getD i (0, [])).1 = x1 := of_decide_eq_true h2
   refine wp_seq ?_
   refine at_regq [] { ts := [1, 2, 4, 5], os := [1] } [] gamOK hT h (by kernel_rfl) trivial fun a w h => then_normal (wp_ret (in_ret (then_ret ?_)))
   have hs3 : (!(List.any x0.2.2.2.2.1 (fun g => decide (g.1 = x1)))) = false := by exact notT' (any_at (z := (0, [])) (i := i) (by omega) (by exact decide_eq_true (by assumption)))
   refine then_ret (in_ret (then_ret ?_))
   exact at_return (S := S_spec_l30Done) (x := (x0, x1, ())) (true, ()) [] h (by kernel_rfl) trivial (congrArg (fun z => (z, ())) (show (true) = D_spec_l30Done x0 x1 from by unfold D_spec_l30Done; first | exact (notT (by assumption)).symm | exact (notF (by assumption)).symm))
  ·replace h2 : ¬ ((x0.2.2.2.2.1.getD i (0, [])).1 = x1) := of_decide_eq_false h2
   refine wp_skip (in_normal (then_normal ?_))
   refine at_regq [{}, { nw := true }] { ts := [1, 2, 4, 5], os := [1] } [I64 (((i : Nat) : Int) + 1)] gamOK hT h (by kernel_rfl) ⟨⟨by first | omega | (simp only [lsA]; omega) | (simp <;> omega), by first | omega | (simp only [lsA]; omega) | (simp <;> omega)⟩, trivial⟩ fun a w h => ?_
   replace h := at_out (σ' := ⟨[(1, aI x1), (2, aP 1 0), (4, aB false), (5, aI (((i : Nat) : Int) + 1))], [(1, oX 32 [cI x0.1, cI x0.2.1, .ro (.int 3) x0.2.2.1, .ro s112 x0.2.2.2.1, .ro s218 x0.2.2.2.2.1, cI x0.2.2.2.2.2])]⟩) { ts := [1, 2, 4, 5], os := [1] } h (by kernel_rfl)
   exact ⟨i + 1, at_eq h (st_congr1 (fun (d0 : Int) => (⟨[(1, aI x1), (2, aP 1 0), (4, aB false), (5, aI d0)], [(1, oX 32 [cI x0.1, cI x0.2.1, .ro (.int 3) x0.2.2.1, .ro s112 x0.2.2.2.1, .ro s218 x0.2.2.2.2.1, cI x0.2.2.2.2.2])]⟩ : St)) (show (((i : Nat) : Int) + 1 : Int) = (((i + 1) : Nat) : Int) from by first | with_reducible rfl | (omega) | rfl)), (by exact ⟨by omega, noneTo_succ hok0.2 (by exact decide_eq_false (by assumption))⟩), (by omega)⟩
 ·replace h1 : ¬ (((i : Nat) : Int) < ((List.length x0.2.2.2.2.1 : Nat) : Int)) := of_decide_eq_false h1
  refine wp_exit (then_exit ?_)
  have hs4 : (!(List.any x0.2.2.2.2.1 (fun g => decide (g.1 = x1)))) = true := by exact notF' (any_of (z := (0, [])) (i := i) (by omega) hok0.2)
  refine then_exit (in_hit (then_normal (wp_seq ?_)))
  refine at_regq [] { ts := [4], os := [] } [] gamOK hT h (by kernel_rfl) trivial fun a w h => then_normal (wp_ret ?_)
  exact at_return (S := S_spec_l30Done) (x := (x0, x1, ())) (false, ()) [] h (by kernel_rfl) trivial (congrArg (fun z => (z, ())) (show (false) = D_spec_l30Done x0 x1 from by unfold D_spec_l30Done; first | exact (notT (by assumption)).symm | exact (notF (by assumption)).symm))

abbrev Q_impl_IsValidSink := (fun (x0 : T32) => Sh.fit s32 x0)
def S_impl_IsValidSink : Sum := { fid := 87, dom := [s32], cod := [(.bool 4)], dp := true, fz := false, pre := fun x => Q_impl_IsValidSink x.1, g := fun x => ((validS x.1), ()) }
def S_impl_IsValidSink_tab : List (Nat × Sum) := [(183, S_impl_NewSink), (107, S_impl_InRange), (147, S_impl_IsValidDecoder), (184, S__impl_Decoder_complete), (185, S__impl_Sink_fits), (176, S_impl_IsValidGeneration), (177, S_impl_SymbolWidth), (186, S__impl_Sink_decoderAt)]
theorem S_impl_IsValidSink_ok : FnOK Try.prog 87 S_impl_IsValidSink := by
 refine at_enter 124 (fun x => ⟨[(0, aG [cI x.1.1, cI x.1.2.1, .ro (.int 3) x.1.2.2.1, .ro s112 x.1.2.2.2.1, .ro s218 x.1.2.2.2.2.1, cI x.1.2.2.2.2.2])], []⟩) Try.func87 rfl (by kernel_rfl) (fun x => rfl) ?_
 rintro w0 Z0 ⟨x0, u⟩ a w
 revert x0
 intro (x0 : T32) hpre hlens h
 replace h : At w0 Z0 [] 124 ⟨[(0, aG [cI x0.1, cI x0.2.1, .ro (.int 3) x0.2.2.1, .ro s112 x0.2.2.2.1, .ro s218 x0.2.2.2.2.1, cI x0.2.2.2.2.2])], []⟩ a w := h
 replace hpre : Q_impl_IsValidSink x0 := hpre
 have hl1 : List.length x0.2.2.1 ≤ 9223372036854775807 := hlens.1.2.2.1.1
 have hl2 : List.length x0.2.2.2.1 ≤ 9223372036854775807 := hlens.1.2.2.2.1.1
 have hl3 : List.length x0.2.2.2.2.1 ≤ 9223372036854775807 := hlens.1.2.2.2.2.1.1
 have hT : TabOK Try.prog S_impl_IsValidSink_tab := (.cons S_impl_NewSink_ok (.cons S_impl_InRange_ok (.cons S_impl_IsValidDecoder_ok (.cons S__impl_Decoder_complete_ok (.cons S__impl_Sink_fits_ok (.cons S_impl_IsValidGeneration_ok (.cons S_impl_SymbolWidth_ok (.cons S__impl_Sink_decoderAt_ok .nil))))))))
 have hf0 : Sh.fit s32 x0 := hpre
 have hn0_1 : List.length x0.2.2.1 ≤ 1073741824 := hf0.2.2.1.1
 have hn0_2 : List.length x0.2.2.2.1 ≤ 1073741824 := hf0.2.2.2.1.1
 have hn0_3 : List.length x0.2.2.2.2.1 ≤ 1073741824 := hf0.2.2.2.2.1.1
 refine wp_seq ?_
 refine at_regq [{ ids := [1] }] { ts := [1, 2], os := [1] } [] gamOK hT h (by kernel_rfl) trivial fun a w h => then_normal (wp_seq (wp_seq ?_))
 by_cases h1 : (newSink x0.1 x0.2.1 x0.2.2.1).2.1 = 0
 ·refine at_regq [{}, {}, {}, {}, {}, {}, { ids := [2, 3, 4] }, {}, { hint := some (aB true) }] { ts := [1, 2, 32], os := [1] } [Q_impl_NewSink x0.1 x0.2.1 x0.2.2.1, (AV.p (.c (.v (.bool (decide ((newSink x0.1 x0.2.1 x0.2.2.1).2.1 = 0))))) = AV.p (.c (.v (.bool true))))] gamOK hT h (by kernel_rfl) ⟨(by exact hf0.2.2.1), hint_bool (decide_eq_true h1), trivial⟩ fun a w h => then_normal ?_
  refine at_test true h (by kernel_rfl) (fun hh => ?_) (fun hh => nomatch hh)
  refine wp_seq ?_
  refine at_regq [] { ts := [1, 2], os := [1] } [] gamOK hT h (by kernel_rfl) trivial fun a w h => then_normal (wp_ret (then_ret ?_))
  exact at_return (S := S_impl_IsValidSink) (x := (x0, ())) (false, ()) [] h (by kernel_rfl) trivial (congrArg (fun z => (z, ())) (show (false) = validS x0 from by (first | (rw [← validS_impl (by assumption) (headS_y (by assumption) (by omega) (by assumption))]; symm; assumption) | exact validS_no (by first | (right; left; assumption) | (left; exact headS_n (by first | (left; assumption) | (right; left; omega) | (right; right; assumption)))))))
 ·by_cases h2 : ((List.length x0.2.2.2.1 : Nat) : Int) > 4
  ·refine at_regq [{}, {}, {}, {}, {}, {}, { ids := [2, 3, 4] }, {}, { hint := some (aB false) }, {}, {}, {}, {}, { hint := some (aB true) }] { ts := [1, 2, 32], os := [1] } [Q_impl_NewSink x0.1 x0.2.1 x0.2.2.1, (AV.p (.c (.v (.bool (decide ((newSink x0.1 x0.2.1 x0.2.2.1).2.1 = 0))))) = AV.p (.c (.v (.bool false)))), (AV.p (.c (.v (.bool (decide (((List.length x0.2.2.2.1 : Nat) : Int) > 4))))) = AV.p (.c (.v (.bool true))))] gamOK hT h (by kernel_rfl) ⟨(by exact hf0.2.2.1), hint_bool (decide_eq_false h1), hint_bool (decide_eq_true h2), trivial⟩ fun a w h => then_normal ?_
   refine at_test true h (by kernel_rfl) (fun hh => ?_) (fun hh => nomatch hh)
   refine wp_seq ?_
   refine at_regq [] { ts := [1, 2], os := [1] } [] gamOK hT h (by kernel_rfl) trivial fun a w h => then_normal (wp_ret (then_ret ?_))
   exact at_return (S := S_impl_IsValidSink) (x := (x0, ())) (false, ()) [] h (by kernel_rfl) trivial (congrArg (fun z => (z, ())) (show (false) = validS x0 from by (first | (rw [← validS_impl (by assumption) (headS_y (by assumption) (by omega) (by assumption))]; symm; assumption) | exact validS_no (by first | (right; left; assumption) | (left; exact headS_n (by first | (left; assumption) | (right; left; omega) | (right; right; assumption)))))))
  ·refine at_regq [{}, {}, {}, {}, {}, {}, { ids := [2, 3, 4] }, {}, { hint := some (aB false) }, {}, {}, {}, {}, { hint := some (aB false) }] { ts := [1, 2, 32], os := [1] } [Q_impl_NewSink x0.1 x0.2.1 x0.2.2.1, (AV.p (.c (.v (.bool (decide ((newSink x0.1 x0.2.1 x0.2.2.1).2.1 = 0))))) = AV.p (.c (.v (.bool false)))), (AV.p (.c (.v (.bool (decide (((List.length x0.2.2.2.1 : Nat) : Int) > 4))))) = AV.p (.c (.v (.bool false)))), True] gamOK hT h (by kernel_rfl) ⟨(by exact hf0.2.2.1), hint_bool (decide_eq_false h1), hint_bool (decide_eq_false h2), trivial, trivial⟩ fun a w h => then_normal ?_
   refine at_test (!(inR x0.2.2.2.2.2 0 ((List.length x0.2.2.2.2.1 : Nat) : Int))) h (by kernel_rfl) (fun h3 => ?_) (fun h3 => ?_)
   ·replace h3 : (inR x0.2.2.2.2.2 0 ((List.length x0.2.2.2.2.1 : Nat) : Int)) = false := notT h3
    have hvh3 := inR_f h3
    refine wp_seq ?_
    refine at_regq [] { ts := [1, 2], os := [1] } [] gamOK hT h (by kernel_rfl) trivial fun a w h => then_normal (wp_ret (then_ret ?_))
    exact at_return (S := S_impl_IsValidSink) (x := (x0, ())) (false, ()) [] h (by kernel_rfl) trivial (congrArg (fun z => (z, ())) (show (false) = validS x0 from by (first | (rw [← validS_impl (by assumption) (headS_y (by assumption) (by omega) (by assumption))]; symm; assumption) | exact validS_no (by first | (right; left; assumption) | (left; exact headS_n (by first | (left; assumption) | (right; left; omega) | (right; right; assumption)))))))
   ·replace h3 : (inR x0.2.2.2.2.2 0 ((List.length x0.2.2.2.2.1 : Nat) : Int)) = true := notF h3
    have hvh3 := inR_t h3
    refine wp_skip (then_normal (wp_seq (wp_seq ?_)))
    refine at_regq [] { ts := [1, 2, 34, 35, 36], os := [1] } [] gamOK hT h (by kernel_rfl) trivial fun a w h => then_normal (wp_block ?_)
    replace h := at_out (σ' := ⟨[(1, aP 1 0), (2, aB false), (34, aF s112 x0.2.2.2.1), (35, aI ((List.length x0.2.2.2.1 : Nat) : Int)), (36, aI 0)], [(1, oX 32 [cI x0.1, cI x0.2.1, .ro (.int 3) x0.2.2.1, .ro s112 x0.2.2.2.1, .ro s218 x0.2.2.2.2.1, cI x0.2.2.2.2.2])]⟩) { ts := [1, 2, 34, 35, 36], os := [1] } h (by kernel_rfl)
    refine at_loop (fun i : Nat => (⟨[(1, aP 1 0), (2, aB false), (34, aF s112 x0.2.2.2.1), (35, aI ((List.length x0.2.2.2.1 : Nat) : Int)), (36, aI ((i : Nat) : Int))], [(1, oX 32 [cI x0.1, cI x0.2.1, .ro (.int 3) x0.2.2.1, .ro s112 x0.2.2.2.1, .ro s218 x0.2.2.2.2.1, cI x0.2.2.2.2.2])]⟩ : St)) (fun i => (i ≤ (List.length x0.2.2.2.1) ∧ allN (decB x0) i = true)) (fun i => (List.length x0.2.2.2.1) - i) (0) h (st_congr1 (fun (d0 : Int) => (⟨[(1, aP 1 0), (2, aB false), (34, aF s112 x0.2.2.2.1), (35, aI ((List.length x0.2.2.2.1 : Nat) : Int)), (36, aI d0)], [(1, oX 32 [cI x0.1, cI x0.2.1, .ro (.int 3) x0.2.2.1, .ro s112 x0.2.2.2.1, .ro s218 x0.2.2.2.2.1, cI x0.2.2.2.2.2])]⟩ : St)) (show (0 : Int) = (((0) : Nat) : Int) from by first | with_reducible rfl | (rfl) | rfl)) (by exact ⟨Nat.zero_le _, rfl⟩) ?_
    intro i a w hok0 h
    refine wp_seq ?_
    refine at_regq [] { ts := [1, 2, 34, 35, 36, 37], os := [1] } [] gamOK hT h (by kernel_rfl) trivial fun a w h => then_normal (wp_seq ?_)
    refine at_test (decide (((i : Nat) : Int) < ((List.length x0.2.2.2.1 : Nat) : Int))) h (by kernel_rfl) (fun h4 => ?_) (fun h4 => ?_)
    ·replace h4 : ((i : Nat) : Int) < ((List.length x0.2.2.2.1 : Nat) : Int) := of_decide_eq_true h4
     refine wp_skip (then_normal (wp_seq (wp_block (wp_seq ?_))))
     refine at_regq [{}, {}, {}, { ids := [5] }] { ts := [1, 2, 3, 4, 34, 35, 36], os := [1, 5] } [(0 : Int) ≤ ((i : Nat) : Int) ∧ ((i : Nat) : Int) < ((List.length x0.2.2.2.1 : Nat) : Int)] gamOK hT h (by kernel_rfl) ⟨(by refine ⟨?_, ?_⟩ <;> (first | omega | (simp only [lsA]; omega) | (simp <;> omega))), trivial⟩ fun a w h => then_normal (wp_seq ?_)
     rcases Bool.eq_false_or_eq_true (!(validD (x0.2.2.2.1.getD i (0, (0, (0, (0, []))))))) with h5 | h5
     ·have hzh5 : (validD (x0.2.2.2.1.getD i (0, (0, (0, (0, [])))))) = false := notT h5
      refine at_anyq [{}, {}, { hint := some (aB true) }, {}, {}, {}, {}, {}, {}, {}, {}, {}, {}, {}, {}, {}, {}, {}, {}, {}, {}, {}, {}, {}, {}, {}, {}, {}, {}, {}, {}, {}, {}, {}] { ts := [1, 2, 34, 35, 36, 45, 46, 49, 50, 51, 52, 53, 54, 55, 56, 57, 60, 61, 62, 63, 64, 65, 66, 67, 68, 69, 70, 71, 72, 73, 74], os := [1] } [Q_impl_IsValidDecoder (x0.2.2.2.1.getD i (0, (0, (0, (0, []))))), (AV.p (.c (.v (.bool (!(validD (x0.2.2.2.1.getD i (0, (0, (0, (0, [])))))))))) = AV.p (.c (.v (.bool true))))] gamOK hT mixed h (by kernel_rfl) ⟨(by exact (Sh.fit_getD hf0.2.2.2.1 i)), hint_bool (h5), trivial⟩ fun a w h => then_normal ?_
      refine at_test true h (by kernel_rfl) (fun hh => ?_) (fun hh => nomatch hh)
      refine wp_seq ?_
      refine at_regq [] { ts := [1, 2, 34, 35, 36, 45, 46, 49, 50, 51, 52, 53, 54, 55, 56, 57, 60, 61, 62, 63, 64, 65, 66, 67, 68, 69, 70, 71, 72, 73], os := [1] } [] gamOK hT h (by kernel_rfl) trivial fun a w h => then_normal (wp_ret (in_ret (then_ret ?_)))
      have hs6 : (allN (decB x0) (List.length x0.2.2.2.1)) = false := by exact allN_at (i := i) (by omega) (by exact decB_f (by first | (left; assumption) | (right; left; assumption) | (right; right; left; assumption) | (right; right; right; omega)))
      refine then_ret (in_ret (then_ret ?_))
      exact at_return (S := S_impl_IsValidSink) (x := (x0, ())) (false, ()) [] h (by kernel_rfl) trivial (congrArg (fun z => (z, ())) (show (false) = validS x0 from by (first | (rw [← validS_impl (by assumption) (headS_y (by assumption) (by omega) (by assumption))]; symm; assumption) | exact validS_no (by first | (right; left; assumption) | (left; exact headS_n (by first | (left; assumption) | (right; left; omega) | (right; right; assumption)))))))
     ·have hzh5 : (validD (x0.2.2.2.1.getD i (0, (0, (0, (0, [])))))) = true := notF h5
      have hvh5 := validD_t (notF h5)
      rcases Bool.eq_false_or_eq_true ((complD (x0.2.2.2.1.getD i (0, (0, (0, (0, []))))))) with h7 | h7
      ·refine at_anyq [{}, {}, { hint := some (aB false) }, {}, {}, { hint := some (aB true) }, {}, {}, {}, {}, {}, {}, {}, {}, {}, {}, {}, {}, {}, {}, {}, {}, {}, {}, {}, {}, {}, {}, {}, {}, {}, {}, {}, {}] { ts := [1, 2, 34, 35, 36, 45, 46, 49, 50, 51, 52, 53, 54, 55, 56, 57, 60, 61, 62, 63, 64, 65, 66, 67, 68, 69, 70, 71, 72, 73, 74], os := [1] } [Q_impl_IsValidDecoder (x0.2.2.2.1.getD i (0, (0, (0, (0, []))))), (AV.p (.c (.v (.bool (!(validD (x0.2.2.2.1.getD i (0, (0, (0, (0, [])))))))))) = AV.p (.c (.v (.bool false)))), Q__impl_Decoder_complete (x0.2.2.2.1.getD i (0, (0, (0, (0, []))))), (AV.p (.c (.v (.bool ((complD (x0.2.2.2.1.getD i (0, (0, (0, (0, [])))))))))) = AV.p (.c (.v (.bool true))))] gamOK hT mixed h (by kernel_rfl) ⟨(by exact (Sh.fit_getD hf0.2.2.2.1 i)), hint_bool (h5), (by exact (Sh.fit_getD hf0.2.2.2.1 i)), hint_bool (h7), trivial⟩ fun a w h => then_normal ?_
       refine at_test true h (by kernel_rfl) (fun hh => ?_) (fun hh => nomatch hh)
       refine wp_seq ?_
       refine at_regq [] { ts := [1, 2, 34, 35, 36, 45, 46, 49, 50, 51, 52, 53, 54, 55, 56, 57, 60, 61, 62, 63, 64, 65, 66, 67, 68, 69, 70, 71, 72, 73], os := [1] } [] gamOK hT h (by kernel_rfl) trivial fun a w h => then_normal (wp_ret (in_ret (then_ret ?_)))
       have hs8 : (allN (decB x0) (List.length x0.2.2.2.1)) = false := by exact allN_at (i := i) (by omega) (by exact decB_f (by first | (left; assumption) | (right; left; assumption) | (right; right; left; assumption) | (right; right; right; omega)))
       refine then_ret (in_ret (then_ret ?_))
       exact at_return (S := S_impl_IsValidSink) (x := (x0, ())) (false, ()) [] h (by kernel_rfl) trivial (congrArg (fun z => (z, ())) (show (false) = validS x0 from by (first | (rw [← validS_impl (by assumption) (headS_y (by assumption) (by omega) (by assumption))]; symm; assumption) | exact validS_no (by first | (right; left; assumption) | (left; exact headS_n (by first | (left; assumption) | (right; left; omega) | (right; right; assumption)))))))
      ·rcases Bool.eq_false_or_eq_true (!(fitsS x0 (x0.2.2.2.1.getD i (0, (0, (0, (0, []))))).1 (x0.2.2.2.1.getD i (0, (0, (0, (0, []))))).2.1 (x0.2.2.2.1.getD i (0, (0, (0, (0, []))))).2.2.1)) with h9 | h9
       ·have hzh9 : (fitsS x0 (x0.2.2.2.1.getD i (0, (0, (0, (0, []))))).1 (x0.2.2.2.1.getD i (0, (0, (0, (0, []))))).2.1 (x0.2.2.2.1.getD i (0, (0, (0, (0, []))))).2.2.1) = false := notT h9
        refine at_anyq [{}, {}, { hint := some (aB false) }, {}, {}, { hint := some (aB false) }, {}, {}, {}, {}, {}, {}, {}, {}, {}, {}, { hint := some (aB true) }, {}, {}, {}, {}, {}, {}, {}, {}, {}, {}, {}, {}, {}, {}, {}, {}, {}] { ts := [1, 2, 34, 35, 36, 45, 46, 49, 50, 51, 52, 53, 54, 55, 56, 57, 60, 61, 62, 63, 64, 65, 66, 67, 68, 69, 70, 71, 72, 73, 74], os := [1, 5] } [Q_impl_IsValidDecoder (x0.2.2.2.1.getD i (0, (0, (0, (0, []))))), (AV.p (.c (.v (.bool (!(validD (x0.2.2.2.1.getD i (0, (0, (0, (0, [])))))))))) = AV.p (.c (.v (.bool false)))), Q__impl_Decoder_complete (x0.2.2.2.1.getD i (0, (0, (0, (0, []))))), (AV.p (.c (.v (.bool ((complD (x0.2.2.2.1.getD i (0, (0, (0, (0, [])))))))))) = AV.p (.c (.v (.bool false)))), Q__impl_Sink_fits x0 (x0.2.2.2.1.getD i (0, (0, (0, (0, []))))).1 (x0.2.2.2.1.getD i (0, (0, (0, (0, []))))).2.1 (x0.2.2.2.1.getD i (0, (0, (0, (0, []))))).2.2.1, (AV.p (.c (.v (.bool (!(fitsS x0 (x0.2.2.2.1.getD i (0, (0, (0, (0, []))))).1 (x0.2.2.2.1.getD i (0, (0, (0, (0, []))))).2.1 (x0.2.2.2.1.getD i (0, (0, (0, (0, []))))).2.2.1))))) = AV.p (.c (.v (.bool true))))] gamOK hT mixed h (by kernel_rfl) ⟨(by exact (Sh.fit_getD hf0.2.2.2.1 i)), hint_bool (h5), (by exact (Sh.fit_getD hf0.2.2.2.1 i)), hint_bool (h7), (by exact hf0), hint_bool (h9), trivial⟩ fun a w h => then_normal ?_
        refine at_test true h (by kernel_rfl) (fun hh => ?_) (fun hh => nomatch hh)
        refine wp_seq ?_
        refine at_regq [] { ts := [1, 2, 34, 35, 36, 45, 46, 49, 50, 51, 52, 53, 54, 55, 56, 57, 60, 61, 62, 63, 64, 65, 66, 67, 68, 69, 70, 71, 72, 73], os := [1, 5] } [] gamOK hT h (by kernel_rfl) trivial fun a w h => then_normal (wp_ret (in_ret (then_ret ?_)))
        have hs10 : (allN (decB x0) (List.length x0.2.2.2.1)) = false := by exact allN_at (i := i) (by omega) (by exact decB_f (by first | (left; assumption) | (right; left; assumption) | (right; right; left; assumption) | (right; right; right; omega)))
        refine then_ret (in_ret (then_ret ?_))
        exact at_return (S := S_impl_IsValidSink) (x := (x0, ())) (false, ()) [] h (by kernel_rfl) trivial (congrArg (fun z => (z, ())) (show (false) = validS x0 from by (first | (rw [← validS_impl (by assumption) (headS_y (by assumption) (by omega) (by assumption))]; symm; assumption) | exact validS_no (by first | (right; left; assumption) | (left; exact headS_n (by first | (left; assumption) | (right; left; omega) | (right; right; assumption)))))))
       ·have hzh9 : (fitsS x0 (x0.2.2.2.1.getD i (0, (0, (0, (0, []))))).1 (x0.2.2.2.1.getD i (0, (0, (0, (0, []))))).2.1 (x0.2.2.2.1.getD i (0, (0, (0, (0, []))))).2.2.1) = true := notF h9
        by_cases h11 : ((i : Nat) : Int) > 0
        ·refine at_anyq [{}, {}, { hint := some (aB false) }, {}, {}, { hint := some (aB false) }, {}, {}, {}, {}, {}, {}, {}, {}, {}, {}, { hint := some (aB false) }, {}, {}, {}, { hint := some (aB true) }, {}, {}, {}, {}, {}, {}, { nw := true }, {}, {}, {}, {}, {}, {}] { ts := [1, 2, 34, 35, 36, 45, 46, 49, 50, 51, 52, 53, 54, 55, 56, 57, 60, 61, 62, 63, 64, 65, 66, 67, 68, 69, 70, 71, 72, 73, 74], os := [1, 5] } [Q_impl_IsValidDecoder (x0.2.2.2.1.getD i (0, (0, (0, (0, []))))), (AV.p (.c (.v (.bool (!(validD (x0.2.2.2.1.getD i (0, (0, (0, (0, [])))))))))) = AV.p (.c (.v (.bool false)))), Q__impl_Decoder_complete (x0.2.2.2.1.getD i (0, (0, (0, (0, []))))), (AV.p (.c (.v (.bool ((complD (x0.2.2.2.1.getD i (0, (0, (0, (0, [])))))))))) = AV.p (.c (.v (.bool false)))), Q__impl_Sink_fits x0 (x0.2.2.2.1.getD i (0, (0, (0, (0, []))))).1 (x0.2.2.2.1.getD i (0, (0, (0, (0, []))))).2.1 (x0.2.2.2.1.getD i (0, (0, (0, (0, []))))).2.2.1, (AV.p (.c (.v (.bool (!(fitsS x0 (x0.2.2.2.1.getD i (0, (0, (0, (0, []))))).1 (x0.2.2.2.1.getD i (0, (0, (0, (0, []))))).2.1 (x0.2.2.2.1.getD i (0, (0, (0, (0, []))))).2.2.1))))) = AV.p (.c (.v (.bool false)))), (AV.p (.c (.v (.bool (decide (((i : Nat) : Int) > 0))))) = AV.p (.c (.v (.bool true)))), I64 (((i : Nat) : Int) - 1), (0 : Int) ≤ ((i : Nat) : Int) - 1 ∧ ((i : Nat) : Int) - 1 < ((List.length x0.2.2.2.1 : Nat) : Int)] gamOK hT mixed h (by kernel_rfl) ⟨(by exact (Sh.fit_getD hf0.2.2.2.1 i)), hint_bool (h5), (by exact (Sh.fit_getD hf0.2.2.2.1 i)), hint_bool (h7), (by exact hf0), hint_bool (h9), hint_bool (decide_eq_true h11), ⟨by first | omega | (simp only [lsA]; omega) | (simp <;> omega), by first | omega | (simp only [lsA]; omega) | (simp <;> omega)⟩, (by refine ⟨?_, ?_⟩ <;> (first | omega | (simp only [lsA]; omega) | (simp <;> omega))), trivial⟩ fun a w h => then_normal ?_
         refine at_test (decide ((x0.2.2.2.1.getD i (0, (0, (0, (0, []))))).1 ≤ (x0.2.2.2.1.getD ((((i : Nat) : Int) - 1).toNat) (0, (0, (0, (0, []))))).1)) h (by kernel_rfl) (fun h12 => ?_) (fun h12 => ?_)
         ·replace h12 : (x0.2.2.2.1.getD i (0, (0, (0, (0, []))))).1 ≤ (x0.2.2.2.1.getD ((((i : Nat) : Int) - 1).toNat) (0, (0, (0, (0, []))))).1 := of_decide_eq_true h12
          refine wp_seq ?_
          refine at_regq [] { ts := [1, 2, 34, 35, 36, 45, 46, 49, 50, 51, 52, 53, 54, 55, 56, 57, 60, 61, 62, 63, 64, 65, 66, 67, 68, 69, 70, 71, 72, 73], os := [1, 5] } [] gamOK hT h (by kernel_rfl) trivial fun a w h => then_normal (wp_ret (in_ret (then_ret ?_)))
          have hs13 : (allN (decB x0) (List.length x0.2.2.2.1)) = false := by exact allN_at (i := i) (by omega) (by exact decB_f (by first | (left; assumption) | (right; left; assumption) | (right; right; left; assumption) | (right; right; right; omega)))
          refine then_ret (in_ret (then_ret ?_))
          exact at_return (S := S_impl_IsValidSink) (x := (x0, ())) (false, ()) [] h (by kernel_rfl) trivial (congrArg (fun z => (z, ())) (show (false) = validS x0 from by (first | (rw [← validS_impl (by assumption) (headS_y (by assumption) (by omega) (by assumption))]; symm; assumption) | exact validS_no (by first | (right; left; assumption) | (left; exact headS_n (by first | (left; assumption) | (right; left; omega) | (right; right; assumption)))))))
         ·replace h12 : ¬ ((x0.2.2.2.1.getD i (0, (0, (0, (0, []))))).1 ≤ (x0.2.2.2.1.getD ((((i : Nat) : Int) - 1).toNat) (0, (0, (0, (0, []))))).1) := of_decide_eq_false h12
          refine wp_skip (in_normal (then_normal ?_))
          refine at_regq [{ nw := true }] { ts := [1, 2, 34, 35, 36, 45, 46, 49, 50, 51, 52, 53, 54, 55, 56, 57, 60, 61, 62, 63, 64, 65, 66, 67, 68, 69, 70, 71, 72, 73], os := [1, 5] } [I64 (((i : Nat) : Int) + 1)] gamOK hT h (by kernel_rfl) ⟨⟨by first | omega | (simp only [lsA]; omega) | (simp <;> omega), by first | omega | (simp only [lsA]; omega) | (simp <;> omega)⟩, trivial⟩ fun a w h => ?_
          replace h := at_out (σ' := ⟨[(1, aP 1 0), (2, aB false), (34, aF s112 x0.2.2.2.1), (35, aI ((List.length x0.2.2.2.1 : Nat) : Int)), (36, aI (((i : Nat) : Int) + 1))], [(1, oX 32 [cI x0.1, cI x0.2.1, .ro (.int 3) x0.2.2.1, .ro s112 x0.2.2.2.1, .ro s218 x0.2.2.2.2.1, cI x0.2.2.2.2.2])]⟩) { ts := [1, 2, 34, 35, 36], os := [1] } h (by kernel_rfl)
          exact ⟨i + 1, at_eq h (st_congr1 (fun (d0 : Int) => (⟨[(1, aP 1 0), (2, aB false), (34, aF s112 x0.2.2.2.1), (35, aI ((List.length x0.2.2.2.1 : Nat) : Int)), (36, aI d0)], [(1, oX 32 [cI x0.1, cI x0.2.1, .ro (.int 3) x0.2.2.1, .ro s112 x0.2.2.2.1, .ro s218 x0.2.2.2.2.1, cI x0.2.2.2.2.2])]⟩ : St)) (show (((i : Nat) : Int) + 1 : Int) = (((i + 1) : Nat) : Int) from by first | with_reducible rfl | (omega) | rfl)), (by exact ⟨by omega, allN_succ hok0.2 (by exact decB_t (by assumption) (by assumption) (by assumption) (by omega))⟩), (by omega)⟩
        ·refine at_anyq [{}, {}, { hint := some (aB false) }, {}, {}, { hint := some (aB false) }, {}, {}, {}, {}, {}, {}, {}, {}, {}, {}, { hint := some (aB false) }, {}, {}, {}, { hint := some (aB false) }, {}, {}, {}, {}, {}, {}, {}, {}, {}, {}, {}, {}, {}] { ts := [1, 2, 34, 35, 36, 45, 46, 49, 50, 51, 52, 53, 54, 55, 56, 57, 60, 61, 62, 63, 64, 65, 66, 67, 68, 69, 70, 71, 72, 73, 74], os := [1, 5] } [Q_impl_IsValidDecoder (x0.2.2.2.1.getD i (0, (0, (0, (0, []))))), (AV.p (.c (.v (.bool (!(validD (x0.2.2.2.1.getD i (0, (0, (0, (0, [])))))))))) = AV.p (.c (.v (.bool false)))), Q__impl_Decoder_complete (x0.2.2.2.1.getD i (0, (0, (0, (0, []))))), (AV.p (.c (.v (.bool ((complD (x0.2.2.2.1.getD i (0, (0, (0, (0, [])))))))))) = AV.p (.c (.v (.bool false)))), Q__impl_Sink_fits x0 (x0.2.2.2.1.getD i (0, (0, (0, (0, []))))).1 (x0.2.2.2.1.getD i (0, (0, (0, (0, []))))).2.1 (x0.2.2.2.1.getD i (0, (0, (0, (0, []))))).2.2.1, (AV.p (.c (.v (.bool (!(fitsS x0 (x0.2.2.2.1.getD i (0, (0, (0, (0, []))))).1 (x0.2.2.2.1.getD i (0, (0, (0, (0, []))))).2.1 (x0.2.2.2.1.getD i (0, (0, (0, (0, []))))).2.2.1))))) = AV.p (.c (.v (.bool false)))), (AV.p (.c (.v (.bool (decide (((i : Nat) : Int) > 0))))) = AV.p (.c (.v (.bool false))))] gamOK hT mixed h (by kernel_rfl) ⟨(by exact (Sh.fit_getD hf0.2.2.2.1 i)), hint_bool (h5), (by exact (Sh.fit_getD hf0.2.2.2.1 i)), hint_bool (h7), (by exact hf0), hint_bool (h9), hint_bool (decide_eq_false h11), trivial⟩ fun a w h => then_normal ?_
         refine at_test false h (by kernel_rfl) (fun hh => nomatch hh) (fun hh => ?_)
         refine wp_skip (in_normal (then_normal ?_))
         refine at_regq [{ nw := true }] { ts := [1, 2, 34, 35, 36, 45, 46, 49, 50, 51, 52, 53, 54, 55, 56, 57, 60, 61, 62, 63, 64, 65, 66, 67, 68, 69, 70, 71, 72, 73], os := [1, 5] } [I64 (((i : Nat) : Int) + 1)] gamOK hT h (by kernel_rfl) ⟨⟨by first | omega | (simp only [lsA]; omega) | (simp <;> omega), by first | omega | (simp only [lsA]; omega) | (simp <;> omega)⟩, trivial⟩ fun a w h => ?_
         replace h := at_out (σ' := ⟨[(1, aP 1 0), (2, aB false), (34, aF s112 x0.2.2.2.1), (35, aI ((List.length x0.2.2.2.1 : Nat) : Int)), (36, aI (((i : Nat) : Int) + 1))], [(1, oX 32 [cI x0.1, cI x0.2.1, .ro (.int 3) x0.2.2.1, .ro s112 x0.2.2.2.1, .ro s218 x0.2.2.2.2.1, cI x0.2.2.2.2.2])]⟩) { ts := [1, 2, 34, 35, 36], os := [1] } h (by kernel_rfl)
         exact ⟨i + 1, at_eq h (st_congr1 (fun (d0 : Int) => (⟨[(1, aP 1 0), (2, aB false), (34, aF s112 x0.2.2.2.1), (35, aI ((List.length x0.2.2.2.1 : Nat) : Int)), (36, aI d0)], [(1, oX 32 [cI x0.1, cI x0.2.1, .ro (.int 3) x0.2.2.1, .ro s112 x0.2.2.2.1, .ro s218 x0.2.2.2.2.1, cI x0.2.2.2.2.2])]⟩ : St)) (show (((i : Nat) : Int) + 1 : Int) = (((i + 1) : Nat) : Int) from by first | with_reducible rfl | (omega) | rfl)), (by exact ⟨by omega, allN_succ hok0.2 (by exact decB_t (by assumption) (by assumption) (by assumption) (by omega))⟩), (by omega)⟩
    ·replace h4 : ¬ (((i : Nat) : Int) < ((List.length x0.2.2.2.1 : Nat) : Int)) := of_decide_eq_false h4
     refine wp_exit (then_exit ?_)
     have hs14 : (allN (decB x0) (List.length x0.2.2.2.1)) = true := by exact allN_eq (by omega) hok0.1 hok0.2
     refine then_exit (in_hit (then_normal (wp_seq (wp_seq ?_))))
     refine at_regq [] { ts := [1, 2, 77, 78, 79], os := [1] } [] gamOK hT h (by kernel_rfl) trivial fun a w h => then_normal (wp_block ?_)
     replace h := at_out (σ' := ⟨[(1, aP 1 0), (2, aB false), (77, aF s218 x0.2.2.2.2.1), (78, aI ((List.length x0.2.2.2.2.1 : Nat) : Int)), (79, aI 0)], [(1, oX 32 [cI x0.1, cI x0.2.1, .ro (.int 3) x0.2.2.1, .ro s112 x0.2.2.2.1, .ro s218 x0.2.2.2.2.1, cI x0.2.2.2.2.2])]⟩) { ts := [1, 2, 77, 78, 79], os := [1] } h (by kernel_rfl)
     refine at_loop (fun i : Nat => (⟨[(1, aP 1 0), (2, aB false), (77, aF s218 x0.2.2.2.2.1), (78, aI ((List.length x0.2.2.2.2.1 : Nat) : Int)), (79, aI ((i : Nat) : Int))], [(1, oX 32 [cI x0.1, cI x0.2.1, .ro (.int 3) x0.2.2.1, .ro s112 x0.2.2.2.1, .ro s218 x0.2.2.2.2.1, cI x0.2.2.2.2.2])]⟩ : St)) (fun i => (i ≤ (List.length x0.2.2.2.2.1) ∧ allN (fun j => genB x0 j && opnB x0 j) i = true)) (fun i => (List.length x0.2.2.2.2.1) - i) (0) h (st_congr1 (fun (d0 : Int) => (⟨[(1, aP 1 0), (2, aB false), (77, aF s218 x0.2.2.2.2.1), (78, aI ((List.length x0.2.2.2.2.1 : Nat) : Int)), (79, aI d0)], [(1, oX 32 [cI x0.1, cI x0.2.1, .ro (.int 3) x0.2.2.1, .ro s112 x0.2.2.2.1, .ro s218 x0.2.2.2.2.1, cI x0.2.2.2.2.2])]⟩ : St)) (show (0 : Int) = (((0) : Nat) : Int) from by first | with_reducible rfl | (rfl) | rfl)) (by exact ⟨Nat.zero_le _, rfl⟩) ?_
     intro i a w hok1 h
     refine wp_seq ?_
     refine at_regq [] { ts := [1, 2, 77, 78, 79, 80], os := [1] } [] gamOK hT h (by kernel_rfl) trivial fun a w h => then_normal (wp_seq ?_)
     refine at_test (decide (((i : Nat) : Int) < ((List.length x0.2.2.2.2.1 : Nat) : Int))) h (by kernel_rfl) (fun h15 => ?_) (fun h15 => ?_)
     ·replace h15 : ((i : Nat) : Int) < ((List.length x0.2.2.2.2.1 : Nat) : Int) := of_decide_eq_true h15
      refine wp_skip (then_normal (wp_seq (wp_block (wp_seq ?_))))
      refine at_regq [{}, {}, {}, { ids := [6] }] { ts := [1, 2, 5, 6, 77, 78, 79], os := [1, 6] } [(0 : Int) ≤ ((i : Nat) : Int) ∧ ((i : Nat) : Int) < ((List.length x0.2.2.2.2.1 : Nat) : Int)] gamOK hT h (by kernel_rfl) ⟨(by refine ⟨?_, ?_⟩ <;> (first | omega | (simp only [lsA]; omega) | (simp <;> omega))), trivial⟩ fun a w h => then_normal (wp_seq (wp_seq ?_))
      rcases Bool.eq_false_or_eq_true (!(validG (x0.2.2.2.2.1.getD i (0, [])))) with h16 | h16
      ·have hzh16 : (validG (x0.2.2.2.2.1.getD i (0, []))) = false := notT h16
       refine at_anyq [{}, {}, { hint := some (aB true) }, {}, {}, {}, {}, {}, {}, {}, {}, {}, {}, {}, {}, {}, {}, {}, {}, {}, {}, {}, {}, {}, {}, {}, {}, {}, {}, {}, {}] { ts := [1, 2, 6, 77, 78, 79, 88, 89, 90, 91, 92, 93, 94, 95, 96, 97, 100, 101, 102, 103, 104, 105, 106, 107, 108, 109, 110, 111, 112, 113, 114], os := [1, 6] } [Q_impl_IsValidGeneration (x0.2.2.2.2.1.getD i (0, [])), (AV.p (.c (.v (.bool (!(validG (x0.2.2.2.2.1.getD i (0, []))))))) = AV.p (.c (.v (.bool true))))] gamOK hT mixed h (by kernel_rfl) ⟨(by exact (Sh.fit_getD hf0.2.2.2.2.1 i)), hint_bool (h16), trivial⟩ fun a w h => then_normal ?_
       refine at_test true h (by kernel_rfl) (fun hh => ?_) (fun hh => nomatch hh)
       refine wp_seq ?_
       refine at_reg [] { ts := [1, 2, 6, 77, 78, 79, 88, 89, 90, 91, 92, 93, 94, 95, 96, 97, 100, 101, 102, 103, 104, 105, 106, 107, 108, 109, 110, 111, 112, 113], os := [1, 6] } ⟨[(1, aP 1 0), (2, aB false), (6, aP 6 0), (77, aF s218 x0.2.2.2.2.1), (78, aI ((List.length x0.2.2.2.2.1 : Nat) : Int)), (79, aI ((i : Nat) : Int)), (88, .p (.c (.v undef))), (89, .p (.c (.v undef))), (90, .p (.c (.v undef))), (91, .p (.c (.v undef))), (92, .p (.c (.v undef))), (93, .p (.c (.v undef))), (94, .p (.c (.v undef))), (95, .p (.c (.v undef))), (96, .p (.c (.v undef))), (97, .p (.c (.v undef))), (100, .p (.c (.v undef))), (101, .p (.c (.v undef))), (102, .p (.c (.v undef))), (103, .p (.c (.v undef))), (104, .p (.c (.v undef))), (105, .p (.c (.v undef))), (106, .p (.c (.v undef))), (107, .p (.c (.v undef))), (108, .p (.c (.v undef))), (109, .p (.c (.v undef))), (110, .p (.c (.v undef))), (111, .p (.c (.v undef))), (112, .p (.c (.v undef))), (113, .p (.c (.v undef)))], [(1, oX 32 [cI x0.1, cI x0.2.1, .ro (.int 3) x0.2.2.1, .ro s112 x0.2.2.2.1, .ro s218 x0.2.2.2.2.1, cI x0.2.2.2.2.2]), (6, oX 218 [cI (x0.2.2.2.2.1.getD i (0, [])).1, .ro s22 (x0.2.2.2.2.1.getD i (0, [])).2])]⟩ [] gamOK hT h (by kernel_rfl) trivial fun a w h => then_normal (wp_ret (then_ret (in_ret (then_ret ?_))))
       have hs17 : (allN (fun j => genB x0 j && opnB x0 j) (List.length x0.2.2.2.2.1)) = false := by exact allN_at (i := i) (by omega) (by exact and_f (by first | (left; exact genB_f (by first | (left; assumption) | (right; left; assumption) | (right; right; omega))) | (right; exact opnB_f (by assumption))))
       refine then_ret (in_ret (then_ret ?_))
       exact at_return (S := S_impl_IsValidSink) (x := (x0, ())) (false, ()) [] h (by kernel_rfl) trivial (congrArg (fun z => (z, ())) (show (false) = validS x0 from by (first | (rw [← validS_impl (by assumption) (headS_y (by assumption) (by omega) (by assumption))]; symm; assumption) | exact validS_no (by first | (right; left; assumption) | (left; exact headS_n (by first | (left; assumption) | (right; left; omega) | (right; right; assumption)))))))
      ·have hzh16 : (validG (x0.2.2.2.2.1.getD i (0, []))) = true := notF h16
       have hvh16 := validG_t (notF h16)
       rcases Bool.eq_false_or_eq_true (!(fitsS x0 (x0.2.2.2.2.1.getD i (0, [])).1 ((List.length (x0.2.2.2.2.1.getD i (0, [])).2 : Nat) : Int) (colsOf (x0.2.2.2.2.1.getD i (0, [])).2))) with h18 | h18
       ·have hzh18 : (fitsS x0 (x0.2.2.2.2.1.getD i (0, [])).1 ((List.length (x0.2.2.2.2.1.getD i (0, [])).2 : Nat) : Int) (colsOf (x0.2.2.2.2.1.getD i (0, [])).2)) = false := notT h18
        refine at_anyq [{}, {}, { hint := some (aB false) }, {}, {}, {}, {}, {}, {}, {}, {}, {}, {}, { hint := some (aB true) }, {}, {}, {}, {}, {}, {}, {}, {}, {}, {}, {}, {}, {}, {}, {}, {}, {}] { ts := [1, 2, 6, 77, 78, 79, 88, 89, 90, 91, 92, 93, 94, 95, 96, 97, 100, 101, 102, 103, 104, 105, 106, 107, 108, 109, 110, 111, 112, 113, 114], os := [1, 6] } [Q_impl_IsValidGeneration (x0.2.2.2.2.1.getD i (0, [])), (AV.p (.c (.v (.bool (!(validG (x0.2.2.2.2.1.getD i (0, []))))))) = AV.p (.c (.v (.bool false)))), Q_impl_SymbolWidth (x0.2.2.2.2.1.getD i (0, [])), Q__impl_Sink_fits x0 (x0.2.2.2.2.1.getD i (0, [])).1 ((List.length (x0.2.2.2.2.1.getD i (0, [])).2 : Nat) : Int) (colsOf (x0.2.2.2.2.1.getD i (0, [])).2), (AV.p (.c (.v (.bool (!(fitsS x0 (x0.2.2.2.2.1.getD i (0, [])).1 ((List.length (x0.2.2.2.2.1.getD i (0, [])).2 : Nat) : Int) (colsOf (x0.2.2.2.2.1.getD i (0, [])).2)))))) = AV.p (.c (.v (.bool true))))] gamOK hT mixed h (by kernel_rfl) ⟨(by exact (Sh.fit_getD hf0.2.2.2.2.1 i)), hint_bool (h16), (by exact (Sh.fit_getD hf0.2.2.2.2.1 i)), (by exact hf0), hint_bool (h18), trivial⟩ fun a w h => then_normal ?_
        refine at_test true h (by kernel_rfl) (fun hh => ?_) (fun hh => nomatch hh)
        refine wp_seq ?_
        refine at_reg [] { ts := [1, 2, 6, 77, 78, 79, 88, 89, 90, 91, 92, 93, 94, 95, 96, 97, 100, 101, 102, 103, 104, 105, 106, 107, 108, 109, 110, 111, 112, 113], os := [1, 6] } ⟨[(1, aP 1 0), (2, aB false), (6, aP 6 0), (77, aF s218 x0.2.2.2.2.1), (78, aI ((List.length x0.2.2.2.2.1 : Nat) : Int)), (79, aI ((i : Nat) : Int)), (88, aG [cI x0.1, cI x0.2.1, .ro (.int 3) x0.2.2.1, .ro s112 x0.2.2.2.1, .ro s218 x0.2.2.2.2.1, cI x0.2.2.2.2.2]), (89, aP 6 0), (90, aI (x0.2.2.2.2.1.getD i (0, [])).1), (91, aP 6 1), (92, aF s22 (x0.2.2.2.2.1.getD i (0, [])).2), (93, aI ((List.length (x0.2.2.2.2.1.getD i (0, [])).2 : Nat) : Int)), (94, aG [cI (x0.2.2.2.2.1.getD i (0, [])).1, .ro s22 (x0.2.2.2.2.1.getD i (0, [])).2]), (95, aI (colsOf (x0.2.2.2.2.1.getD i (0, [])).2)), (96, aB (fitsS x0 (x0.2.2.2.2.1.getD i (0, [])).1 ((List.length (x0.2.2.2.2.1.getD i (0, [])).2 : Nat) : Int) (colsOf (x0.2.2.2.2.1.getD i (0, [])).2))), (97, aB true), (100, .p (.c (.v undef))), (101, .p (.c (.v undef))), (102, .p (.c (.v undef))), (103, .p (.c (.v undef))), (104, .p (.c (.v undef))), (105, .p (.c (.v undef))), (106, .p (.c (.v undef))), (107, .p (.c (.v undef))), (108, .p (.c (.v undef))), (109, .p (.c (.v undef))), (110, .p (.c (.v undef))), (111, .p (.c (.v undef))), (112, .p (.c (.v undef))), (113, .p (.c (.v undef)))], [(1, oX 32 [cI x0.1, cI x0.2.1, .ro (.int 3) x0.2.2.1, .ro s112 x0.2.2.2.1, .ro s218 x0.2.2.2.2.1, cI x0.2.2.2.2.2]), (6, oX 218 [cI (x0.2.2.2.2.1.getD i (0, [])).1, .ro s22 (x0.2.2.2.2.1.getD i (0, [])).2])]⟩ [] gamOK hT h (by kernel_rfl) trivial fun a w h => then_normal (wp_ret (then_ret (in_ret (then_ret ?_))))
        have hs19 : (allN (fun j => genB x0 j && opnB x0 j) (List.length x0.2.2.2.2.1)) = false := by exact allN_at (i := i) (by omega) (by exact and_f (by first | (left; exact genB_f (by first | (left; assumption) | (right; left; assumption) | (right; right; omega))) | (right; exact opnB_f (by assumption))))
        refine then_ret (in_ret (then_ret ?_))
        exact at_return (S := S_impl_IsValidSink) (x := (x0, ())) (false, ()) [] h (by kernel_rfl) trivial (congrArg (fun z => (z, ())) (show (false) = validS x0 from by (first | (rw [← validS_impl (by assumption) (headS_y (by assumption) (by omega) (by assumption))]; symm; assumption) | exact validS_no (by first | (right; left; assumption) | (left; exact headS_n (by first | (left; assumption) | (right; left; omega) | (right; right; assumption)))))))
       ·have hzh18 : (fitsS x0 (x0.2.2.2.2.1.getD i (0, [])).1 ((List.length (x0.2.2.2.2.1.getD i (0, [])).2 : Nat) : Int) (colsOf (x0.2.2.2.2.1.getD i (0, [])).2)) = true := notF h18
        by_cases h20 : ((i : Nat) : Int) > 0
        ·refine at_anyq [{}, {}, { hint := some (aB false) }, {}, {}, {}, {}, {}, {}, {}, {}, {}, {}, { hint := some (aB false) }, {}, {}, {}, { hint := some (aB true) }, {}, {}, {}, {}, {}, {}, { nw := true }, {}, {}, {}, {}, {}, {}] { ts := [1, 2, 6, 77, 78, 79, 88, 89, 90, 91, 92, 93, 94, 95, 96, 97, 100, 101, 102, 103, 104, 105, 106, 107, 108, 109, 110, 111, 112, 113, 114], os := [1, 6] } [Q_impl_IsValidGeneration (x0.2.2.2.2.1.getD i (0, [])), (AV.p (.c (.v (.bool (!(validG (x0.2.2.2.2.1.getD i (0, []))))))) = AV.p (.c (.v (.bool false)))), Q_impl_SymbolWidth (x0.2.2.2.2.1.getD i (0, [])), Q__impl_Sink_fits x0 (x0.2.2.2.2.1.getD i (0, [])).1 ((List.length (x0.2.2.2.2.1.getD i (0, [])).2 : Nat) : Int) (colsOf (x0.2.2.2.2.1.getD i (0, [])).2), (AV.p (.c (.v (.bool (!(fitsS x0 (x0.2.2.2.2.1.getD i (0, [])).1 ((List.length (x0.2.2.2.2.1.getD i (0, [])).2 : Nat) : Int) (colsOf (x0.2.2.2.2.1.getD i (0, [])).2)))))) = AV.p (.c (.v (.bool false)))), (AV.p (.c (.v (.bool (decide (((i : Nat) : Int) > 0))))) = AV.p (.c (.v (.bool true)))), I64 (((i : Nat) : Int) - 1), (0 : Int) ≤ ((i : Nat) : Int) - 1 ∧ ((i : Nat) : Int) - 1 < ((List.length x0.2.2.2.2.1 : Nat) : Int)] gamOK hT mixed h (by kernel_rfl) ⟨(by exact (Sh.fit_getD hf0.2.2.2.2.1 i)), hint_bool (h16), (by exact (Sh.fit_getD hf0.2.2.2.2.1 i)), (by exact hf0), hint_bool (h18), hint_bool (decide_eq_true h20), ⟨by first | omega | (simp only [lsA]; omega) | (simp <;> omega), by first | omega | (simp only [lsA]; omega) | (simp <;> omega)⟩, (by refine ⟨?_, ?_⟩ <;> (first | omega | (simp only [lsA]; omega) | (simp <;> omega))), trivial⟩ fun a w h => then_normal ?_
         refine at_test (decide ((x0.2.2.2.2.1.getD i (0, [])).1 ≤ (x0.2.2.2.2.1.getD ((((i : Nat) : Int) - 1).toNat) (0, [])).1)) h (by kernel_rfl) (fun h21 => ?_) (fun h21 => ?_)
         ·replace h21 : (x0.2.2.2.2.1.getD i (0, [])).1 ≤ (x0.2.2.2.2.1.getD ((((i : Nat) : Int) - 1).toNat) (0, [])).1 := of_decide_eq_true h21
          refine wp_seq ?_
          refine at_reg [] { ts := [1, 2, 6, 77, 78, 79, 88, 89, 90, 91, 92, 93, 94, 95, 96, 97, 100, 101, 102, 103, 104, 105, 106, 107, 108, 109, 110, 111, 112, 113], os := [1, 6] } ⟨[(1, aP 1 0), (2, aB false), (6, aP 6 0), (77, aF s218 x0.2.2.2.2.1), (78, aI ((List.length x0.2.2.2.2.1 : Nat) : Int)), (79, aI ((i : Nat) : Int)), (88, aG [cI x0.1, cI x0.2.1, .ro (.int 3) x0.2.2.1, .ro s112 x0.2.2.2.1, .ro s218 x0.2.2.2.2.1, cI x0.2.2.2.2.2]), (89, aP 6 0), (90, aI (x0.2.2.2.2.1.getD i (0, [])).1), (91, aP 6 1), (92, aF s22 (x0.2.2.2.2.1.getD i (0, [])).2), (93, aI ((List.length (x0.2.2.2.2.1.getD i (0, [])).2 : Nat) : Int)), (94, aG [cI (x0.2.2.2.2.1.getD i (0, [])).1, .ro s22 (x0.2.2.2.2.1.getD i (0, [])).2]), (95, aI (colsOf (x0.2.2.2.2.1.getD i (0, [])).2)), (96, aB (fitsS x0 (x0.2.2.2.2.1.getD i (0, [])).1 ((List.length (x0.2.2.2.2.1.getD i (0, [])).2 : Nat) : Int) (colsOf (x0.2.2.2.2.1.getD i (0, [])).2))), (97, aB false), (100, aI ((i : Nat) : Int)), (101, aB true), (102, aB true), (103, aP 6 0), (104, aI (x0.2.2.2.2.1.getD i (0, [])).1), (105, aP 1 4), (106, aF s218 x0.2.2.2.2.1), (107, aI ((i : Nat) : Int)), (108, aI (((i : Nat) : Int) - 1)), (109, aR s218 (x0.2.2.2.2.1.getD ((((i : Nat) : Int) - 1).toNat) (0, [])) 0), (110, aR s218 (x0.2.2.2.2.1.getD ((((i : Nat) : Int) - 1).toNat) (0, [])) 0), (111, aI (x0.2.2.2.2.1.getD ((((i : Nat) : Int) - 1).toNat) (0, [])).1), (112, aB (decide ((x0.2.2.2.2.1.getD i (0, [])).1 ≤ (x0.2.2.2.2.1.getD ((((i : Nat) : Int) - 1).toNat) (0, [])).1))), (113, aB (decide ((x0.2.2.2.2.1.getD i (0, [])).1 ≤ (x0.2.2.2.2.1.getD ((((i : Nat) : Int) - 1).toNat) (0, [])).1)))], [(1, oX 32 [cI x0.1, cI x0.2.1, .ro (.int 3) x0.2.2.1, .ro s112 x0.2.2.2.1, .ro s218 x0.2.2.2.2.1, cI x0.2.2.2.2.2]), (6, oX 218 [cI (x0.2.2.2.2.1.getD i (0, [])).1, .ro s22 (x0.2.2.2.2.1.getD i (0, [])).2])]⟩ [] gamOK hT h (by kernel_rfl) trivial fun a w h => then_normal (wp_ret (then_ret (in_ret (then_ret ?_))))
          have hs22 : (allN (fun j => genB x0 j && opnB x0 j) (List.length x0.2.2.2.2.1)) = false := by exact allN_at (i := i) (by omega) (by exact and_f (by first | (left; exact genB_f (by first | (left; assumption) | (right; left; assumption) | (right; right; omega))) | (right; exact opnB_f (by assumption))))
          refine then_ret (in_ret (then_ret ?_))
          exact at_return (S := S_impl_IsValidSink) (x := (x0, ())) (false, ()) [] h (by kernel_rfl) trivial (congrArg (fun z => (z, ())) (show (false) = validS x0 from by (first | (rw [← validS_impl (by assumption) (headS_y (by assumption) (by omega) (by assumption))]; symm; assumption) | exact validS_no (by first | (right; left; assumption) | (left; exact headS_n (by first | (left; assumption) | (right; left; omega) | (right; right; assumption)))))))
         ·replace h21 : ¬ ((x0.2.2.2.2.1.getD i (0, [])).1 ≤ (x0.2.2.2.2.1.getD ((((i : Nat) : Int) - 1).toNat) (0, [])).1) := of_decide_eq_false h21
          refine wp_skip (then_normal (wp_seq ?_))
          refine at_reg [] { ts := [1, 2, 8, 77, 78, 79, 88, 89, 90, 91, 92, 93, 94, 95, 96, 97, 100, 101, 102, 103, 104, 105, 106, 107, 108, 109, 110, 111, 112, 113], os := [1, 6] } ⟨[(1, aP 1 0), (2, aB false), (8, aB (D__impl_Sink_decoderAt x0 (x0.2.2.2.2.1.getD i (0, [])).1).2), (77, aF s218 x0.2.2.2.2.1), (78, aI ((List.length x0.2.2.2.2.1 : Nat) : Int)), (79, aI ((i : Nat) : Int)), (88, aG [cI x0.1, cI x0.2.1, .ro (.int 3) x0.2.2.1, .ro s112 x0.2.2.2.1, .ro s218 x0.2.2.2.2.1, cI x0.2.2.2.2.2]), (89, aP 6 0), (90, aI (x0.2.2.2.2.1.getD i (0, [])).1), (91, aP 6 1), (92, aF s22 (x0.2.2.2.2.1.getD i (0, [])).2), (93, aI ((List.length (x0.2.2.2.2.1.getD i (0, [])).2 : Nat) : Int)), (94, aG [cI (x0.2.2.2.2.1.getD i (0, [])).1, .ro s22 (x0.2.2.2.2.1.getD i (0, [])).2]), (95, aI (colsOf (x0.2.2.2.2.1.getD i (0, [])).2)), (96, aB (fitsS x0 (x0.2.2.2.2.1.getD i (0, [])).1 ((List.length (x0.2.2.2.2.1.getD i (0, [])).2 : Nat) : Int) (colsOf (x0.2.2.2.2.1.getD i (0, [])).2))), (97, aB false), (100, aI ((i : Nat) : Int)), (101, aB true), (102, aB true), (103, aP 6 0), (104, aI (x0.2.2.2.2.1.getD i (0, [])).1), (105, aP 1 4), (106, aF s218 x0.2.2.2.2.1), (107, aI ((i : Nat) : Int)), (108, aI (((i : Nat) : Int) - 1)), (109, aR s218 (x0.2.2.2.2.1.getD ((((i : Nat) : Int) - 1).toNat) (0, [])) 0), (110, aR s218 (x0.2.2.2.2.1.getD ((((i : Nat) : Int) - 1).toNat) (0, [])) 0), (111, aI (x0.2.2.2.2.1.getD ((((i : Nat) : Int) - 1).toNat) (0, [])).1), (112, aB (decide ((x0.2.2.2.2.1.getD i (0, [])).1 ≤ (x0.2.2.2.2.1.getD ((((i : Nat) : Int) - 1).toNat) (0, [])).1))), (113, aB (decide ((x0.2.2.2.2.1.getD i (0, [])).1 ≤ (x0.2.2.2.2.1.getD ((((i : Nat) : Int) - 1).toNat) (0, [])).1)))], [(1, oX 32 [cI x0.1, cI x0.2.1, .ro (.int 3) x0.2.2.1, .ro s112 x0.2.2.2.1, .ro s218 x0.2.2.2.2.1, cI x0.2.2.2.2.2]), (6, oX 218 [cI (x0.2.2.2.2.1.getD i (0, [])).1, .ro s22 (x0.2.2.2.2.1.getD i (0, [])).2])]⟩ [Q__impl_Sink_decoderAt x0 (x0.2.2.2.2.1.getD i (0, [])).1] gamOK hT h (by kernel_rfl) ⟨(by exact hf0), trivial⟩ fun a w h => then_normal (wp_seq ?_)
          refine at_regq [] { ts := [1, 2, 77, 78, 79, 88, 89, 90, 91, 92, 93, 94, 95, 96, 97, 100, 101, 102, 103, 104, 105, 106, 107, 108, 109, 110, 111, 112, 113, 122], os := [1, 6] } [] gamOK hT h (by kernel_rfl) trivial fun a w h => then_normal ?_
          refine at_test ((D__impl_Sink_decoderAt x0 (x0.2.2.2.2.1.getD i (0, [])).1).2) h (by kernel_rfl) (fun h23 => ?_) (fun h23 => ?_)
          ·refine wp_seq ?_
           refine at_regq [] { ts := [1, 2, 77, 78, 79, 88, 89, 90, 91, 92, 93, 94, 95, 96, 97, 100, 101, 102, 103, 104, 105, 106, 107, 108, 109, 110, 111, 112, 113], os := [1, 6] } [] gamOK hT h (by kernel_rfl) trivial fun a w h => then_normal (wp_ret (in_ret (then_ret ?_)))
           have hs24 : (allN (fun j => genB x0 j && opnB x0 j) (List.length x0.2.2.2.2.1)) = false := by exact allN_at (i := i) (by omega) (by exact and_f (by first | (left; exact genB_f (by first | (left; assumption) | (right; left; assumption) | (right; right; omega))) | (right; exact opnB_f (by assumption))))
           refine then_ret (in_ret (then_ret ?_))
           exact at_return (S := S_impl_IsValidSink) (x := (x0, ())) (false, ()) [] h (by kernel_rfl) trivial (congrArg (fun z => (z, ())) (show (false) = validS x0 from by (first | (rw [← validS_impl (by assumption) (headS_y (by assumption) (by omega) (by assumption))]; symm; assumption) | exact validS_no (by first | (right; left; assumption) | (left; exact headS_n (by first | (left; assumption) | (right; left; omega) | (right; right; assumption)))))))
          ·refine wp_skip (in_normal (then_normal ?_))
           refine at_regq [{ nw := true }] { ts := [1, 2, 77, 78, 79, 88, 89, 90, 91, 92, 93, 94, 95, 96, 97, 100, 101, 102, 103, 104, 105, 106, 107, 108, 109, 110, 111, 112, 113], os := [1, 6] } [I64 (((i : Nat) : Int) + 1)] gamOK hT h (by kernel_rfl) ⟨⟨by first | omega | (simp only [lsA]; omega) | (simp <;> omega), by first | omega | (simp only [lsA]; omega) | (simp <;> omega)⟩, trivial⟩ fun a w h => ?_
           replace h := at_out (σ' := ⟨[(1, aP 1 0), (2, aB false), (77, aF s218 x0.2.2.2.2.1), (78, aI ((List.length x0.2.2.2.2.1 : Nat) : Int)), (79, aI (((i : Nat) : Int) + 1))], [(1, oX 32 [cI x0.1, cI x0.2.1, .ro (.int 3) x0.2.2.1, .ro s112 x0.2.2.2.1, .ro s218 x0.2.2.2.2.1, cI x0.2.2.2.2.2])]⟩) { ts := [1, 2, 77, 78, 79], os := [1] } h (by kernel_rfl)
           exact ⟨i + 1, at_eq h (st_congr1 (fun (d0 : Int) => (⟨[(1, aP 1 0), (2, aB false), (77, aF s218 x0.2.2.2.2.1), (78, aI ((List.length x0.2.2.2.2.1 : Nat) : Int)), (79, aI d0)], [(1, oX 32 [cI x0.1, cI x0.2.1, .ro (.int 3) x0.2.2.1, .ro s112 x0.2.2.2.1, .ro s218 x0.2.2.2.2.1, cI x0.2.2.2.2.2])]⟩ : St)) (show (((i : Nat) : Int) + 1 : Int) = (((i + 1) : Nat) : Int) from by first | with_reducible rfl | (omega) | rfl)), (by exact ⟨by omega, allN_succ hok1.2 (by exact and_t (genB_t (by assumption) (by assumption) (by omega)) (opnB_t (by assumption)))⟩), (by omega)⟩
        ·refine at_anyq [{}, {}, { hint := some (aB false) }, {}, {}, {}, {}, {}, {}, {}, {}, {}, {}, { hint := some (aB false) }, {}, {}, {}, { hint := some (aB false) }, {}, {}, {}, {}, {}, {}, {}, {}, {}, {}, {}, {}, {}] { ts := [1, 2, 6, 77, 78, 79, 88, 89, 90, 91, 92, 93, 94, 95, 96, 97, 100, 101, 102, 103, 104, 105, 106, 107, 108, 109, 110, 111, 112, 113, 114], os := [1, 6] } [Q_impl_IsValidGeneration (x0.2.2.2.2.1.getD i (0, [])), (AV.p (.c (.v (.bool (!(validG (x0.2.2.2.2.1.getD i (0, []))))))) = AV.p (.c (.v (.bool false)))), Q_impl_SymbolWidth (x0.2.2.2.2.1.getD i (0, [])), Q__impl_Sink_fits x0 (x0.2.2.2.2.1.getD i (0, [])).1 ((List.length (x0.2.2.2.2.1.getD i (0, [])).2 : Nat) : Int) (colsOf (x0.2.2.2.2.1.getD i (0, [])).2), (AV.p (.c (.v (.bool (!(fitsS x0 (x0.2.2.2.2.1.getD i (0, [])).1 ((List.length (x0.2.2.2.2.1.getD i (0, [])).2 : Nat) : Int) (colsOf (x0.2.2.2.2.1.getD i (0, [])).2)))))) = AV.p (.c (.v (.bool false)))), (AV.p (.c (.v (.bool (decide (((i : Nat) : Int) > 0))))) = AV.p (.c (.v (.bool false))))] gamOK hT mixed h (by kernel_rfl) ⟨(by exact (Sh.fit_getD hf0.2.2.2.2.1 i)), hint_bool (h16), (by exact (Sh.fit_getD hf0.2.2.2.2.1 i)), (by exact hf0), hint_bool (h18), hint_bool (decide_eq_false h20), trivial⟩ fun a w h => then_normal ?_
         refine at_test false h (by kernel_rfl) (fun hh => nomatch hh) (fun hh => ?_)
         refine wp_skip (then_normal (wp_seq ?_))
         refine at_reg [] { ts := [1, 2, 8, 77, 78, 79, 88, 89, 90, 91, 92, 93, 94, 95, 96, 97, 100, 101, 102, 103, 104, 105, 106, 107, 108, 109, 110, 111, 112, 113], os := [1, 6] } ⟨[(1, aP 1 0), (2, aB false), (8, aB (D__impl_Sink_decoderAt x0 (x0.2.2.2.2.1.getD i (0, [])).1).2), (77, aF s218 x0.2.2.2.2.1), (78, aI ((List.length x0.2.2.2.2.1 : Nat) : Int)), (79, aI ((i : Nat) : Int)), (88, aG [cI x0.1, cI x0.2.1, .ro (.int 3) x0.2.2.1, .ro s112 x0.2.2.2.1, .ro s218 x0.2.2.2.2.1, cI x0.2.2.2.2.2]), (89, aP 6 0), (90, aI (x0.2.2.2.2.1.getD i (0, [])).1), (91, aP 6 1), (92, aF s22 (x0.2.2.2.2.1.getD i (0, [])).2), (93, aI ((List.length (x0.2.2.2.2.1.getD i (0, [])).2 : Nat) : Int)), (94, aG [cI (x0.2.2.2.2.1.getD i (0, [])).1, .ro s22 (x0.2.2.2.2.1.getD i (0, [])).2]), (95, aI (colsOf (x0.2.2.2.2.1.getD i (0, [])).2)), (96, aB (fitsS x0 (x0.2.2.2.2.1.getD i (0, [])).1 ((List.length (x0.2.2.2.2.1.getD i (0, [])).2 : Nat) : Int) (colsOf (x0.2.2.2.2.1.getD i (0, [])).2))), (97, aB false), (100, aI ((i : Nat) : Int)), (101, aB false), (102, aB false), (103, .p (.c (.v undef))), (104, .p (.c (.v undef))), (105, .p (.c (.v undef))), (106, .p (.c (.v undef))), (107, .p (.c (.v undef))), (108, .p (.c (.v undef))), (109, .p (.c (.v undef))), (110, .p (.c (.v undef))), (111, .p (.c (.v undef))), (112, .p (.c (.v undef))), (113, aB false)], [(1, oX 32 [cI x0.1, cI x0.2.1, .ro (.int 3) x0.2.2.1, .ro s112 x0.2.2.2.1, .ro s218 x0.2.2.2.2.1, cI x0.2.2.2.2.2]), (6, oX 218 [cI (x0.2.2.2.2.1.getD i (0, [])).1, .ro s22 (x0.2.2.2.2.1.getD i (0, [])).2])]⟩ [Q__impl_Sink_decoderAt x0 (x0.2.2.2.2.1.getD i (0, [])).1] gamOK hT h (by kernel_rfl) ⟨(by exact hf0), trivial⟩ fun a w h => then_normal (wp_seq ?_)
         refine at_regq [] { ts := [1, 2, 77, 78, 79, 88, 89, 90, 91, 92, 93, 94, 95, 96, 97, 100, 101, 102, 103, 104, 105, 106, 107, 108, 109, 110, 111, 112, 113, 122], os := [1, 6] } [] gamOK hT h (by kernel_rfl) trivial fun a w h => then_normal ?_
         refine at_test ((D__impl_Sink_decoderAt x0 (x0.2.2.2.2.1.getD i (0, [])).1).2) h (by kernel_rfl) (fun h25 => ?_) (fun h25 => ?_)
         ·refine wp_seq ?_
          refine at_regq [] { ts := [1, 2, 77, 78, 79, 88, 89, 90, 91, 92, 93, 94, 95, 96, 97, 100, 101, 102, 103, 104, 105, 106, 107, 108, 109, 110, 111, 112, 113], os := [1, 6] } [] gamOK hT h (by kernel_rfl) trivial fun a w h => then_normal (wp_ret (in_ret (then_ret ?_)))
          have hs26 : (allN (fun j => genB x0 j && opnB x0 j) (List.length x0.2.2.2.2.1)) = false := by exact allN_at (i := i) (by omega) (by exact and_f (by first | (left; exact genB_f (by first | (left; assumption) | (right; left; assumption) | (right; right; omega))) | (right; exact opnB_f (by assumption))))
          refine then_ret (in_ret (then_ret ?_))
          exact at_return (S := S_impl_IsValidSink) (x := (x0, ())) (false, ()) [] h (by kernel_rfl) trivial (congrArg (fun z => (z, ())) (show (false) = validS x0 from by (first | (rw [← validS_impl (by assumption) (headS_y (by assumption) (by omega) (by assumption))]; symm; assumption) | exact validS_no (by first | (right; left; assumption) | (left; exact headS_n (by first | (left; assumption) | (right; left; omega) | (right; right; assumption)))))))
         ·refine wp_skip (in_normal (then_normal ?_))
          refine at_regq [{ nw := true }] { ts := [1, 2, 77, 78, 79, 88, 89, 90, 91, 92, 93, 94, 95, 96, 97, 100, 101, 102, 103, 104, 105, 106, 107, 108, 109, 110, 111, 112, 113], os := [1, 6] } [I64 (((i : Nat) : Int) + 1)] gamOK hT h (by kernel_rfl) ⟨⟨by first | omega | (simp only [lsA]; omega) | (simp <;> omega), by first | omega | (simp only [lsA]; omega) | (simp <;> omega)⟩, trivial⟩ fun a w h => ?_
          replace h := at_out (σ' := ⟨[(1, aP 1 0), (2, aB false), (77, aF s218 x0.2.2.2.2.1), (78, aI ((List.length x0.2.2.2.2.1 : Nat) : Int)), (79, aI (((i : Nat) : Int) + 1))], [(1, oX 32 [cI x0.1, cI x0.2.1, .ro (.int 3) x0.2.2.1, .ro s112 x0.2.2.2.1, .ro s218 x0.2.2.2.2.1, cI x0.2.2.2.2.2])]⟩) { ts := [1, 2, 77, 78, 79], os := [1] } h (by kernel_rfl)
          exact ⟨i + 1, at_eq h (st_congr1 (fun (d0 : Int) => (⟨[(1, aP 1 0), (2, aB false), (77, aF s218 x0.2.2.2.2.1), (78, aI ((List.length x0.2.2.2.2.1 : Nat) : Int)), (79, aI d0)], [(1, oX 32 [cI x0.1, cI x0.2.1, .ro (.int 3) x0.2.2.1, .ro s112 x0.2.2.2.1, .ro s218 x0.2.2.2.2.1, cI x0.2.2.2.2.2])]⟩ : St)) (show (((i : Nat) : Int) + 1 : Int) = (((i + 1) : Nat) : Int) from by first | with_reducible rfl | (omega) | rfl)), (by exact ⟨by omega, allN_succ hok1.2 (by exact and_t (genB_t (by assumption) (by assumption) (by omega)) (opnB_t (by assumption)))⟩), (by omega)⟩
     ·replace h15 : ¬ (((i : Nat) : Int) < ((List.length x0.2.2.2.2.1 : Nat) : Int)) := of_decide_eq_false h15
      refine wp_exit (then_exit ?_)
      have hs27 : (allN (fun j => genB x0 j && opnB x0 j) (List.length x0.2.2.2.2.1)) = true := by exact allN_eq (by omega) hok1.1 hok1.2
      refine then_exit (in_hit (then_normal (wp_seq ?_)))
      refine at_regq [] { ts := [2], os := [] } [] gamOK hT h (by kernel_rfl) trivial fun a w h => then_normal (wp_ret ?_)
      exact at_return (S := S_impl_IsValidSink) (x := (x0, ())) (true, ()) [] h (by kernel_rfl) trivial (congrArg (fun z => (z, ())) (show (true) = validS x0 from by (first | (rw [← validS_impl (by assumption) (headS_y (by assumption) (by omega) (by assumption))]; symm; assumption) | exact validS_no (by first | (right; left; assumption) | (left; exact headS_n (by first | (left; assumption) | (right; left; omega) | (right; right; assumption)))))))

abbrev Q_spec_IsValidSink := (fun (x0 : T32) => Sh.fit s32 x0)
def S_spec_IsValidSink : Sum := { fid := 83, dom := [s32], cod := [(.bool 4)], dp := true, fz := false, pre := fun x => Q_spec_IsValidSink x.1, g := fun x => ((validS x.1), ()) }
def S_spec_IsValidSink_tab : List (Nat × Sum) := [(103, S_spec_l1In), (179, S_spec_l30Sizes), (141, S_spec_IsValidDecoder), (180, S_spec_IsComplete), (181, S_spec_l30Fits), (104, S_spec_l30Done), (172, S_spec_IsValidGeneration), (173, S_spec_ColumnsOf)]
theorem S_spec_IsValidSink_ok : FnOK Try.prog 83 S_spec_IsValidSink := by
 refine at_enter 134 (fun x => ⟨[(0, aG [cI x.1.1, cI x.1.2.1, .ro (.int 3) x.1.2.2.1, .ro s112 x.1.2.2.2.1, .ro s218 x.1.2.2.2.2.1, cI x.1.2.2.2.2.2])], []⟩) Try.func83 rfl (by kernel_rfl) (fun x => rfl) ?_
 rintro w0 Z0 ⟨x0, u⟩ a w
 revert x0
 intro (x0 : T32) hpre hlens h
 replace h : At w0 Z0 [] 134 ⟨[(0, aG [cI x0.1, cI x0.2.1, .ro (.int 3) x0.2.2.1, .ro s112 x0.2.2.2.1, .ro s218 x0.2.2.2.2.1, cI x0.2.2.2.2.2])], []⟩ a w := h
 replace hpre : Q_spec_IsValidSink x0 := hpre
 have hl1 : List.length x0.2.2.1 ≤ 9223372036854775807 := hlens.1.2.2.1.1
 have hl2 : List.length x0.2.2.2.1 ≤ 9223372036854775807 := hlens.1.2.2.2.1.1
 have hl3 : List.length x0.2.2.2.2.1 ≤ 9223372036854775807 := hlens.1.2.2.2.2.1.1
 have hT : TabOK Try.prog S_spec_IsValidSink_tab := (.cons S_spec_l1In_ok (.cons S_spec_l30Sizes_ok (.cons S_spec_IsValidDecoder_ok (.cons S_spec_IsComplete_ok (.cons S_spec_l30Fits_ok (.cons S_spec_l30Done_ok (.cons S_spec_IsValidGeneration_ok (.cons S_spec_ColumnsOf_ok .nil))))))))
 have hf0 : Sh.fit s32 x0 := hpre
 have hn0_1 : List.length x0.2.2.1 ≤ 1073741824 := hf0.2.2.1.1
 have hn0_2 : List.length x0.2.2.2.1 ≤ 1073741824 := hf0.2.2.2.1.1
 have hn0_3 : List.length x0.2.2.2.2.1 ≤ 1073741824 := hf0.2.2.2.2.1.1
 refine wp_seq ?_
 refine at_regq [{ ids := [1] }] { ts := [1, 2], os := [1] } [] gamOK hT h (by kernel_rfl) trivial fun a w h => then_normal (wp_seq (wp_seq ?_))
 rcases Bool.eq_false_or_eq_true (!(inR x0.1 0 7)) with h1 | h1
 ·have hzh1 : (inR x0.1 0 7) = false := notT h1
  have hvh1 := inR_f (notT h1)
  refine at_regq [{}, {}, {}, { hint := some (aB true) }] { ts := [1, 2, 37], os := [1] } [True, (AV.p (.c (.v (.bool (!(inR x0.1 0 7))))) = AV.p (.c (.v (.bool true))))] gamOK hT h (by kernel_rfl) ⟨trivial, hint_bool (h1), trivial⟩ fun a w h => then_normal ?_
  refine at_test true h (by kernel_rfl) (fun hh => ?_) (fun hh => nomatch hh)
  refine wp_seq ?_
  refine at_regq [] { ts := [1, 2], os := [1] } [] gamOK hT h (by kernel_rfl) trivial fun a w h => then_normal (wp_ret (then_ret ?_))
  exact at_return (S := S_spec_IsValidSink) (x := (x0, ())) (false, ()) [] h (by kernel_rfl) trivial (congrArg (fun z => (z, ())) (show (false) = validS x0 from by (first | (rw [← validS_spec (by assumption) (headS_y2 (by assumption) (by assumption) (by assumption) (by omega) (by assumption))]; symm; assumption) | exact validS_no (by first | (right; right; assumption) | (left; exact headS_n2 (by first | (left; assumption) | (right; left; assumption) | (right; right; left; assumption) | (right; right; right; left; omega) | (right; right; right; right; assumption)))))))
 ·have hzh1 : (inR x0.1 0 7) = true := notF h1
  have hvh1 := inR_t (notF h1)
  rcases Bool.eq_false_or_eq_true (!(inR x0.2.1 1 16)) with h2 | h2
  ·have hzh2 : (inR x0.2.1 1 16) = false := notT h2
   have hvh2 := inR_f (notT h2)
   refine at_regq [{}, {}, {}, { hint := some (aB false) }, {}, {}, {}, {}, { hint := some (aB true) }] { ts := [1, 2, 37], os := [1] } [True, (AV.p (.c (.v (.bool (!(inR x0.1 0 7))))) = AV.p (.c (.v (.bool false)))), True, (AV.p (.c (.v (.bool (!(inR x0.2.1 1 16))))) = AV.p (.c (.v (.bool true))))] gamOK hT h (by kernel_rfl) ⟨trivial, hint_bool (h1), trivial, hint_bool (h2), trivial⟩ fun a w h => then_normal ?_
   refine at_test true h (by kernel_rfl) (fun hh => ?_) (fun hh => nomatch hh)
   refine wp_seq ?_
   refine at_regq [] { ts := [1, 2], os := [1] } [] gamOK hT h (by kernel_rfl) trivial fun a w h => then_normal (wp_ret (then_ret ?_))
   exact at_return (S := S_spec_IsValidSink) (x := (x0, ())) (false, ()) [] h (by kernel_rfl) trivial (congrArg (fun z => (z, ())) (show (false) = validS x0 from by (first | (rw [← validS_spec (by assumption) (headS_y2 (by assumption) (by assumption) (by assumption) (by omega) (by assumption))]; symm; assumption) | exact validS_no (by first | (right; right; assumption) | (left; exact headS_n2 (by first | (left; assumption) | (right; left; assumption) | (right; right; left; assumption) | (right; right; right; left; omega) | (right; right; right; right; assumption)))))))
  ·have hzh2 : (inR x0.2.1 1 16) = true := notF h2
   have hvh2 := inR_t (notF h2)
   rcases Bool.eq_false_or_eq_true (!(D_spec_l30Sizes x0.2.2.1)) with h3 | h3
   ·have hzh3 : (D_spec_l30Sizes x0.2.2.1) = false := notT h3
    refine at_regq [{}, {}, {}, { hint := some (aB false) }, {}, {}, {}, {}, { hint := some (aB false) }, {}, {}, {}, {}, {}, { hint := some (aB true) }] { ts := [1, 2, 37], os := [1] } [True, (AV.p (.c (.v (.bool (!(inR x0.1 0 7))))) = AV.p (.c (.v (.bool false)))), True, (AV.p (.c (.v (.bool (!(inR x0.2.1 1 16))))) = AV.p (.c (.v (.bool false)))), True, (AV.p (.c (.v (.bool (!(D_spec_l30Sizes x0.2.2.1))))) = AV.p (.c (.v (.bool true))))] gamOK hT h (by kernel_rfl) ⟨trivial, hint_bool (h1), trivial, hint_bool (h2), trivial, hint_bool (h3), trivial⟩ fun a w h => then_normal ?_
    refine at_test true h (by kernel_rfl) (fun hh => ?_) (fun hh => nomatch hh)
    refine wp_seq ?_
    refine at_regq [] { ts := [1, 2], os := [1] } [] gamOK hT h (by kernel_rfl) trivial fun a w h => then_normal (wp_ret (then_ret ?_))
    exact at_return (S := S_spec_IsValidSink) (x := (x0, ())) (false, ()) [] h (by kernel_rfl) trivial (congrArg (fun z => (z, ())) (show (false) = validS x0 from by (first | (rw [← validS_spec (by assumption) (headS_y2 (by assumption) (by assumption) (by assumption) (by omega) (by assumption))]; symm; assumption) | exact validS_no (by first | (right; right; assumption) | (left; exact headS_n2 (by first | (left; assumption) | (right; left; assumption) | (right; right; left; assumption) | (right; right; right; left; omega) | (right; right; right; right; assumption)))))))
   ·have hzh3 : (D_spec_l30Sizes x0.2.2.1) = true := notF h3
    by_cases h4 : ((List.length x0.2.2.2.1 : Nat) : Int) > 4
    ·refine at_regq [{}, {}, {}, { hint := some (aB false) }, {}, {}, {}, {}, { hint := some (aB false) }, {}, {}, {}, {}, {}, { hint := some (aB false) }, {}, {}, {}, {}, {}, { hint := some (aB true) }] { ts := [1, 2, 37], os := [1] } [True, (AV.p (.c (.v (.bool (!(inR x0.1 0 7))))) = AV.p (.c (.v (.bool false)))), True, (AV.p (.c (.v (.bool (!(inR x0.2.1 1 16))))) = AV.p (.c (.v (.bool false)))), True, (AV.p (.c (.v (.bool (!(D_spec_l30Sizes x0.2.2.1))))) = AV.p (.c (.v (.bool false)))), (AV.p (.c (.v (.bool (decide (((List.length x0.2.2.2.1 : Nat) : Int) > 4))))) = AV.p (.c (.v (.bool true))))] gamOK hT h (by kernel_rfl) ⟨trivial, hint_bool (h1), trivial, hint_bool (h2), trivial, hint_bool (h3), hint_bool (decide_eq_true h4), trivial⟩ fun a w h => then_normal ?_
     refine at_test true h (by kernel_rfl) (fun hh => ?_) (fun hh => nomatch hh)
     refine wp_seq ?_
     refine at_regq [] { ts := [1, 2], os := [1] } [] gamOK hT h (by kernel_rfl) trivial fun a w h => then_normal (wp_ret (then_ret ?_))
     exact at_return (S := S_spec_IsValidSink) (x := (x0, ())) (false, ()) [] h (by kernel_rfl) trivial (congrArg (fun z => (z, ())) (show (false) = validS x0 from by (first | (rw [← validS_spec (by assumption) (headS_y2 (by assumption) (by assumption) (by assumption) (by omega) (by assumption))]; symm; assumption) | exact validS_no (by first | (right; right; assumption) | (left; exact headS_n2 (by first | (left; assumption) | (right; left; assumption) | (right; right; left; assumption) | (right; right; right; left; omega) | (right; right; right; right; assumption)))))))
    ·refine at_regq [{}, {}, {}, { hint := some (aB false) }, {}, {}, {}, {}, { hint := some (aB false) }, {}, {}, {}, {}, {}, { hint := some (aB false) }, {}, {}, {}, {}, {}, { hint := some (aB false) }] { ts := [1, 2, 37], os := [1] } [True, (AV.p (.c (.v (.bool (!(inR x0.1 0 7))))) = AV.p (.c (.v (.bool false)))), True, (AV.p (.c (.v (.bool (!(inR x0.2.1 1 16))))) = AV.p (.c (.v (.bool false)))), True, (AV.p (.c (.v (.bool (!(D_spec_l30Sizes x0.2.2.1))))) = AV.p (.c (.v (.bool false)))), (AV.p (.c (.v (.bool (decide (((List.length x0.2.2.2.1 : Nat) : Int) > 4))))) = AV.p (.c (.v (.bool false)))), True] gamOK hT h (by kernel_rfl) ⟨trivial, hint_bool (h1), trivial, hint_bool (h2), trivial, hint_bool (h3), hint_bool (decide_eq_false h4), trivial, trivial⟩ fun a w h => then_normal ?_
     refine at_test (!(inR x0.2.2.2.2.2 0 ((List.length x0.2.2.2.2.1 : Nat) : Int))) h (by kernel_rfl) (fun h5 => ?_) (fun h5 => ?_)
     ·replace h5 : (inR x0.2.2.2.2.2 0 ((List.length x0.2.2.2.2.1 : Nat) : Int)) = false := notT h5
      have hvh5 := inR_f h5
      refine wp_seq ?_
      refine at_regq [] { ts := [1, 2], os := [1] } [] gamOK hT h (by kernel_rfl) trivial fun a w h => then_normal (wp_ret (then_ret ?_))
      exact at_return (S := S_spec_IsValidSink) (x := (x0, ())) (false, ()) [] h (by kernel_rfl) trivial (congrArg (fun z => (z, ())) (show (false) = validS x0 from by (first | (rw [← validS_spec (by assumption) (headS_y2 (by assumption) (by assumption) (by assumption) (by omega) (by assumption))]; symm; assumption) | exact validS_no (by first | (right; right; assumption) | (left; exact headS_n2 (by first | (left; assumption) | (right; left; assumption) | (right; right; left; assumption) | (right; right; right; left; omega) | (right; right; right; right; assumption)))))))
     ·replace h5 : (inR x0.2.2.2.2.2 0 ((List.length x0.2.2.2.2.1 : Nat) : Int)) = true := notF h5
      have hvh5 := inR_t h5
      refine wp_skip (then_normal (wp_seq (wp_seq ?_)))
      refine at_regq [] { ts := [1, 2, 3], os := [1] } [] gamOK hT h (by kernel_rfl) trivial fun a w h => then_normal (wp_block ?_)
      replace h := at_out (σ' := ⟨[(1, aP 1 0), (2, aB false), (3, aI 0)], [(1, oX 32 [cI x0.1, cI x0.2.1, .ro (.int 3) x0.2.2.1, .ro s112 x0.2.2.2.1, .ro s218 x0.2.2.2.2.1, cI x0.2.2.2.2.2])]⟩) { ts := [1, 2, 3], os := [1] } h (by kernel_rfl)
      refine at_loop (fun i : Nat => (⟨[(1, aP 1 0), (2, aB false), (3, aI ((i : Nat) : Int))], [(1, oX 32 [cI x0.1, cI x0.2.1, .ro (.int 3) x0.2.2.1, .ro s112 x0.2.2.2.1, .ro s218 x0.2.2.2.2.1, cI x0.2.2.2.2.2])]⟩ : St)) (fun i => (i ≤ (List.length x0.2.2.2.1) ∧ allN (fun i => decB x0 i && clsB x0 i) i = true)) (fun i => (List.length x0.2.2.2.1) - i) (0) h (st_congr1 (fun (d0 : Int) => (⟨[(1, aP 1 0), (2, aB false), (3, aI d0)], [(1, oX 32 [cI x0.1, cI x0.2.1, .ro (.int 3) x0.2.2.1, .ro s112 x0.2.2.2.1, .ro s218 x0.2.2.2.2.1, cI x0.2.2.2.2.2])]⟩ : St)) (show (0 : Int) = (((0) : Nat) : Int) from by first | with_reducible rfl | (rfl) | rfl)) (by exact ⟨Nat.zero_le _, rfl⟩) ?_
      intro i a w hok0 h
      refine wp_seq (wp_seq ?_)
      refine at_regq [] { ts := [1, 2, 3, 42], os := [1] } [] gamOK hT h (by kernel_rfl) trivial fun a w h => then_normal ?_
      refine at_test (decide (((i : Nat) : Int) < ((List.length x0.2.2.2.1 : Nat) : Int))) h (by kernel_rfl) (fun h6 => ?_) (fun h6 => ?_)
      ·replace h6 : ((i : Nat) : Int) < ((List.length x0.2.2.2.1 : Nat) : Int) := of_decide_eq_true h6
       refine wp_skip (then_normal (wp_seq (wp_block (wp_seq ?_))))
       refine at_regq [{}, {}, {}, {}, {}, { ids := [2] }] { ts := [1, 2, 3, 4], os := [1, 2] } [(0 : Int) ≤ ((i : Nat) : Int) ∧ ((i : Nat) : Int) < ((List.length x0.2.2.2.1 : Nat) : Int)] gamOK hT h (by kernel_rfl) ⟨(by refine ⟨?_, ?_⟩ <;> (first | omega | (simp only [lsA]; omega) | (simp <;> omega))), trivial⟩ fun a w h => then_normal (wp_seq ?_)
       rcases Bool.eq_false_or_eq_true (!(validD (x0.2.2.2.1.getD i (0, (0, (0, (0, []))))))) with h7 | h7
       ·have hzh7 : (validD (x0.2.2.2.1.getD i (0, (0, (0, (0, [])))))) = false := notT h7
        refine at_anyq [{}, {}, { hint := some (aB true) }, {}, {}, {}, {}, {}, {}, {}, {}, {}, {}, {}, {}, {}, {}, {}, {}, {}, {}, {}, {}, {}, {}, {}, {}, {}, {}, {}, {}, {}, {}, {}, {}, {}, {}, {}, {}, {}] { ts := [1, 2, 3, 54, 55, 58, 59, 60, 61, 62, 63, 64, 65, 66, 69, 70, 71, 72, 73, 74, 75, 76, 77, 78, 79, 80, 81, 82, 85, 86, 87, 88, 89], os := [1] } [Q_spec_IsValidDecoder (x0.2.2.2.1.getD i (0, (0, (0, (0, []))))), (AV.p (.c (.v (.bool (!(validD (x0.2.2.2.1.getD i (0, (0, (0, (0, [])))))))))) = AV.p (.c (.v (.bool true))))] gamOK hT mixed h (by kernel_rfl) ⟨(by exact (Sh.fit_getD hf0.2.2.2.1 i)), hint_bool (h7), trivial⟩ fun a w h => then_normal ?_
        refine at_test true h (by kernel_rfl) (fun hh => ?_) (fun hh => nomatch hh)
        refine wp_seq ?_
        refine at_regq [] { ts := [1, 2, 3, 54, 55, 58, 59, 60, 61, 62, 63, 64, 65, 66, 69, 70, 71, 72, 73, 74, 75, 76, 77, 78, 79, 80, 81, 82, 85, 86, 87, 88], os := [1] } [] gamOK hT h (by kernel_rfl) trivial fun a w h => then_normal (wp_ret (in_ret (then_ret ?_)))
        have hs8 : (allN (fun i => decB x0 i && clsB x0 i) (List.length x0.2.2.2.1)) = false := by exact allN_at (i := i) (by omega) (by exact and_f (by first | (left; exact decB_f (by first | (left; assumption) | (right; left; simp_all [D_spec_IsComplete]; done) | (right; right; left; assumption) | (right; right; right; omega))) | (right; simp_all [clsB, D_spec_l30Done]; done)))
        refine then_ret (in_ret (then_ret ?_))
        exact at_return (S := S_spec_IsValidSink) (x := (x0, ())) (false, ()) [] h (by kernel_rfl) trivial (congrArg (fun z => (z, ())) (show (false) = validS x0 from by (first | (rw [← validS_spec (by assumption) (headS_y2 (by assumption) (by assumption) (by assumption) (by omega) (by assumption))]; symm; assumption) | exact validS_no (by first | (right; right; assumption) | (left; exact headS_n2 (by first | (left; assumption) | (right; left; assumption) | (right; right; left; assumption) | (right; right; right; left; omega) | (right; right; right; right; assumption)))))))
       ·have hzh7 : (validD (x0.2.2.2.1.getD i (0, (0, (0, (0, [])))))) = true := notF h7
        have hvh7 := validD_t (notF h7)
        rcases Bool.eq_false_or_eq_true ((D_spec_IsComplete (x0.2.2.2.1.getD i (0, (0, (0, (0, []))))))) with h9 | h9
        ·refine at_anyq [{}, {}, { hint := some (aB false) }, {}, {}, { hint := some (aB true) }, {}, {}, {}, {}, {}, {}, {}, {}, {}, {}, {}, {}, {}, {}, {}, {}, {}, {}, {}, {}, {}, {}, {}, {}, {}, {}, {}, {}, {}, {}, {}, {}, {}, {}] { ts := [1, 2, 3, 54, 55, 58, 59, 60, 61, 62, 63, 64, 65, 66, 69, 70, 71, 72, 73, 74, 75, 76, 77, 78, 79, 80, 81, 82, 85, 86, 87, 88, 89], os := [1] } [Q_spec_IsValidDecoder (x0.2.2.2.1.getD i (0, (0, (0, (0, []))))), (AV.p (.c (.v (.bool (!(validD (x0.2.2.2.1.getD i (0, (0, (0, (0, [])))))))))) = AV.p (.c (.v (.bool false)))), Q_spec_IsComplete (x0.2.2.2.1.getD i (0, (0, (0, (0, []))))), (AV.p (.c (.v (.bool ((D_spec_IsComplete (x0.2.2.2.1.getD i (0, (0, (0, (0, [])))))))))) = AV.p (.c (.v (.bool true))))] gamOK hT mixed h (by kernel_rfl) ⟨(by exact (Sh.fit_getD hf0.2.2.2.1 i)), hint_bool (h7), (by exact (Sh.fit_getD hf0.2.2.2.1 i)), hint_bool (h9), trivial⟩ fun a w h => then_normal ?_
         refine at_test true h (by kernel_rfl) (fun hh => ?_) (fun hh => nomatch hh)
         refine wp_seq ?_
         refine at_regq [] { ts := [1, 2, 3, 54, 55, 58, 59, 60, 61, 62, 63, 64, 65, 66, 69, 70, 71, 72, 73, 74, 75, 76, 77, 78, 79, 80, 81, 82, 85, 86, 87, 88], os := [1] } [] gamOK hT h (by kernel_rfl) trivial fun a w h => then_normal (wp_ret (in_ret (then_ret ?_)))
         have hs10 : (allN (fun i => decB x0 i && clsB x0 i) (List.length x0.2.2.2.1)) = false := by exact allN_at (i := i) (by omega) (by exact and_f (by first | (left; exact decB_f (by first | (left; assumption) | (right; left; simp_all [D_spec_IsComplete]; done) | (right; right; left; assumption) | (right; right; right; omega))) | (right; simp_all [clsB, D_spec_l30Done]; done)))
         refine then_ret (in_ret (then_ret ?_))
         exact at_return (S := S_spec_IsValidSink) (x := (x0, ())) (false, ()) [] h (by kernel_rfl) trivial (congrArg (fun z => (z, ())) (show (false) = validS x0 from by (first | (rw [← validS_spec (by assumption) (headS_y2 (by assumption) (by assumption) (by assumption) (by omega) (by assumption))]; symm; assumption) | exact validS_no (by first | (right; right; assumption) | (left; exact headS_n2 (by first | (left; assumption) | (right; left; assumption) | (right; right; left; assumption) | (right; right; right; left; omega) | (right; right; right; right; assumption)))))))
        ·rcases Bool.eq_false_or_eq_true (!(fitsS x0 (x0.2.2.2.1.getD i (0, (0, (0, (0, []))))).1 (x0.2.2.2.1.getD i (0, (0, (0, (0, []))))).2.1 (x0.2.2.2.1.getD i (0, (0, (0, (0, []))))).2.2.1)) with h11 | h11
         ·have hzh11 : (fitsS x0 (x0.2.2.2.1.getD i (0, (0, (0, (0, []))))).1 (x0.2.2.2.1.getD i (0, (0, (0, (0, []))))).2.1 (x0.2.2.2.1.getD i (0, (0, (0, (0, []))))).2.2.1) = false := notT h11
          refine at_anyq [{}, {}, { hint := some (aB false) }, {}, {}, { hint := some (aB false) }, {}, {}, {}, {}, {}, {}, {}, {}, {}, {}, { hint := some (aB true) }, {}, {}, {}, {}, {}, {}, {}, {}, {}, {}, {}, {}, {}, {}, {}, {}, {}, {}, {}, {}, {}, {}, {}] { ts := [1, 2, 3, 54, 55, 58, 59, 60, 61, 62, 63, 64, 65, 66, 69, 70, 71, 72, 73, 74, 75, 76, 77, 78, 79, 80, 81, 82, 85, 86, 87, 88, 89], os := [1, 2] } [Q_spec_IsValidDecoder (x0.2.2.2.1.getD i (0, (0, (0, (0, []))))), (AV.p (.c (.v (.bool (!(validD (x0.2.2.2.1.getD i (0, (0, (0, (0, [])))))))))) = AV.p (.c (.v (.bool false)))), Q_spec_IsComplete (x0.2.2.2.1.getD i (0, (0, (0, (0, []))))), (AV.p (.c (.v (.bool ((D_spec_IsComplete (x0.2.2.2.1.getD i (0, (0, (0, (0, [])))))))))) = AV.p (.c (.v (.bool false)))), Q_spec_l30Fits x0 (x0.2.2.2.1.getD i (0, (0, (0, (0, []))))).1 (x0.2.2.2.1.getD i (0, (0, (0, (0, []))))).2.1 (x0.2.2.2.1.getD i (0, (0, (0, (0, []))))).2.2.1, (AV.p (.c (.v (.bool (!(fitsS x0 (x0.2.2.2.1.getD i (0, (0, (0, (0, []))))).1 (x0.2.2.2.1.getD i (0, (0, (0, (0, []))))).2.1 (x0.2.2.2.1.getD i (0, (0, (0, (0, []))))).2.2.1))))) = AV.p (.c (.v (.bool true))))] gamOK hT mixed h (by kernel_rfl) ⟨(by exact (Sh.fit_getD hf0.2.2.2.1 i)), hint_bool (h7), (by exact (Sh.fit_getD hf0.2.2.2.1 i)), hint_bool (h9), (by exact hf0), hint_bool (h11), trivial⟩ fun a w h => then_normal ?_
          refine at_test true h (by kernel_rfl) (fun hh => ?_) (fun hh => nomatch hh)
          refine wp_seq ?_
          refine at_regq [] { ts := [1, 2, 3, 54, 55, 58, 59, 60, 61, 62, 63, 64, 65, 66, 69, 70, 71, 72, 73, 74, 75, 76, 77, 78, 79, 80, 81, 82, 85, 86, 87, 88], os := [1, 2] } [] gamOK hT h (by kernel_rfl) trivial fun a w h => then_normal (wp_ret (in_ret (then_ret ?_)))
          have hs12 : (allN (fun i => decB x0 i && clsB x0 i) (List.length x0.2.2.2.1)) = false := by exact allN_at (i := i) (by omega) (by exact and_f (by first | (left; exact decB_f (by first | (left; assumption) | (right; left; simp_all [D_spec_IsComplete]; done) | (right; right; left; assumption) | (right; right; right; omega))) | (right; simp_all [clsB, D_spec_l30Done]; done)))
          refine then_ret (in_ret (then_ret ?_))
          exact at_return (S := S_spec_IsValidSink) (x := (x0, ())) (false, ()) [] h (by kernel_rfl) trivial (congrArg (fun z => (z, ())) (show (false) = validS x0 from by (first | (rw [← validS_spec (by assumption) (headS_y2 (by assumption) (by assumption) (by assumption) (by omega) (by assumption))]; symm; assumption) | exact validS_no (by first | (right; right; assumption) | (left; exact headS_n2 (by first | (left; assumption) | (right; left; assumption) | (right; right; left; assumption) | (right; right; right; left; omega) | (right; right; right; right; assumption)))))))
         ·have hzh11 : (fitsS x0 (x0.2.2.2.1.getD i (0, (0, (0, (0, []))))).1 (x0.2.2.2.1.getD i (0, (0, (0, (0, []))))).2.1 (x0.2.2.2.1.getD i (0, (0, (0, (0, []))))).2.2.1) = true := notF h11
          by_cases h13 : ((i : Nat) : Int) > 0
          ·by_cases h14 : (x0.2.2.2.1.getD ((((i : Nat) : Int) - 1).toNat) (0, (0, (0, (0, []))))).1 ≥ (x0.2.2.2.1.getD i (0, (0, (0, (0, []))))).1
           ·refine at_anyq [{}, {}, { hint := some (aB false) }, {}, {}, { hint := some (aB false) }, {}, {}, {}, {}, {}, {}, {}, {}, {}, {}, { hint := some (aB false) }, {}, {}, {}, { hint := some (aB true) }, {}, {}, {}, {}, { nw := true }, {}, {}, {}, {}, {}, { hint := some (aB true) }, {}, {}, {}, {}, {}, {}, {}, {}] { ts := [1, 2, 3, 54, 55, 58, 59, 60, 61, 62, 63, 64, 65, 66, 69, 70, 71, 72, 73, 74, 75, 76, 77, 78, 79, 80, 81, 82, 85, 86, 87, 88, 89], os := [1, 2] } [Q_spec_IsValidDecoder (x0.2.2.2.1.getD i (0, (0, (0, (0, []))))), (AV.p (.c (.v (.bool (!(validD (x0.2.2.2.1.getD i (0, (0, (0, (0, [])))))))))) = AV.p (.c (.v (.bool false)))), Q_spec_IsComplete (x0.2.2.2.1.getD i (0, (0, (0, (0, []))))), (AV.p (.c (.v (.bool ((D_spec_IsComplete (x0.2.2.2.1.getD i (0, (0, (0, (0, [])))))))))) = AV.p (.c (.v (.bool false)))), Q_spec_l30Fits x0 (x0.2.2.2.1.getD i (0, (0, (0, (0, []))))).1 (x0.2.2.2.1.getD i (0, (0, (0, (0, []))))).2.1 (x0.2.2.2.1.getD i (0, (0, (0, (0, []))))).2.2.1, (AV.p (.c (.v (.bool (!(fitsS x0 (x0.2.2.2.1.getD i (0, (0, (0, (0, []))))).1 (x0.2.2.2.1.getD i (0, (0, (0, (0, []))))).2.1 (x0.2.2.2.1.getD i (0, (0, (0, (0, []))))).2.2.1))))) = AV.p (.c (.v (.bool false)))), (AV.p (.c (.v (.bool (decide (((i : Nat) : Int) > 0))))) = AV.p (.c (.v (.bool true)))), I64 (((i : Nat) : Int) - 1), (0 : Int) ≤ ((i : Nat) : Int) - 1 ∧ ((i : Nat) : Int) - 1 < ((List.length x0.2.2.2.1 : Nat) : Int), (AV.p (.c (.v (.bool (decide ((x0.2.2.2.1.getD ((((i : Nat) : Int) - 1).toNat) (0, (0, (0, (0, []))))).1 ≥ (x0.2.2.2.1.getD i (0, (0, (0, (0, []))))).1))))) = AV.p (.c (.v (.bool true))))] gamOK hT mixed h (by kernel_rfl) ⟨(by exact (Sh.fit_getD hf0.2.2.2.1 i)), hint_bool (h7), (by exact (Sh.fit_getD hf0.2.2.2.1 i)), hint_bool (h9), (by exact hf0), hint_bool (h11), hint_bool (decide_eq_true h13), ⟨by first | omega | (simp only [lsA]; omega) | (simp <;> omega), by first | omega | (simp only [lsA]; omega) | (simp <;> omega)⟩, (by refine ⟨?_, ?_⟩ <;> (first | omega | (simp only [lsA]; omega) | (simp <;> omega))), hint_bool (decide_eq_true h14), trivial⟩ fun a w h => then_normal ?_
            refine at_test true h (by kernel_rfl) (fun hh => ?_) (fun hh => nomatch hh)
            refine wp_seq ?_
            refine at_regq [] { ts := [1, 2, 3, 54, 55, 58, 59, 60, 61, 62, 63, 64, 65, 66, 69, 70, 71, 72, 73, 74, 75, 76, 77, 78, 79, 80, 81, 82, 85, 86, 87, 88], os := [1, 2] } [] gamOK hT h (by kernel_rfl) trivial fun a w h => then_normal (wp_ret (in_ret (then_ret ?_)))
            have hs15 : (allN (fun i => decB x0 i && clsB x0 i) (List.length x0.2.2.2.1)) = false := by exact allN_at (i := i) (by omega) (by exact and_f (by first | (left; exact decB_f (by first | (left; assumption) | (right; left; simp_all [D_spec_IsComplete]; done) | (right; right; left; assumption) | (right; right; right; omega))) | (right; simp_all [clsB, D_spec_l30Done]; done)))
            refine then_ret (in_ret (then_ret ?_))
            exact at_return (S := S_spec_IsValidSink) (x := (x0, ())) (false, ()) [] h (by kernel_rfl) trivial (congrArg (fun z => (z, ())) (show (false) = validS x0 from by (first | (rw [← validS_spec (by assumption) (headS_y2 (by assumption) (by assumption) (by assumption) (by omega) (by assumption))]; symm; assumption) | exact validS_no (by first | (right; right; assumption) | (left; exact headS_n2 (by first | (left; assumption) | (right; left; assumption) | (right; right; left; assumption) | (right; right; right; left; omega) | (right; right; right; right; assumption)))))))
           ·refine at_anyq [{}, {}, { hint := some (aB false) }, {}, {}, { hint := some (aB false) }, {}, {}, {}, {}, {}, {}, {}, {}, {}, {}, { hint := some (aB false) }, {}, {}, {}, { hint := some (aB true) }, {}, {}, {}, {}, { nw := true }, {}, {}, {}, {}, {}, { hint := some (aB false) }, {}, {}, {}, {}, {}, {}, {}, {}] { ts := [1, 2, 3, 54, 55, 58, 59, 60, 61, 62, 63, 64, 65, 66, 69, 70, 71, 72, 73, 74, 75, 76, 77, 78, 79, 80, 81, 82, 85, 86, 87, 88, 89], os := [1, 2] } [Q_spec_IsValidDecoder (x0.2.2.2.1.getD i (0, (0, (0, (0, []))))), (AV.p (.c (.v (.bool (!(validD (x0.2.2.2.1.getD i (0, (0, (0, (0, [])))))))))) = AV.p (.c (.v (.bool false)))), Q_spec_IsComplete (x0.2.2.2.1.getD i (0, (0, (0, (0, []))))), (AV.p (.c (.v (.bool ((D_spec_IsComplete (x0.2.2.2.1.getD i (0, (0, (0, (0, [])))))))))) = AV.p (.c (.v (.bool false)))), Q_spec_l30Fits x0 (x0.2.2.2.1.getD i (0, (0, (0, (0, []))))).1 (x0.2.2.2.1.getD i (0, (0, (0, (0, []))))).2.1 (x0.2.2.2.1.getD i (0, (0, (0, (0, []))))).2.2.1, (AV.p (.c (.v (.bool (!(fitsS x0 (x0.2.2.2.1.getD i (0, (0, (0, (0, []))))).1 (x0.2.2.2.1.getD i (0, (0, (0, (0, []))))).2.1 (x0.2.2.2.1.getD i (0, (0, (0, (0, []))))).2.2.1))))) = AV.p (.c (.v (.bool false)))), (AV.p (.c (.v (.bool (decide (((i : Nat) : Int) > 0))))) = AV.p (.c (.v (.bool true)))), I64 (((i : Nat) : Int) - 1), (0 : Int) ≤ ((i : Nat) : Int) - 1 ∧ ((i : Nat) : Int) - 1 < ((List.length x0.2.2.2.1 : Nat) : Int), (AV.p (.c (.v (.bool (decide ((x0.2.2.2.1.getD ((((i : Nat) : Int) - 1).toNat) (0, (0, (0, (0, []))))).1 ≥ (x0.2.2.2.1.getD i (0, (0, (0, (0, []))))).1))))) = AV.p (.c (.v (.bool false)))), Q_spec_l30Done x0 (x0.2.2.2.1.getD i (0, (0, (0, (0, []))))).1] gamOK hT mixed h (by kernel_rfl) ⟨(by exact (Sh.fit_getD hf0.2.2.2.1 i)), hint_bool (h7), (by exact (Sh.fit_getD hf0.2.2.2.1 i)), hint_bool (h9), (by exact hf0), hint_bool (h11), hint_bool (decide_eq_true h13), ⟨by first | omega | (simp only [lsA]; omega) | (simp <;> omega), by first | omega | (simp only [lsA]; omega) | (simp <;> omega)⟩, (by refine ⟨?_, ?_⟩ <;> (first | omega | (simp only [lsA]; omega) | (simp <;> omega))), hint_bool (decide_eq_false h14), (by exact hf0), trivial⟩ fun a w h => then_normal ?_
            refine at_test ((D_spec_l30Done x0 (x0.2.2.2.1.getD i (0, (0, (0, (0, []))))).1)) h (by kernel_rfl) (fun h16 => ?_) (fun h16 => ?_)
            ·refine wp_seq ?_
             refine at_regq [] { ts := [1, 2, 3, 54, 55, 58, 59, 60, 61, 62, 63, 64, 65, 66, 69, 70, 71, 72, 73, 74, 75, 76, 77, 78, 79, 80, 81, 82, 85, 86, 87, 88], os := [1, 2] } [] gamOK hT h (by kernel_rfl) trivial fun a w h => then_normal (wp_ret (in_ret (then_ret ?_)))
             have hs17 : (allN (fun i => decB x0 i && clsB x0 i) (List.length x0.2.2.2.1)) = false := by exact allN_at (i := i) (by omega) (by exact and_f (by first | (left; exact decB_f (by first | (left; assumption) | (right; left; simp_all [D_spec_IsComplete]; done) | (right; right; left; assumption) | (right; right; right; omega))) | (right; simp_all [clsB, D_spec_l30Done]; done)))
             refine then_ret (in_ret (then_ret ?_))
             exact at_return (S := S_spec_IsValidSink) (x := (x0, ())) (false, ()) [] h (by kernel_rfl) trivial (congrArg (fun z => (z, ())) (show (false) = validS x0 from by (first | (rw [← validS_spec (by assumption) (headS_y2 (by assumption) (by assumption) (by assumption) (by omega) (by assumption))]; symm; assumption) | exact validS_no (by first | (right; right; assumption) | (left; exact headS_n2 (by first | (left; assumption) | (right; left; assumption) | (right; right; left; assumption) | (right; right; right; left; omega) | (right; right; right; right; assumption)))))))
            ·refine wp_skip (in_normal (then_normal ?_))
             refine at_regq [{}, { nw := true }] { ts := [1, 2, 3, 54, 55, 58, 59, 60, 61, 62, 63, 64, 65, 66, 69, 70, 71, 72, 73, 74, 75, 76, 77, 78, 79, 80, 81, 82, 85, 86, 87, 88], os := [1, 2] } [I64 (((i : Nat) : Int) + 1)] gamOK hT h (by kernel_rfl) ⟨⟨by first | omega | (simp only [lsA]; omega) | (simp <;> omega), by first | omega | (simp only [lsA]; omega) | (simp <;> omega)⟩, trivial⟩ fun a w h => ?_
             replace h := at_out (σ' := ⟨[(1, aP 1 0), (2, aB false), (3, aI (((i : Nat) : Int) + 1))], [(1, oX 32 [cI x0.1, cI x0.2.1, .ro (.int 3) x0.2.2.1, .ro s112 x0.2.2.2.1, .ro s218 x0.2.2.2.2.1, cI x0.2.2.2.2.2])]⟩) { ts := [1, 2, 3], os := [1] } h (by kernel_rfl)
             exact ⟨i + 1, at_eq h (st_congr1 (fun (d0 : Int) => (⟨[(1, aP 1 0), (2, aB false), (3, aI d0)], [(1, oX 32 [cI x0.1, cI x0.2.1, .ro (.int 3) x0.2.2.1, .ro s112 x0.2.2.2.1, .ro s218 x0.2.2.2.2.1, cI x0.2.2.2.2.2])]⟩ : St)) (show (((i : Nat) : Int) + 1 : Int) = (((i + 1) : Nat) : Int) from by first | with_reducible rfl | (omega) | rfl)), (by exact ⟨by omega, allN_succ hok0.2 (by exact and_t (decB_t (by assumption) (isC_f (by assumption) (by assumption)) (by assumption) (by omega)) (clsB_t (by assumption)))⟩), (by omega)⟩
          ·refine at_anyq [{}, {}, { hint := some (aB false) }, {}, {}, { hint := some (aB false) }, {}, {}, {}, {}, {}, {}, {}, {}, {}, {}, { hint := some (aB false) }, {}, {}, {}, { hint := some (aB false) }, {}, {}, {}, {}, {}, {}, {}, {}, {}, {}, {}, {}, {}, {}, {}, {}, {}, {}, {}] { ts := [1, 2, 3, 54, 55, 58, 59, 60, 61, 62, 63, 64, 65, 66, 69, 70, 71, 72, 73, 74, 75, 76, 77, 78, 79, 80, 81, 82, 85, 86, 87, 88, 89], os := [1, 2] } [Q_spec_IsValidDecoder (x0.2.2.2.1.getD i (0, (0, (0, (0, []))))), (AV.p (.c (.v (.bool (!(validD (x0.2.2.2.1.getD i (0, (0, (0, (0, [])))))))))) = AV.p (.c (.v (.bool false)))), Q_spec_IsComplete (x0.2.2.2.1.getD i (0, (0, (0, (0, []))))), (AV.p (.c (.v (.bool ((D_spec_IsComplete (x0.2.2.2.1.getD i (0, (0, (0, (0, [])))))))))) = AV.p (.c (.v (.bool false)))), Q_spec_l30Fits x0 (x0.2.2.2.1.getD i (0, (0, (0, (0, []))))).1 (x0.2.2.2.1.getD i (0, (0, (0, (0, []))))).2.1 (x0.2.2.2.1.getD i (0, (0, (0, (0, []))))).2.2.1, (AV.p (.c (.v (.bool (!(fitsS x0 (x0.2.2.2.1.getD i (0, (0, (0, (0, []))))).1 (x0.2.2.2.1.getD i (0, (0, (0, (0, []))))).2.1 (x0.2.2.2.1.getD i (0, (0, (0, (0, []))))).2.2.1))))) = AV.p (.c (.v (.bool false)))), (AV.p (.c (.v (.bool (decide (((i : Nat) : Int) > 0))))) = AV.p (.c (.v (.bool false)))), Q_spec_l30Done x0 (x0.2.2.2.1.getD i (0, (0, (0, (0, []))))).1] gamOK hT mixed h (by kernel_rfl) ⟨(by exact (Sh.fit_getD hf0.2.2.2.1 i)), hint_bool (h7), (by exact (Sh.fit_getD hf0.2.2.2.1 i)), hint_bool (h9), (by exact hf0), hint_bool (h11), hint_bool (decide_eq_false h13), (by exact hf0), trivial⟩ fun a w h => then_normal ?_
           refine at_test ((D_spec_l30Done x0 (x0.2.2.2.1.getD i (0, (0, (0, (0, []))))).1)) h (by kernel_rfl) (fun h18 => ?_) (fun h18 => ?_)
           ·refine wp_seq ?_
            refine at_regq [] { ts := [1, 2, 3, 54, 55, 58, 59, 60, 61, 62, 63, 64, 65, 66, 69, 70, 71, 72, 73, 74, 75, 76, 77, 78, 79, 80, 81, 82, 85, 86, 87, 88], os := [1, 2] } [] gamOK hT h (by kernel_rfl) trivial fun a w h => then_normal (wp_ret (in_ret (then_ret ?_)))
            have hs19 : (allN (fun i => decB x0 i && clsB x0 i) (List.length x0.2.2.2.1)) = false := by exact allN_at (i := i) (by omega) (by exact and_f (by first | (left; exact decB_f (by first | (left; assumption) | (right; left; simp_all [D_spec_IsComplete]; done) | (right; right; left; assumption) | (right; right; right; omega))) | (right; simp_all [clsB, D_spec_l30Done]; done)))
            refine then_ret (in_ret (then_ret ?_))
            exact at_return (S := S_spec_IsValidSink) (x := (x0, ())) (false, ()) [] h (by kernel_rfl) trivial (congrArg (fun z => (z, ())) (show (false) = validS x0 from by (first | (rw [← validS_spec (by assumption) (headS_y2 (by assumption) (by assumption) (by assumption) (by omega) (by assumption))]; symm; assumption) | exact validS_no (by first | (right; right; assumption) | (left; exact headS_n2 (by first | (left; assumption) | (right; left; assumption) | (right; right; left; assumption) | (right; right; right; left; omega) | (right; right; right; right; assumption)))))))
           ·refine wp_skip (in_normal (then_normal ?_))
            refine at_regq [{}, { nw := true }] { ts := [1, 2, 3, 54, 55, 58, 59, 60, 61, 62, 63, 64, 65, 66, 69, 70, 71, 72, 73, 74, 75, 76, 77, 78, 79, 80, 81, 82, 85, 86, 87, 88], os := [1, 2] } [I64 (((i : Nat) : Int) + 1)] gamOK hT h (by kernel_rfl) ⟨⟨by first | omega | (simp only [lsA]; omega) | (simp <;> omega), by first | omega | (simp only [lsA]; omega) | (simp <;> omega)⟩, trivial⟩ fun a w h => ?_
            replace h := at_out (σ' := ⟨[(1, aP 1 0), (2, aB false), (3, aI (((i : Nat) : Int) + 1))], [(1, oX 32 [cI x0.1, cI x0.2.1, .ro (.int 3) x0.2.2.1, .ro s112 x0.2.2.2.1, .ro s218 x0.2.2.2.2.1, cI x0.2.2.2.2.2])]⟩) { ts := [1, 2, 3], os := [1] } h (by kernel_rfl)
            exact ⟨i + 1, at_eq h (st_congr1 (fun (d0 : Int) => (⟨[(1, aP 1 0), (2, aB false), (3, aI d0)], [(1, oX 32 [cI x0.1, cI x0.2.1, .ro (.int 3) x0.2.2.1, .ro s112 x0.2.2.2.1, .ro s218 x0.2.2.2.2.1, cI x0.2.2.2.2.2])]⟩ : St)) (show (((i : Nat) : Int) + 1 : Int) = (((i + 1) : Nat) : Int) from by first | with_reducible rfl | (omega) | rfl)), (by exact ⟨by omega, allN_succ hok0.2 (by exact and_t (decB_t (by assumption) (isC_f (by assumption) (by assumption)) (by assumption) (by omega)) (clsB_t (by assumption)))⟩), (by omega)⟩
      ·replace h6 : ¬ (((i : Nat) : Int) < ((List.length x0.2.2.2.1 : Nat) : Int)) := of_decide_eq_false h6
       refine wp_exit (then_exit ?_)
       have hs20 : (allN (fun i => decB x0 i && clsB x0 i) (List.length x0.2.2.2.1)) = true := by exact allN_eq (by omega) hok0.1 hok0.2
       refine then_exit (in_hit (then_normal (wp_seq (wp_seq ?_))))
       refine at_regq [] { ts := [1, 2, 5], os := [1] } [] gamOK hT h (by kernel_rfl) trivial fun a w h => then_normal (wp_block ?_)
       replace h := at_out (σ' := ⟨[(1, aP 1 0), (2, aB false), (5, aI 0)], [(1, oX 32 [cI x0.1, cI x0.2.1, .ro (.int 3) x0.2.2.1, .ro s112 x0.2.2.2.1, .ro s218 x0.2.2.2.2.1, cI x0.2.2.2.2.2])]⟩) { ts := [1, 2, 5], os := [1] } h (by kernel_rfl)
       refine at_loop (fun i : Nat => (⟨[(1, aP 1 0), (2, aB false), (5, aI ((i : Nat) : Int))], [(1, oX 32 [cI x0.1, cI x0.2.1, .ro (.int 3) x0.2.2.1, .ro s112 x0.2.2.2.1, .ro s218 x0.2.2.2.2.1, cI x0.2.2.2.2.2])]⟩ : St)) (fun i => (i ≤ (List.length x0.2.2.2.2.1) ∧ allN (genB x0) i = true)) (fun i => (List.length x0.2.2.2.2.1) - i) (0) h (st_congr1 (fun (d0 : Int) => (⟨[(1, aP 1 0), (2, aB false), (5, aI d0)], [(1, oX 32 [cI x0.1, cI x0.2.1, .ro (.int 3) x0.2.2.1, .ro s112 x0.2.2.2.1, .ro s218 x0.2.2.2.2.1, cI x0.2.2.2.2.2])]⟩ : St)) (show (0 : Int) = (((0) : Nat) : Int) from by first | with_reducible rfl | (rfl) | rfl)) (by exact ⟨Nat.zero_le _, rfl⟩) ?_
       intro i a w hok1 h
       refine wp_seq (wp_seq ?_)
       refine at_regq [] { ts := [1, 2, 5, 94], os := [1] } [] gamOK hT h (by kernel_rfl) trivial fun a w h => then_normal ?_
       refine at_test (decide (((i : Nat) : Int) < ((List.length x0.2.2.2.2.1 : Nat) : Int))) h (by kernel_rfl) (fun h21 => ?_) (fun h21 => ?_)
       ·replace h21 : ((i : Nat) : Int) < ((List.length x0.2.2.2.2.1 : Nat) : Int) := of_decide_eq_true h21
        refine wp_skip (then_normal (wp_seq (wp_block (wp_seq ?_))))
        refine at_regq [{}, {}, {}, {}, {}, { ids := [3] }] { ts := [1, 2, 5, 6], os := [1, 3] } [(0 : Int) ≤ ((i : Nat) : Int) ∧ ((i : Nat) : Int) < ((List.length x0.2.2.2.2.1 : Nat) : Int)] gamOK hT h (by kernel_rfl) ⟨(by refine ⟨?_, ?_⟩ <;> (first | omega | (simp only [lsA]; omega) | (simp <;> omega))), trivial⟩ fun a w h => then_normal (wp_seq ?_)
        rcases Bool.eq_false_or_eq_true (!(validG (x0.2.2.2.2.1.getD i (0, [])))) with h22 | h22
        ·have hzh22 : (validG (x0.2.2.2.2.1.getD i (0, []))) = false := notT h22
         refine at_anyq [{}, {}, { hint := some (aB true) }, {}, {}, {}, {}, {}, {}, {}, {}, {}, {}, {}, {}, {}, {}, {}, {}, {}, {}, {}, {}, {}, {}, {}, {}, {}, {}, {}, {}, {}] { ts := [1, 2, 5, 106, 107, 108, 109, 110, 111, 112, 113, 114, 115, 116, 119, 120, 121, 122, 123, 124, 125, 126, 127, 128, 129, 130, 131, 132, 133], os := [1] } [Q_spec_IsValidGeneration (x0.2.2.2.2.1.getD i (0, [])), (AV.p (.c (.v (.bool (!(validG (x0.2.2.2.2.1.getD i (0, []))))))) = AV.p (.c (.v (.bool true))))] gamOK hT mixed h (by kernel_rfl) ⟨(by exact (Sh.fit_getD hf0.2.2.2.2.1 i)), hint_bool (h22), trivial⟩ fun a w h => then_normal ?_
         refine at_test true h (by kernel_rfl) (fun hh => ?_) (fun hh => nomatch hh)
         refine wp_seq ?_
         refine at_reg [] { ts := [1, 2, 5, 106, 107, 108, 109, 110, 111, 112, 113, 114, 115, 116, 119, 120, 121, 122, 123, 124, 125, 126, 127, 128, 129, 130, 131, 132], os := [1] } ⟨[(1, aP 1 0), (2, aB false), (5, aI ((i : Nat) : Int)), (106, .p (.c (.v undef))), (107, .p (.c (.v undef))), (108, .p (.c (.v undef))), (109, .p (.c (.v undef))), (110, .p (.c (.v undef))), (111, .p (.c (.v undef))), (112, .p (.c (.v undef))), (113, .p (.c (.v undef))), (114, .p (.c (.v undef))), (115, .p (.c (.v undef))), (116, .p (.c (.v undef))), (119, .p (.c (.v undef))), (120, .p (.c (.v undef))), (121, .p (.c (.v undef))), (122, .p (.c (.v undef))), (123, .p (.c (.v undef))), (124, .p (.c (.v undef))), (125, .p (.c (.v undef))), (126, .p (.c (.v undef))), (127, .p (.c (.v undef))), (128, .p (.c (.v undef))), (129, .p (.c (.v undef))), (130, .p (.c (.v undef))), (131, .p (.c (.v undef))), (132, .p (.c (.v undef)))], [(1, oX 32 [cI x0.1, cI x0.2.1, .ro (.int 3) x0.2.2.1, .ro s112 x0.2.2.2.1, .ro s218 x0.2.2.2.2.1, cI x0.2.2.2.2.2])]⟩ [] gamOK hT h (by kernel_rfl) trivial fun a w h => then_normal (wp_ret (in_ret (then_ret ?_)))
         have hs23 : (allN (genB x0) (List.length x0.2.2.2.2.1)) = false := by exact allN_at (i := i) (by omega) (by exact genB_f (by first | (left; assumption) | (right; left; assumption) | (right; right; omega)))
         refine then_ret (in_ret (then_ret ?_))
         exact at_return (S := S_spec_IsValidSink) (x := (x0, ())) (false, ()) [] h (by kernel_rfl) trivial (congrArg (fun z => (z, ())) (show (false) = validS x0 from by (first | (rw [← validS_spec (by assumption) (headS_y2 (by assumption) (by assumption) (by assumption) (by omega) (by assumption))]; symm; assumption) | exact validS_no (by first | (right; right; assumption) | (left; exact headS_n2 (by first | (left; assumption) | (right; left; assumption) | (right; right; left; assumption) | (right; right; right; left; omega) | (right; right; right; right; assumption)))))))
        ·have hzh22 : (validG (x0.2.2.2.2.1.getD i (0, []))) = true := notF h22
         have hvh22 := validG_t (notF h22)
         rcases Bool.eq_false_or_eq_true (!(fitsS x0 (x0.2.2.2.2.1.getD i (0, [])).1 ((List.length (x0.2.2.2.2.1.getD i (0, [])).2 : Nat) : Int) (colsOf (x0.2.2.2.2.1.getD i (0, [])).2))) with h24 | h24
         ·have hzh24 : (fitsS x0 (x0.2.2.2.2.1.getD i (0, [])).1 ((List.length (x0.2.2.2.2.1.getD i (0, [])).2 : Nat) : Int) (colsOf (x0.2.2.2.2.1.getD i (0, [])).2)) = false := notT h24
          refine at_anyq [{}, {}, { hint := some (aB false) }, {}, {}, {}, {}, {}, {}, {}, {}, {}, {}, {}, { hint := some (aB true) }, {}, {}, {}, {}, {}, {}, {}, {}, {}, {}, {}, {}, {}, {}, {}, {}, {}] { ts := [1, 2, 5, 106, 107, 108, 109, 110, 111, 112, 113, 114, 115, 116, 119, 120, 121, 122, 123, 124, 125, 126, 127, 128, 129, 130, 131, 132, 133], os := [1, 3] } [Q_spec_IsValidGeneration (x0.2.2.2.2.1.getD i (0, [])), (AV.p (.c (.v (.bool (!(validG (x0.2.2.2.2.1.getD i (0, []))))))) = AV.p (.c (.v (.bool false)))), Q_spec_ColumnsOf (x0.2.2.2.2.1.getD i (0, [])).2, Q_spec_l30Fits x0 (x0.2.2.2.2.1.getD i (0, [])).1 ((List.length (x0.2.2.2.2.1.getD i (0, [])).2 : Nat) : Int) (colsOf (x0.2.2.2.2.1.getD i (0, [])).2), (AV.p (.c (.v (.bool (!(fitsS x0 (x0.2.2.2.2.1.getD i (0, [])).1 ((List.length (x0.2.2.2.2.1.getD i (0, [])).2 : Nat) : Int) (colsOf (x0.2.2.2.2.1.getD i (0, [])).2)))))) = AV.p (.c (.v (.bool true))))] gamOK hT mixed h (by kernel_rfl) ⟨(by exact (Sh.fit_getD hf0.2.2.2.2.1 i)), hint_bool (h22), (by exact (Sh.fit_getD hf0.2.2.2.2.1 i).2), (by exact hf0), hint_bool (h24), trivial⟩ fun a w h => then_normal ?_
          refine at_test true h (by kernel_rfl) (fun hh => ?_) (fun hh => nomatch hh)
          refine wp_seq ?_
          refine at_reg [] { ts := [1, 2, 5, 106, 107, 108, 109, 110, 111, 112, 113, 114, 115, 116, 119, 120, 121, 122, 123, 124, 125, 126, 127, 128, 129, 130, 131, 132], os := [1, 3] } ⟨[(1, aP 1 0), (2, aB false), (5, aI ((i : Nat) : Int)), (106, aG [cI x0.1, cI x0.2.1, .ro (.int 3) x0.2.2.1, .ro s112 x0.2.2.2.1, .ro s218 x0.2.2.2.2.1, cI x0.2.2.2.2.2]), (107, aP 3 0), (108, aI (x0.2.2.2.2.1.getD i (0, [])).1), (109, aP 3 1), (110, aF s22 (x0.2.2.2.2.1.getD i (0, [])).2), (111, aI ((List.length (x0.2.2.2.2.1.getD i (0, [])).2 : Nat) : Int)), (112, aP 3 1), (113, aF s22 (x0.2.2.2.2.1.getD i (0, [])).2), (114, aI (colsOf (x0.2.2.2.2.1.getD i (0, [])).2)), (115, aB (fitsS x0 (x0.2.2.2.2.1.getD i (0, [])).1 ((List.length (x0.2.2.2.2.1.getD i (0, [])).2 : Nat) : Int) (colsOf (x0.2.2.2.2.1.getD i (0, [])).2))), (116, aB true), (119, .p (.c (.v undef))), (120, .p (.c (.v undef))), (121, .p (.c (.v undef))), (122, .p (.c (.v undef))), (123, .p (.c (.v undef))), (124, .p (.c (.v undef))), (125, .p (.c (.v undef))), (126, .p (.c (.v undef))), (127, .p (.c (.v undef))), (128, .p (.c (.v undef))), (129, .p (.c (.v undef))), (130, .p (.c (.v undef))), (131, .p (.c (.v undef))), (132, .p (.c (.v undef)))], [(1, oX 32 [cI x0.1, cI x0.2.1, .ro (.int 3) x0.2.2.1, .ro s112 x0.2.2.2.1, .ro s218 x0.2.2.2.2.1, cI x0.2.2.2.2.2]), (3, oX 218 [cI (x0.2.2.2.2.1.getD i (0, [])).1, .ro s22 (x0.2.2.2.2.1.getD i (0, [])).2])]⟩ [] gamOK hT h (by kernel_rfl) trivial fun a w h => then_normal (wp_ret (in_ret (then_ret ?_)))
          have hs25 : (allN (genB x0) (List.length x0.2.2.2.2.1)) = false := by exact allN_at (i := i) (by omega) (by exact genB_f (by first | (left; assumption) | (right; left; assumption) | (right; right; omega)))
          refine then_ret (in_ret (then_ret ?_))
          exact at_return (S := S_spec_IsValidSink) (x := (x0, ())) (false, ()) [] h (by kernel_rfl) trivial (congrArg (fun z => (z, ())) (show (false) = validS x0 from by (first | (rw [← validS_spec (by assumption) (headS_y2 (by assumption) (by assumption) (by assumption) (by omega) (by assumption))]; symm; assumption) | exact validS_no (by first | (right; right; assumption) | (left; exact headS_n2 (by first | (left; assumption) | (right; left; assumption) | (right; right; left; assumption) | (right; right; right; left; omega) | (right; right; right; right; assumption)))))))
         ·have hzh24 : (fitsS x0 (x0.2.2.2.2.1.getD i (0, [])).1 ((List.length (x0.2.2.2.2.1.getD i (0, [])).2 : Nat) : Int) (colsOf (x0.2.2.2.2.1.getD i (0, [])).2)) = true := notF h24
          by_cases h26 : ((i : Nat) : Int) > 0
          ·refine at_anyq [{}, {}, { hint := some (aB false) }, {}, {}, {}, {}, {}, {}, {}, {}, {}, {}, {}, { hint := some (aB false) }, {}, {}, {}, { hint := some (aB true) }, {}, {}, {}, {}, { nw := true }, {}, {}, {}, {}, {}, {}, {}, {}] { ts := [1, 2, 5, 106, 107, 108, 109, 110, 111, 112, 113, 114, 115, 116, 119, 120, 121, 122, 123, 124, 125, 126, 127, 128, 129, 130, 131, 132, 133], os := [1, 3] } [Q_spec_IsValidGeneration (x0.2.2.2.2.1.getD i (0, [])), (AV.p (.c (.v (.bool (!(validG (x0.2.2.2.2.1.getD i (0, []))))))) = AV.p (.c (.v (.bool false)))), Q_spec_ColumnsOf (x0.2.2.2.2.1.getD i (0, [])).2, Q_spec_l30Fits x0 (x0.2.2.2.2.1.getD i (0, [])).1 ((List.length (x0.2.2.2.2.1.getD i (0, [])).2 : Nat) : Int) (colsOf (x0.2.2.2.2.1.getD i (0, [])).2), (AV.p (.c (.v (.bool (!(fitsS x0 (x0.2.2.2.2.1.getD i (0, [])).1 ((List.length (x0.2.2.2.2.1.getD i (0, [])).2 : Nat) : Int) (colsOf (x0.2.2.2.2.1.getD i (0, [])).2)))))) = AV.p (.c (.v (.bool false)))), (AV.p (.c (.v (.bool (decide (((i : Nat) : Int) > 0))))) = AV.p (.c (.v (.bool true)))), I64 (((i : Nat) : Int) - 1), (0 : Int) ≤ ((i : Nat) : Int) - 1 ∧ ((i : Nat) : Int) - 1 < ((List.length x0.2.2.2.2.1 : Nat) : Int)] gamOK hT mixed h (by kernel_rfl) ⟨(by exact (Sh.fit_getD hf0.2.2.2.2.1 i)), hint_bool (h22), (by exact (Sh.fit_getD hf0.2.2.2.2.1 i).2), (by exact hf0), hint_bool (h24), hint_bool (decide_eq_true h26), ⟨by first | omega | (simp only [lsA]; omega) | (simp <;> omega), by first | omega | (simp only [lsA]; omega) | (simp <;> omega)⟩, (by refine ⟨?_, ?_⟩ <;> (first | omega | (simp only [lsA]; omega) | (simp <;> omega))), trivial⟩ fun a w h => then_normal ?_
           refine at_test (decide ((x0.2.2.2.2.1.getD ((((i : Nat) : Int) - 1).toNat) (0, [])).1 ≥ (x0.2.2.2.2.1.getD i (0, [])).1)) h (by kernel_rfl) (fun h27 => ?_) (fun h27 => ?_)
           ·replace h27 : (x0.2.2.2.2.1.getD ((((i : Nat) : Int) - 1).toNat) (0, [])).1 ≥ (x0.2.2.2.2.1.getD i (0, [])).1 := of_decide_eq_true h27
            refine wp_seq ?_
            refine at_reg [] { ts := [1, 2, 5, 106, 107, 108, 109, 110, 111, 112, 113, 114, 115, 116, 119, 120, 121, 122, 123, 124, 125, 126, 127, 128, 129, 130, 131, 132], os := [1, 3] } ⟨[(1, aP 1 0), (2, aB false), (5, aI ((i : Nat) : Int)), (106, aG [cI x0.1, cI x0.2.1, .ro (.int 3) x0.2.2.1, .ro s112 x0.2.2.2.1, .ro s218 x0.2.2.2.2.1, cI x0.2.2.2.2.2]), (107, aP 3 0), (108, aI (x0.2.2.2.2.1.getD i (0, [])).1), (109, aP 3 1), (110, aF s22 (x0.2.2.2.2.1.getD i (0, [])).2), (111, aI ((List.length (x0.2.2.2.2.1.getD i (0, [])).2 : Nat) : Int)), (112, aP 3 1), (113, aF s22 (x0.2.2.2.2.1.getD i (0, [])).2), (114, aI (colsOf (x0.2.2.2.2.1.getD i (0, [])).2)), (115, aB (fitsS x0 (x0.2.2.2.2.1.getD i (0, [])).1 ((List.length (x0.2.2.2.2.1.getD i (0, [])).2 : Nat) : Int) (colsOf (x0.2.2.2.2.1.getD i (0, [])).2))), (116, aB false), (119, aI ((i : Nat) : Int)), (120, aB true), (121, aB true), (122, aP 1 4), (123, aF s218 x0.2.2.2.2.1), (124, aI ((i : Nat) : Int)), (125, aI (((i : Nat) : Int) - 1)), (126, aR s218 (x0.2.2.2.2.1.getD ((((i : Nat) : Int) - 1).toNat) (0, [])) 0), (127, aR s218 (x0.2.2.2.2.1.getD ((((i : Nat) : Int) - 1).toNat) (0, [])) 0), (128, aI (x0.2.2.2.2.1.getD ((((i : Nat) : Int) - 1).toNat) (0, [])).1), (129, aP 3 0), (130, aI (x0.2.2.2.2.1.getD i (0, [])).1), (131, aB (decide ((x0.2.2.2.2.1.getD ((((i : Nat) : Int) - 1).toNat) (0, [])).1 ≥ (x0.2.2.2.2.1.getD i (0, [])).1))), (132, aB (decide ((x0.2.2.2.2.1.getD ((((i : Nat) : Int) - 1).toNat) (0, [])).1 ≥ (x0.2.2.2.2.1.getD i (0, [])).1)))], [(1, oX 32 [cI x0.1, cI x0.2.1, .ro (.int 3) x0.2.2.1, .ro s112 x0.2.2.2.1, .ro s218 x0.2.2.2.2.1, cI x0.2.2.2.2.2]), (3, oX 218 [cI (x0.2.2.2.2.1.getD i (0, [])).1, .ro s22 (x0.2.2.2.2.1.getD i (0, [])).2])]⟩ [] gamOK hT h (by kernel_rfl) trivial fun a w h => then_normal (wp_ret (in_ret (then_ret ?_)))
            have hs28 : (allN (genB x0) (List.length x0.2.2.2.2.1)) = false := by exact allN_at (i := i) (by omega) (by exact genB_f (by first | (left; assumption) | (right; left; assumption) | (right; right; omega)))
            refine then_ret (in_ret (then_ret ?_))
            exact at_return (S := S_spec_IsValidSink) (x := (x0, ())) (false, ()) [] h (by kernel_rfl) trivial (congrArg (fun z => (z, ())) (show (false) = validS x0 from by (first | (rw [← validS_spec (by assumption) (headS_y2 (by assumption) (by assumption) (by assumption) (by omega) (by assumption))]; symm; assumption) | exact validS_no (by first | (right; right; assumption) | (left; exact headS_n2 (by first | (left; assumption) | (right; left; assumption) | (right; right; left; assumption) | (right; right; right; left; omega) | (right; right; right; right; assumption)))))))
           ·replace h27 : ¬ ((x0.2.2.2.2.1.getD ((((i : Nat) : Int) - 1).toNat) (0, [])).1 ≥ (x0.2.2.2.2.1.getD i (0, [])).1) := of_decide_eq_false h27
            refine wp_skip (in_normal (then_normal ?_))
            refine at_reg [{}, { nw := true }] { ts := [1, 2, 5, 106, 107, 108, 109, 110, 111, 112, 113, 114, 115, 116, 119, 120, 121, 122, 123, 124, 125, 126, 127, 128, 129, 130, 131, 132], os := [1, 3] } ⟨[(1, aP 1 0), (2, aB false), (5, aI (((i : Nat) : Int) + 1)), (106, aG [cI x0.1, cI x0.2.1, .ro (.int 3) x0.2.2.1, .ro s112 x0.2.2.2.1, .ro s218 x0.2.2.2.2.1, cI x0.2.2.2.2.2]), (107, aP 3 0), (108, aI (x0.2.2.2.2.1.getD i (0, [])).1), (109, aP 3 1), (110, aF s22 (x0.2.2.2.2.1.getD i (0, [])).2), (111, aI ((List.length (x0.2.2.2.2.1.getD i (0, [])).2 : Nat) : Int)), (112, aP 3 1), (113, aF s22 (x0.2.2.2.2.1.getD i (0, [])).2), (114, aI (colsOf (x0.2.2.2.2.1.getD i (0, [])).2)), (115, aB (fitsS x0 (x0.2.2.2.2.1.getD i (0, [])).1 ((List.length (x0.2.2.2.2.1.getD i (0, [])).2 : Nat) : Int) (colsOf (x0.2.2.2.2.1.getD i (0, [])).2))), (116, aB false), (119, aI ((i : Nat) : Int)), (120, aB true), (121, aB true), (122, aP 1 4), (123, aF s218 x0.2.2.2.2.1), (124, aI ((i : Nat) : Int)), (125, aI (((i : Nat) : Int) - 1)), (126, aR s218 (x0.2.2.2.2.1.getD ((((i : Nat) : Int) - 1).toNat) (0, [])) 0), (127, aR s218 (x0.2.2.2.2.1.getD ((((i : Nat) : Int) - 1).toNat) (0, [])) 0), (128, aI (x0.2.2.2.2.1.getD ((((i : Nat) : Int) - 1).toNat) (0, [])).1), (129, aP 3 0), (130, aI (x0.2.2.2.2.1.getD i (0, [])).1), (131, aB (decide ((x0.2.2.2.2.1.getD ((((i : Nat) : Int) - 1).toNat) (0, [])).1 ≥ (x0.2.2.2.2.1.getD i (0, [])).1))), (132, aB (decide ((x0.2.2.2.2.1.getD ((((i : Nat) : Int) - 1).toNat) (0, [])).1 ≥ (x0.2.2.2.2.1.getD i (0, [])).1)))], [(1, oX 32 [cI x0.1, cI x0.2.1, .ro (.int 3) x0.2.2.1, .ro s112 x0.2.2.2.1, .ro s218 x0.2.2.2.2.1, cI x0.2.2.2.2.2]), (3, oX 218 [cI (x0.2.2.2.2.1.getD i (0, [])).1, .ro s22 (x0.2.2.2.2.1.getD i (0, [])).2])]⟩ [I64 (((i : Nat) : Int) + 1)] gamOK hT h (by kernel_rfl) ⟨⟨by first | omega | (simp only [lsA]; omega) | (simp <;> omega), by first | omega | (simp only [lsA]; omega) | (simp <;> omega)⟩, trivial⟩ fun a w h => ?_
            replace h := at_out (σ' := ⟨[(1, aP 1 0), (2, aB false), (5, aI (((i : Nat) : Int) + 1))], [(1, oX 32 [cI x0.1, cI x0.2.1, .ro (.int 3) x0.2.2.1, .ro s112 x0.2.2.2.1, .ro s218 x0.2.2.2.2.1, cI x0.2.2.2.2.2])]⟩) { ts := [1, 2, 5], os := [1] } h (by kernel_rfl)
            exact ⟨i + 1, at_eq h (st_congr1 (fun (d0 : Int) => (⟨[(1, aP 1 0), (2, aB false), (5, aI d0)], [(1, oX 32 [cI x0.1, cI x0.2.1, .ro (.int 3) x0.2.2.1, .ro s112 x0.2.2.2.1, .ro s218 x0.2.2.2.2.1, cI x0.2.2.2.2.2])]⟩ : St)) (show (((i : Nat) : Int) + 1 : Int) = (((i + 1) : Nat) : Int) from by first | with_reducible rfl | (omega) | rfl)), (by exact ⟨by omega, allN_succ hok1.2 (by exact genB_t (by assumption) (by assumption) (by omega))⟩), (by omega)⟩
          ·refine at_anyq [{}, {}, { hint := some (aB false) }, {}, {}, {}, {}, {}, {}, {}, {}, {}, {}, {}, { hint := some (aB false) }, {}, {}, {}, { hint := some (aB false) }, {}, {}, {}, {}, {}, {}, {}, {}, {}, {}, {}, {}, {}] { ts := [1, 2, 5, 106, 107, 108, 109, 110, 111, 112, 113, 114, 115, 116, 119, 120, 121, 122, 123, 124, 125, 126, 127, 128, 129, 130, 131, 132, 133], os := [1, 3] } [Q_spec_IsValidGeneration (x0.2.2.2.2.1.getD i (0, [])), (AV.p (.c (.v (.bool (!(validG (x0.2.2.2.2.1.getD i (0, []))))))) = AV.p (.c (.v (.bool false)))), Q_spec_ColumnsOf (x0.2.2.2.2.1.getD i (0, [])).2, Q_spec_l30Fits x0 (x0.2.2.2.2.1.getD i (0, [])).1 ((List.length (x0.2.2.2.2.1.getD i (0, [])).2 : Nat) : Int) (colsOf (x0.2.2.2.2.1.getD i (0, [])).2), (AV.p (.c (.v (.bool (!(fitsS x0 (x0.2.2.2.2.1.getD i (0, [])).1 ((List.length (x0.2.2.2.2.1.getD i (0, [])).2 : Nat) : Int) (colsOf (x0.2.2.2.2.1.getD i (0, [])).2)))))) = AV.p (.c (.v (.bool false)))), (AV.p (.c (.v (.bool (decide (((i : Nat) : Int) > 0))))) = AV.p (.c (.v (.bool false))))] gamOK hT mixed h (by kernel_rfl) ⟨(by exact (Sh.fit_getD hf0.2.2.2.2.1 i)), hint_bool (h22), (by exact (Sh.fit_getD hf0.2.2.2.2.1 i).2), (by exact hf0), hint_bool (h24), hint_bool (decide_eq_false h26), trivial⟩ fun a w h => then_normal ?_
           refine at_test false h (by kernel_rfl) (fun hh => nomatch hh) (fun hh => ?_)
           refine wp_skip (in_normal (then_normal ?_))
           refine at_reg [{}, { nw := true }] { ts := [1, 2, 5, 106, 107, 108, 109, 110, 111, 112, 113, 114, 115, 116, 119, 120, 121, 122, 123, 124, 125, 126, 127, 128, 129, 130, 131, 132], os := [1, 3] } ⟨[(1, aP 1 0), (2, aB false), (5, aI (((i : Nat) : Int) + 1)), (106, aG [cI x0.1, cI x0.2.1, .ro (.int 3) x0.2.2.1, .ro s112 x0.2.2.2.1, .ro s218 x0.2.2.2.2.1, cI x0.2.2.2.2.2]), (107, aP 3 0), (108, aI (x0.2.2.2.2.1.getD i (0, [])).1), (109, aP 3 1), (110, aF s22 (x0.2.2.2.2.1.getD i (0, [])).2), (111, aI ((List.length (x0.2.2.2.2.1.getD i (0, [])).2 : Nat) : Int)), (112, aP 3 1), (113, aF s22 (x0.2.2.2.2.1.getD i (0, [])).2), (114, aI (colsOf (x0.2.2.2.2.1.getD i (0, [])).2)), (115, aB (fitsS x0 (x0.2.2.2.2.1.getD i (0, [])).1 ((List.length (x0.2.2.2.2.1.getD i (0, [])).2 : Nat) : Int) (colsOf (x0.2.2.2.2.1.getD i (0, [])).2))), (116, aB false), (119, aI ((i : Nat) : Int)), (120, aB false), (121, aB false), (122, .p (.c (.v undef))), (123, .p (.c (.v undef))), (124, .p (.c (.v undef))), (125, .p (.c (.v undef))), (126, .p (.c (.v undef))), (127, .p (.c (.v undef))), (128, .p (.c (.v undef))), (129, .p (.c (.v undef))), (130, .p (.c (.v undef))), (131, .p (.c (.v undef))), (132, aB false)], [(1, oX 32 [cI x0.1, cI x0.2.1, .ro (.int 3) x0.2.2.1, .ro s112 x0.2.2.2.1, .ro s218 x0.2.2.2.2.1, cI x0.2.2.2.2.2]), (3, oX 218 [cI (x0.2.2.2.2.1.getD i (0, [])).1, .ro s22 (x0.2.2.2.2.1.getD i (0, [])).2])]⟩ [I64 (((i : Nat) : Int) + 1)] gamOK hT h (by kernel_rfl) ⟨⟨by first | omega | (simp only [lsA]; omega) | (simp <;> omega), by first | omega | (simp only [lsA]; omega) | (simp <;> omega)⟩, trivial⟩ fun a w h => ?_
           replace h := at_out (σ' := ⟨[(1, aP 1 0), (2, aB false), (5, aI (((i : Nat) : Int) + 1))], [(1, oX 32 [cI x0.1, cI x0.2.1, .ro (.int 3) x0.2.2.1, .ro s112 x0.2.2.2.1, .ro s218 x0.2.2.2.2.1, cI x0.2.2.2.2.2])]⟩) { ts := [1, 2, 5], os := [1] } h (by kernel_rfl)
           exact ⟨i + 1, at_eq h (st_congr1 (fun (d0 : Int) => (⟨[(1, aP 1 0), (2, aB false), (5, aI d0)], [(1, oX 32 [cI x0.1, cI x0.2.1, .ro (.int 3) x0.2.2.1, .ro s112 x0.2.2.2.1, .ro s218 x0.2.2.2.2.1, cI x0.2.2.2.2.2])]⟩ : St)) (show (((i : Nat) : Int) + 1 : Int) = (((i + 1) : Nat) : Int) from by first | with_reducible rfl | (omega) | rfl)), (by exact ⟨by omega, allN_succ hok1.2 (by exact genB_t (by assumption) (by assumption) (by omega))⟩), (by omega)⟩
       ·replace h21 : ¬ (((i : Nat) : Int) < ((List.length x0.2.2.2.2.1 : Nat) : Int)) := of_decide_eq_false h21
        refine wp_exit (then_exit ?_)
        have hs29 : (allN (genB x0) (List.length x0.2.2.2.2.1)) = true := by exact allN_eq (by omega) hok1.1 hok1.2
        refine then_exit (in_hit (then_normal (wp_seq ?_)))
        refine at_regq [] { ts := [2], os := [] } [] gamOK hT h (by kernel_rfl) trivial fun a w h => then_normal (wp_ret ?_)
        exact at_return (S := S_spec_IsValidSink) (x := (x0, ())) (true, ()) [] h (by kernel_rfl) trivial (congrArg (fun z => (z, ())) (show (true) = validS x0 from by (first | (rw [← validS_spec (by assumption) (headS_y2 (by assumption) (by assumption) (by assumption) (by omega) (by assumption))]; symm; assumption) | exact validS_no (by first | (right; right; assumption) | (left; exact headS_n2 (by first | (left; assumption) | (right; left; assumption) | (right; right; left; assumption) | (right; right; right; left; omega) | (right; right; right; right; assumption)))))))

theorem any_fnd {α : Type} {f : α → Int} {z : α} {xs : List α} (hs : srtK f z xs) (v : Int) : (xs.any fun e => decide (f e = v)) = fndK f z xs v := by
  cases hf : fndK f z xs v with
  | true =>
    obtain ⟨h1, h2⟩ := fndK_t hf
    exact List.any_eq_true.2 ⟨_, getD_mem (z := z) h1, decide_eq_true h2⟩
  | false =>
    rw [Bool.eq_false_iff]; intro ha
    obtain ⟨x, hx, he⟩ := List.any_eq_true.1 ha
    obtain ⟨j, hj, rfl⟩ := List.getElem_of_mem hx
    rw [fndK_at hs hj (by rw [getD_of_lt hj]; exact of_decide_eq_true he)] at hf
    cases hf
theorem idx_fnd {α : Type} {f : α → Int} {z : α} {xs : List α} (hs : srtK f z xs) {v : Int} (hf : fndK f z xs v = true) : idxF (fun e => decide (f e = v)) xs = ((bsK f z xs v : Nat) : Int) := by
  obtain ⟨h1, h2⟩ := fndK_t hf
  refine idxF_at (z := z) h1 (fun j hj => decide_eq_false fun e => ?_) (decide_eq_true h2)
  have := hs j _ hj h1
  omega
theorem idx_neg {α : Type} {f : α → Int} {z : α} {xs : List α} (hs : srtK f z xs) {v : Int} (hf : fndK f z xs v = false) : idxF (fun e => decide (f e = v)) xs < 0 := by
  have h1 := any_fnd hs v
  rw [hf, ← idxF_any] at h1
  have := of_decide_eq_false h1
  omega
def missS (s : T32) (g : Int) : Int := if fndK (fun x => x.1) (0, []) s.2.2.2.2.1 g = true then 0 else if fndK (fun x => x.1) (0, (0, (0, (0, [])))) s.2.2.2.1 g = true then (s.2.2.2.1.getD (bsK (fun x => x.1) (0, (0, (0, (0, [])))) s.2.2.2.1 g) (0, (0, (0, (0, []))))).2.1 - ((List.length (s.2.2.2.1.getD (bsK (fun x => x.1) (0, (0, (0, (0, [])))) s.2.2.2.1 g) (0, (0, (0, (0, []))))).2.2.2.2 : Nat) : Int) else s.2.2.1.getD g.toNat 0
def missOf (s : T32) (g : Int) : Int := if validS s = true ∧ inR g 0 (((List.length s.2.2.1 : Nat) : Int) - 1) = true then missS s g else 0
theorem decB_v {s : T32} (h : allN (decB s) (List.length s.2.2.2.1) = true) {i : Nat} (hi : i < List.length s.2.2.2.1) : validD (s.2.2.2.1.getD i (0, (0, (0, (0, []))))) = true := by
  have := allN_iff.1 h i hi
  unfold decB at this
  rw [Bool.and_eq_true, Bool.and_eq_true] at this
  exact this.1.1
theorem miss_1 {s : T32} {g : Int} (h : fndK (fun x => x.1) (0, []) s.2.2.2.2.1 g = true) : 0 = missS s g := by unfold missS; rw [if_pos h]
theorem miss_2 {s : T32} {g : Int} (h : fndK (fun x => x.1) (0, []) s.2.2.2.2.1 g = false) (h2 : fndK (fun x => x.1) (0, (0, (0, (0, [])))) s.2.2.2.1 g = true) : (s.2.2.2.1.getD (bsK (fun x => x.1) (0, (0, (0, (0, [])))) s.2.2.2.1 g) (0, (0, (0, (0, []))))).2.1 - ((List.length (s.2.2.2.1.getD (bsK (fun x => x.1) (0, (0, (0, (0, [])))) s.2.2.2.1 g) (0, (0, (0, (0, []))))).2.2.2.2 : Nat) : Int) = missS s g := by unfold missS; rw [if_neg (by rw [h]; decide), if_pos h2]
theorem miss_3 {s : T32} {g : Int} (h : fndK (fun x => x.1) (0, []) s.2.2.2.2.1 g = false) (h2 : fndK (fun x => x.1) (0, (0, (0, (0, [])))) s.2.2.2.1 g = false) : s.2.2.1.getD g.toNat 0 = missS s g := by unfold missS; rw [if_neg (by rw [h]; decide), if_neg (by rw [h2]; decide)]
theorem missOf_y {s : T32} {g : Int} (h : validS s = true) (h2 : inR g 0 (((List.length s.2.2.1 : Nat) : Int) - 1) = true) : missS s g = missOf s g := by unfold missOf; rw [if_pos ⟨h, h2⟩]
theorem missOf_n {s : T32} {g : Int} (h : validS s = false ∨ inR g 0 (((List.length s.2.2.1 : Nat) : Int) - 1) = false) : 0 = missOf s g := by
  unfold missOf; rw [if_neg]
  rintro ⟨h1, h2⟩
  rcases h with h | h
  · rw [h1] at h; cases h
  · rw [h2] at h; cases h
def D__impl_Sink_doneAt_1 := (fun (x : T218) (g : Int) => cmpI x.1 g)
abbrev Q__impl_Sink_doneAt_1 := (fun (x0 : T218) (x1 : Int) => Sh.fit s218 x0)
def S__impl_Sink_doneAt_1 : Sum := { fid := 274, dom := [s218, (.int 3)], cod := [(.int 3)], dp := true, fz := false, pre := fun x => Q__impl_Sink_doneAt_1 x.1 x.2.1, g := fun x => ((D__impl_Sink_doneAt_1 x.1 x.2.1), ()) }
def S__impl_Sink_doneAt_1_tab : List (Nat × Sum) := [(260, S_cmp_Compare_int_)]
theorem S__impl_Sink_doneAt_1_ok : FnOK Try.prog 274 S__impl_Sink_doneAt_1 := by
 refine at_enter 9 (fun x => ⟨[(0, aG [cI x.1.1, .ro s22 x.1.2]), (1, aI x.2.1)], []⟩) Try.func274 rfl (by kernel_rfl) (fun x => rfl) ?_
 rintro w0 Z0 ⟨x0, x1, u⟩ a w
 revert x0 x1
 intro (x0 : T218) (x1 : Int) hpre hlens h
 replace h : At w0 Z0 [] 9 ⟨[(0, aG [cI x0.1, .ro s22 x0.2]), (1, aI x1)], []⟩ a w := h
 replace hpre : Q__impl_Sink_doneAt_1 x0 x1 := hpre
 have hl1 : List.length x0.2 ≤ 9223372036854775807 := hlens.1.2.1
 have hT : TabOK Try.prog S__impl_Sink_doneAt_1_tab := (.cons S_cmp_Compare_int__ok .nil)
 have hf0 : Sh.fit s218 x0 := hpre
 have hn0_1 : List.length x0.2 ≤ 1073741824 := hf0.2.1
 refine wp_seq ?_
 refine at_regq [{ ids := [1] }] { ts := [1, 2, 4], os := [1] } [] gamOK hT h (by kernel_rfl) trivial fun a w h => then_normal (wp_seq ?_)
 refine at_regq [] { ts := [4], os := [] } [True] gamOK hT h (by kernel_rfl) ⟨trivial, trivial⟩ fun a w h => then_normal (wp_ret ?_)
 exact at_return (S := S__impl_Sink_doneAt_1) (x := (x0, x1, ())) ((cmpI x0.1 x1), ()) [] h (by kernel_rfl) trivial (congrArg (fun z => (z, ())) (show ((cmpI x0.1 x1)) = D__impl_Sink_doneAt_1 x0 x1 from by unfold D__impl_Sink_doneAt_1; rfl))

def D_slices_BinarySearchFunc_S_impl_Generation_impl_Generation_int__doneAt_1 := (fun (xs : List T218) (v : Int) (_ : Unit) => (((bsK (fun x => x.1) (0, []) xs v : Nat) : Int), fndK (fun x => x.1) (0, []) xs v))
abbrev Q_slices_BinarySearchFunc_S_impl_Generation_impl_Generation_int__doneAt_1 := (fun (x0 : (List T218)) (x1 : Int) (x2 : Unit) => Sh.fit s30 x0)
def S_slices_BinarySearchFunc_S_impl_Generation_impl_Generation_int__doneAt_1 : Sum := { fid := 273, dom := [s30, (.int 3), (.fn0 274)], cod := [(.int 3), (.bool 4)], dp := true, fz := false, pre := fun x => Q_slices_BinarySearchFunc_S_impl_Generation_impl_Generation_int__doneAt_1 x.1 x.2.1 x.2.2.1, g := fun x => ((D_slices_BinarySearchFunc_S_impl_Generation_impl_Generation_int__doneAt_1 x.1 x.2.1 x.2.2.1).1, ((D_slices_BinarySearchFunc_S_impl_Generation_impl_Generation_int__doneAt_1 x.1 x.2.1 x.2.2.1).2, ())) }
def S_slices_BinarySearchFunc_S_impl_Generation_impl_Generation_int__doneAt_1_tab : List (Nat × Sum) := [(274, S__impl_Sink_doneAt_1)]
theorem S_slices_BinarySearchFunc_S_impl_Generation_impl_Generation_int__doneAt_1_ok : FnOK Try.prog 273 S_slices_BinarySearchFunc_S_impl_Generation_impl_Generation_int__doneAt_1 := by
 refine at_enter 49 (fun x => ⟨[(0, aF s218 x.1), (1, aI x.2.1), (2, .p (.c (.cl 274 .cnil)))], []⟩) Try.func273 rfl (by kernel_rfl) (fun x => rfl) ?_
 rintro w0 Z0 ⟨x0, x1, x2, u⟩ a w
 revert x0 x1 x2
 intro (x0 : (List T218)) (x1 : Int) (x2 : Unit) hpre hlens h
 replace h : At w0 Z0 [] 49 ⟨[(0, aF s218 x0), (1, aI x1), (2, .p (.c (.cl 274 .cnil)))], []⟩ a w := h
 replace hpre : Q_slices_BinarySearchFunc_S_impl_Generation_impl_Generation_int__doneAt_1 x0 x1 x2 := hpre
 have hl1 : List.length x0 ≤ 9223372036854775807 := hlens.1.1
 have hT : TabOK Try.prog S_slices_BinarySearchFunc_S_impl_Generation_impl_Generation_int__doneAt_1_tab := (.cons S__impl_Sink_doneAt_1_ok .nil)
 have hf0 : Sh.fit s30 x0 := hpre
 have hn0_1 : List.length x0 ≤ 1073741824 := hf0.1
 refine wp_seq ?_
 refine at_regq [] { ts := [0, 1, 2, 6, 7], os := [] } [] gamOK hT h (by kernel_rfl) trivial fun a w h => then_normal (wp_seq ?_)
 refine at_regq [] { ts := [0, 1, 2, 6, 7, 8], os := [] } [] gamOK hT h (by kernel_rfl) trivial fun a w h => then_normal (wp_seq ?_)
 refine at_regq [] { ts := [0, 1, 2, 6, 7, 8, 9, 10], os := [] } [] gamOK hT h (by kernel_rfl) trivial fun a w h => then_normal (wp_seq (wp_block ?_))
 replace h := at_out (σ' := ⟨[(0, aF s218 x0), (1, aI x1), (2, .p (.c (.cl 274 .cnil))), (6, aI 0), (7, aB false), (8, aI ((List.length x0 : Nat) : Int)), (9, aI 0), (10, aI ((List.length x0 : Nat) : Int))], []⟩) { ts := [0, 1, 2, 6, 7, 8, 9, 10], os := [] } h (by kernel_rfl)
 refine at_loop (fun q : (Nat × Nat) => (⟨[(0, aF s218 x0), (1, aI x1), (2, .p (.c (.cl 274 .cnil))), (6, aI 0), (7, aB false), (8, aI ((List.length x0 : Nat) : Int)), (9, aI ((q.1 : Nat) : Int)), (10, aI ((q.2 : Nat) : Int))], []⟩ : St)) (fun q => (q.1 ≤ q.2 ∧ q.2 ≤ List.length x0 ∧ bsF (ltK (fun x => x.1) (0, []) x0 x1) q.1 q.2 = bsF (ltK (fun x => x.1) (0, []) x0 x1) 0 (List.length x0))) (fun q => q.2 - q.1) ((0, List.length x0)) h (st_congr2 (fun (d0 : Int) (d1 : Int) => (⟨[(0, aF s218 x0), (1, aI x1), (2, .p (.c (.cl 274 .cnil))), (6, aI 0), (7, aB false), (8, aI ((List.length x0 : Nat) : Int)), (9, aI d0), (10, aI d1)], []⟩ : St)) (show (0 : Int) = ((((0, List.length x0)).1 : Nat) : Int) from by first | with_reducible rfl | (rfl) | rfl) (show (((List.length x0 : Nat) : Int) : Int) = ((((0, List.length x0)).2 : Nat) : Int) from by first | with_reducible rfl | (rfl) | rfl)) (by exact ⟨Nat.zero_le _, Nat.le_refl _, rfl⟩) ?_
 intro q a w hok0 h
 refine wp_seq (wp_seq ?_)
 refine at_regq [] { ts := [0, 1, 2, 6, 7, 8, 9, 10, 17], os := [] } [] gamOK hT h (by kernel_rfl) trivial fun a w h => then_normal ?_
 refine at_test (decide (((q.1 : Nat) : Int) < ((q.2 : Nat) : Int))) h (by kernel_rfl) (fun h1 => ?_) (fun h1 => ?_)
 ·replace h1 : ((q.1 : Nat) : Int) < ((q.2 : Nat) : Int) := of_decide_eq_true h1
  refine wp_skip (then_normal (wp_block (wp_seq ?_)))
  refine at_regq [{}, {}, { nw := true }, {}, {}, { hint := some (aI (((q.1 + q.2) / 2 : Nat) : Int)) }] { ts := [0, 1, 2, 6, 7, 8, 9, 10, 11], os := [] } [I64 (((q.1 : Nat) : Int) + ((q.2 : Nat) : Int)), (0 : Int) ≤ 1, (AV.p (.c (.v (.int .i64 (IntKind.i64.wrap ((Int.fdiv (IntKind.u64.wrap (((q.1 : Nat) : Int) + ((q.2 : Nat) : Int))) (2 ^ (min (1 : Int).toNat (IntKind.u64).bits)))))))) = AV.p (.c (.v (.int .i64 ((((q.1 + q.2) / 2 : Nat) : Int))))))] gamOK hT h (by kernel_rfl) ⟨⟨by first | omega | (simp only [lsA]; omega) | (simp <;> omega), by first | omega | (simp only [lsA]; omega) | (simp <;> omega)⟩, (by first | omega | (simp only [lsA]; omega) | (simp <;> omega)), hint_int (by exact half_eq (by omega)), trivial⟩ fun a w h => then_normal (wp_seq ?_)
  refine at_regq [] { ts := [0, 1, 2, 6, 7, 8, 9, 10, 11, 31], os := [] } [(0 : Int) ≤ (((q.1 + q.2) / 2 : Nat) : Int) ∧ (((q.1 + q.2) / 2 : Nat) : Int) < ((List.length x0 : Nat) : Int), Q__impl_Sink_doneAt_1 (x0.getD ((q.1 + q.2) / 2) (0, [])) x1] gamOK hT h (by kernel_rfl) ⟨(by refine ⟨?_, ?_⟩ <;> (first | omega | (simp only [lsA]; omega) | (simp <;> omega))), (by exact (Sh.fit_getD hf0 ((q.1 + q.2) / 2))), trivial⟩ fun a w h => then_normal ?_
  refine at_test (decide ((D__impl_Sink_doneAt_1 (x0.getD ((q.1 + q.2) / 2) (0, [])) x1) < 0)) h (by kernel_rfl) (fun h2 => ?_) (fun h2 => ?_)
  ·replace h2 : (D__impl_Sink_doneAt_1 (x0.getD ((q.1 + q.2) / 2) (0, [])) x1) < 0 := of_decide_eq_true h2
   refine at_regq [{}, { nw := true }] { ts := [0, 1, 2, 6, 7, 8, 9, 10], os := [] } [I64 ((((q.1 + q.2) / 2 : Nat) : Int) + 1)] gamOK hT h (by kernel_rfl) ⟨⟨by first | omega | (simp only [lsA]; omega) | (simp <;> omega), by first | omega | (simp only [lsA]; omega) | (simp <;> omega)⟩, trivial⟩ fun a w h => in_normal ?_
   replace h := at_out (σ' := ⟨[(0, aF s218 x0), (1, aI x1), (2, .p (.c (.cl 274 .cnil))), (6, aI 0), (7, aB false), (8, aI ((List.length x0 : Nat) : Int)), (9, aI ((((q.1 + q.2) / 2 : Nat) : Int) + 1)), (10, aI ((q.2 : Nat) : Int))], []⟩) { ts := [0, 1, 2, 6, 7, 8, 9, 10], os := [] } h (by kernel_rfl)
   exact ⟨((q.1 + q.2) / 2 + 1, q.2), at_eq h (st_congr2 (fun (d0 : Int) (d1 : Int) => (⟨[(0, aF s218 x0), (1, aI x1), (2, .p (.c (.cl 274 .cnil))), (6, aI 0), (7, aB false), (8, aI ((List.length x0 : Nat) : Int)), (9, aI d0), (10, aI d1)], []⟩ : St)) (show ((((q.1 + q.2) / 2 : Nat) : Int) + 1 : Int) = (((((q.1 + q.2) / 2 + 1, q.2)).1 : Nat) : Int) from by first | with_reducible rfl | (dsimp only; omega) | rfl) (show (((q.2 : Nat) : Int) : Int) = (((((q.1 + q.2) / 2 + 1, q.2)).2 : Nat) : Int) from by first | with_reducible rfl | (dsimp only; omega) | rfl)), (by dsimp only; first | (refine ⟨by omega, by omega, ?_⟩; exact (bsF_up (by omega) (show ltK (fun x => x.1) (0, []) x0 x1 _ = true from decide_eq_true (cmpI_lt.1 (by assumption)))).symm.trans hok0.2.2) | (refine ⟨by omega, by omega, ?_⟩; exact (bsF_down (by omega) (show ltK (fun x => x.1) (0, []) x0 x1 _ = false from decide_eq_false (fun e => absurd (cmpI_lt.2 e) (by assumption)))).symm.trans hok0.2.2)), (by dsimp only; omega)⟩
  ·replace h2 : ¬ ((D__impl_Sink_doneAt_1 (x0.getD ((q.1 + q.2) / 2) (0, [])) x1) < 0) := of_decide_eq_false h2
   refine at_regq [] { ts := [0, 1, 2, 6, 7, 8, 9, 10], os := [] } [] gamOK hT h (by kernel_rfl) trivial fun a w h => in_normal ?_
   replace h := at_out (σ' := ⟨[(0, aF s218 x0), (1, aI x1), (2, .p (.c (.cl 274 .cnil))), (6, aI 0), (7, aB false), (8, aI ((List.length x0 : Nat) : Int)), (9, aI ((q.1 : Nat) : Int)), (10, aI (((q.1 + q.2) / 2 : Nat) : Int))], []⟩) { ts := [0, 1, 2, 6, 7, 8, 9, 10], os := [] } h (by kernel_rfl)
   exact ⟨(q.1, (q.1 + q.2) / 2), at_eq h (st_congr2 (fun (d0 : Int) (d1 : Int) => (⟨[(0, aF s218 x0), (1, aI x1), (2, .p (.c (.cl 274 .cnil))), (6, aI 0), (7, aB false), (8, aI ((List.length x0 : Nat) : Int)), (9, aI d0), (10, aI d1)], []⟩ : St)) (show (((q.1 : Nat) : Int) : Int) = ((((q.1, (q.1 + q.2) / 2)).1 : Nat) : Int) from by first | with_reducible rfl | (dsimp only; omega) | rfl) (show ((((q.1 + q.2) / 2 : Nat) : Int) : Int) = ((((q.1, (q.1 + q.2) / 2)).2 : Nat) : Int) from by first | with_reducible rfl | (dsimp only; omega) | rfl)), (by dsimp only; first | (refine ⟨by omega, by omega, ?_⟩; exact (bsF_up (by omega) (show ltK (fun x => x.1) (0, []) x0 x1 _ = true from decide_eq_true (cmpI_lt.1 (by assumption)))).symm.trans hok0.2.2) | (refine ⟨by omega, by omega, ?_⟩; exact (bsF_down (by omega) (show ltK (fun x => x.1) (0, []) x0 x1 _ = false from decide_eq_false (fun e => absurd (cmpI_lt.2 e) (by assumption)))).symm.trans hok0.2.2)), (by dsimp only; omega)⟩
 ·replace h1 : ¬ (((q.1 : Nat) : Int) < ((q.2 : Nat) : Int)) := of_decide_eq_false h1
  refine wp_exit (then_exit (then_exit (in_hit (then_normal (wp_seq ?_)))))
  by_cases h3 : ((q.1 : Nat) : Int) < ((List.length x0 : Nat) : Int)
  ·refine at_regq [{}, {}, {}, { hint := some (aB true) }] { ts := [6, 7], os := [] } [(AV.p (.c (.v (.bool (decide (((q.1 : Nat) : Int) < ((List.length x0 : Nat) : Int)))))) = AV.p (.c (.v (.bool true)))), (0 : Int) ≤ ((q.1 : Nat) : Int) ∧ ((q.1 : Nat) : Int) < ((List.length x0 : Nat) : Int), Q__impl_Sink_doneAt_1 (x0.getD q.1 (0, [])) x1] gamOK hT h (by kernel_rfl) ⟨hint_bool (decide_eq_true h3), (by refine ⟨?_, ?_⟩ <;> (first | omega | (simp only [lsA]; omega) | (simp <;> omega))), (by exact (Sh.fit_getD hf0 q.1)), trivial⟩ fun a w h => then_normal (wp_ret ?_)
   exact at_return (S := S_slices_BinarySearchFunc_S_impl_Generation_impl_Generation_int__doneAt_1) (x := (x0, x1, x2, ())) (((q.1 : Nat) : Int), (decide ((D__impl_Sink_doneAt_1 (x0.getD q.1 (0, [])) x1) = 0), ())) [] h (by kernel_rfl) trivial (congrArg (fun z => (z.1, z.2, ())) (show ((((q.1 : Nat) : Int), decide ((D__impl_Sink_doneAt_1 (x0.getD q.1 (0, [])) x1) = 0))) = D_slices_BinarySearchFunc_S_impl_Generation_impl_Generation_int__doneAt_1 x0 x1 x2 from by unfold D_slices_BinarySearchFunc_S_impl_Generation_impl_Generation_int__doneAt_1; (have e := hok0.2.2; rw [bsF_end (by omega)] at e; have e1 : bsK (fun x => x.1) (0, []) x0 x1 = q.1 := e.symm; unfold fndK; rw [e1]; exact Prod.ext rfl (by first | exact fnd_no (f := (fun x => x.1)) (z := (0, [])) (xs := x0) (v := x1) (q := q.1) (by omega) | exact fnd_eq (f := (fun x => x.1)) (z := (0, [])) (xs := x0) (v := x1) (q := q.1) (by omega)))))
  ·refine at_regq [{}, {}, {}, { hint := some (aB false) }] { ts := [6, 7], os := [] } [(AV.p (.c (.v (.bool (decide (((q.1 : Nat) : Int) < ((List.length x0 : Nat) : Int)))))) = AV.p (.c (.v (.bool false))))] gamOK hT h (by kernel_rfl) ⟨hint_bool (decide_eq_false h3), trivial⟩ fun a w h => then_normal (wp_ret ?_)
   exact at_return (S := S_slices_BinarySearchFunc_S_impl_Generation_impl_Generation_int__doneAt_1) (x := (x0, x1, x2, ())) (((q.1 : Nat) : Int), (false, ())) [] h (by kernel_rfl) trivial (congrArg (fun z => (z.1, z.2, ())) (show ((((q.1 : Nat) : Int), false)) = D_slices_BinarySearchFunc_S_impl_Generation_impl_Generation_int__doneAt_1 x0 x1 x2 from by unfold D_slices_BinarySearchFunc_S_impl_Generation_impl_Generation_int__doneAt_1; (have e := hok0.2.2; rw [bsF_end (by omega)] at e; have e1 : bsK (fun x => x.1) (0, []) x0 x1 = q.1 := e.symm; unfold fndK; rw [e1]; exact Prod.ext rfl (by first | exact fnd_no (f := (fun x => x.1)) (z := (0, [])) (xs := x0) (v := x1) (q := q.1) (by omega) | exact fnd_eq (f := (fun x => x.1)) (z := (0, [])) (xs := x0) (v := x1) (q := q.1) (by omega)))))

def D__impl_Sink_doneAt (x0 : T32) (x1 : Int) : Int × Bool := ((D_slices_BinarySearchFunc_S_impl_Generation_impl_Generation_int__doneAt_1 x0.2.2.2.2.1 x1 ()).1, (D_slices_BinarySearchFunc_S_impl_Generation_impl_Generation_int__doneAt_1 x0.2.2.2.2.1 x1 ()).2)
abbrev Q__impl_Sink_doneAt := (fun (x0 : T32) (x1 : Int) => Sh.fit s32 x0)
def S__impl_Sink_doneAt : Sum := { fid := 199, dom := [s32, (.int 3)], cod := [(.int 3), (.bool 4)], dp := true, fz := false, pre := fun x => Q__impl_Sink_doneAt x.1 x.2.1, g := fun x => ((D__impl_Sink_doneAt x.1 x.2.1).1, ((D__impl_Sink_doneAt x.1 x.2.1).2, ())) }
def S__impl_Sink_doneAt_tab : List (Nat × Sum) := [(100009, S_slices_BinarySearchFunc_S_impl_Generation_impl_Generation_int__doneAt_1)]
theorem S__impl_Sink_doneAt_ok : FnOK Try.prog 199 S__impl_Sink_doneAt := by
 refine at_enter 12 (fun x => ⟨[(0, aG [cI x.1.1, cI x.1.2.1, .ro (.int 3) x.1.2.2.1, .ro s112 x.1.2.2.2.1, .ro s218 x.1.2.2.2.2.1, cI x.1.2.2.2.2.2]), (1, aI x.2.1)], []⟩) Try.func199 rfl (by kernel_rfl) (fun x => rfl) ?_
 rintro w0 Z0 ⟨x0, x1, u⟩ a w
 revert x0 x1
 intro (x0 : T32) (x1 : Int) hpre hlens h
 replace h : At w0 Z0 [] 12 ⟨[(0, aG [cI x0.1, cI x0.2.1, .ro (.int 3) x0.2.2.1, .ro s112 x0.2.2.2.1, .ro s218 x0.2.2.2.2.1, cI x0.2.2.2.2.2]), (1, aI x1)], []⟩ a w := h
 replace hpre : Q__impl_Sink_doneAt x0 x1 := hpre
 have hl1 : List.length x0.2.2.1 ≤ 9223372036854775807 := hlens.1.2.2.1.1
 have hl2 : List.length x0.2.2.2.1 ≤ 9223372036854775807 := hlens.1.2.2.2.1.1
 have hl3 : List.length x0.2.2.2.2.1 ≤ 9223372036854775807 := hlens.1.2.2.2.2.1.1
 have hT : TabOK Try.prog S__impl_Sink_doneAt_tab := (.cons S_slices_BinarySearchFunc_S_impl_Generation_impl_Generation_int__doneAt_1_ok .nil)
 have hf0 : Sh.fit s32 x0 := hpre
 have hn0_1 : List.length x0.2.2.1 ≤ 1073741824 := hf0.2.2.1.1
 have hn0_2 : List.length x0.2.2.2.1 ≤ 1073741824 := hf0.2.2.2.1.1
 have hn0_3 : List.length x0.2.2.2.2.1 ≤ 1073741824 := hf0.2.2.2.2.1.1
 refine wp_seq ?_
 refine at_regq [{ ids := [1] }] { ts := [1, 2, 4, 5], os := [1] } [] gamOK hT h (by kernel_rfl) trivial fun a w h => then_normal (wp_seq ?_)
 refine at_regq [{}, {}, {}, { key := some 100009 }] { ts := [4, 5], os := [] } [Q_slices_BinarySearchFunc_S_impl_Generation_impl_Generation_int__doneAt_1 x0.2.2.2.2.1 x1 ()] gamOK hT h (by kernel_rfl) ⟨(by exact hf0.2.2.2.2.1), trivial⟩ fun a w h => then_normal (wp_ret ?_)
 exact at_return (S := S__impl_Sink_doneAt) (x := (x0, x1, ())) ((D_slices_BinarySearchFunc_S_impl_Generation_impl_Generation_int__doneAt_1 x0.2.2.2.2.1 x1 ()).1, ((D_slices_BinarySearchFunc_S_impl_Generation_impl_Generation_int__doneAt_1 x0.2.2.2.2.1 x1 ()).2, ())) [] h (by kernel_rfl) trivial (congrArg (fun z => (z.1, z.2, ())) (show (((D_slices_BinarySearchFunc_S_impl_Generation_impl_Generation_int__doneAt_1 x0.2.2.2.2.1 x1 ()).1, (D_slices_BinarySearchFunc_S_impl_Generation_impl_Generation_int__doneAt_1 x0.2.2.2.2.1 x1 ()).2)) = D__impl_Sink_doneAt x0 x1 from by rfl))

abbrev Q__impl_Sink_missing := (fun (x0 : T32) (x1 : Int) => Sh.fit s32 x0 ∧ (validS x0 = true ∧ (0 ≤ x1 ∧ x1 < ((List.length x0.2.2.1 : Nat) : Int))))
def S__impl_Sink_missing : Sum := { fid := 108, dom := [s32, (.int 3)], cod := [(.int 3)], dp := true, fz := false, pre := fun x => Q__impl_Sink_missing x.1 x.2.1, g := fun x => ((missS x.1 x.2.1), ()) }
def S__impl_Sink_missing_tab : List (Nat × Sum) := [(199, S__impl_Sink_doneAt), (186, S__impl_Sink_decoderAt)]
theorem S__impl_Sink_missing_ok : FnOK Try.prog 108 S__impl_Sink_missing := by
 refine at_enter 43 (fun x => ⟨[(0, aG [cI x.1.1, cI x.1.2.1, .ro (.int 3) x.1.2.2.1, .ro s112 x.1.2.2.2.1, .ro s218 x.1.2.2.2.2.1, cI x.1.2.2.2.2.2]), (1, aI x.2.1)], []⟩) Try.func108 rfl (by kernel_rfl) (fun x => rfl) ?_
 rintro w0 Z0 ⟨x0, x1, u⟩ a w
 revert x0 x1
 intro (x0 : T32) (x1 : Int) hpre hlens h
 replace h : At w0 Z0 [] 43 ⟨[(0, aG [cI x0.1, cI x0.2.1, .ro (.int 3) x0.2.2.1, .ro s112 x0.2.2.2.1, .ro s218 x0.2.2.2.2.1, cI x0.2.2.2.2.2]), (1, aI x1)], []⟩ a w := h
 replace hpre : Q__impl_Sink_missing x0 x1 := hpre
 have hl1 : List.length x0.2.2.1 ≤ 9223372036854775807 := hlens.1.2.2.1.1
 have hl2 : List.length x0.2.2.2.1 ≤ 9223372036854775807 := hlens.1.2.2.2.1.1
 have hl3 : List.length x0.2.2.2.2.1 ≤ 9223372036854775807 := hlens.1.2.2.2.2.1.1
 have hT : TabOK Try.prog S__impl_Sink_missing_tab := (.cons S__impl_Sink_doneAt_ok (.cons S__impl_Sink_decoderAt_ok .nil))
 obtain ⟨hf0, hpx⟩ := hpre
 have hn0_1 : List.length x0.2.2.1 ≤ 1073741824 := hf0.2.2.1.1
 have hn0_2 : List.length x0.2.2.2.1 ≤ 1073741824 := hf0.2.2.2.1.1
 have hn0_3 : List.length x0.2.2.2.2.1 ≤ 1073741824 := hf0.2.2.2.2.1.1
 replace hpx := And.intro (validS_t hpx.1) hpx.2
 have hpx2 := hpx.2
 refine wp_seq ?_
 refine at_regq [{ ids := [1] }] { ts := [1, 2, 4], os := [1] } [] gamOK hT h (by kernel_rfl) trivial fun a w h => then_normal (wp_seq (wp_seq ?_))
 refine at_regq [] { ts := [1, 2, 4, 6], os := [1] } [Q__impl_Sink_doneAt x0 x1] gamOK hT h (by kernel_rfl) ⟨(by exact hf0), trivial⟩ fun a w h => then_normal (wp_seq ?_)
 refine at_regq [] { ts := [1, 2, 4, 15], os := [1] } [] gamOK hT h (by kernel_rfl) trivial fun a w h => then_normal ?_
 refine at_test ((D__impl_Sink_doneAt x0 x1).2) h (by kernel_rfl) (fun h1 => ?_) (fun h1 => ?_)
 ·refine wp_seq ?_
  refine at_regq [] { ts := [1, 2, 4], os := [1] } [] gamOK hT h (by kernel_rfl) trivial fun a w h => then_normal (wp_ret (then_ret ?_))
  exact at_return (S := S__impl_Sink_missing) (x := (x0, x1, ())) (0, ()) [] h (by kernel_rfl) trivial (congrArg (fun z => (z, ())) (show (0) = missS x0 x1 from by exact miss_1 (by assumption)))
 ·refine wp_skip (then_normal (wp_seq (wp_seq ?_)))
  refine at_regq [] { ts := [1, 2, 4, 7, 8], os := [1] } [Q__impl_Sink_decoderAt x0 x1] gamOK hT h (by kernel_rfl) ⟨(by exact hf0), trivial⟩ fun a w h => then_normal (wp_seq ?_)
  refine at_regq [] { ts := [1, 2, 4, 7, 22], os := [1] } [] gamOK hT h (by kernel_rfl) trivial fun a w h => then_normal ?_
  refine at_test ((D__impl_Sink_decoderAt x0 x1).2) h (by kernel_rfl) (fun h2 => ?_) (fun h2 => ?_)
  ·have hb1 : (D__impl_Sink_decoderAt x0 x1).1 = (((bsK (fun x => x.1) (0, (0, (0, (0, [])))) x0.2.2.2.1 x1) : Nat) : Int) := rfl
   have hb2 := fndK_t (f := fun x => x.1) (z := (0, (0, (0, (0, []))))) (xs := x0.2.2.2.1) (v := x1) (by first | exact h2 | exact notF h2)
   have hb3 : (D__impl_Sink_decoderAt x0 x1).1.toNat = (bsK (fun x => x.1) (0, (0, (0, (0, [])))) x0.2.2.2.1 x1) := by rw [hb1]; exact Int.toNat_natCast _
   have hdv := validD_t (decB_v hpx.1.2.1 (i := (D__impl_Sink_decoderAt x0 x1).1.toNat) (by rw [hb3]; exact hb2.1))
   have hdl := hdv.2.1.2.len
   have hdw := hdv.2.1.1
   have hds := hdv.1
   have hdx := hdv.2.2.1
   refine wp_seq ?_
   refine at_anyq [{}, {}, {}, {}, {}, {}, {}, {}, {}, {}, {}, {}, {}, {}, { nw := true }, {}] { ts := [1, 2, 4], os := [1] } [(0 : Int) ≤ (D__impl_Sink_decoderAt x0 x1).1 ∧ (D__impl_Sink_decoderAt x0 x1).1 < ((List.length x0.2.2.2.1 : Nat) : Int), (0 : Int) ≤ (D__impl_Sink_decoderAt x0 x1).1 ∧ (D__impl_Sink_decoderAt x0 x1).1 < ((List.length x0.2.2.2.1 : Nat) : Int), I64 ((x0.2.2.2.1.getD (((D__impl_Sink_decoderAt x0 x1).1).toNat) (0, (0, (0, (0, []))))).2.1 - ((List.length (x0.2.2.2.1.getD (((D__impl_Sink_decoderAt x0 x1).1).toNat) (0, (0, (0, (0, []))))).2.2.2.2 : Nat) : Int))] gamOK hT mixed h (by kernel_rfl) ⟨(by refine ⟨?_, ?_⟩ <;> (first | omega | (simp only [lsA]; omega) | (simp <;> omega))), (by refine ⟨?_, ?_⟩ <;> (first | omega | (simp only [lsA]; omega) | (simp <;> omega))), ⟨by (have hL0 := (show List.length (x0.2.2.2.1.getD (((D__impl_Sink_decoderAt x0 x1).1).toNat) (0, (0, (0, (0, []))))).2.2.2.2 ≤ 1073741824 from ((Sh.fit_getD hf0.2.2.2.1 (((D__impl_Sink_decoderAt x0 x1).1).toNat)).2.2.2.2).1); first | omega | (simp only [lsA]; omega) | (simp <;> omega)), by (have hL0 := (show List.length (x0.2.2.2.1.getD (((D__impl_Sink_decoderAt x0 x1).1).toNat) (0, (0, (0, (0, []))))).2.2.2.2 ≤ 1073741824 from ((Sh.fit_getD hf0.2.2.2.1 (((D__impl_Sink_decoderAt x0 x1).1).toNat)).2.2.2.2).1); first | omega | (simp only [lsA]; omega) | (simp <;> omega))⟩, trivial⟩ fun a w h => then_normal (wp_ret (then_ret ?_))
   exact at_return (S := S__impl_Sink_missing) (x := (x0, x1, ())) ((x0.2.2.2.1.getD (((D__impl_Sink_decoderAt x0 x1).1).toNat) (0, (0, (0, (0, []))))).2.1 - ((List.length (x0.2.2.2.1.getD (((D__impl_Sink_decoderAt x0 x1).1).toNat) (0, (0, (0, (0, []))))).2.2.2.2 : Nat) : Int), ()) [] h (by kernel_rfl) trivial (congrArg (fun z => (z, ())) (show ((x0.2.2.2.1.getD (((D__impl_Sink_decoderAt x0 x1).1).toNat) (0, (0, (0, (0, []))))).2.1 - ((List.length (x0.2.2.2.1.getD (((D__impl_Sink_decoderAt x0 x1).1).toNat) (0, (0, (0, (0, []))))).2.2.2.2 : Nat) : Int)) = missS x0 x1 from by (rw [hb3]; exact miss_2 (by assumption) (by assumption))))
  ·refine wp_skip (then_normal (wp_seq ?_))
   refine at_regq [] { ts := [4], os := [] } [(0 : Int) ≤ x1 ∧ x1 < ((List.length x0.2.2.1 : Nat) : Int)] gamOK hT h (by kernel_rfl) ⟨(by refine ⟨?_, ?_⟩ <;> (first | omega | (simp only [lsA]; omega) | (simp <;> omega))), trivial⟩ fun a w h => then_normal (wp_ret ?_)
   exact at_return (S := S__impl_Sink_missing) (x := (x0, x1, ())) ((x0.2.2.1.getD ((x1).toNat) 0), ()) [] h (by kernel_rfl) trivial (congrArg (fun z => (z, ())) (show ((x0.2.2.1.getD ((x1).toNat) 0)) = missS x0 x1 from by exact miss_3 (by assumption) (by assumption)))

abbrev Q_impl_MissingOf := (fun (x0 : T32) (x1 : Int) => Sh.fit s32 x0)
def S_impl_MissingOf : Sum := { fid := 37, dom := [s32, (.int 3)], cod := [(.int 3)], dp := true, fz := false, pre := fun x => Q_impl_MissingOf x.1 x.2.1, g := fun x => ((missOf x.1 x.2.1), ()) }
def S_impl_MissingOf_tab : List (Nat × Sum) := [(87, S_impl_IsValidSink), (107, S_impl_InRange), (108, S__impl_Sink_missing)]
theorem S_impl_MissingOf_ok : FnOK Try.prog 37 S_impl_MissingOf := by
 refine at_enter 20 (fun x => ⟨[(0, aG [cI x.1.1, cI x.1.2.1, .ro (.int 3) x.1.2.2.1, .ro s112 x.1.2.2.2.1, .ro s218 x.1.2.2.2.2.1, cI x.1.2.2.2.2.2]), (1, aI x.2.1)], []⟩) Try.func37 rfl (by kernel_rfl) (fun x => rfl) ?_
 rintro w0 Z0 ⟨x0, x1, u⟩ a w
 revert x0 x1
 intro (x0 : T32) (x1 : Int) hpre hlens h
 replace h : At w0 Z0 [] 20 ⟨[(0, aG [cI x0.1, cI x0.2.1, .ro (.int 3) x0.2.2.1, .ro s112 x0.2.2.2.1, .ro s218 x0.2.2.2.2.1, cI x0.2.2.2.2.2]), (1, aI x1)], []⟩ a w := h
 replace hpre : Q_impl_MissingOf x0 x1 := hpre
 have hl1 : List.length x0.2.2.1 ≤ 9223372036854775807 := hlens.1.2.2.1.1
 have hl2 : List.length x0.2.2.2.1 ≤ 9223372036854775807 := hlens.1.2.2.2.1.1
 have hl3 : List.length x0.2.2.2.2.1 ≤ 9223372036854775807 := hlens.1.2.2.2.2.1.1
 have hT : TabOK Try.prog S_impl_MissingOf_tab := (.cons S_impl_IsValidSink_ok (.cons S_impl_InRange_ok (.cons S__impl_Sink_missing_ok .nil)))
 have hf0 : Sh.fit s32 x0 := hpre
 have hn0_1 : List.length x0.2.2.1 ≤ 1073741824 := hf0.2.2.1.1
 have hn0_2 : List.length x0.2.2.2.1 ≤ 1073741824 := hf0.2.2.2.1.1
 have hn0_3 : List.length x0.2.2.2.2.1 ≤ 1073741824 := hf0.2.2.2.2.1.1
 refine wp_seq ?_
 refine at_regq [{ ids := [1] }] { ts := [1, 2, 4], os := [1] } [] gamOK hT h (by kernel_rfl) trivial fun a w h => then_normal (wp_seq (wp_seq ?_))
 rcases Bool.eq_false_or_eq_true (!(validS x0)) with h1 | h1
 ·have hzh1 : (validS x0) = false := notT h1
  refine at_regq [{}, {}, { hint := some (aB true) }] { ts := [1, 2, 4, 16], os := [1] } [Q_impl_IsValidSink x0, (AV.p (.c (.v (.bool (!(validS x0))))) = AV.p (.c (.v (.bool true))))] gamOK hT h (by kernel_rfl) ⟨(by exact hf0), hint_bool (h1), trivial⟩ fun a w h => then_normal ?_
  refine at_test true h (by kernel_rfl) (fun hh => ?_) (fun hh => nomatch hh)
  refine wp_seq ?_
  refine at_regq [] { ts := [1, 2, 4], os := [1] } [] gamOK hT h (by kernel_rfl) trivial fun a w h => then_normal (wp_ret (then_ret ?_))
  exact at_return (S := S_impl_MissingOf) (x := (x0, x1, ())) (0, ()) [] h (by kernel_rfl) trivial (congrArg (fun z => (z, ())) (show (0) = missOf x0 x1 from by first | exact missOf_n (by first | (left; assumption) | (right; assumption)) | exact missOf_y (by assumption) (by assumption)))
 ·have hzh1 : (validS x0) = true := notF h1
  have hvh1 := validS_t (notF h1)
  refine at_regq [{}, {}, { hint := some (aB false) }, {}, {}, {}, {}, {}, { nw := true }] { ts := [1, 2, 4, 16], os := [1] } [Q_impl_IsValidSink x0, (AV.p (.c (.v (.bool (!(validS x0))))) = AV.p (.c (.v (.bool false)))), I64 (((List.length x0.2.2.1 : Nat) : Int) - 1), True] gamOK hT h (by kernel_rfl) ⟨(by exact hf0), hint_bool (h1), ⟨by first | omega | (simp only [lsA]; omega) | (simp <;> omega), by first | omega | (simp only [lsA]; omega) | (simp <;> omega)⟩, trivial, trivial⟩ fun a w h => then_normal ?_
  refine at_test (!(inR x1 0 (((List.length x0.2.2.1 : Nat) : Int) - 1))) h (by kernel_rfl) (fun h2 => ?_) (fun h2 => ?_)
  ·replace h2 : (inR x1 0 (((List.length x0.2.2.1 : Nat) : Int) - 1)) = false := notT h2
   have hvh2 := inR_f h2
   refine wp_seq ?_
   refine at_regq [] { ts := [1, 2, 4], os := [1] } [] gamOK hT h (by kernel_rfl) trivial fun a w h => then_normal (wp_ret (then_ret ?_))
   exact at_return (S := S_impl_MissingOf) (x := (x0, x1, ())) (0, ()) [] h (by kernel_rfl) trivial (congrArg (fun z => (z, ())) (show (0) = missOf x0 x1 from by first | exact missOf_n (by first | (left; assumption) | (right; assumption)) | exact missOf_y (by assumption) (by assumption)))
  ·replace h2 : (inR x1 0 (((List.length x0.2.2.1 : Nat) : Int) - 1)) = true := notF h2
   have hvh2 := inR_t h2
   refine wp_skip (then_normal (wp_seq ?_))
   refine at_regq [] { ts := [4], os := [] } [Q__impl_Sink_missing x0 x1] gamOK hT h (by kernel_rfl) ⟨(by exact ⟨hf0, by assumption, by omega⟩), trivial⟩ fun a w h => then_normal (wp_ret ?_)
   exact at_return (S := S_impl_MissingOf) (x := (x0, x1, ())) ((missS x0 x1), ()) [] h (by kernel_rfl) trivial (congrArg (fun z => (z, ())) (show ((missS x0 x1)) = missOf x0 x1 from by first | exact missOf_n (by first | (left; assumption) | (right; assumption)) | exact missOf_y (by assumption) (by assumption)))

def D_spec_l30Find := (fun (s : T32) (v : Int) => idxF (fun e => decide (e.1 = v)) s.2.2.2.1)
abbrev Q_spec_l30Find := (fun (x0 : T32) (x1 : Int) => Sh.fit s32 x0)
def S_spec_l30Find : Sum := { fid := 105, dom := [s32, (.int 3)], cod := [(.int 3)], dp := true, fz := false, pre := fun x => Q_spec_l30Find x.1 x.2.1, g := fun x => ((D_spec_l30Find x.1 x.2.1), ()) }
def S_spec_l30Find_tab : List (Nat × Sum) := []
theorem S_spec_l30Find_ok : FnOK Try.prog 105 S_spec_l30Find := by
 refine at_enter 22 (fun x => ⟨[(0, aG [cI x.1.1, cI x.1.2.1, .ro (.int 3) x.1.2.2.1, .ro s112 x.1.2.2.2.1, .ro s218 x.1.2.2.2.2.1, cI x.1.2.2.2.2.2]), (1, aI x.2.1)], []⟩) Try.func105 rfl (by kernel_rfl) (fun x => rfl) ?_
 rintro w0 Z0 ⟨x0, x1, u⟩ a w
 revert x0 x1
 intro (x0 : T32) (x1 : Int) hpre hlens h
 replace h : At w0 Z0 [] 22 ⟨[(0, aG [cI x0.1, cI x0.2.1, .ro (.int 3) x0.2.2.1, .ro s112 x0.2.2.2.1, .ro s218 x0.2.2.2.2.1, cI x0.2.2.2.2.2]), (1, aI x1)], []⟩ a w := h
 replace hpre : Q_spec_l30Find x0 x1 := hpre
 have hl1 : List.length x0.2.2.1 ≤ 9223372036854775807 := hlens.1.2.2.1.1
 have hl2 : List.length x0.2.2.2.1 ≤ 9223372036854775807 := hlens.1.2.2.2.1.1
 have hl3 : List.length x0.2.2.2.2.1 ≤ 9223372036854775807 := hlens.1.2.2.2.2.1.1
 have hT : TabOK Try.prog S_spec_l30Find_tab := .nil
 have hf0 : Sh.fit s32 x0 := hpre
 have hn0_1 : List.length x0.2.2.1 ≤ 1073741824 := hf0.2.2.1.1
 have hn0_2 : List.length x0.2.2.2.1 ≤ 1073741824 := hf0.2.2.2.1.1
 have hn0_3 : List.length x0.2.2.2.2.1 ≤ 1073741824 := hf0.2.2.2.2.1.1
 refine wp_seq ?_
 refine at_regq [{ ids := [1] }] { ts := [1, 2, 4], os := [1] } [] gamOK hT h (by kernel_rfl) trivial fun a w h => then_normal (wp_seq (wp_seq ?_))
 refine at_regq [] { ts := [1, 2, 4, 5], os := [1] } [] gamOK hT h (by kernel_rfl) trivial fun a w h => then_normal (wp_block ?_)
 replace h := at_out (σ' := ⟨[(1, aI x1), (2, aP 1 0), (4, aI 0), (5, aI 0)], [(1, oX 32 [cI x0.1, cI x0.2.1, .ro (.int 3) x0.2.2.1, .ro s112 x0.2.2.2.1, .ro s218 x0.2.2.2.2.1, cI x0.2.2.2.2.2])]⟩) { ts := [1, 2, 4, 5], os := [1] } h (by kernel_rfl)
 refine at_loop (fun i : Nat => (⟨[(1, aI x1), (2, aP 1 0), (4, aI 0), (5, aI ((i : Nat) : Int))], [(1, oX 32 [cI x0.1, cI x0.2.1, .ro (.int 3) x0.2.2.1, .ro s112 x0.2.2.2.1, .ro s218 x0.2.2.2.2.1, cI x0.2.2.2.2.2])]⟩ : St)) (fun i => (i ≤ List.length x0.2.2.2.1 ∧ noneTo (fun e => decide (e.1 = x1)) x0.2.2.2.1 (0, (0, (0, (0, [])))) i)) (fun i => List.length x0.2.2.2.1 - i) (0) h (st_congr1 (fun (d0 : Int) => (⟨[(1, aI x1), (2, aP 1 0), (4, aI 0), (5, aI d0)], [(1, oX 32 [cI x0.1, cI x0.2.1, .ro (.int 3) x0.2.2.1, .ro s112 x0.2.2.2.1, .ro s218 x0.2.2.2.2.1, cI x0.2.2.2.2.2])]⟩ : St)) (show (0 : Int) = (((0) : Nat) : Int) from by first | with_reducible rfl | (rfl) | rfl)) (by exact ⟨Nat.zero_le _, noneTo_zero⟩) ?_
 intro i a w hok0 h
 refine wp_seq (wp_seq ?_)
 refine at_regq [] { ts := [1, 2, 4, 5, 10], os := [1] } [] gamOK hT h (by kernel_rfl) trivial fun a w h => then_normal ?_
 refine at_test (decide (((i : Nat) : Int) < ((List.length x0.2.2.2.1 : Nat) : Int))) h (by kernel_rfl) (fun h1 => ?_) (fun h1 => ?_)
 ·replace h1 : ((i : Nat) : Int) < ((List.length x0.2.2.2.1 : Nat) : Int) := of_decide_eq_true h1
  refine wp_skip (then_normal (wp_seq (wp_block (wp_seq ?_))))
  refine at_regq [] { ts := [1, 2, 4, 5, 20], os := [1] } [(0 : Int) ≤ ((i : Nat) : Int) ∧ ((i : Nat) : Int) < ((List.length x0.2.2.2.1 : Nat) : Int)] gamOK hT h (by kernel_rfl) ⟨(by refine ⟨?_, ?_⟩ <;> (first | omega | (simp only [lsA]; omega) | (simp <;> omega))), trivial⟩ fun a w h => then_normal ?_
  refine at_test (decide ((x0.2.2.2.1.getD i (0, (0, (0, (0, []))))).1 = x1)) h (by kernel_rfl) (fun h2 => ?_) (fun h2 => ?_)
  ·replace h2 : (x0.2.2.2.1.getD i (0, (0, (0, (0, []))))).1 = x1 := of_decide_eq_true h2
   refine wp_seq ?_
   refine at_regq [] { ts := [1, 2, 4, 5], os := [1] } [] gamOK hT h (by kernel_rfl) trivial fun a w h => then_normal (wp_ret (in_ret (then_ret (then_ret (in_ret (then_ret ?_))))))
   exact at_return (S := S_spec_l30Find) (x := (x0, x1, ())) (((i : Nat) : Int), ()) [] h (by kernel_rfl) trivial (congrArg (fun z => (z, ())) (show (((i : Nat) : Int)) = D_spec_l30Find x0 x1 from by unfold D_spec_l30Find; first | exact (idxF_at (z := (0, (0, (0, (0, []))))) (by omega) hok0.2 (decide_eq_true (by assumption))).symm | exact (idxF_none (z := (0, (0, (0, (0, []))))) (by omega) hok0.2).symm))
  ·replace h2 : ¬ ((x0.2.2.2.1.getD i (0, (0, (0, (0, []))))).1 = x1) := of_decide_eq_false h2
   refine wp_skip (in_normal (then_normal ?_))
   refine at_regq [{}, { nw := true }] { ts := [1, 2, 4, 5], os := [1] } [I64 (((i : Nat) : Int) + 1)] gamOK hT h (by kernel_rfl) ⟨⟨by first | omega | (simp only [lsA]; omega) | (simp <;> omega), by first | omega | (simp only [lsA]; omega) | (simp <;> omega)⟩, trivial⟩ fun a w h => ?_
   replace h := at_out (σ' := ⟨[(1, aI x1), (2, aP 1 0), (4, aI 0), (5, aI (((i : Nat) : Int) + 1))], [(1, oX 32 [cI x0.1, cI x0.2.1, .ro (.int 3) x0.2.2.1, .ro s112 x0.2.2.2.1, .ro s218 x0.2.2.2.2.1, cI x0.2.2.2.2.2])]⟩) { ts := [1, 2, 4, 5], os := [1] } h (by kernel_rfl)
   exact ⟨i + 1, at_eq h (st_congr1 (fun (d0 : Int) => (⟨[(1, aI x1), (2, aP 1 0), (4, aI 0), (5, aI d0)], [(1, oX 32 [cI x0.1, cI x0.2.1, .ro (.int 3) x0.2.2.1, .ro s112 x0.2.2.2.1, .ro s218 x0.2.2.2.2.1, cI x0.2.2.2.2.2])]⟩ : St)) (show (((i : Nat) : Int) + 1 : Int) = (((i + 1) : Nat) : Int) from by first | with_reducible rfl | (omega) | rfl)), (by exact ⟨by omega, noneTo_succ hok0.2 (decide_eq_false (by assumption))⟩), (by omega)⟩
 ·replace h1 : ¬ (((i : Nat) : Int) < ((List.length x0.2.2.2.1 : Nat) : Int)) := of_decide_eq_false h1
  refine wp_exit (then_exit (then_exit (in_hit (then_normal (wp_seq ?_)))))
  refine at_regq [] { ts := [4], os := [] } [] gamOK hT h (by kernel_rfl) trivial fun a w h => then_normal (wp_ret ?_)
  exact at_return (S := S_spec_l30Find) (x := (x0, x1, ())) ((-1), ()) [] h (by kernel_rfl) trivial (congrArg (fun z => (z, ())) (show ((-1)) = D_spec_l30Find x0 x1 from by unfold D_spec_l30Find; first | exact (idxF_at (z := (0, (0, (0, (0, []))))) (by omega) hok0.2 (decide_eq_true (by assumption))).symm | exact (idxF_none (z := (0, (0, (0, (0, []))))) (by omega) hok0.2).symm))

abbrev Q_spec_MissingOf := (fun (x0 : T32) (x1 : Int) => Sh.fit s32 x0)
def S_spec_MissingOf : Sum := { fid := 36, dom := [s32, (.int 3)], cod := [(.int 3)], dp := true, fz := false, pre := fun x => Q_spec_MissingOf x.1 x.2.1, g := fun x => ((missOf x.1 x.2.1), ()) }
def S_spec_MissingOf_tab : List (Nat × Sum) := [(83, S_spec_IsValidSink), (103, S_spec_l1In), (104, S_spec_l30Done), (105, S_spec_l30Find), (106, S_spec_MissingDegrees)]
theorem S_spec_MissingOf_ok : FnOK Try.prog 36 S_spec_MissingOf := by
 refine at_enter 39 (fun x => ⟨[(0, aG [cI x.1.1, cI x.1.2.1, .ro (.int 3) x.1.2.2.1, .ro s112 x.1.2.2.2.1, .ro s218 x.1.2.2.2.2.1, cI x.1.2.2.2.2.2]), (1, aI x.2.1)], []⟩) Try.func36 rfl (by kernel_rfl) (fun x => rfl) ?_
 rintro w0 Z0 ⟨x0, x1, u⟩ a w
 revert x0 x1
 intro (x0 : T32) (x1 : Int) hpre hlens h
 replace h : At w0 Z0 [] 39 ⟨[(0, aG [cI x0.1, cI x0.2.1, .ro (.int 3) x0.2.2.1, .ro s112 x0.2.2.2.1, .ro s218 x0.2.2.2.2.1, cI x0.2.2.2.2.2]), (1, aI x1)], []⟩ a w := h
 replace hpre : Q_spec_MissingOf x0 x1 := hpre
 have hl1 : List.length x0.2.2.1 ≤ 9223372036854775807 := hlens.1.2.2.1.1
 have hl2 : List.length x0.2.2.2.1 ≤ 9223372036854775807 := hlens.1.2.2.2.1.1
 have hl3 : List.length x0.2.2.2.2.1 ≤ 9223372036854775807 := hlens.1.2.2.2.2.1.1
 have hT : TabOK Try.prog S_spec_MissingOf_tab := (.cons S_spec_IsValidSink_ok (.cons S_spec_l1In_ok (.cons S_spec_l30Done_ok (.cons S_spec_l30Find_ok (.cons S_spec_MissingDegrees_ok .nil)))))
 have hf0 : Sh.fit s32 x0 := hpre
 have hn0_1 : List.length x0.2.2.1 ≤ 1073741824 := hf0.2.2.1.1
 have hn0_2 : List.length x0.2.2.2.1 ≤ 1073741824 := hf0.2.2.2.1.1
 have hn0_3 : List.length x0.2.2.2.2.1 ≤ 1073741824 := hf0.2.2.2.2.1.1
 refine wp_seq ?_
 refine at_regq [{ ids := [1] }] { ts := [1, 2, 4], os := [1] } [] gamOK hT h (by kernel_rfl) trivial fun a w h => then_normal (wp_seq (wp_seq ?_))
 rcases Bool.eq_false_or_eq_true (!(validS x0)) with h1 | h1
 ·have hzh1 : (validS x0) = false := notT h1
  refine at_regq [{}, {}, { hint := some (aB true) }] { ts := [1, 2, 4, 22], os := [1] } [Q_spec_IsValidSink x0, (AV.p (.c (.v (.bool (!(validS x0))))) = AV.p (.c (.v (.bool true))))] gamOK hT h (by kernel_rfl) ⟨(by exact hf0), hint_bool (h1), trivial⟩ fun a w h => then_normal ?_
  refine at_test true h (by kernel_rfl) (fun hh => ?_) (fun hh => nomatch hh)
  refine wp_seq ?_
  refine at_regq [] { ts := [1, 2, 4], os := [1] } [] gamOK hT h (by kernel_rfl) trivial fun a w h => then_normal (wp_ret (then_ret ?_))
  exact at_return (S := S_spec_MissingOf) (x := (x0, x1, ())) (0, ()) [] h (by kernel_rfl) trivial (congrArg (fun z => (z, ())) (show (0) = missOf x0 x1 from by first | exact missOf_n (by first | (left; assumption) | (right; assumption)) | (rw [← missOf_y (by assumption) (by assumption)]; first | exact miss_3 hfg hff | (rw [← miss_2 hfg hff, hix, Int.toNat_natCast]; exact if_pos (decB_v (validS_t (s := x0) (by assumption)).2.1 hb2.1)) | exact miss_1 ((any_fnd (gen_srt (validS_t (s := x0) (by assumption)).2.2.1) x1).symm.trans (by assumption)))))
 ·have hzh1 : (validS x0) = true := notF h1
  have hvh1 := validS_t (notF h1)
  rcases Bool.eq_false_or_eq_true (!(inR x1 0 (((List.length x0.2.2.1 : Nat) : Int) - 1))) with h2 | h2
  ·have hzh2 : (inR x1 0 (((List.length x0.2.2.1 : Nat) : Int) - 1)) = false := notT h2
   have hvh2 := inR_f (notT h2)
   refine at_regq [{}, {}, { hint := some (aB false) }, {}, {}, {}, {}, {}, { nw := true }, {}, { hint := some (aB true) }] { ts := [1, 2, 4, 22], os := [1] } [Q_spec_IsValidSink x0, (AV.p (.c (.v (.bool (!(validS x0))))) = AV.p (.c (.v (.bool false)))), I64 (((List.length x0.2.2.1 : Nat) : Int) - 1), True, (AV.p (.c (.v (.bool (!(inR x1 0 (((List.length x0.2.2.1 : Nat) : Int) - 1)))))) = AV.p (.c (.v (.bool true))))] gamOK hT h (by kernel_rfl) ⟨(by exact hf0), hint_bool (h1), ⟨by first | omega | (simp only [lsA]; omega) | (simp <;> omega), by first | omega | (simp only [lsA]; omega) | (simp <;> omega)⟩, trivial, hint_bool (h2), trivial⟩ fun a w h => then_normal ?_
   refine at_test true h (by kernel_rfl) (fun hh => ?_) (fun hh => nomatch hh)
   refine wp_seq ?_
   refine at_regq [] { ts := [1, 2, 4], os := [1] } [] gamOK hT h (by kernel_rfl) trivial fun a w h => then_normal (wp_ret (then_ret ?_))
   exact at_return (S := S_spec_MissingOf) (x := (x0, x1, ())) (0, ()) [] h (by kernel_rfl) trivial (congrArg (fun z => (z, ())) (show (0) = missOf x0 x1 from by first | exact missOf_n (by first | (left; assumption) | (right; assumption)) | (rw [← missOf_y (by assumption) (by assumption)]; first | exact miss_3 hfg hff | (rw [← miss_2 hfg hff, hix, Int.toNat_natCast]; exact if_pos (decB_v (validS_t (s := x0) (by assumption)).2.1 hb2.1)) | exact miss_1 ((any_fnd (gen_srt (validS_t (s := x0) (by assumption)).2.2.1) x1).symm.trans (by assumption)))))
  ·have hzh2 : (inR x1 0 (((List.length x0.2.2.1 : Nat) : Int) - 1)) = true := notF h2
   have hvh2 := inR_t (notF h2)
   refine at_regq [{}, {}, { hint := some (aB false) }, {}, {}, {}, {}, {}, { nw := true }, {}, { hint := some (aB false) }] { ts := [1, 2, 4, 22], os := [1] } [Q_spec_IsValidSink x0, (AV.p (.c (.v (.bool (!(validS x0))))) = AV.p (.c (.v (.bool false)))), I64 (((List.length x0.2.2.1 : Nat) : Int) - 1), True, (AV.p (.c (.v (.bool (!(inR x1 0 (((List.length x0.2.2.1 : Nat) : Int) - 1)))))) = AV.p (.c (.v (.bool false)))), Q_spec_l30Done x0 x1] gamOK hT h (by kernel_rfl) ⟨(by exact hf0), hint_bool (h1), ⟨by first | omega | (simp only [lsA]; omega) | (simp <;> omega), by first | omega | (simp only [lsA]; omega) | (simp <;> omega)⟩, trivial, hint_bool (h2), (by exact hf0), trivial⟩ fun a w h => then_normal ?_
   refine at_test ((D_spec_l30Done x0 x1)) h (by kernel_rfl) (fun h3 => ?_) (fun h3 => ?_)
   ·refine wp_seq ?_
    refine at_regq [] { ts := [1, 2, 4], os := [1] } [] gamOK hT h (by kernel_rfl) trivial fun a w h => then_normal (wp_ret (then_ret ?_))
    exact at_return (S := S_spec_MissingOf) (x := (x0, x1, ())) (0, ()) [] h (by kernel_rfl) trivial (congrArg (fun z => (z, ())) (show (0) = missOf x0 x1 from by first | exact missOf_n (by first | (left; assumption) | (right; assumption)) | (rw [← missOf_y (by assumption) (by assumption)]; first | exact miss_3 hfg hff | (rw [← miss_2 hfg hff, hix, Int.toNat_natCast]; exact if_pos (decB_v (validS_t (s := x0) (by assumption)).2.1 hb2.1)) | exact miss_1 ((any_fnd (gen_srt (validS_t (s := x0) (by assumption)).2.2.1) x1).symm.trans (by assumption)))))
   ·have hsd := dec_srt (validS_t (s := x0) (by assumption)).2.1
    have hsg := gen_srt (validS_t (s := x0) (by assumption)).2.2.1
    have hfg : (fndK (fun x => x.1) (0, []) x0.2.2.2.2.1 x1) = false := (any_fnd hsg x1).symm.trans (by first | exact notT h3 | exact h3)
    refine wp_skip (then_normal (wp_seq ?_))
    refine at_regq [] { ts := [1, 2, 4, 5], os := [1] } [Q_spec_l30Find x0 x1] gamOK hT h (by kernel_rfl) ⟨(by exact hf0), trivial⟩ fun a w h => then_normal (wp_seq (wp_seq ?_))
    refine at_regq [] { ts := [1, 2, 4, 5, 27], os := [1] } [] gamOK hT h (by kernel_rfl) trivial fun a w h => then_normal ?_
    refine at_test (decide ((D_spec_l30Find x0 x1) ≥ 0)) h (by kernel_rfl) (fun h4 => ?_) (fun h4 => ?_)
    ·replace h4 : (D_spec_l30Find x0 x1) ≥ 0 := of_decide_eq_true h4
     have hff : (fndK (fun x => x.1) (0, (0, (0, (0, [])))) x0.2.2.2.1 x1) = true := by
      cases hh : (fndK (fun x => x.1) (0, (0, (0, (0, [])))) x0.2.2.2.1 x1) with
      | true => rfl
      | false => exact absurd (idx_neg hsd hh) (by have h9 := h4; show ¬ ((D_spec_l30Find x0 x1) < 0); omega)
     have hix : (D_spec_l30Find x0 x1) = (((bsK (fun x => x.1) (0, (0, (0, (0, [])))) x0.2.2.2.1 x1) : Nat) : Int) := idx_fnd hsd hff
     have hb2 := fndK_t hff
     have hdv := validD_t (decB_v (validS_t (s := x0) (by assumption)).2.1 hb2.1)
     have hdl := hdv.2.1.2.len
     have hdw := hdv.2.1.1
     refine wp_seq ?_
     refine at_regq [] { ts := [1, 2, 4], os := [1] } [(0 : Int) ≤ (D_spec_l30Find x0 x1) ∧ (D_spec_l30Find x0 x1) < ((List.length x0.2.2.2.1 : Nat) : Int), Q_spec_MissingDegrees (x0.2.2.2.1.getD (((D_spec_l30Find x0 x1)).toNat) (0, (0, (0, (0, [])))))] gamOK hT h (by kernel_rfl) ⟨(by refine ⟨?_, ?_⟩ <;> (first | omega | (simp only [lsA]; omega) | (simp <;> omega))), (by exact (Sh.fit_getD hf0.2.2.2.1 (((D_spec_l30Find x0 x1)).toNat))), trivial⟩ fun a w h => then_normal (wp_ret (then_ret ?_))
     exact at_return (S := S_spec_MissingOf) (x := (x0, x1, ())) ((D_spec_MissingDegrees (x0.2.2.2.1.getD (((D_spec_l30Find x0 x1)).toNat) (0, (0, (0, (0, [])))))), ()) [] h (by kernel_rfl) trivial (congrArg (fun z => (z, ())) (show ((D_spec_MissingDegrees (x0.2.2.2.1.getD (((D_spec_l30Find x0 x1)).toNat) (0, (0, (0, (0, []))))))) = missOf x0 x1 from by first | exact missOf_n (by first | (left; assumption) | (right; assumption)) | (rw [← missOf_y (by assumption) (by assumption)]; first | exact miss_3 hfg hff | (rw [← miss_2 hfg hff, hix, Int.toNat_natCast]; exact if_pos (decB_v (validS_t (s := x0) (by assumption)).2.1 hb2.1)) | exact miss_1 ((any_fnd (gen_srt (validS_t (s := x0) (by assumption)).2.2.1) x1).symm.trans (by assumption)))))
    ·replace h4 : ¬ ((D_spec_l30Find x0 x1) ≥ 0) := of_decide_eq_false h4
     have hff : (fndK (fun x => x.1) (0, (0, (0, (0, [])))) x0.2.2.2.1 x1) = false := by
      cases hh : (fndK (fun x => x.1) (0, (0, (0, (0, [])))) x0.2.2.2.1 x1) with
      | true => exact absurd (idx_fnd hsd hh) (by have h9 := h4; show ¬ ((D_spec_l30Find x0 x1) = _); omega)
      | false => rfl
     refine wp_skip (then_normal (wp_seq ?_))
     refine at_regq [] { ts := [4], os := [] } [(0 : Int) ≤ x1 ∧ x1 < ((List.length x0.2.2.1 : Nat) : Int)] gamOK hT h (by kernel_rfl) ⟨(by refine ⟨?_, ?_⟩ <;> (first | omega | (simp only [lsA]; omega) | (simp <;> omega))), trivial⟩ fun a w h => then_normal (wp_ret ?_)
     exact at_return (S := S_spec_MissingOf) (x := (x0, x1, ())) ((x0.2.2.1.getD ((x1).toNat) 0), ()) [] h (by kernel_rfl) trivial (congrArg (fun z => (z, ())) (show ((x0.2.2.1.getD ((x1).toNat) 0)) = missOf x0 x1 from by first | exact missOf_n (by first | (left; assumption) | (right; assumption)) | (rw [← missOf_y (by assumption) (by assumption)]; first | exact miss_3 hfg hff | (rw [← miss_2 hfg hff, hix, Int.toNat_natCast]; exact if_pos (decB_v (validS_t (s := x0) (by assumption)).2.1 hb2.1)) | exact miss_1 ((any_fnd (gen_srt (validS_t (s := x0) (by assumption)).2.2.1) x1).symm.trans (by assumption)))))

def D_laws_FnExactMissingOf := (fun (_ : T26) (_ : Int) => true)
abbrev Q_laws_FnExactMissingOf := (fun (x0 : T26) (x1 : Int) => Sh.i64 s26 x0 ∧ Sh.i64 (.int 3) x1)
def S_laws_FnExactMissingOf : Sum := { fid := 5, dom := [s26, (.int 3)], cod := [(.bool 4)], dp := true, fz := false, pre := fun x => Q_laws_FnExactMissingOf x.1 x.2.1, g := fun x => ((D_laws_FnExactMissingOf x.1 x.2.1), ()) }
def S_laws_FnExactMissingOf_tab : List (Nat × Sum) := [(12, S_laws_szSink), (14, S_laws_toSink), (36, S_spec_MissingOf), (37, S_impl_MissingOf), (16, S_laws_eqSink)]
theorem S_laws_FnExactMissingOf_ok : FnOK Try.prog 5 S_laws_FnExactMissingOf := by
 refine at_enter 31 (fun x => ⟨[(0, aG [cI x.1.1, cI x.1.2.1, .ro (.int 3) x.1.2.2.1, .ro s108 x.1.2.2.2.1, .ro s223 x.1.2.2.2.2.1, cI x.1.2.2.2.2.2]), (1, aI x.2.1)], []⟩) Try.func5 rfl (by kernel_rfl) (fun x => rfl) ?_
 rintro w0 Z0 ⟨x0, x1, u⟩ a w
 revert x0 x1
 intro (x0 : T26) (x1 : Int) hpre hlens h
 replace h : At w0 Z0 [] 31 ⟨[(0, aG [cI x0.1, cI x0.2.1, .ro (.int 3) x0.2.2.1, .ro s108 x0.2.2.2.1, .ro s223 x0.2.2.2.2.1, cI x0.2.2.2.2.2]), (1, aI x1)], []⟩ a w := h
 replace hpre : Q_laws_FnExactMissingOf x0 x1 := hpre
 have hl1 : List.length x0.2.2.1 ≤ 9223372036854775807 := hlens.1.2.2.1.1
 have hl2 : List.length x0.2.2.2.1 ≤ 9223372036854775807 := hlens.1.2.2.2.1.1
 have hl3 : List.length x0.2.2.2.2.1 ≤ 9223372036854775807 := hlens.1.2.2.2.2.1.1
 have hT : TabOK Try.prog S_laws_FnExactMissingOf_tab := (.cons S_laws_szSink_ok (.cons S_laws_toSink_ok (.cons S_spec_MissingOf_ok (.cons S_impl_MissingOf_ok (.cons S_laws_eqSink_ok .nil)))))
 have hq0 : Sh.sz s32 x0 = Sh.sz s26 x0 := rfl
 have hb0 : Sh.ctT s32 x0 ≤ 11 * Sh.sz s32 x0 := Sh.ctT_le2 s32 x0
 have hz0 : Sh.ct s32 x0 ≤ 11 * (1 + Sh.sz s32 x0) := Sh.ct_le s32 x0
 have ht0 : Sh.sz s26 x0 = (0 + (0 + ((Sh.sz s22 x0.2.2.1) + ((Sh.sz s23 x0.2.2.2.1) + ((Sh.sz s24 x0.2.2.2.2.1) + 0))))) := rfl
 have hs0_1 : Sh.sz s22 x0.2.2.1 = List.length x0.2.2.1 := sz_flat (by rfl) _
 have hs0_2 : Sh.sz s23 x0.2.2.2.1 = List.length x0.2.2.2.1 + ctL (Sh.sz s108) x0.2.2.2.1 := rfl
 have hs0_3 : Sh.sz s24 x0.2.2.2.2.1 = List.length x0.2.2.2.2.1 + ctL (Sh.sz s223) x0.2.2.2.2.1 := rfl
 refine wp_seq ?_
 refine at_regq [{ ids := [1] }] { ts := [1, 2, 4], os := [1] } [] gamOK hT h (by kernel_rfl) trivial fun a w h => then_normal (wp_seq ?_)
 refine at_regq [] { ts := [1, 2, 4, 5], os := [1] } [] gamOK hT h (by kernel_rfl) trivial fun a w h => then_normal (wp_seq ?_)
 refine at_regq [] { ts := [1, 2, 4, 5], os := [1] } [(pSz s26) x0 1048576] gamOK hT h (by kernel_rfl) ⟨(by (show (0 : Int) ≤ _ ∧ _ ≤ (9223372036854775807 : Int); constructor <;> omega)), trivial⟩ fun a w h => then_normal (wp_seq (wp_seq ?_))
 refine at_regq [] { ts := [1, 2, 4, 13], os := [1] } [] gamOK hT h (by kernel_rfl) trivial fun a w h => then_normal ?_
 refine at_test (decide (((szD s26) x0 1048576) < 0)) h (by kernel_rfl) (fun h1 => ?_) (fun h1 => ?_)
 ·replace h1 : ((szD s26) x0 1048576) < 0 := of_decide_eq_true h1
  have hvh1 := szD_neg h1 (by omega)
  refine wp_seq ?_
  refine at_regq [] { ts := [1, 2, 4], os := [1] } [] gamOK hT h (by kernel_rfl) trivial fun a w h => then_normal (wp_ret (then_ret ?_))
  exact at_return (S := S_laws_FnExactMissingOf) (x := (x0, x1, ())) (true, ()) [] h (by kernel_rfl) trivial (congrArg (fun z => (z, ())) (show (true) = D_laws_FnExactMissingOf x0 x1 from by unfold D_laws_FnExactMissingOf; rfl))
 ·replace h1 : ¬ (((szD s26) x0 1048576) < 0) := of_decide_eq_false h1
  have hvh1 := szD_val h1 (by omega)
  refine wp_skip (then_normal (wp_seq ?_))
  refine at_regq [{}, { ids := [2, 3, 4] }] { ts := [1, 2, 4, 6], os := [1] } [(pTo s26) x0, Q_spec_MissingOf x0 x1] gamOK hT h (by kernel_rfl) ⟨(by (show Sh.sz _ _ ≤ 1048576; omega)), (by exact (Sh.fit_of_sz s32 rfl (x := x0) (by omega))), trivial⟩ fun a w h => then_normal (wp_seq ?_)
  refine at_regq [{}, { ids := [5, 6, 7] }, { ids := [8] }] { ts := [1, 2, 4, 6, 7], os := [1, 5, 6, 7, 8] } [(pTo s26) x0] gamOK hT h (by kernel_rfl) ⟨(by (show Sh.sz _ _ ≤ 1048576; omega)), trivial⟩ fun a w h => then_normal (wp_seq ?_)
  refine at_regq [] { ts := [2, 4, 6, 7, 8], os := [1, 5, 6, 7, 8] } [Q_impl_MissingOf x0 x1] gamOK hT h (by kernel_rfl) ⟨(by exact (Sh.fit_of_sz s32 rfl (x := x0) (by omega))), trivial⟩ fun a w h => then_normal (wp_seq (wp_seq ?_))
  refine at_regq [] { ts := [2, 4, 7, 25], os := [1, 5, 6, 7, 8] } [] gamOK hT h (by kernel_rfl) trivial fun a w h => then_normal ?_
  refine at_test (!decide ((missOf x0 x1) = (missOf x0 x1))) h (by kernel_rfl) (fun h2 => ?_) (fun h2 => ?_)
  ·replace h2 : ¬ ((missOf x0 x1) = (missOf x0 x1)) := of_decide_eq_false (notT h2)
   refine wp_seq ?_
   refine at_reg [] { ts := [2, 4, 7], os := [1, 5, 6, 7, 8] } ⟨[(2, aP 1 0), (4, aB false), (7, aP 8 0)], [(1, oX 26 [cI x0.1, cI x0.2.1, .ro (.int 3) x0.2.2.1, .ro s108 x0.2.2.2.1, .ro s223 x0.2.2.2.2.1, cI x0.2.2.2.2.2]), (5, oR (.int 3) x0.2.2.1), (6, oR s112 x0.2.2.2.1), (7, oR s218 x0.2.2.2.2.1), (8, oX 32 [cI x0.1, cI x0.2.1, .sl 5, .sl 6, .sl 7, cI x0.2.2.2.2.2])]⟩ [] gamOK hT h (by kernel_rfl) trivial fun a w h => then_normal (wp_ret (then_ret ?_))
   exact at_return (S := S_laws_FnExactMissingOf) (x := (x0, x1, ())) (false, ()) [] h (by kernel_rfl) trivial (congrArg (fun z => (z, ())) (show (false) = D_laws_FnExactMissingOf x0 x1 from by unfold D_laws_FnExactMissingOf; exact absurd (show _ from by first | rfl | (rfl)) h2))
  ·replace h2 : (missOf x0 x1) = (missOf x0 x1) := of_decide_eq_true (notF h2)
   refine wp_skip (then_normal (wp_seq (wp_seq ?_)))
   refine at_any [{}, {}, { ids := [9, 10, 11] }, {}, {}] { ts := [4, 30], os := [] } ⟨[(4, aB false), (30, aB (!((Sh.eqB s32) x0 x0)))], []⟩ [(pTo s26) x0, True] gamOK hT mixed h (by kernel_rfl) ⟨(by (show Sh.sz _ _ ≤ 1048576; omega)), trivial, trivial⟩ fun a w h => then_normal ?_
   refine at_test (!((Sh.eqB s32) x0 x0)) h (by kernel_rfl) (fun h3 => ?_) (fun h3 => ?_)
   ·replace h3 : ((Sh.eqB s32) x0 x0) = false := notT h3
    refine wp_seq ?_
    refine at_regq [] { ts := [4], os := [] } [] gamOK hT h (by kernel_rfl) trivial fun a w h => then_normal (wp_ret (then_ret ?_))
    exact at_return (S := S_laws_FnExactMissingOf) (x := (x0, x1, ())) (false, ()) [] h (by kernel_rfl) trivial (congrArg (fun z => (z, ())) (show (false) = D_laws_FnExactMissingOf x0 x1 from by unfold D_laws_FnExactMissingOf; exact absurd ((Sh.eqB_iff _).2 (show _ = _ from by first | rfl | (rfl))) (neT h3)))
   ·replace h3 : ((Sh.eqB s32) x0 x0) = true := notF h3
    refine wp_skip (then_normal (wp_seq ?_))
    refine at_regq [] { ts := [4], os := [] } [] gamOK hT h (by kernel_rfl) trivial fun a w h => then_normal (wp_ret ?_)
    exact at_return (S := S_laws_FnExactMissingOf) (x := (x0, x1, ())) (true, ()) [] h (by kernel_rfl) trivial (congrArg (fun z => (z, ())) (show (true) = D_laws_FnExactMissingOf x0 x1 from by unfold D_laws_FnExactMissingOf; rfl))

theorem opn3 : OpensS Try.prog 3 (.int 3) := opensS_int Try.underlying3
theorem co3 : Try.prog.cellsOf 3 = 1 := by kernel_rfl
theorem opn22 : OpensS Try.prog 22 s22 := opensS_slice (a := (.int 3)) Try.underlying22 co3 opn3
theorem co22 : Try.prog.cellsOf 22 = 1 := by kernel_rfl
theorem opn97 : OpensS Try.prog 97 s97 := opensS_slice (a := s22) Try.underlying97 co22 opn22
theorem co97 : Try.prog.cellsOf 97 = 1 := by kernel_rfl
theorem co99 : Try.prog.cellsOf 99 = 2 := by kernel_rfl
theorem opn99 : OpensS Try.prog 99 s99 := by
  intro H enc w base spare held fuel cs x h
  obtain ⟨xs, n, _, _, hl, hlen, hf⟩ := DataW.trod_struct Try.underlying99 h
  obtain ⟨a0, k0, i0⟩ := opensS_field (a := (.int 3)) (i := 0) 0 1 hf hlen rfl rfl rfl co3 opn3
  obtain ⟨a1, k1, i1⟩ := opensS_field (a := s97) (i := 1) 1 1 hf hlen rfl rfl rfl co97 opn97
  rw [co99] at hl
  exact ⟨(a0, a1), (rdS_pair (off := 0) k0 (rdS_last (off := 1) k1 (by omega))), ⟨i0, i1⟩⟩
theorem co108 : Try.prog.cellsOf 108 = 5 := by kernel_rfl
theorem opn108 : OpensS Try.prog 108 s108 := by
  intro H enc w base spare held fuel cs x h
  obtain ⟨xs, n, _, _, hl, hlen, hf⟩ := DataW.trod_struct Try.underlying108 h
  obtain ⟨a0, k0, i0⟩ := opensS_field (a := (.int 3)) (i := 0) 0 1 hf hlen rfl rfl rfl co3 opn3
  obtain ⟨a1, k1, i1⟩ := opensS_field (a := (.int 3)) (i := 1) 1 1 hf hlen rfl rfl rfl co3 opn3
  obtain ⟨a2, k2, i2⟩ := opensS_field (a := (.int 3)) (i := 2) 2 1 hf hlen rfl rfl rfl co3 opn3
  obtain ⟨a3, k3, i3⟩ := opensS_field (a := s99) (i := 3) 3 2 hf hlen rfl rfl rfl co99 opn99
  rw [co108] at hl
  exact ⟨(a0, (a1, (a2, a3))), (rdS_pair (off := 0) k0 (rdS_pair (off := 1) k1 (rdS_pair (off := 2) k2 (rdS_last (off := 3) k3 (by omega))))), ⟨i0, ⟨i1, ⟨i2, i3⟩⟩⟩⟩
theorem opn23 : OpensS Try.prog 23 s23 := opensS_slice (a := s108) Try.underlying23 co108 opn108
theorem co23 : Try.prog.cellsOf 23 = 1 := by kernel_rfl
theorem co223 : Try.prog.cellsOf 223 = 2 := by kernel_rfl
theorem opn223 : OpensS Try.prog 223 s223 := by
  intro H enc w base spare held fuel cs x h
  obtain ⟨xs, n, _, _, hl, hlen, hf⟩ := DataW.trod_struct Try.underlying223 h
  obtain ⟨a0, k0, i0⟩ := opensS_field (a := (.int 3)) (i := 0) 0 1 hf hlen rfl rfl rfl co3 opn3
  obtain ⟨a1, k1, i1⟩ := opensS_field (a := s97) (i := 1) 1 1 hf hlen rfl rfl rfl co97 opn97
  rw [co223] at hl
  exact ⟨(a0, a1), (rdS_pair (off := 0) k0 (rdS_last (off := 1) k1 (by omega))), ⟨i0, i1⟩⟩
theorem opn24 : OpensS Try.prog 24 s24 := opensS_slice (a := s223) Try.underlying24 co223 opn223
theorem co24 : Try.prog.cellsOf 24 = 1 := by kernel_rfl
theorem co26 : Try.prog.cellsOf 26 = 6 := by kernel_rfl
theorem opn26 : OpensS Try.prog 26 s26 := by
  intro H enc w base spare held fuel cs x h
  obtain ⟨xs, n, _, _, hl, hlen, hf⟩ := DataW.trod_struct Try.underlying26 h
  obtain ⟨a0, k0, i0⟩ := opensS_field (a := (.int 3)) (i := 0) 0 1 hf hlen rfl rfl rfl co3 opn3
  obtain ⟨a1, k1, i1⟩ := opensS_field (a := (.int 3)) (i := 1) 1 1 hf hlen rfl rfl rfl co3 opn3
  obtain ⟨a2, k2, i2⟩ := opensS_field (a := s22) (i := 2) 2 1 hf hlen rfl rfl rfl co22 opn22
  obtain ⟨a3, k3, i3⟩ := opensS_field (a := s23) (i := 3) 3 1 hf hlen rfl rfl rfl co23 opn23
  obtain ⟨a4, k4, i4⟩ := opensS_field (a := s24) (i := 4) 4 1 hf hlen rfl rfl rfl co24 opn24
  obtain ⟨a5, k5, i5⟩ := opensS_field (a := (.int 3)) (i := 5) 5 1 hf hlen rfl rfl rfl co3 opn3
  rw [co26] at hl
  exact ⟨(a0, (a1, (a2, (a3, (a4, a5))))), (rdS_pair (off := 0) k0 (rdS_pair (off := 1) k1 (rdS_pair (off := 2) k2 (rdS_pair (off := 3) k3 (rdS_pair (off := 4) k4 (rdS_last (off := 5) k5 (by omega))))))), ⟨i0, ⟨i1, ⟨i2, ⟨i3, ⟨i4, i5⟩⟩⟩⟩⟩⟩
namespace fnExactMissingOf
open Go.ChangeShapes Go.WideShapes Go.ChangeAt Go.RowKit
theorem own : ownKnob Try.prog.godebug = none := by kernel_rfl
theorem laidOut : laidOutB Try.prog = true := fxLaid
set_option maxRecDepth 100000 in
theorem lifted (os : Os) (started : os.Started) (H : Type) (enc : TypeId × Value → H) :
    ReturnsInHanded {} Try.checked os 5 .any (Rows.fnExactMissingOfSpec.pre6 enc Try.prog Try.f5 Rows.fnExactMissingOfRow.domain false) (Rows.fnExactMissingOfSpec.post enc Try.prog Try.f5 false true false false) := by
  refine returnsInHanded_of_change (C := Try.checked) own started (by kernel_rfl) Try.func5
    (ChangeSpec.witness6 (enc := enc) (C := Try.checked) false ⟨#[], #[.agg #[.int .i64 0, .int .i64 0, .slice none 0 0, .slice none 0 0, .slice none 0 0, .int .i64 0], .int .i64 0], []⟩ 8 (by kernel_rfl) (by kernel_rfl) (by kernel_rfl) (by kernel_rfl)) ?_
  intro W base args ds gs before hval0 hW hcnd _
  have hval : ∀ (j : Nat) t v, Try.f5.params[j]? = some t → args[j]? = some v → Value.okWide Try.prog W .any base t v := hval0
  have hW' := hW
  obtain ⟨p, q, hA0, hV, rfl, hfz, hnd⟩ := hW
  have hA : DataW.TrodAll enc Try.prog W 0 (fun _ => true) true Try.f5.params.toList args.toList ds p := hA0
  rw [Try.params5] at hA hval
  obtain ⟨v0, vs0, d0, ds0, p0, q0, hargs, rfl, rfl, h0, r0⟩ := trodAll_cons hA
  obtain ⟨v1, vs1, d1, ds1, p1, q1, rfl, rfl, rfl, h1, r1⟩ := trodAll_cons r0
  obtain ⟨rfl, rfl, rfl⟩ := trodAll_nil r1
  obtain rfl : args = #[v0, v1] := by cases args; simp_all
  obtain ⟨rfl, rfl⟩ := trodVars_none hV
  have k0 := h0
  have lt0 : ∀ x ∈ p0, x.block < W.heap.size := by obtain ⟨m, hm⟩ := k0; exact DataW.trod_lt m _ _ _ hm
  obtain ⟨cs0, rfl, _⟩ := okWide_struct Try.underlying26 (hval 0 26 v0 rfl rfl)
  obtain ⟨cs0⟩ := cs0
  obtain ⟨x0, hx0, i0⟩ : ∃ x : (s26).D, (s26).rd W (fun b => b < W.heap.size) cs0 x ∧ (s26).i64 x := by obtain ⟨fuel, hf⟩ := h0; exact opn26 hf
  have k1 := h1
  have lt1 : ∀ x ∈ p1, x.block < W.heap.size := by obtain ⟨m, hm⟩ := k1; exact DataW.trod_lt m _ _ _ hm
  obtain ⟨a1, rfl, rfl, rfl, w1⟩ := open_int Try.underlying3 (hval 1 3 v1 rfl rfl) h1
  clear hA0 hval0
  refine (calls_law S_laws_FnExactMissingOf_ok (by kernel_rfl) W (fun b => b < W.heap.size) [.agg cs0.toArray, .int .i64 a1] (x0, a1, ()) (fun _ h => h) ⟨argRd_st hx0, argRd_int a1, trivial⟩ ⟨i0, (show I64 a1 from by unfold I64; simpa [Lit.wf, IntKind.min, IntKind.max, IntKind.signed, IntKind.bits] using w1)⟩).mono fun e W' hr => ?_
  obtain ⟨he, bel⟩ := ret_bool hr
  subst he
  exact ⟨_, rfl, _, _, _, [], _, [], hW', trodAll_mk1 (shut_bool Try.underlying4 _), (trodAll_cons_mk (Below.trod laidOut (by kernel_rfl) (of_decide_eq_true (by kernel_rfl)) k0 bel lt0) (trodAll_cons_mk (Below.trod laidOut (by kernel_rfl) (of_decide_eq_true (by kernel_rfl)) k1 bel lt1) trodAll_mk0)), rfl, bel.frame _, fun h => by cases h⟩
theorem closed : joinedFacts Try.prog 5 Try.f5 (Rows.fnExactMissingOfSpec) Rows.fnExactMissingOfRow = true := by
  unfold joinedFacts
  exact (and2 (and2 (and2 (and2 (and2 (and2 (and2 (and2 (and2 (and2 (and2 (and2 (and2 (and2 (and2 (and2 (and2 (and2 (and2 (and2 (and2 (and2 (and2 (and2 (and2 (and2 (and2 (and2 (and2 (and2 (and2 (by kernel_rfl) fxLaid) fxMaps) (by kernel_rfl)) (by kernel_rfl)) (by kernel_rfl)) (by kernel_rfl)) (by kernel_rfl)) (by kernel_rfl)) (by kernel_rfl)) (by kernel_rfl)) (by kernel_rfl)) (by kernel_rfl)) (by kernel_rfl)) (by kernel_rfl)) (by kernel_rfl)) (by kernel_rfl)) (by kernel_rfl)) (by kernel_rfl)) (by kernel_rfl)) (by kernel_rfl)) (by kernel_rfl)) (by kernel_rfl)) (by kernel_rfl)) (by kernel_rfl)) fxEnter) (by rw [fxLifts]; kernel_rfl)) (by rw [fxMake]; kernel_rfl)) (by kernel_rfl)) (by kernel_rfl)) (by kernel_rfl)) (by kernel_rfl))
theorem over : Rows.fnExactMissingOfRow.holds Try.pinned (OpenSpec.ofChange Rows.fnExactMissingOfSpec) :=
  OpenClaim.holds_of_wide 5 Try.f5 rfl rfl rfl rfl rfl rfl rfl ⟨rfl, rfl, rfl, rfl, rfl⟩ rfl rfl rfl rfl rfl (by kernel_rfl) Try.func5 closed
    (of_decide_eq_true (by kernel_rfl)) (by unfold Func.isWrapper; first | (rw [if_pos (by decide +kernel)]; kernel_rfl) | (rw [if_neg (by decide +kernel)]; exact ⟨rfl, rfl⟩))
    (fun os started H enc _ => lifted os started H enc)
/-- the statement -/
theorem proved : Rows.FnExactMissingOfSaid := over
end fnExactMissingOf

end Go.Proofs.Ytdmkjcnppgfeoaa

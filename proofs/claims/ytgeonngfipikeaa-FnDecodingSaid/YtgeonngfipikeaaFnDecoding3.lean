/- The walks of the functions that the law reaches: each summary holds. No condition. -/
import Derived.Test.YtgeonngfipikeaaFnDecoding2
import Derived.Test.YtgeonngfipikeaaLA
import Derived.Test.YtgeonngfipikeaaProg
namespace Go.Proofs.Ytgeonngfipikeaa
open Go.RowKit
set_option linter.unusedVariables false
set_option linter.unusedSimpArgs false
abbrev Q__P_impl_Decoder_add := (fun (x0 : T30) (x1 : T38) => Sh.fit s30 x0 ∧ Sh.fit s38 x1 ∧ validD x0 = true)
def S__P_impl_Decoder_add : Sum := { fid := 40, dom := [s30, s38], cod := [(.bool 4)], dp := true, fz := false, pre := fun x => Q__P_impl_Decoder_add x.1 x.2.1, g := fun x => ((addOKD x.1 x.2.1), ()), kinds := [(.bx 30 0), .rd], upd := fun x => (addUD x.1 x.2.1, (x.2.1, ())) }
def S__P_impl_Decoder_add_tab : List (Nat × Sum) := [(52, S_impl_IsValidPacket), (68, S_impl_PacketRow), (67, S__impl_Basis_reduce), (48, S_impl_LeadingIndex), (33, S_impl_InRange), (100005, S__P_impl_Basis_insert_dec)]
theorem S__P_impl_Decoder_add_ok : FnOK Try.prog 40 S__P_impl_Decoder_add := by
 refine at_enterI 48 [1, 2] [3] (fun us x => ⟨[(0, aP 1 0), (1, aG [cI x.2.1.1, .ro (.int 3) x.2.1.2.1, .ro (.int 3) x.2.1.2.2])], [(1, oX 30 [cI x.1.1, cI x.1.2.1, cI x.1.2.2.1, cI x.1.2.2.2.1, .sl 2]), (2, oR s33 x.1.2.2.2.2), (3, oP 1 (S__P_impl_Decoder_add.hd us 0))]⟩) Try.func40 rfl (by kernel_rfl) (fun us x => rfl) ?_
 rintro w0 Z0 us ⟨x0, x1, u⟩ L a w
 revert x0 x1
 intro (x0 : T30) (x1 : T38) hio hpre hlens h
 replace h : At w0 Z0 L 48 ⟨[(0, aP 1 0), (1, aG [cI x1.1, .ro (.int 3) x1.2.1, .ro (.int 3) x1.2.2])], [(1, oX 30 [cI x0.1, cI x0.2.1, cI x0.2.2.1, cI x0.2.2.2.1, .sl 2]), (2, oR s33 x0.2.2.2.2), (3, oP 1 (S__P_impl_Decoder_add.hd us 0))]⟩ a w := h
 replace hpre : Q__P_impl_Decoder_add x0 x1 := hpre
 have hT : TabOK Try.prog S__P_impl_Decoder_add_tab := (.cons S_impl_IsValidPacket_ok (.cons S_impl_PacketRow_ok (.cons S__impl_Basis_reduce_ok (.cons S_impl_LeadingIndex_ok (.cons S_impl_InRange_ok (.cons S__P_impl_Basis_insert_dec_ok .nil))))))
 obtain ⟨hf0, hf1, hpx⟩ := hpre
 have hn0_1 : List.length x0.2.2.2.2 ≤ 1073741824 := hf0.2.2.2.2.1
 have hn1_2 : List.length x1.2.1 ≤ 1073741824 := hf1.2.1.1
 have hn1_3 : List.length x1.2.2 ≤ 1073741824 := hf1.2.2.1
 have hdv := validD_t hpx
 have hdr := hdv.1
 have hdw := hdv.2.2.1
 refine wp_seq ?_
 refine at_regq [{ ids := [4] }] { ts := [0, 3, 4], os := [1, 2, 3, 4] } [] gamOK hT h (by kernel_rfl) trivial fun a w h => then_normal (wp_seq (wp_seq ?_))
 rcases Bool.eq_false_or_eq_true (!(validP x1 x0.2.1 x0.2.2.1)) with h1 | h1
 ·have hzh1 : (validP x1 x0.2.1 x0.2.2.1) = false := notT h1
  refine at_anyq [{}, {}, {}, {}, {}, {}, {}, {}, {}, {}, { hint := some (aB true) }, {}, {}, {}, {}, {}, {}, {}, {}, {}] { ts := [0, 3, 4, 25], os := [1, 2, 3, 4] } [Q_impl_IsValidPacket x1 x0.2.1 x0.2.2.1, (AV.p (.c (.v (.bool (!(validP x1 x0.2.1 x0.2.2.1))))) = AV.p (.c (.v (.bool true))))] gamOK hT mixed h (by kernel_rfl) ⟨(by exact hf1), hint_bool (h1), trivial⟩ fun a w h => then_normal ?_
  refine at_test true h (by kernel_rfl) (fun hh => ?_) (fun hh => nomatch hh)
  refine wp_seq ?_
  refine at_regq [] { ts := [0, 3, 4], os := [1, 2, 3, 4] } [] gamOK hT h (by kernel_rfl) trivial fun a w h => then_normal (wp_ret (then_ret ?_))
  exact at_returnI (S := S__P_impl_Decoder_add) (x := (x0, x1, ())) [1, 2] [3] (x0, (x1, ())) (some (false, ())) [S__P_impl_Decoder_add.hd us 0 = S__P_impl_Decoder_add.hd us 0] hio h (by kernel_rfl) ⟨rfl, trivial⟩ (by first | rfl | exact congrArg (fun (z : T30) => (z, (x1, ()))) (show (x0 : T30) = addUD x0 x1 from by (first | (rw [addUD_no (addOKD_f (by first | (left; assumption) | (right; left; omega) | (right; right; assumption)))]; done) | (rw [addUD_yes hpx (addOKD_t (by assumption) (by omega) (by assumption))]; done)))) (fun z e => (Option.some.inj e) ▸ (congrArg (fun z => (z, ())) (show (false) = addOKD x0 x1 from by (first | exact (addOKD_f (by first | (left; assumption) | (right; left; omega) | (right; right; assumption))).symm | (rw [insDq_y hpx (by assumption) (by assumption)]; exact (addOKD_t (by assumption) (by omega) (by assumption)).symm)))))
 ·have hzh1 : (validP x1 x0.2.1 x0.2.2.1) = true := notF h1
  have hvh1 := validP_n (notF h1)
  have hrw := addRow hpx (p := x1) (by first | exact notF h1 | exact h1)
  have hrd := LA.redS_rng hrw.1.2 hrw.2
  have hw0 := hrw.1.1
  have hrl := hrw.2.1
  rw [List.length_append] at hrl
  refine at_anyq [{}, {}, {}, {}, {}, {}, {}, {}, {}, {}, { hint := some (aB false) }, {}, {}, {}, {}, {}, {}, {}, {}, {}] { ts := [0, 3, 4, 25], os := [1, 2, 3, 4] } [Q_impl_IsValidPacket x1 x0.2.1 x0.2.2.1, (AV.p (.c (.v (.bool (!(validP x1 x0.2.1 x0.2.2.1))))) = AV.p (.c (.v (.bool false))))] gamOK hT mixed h (by kernel_rfl) ⟨(by exact hf1), hint_bool (h1), trivial⟩ fun a w h => then_normal ?_
  refine at_test (!decide (x1.1 = x0.1)) h (by kernel_rfl) (fun h2 => ?_) (fun h2 => ?_)
  ·replace h2 : ¬ (x1.1 = x0.1) := of_decide_eq_false (notT h2)
   refine wp_seq ?_
   refine at_regq [] { ts := [0, 3, 4], os := [1, 2, 3, 4] } [] gamOK hT h (by kernel_rfl) trivial fun a w h => then_normal (wp_ret (then_ret ?_))
   exact at_returnI (S := S__P_impl_Decoder_add) (x := (x0, x1, ())) [1, 2] [3] (x0, (x1, ())) (some (false, ())) [S__P_impl_Decoder_add.hd us 0 = S__P_impl_Decoder_add.hd us 0] hio h (by kernel_rfl) ⟨rfl, trivial⟩ (by first | rfl | exact congrArg (fun (z : T30) => (z, (x1, ()))) (show (x0 : T30) = addUD x0 x1 from by (first | (rw [addUD_no (addOKD_f (by first | (left; assumption) | (right; left; omega) | (right; right; assumption)))]; done) | (rw [addUD_yes hpx (addOKD_t (by assumption) (by omega) (by assumption))]; done)))) (fun z e => (Option.some.inj e) ▸ (congrArg (fun z => (z, ())) (show (false) = addOKD x0 x1 from by (first | exact (addOKD_f (by first | (left; assumption) | (right; left; omega) | (right; right; assumption))).symm | (rw [insDq_y hpx (by assumption) (by assumption)]; exact (addOKD_t (by assumption) (by omega) (by assumption)).symm)))))
  ·replace h2 : x1.1 = x0.1 := of_decide_eq_true (notF h2)
   refine wp_skip (then_normal (wp_seq ?_))
   refine at_anyq [{}, {}, {}, {}, {}, { ids := [5] }, { ids := [6] }, {}] { ts := [0, 4, 5], os := [1, 2, 3, 6] } [Q_impl_PacketRow x1, Q__impl_Basis_reduce x0.2.2.2 (x1.2.1 ++ x1.2.2)] gamOK hT mixed h (by kernel_rfl) ⟨(by exact hf1), (by exact ⟨hf0.2.2.2, fitV hrw.2 (by omega), hrw⟩), trivial⟩ fun a w h => then_normal (wp_seq ?_)
   rcases Bool.eq_false_or_eq_true ((inR (LA.leadS (LA.redS x0.2.2.2.2 (x1.2.1 ++ x1.2.2))) 0 (x0.2.1 - 1))) with h3 | h3
   ·have hvh3 := inR_t h3
    refine at_anyq [{}, {}, {}, {}, {}, {}, { nw := true }, { hint := some (aB true) }, {}, {}, {}, {}, {}, { ids := [7], key := some 100005 }, {}, {}] { ts := [4], os := [1, 3, 7] } [Q_impl_LeadingIndex (LA.redS x0.2.2.2.2 (x1.2.1 ++ x1.2.2)), I64 (x0.2.1 - 1), True, (AV.p (.c (.v (.bool ((inR (LA.leadS (LA.redS x0.2.2.2.2 (x1.2.1 ++ x1.2.2))) 0 (x0.2.1 - 1)))))) = AV.p (.c (.v (.bool true)))), Q__P_impl_Basis_insert_dec x0 (LA.redS x0.2.2.2.2 (x1.2.1 ++ x1.2.2))] gamOK hT mixed h (by kernel_rfl) ⟨(by exact fitV hrd (by omega)), ⟨by first | omega | (simp only [lsA]; omega) | (simp <;> omega), by first | omega | (simp only [lsA]; omega) | (simp <;> omega)⟩, trivial, hint_bool (h3), (by exact ⟨hf0, fitV hrd (by omega), hrw.1, hrd⟩), trivial⟩ fun a w h => then_normal (wp_ret ?_)
    exact at_returnI (S := S__P_impl_Decoder_add) (x := (x0, x1, ())) [1, 2] [3] ((insUD x0 (LA.redS x0.2.2.2.2 (x1.2.1 ++ x1.2.2))), (x1, ())) (some ((insDq x0 (LA.redS x0.2.2.2.2 (x1.2.1 ++ x1.2.2))), ())) [S__P_impl_Decoder_add.hd us 0 = S__P_impl_Decoder_add.hd us 0] hio h (by kernel_rfl) ⟨rfl, trivial⟩ (by first | rfl | exact congrArg (fun (z : T30) => (z, (x1, ()))) (show ((insUD x0 (LA.redS x0.2.2.2.2 (x1.2.1 ++ x1.2.2))) : T30) = addUD x0 x1 from by (first | (rw [addUD_no (addOKD_f (by first | (left; assumption) | (right; left; omega) | (right; right; assumption)))]; done) | (rw [addUD_yes hpx (addOKD_t (by assumption) (by omega) (by assumption))]; done)))) (fun z e => (Option.some.inj e) ▸ (congrArg (fun z => (z, ())) (show ((insDq x0 (LA.redS x0.2.2.2.2 (x1.2.1 ++ x1.2.2)))) = addOKD x0 x1 from by (first | exact (addOKD_f (by first | (left; assumption) | (right; left; omega) | (right; right; assumption))).symm | (rw [insDq_y hpx (by assumption) (by assumption)]; exact (addOKD_t (by assumption) (by omega) (by assumption)).symm)))))
   ·have hvh3 := inR_f h3
    refine at_anyq [{}, {}, {}, {}, {}, {}, { nw := true }, { hint := some (aB false) }, {}, {}, {}, {}, {}, {}, {}, {}] { ts := [4], os := [1, 2, 3] } [Q_impl_LeadingIndex (LA.redS x0.2.2.2.2 (x1.2.1 ++ x1.2.2)), I64 (x0.2.1 - 1), True, (AV.p (.c (.v (.bool ((inR (LA.leadS (LA.redS x0.2.2.2.2 (x1.2.1 ++ x1.2.2))) 0 (x0.2.1 - 1)))))) = AV.p (.c (.v (.bool false))))] gamOK hT mixed h (by kernel_rfl) ⟨(by exact fitV hrd (by omega)), ⟨by first | omega | (simp only [lsA]; omega) | (simp <;> omega), by first | omega | (simp only [lsA]; omega) | (simp <;> omega)⟩, trivial, hint_bool (h3), trivial⟩ fun a w h => then_normal (wp_ret ?_)
    exact at_returnI (S := S__P_impl_Decoder_add) (x := (x0, x1, ())) [1, 2] [3] (x0, (x1, ())) (some (false, ())) [S__P_impl_Decoder_add.hd us 0 = S__P_impl_Decoder_add.hd us 0] hio h (by kernel_rfl) ⟨rfl, trivial⟩ (by first | rfl | exact congrArg (fun (z : T30) => (z, (x1, ()))) (show (x0 : T30) = addUD x0 x1 from by (first | (rw [addUD_no (addOKD_f (by first | (left; assumption) | (right; left; omega) | (right; right; assumption)))]; done) | (rw [addUD_yes hpx (addOKD_t (by assumption) (by omega) (by assumption))]; done)))) (fun z e => (Option.some.inj e) ▸ (congrArg (fun z => (z, ())) (show (false) = addOKD x0 x1 from by (first | exact (addOKD_f (by first | (left; assumption) | (right; left; omega) | (right; right; assumption))).symm | (rw [insDq_y hpx (by assumption) (by assumption)]; exact (addOKD_t (by assumption) (by omega) (by assumption)).symm)))))

abbrev Q_impl_AddPacket := (fun (x0 : T30) (x1 : T38) => Sh.fit s30 x0 ∧ Sh.fit s38 x1)
def S_impl_AddPacket : Sum := { fid := 11, dom := [s30, s38], cod := [s30, (.bool 4)], dp := true, fz := false, pre := fun x => Q_impl_AddPacket x.1 x.2.1, g := fun x => ((addPk x.1 x.2.1).1, ((addPk x.1 x.2.1).2, ())) }
def S_impl_AddPacket_tab : List (Nat × Sum) := [(39, S__impl_Decoder_clone), (20, S_impl_IsValidDecoder), (40, S__P_impl_Decoder_add)]
theorem S_impl_AddPacket_ok : FnOK Try.prog 11 S_impl_AddPacket := by
 refine at_enter 18 (fun x => ⟨[(0, aG [cI x.1.1, cI x.1.2.1, cI x.1.2.2.1, cI x.1.2.2.2.1, .ro s33 x.1.2.2.2.2]), (1, aG [cI x.2.1.1, .ro (.int 3) x.2.1.2.1, .ro (.int 3) x.2.1.2.2])], []⟩) Try.func11 rfl (by kernel_rfl) (fun x => rfl) ?_
 rintro w0 Z0 ⟨x0, x1, u⟩ a w
 revert x0 x1
 intro (x0 : T30) (x1 : T38) hpre hlens h
 replace hpre : Q_impl_AddPacket x0 x1 := hpre
 have hT : TabOK Try.prog S_impl_AddPacket_tab := (.cons S__impl_Decoder_clone_ok (.cons S_impl_IsValidDecoder_ok (.cons S__P_impl_Decoder_add_ok .nil)))
 obtain ⟨hf0, hf1⟩ := hpre
 have hn0_1 : List.length x0.2.2.2.2 ≤ 1073741824 := hf0.2.2.2.2.1
 have hn1_2 : List.length x1.2.1 ≤ 1073741824 := hf1.2.1.1
 have hn1_3 : List.length x1.2.2 ≤ 1073741824 := hf1.2.2.1
 refine wp_seq ?_
 refine at_regq [{ ids := [1] }, { ids := [2] }, { ids := [3] }] { ts := [2, 3, 4, 5], os := [1, 2, 3] } [] gamOK hT h (by kernel_rfl) trivial fun a w h => then_normal (wp_seq ?_)
 refine at_regq [{}, { ids := [4] }, { ids := [5] }] { ts := [2, 3, 4, 5, 6], os := [1, 2, 3, 4, 5] } [Q__impl_Decoder_clone x0] gamOK hT h (by kernel_rfl) ⟨(by exact hf0), trivial⟩ fun a w h => then_normal (wp_seq ?_)
 rcases Bool.eq_false_or_eq_true ((validD x0)) with h1 | h1
 ·have hvh1 := validD_t h1
  refine at_regq [{}, { hint := some (aB true) }, {}, {}, { ids := [6] }] { ts := [4, 5, 6, 7], os := [3, 5, 6] } [Q_impl_IsValidDecoder x0, (AV.p (.c (.v (.bool ((validD x0))))) = AV.p (.c (.v (.bool true)))), Q__P_impl_Decoder_add x0 x1] gamOK hT h (by kernel_rfl) ⟨(by exact hf0), hint_bool (h1), (by exact ⟨hf0, hf1, by assumption⟩), trivial⟩ fun a w h => then_normal (wp_seq ?_)
  refine at_regq [] { ts := [4, 5], os := [3, 6] } [] gamOK hT h (by kernel_rfl) trivial fun a w h => then_normal (wp_ret ?_)
  exact at_return ((addUD x0 x1), ((addOKD x0 x1), ())) [] h (by kernel_rfl) trivial (congrArg (fun z => (z.1, z.2, ())) (show (((addUD x0 x1), (addOKD x0 x1))) = addPk x0 x1 from by first | exact addPk_y (by assumption) | exact addPk_n (by left; assumption) | (have hq := addPk_y (d := x0) (p := x1) (by assumption); simp_all)))
 ·refine at_regq [{}, { hint := some (aB false) }] { ts := [4, 5, 6, 7], os := [3, 4, 5] } [Q_impl_IsValidDecoder x0, (AV.p (.c (.v (.bool ((validD x0))))) = AV.p (.c (.v (.bool false))))] gamOK hT h (by kernel_rfl) ⟨(by exact hf0), hint_bool (h1), trivial⟩ fun a w h => then_normal (wp_seq ?_)
  refine at_regq [] { ts := [4, 5], os := [3, 4] } [] gamOK hT h (by kernel_rfl) trivial fun a w h => then_normal (wp_ret ?_)
  exact at_return (x0, (false, ())) [] h (by kernel_rfl) trivial (congrArg (fun z => (z.1, z.2, ())) (show ((x0, false)) = addPk x0 x1 from by first | exact addPk_y (by assumption) | exact addPk_n (by left; assumption) | (have hq := addPk_y (d := x0) (p := x1) (by assumption); simp_all)))

abbrev Q_spec_AddPacket := (fun (x0 : T30) (x1 : T38) => Sh.fit s30 x0 ∧ Sh.fit s38 x1)
def S_spec_AddPacket : Sum := { fid := 63, dom := [s30, s38], cod := [s30, (.bool 4)], dp := false, fz := false, pre := fun x => Q_spec_AddPacket x.1 x.2.1, g := fun x => ((addPk x.1 x.2.1).1, ((addPk x.1 x.2.1).2, ())) }
def S_spec_AddPacket_tab : List (Nat × Sum) := [(92, S_spec_l14Copy), (93, S_spec_IsValidDecoder), (94, S_spec_IsValidPacket), (96, S_spec_ReduceVector), (95, S_spec_LeadingIndex), (38, S_spec_l1In), (97, S_spec_InsertVector)]
theorem S_spec_AddPacket_ok : FnOK Try.prog 63 S_spec_AddPacket := by
 refine at_enter 61 (fun x => ⟨[(0, aG [cI x.1.1, cI x.1.2.1, cI x.1.2.2.1, cI x.1.2.2.2.1, .ro s33 x.1.2.2.2.2]), (1, aG [cI x.2.1.1, .ro (.int 3) x.2.1.2.1, .ro (.int 3) x.2.1.2.2])], []⟩) Try.func63 rfl (by kernel_rfl) (fun x => rfl) ?_
 rintro w0 Z0 ⟨x0, x1, u⟩ a w
 revert x0 x1
 intro (x0 : T30) (x1 : T38) hpre hlens h
 replace hpre : Q_spec_AddPacket x0 x1 := hpre
 have hT : TabOK Try.prog S_spec_AddPacket_tab := (.cons S_spec_l14Copy_ok (.cons S_spec_IsValidDecoder_ok (.cons S_spec_IsValidPacket_ok (.cons S_spec_ReduceVector_ok (.cons S_spec_LeadingIndex_ok (.cons S_spec_l1In_ok (.cons S_spec_InsertVector_ok .nil)))))))
 obtain ⟨hf0, hf1⟩ := hpre
 have hn0_1 : List.length x0.2.2.2.2 ≤ 1073741824 := hf0.2.2.2.2.1
 have hn1_2 : List.length x1.2.1 ≤ 1073741824 := hf1.2.1.1
 have hn1_3 : List.length x1.2.2 ≤ 1073741824 := hf1.2.2.1
 refine wp_seq ?_
 refine at_regq [{ ids := [1] }, { ids := [2] }, { ids := [3] }] { ts := [2, 3, 4, 5], os := [1, 2, 3] } [] gamOK hT h (by kernel_rfl) trivial fun a w h => then_normal (wp_seq ?_)
 refine at_regq [{}, { ids := [4] }, { ids := [5] }] { ts := [2, 3, 4, 5, 6], os := [1, 2, 3, 4, 5] } [Q_spec_l14Copy x0] gamOK hT h (by kernel_rfl) ⟨(by exact hf0), trivial⟩ fun a w h => then_normal (wp_seq (wp_seq ?_))
 rcases Bool.eq_false_or_eq_true (!(validD x0)) with h1 | h1
 ·have hzh1 : (validD x0) = false := notT h1
  refine at_regq [{}, {}, { hint := some (aB true) }] { ts := [2, 3, 4, 5, 6, 30], os := [1, 2, 3, 4, 5] } [Q_spec_IsValidDecoder x0, (AV.p (.c (.v (.bool (!(validD x0))))) = AV.p (.c (.v (.bool true))))] gamOK hT h (by kernel_rfl) ⟨(by exact hf0), hint_bool (h1), trivial⟩ fun a w h => then_normal ?_
  refine at_test true h (by kernel_rfl) (fun hh => ?_) (fun hh => nomatch hh)
  refine wp_seq ?_
  refine at_regq [] { ts := [2, 3, 4, 5, 6], os := [1, 2, 3, 4, 5] } [] gamOK hT h (by kernel_rfl) trivial fun a w h => then_normal (wp_ret (then_ret ?_))
  exact at_return (x0, (false, ())) [] h (by kernel_rfl) trivial (congrArg (fun z => (z.1, z.2, ())) (show ((x0, false)) = addPk x0 x1 from by first | exact addPk_n (by first | (left; assumption) | (right; exact addOKD_f (by first | (left; assumption) | (right; left; omega) | (right; right; rw [← hrv]; assumption)))) | exact addPk_s (by assumption) (by assumption) (by omega) (by rw [← hrv]; assumption)))
 ·have hzh1 : (validD x0) = true := notF h1
  have hvh1 := validD_t (notF h1)
  rcases Bool.eq_false_or_eq_true (!(validP x1 x0.2.1 x0.2.2.1)) with h2 | h2
  ·have hzh2 : (validP x1 x0.2.1 x0.2.2.1) = false := notT h2
   refine at_regq [{}, {}, { hint := some (aB false) }, {}, {}, {}, {}, {}, {}, {}, { hint := some (aB true) }] { ts := [2, 3, 4, 5, 6, 30], os := [1, 2, 3, 4, 5] } [Q_spec_IsValidDecoder x0, (AV.p (.c (.v (.bool (!(validD x0))))) = AV.p (.c (.v (.bool false)))), Q_spec_IsValidPacket x1 x0.2.1 x0.2.2.1, (AV.p (.c (.v (.bool (!(validP x1 x0.2.1 x0.2.2.1))))) = AV.p (.c (.v (.bool true))))] gamOK hT h (by kernel_rfl) ⟨(by exact hf0), hint_bool (h1), (by exact hf1), hint_bool (h2), trivial⟩ fun a w h => then_normal ?_
   refine at_test true h (by kernel_rfl) (fun hh => ?_) (fun hh => nomatch hh)
   refine wp_seq ?_
   refine at_regq [] { ts := [2, 3, 4, 5, 6], os := [1, 2, 3, 4, 5] } [] gamOK hT h (by kernel_rfl) trivial fun a w h => then_normal (wp_ret (then_ret ?_))
   exact at_return (x0, (false, ())) [] h (by kernel_rfl) trivial (congrArg (fun z => (z.1, z.2, ())) (show ((x0, false)) = addPk x0 x1 from by first | exact addPk_n (by first | (left; assumption) | (right; exact addOKD_f (by first | (left; assumption) | (right; left; omega) | (right; right; rw [← hrv]; assumption)))) | exact addPk_s (by assumption) (by assumption) (by omega) (by rw [← hrv]; assumption)))
  ·have hzh2 : (validP x1 x0.2.1 x0.2.2.1) = true := notF h2
   have hvh2 := validP_n (notF h2)
   have hrw := addRow (d := x0) (p := x1) (by assumption) (by first | exact notF h2 | exact h2)
   have hrd := LA.redS_rng hrw.1.2 hrw.2
   have hw0 := hrw.1.1
   have hrl := hrw.2.1
   rw [List.length_append] at hrl
   have hrv : D_spec_ReduceVector x0.2.2.2 ([] ++ x1.2.1 ++ x1.2.2) = LA.redS x0.2.2.2.2 (x1.2.1 ++ x1.2.2) := if_pos (takesB_of hrw)
   refine at_regq [{}, {}, { hint := some (aB false) }, {}, {}, {}, {}, {}, {}, {}, { hint := some (aB false) }] { ts := [2, 3, 4, 5, 6, 30], os := [1, 2, 3, 4, 5] } [Q_spec_IsValidDecoder x0, (AV.p (.c (.v (.bool (!(validD x0))))) = AV.p (.c (.v (.bool false)))), Q_spec_IsValidPacket x1 x0.2.1 x0.2.2.1, (AV.p (.c (.v (.bool (!(validP x1 x0.2.1 x0.2.2.1))))) = AV.p (.c (.v (.bool false))))] gamOK hT h (by kernel_rfl) ⟨(by exact hf0), hint_bool (h1), (by exact hf1), hint_bool (h2), trivial⟩ fun a w h => then_normal ?_
   refine at_test (!decide (x1.1 = x0.1)) h (by kernel_rfl) (fun h3 => ?_) (fun h3 => ?_)
   ·replace h3 : ¬ (x1.1 = x0.1) := of_decide_eq_false (notT h3)
    refine wp_seq ?_
    refine at_regq [] { ts := [2, 3, 4, 5, 6], os := [1, 2, 3, 4, 5] } [] gamOK hT h (by kernel_rfl) trivial fun a w h => then_normal (wp_ret (then_ret ?_))
    exact at_return (x0, (false, ())) [] h (by kernel_rfl) trivial (congrArg (fun z => (z.1, z.2, ())) (show ((x0, false)) = addPk x0 x1 from by first | exact addPk_n (by first | (left; assumption) | (right; exact addOKD_f (by first | (left; assumption) | (right; left; omega) | (right; right; rw [← hrv]; assumption)))) | exact addPk_s (by assumption) (by assumption) (by omega) (by rw [← hrv]; assumption)))
   ·replace h3 : x1.1 = x0.1 := of_decide_eq_true (notF h3)
    refine wp_skip (then_normal (wp_seq ?_))
    refine at_anyq [{ ids := [6], dp := false }, {}, {}, { ids := [7], dp := false }, {}, {}, { ids := [8], dp := false }, {}] { ts := [2, 4, 5, 6, 7], os := [1, 3, 4, 5, 8] } [(List.length ([] : List Int) + List.length x1.2.1) * 8 ≤ 140737488355328, (List.length (([] : List Int) ++ x1.2.1) + List.length x1.2.2) * 8 ≤ 140737488355328] gamOK hT mixed h (by kernel_rfl) ⟨(by first | omega | (simp only [lsA]; omega) | (simp <;> omega)), (by first | omega | (simp only [lsA]; omega) | (simp <;> omega)), trivial⟩ fun a w h => then_normal (wp_seq (wp_seq ?_))
    refine at_anyq [{}, {}, {}, { ids := [9] }, {}, {}, {}, { nw := true }, {}, {}] { ts := [2, 4, 5, 6, 7, 48], os := [1, 3, 4, 5, 8] } [Q_spec_ReduceVector x0.2.2.2 ((([] : List Int) ++ x1.2.1) ++ x1.2.2), Q_spec_LeadingIndex (D_spec_ReduceVector x0.2.2.2 ((([] : List Int) ++ x1.2.1) ++ x1.2.2)), I64 (x0.2.1 - 1), True] gamOK hT mixed h (by kernel_rfl) ⟨(by exact ⟨hf0.2.2.2, fitV hrw.2 (by omega)⟩), (by (rw [hrv]; exact fitV hrd (by omega))), ⟨by first | omega | (simp only [lsA]; omega) | (simp <;> omega), by first | omega | (simp only [lsA]; omega) | (simp <;> omega)⟩, trivial, trivial⟩ fun a w h => then_normal ?_
    refine at_test (!(inR (LA.leadS (D_spec_ReduceVector x0.2.2.2 ((([] : List Int) ++ x1.2.1) ++ x1.2.2))) 0 (x0.2.1 - 1))) h (by kernel_rfl) (fun h4 => ?_) (fun h4 => ?_)
    ·replace h4 : (inR (LA.leadS (D_spec_ReduceVector x0.2.2.2 ((([] : List Int) ++ x1.2.1) ++ x1.2.2))) 0 (x0.2.1 - 1)) = false := notT h4
     have hvh4 := inR_f h4
     refine wp_seq ?_
     refine at_regq [] { ts := [2, 4, 5, 6, 7], os := [1, 3, 4, 5, 8] } [] gamOK hT h (by kernel_rfl) trivial fun a w h => then_normal (wp_ret (then_ret ?_))
     exact at_return (x0, (false, ())) [] h (by kernel_rfl) trivial (congrArg (fun z => (z.1, z.2, ())) (show ((x0, false)) = addPk x0 x1 from by first | exact addPk_n (by first | (left; assumption) | (right; exact addOKD_f (by first | (left; assumption) | (right; left; omega) | (right; right; rw [← hrv]; assumption)))) | exact addPk_s (by assumption) (by assumption) (by omega) (by rw [← hrv]; assumption)))
    ·replace h4 : (inR (LA.leadS (D_spec_ReduceVector x0.2.2.2 ((([] : List Int) ++ x1.2.1) ++ x1.2.2))) 0 (x0.2.1 - 1)) = true := notF h4
     have hvh4 := inR_t h4
     refine wp_skip (then_normal (wp_seq ?_))
     replace h := at_out (σ' := ⟨[(2, aP 1 0), (4, aP 3 0), (5, aB false), (6, aP 5 0), (7, aF (.int 3) ((([] : List Int) ++ x1.2.1) ++ x1.2.2))], [(1, oX 30 [cI x0.1, cI x0.2.1, cI x0.2.2.1, cI x0.2.2.2.1, .ro s33 x0.2.2.2.2]), (3, oX 30 [cI 0, cI 0, cI 0, cI 0, cN]), (4, oF s33 x0.2.2.2.2), (5, oX 30 [cI x0.1, cI x0.2.1, cI x0.2.2.1, cI x0.2.2.2.1, .sl 4])]⟩) { fz := [8], ts := [2, 4, 5, 6, 7], os := [1, 3, 4, 5] } h (by kernel_rfl)
     refine at_regq [{}, {}, {}, { ids := [10] }, {}, {}, {}, { ids := [11] }] { ts := [4, 5, 6, 8, 9], os := [3, 4, 5, 10, 11] } [Q_spec_InsertVector x0.2.2.2 ((([] : List Int) ++ x1.2.1) ++ x1.2.2)] gamOK hT h (by kernel_rfl) ⟨(by exact ⟨hf0.2.2.2, fitV hrw.2 (by omega)⟩), trivial⟩ fun a w h => then_normal (wp_seq ?_)
     refine at_regq [] { ts := [4, 5, 6, 9], os := [3, 5, 10] } [] gamOK hT h (by kernel_rfl) trivial fun a w h => then_normal (wp_seq ?_)
     refine at_regq [] { ts := [4, 5], os := [3, 10] } [] gamOK hT h (by kernel_rfl) trivial fun a w h => then_normal (wp_ret ?_)
     exact at_return ((x0.1, (x0.2.1, (x0.2.2.1, (insV x0.2.2.2 ((([] : List Int) ++ x1.2.1) ++ x1.2.2)).1))), ((insV x0.2.2.2 ((([] : List Int) ++ x1.2.1) ++ x1.2.2)).2, ())) [] h (by kernel_rfl) trivial (congrArg (fun z => (z.1, z.2, ())) (show (((x0.1, (x0.2.1, (x0.2.2.1, (insV x0.2.2.2 ((([] : List Int) ++ x1.2.1) ++ x1.2.2)).1))), (insV x0.2.2.2 ((([] : List Int) ++ x1.2.1) ++ x1.2.2)).2)) = addPk x0 x1 from by first | exact addPk_n (by first | (left; assumption) | (right; exact addOKD_f (by first | (left; assumption) | (right; left; omega) | (right; right; rw [← hrv]; assumption)))) | exact addPk_s (by assumption) (by assumption) (by omega) (by rw [← hrv]; assumption)))

def rndN (x0 : Int) (x1 : Int) (x2 : Int) : Int := (if (inR x2 1 1000000000000) = true then (Int.tmod (Int.tmod ((keyed x0 ([x1, 71])) * (keyed x0 ([x1, 71]))) 2147483647) x2) else 0)
def S_impl_RandomNumber : Sum := { fid := 116, dom := [(.int 3), (.int 3), (.int 3)], cod := [(.int 3)], dp := true, fz := false, pre := fun x => True, g := fun x => ((rndN x.1 x.2.1 x.2.2.1), ()) }
def S_impl_RandomNumber_tab : List (Nat × Sum) := [(33, S_impl_InRange), (117, S_impl_KeyedHash)]
theorem S_impl_RandomNumber_ok : FnOK Try.prog 116 S_impl_RandomNumber := by
 refine at_enter 21 (fun x => ⟨[(0, aI x.1), (1, aI x.2.1), (2, aI x.2.2.1)], []⟩) Try.func116 rfl (by kernel_rfl) (fun x => rfl) ?_
 rintro w0 Z0 ⟨x0, x1, x2, u⟩ a w
 revert x0 x1 x2
 intro (x0 : Int) (x1 : Int) (x2 : Int) hpre hlens h
 have hT : TabOK Try.prog S_impl_RandomNumber_tab := (.cons S_impl_InRange_ok (.cons S_impl_KeyedHash_ok .nil))
 have hkb := keyed_bd x0 ([x1, 71])
 refine wp_seq ?_
 refine at_regq [] { ts := [0, 1, 2, 6], os := [] } [] gamOK hT h (by kernel_rfl) trivial fun a w h => then_normal (wp_seq (wp_seq ?_))
 refine at_regq [] { ts := [0, 1, 2, 6, 10], os := [] } [True] gamOK hT h (by kernel_rfl) ⟨trivial, trivial⟩ fun a w h => then_normal ?_
 refine at_test (!(inR x2 1 1000000000000)) h (by kernel_rfl) (fun h1 => ?_) (fun h1 => ?_)
 ·replace h1 : (inR x2 1 1000000000000) = false := notT h1
  have hvh1 := inR_f h1
  refine wp_seq ?_
  refine at_regq [] { ts := [0, 1, 2, 6], os := [] } [] gamOK hT h (by kernel_rfl) trivial fun a w h => then_normal (wp_ret (then_ret ?_))
  exact at_return (0, ()) [] h (by kernel_rfl) trivial (congrArg (fun z => (z, ())) (show (0) = rndN x0 x1 x2 from by first | rfl | (unfold rndN; rw [if_neg (neT h1)])))
 ·replace h1 : (inR x2 1 1000000000000) = true := notF h1
  have hvh1 := inR_t h1
  refine wp_skip (then_normal (wp_seq ?_))
  refine at_regq [{}, {}, { ids := [1] }] { ts := [2, 6, 7], os := [] } [pKey x0 ([x1, 71])] gamOK hT h (by kernel_rfl) ⟨(by (show _ ≤ _; simp)), trivial⟩ fun a w h => then_normal (wp_seq ?_)
  refine at_regq [{}, {}, { nw := true }] { ts := [6], os := [] } [I64 ((keyed x0 ([x1, 71])) * (keyed x0 ([x1, 71]))), (2147483647 : Int) ≠ 0, (x2 : Int) ≠ 0] gamOK hT h (by kernel_rfl) ⟨⟨by (have hA0 := mul_f (keyed x0 ([x1, 71])) (keyed x0 ([x1, 71])); first | omega | (simp only [lsA]; omega) | (simp <;> omega)), by (have hA0 := mul_f (keyed x0 ([x1, 71])) (keyed x0 ([x1, 71])); first | omega | (simp only [lsA]; omega) | (simp <;> omega))⟩, (by first | omega | (simp only [lsA]; omega) | (simp <;> omega)), (by first | omega | (simp only [lsA]; omega) | (simp <;> omega)), trivial⟩ fun a w h => then_normal (wp_ret ?_)
  exact at_return ((Int.tmod (Int.tmod ((keyed x0 ([x1, 71])) * (keyed x0 ([x1, 71]))) 2147483647) x2), ()) [] h (by kernel_rfl) trivial (congrArg (fun z => (z, ())) (show ((Int.tmod (Int.tmod ((keyed x0 ([x1, 71])) * (keyed x0 ([x1, 71]))) 2147483647) x2)) = rndN x0 x1 x2 from by first | rfl | (unfold rndN; rw [if_pos h1])))
theorem rndN_el (s i : Int) : LA.El (rndN s i 1019) := by
 have hkb := keyed_bd s ([i, 71])
 have hm := mul_f (keyed s ([i, 71])) (keyed s ([i, 71]))
 have h1 := tmod_f (keyed s ([i, 71]) * keyed s ([i, 71])) 2147483647 (by decide)
 have h2 := tmod_f ((keyed s ([i, 71]) * keyed s ([i, 71])).tmod 2147483647) 1019 (by decide)
 unfold rndN LA.El
 rw [if_pos (show inR 1019 1 1000000000000 = true from rfl)]
 omega
def unitL (n : Nat) (k : Int) : List Int := (List.range n).map fun (j : Nat) => if (j : Int) = k then 1 else 0
theorem unitL_snoc (n : Nat) (k : Int) : unitL (n + 1) k = unitL n k ++ [if (n : Int) = k then 1 else 0] := by unfold unitL; rw [List.range_succ, List.map_append]; rfl
theorem unitL_len (n : Nat) (k : Int) : (unitL n k).length = n := by simp [unitL]
theorem unitL_set {n : Nat} {k : Int} (h0 : 0 ≤ k) (h : k < n) : List.set (List.replicate n (0 : Int)) k.toNat 1 = unitL n k := by
 apply List.ext_getElem
 ·simp [unitL]
 ·intro i h1 h2
  rw [List.getElem_set]
  simp only [unitL, List.getElem_map, List.getElem_range, List.getElem_replicate]
  by_cases e : k.toNat = i
  ·rw [if_pos e, if_pos (by omega)]
  ·rw [if_neg e, if_neg (by omega)]
def unitV (w i : Int) : List Int := if inR w 0 40 = true ∧ inR i 0 (w - 1) = true then unitL w.toNat i else []
theorem unitV_y {w i : Int} (h : inR w 0 40 = true) (h2 : inR i 0 (w - 1) = true) : unitL w.toNat i = unitV w i := (if_pos ⟨h, h2⟩).symm
theorem unitV_n {w i : Int} (h : inR w 0 40 = false ∨ inR i 0 (w - 1) = false) : [] = unitV w i := by
 unfold unitV; rw [if_neg]
 rintro ⟨h1, h2⟩
 rcases h with h | h
 ·rw [h1] at h; cases h
 ·rw [h2] at h; cases h
theorem unitV_len (w i : Int) : (unitV w i).length ≤ 40 := by
 unfold unitV; split
 ·rename_i h; rw [unitL_len]; have := inR_t h.1; omega
 ·exact Nat.zero_le _
theorem unitL_ok (n : Nat) (k : Int) : LA.VokB n (unitL n k) := ⟨unitL_len n k, fun x hx => by
 obtain ⟨j, _, rfl⟩ := List.mem_map.1 hx
 unfold LA.El; split <;> omega⟩
def rndL (s : Int) (n : Nat) : List Int := (List.range n).map fun (j : Nat) => rndN s (j : Int) 1019
theorem rndL_snoc (s : Int) (n : Nat) : rndL s (n + 1) = rndL s n ++ [rndN s (n : Int) 1019] := by unfold rndL; rw [List.range_succ, List.map_append]; rfl
theorem rndL_len (s : Int) (n : Nat) : (rndL s n).length = n := by simp [rndL]
theorem rndL_at {s : Int} {n i : Nat} (h : i < n) : (rndL s n).getD i 0 = rndN s (i : Int) 1019 := by rw [getD_of_lt (by rw [rndL_len]; exact h)]; simp [rndL]
theorem rndL_zero (s : Int) (n : Nat) : List.replicate n (0 : Int) = copyTo 0 (rndL s n) 0 := by
 have e := copyTo_zero (z := (0 : Int)) (xs := rndL s n)
 rw [rndL_len] at e; exact e
theorem rndL_set {s : Int} {n i : Nat} (h : i < n) : (copyTo 0 (rndL s n) i).set i (rndN s (i : Int) 1019) = copyTo 0 (rndL s n) (i + 1) := by
 rw [← rndL_at h]; exact copyTo_set (by rw [rndL_len]; exact h)
def rndS (s w : Int) : List Int := if inR w 1 40 = true then rndL s w.toNat else []
theorem rndS_len (s w : Int) : (rndS s w).length ≤ 40 := by
 unfold rndS; split
 ·rename_i h; rw [rndL_len]; have := inR_t h; omega
 ·exact Nat.zero_le _
theorem rndS_eq {s w : Int} {i : Nat} (h : i = 0 ∨ ((i : Int) ≤ w ∧ inR w 1 40 = true)) (he : ¬ (i : Int) < w ∨ inR w 1 40 = false) : rndL s i = rndS s w := by
 unfold rndS
 cases hi : inR w 1 40 with
 | true =>
  rw [if_pos rfl]
  have hw := inR_t hi
  rcases he with he | he
  ·congr 1; omega
  ·rw [hi] at he; cases he
 | false =>
  rw [if_neg (by decide)]
  rcases h with h | h
  ·subst h; rfl
  ·rw [hi] at h; cases h.2
def rndV (s w : Int) : List Int := if 0 < (rndS s w).length ∧ LA.leadS (rndS s w) < 0 then (rndS s w).set 0 1 else rndS s w
theorem rndV_1 {s w : Int} (h : inR w 1 40 = true) (h2 : LA.leadS (rndL s w.toNat) < 0) : (rndL s w.toNat).set 0 1 = rndV s w := by
 unfold rndV rndS; rw [if_pos h, if_pos ⟨by rw [rndL_len]; have := inR_t h; omega, h2⟩]
theorem rndV_2 {s w : Int} (h : inR w 1 40 = true) (h2 : ¬ LA.leadS (rndL s w.toNat) < 0) : rndL s w.toNat = rndV s w := by
 unfold rndV rndS; rw [if_pos h, if_neg (fun e => h2 e.2)]
theorem rndV_0 {s w : Int} (h : inR w 1 40 = false) : [] = rndV s w := by
 unfold rndV rndS; rw [h]; simp
theorem rndV_len (s w : Int) : (rndV s w).length ≤ 40 := by
 have := rndS_len s w
 unfold rndV; split
 ·rw [List.length_set]; exact this
 ·exact this
theorem rndV_at {s w : Int} (h : 1 ≤ w ∧ w ≤ 40) : (rndV s w).length = w.toNat := by
 have e : rndS s w = rndL s w.toNat := if_pos (inR_true h)
 unfold rndV; rw [e]; split
 ·rw [List.length_set, rndL_len]
 ·rw [rndL_len]
theorem rndV_ok {s w : Int} (h : 1 ≤ w ∧ w ≤ 40) : LA.VokB w.toNat (rndV s w) := by
 refine ⟨rndV_at h, fun x hx => ?_⟩
 have e : rndS s w = rndL s w.toNat := if_pos (inR_true h)
 have hl : ∀ y ∈ rndL s w.toNat, LA.El y := fun y hy => by
  obtain ⟨j, _, rfl⟩ := List.mem_map.1 hy
  exact rndN_el _ _
 unfold rndV at hx; rw [e] at hx
 split at hx
 ·rcases List.mem_or_eq_of_mem_set hx with hx | hx
  ·exact hl x hx
  ·rw [hx]; unfold LA.El; omega
 ·exact hl x hx
def combTo (vs : List (List Int)) (cs : List Int) : Nat → List Int
 | 0 => List.replicate (vs.getD 0 []).length 0
 | i + 1 => LA.addS (combTo vs cs i) (vs.getD i []) (cs.getD i 0)
def combS (vs : List (List Int)) (cs : List Int) : List Int := combTo vs cs vs.length
abbrev cvB (vs : List (List Int)) (v : List Int) : Bool := validV v && decide (v.length = (vs.getD 0 []).length)
theorem cvB_ok {vs : List (List Int)} {v : List Int} (h : cvB vs v = true) : LA.VokB (vs.getD 0 []).length v := by
 unfold cvB at h; rw [Bool.and_eq_true] at h
 exact ⟨of_decide_eq_true h.2, (validV_t h.1).2.1⟩
theorem cvB_40 {vs : List (List Int)} {v : List Int} (h : cvB vs v = true) : (vs.getD 0 []).length ≤ 40 := by
 unfold cvB at h; rw [Bool.and_eq_true] at h
 have h1 := of_decide_eq_true h.2
 have := (validV_t h.1).1; omega
theorem combTo_ok {n : Nat} {vs : List (List Int)} {cs : List Int} (hn : (vs.getD 0 []).length = n) (hc : ∀ j, 0 ≤ cs.getD j 0 ∧ cs.getD j 0 ≤ 1018) : ∀ i, (∀ j, j < i → LA.VokB n (vs.getD j [])) → LA.VokB n (combTo vs cs i)
 | 0, _ => by
  refine ⟨by simp only [combTo]; rw [List.length_replicate, hn], fun x hx => ?_⟩
  simp only [combTo] at hx
  rw [(List.mem_replicate.1 hx).2]; unfold LA.El; omega
 | i + 1, h => (LA.addS_ok (combTo_ok hn hc i (fun j hj => h j (by omega))) (h i (by omega)) (hc i)).1
def combV (vs : List (List Int)) (cs : List Int) : List Int := if (¬ vs.length = 0 ∧ vs.length = cs.length) ∧ validV cs = true ∧ vs.all (cvB vs) = true then combS vs cs else []
theorem combV_y {vs : List (List Int)} {cs : List Int} (h1 : ¬ vs.length = 0) (h2 : vs.length = cs.length) (h3 : validV cs = true) (h4 : vs.all (cvB vs) = true) : combS vs cs = combV vs cs := (if_pos ⟨⟨h1, h2⟩, h3, h4⟩).symm
theorem combV_n {vs : List (List Int)} {cs : List Int} (h : vs.length = 0 ∨ ¬ vs.length = cs.length ∨ validV cs = false ∨ vs.all (cvB vs) = false) : [] = combV vs cs := by
 unfold combV; rw [if_neg]
 rintro ⟨⟨h1, h2⟩, h3, h4⟩
 rcases h with h | h | h | h
 ·exact h1 h
 ·exact h h2
 ·rw [h3] at h; cases h
 ·rw [h4] at h; cases h
theorem combV_len (vs : List (List Int)) (cs : List Int) : (combV vs cs).length ≤ 40 := by
 unfold combV; split
 ·rename_i h
  have hp := List.all_eq_true.1 h.2.2
  have h0 := hp _ (getD_mem (z := []) (show 0 < vs.length by have := h.1.1; omega))
  have := (combTo_ok (n := (vs.getD 0 []).length) (cs := cs) rfl (validV_t h.2.1).2.2 vs.length (fun j hj => cvB_ok (hp _ (getD_mem hj)))).1
  have := cvB_40 h0
  unfold combS; omega
 ·exact Nat.zero_le _
theorem combV_pos {vs : List (List Int)} {cs : List Int} (h : ¬ (combV vs cs).length = 0) : 0 < vs.length := by
 rcases Nat.eq_zero_or_pos vs.length with h0 | h0
 ·rw [← combV_n (.inl h0)] at h; exact absurd rfl h
 ·exact h0
def combP (vs : List (List Int)) (cs : List Int) : Prop := (0 < vs.length ∧ vs.length ≤ cs.length ∧ (vs.getD 0 []).length ≤ 40) ∧ (∀ j, j < vs.length → LA.VokB (vs.getD 0 []).length (vs.getD j [])) ∧ ∀ j, 0 ≤ cs.getD j 0 ∧ cs.getD j 0 ≤ 1018
def pays (ps : List T38) : List (List Int) := ps.map fun p => p.2.2
theorem pays_len (ps : List T38) : (pays ps).length = ps.length := by simp [pays]
theorem pays_snoc (ps : List T38) (p : T38) : pays (ps ++ [p]) = pays ps ++ [p.2.2] := by simp [pays]
theorem fit_pays {ps : List T38} (h : Sh.fit s52 ps) : Sh.fit s24 (pays ps) := ⟨by rw [pays_len]; exact h.1, fun v hv => by
 obtain ⟨p, hp, rfl⟩ := List.mem_map.1 hv
 exact (h.2 p hp).2.2⟩
def genB0 (ps : List T38) (p : T38) : Bool := decide (p.1 = (ps.getD 0 (0, ([], []))).1)
def comP (ps : List T38) (cs : List Int) : T38 × Bool := if ps.all (fun p => decide (p.1 = (ps.getD 0 (0, ([], []))).1)) = true ∧ ¬ (combV (cofs ps) cs).length = 0 ∧ ¬ (combV (pays ps) cs).length = 0 then (((ps.getD 0 (0, ([], []))).1, combV (cofs ps) cs, combV (pays ps) cs), true) else ((0, [], []), false)
theorem comP_y {ps : List T38} {cs : List Int} (h1 : ps.all (fun p => decide (p.1 = (ps.getD 0 (0, ([], []))).1)) = true) (h2 : ¬ (combV (cofs ps) cs).length = 0) (h3 : ¬ (combV (pays ps) cs).length = 0) : (((ps.getD 0 (0, ([], []))).1, combV (cofs ps) cs, combV (pays ps) cs), true) = comP ps cs := (if_pos ⟨h1, h2, h3⟩).symm
theorem comP_n {ps : List T38} {cs : List Int} (h : ps.all (fun p => decide (p.1 = (ps.getD 0 (0, ([], []))).1)) = false ∨ (combV (cofs ps) cs).length = 0 ∨ (combV (pays ps) cs).length = 0) : ((0, [], []), false) = comP ps cs := by
 unfold comP; rw [if_neg]
 rintro ⟨h1, h2, h3⟩
 rcases h with h | h | h
 ·rw [h1] at h; cases h
 ·exact h2 h
 ·exact h3 h
theorem comP_sz (ps : List T38) (cs : List Int) : Sh.sz s38 (comP ps cs).1 ≤ 80 := by
 unfold comP; split
 ·show 0 + (Sh.sz s33 _ + Sh.sz s33 _) ≤ 80
  rw [sz_flat (by rfl), sz_flat (by rfl)]
  have := combV_len (cofs ps) cs; have := combV_len (pays ps) cs
  dsimp only; omega
 ·exact Nat.zero_le _
def recNo (r : T54) : Bool := decide (List.length r.2.2.2.1 = 0) || decide (r.2.2.2.2 = 1000000000000)
def recD (r : T54) (s : Int) : T38 × Bool := if recNo r = true then ((0, [], []), false) else comP r.2.2.2.1 (rndV (keyed s ([r.1, r.2.2.2.2])) ((List.length r.2.2.2.1 : Nat) : Int))
def recU (r : T54) (s : Int) : T54 := if recNo r = true then r else (r.1, r.2.1, r.2.2.1, r.2.2.2.1, r.2.2.2.2 + 1)
def recodeR (r : T54) (s : Int) : T54 × T38 × Bool := if validR r = true then (recU r s, recD r s) else (r, (0, [], []), false)
theorem recNo_t {r : T54} (h : List.length r.2.2.2.1 = 0 ∨ r.2.2.2.2 = 1000000000000) : recNo r = true := by unfold recNo; rw [Bool.or_eq_true, decide_eq_true_iff, decide_eq_true_iff]; exact h
theorem recNo_f {r : T54} (h1 : ¬ List.length r.2.2.2.1 = 0) (h2 : ¬ r.2.2.2.2 = 1000000000000) : recNo r = false := by unfold recNo; rw [decide_eq_false h1, decide_eq_false h2]; rfl
theorem recU_y {r : T54} {s : Int} (h : recNo r = true) : r = recU r s := (if_pos h).symm
theorem recU_n {r : T54} {s : Int} (h : recNo r = false) : (r.1, r.2.1, r.2.2.1, r.2.2.2.1, r.2.2.2.2 + 1) = recU r s := (if_neg (by rw [h]; decide)).symm
theorem recD_y {r : T54} {s : Int} (h : recNo r = true) : ((0, [], []), false) = recD r s := (if_pos h).symm
theorem recD_n {r : T54} {s : Int} (h : recNo r = false) : comP r.2.2.2.1 (rndV (keyed s ([r.1, r.2.2.2.2])) ((List.length r.2.2.2.1 : Nat) : Int)) = recD r s := (if_neg (by rw [h]; decide)).symm
theorem recodeR_y {r : T54} {s : Int} (h : validR r = true) : (recU r s, recD r s) = recodeR r s := (if_pos h).symm
theorem recodeR_n {r : T54} {s : Int} (h : validR r = false) : (r, (0, [], []), false) = recodeR r s := (if_neg (by rw [h]; decide)).symm
theorem recU_sz (r : T54) (s : Int) : Sh.sz s54 (recU r s) = Sh.sz s54 r := by unfold recU; split <;> rfl
theorem recodeR_sz (r : T54) (s : Int) : Sh.sz s54 (recodeR r s).1 = Sh.sz s54 r ∧ Sh.sz s38 (recodeR r s).2.1 ≤ 80 := by
 unfold recodeR; split
 ·refine ⟨recU_sz r s, ?_⟩
  show Sh.sz s38 (recD r s).1 ≤ 80
  unfold recD; split
  ·exact Nat.zero_le _
  ·exact comP_sz _ _
 ·exact ⟨rfl, Nat.zero_le _⟩

def S_impl_UnitVector : Sum := { fid := 34, dom := [(.int 3), (.int 3)], cod := [s33], dp := true, fz := false, pre := fun x => True, g := fun x => ((unitV x.1 x.2.1), ()) }
def S_impl_UnitVector_tab : List (Nat × Sum) := [(33, S_impl_InRange)]
theorem S_impl_UnitVector_ok : FnOK Try.prog 34 S_impl_UnitVector := by
 refine at_enter 22 (fun x => ⟨[(0, aI x.1), (1, aI x.2.1)], []⟩) Try.func34 rfl (by kernel_rfl) (fun x => rfl) ?_
 rintro w0 Z0 ⟨x0, x1, u⟩ a w
 revert x0 x1
 intro (x0 : Int) (x1 : Int) hpre hlens h
 have hT : TabOK Try.prog S_impl_UnitVector_tab := (.cons S_impl_InRange_ok .nil)
 refine wp_seq ?_
 refine at_regq [] { ts := [0, 1, 4], os := [] } [] gamOK hT h (by kernel_rfl) trivial fun a w h => then_normal (wp_seq (wp_seq ?_))
 rcases Bool.eq_false_or_eq_true (!(inR x0 0 40)) with h1 | h1
 ·have hzh1 : (inR x0 0 40) = false := notT h1
  have hvh1 := inR_f (notT h1)
  refine at_regq [{}, {}, { hint := some (aB true) }] { ts := [0, 1, 4, 15], os := [] } [True, (AV.p (.c (.v (.bool (!(inR x0 0 40))))) = AV.p (.c (.v (.bool true))))] gamOK hT h (by kernel_rfl) ⟨trivial, hint_bool (h1), trivial⟩ fun a w h => then_normal ?_
  refine at_test true h (by kernel_rfl) (fun hh => ?_) (fun hh => nomatch hh)
  refine wp_seq ?_
  refine at_regq [] { ts := [0, 1, 4], os := [] } [] gamOK hT h (by kernel_rfl) trivial fun a w h => then_normal (wp_ret (then_ret ?_))
  exact at_return (([] : List Int), ()) [] h (by kernel_rfl) trivial (congrArg (fun z => (z, ())) (show (([] : List Int)) = unitV x0 x1 from by first | exact unitV_n (by first | (left; assumption) | (right; assumption)) | (rw [← unitV_y (by assumption) (by assumption)]; exact unitL_set (by omega) (by omega))))
 ·have hzh1 : (inR x0 0 40) = true := notF h1
  have hvh1 := inR_t (notF h1)
  refine at_regq [{}, {}, { hint := some (aB false) }, {}, {}, {}, { nw := true }] { ts := [0, 1, 4, 15], os := [] } [True, (AV.p (.c (.v (.bool (!(inR x0 0 40))))) = AV.p (.c (.v (.bool false)))), I64 (x0 - 1), True] gamOK hT h (by kernel_rfl) ⟨trivial, hint_bool (h1), ⟨by first | omega | (simp only [lsA]; omega) | (simp <;> omega), by first | omega | (simp only [lsA]; omega) | (simp <;> omega)⟩, trivial, trivial⟩ fun a w h => then_normal ?_
  refine at_test (!(inR x1 0 (x0 - 1))) h (by kernel_rfl) (fun h2 => ?_) (fun h2 => ?_)
  ·replace h2 : (inR x1 0 (x0 - 1)) = false := notT h2
   have hvh2 := inR_f h2
   refine wp_seq ?_
   refine at_regq [] { ts := [0, 1, 4], os := [] } [] gamOK hT h (by kernel_rfl) trivial fun a w h => then_normal (wp_ret (then_ret ?_))
   exact at_return (([] : List Int), ()) [] h (by kernel_rfl) trivial (congrArg (fun z => (z, ())) (show (([] : List Int)) = unitV x0 x1 from by first | exact unitV_n (by first | (left; assumption) | (right; assumption)) | (rw [← unitV_y (by assumption) (by assumption)]; exact unitL_set (by omega) (by omega))))
  ·replace h2 : (inR x1 0 (x0 - 1)) = true := notF h2
   have hvh2 := inR_t h2
   refine wp_skip (then_normal (wp_seq ?_))
   refine at_regq [{}, { ids := [1] }] { ts := [1, 4, 5], os := [1] } [(0 : Int) ≤ x0 ∧ x0 = x0 ∧ x0 * (8 : Nat) ≤ (140737488355328 : Int)] gamOK hT h (by kernel_rfl) ⟨(by refine ⟨?_, ?_, ?_⟩ <;> ((have hA0 := mul_f x0 (8 : Nat); first | omega | (simp only [lsA]; omega) | (simp <;> omega)))), trivial⟩ fun a w h => then_normal (wp_seq ?_)
   refine at_regq [] { ts := [4, 5], os := [1] } [(0 : Int) ≤ x1 ∧ x1 < ((List.length (List.replicate ((x0).toNat) (0 : Int)) : Nat) : Int), (x1).toNat < List.length (List.replicate ((x0).toNat) (0 : Int))] gamOK hT h (by kernel_rfl) ⟨(by refine ⟨?_, ?_⟩ <;> (first | omega | (simp only [lsA]; omega) | (simp <;> omega))), (by first | omega | (simp only [lsA]; omega) | (simp <;> omega)), trivial⟩ fun a w h => then_normal (wp_seq ?_)
   refine at_regq [] { ts := [4], os := [1] } [] gamOK hT h (by kernel_rfl) trivial fun a w h => then_normal (wp_ret ?_)
   exact at_return ((List.set (List.replicate ((x0).toNat) (0 : Int)) ((x1).toNat) 1), ()) [] h (by kernel_rfl) trivial (congrArg (fun z => (z, ())) (show ((List.set (List.replicate ((x0).toNat) (0 : Int)) ((x1).toNat) 1)) = unitV x0 x1 from by first | exact unitV_n (by first | (left; assumption) | (right; assumption)) | (rw [← unitV_y (by assumption) (by assumption)]; exact unitL_set (by omega) (by omega))))

def S_spec_UnitVector : Sum := { fid := 17, dom := [(.int 3), (.int 3)], cod := [s33], dp := true, fz := false, pre := fun x => True, g := fun x => ((unitV x.1 x.2.1), ()) }
def S_spec_UnitVector_tab : List (Nat × Sum) := [(38, S_spec_l1In)]
theorem S_spec_UnitVector_ok : FnOK Try.prog 17 S_spec_UnitVector := by
 refine at_enter 34 (fun x => ⟨[(0, aI x.1), (1, aI x.2.1)], []⟩) Try.func17 rfl (by kernel_rfl) (fun x => rfl) ?_
 rintro w0 Z0 ⟨x0, x1, u⟩ a w
 revert x0 x1
 intro (x0 : Int) (x1 : Int) hpre hlens h
 have hT : TabOK Try.prog S_spec_UnitVector_tab := (.cons S_spec_l1In_ok .nil)
 refine wp_seq ?_
 refine at_regq [] { ts := [0, 1, 4], os := [] } [] gamOK hT h (by kernel_rfl) trivial fun a w h => then_normal (wp_seq ?_)
 refine at_regq [{ ids := [1] }] { ts := [0, 1, 4, 5], os := [1] } [] gamOK hT h (by kernel_rfl) trivial fun a w h => then_normal (wp_seq (wp_seq ?_))
 rcases Bool.eq_false_or_eq_true (!(inR x0 0 40)) with h1 | h1
 ·have hzh1 : (inR x0 0 40) = false := notT h1
  have hvh1 := inR_f (notT h1)
  refine at_regq [{}, {}, { hint := some (aB true) }] { ts := [0, 1, 4, 5, 17], os := [1] } [True, (AV.p (.c (.v (.bool (!(inR x0 0 40))))) = AV.p (.c (.v (.bool true))))] gamOK hT h (by kernel_rfl) ⟨trivial, hint_bool (h1), trivial⟩ fun a w h => then_normal ?_
  refine at_test true h (by kernel_rfl) (fun hh => ?_) (fun hh => nomatch hh)
  refine wp_seq ?_
  refine at_regq [] { ts := [0, 1, 4, 5], os := [1] } [] gamOK hT h (by kernel_rfl) trivial fun a w h => then_normal (wp_ret (then_ret ?_))
  exact at_return (([] : List Int), ()) [] h (by kernel_rfl) trivial (congrArg (fun z => (z, ())) (show (([] : List Int)) = unitV x0 x1 from by first | exact unitV_n (by first | (left; assumption) | (right; assumption)) | exact unitV_y (by assumption) (by assumption)))
 ·have hzh1 : (inR x0 0 40) = true := notF h1
  have hvh1 := inR_t (notF h1)
  refine at_regq [{}, {}, { hint := some (aB false) }, {}, {}, {}, { nw := true }] { ts := [0, 1, 4, 5, 17], os := [1] } [True, (AV.p (.c (.v (.bool (!(inR x0 0 40))))) = AV.p (.c (.v (.bool false)))), I64 (x0 - 1), True] gamOK hT h (by kernel_rfl) ⟨trivial, hint_bool (h1), ⟨by first | omega | (simp only [lsA]; omega) | (simp <;> omega), by first | omega | (simp only [lsA]; omega) | (simp <;> omega)⟩, trivial, trivial⟩ fun a w h => then_normal ?_
  refine at_test (!(inR x1 0 (x0 - 1))) h (by kernel_rfl) (fun h2 => ?_) (fun h2 => ?_)
  ·replace h2 : (inR x1 0 (x0 - 1)) = false := notT h2
   have hvh2 := inR_f h2
   refine wp_seq ?_
   refine at_regq [] { ts := [0, 1, 4, 5], os := [1] } [] gamOK hT h (by kernel_rfl) trivial fun a w h => then_normal (wp_ret (then_ret ?_))
   exact at_return (([] : List Int), ()) [] h (by kernel_rfl) trivial (congrArg (fun z => (z, ())) (show (([] : List Int)) = unitV x0 x1 from by first | exact unitV_n (by first | (left; assumption) | (right; assumption)) | exact unitV_y (by assumption) (by assumption)))
  ·replace h2 : (inR x1 0 (x0 - 1)) = true := notF h2
   have hvh2 := inR_t h2
   refine wp_skip (then_normal (wp_seq (wp_seq ?_)))
   refine at_regq [] { ts := [0, 1, 4, 5, 6], os := [1] } [] gamOK hT h (by kernel_rfl) trivial fun a w h => then_normal (wp_block ?_)
   replace h := at_out (σ' := ⟨[(0, aI x0), (1, aI x1), (4, .p (.c (cN))), (5, aS 1), (6, aI 0)], [(1, oR (.int 3) ([] : List Int))]⟩) { ts := [0, 1, 4, 5, 6], os := [1] } h (by kernel_rfl)
   refine at_loop (fun i : Nat => (⟨[(0, aI x0), (1, aI x1), (4, .p (.c (cN))), (5, aS 1), (6, aI ((i : Nat) : Int))], [(1, oR (.int 3) (unitL i x1))]⟩ : St)) (fun i => i ≤ x0.toNat) (fun i => x0.toNat - i) (0) h (st_congr2 (fun (d0 : List Int) (d1 : Int) => (⟨[(0, aI x0), (1, aI x1), (4, .p (.c (cN))), (5, aS 1), (6, aI d1)], [(1, oR (.int 3) d0)]⟩ : St)) (show (([] : List Int) : List Int) = (unitL (0) x1) from by first | with_reducible rfl | (rfl) | rfl) (show (0 : Int) = (((0) : Nat) : Int) from by first | with_reducible rfl | (rfl) | rfl)) (by omega) ?_
   intro i a w hok0 h
   have hul := unitL_len i x1
   refine wp_seq (wp_seq ?_)
   refine at_regq [] { ts := [0, 1, 4, 5, 6, 21], os := [1] } [] gamOK hT h (by kernel_rfl) trivial fun a w h => then_normal ?_
   refine at_test (decide (((i : Nat) : Int) < x0)) h (by kernel_rfl) (fun h3 => ?_) (fun h3 => ?_)
   ·replace h3 : ((i : Nat) : Int) < x0 := of_decide_eq_true h3
    refine wp_skip (then_normal (wp_seq (wp_block (wp_seq ?_))))
    refine at_regq [] { ts := [0, 1, 4, 5, 6, 26], os := [1] } [] gamOK hT h (by kernel_rfl) trivial fun a w h => then_normal ?_
    refine at_test (decide (((i : Nat) : Int) = x1)) h (by kernel_rfl) (fun h4 => ?_) (fun h4 => ?_)
    ·replace h4 : ((i : Nat) : Int) = x1 := of_decide_eq_true h4
     refine at_regq [{}, { ids := [2] }, { ids := [3] }] { ts := [0, 1, 4, 5, 6], os := [3] } [(List.length (unitL i x1) + List.length ([1])) * 8 ≤ 140737488355328] gamOK hT h (by kernel_rfl) ⟨(by first | omega | (simp only [lsA]; omega) | (simp <;> omega)), trivial⟩ fun a w h => in_normal (then_normal ?_)
     refine at_regq [{}, { nw := true }] { ts := [0, 1, 4, 5, 6], os := [3] } [I64 (((i : Nat) : Int) + 1)] gamOK hT h (by kernel_rfl) ⟨⟨by first | omega | (simp only [lsA]; omega) | (simp <;> omega), by first | omega | (simp only [lsA]; omega) | (simp <;> omega)⟩, trivial⟩ fun a w h => ?_
     replace h := at_out (σ' := ⟨[(0, aI x0), (1, aI x1), (4, .p (.c (cN))), (5, aS 1), (6, aI (((i : Nat) : Int) + 1))], [(1, oR (.int 3) ((unitL i x1) ++ ([1])))]⟩) { ts := [0, 1, 4, 5, 6], os := [3], rn := [(3, 1)] } h (by kernel_rfl)
     exact ⟨i + 1, at_eq h (st_congr2 (fun (d0 : List Int) (d1 : Int) => (⟨[(0, aI x0), (1, aI x1), (4, .p (.c (cN))), (5, aS 1), (6, aI d1)], [(1, oR (.int 3) d0)]⟩ : St)) (show (((unitL i x1) ++ ([1])) : List Int) = (unitL (i + 1) x1) from by first | with_reducible rfl | (first | (rw [unitL_snoc, if_pos (by omega)]; done) | (rw [unitL_snoc, if_neg (by omega)]; done)) | rfl) (show (((i : Nat) : Int) + 1 : Int) = (((i + 1) : Nat) : Int) from by first | with_reducible rfl | (omega) | rfl)), (by omega), (by omega)⟩
    ·replace h4 : ¬ (((i : Nat) : Int) = x1) := of_decide_eq_false h4
     refine at_regq [{}, { ids := [4] }, { ids := [5] }] { ts := [0, 1, 4, 5, 6], os := [5] } [(List.length (unitL i x1) + List.length ([0])) * 8 ≤ 140737488355328] gamOK hT h (by kernel_rfl) ⟨(by first | omega | (simp only [lsA]; omega) | (simp <;> omega)), trivial⟩ fun a w h => in_normal (then_normal ?_)
     refine at_regq [{}, { nw := true }] { ts := [0, 1, 4, 5, 6], os := [5] } [I64 (((i : Nat) : Int) + 1)] gamOK hT h (by kernel_rfl) ⟨⟨by first | omega | (simp only [lsA]; omega) | (simp <;> omega), by first | omega | (simp only [lsA]; omega) | (simp <;> omega)⟩, trivial⟩ fun a w h => ?_
     replace h := at_out (σ' := ⟨[(0, aI x0), (1, aI x1), (4, .p (.c (cN))), (5, aS 1), (6, aI (((i : Nat) : Int) + 1))], [(1, oR (.int 3) ((unitL i x1) ++ ([0])))]⟩) { ts := [0, 1, 4, 5, 6], os := [5], rn := [(5, 1)] } h (by kernel_rfl)
     exact ⟨i + 1, at_eq h (st_congr2 (fun (d0 : List Int) (d1 : Int) => (⟨[(0, aI x0), (1, aI x1), (4, .p (.c (cN))), (5, aS 1), (6, aI d1)], [(1, oR (.int 3) d0)]⟩ : St)) (show (((unitL i x1) ++ ([0])) : List Int) = (unitL (i + 1) x1) from by first | with_reducible rfl | (first | (rw [unitL_snoc, if_pos (by omega)]; done) | (rw [unitL_snoc, if_neg (by omega)]; done)) | rfl) (show (((i : Nat) : Int) + 1 : Int) = (((i + 1) : Nat) : Int) from by first | with_reducible rfl | (omega) | rfl)), (by omega), (by omega)⟩
   ·replace h3 : ¬ (((i : Nat) : Int) < x0) := of_decide_eq_false h3
    refine wp_exit (then_exit ?_)
    replace h := at_out (σ' := ⟨[(4, .p (.c (cN))), (5, aS 1)], [(1, oR (.int 3) (unitL i x1))]⟩) { ts := [4, 5], os := [1] } h (by kernel_rfl)
    replace h := at_eq (σ' := ⟨[(4, .p (.c (cN))), (5, aS 1)], [(1, oR (.int 3) (unitL x0.toNat x1))]⟩) h (st_congr1 (fun (d0 : List Int) => (⟨[(4, .p (.c (cN))), (5, aS 1)], [(1, oR (.int 3) d0)]⟩ : St)) (show ((unitL i x1) : List Int) = (unitL x0.toNat x1) from by first | with_reducible rfl | (rw [show x0.toNat = i by omega]) | rfl))
    refine then_exit (in_hit (then_normal (wp_seq ?_)))
    refine at_regq [] { ts := [4], os := [1] } [] gamOK hT h (by kernel_rfl) trivial fun a w h => then_normal (wp_ret ?_)
    exact at_return ((unitL x0.toNat x1), ()) [] h (by kernel_rfl) trivial (congrArg (fun z => (z, ())) (show ((unitL x0.toNat x1)) = unitV x0 x1 from by first | exact unitV_n (by first | (left; assumption) | (right; assumption)) | exact unitV_y (by assumption) (by assumption)))

abbrev Q_spec_Combine := (fun (x0 : (List (List Int))) (x1 : (List Int)) => Sh.fit s24 x0 ∧ Sh.fit s33 x1)
def S_spec_Combine : Sum := { fid := 44, dom := [s24, s33], cod := [s33], dp := true, fz := false, pre := fun x => Q_spec_Combine x.1 x.2.1, g := fun x => ((combV x.1 x.2.1), ()) }
def S_spec_Combine_tab : List (Nat × Sum) := [(43, S_spec_IsValidVector), (70, S_spec_AddScaled)]
theorem S_spec_Combine_ok : FnOK Try.prog 44 S_spec_Combine := by
 refine at_enter 64 (fun x => ⟨[(0, aF s33 x.1), (1, aF (.int 3) x.2.1)], []⟩) Try.func44 rfl (by kernel_rfl) (fun x => rfl) ?_
 rintro w0 Z0 ⟨x0, x1, u⟩ a w
 revert x0 x1
 intro (x0 : (List (List Int))) (x1 : (List Int)) hpre hlens h
 replace hpre : Q_spec_Combine x0 x1 := hpre
 have hT : TabOK Try.prog S_spec_Combine_tab := (.cons S_spec_IsValidVector_ok (.cons S_spec_AddScaled_ok .nil))
 obtain ⟨hf0, hf1⟩ := hpre
 have hn0_1 : List.length x0 ≤ 1073741824 := hf0.1
 have hn1_2 : List.length x1 ≤ 1073741824 := hf1.1
 refine wp_seq ?_
 refine at_regq [] { ts := [0, 1, 4], os := [] } [] gamOK hT h (by kernel_rfl) trivial fun a w h => then_normal (wp_seq (wp_seq ?_))
 by_cases h1 : ((List.length x0 : Nat) : Int) = 0
 ·refine at_regq [{}, {}, { hint := some (aB true) }] { ts := [0, 1, 4, 21], os := [] } [(AV.p (.c (.v (.bool (decide (((List.length x0 : Nat) : Int) = 0))))) = AV.p (.c (.v (.bool true))))] gamOK hT h (by kernel_rfl) ⟨hint_bool (decide_eq_true h1), trivial⟩ fun a w h => then_normal ?_
  refine at_test true h (by kernel_rfl) (fun hh => ?_) (fun hh => nomatch hh)
  refine wp_seq ?_
  refine at_regq [{ ids := [1] }] { ts := [0, 1, 4], os := [1] } [] gamOK hT h (by kernel_rfl) trivial fun a w h => then_normal (wp_ret (then_ret ?_))
  exact at_return (([] : List Int), ()) [] h (by kernel_rfl) trivial (congrArg (fun z => (z, ())) (show (([] : List Int)) = combV x0 x1 from by first | exact combV_n (by first | (left; omega) | (right; left; omega) | (right; right; left; assumption) | (right; right; right; assumption)) | (rw [← combV_y (by omega) (by omega) (by assumption) (all_of (z := []) (i := i) (by omega) hok0.2)]; show _ = combTo x0 x1 (List.length x0); rw [show List.length x0 = i by omega]; done) | exact combV_n (Or.inr (Or.inr (Or.inr (all_at (z := []) (i := i) (by omega) (by (show ((validV _) && _) = false; rw [Bool.and_eq_false_iff]; first | (left; assumption) | (right; exact decide_eq_false (by omega))))))))))
 ·by_cases h2 : ((List.length x0 : Nat) : Int) = ((List.length x1 : Nat) : Int)
  ·refine at_regq [{}, {}, { hint := some (aB false) }, {}, {}, {}, {}, {}, { hint := some (aB false) }] { ts := [0, 1, 4, 21], os := [] } [(AV.p (.c (.v (.bool (decide (((List.length x0 : Nat) : Int) = 0))))) = AV.p (.c (.v (.bool false)))), (AV.p (.c (.v (.bool (!decide (((List.length x0 : Nat) : Int) = ((List.length x1 : Nat) : Int)))))) = AV.p (.c (.v (.bool false)))), Q_spec_IsValidVector x1] gamOK hT h (by kernel_rfl) ⟨hint_bool (decide_eq_false h1), hint_bool (ndT h2), (by exact hf1), trivial⟩ fun a w h => then_normal ?_
   refine at_test (!(validV x1)) h (by kernel_rfl) (fun h3 => ?_) (fun h3 => ?_)
   ·replace h3 : (validV x1) = false := notT h3
    refine wp_seq ?_
    refine at_regq [{ ids := [1] }] { ts := [0, 1, 4], os := [1] } [] gamOK hT h (by kernel_rfl) trivial fun a w h => then_normal (wp_ret (then_ret ?_))
    exact at_return (([] : List Int), ()) [] h (by kernel_rfl) trivial (congrArg (fun z => (z, ())) (show (([] : List Int)) = combV x0 x1 from by first | exact combV_n (by first | (left; omega) | (right; left; omega) | (right; right; left; assumption) | (right; right; right; assumption)) | (rw [← combV_y (by omega) (by omega) (by assumption) (all_of (z := []) (i := i) (by omega) hok0.2)]; show _ = combTo x0 x1 (List.length x0); rw [show List.length x0 = i by omega]; done) | exact combV_n (Or.inr (Or.inr (Or.inr (all_at (z := []) (i := i) (by omega) (by (show ((validV _) && _) = false; rw [Bool.and_eq_false_iff]; first | (left; assumption) | (right; exact decide_eq_false (by omega))))))))))
   ·replace h3 : (validV x1) = true := notF h3
    have hvh3 := validV_t h3
    refine wp_skip (then_normal (wp_seq ?_))
    refine at_regq [{}, {}, {}, {}, { ids := [2] }] { ts := [0, 1, 4, 5], os := [2] } [(0 : Int) ≤ 0 ∧ 0 < ((List.length x0 : Nat) : Int), (0 : Int) ≤ ((List.length (x0.getD 0 []) : Nat) : Int) ∧ ((List.length (x0.getD 0 []) : Nat) : Int) = ((List.length (x0.getD 0 []) : Nat) : Int) ∧ ((List.length (x0.getD 0 []) : Nat) : Int) * (8 : Nat) ≤ (140737488355328 : Int)] gamOK hT h (by kernel_rfl) ⟨(by refine ⟨?_, ?_⟩ <;> (first | omega | (simp only [lsA]; omega) | (simp <;> omega))), (by refine ⟨?_, ?_, ?_⟩ <;> ((have hA0 := mul_f ((List.length (x0.getD 0 []) : Nat) : Int) (8 : Nat); have hL1 := (show List.length (x0.getD 0 []) ≤ 1073741824 from ((Sh.fit_getD hf0 0)).1); first | omega | (simp only [lsA]; omega) | (simp <;> omega)))), trivial⟩ fun a w h => then_normal (wp_seq (wp_seq ?_))
    refine at_regq [] { ts := [0, 1, 4, 5, 6], os := [2] } [] gamOK hT h (by kernel_rfl) trivial fun a w h => then_normal (wp_block ?_)
    replace h := at_out (σ' := ⟨[(0, aF s33 x0), (1, aF (.int 3) x1), (4, .p (.c (cN))), (5, aS 2), (6, aI 0)], [(2, oR (.int 3) (List.replicate (List.length (x0.getD 0 [])) (0 : Int)))]⟩) { ts := [0, 1, 4, 5, 6], os := [2] } h (by kernel_rfl)
    refine at_loop (fun i : Nat => (⟨[(0, aF s33 x0), (1, aF (.int 3) x1), (4, .p (.c (cN))), (5, aS 2), (6, aI ((i : Nat) : Int))], [(2, oR (.int 3) (combTo x0 x1 i))]⟩ : St)) (fun i => (i ≤ List.length x0 ∧ allTo1 (cvB x0) x0 [] i)) (fun i => List.length x0 - i) (0) h (st_congr2 (fun (d0 : List Int) (d1 : Int) => (⟨[(0, aF s33 x0), (1, aF (.int 3) x1), (4, .p (.c (cN))), (5, aS 2), (6, aI d1)], [(2, oR (.int 3) d0)]⟩ : St)) (show ((List.replicate (List.length (x0.getD 0 [])) (0 : Int)) : List Int) = (combTo x0 x1 (0)) from by first | with_reducible rfl | (rfl) | rfl) (show (0 : Int) = (((0) : Nat) : Int) from by first | with_reducible rfl | (rfl) | rfl)) (by exact ⟨Nat.zero_le _, allTo1_zero⟩) ?_
    intro i a w hok0 h
    refine wp_seq (wp_seq ?_)
    refine at_regq [] { ts := [0, 1, 4, 5, 6, 31], os := [2] } [] gamOK hT h (by kernel_rfl) trivial fun a w h => then_normal ?_
    refine at_test (decide (((i : Nat) : Int) < ((List.length x0 : Nat) : Int))) h (by kernel_rfl) (fun h4 => ?_) (fun h4 => ?_)
    ·replace h4 : ((i : Nat) : Int) < ((List.length x0 : Nat) : Int) := of_decide_eq_true h4
     have hvr := (validV_t (v := x1) (by assumption)).2.2
     have hck := hvr i
     refine wp_skip (then_normal (wp_seq (wp_block (wp_seq (wp_seq ?_)))))
     rcases Bool.eq_false_or_eq_true (!(validV (x0.getD i []))) with h5 | h5
     ·have hzh5 : (validV (x0.getD i [])) = false := notT h5
      refine at_anyq [{}, {}, {}, {}, {}, { hint := some (aB true) }, {}, {}, {}, {}, {}, {}, {}, {}, {}, {}, {}, {}] { ts := [0, 1, 4, 5, 6, 41, 42, 43, 44, 45, 46, 47, 48, 49, 50, 51], os := [2] } [(0 : Int) ≤ ((i : Nat) : Int) ∧ ((i : Nat) : Int) < ((List.length x0 : Nat) : Int), Q_spec_IsValidVector (x0.getD i []), (AV.p (.c (.v (.bool (!(validV (x0.getD i [])))))) = AV.p (.c (.v (.bool true))))] gamOK hT mixed h (by kernel_rfl) ⟨(by refine ⟨?_, ?_⟩ <;> (first | omega | (simp only [lsA]; omega) | (simp <;> omega))), (by exact (Sh.fit_getD hf0 i)), hint_bool (h5), trivial⟩ fun a w h => then_normal ?_
      refine at_test true h (by kernel_rfl) (fun hh => ?_) (fun hh => nomatch hh)
      refine wp_seq ?_
      refine at_regq [{ ids := [3] }] { ts := [0, 1, 4, 5, 6, 41, 42, 43, 44, 45, 46, 47, 48, 49, 50], os := [2, 3] } [] gamOK hT h (by kernel_rfl) trivial fun a w h => then_normal (wp_ret (then_ret (in_ret (then_ret (then_ret (in_ret (then_ret ?_)))))))
      exact at_return (([] : List Int), ()) [] h (by kernel_rfl) trivial (congrArg (fun z => (z, ())) (show (([] : List Int)) = combV x0 x1 from by first | exact combV_n (by first | (left; omega) | (right; left; omega) | (right; right; left; assumption) | (right; right; right; assumption)) | (rw [← combV_y (by omega) (by omega) (by assumption) (all_of (z := []) (i := i) (by omega) hok0.2)]; show _ = combTo x0 x1 (List.length x0); rw [show List.length x0 = i by omega]; done) | exact combV_n (Or.inr (Or.inr (Or.inr (all_at (z := []) (i := i) (by omega) (by (show ((validV _) && _) = false; rw [Bool.and_eq_false_iff]; first | (left; assumption) | (right; exact decide_eq_false (by omega))))))))))
     ·have hzh5 : (validV (x0.getD i [])) = true := notF h5
      have hvh5 := validV_t (notF h5)
      refine at_anyq [{}, {}, {}, {}, {}, { hint := some (aB false) }, {}, {}, {}, {}, {}, {}, {}, {}, {}, {}, {}, {}] { ts := [0, 1, 4, 5, 6, 41, 42, 43, 44, 45, 46, 47, 48, 49, 50, 51], os := [2] } [(0 : Int) ≤ ((i : Nat) : Int) ∧ ((i : Nat) : Int) < ((List.length x0 : Nat) : Int), Q_spec_IsValidVector (x0.getD i []), (AV.p (.c (.v (.bool (!(validV (x0.getD i [])))))) = AV.p (.c (.v (.bool false)))), (0 : Int) ≤ ((i : Nat) : Int) ∧ ((i : Nat) : Int) < ((List.length x0 : Nat) : Int), (0 : Int) ≤ 0 ∧ 0 < ((List.length x0 : Nat) : Int)] gamOK hT mixed h (by kernel_rfl) ⟨(by refine ⟨?_, ?_⟩ <;> (first | omega | (simp only [lsA]; omega) | (simp <;> omega))), (by exact (Sh.fit_getD hf0 i)), hint_bool (h5), (by refine ⟨?_, ?_⟩ <;> (first | omega | (simp only [lsA]; omega) | (simp <;> omega))), (by refine ⟨?_, ?_⟩ <;> (first | omega | (simp only [lsA]; omega) | (simp <;> omega))), trivial⟩ fun a w h => then_normal ?_
      refine at_test (!decide (((List.length (x0.getD i []) : Nat) : Int) = ((List.length (x0.getD 0 []) : Nat) : Int))) h (by kernel_rfl) (fun h6 => ?_) (fun h6 => ?_)
      ·replace h6 : ¬ (((List.length (x0.getD i []) : Nat) : Int) = ((List.length (x0.getD 0 []) : Nat) : Int)) := of_decide_eq_false (notT h6)
       refine wp_seq ?_
       refine at_regq [{ ids := [3] }] { ts := [0, 1, 4, 5, 6, 41, 42, 43, 44, 45, 46, 47, 48, 49, 50], os := [2, 3] } [] gamOK hT h (by kernel_rfl) trivial fun a w h => then_normal (wp_ret (then_ret (in_ret (then_ret (then_ret (in_ret (then_ret ?_)))))))
       exact at_return (([] : List Int), ()) [] h (by kernel_rfl) trivial (congrArg (fun z => (z, ())) (show (([] : List Int)) = combV x0 x1 from by first | exact combV_n (by first | (left; omega) | (right; left; omega) | (right; right; left; assumption) | (right; right; right; assumption)) | (rw [← combV_y (by omega) (by omega) (by assumption) (all_of (z := []) (i := i) (by omega) hok0.2)]; show _ = combTo x0 x1 (List.length x0); rw [show List.length x0 = i by omega]; done) | exact combV_n (Or.inr (Or.inr (Or.inr (all_at (z := []) (i := i) (by omega) (by (show ((validV _) && _) = false; rw [Bool.and_eq_false_iff]; first | (left; assumption) | (right; exact decide_eq_false (by omega))))))))))
      ·replace h6 : ((List.length (x0.getD i []) : Nat) : Int) = ((List.length (x0.getD 0 []) : Nat) : Int) := of_decide_eq_true (notF h6)
       refine wp_skip (then_normal ?_)
       refine at_anyq [{}, {}, {}, {}, {}, {}, {}, {}, {}, { ids := [4] }, {}] { ts := [0, 1, 4, 5, 6, 41, 42, 43, 44, 45, 46, 47, 48, 49, 50], os := [4] } [(0 : Int) ≤ ((i : Nat) : Int) ∧ ((i : Nat) : Int) < ((List.length x0 : Nat) : Int), (0 : Int) ≤ ((i : Nat) : Int) ∧ ((i : Nat) : Int) < ((List.length x1 : Nat) : Int), Q_spec_AddScaled (combTo x0 x1 i) (x0.getD i []) (x1.getD i 0)] gamOK hT mixed h (by kernel_rfl) ⟨(by refine ⟨?_, ?_⟩ <;> (first | omega | (simp only [lsA]; omega) | (simp <;> omega))), (by refine ⟨?_, ?_⟩ <;> (first | omega | (simp only [lsA]; omega) | (simp <;> omega))), (by (have hci : cvB x0 (x0.getD i []) = true := (by (show ((validV _) && _) = true; rw [Bool.and_eq_true]; exact ⟨by assumption, decide_eq_true (by omega)⟩)); have hcv := cvB_ok hci; have hco := combTo_ok (n := List.length (x0.getD 0 [])) (vs := x0) (cs := x1) rfl hvr i (fun j hj => cvB_ok (hok0.2 j hj)); exact ⟨fitV hco (cvB_40 hci), fitV hcv (cvB_40 hci)⟩)), trivial⟩ fun a w h => in_normal (then_normal ?_)
       refine at_regq [{}, { nw := true }] { ts := [0, 1, 4, 5, 6, 41, 42, 43, 44, 45, 46, 47, 48, 49, 50], os := [4] } [I64 (((i : Nat) : Int) + 1)] gamOK hT h (by kernel_rfl) ⟨⟨by first | omega | (simp only [lsA]; omega) | (simp <;> omega), by first | omega | (simp only [lsA]; omega) | (simp <;> omega)⟩, trivial⟩ fun a w h => ?_
       replace h := at_out (σ' := ⟨[(0, aF s33 x0), (1, aF (.int 3) x1), (4, .p (.c (cN))), (5, aS 2), (6, aI (((i : Nat) : Int) + 1))], [(2, oR (.int 3) (addV (combTo x0 x1 i) (x0.getD i []) (x1.getD i 0)))]⟩) { ts := [0, 1, 4, 5, 6], os := [4], rn := [(4, 2)] } h (by kernel_rfl)
       exact ⟨i + 1, at_eq h (st_congr2 (fun (d0 : List Int) (d1 : Int) => (⟨[(0, aF s33 x0), (1, aF (.int 3) x1), (4, .p (.c (cN))), (5, aS 2), (6, aI d1)], [(2, oR (.int 3) d0)]⟩ : St)) (show ((addV (combTo x0 x1 i) (x0.getD i []) (x1.getD i 0)) : List Int) = (combTo x0 x1 (i + 1)) from by first | with_reducible rfl | ((have hci : cvB x0 (x0.getD i []) = true := (by (show ((validV _) && _) = true; rw [Bool.and_eq_true]; exact ⟨by assumption, decide_eq_true (by omega)⟩)); have hcv := cvB_ok hci; have hco := combTo_ok (n := List.length (x0.getD 0 [])) (vs := x0) (cs := x1) rfl hvr i (fun j hj => cvB_ok (hok0.2 j hj)); rw [addV_L hco hcv (cvB_40 hci) (by omega)]; rfl)) | rfl) (show (((i : Nat) : Int) + 1 : Int) = (((i + 1) : Nat) : Int) from by first | with_reducible rfl | (omega) | rfl)), (by exact ⟨by omega, allTo1_succ hok0.2 (by (show ((validV _) && _) = true; rw [Bool.and_eq_true]; exact ⟨by assumption, decide_eq_true (by omega)⟩))⟩), (by omega)⟩
    ·replace h4 : ¬ (((i : Nat) : Int) < ((List.length x0 : Nat) : Int)) := of_decide_eq_false h4
     refine wp_exit (then_exit (then_exit (in_hit (then_normal (wp_seq ?_)))))
     refine at_regq [] { ts := [4], os := [2] } [] gamOK hT h (by kernel_rfl) trivial fun a w h => then_normal (wp_ret ?_)
     exact at_return ((combTo x0 x1 i), ()) [] h (by kernel_rfl) trivial (congrArg (fun z => (z, ())) (show ((combTo x0 x1 i)) = combV x0 x1 from by first | exact combV_n (by first | (left; omega) | (right; left; omega) | (right; right; left; assumption) | (right; right; right; assumption)) | (rw [← combV_y (by omega) (by omega) (by assumption) (all_of (z := []) (i := i) (by omega) hok0.2)]; show _ = combTo x0 x1 (List.length x0); rw [show List.length x0 = i by omega]; done) | exact combV_n (Or.inr (Or.inr (Or.inr (all_at (z := []) (i := i) (by omega) (by (show ((validV _) && _) = false; rw [Bool.and_eq_false_iff]; first | (left; assumption) | (right; exact decide_eq_false (by omega))))))))))
  ·refine at_regq [{}, {}, { hint := some (aB false) }, {}, {}, {}, {}, {}, { hint := some (aB true) }] { ts := [0, 1, 4, 21], os := [] } [(AV.p (.c (.v (.bool (decide (((List.length x0 : Nat) : Int) = 0))))) = AV.p (.c (.v (.bool false)))), (AV.p (.c (.v (.bool (!decide (((List.length x0 : Nat) : Int) = ((List.length x1 : Nat) : Int)))))) = AV.p (.c (.v (.bool true))))] gamOK hT h (by kernel_rfl) ⟨hint_bool (decide_eq_false h1), hint_bool (ndF h2), trivial⟩ fun a w h => then_normal ?_
   refine at_test true h (by kernel_rfl) (fun hh => ?_) (fun hh => nomatch hh)
   refine wp_seq ?_
   refine at_regq [{ ids := [1] }] { ts := [0, 1, 4], os := [1] } [] gamOK hT h (by kernel_rfl) trivial fun a w h => then_normal (wp_ret (then_ret ?_))
   exact at_return (([] : List Int), ()) [] h (by kernel_rfl) trivial (congrArg (fun z => (z, ())) (show (([] : List Int)) = combV x0 x1 from by first | exact combV_n (by first | (left; omega) | (right; left; omega) | (right; right; left; assumption) | (right; right; right; assumption)) | (rw [← combV_y (by omega) (by omega) (by assumption) (all_of (z := []) (i := i) (by omega) hok0.2)]; show _ = combTo x0 x1 (List.length x0); rw [show List.length x0 = i by omega]; done) | exact combV_n (Or.inr (Or.inr (Or.inr (all_at (z := []) (i := i) (by omega) (by (show ((validV _) && _) = false; rw [Bool.and_eq_false_iff]; first | (left; assumption) | (right; exact decide_eq_false (by omega))))))))))

def codePk (g : T26) (cs : List Int) : T38 × Bool := if validG g = true ∧ validV cs = true ∧ cs.length = g.2.length then ((g.1, cs, combV g.2 cs), true) else ((0, [], []), false)
theorem codePk_y {g : T26} {cs : List Int} (h1 : validG g = true) (h2 : validV cs = true) (h3 : cs.length = g.2.length) : ((g.1, cs, combV g.2 cs), true) = codePk g cs := (if_pos ⟨h1, h2, h3⟩).symm
theorem codePk_n {g : T26} {cs : List Int} (h : validG g = false ∨ validV cs = false ∨ ¬ cs.length = g.2.length) : ((0, [], []), false) = codePk g cs := by
 unfold codePk; rw [if_neg]
 rintro ⟨h1, h2, h3⟩
 rcases h with h | h | h
 ·rw [h1] at h; cases h
 ·rw [h2] at h; cases h
 ·exact h h3
theorem genP {g : T26} (h : validG g = true) {cs : List Int} (hc : LA.VokB g.2.length cs) : combP g.2 cs := by
 have h1 := validG_t h
 have hm := validM_t h1.2.2.1
 have hk := validM_ok h1.2.2.1
 have h0 := (validV_t (hm.2 _ (getD_mem (z := []) (show 0 < g.2.length by omega))).1).1
 exact ⟨⟨by omega, by have := hc.1; omega, h0⟩, fun j hj => hk _ (LA.getD_in hj), fun j => hc.rng j⟩
theorem genC {g : T26} (h : validG g = true) {cs : List Int} (hc : LA.VokB g.2.length cs) : combV g.2 cs = combS g.2 cs := by
 have h1 := validG_t h
 have hm := validM_t h1.2.2.1
 refine (combV_y (by omega) hc.1.symm (validV_of hc (by omega)) ?_).symm
 rw [List.all_eq_true]; intro v hv
 have h2 := hm.2 v hv
 unfold cvB
 rw [Bool.and_eq_true]; exact ⟨h2.1, decide_eq_true h2.2⟩
abbrev Q_spec_CodePacket := (fun (x0 : T26) (x1 : (List Int)) => Sh.fit s26 x0 ∧ Sh.fit s33 x1)
def S_spec_CodePacket : Sum := { fid := 18, dom := [s26, s33], cod := [s38, (.bool 4)], dp := true, fz := false, pre := fun x => Q_spec_CodePacket x.1 x.2.1, g := fun x => ((codePk x.1 x.2.1).1, ((codePk x.1 x.2.1).2, ())) }
def S_spec_CodePacket_tab : List (Nat × Sum) := [(37, S_spec_IsValidGeneration), (43, S_spec_IsValidVector), (44, S_spec_Combine)]
theorem S_spec_CodePacket_ok : FnOK Try.prog 18 S_spec_CodePacket := by
 refine at_enter 33 (fun x => ⟨[(0, aG [cI x.1.1, .ro s33 x.1.2]), (1, aF (.int 3) x.2.1)], []⟩) Try.func18 rfl (by kernel_rfl) (fun x => rfl) ?_
 rintro w0 Z0 ⟨x0, x1, u⟩ a w
 revert x0 x1
 intro (x0 : T26) (x1 : (List Int)) hpre hlens h
 replace hpre : Q_spec_CodePacket x0 x1 := hpre
 have hT : TabOK Try.prog S_spec_CodePacket_tab := (.cons S_spec_IsValidGeneration_ok (.cons S_spec_IsValidVector_ok (.cons S_spec_Combine_ok .nil)))
 obtain ⟨hf0, hf1⟩ := hpre
 have hn0_1 : List.length x0.2 ≤ 1073741824 := hf0.2.1
 have hn1_2 : List.length x1 ≤ 1073741824 := hf1.1
 refine wp_seq ?_
 refine at_regq [{ ids := [1] }, { ids := [2] }] { ts := [1, 2, 4, 5], os := [1, 2] } [] gamOK hT h (by kernel_rfl) trivial fun a w h => then_normal (wp_seq (wp_seq ?_))
 rcases Bool.eq_false_or_eq_true (!(validG x0)) with h1 | h1
 ·have hzh1 : (validG x0) = false := notT h1
  refine at_regq [{}, {}, { hint := some (aB true) }] { ts := [1, 2, 4, 5, 21], os := [1, 2] } [Q_spec_IsValidGeneration x0, (AV.p (.c (.v (.bool (!(validG x0))))) = AV.p (.c (.v (.bool true))))] gamOK hT h (by kernel_rfl) ⟨(by exact hf0), hint_bool (h1), trivial⟩ fun a w h => then_normal ?_
  refine at_test true h (by kernel_rfl) (fun hh => ?_) (fun hh => nomatch hh)
  refine wp_seq ?_
  refine at_regq [] { ts := [1, 2, 4, 5], os := [1, 2] } [] gamOK hT h (by kernel_rfl) trivial fun a w h => then_normal (wp_ret (then_ret ?_))
  exact at_return ((0, (([] : List Int), ([] : List Int))), (false, ())) [] h (by kernel_rfl) trivial (congrArg (fun z => (z.1, z.2, ())) (show (((0, (([] : List Int), ([] : List Int))), false)) = codePk x0 x1 from by first | exact codePk_n (by first | (left; assumption) | (right; left; assumption) | (right; right; omega)) | exact codePk_y (cs := x1) (by assumption) (by assumption) (by omega)))
 ·have hzh1 : (validG x0) = true := notF h1
  have hvh1 := validG_t (notF h1)
  rcases Bool.eq_false_or_eq_true (!(validV x1)) with h2 | h2
  ·have hzh2 : (validV x1) = false := notT h2
   refine at_regq [{}, {}, { hint := some (aB false) }, {}, {}, {}, { hint := some (aB true) }] { ts := [1, 2, 4, 5, 21], os := [1, 2] } [Q_spec_IsValidGeneration x0, (AV.p (.c (.v (.bool (!(validG x0))))) = AV.p (.c (.v (.bool false)))), Q_spec_IsValidVector x1, (AV.p (.c (.v (.bool (!(validV x1))))) = AV.p (.c (.v (.bool true))))] gamOK hT h (by kernel_rfl) ⟨(by exact hf0), hint_bool (h1), (by exact hf1), hint_bool (h2), trivial⟩ fun a w h => then_normal ?_
   refine at_test true h (by kernel_rfl) (fun hh => ?_) (fun hh => nomatch hh)
   refine wp_seq ?_
   refine at_regq [] { ts := [1, 2, 4, 5], os := [1, 2] } [] gamOK hT h (by kernel_rfl) trivial fun a w h => then_normal (wp_ret (then_ret ?_))
   exact at_return ((0, (([] : List Int), ([] : List Int))), (false, ())) [] h (by kernel_rfl) trivial (congrArg (fun z => (z.1, z.2, ())) (show (((0, (([] : List Int), ([] : List Int))), false)) = codePk x0 x1 from by first | exact codePk_n (by first | (left; assumption) | (right; left; assumption) | (right; right; omega)) | exact codePk_y (cs := x1) (by assumption) (by assumption) (by omega)))
  ·have hzh2 : (validV x1) = true := notF h2
   have hvh2 := validV_t (notF h2)
   refine at_regq [{}, {}, { hint := some (aB false) }, {}, {}, {}, { hint := some (aB false) }] { ts := [1, 2, 4, 5, 21], os := [1, 2] } [Q_spec_IsValidGeneration x0, (AV.p (.c (.v (.bool (!(validG x0))))) = AV.p (.c (.v (.bool false)))), Q_spec_IsValidVector x1, (AV.p (.c (.v (.bool (!(validV x1))))) = AV.p (.c (.v (.bool false))))] gamOK hT h (by kernel_rfl) ⟨(by exact hf0), hint_bool (h1), (by exact hf1), hint_bool (h2), trivial⟩ fun a w h => then_normal ?_
   refine at_test (!decide (((List.length x1 : Nat) : Int) = ((List.length x0.2 : Nat) : Int))) h (by kernel_rfl) (fun h3 => ?_) (fun h3 => ?_)
   ·replace h3 : ¬ (((List.length x1 : Nat) : Int) = ((List.length x0.2 : Nat) : Int)) := of_decide_eq_false (notT h3)
    refine wp_seq ?_
    refine at_regq [] { ts := [1, 2, 4, 5], os := [1, 2] } [] gamOK hT h (by kernel_rfl) trivial fun a w h => then_normal (wp_ret (then_ret ?_))
    exact at_return ((0, (([] : List Int), ([] : List Int))), (false, ())) [] h (by kernel_rfl) trivial (congrArg (fun z => (z.1, z.2, ())) (show (((0, (([] : List Int), ([] : List Int))), false)) = codePk x0 x1 from by first | exact codePk_n (by first | (left; assumption) | (right; left; assumption) | (right; right; omega)) | exact codePk_y (cs := x1) (by assumption) (by assumption) (by omega)))
   ·replace h3 : ((List.length x1 : Nat) : Int) = ((List.length x0.2 : Nat) : Int) := of_decide_eq_true (notF h3)
    refine wp_skip (then_normal (wp_seq ?_))
    refine at_anyq [{}, {}, { ids := [3] }, {}, { ids := [4] }, {}, {}, {}, { ids := [5] }, {}, {}, {}] { ts := [4, 5], os := [2, 4, 5] } [(List.length ([] : List Int) + List.length x1) * 8 ≤ 140737488355328, Q_spec_Combine x0.2 x1] gamOK hT mixed h (by kernel_rfl) ⟨(by first | omega | (simp only [lsA]; omega) | (simp <;> omega)), (by exact ⟨hf0.2, hf1⟩), trivial⟩ fun a w h => then_normal (wp_ret ?_)
    exact at_return ((x0.1, ((([] : List Int) ++ x1), (combV x0.2 x1))), (true, ())) [] h (by kernel_rfl) trivial (congrArg (fun z => (z.1, z.2, ())) (show (((x0.1, ((([] : List Int) ++ x1), (combV x0.2 x1))), true)) = codePk x0 x1 from by first | exact codePk_n (by first | (left; assumption) | (right; left; assumption) | (right; right; omega)) | exact codePk_y (cs := x1) (by assumption) (by assumption) (by omega)))

def and255 (z : Int) : Int := IntKind.i64.wrap ((BitVec.ofInt (IntKind.i64).bits z &&& BitVec.ofInt (IntKind.i64).bits 255).toNat : Int)
theorem and255_bd (z : Int) : 0 ≤ and255 z ∧ and255 z ≤ 255 := by
 unfold and255
 have e : (BitVec.ofInt (IntKind.i64).bits z &&& BitVec.ofInt (IntKind.i64).bits 255).toNat ≤ 255 := by
  rw [BitVec.toNat_and]
  have h2 : (BitVec.ofInt (IntKind.i64).bits 255).toNat = 255 := by decide
  rw [h2]; exact Nat.and_le_right
 rw [IntKind.wrap_i64]; omega
def lcgF (h : Int) : Int := IntKind.i64.wrap (IntKind.i64.wrap (h * 6364136223846793005) + 1442695040888963407)
def xorF (h : Int) : Int := IntKind.i64.wrap ((BitVec.ofInt (IntKind.i64).bits (Int.fdiv h (2 ^ (min (33 : Int).toNat (IntKind.i64).bits))) ^^^ BitVec.ofInt (IntKind.i64).bits (Int.fdiv h (2 ^ (min (47 : Int).toNat (IntKind.i64).bits)))).toNat : Int)
def hsF (h c : Int) : Int := IntKind.i64.wrap ((BitVec.ofInt (IntKind.i64).bits (IntKind.i64.wrap (IntKind.i64.wrap (IntKind.i64.wrap (h * 137) + c) + 11)) &&& BitVec.ofInt (IntKind.i64).bits 1073741823).toNat : Int)
def hsTo (code : List Int) : Nat → Int
 | 0 => 193017 + ((List.length code : Nat) : Int)
 | i + 1 => hsF (hsTo code i) (code.getD i 0)
def newC (code : List Int) : T91 := (code, 0, hsTo code (min (List.length code) 4000))
abbrev Q_spec_l1New := (fun (x0 : (List Int)) => Sh.fit s22 x0)
def B_spec_l1New : NS := { t := 91, s := s91, dom := [s22], pre := fun x => Q_spec_l1New x.1, g := fun x => (newC x.1) }
def S_spec_l1New : Sum := nSum 30 B_spec_l1New
def S_spec_l1New_tab : List (Nat × Sum) := []
theorem S_spec_l1New_ok : FnOK Try.prog 30 S_spec_l1New := by
 refine at_enterN (B := B_spec_l1New) 32 (fun x => ⟨[(0, aF (.u8 5) x.1)], []⟩) Try.func30 rfl (by kernel_rfl) (fun x => rfl) ?_
 rintro w0 Z0 ⟨x0, u⟩ a w
 revert x0
 intro (x0 : (List Int)) hpre hlens h
 replace h : At w0 Z0 [] 32 ⟨[(0, aF (.u8 5) x0)], []⟩ a w := h
 replace hpre : Q_spec_l1New x0 := hpre
 have hl1 : List.length x0 ≤ 9223372036854775807 := hlens.1.1
 have hu0 : u8L x0 := hlens.1.2
 have hT : TabOK Try.prog S_spec_l1New_tab := .nil
 have hf0 : Sh.fit s22 x0 := hpre
 have hn0_1 : List.length x0 ≤ 1073741824 := hf0.1
 refine wp_seq ?_
 refine at_regq [] { ts := [0, 2], os := [] } [] gamOK hT h (by kernel_rfl) trivial fun a w h => then_normal (wp_seq ?_)
 refine at_regq [{}, {}, { nw := true }] { ts := [0, 2, 3], os := [] } [I64 (193017 + ((List.length x0 : Nat) : Int))] gamOK hT h (by kernel_rfl) ⟨⟨by first | omega | (simp only [lsA]; omega) | (simp <;> omega), by first | omega | (simp only [lsA]; omega) | (simp <;> omega)⟩, trivial⟩ fun a w h => then_normal (wp_seq (wp_seq ?_))
 refine at_regq [] { ts := [0, 2, 3, 4], os := [] } [] gamOK hT h (by kernel_rfl) trivial fun a w h => then_normal (wp_block ?_)
 replace h := at_out (σ' := ⟨[(0, aF (.u8 5) x0), (2, .p (.c (.v (.pointer none)))), (3, aI (193017 + ((List.length x0 : Nat) : Int))), (4, aI 0)], []⟩) { ts := [0, 2, 3, 4], os := [] } h (by kernel_rfl)
 refine at_loop (fun i : Nat => (⟨[(0, aF (.u8 5) x0), (2, .p (.c (.v (.pointer none)))), (3, aI (hsTo x0 i)), (4, aI ((i : Nat) : Int))], []⟩ : St)) (fun i => i ≤ (min (List.length x0) 4000)) (fun i => (min (List.length x0) 4000) - i) (0) h (st_congr2 (fun (d0 : Int) (d1 : Int) => (⟨[(0, aF (.u8 5) x0), (2, .p (.c (.v (.pointer none)))), (3, aI d0), (4, aI d1)], []⟩ : St)) (show (193017 + ((List.length x0 : Nat) : Int) : Int) = (hsTo x0 (0)) from by first | with_reducible rfl | (rfl) | rfl) (show (0 : Int) = (((0) : Nat) : Int) from by first | with_reducible rfl | (rfl) | rfl)) (by omega) ?_
 intro i a w hok0 h
 have hu1 := getD_u8 hu0 i
 refine wp_seq (wp_seq ?_)
 by_cases h1 : ((i : Nat) : Int) < ((List.length x0 : Nat) : Int)
 ·refine at_regq [{}, {}, {}, { hint := some (aB true) }] { ts := [0, 2, 3, 4, 13, 14, 15], os := [] } [(AV.p (.c (.v (.bool (decide (((i : Nat) : Int) < ((List.length x0 : Nat) : Int)))))) = AV.p (.c (.v (.bool true))))] gamOK hT h (by kernel_rfl) ⟨hint_bool (decide_eq_true h1), trivial⟩ fun a w h => then_normal ?_
  refine at_test (decide (((i : Nat) : Int) < 4000)) h (by kernel_rfl) (fun h2 => ?_) (fun h2 => ?_)
  ·replace h2 : ((i : Nat) : Int) < 4000 := of_decide_eq_true h2
   refine wp_skip (then_normal (wp_seq (wp_block ?_)))
   refine at_regq [{}, {}, {}, {}, {}, {}, { hint := some (aI (x0.getD i 0)) }, {}, {}, { hint := some (aI (hsF (hsTo x0 i) (x0.getD i 0))) }] { ts := [0, 2, 3, 4, 13, 14], os := [] } [(0 : Int) ≤ ((i : Nat) : Int) ∧ ((i : Nat) : Int) < ((List.length x0 : Nat) : Int), (AV.p (.c (.v (.int .i64 (IntKind.i64.wrap ((x0.getD i 0)))))) = AV.p (.c (.v (.int .i64 ((x0.getD i 0)))))), (AV.p (.c (.v (.int .i64 (IntKind.i64.wrap ((BitVec.ofInt (IntKind.i64).bits (IntKind.i64.wrap ((IntKind.i64.wrap ((IntKind.i64.wrap ((hsTo x0 i) * 137)) + (x0.getD i 0))) + 11)) &&& BitVec.ofInt (IntKind.i64).bits 1073741823).toNat : Int))))) = AV.p (.c (.v (.int .i64 ((hsF (hsTo x0 i) (x0.getD i 0)))))))] gamOK hT h (by kernel_rfl) ⟨(by refine ⟨?_, ?_⟩ <;> (first | omega | (simp only [lsA]; omega) | (simp <;> omega))), hint_int (wrap_id ⟨by first | omega | (simp only [lsA]; omega) | (simp <;> omega), by first | omega | (simp only [lsA]; omega) | (simp <;> omega)⟩), hint_int (by rfl), trivial⟩ fun a w h => in_normal (then_normal ?_)
   refine at_regq [{}, { nw := true }] { ts := [0, 2, 3, 4, 13, 14], os := [] } [I64 (((i : Nat) : Int) + 1)] gamOK hT h (by kernel_rfl) ⟨⟨by first | omega | (simp only [lsA]; omega) | (simp <;> omega), by first | omega | (simp only [lsA]; omega) | (simp <;> omega)⟩, trivial⟩ fun a w h => ?_
   replace h := at_out (σ' := ⟨[(0, aF (.u8 5) x0), (2, .p (.c (.v (.pointer none)))), (3, aI (hsF (hsTo x0 i) (x0.getD i 0))), (4, aI (((i : Nat) : Int) + 1))], []⟩) { ts := [0, 2, 3, 4], os := [] } h (by kernel_rfl)
   exact ⟨i + 1, at_eq h (st_congr2 (fun (d0 : Int) (d1 : Int) => (⟨[(0, aF (.u8 5) x0), (2, .p (.c (.v (.pointer none)))), (3, aI d0), (4, aI d1)], []⟩ : St)) (show ((hsF (hsTo x0 i) (x0.getD i 0)) : Int) = (hsTo x0 (i + 1)) from by first | with_reducible rfl | (rfl) | rfl) (show (((i : Nat) : Int) + 1 : Int) = (((i + 1) : Nat) : Int) from by first | with_reducible rfl | (omega) | rfl)), (by omega), (by omega)⟩
  ·replace h2 : ¬ (((i : Nat) : Int) < 4000) := of_decide_eq_false h2
   refine wp_exit (then_exit ?_)
   replace h := at_out (σ' := ⟨[(0, aF (.u8 5) x0), (2, .p (.c (.v (.pointer none)))), (3, aI (hsTo x0 i))], []⟩) { ts := [0, 2, 3], os := [] } h (by kernel_rfl)
   replace h := at_eq (σ' := ⟨[(0, aF (.u8 5) x0), (2, .p (.c (.v (.pointer none)))), (3, aI (hsTo x0 (min (List.length x0) 4000)))], []⟩) h (st_congr1 (fun (d0 : Int) => (⟨[(0, aF (.u8 5) x0), (2, .p (.c (.v (.pointer none)))), (3, aI d0)], []⟩ : St)) (show ((hsTo x0 i) : Int) = (hsTo x0 (min (List.length x0) 4000)) from by first | with_reducible rfl | (rw [show i = (min (List.length x0) 4000) by omega]) | rfl))
   refine then_exit (in_hit (then_normal (wp_seq ?_)))
   refine at_regq [{}, {}, {}, { ids := [1] }] { ts := [2], os := [1] } [] gamOK hT h (by kernel_rfl) trivial fun a w h => then_normal (wp_ret ?_)
   exact at_returnN (B := B_spec_l1New) (x := (x0, ())) ((x0, (0, (hsTo x0 (min (List.length x0) 4000))))) [] h (by kernel_rfl) trivial (show (x0, (0, (hsTo x0 (min (List.length x0) 4000)))) = newC x0 from by rfl)
 ·refine at_regq [{}, {}, {}, { hint := some (aB false) }] { ts := [0, 2, 3, 4, 13, 14, 15], os := [] } [(AV.p (.c (.v (.bool (decide (((i : Nat) : Int) < ((List.length x0 : Nat) : Int)))))) = AV.p (.c (.v (.bool false))))] gamOK hT h (by kernel_rfl) ⟨hint_bool (decide_eq_false h1), trivial⟩ fun a w h => then_normal ?_
  refine at_test false h (by kernel_rfl) (fun hh => nomatch hh) (fun hh => ?_)
  refine wp_exit (then_exit ?_)
  replace h := at_out (σ' := ⟨[(0, aF (.u8 5) x0), (2, .p (.c (.v (.pointer none)))), (3, aI (hsTo x0 i))], []⟩) { ts := [0, 2, 3], os := [] } h (by kernel_rfl)
  replace h := at_eq (σ' := ⟨[(0, aF (.u8 5) x0), (2, .p (.c (.v (.pointer none)))), (3, aI (hsTo x0 (min (List.length x0) 4000)))], []⟩) h (st_congr1 (fun (d0 : Int) => (⟨[(0, aF (.u8 5) x0), (2, .p (.c (.v (.pointer none)))), (3, aI d0)], []⟩ : St)) (show ((hsTo x0 i) : Int) = (hsTo x0 (min (List.length x0) 4000)) from by first | with_reducible rfl | (rw [show i = (min (List.length x0) 4000) by omega]) | rfl))
  refine then_exit (in_hit (then_normal (wp_seq ?_)))
  refine at_regq [{}, {}, {}, { ids := [1] }] { ts := [2], os := [1] } [] gamOK hT h (by kernel_rfl) trivial fun a w h => then_normal (wp_ret ?_)
  exact at_returnN (B := B_spec_l1New) (x := (x0, ())) ((x0, (0, (hsTo x0 (min (List.length x0) 4000))))) [] h (by kernel_rfl) trivial (show (x0, (0, (hsTo x0 (min (List.length x0) 4000)))) = newC x0 from by rfl)

@[irreducible]
def byteC (x0 : T91) : T91 × Int := (if x0.2.1 < ((List.length x0.1 : Nat) : Int) then ((x0.1, (x0.2.1 + 1, (lcgF x0.2.2))), (and255 (and255 (xorF (lcgF x0.2.2)) + x0.1.getD x0.2.1.toNat 0))) else ((x0.1, (x0.2.1, (lcgF x0.2.2))), (and255 (xorF (lcgF x0.2.2)))))
abbrev Q_spec_l1Byte := (fun (x0 : T91) => 0 ≤ x0.2.1)
def B_spec_l1Byte : BS := { t := 91, s := s91, dom := [], cod := [(.int 3)], pre := fun y x => Q_spec_l1Byte y, upd := fun y x => (byteC y).1, g := fun y x => ((byteC y).2, ()) }
def S_spec_l1Byte : Sum := bSum 89 B_spec_l1Byte
def S_spec_l1Byte_tab : List (Nat × Sum) := []
theorem S_spec_l1Byte_ok : FnOK Try.prog 89 S_spec_l1Byte := by
 refine at_enterB (B := B_spec_l1Byte) 58 (fun v y x => ⟨[(0, aP 1 0)], [(1, oX 91 [.ro (.u8 5) y.1, cI y.2.1, cI y.2.2]), (2, oP 1 v)]⟩) Try.func89 rfl (by kernel_rfl) (fun v y x => rfl) ?_
 rintro w0 Z0 b0 x0 ⟨u⟩ a w
 revert x0
 intro (x0 : T91) hpre hlens0 hlens h
 replace h : At w0 Z0 [b0] 58 ⟨[(0, aP 1 0)], [(1, oX 91 [.ro (.u8 5) x0.1, cI x0.2.1, cI x0.2.2]), (2, oP 1 (Value.pointer (some ⟨b0, 0, none⟩)))]⟩ a w := h
 replace hpre : Q_spec_l1Byte x0 := hpre
 have hl1 : List.length x0.1 ≤ 9223372036854775807 := hlens0.1.1
 have hu0 : u8L x0.1 := hlens0.1.2
 have hT : TabOK Try.prog S_spec_l1Byte_tab := .nil
 have hp : (0 : Int) ≤ x0.2.1 := hpre
 refine wp_seq ?_
 refine at_regq [] { ts := [0, 2], os := [1, 2] } [] gamOK hT h (by kernel_rfl) trivial fun a w h => then_normal (wp_seq ?_)
 refine at_regq [{}, {}, {}, {}, {}, {}, { hint := some (aI (lcgF x0.2.2)) }] { ts := [0, 2], os := [1, 2] } [(AV.p (.c (.v (.int .i64 (IntKind.i64.wrap ((IntKind.i64.wrap (x0.2.2 * 6364136223846793005)) + 1442695040888963407))))) = AV.p (.c (.v (.int .i64 ((lcgF x0.2.2))))))] gamOK hT h (by kernel_rfl) ⟨hint_int (by rfl), trivial⟩ fun a w h => then_normal (wp_seq ?_)
 refine at_anyq [{}, {}, {}, {}, {}, {}, {}, {}, {}, {}, { hint := some (aI (xorF (lcgF x0.2.2))) }, { hint := some (aI (and255 (xorF (lcgF x0.2.2)))) }, {}] { ts := [0, 2, 3], os := [1, 2] } [(0 : Int) ≤ 33, (0 : Int) ≤ 47, (AV.p (.c (.v (.int .i64 (IntKind.i64.wrap ((BitVec.ofInt (IntKind.i64).bits (Int.fdiv (lcgF x0.2.2) (2 ^ (min (33 : Int).toNat (IntKind.i64).bits))) ^^^ BitVec.ofInt (IntKind.i64).bits (Int.fdiv (lcgF x0.2.2) (2 ^ (min (47 : Int).toNat (IntKind.i64).bits)))).toNat : Int))))) = AV.p (.c (.v (.int .i64 ((xorF (lcgF x0.2.2))))))), (AV.p (.c (.v (.int .i64 (IntKind.i64.wrap ((BitVec.ofInt (IntKind.i64).bits (xorF (lcgF x0.2.2)) &&& BitVec.ofInt (IntKind.i64).bits 255).toNat : Int))))) = AV.p (.c (.v (.int .i64 ((and255 (xorF (lcgF x0.2.2))))))))] gamOK hT mixed h (by kernel_rfl) ⟨(by first | omega | (simp only [lsA]; omega) | (simp <;> omega)), (by first | omega | (simp only [lsA]; omega) | (simp <;> omega)), hint_int (by rfl), hint_int (by rfl), trivial⟩ fun a w h => then_normal (wp_seq (wp_seq ?_))
 refine at_anyq [{}, {}, {}, {}, {}, {}, {}, {}, {}, {}] { ts := [0, 2, 3, 34], os := [1, 2] } [] gamOK hT mixed h (by kernel_rfl) trivial fun a w h => then_normal ?_
 refine at_test (decide (x0.2.1 < ((List.length x0.1 : Nat) : Int))) h (by kernel_rfl) (fun h1 => ?_) (fun h1 => ?_)
 ·replace h1 : x0.2.1 < ((List.length x0.1 : Nat) : Int) := of_decide_eq_true h1
  have hu1 := getD_u8 hu0 x0.2.1.toNat
  have ha1 := and255_bd (xorF (lcgF x0.2.2))
  refine wp_seq ?_
  refine at_anyq [{}, {}, {}, {}, {}, {}, {}, {}, {}, {}, {}, { hint := some (aI (x0.1.getD ((x0.2.1).toNat) 0)) }, { nw := true }, { hint := some (aI (and255 (and255 (xorF (lcgF x0.2.2)) + x0.1.getD x0.2.1.toNat 0))) }, {}] { ts := [0, 2, 3], os := [1, 2] } [(0 : Int) ≤ x0.2.1 ∧ x0.2.1 < ((List.length x0.1 : Nat) : Int), (AV.p (.c (.v (.int .i64 (IntKind.i64.wrap ((x0.1.getD ((x0.2.1).toNat) 0)))))) = AV.p (.c (.v (.int .i64 ((x0.1.getD ((x0.2.1).toNat) 0)))))), I64 ((and255 (xorF (lcgF x0.2.2))) + (x0.1.getD ((x0.2.1).toNat) 0)), (AV.p (.c (.v (.int .i64 (IntKind.i64.wrap ((BitVec.ofInt (IntKind.i64).bits ((and255 (xorF (lcgF x0.2.2))) + (x0.1.getD ((x0.2.1).toNat) 0)) &&& BitVec.ofInt (IntKind.i64).bits 255).toNat : Int))))) = AV.p (.c (.v (.int .i64 ((and255 (and255 (xorF (lcgF x0.2.2)) + x0.1.getD x0.2.1.toNat 0)))))))] gamOK hT mixed h (by kernel_rfl) ⟨(by refine ⟨?_, ?_⟩ <;> (first | omega | (simp only [lsA]; omega) | (simp <;> omega))), hint_int (wrap_id ⟨by first | omega | (simp only [lsA]; omega) | (simp <;> omega), by first | omega | (simp only [lsA]; omega) | (simp <;> omega)⟩), ⟨by first | omega | (simp only [lsA]; omega) | (simp <;> omega), by first | omega | (simp only [lsA]; omega) | (simp <;> omega)⟩, hint_int (by rfl), trivial⟩ fun a w h => then_normal ?_
  refine at_regq [{}, {}, {}, {}, {}, { nw := true }] { ts := [2, 3], os := [1, 2] } [I64 (x0.2.1 + 1)] gamOK hT h (by kernel_rfl) ⟨⟨by first | omega | (simp only [lsA]; omega) | (simp <;> omega), by first | omega | (simp only [lsA]; omega) | (simp <;> omega)⟩, trivial⟩ fun a w h => then_normal (wp_seq ?_)
  refine at_regq [] { ts := [2], os := [1, 2] } [] gamOK hT h (by kernel_rfl) trivial fun a w h => then_normal (wp_ret ?_)
  have hr2 : (((x0.1, (x0.2.1 + 1, (lcgF x0.2.2))), (and255 (and255 (xorF (lcgF x0.2.2)) + x0.1.getD x0.2.1.toNat 0))) : T91 × Int) = byteC x0 := by (unfold byteC; rw [if_pos h1])
  exact at_returnB (B := B_spec_l1Byte) (c0 := x0) (x := (())) ((x0.1, (x0.2.1 + 1, (lcgF x0.2.2)))) ((and255 (and255 (xorF (lcgF x0.2.2)) + x0.1.getD x0.2.1.toNat 0)), ()) [(Value.pointer (some ⟨b0, 0, none⟩)) = (Value.pointer (some ⟨b0, 0, none⟩))] h (by kernel_rfl) ⟨rfl, trivial⟩ (congrArg (a₁ := ((x0.1, (x0.2.1 + 1, (lcgF x0.2.2))), (and255 (and255 (xorF (lcgF x0.2.2)) + x0.1.getD x0.2.1.toNat 0)))) (a₂ := byteC x0) (fun (z : T91 × Int) => z.1) hr2) (congrArg (a₁ := ((x0.1, (x0.2.1 + 1, (lcgF x0.2.2))), (and255 (and255 (xorF (lcgF x0.2.2)) + x0.1.getD x0.2.1.toNat 0)))) (a₂ := byteC x0) (fun (z : T91 × Int) => (z.2, ())) hr2)
 ·replace h1 : ¬ (x0.2.1 < ((List.length x0.1 : Nat) : Int)) := of_decide_eq_false h1
  refine wp_skip (then_normal (wp_seq ?_))
  refine at_regq [] { ts := [2], os := [1, 2] } [] gamOK hT h (by kernel_rfl) trivial fun a w h => then_normal (wp_ret ?_)
  have hr3 : (((x0.1, (x0.2.1, (lcgF x0.2.2))), (and255 (xorF (lcgF x0.2.2)))) : T91 × Int) = byteC x0 := by (unfold byteC; rw [if_neg h1])
  exact at_returnB (B := B_spec_l1Byte) (c0 := x0) (x := (())) ((x0.1, (x0.2.1, (lcgF x0.2.2)))) ((and255 (xorF (lcgF x0.2.2))), ()) [(Value.pointer (some ⟨b0, 0, none⟩)) = (Value.pointer (some ⟨b0, 0, none⟩))] h (by kernel_rfl) ⟨rfl, trivial⟩ (congrArg (a₁ := ((x0.1, (x0.2.1, (lcgF x0.2.2))), (and255 (xorF (lcgF x0.2.2))))) (a₂ := byteC x0) (fun (z : T91 × Int) => z.1) hr3) (congrArg (a₁ := ((x0.1, (x0.2.1, (lcgF x0.2.2))), (and255 (xorF (lcgF x0.2.2))))) (a₂ := byteC x0) (fun (z : T91 × Int) => (z.2, ())) hr3)
theorem byte_bd (x : T91) : 0 ≤ (byteC x).2 ∧ (byteC x).2 ≤ 255 := by
 unfold byteC; split <;> exact and255_bd _
theorem byte_ok {x : T91} (h : 0 ≤ x.2.1) : 0 ≤ (byteC x).1.2.1 := by
 unfold byteC; split
 ·show (0 : Int) ≤ x.2.1 + 1; omega
 ·exact h

@[irreducible]
def belowC (x0 : T91) (x1 : Int) : T91 × Int := (if x1 ≤ 0 then (x0, 0) else (if x1 ≤ 256 then ((byteC x0).1, (Int.tmod (byteC x0).2 x1)) else ((byteC (byteC (byteC x0).1).1).1, (Int.tmod ((((byteC x0).2 * 65536) + ((byteC (byteC x0).1).2 * 256)) + (byteC (byteC (byteC x0).1).1).2) x1))))
abbrev Q_spec_l1Below := (fun (x0 : T91) (x1 : Int) => 0 ≤ x0.2.1)
def B_spec_l1Below : BS := { t := 91, s := s91, dom := [(.int 3)], cod := [(.int 3)], pre := fun y x => Q_spec_l1Below y x.1, upd := fun y x => (belowC y x.1).1, g := fun y x => ((belowC y x.1).2, ()) }
def S_spec_l1Below : Sum := bSum 60 B_spec_l1Below
def S_spec_l1Below_tab : List (Nat × Sum) := [(89, S_spec_l1Byte)]
theorem S_spec_l1Below_ok : FnOK Try.prog 60 S_spec_l1Below := by
 refine at_enterB (B := B_spec_l1Below) 31 (fun v y x => ⟨[(0, aP 1 0), (1, aI x.1)], [(1, oX 91 [.ro (.u8 5) y.1, cI y.2.1, cI y.2.2]), (2, oP 1 v)]⟩) Try.func60 rfl (by kernel_rfl) (fun v y x => rfl) ?_
 rintro w0 Z0 b0 x0 ⟨x1, u⟩ a w
 revert x0 x1
 intro (x0 : T91) (x1 : Int) hpre hlens0 hlens h
 replace h : At w0 Z0 [b0] 31 ⟨[(0, aP 1 0), (1, aI x1)], [(1, oX 91 [.ro (.u8 5) x0.1, cI x0.2.1, cI x0.2.2]), (2, oP 1 (Value.pointer (some ⟨b0, 0, none⟩)))]⟩ a w := h
 replace hpre : Q_spec_l1Below x0 x1 := hpre
 have hl1 : List.length x0.1 ≤ 9223372036854775807 := hlens0.1.1
 have hu0 : u8L x0.1 := hlens0.1.2
 have hT : TabOK Try.prog S_spec_l1Below_tab := (.cons S_spec_l1Byte_ok .nil)
 have hb1 := byte_ok hpre
 have hb2 := byte_ok hb1
 have hb3 := byte_ok hb2
 have hd1 := byte_bd x0
 have hd2 := byte_bd (byteC x0).1
 have hd3 := byte_bd (byteC (byteC x0).1).1
 refine wp_seq ?_
 refine at_regq [] { ts := [0, 1, 4], os := [1, 2] } [] gamOK hT h (by kernel_rfl) trivial fun a w h => then_normal (wp_seq (wp_seq ?_))
 refine at_regq [] { ts := [0, 1, 4, 9], os := [1, 2] } [] gamOK hT h (by kernel_rfl) trivial fun a w h => then_normal ?_
 refine at_test (decide (x1 ≤ 0)) h (by kernel_rfl) (fun h1 => ?_) (fun h1 => ?_)
 ·replace h1 : x1 ≤ 0 := of_decide_eq_true h1
  refine wp_seq ?_
  refine at_regq [] { ts := [0, 1, 4], os := [1, 2] } [] gamOK hT h (by kernel_rfl) trivial fun a w h => then_normal (wp_ret (then_ret ?_))
  have hr2 : ((x0, 0) : T91 × Int) = belowC x0 x1 := by (unfold belowC; rw [if_pos h1])
  exact at_returnB (B := B_spec_l1Below) (c0 := x0) (x := (x1, ())) (x0) (0, ()) [(Value.pointer (some ⟨b0, 0, none⟩)) = (Value.pointer (some ⟨b0, 0, none⟩))] h (by kernel_rfl) ⟨rfl, trivial⟩ (congrArg (a₁ := (x0, 0)) (a₂ := belowC x0 x1) (fun (z : T91 × Int) => z.1) hr2) (congrArg (a₁ := (x0, 0)) (a₂ := belowC x0 x1) (fun (z : T91 × Int) => (z.2, ())) hr2)
 ·replace h1 : ¬ (x1 ≤ 0) := of_decide_eq_false h1
  refine wp_skip (then_normal (wp_seq (wp_seq ?_)))
  refine at_regq [] { ts := [0, 1, 4, 11], os := [1, 2] } [] gamOK hT h (by kernel_rfl) trivial fun a w h => then_normal ?_
  refine at_test (decide (x1 ≤ 256)) h (by kernel_rfl) (fun h3 => ?_) (fun h3 => ?_)
  ·replace h3 : x1 ≤ 256 := of_decide_eq_true h3
   refine wp_seq ?_
   refine at_regq [] { ts := [0, 1, 4], os := [1, 2] } [B_spec_l1Byte.pre x0 (()), (x1 : Int) ≠ 0] gamOK hT h (by kernel_rfl) ⟨(by first | exact hpre | exact hb1 | exact hb2 | exact hb3), (by first | omega | (simp only [lsA]; omega) | (simp <;> omega)), trivial⟩ fun a w h => then_normal (wp_ret (then_ret ?_))
   have hr4 : (((byteC x0).1, (Int.tmod (byteC x0).2 x1)) : T91 × Int) = belowC x0 x1 := by (unfold belowC; rw [if_neg h1, if_pos h3])
   exact at_returnB (B := B_spec_l1Below) (c0 := x0) (x := (x1, ())) ((byteC x0).1) ((Int.tmod (byteC x0).2 x1), ()) [(Value.pointer (some ⟨b0, 0, none⟩)) = (Value.pointer (some ⟨b0, 0, none⟩))] h (by kernel_rfl) ⟨rfl, trivial⟩ (congrArg (a₁ := ((byteC x0).1, (Int.tmod (byteC x0).2 x1))) (a₂ := belowC x0 x1) (fun (z : T91 × Int) => z.1) hr4) (congrArg (a₁ := ((byteC x0).1, (Int.tmod (byteC x0).2 x1))) (a₂ := belowC x0 x1) (fun (z : T91 × Int) => (z.2, ())) hr4)
  ·replace h3 : ¬ (x1 ≤ 256) := of_decide_eq_false h3
   refine wp_skip (then_normal (wp_seq ?_))
   refine at_regq [] { ts := [0, 1, 4, 5], os := [1, 2] } [B_spec_l1Byte.pre x0 (())] gamOK hT h (by kernel_rfl) ⟨(by first | exact hpre | exact hb1 | exact hb2 | exact hb3), trivial⟩ fun a w h => then_normal (wp_seq ?_)
   refine at_regq [] { ts := [0, 1, 4, 5, 6], os := [1, 2] } [B_spec_l1Byte.pre (byteC x0).1 (())] gamOK hT h (by kernel_rfl) ⟨(by first | exact hpre | exact hb1 | exact hb2 | exact hb3), trivial⟩ fun a w h => then_normal (wp_seq ?_)
   refine at_regq [] { ts := [1, 4, 5, 6, 7], os := [1, 2] } [B_spec_l1Byte.pre (byteC (byteC x0).1).1 (())] gamOK hT h (by kernel_rfl) ⟨(by first | exact hpre | exact hb1 | exact hb2 | exact hb3), trivial⟩ fun a w h => then_normal (wp_seq ?_)
   refine at_regq [{}, { nw := true }, {}, { nw := true }, { nw := true }, {}, { nw := true }] { ts := [4], os := [1, 2] } [I64 ((byteC x0).2 * 65536), I64 ((byteC (byteC x0).1).2 * 256), I64 (((byteC x0).2 * 65536) + ((byteC (byteC x0).1).2 * 256)), I64 ((((byteC x0).2 * 65536) + ((byteC (byteC x0).1).2 * 256)) + (byteC (byteC (byteC x0).1).1).2), (x1 : Int) ≠ 0] gamOK hT h (by kernel_rfl) ⟨⟨by first | omega | (simp only [lsA]; omega) | (simp <;> omega), by first | omega | (simp only [lsA]; omega) | (simp <;> omega)⟩, ⟨by first | omega | (simp only [lsA]; omega) | (simp <;> omega), by first | omega | (simp only [lsA]; omega) | (simp <;> omega)⟩, ⟨by first | omega | (simp only [lsA]; omega) | (simp <;> omega), by first | omega | (simp only [lsA]; omega) | (simp <;> omega)⟩, ⟨by first | omega | (simp only [lsA]; omega) | (simp <;> omega), by first | omega | (simp only [lsA]; omega) | (simp <;> omega)⟩, (by first | omega | (simp only [lsA]; omega) | (simp <;> omega)), trivial⟩ fun a w h => then_normal (wp_ret ?_)
   have hr5 : (((byteC (byteC (byteC x0).1).1).1, (Int.tmod ((((byteC x0).2 * 65536) + ((byteC (byteC x0).1).2 * 256)) + (byteC (byteC (byteC x0).1).1).2) x1)) : T91 × Int) = belowC x0 x1 := by (unfold belowC; rw [if_neg h1, if_neg h3])
   exact at_returnB (B := B_spec_l1Below) (c0 := x0) (x := (x1, ())) ((byteC (byteC (byteC x0).1).1).1) ((Int.tmod ((((byteC x0).2 * 65536) + ((byteC (byteC x0).1).2 * 256)) + (byteC (byteC (byteC x0).1).1).2) x1), ()) [(Value.pointer (some ⟨b0, 0, none⟩)) = (Value.pointer (some ⟨b0, 0, none⟩))] h (by kernel_rfl) ⟨rfl, trivial⟩ (congrArg (a₁ := ((byteC (byteC (byteC x0).1).1).1, (Int.tmod ((((byteC x0).2 * 65536) + ((byteC (byteC x0).1).2 * 256)) + (byteC (byteC (byteC x0).1).1).2) x1))) (a₂ := belowC x0 x1) (fun (z : T91 × Int) => z.1) hr5) (congrArg (a₁ := ((byteC (byteC (byteC x0).1).1).1, (Int.tmod ((((byteC x0).2 * 65536) + ((byteC (byteC x0).1).2 * 256)) + (byteC (byteC (byteC x0).1).1).2) x1))) (a₂ := belowC x0 x1) (fun (z : T91 × Int) => (z.2, ())) hr5)
theorem below_ok {x : T91} {n : Int} (h : 0 ≤ x.2.1) : 0 ≤ (belowC x n).1.2.1 := by
 unfold belowC
 split
 ·exact h
 ·split
  ·exact byte_ok h
  ·exact byte_ok (byte_ok (byte_ok h))
theorem below_bd (x : T91) {n : Int} (h : 0 < n) : 0 ≤ (belowC x n).2 ∧ (belowC x n).2 < n := by
 unfold belowC
 rw [if_neg (by omega)]
 have hd1 := byte_bd x; have hd2 := byte_bd (byteC x).1; have hd3 := byte_bd (byteC (byteC x).1).1
 split
 ·exact LA.tmod_lt hd1.1 h
 ·exact LA.tmod_lt (by first | omega | (dsimp only; omega)) h

def onceC (x0 : T91) (x1 : Int) : T91 × Bool := ((belowC x0 x1).1, decide ((belowC x0 x1).2 = 0))
abbrev Q_spec_l1Once := (fun (x0 : T91) (x1 : Int) => 0 ≤ x0.2.1)
def B_spec_l1Once : BS := { t := 91, s := s91, dom := [(.int 3)], cod := [(.bool 4)], pre := fun y x => Q_spec_l1Once y x.1, upd := fun y x => (onceC y x.1).1, g := fun y x => ((onceC y x.1).2, ()) }
def S_spec_l1Once : Sum := bSum 76 B_spec_l1Once
def S_spec_l1Once_tab : List (Nat × Sum) := [(60, S_spec_l1Below)]
theorem S_spec_l1Once_ok : FnOK Try.prog 76 S_spec_l1Once := by
 refine at_enterB (B := B_spec_l1Once) 9 (fun v y x => ⟨[(0, aP 1 0), (1, aI x.1)], [(1, oX 91 [.ro (.u8 5) y.1, cI y.2.1, cI y.2.2]), (2, oP 1 v)]⟩) Try.func76 rfl (by kernel_rfl) (fun v y x => rfl) ?_
 rintro w0 Z0 b0 x0 ⟨x1, u⟩ a w
 revert x0 x1
 intro (x0 : T91) (x1 : Int) hpre hlens0 hlens h
 replace h : At w0 Z0 [b0] 9 ⟨[(0, aP 1 0), (1, aI x1)], [(1, oX 91 [.ro (.u8 5) x0.1, cI x0.2.1, cI x0.2.2]), (2, oP 1 (Value.pointer (some ⟨b0, 0, none⟩)))]⟩ a w := h
 replace hpre : Q_spec_l1Once x0 x1 := hpre
 have hl1 : List.length x0.1 ≤ 9223372036854775807 := hlens0.1.1
 have hu0 : u8L x0.1 := hlens0.1.2
 have hT : TabOK Try.prog S_spec_l1Once_tab := (.cons S_spec_l1Below_ok .nil)
 refine wp_seq ?_
 refine at_regq [] { ts := [0, 1, 4], os := [1, 2] } [] gamOK hT h (by kernel_rfl) trivial fun a w h => then_normal (wp_seq ?_)
 refine at_regq [] { ts := [4], os := [1, 2] } [B_spec_l1Below.pre x0 (x1, ())] gamOK hT h (by kernel_rfl) ⟨(by exact hpre), trivial⟩ fun a w h => then_normal (wp_ret ?_)
 have hr1 : (((belowC x0 x1).1, decide ((belowC x0 x1).2 = 0)) : T91 × Bool) = onceC x0 x1 := by rfl
 exact at_returnB (B := B_spec_l1Once) (c0 := x0) (x := (x1, ())) ((belowC x0 x1).1) (decide ((belowC x0 x1).2 = 0), ()) [(Value.pointer (some ⟨b0, 0, none⟩)) = (Value.pointer (some ⟨b0, 0, none⟩))] h (by kernel_rfl) ⟨rfl, trivial⟩ (congrArg (a₁ := ((belowC x0 x1).1, decide ((belowC x0 x1).2 = 0))) (a₂ := onceC x0 x1) (fun (z : T91 × Bool) => z.1) hr1) (congrArg (a₁ := ((belowC x0 x1).1, decide ((belowC x0 x1).2 = 0))) (a₂ := onceC x0 x1) (fun (z : T91 × Bool) => (z.2, ())) hr1)
theorem once_ok {x : T91} {n : Int} (h : 0 ≤ x.2.1) : 0 ≤ (onceC x n).1.2.1 := below_ok h

def bigF (x0 : (List Int)) : Bool := decide (((List.length x0 : Nat) : Int) > 1048576)
def S_laws_big : Sum := { fid := 6, dom := [s22], cod := [(.bool 4)], dp := true, fz := false, pre := fun x => True, g := fun x => ((bigF x.1), ()) }
def S_laws_big_tab : List (Nat × Sum) := []
theorem S_laws_big_ok : FnOK Try.prog 6 S_laws_big := by
 refine at_enter 6 (fun x => ⟨[(0, aF (.u8 5) x.1)], []⟩) Try.func6 rfl (by kernel_rfl) (fun x => rfl) ?_
 rintro w0 Z0 ⟨x0, u⟩ a w
 revert x0
 intro (x0 : (List Int)) hpre hlens h
 have hl1 : List.length x0 ≤ 9223372036854775807 := hlens.1.1
 have hu0 : u8L x0 := hlens.1.2
 have hT : TabOK Try.prog S_laws_big_tab := .nil
 refine wp_seq ?_
 refine at_regq [] { ts := [0, 2], os := [] } [] gamOK hT h (by kernel_rfl) trivial fun a w h => then_normal (wp_seq ?_)
 refine at_regq [] { ts := [2], os := [] } [] gamOK hT h (by kernel_rfl) trivial fun a w h => then_normal (wp_ret ?_)
 exact at_return (decide (((List.length x0 : Nat) : Int) > 1048576), ()) [] h (by kernel_rfl) trivial (congrArg (fun z => (z, ())) (show (decide (((List.length x0 : Nat) : Int) > 1048576)) = bigF x0 from by rfl))
theorem big_f {x : List Int} (h : bigF x = false) : List.length x ≤ 1048576 := by
 have := of_decide_eq_false h; omega

def atF (x0 : (List Int)) (x1 : Int) : Int := (if x1 < ((List.length x0 : Nat) : Int) then (x0.getD ((x1).toNat) 0) else (Int.tmod ((x1 * 31) + (((List.length x0 : Nat) : Int) * 7)) 256))
abbrev Q_laws_at := (fun (x0 : List Int) (x1 : Int) => List.length x0 ≤ 1048576 ∧ (0 ≤ x1 ∧ x1 ≤ 1048576))
def S_laws_at : Sum := { fid := 16, dom := [s22, (.int 3)], cod := [(.int 3)], dp := true, fz := false, pre := fun x => Q_laws_at x.1 x.2.1, g := fun x => ((atF x.1 x.2.1), ()) }
def S_laws_at_tab : List (Nat × Sum) := []
theorem S_laws_at_ok : FnOK Try.prog 16 S_laws_at := by
 refine at_enter 21 (fun x => ⟨[(0, aF (.u8 5) x.1), (1, aI x.2.1)], []⟩) Try.func16 rfl (by kernel_rfl) (fun x => rfl) ?_
 rintro w0 Z0 ⟨x0, x1, u⟩ a w
 revert x0 x1
 intro (x0 : (List Int)) (x1 : Int) hpre hlens h
 replace hpre : Q_laws_at x0 x1 := hpre
 have hl1 : List.length x0 ≤ 9223372036854775807 := hlens.1.1
 have hu0 : u8L x0 := hlens.1.2
 have hT : TabOK Try.prog S_laws_at_tab := .nil
 have hpz : List.length x0 ≤ 1048576 ∧ (0 ≤ x1 ∧ x1 ≤ 1048576) := hpre
 refine wp_seq ?_
 refine at_regq [] { ts := [0, 1, 4], os := [] } [] gamOK hT h (by kernel_rfl) trivial fun a w h => then_normal (wp_seq (wp_seq ?_))
 refine at_regq [] { ts := [0, 1, 4, 8], os := [] } [] gamOK hT h (by kernel_rfl) trivial fun a w h => then_normal ?_
 refine at_test (decide (x1 < ((List.length x0 : Nat) : Int))) h (by kernel_rfl) (fun h1 => ?_) (fun h1 => ?_)
 ·replace h1 : x1 < ((List.length x0 : Nat) : Int) := of_decide_eq_true h1
  have hu1 := getD_u8 hu0 x1.toNat
  refine wp_seq ?_
  refine at_regq [{}, {}, {}, {}, { hint := some (aI (x0.getD ((x1).toNat) 0)) }] { ts := [0, 1, 4], os := [] } [(0 : Int) ≤ x1 ∧ x1 < ((List.length x0 : Nat) : Int), (AV.p (.c (.v (.int .i64 (IntKind.i64.wrap ((x0.getD ((x1).toNat) 0)))))) = AV.p (.c (.v (.int .i64 ((x0.getD ((x1).toNat) 0))))))] gamOK hT h (by kernel_rfl) ⟨(by refine ⟨?_, ?_⟩ <;> (first | omega | (simp only [lsA]; omega) | (simp <;> omega))), hint_int (wrap_id ⟨by first | omega | (simp only [lsA]; omega) | (simp <;> omega), by first | omega | (simp only [lsA]; omega) | (simp <;> omega)⟩), trivial⟩ fun a w h => then_normal (wp_ret (then_ret ?_))
  exact at_return ((x0.getD ((x1).toNat) 0), ()) [] h (by kernel_rfl) trivial (congrArg (fun z => (z, ())) (show ((x0.getD ((x1).toNat) 0)) = atF x0 x1 from by first | rfl | (unfold atF; rw [if_pos h1])))
 ·replace h1 : ¬ (x1 < ((List.length x0 : Nat) : Int)) := of_decide_eq_false h1
  have hu1 := getD_u8 hu0 x1.toNat
  refine wp_skip (then_normal (wp_seq ?_))
  refine at_regq [{}, { nw := true }, {}, {}, { nw := true }, { nw := true }] { ts := [4], os := [] } [I64 (x1 * 31), I64 (((List.length x0 : Nat) : Int) * 7), I64 ((x1 * 31) + (((List.length x0 : Nat) : Int) * 7)), (256 : Int) ≠ 0] gamOK hT h (by kernel_rfl) ⟨⟨by first | omega | (simp only [lsA]; omega) | (simp <;> omega), by first | omega | (simp only [lsA]; omega) | (simp <;> omega)⟩, ⟨by first | omega | (simp only [lsA]; omega) | (simp <;> omega), by first | omega | (simp only [lsA]; omega) | (simp <;> omega)⟩, ⟨by first | omega | (simp only [lsA]; omega) | (simp <;> omega), by first | omega | (simp only [lsA]; omega) | (simp <;> omega)⟩, (by first | omega | (simp only [lsA]; omega) | (simp <;> omega)), trivial⟩ fun a w h => then_normal (wp_ret ?_)
  exact at_return ((Int.tmod ((x1 * 31) + (((List.length x0 : Nat) : Int) * 7)) 256), ()) [] h (by kernel_rfl) trivial (congrArg (fun z => (z, ())) (show ((Int.tmod ((x1 * 31) + (((List.length x0 : Nat) : Int) * 7)) 256)) = atF x0 x1 from by first | rfl | (unfold atF; rw [if_neg h1])))
theorem at_bd {x : List Int} (hu : u8L x) {i : Int} (h : 0 ≤ i) : 0 ≤ atF x i ∧ atF x i < 256 := by
 unfold atF; split
 ·exact getD_u8 hu _
 ·exact LA.tmod_lt (by omega) (by decide)

def elemC (x0 : T91) : T91 × Int := ((belowC x0 1019).1, (belowC x0 1019).2)
abbrev Q_spec_l4Element := (fun (x0 : T91) => 0 ≤ x0.2.1)
def B_spec_l4Element : BS := { t := 91, s := s91, dom := [], cod := [(.int 3)], pre := fun y x => Q_spec_l4Element y, upd := fun y x => (elemC y).1, g := fun y x => ((elemC y).2, ()) }
def S_spec_l4Element : Sum := bSum 125 B_spec_l4Element
def S_spec_l4Element_tab : List (Nat × Sum) := [(60, S_spec_l1Below)]
theorem S_spec_l4Element_ok : FnOK Try.prog 125 S_spec_l4Element := by
 refine at_enterB (B := B_spec_l4Element) 5 (fun v y x => ⟨[(0, aP 1 0)], [(1, oX 91 [.ro (.u8 5) y.1, cI y.2.1, cI y.2.2]), (2, oP 1 v)]⟩) Try.func125 rfl (by kernel_rfl) (fun v y x => rfl) ?_
 rintro w0 Z0 b0 x0 ⟨u⟩ a w
 revert x0
 intro (x0 : T91) hpre hlens0 hlens h
 replace h : At w0 Z0 [b0] 5 ⟨[(0, aP 1 0)], [(1, oX 91 [.ro (.u8 5) x0.1, cI x0.2.1, cI x0.2.2]), (2, oP 1 (Value.pointer (some ⟨b0, 0, none⟩)))]⟩ a w := h
 replace hpre : Q_spec_l4Element x0 := hpre
 have hl1 : List.length x0.1 ≤ 9223372036854775807 := hlens0.1.1
 have hu0 : u8L x0.1 := hlens0.1.2
 have hT : TabOK Try.prog S_spec_l4Element_tab := (.cons S_spec_l1Below_ok .nil)
 refine wp_seq ?_
 refine at_regq [] { ts := [0, 2], os := [1, 2] } [] gamOK hT h (by kernel_rfl) trivial fun a w h => then_normal (wp_seq ?_)
 refine at_regq [] { ts := [2], os := [1, 2] } [B_spec_l1Below.pre x0 (1019, ())] gamOK hT h (by kernel_rfl) ⟨(by exact hpre), trivial⟩ fun a w h => then_normal (wp_ret ?_)
 have hr1 : (((belowC x0 1019).1, (belowC x0 1019).2) : T91 × Int) = elemC x0 := by rfl
 exact at_returnB (B := B_spec_l4Element) (c0 := x0) (x := (())) ((belowC x0 1019).1) ((belowC x0 1019).2, ()) [(Value.pointer (some ⟨b0, 0, none⟩)) = (Value.pointer (some ⟨b0, 0, none⟩))] h (by kernel_rfl) ⟨rfl, trivial⟩ (congrArg (a₁ := ((belowC x0 1019).1, (belowC x0 1019).2)) (a₂ := elemC x0) (fun (z : T91 × Int) => z.1) hr1) (congrArg (a₁ := ((belowC x0 1019).1, (belowC x0 1019).2)) (a₂ := elemC x0) (fun (z : T91 × Int) => (z.2, ())) hr1)
theorem elem_ok {x : T91} (h : 0 ≤ x.2.1) : 0 ≤ (elemC x).1.2.1 := below_ok h
theorem elem_bd (x : T91) : LA.El (elemC x).2 := by have := below_bd x (n := 1019) (by decide); show 0 ≤ _ ∧ _ ≤ 1018; unfold elemC; dsimp only; omega
def vecS (q : T91 × List Int) : T91 × List Int := if (onceC q.1 3).2 = true then ((onceC q.1 3).1, q.2 ++ [0]) else ((elemC (onceC q.1 3).1).1, q.2 ++ [(elemC (onceC q.1 3).1).2])
def vecIt (x : T91) : Nat → T91 × List Int
 | 0 => (x, [])
 | i + 1 => vecS (vecIt x i)
theorem vecIt_y {x : T91} {i : Nat} (h : (onceC (vecIt x i).1 3).2 = true) : vecIt x (i + 1) = ((onceC (vecIt x i).1 3).1, (vecIt x i).2 ++ [0]) := if_pos h
theorem vecIt_n {x : T91} {i : Nat} (h : (onceC (vecIt x i).1 3).2 = false) : vecIt x (i + 1) = ((elemC (onceC (vecIt x i).1 3).1).1, (vecIt x i).2 ++ [(elemC (onceC (vecIt x i).1 3).1).2]) := if_neg (by rw [h]; decide)
theorem vecIt_inv {x : T91} (hx : 0 ≤ x.2.1) : ∀ i, 0 ≤ (vecIt x i).1.2.1 ∧ (vecIt x i).2.length = i ∧ ∀ e ∈ (vecIt x i).2, LA.El e
 | 0 => ⟨hx, rfl, fun e he => by cases he⟩
 | i + 1 => by
  obtain ⟨h1, h2, h3⟩ := vecIt_inv hx i
  have e : vecIt x (i + 1) = vecS (vecIt x i) := rfl
  have hb := elem_bd (onceC (vecIt x i).1 3).1
  rw [e]; unfold vecS
  split
  ·refine ⟨once_ok h1, by simp [h2], fun y hy => ?_⟩
   rcases List.mem_append.1 hy with hy | hy
   ·exact h3 y hy
   ·have : y = 0 := by simpa using hy
    rw [this]; unfold LA.El; omega
  ·refine ⟨elem_ok (once_ok h1), by simp [h2], fun y hy => ?_⟩
   rcases List.mem_append.1 hy with hy | hy
   ·exact h3 y hy
   ·have : y = (elemC (onceC (vecIt x i).1 3).1).2 := by simpa using hy
    rw [this]; exact hb

def vecD (x0 : T91) (x1 : Int) : T91 × (List Int) := ((vecIt x0 x1.toNat).1, (vecIt x0 x1.toNat).2)
abbrev Q_spec_l5Vector := (fun (x0 : T91) (x1 : Int) => 0 ≤ x0.2.1 ∧ x1 ≤ 1000)
def B_spec_l5Vector : BS := { t := 91, s := s91, dom := [(.int 3)], cod := [s33], pre := fun y x => Q_spec_l5Vector y x.1, upd := fun y x => (vecD y x.1).1, g := fun y x => ((vecD y x.1).2, ()) }
def S_spec_l5Vector : Sum := bSum 98 B_spec_l5Vector
def S_spec_l5Vector_tab : List (Nat × Sum) := [(76, S_spec_l1Once), (125, S_spec_l4Element)]
theorem S_spec_l5Vector_ok : FnOK Try.prog 98 S_spec_l5Vector := by
 refine at_enterB (B := B_spec_l5Vector) 24 (fun v y x => ⟨[(0, aP 1 0), (1, aI x.1)], [(1, oX 91 [.ro (.u8 5) y.1, cI y.2.1, cI y.2.2]), (2, oP 1 v)]⟩) Try.func98 rfl (by kernel_rfl) (fun v y x => rfl) ?_
 rintro w0 Z0 b0 x0 ⟨x1, u⟩ a w
 revert x0 x1
 intro (x0 : T91) (x1 : Int) hpre hlens0 hlens h
 replace h : At w0 Z0 [b0] 24 ⟨[(0, aP 1 0), (1, aI x1)], [(1, oX 91 [.ro (.u8 5) x0.1, cI x0.2.1, cI x0.2.2]), (2, oP 1 (Value.pointer (some ⟨b0, 0, none⟩)))]⟩ a w := h
 replace hpre : Q_spec_l5Vector x0 x1 := hpre
 have hl1 : List.length x0.1 ≤ 9223372036854775807 := hlens0.1.1
 have hu0 : u8L x0.1 := hlens0.1.2
 have hT : TabOK Try.prog S_spec_l5Vector_tab := (.cons S_spec_l1Once_ok (.cons S_spec_l4Element_ok .nil))
 have hp2 := hpre.2
 refine wp_seq ?_
 refine at_regq [] { ts := [0, 1, 4], os := [1, 2] } [] gamOK hT h (by kernel_rfl) trivial fun a w h => then_normal (wp_seq ?_)
 refine at_regq [{ ids := [3] }] { ts := [0, 1, 4, 5], os := [1, 2, 3] } [] gamOK hT h (by kernel_rfl) trivial fun a w h => then_normal (wp_seq (wp_seq ?_))
 refine at_regq [] { ts := [0, 1, 4, 5, 6], os := [1, 2, 3] } [] gamOK hT h (by kernel_rfl) trivial fun a w h => then_normal (wp_block ?_)
 replace h := at_out (σ' := ⟨[(0, aP 1 0), (1, aI x1), (4, .p (.c (cN))), (5, aS 3), (6, aI 0)], [(1, oX 91 [.ro (.u8 5) x0.1, cI x0.2.1, cI x0.2.2]), (2, oP 1 (Value.pointer (some ⟨b0, 0, none⟩))), (3, oR (.int 3) ([] : List Int))]⟩) { ts := [0, 1, 4, 5, 6], os := [1, 2, 3] } h (by kernel_rfl)
 refine at_loop (fun i : Nat => (⟨[(0, aP 1 0), (1, aI x1), (4, .p (.c (cN))), (5, aS 3), (6, aI ((i : Nat) : Int))], [(1, oX 91 [.ro (.u8 5) (vecIt x0 i).1.1, cI (vecIt x0 i).1.2.1, cI (vecIt x0 i).1.2.2]), (2, oP 1 (Value.pointer (some ⟨b0, 0, none⟩))), (3, oR (.int 3) (vecIt x0 i).2)]⟩ : St)) (fun i => i ≤ x1.toNat) (fun i => x1.toNat - i) (0) h (st_congr5 (fun (d0 : List Int) (d1 : Int) (d2 : Int) (d3 : List Int) (d4 : Int) => (⟨[(0, aP 1 0), (1, aI x1), (4, .p (.c (cN))), (5, aS 3), (6, aI d4)], [(1, oX 91 [.ro (.u8 5) d0, cI d1, cI d2]), (2, oP 1 (Value.pointer (some ⟨b0, 0, none⟩))), (3, oR (.int 3) d3)]⟩ : St)) (show (x0.1 : List Int) = (vecIt x0 (0)).1.1 from by first | with_reducible rfl | (rfl) | rfl) (show (x0.2.1 : Int) = (vecIt x0 (0)).1.2.1 from by first | with_reducible rfl | (rfl) | rfl) (show (x0.2.2 : Int) = (vecIt x0 (0)).1.2.2 from by first | with_reducible rfl | (rfl) | rfl) (show (([] : List Int) : List Int) = (vecIt x0 (0)).2 from by first | with_reducible rfl | (rfl) | rfl) (show (0 : Int) = (((0) : Nat) : Int) from by first | with_reducible rfl | (rfl) | rfl)) (by omega) ?_
 intro i a w hok0 h
 have hvi := vecIt_inv hpre.1 i
 have hvl := hvi.2.1
 refine wp_seq (wp_seq ?_)
 refine at_regq [] { ts := [0, 1, 4, 5, 6, 10], os := [1, 2, 3] } [] gamOK hT h (by kernel_rfl) trivial fun a w h => then_normal ?_
 refine at_test (decide (((i : Nat) : Int) < x1)) h (by kernel_rfl) (fun h1 => ?_) (fun h1 => ?_)
 ·replace h1 : ((i : Nat) : Int) < x1 := of_decide_eq_true h1
  refine wp_skip (then_normal (wp_seq (wp_block (wp_seq ?_))))
  refine at_regq [] { ts := [0, 1, 4, 5, 6, 14], os := [1, 2, 3] } [B_spec_l1Once.pre (vecIt x0 i).1 (3, ())] gamOK hT h (by kernel_rfl) ⟨(by exact hvi.1), trivial⟩ fun a w h => then_normal ?_
  refine at_test ((onceC (vecIt x0 i).1 3).2) h (by kernel_rfl) (fun h2 => ?_) (fun h2 => ?_)
  ·refine at_regq [{}, { ids := [4] }, { ids := [5] }] { ts := [0, 1, 4, 5, 6], os := [1, 2, 5] } [(List.length (vecIt x0 i).2 + List.length ([0])) * 8 ≤ 140737488355328] gamOK hT h (by kernel_rfl) ⟨(by first | omega | (simp only [lsA]; omega) | (simp <;> omega)), trivial⟩ fun a w h => in_normal (then_normal ?_)
   refine at_regq [{}, { nw := true }] { ts := [0, 1, 4, 5, 6], os := [1, 2, 5] } [I64 (((i : Nat) : Int) + 1)] gamOK hT h (by kernel_rfl) ⟨⟨by first | omega | (simp only [lsA]; omega) | (simp <;> omega), by first | omega | (simp only [lsA]; omega) | (simp <;> omega)⟩, trivial⟩ fun a w h => ?_
   replace h := at_out (σ' := ⟨[(0, aP 1 0), (1, aI x1), (4, .p (.c (cN))), (5, aS 3), (6, aI (((i : Nat) : Int) + 1))], [(1, oX 91 [.ro (.u8 5) (onceC (vecIt x0 i).1 3).1.1, cI (onceC (vecIt x0 i).1 3).1.2.1, cI (onceC (vecIt x0 i).1 3).1.2.2]), (2, oP 1 (Value.pointer (some ⟨b0, 0, none⟩))), (3, oR (.int 3) ((vecIt x0 i).2 ++ ([0])))]⟩) { ts := [0, 1, 4, 5, 6], os := [1, 2, 5], rn := [(5, 3)] } h (by kernel_rfl)
   exact ⟨i + 1, at_eq h (st_congr5 (fun (d0 : List Int) (d1 : Int) (d2 : Int) (d3 : List Int) (d4 : Int) => (⟨[(0, aP 1 0), (1, aI x1), (4, .p (.c (cN))), (5, aS 3), (6, aI d4)], [(1, oX 91 [.ro (.u8 5) d0, cI d1, cI d2]), (2, oP 1 (Value.pointer (some ⟨b0, 0, none⟩))), (3, oR (.int 3) d3)]⟩ : St)) (show ((onceC (vecIt x0 i).1 3).1.1 : List Int) = (vecIt x0 (i + 1)).1.1 from by first | with_reducible rfl | (first | (rw [vecIt_y (x := x0) (i := i) (by assumption)]; done) | (rw [vecIt_n (x := x0) (i := i) (by assumption)]; done)) | rfl) (show ((onceC (vecIt x0 i).1 3).1.2.1 : Int) = (vecIt x0 (i + 1)).1.2.1 from by first | with_reducible rfl | (first | (rw [vecIt_y (x := x0) (i := i) (by assumption)]; done) | (rw [vecIt_n (x := x0) (i := i) (by assumption)]; done)) | rfl) (show ((onceC (vecIt x0 i).1 3).1.2.2 : Int) = (vecIt x0 (i + 1)).1.2.2 from by first | with_reducible rfl | (first | (rw [vecIt_y (x := x0) (i := i) (by assumption)]; done) | (rw [vecIt_n (x := x0) (i := i) (by assumption)]; done)) | rfl) (show (((vecIt x0 i).2 ++ ([0])) : List Int) = (vecIt x0 (i + 1)).2 from by first | with_reducible rfl | (first | (rw [vecIt_y (x := x0) (i := i) (by assumption)]; done) | (rw [vecIt_n (x := x0) (i := i) (by assumption)]; done)) | rfl) (show (((i : Nat) : Int) + 1 : Int) = (((i + 1) : Nat) : Int) from by first | with_reducible rfl | (omega) | rfl)), (by omega), (by omega)⟩
  ·refine at_regq [{}, {}, {}, { ids := [6] }, { ids := [7] }] { ts := [0, 1, 4, 5, 6], os := [1, 2, 7] } [B_spec_l4Element.pre (onceC (vecIt x0 i).1 3).1 (()), (List.length (vecIt x0 i).2 + List.length ([(elemC (onceC (vecIt x0 i).1 3).1).2])) * 8 ≤ 140737488355328] gamOK hT h (by kernel_rfl) ⟨(by exact (once_ok hvi.1)), (by first | omega | (simp only [lsA]; omega) | (simp <;> omega)), trivial⟩ fun a w h => in_normal (then_normal ?_)
   refine at_regq [{}, { nw := true }] { ts := [0, 1, 4, 5, 6], os := [1, 2, 7] } [I64 (((i : Nat) : Int) + 1)] gamOK hT h (by kernel_rfl) ⟨⟨by first | omega | (simp only [lsA]; omega) | (simp <;> omega), by first | omega | (simp only [lsA]; omega) | (simp <;> omega)⟩, trivial⟩ fun a w h => ?_
   replace h := at_out (σ' := ⟨[(0, aP 1 0), (1, aI x1), (4, .p (.c (cN))), (5, aS 3), (6, aI (((i : Nat) : Int) + 1))], [(1, oX 91 [.ro (.u8 5) (elemC (onceC (vecIt x0 i).1 3).1).1.1, cI (elemC (onceC (vecIt x0 i).1 3).1).1.2.1, cI (elemC (onceC (vecIt x0 i).1 3).1).1.2.2]), (2, oP 1 (Value.pointer (some ⟨b0, 0, none⟩))), (3, oR (.int 3) ((vecIt x0 i).2 ++ ([(elemC (onceC (vecIt x0 i).1 3).1).2])))]⟩) { ts := [0, 1, 4, 5, 6], os := [1, 2, 7], rn := [(7, 3)] } h (by kernel_rfl)
   exact ⟨i + 1, at_eq h (st_congr5 (fun (d0 : List Int) (d1 : Int) (d2 : Int) (d3 : List Int) (d4 : Int) => (⟨[(0, aP 1 0), (1, aI x1), (4, .p (.c (cN))), (5, aS 3), (6, aI d4)], [(1, oX 91 [.ro (.u8 5) d0, cI d1, cI d2]), (2, oP 1 (Value.pointer (some ⟨b0, 0, none⟩))), (3, oR (.int 3) d3)]⟩ : St)) (show ((elemC (onceC (vecIt x0 i).1 3).1).1.1 : List Int) = (vecIt x0 (i + 1)).1.1 from by first | with_reducible rfl | (first | (rw [vecIt_y (x := x0) (i := i) (by assumption)]; done) | (rw [vecIt_n (x := x0) (i := i) (by assumption)]; done)) | rfl) (show ((elemC (onceC (vecIt x0 i).1 3).1).1.2.1 : Int) = (vecIt x0 (i + 1)).1.2.1 from by first | with_reducible rfl | (first | (rw [vecIt_y (x := x0) (i := i) (by assumption)]; done) | (rw [vecIt_n (x := x0) (i := i) (by assumption)]; done)) | rfl) (show ((elemC (onceC (vecIt x0 i).1 3).1).1.2.2 : Int) = (vecIt x0 (i + 1)).1.2.2 from by first | with_reducible rfl | (first | (rw [vecIt_y (x := x0) (i := i) (by assumption)]; done) | (rw [vecIt_n (x := x0) (i := i) (by assumption)]; done)) | rfl) (show (((vecIt x0 i).2 ++ ([(elemC (onceC (vecIt x0 i).1 3).1).2])) : List Int) = (vecIt x0 (i + 1)).2 from by first | with_reducible rfl | (first | (rw [vecIt_y (x := x0) (i := i) (by assumption)]; done) | (rw [vecIt_n (x := x0) (i := i) (by assumption)]; done)) | rfl) (show (((i : Nat) : Int) + 1 : Int) = (((i + 1) : Nat) : Int) from by first | with_reducible rfl | (omega) | rfl)), (by omega), (by omega)⟩
 ·replace h1 : ¬ (((i : Nat) : Int) < x1) := of_decide_eq_false h1
  refine wp_exit (then_exit ?_)
  replace h := at_out (σ' := ⟨[(4, .p (.c (cN))), (5, aS 3)], [(1, oX 91 [.ro (.u8 5) (vecIt x0 i).1.1, cI (vecIt x0 i).1.2.1, cI (vecIt x0 i).1.2.2]), (2, oP 1 (Value.pointer (some ⟨b0, 0, none⟩))), (3, oR (.int 3) (vecIt x0 i).2)]⟩) { ts := [4, 5], os := [1, 2, 3] } h (by kernel_rfl)
  replace h := at_eq (σ' := ⟨[(4, .p (.c (cN))), (5, aS 3)], [(1, oX 91 [.ro (.u8 5) (vecIt x0 x1.toNat).1.1, cI (vecIt x0 x1.toNat).1.2.1, cI (vecIt x0 x1.toNat).1.2.2]), (2, oP 1 (Value.pointer (some ⟨b0, 0, none⟩))), (3, oR (.int 3) (vecIt x0 x1.toNat).2)]⟩) h (st_congr4 (fun (d0 : List Int) (d1 : Int) (d2 : Int) (d3 : List Int) => (⟨[(4, .p (.c (cN))), (5, aS 3)], [(1, oX 91 [.ro (.u8 5) d0, cI d1, cI d2]), (2, oP 1 (Value.pointer (some ⟨b0, 0, none⟩))), (3, oR (.int 3) d3)]⟩ : St)) (show ((vecIt x0 i).1.1 : List Int) = (vecIt x0 x1.toNat).1.1 from by first | with_reducible rfl | (rw [show x1.toNat = i by omega]) | rfl) (show ((vecIt x0 i).1.2.1 : Int) = (vecIt x0 x1.toNat).1.2.1 from by first | with_reducible rfl | (rw [show x1.toNat = i by omega]) | rfl) (show ((vecIt x0 i).1.2.2 : Int) = (vecIt x0 x1.toNat).1.2.2 from by first | with_reducible rfl | (rw [show x1.toNat = i by omega]) | rfl) (show ((vecIt x0 i).2 : List Int) = (vecIt x0 x1.toNat).2 from by first | with_reducible rfl | (rw [show x1.toNat = i by omega]) | rfl))
  refine then_exit (in_hit (then_normal (wp_seq ?_)))
  refine at_regq [] { ts := [4], os := [1, 2, 3] } [] gamOK hT h (by kernel_rfl) trivial fun a w h => then_normal (wp_ret ?_)
  have hr3 : (((vecIt x0 x1.toNat).1, (vecIt x0 x1.toNat).2) : T91 × (List Int)) = vecD x0 x1 := by rfl
  exact at_returnB (B := B_spec_l5Vector) (c0 := x0) (x := (x1, ())) ((vecIt x0 x1.toNat).1) ((vecIt x0 x1.toNat).2, ()) [(Value.pointer (some ⟨b0, 0, none⟩)) = (Value.pointer (some ⟨b0, 0, none⟩))] h (by kernel_rfl) ⟨rfl, trivial⟩ (congrArg (a₁ := ((vecIt x0 x1.toNat).1, (vecIt x0 x1.toNat).2)) (a₂ := vecD x0 x1) (fun (z : T91 × (List Int)) => z.1) hr3) (congrArg (a₁ := ((vecIt x0 x1.toNat).1, (vecIt x0 x1.toNat).2)) (a₂ := vecD x0 x1) (fun (z : T91 × (List Int)) => (z.2, ())) hr3)
theorem vecD_ok {x : T91} {n : Int} (h : 0 ≤ x.2.1) : 0 ≤ (vecD x n).1.2.1 ∧ LA.VokB n.toNat (vecD x n).2 := ⟨(vecIt_inv h _).1, (vecIt_inv h _).2.1, (vecIt_inv h _).2.2⟩

def rowIt (x : T91) : Nat → T91 × List Int
 | 0 => (x, [])
 | i + 1 => ((belowC (rowIt x i).1 256).1, (rowIt x i).2 ++ [(belowC (rowIt x i).1 256).2])
def genIt (x : T91) (n : Nat) : Nat → T91 × List (List Int)
 | 0 => (x, [])
 | i + 1 => ((rowIt (genIt x n i).1 n).1, (genIt x n i).2 ++ [(rowIt (genIt x n i).1 n).2])
theorem rowIt_inv {x : T91} (hx : 0 ≤ x.2.1) : ∀ i, 0 ≤ (rowIt x i).1.2.1 ∧ (rowIt x i).2.length = i ∧ ∀ e ∈ (rowIt x i).2, LA.El e
 | 0 => ⟨hx, rfl, fun e he => by cases he⟩
 | i + 1 => by
  obtain ⟨h1, h2, h3⟩ := rowIt_inv hx i
  have hb := below_bd (rowIt x i).1 (n := 256) (by decide)
  refine ⟨below_ok h1, by simp [rowIt, h2], fun y hy => ?_⟩
  rcases List.mem_append.1 hy with hy | hy
  ·exact h3 y hy
  ·have : y = (belowC (rowIt x i).1 256).2 := by simpa using hy
   rw [this]; unfold LA.El; omega
theorem genIt_inv {x : T91} {n : Nat} (hx : 0 ≤ x.2.1) : ∀ i, 0 ≤ (genIt x n i).1.2.1 ∧ (genIt x n i).2.length = i ∧ ∀ r ∈ (genIt x n i).2, LA.VokB n r
 | 0 => ⟨hx, rfl, fun e he => by cases he⟩
 | i + 1 => by
  obtain ⟨h1, h2, h3⟩ := genIt_inv (n := n) hx i
  have hr := rowIt_inv h1 n
  refine ⟨hr.1, by simp [genIt, h2], fun y hy => ?_⟩
  rcases List.mem_append.1 hy with hy | hy
  ·exact h3 y hy
  ·have : y = (rowIt (genIt x n i).1 n).2 := by simpa using hy
   rw [this]; exact ⟨hr.2.1, hr.2.2⟩
theorem validG_of {a : Int} {m : List (List Int)} {n : Nat} (ha : 0 ≤ a ∧ a ≤ 1000000000000) (h1 : 1 ≤ m.length ∧ m.length ≤ 8) (hn : 1 ≤ n ∧ n ≤ 16) (h2 : ∀ r ∈ m, LA.VokB n r) : validG (a, m) = true ∧ colsOf m = (n : Int) := by
 have h0 : (m.getD 0 []).length = n := (h2 _ (getD_mem (z := []) (show 0 < m.length by omega))).1
 have hc : colsOf m = (n : Int) := by rw [colsOf_at h1.1, h0]
 have hm : validM m = true := by
  unfold validM
  have ha : m.all (fun r => validV r && decide (List.length r = List.length (m.getD 0 []))) = true := List.all_eq_true.2 fun r hr => by
   rw [Bool.and_eq_true]
   exact ⟨validV_of (h2 r hr) (by omega), decide_eq_true (by rw [h0]; exact (h2 r hr).1)⟩
  rw [if_pos ha]
  exact decide_eq_true (by omega)
 refine ⟨?_, hc⟩
 unfold validG
 rw [if_pos (show inR a 0 1000000000000 = true from inR_true ha), if_pos (show inR ((List.length m : Nat) : Int) 1 8 = true from inR_true (by omega)), if_pos hm, hc]
 exact inR_true (by omega)
def genD (x0 : T91) : T91 × T26 := ((genIt (belowC (belowC (belowC x0 5).1 3).1 4).1 (1 + (belowC (belowC x0 5).1 3).2).toNat (1 + (belowC (belowC (belowC x0 5).1 3).1 4).2).toNat).1, ((belowC x0 5).2, (genIt (belowC (belowC (belowC x0 5).1 3).1 4).1 (1 + (belowC (belowC x0 5).1 3).2).toNat (1 + (belowC (belowC (belowC x0 5).1 3).1 4).2).toNat).2))
abbrev Q_spec_l10Gen := (fun (x0 : T91) => 0 ≤ x0.2.1)
def B_spec_l10Gen : BS := { t := 91, s := s91, dom := [], cod := [s26], pre := fun y x => Q_spec_l10Gen y, upd := fun y x => (genD y).1, g := fun y x => ((genD y).2, ()) }
def S_spec_l10Gen : Sum := bSum 31 B_spec_l10Gen
def S_spec_l10Gen_tab : List (Nat × Sum) := [(60, S_spec_l1Below)]
theorem S_spec_l10Gen_ok : FnOK Try.prog 31 S_spec_l10Gen := by
 refine at_enterB (B := B_spec_l10Gen) 39 (fun v y x => ⟨[(0, aP 1 0)], [(1, oX 91 [.ro (.u8 5) y.1, cI y.2.1, cI y.2.2]), (2, oP 1 v)]⟩) Try.func31 rfl (by kernel_rfl) (fun v y x => rfl) ?_
 rintro w0 Z0 b0 x0 ⟨u⟩ a w
 revert x0
 intro (x0 : T91) hpre hlens0 hlens h
 replace h : At w0 Z0 [b0] 39 ⟨[(0, aP 1 0)], [(1, oX 91 [.ro (.u8 5) x0.1, cI x0.2.1, cI x0.2.2]), (2, oP 1 (Value.pointer (some ⟨b0, 0, none⟩)))]⟩ a w := h
 replace hpre : Q_spec_l10Gen x0 := hpre
 have hl1 : List.length x0.1 ≤ 9223372036854775807 := hlens0.1.1
 have hu0 : u8L x0.1 := hlens0.1.2
 have hT : TabOK Try.prog S_spec_l10Gen_tab := (.cons S_spec_l1Below_ok .nil)
 have hb1 := below_bd x0 (n := 5) (by decide)
 have hb2 := below_bd (belowC x0 5).1 (n := 3) (by decide)
 have hb3 := below_bd (belowC (belowC x0 5).1 3).1 (n := 4) (by decide)
 have hc := below_ok (n := 4) (below_ok (n := 3) (below_ok (n := 5) hpre))
 refine wp_seq ?_
 refine at_regq [{ ids := [3] }] { ts := [0, 2], os := [1, 2, 3] } [] gamOK hT h (by kernel_rfl) trivial fun a w h => then_normal (wp_seq ?_)
 refine at_regq [{}, {}, {}, { ids := [4] }] { ts := [0, 2, 3], os := [1, 2, 3, 4] } [B_spec_l1Below.pre x0 (5, ())] gamOK hT h (by kernel_rfl) ⟨(by exact hpre), trivial⟩ fun a w h => then_normal (wp_seq ?_)
 refine at_regq [{}, {}, { nw := true }] { ts := [0, 2, 3, 4], os := [1, 2, 3, 4] } [B_spec_l1Below.pre (belowC x0 5).1 (3, ()), I64 (1 + (belowC (belowC x0 5).1 3).2)] gamOK hT h (by kernel_rfl) ⟨(by exact (below_ok hpre)), ⟨by first | omega | (simp only [lsA]; omega) | (simp <;> omega), by first | omega | (simp only [lsA]; omega) | (simp <;> omega)⟩, trivial⟩ fun a w h => then_normal (wp_seq (wp_seq ?_))
 refine at_regq [{}, {}, { nw := true }] { ts := [0, 2, 3, 4, 5], os := [1, 2, 3, 4] } [B_spec_l1Below.pre (belowC (belowC x0 5).1 3).1 (4, ()), I64 (1 + (belowC (belowC (belowC x0 5).1 3).1 4).2)] gamOK hT h (by kernel_rfl) ⟨(by exact (below_ok (below_ok hpre))), ⟨by first | omega | (simp only [lsA]; omega) | (simp <;> omega), by first | omega | (simp only [lsA]; omega) | (simp <;> omega)⟩, trivial⟩ fun a w h => then_normal (wp_block ?_)
 replace h := at_out (σ' := ⟨[(0, aP 1 0), (2, aP 3 0), (3, aP 4 0), (4, aI (1 + (belowC (belowC x0 5).1 3).2)), (5, aI (1 + (belowC (belowC (belowC x0 5).1 3).1 4).2))], [(1, oX 91 [.ro (.u8 5) (belowC (belowC (belowC x0 5).1 3).1 4).1.1, cI (belowC (belowC (belowC x0 5).1 3).1 4).1.2.1, cI (belowC (belowC (belowC x0 5).1 3).1 4).1.2.2]), (2, oP 1 (Value.pointer (some ⟨b0, 0, none⟩))), (3, oX 26 [cI 0, cN]), (4, oX 26 [cI (belowC x0 5).2, .sl 5]), (5, oR s33 ([] : List (List Int)))]⟩) { mt := [⟨some 4, 1, 5, true, s33⟩], ts := [0, 2, 3, 4, 5], os := [1, 2, 3, 4, 5] } h (by kernel_rfl)
 refine at_loop (fun i : Nat => (⟨[(0, aP 1 0), (2, aP 3 0), (3, aP 4 0), (4, aI (1 + (belowC (belowC x0 5).1 3).2)), (5, aI ((1 + (belowC (belowC (belowC x0 5).1 3).1 4).2) - ((i : Nat) : Int)))], [(1, oX 91 [.ro (.u8 5) (genIt (belowC (belowC (belowC x0 5).1 3).1 4).1 (1 + (belowC (belowC x0 5).1 3).2).toNat i).1.1, cI (genIt (belowC (belowC (belowC x0 5).1 3).1 4).1 (1 + (belowC (belowC x0 5).1 3).2).toNat i).1.2.1, cI (genIt (belowC (belowC (belowC x0 5).1 3).1 4).1 (1 + (belowC (belowC x0 5).1 3).2).toNat i).1.2.2]), (2, oP 1 (Value.pointer (some ⟨b0, 0, none⟩))), (3, oX 26 [cI 0, cN]), (4, oX 26 [cI (belowC x0 5).2, .sl 5]), (5, oR s33 (genIt (belowC (belowC (belowC x0 5).1 3).1 4).1 (1 + (belowC (belowC x0 5).1 3).2).toNat i).2)]⟩ : St)) (fun i => ((i : Nat) : Int) ≤ (1 + (belowC (belowC (belowC x0 5).1 3).1 4).2)) (fun i => ((1 + (belowC (belowC (belowC x0 5).1 3).1 4).2)).toNat - i) (0) h (st_congr5 (fun (d0 : List Int) (d1 : Int) (d2 : Int) (d3 : List (List Int)) (d4 : Int) => (⟨[(0, aP 1 0), (2, aP 3 0), (3, aP 4 0), (4, aI (1 + (belowC (belowC x0 5).1 3).2)), (5, aI d4)], [(1, oX 91 [.ro (.u8 5) d0, cI d1, cI d2]), (2, oP 1 (Value.pointer (some ⟨b0, 0, none⟩))), (3, oX 26 [cI 0, cN]), (4, oX 26 [cI (belowC x0 5).2, .sl 5]), (5, oR s33 d3)]⟩ : St)) (show ((belowC (belowC (belowC x0 5).1 3).1 4).1.1 : List Int) = (genIt (belowC (belowC (belowC x0 5).1 3).1 4).1 (1 + (belowC (belowC x0 5).1 3).2).toNat (0)).1.1 from by first | with_reducible rfl | (first | rfl | omega) | rfl) (show ((belowC (belowC (belowC x0 5).1 3).1 4).1.2.1 : Int) = (genIt (belowC (belowC (belowC x0 5).1 3).1 4).1 (1 + (belowC (belowC x0 5).1 3).2).toNat (0)).1.2.1 from by first | with_reducible rfl | (first | rfl | omega) | rfl) (show ((belowC (belowC (belowC x0 5).1 3).1 4).1.2.2 : Int) = (genIt (belowC (belowC (belowC x0 5).1 3).1 4).1 (1 + (belowC (belowC x0 5).1 3).2).toNat (0)).1.2.2 from by first | with_reducible rfl | (first | rfl | omega) | rfl) (show (([] : List (List Int)) : List (List Int)) = (genIt (belowC (belowC (belowC x0 5).1 3).1 4).1 (1 + (belowC (belowC x0 5).1 3).2).toNat (0)).2 from by first | with_reducible rfl | (first | rfl | omega) | rfl) (show (1 + (belowC (belowC (belowC x0 5).1 3).1 4).2 : Int) = ((1 + (belowC (belowC (belowC x0 5).1 3).1 4).2) - (((0) : Nat) : Int)) from by first | with_reducible rfl | (first | rfl | omega) | rfl)) (by omega) ?_
 intro i a w hok0 h
 have hgi := genIt_inv (n := (1 + (belowC (belowC x0 5).1 3).2).toNat) hc i
 have hgl := hgi.2.1
 refine wp_seq (wp_seq ?_)
 refine at_regq [] { ts := [0, 2, 3, 4, 5, 18], os := [1, 2, 3, 4, 5] } [] gamOK hT h (by kernel_rfl) trivial fun a w h => then_normal ?_
 refine at_test (decide (((1 + (belowC (belowC (belowC x0 5).1 3).1 4).2) - ((i : Nat) : Int)) > 0)) h (by kernel_rfl) (fun h1 => ?_) (fun h1 => ?_)
 ·replace h1 : ((1 + (belowC (belowC (belowC x0 5).1 3).1 4).2) - ((i : Nat) : Int)) > 0 := of_decide_eq_true h1
  refine wp_skip (then_normal (wp_seq (wp_block (wp_seq ?_))))
  refine at_regq [{ ids := [6] }] { ts := [0, 2, 3, 4, 5, 6], os := [1, 2, 3, 4, 5, 6] } [] gamOK hT h (by kernel_rfl) trivial fun a w h => then_normal (wp_seq (wp_seq ?_))
  refine at_regq [] { ts := [0, 2, 3, 4, 5, 6, 7], os := [1, 2, 3, 4, 5, 6] } [] gamOK hT h (by kernel_rfl) trivial fun a w h => then_normal (wp_block ?_)
  replace h := at_out (σ' := ⟨[(0, aP 1 0), (2, aP 3 0), (3, aP 4 0), (4, aI (1 + (belowC (belowC x0 5).1 3).2)), (5, aI ((1 + (belowC (belowC (belowC x0 5).1 3).1 4).2) - ((i : Nat) : Int))), (6, aS 6), (7, aI 0)], [(1, oX 91 [.ro (.u8 5) (genIt (belowC (belowC (belowC x0 5).1 3).1 4).1 (1 + (belowC (belowC x0 5).1 3).2).toNat i).1.1, cI (genIt (belowC (belowC (belowC x0 5).1 3).1 4).1 (1 + (belowC (belowC x0 5).1 3).2).toNat i).1.2.1, cI (genIt (belowC (belowC (belowC x0 5).1 3).1 4).1 (1 + (belowC (belowC x0 5).1 3).2).toNat i).1.2.2]), (2, oP 1 (Value.pointer (some ⟨b0, 0, none⟩))), (3, oX 26 [cI 0, cN]), (4, oX 26 [cI (belowC x0 5).2, .sl 5]), (5, oR s33 (genIt (belowC (belowC (belowC x0 5).1 3).1 4).1 (1 + (belowC (belowC x0 5).1 3).2).toNat i).2), (6, oR (.int 3) ([] : List Int))]⟩) { ts := [0, 2, 3, 4, 5, 6, 7], os := [1, 2, 3, 4, 5, 6] } h (by kernel_rfl)
  refine at_loop (fun k : Nat => (⟨[(0, aP 1 0), (2, aP 3 0), (3, aP 4 0), (4, aI (1 + (belowC (belowC x0 5).1 3).2)), (5, aI ((1 + (belowC (belowC (belowC x0 5).1 3).1 4).2) - ((i : Nat) : Int))), (6, aS 6), (7, aI ((k : Nat) : Int))], [(1, oX 91 [.ro (.u8 5) (rowIt (genIt (belowC (belowC (belowC x0 5).1 3).1 4).1 (1 + (belowC (belowC x0 5).1 3).2).toNat i).1 k).1.1, cI (rowIt (genIt (belowC (belowC (belowC x0 5).1 3).1 4).1 (1 + (belowC (belowC x0 5).1 3).2).toNat i).1 k).1.2.1, cI (rowIt (genIt (belowC (belowC (belowC x0 5).1 3).1 4).1 (1 + (belowC (belowC x0 5).1 3).2).toNat i).1 k).1.2.2]), (2, oP 1 (Value.pointer (some ⟨b0, 0, none⟩))), (3, oX 26 [cI 0, cN]), (4, oX 26 [cI (belowC x0 5).2, .sl 5]), (5, oR s33 (genIt (belowC (belowC (belowC x0 5).1 3).1 4).1 (1 + (belowC (belowC x0 5).1 3).2).toNat i).2), (6, oR (.int 3) (rowIt (genIt (belowC (belowC (belowC x0 5).1 3).1 4).1 (1 + (belowC (belowC x0 5).1 3).2).toNat i).1 k).2)]⟩ : St)) (fun k => k ≤ (1 + (belowC (belowC x0 5).1 3).2).toNat) (fun k => (1 + (belowC (belowC x0 5).1 3).2).toNat - k) (0) h (st_congr5 (fun (d0 : List Int) (d1 : Int) (d2 : Int) (d3 : List Int) (d4 : Int) => (⟨[(0, aP 1 0), (2, aP 3 0), (3, aP 4 0), (4, aI (1 + (belowC (belowC x0 5).1 3).2)), (5, aI ((1 + (belowC (belowC (belowC x0 5).1 3).1 4).2) - ((i : Nat) : Int))), (6, aS 6), (7, aI d4)], [(1, oX 91 [.ro (.u8 5) d0, cI d1, cI d2]), (2, oP 1 (Value.pointer (some ⟨b0, 0, none⟩))), (3, oX 26 [cI 0, cN]), (4, oX 26 [cI (belowC x0 5).2, .sl 5]), (5, oR s33 (genIt (belowC (belowC (belowC x0 5).1 3).1 4).1 (1 + (belowC (belowC x0 5).1 3).2).toNat i).2), (6, oR (.int 3) d3)]⟩ : St)) (show ((genIt (belowC (belowC (belowC x0 5).1 3).1 4).1 (1 + (belowC (belowC x0 5).1 3).2).toNat i).1.1 : List Int) = (rowIt (genIt (belowC (belowC (belowC x0 5).1 3).1 4).1 (1 + (belowC (belowC x0 5).1 3).2).toNat i).1 (0)).1.1 from by first | with_reducible rfl | (rfl) | rfl) (show ((genIt (belowC (belowC (belowC x0 5).1 3).1 4).1 (1 + (belowC (belowC x0 5).1 3).2).toNat i).1.2.1 : Int) = (rowIt (genIt (belowC (belowC (belowC x0 5).1 3).1 4).1 (1 + (belowC (belowC x0 5).1 3).2).toNat i).1 (0)).1.2.1 from by first | with_reducible rfl | (rfl) | rfl) (show ((genIt (belowC (belowC (belowC x0 5).1 3).1 4).1 (1 + (belowC (belowC x0 5).1 3).2).toNat i).1.2.2 : Int) = (rowIt (genIt (belowC (belowC (belowC x0 5).1 3).1 4).1 (1 + (belowC (belowC x0 5).1 3).2).toNat i).1 (0)).1.2.2 from by first | with_reducible rfl | (rfl) | rfl) (show (([] : List Int) : List Int) = (rowIt (genIt (belowC (belowC (belowC x0 5).1 3).1 4).1 (1 + (belowC (belowC x0 5).1 3).2).toNat i).1 (0)).2 from by first | with_reducible rfl | (rfl) | rfl) (show (0 : Int) = (((0) : Nat) : Int) from by first | with_reducible rfl | (rfl) | rfl)) (by omega) ?_
  intro k a w hok1 h
  have hri := rowIt_inv hgi.1 k
  have hrl := hri.2.1
  refine wp_seq (wp_seq ?_)
  refine at_regq [] { ts := [0, 2, 3, 4, 5, 6, 7, 24], os := [1, 2, 3, 4, 5, 6] } [] gamOK hT h (by kernel_rfl) trivial fun a w h => then_normal ?_
  refine at_test (decide (((k : Nat) : Int) < 1 + (belowC (belowC x0 5).1 3).2)) h (by kernel_rfl) (fun h2 => ?_) (fun h2 => ?_)
  ·replace h2 : ((k : Nat) : Int) < 1 + (belowC (belowC x0 5).1 3).2 := of_decide_eq_true h2
   refine wp_skip (then_normal (wp_seq (wp_block ?_)))
   refine at_regq [{}, {}, {}, { ids := [7] }, { ids := [8] }] { ts := [0, 2, 3, 4, 5, 6, 7], os := [1, 2, 3, 4, 5, 8] } [B_spec_l1Below.pre (rowIt (genIt (belowC (belowC (belowC x0 5).1 3).1 4).1 (1 + (belowC (belowC x0 5).1 3).2).toNat i).1 k).1 (256, ()), (List.length (rowIt (genIt (belowC (belowC (belowC x0 5).1 3).1 4).1 (1 + (belowC (belowC x0 5).1 3).2).toNat i).1 k).2 + List.length ([(belowC (rowIt (genIt (belowC (belowC (belowC x0 5).1 3).1 4).1 (1 + (belowC (belowC x0 5).1 3).2).toNat i).1 k).1 256).2])) * 8 ≤ 140737488355328] gamOK hT h (by kernel_rfl) ⟨(by exact hri.1), (by first | omega | (simp only [lsA]; omega) | (simp <;> omega)), trivial⟩ fun a w h => in_normal (then_normal ?_)
   refine at_regq [{}, { nw := true }] { ts := [0, 2, 3, 4, 5, 6, 7], os := [1, 2, 3, 4, 5, 8] } [I64 (((k : Nat) : Int) + 1)] gamOK hT h (by kernel_rfl) ⟨⟨by first | omega | (simp only [lsA]; omega) | (simp <;> omega), by first | omega | (simp only [lsA]; omega) | (simp <;> omega)⟩, trivial⟩ fun a w h => ?_
   replace h := at_out (σ' := ⟨[(0, aP 1 0), (2, aP 3 0), (3, aP 4 0), (4, aI (1 + (belowC (belowC x0 5).1 3).2)), (5, aI ((1 + (belowC (belowC (belowC x0 5).1 3).1 4).2) - ((i : Nat) : Int))), (6, aS 6), (7, aI (((k : Nat) : Int) + 1))], [(1, oX 91 [.ro (.u8 5) (belowC (rowIt (genIt (belowC (belowC (belowC x0 5).1 3).1 4).1 (1 + (belowC (belowC x0 5).1 3).2).toNat i).1 k).1 256).1.1, cI (belowC (rowIt (genIt (belowC (belowC (belowC x0 5).1 3).1 4).1 (1 + (belowC (belowC x0 5).1 3).2).toNat i).1 k).1 256).1.2.1, cI (belowC (rowIt (genIt (belowC (belowC (belowC x0 5).1 3).1 4).1 (1 + (belowC (belowC x0 5).1 3).2).toNat i).1 k).1 256).1.2.2]), (2, oP 1 (Value.pointer (some ⟨b0, 0, none⟩))), (3, oX 26 [cI 0, cN]), (4, oX 26 [cI (belowC x0 5).2, .sl 5]), (5, oR s33 (genIt (belowC (belowC (belowC x0 5).1 3).1 4).1 (1 + (belowC (belowC x0 5).1 3).2).toNat i).2), (6, oR (.int 3) ((rowIt (genIt (belowC (belowC (belowC x0 5).1 3).1 4).1 (1 + (belowC (belowC x0 5).1 3).2).toNat i).1 k).2 ++ ([(belowC (rowIt (genIt (belowC (belowC (belowC x0 5).1 3).1 4).1 (1 + (belowC (belowC x0 5).1 3).2).toNat i).1 k).1 256).2])))]⟩) { ts := [0, 2, 3, 4, 5, 6, 7], os := [1, 2, 3, 4, 5, 8], rn := [(8, 6)] } h (by kernel_rfl)
   exact ⟨k + 1, at_eq h (st_congr5 (fun (d0 : List Int) (d1 : Int) (d2 : Int) (d3 : List Int) (d4 : Int) => (⟨[(0, aP 1 0), (2, aP 3 0), (3, aP 4 0), (4, aI (1 + (belowC (belowC x0 5).1 3).2)), (5, aI ((1 + (belowC (belowC (belowC x0 5).1 3).1 4).2) - ((i : Nat) : Int))), (6, aS 6), (7, aI d4)], [(1, oX 91 [.ro (.u8 5) d0, cI d1, cI d2]), (2, oP 1 (Value.pointer (some ⟨b0, 0, none⟩))), (3, oX 26 [cI 0, cN]), (4, oX 26 [cI (belowC x0 5).2, .sl 5]), (5, oR s33 (genIt (belowC (belowC (belowC x0 5).1 3).1 4).1 (1 + (belowC (belowC x0 5).1 3).2).toNat i).2), (6, oR (.int 3) d3)]⟩ : St)) (show ((belowC (rowIt (genIt (belowC (belowC (belowC x0 5).1 3).1 4).1 (1 + (belowC (belowC x0 5).1 3).2).toNat i).1 k).1 256).1.1 : List Int) = (rowIt (genIt (belowC (belowC (belowC x0 5).1 3).1 4).1 (1 + (belowC (belowC x0 5).1 3).2).toNat i).1 (k + 1)).1.1 from by first | with_reducible rfl | (rfl) | rfl) (show ((belowC (rowIt (genIt (belowC (belowC (belowC x0 5).1 3).1 4).1 (1 + (belowC (belowC x0 5).1 3).2).toNat i).1 k).1 256).1.2.1 : Int) = (rowIt (genIt (belowC (belowC (belowC x0 5).1 3).1 4).1 (1 + (belowC (belowC x0 5).1 3).2).toNat i).1 (k + 1)).1.2.1 from by first | with_reducible rfl | (rfl) | rfl) (show ((belowC (rowIt (genIt (belowC (belowC (belowC x0 5).1 3).1 4).1 (1 + (belowC (belowC x0 5).1 3).2).toNat i).1 k).1 256).1.2.2 : Int) = (rowIt (genIt (belowC (belowC (belowC x0 5).1 3).1 4).1 (1 + (belowC (belowC x0 5).1 3).2).toNat i).1 (k + 1)).1.2.2 from by first | with_reducible rfl | (rfl) | rfl) (show (((rowIt (genIt (belowC (belowC (belowC x0 5).1 3).1 4).1 (1 + (belowC (belowC x0 5).1 3).2).toNat i).1 k).2 ++ ([(belowC (rowIt (genIt (belowC (belowC (belowC x0 5).1 3).1 4).1 (1 + (belowC (belowC x0 5).1 3).2).toNat i).1 k).1 256).2])) : List Int) = (rowIt (genIt (belowC (belowC (belowC x0 5).1 3).1 4).1 (1 + (belowC (belowC x0 5).1 3).2).toNat i).1 (k + 1)).2 from by first | with_reducible rfl | (rfl) | rfl) (show (((k : Nat) : Int) + 1 : Int) = (((k + 1) : Nat) : Int) from by first | with_reducible rfl | (omega) | rfl)), (by omega), (by omega)⟩
  ·replace h2 : ¬ (((k : Nat) : Int) < 1 + (belowC (belowC x0 5).1 3).2) := of_decide_eq_false h2
   refine wp_exit (then_exit ?_)
   replace h := at_out (σ' := ⟨[(0, aP 1 0), (2, aP 3 0), (3, aP 4 0), (4, aI (1 + (belowC (belowC x0 5).1 3).2)), (5, aI ((1 + (belowC (belowC (belowC x0 5).1 3).1 4).2) - ((i : Nat) : Int))), (6, aS 6)], [(1, oX 91 [.ro (.u8 5) (rowIt (genIt (belowC (belowC (belowC x0 5).1 3).1 4).1 (1 + (belowC (belowC x0 5).1 3).2).toNat i).1 k).1.1, cI (rowIt (genIt (belowC (belowC (belowC x0 5).1 3).1 4).1 (1 + (belowC (belowC x0 5).1 3).2).toNat i).1 k).1.2.1, cI (rowIt (genIt (belowC (belowC (belowC x0 5).1 3).1 4).1 (1 + (belowC (belowC x0 5).1 3).2).toNat i).1 k).1.2.2]), (2, oP 1 (Value.pointer (some ⟨b0, 0, none⟩))), (3, oX 26 [cI 0, cN]), (4, oX 26 [cI (belowC x0 5).2, .sl 5]), (5, oR s33 (genIt (belowC (belowC (belowC x0 5).1 3).1 4).1 (1 + (belowC (belowC x0 5).1 3).2).toNat i).2), (6, oR (.int 3) (rowIt (genIt (belowC (belowC (belowC x0 5).1 3).1 4).1 (1 + (belowC (belowC x0 5).1 3).2).toNat i).1 k).2)]⟩) { ts := [0, 2, 3, 4, 5, 6], os := [1, 2, 3, 4, 5, 6] } h (by kernel_rfl)
   replace h := at_eq (σ' := ⟨[(0, aP 1 0), (2, aP 3 0), (3, aP 4 0), (4, aI (1 + (belowC (belowC x0 5).1 3).2)), (5, aI ((1 + (belowC (belowC (belowC x0 5).1 3).1 4).2) - ((i : Nat) : Int))), (6, aS 6)], [(1, oX 91 [.ro (.u8 5) (rowIt (genIt (belowC (belowC (belowC x0 5).1 3).1 4).1 (1 + (belowC (belowC x0 5).1 3).2).toNat i).1 (1 + (belowC (belowC x0 5).1 3).2).toNat).1.1, cI (rowIt (genIt (belowC (belowC (belowC x0 5).1 3).1 4).1 (1 + (belowC (belowC x0 5).1 3).2).toNat i).1 (1 + (belowC (belowC x0 5).1 3).2).toNat).1.2.1, cI (rowIt (genIt (belowC (belowC (belowC x0 5).1 3).1 4).1 (1 + (belowC (belowC x0 5).1 3).2).toNat i).1 (1 + (belowC (belowC x0 5).1 3).2).toNat).1.2.2]), (2, oP 1 (Value.pointer (some ⟨b0, 0, none⟩))), (3, oX 26 [cI 0, cN]), (4, oX 26 [cI (belowC x0 5).2, .sl 5]), (5, oR s33 (genIt (belowC (belowC (belowC x0 5).1 3).1 4).1 (1 + (belowC (belowC x0 5).1 3).2).toNat i).2), (6, oR (.int 3) (rowIt (genIt (belowC (belowC (belowC x0 5).1 3).1 4).1 (1 + (belowC (belowC x0 5).1 3).2).toNat i).1 (1 + (belowC (belowC x0 5).1 3).2).toNat).2)]⟩) h (st_congr4 (fun (d0 : List Int) (d1 : Int) (d2 : Int) (d3 : List Int) => (⟨[(0, aP 1 0), (2, aP 3 0), (3, aP 4 0), (4, aI (1 + (belowC (belowC x0 5).1 3).2)), (5, aI ((1 + (belowC (belowC (belowC x0 5).1 3).1 4).2) - ((i : Nat) : Int))), (6, aS 6)], [(1, oX 91 [.ro (.u8 5) d0, cI d1, cI d2]), (2, oP 1 (Value.pointer (some ⟨b0, 0, none⟩))), (3, oX 26 [cI 0, cN]), (4, oX 26 [cI (belowC x0 5).2, .sl 5]), (5, oR s33 (genIt (belowC (belowC (belowC x0 5).1 3).1 4).1 (1 + (belowC (belowC x0 5).1 3).2).toNat i).2), (6, oR (.int 3) d3)]⟩ : St)) (show ((rowIt (genIt (belowC (belowC (belowC x0 5).1 3).1 4).1 (1 + (belowC (belowC x0 5).1 3).2).toNat i).1 k).1.1 : List Int) = (rowIt (genIt (belowC (belowC (belowC x0 5).1 3).1 4).1 (1 + (belowC (belowC x0 5).1 3).2).toNat i).1 (1 + (belowC (belowC x0 5).1 3).2).toNat).1.1 from by first | with_reducible rfl | (rw [show (1 + (belowC (belowC x0 5).1 3).2).toNat = k by omega]) | rfl) (show ((rowIt (genIt (belowC (belowC (belowC x0 5).1 3).1 4).1 (1 + (belowC (belowC x0 5).1 3).2).toNat i).1 k).1.2.1 : Int) = (rowIt (genIt (belowC (belowC (belowC x0 5).1 3).1 4).1 (1 + (belowC (belowC x0 5).1 3).2).toNat i).1 (1 + (belowC (belowC x0 5).1 3).2).toNat).1.2.1 from by first | with_reducible rfl | (rw [show (1 + (belowC (belowC x0 5).1 3).2).toNat = k by omega]) | rfl) (show ((rowIt (genIt (belowC (belowC (belowC x0 5).1 3).1 4).1 (1 + (belowC (belowC x0 5).1 3).2).toNat i).1 k).1.2.2 : Int) = (rowIt (genIt (belowC (belowC (belowC x0 5).1 3).1 4).1 (1 + (belowC (belowC x0 5).1 3).2).toNat i).1 (1 + (belowC (belowC x0 5).1 3).2).toNat).1.2.2 from by first | with_reducible rfl | (rw [show (1 + (belowC (belowC x0 5).1 3).2).toNat = k by omega]) | rfl) (show ((rowIt (genIt (belowC (belowC (belowC x0 5).1 3).1 4).1 (1 + (belowC (belowC x0 5).1 3).2).toNat i).1 k).2 : List Int) = (rowIt (genIt (belowC (belowC (belowC x0 5).1 3).1 4).1 (1 + (belowC (belowC x0 5).1 3).2).toNat i).1 (1 + (belowC (belowC x0 5).1 3).2).toNat).2 from by first | with_reducible rfl | (rw [show (1 + (belowC (belowC x0 5).1 3).2).toNat = k by omega]) | rfl))
   refine then_exit (in_hit (then_normal ?_))
   refine at_regq [{}, {}, {}, { ids := [9] }, { ids := [10] }] { ts := [0, 2, 3, 4, 5], os := [1, 2, 3, 4, 10] } [(List.length (genIt (belowC (belowC (belowC x0 5).1 3).1 4).1 (1 + (belowC (belowC x0 5).1 3).2).toNat i).2 + List.length ([(rowIt (genIt (belowC (belowC (belowC x0 5).1 3).1 4).1 (1 + (belowC (belowC x0 5).1 3).2).toNat i).1 (1 + (belowC (belowC x0 5).1 3).2).toNat).2])) * 24 ≤ 140737488355328] gamOK hT h (by kernel_rfl) ⟨(by first | omega | (simp only [lsA]; omega) | (simp <;> omega)), trivial⟩ fun a w h => in_normal (then_normal ?_)
   refine at_regq [{}, { nw := true }] { ts := [0, 2, 3, 4, 5], os := [1, 2, 3, 4, 10] } [I64 (((1 + (belowC (belowC (belowC x0 5).1 3).1 4).2) - ((i : Nat) : Int)) - 1)] gamOK hT h (by kernel_rfl) ⟨⟨by first | omega | (simp only [lsA]; omega) | (simp <;> omega), by first | omega | (simp only [lsA]; omega) | (simp <;> omega)⟩, trivial⟩ fun a w h => ?_
   replace h := at_out (σ' := ⟨[(0, aP 1 0), (2, aP 3 0), (3, aP 4 0), (4, aI (1 + (belowC (belowC x0 5).1 3).2)), (5, aI (((1 + (belowC (belowC (belowC x0 5).1 3).1 4).2) - ((i : Nat) : Int)) - 1))], [(1, oX 91 [.ro (.u8 5) (rowIt (genIt (belowC (belowC (belowC x0 5).1 3).1 4).1 (1 + (belowC (belowC x0 5).1 3).2).toNat i).1 (1 + (belowC (belowC x0 5).1 3).2).toNat).1.1, cI (rowIt (genIt (belowC (belowC (belowC x0 5).1 3).1 4).1 (1 + (belowC (belowC x0 5).1 3).2).toNat i).1 (1 + (belowC (belowC x0 5).1 3).2).toNat).1.2.1, cI (rowIt (genIt (belowC (belowC (belowC x0 5).1 3).1 4).1 (1 + (belowC (belowC x0 5).1 3).2).toNat i).1 (1 + (belowC (belowC x0 5).1 3).2).toNat).1.2.2]), (2, oP 1 (Value.pointer (some ⟨b0, 0, none⟩))), (3, oX 26 [cI 0, cN]), (4, oX 26 [cI (belowC x0 5).2, .sl 5]), (5, oR s33 ((genIt (belowC (belowC (belowC x0 5).1 3).1 4).1 (1 + (belowC (belowC x0 5).1 3).2).toNat i).2 ++ ([(rowIt (genIt (belowC (belowC (belowC x0 5).1 3).1 4).1 (1 + (belowC (belowC x0 5).1 3).2).toNat i).1 (1 + (belowC (belowC x0 5).1 3).2).toNat).2])))]⟩) { ts := [0, 2, 3, 4, 5], os := [1, 2, 3, 4, 10], rn := [(10, 5)] } h (by kernel_rfl)
   exact ⟨i + 1, at_eq h (st_congr5 (fun (d0 : List Int) (d1 : Int) (d2 : Int) (d3 : List (List Int)) (d4 : Int) => (⟨[(0, aP 1 0), (2, aP 3 0), (3, aP 4 0), (4, aI (1 + (belowC (belowC x0 5).1 3).2)), (5, aI d4)], [(1, oX 91 [.ro (.u8 5) d0, cI d1, cI d2]), (2, oP 1 (Value.pointer (some ⟨b0, 0, none⟩))), (3, oX 26 [cI 0, cN]), (4, oX 26 [cI (belowC x0 5).2, .sl 5]), (5, oR s33 d3)]⟩ : St)) (show ((rowIt (genIt (belowC (belowC (belowC x0 5).1 3).1 4).1 (1 + (belowC (belowC x0 5).1 3).2).toNat i).1 (1 + (belowC (belowC x0 5).1 3).2).toNat).1.1 : List Int) = (genIt (belowC (belowC (belowC x0 5).1 3).1 4).1 (1 + (belowC (belowC x0 5).1 3).2).toNat (i + 1)).1.1 from by first | with_reducible rfl | (rfl) | rfl) (show ((rowIt (genIt (belowC (belowC (belowC x0 5).1 3).1 4).1 (1 + (belowC (belowC x0 5).1 3).2).toNat i).1 (1 + (belowC (belowC x0 5).1 3).2).toNat).1.2.1 : Int) = (genIt (belowC (belowC (belowC x0 5).1 3).1 4).1 (1 + (belowC (belowC x0 5).1 3).2).toNat (i + 1)).1.2.1 from by first | with_reducible rfl | (rfl) | rfl) (show ((rowIt (genIt (belowC (belowC (belowC x0 5).1 3).1 4).1 (1 + (belowC (belowC x0 5).1 3).2).toNat i).1 (1 + (belowC (belowC x0 5).1 3).2).toNat).1.2.2 : Int) = (genIt (belowC (belowC (belowC x0 5).1 3).1 4).1 (1 + (belowC (belowC x0 5).1 3).2).toNat (i + 1)).1.2.2 from by first | with_reducible rfl | (rfl) | rfl) (show (((genIt (belowC (belowC (belowC x0 5).1 3).1 4).1 (1 + (belowC (belowC x0 5).1 3).2).toNat i).2 ++ ([(rowIt (genIt (belowC (belowC (belowC x0 5).1 3).1 4).1 (1 + (belowC (belowC x0 5).1 3).2).toNat i).1 (1 + (belowC (belowC x0 5).1 3).2).toNat).2])) : List (List Int)) = (genIt (belowC (belowC (belowC x0 5).1 3).1 4).1 (1 + (belowC (belowC x0 5).1 3).2).toNat (i + 1)).2 from by first | with_reducible rfl | (rfl) | rfl) (show (((1 + (belowC (belowC (belowC x0 5).1 3).1 4).2) - ((i : Nat) : Int)) - 1 : Int) = ((1 + (belowC (belowC (belowC x0 5).1 3).1 4).2) - (((i + 1) : Nat) : Int)) from by first | with_reducible rfl | (omega) | rfl)), (by omega), (by omega)⟩
 ·replace h1 : ¬ (((1 + (belowC (belowC (belowC x0 5).1 3).1 4).2) - ((i : Nat) : Int)) > 0) := of_decide_eq_false h1
  refine wp_exit (then_exit ?_)
  replace h := at_out (σ' := ⟨[(2, aP 3 0), (3, aP 4 0)], [(1, oX 91 [.ro (.u8 5) (genIt (belowC (belowC (belowC x0 5).1 3).1 4).1 (1 + (belowC (belowC x0 5).1 3).2).toNat i).1.1, cI (genIt (belowC (belowC (belowC x0 5).1 3).1 4).1 (1 + (belowC (belowC x0 5).1 3).2).toNat i).1.2.1, cI (genIt (belowC (belowC (belowC x0 5).1 3).1 4).1 (1 + (belowC (belowC x0 5).1 3).2).toNat i).1.2.2]), (2, oP 1 (Value.pointer (some ⟨b0, 0, none⟩))), (3, oX 26 [cI 0, cN]), (4, oX 26 [cI (belowC x0 5).2, .sl 5]), (5, oR s33 (genIt (belowC (belowC (belowC x0 5).1 3).1 4).1 (1 + (belowC (belowC x0 5).1 3).2).toNat i).2)]⟩) { ts := [2, 3], os := [1, 2, 3, 4, 5] } h (by kernel_rfl)
  replace h := at_eq (σ' := ⟨[(2, aP 3 0), (3, aP 4 0)], [(1, oX 91 [.ro (.u8 5) (genIt (belowC (belowC (belowC x0 5).1 3).1 4).1 (1 + (belowC (belowC x0 5).1 3).2).toNat (1 + (belowC (belowC (belowC x0 5).1 3).1 4).2).toNat).1.1, cI (genIt (belowC (belowC (belowC x0 5).1 3).1 4).1 (1 + (belowC (belowC x0 5).1 3).2).toNat (1 + (belowC (belowC (belowC x0 5).1 3).1 4).2).toNat).1.2.1, cI (genIt (belowC (belowC (belowC x0 5).1 3).1 4).1 (1 + (belowC (belowC x0 5).1 3).2).toNat (1 + (belowC (belowC (belowC x0 5).1 3).1 4).2).toNat).1.2.2]), (2, oP 1 (Value.pointer (some ⟨b0, 0, none⟩))), (3, oX 26 [cI 0, cN]), (4, oX 26 [cI (belowC x0 5).2, .sl 5]), (5, oR s33 (genIt (belowC (belowC (belowC x0 5).1 3).1 4).1 (1 + (belowC (belowC x0 5).1 3).2).toNat (1 + (belowC (belowC (belowC x0 5).1 3).1 4).2).toNat).2)]⟩) h (st_congr4 (fun (d0 : List Int) (d1 : Int) (d2 : Int) (d3 : List (List Int)) => (⟨[(2, aP 3 0), (3, aP 4 0)], [(1, oX 91 [.ro (.u8 5) d0, cI d1, cI d2]), (2, oP 1 (Value.pointer (some ⟨b0, 0, none⟩))), (3, oX 26 [cI 0, cN]), (4, oX 26 [cI (belowC x0 5).2, .sl 5]), (5, oR s33 d3)]⟩ : St)) (show ((genIt (belowC (belowC (belowC x0 5).1 3).1 4).1 (1 + (belowC (belowC x0 5).1 3).2).toNat i).1.1 : List Int) = (genIt (belowC (belowC (belowC x0 5).1 3).1 4).1 (1 + (belowC (belowC x0 5).1 3).2).toNat (1 + (belowC (belowC (belowC x0 5).1 3).1 4).2).toNat).1.1 from by first | with_reducible rfl | (rw [show (1 + (belowC (belowC (belowC x0 5).1 3).1 4).2).toNat = i by omega]) | rfl) (show ((genIt (belowC (belowC (belowC x0 5).1 3).1 4).1 (1 + (belowC (belowC x0 5).1 3).2).toNat i).1.2.1 : Int) = (genIt (belowC (belowC (belowC x0 5).1 3).1 4).1 (1 + (belowC (belowC x0 5).1 3).2).toNat (1 + (belowC (belowC (belowC x0 5).1 3).1 4).2).toNat).1.2.1 from by first | with_reducible rfl | (rw [show (1 + (belowC (belowC (belowC x0 5).1 3).1 4).2).toNat = i by omega]) | rfl) (show ((genIt (belowC (belowC (belowC x0 5).1 3).1 4).1 (1 + (belowC (belowC x0 5).1 3).2).toNat i).1.2.2 : Int) = (genIt (belowC (belowC (belowC x0 5).1 3).1 4).1 (1 + (belowC (belowC x0 5).1 3).2).toNat (1 + (belowC (belowC (belowC x0 5).1 3).1 4).2).toNat).1.2.2 from by first | with_reducible rfl | (rw [show (1 + (belowC (belowC (belowC x0 5).1 3).1 4).2).toNat = i by omega]) | rfl) (show ((genIt (belowC (belowC (belowC x0 5).1 3).1 4).1 (1 + (belowC (belowC x0 5).1 3).2).toNat i).2 : List (List Int)) = (genIt (belowC (belowC (belowC x0 5).1 3).1 4).1 (1 + (belowC (belowC x0 5).1 3).2).toNat (1 + (belowC (belowC (belowC x0 5).1 3).1 4).2).toNat).2 from by first | with_reducible rfl | (rw [show (1 + (belowC (belowC (belowC x0 5).1 3).1 4).2).toNat = i by omega]) | rfl))
  refine then_exit (in_hit (then_normal (wp_seq ?_)))
  refine at_regq [] { ts := [2], os := [1, 2, 3, 5] } [] gamOK hT h (by kernel_rfl) trivial fun a w h => then_normal (wp_ret ?_)
  have hr3 : (((genIt (belowC (belowC (belowC x0 5).1 3).1 4).1 (1 + (belowC (belowC x0 5).1 3).2).toNat (1 + (belowC (belowC (belowC x0 5).1 3).1 4).2).toNat).1, ((belowC x0 5).2, (genIt (belowC (belowC (belowC x0 5).1 3).1 4).1 (1 + (belowC (belowC x0 5).1 3).2).toNat (1 + (belowC (belowC (belowC x0 5).1 3).1 4).2).toNat).2)) : T91 × T26) = genD x0 := by rfl
  exact at_returnB (B := B_spec_l10Gen) (c0 := x0) (x := (())) ((genIt (belowC (belowC (belowC x0 5).1 3).1 4).1 (1 + (belowC (belowC x0 5).1 3).2).toNat (1 + (belowC (belowC (belowC x0 5).1 3).1 4).2).toNat).1) (((belowC x0 5).2, (genIt (belowC (belowC (belowC x0 5).1 3).1 4).1 (1 + (belowC (belowC x0 5).1 3).2).toNat (1 + (belowC (belowC (belowC x0 5).1 3).1 4).2).toNat).2), ()) [(Value.pointer (some ⟨b0, 0, none⟩)) = (Value.pointer (some ⟨b0, 0, none⟩))] h (by kernel_rfl) ⟨rfl, trivial⟩ (congrArg (a₁ := ((genIt (belowC (belowC (belowC x0 5).1 3).1 4).1 (1 + (belowC (belowC x0 5).1 3).2).toNat (1 + (belowC (belowC (belowC x0 5).1 3).1 4).2).toNat).1, ((belowC x0 5).2, (genIt (belowC (belowC (belowC x0 5).1 3).1 4).1 (1 + (belowC (belowC x0 5).1 3).2).toNat (1 + (belowC (belowC (belowC x0 5).1 3).1 4).2).toNat).2))) (a₂ := genD x0) (fun (z : T91 × T26) => z.1) hr3) (congrArg (a₁ := ((genIt (belowC (belowC (belowC x0 5).1 3).1 4).1 (1 + (belowC (belowC x0 5).1 3).2).toNat (1 + (belowC (belowC (belowC x0 5).1 3).1 4).2).toNat).1, ((belowC x0 5).2, (genIt (belowC (belowC (belowC x0 5).1 3).1 4).1 (1 + (belowC (belowC x0 5).1 3).2).toNat (1 + (belowC (belowC (belowC x0 5).1 3).1 4).2).toNat).2))) (a₂ := genD x0) (fun (z : T91 × T26) => (z.2, ())) hr3)
theorem genD_ok {x : T91} (h : 0 ≤ x.2.1) : 0 ≤ (genD x).1.2.1 ∧ validG (genD x).2 = true ∧ ((genD x).2.1 ≤ 4 ∧ List.length (genD x).2.2 ≤ 4 ∧ colsOf (genD x).2.2 ≤ 3) := by
 have b1 := below_bd x (n := 5) (by decide)
 have b2 := below_bd (belowC x 5).1 (n := 3) (by decide)
 have b3 := below_bd (belowC (belowC x 5).1 3).1 (n := 4) (by decide)
 have hx := below_ok (n := 4) (below_ok (n := 3) (below_ok (n := 5) h))
 have hi := genIt_inv (n := (1 + (belowC (belowC x 5).1 3).2).toNat) hx (1 + (belowC (belowC (belowC x 5).1 3).1 4).2).toNat
 have hv := validG_of (a := (belowC x 5).2) (n := (1 + (belowC (belowC x 5).1 3).2).toNat) (by omega) (by rw [hi.2.1]; omega) (by omega) hi.2.2
 refine ⟨hi.1, hv.1, by show (belowC x 5).2 ≤ 4; omega, ?_, ?_⟩
 ·show List.length (genIt _ _ _).2 ≤ 4
  rw [hi.2.1]; omega
 ·show colsOf (genIt _ _ _).2 ≤ 3
  rw [hv.2]; omega
theorem validG_fit {g : T26} (h : validG g = true) : Sh.fit s26 g := by
 have h1 := validG_t h
 have hm := validM_t h1.2.2.1
 refine ⟨trivial, by omega, fun r hr => ⟨by have := (hm.2 r hr).2; have := colsOf_at (m := g.2) (by omega); omega, fun _ _ => trivial⟩⟩

theorem codePk_ok {g : T26} {cs : List Int} (h : validG g = true) (hc : LA.VokB g.2.length cs) : codePk g cs = ((g.1, cs, combS g.2 cs), true) := by
 have hg := validG_t h
 rw [← codePk_y h (validV_of hc (by omega)) hc.1, genC h hc]
theorem combS_ok {g : T26} {cs : List Int} (h : validG g = true) (hc : LA.VokB g.2.length cs) : LA.VokB (g.2.getD 0 []).length (combS g.2 cs) := by
 have hm := validM_ok (validG_t h).2.2.1
 exact combTo_ok rfl (fun j => hc.rng j) g.2.length fun j hj => hm _ (LA.getD_in hj)
def pktD (x0 : T91) (x1 : T26) : T91 × T38 := ((vecD x0 ((List.length x1.2 : Nat) : Int)).1, (codePk x1 (vecD x0 ((List.length x1.2 : Nat) : Int)).2).1)
abbrev Q_spec_l11Packet := (fun (x0 : T91) (x1 : T26) => 0 ≤ x0.2.1 ∧ validG x1 = true)
def B_spec_l11Packet : BS := { t := 91, s := s91, dom := [s26], cod := [s38], pre := fun y x => Q_spec_l11Packet y x.1, upd := fun y x => (pktD y x.1).1, g := fun y x => ((pktD y x.1).2, ()) }
def S_spec_l11Packet : Sum := bSum 64 B_spec_l11Packet
def S_spec_l11Packet_tab : List (Nat × Sum) := [(98, S_spec_l5Vector), (18, S_spec_CodePacket)]
theorem S_spec_l11Packet_ok : FnOK Try.prog 64 S_spec_l11Packet := by
 refine at_enterB (B := B_spec_l11Packet) 18 (fun v y x => ⟨[(0, aP 1 0), (1, aG [cI x.1.1, .ro s33 x.1.2])], [(1, oX 91 [.ro (.u8 5) y.1, cI y.2.1, cI y.2.2]), (2, oP 1 v)]⟩) Try.func64 rfl (by kernel_rfl) (fun v y x => rfl) ?_
 rintro w0 Z0 b0 x0 ⟨x1, u⟩ a w
 revert x0 x1
 intro (x0 : T91) (x1 : T26) hpre hlens0 hlens h
 replace h : At w0 Z0 [b0] 18 ⟨[(0, aP 1 0), (1, aG [cI x1.1, .ro s33 x1.2])], [(1, oX 91 [.ro (.u8 5) x0.1, cI x0.2.1, cI x0.2.2]), (2, oP 1 (Value.pointer (some ⟨b0, 0, none⟩)))]⟩ a w := h
 replace hpre : Q_spec_l11Packet x0 x1 := hpre
 have hl1 : List.length x0.1 ≤ 9223372036854775807 := hlens0.1.1
 have hu0 : u8L x0.1 := hlens0.1.2
 have hl2 : List.length x1.2 ≤ 9223372036854775807 := hlens.1.2.1
 have hT : TabOK Try.prog S_spec_l11Packet_tab := (.cons S_spec_l5Vector_ok (.cons S_spec_CodePacket_ok .nil))
 have hvg := validG_t hpre.2
 have hvd := vecD_ok (n := ((List.length x1.2 : Nat) : Int)) hpre.1
 have hvl := hvd.2.1
 have hgf := validG_fit hpre.2
 refine wp_seq ?_
 refine at_regq [{ ids := [3] }, { ids := [4] }] { ts := [0, 3, 4], os := [1, 2, 3, 4] } [] gamOK hT h (by kernel_rfl) trivial fun a w h => then_normal (wp_seq ?_)
 refine at_anyq [{}, {}, {}, {}, {}, { ids := [5] }, { ids := [6, 7] }, {}, {}, {}, { ids := [8] }, {}, {}] { ts := [4, 5], os := [1, 2, 4, 6, 7, 8] } [B_spec_l5Vector.pre x0 (((List.length x1.2 : Nat) : Int), ()), Q_spec_CodePacket x1 (vecD x0 ((List.length x1.2 : Nat) : Int)).2] gamOK hT mixed h (by kernel_rfl) ⟨(by exact ⟨hpre.1, by omega⟩), (by exact ⟨hgf, Sh.fit_len rfl (by omega)⟩), trivial⟩ fun a w h => then_normal (wp_seq ?_)
 refine at_regq [] { ts := [4], os := [1, 2, 4, 6, 7] } [] gamOK hT h (by kernel_rfl) trivial fun a w h => then_normal (wp_ret ?_)
 have hr1 : (((vecD x0 ((List.length x1.2 : Nat) : Int)).1, (codePk x1 (vecD x0 ((List.length x1.2 : Nat) : Int)).2).1) : T91 × T38) = pktD x0 x1 := by rfl
 exact at_returnB (B := B_spec_l11Packet) (c0 := x0) (x := (x1, ())) ((vecD x0 ((List.length x1.2 : Nat) : Int)).1) ((codePk x1 (vecD x0 ((List.length x1.2 : Nat) : Int)).2).1, ()) [(Value.pointer (some ⟨b0, 0, none⟩)) = (Value.pointer (some ⟨b0, 0, none⟩))] h (by kernel_rfl) ⟨rfl, trivial⟩ (congrArg (a₁ := ((vecD x0 ((List.length x1.2 : Nat) : Int)).1, (codePk x1 (vecD x0 ((List.length x1.2 : Nat) : Int)).2).1)) (a₂ := pktD x0 x1) (fun (z : T91 × T38) => z.1) hr1) (congrArg (a₁ := ((vecD x0 ((List.length x1.2 : Nat) : Int)).1, (codePk x1 (vecD x0 ((List.length x1.2 : Nat) : Int)).2).1)) (a₂ := pktD x0 x1) (fun (z : T91 × T38) => (z.2, ())) hr1)
theorem pktD_ok {x : T91} {g : T26} (h : 0 ≤ x.2.1) (hg : validG g = true) : 0 ≤ (pktD x g).1.2.1 ∧ (pktD x g).2.1 = g.1 ∧ LA.VokB g.2.length (pktD x g).2.2.1 ∧ (pktD x g).2.2.2 = combS g.2 (pktD x g).2.2.1 := by
 have hvd := vecD_ok (n := ((List.length g.2 : Nat) : Int)) h
 have hv2 := hvd.2
 rw [Int.toNat_natCast] at hv2
 unfold pktD
 rw [codePk_ok hg hv2]
 exact ⟨hvd.1, rfl, hv2, rfl⟩
theorem pktD_fit {x : T91} {g : T26} (h : 0 ≤ x.2.1) (hg : validG g = true) : Sh.fit s38 (pktD x g).2 := by
 obtain ⟨h1, h2, h3, h4⟩ := pktD_ok h hg
 have hv := validG_t hg
 have hc := combS_ok hg h3
 have hco := colsOf_at (m := g.2) (by omega)
 refine ⟨trivial, ⟨by have := h3.1; omega, fun _ _ => trivial⟩, ⟨?_, fun _ _ => trivial⟩⟩
 rw [h4]; have := hc.1; omega
theorem pktD_len {x : T91} {g : T26} (h : 0 ≤ x.2.1) (hg : validG g = true) : List.length (pktD x g).2.2.1 ≤ 8 ∧ (1 ≤ List.length (pktD x g).2.2.2 ∧ List.length (pktD x g).2.2.2 ≤ 16) ∧ ∀ j, 0 ≤ (pktD x g).2.2.2.getD j 0 ∧ (pktD x g).2.2.2.getD j 0 ≤ 1018 := by
 obtain ⟨_, _, h3, h4⟩ := pktD_ok h hg
 have hv := validG_t hg
 have hc := combS_ok hg h3
 have hco := colsOf_at (m := g.2) (by omega)
 rw [h4]
 exact ⟨by have := h3.1; omega, by have := hc.1; omega, fun j => hc.rng j⟩

def atsL (x : List Int) (o : Int) (n : Nat) : List Int := (List.range n).map fun (j : Nat) => atF x ((j : Int) + o)
theorem atsL_len (x : List Int) (o : Int) (n : Nat) : (atsL x o n).length = n := by simp [atsL]
theorem atsL_at {x : List Int} {o : Int} {n i : Nat} (h : i < n) : (atsL x o n).getD i 0 = atF x ((i : Int) + o) := by rw [getD_of_lt (by rw [atsL_len]; exact h)]; simp [atsL]
theorem atsL_zero (x : List Int) (o : Int) (n : Nat) : List.replicate n (0 : Int) = copyTo 0 (atsL x o n) 0 := by
 have e := copyTo_zero (z := (0 : Int)) (xs := atsL x o n)
 rw [atsL_len] at e; exact e
theorem atsL_set {x : List Int} {o : Int} {n i : Nat} (h : i < n) : (copyTo 0 (atsL x o n) i).set i (atF x ((i : Int) + o)) = copyTo 0 (atsL x o n) (i + 1) := by
 rw [← atsL_at h]; exact copyTo_set (by rw [atsL_len]; exact h)
theorem atsL_ok {x : List Int} (hu : u8L x) {o : Int} (ho : 0 ≤ o) (n : Nat) : LA.VokB n (atsL x o n) := ⟨atsL_len x o n, fun y hy => by
 obtain ⟨j, _, rfl⟩ := List.mem_map.1 hy
 have := at_bd hu (i := (j : Int) + o) (by omega)
 unfold LA.El; omega⟩
def S_laws_sameInts : Sum := { fid := 9, dom := [s33, s33], cod := [(.bool 4)], dp := true, fz := false, pre := fun x => True, g := fun x => (((Sh.eqB s33) x.1 x.2.1), ()) }
def S_laws_sameInts_tab : List (Nat × Sum) := []
theorem S_laws_sameInts_ok : FnOK Try.prog 9 S_laws_sameInts := by
 refine at_enter 26 (fun x => ⟨[(0, aF (.int 3) x.1), (1, aF (.int 3) x.2.1)], []⟩) Try.func9 rfl (by kernel_rfl) (fun x => rfl) ?_
 rintro w0 Z0 ⟨x0, x1, u⟩ a w
 revert x0 x1
 intro (x0 : (List Int)) (x1 : (List Int)) hpre hlens h
 have hl1 : List.length x0 ≤ 9223372036854775807 := hlens.1.1
 have hl2 : List.length x1 ≤ 9223372036854775807 := hlens.2.1.1
 have hT : TabOK Try.prog S_laws_sameInts_tab := .nil
 refine wp_seq ?_
 refine at_regq [] { ts := [0, 1, 4], os := [] } [] gamOK hT h (by kernel_rfl) trivial fun a w h => then_normal (wp_seq (wp_seq ?_))
 refine at_regq [] { ts := [0, 1, 4, 10], os := [] } [] gamOK hT h (by kernel_rfl) trivial fun a w h => then_normal ?_
 refine at_test (!decide (((List.length x0 : Nat) : Int) = ((List.length x1 : Nat) : Int))) h (by kernel_rfl) (fun h1 => ?_) (fun h1 => ?_)
 ·replace h1 : ¬ (((List.length x0 : Nat) : Int) = ((List.length x1 : Nat) : Int)) := of_decide_eq_false (notT h1)
  refine wp_seq ?_
  refine at_regq [] { ts := [0, 1, 4], os := [] } [] gamOK hT h (by kernel_rfl) trivial fun a w h => then_normal (wp_ret (then_ret ?_))
  exact at_return (false, ()) [] h (by kernel_rfl) trivial (congrArg (fun z => (z, ())) (show (false) = (Sh.eqB s33) x0 x1 from by exact (Sh.eqB_ne (fun e => h1 (by rw [e]))).symm))
 ·replace h1 : ((List.length x0 : Nat) : Int) = ((List.length x1 : Nat) : Int) := of_decide_eq_true (notF h1)
  refine wp_skip (then_normal (wp_seq (wp_seq ?_)))
  refine at_regq [] { ts := [0, 1, 4, 5], os := [] } [] gamOK hT h (by kernel_rfl) trivial fun a w h => then_normal (wp_block ?_)
  replace h := at_out (σ' := ⟨[(0, aF (.int 3) x0), (1, aF (.int 3) x1), (4, aB false), (5, aI 0)], []⟩) { ts := [0, 1, 4, 5], os := [] } h (by kernel_rfl)
  refine at_loop (fun i : Nat => (⟨[(0, aF (.int 3) x0), (1, aF (.int 3) x1), (4, aB false), (5, aI ((i : Nat) : Int))], []⟩ : St)) (fun i => (i ≤ List.length x0 ∧ x0.take i = x1.take i)) (fun i => List.length x0 - i) (0) h (st_congr1 (fun (d0 : Int) => (⟨[(0, aF (.int 3) x0), (1, aF (.int 3) x1), (4, aB false), (5, aI d0)], []⟩ : St)) (show (0 : Int) = (((0) : Nat) : Int) from by first | with_reducible rfl | (rfl) | rfl)) (by exact ⟨Nat.zero_le _, rfl⟩) ?_
  intro i a w hok0 h
  refine wp_seq (wp_seq ?_)
  refine at_regq [] { ts := [0, 1, 4, 5, 14], os := [] } [] gamOK hT h (by kernel_rfl) trivial fun a w h => then_normal ?_
  refine at_test (decide (((i : Nat) : Int) < ((List.length x0 : Nat) : Int))) h (by kernel_rfl) (fun h2 => ?_) (fun h2 => ?_)
  ·replace h2 : ((i : Nat) : Int) < ((List.length x0 : Nat) : Int) := of_decide_eq_true h2
   refine wp_skip (then_normal (wp_seq (wp_block (wp_seq ?_))))
   refine at_anyq [{}, {}, {}, {}, {}, {}, {}, {}, {}] { ts := [0, 1, 4, 5, 25], os := [] } [(0 : Int) ≤ ((i : Nat) : Int) ∧ ((i : Nat) : Int) < ((List.length x0 : Nat) : Int), (0 : Int) ≤ ((i : Nat) : Int) ∧ ((i : Nat) : Int) < ((List.length x1 : Nat) : Int)] gamOK hT mixed h (by kernel_rfl) ⟨(by refine ⟨?_, ?_⟩ <;> (first | omega | (simp only [lsA]; omega) | (simp <;> omega))), (by refine ⟨?_, ?_⟩ <;> (first | omega | (simp only [lsA]; omega) | (simp <;> omega))), trivial⟩ fun a w h => then_normal ?_
   refine at_test (!decide ((x0.getD i 0) = (x1.getD i 0))) h (by kernel_rfl) (fun h3 => ?_) (fun h3 => ?_)
   ·replace h3 : ¬ ((x0.getD i 0) = (x1.getD i 0)) := of_decide_eq_false (notT h3)
    refine wp_seq ?_
    refine at_regq [] { ts := [0, 1, 4, 5], os := [] } [] gamOK hT h (by kernel_rfl) trivial fun a w h => then_normal (wp_ret (in_ret (then_ret (then_ret (in_ret (then_ret ?_))))))
    exact at_return (false, ()) [] h (by kernel_rfl) trivial (congrArg (fun z => (z, ())) (show (false) = (Sh.eqB s33) x0 x1 from by exact (Sh.eqB_ne (s := s33) (fun e => h3 (by rw [e]))).symm))
   ·replace h3 : (x0.getD i 0) = (x1.getD i 0) := of_decide_eq_true (notF h3)
    refine wp_skip (in_normal (then_normal ?_))
    refine at_regq [{}, { nw := true }] { ts := [0, 1, 4, 5], os := [] } [I64 (((i : Nat) : Int) + 1)] gamOK hT h (by kernel_rfl) ⟨⟨by first | omega | (simp only [lsA]; omega) | (simp <;> omega), by first | omega | (simp only [lsA]; omega) | (simp <;> omega)⟩, trivial⟩ fun a w h => ?_
    replace h := at_out (σ' := ⟨[(0, aF (.int 3) x0), (1, aF (.int 3) x1), (4, aB false), (5, aI (((i : Nat) : Int) + 1))], []⟩) { ts := [0, 1, 4, 5], os := [] } h (by kernel_rfl)
    exact ⟨i + 1, at_eq h (st_congr1 (fun (d0 : Int) => (⟨[(0, aF (.int 3) x0), (1, aF (.int 3) x1), (4, aB false), (5, aI d0)], []⟩ : St)) (show (((i : Nat) : Int) + 1 : Int) = (((i + 1) : Nat) : Int) from by first | with_reducible rfl | (omega) | rfl)), (by exact ⟨by omega, eqTo_step (z := 0) (by omega) (by omega) hok0.2 h3⟩), (by omega)⟩
  ·replace h2 : ¬ (((i : Nat) : Int) < ((List.length x0 : Nat) : Int)) := of_decide_eq_false h2
   refine wp_exit (then_exit (then_exit (in_hit (then_normal (wp_seq ?_)))))
   refine at_regq [] { ts := [4], os := [] } [] gamOK hT h (by kernel_rfl) trivial fun a w h => then_normal (wp_ret ?_)
   exact at_return (true, ()) [] h (by kernel_rfl) trivial (congrArg (fun z => (z, ())) (show (true) = (Sh.eqB s33) x0 x1 from by (have e := hok0.2; rw [take_all (by omega), take_all (by omega)] at e; exact ((Sh.eqB_iff s33).2 e).symm)))

def Cons (m : List (List Int)) (w : Nat) (v : LA.V) : Prop := (∀ j, j < w → v (m.length + j) = LA.sumN (fun k => v k * LA.vec (m.getD k []) j) m.length) ∧ ∀ j, m.length + w ≤ j → v j = 0
theorem Cons.zero (m : List (List Int)) (w : Nat) : Cons m w LA.vz := ⟨fun j _ => (LA.sumN_zero fun i _ => by simp only [LA.vz]; grind).symm, fun _ _ => rfl⟩
theorem Cons.add {m : List (List Int)} {w : Nat} {u v : LA.V} (h : Cons m w u) (k : LA.F) (h' : Cons m w v) : Cons m w (LA.vadd u k v) := by
 refine ⟨fun j hj => ?_, fun j hj => ?_⟩
 ·have e : LA.sumN (fun i => LA.vadd u k v i * LA.vec (m.getD i []) j) m.length = LA.sumN (fun i => u i * LA.vec (m.getD i []) j + k * (v i * LA.vec (m.getD i []) j)) m.length := LA.sumN_congr fun i _ => by simp only [LA.vadd]; grind
  rw [e, LA.sumN_add, ← h.1 j hj, ← h'.1 j hj]; rfl
 ·simp only [LA.vadd]; rw [h.2 j hj, h'.2 j hj]; grind
theorem Cons.part {m : List (List Int)} {w : Nat} {rows : List LA.V} (h : ∀ r ∈ rows, Cons m w r) (c : Nat → LA.F) : ∀ t, t ≤ rows.length → Cons m w (fun j => LA.sumN (fun i => c i * LA.row rows i j) t)
 | 0, _ => Cons.zero m w
 | t + 1, ht => by
  have ih := Cons.part h c t (by omega)
  exact ih.add (c t) (h _ (LA.row_mem (by omega)))
theorem Cons.span {m : List (List Int)} {w : Nat} {rows : List LA.V} (h : ∀ r ∈ rows, Cons m w r) {v : LA.V} (hv : LA.Span rows v) : Cons m w v := by
 obtain ⟨c, rfl⟩ := hv
 exact Cons.part h c rows.length (Nat.le_refl _)
theorem Cons.nil {m : List (List Int)} {w : Nat} {v : LA.V} (h : Cons m w v) (h0 : ∀ k, k < m.length → v k = 0) : v = LA.vz := by
 funext j
 by_cases h1 : j < m.length
 ·exact h0 j h1
 ·by_cases h2 : j < m.length + w
  ·have := h.1 (j - m.length) (by omega)
   rw [show m.length + (j - m.length) = j by omega] at this
   rw [this]; exact LA.sumN_zero fun i hi => by rw [h0 i hi]; grind
  ·exact h.2 j (by omega)
theorem Cons.lead {m : List (List Int)} {w : Nat} {v : LA.V} (h : Cons m w v) {l : Nat} (hl : LA.Lead v l) : l < m.length := by
 refine Decidable.byContradiction fun hn => ?_
 have := h.nil (fun k hk => hl.2 k (by omega))
 rw [this] at hl; exact hl.1 rfl
theorem vec_app {a b : List Int} (j : Nat) : LA.vec (a ++ b) j = if j < a.length then LA.vec a j else LA.vec b (j - a.length) := by
 unfold LA.vec
 split
 ·rename_i h
  rw [List.getD_eq_getElem?_getD, List.getElem?_append_left h, List.getD_eq_getElem?_getD]
 ·rename_i h
  rw [List.getD_eq_getElem?_getD, List.getElem?_append_right (by omega), List.getD_eq_getElem?_getD]
theorem vec_comb {m : List (List Int)} {cs : List Int} {w : Nat} (hm : ∀ j, j < m.length → LA.VokB w (m.getD j [])) (h0 : (m.getD 0 []).length = w) (hc : ∀ j, 0 ≤ cs.getD j 0 ∧ cs.getD j 0 ≤ 1018) : ∀ i, i ≤ m.length → LA.vec (combTo m cs i) = fun j => LA.sumN (fun k => LA.vec cs k * LA.vec (m.getD k []) j) i
 | 0, _ => by
  funext j
  simp only [combTo, LA.vec, LA.sumN]
  rw [List.getD_eq_getElem?_getD, List.getElem?_replicate]
  split <;> rfl
 | i + 1, hi => by
  have ih := vec_comb hm h0 hc i (by omega)
  have ho := combTo_ok (n := w) (vs := m) (cs := cs) h0 hc i (fun j hj => hm j (by omega))
  simp only [combTo]
  rw [(LA.addS_ok ho (hm i (by omega)) (hc i)).2, ih]
  rfl
theorem cons_code {m : List (List Int)} {cs : List Int} {w : Nat} (hm : ∀ j, j < m.length → LA.VokB w (m.getD j [])) (h0 : (m.getD 0 []).length = w) (hc : LA.VokB m.length cs) : Cons m w (LA.vec (cs ++ combS m cs)) := by
 have hv := vec_comb hm h0 hc.rng m.length (Nat.le_refl _)
 have ho := combTo_ok (n := w) (vs := m) (cs := cs) h0 hc.rng m.length hm
 refine ⟨fun j hj => ?_, fun j hj => ?_⟩
 ·rw [vec_app, hc.1, if_neg (by omega), Nat.add_sub_cancel_left]
  unfold combS; rw [hv]
  exact LA.sumN_congr fun k hk => by rw [vec_app, hc.1, if_pos hk]
 ·exact LA.vec_out (by rw [List.length_append, hc.1]; unfold combS; rw [ho.1]; exact hj)
structure ConR (m : List (List Int)) (w : Nat) (rows : List (List Int)) : Prop where
 red : LA.RedL (m.length + w) rows
 con : ∀ r ∈ rows, Cons m w (LA.vec r)
theorem ConR.all {m : List (List Int)} {w : Nat} {rows : List (List Int)} (h : ConR m w rows) : ∀ r ∈ rows.map LA.vec, Cons m w r := fun r hr => by
 obtain ⟨x, hx, rfl⟩ := List.mem_map.1 hr
 exact h.con x hx
theorem ConR.none (m : List (List Int)) (w : Nat) : ConR m w [] := ⟨LA.RedL.nil _, by simp⟩
theorem ConR.piv {m : List (List Int)} {w : Nat} {rows : List (List Int)} (h : ConR m w rows) {i : Nat} (hi : i < rows.length) : LA.pv rows i < m.length := by
 have h1 := h.red.red.lead (i := i) (by simpa using hi)
 rw [LA.row_vec hi] at h1
 exact (h.con _ (LA.getD_in hi)).lead h1
theorem ConR.lead {m : List (List Int)} {w : Nat} {rows : List (List Int)} (h : ConR m w rows) : ∀ r ∈ rows, LA.leadS r < (m.length : Int) := fun r hr => by
 obtain ⟨i, hi, rfl⟩ := List.getElem_of_mem hr
 have h1 := h.piv hi
 unfold LA.pv at h1
 rw [getD_of_lt hi] at h1
 have := h.red.nz _ hr
 omega
theorem ConR.ins {m : List (List Int)} {w : Nat} {rows : List (List Int)} {v : List Int} (h : ConR m w rows) (hv : LA.VokB (m.length + w) v) (hc : Cons m w (LA.vec v)) : ConR m w (LA.insS rows v).1 := by
 obtain ⟨h1, h2, h3, h4, h5⟩ := LA.insS_ok h.red hv
 refine ⟨h1, fun r hr => ?_⟩
 have hs : LA.Span ((LA.insS rows v).1.map LA.vec) (LA.vec r) := LA.Span.mem (List.mem_map.2 ⟨r, hr, rfl⟩)
 rw [h3] at hs
 refine Cons.span (fun x hx => ?_) hs
 rcases List.mem_append.1 hx with hx | hx
 ·exact h.all x hx
 ·have : x = LA.vec v := by simpa using hx
  rw [this]; exact hc
theorem ConR.rem {m : List (List Int)} {w : Nat} {rows : List (List Int)} {v : List Int} (h : ConR m w rows) (hv : LA.VokB (m.length + w) v) (hc : Cons m w (LA.vec v)) : LA.leadS (LA.redS rows v) < (m.length : Int) ∧ (LA.leadS (LA.redS rows v) < 0 ↔ LA.Span (rows.map LA.vec) (LA.vec v)) := by
 obtain ⟨h1, h2⟩ := LA.redS_ok h.red.ok hv
 have hz := LA.rem_zero_iff h.red.red (LA.vec v)
 have hr : Cons m w (LA.vec (LA.redS rows v)) := by
  obtain ⟨u, hu, e⟩ := LA.rem_span (m := rows.map LA.vec) (p := LA.pv rows) (LA.vec v)
  rw [h2, e]; exact hc.add 1 (Cons.span h.all hu)
 constructor
 ·by_cases hn : LA.leadS (LA.redS rows v) < 0
  ·omega
  ·have := hr.lead (LA.leadS_lead h1 (by omega)); omega
 ·rw [← hz, ← h2]
  constructor
  ·exact fun hn => LA.leadS_zero hn
  ·intro e
   refine Decidable.byContradiction fun hn => ?_
   have := (LA.leadS_lead h1 (by omega)).1
   rw [e] at this; exact this rfl
def uRow (m : List (List Int)) (i : Nat) : List Int := unitL m.length i ++ m.getD i []
theorem unitL_at {n : Nat} {i j : Nat} (hj : j < n) : (unitL n i).getD j 0 = if j = i then 1 else 0 := by
 rw [getD_of_lt (by rw [unitL_len]; exact hj)]
 simp only [unitL, List.getElem_map, List.getElem_range]
 by_cases e : j = i
 ·rw [if_pos e, if_pos (by omega)]
 ·rw [if_neg e, if_neg (by omega)]
theorem vec_unit {n : Nat} {i j : Nat} (hi : i < n) : LA.vec (unitL n i) j = if j = i then 1 else 0 := by
 by_cases hj : j < n
 ·unfold LA.vec; rw [unitL_at hj]; split <;> rfl
 ·rw [LA.vec_out (by rw [unitL_len]; omega), if_neg (by omega)]
theorem uRow_ok {m : List (List Int)} {w : Nat} {i : Nat} (hm : ∀ j, j < m.length → LA.VokB w (m.getD j [])) (hi : i < m.length) : LA.VokB (m.length + w) (uRow m i) := by
 have h1 := unitL_ok m.length (i : Int)
 have h2 := hm i hi
 refine ⟨by unfold uRow; rw [List.length_append, h1.1, h2.1], fun x hx => ?_⟩
 rcases List.mem_append.1 hx with hx | hx
 ·exact h1.2 x hx
 ·exact h2.2 x hx
theorem uRow_at {m : List (List Int)} {i k : Nat} (hi : i < m.length) (hk : k < m.length) : LA.vec (uRow m i) k = if k = i then 1 else 0 := by
 unfold uRow
 rw [vec_app, unitL_len, if_pos hk, vec_unit hi]
theorem uRow_con {m : List (List Int)} {w : Nat} {i : Nat} (hm : ∀ j, j < m.length → LA.VokB w (m.getD j [])) (hi : i < m.length) : Cons m w (LA.vec (uRow m i)) := by
 have ho := uRow_ok hm hi
 refine ⟨fun j hj => ?_, fun j hj => LA.vec_out (by rw [ho.1]; exact hj)⟩
 rw [LA.sumN_single hi (fun k hk hne => by rw [uRow_at hi hk, if_neg hne]; grind), uRow_at hi hi, if_pos rfl]
 unfold uRow
 rw [vec_app, unitL_len, if_neg (by omega), Nat.add_sub_cancel_left]; grind
theorem combS_unit {m : List (List Int)} {w : Nat} {i : Nat} (hm : ∀ j, j < m.length → LA.VokB w (m.getD j [])) (h0 : (m.getD 0 []).length = w) (hi : i < m.length) : combS m (unitL m.length i) = m.getD i [] := by
 have hc := unitL_ok m.length (i : Int)
 have hv := vec_comb hm h0 hc.rng m.length (Nat.le_refl _)
 have ho := combTo_ok (n := w) (vs := m) (cs := unitL m.length i) h0 hc.rng m.length hm
 refine LA.vec_inj ho (hm i hi) ?_
 show LA.vec (combTo m (unitL m.length i) m.length) = _
 rw [hv]; funext j
 rw [LA.sumN_single hi (fun k hk hne => by rw [vec_unit hi, if_neg hne]; grind), vec_unit hi, if_pos rfl]; grind
theorem ConR.unit {m : List (List Int)} {w : Nat} {rows : List (List Int)} (h : ConR m w rows) (hm : ∀ j, j < m.length → LA.VokB w (m.getD j [])) {i : Nat} (hi : i < m.length) (hs : LA.Span (rows.map LA.vec) (LA.vec (uRow m i))) : ∃ k, k < rows.length ∧ LA.pv rows k = i ∧ rows.getD k [] = uRow m i := by
 obtain ⟨c, hc⟩ := hs
 have hL : (rows.map LA.vec).length = rows.length := List.length_map ..
 have hp : ∀ k, k < rows.length → c k = if LA.pv rows k = i then 1 else 0 := fun k hk => by
  rw [← h.red.red.at_piv c (k := k) (by rw [hL]; exact hk), ← hc, uRow_at hi (h.piv hk)]
 by_cases he : ∃ k, k < rows.length ∧ LA.pv rows k = i
 ·obtain ⟨k, hk, hki⟩ := he
  refine ⟨k, hk, hki, ?_⟩
  refine LA.vec_inj (h.red.ok _ (LA.getD_in hk)) (uRow_ok hm hi) ?_
  rw [hc]; funext j
  simp only [LA.comb]
  rw [LA.sumN_single (k := k) (by rw [hL]; exact hk) (fun t ht hne => by
   rw [hp t (by rw [hL] at ht; exact ht), if_neg (fun e => hne (h.red.red.inj ht (by rw [hL]; exact hk) (e.trans hki.symm)))]; grind), hp k hk, if_pos hki, LA.row_vec hk]; grind
 ·exfalso
  have h1 := congrFun hc i
  rw [uRow_at hi hi, if_pos rfl] at h1
  simp only [LA.comb] at h1
  rw [LA.sumN_zero (fun t ht => by rw [hp t (by rw [hL] at ht; exact ht), if_neg (fun e => he ⟨t, by rw [hL] at ht; exact ht, e⟩)]; grind)] at h1
  exact absurd h1 (by decide)
theorem ConR.unit_mem {m : List (List Int)} {rows : List (List Int)} {i : Nat} (hr : uRow m i ∈ rows) : LA.Span (rows.map LA.vec) (LA.vec (uRow m i)) := LA.Span.mem (List.mem_map.2 ⟨_, hr, rfl⟩)
theorem ConR.mono {m : List (List Int)} {w : Nat} {rows : List (List Int)} (h : ConR m w rows) {i j : Nat} (hij : i < j) (hj : j < rows.length) : LA.pv rows i < LA.pv rows j := h.red.red.inc i j hij (by simpa using hj)
theorem ConR.ge {m : List (List Int)} {w : Nat} {rows : List (List Int)} (h : ConR m w rows) : ∀ i, i < rows.length → i ≤ LA.pv rows i
 | 0, _ => Nat.zero_le _
 | i + 1, hi => by have := h.ge i (by omega); have := h.mono (show i < i + 1 by omega) hi; omega
theorem ConR.le {m : List (List Int)} {w : Nat} {rows : List (List Int)} (h : ConR m w rows) : rows.length ≤ m.length := by
 rcases Nat.eq_zero_or_pos rows.length with h0 | h0
 ·omega
 ·have h1 := h.ge (rows.length - 1) (by omega)
  have h2 := h.piv (i := rows.length - 1) (by omega)
  omega
theorem ConR.len {m : List (List Int)} {w : Nat} {rows : List (List Int)} (h : ConR m w rows) (hm : ∀ j, j < m.length → LA.VokB w (m.getD j [])) (hs : ∀ i, i < m.length → LA.Span (rows.map LA.vec) (LA.vec (uRow m i))) : rows.length = m.length := by
 have key : ∀ i, i < m.length → i < rows.length ∧ ∃ k, k < rows.length ∧ i ≤ k ∧ LA.pv rows k = i := by
  intro i
  induction i with
  | zero => intro hi; obtain ⟨k, hk, hp, _⟩ := h.unit hm hi (hs 0 hi); exact ⟨by omega, k, hk, Nat.zero_le _, hp⟩
  | succ i ih =>
   intro hi
   obtain ⟨h1, k, hk, hik, hp⟩ := ih (by omega)
   obtain ⟨k', hk', hp', _⟩ := h.unit hm hi (hs (i + 1) hi)
   have : k < k' := by
    rcases Nat.lt_trichotomy k k' with h | h' | h'
    ·exact h
    ·subst h'; omega
    ·have := h.mono h' hk; omega
   exact ⟨by omega, k', hk', by omega, hp'⟩
 have := h.le
 rcases Nat.eq_zero_or_pos m.length with h0 | h0
 ·omega
 ·have := (key (m.length - 1) (by omega)).1; omega
def wid (g : T26) : Nat := (g.2.getD 0 []).length
theorem gen_rows {g : T26} (h : validG g = true) : (1 ≤ g.2.length ∧ g.2.length ≤ 8) ∧ (1 ≤ wid g ∧ wid g ≤ 16) ∧ (∀ j, j < g.2.length → LA.VokB (wid g) (g.2.getD j [])) ∧ colsOf g.2 = ((wid g : Nat) : Int) := by
 have h1 := validG_t h
 have h2 := validM_ok h1.2.2.1
 have h3 := colsOf_at (m := g.2) (by omega)
 unfold wid
 exact ⟨by omega, by omega, fun j hj => h2 _ (LA.getD_in hj), h3⟩
structure DecOK (g : T26) (d : T30) : Prop where
 id : d.1 = g.1
 sz : d.2.1 = ((List.length g.2 : Nat) : Int)
 wd : d.2.2.1 = ((wid g : Nat) : Int)
 tot : d.2.2.2.1 = ((List.length g.2 + wid g : Nat) : Int)
 con : ConR g.2 (wid g) d.2.2.2.2
theorem DecOK.basis {g : T26} {d : T30} (hg : validG g = true) (h : DecOK g d) : basP d.2.2.2 := by
 have h1 := gen_rows hg
 have h2 := h.tot
 refine ⟨by omega, ?_⟩
 rw [h2, Int.toNat_natCast]; exact h.con.red
theorem DecOK.valid {g : T26} {d : T30} (hg : validG g = true) (h : DecOK g d) : validD d = true := by
 have h1 := gen_rows hg
 have hv := validG_t hg
 have h2 := h.tot; have h3 := h.sz; have h4 := h.wd; have h5 := h.id
 have hf : isFmt d.1 d.2.1 d.2.2.1 = true := by
  unfold isFmt
  rw [if_pos (show inR d.1 0 1000000000000 = true from inR_true (by omega)), if_pos (show inR d.2.1 1 8 = true from inR_true (by omega))]
  exact inR_true (by omega)
 have hall : (d.2.2.2.2.all fun r => decide (LA.leadS r < d.2.1)) = true := List.all_eq_true.2 fun r hr => decide_eq_true (by have := h.con.lead r hr; omega)
 unfold validD
 rw [if_pos hf, if_pos ((validB_iff _).2 (h.basis hg)), if_pos (by omega)]
 first | exact hall | exact if_pos hall
theorem DecOK.fit {g : T26} {d : T30} (hg : validG g = true) (h : DecOK g d) : Sh.fit s30 d := ⟨trivial, trivial, trivial, basP_fit (h.basis hg)⟩
theorem code_row {g : T26} {cs : List Int} (hg : validG g = true) (hc : LA.VokB g.2.length cs) : LA.VokB (g.2.length + wid g) (cs ++ combS g.2 cs) ∧ Cons g.2 (wid g) (LA.vec (cs ++ combS g.2 cs)) := by
 have h1 := gen_rows hg
 have ho := combTo_ok (n := wid g) (vs := g.2) (cs := cs) rfl hc.rng g.2.length h1.2.2.1
 refine ⟨⟨by rw [List.length_append, hc.1]; unfold combS; rw [ho.1], fun x hx => ?_⟩, cons_code h1.2.2.1 rfl hc⟩
 rcases List.mem_append.1 hx with hx | hx
 ·exact hc.2 x hx
 ·exact ho.2 x hx
theorem code_valid {g : T26} {cs : List Int} (hg : validG g = true) (hc : LA.VokB g.2.length cs) {a b : Int} (ha : a = ((List.length g.2 : Nat) : Int)) (hb : b = ((wid g : Nat) : Int)) : validP (g.1, cs, combS g.2 cs) a b = true := by
 have h1 := gen_rows hg
 have hv := validG_t hg
 have ho := combTo_ok (n := wid g) (vs := g.2) (cs := cs) rfl hc.rng g.2.length h1.2.2.1
 subst ha hb
 refine validP_of ⟨?_, ?_, ?_, validV_of hc (by omega), validV_of (n := wid g) (v := combS g.2 cs) ho (by omega)⟩
 ·unfold isFmt
  rw [if_pos (show inR g.1 0 1000000000000 = true from inR_true (by omega)), if_pos (show inR ((List.length g.2 : Nat) : Int) 1 8 = true from inR_true (by omega))]
  exact inR_true (by omega)
 ·show ((List.length cs : Nat) : Int) = _; rw [hc.1]
 ·show ((List.length (combS g.2 cs) : Nat) : Int) = _; unfold combS; rw [ho.1]
theorem addPk_con {g : T26} {d : T30} {cs : List Int} (hg : validG g = true) (h : DecOK g d) (hc : LA.VokB g.2.length cs) :
  DecOK g (addPk d (g.1, cs, combS g.2 cs)).1 ∧ ((addPk d (g.1, cs, combS g.2 cs)).2 = false ↔ LA.Span (d.2.2.2.2.map LA.vec) (LA.vec (cs ++ combS g.2 cs))) ∧ (∀ x, LA.Span ((addPk d (g.1, cs, combS g.2 cs)).1.2.2.2.2.map LA.vec) x ↔ LA.Span (d.2.2.2.2.map LA.vec ++ [LA.vec (cs ++ combS g.2 cs)]) x) ∧ ((addPk d (g.1, cs, combS g.2 cs)).2 = true → (addPk d (g.1, cs, combS g.2 cs)).1.2.2.2.2.length = d.2.2.2.2.length + 1) ∧ ((addPk d (g.1, cs, combS g.2 cs)).2 = false → (addPk d (g.1, cs, combS g.2 cs)).1 = d) := by
 have hr := code_row hg hc
 have hd := h.valid hg
 have hp := code_valid hg hc h.sz h.wd
 obtain ⟨i1, i2, i3, i4, i5⟩ := LA.insS_ok h.con.red hr.1
 have hrem := h.con.rem hr.1 hr.2
 have hsz := h.sz
 by_cases hl : LA.leadS (LA.redS d.2.2.2.2 (cs ++ combS g.2 cs)) < 0
 ·have hs := hrem.2.1 hl
  have hno : addOKD d (g.1, cs, combS g.2 cs) = false := addOKD_f (Or.inr (Or.inr (by
   rw [Bool.eq_false_iff]; intro e; have := (inR_t e).1; dsimp only at this; omega)))
  rw [← addPk_n (Or.inr hno)]
  refine ⟨h, ⟨fun _ => hs, fun _ => rfl⟩, fun x => ⟨?_, ?_⟩, fun e => (by cases e), fun _ => rfl⟩
  ·exact LA.Span.of_mem fun r hr => LA.Span.mem (List.mem_append.2 (.inl hr))
  ·refine LA.Span.of_mem fun r hr => ?_
   rcases List.mem_append.1 hr with hr | hr
   ·exact LA.Span.mem hr
   ·rw [List.mem_singleton.1 hr]; exact hs
 ·have hyes : addOKD d (g.1, cs, combS g.2 cs) = true := addOKD_t hp h.id.symm (inR_true (by dsimp only; omega))
  have e1 : addPk d (g.1, cs, combS g.2 cs) = ((d.1, d.2.1, d.2.2.1, d.2.2.2.1, (LA.insS d.2.2.2.2 (cs ++ combS g.2 cs)).1), true) := by
   rw [← addPk_y hd, hyes]
   unfold addUD insUD insU
   rw [if_pos hyes]
  have i2' : (LA.insS d.2.2.2.2 (cs ++ combS g.2 cs)).2 = true := by rw [LA.insS_yes hl]
  rw [e1]
  refine ⟨⟨h.id, h.sz, h.wd, h.tot, h.con.ins hr.1 hr.2⟩, ⟨fun e => (by cases e), fun e => ?_⟩, i3, fun _ => i4 i2', fun e => (by cases e)⟩
  exact absurd (hrem.2.2 e) hl
theorem addPk_in {g : T26} {d : T30} {cs : List Int} (hg : validG g = true) (h : DecOK g d) (hc : LA.VokB g.2.length cs) : LA.Span ((addPk d (g.1, cs, combS g.2 cs)).1.2.2.2.2.map LA.vec) (LA.vec (cs ++ combS g.2 cs)) := by
 rw [(addPk_con hg h hc).2.2.1]; exact LA.Span.mem (by simp)
theorem addPk_mono {g : T26} {d : T30} {cs : List Int} (hg : validG g = true) (h : DecOK g d) (hc : LA.VokB g.2.length cs) {x : LA.V} (hx : LA.Span (d.2.2.2.2.map LA.vec) x) : LA.Span ((addPk d (g.1, cs, combS g.2 cs)).1.2.2.2.2.map LA.vec) x := by
 rw [(addPk_con hg h hc).2.2.1]; exact LA.Span.of_mem (fun r hr => LA.Span.mem (List.mem_append.2 (.inl hr))) hx
def decR (u : List Int) (n : Nat) : List (List Int) → List Int × Bool
 | [] => ([], false)
 | r :: l => if r.take n = u then (r.drop n, true) else decR u n l
theorem decR_at {u : List Int} {n : Nat} : ∀ {rows : List (List Int)} {i : Nat}, i < rows.length → (∀ j, j < i → (rows.getD j []).take n ≠ u) → (rows.getD i []).take n = u → decR u n rows = ((rows.getD i []).drop n, true)
 | [], i, h, _, _ => by simp at h
 | r :: l, 0, _, _, h => by
  have h : r.take n = u := h
  simp only [decR]; rw [if_pos h]; rfl
 | r :: l, i + 1, hi, hn, h => by
  have h0 : r.take n ≠ u := hn 0 (by omega)
  simp only [decR]; rw [if_neg h0]
  exact decR_at (rows := l) (i := i) (by simpa using hi) (fun j hj => by have := hn (j + 1) (by omega); simpa using this) (by simpa using h)
theorem decR_none {u : List Int} {n : Nat} : ∀ {rows : List (List Int)}, (∀ r ∈ rows, r.take n ≠ u) → decR u n rows = ([], false)
 | [], _ => rfl
 | r :: l, h => by
  simp only [decR]; rw [if_neg (h r (by simp))]
  exact decR_none fun x hx => h x (by simp [hx])
theorem decR_t {u : List Int} {n : Nat} : ∀ {rows : List (List Int)}, (decR u n rows).2 = true → ∃ r ∈ rows, r.take n = u ∧ (decR u n rows).1 = r.drop n
 | [], h => by cases h
 | r :: l, h => by
  simp only [decR] at h ⊢
  by_cases e : r.take n = u
  ·rw [if_pos e]; exact ⟨r, by simp, e, rfl⟩
  ·rw [if_neg e] at h ⊢
   obtain ⟨x, hx, h1, h2⟩ := decR_t (rows := l) h
   exact ⟨x, by simp [hx], h1, h2⟩
theorem decR_of {u : List Int} {n : Nat} : ∀ {rows : List (List Int)} {r : List Int}, r ∈ rows → r.take n = u → (decR u n rows).2 = true
 | [], _, h, _ => by cases h
 | x :: l, r, h, e => by
  simp only [decR]
  by_cases e2 : x.take n = u
  ·rw [if_pos e2]
  ·rw [if_neg e2]
   rcases List.mem_cons.1 h with h | h
   ·rw [h] at e; exact absurd e e2
   ·exact decR_of h e
def decF (d : T30) (i : Int) : List Int × Bool := if validD d = true ∧ inR i 0 (d.2.1 - 1) = true then decR (unitV d.2.1 i) d.2.1.toNat d.2.2.2.2 else ([], false)
theorem decF_y {d : T30} {i : Int} (h1 : validD d = true) (h2 : inR i 0 (d.2.1 - 1) = true) : decR (unitV d.2.1 i) d.2.1.toNat d.2.2.2.2 = decF d i := (if_pos ⟨h1, h2⟩).symm
theorem decF_n {d : T30} {i : Int} (h : validD d = false ∨ inR i 0 (d.2.1 - 1) = false) : ([], false) = decF d i := by
 unfold decF; rw [if_neg]
 rintro ⟨h1, h2⟩
 rcases h with h | h
 ·rw [h] at h1; cases h1
 ·rw [h] at h2; cases h2
theorem uRow_take {m : List (List Int)} {i : Nat} : (uRow m i).take m.length = unitL m.length (i : Int) ∧ (uRow m i).drop m.length = m.getD i [] := by
 have hl := unitL_len m.length (i : Int)
 unfold uRow
 exact ⟨List.take_left' hl, List.drop_left' hl⟩
theorem row_unit {m : List (List Int)} {w : Nat} {r : List Int} {i : Nat} (hm : ∀ j, j < m.length → LA.VokB w (m.getD j [])) (hi : i < m.length) (hr : LA.VokB (m.length + w) r) (hc : Cons m w (LA.vec r)) (ht : r.take m.length = unitL m.length (i : Int)) : r = uRow m i := by
 refine LA.vec_inj hr (uRow_ok hm hi) ?_
 have hd : Cons m w (LA.vadd (LA.vec r) (-1) (LA.vec (uRow m i))) := hc.add (-1) (uRow_con hm hi)
 have hz := hd.nil (fun k hk => by
  have e1 : LA.vec r k = LA.vec (uRow m i) k := by
   rw [uRow_at hi hk, ← vec_unit hi (j := k) (n := m.length), ← ht]
   unfold LA.vec
   rw [List.getD_eq_getElem?_getD, List.getD_eq_getElem?_getD, List.getElem?_take, if_pos hk]
  simp only [LA.vadd]
  rw [e1]; grind)
 funext j
 have := congrFun hz j
 simp only [LA.vadd, LA.vz] at this
 grind
theorem DecOK.dec {g : T26} {d : T30} (hg : validG g = true) (h : DecOK g d) {i : Nat} (hi : i < g.2.length) : ((decF d (i : Int)).2 = true ↔ LA.Span (d.2.2.2.2.map LA.vec) (LA.vec (uRow g.2 i))) ∧ ((decF d (i : Int)).2 = true → (decF d (i : Int)).1 = g.2.getD i []) := by
 have h1 := gen_rows hg
 have hs := h.sz
 have e : decF d (i : Int) = decR (unitL g.2.length (i : Int)) g.2.length d.2.2.2.2 := by
  rw [← decF_y (h.valid hg) (inR_true (by omega)), ← unitV_y (inR_true (by omega)) (inR_true (by omega)), hs, Int.toNat_natCast]
 have key : (decF d (i : Int)).2 = true → uRow g.2 i ∈ d.2.2.2.2 ∧ (decF d (i : Int)).1 = g.2.getD i [] := fun hd => by
  rw [e] at hd ⊢
  obtain ⟨r, hr, h2, h3⟩ := decR_t hd
  have := row_unit h1.2.2.1 hi (h.con.red.ok r hr) (h.con.con r hr) h2
  rw [h3, this]
  exact ⟨this ▸ hr, uRow_take.2⟩
 refine ⟨⟨fun hd => ConR.unit_mem (key hd).1, fun hsp => ?_⟩, fun hd => (key hd).2⟩
 obtain ⟨k, hk, _, hrk⟩ := h.con.unit h1.2.2.1 hi hsp
 rw [e]
 exact decR_of (LA.getD_in hk) (by rw [hrk]; exact uRow_take.1)
def missD (d : T30) : Int := if validD d = true then d.2.1 - ((List.length d.2.2.2.2 : Nat) : Int) else 0
def cntD (d : T30) : Int := ((((List.range (min d.2.1 8).toNat).filter (fun (k : Nat) => (decF d (k : Int)).2)).length : Nat) : Int)
def recD' (d : T30) : T26 := (d.1, d.2.2.2.2.map fun r => r.drop d.2.1.toNat)
def recG (d : T30) : T26 × Bool := if (validD d && complD d) = true then (recD' d, true) else ((0, []), false)
theorem recG_y {d : T30} (h : (validD d && complD d) = true) : (recD' d, true) = recG d := (if_pos h).symm
theorem recG_n {d : T30} (h : (validD d && complD d) = false) : ((0, []), false) = recG d := (if_neg (by rw [h]; decide)).symm
theorem cnt_range (p : Nat → Bool) (i : Nat) : ((List.range i).filter p).length ≤ i := by
 have := List.length_filter_le p (List.range i)
 rwa [List.length_range] at this
theorem cnt_y {p : Nat → Bool} {i : Nat} (h : p i = true) : ((List.range (i + 1)).filter p).length = ((List.range i).filter p).length + 1 := by
 rw [List.range_succ, List.filter_append, List.length_append]; simp [h]
theorem cnt_n {p : Nat → Bool} {i : Nat} (h : p i = false) : ((List.range (i + 1)).filter p).length = ((List.range i).filter p).length := by
 rw [List.range_succ, List.filter_append, List.length_append]; simp [h]
def newDec (x0 : Int) (x1 : Int) (x2 : Int) : T30 := (if (isFmt x0 x1 x2) = true then (x0, (x1, (x2, (newBas (x1 + x2))))) else (0, (0, (0, (0, ([] : List (List Int)))))))
def S_spec_NewDecoder : Sum := { fid := 61, dom := [(.int 3), (.int 3), (.int 3)], cod := [s30], dp := false, fz := false, pre := fun x => True, g := fun x => ((newDec x.1 x.2.1 x.2.2.1), ()) }
def S_spec_NewDecoder_tab : List (Nat × Sum) := [(90, S_spec_l14Range), (91, S_spec_NewBasis)]
theorem S_spec_NewDecoder_ok : FnOK Try.prog 61 S_spec_NewDecoder := by
 refine at_enter 21 (fun x => ⟨[(0, aI x.1), (1, aI x.2.1), (2, aI x.2.2.1)], []⟩) Try.func61 rfl (by kernel_rfl) (fun x => rfl) ?_
 rintro w0 Z0 ⟨x0, x1, x2, u⟩ a w
 revert x0 x1 x2
 intro (x0 : Int) (x1 : Int) (x2 : Int) hpre hlens h
 have hT : TabOK Try.prog S_spec_NewDecoder_tab := (.cons S_spec_l14Range_ok (.cons S_spec_NewBasis_ok .nil))
 refine wp_seq ?_
 refine at_regq [{ ids := [1] }] { ts := [0, 1, 2, 6], os := [1] } [] gamOK hT h (by kernel_rfl) trivial fun a w h => then_normal (wp_seq (wp_seq ?_))
 refine at_regq [] { ts := [0, 1, 2, 6, 11], os := [1] } [True] gamOK hT h (by kernel_rfl) ⟨trivial, trivial⟩ fun a w h => then_normal ?_
 refine at_test (!(isFmt x0 x1 x2)) h (by kernel_rfl) (fun h1 => ?_) (fun h1 => ?_)
 ·replace h1 : (isFmt x0 x1 x2) = false := notT h1
  refine wp_seq ?_
  refine at_regq [] { ts := [0, 1, 2, 6], os := [1] } [] gamOK hT h (by kernel_rfl) trivial fun a w h => then_normal (wp_ret (then_ret ?_))
  exact at_return ((0, (0, (0, (0, ([] : List (List Int)))))), ()) [] h (by kernel_rfl) trivial (congrArg (fun z => (z, ())) (show ((0, (0, (0, (0, ([] : List (List Int))))))) = newDec x0 x1 x2 from by first | rfl | (unfold newDec; rw [if_neg (neT h1)])))
 ·replace h1 : (isFmt x0 x1 x2) = true := notF h1
  have hvh1 := isFmt_t h1
  refine wp_skip (then_normal (wp_seq ?_))
  refine at_regq [{}, {}, {}, {}, {}, { nw := true }, { ids := [2] }] { ts := [6], os := [1, 2] } [I64 (x1 + x2), True] gamOK hT h (by kernel_rfl) ⟨⟨by first | omega | (simp only [lsA]; omega) | (simp <;> omega), by first | omega | (simp only [lsA]; omega) | (simp <;> omega)⟩, trivial, trivial⟩ fun a w h => then_normal (wp_ret ?_)
  exact at_return ((x0, (x1, (x2, (newBas (x1 + x2))))), ()) [] h (by kernel_rfl) trivial (congrArg (fun z => (z, ())) (show ((x0, (x1, (x2, (newBas (x1 + x2)))))) = newDec x0 x1 x2 from by first | rfl | (unfold newDec; rw [if_pos h1])))
theorem newDec_ok {g : T26} (hg : validG g = true) : DecOK g (newDec g.1 ((List.length g.2 : Nat) : Int) (colsOf g.2)) := by
 have h1 := gen_rows hg
 have hv := validG_t hg
 have hf : isFmt g.1 ((List.length g.2 : Nat) : Int) (colsOf g.2) = true := by
  unfold isFmt
  rw [if_pos (show inR g.1 0 1000000000000 = true from inR_true (by omega)), if_pos (show inR ((List.length g.2 : Nat) : Int) 1 8 = true from inR_true (by omega))]
  exact inR_true (by omega)
 have hn : newBas (((List.length g.2 : Nat) : Int) + colsOf g.2) = (((List.length g.2 : Nat) : Int) + colsOf g.2, []) := if_pos (inR_true (by omega))
 unfold newDec
 rw [if_pos hf, hn]
 exact ⟨rfl, rfl, h1.2.2.2, by show _ + colsOf g.2 = _; omega, ConR.none _ _⟩

abbrev Q_impl_MissingDegrees := (fun (x0 : T30) => Sh.fit s30 x0)
def S_impl_MissingDegrees : Sum := { fid := 14, dom := [s30], cod := [(.int 3)], dp := true, fz := false, pre := fun x => Q_impl_MissingDegrees x.1, g := fun x => ((missD x.1), ()) }
def S_impl_MissingDegrees_tab : List (Nat × Sum) := [(20, S_impl_IsValidDecoder)]
theorem S_impl_MissingDegrees_ok : FnOK Try.prog 14 S_impl_MissingDegrees := by
 refine at_enter 13 (fun x => ⟨[(0, aG [cI x.1.1, cI x.1.2.1, cI x.1.2.2.1, cI x.1.2.2.2.1, .ro s33 x.1.2.2.2.2])], []⟩) Try.func14 rfl (by kernel_rfl) (fun x => rfl) ?_
 rintro w0 Z0 ⟨x0, u⟩ a w
 revert x0
 intro (x0 : T30) hpre hlens h
 replace hpre : Q_impl_MissingDegrees x0 := hpre
 have hT : TabOK Try.prog S_impl_MissingDegrees_tab := (.cons S_impl_IsValidDecoder_ok .nil)
 have hf0 : Sh.fit s30 x0 := hpre
 have hn0_1 : List.length x0.2.2.2.2 ≤ 1073741824 := hf0.2.2.2.2.1
 refine wp_seq ?_
 refine at_regq [{ ids := [1] }] { ts := [1, 2], os := [1] } [] gamOK hT h (by kernel_rfl) trivial fun a w h => then_normal (wp_seq (wp_seq ?_))
 refine at_regq [] { ts := [1, 2, 5], os := [1] } [Q_impl_IsValidDecoder x0] gamOK hT h (by kernel_rfl) ⟨(by exact hf0), trivial⟩ fun a w h => then_normal ?_
 refine at_test (!(validD x0)) h (by kernel_rfl) (fun h1 => ?_) (fun h1 => ?_)
 ·replace h1 : (validD x0) = false := notT h1
  refine wp_seq ?_
  refine at_regq [] { ts := [1, 2], os := [1] } [] gamOK hT h (by kernel_rfl) trivial fun a w h => then_normal (wp_ret (then_ret ?_))
  exact at_return (0, ()) [] h (by kernel_rfl) trivial (congrArg (fun z => (z, ())) (show (0) = missD x0 from by (unfold missD; first | (rw [if_pos (by assumption)]; done) | (rw [if_neg (by simp_all)]; done))))
 ·replace h1 : (validD x0) = true := notF h1
  have hvh1 := validD_t h1
  refine wp_skip (then_normal (wp_seq ?_))
  refine at_regq [{}, {}, {}, {}, {}, {}, { nw := true }] { ts := [2], os := [] } [I64 (x0.2.1 - ((List.length x0.2.2.2.2 : Nat) : Int))] gamOK hT h (by kernel_rfl) ⟨⟨by first | omega | (simp only [lsA]; omega) | (simp <;> omega), by first | omega | (simp only [lsA]; omega) | (simp <;> omega)⟩, trivial⟩ fun a w h => then_normal (wp_ret ?_)
  exact at_return (x0.2.1 - ((List.length x0.2.2.2.2 : Nat) : Int), ()) [] h (by kernel_rfl) trivial (congrArg (fun z => (z, ())) (show (x0.2.1 - ((List.length x0.2.2.2.2 : Nat) : Int)) = missD x0 from by (unfold missD; first | (rw [if_pos (by assumption)]; done) | (rw [if_neg (by simp_all)]; done))))

def D_impl_IsComplete := (fun d => validD d && complD d)
abbrev Q_impl_IsComplete := (fun (x0 : T30) => Sh.fit s30 x0)
def S_impl_IsComplete : Sum := { fid := 15, dom := [s30], cod := [(.bool 4)], dp := true, fz := false, pre := fun x => Q_impl_IsComplete x.1, g := fun x => ((D_impl_IsComplete x.1), ()) }
def S_impl_IsComplete_tab : List (Nat × Sum) := [(20, S_impl_IsValidDecoder), (42, S__impl_Decoder_complete)]
theorem S_impl_IsComplete_ok : FnOK Try.prog 15 S_impl_IsComplete := by
 refine at_enter 9 (fun x => ⟨[(0, aG [cI x.1.1, cI x.1.2.1, cI x.1.2.2.1, cI x.1.2.2.2.1, .ro s33 x.1.2.2.2.2])], []⟩) Try.func15 rfl (by kernel_rfl) (fun x => rfl) ?_
 rintro w0 Z0 ⟨x0, u⟩ a w
 revert x0
 intro (x0 : T30) hpre hlens h
 replace hpre : Q_impl_IsComplete x0 := hpre
 have hT : TabOK Try.prog S_impl_IsComplete_tab := (.cons S_impl_IsValidDecoder_ok (.cons S__impl_Decoder_complete_ok .nil))
 have hf0 : Sh.fit s30 x0 := hpre
 have hn0_1 : List.length x0.2.2.2.2 ≤ 1073741824 := hf0.2.2.2.2.1
 refine wp_seq ?_
 refine at_regq [{ ids := [1] }] { ts := [1, 2], os := [1] } [] gamOK hT h (by kernel_rfl) trivial fun a w h => then_normal (wp_seq ?_)
 rcases Bool.eq_false_or_eq_true ((validD x0)) with h1 | h1
 ·have hvh1 := validD_t h1
  refine at_regq [{}, { hint := some (aB true) }] { ts := [2], os := [] } [Q_impl_IsValidDecoder x0, (AV.p (.c (.v (.bool ((validD x0))))) = AV.p (.c (.v (.bool true)))), Q__impl_Decoder_complete x0] gamOK hT h (by kernel_rfl) ⟨(by exact hf0), hint_bool (h1), (by exact hf0), trivial⟩ fun a w h => then_normal (wp_ret ?_)
  exact at_return ((complD x0), ()) [] h (by kernel_rfl) trivial (congrArg (fun z => (z, ())) (show ((complD x0)) = D_impl_IsComplete x0 from by unfold D_impl_IsComplete; (first | (rw [show validD x0 = false by assumption]; rfl) | (rw [show validD x0 = true by assumption]; rfl) | (simp_all; done))))
 ·refine at_regq [{}, { hint := some (aB false) }] { ts := [2], os := [] } [Q_impl_IsValidDecoder x0, (AV.p (.c (.v (.bool ((validD x0))))) = AV.p (.c (.v (.bool false))))] gamOK hT h (by kernel_rfl) ⟨(by exact hf0), hint_bool (h1), trivial⟩ fun a w h => then_normal (wp_ret ?_)
  exact at_return (false, ()) [] h (by kernel_rfl) trivial (congrArg (fun z => (z, ())) (show (false) = D_impl_IsComplete x0 from by unfold D_impl_IsComplete; (first | (rw [show validD x0 = false by assumption]; rfl) | (rw [show validD x0 = true by assumption]; rfl) | (simp_all; done))))

abbrev Q_impl_DecodedSymbol := (fun (x0 : T30) (x1 : Int) => Sh.fit s30 x0)
def S_impl_DecodedSymbol : Sum := { fid := 8, dom := [s30, (.int 3)], cod := [s33, (.bool 4)], dp := true, fz := false, pre := fun x => Q_impl_DecodedSymbol x.1 x.2.1, g := fun x => ((decF x.1 x.2.1).1, ((decF x.1 x.2.1).2, ())) }
def S_impl_DecodedSymbol_tab : List (Nat × Sum) := [(20, S_impl_IsValidDecoder), (33, S_impl_InRange), (34, S_impl_UnitVector), (35, S_slices_Equal_S_int_int_), (36, S_slices_Clone_S_int_int_)]
theorem S_impl_DecodedSymbol_ok : FnOK Try.prog 8 S_impl_DecodedSymbol := by
 refine at_enter 44 (fun x => ⟨[(0, aG [cI x.1.1, cI x.1.2.1, cI x.1.2.2.1, cI x.1.2.2.2.1, .ro s33 x.1.2.2.2.2]), (1, aI x.2.1)], []⟩) Try.func8 rfl (by kernel_rfl) (fun x => rfl) ?_
 rintro w0 Z0 ⟨x0, x1, u⟩ a w
 revert x0 x1
 intro (x0 : T30) (x1 : Int) hpre hlens h
 replace hpre : Q_impl_DecodedSymbol x0 x1 := hpre
 have hT : TabOK Try.prog S_impl_DecodedSymbol_tab := (.cons S_impl_IsValidDecoder_ok (.cons S_impl_InRange_ok (.cons S_impl_UnitVector_ok (.cons S_slices_Equal_S_int_int__ok (.cons S_slices_Clone_S_int_int__ok .nil)))))
 have hf0 : Sh.fit s30 x0 := hpre
 have hn0_1 : List.length x0.2.2.2.2 ≤ 1073741824 := hf0.2.2.2.2.1
 have hul := unitV_len x0.2.1 x1
 refine wp_seq ?_
 refine at_regq [{ ids := [1] }] { ts := [1, 2, 4, 5], os := [1] } [] gamOK hT h (by kernel_rfl) trivial fun a w h => then_normal (wp_seq (wp_seq ?_))
 rcases Bool.eq_false_or_eq_true (!(validD x0)) with h1 | h1
 ·have hzh1 : (validD x0) = false := notT h1
  refine at_regq [{}, {}, { hint := some (aB true) }] { ts := [1, 2, 4, 5, 19], os := [1] } [Q_impl_IsValidDecoder x0, (AV.p (.c (.v (.bool (!(validD x0))))) = AV.p (.c (.v (.bool true))))] gamOK hT h (by kernel_rfl) ⟨(by exact hf0), hint_bool (h1), trivial⟩ fun a w h => then_normal ?_
  refine at_test true h (by kernel_rfl) (fun hh => ?_) (fun hh => nomatch hh)
  refine wp_seq ?_
  refine at_regq [] { ts := [1, 2, 4, 5], os := [1] } [] gamOK hT h (by kernel_rfl) trivial fun a w h => then_normal (wp_ret (then_ret ?_))
  exact at_return (([] : List Int), (false, ())) [] h (by kernel_rfl) trivial (congrArg (fun z => (z.1, z.2, ())) (show ((([] : List Int), false)) = decF x0 x1 from by first | exact decF_n (by first | (left; assumption) | (right; assumption)) | (rw [← decF_y (by assumption) (by assumption)]; rw [List.take_length]; exact (decR_at (i := i) (by omega) hok0.2 (Sh.of_eqB (by assumption))).symm) | (rw [← decF_y (by assumption) (by assumption)]; exact (decR_none (rows := x0.2.2.2.2) (fun r hr => by obtain ⟨j, hj, rfl⟩ := List.getElem_of_mem hr; have := hok0.2 j (by omega); rwa [getD_of_lt hj] at this)).symm)))
 ·have hzh1 : (validD x0) = true := notF h1
  have hvh1 := validD_t (notF h1)
  refine at_regq [{}, {}, { hint := some (aB false) }, {}, {}, {}, {}, { nw := true }] { ts := [1, 2, 4, 5, 19], os := [1] } [Q_impl_IsValidDecoder x0, (AV.p (.c (.v (.bool (!(validD x0))))) = AV.p (.c (.v (.bool false)))), I64 (x0.2.1 - 1), True] gamOK hT h (by kernel_rfl) ⟨(by exact hf0), hint_bool (h1), ⟨by first | omega | (simp only [lsA]; omega) | (simp <;> omega), by first | omega | (simp only [lsA]; omega) | (simp <;> omega)⟩, trivial, trivial⟩ fun a w h => then_normal ?_
  refine at_test (!(inR x1 0 (x0.2.1 - 1))) h (by kernel_rfl) (fun h2 => ?_) (fun h2 => ?_)
  ·replace h2 : (inR x1 0 (x0.2.1 - 1)) = false := notT h2
   have hvh2 := inR_f h2
   refine wp_seq ?_
   refine at_regq [] { ts := [1, 2, 4, 5], os := [1] } [] gamOK hT h (by kernel_rfl) trivial fun a w h => then_normal (wp_ret (then_ret ?_))
   exact at_return (([] : List Int), (false, ())) [] h (by kernel_rfl) trivial (congrArg (fun z => (z.1, z.2, ())) (show ((([] : List Int), false)) = decF x0 x1 from by first | exact decF_n (by first | (left; assumption) | (right; assumption)) | (rw [← decF_y (by assumption) (by assumption)]; rw [List.take_length]; exact (decR_at (i := i) (by omega) hok0.2 (Sh.of_eqB (by assumption))).symm) | (rw [← decF_y (by assumption) (by assumption)]; exact (decR_none (rows := x0.2.2.2.2) (fun r hr => by obtain ⟨j, hj, rfl⟩ := List.getElem_of_mem hr; have := hok0.2 j (by omega); rwa [getD_of_lt hj] at this)).symm)))
  ·replace h2 : (inR x1 0 (x0.2.1 - 1)) = true := notF h2
   have hvh2 := inR_t h2
   refine wp_skip (then_normal (wp_seq ?_))
   refine at_regq [{}, {}, {}, { ids := [2] }] { ts := [2, 4, 5, 6], os := [1, 2] } [True] gamOK hT h (by kernel_rfl) ⟨trivial, trivial⟩ fun a w h => then_normal (wp_seq (wp_seq ?_))
   refine at_regq [] { ts := [2, 4, 5, 6, 26, 27, 28], os := [1, 2] } [] gamOK hT h (by kernel_rfl) trivial fun a w h => then_normal (wp_block ?_)
   replace h := at_out (σ' := ⟨[(2, aP 1 0), (4, .p (.c (cN))), (5, aB false), (6, aS 2), (26, aF s33 x0.2.2.2.2), (27, aI ((List.length x0.2.2.2.2 : Nat) : Int)), (28, aI 0)], [(1, oX 30 [cI x0.1, cI x0.2.1, cI x0.2.2.1, cI x0.2.2.2.1, .ro s33 x0.2.2.2.2]), (2, oR (.int 3) (unitV x0.2.1 x1))]⟩) { ts := [2, 4, 5, 6, 26, 27, 28], os := [1, 2] } h (by kernel_rfl)
   refine at_loop (fun i : Nat => (⟨[(2, aP 1 0), (4, .p (.c (cN))), (5, aB false), (6, aS 2), (26, aF s33 x0.2.2.2.2), (27, aI ((List.length x0.2.2.2.2 : Nat) : Int)), (28, aI ((i : Nat) : Int))], [(1, oX 30 [cI x0.1, cI x0.2.1, cI x0.2.2.1, cI x0.2.2.2.1, .ro s33 x0.2.2.2.2]), (2, oR (.int 3) (unitV x0.2.1 x1))]⟩ : St)) (fun i => (i ≤ List.length x0.2.2.2.2 ∧ (∀ j, j < i → List.take x0.2.1.toNat (x0.2.2.2.2.getD j []) ≠ (unitV x0.2.1 x1)))) (fun i => List.length x0.2.2.2.2 - i) (0) h (st_congr1 (fun (d0 : Int) => (⟨[(2, aP 1 0), (4, .p (.c (cN))), (5, aB false), (6, aS 2), (26, aF s33 x0.2.2.2.2), (27, aI ((List.length x0.2.2.2.2 : Nat) : Int)), (28, aI d0)], [(1, oX 30 [cI x0.1, cI x0.2.1, cI x0.2.2.1, cI x0.2.2.2.1, .ro s33 x0.2.2.2.2]), (2, oR (.int 3) (unitV x0.2.1 x1))]⟩ : St)) (show (0 : Int) = (((0) : Nat) : Int) from by first | with_reducible rfl | (rfl) | rfl)) (by exact ⟨Nat.zero_le _, fun j hj => by omega⟩) ?_
   intro i a w hok0 h
   refine wp_seq ?_
   refine at_regq [] { ts := [2, 4, 5, 6, 26, 27, 28, 29], os := [1, 2] } [] gamOK hT h (by kernel_rfl) trivial fun a w h => then_normal (wp_seq ?_)
   refine at_test (decide (((i : Nat) : Int) < ((List.length x0.2.2.2.2 : Nat) : Int))) h (by kernel_rfl) (fun h3 => ?_) (fun h3 => ?_)
   ·replace h3 : ((i : Nat) : Int) < ((List.length x0.2.2.2.2 : Nat) : Int) := of_decide_eq_true h3
    have hvd := validD_t (d := x0) (by assumption)
    have hrr := hvd.2.1.2.at_ (show i < List.length x0.2.2.2.2 by omega)
    have hrl := hrr.1.1
    have hv1 := hvd.1
    have hv2 := hvd.2.2.1
    refine wp_skip (then_normal (wp_seq (wp_block (wp_seq ?_))))
    refine at_regq [] { ts := [2, 4, 5, 6, 8, 26, 27, 28], os := [1, 2] } [(0 : Int) ≤ ((i : Nat) : Int) ∧ ((i : Nat) : Int) < ((List.length x0.2.2.2.2 : Nat) : Int)] gamOK hT h (by kernel_rfl) ⟨(by refine ⟨?_, ?_⟩ <;> (first | omega | (simp only [lsA]; omega) | (simp <;> omega))), trivial⟩ fun a w h => then_normal (wp_seq ?_)
    refine at_regq [] { ts := [2, 4, 5, 6, 8, 26, 27, 28, 37], os := [1, 2] } [(0 : Int) ≤ 0 ∧ 0 ≤ x0.2.1 ∧ x0.2.1 ≤ ((List.length (x0.2.2.2.2.getD i []) : Nat) : Int), True] gamOK hT h (by kernel_rfl) ⟨(by refine ⟨?_, ?_, ?_⟩ <;> ((have hL0 := (show List.length (x0.2.2.2.2.getD i []) ≤ 1073741824 from ((Sh.fit_getD hf0.2.2.2.2 i)).1); first | omega | (simp only [lsA]; omega) | (simp <;> omega)))), trivial, trivial⟩ fun a w h => then_normal ?_
    refine at_test (((Sh.eqB s33) (List.drop 0 (List.take ((x0.2.1).toNat) (x0.2.2.2.2.getD i []))) (unitV x0.2.1 x1))) h (by kernel_rfl) (fun h4 => ?_) (fun h4 => ?_)
    ·refine wp_seq ?_
     refine at_regq [{}, {}, {}, {}, { ids := [3] }] { ts := [2, 4, 5, 6, 26, 27, 28], os := [1, 2, 3] } [(0 : Int) ≤ x0.2.1 ∧ x0.2.1 ≤ ((List.length (x0.2.2.2.2.getD i []) : Nat) : Int) ∧ ((List.length (x0.2.2.2.2.getD i []) : Nat) : Int) ≤ ((List.length (x0.2.2.2.2.getD i []) : Nat) : Int), (lenOK (α := Int)) (List.drop ((x0.2.1).toNat) (List.take (List.length (x0.2.2.2.2.getD i [])) (x0.2.2.2.2.getD i [])))] gamOK hT h (by kernel_rfl) ⟨(by refine ⟨?_, ?_, ?_⟩ <;> ((have hL0 := (show List.length (x0.2.2.2.2.getD i []) ≤ 1073741824 from ((Sh.fit_getD hf0.2.2.2.2 i)).1); first | omega | (simp only [lsA]; omega) | (simp <;> omega)))), (by (show List.length _ ≤ _; rw [List.length_drop, List.length_take]; omega)), trivial⟩ fun a w h => then_normal (wp_ret (in_ret (then_ret (then_ret (in_ret (then_ret ?_))))))
     exact at_return ((List.drop ((x0.2.1).toNat) (List.take (List.length (x0.2.2.2.2.getD i [])) (x0.2.2.2.2.getD i []))), (true, ())) [] h (by kernel_rfl) trivial (congrArg (fun z => (z.1, z.2, ())) (show (((List.drop ((x0.2.1).toNat) (List.take (List.length (x0.2.2.2.2.getD i [])) (x0.2.2.2.2.getD i []))), true)) = decF x0 x1 from by first | exact decF_n (by first | (left; assumption) | (right; assumption)) | (rw [← decF_y (by assumption) (by assumption)]; rw [List.take_length]; exact (decR_at (i := i) (by omega) hok0.2 (Sh.of_eqB (by assumption))).symm) | (rw [← decF_y (by assumption) (by assumption)]; exact (decR_none (rows := x0.2.2.2.2) (fun r hr => by obtain ⟨j, hj, rfl⟩ := List.getElem_of_mem hr; have := hok0.2 j (by omega); rwa [getD_of_lt hj] at this)).symm)))
    ·refine wp_skip (in_normal (then_normal ?_))
     refine at_regq [{ nw := true }] { ts := [2, 4, 5, 6, 26, 27, 28], os := [1, 2] } [I64 (((i : Nat) : Int) + 1)] gamOK hT h (by kernel_rfl) ⟨⟨by first | omega | (simp only [lsA]; omega) | (simp <;> omega), by first | omega | (simp only [lsA]; omega) | (simp <;> omega)⟩, trivial⟩ fun a w h => ?_
     replace h := at_out (σ' := ⟨[(2, aP 1 0), (4, .p (.c (cN))), (5, aB false), (6, aS 2), (26, aF s33 x0.2.2.2.2), (27, aI ((List.length x0.2.2.2.2 : Nat) : Int)), (28, aI (((i : Nat) : Int) + 1))], [(1, oX 30 [cI x0.1, cI x0.2.1, cI x0.2.2.1, cI x0.2.2.2.1, .ro s33 x0.2.2.2.2]), (2, oR (.int 3) (unitV x0.2.1 x1))]⟩) { ts := [2, 4, 5, 6, 26, 27, 28], os := [1, 2] } h (by kernel_rfl)
     exact ⟨i + 1, at_eq h (st_congr1 (fun (d0 : Int) => (⟨[(2, aP 1 0), (4, .p (.c (cN))), (5, aB false), (6, aS 2), (26, aF s33 x0.2.2.2.2), (27, aI ((List.length x0.2.2.2.2 : Nat) : Int)), (28, aI d0)], [(1, oX 30 [cI x0.1, cI x0.2.1, cI x0.2.2.1, cI x0.2.2.2.1, .ro s33 x0.2.2.2.2]), (2, oR (.int 3) (unitV x0.2.1 x1))]⟩ : St)) (show (((i : Nat) : Int) + 1 : Int) = (((i + 1) : Nat) : Int) from by first | with_reducible rfl | (omega) | rfl)), (by exact ⟨by omega, fun j hj => by rcases Nat.lt_or_ge j i with hji | hji; exact hok0.2 j hji; have hje : j = i := (by omega); subst hje; exact (fun e => by simp_all [Sh.eqB_self])⟩), (by omega)⟩
   ·replace h3 : ¬ (((i : Nat) : Int) < ((List.length x0.2.2.2.2 : Nat) : Int)) := of_decide_eq_false h3
    refine wp_exit (then_exit (then_exit (in_hit (then_normal (wp_seq ?_)))))
    refine at_regq [] { ts := [4, 5], os := [] } [] gamOK hT h (by kernel_rfl) trivial fun a w h => then_normal (wp_ret ?_)
    exact at_return (([] : List Int), (false, ())) [] h (by kernel_rfl) trivial (congrArg (fun z => (z.1, z.2, ())) (show ((([] : List Int), false)) = decF x0 x1 from by first | exact decF_n (by first | (left; assumption) | (right; assumption)) | (rw [← decF_y (by assumption) (by assumption)]; rw [List.take_length]; exact (decR_at (i := i) (by omega) hok0.2 (Sh.of_eqB (by assumption))).symm) | (rw [← decF_y (by assumption) (by assumption)]; exact (decR_none (rows := x0.2.2.2.2) (fun r hr => by obtain ⟨j, hj, rfl⟩ := List.getElem_of_mem hr; have := hok0.2 j (by omega); rwa [getD_of_lt hj] at this)).symm)))

abbrev Q_impl_CountDecoded := (fun (x0 : T30) => Sh.fit s30 x0)
def S_impl_CountDecoded : Sum := { fid := 13, dom := [s30], cod := [(.int 3)], dp := true, fz := false, pre := fun x => Q_impl_CountDecoded x.1, g := fun x => ((cntD x.1), ()) }
def S_impl_CountDecoded_tab : List (Nat × Sum) := [(8, S_impl_DecodedSymbol)]
theorem S_impl_CountDecoded_ok : FnOK Try.prog 13 S_impl_CountDecoded := by
 refine at_enter 24 (fun x => ⟨[(0, aG [cI x.1.1, cI x.1.2.1, cI x.1.2.2.1, cI x.1.2.2.2.1, .ro s33 x.1.2.2.2.2])], []⟩) Try.func13 rfl (by kernel_rfl) (fun x => rfl) ?_
 rintro w0 Z0 ⟨x0, u⟩ a w
 revert x0
 intro (x0 : T30) hpre hlens h
 replace hpre : Q_impl_CountDecoded x0 := hpre
 have hT : TabOK Try.prog S_impl_CountDecoded_tab := (.cons S_impl_DecodedSymbol_ok .nil)
 have hf0 : Sh.fit s30 x0 := hpre
 have hn0_1 : List.length x0.2.2.2.2 ≤ 1073741824 := hf0.2.2.2.2.1
 refine wp_seq ?_
 refine at_regq [{ ids := [1] }] { ts := [1, 2], os := [1] } [] gamOK hT h (by kernel_rfl) trivial fun a w h => then_normal (wp_seq ?_)
 refine at_regq [] { ts := [1, 2, 3], os := [1] } [] gamOK hT h (by kernel_rfl) trivial fun a w h => then_normal (wp_seq (wp_seq ?_))
 refine at_regq [] { ts := [1, 2, 3, 9, 10], os := [1] } [] gamOK hT h (by kernel_rfl) trivial fun a w h => then_normal (wp_block ?_)
 replace h := at_out (σ' := ⟨[(1, aP 1 0), (2, aI 0), (3, aI 0), (9, aI (if 8 < x0.2.1 then 8 else x0.2.1)), (10, aI 0)], [(1, oX 30 [cI x0.1, cI x0.2.1, cI x0.2.2.1, cI x0.2.2.2.1, .ro s33 x0.2.2.2.2])]⟩) { ts := [1, 2, 3, 9, 10], os := [1] } h (by kernel_rfl)
 refine at_loop (fun i : Nat => (⟨[(1, aP 1 0), (2, aI 0), (3, aI ((List.length (List.filter (fun (k : Nat) => (decF x0 (k : Int)).2) (List.range i)) : Nat) : Int)), (9, aI (if 8 < x0.2.1 then 8 else x0.2.1)), (10, aI ((i : Nat) : Int))], [(1, oX 30 [cI x0.1, cI x0.2.1, cI x0.2.2.1, cI x0.2.2.2.1, .ro s33 x0.2.2.2.2])]⟩ : St)) (fun i => i ≤ (min x0.2.1 8).toNat) (fun i => (min x0.2.1 8).toNat - i) (0) h (st_congr2 (fun (d0 : Int) (d1 : Int) => (⟨[(1, aP 1 0), (2, aI 0), (3, aI d0), (9, aI (if 8 < x0.2.1 then 8 else x0.2.1)), (10, aI d1)], [(1, oX 30 [cI x0.1, cI x0.2.1, cI x0.2.2.1, cI x0.2.2.2.1, .ro s33 x0.2.2.2.2])]⟩ : St)) (show (0 : Int) = ((List.length (List.filter (fun (k : Nat) => (decF x0 (k : Int)).2) (List.range (0))) : Nat) : Int) from by first | with_reducible rfl | (first | rfl | simp) | rfl) (show (0 : Int) = (((0) : Nat) : Int) from by first | with_reducible rfl | (first | rfl | simp) | rfl)) (by omega) ?_
 intro i a w hok0 h
 have hcr := cnt_range (fun (k : Nat) => (decF x0 (k : Int)).2) i
 refine wp_seq ?_
 refine at_regq [] { ts := [1, 2, 3, 9, 10, 11], os := [1] } [] gamOK hT h (by kernel_rfl) trivial fun a w h => then_normal (wp_seq ?_)
 refine at_test (decide (((i : Nat) : Int) < if 8 < x0.2.1 then 8 else x0.2.1)) h (by kernel_rfl) (fun h1 => ?_) (fun h1 => ?_)
 ·replace h1 : ((i : Nat) : Int) < if 8 < x0.2.1 then 8 else x0.2.1 := of_decide_eq_true h1
  refine wp_skip (then_normal (wp_seq (wp_block (wp_seq ?_))))
  refine at_regq [] { ts := [1, 2, 3, 4, 9, 10], os := [1] } [] gamOK hT h (by kernel_rfl) trivial fun a w h => then_normal (wp_seq ?_)
  refine at_regq [{}, {}, { ids := [2] }] { ts := [1, 2, 3, 6, 9, 10], os := [1] } [Q_impl_DecodedSymbol x0 ((i : Nat) : Int)] gamOK hT h (by kernel_rfl) ⟨(by exact hf0), trivial⟩ fun a w h => then_normal (wp_seq ?_)
  refine at_regq [] { ts := [1, 2, 3, 9, 10, 19], os := [1] } [] gamOK hT h (by kernel_rfl) trivial fun a w h => then_normal ?_
  refine at_test ((decF x0 ((i : Nat) : Int)).2) h (by kernel_rfl) (fun h2 => ?_) (fun h2 => ?_)
  ·refine at_regq [{}, { nw := true }] { ts := [1, 2, 3, 9, 10], os := [1] } [I64 (((List.length (List.filter (fun (k : Nat) => (decF x0 (k : Int)).2) (List.range i)) : Nat) : Int) + 1)] gamOK hT h (by kernel_rfl) ⟨⟨by first | omega | (simp only [lsA]; omega) | (simp <;> omega), by first | omega | (simp only [lsA]; omega) | (simp <;> omega)⟩, trivial⟩ fun a w h => in_normal (then_normal ?_)
   refine at_regq [{ nw := true }] { ts := [1, 2, 3, 9, 10], os := [1] } [I64 (((i : Nat) : Int) + 1)] gamOK hT h (by kernel_rfl) ⟨⟨by first | omega | (simp only [lsA]; omega) | (simp <;> omega), by first | omega | (simp only [lsA]; omega) | (simp <;> omega)⟩, trivial⟩ fun a w h => ?_
   replace h := at_out (σ' := ⟨[(1, aP 1 0), (2, aI 0), (3, aI (((List.length (List.filter (fun (k : Nat) => (decF x0 (k : Int)).2) (List.range i)) : Nat) : Int) + 1)), (9, aI (if 8 < x0.2.1 then 8 else x0.2.1)), (10, aI (((i : Nat) : Int) + 1))], [(1, oX 30 [cI x0.1, cI x0.2.1, cI x0.2.2.1, cI x0.2.2.2.1, .ro s33 x0.2.2.2.2])]⟩) { ts := [1, 2, 3, 9, 10], os := [1] } h (by kernel_rfl)
   exact ⟨i + 1, at_eq h (st_congr2 (fun (d0 : Int) (d1 : Int) => (⟨[(1, aP 1 0), (2, aI 0), (3, aI d0), (9, aI (if 8 < x0.2.1 then 8 else x0.2.1)), (10, aI d1)], [(1, oX 30 [cI x0.1, cI x0.2.1, cI x0.2.2.1, cI x0.2.2.2.1, .ro s33 x0.2.2.2.2])]⟩ : St)) (show (((List.length (List.filter (fun (k : Nat) => (decF x0 (k : Int)).2) (List.range i)) : Nat) : Int) + 1 : Int) = ((List.length (List.filter (fun (k : Nat) => (decF x0 (k : Int)).2) (List.range (i + 1))) : Nat) : Int) from by first | with_reducible rfl | (first | (rw [cnt_y (i := i) (by assumption)]; omega) | (rw [cnt_n (i := i) (by assumption)]; done)) | rfl) (show (((i : Nat) : Int) + 1 : Int) = (((i + 1) : Nat) : Int) from by first | with_reducible rfl | (omega) | rfl)), (by omega), (by omega)⟩
  ·refine wp_skip (in_normal (then_normal ?_))
   refine at_regq [{ nw := true }] { ts := [1, 2, 3, 9, 10], os := [1] } [I64 (((i : Nat) : Int) + 1)] gamOK hT h (by kernel_rfl) ⟨⟨by first | omega | (simp only [lsA]; omega) | (simp <;> omega), by first | omega | (simp only [lsA]; omega) | (simp <;> omega)⟩, trivial⟩ fun a w h => ?_
   replace h := at_out (σ' := ⟨[(1, aP 1 0), (2, aI 0), (3, aI ((List.length (List.filter (fun (k : Nat) => (decF x0 (k : Int)).2) (List.range i)) : Nat) : Int)), (9, aI (if 8 < x0.2.1 then 8 else x0.2.1)), (10, aI (((i : Nat) : Int) + 1))], [(1, oX 30 [cI x0.1, cI x0.2.1, cI x0.2.2.1, cI x0.2.2.2.1, .ro s33 x0.2.2.2.2])]⟩) { ts := [1, 2, 3, 9, 10], os := [1] } h (by kernel_rfl)
   exact ⟨i + 1, at_eq h (st_congr2 (fun (d0 : Int) (d1 : Int) => (⟨[(1, aP 1 0), (2, aI 0), (3, aI d0), (9, aI (if 8 < x0.2.1 then 8 else x0.2.1)), (10, aI d1)], [(1, oX 30 [cI x0.1, cI x0.2.1, cI x0.2.2.1, cI x0.2.2.2.1, .ro s33 x0.2.2.2.2])]⟩ : St)) (show (((List.length (List.filter (fun (k : Nat) => (decF x0 (k : Int)).2) (List.range i)) : Nat) : Int) : Int) = ((List.length (List.filter (fun (k : Nat) => (decF x0 (k : Int)).2) (List.range (i + 1))) : Nat) : Int) from by first | with_reducible rfl | (first | (rw [cnt_y (i := i) (by assumption)]; omega) | (rw [cnt_n (i := i) (by assumption)]; done)) | rfl) (show (((i : Nat) : Int) + 1 : Int) = (((i + 1) : Nat) : Int) from by first | with_reducible rfl | (omega) | rfl)), (by omega), (by omega)⟩
 ·replace h1 : ¬ (((i : Nat) : Int) < if 8 < x0.2.1 then 8 else x0.2.1) := of_decide_eq_false h1
  refine wp_exit (then_exit ?_)
  replace h := at_out (σ' := ⟨[(2, aI 0), (3, aI ((List.length (List.filter (fun (k : Nat) => (decF x0 (k : Int)).2) (List.range i)) : Nat) : Int))], []⟩) { ts := [2, 3], os := [] } h (by kernel_rfl)
  replace h := at_eq (σ' := ⟨[(2, aI 0), (3, aI (cntD x0))], []⟩) h (st_congr1 (fun (d0 : Int) => (⟨[(2, aI 0), (3, aI d0)], []⟩ : St)) (show (((List.length (List.filter (fun (k : Nat) => (decF x0 (k : Int)).2) (List.range i)) : Nat) : Int) : Int) = (cntD x0) from by first | with_reducible rfl | (unfold cntD; rw [show (min x0.2.1 8).toNat = i by omega]) | rfl))
  refine then_exit (in_hit (then_normal (wp_seq ?_)))
  refine at_regq [] { ts := [2], os := [] } [] gamOK hT h (by kernel_rfl) trivial fun a w h => then_normal (wp_ret ?_)
  exact at_return ((cntD x0), ()) [] h (by kernel_rfl) trivial (congrArg (fun z => (z, ())) (show ((cntD x0)) = cntD x0 from by first | rfl | (unfold cntD; rw [show (min x0.2.1 8).toNat = i by omega])))

abbrev Q__impl_Decoder_recover := (fun (x0 : T30) => Sh.fit s30 x0 ∧ (((0 ≤ x0.1 ∧ x0.1 ≤ 1000000000000) ∧ (1 ≤ x0.2.1 ∧ x0.2.1 ≤ 8) ∧ (1 ≤ x0.2.2.1 ∧ x0.2.2.1 ≤ 16)) ∧ basP x0.2.2.2 ∧ x0.2.2.2.1 = x0.2.1 + x0.2.2.1))
def S__impl_Decoder_recover : Sum := { fid := 41, dom := [s30], cod := [s26], dp := true, fz := false, pre := fun x => Q__impl_Decoder_recover x.1, g := fun x => ((recD' x.1), ()) }
def S__impl_Decoder_recover_tab : List (Nat × Sum) := [(36, S_slices_Clone_S_int_int_)]
theorem S__impl_Decoder_recover_ok : FnOK Try.prog 41 S__impl_Decoder_recover := by
 refine at_enter 29 (fun x => ⟨[(0, aG [cI x.1.1, cI x.1.2.1, cI x.1.2.2.1, cI x.1.2.2.2.1, .ro s33 x.1.2.2.2.2])], []⟩) Try.func41 rfl (by kernel_rfl) (fun x => rfl) ?_
 rintro w0 Z0 ⟨x0, u⟩ a w
 revert x0
 intro (x0 : T30) hpre hlens h
 replace hpre : Q__impl_Decoder_recover x0 := hpre
 have hT : TabOK Try.prog S__impl_Decoder_recover_tab := (.cons S_slices_Clone_S_int_int__ok .nil)
 obtain ⟨hf0, hpx⟩ := hpre
 have hn0_1 : List.length x0.2.2.2.2 ≤ 1073741824 := hf0.2.2.2.2.1
 refine wp_seq ?_
 refine at_regq [{ ids := [1] }, { ids := [2] }] { ts := [1, 2], os := [1, 2] } [] gamOK hT h (by kernel_rfl) trivial fun a w h => then_normal (wp_seq ?_)
 refine at_regq [{}, {}, {}, { ids := [3] }] { ts := [1, 2, 3], os := [1, 2, 3] } [] gamOK hT h (by kernel_rfl) trivial fun a w h => then_normal (wp_seq (wp_seq ?_))
 refine at_regq [] { ts := [1, 2, 3, 11, 12, 13], os := [1, 2, 3] } [] gamOK hT h (by kernel_rfl) trivial fun a w h => then_normal (wp_block ?_)
 replace h := at_out (σ' := ⟨[(1, aP 1 0), (2, aP 2 0), (3, aP 3 0), (11, aF s33 x0.2.2.2.2), (12, aI ((List.length x0.2.2.2.2 : Nat) : Int)), (13, aI 0)], [(1, oX 30 [cI x0.1, cI x0.2.1, cI x0.2.2.1, cI x0.2.2.2.1, .ro s33 x0.2.2.2.2]), (2, oX 26 [cI 0, cN]), (3, oX 26 [cI x0.1, .sl 4]), (4, oR s33 ([] : List (List Int)))]⟩) { mt := [⟨some 3, 1, 4, true, s33⟩], ts := [1, 2, 3, 11, 12, 13], os := [1, 2, 3, 4] } h (by kernel_rfl)
 refine at_loop (fun i : Nat => (⟨[(1, aP 1 0), (2, aP 2 0), (3, aP 3 0), (11, aF s33 x0.2.2.2.2), (12, aI ((List.length x0.2.2.2.2 : Nat) : Int)), (13, aI ((i : Nat) : Int))], [(1, oX 30 [cI x0.1, cI x0.2.1, cI x0.2.2.1, cI x0.2.2.2.1, .ro s33 x0.2.2.2.2]), (2, oX 26 [cI 0, cN]), (3, oX 26 [cI x0.1, .sl 4]), (4, oR s33 (List.map (fun r => List.drop x0.2.1.toNat r) (List.take i x0.2.2.2.2)))]⟩ : St)) (fun i => i ≤ List.length x0.2.2.2.2) (fun i => List.length x0.2.2.2.2 - i) (0) h (st_congr2 (fun (d0 : List (List Int)) (d1 : Int) => (⟨[(1, aP 1 0), (2, aP 2 0), (3, aP 3 0), (11, aF s33 x0.2.2.2.2), (12, aI ((List.length x0.2.2.2.2 : Nat) : Int)), (13, aI d1)], [(1, oX 30 [cI x0.1, cI x0.2.1, cI x0.2.2.1, cI x0.2.2.2.1, .ro s33 x0.2.2.2.2]), (2, oX 26 [cI 0, cN]), (3, oX 26 [cI x0.1, .sl 4]), (4, oR s33 d0)]⟩ : St)) (show (([] : List (List Int)) : List (List Int)) = (List.map (fun r => List.drop x0.2.1.toNat r) (List.take (0) x0.2.2.2.2)) from by first | with_reducible rfl | (first | rfl | simp) | rfl) (show (0 : Int) = (((0) : Nat) : Int) from by first | with_reducible rfl | (first | rfl | simp) | rfl)) (by omega) ?_
 intro i a w hok0 h
 have hlt0 := len_take_le (xs := x0.2.2.2.2) i
 refine wp_seq ?_
 refine at_regq [] { ts := [1, 2, 3, 11, 12, 13, 14], os := [1, 2, 3, 4] } [] gamOK hT h (by kernel_rfl) trivial fun a w h => then_normal (wp_seq ?_)
 refine at_test (decide (((i : Nat) : Int) < ((List.length x0.2.2.2.2 : Nat) : Int))) h (by kernel_rfl) (fun h1 => ?_) (fun h1 => ?_)
 ·replace h1 : ((i : Nat) : Int) < ((List.length x0.2.2.2.2 : Nat) : Int) := of_decide_eq_true h1
  have hrr := hpx.2.1.2.at_ (show i < List.length x0.2.2.2.2 by omega)
  have hrl := hrr.1.1
  have hv1 := hpx.1
  have hv2 := hpx.2.2
  have hv3 := hpx.2.1.1
  refine wp_skip (then_normal (wp_seq (wp_block (wp_seq ?_))))
  refine at_regq [] { ts := [1, 2, 3, 5, 11, 12, 13], os := [1, 2, 3, 4] } [(0 : Int) ≤ ((i : Nat) : Int) ∧ ((i : Nat) : Int) < ((List.length x0.2.2.2.2 : Nat) : Int)] gamOK hT h (by kernel_rfl) ⟨(by refine ⟨?_, ?_⟩ <;> (first | omega | (simp only [lsA]; omega) | (simp <;> omega))), trivial⟩ fun a w h => then_normal ?_
  refine at_anyq [{}, {}, {}, {}, {}, {}, { ids := [5] }, { ids := [6] }, { ids := [7] }, {}, {}] { ts := [1, 2, 3, 11, 12, 13], os := [1, 2, 3, 7] } [(0 : Int) ≤ x0.2.1 ∧ x0.2.1 ≤ ((List.length (x0.2.2.2.2.getD i []) : Nat) : Int) ∧ ((List.length (x0.2.2.2.2.getD i []) : Nat) : Int) ≤ ((List.length (x0.2.2.2.2.getD i []) : Nat) : Int), (lenOK (α := Int)) (List.drop ((x0.2.1).toNat) (List.take (List.length (x0.2.2.2.2.getD i [])) (x0.2.2.2.2.getD i []))), (List.length (List.map (fun r => List.drop x0.2.1.toNat r) (List.take i x0.2.2.2.2)) + List.length ([(List.drop ((x0.2.1).toNat) (List.take (List.length (x0.2.2.2.2.getD i [])) (x0.2.2.2.2.getD i [])))])) * 24 ≤ 140737488355328] gamOK hT mixed h (by kernel_rfl) ⟨(by refine ⟨?_, ?_, ?_⟩ <;> ((have hL0 := (show List.length (x0.2.2.2.2.getD i []) ≤ 1073741824 from ((Sh.fit_getD hf0.2.2.2.2 i)).1); first | omega | (simp only [lsA]; omega) | (simp <;> omega)))), (by (show List.length _ ≤ _; rw [List.length_drop, List.length_take]; omega)), (by (have hL0 := (show List.length (x0.2.2.2.2.getD i []) ≤ 1073741824 from ((Sh.fit_getD hf0.2.2.2.2 i)).1); first | omega | (simp only [lsA]; omega) | (simp <;> omega))), trivial⟩ fun a w h => in_normal (then_normal ?_)
  refine at_regq [{ nw := true }] { ts := [1, 2, 3, 11, 12, 13], os := [1, 2, 3, 7] } [I64 (((i : Nat) : Int) + 1)] gamOK hT h (by kernel_rfl) ⟨⟨by first | omega | (simp only [lsA]; omega) | (simp <;> omega), by first | omega | (simp only [lsA]; omega) | (simp <;> omega)⟩, trivial⟩ fun a w h => ?_
  replace h := at_out (σ' := ⟨[(1, aP 1 0), (2, aP 2 0), (3, aP 3 0), (11, aF s33 x0.2.2.2.2), (12, aI ((List.length x0.2.2.2.2 : Nat) : Int)), (13, aI (((i : Nat) : Int) + 1))], [(1, oX 30 [cI x0.1, cI x0.2.1, cI x0.2.2.1, cI x0.2.2.2.1, .ro s33 x0.2.2.2.2]), (2, oX 26 [cI 0, cN]), (3, oX 26 [cI x0.1, .sl 4]), (4, oR s33 ((List.map (fun r => List.drop x0.2.1.toNat r) (List.take i x0.2.2.2.2)) ++ ([(List.drop ((x0.2.1).toNat) (List.take (List.length (x0.2.2.2.2.getD i [])) (x0.2.2.2.2.getD i [])))])))]⟩) { ts := [1, 2, 3, 11, 12, 13], os := [1, 2, 3, 7], rn := [(7, 4)] } h (by kernel_rfl)
  exact ⟨i + 1, at_eq h (st_congr2 (fun (d0 : List (List Int)) (d1 : Int) => (⟨[(1, aP 1 0), (2, aP 2 0), (3, aP 3 0), (11, aF s33 x0.2.2.2.2), (12, aI ((List.length x0.2.2.2.2 : Nat) : Int)), (13, aI d1)], [(1, oX 30 [cI x0.1, cI x0.2.1, cI x0.2.2.1, cI x0.2.2.2.1, .ro s33 x0.2.2.2.2]), (2, oX 26 [cI 0, cN]), (3, oX 26 [cI x0.1, .sl 4]), (4, oR s33 d0)]⟩ : St)) (show (((List.map (fun r => List.drop x0.2.1.toNat r) (List.take i x0.2.2.2.2)) ++ ([(List.drop ((x0.2.1).toNat) (List.take (List.length (x0.2.2.2.2.getD i [])) (x0.2.2.2.2.getD i [])))])) : List (List Int)) = (List.map (fun r => List.drop x0.2.1.toNat r) (List.take (i + 1) x0.2.2.2.2)) from by first | with_reducible rfl | (rw [List.take_length, map_snoc (z := []) (by omega)]; done) | rfl) (show (((i : Nat) : Int) + 1 : Int) = (((i + 1) : Nat) : Int) from by first | with_reducible rfl | (omega) | rfl)), (by omega), (by omega)⟩
 ·replace h1 : ¬ (((i : Nat) : Int) < ((List.length x0.2.2.2.2 : Nat) : Int)) := of_decide_eq_false h1
  refine wp_exit (then_exit ?_)
  replace h := at_out (σ' := ⟨[(2, aP 2 0), (3, aP 3 0)], [(2, oX 26 [cI 0, cN]), (3, oX 26 [cI x0.1, .sl 4]), (4, oR s33 (List.map (fun r => List.drop x0.2.1.toNat r) (List.take i x0.2.2.2.2)))]⟩) { ts := [2, 3], os := [2, 3, 4] } h (by kernel_rfl)
  replace h := at_eq (σ' := ⟨[(2, aP 2 0), (3, aP 3 0)], [(2, oX 26 [cI 0, cN]), (3, oX 26 [cI x0.1, .sl 4]), (4, oR s33 (List.map (fun r => List.drop x0.2.1.toNat r) x0.2.2.2.2))]⟩) h (st_congr1 (fun (d0 : List (List Int)) => (⟨[(2, aP 2 0), (3, aP 3 0)], [(2, oX 26 [cI 0, cN]), (3, oX 26 [cI x0.1, .sl 4]), (4, oR s33 d0)]⟩ : St)) (show ((List.map (fun r => List.drop x0.2.1.toNat r) (List.take i x0.2.2.2.2)) : List (List Int)) = (List.map (fun r => List.drop x0.2.1.toNat r) x0.2.2.2.2) from by first | with_reducible rfl | (rw [take_all (by omega)]) | rfl))
  refine then_exit (in_hit (then_normal (wp_seq ?_)))
  refine at_regq [] { ts := [2], os := [2, 4] } [] gamOK hT h (by kernel_rfl) trivial fun a w h => then_normal (wp_ret ?_)
  exact at_return ((x0.1, (List.map (fun r => List.drop x0.2.1.toNat r) x0.2.2.2.2)), ()) [] h (by kernel_rfl) trivial (congrArg (fun z => (z, ())) (show ((x0.1, (List.map (fun r => List.drop x0.2.1.toNat r) x0.2.2.2.2))) = recD' x0 from by rfl))

abbrev Q_impl_RecoverGeneration := (fun (x0 : T30) => Sh.fit s30 x0)
def S_impl_RecoverGeneration : Sum := { fid := 12, dom := [s30], cod := [s26, (.bool 4)], dp := true, fz := false, pre := fun x => Q_impl_RecoverGeneration x.1, g := fun x => ((recG x.1).1, ((recG x.1).2, ())) }
def S_impl_RecoverGeneration_tab : List (Nat × Sum) := [(15, S_impl_IsComplete), (41, S__impl_Decoder_recover)]
theorem S_impl_RecoverGeneration_ok : FnOK Try.prog 12 S_impl_RecoverGeneration := by
 refine at_enter 10 (fun x => ⟨[(0, aG [cI x.1.1, cI x.1.2.1, cI x.1.2.2.1, cI x.1.2.2.2.1, .ro s33 x.1.2.2.2.2])], []⟩) Try.func12 rfl (by kernel_rfl) (fun x => rfl) ?_
 rintro w0 Z0 ⟨x0, u⟩ a w
 revert x0
 intro (x0 : T30) hpre hlens h
 replace hpre : Q_impl_RecoverGeneration x0 := hpre
 have hT : TabOK Try.prog S_impl_RecoverGeneration_tab := (.cons S_impl_IsComplete_ok (.cons S__impl_Decoder_recover_ok .nil))
 have hf0 : Sh.fit s30 x0 := hpre
 have hn0_1 : List.length x0.2.2.2.2 ≤ 1073741824 := hf0.2.2.2.2.1
 refine wp_seq ?_
 refine at_regq [{ ids := [1] }, { ids := [2] }] { ts := [1, 2, 3], os := [1, 2] } [] gamOK hT h (by kernel_rfl) trivial fun a w h => then_normal (wp_seq (wp_seq ?_))
 refine at_regq [] { ts := [1, 2, 3, 6], os := [1, 2] } [Q_impl_IsComplete x0] gamOK hT h (by kernel_rfl) ⟨(by exact hf0), trivial⟩ fun a w h => then_normal ?_
 refine at_test (!(D_impl_IsComplete x0)) h (by kernel_rfl) (fun h1 => ?_) (fun h1 => ?_)
 ·replace h1 : (D_impl_IsComplete x0) = false := notT h1
  refine wp_seq ?_
  refine at_regq [] { ts := [1, 2, 3], os := [1, 2] } [] gamOK hT h (by kernel_rfl) trivial fun a w h => then_normal (wp_ret (then_ret ?_))
  exact at_return ((0, ([] : List (List Int))), (false, ())) [] h (by kernel_rfl) trivial (congrArg (fun z => (z.1, z.2, ())) (show (((0, ([] : List (List Int))), false)) = recG x0 from by first | exact recG_y (by assumption) | exact recG_n (by assumption)))
 ·replace h1 : (D_impl_IsComplete x0) = true := notF h1
  refine wp_skip (then_normal (wp_seq ?_))
  refine at_regq [{}, { ids := [3] }] { ts := [2, 3], os := [2, 3] } [Q__impl_Decoder_recover x0] gamOK hT h (by kernel_rfl) ⟨(by (have hq : (validD x0 && complD x0) = true := (by assumption); rw [Bool.and_eq_true] at hq; have hv := validD_t hq.1; exact ⟨hf0, hv.1, hv.2.1, hv.2.2.1⟩)), trivial⟩ fun a w h => then_normal (wp_ret ?_)
  exact at_return ((recD' x0), (true, ())) [] h (by kernel_rfl) trivial (congrArg (fun z => (z.1, z.2, ())) (show (((recD' x0), true)) = recG x0 from by first | exact recG_y (by assumption) | exact recG_n (by assumption)))

def S_laws_sameRows : Sum := { fid := 49, dom := [s24, s24], cod := [(.bool 4)], dp := true, fz := false, pre := fun x => True, g := fun x => (((Sh.eqB s24) x.1 x.2.1), ()) }
def S_laws_sameRows_tab : List (Nat × Sum) := [(9, S_laws_sameInts)]
theorem S_laws_sameRows_ok : FnOK Try.prog 49 S_laws_sameRows := by
 refine at_enter 27 (fun x => ⟨[(0, aF s33 x.1), (1, aF s33 x.2.1)], []⟩) Try.func49 rfl (by kernel_rfl) (fun x => rfl) ?_
 rintro w0 Z0 ⟨x0, x1, u⟩ a w
 revert x0 x1
 intro (x0 : (List (List Int))) (x1 : (List (List Int))) hpre hlens h
 have hl1 : List.length x0 ≤ 9223372036854775807 := hlens.1.1
 have hl2 : List.length x1 ≤ 9223372036854775807 := hlens.2.1.1
 have hT : TabOK Try.prog S_laws_sameRows_tab := (.cons S_laws_sameInts_ok .nil)
 refine wp_seq ?_
 refine at_regq [] { ts := [0, 1, 4], os := [] } [] gamOK hT h (by kernel_rfl) trivial fun a w h => then_normal (wp_seq (wp_seq ?_))
 refine at_regq [] { ts := [0, 1, 4, 10], os := [] } [] gamOK hT h (by kernel_rfl) trivial fun a w h => then_normal ?_
 refine at_test (!decide (((List.length x0 : Nat) : Int) = ((List.length x1 : Nat) : Int))) h (by kernel_rfl) (fun h1 => ?_) (fun h1 => ?_)
 ·replace h1 : ¬ (((List.length x0 : Nat) : Int) = ((List.length x1 : Nat) : Int)) := of_decide_eq_false (notT h1)
  refine wp_seq ?_
  refine at_regq [] { ts := [0, 1, 4], os := [] } [] gamOK hT h (by kernel_rfl) trivial fun a w h => then_normal (wp_ret (then_ret ?_))
  exact at_return (false, ()) [] h (by kernel_rfl) trivial (congrArg (fun z => (z, ())) (show (false) = (Sh.eqB s24) x0 x1 from by (first | exact (Sh.eqB_ne (fun e => by subst e; simp_all [Sh.eqB_self])).symm | (have e := hok0.2; rw [take_all (by omega), take_all (by omega)] at e; exact ((Sh.eqB_iff s24).2 e).symm))))
 ·replace h1 : ((List.length x0 : Nat) : Int) = ((List.length x1 : Nat) : Int) := of_decide_eq_true (notF h1)
  refine wp_skip (then_normal (wp_seq (wp_seq ?_)))
  refine at_regq [] { ts := [0, 1, 4, 5], os := [] } [] gamOK hT h (by kernel_rfl) trivial fun a w h => then_normal (wp_block ?_)
  replace h := at_out (σ' := ⟨[(0, aF s33 x0), (1, aF s33 x1), (4, aB false), (5, aI 0)], []⟩) { ts := [0, 1, 4, 5], os := [] } h (by kernel_rfl)
  refine at_loop (fun i : Nat => (⟨[(0, aF s33 x0), (1, aF s33 x1), (4, aB false), (5, aI ((i : Nat) : Int))], []⟩ : St)) (fun i => (i ≤ List.length x0 ∧ x0.take i = x1.take i)) (fun i => List.length x0 - i) (0) h (st_congr1 (fun (d0 : Int) => (⟨[(0, aF s33 x0), (1, aF s33 x1), (4, aB false), (5, aI d0)], []⟩ : St)) (show (0 : Int) = (((0) : Nat) : Int) from by first | with_reducible rfl | (rfl) | rfl)) (by exact ⟨Nat.zero_le _, rfl⟩) ?_
  intro i a w hok0 h
  refine wp_seq (wp_seq ?_)
  refine at_regq [] { ts := [0, 1, 4, 5, 14], os := [] } [] gamOK hT h (by kernel_rfl) trivial fun a w h => then_normal ?_
  refine at_test (decide (((i : Nat) : Int) < ((List.length x0 : Nat) : Int))) h (by kernel_rfl) (fun h2 => ?_) (fun h2 => ?_)
  ·replace h2 : ((i : Nat) : Int) < ((List.length x0 : Nat) : Int) := of_decide_eq_true h2
   refine wp_skip (then_normal (wp_seq (wp_block (wp_seq ?_))))
   refine at_anyq [{}, {}, {}, {}, {}, {}, {}, {}, {}, {}] { ts := [0, 1, 4, 5, 26], os := [] } [(0 : Int) ≤ ((i : Nat) : Int) ∧ ((i : Nat) : Int) < ((List.length x0 : Nat) : Int), (0 : Int) ≤ ((i : Nat) : Int) ∧ ((i : Nat) : Int) < ((List.length x1 : Nat) : Int), True] gamOK hT mixed h (by kernel_rfl) ⟨(by refine ⟨?_, ?_⟩ <;> (first | omega | (simp only [lsA]; omega) | (simp <;> omega))), (by refine ⟨?_, ?_⟩ <;> (first | omega | (simp only [lsA]; omega) | (simp <;> omega))), trivial, trivial⟩ fun a w h => then_normal ?_
   refine at_test (!((Sh.eqB s33) (x0.getD i []) (x1.getD i []))) h (by kernel_rfl) (fun h3 => ?_) (fun h3 => ?_)
   ·replace h3 : ((Sh.eqB s33) (x0.getD i []) (x1.getD i [])) = false := notT h3
    refine wp_seq ?_
    refine at_regq [] { ts := [0, 1, 4, 5], os := [] } [] gamOK hT h (by kernel_rfl) trivial fun a w h => then_normal (wp_ret (in_ret (then_ret (then_ret (in_ret (then_ret ?_))))))
    exact at_return (false, ()) [] h (by kernel_rfl) trivial (congrArg (fun z => (z, ())) (show (false) = (Sh.eqB s24) x0 x1 from by (first | exact (Sh.eqB_ne (fun e => by subst e; simp_all [Sh.eqB_self])).symm | (have e := hok0.2; rw [take_all (by omega), take_all (by omega)] at e; exact ((Sh.eqB_iff s24).2 e).symm))))
   ·replace h3 : ((Sh.eqB s33) (x0.getD i []) (x1.getD i [])) = true := notF h3
    refine wp_skip (in_normal (then_normal ?_))
    refine at_regq [{}, { nw := true }] { ts := [0, 1, 4, 5], os := [] } [I64 (((i : Nat) : Int) + 1)] gamOK hT h (by kernel_rfl) ⟨⟨by first | omega | (simp only [lsA]; omega) | (simp <;> omega), by first | omega | (simp only [lsA]; omega) | (simp <;> omega)⟩, trivial⟩ fun a w h => ?_
    replace h := at_out (σ' := ⟨[(0, aF s33 x0), (1, aF s33 x1), (4, aB false), (5, aI (((i : Nat) : Int) + 1))], []⟩) { ts := [0, 1, 4, 5], os := [] } h (by kernel_rfl)
    exact ⟨i + 1, at_eq h (st_congr1 (fun (d0 : Int) => (⟨[(0, aF s33 x0), (1, aF s33 x1), (4, aB false), (5, aI d0)], []⟩ : St)) (show (((i : Nat) : Int) + 1 : Int) = (((i + 1) : Nat) : Int) from by first | with_reducible rfl | (omega) | rfl)), (by exact ⟨by omega, eqTo_step (z := []) (by omega) (by omega) hok0.2 (Sh.of_eqB (by assumption))⟩), (by omega)⟩
  ·replace h2 : ¬ (((i : Nat) : Int) < ((List.length x0 : Nat) : Int)) := of_decide_eq_false h2
   refine wp_exit (then_exit (then_exit (in_hit (then_normal (wp_seq ?_)))))
   refine at_regq [] { ts := [4], os := [] } [] gamOK hT h (by kernel_rfl) trivial fun a w h => then_normal (wp_ret ?_)
   exact at_return (true, ()) [] h (by kernel_rfl) trivial (congrArg (fun z => (z, ())) (show (true) = (Sh.eqB s24) x0 x1 from by (first | exact (Sh.eqB_ne (fun e => by subst e; simp_all [Sh.eqB_self])).symm | (have e := hok0.2; rw [take_all (by omega), take_all (by omega)] at e; exact ((Sh.eqB_iff s24).2 e).symm))))

def S_laws_sameGeneration : Sum := { fid := 21, dom := [s26, s26], cod := [(.bool 4)], dp := true, fz := false, pre := fun x => True, g := fun x => (((Sh.eqB s26) x.1 x.2.1), ()) }
def S_laws_sameGeneration_tab : List (Nat × Sum) := [(49, S_laws_sameRows)]
theorem S_laws_sameGeneration_ok : FnOK Try.prog 21 S_laws_sameGeneration := by
 refine at_enter 17 (fun x => ⟨[(0, aG [cI x.1.1, .ro s33 x.1.2]), (1, aG [cI x.2.1.1, .ro s33 x.2.1.2])], []⟩) Try.func21 rfl (by kernel_rfl) (fun x => rfl) ?_
 rintro w0 Z0 ⟨x0, x1, u⟩ a w
 revert x0 x1
 intro (x0 : T26) (x1 : T26) hpre hlens h
 have hl1 : List.length x0.2 ≤ 9223372036854775807 := hlens.1.2.1
 have hl2 : List.length x1.2 ≤ 9223372036854775807 := hlens.2.1.2.1
 have hT : TabOK Try.prog S_laws_sameGeneration_tab := (.cons S_laws_sameRows_ok .nil)
 refine wp_seq ?_
 refine at_regq [{ ids := [1] }, { ids := [2] }] { ts := [2, 3, 4], os := [1, 2] } [] gamOK hT h (by kernel_rfl) trivial fun a w h => then_normal (wp_seq ?_)
 by_cases h1 : x0.1 = x1.1
 ·refine at_regq [{}, {}, {}, {}, { hint := some (aB true) }] { ts := [4], os := [] } [(AV.p (.c (.v (.bool (decide (x0.1 = x1.1))))) = AV.p (.c (.v (.bool true)))), True] gamOK hT h (by kernel_rfl) ⟨hint_bool (decide_eq_true h1), trivial, trivial⟩ fun a w h => then_normal (wp_ret ?_)
  exact at_return (((Sh.eqB s24) x0.2 x1.2), ()) [] h (by kernel_rfl) trivial (congrArg (fun z => (z, ())) (show (((Sh.eqB s24) x0.2 x1.2)) = (Sh.eqB s26) x0 x1 from by (show _ = Sh.eqB s26 x0 x1; simp_all [Sh.eqB])))
 ·refine at_regq [{}, {}, {}, {}, { hint := some (aB false) }] { ts := [4], os := [] } [(AV.p (.c (.v (.bool (decide (x0.1 = x1.1))))) = AV.p (.c (.v (.bool false))))] gamOK hT h (by kernel_rfl) ⟨hint_bool (decide_eq_false h1), trivial⟩ fun a w h => then_normal (wp_ret ?_)
  exact at_return (false, ()) [] h (by kernel_rfl) trivial (congrArg (fun z => (z, ())) (show (false) = (Sh.eqB s26) x0 x1 from by (show _ = Sh.eqB s26 x0 x1; simp_all [Sh.eqB])))

end Go.Proofs.Ytgeonngfipikeaa

/- The walks of the functions that the law reaches: each summary holds. No condition. -/
import Derived.Test.YtgeonngfipikeaaGreatFnSystematic2
import Derived.Test.YtgeonngfipikeaaGreatLA
import Derived.Test.YtgeonngfipikeaaGreatProg
namespace Go.Proofs.YtgeonngfipikeaaGreat
open Go.RowKit
set_option linter.unusedVariables false
set_option linter.unusedSimpArgs false
abbrev Q_spec_IsValidDecoder := (fun (x0 : T30) => Sh.fit s30 x0)
def S_spec_IsValidDecoder : Sum := { fid := 99, dom := [s30], cod := [(.bool 4)], dp := true, fz := false, pre := fun x => Q_spec_IsValidDecoder x.1, g := fun x => ((validD x.1), ()) }
def S_spec_IsValidDecoder_tab : List (Nat × Sum) := [(96, S_spec_l14Range), (141, S_spec_IsValidBasis), (101, S_spec_LeadingIndex)]
theorem S_spec_IsValidDecoder_ok : FnOK Tryz.prog 99 S_spec_IsValidDecoder := by
 refine at_enter 47 (fun x => ⟨[(0, aG [cI x.1.1, cI x.1.2.1, cI x.1.2.2.1, cI x.1.2.2.2.1, .ro s39 x.1.2.2.2.2])], []⟩) Tryz.func99 rfl (by kernel_rfl) (fun x => rfl) ?_
 rintro w0 Z0 ⟨x0, u⟩ a w
 revert x0
 intro (x0 : T30) hpre hlens h
 replace hpre : Q_spec_IsValidDecoder x0 := hpre
 have hT : TabOK Tryz.prog S_spec_IsValidDecoder_tab := (.cons S_spec_l14Range_ok (.cons S_spec_IsValidBasis_ok (.cons S_spec_LeadingIndex_ok .nil)))
 have hf0 : Sh.fit s30 x0 := hpre
 have hn0_1 : List.length x0.2.2.2.2 ≤ 1073741824 := hf0.2.2.2.2.1
 refine wp_seq ?_
 refine at_regq [{ ids := [1] }] { ts := [1, 2], os := [1] } [] gamOK hT h (by kernel_rfl) trivial fun a w h => then_normal (wp_seq (wp_seq ?_))
 rcases Bool.eq_false_or_eq_true (!(isFmt x0.1 x0.2.1 x0.2.2.1)) with h1 | h1
 ·have hzh1 : (isFmt x0.1 x0.2.1 x0.2.2.1) = false := notT h1
  refine at_regq [{}, {}, {}, {}, {}, {}, {}, { hint := some (aB true) }] { ts := [1, 2, 28], os := [1] } [True, (AV.p (.c (.v (.bool (!(isFmt x0.1 x0.2.1 x0.2.2.1))))) = AV.p (.c (.v (.bool true))))] gamOK hT h (by kernel_rfl) ⟨trivial, hint_bool (h1), trivial⟩ fun a w h => then_normal ?_
  refine at_test true h (by kernel_rfl) (fun hh => ?_) (fun hh => nomatch hh)
  refine wp_seq ?_
  refine at_regq [] { ts := [1, 2], os := [1] } [] gamOK hT h (by kernel_rfl) trivial fun a w h => then_normal (wp_ret (then_ret ?_))
  exact at_return (false, ()) [] h (by kernel_rfl) trivial (congrArg (fun z => (z, ())) (show (false) = validD x0 from by first | rfl | (unfold validD; rw [if_neg (neT (notT h1))]; done) | (unfold validD; (repeat (first | rfl | split)) <;> (first | rfl | omega | (simp_all [-List.all_eq_true, -List.any_eq_true, -List.all_eq_false, -List.any_eq_false, validBS_eq]; done) | (simp_all [-List.all_eq_true, -List.any_eq_true, -List.all_eq_false, -List.any_eq_false, validBS_eq]; omega) | (exfalso; simp_all [-List.all_eq_true, -List.any_eq_true, -List.all_eq_false, -List.any_eq_false, validBS_eq]; omega)))))
 ·have hzh1 : (isFmt x0.1 x0.2.1 x0.2.2.1) = true := notF h1
  have hvh1 := isFmt_t (notF h1)
  rcases Bool.eq_false_or_eq_true (!(validBS x0.2.2.2)) with h2 | h2
  ·have hzh2 : (validBS x0.2.2.2) = false := notT h2
   refine at_regq [{}, {}, {}, {}, {}, {}, {}, { hint := some (aB false) }, {}, {}, {}, {}, { hint := some (aB true) }] { ts := [1, 2, 28], os := [1] } [True, (AV.p (.c (.v (.bool (!(isFmt x0.1 x0.2.1 x0.2.2.1))))) = AV.p (.c (.v (.bool false)))), Q_spec_IsValidBasis x0.2.2.2, (AV.p (.c (.v (.bool (!(validBS x0.2.2.2))))) = AV.p (.c (.v (.bool true))))] gamOK hT h (by kernel_rfl) ⟨trivial, hint_bool (h1), (by exact hf0.2.2.2), hint_bool (h2), trivial⟩ fun a w h => then_normal ?_
   refine at_test true h (by kernel_rfl) (fun hh => ?_) (fun hh => nomatch hh)
   refine wp_seq ?_
   refine at_regq [] { ts := [1, 2], os := [1] } [] gamOK hT h (by kernel_rfl) trivial fun a w h => then_normal (wp_ret (then_ret ?_))
   exact at_return (false, ()) [] h (by kernel_rfl) trivial (congrArg (fun z => (z, ())) (show (false) = validD x0 from by first | rfl | (unfold validD; rw [if_pos (notF h1), if_neg (neT (notT h2))]; done) | (unfold validD; (repeat (first | rfl | split)) <;> (first | rfl | omega | (simp_all [-List.all_eq_true, -List.any_eq_true, -List.all_eq_false, -List.any_eq_false, validBS_eq]; done) | (simp_all [-List.all_eq_true, -List.any_eq_true, -List.all_eq_false, -List.any_eq_false, validBS_eq]; omega) | (exfalso; simp_all [-List.all_eq_true, -List.any_eq_true, -List.all_eq_false, -List.any_eq_false, validBS_eq]; omega)))))
  ·have hzh2 : (validBS x0.2.2.2) = true := notF h2
   have hvh2 := validBS_t (notF h2)
   refine at_regq [{}, {}, {}, {}, {}, {}, {}, { hint := some (aB false) }, {}, {}, {}, {}, { hint := some (aB false) }, {}, {}, {}, {}, {}, {}, {}, {}, {}, { nw := true }] { ts := [1, 2, 28], os := [1] } [True, (AV.p (.c (.v (.bool (!(isFmt x0.1 x0.2.1 x0.2.2.1))))) = AV.p (.c (.v (.bool false)))), Q_spec_IsValidBasis x0.2.2.2, (AV.p (.c (.v (.bool (!(validBS x0.2.2.2))))) = AV.p (.c (.v (.bool false)))), I64 (x0.2.1 + x0.2.2.1)] gamOK hT h (by kernel_rfl) ⟨trivial, hint_bool (h1), (by exact hf0.2.2.2), hint_bool (h2), ⟨by first | omega | (simp only [lsA]; omega) | (simp <;> omega), by first | omega | (simp only [lsA]; omega) | (simp <;> omega)⟩, trivial⟩ fun a w h => then_normal ?_
   refine at_test (!decide (x0.2.2.2.1 = x0.2.1 + x0.2.2.1)) h (by kernel_rfl) (fun h3 => ?_) (fun h3 => ?_)
   ·replace h3 : ¬ (x0.2.2.2.1 = x0.2.1 + x0.2.2.1) := of_decide_eq_false (notT h3)
    refine wp_seq ?_
    refine at_regq [] { ts := [1, 2], os := [1] } [] gamOK hT h (by kernel_rfl) trivial fun a w h => then_normal (wp_ret (then_ret ?_))
    exact at_return (false, ()) [] h (by kernel_rfl) trivial (congrArg (fun z => (z, ())) (show (false) = validD x0 from by first | rfl | (unfold validD; rw [if_pos (notF h1), if_pos (notF h2), if_neg h3]; done) | (unfold validD; (repeat (first | rfl | split)) <;> (first | rfl | omega | (simp_all [-List.all_eq_true, -List.any_eq_true, -List.all_eq_false, -List.any_eq_false, validBS_eq]; done) | (simp_all [-List.all_eq_true, -List.any_eq_true, -List.all_eq_false, -List.any_eq_false, validBS_eq]; omega) | (exfalso; simp_all [-List.all_eq_true, -List.any_eq_true, -List.all_eq_false, -List.any_eq_false, validBS_eq]; omega)))))
   ·replace h3 : x0.2.2.2.1 = x0.2.1 + x0.2.2.1 := of_decide_eq_true (notF h3)
    refine wp_skip (then_normal (wp_seq (wp_seq ?_)))
    refine at_regq [] { ts := [1, 2, 3], os := [1] } [] gamOK hT h (by kernel_rfl) trivial fun a w h => then_normal (wp_block ?_)
    replace h := at_out (σ' := ⟨[(1, aP 1 0), (2, aB false), (3, aI 0)], [(1, oX 30 [cI x0.1, cI x0.2.1, cI x0.2.2.1, cI x0.2.2.2.1, .ro s39 x0.2.2.2.2])]⟩) { ts := [1, 2, 3], os := [1] } h (by kernel_rfl)
    refine at_loop (fun i : Nat => (⟨[(1, aP 1 0), (2, aB false), (3, aI ((i : Nat) : Int))], [(1, oX 30 [cI x0.1, cI x0.2.1, cI x0.2.2.1, cI x0.2.2.2.1, .ro s39 x0.2.2.2.2])]⟩ : St)) (fun i => (i ≤ List.length x0.2.2.2.2 ∧ allTo1 (fun r => decide (LA.leadS r < x0.2.1)) x0.2.2.2.2 [] i)) (fun i => List.length x0.2.2.2.2 - i) (0) h (st_congr1 (fun (d0 : Int) => (⟨[(1, aP 1 0), (2, aB false), (3, aI d0)], [(1, oX 30 [cI x0.1, cI x0.2.1, cI x0.2.2.1, cI x0.2.2.2.1, .ro s39 x0.2.2.2.2])]⟩ : St)) (show (0 : Int) = (((0) : Nat) : Int) from by first | with_reducible rfl | (rfl) | rfl)) (by exact ⟨Nat.zero_le _, allTo1_zero⟩) ?_
    intro i a w hok0 h
    refine wp_seq (wp_seq ?_)
    refine at_regq [] { ts := [1, 2, 3, 34], os := [1] } [] gamOK hT h (by kernel_rfl) trivial fun a w h => then_normal ?_
    refine at_test (decide (((i : Nat) : Int) < ((List.length x0.2.2.2.2 : Nat) : Int))) h (by kernel_rfl) (fun h4 => ?_) (fun h4 => ?_)
    ·replace h4 : ((i : Nat) : Int) < ((List.length x0.2.2.2.2 : Nat) : Int) := of_decide_eq_true h4
     refine wp_skip (then_normal (wp_seq (wp_block (wp_seq ?_))))
     refine at_anyq [{}, {}, {}, {}, {}, {}, {}, {}, {}, {}] { ts := [1, 2, 3, 46], os := [1] } [(0 : Int) ≤ ((i : Nat) : Int) ∧ ((i : Nat) : Int) < ((List.length x0.2.2.2.2 : Nat) : Int), Q_spec_LeadingIndex (x0.2.2.2.2.getD i [])] gamOK hT mixed h (by kernel_rfl) ⟨(by refine ⟨?_, ?_⟩ <;> (first | omega | (simp only [lsA]; omega) | (simp <;> omega))), (by exact Sh.fit_getD hf0.2.2.2.2 i), trivial⟩ fun a w h => then_normal ?_
     refine at_test (decide ((LA.leadS (x0.2.2.2.2.getD i [])) ≥ x0.2.1)) h (by kernel_rfl) (fun h5 => ?_) (fun h5 => ?_)
     ·replace h5 : (LA.leadS (x0.2.2.2.2.getD i [])) ≥ x0.2.1 := of_decide_eq_true h5
      refine wp_seq ?_
      refine at_regq [] { ts := [1, 2, 3], os := [1] } [] gamOK hT h (by kernel_rfl) trivial fun a w h => then_normal (wp_ret (in_ret (then_ret ?_)))
      have hs6 : (List.all x0.2.2.2.2 (fun r => decide (LA.leadS r < x0.2.1))) = false := by exact all_at (z := []) (i := i) (by omega) (by exact decide_eq_false (by omega))
      refine then_ret (in_ret (then_ret ?_))
      exact at_return (false, ()) [] h (by kernel_rfl) trivial (congrArg (fun z => (z, ())) (show (false) = validD x0 from by first | rfl | (unfold validD; rw [if_pos (notF h1), if_pos (notF h2), if_pos h3, if_neg (neT hs6)]; done) | (unfold validD; (repeat (first | rfl | split)) <;> (first | rfl | omega | (simp_all [-List.all_eq_true, -List.any_eq_true, -List.all_eq_false, -List.any_eq_false, validBS_eq]; done) | (simp_all [-List.all_eq_true, -List.any_eq_true, -List.all_eq_false, -List.any_eq_false, validBS_eq]; omega) | (exfalso; simp_all [-List.all_eq_true, -List.any_eq_true, -List.all_eq_false, -List.any_eq_false, validBS_eq]; omega)))))
     ·replace h5 : ¬ ((LA.leadS (x0.2.2.2.2.getD i [])) ≥ x0.2.1) := of_decide_eq_false h5
      refine wp_skip (in_normal (then_normal ?_))
      refine at_regq [{}, { nw := true }] { ts := [1, 2, 3], os := [1] } [I64 (((i : Nat) : Int) + 1)] gamOK hT h (by kernel_rfl) ⟨⟨by first | omega | (simp only [lsA]; omega) | (simp <;> omega), by first | omega | (simp only [lsA]; omega) | (simp <;> omega)⟩, trivial⟩ fun a w h => ?_
      replace h := at_out (σ' := ⟨[(1, aP 1 0), (2, aB false), (3, aI (((i : Nat) : Int) + 1))], [(1, oX 30 [cI x0.1, cI x0.2.1, cI x0.2.2.1, cI x0.2.2.2.1, .ro s39 x0.2.2.2.2])]⟩) { ts := [1, 2, 3], os := [1] } h (by kernel_rfl)
      exact ⟨i + 1, at_eq h (st_congr1 (fun (d0 : Int) => (⟨[(1, aP 1 0), (2, aB false), (3, aI d0)], [(1, oX 30 [cI x0.1, cI x0.2.1, cI x0.2.2.1, cI x0.2.2.2.1, .ro s39 x0.2.2.2.2])]⟩ : St)) (show (((i : Nat) : Int) + 1 : Int) = (((i + 1) : Nat) : Int) from by first | with_reducible rfl | (omega) | rfl)), (by exact ⟨by omega, allTo1_succ hok0.2 (by exact decide_eq_true (by omega))⟩), (by omega)⟩
    ·replace h4 : ¬ (((i : Nat) : Int) < ((List.length x0.2.2.2.2 : Nat) : Int)) := of_decide_eq_false h4
     refine wp_exit (then_exit ?_)
     have hs7 : (List.all x0.2.2.2.2 (fun r => decide (LA.leadS r < x0.2.1))) = true := by exact all_of (z := []) (i := i) (by omega) hok0.2
     refine then_exit (in_hit (then_normal (wp_seq ?_)))
     refine at_regq [] { ts := [2], os := [] } [] gamOK hT h (by kernel_rfl) trivial fun a w h => then_normal (wp_ret ?_)
     exact at_return (true, ()) [] h (by kernel_rfl) trivial (congrArg (fun z => (z, ())) (show (true) = validD x0 from by first | rfl | (unfold validD; rw [if_pos (notF h1), if_pos (notF h2), if_pos h3, if_pos hs7]; done) | (unfold validD; (repeat (first | rfl | split)) <;> (first | rfl | omega | (simp_all [-List.all_eq_true, -List.any_eq_true, -List.all_eq_false, -List.any_eq_false, validBS_eq]; done) | (simp_all [-List.all_eq_true, -List.any_eq_true, -List.all_eq_false, -List.any_eq_false, validBS_eq]; omega) | (exfalso; simp_all [-List.all_eq_true, -List.any_eq_true, -List.all_eq_false, -List.any_eq_false, validBS_eq]; omega)))))

def complD (x0 : T30) : Bool := decide (((List.length x0.2.2.2.2 : Nat) : Int) = x0.2.1)
abbrev Q__impl_Decoder_complete := (fun (x0 : T30) => Sh.fit s30 x0)
def S__impl_Decoder_complete : Sum := { fid := 43, dom := [s30], cod := [(.bool 4)], dp := true, fz := false, pre := fun x => Q__impl_Decoder_complete x.1, g := fun x => ((complD x.1), ()) }
def S__impl_Decoder_complete_tab : List (Nat × Sum) := []
theorem S__impl_Decoder_complete_ok : FnOK Tryz.prog 43 S__impl_Decoder_complete := by
 refine at_enter 10 (fun x => ⟨[(0, aG [cI x.1.1, cI x.1.2.1, cI x.1.2.2.1, cI x.1.2.2.2.1, .ro s39 x.1.2.2.2.2])], []⟩) Tryz.func43 rfl (by kernel_rfl) (fun x => rfl) ?_
 rintro w0 Z0 ⟨x0, u⟩ a w
 revert x0
 intro (x0 : T30) hpre hlens h
 replace hpre : Q__impl_Decoder_complete x0 := hpre
 have hT : TabOK Tryz.prog S__impl_Decoder_complete_tab := .nil
 have hf0 : Sh.fit s30 x0 := hpre
 have hn0_1 : List.length x0.2.2.2.2 ≤ 1073741824 := hf0.2.2.2.2.1
 refine wp_seq ?_
 refine at_regq [{ ids := [1] }] { ts := [1, 2], os := [1] } [] gamOK hT h (by kernel_rfl) trivial fun a w h => then_normal (wp_seq ?_)
 refine at_regq [] { ts := [2], os := [] } [] gamOK hT h (by kernel_rfl) trivial fun a w h => then_normal (wp_ret ?_)
 exact at_return (decide (((List.length x0.2.2.2.2 : Nat) : Int) = x0.2.1), ()) [] h (by kernel_rfl) trivial (congrArg (fun z => (z, ())) (show (decide (((List.length x0.2.2.2.2 : Nat) : Int) = x0.2.1)) = complD x0 from by rfl))

abbrev Q__impl_Decoder_clone := (fun (x0 : T30) => Sh.fit s30 x0)
def S__impl_Decoder_clone : Sum := { fid := 40, dom := [s30], cod := [s30], dp := true, fz := false, pre := fun x => Q__impl_Decoder_clone x.1, g := fun x => (((idD s30) x.1), ()) }
def S__impl_Decoder_clone_tab : List (Nat × Sum) := [(76, S__impl_Basis_clone)]
theorem S__impl_Decoder_clone_ok : FnOK Tryz.prog 40 S__impl_Decoder_clone := by
 refine at_enter 8 (fun x => ⟨[(0, aG [cI x.1.1, cI x.1.2.1, cI x.1.2.2.1, cI x.1.2.2.2.1, .ro s39 x.1.2.2.2.2])], []⟩) Tryz.func40 rfl (by kernel_rfl) (fun x => rfl) ?_
 rintro w0 Z0 ⟨x0, u⟩ a w
 revert x0
 intro (x0 : T30) hpre hlens h
 replace hpre : Q__impl_Decoder_clone x0 := hpre
 have hT : TabOK Tryz.prog S__impl_Decoder_clone_tab := (.cons S__impl_Basis_clone_ok .nil)
 have hf0 : Sh.fit s30 x0 := hpre
 have hn0_1 : List.length x0.2.2.2.2 ≤ 1073741824 := hf0.2.2.2.2.1
 refine wp_seq ?_
 refine at_regq [{ ids := [1] }, { ids := [2] }] { ts := [1, 2], os := [1, 2] } [] gamOK hT h (by kernel_rfl) trivial fun a w h => then_normal (wp_seq ?_)
 refine at_regq [{}, {}, { ids := [3] }] { ts := [1, 2], os := [1, 2, 3] } [Q__impl_Basis_clone x0.2.2.2] gamOK hT h (by kernel_rfl) ⟨(by exact hf0.2.2.2), trivial⟩ fun a w h => then_normal (wp_seq ?_)
 refine at_regq [] { ts := [2], os := [2, 3] } [] gamOK hT h (by kernel_rfl) trivial fun a w h => then_normal (wp_ret ?_)
 exact at_return (x0, ()) [] h (by kernel_rfl) trivial (congrArg (fun z => (z, ())) (show (x0) = (idD s30) x0 from by rfl))

abbrev Q_spec_l14Copy := (fun (x0 : T30) => Sh.fit s30 x0)
def S_spec_l14Copy : Sum := { fid := 98, dom := [s30], cod := [s30], dp := false, fz := false, pre := fun x => Q_spec_l14Copy x.1, g := fun x => (((idD s30) x.1), ()) }
def S_spec_l14Copy_tab : List (Nat × Sum) := [(140, S_spec_l8Copy)]
theorem S_spec_l14Copy_ok : FnOK Tryz.prog 98 S_spec_l14Copy := by
 refine at_enter 10 (fun x => ⟨[(0, aG [cI x.1.1, cI x.1.2.1, cI x.1.2.2.1, cI x.1.2.2.2.1, .ro s39 x.1.2.2.2.2])], []⟩) Tryz.func98 rfl (by kernel_rfl) (fun x => rfl) ?_
 rintro w0 Z0 ⟨x0, u⟩ a w
 revert x0
 intro (x0 : T30) hpre hlens h
 replace hpre : Q_spec_l14Copy x0 := hpre
 have hT : TabOK Tryz.prog S_spec_l14Copy_tab := (.cons S_spec_l8Copy_ok .nil)
 have hf0 : Sh.fit s30 x0 := hpre
 have hn0_1 : List.length x0.2.2.2.2 ≤ 1073741824 := hf0.2.2.2.2.1
 refine wp_seq ?_
 refine at_regq [{ ids := [1] }, { ids := [2] }] { ts := [1, 2], os := [1, 2] } [] gamOK hT h (by kernel_rfl) trivial fun a w h => then_normal (wp_seq ?_)
 refine at_regq [{}, { ids := [3] }] { ts := [1, 2, 3], os := [1, 2, 3] } [] gamOK hT h (by kernel_rfl) trivial fun a w h => then_normal (wp_seq ?_)
 refine at_regq [{}, {}, { ids := [4] }] { ts := [2, 3], os := [2, 3, 4] } [Q_spec_l8Copy x0.2.2.2] gamOK hT h (by kernel_rfl) ⟨(by exact hf0.2.2.2), trivial⟩ fun a w h => then_normal (wp_seq ?_)
 refine at_regq [] { ts := [2], os := [2, 4] } [] gamOK hT h (by kernel_rfl) trivial fun a w h => then_normal (wp_ret ?_)
 exact at_return (x0, ()) [] h (by kernel_rfl) trivial (congrArg (fun z => (z, ())) (show (x0) = (idD s30) x0 from by rfl))

theorem redTo_id {m : List LA.V} {p : Nat → Nat} (h : LA.Red m p) {v : LA.V} (hz : ∀ k, k < m.length → v (p k) = 0) : ∀ n, n ≤ m.length → LA.redTo m p v n = v
 | 0, _ => rfl
 | n + 1, hn => by
  have ih := redTo_id h hz n (by omega)
  have hp := hz n (by omega)
  simp only [LA.redTo, ih]
  funext j
  simp only [LA.vadd, hp]
  grind
theorem redS_idem {n : Nat} {rows : List (List Int)} {v : List Int} (h : LA.RedL n rows) (hv : LA.VokB n v) : LA.redS rows (LA.redS rows v) = LA.redS rows v := by
 obtain ⟨h1, h2⟩ := LA.redS_ok h.ok hv
 obtain ⟨h3, h4⟩ := LA.redS_ok h.ok h1
 refine LA.vec_inj h3 h1 ?_
 rw [h4]
 unfold LA.rem
 refine redTo_id h.red (fun k hk => ?_) _ (Nat.le_refl _)
 rw [h2]; exact LA.rem_piv h.red _ hk
theorem insS_redS {n : Nat} {rows : List (List Int)} {v : List Int} (h : LA.RedL n rows) (hv : LA.VokB n v) : LA.insS rows (LA.redS rows v) = LA.insS rows v := by
 have e := redS_idem h hv
 unfold LA.insS LA.insE LA.insW
 rw [e]
def insUD (d : T30) (v : List Int) : T30 := (d.1, d.2.1, d.2.2.1, insU d.2.2.2 v)
def insDq (d : T30) (v : List Int) : Bool := insD d.2.2.2 v
def addOKD (d : T30) (p : T41) : Bool := (validP p d.2.1 d.2.2.1 && decide (p.1 = d.1)) && inR (LA.leadS (LA.redS d.2.2.2.2 (p.2.1 ++ p.2.2))) 0 (d.2.1 - 1)
def addUD (d : T30) (p : T41) : T30 := if addOKD d p = true then insUD d (p.2.1 ++ p.2.2) else d
def addPk (d : T30) (p : T41) : T30 × Bool := if validD d = true ∧ addOKD d p = true then (addUD d p, true) else (d, false)
theorem addRow {d : T30} {p : T41} (h : validD d = true) (hp : validP p d.2.1 d.2.2.1 = true) : redP d.2.2.2 (p.2.1 ++ p.2.2) := by
 have h1 := validD_t h
 have h2 := validP_t hp
 have h3 := (validV_t h2.2.2.2.1).2.1
 have h4 := (validV_t h2.2.2.2.2).2.1
 refine ⟨h1.2.1, ?_, fun x hx => ?_⟩
 ·rw [List.length_append]; omega
 ·rcases List.mem_append.1 hx with hx | hx
  ·exact h3 x hx
  ·exact h4 x hx
theorem addOKD_f {d : T30} {p : T41} (h : validP p d.2.1 d.2.2.1 = false ∨ ¬ p.1 = d.1 ∨ inR (LA.leadS (LA.redS d.2.2.2.2 (p.2.1 ++ p.2.2))) 0 (d.2.1 - 1) = false) : addOKD d p = false := by
 unfold addOKD
 rcases h with h | h | h
 ·rw [h]; rfl
 ·rw [decide_eq_false h]; simp
 ·rw [h]; simp
theorem addOKD_t {d : T30} {p : T41} (h1 : validP p d.2.1 d.2.2.1 = true) (h2 : p.1 = d.1) (h3 : inR (LA.leadS (LA.redS d.2.2.2.2 (p.2.1 ++ p.2.2))) 0 (d.2.1 - 1) = true) : addOKD d p = true := by
 unfold addOKD; rw [h1, decide_eq_true h2, h3]; rfl
theorem addUD_no {d : T30} {p : T41} (h : addOKD d p = false) : addUD d p = d := if_neg (by rw [h]; decide)
theorem addUD_yes {d : T30} {p : T41} (hd : validD d = true) (h : addOKD d p = true) : addUD d p = insUD d (LA.redS d.2.2.2.2 (p.2.1 ++ p.2.2)) := by
 have hp : validP p d.2.1 d.2.2.1 = true := by unfold addOKD at h; rw [Bool.and_eq_true, Bool.and_eq_true] at h; exact h.1.1
 have hr := addRow hd hp
 unfold addUD insUD insU
 rw [if_pos h, insS_redS hr.1.2 hr.2]
theorem insD_y {b : T28} {v : List Int} (h : 0 ≤ LA.leadS (LA.redS b.2 v)) : insD b v = true := by unfold insD; rw [LA.insS_yes (by omega)]
theorem insDq_y {d : T30} {p : T41} (hd : validD d = true) (hp : validP p d.2.1 d.2.2.1 = true) (h : inR (LA.leadS (LA.redS d.2.2.2.2 (p.2.1 ++ p.2.2))) 0 (d.2.1 - 1) = true) : insDq d (LA.redS d.2.2.2.2 (p.2.1 ++ p.2.2)) = true := by
 have hr := addRow hd hp
 unfold insDq
 refine insD_y ?_
 rw [redS_idem hr.1.2 hr.2]
 exact (inR_t h).1
theorem addPk_y {d : T30} {p : T41} (h : validD d = true) : (addUD d p, addOKD d p) = addPk d p := by
 unfold addPk
 cases ha : addOKD d p with
 | true => rw [if_pos ⟨h, rfl⟩]
 | false => rw [if_neg (fun e => by cases e.2), addUD_no ha]
theorem addPk_n {d : T30} {p : T41} (h : validD d = false ∨ addOKD d p = false) : (d, false) = addPk d p := by
 unfold addPk; rw [if_neg]
 rintro ⟨h1, h2⟩
 rcases h with h | h
 ·rw [h1] at h; cases h
 ·rw [h2] at h; cases h
theorem addPk_s {d : T30} {p : T41} (h : validD d = true) (hp : validP p d.2.1 d.2.2.1 = true) (hg : p.1 = d.1) (hi : inR (LA.leadS (LA.redS d.2.2.2.2 (p.2.1 ++ p.2.2))) 0 (d.2.1 - 1) = true) : ((d.1, d.2.1, d.2.2.1, (insV d.2.2.2 (p.2.1 ++ p.2.2)).1), (insV d.2.2.2 (p.2.1 ++ p.2.2)).2) = addPk d p := by
 have hr := addRow h hp
 unfold insV
 rw [if_pos (takesB_of hr), ← addPk_y h, addOKD_t hp hg hi]
 unfold addUD insUD
 rw [if_pos (addOKD_t hp hg hi), insD_y (inR_t hi).1]
def D_impl_PacketRow := (fun (p : T41) => p.2.1 ++ p.2.2)
abbrev Q_impl_PacketRow := (fun (x0 : T41) => Sh.fit s41 x0)
def S_impl_PacketRow : Sum := { fid := 80, dom := [s41], cod := [s39], dp := true, fz := false, pre := fun x => Q_impl_PacketRow x.1, g := fun x => ((D_impl_PacketRow x.1), ()) }
def S_impl_PacketRow_tab : List (Nat × Sum) := [(121, S_slices_Concat_S_int_int_)]
theorem S_impl_PacketRow_ok : FnOK Tryz.prog 80 S_impl_PacketRow := by
 refine at_enter 9 (fun x => ⟨[(0, aG [cI x.1.1, .ro (.int 3) x.1.2.1, .ro (.int 3) x.1.2.2])], []⟩) Tryz.func80 rfl (by kernel_rfl) (fun x => rfl) ?_
 rintro w0 Z0 ⟨x0, u⟩ a w
 revert x0
 intro (x0 : T41) hpre hlens h
 replace hpre : Q_impl_PacketRow x0 := hpre
 have hT : TabOK Tryz.prog S_impl_PacketRow_tab := (.cons S_slices_Concat_S_int_int__ok .nil)
 have hf0 : Sh.fit s41 x0 := hpre
 have hn0_1 : List.length x0.2.1 ≤ 1073741824 := hf0.2.1.1
 have hn0_2 : List.length x0.2.2 ≤ 1073741824 := hf0.2.2.1
 refine wp_seq ?_
 refine at_regq [{ ids := [1] }] { ts := [1, 2], os := [1] } [] gamOK hT h (by kernel_rfl) trivial fun a w h => then_normal (wp_seq ?_)
 refine at_regq [{}, {}, {}, {}, { ids := [2], dp := false }, { ids := [3] }] { ts := [2], os := [3] } [pCat ([x0.2.1, x0.2.2])] gamOK hT h (by kernel_rfl) ⟨(by (show _ ∧ _; refine ⟨by simp, ?_⟩; simp; omega)), trivial⟩ fun a w h => then_normal (wp_ret ?_)
 exact at_return ((D_slices_Concat_S_int_int_ ([x0.2.1, x0.2.2])), ()) [] h (by kernel_rfl) trivial (congrArg (fun z => (z, ())) (show ((D_slices_Concat_S_int_int_ ([x0.2.1, x0.2.2]))) = D_impl_PacketRow x0 from by unfold D_impl_PacketRow; (simp [D_slices_Concat_S_int_int_])))

abbrev Q__P_impl_Basis_insert_dec := (fun (x0 : T30) (x1 : (List Int)) => Sh.fit s30 x0 ∧ Sh.fit s39 x1 ∧ redP x0.2.2.2 x1)
def S__P_impl_Basis_insert_dec : Sum := { fid := 66, dom := [s30, s39], cod := [(.bool 4)], dp := true, fz := false, pre := fun x => Q__P_impl_Basis_insert_dec x.1 x.2.1, g := fun x => ((insDq x.1 x.2.1), ()), kinds := [(.bx 30 3), .rd], upd := fun x => (insUD x.1 x.2.1, (x.2.1, ())) }
def S__P_impl_Basis_insert_dec_tab : List (Nat × Sum) := [(79, S__impl_Basis_reduce), (78, S_impl_LeadingIndex), (108, S_impl_InverseField), (107, S_impl_ScaleVector), (109, S_impl_addScaled), (110, S_slices_Insert_S_S_int_S_int_)]
theorem S__P_impl_Basis_insert_dec_ok : FnOK Tryz.prog 66 S__P_impl_Basis_insert_dec := by
 refine at_enterI 66 [1, 2] [3] (fun us x => ⟨[(0, aP 1 3), (1, aF (.int 3) x.2.1)], [(1, oX 30 [cI x.1.1, cI x.1.2.1, cI x.1.2.2.1, cI x.1.2.2.2.1, .sl 2]), (2, oR s39 x.1.2.2.2.2), (3, oP 1 (S__P_impl_Basis_insert_dec.hd us 0))]⟩) Tryz.func66 rfl (by kernel_rfl) (fun us x => rfl) ?_
 rintro w0 Z0 us ⟨x0, x1, u⟩ L a w
 revert x0 x1
 intro (x0 : T30) (x1 : (List Int)) hio hpre hlens h
 replace h : At w0 Z0 L 66 ⟨[(0, aP 1 3), (1, aF (.int 3) x1)], [(1, oX 30 [cI x0.1, cI x0.2.1, cI x0.2.2.1, cI x0.2.2.2.1, .sl 2]), (2, oR s39 x0.2.2.2.2), (3, oP 1 (S__P_impl_Basis_insert_dec.hd us 0))]⟩ a w := h
 replace hpre : Q__P_impl_Basis_insert_dec x0 x1 := hpre
 have hT : TabOK Tryz.prog S__P_impl_Basis_insert_dec_tab := (.cons S__impl_Basis_reduce_ok (.cons S_impl_LeadingIndex_ok (.cons S_impl_InverseField_ok (.cons S_impl_ScaleVector_ok (.cons S_impl_addScaled_ok (.cons S_slices_Insert_S_S_int_S_int__ok .nil))))))
 obtain ⟨hf0, hf1, hpx⟩ := hpre
 have hn0_1 : List.length x0.2.2.2.2 ≤ 1073741824 := hf0.2.2.2.2.1
 have hn1_2 : List.length x1 ≤ 1073741824 := hf1.1
 have hb0 := hpx.1.1
 have hbR := hpx.1.2
 have hbv := hpx.2
 have hrd := LA.redS_rng hbR hbv
 have hrdl := hrd.1
 have hrn := hbR.len
 refine wp_seq ?_
 refine at_regq [] { ts := [0, 1, 4], os := [1, 2, 3] } [] gamOK hT h (by kernel_rfl) trivial fun a w h => then_normal (wp_seq ?_)
 refine at_regq [{}, {}, {}, {}, { ids := [4] }] { ts := [0, 4, 5], os := [1, 2, 3, 4] } [Q__impl_Basis_reduce x0.2.2.2 x1] gamOK hT h (by kernel_rfl) ⟨(by exact ⟨hf0.2.2.2, hf1, hpx⟩), trivial⟩ fun a w h => then_normal (wp_seq ?_)
 refine at_regq [] { ts := [0, 4, 5, 6], os := [1, 2, 3, 4] } [Q_impl_LeadingIndex (LA.redS x0.2.2.2.2 x1)] gamOK hT h (by kernel_rfl) ⟨(by first | exact fitV hrd (by omega) | exact fitV hrk (by omega) | exact Sh.fit_len rfl (by rw [LA.addS_len (by omega)]; omega)), trivial⟩ fun a w h => then_normal (wp_seq (wp_seq ?_))
 refine at_regq [] { ts := [0, 4, 5, 6, 19], os := [1, 2, 3, 4] } [] gamOK hT h (by kernel_rfl) trivial fun a w h => then_normal ?_
 refine at_test (decide ((LA.leadS (LA.redS x0.2.2.2.2 x1)) < 0)) h (by kernel_rfl) (fun h1 => ?_) (fun h1 => ?_)
 ·replace h1 : (LA.leadS (LA.redS x0.2.2.2.2 x1)) < 0 := of_decide_eq_true h1
  refine wp_seq ?_
  refine at_regq [] { ts := [0, 4, 5, 6], os := [1, 2, 3, 4] } [] gamOK hT h (by kernel_rfl) trivial fun a w h => then_normal (wp_ret (then_ret ?_))
  exact at_returnI (S := S__P_impl_Basis_insert_dec) (x := (x0, x1, ())) [1, 2] [3] (x0, (x1, ())) (some (false, ())) [S__P_impl_Basis_insert_dec.hd us 0 = S__P_impl_Basis_insert_dec.hd us 0] hio h (by kernel_rfl) ⟨rfl, trivial⟩ (by first | rfl | exact congrArg (fun (z : T30) => (z, (x1, ()))) (show (x0 : T30) = insUD x0 x1 from by (unfold insUD insU; first | (rw [LA.insS_no (by assumption)]; done) | (rw [LA.insS_yes (by assumption)]; rfl)))) (fun z e => (Option.some.inj e) ▸ (congrArg (fun z => (z, ())) (show (false) = insDq x0 x1 from by (unfold insDq insD; first | (rw [LA.insS_no (by assumption)]; done) | (rw [LA.insS_yes (by assumption)]; done)))))
 ·replace h1 : ¬ ((LA.leadS (LA.redS x0.2.2.2.2 x1)) < 0) := of_decide_eq_false h1
  have hlp := LA.leadS_bd (LA.redS x0.2.2.2.2 x1)
  have hwk := LA.insW_ok hbR hbv (by omega)
  have hwl := hwk.1
  have hpz := (LA.leadS_pos (v := LA.redS x0.2.2.2.2 x1) (by omega)).1
  refine wp_skip (then_normal (wp_seq ?_))
  refine at_regq [{}, {}, {}, {}, {}, {}, { ids := [5] }] { ts := [0, 4, 5, 6], os := [1, 2, 3, 5] } [(0 : Int) ≤ (LA.leadS (LA.redS x0.2.2.2.2 x1)) ∧ (LA.leadS (LA.redS x0.2.2.2.2 x1)) < ((List.length (LA.redS x0.2.2.2.2 x1) : Nat) : Int), ((LA.leadS (LA.redS x0.2.2.2.2 x1))).toNat < List.length (LA.redS x0.2.2.2.2 x1), True, Q_impl_ScaleVector (LA.redS x0.2.2.2.2 x1) (invF ((LA.redS x0.2.2.2.2 x1).getD (((LA.leadS (LA.redS x0.2.2.2.2 x1))).toNat) 0))] gamOK hT h (by kernel_rfl) ⟨(by refine ⟨?_, ?_⟩ <;> (first | omega | (simp only [lsA]; omega) | (simp <;> omega))), (by first | omega | (simp only [lsA]; omega) | (simp <;> omega)), trivial, (by exact fitV hrd (by omega)), trivial⟩ fun a w h => then_normal (wp_seq ?_)
  refine at_regq [] { ts := [0, 4, 5, 6, 7], os := [1, 2, 3, 5] } [] gamOK hT h (by kernel_rfl) trivial fun a w h => then_normal (wp_seq (wp_seq ?_))
  refine at_regq [] { ts := [0, 4, 5, 6, 7, 30, 31, 32], os := [1, 2, 3, 5] } [] gamOK hT h (by kernel_rfl) trivial fun a w h => then_normal (wp_block ?_)
  replace h := at_out (σ' := ⟨[(0, aP 1 3), (4, aB false), (5, aS 5), (6, aI (LA.leadS (LA.redS x0.2.2.2.2 x1))), (7, aI 0), (30, aS 2), (31, aI ((List.length x0.2.2.2.2 : Nat) : Int)), (32, aI 0)], [(1, oX 30 [cI x0.1, cI x0.2.1, cI x0.2.2.1, cI x0.2.2.2.1, .sl 2]), (2, oR s39 x0.2.2.2.2), (3, oP 1 (S__P_impl_Basis_insert_dec.hd us 0)), (5, oR (.int 3) (scaleV (LA.redS x0.2.2.2.2 x1) (invF ((LA.redS x0.2.2.2.2 x1).getD (((LA.leadS (LA.redS x0.2.2.2.2 x1))).toNat) 0))))]⟩) { ts := [0, 4, 5, 6, 7, 30, 31, 32], os := [1, 2, 3, 5] } h (by kernel_rfl)
  refine at_loop (fun i : Nat => (⟨[(0, aP 1 3), (4, aB false), (5, aS 5), (6, aI (LA.leadS (LA.redS x0.2.2.2.2 x1))), (7, aI ((LA.atTo (LA.insE x0.2.2.2.2 x1) (LA.leadS (LA.redS x0.2.2.2.2 x1)) i : Nat) : Int)), (30, aS 2), (31, aI ((List.length x0.2.2.2.2 : Nat) : Int)), (32, aI ((i : Nat) : Int))], [(1, oX 30 [cI x0.1, cI x0.2.1, cI x0.2.2.1, cI x0.2.2.2.1, .sl 2]), (2, oR s39 (LA.elTo x0.2.2.2.2 (LA.insW x0.2.2.2.2 x1) (LA.leadS (LA.redS x0.2.2.2.2 x1)).toNat i)), (3, oP 1 (S__P_impl_Basis_insert_dec.hd us 0)), (5, oR (.int 3) (LA.insW x0.2.2.2.2 x1))]⟩ : St)) (fun i => i ≤ List.length x0.2.2.2.2) (fun i => List.length x0.2.2.2.2 - i) (0) h (st_congr4 (fun (d0 : List (List Int)) (d1 : List Int) (d2 : Int) (d3 : Int) => (⟨[(0, aP 1 3), (4, aB false), (5, aS 5), (6, aI (LA.leadS (LA.redS x0.2.2.2.2 x1))), (7, aI d2), (30, aS 2), (31, aI ((List.length x0.2.2.2.2 : Nat) : Int)), (32, aI d3)], [(1, oX 30 [cI x0.1, cI x0.2.1, cI x0.2.2.1, cI x0.2.2.2.1, .sl 2]), (2, oR s39 d0), (3, oP 1 (S__P_impl_Basis_insert_dec.hd us 0)), (5, oR (.int 3) d1)]⟩ : St)) (show (x0.2.2.2.2 : List (List Int)) = (LA.elTo x0.2.2.2.2 (LA.insW x0.2.2.2.2 x1) (LA.leadS (LA.redS x0.2.2.2.2 x1)).toNat (0)) from by first | with_reducible rfl | (first | rfl | exact ins_w hrd (by omega) (by omega)) | rfl) (show ((scaleV (LA.redS x0.2.2.2.2 x1) (invF ((LA.redS x0.2.2.2.2 x1).getD (((LA.leadS (LA.redS x0.2.2.2.2 x1))).toNat) 0))) : List Int) = (LA.insW x0.2.2.2.2 x1) from by first | with_reducible rfl | (first | rfl | exact ins_w hrd (by omega) (by omega)) | rfl) (show (0 : Int) = ((LA.atTo (LA.insE x0.2.2.2.2 x1) (LA.leadS (LA.redS x0.2.2.2.2 x1)) (0) : Nat) : Int) from by first | with_reducible rfl | (first | rfl | exact ins_w hrd (by omega) (by omega)) | rfl) (show (0 : Int) = (((0) : Nat) : Int) from by first | with_reducible rfl | (first | rfl | exact ins_w hrd (by omega) (by omega)) | rfl)) (by omega) ?_
  intro i a w hok0 h
  have hel := LA.elTo_len (rows := x0.2.2.2.2) (w := (LA.insW x0.2.2.2.2 x1)) (l := (LA.leadS (LA.redS x0.2.2.2.2 x1)).toNat) (i := i)
  refine wp_seq ?_
  refine at_regq [] { ts := [0, 4, 5, 6, 7, 30, 31, 32, 33], os := [1, 2, 3, 5] } [] gamOK hT h (by kernel_rfl) trivial fun a w h => then_normal (wp_seq ?_)
  refine at_test (decide (((i : Nat) : Int) < ((List.length x0.2.2.2.2 : Nat) : Int))) h (by kernel_rfl) (fun h2 => ?_) (fun h2 => ?_)
  ·replace h2 : ((i : Nat) : Int) < ((List.length x0.2.2.2.2 : Nat) : Int) := of_decide_eq_true h2
   have hrr := hbR.at_ (show i < List.length x0.2.2.2.2 by omega)
   have hge := LA.elTo_get (w := (LA.insW x0.2.2.2.2 x1)) (l := (LA.leadS (LA.redS x0.2.2.2.2 x1)).toNat) (show i < List.length x0.2.2.2.2 by omega)
   have hrk : LA.VokB x0.2.2.2.1.toNat ((LA.elTo x0.2.2.2.2 (LA.insW x0.2.2.2.2 x1) (LA.leadS (LA.redS x0.2.2.2.2 x1)).toNat i).getD i []) := by rw [hge]; exact hrr.1
   have hrkl := hrk.1
   have hrkr := hrk.rng (LA.leadS (LA.redS x0.2.2.2.2 x1)).toNat
   refine wp_skip (then_normal (wp_seq (wp_block (wp_seq ?_))))
   replace h := at_open (σ' := ⟨[(0, aP 1 3), (4, aB false), (5, aS 5), (6, aI (LA.leadS (LA.redS x0.2.2.2.2 x1))), (7, aI ((LA.atTo (LA.insE x0.2.2.2.2 x1) (LA.leadS (LA.redS x0.2.2.2.2 x1)) i : Nat) : Int)), (30, aS 2), (31, aI ((List.length x0.2.2.2.2 : Nat) : Int)), (32, aI ((i : Nat) : Int)), (33, aB (decide (((i : Nat) : Int) < ((List.length x0.2.2.2.2 : Nat) : Int))))], [(1, oX 30 [cI x0.1, cI x0.2.1, cI x0.2.2.1, cI x0.2.2.2.1, .sl 2]), (2, some (.op s39 (LA.elTo x0.2.2.2.2 (LA.insW x0.2.2.2.2 x1) (LA.leadS (LA.redS x0.2.2.2.2 x1)).toNat i) i [.sl 6])), (3, oP 1 (S__P_impl_Basis_insert_dec.hd us 0)), (5, oR (.int 3) (LA.insW x0.2.2.2.2 x1)), (6, oR (.int 3) ((LA.elTo x0.2.2.2.2 (LA.insW x0.2.2.2.2 x1) (LA.leadS (LA.redS x0.2.2.2.2 x1)).toNat i).getD i []))]⟩) (ps := [i < List.length (LA.elTo x0.2.2.2.2 (LA.insW x0.2.2.2.2 x1) (LA.leadS (LA.redS x0.2.2.2.2 x1)).toNat i)]) 2 i [6] { ts := [0, 4, 5, 6, 7, 30, 31, 32, 33], os := [1, 2, 3, 5, 6] } h (by kernel_rfl) ⟨(by first | omega | (simp only [lsA]; omega) | (simp <;> omega)), trivial⟩
   refine at_regq [] { ts := [0, 4, 5, 6, 7, 8, 9, 30, 31, 32], os := [1, 2, 3, 5, 6] } [(0 : Int) ≤ ((i : Nat) : Int) ∧ ((i : Nat) : Int) < ((List.length (LA.elTo x0.2.2.2.2 (LA.insW x0.2.2.2.2 x1) (LA.leadS (LA.redS x0.2.2.2.2 x1)).toNat i) : Nat) : Int), i = i] gamOK hT h (by kernel_rfl) ⟨(by refine ⟨?_, ?_⟩ <;> (first | omega | (simp only [lsA]; omega) | (simp <;> omega))), rfl, trivial⟩ fun a w h => then_normal (wp_seq (wp_seq ?_))
   refine at_regq [] { ts := [0, 4, 5, 6, 7, 8, 9, 10, 30, 31, 32], os := [1, 2, 3, 5, 6] } [(0 : Int) ≤ (LA.leadS (LA.redS x0.2.2.2.2 x1)) ∧ (LA.leadS (LA.redS x0.2.2.2.2 x1)) < ((List.length ((LA.elTo x0.2.2.2.2 (LA.insW x0.2.2.2.2 x1) (LA.leadS (LA.redS x0.2.2.2.2 x1)).toNat i).getD i []) : Nat) : Int), ((LA.leadS (LA.redS x0.2.2.2.2 x1))).toNat < List.length ((LA.elTo x0.2.2.2.2 (LA.insW x0.2.2.2.2 x1) (LA.leadS (LA.redS x0.2.2.2.2 x1)).toNat i).getD i [])] gamOK hT h (by kernel_rfl) ⟨(by refine ⟨?_, ?_⟩ <;> (first | omega | (simp only [lsA]; omega) | (simp <;> omega))), (by first | omega | (simp only [lsA]; omega) | (simp <;> omega)), trivial⟩ fun a w h => then_normal (wp_seq ?_)
   refine at_regq [] { ts := [0, 4, 5, 6, 7, 8, 9, 10, 30, 31, 32, 42], os := [1, 2, 3, 5, 6] } [] gamOK hT h (by kernel_rfl) trivial fun a w h => then_normal ?_
   refine at_test (!decide ((((LA.elTo x0.2.2.2.2 (LA.insW x0.2.2.2.2 x1) (LA.leadS (LA.redS x0.2.2.2.2 x1)).toNat i).getD i []).getD (((LA.leadS (LA.redS x0.2.2.2.2 x1))).toNat) 0) = 0)) h (by kernel_rfl) (fun h3 => ?_) (fun h3 => ?_)
   ·replace h3 : ¬ ((((LA.elTo x0.2.2.2.2 (LA.insW x0.2.2.2.2 x1) (LA.leadS (LA.redS x0.2.2.2.2 x1)).toNat i).getD i []).getD (((LA.leadS (LA.redS x0.2.2.2.2 x1))).toNat) 0) = 0) := of_decide_eq_false (notT h3)
    refine at_regq [{}, {}, {}, { nw := true }] { ts := [0, 4, 5, 6, 7, 8, 9, 30, 31, 32], os := [1, 2, 3, 5, 6] } [I64 (1019 - (((LA.elTo x0.2.2.2.2 (LA.insW x0.2.2.2.2 x1) (LA.leadS (LA.redS x0.2.2.2.2 x1)).toNat i).getD i []).getD (((LA.leadS (LA.redS x0.2.2.2.2 x1))).toNat) 0)), Q_impl_addScaled ((LA.elTo x0.2.2.2.2 (LA.insW x0.2.2.2.2 x1) (LA.leadS (LA.redS x0.2.2.2.2 x1)).toNat i).getD i []) (LA.insW x0.2.2.2.2 x1) (1019 - (((LA.elTo x0.2.2.2.2 (LA.insW x0.2.2.2.2 x1) (LA.leadS (LA.redS x0.2.2.2.2 x1)).toNat i).getD i []).getD (((LA.leadS (LA.redS x0.2.2.2.2 x1))).toNat) 0))] gamOK hT h (by kernel_rfl) ⟨⟨by first | omega | (simp only [lsA]; omega) | (simp <;> omega), by first | omega | (simp only [lsA]; omega) | (simp <;> omega)⟩, (by exact ⟨fitV hrk (by omega), fitV hwk (by omega), addOK_of hrk hwk (by omega)⟩), trivial⟩ fun a w h => then_normal (wp_seq ?_)
    refine at_regq [] { ts := [0, 4, 5, 6, 7, 8, 30, 31, 32, 51], os := [1, 2, 3, 5, 6] } [Q_impl_LeadingIndex (LA.addS ((LA.elTo x0.2.2.2.2 (LA.insW x0.2.2.2.2 x1) (LA.leadS (LA.redS x0.2.2.2.2 x1)).toNat i).getD i []) (LA.insW x0.2.2.2.2 x1) (1019 - (((LA.elTo x0.2.2.2.2 (LA.insW x0.2.2.2.2 x1) (LA.leadS (LA.redS x0.2.2.2.2 x1)).toNat i).getD i []).getD (((LA.leadS (LA.redS x0.2.2.2.2 x1))).toNat) 0)))] gamOK hT h (by kernel_rfl) ⟨(by first | exact fitV hrd (by omega) | exact fitV hrk (by omega) | exact Sh.fit_len rfl (by rw [LA.addS_len (by omega)]; omega)), trivial⟩ fun a w h => then_normal ?_
    refine at_test (decide ((LA.leadS (LA.addS ((LA.elTo x0.2.2.2.2 (LA.insW x0.2.2.2.2 x1) (LA.leadS (LA.redS x0.2.2.2.2 x1)).toNat i).getD i []) (LA.insW x0.2.2.2.2 x1) (1019 - (((LA.elTo x0.2.2.2.2 (LA.insW x0.2.2.2.2 x1) (LA.leadS (LA.redS x0.2.2.2.2 x1)).toNat i).getD i []).getD (((LA.leadS (LA.redS x0.2.2.2.2 x1))).toNat) 0)))) < (LA.leadS (LA.redS x0.2.2.2.2 x1)))) h (by kernel_rfl) (fun h4 => ?_) (fun h4 => ?_)
    ·replace h4 : (LA.leadS (LA.addS ((LA.elTo x0.2.2.2.2 (LA.insW x0.2.2.2.2 x1) (LA.leadS (LA.redS x0.2.2.2.2 x1)).toNat i).getD i []) (LA.insW x0.2.2.2.2 x1) (1019 - (((LA.elTo x0.2.2.2.2 (LA.insW x0.2.2.2.2 x1) (LA.leadS (LA.redS x0.2.2.2.2 x1)).toNat i).getD i []).getD (((LA.leadS (LA.redS x0.2.2.2.2 x1))).toNat) 0)))) < (LA.leadS (LA.redS x0.2.2.2.2 x1)) := of_decide_eq_true h4
     refine at_regq [{}, { nw := true }] { ts := [0, 4, 5, 6, 7, 30, 31, 32], os := [1, 2, 3, 5, 6] } [I64 (((i : Nat) : Int) + 1)] gamOK hT h (by kernel_rfl) ⟨⟨by first | omega | (simp only [lsA]; omega) | (simp <;> omega), by first | omega | (simp only [lsA]; omega) | (simp <;> omega)⟩, trivial⟩ fun a w h => in_normal (then_normal ?_)
     refine at_regq [{ nw := true }] { ts := [0, 4, 5, 6, 7, 30, 31, 32], os := [1, 2, 3, 5, 6] } [I64 (((i : Nat) : Int) + 1)] gamOK hT h (by kernel_rfl) ⟨⟨by first | omega | (simp only [lsA]; omega) | (simp <;> omega), by first | omega | (simp only [lsA]; omega) | (simp <;> omega)⟩, trivial⟩ fun a w h => ?_
     replace h := at_shut (σ' := ⟨[(0, aP 1 3), (4, aB false), (5, aS 5), (6, aI (LA.leadS (LA.redS x0.2.2.2.2 x1))), (7, aI (((i : Nat) : Int) + 1)), (30, aS 2), (31, aI ((List.length x0.2.2.2.2 : Nat) : Int)), (32, aI (((i : Nat) : Int) + 1))], [(1, oX 30 [cI x0.1, cI x0.2.1, cI x0.2.2.1, cI x0.2.2.2.1, .sl 2]), (2, oR s39 (List.set (LA.elTo x0.2.2.2.2 (LA.insW x0.2.2.2.2 x1) (LA.leadS (LA.redS x0.2.2.2.2 x1)).toNat i) i (LA.addS ((LA.elTo x0.2.2.2.2 (LA.insW x0.2.2.2.2 x1) (LA.leadS (LA.redS x0.2.2.2.2 x1)).toNat i).getD i []) (LA.insW x0.2.2.2.2 x1) (1019 - (((LA.elTo x0.2.2.2.2 (LA.insW x0.2.2.2.2 x1) (LA.leadS (LA.redS x0.2.2.2.2 x1)).toNat i).getD i []).getD (((LA.leadS (LA.redS x0.2.2.2.2 x1))).toNat) 0))))), (3, oP 1 (S__P_impl_Basis_insert_dec.hd us 0)), (5, oR (.int 3) (LA.insW x0.2.2.2.2 x1))]⟩) (ps := []) 2 { ts := [0, 4, 5, 6, 7, 30, 31, 32], os := [1, 2, 3, 5] } h (by kernel_rfl) trivial
     replace h := at_out (σ' := ⟨[(0, aP 1 3), (4, aB false), (5, aS 5), (6, aI (LA.leadS (LA.redS x0.2.2.2.2 x1))), (7, aI (((i : Nat) : Int) + 1)), (30, aS 2), (31, aI ((List.length x0.2.2.2.2 : Nat) : Int)), (32, aI (((i : Nat) : Int) + 1))], [(1, oX 30 [cI x0.1, cI x0.2.1, cI x0.2.2.1, cI x0.2.2.2.1, .sl 2]), (2, oR s39 (List.set (LA.elTo x0.2.2.2.2 (LA.insW x0.2.2.2.2 x1) (LA.leadS (LA.redS x0.2.2.2.2 x1)).toNat i) i (LA.addS ((LA.elTo x0.2.2.2.2 (LA.insW x0.2.2.2.2 x1) (LA.leadS (LA.redS x0.2.2.2.2 x1)).toNat i).getD i []) (LA.insW x0.2.2.2.2 x1) (1019 - (((LA.elTo x0.2.2.2.2 (LA.insW x0.2.2.2.2 x1) (LA.leadS (LA.redS x0.2.2.2.2 x1)).toNat i).getD i []).getD (((LA.leadS (LA.redS x0.2.2.2.2 x1))).toNat) 0))))), (3, oP 1 (S__P_impl_Basis_insert_dec.hd us 0)), (5, oR (.int 3) (LA.insW x0.2.2.2.2 x1))]⟩) { ts := [0, 4, 5, 6, 7, 30, 31, 32], os := [1, 2, 3, 5] } h (by kernel_rfl)
     exact ⟨i + 1, at_eq h (st_congr4 (fun (d0 : List (List Int)) (d1 : List Int) (d2 : Int) (d3 : Int) => (⟨[(0, aP 1 3), (4, aB false), (5, aS 5), (6, aI (LA.leadS (LA.redS x0.2.2.2.2 x1))), (7, aI d2), (30, aS 2), (31, aI ((List.length x0.2.2.2.2 : Nat) : Int)), (32, aI d3)], [(1, oX 30 [cI x0.1, cI x0.2.1, cI x0.2.2.1, cI x0.2.2.2.1, .sl 2]), (2, oR s39 d0), (3, oP 1 (S__P_impl_Basis_insert_dec.hd us 0)), (5, oR (.int 3) d1)]⟩ : St)) (show ((List.set (LA.elTo x0.2.2.2.2 (LA.insW x0.2.2.2.2 x1) (LA.leadS (LA.redS x0.2.2.2.2 x1)).toNat i) i (LA.addS ((LA.elTo x0.2.2.2.2 (LA.insW x0.2.2.2.2 x1) (LA.leadS (LA.redS x0.2.2.2.2 x1)).toNat i).getD i []) (LA.insW x0.2.2.2.2 x1) (1019 - (((LA.elTo x0.2.2.2.2 (LA.insW x0.2.2.2.2 x1) (LA.leadS (LA.redS x0.2.2.2.2 x1)).toNat i).getD i []).getD (((LA.leadS (LA.redS x0.2.2.2.2 x1))).toNat) 0)))) : List (List Int)) = (LA.elTo x0.2.2.2.2 (LA.insW x0.2.2.2.2 x1) (LA.leadS (LA.redS x0.2.2.2.2 x1)).toNat (i + 1)) from by first | with_reducible rfl | (first | exact LA.ins_b1 (by omega) (by assumption) | exact LA.ins_b0 (by omega) (by omega)) | rfl) (show ((LA.insW x0.2.2.2.2 x1) : List Int) = (LA.insW x0.2.2.2.2 x1) from by first | with_reducible rfl | (rfl) | rfl) (show (((i : Nat) : Int) + 1 : Int) = ((LA.atTo (LA.insE x0.2.2.2.2 x1) (LA.leadS (LA.redS x0.2.2.2.2 x1)) (i + 1) : Nat) : Int) from by first | with_reducible rfl | (first | (rw [LA.atTo_y (LA.at_b1 (by omega) (by assumption)) (by assumption)]; omega) | (rw [LA.atTo_y (LA.at_b0 (by omega) (by omega)) (by assumption)]; omega) | (rw [LA.atTo_n (LA.at_b1 (by omega) (by assumption)) (by assumption)]; done) | (rw [LA.atTo_n (LA.at_b0 (by omega) (by omega)) (by assumption)]; done)) | rfl) (show (((i : Nat) : Int) + 1 : Int) = (((i + 1) : Nat) : Int) from by first | with_reducible rfl | (omega) | rfl)), (by omega), (by omega)⟩
    ·replace h4 : ¬ ((LA.leadS (LA.addS ((LA.elTo x0.2.2.2.2 (LA.insW x0.2.2.2.2 x1) (LA.leadS (LA.redS x0.2.2.2.2 x1)).toNat i).getD i []) (LA.insW x0.2.2.2.2 x1) (1019 - (((LA.elTo x0.2.2.2.2 (LA.insW x0.2.2.2.2 x1) (LA.leadS (LA.redS x0.2.2.2.2 x1)).toNat i).getD i []).getD (((LA.leadS (LA.redS x0.2.2.2.2 x1))).toNat) 0)))) < (LA.leadS (LA.redS x0.2.2.2.2 x1))) := of_decide_eq_false h4
     refine wp_skip (in_normal (then_normal ?_))
     refine at_regq [{ nw := true }] { ts := [0, 4, 5, 6, 7, 30, 31, 32], os := [1, 2, 3, 5, 6] } [I64 (((i : Nat) : Int) + 1)] gamOK hT h (by kernel_rfl) ⟨⟨by first | omega | (simp only [lsA]; omega) | (simp <;> omega), by first | omega | (simp only [lsA]; omega) | (simp <;> omega)⟩, trivial⟩ fun a w h => ?_
     replace h := at_shut (σ' := ⟨[(0, aP 1 3), (4, aB false), (5, aS 5), (6, aI (LA.leadS (LA.redS x0.2.2.2.2 x1))), (7, aI ((LA.atTo (LA.insE x0.2.2.2.2 x1) (LA.leadS (LA.redS x0.2.2.2.2 x1)) i : Nat) : Int)), (30, aS 2), (31, aI ((List.length x0.2.2.2.2 : Nat) : Int)), (32, aI (((i : Nat) : Int) + 1))], [(1, oX 30 [cI x0.1, cI x0.2.1, cI x0.2.2.1, cI x0.2.2.2.1, .sl 2]), (2, oR s39 (List.set (LA.elTo x0.2.2.2.2 (LA.insW x0.2.2.2.2 x1) (LA.leadS (LA.redS x0.2.2.2.2 x1)).toNat i) i (LA.addS ((LA.elTo x0.2.2.2.2 (LA.insW x0.2.2.2.2 x1) (LA.leadS (LA.redS x0.2.2.2.2 x1)).toNat i).getD i []) (LA.insW x0.2.2.2.2 x1) (1019 - (((LA.elTo x0.2.2.2.2 (LA.insW x0.2.2.2.2 x1) (LA.leadS (LA.redS x0.2.2.2.2 x1)).toNat i).getD i []).getD (((LA.leadS (LA.redS x0.2.2.2.2 x1))).toNat) 0))))), (3, oP 1 (S__P_impl_Basis_insert_dec.hd us 0)), (5, oR (.int 3) (LA.insW x0.2.2.2.2 x1))]⟩) (ps := []) 2 { ts := [0, 4, 5, 6, 7, 30, 31, 32], os := [1, 2, 3, 5] } h (by kernel_rfl) trivial
     replace h := at_out (σ' := ⟨[(0, aP 1 3), (4, aB false), (5, aS 5), (6, aI (LA.leadS (LA.redS x0.2.2.2.2 x1))), (7, aI ((LA.atTo (LA.insE x0.2.2.2.2 x1) (LA.leadS (LA.redS x0.2.2.2.2 x1)) i : Nat) : Int)), (30, aS 2), (31, aI ((List.length x0.2.2.2.2 : Nat) : Int)), (32, aI (((i : Nat) : Int) + 1))], [(1, oX 30 [cI x0.1, cI x0.2.1, cI x0.2.2.1, cI x0.2.2.2.1, .sl 2]), (2, oR s39 (List.set (LA.elTo x0.2.2.2.2 (LA.insW x0.2.2.2.2 x1) (LA.leadS (LA.redS x0.2.2.2.2 x1)).toNat i) i (LA.addS ((LA.elTo x0.2.2.2.2 (LA.insW x0.2.2.2.2 x1) (LA.leadS (LA.redS x0.2.2.2.2 x1)).toNat i).getD i []) (LA.insW x0.2.2.2.2 x1) (1019 - (((LA.elTo x0.2.2.2.2 (LA.insW x0.2.2.2.2 x1) (LA.leadS (LA.redS x0.2.2.2.2 x1)).toNat i).getD i []).getD (((LA.leadS (LA.redS x0.2.2.2.2 x1))).toNat) 0))))), (3, oP 1 (S__P_impl_Basis_insert_dec.hd us 0)), (5, oR (.int 3) (LA.insW x0.2.2.2.2 x1))]⟩) { ts := [0, 4, 5, 6, 7, 30, 31, 32], os := [1, 2, 3, 5] } h (by kernel_rfl)
     exact ⟨i + 1, at_eq h (st_congr4 (fun (d0 : List (List Int)) (d1 : List Int) (d2 : Int) (d3 : Int) => (⟨[(0, aP 1 3), (4, aB false), (5, aS 5), (6, aI (LA.leadS (LA.redS x0.2.2.2.2 x1))), (7, aI d2), (30, aS 2), (31, aI ((List.length x0.2.2.2.2 : Nat) : Int)), (32, aI d3)], [(1, oX 30 [cI x0.1, cI x0.2.1, cI x0.2.2.1, cI x0.2.2.2.1, .sl 2]), (2, oR s39 d0), (3, oP 1 (S__P_impl_Basis_insert_dec.hd us 0)), (5, oR (.int 3) d1)]⟩ : St)) (show ((List.set (LA.elTo x0.2.2.2.2 (LA.insW x0.2.2.2.2 x1) (LA.leadS (LA.redS x0.2.2.2.2 x1)).toNat i) i (LA.addS ((LA.elTo x0.2.2.2.2 (LA.insW x0.2.2.2.2 x1) (LA.leadS (LA.redS x0.2.2.2.2 x1)).toNat i).getD i []) (LA.insW x0.2.2.2.2 x1) (1019 - (((LA.elTo x0.2.2.2.2 (LA.insW x0.2.2.2.2 x1) (LA.leadS (LA.redS x0.2.2.2.2 x1)).toNat i).getD i []).getD (((LA.leadS (LA.redS x0.2.2.2.2 x1))).toNat) 0)))) : List (List Int)) = (LA.elTo x0.2.2.2.2 (LA.insW x0.2.2.2.2 x1) (LA.leadS (LA.redS x0.2.2.2.2 x1)).toNat (i + 1)) from by first | with_reducible rfl | (first | exact LA.ins_b1 (by omega) (by assumption) | exact LA.ins_b0 (by omega) (by omega)) | rfl) (show ((LA.insW x0.2.2.2.2 x1) : List Int) = (LA.insW x0.2.2.2.2 x1) from by first | with_reducible rfl | (rfl) | rfl) (show (((LA.atTo (LA.insE x0.2.2.2.2 x1) (LA.leadS (LA.redS x0.2.2.2.2 x1)) i : Nat) : Int) : Int) = ((LA.atTo (LA.insE x0.2.2.2.2 x1) (LA.leadS (LA.redS x0.2.2.2.2 x1)) (i + 1) : Nat) : Int) from by first | with_reducible rfl | (first | (rw [LA.atTo_y (LA.at_b1 (by omega) (by assumption)) (by assumption)]; omega) | (rw [LA.atTo_y (LA.at_b0 (by omega) (by omega)) (by assumption)]; omega) | (rw [LA.atTo_n (LA.at_b1 (by omega) (by assumption)) (by assumption)]; done) | (rw [LA.atTo_n (LA.at_b0 (by omega) (by omega)) (by assumption)]; done)) | rfl) (show (((i : Nat) : Int) + 1 : Int) = (((i + 1) : Nat) : Int) from by first | with_reducible rfl | (omega) | rfl)), (by omega), (by omega)⟩
   ·replace h3 : (((LA.elTo x0.2.2.2.2 (LA.insW x0.2.2.2.2 x1) (LA.leadS (LA.redS x0.2.2.2.2 x1)).toNat i).getD i []).getD (((LA.leadS (LA.redS x0.2.2.2.2 x1))).toNat) 0) = 0 := of_decide_eq_true (notF h3)
    refine wp_skip (then_normal (wp_seq ?_))
    refine at_regq [] { ts := [0, 4, 5, 6, 7, 8, 30, 31, 32, 51], os := [1, 2, 3, 5, 6] } [Q_impl_LeadingIndex ((LA.elTo x0.2.2.2.2 (LA.insW x0.2.2.2.2 x1) (LA.leadS (LA.redS x0.2.2.2.2 x1)).toNat i).getD i [])] gamOK hT h (by kernel_rfl) ⟨(by first | exact fitV hrd (by omega) | exact fitV hrk (by omega) | exact Sh.fit_len rfl (by rw [LA.addS_len (by omega)]; omega)), trivial⟩ fun a w h => then_normal ?_
    refine at_test (decide ((LA.leadS ((LA.elTo x0.2.2.2.2 (LA.insW x0.2.2.2.2 x1) (LA.leadS (LA.redS x0.2.2.2.2 x1)).toNat i).getD i [])) < (LA.leadS (LA.redS x0.2.2.2.2 x1)))) h (by kernel_rfl) (fun h5 => ?_) (fun h5 => ?_)
    ·replace h5 : (LA.leadS ((LA.elTo x0.2.2.2.2 (LA.insW x0.2.2.2.2 x1) (LA.leadS (LA.redS x0.2.2.2.2 x1)).toNat i).getD i [])) < (LA.leadS (LA.redS x0.2.2.2.2 x1)) := of_decide_eq_true h5
     refine at_regq [{}, { nw := true }] { ts := [0, 4, 5, 6, 7, 30, 31, 32], os := [1, 2, 3, 5, 6] } [I64 (((i : Nat) : Int) + 1)] gamOK hT h (by kernel_rfl) ⟨⟨by first | omega | (simp only [lsA]; omega) | (simp <;> omega), by first | omega | (simp only [lsA]; omega) | (simp <;> omega)⟩, trivial⟩ fun a w h => in_normal (then_normal ?_)
     refine at_regq [{ nw := true }] { ts := [0, 4, 5, 6, 7, 30, 31, 32], os := [1, 2, 3, 5, 6] } [I64 (((i : Nat) : Int) + 1)] gamOK hT h (by kernel_rfl) ⟨⟨by first | omega | (simp only [lsA]; omega) | (simp <;> omega), by first | omega | (simp only [lsA]; omega) | (simp <;> omega)⟩, trivial⟩ fun a w h => ?_
     replace h := at_shut (σ' := ⟨[(0, aP 1 3), (4, aB false), (5, aS 5), (6, aI (LA.leadS (LA.redS x0.2.2.2.2 x1))), (7, aI (((i : Nat) : Int) + 1)), (30, aS 2), (31, aI ((List.length x0.2.2.2.2 : Nat) : Int)), (32, aI (((i : Nat) : Int) + 1))], [(1, oX 30 [cI x0.1, cI x0.2.1, cI x0.2.2.1, cI x0.2.2.2.1, .sl 2]), (2, oR s39 (List.set (LA.elTo x0.2.2.2.2 (LA.insW x0.2.2.2.2 x1) (LA.leadS (LA.redS x0.2.2.2.2 x1)).toNat i) i ((LA.elTo x0.2.2.2.2 (LA.insW x0.2.2.2.2 x1) (LA.leadS (LA.redS x0.2.2.2.2 x1)).toNat i).getD i []))), (3, oP 1 (S__P_impl_Basis_insert_dec.hd us 0)), (5, oR (.int 3) (LA.insW x0.2.2.2.2 x1))]⟩) (ps := []) 2 { ts := [0, 4, 5, 6, 7, 30, 31, 32], os := [1, 2, 3, 5] } h (by kernel_rfl) trivial
     replace h := at_out (σ' := ⟨[(0, aP 1 3), (4, aB false), (5, aS 5), (6, aI (LA.leadS (LA.redS x0.2.2.2.2 x1))), (7, aI (((i : Nat) : Int) + 1)), (30, aS 2), (31, aI ((List.length x0.2.2.2.2 : Nat) : Int)), (32, aI (((i : Nat) : Int) + 1))], [(1, oX 30 [cI x0.1, cI x0.2.1, cI x0.2.2.1, cI x0.2.2.2.1, .sl 2]), (2, oR s39 (List.set (LA.elTo x0.2.2.2.2 (LA.insW x0.2.2.2.2 x1) (LA.leadS (LA.redS x0.2.2.2.2 x1)).toNat i) i ((LA.elTo x0.2.2.2.2 (LA.insW x0.2.2.2.2 x1) (LA.leadS (LA.redS x0.2.2.2.2 x1)).toNat i).getD i []))), (3, oP 1 (S__P_impl_Basis_insert_dec.hd us 0)), (5, oR (.int 3) (LA.insW x0.2.2.2.2 x1))]⟩) { ts := [0, 4, 5, 6, 7, 30, 31, 32], os := [1, 2, 3, 5] } h (by kernel_rfl)
     exact ⟨i + 1, at_eq h (st_congr4 (fun (d0 : List (List Int)) (d1 : List Int) (d2 : Int) (d3 : Int) => (⟨[(0, aP 1 3), (4, aB false), (5, aS 5), (6, aI (LA.leadS (LA.redS x0.2.2.2.2 x1))), (7, aI d2), (30, aS 2), (31, aI ((List.length x0.2.2.2.2 : Nat) : Int)), (32, aI d3)], [(1, oX 30 [cI x0.1, cI x0.2.1, cI x0.2.2.1, cI x0.2.2.2.1, .sl 2]), (2, oR s39 d0), (3, oP 1 (S__P_impl_Basis_insert_dec.hd us 0)), (5, oR (.int 3) d1)]⟩ : St)) (show ((List.set (LA.elTo x0.2.2.2.2 (LA.insW x0.2.2.2.2 x1) (LA.leadS (LA.redS x0.2.2.2.2 x1)).toNat i) i ((LA.elTo x0.2.2.2.2 (LA.insW x0.2.2.2.2 x1) (LA.leadS (LA.redS x0.2.2.2.2 x1)).toNat i).getD i [])) : List (List Int)) = (LA.elTo x0.2.2.2.2 (LA.insW x0.2.2.2.2 x1) (LA.leadS (LA.redS x0.2.2.2.2 x1)).toNat (i + 1)) from by first | with_reducible rfl | (first | exact LA.ins_b1 (by omega) (by assumption) | exact LA.ins_b0 (by omega) (by omega)) | rfl) (show ((LA.insW x0.2.2.2.2 x1) : List Int) = (LA.insW x0.2.2.2.2 x1) from by first | with_reducible rfl | (rfl) | rfl) (show (((i : Nat) : Int) + 1 : Int) = ((LA.atTo (LA.insE x0.2.2.2.2 x1) (LA.leadS (LA.redS x0.2.2.2.2 x1)) (i + 1) : Nat) : Int) from by first | with_reducible rfl | (first | (rw [LA.atTo_y (LA.at_b1 (by omega) (by assumption)) (by assumption)]; omega) | (rw [LA.atTo_y (LA.at_b0 (by omega) (by omega)) (by assumption)]; omega) | (rw [LA.atTo_n (LA.at_b1 (by omega) (by assumption)) (by assumption)]; done) | (rw [LA.atTo_n (LA.at_b0 (by omega) (by omega)) (by assumption)]; done)) | rfl) (show (((i : Nat) : Int) + 1 : Int) = (((i + 1) : Nat) : Int) from by first | with_reducible rfl | (omega) | rfl)), (by omega), (by omega)⟩
    ·replace h5 : ¬ ((LA.leadS ((LA.elTo x0.2.2.2.2 (LA.insW x0.2.2.2.2 x1) (LA.leadS (LA.redS x0.2.2.2.2 x1)).toNat i).getD i [])) < (LA.leadS (LA.redS x0.2.2.2.2 x1))) := of_decide_eq_false h5
     refine wp_skip (in_normal (then_normal ?_))
     refine at_regq [{ nw := true }] { ts := [0, 4, 5, 6, 7, 30, 31, 32], os := [1, 2, 3, 5, 6] } [I64 (((i : Nat) : Int) + 1)] gamOK hT h (by kernel_rfl) ⟨⟨by first | omega | (simp only [lsA]; omega) | (simp <;> omega), by first | omega | (simp only [lsA]; omega) | (simp <;> omega)⟩, trivial⟩ fun a w h => ?_
     replace h := at_shut (σ' := ⟨[(0, aP 1 3), (4, aB false), (5, aS 5), (6, aI (LA.leadS (LA.redS x0.2.2.2.2 x1))), (7, aI ((LA.atTo (LA.insE x0.2.2.2.2 x1) (LA.leadS (LA.redS x0.2.2.2.2 x1)) i : Nat) : Int)), (30, aS 2), (31, aI ((List.length x0.2.2.2.2 : Nat) : Int)), (32, aI (((i : Nat) : Int) + 1))], [(1, oX 30 [cI x0.1, cI x0.2.1, cI x0.2.2.1, cI x0.2.2.2.1, .sl 2]), (2, oR s39 (List.set (LA.elTo x0.2.2.2.2 (LA.insW x0.2.2.2.2 x1) (LA.leadS (LA.redS x0.2.2.2.2 x1)).toNat i) i ((LA.elTo x0.2.2.2.2 (LA.insW x0.2.2.2.2 x1) (LA.leadS (LA.redS x0.2.2.2.2 x1)).toNat i).getD i []))), (3, oP 1 (S__P_impl_Basis_insert_dec.hd us 0)), (5, oR (.int 3) (LA.insW x0.2.2.2.2 x1))]⟩) (ps := []) 2 { ts := [0, 4, 5, 6, 7, 30, 31, 32], os := [1, 2, 3, 5] } h (by kernel_rfl) trivial
     replace h := at_out (σ' := ⟨[(0, aP 1 3), (4, aB false), (5, aS 5), (6, aI (LA.leadS (LA.redS x0.2.2.2.2 x1))), (7, aI ((LA.atTo (LA.insE x0.2.2.2.2 x1) (LA.leadS (LA.redS x0.2.2.2.2 x1)) i : Nat) : Int)), (30, aS 2), (31, aI ((List.length x0.2.2.2.2 : Nat) : Int)), (32, aI (((i : Nat) : Int) + 1))], [(1, oX 30 [cI x0.1, cI x0.2.1, cI x0.2.2.1, cI x0.2.2.2.1, .sl 2]), (2, oR s39 (List.set (LA.elTo x0.2.2.2.2 (LA.insW x0.2.2.2.2 x1) (LA.leadS (LA.redS x0.2.2.2.2 x1)).toNat i) i ((LA.elTo x0.2.2.2.2 (LA.insW x0.2.2.2.2 x1) (LA.leadS (LA.redS x0.2.2.2.2 x1)).toNat i).getD i []))), (3, oP 1 (S__P_impl_Basis_insert_dec.hd us 0)), (5, oR (.int 3) (LA.insW x0.2.2.2.2 x1))]⟩) { ts := [0, 4, 5, 6, 7, 30, 31, 32], os := [1, 2, 3, 5] } h (by kernel_rfl)
     exact ⟨i + 1, at_eq h (st_congr4 (fun (d0 : List (List Int)) (d1 : List Int) (d2 : Int) (d3 : Int) => (⟨[(0, aP 1 3), (4, aB false), (5, aS 5), (6, aI (LA.leadS (LA.redS x0.2.2.2.2 x1))), (7, aI d2), (30, aS 2), (31, aI ((List.length x0.2.2.2.2 : Nat) : Int)), (32, aI d3)], [(1, oX 30 [cI x0.1, cI x0.2.1, cI x0.2.2.1, cI x0.2.2.2.1, .sl 2]), (2, oR s39 d0), (3, oP 1 (S__P_impl_Basis_insert_dec.hd us 0)), (5, oR (.int 3) d1)]⟩ : St)) (show ((List.set (LA.elTo x0.2.2.2.2 (LA.insW x0.2.2.2.2 x1) (LA.leadS (LA.redS x0.2.2.2.2 x1)).toNat i) i ((LA.elTo x0.2.2.2.2 (LA.insW x0.2.2.2.2 x1) (LA.leadS (LA.redS x0.2.2.2.2 x1)).toNat i).getD i [])) : List (List Int)) = (LA.elTo x0.2.2.2.2 (LA.insW x0.2.2.2.2 x1) (LA.leadS (LA.redS x0.2.2.2.2 x1)).toNat (i + 1)) from by first | with_reducible rfl | (first | exact LA.ins_b1 (by omega) (by assumption) | exact LA.ins_b0 (by omega) (by omega)) | rfl) (show ((LA.insW x0.2.2.2.2 x1) : List Int) = (LA.insW x0.2.2.2.2 x1) from by first | with_reducible rfl | (rfl) | rfl) (show (((LA.atTo (LA.insE x0.2.2.2.2 x1) (LA.leadS (LA.redS x0.2.2.2.2 x1)) i : Nat) : Int) : Int) = ((LA.atTo (LA.insE x0.2.2.2.2 x1) (LA.leadS (LA.redS x0.2.2.2.2 x1)) (i + 1) : Nat) : Int) from by first | with_reducible rfl | (first | (rw [LA.atTo_y (LA.at_b1 (by omega) (by assumption)) (by assumption)]; omega) | (rw [LA.atTo_y (LA.at_b0 (by omega) (by omega)) (by assumption)]; omega) | (rw [LA.atTo_n (LA.at_b1 (by omega) (by assumption)) (by assumption)]; done) | (rw [LA.atTo_n (LA.at_b0 (by omega) (by omega)) (by assumption)]; done)) | rfl) (show (((i : Nat) : Int) + 1 : Int) = (((i + 1) : Nat) : Int) from by first | with_reducible rfl | (omega) | rfl)), (by omega), (by omega)⟩
  ·replace h2 : ¬ (((i : Nat) : Int) < ((List.length x0.2.2.2.2 : Nat) : Int)) := of_decide_eq_false h2
   refine wp_exit (then_exit ?_)
   replace h := at_out (σ' := ⟨[(0, aP 1 3), (4, aB false), (5, aS 5), (7, aI ((LA.atTo (LA.insE x0.2.2.2.2 x1) (LA.leadS (LA.redS x0.2.2.2.2 x1)) i : Nat) : Int))], [(1, oX 30 [cI x0.1, cI x0.2.1, cI x0.2.2.1, cI x0.2.2.2.1, .sl 2]), (2, oR s39 (LA.elTo x0.2.2.2.2 (LA.insW x0.2.2.2.2 x1) (LA.leadS (LA.redS x0.2.2.2.2 x1)).toNat i)), (3, oP 1 (S__P_impl_Basis_insert_dec.hd us 0)), (5, oR (.int 3) (LA.insW x0.2.2.2.2 x1))]⟩) { ts := [0, 4, 5, 7], os := [1, 2, 3, 5] } h (by kernel_rfl)
   replace h := at_eq (σ' := ⟨[(0, aP 1 3), (4, aB false), (5, aS 5), (7, aI ((LA.atTo (LA.insE x0.2.2.2.2 x1) (LA.leadS (LA.redS x0.2.2.2.2 x1)) (List.length x0.2.2.2.2) : Nat) : Int))], [(1, oX 30 [cI x0.1, cI x0.2.1, cI x0.2.2.1, cI x0.2.2.2.1, .sl 2]), (2, oR s39 (LA.insE x0.2.2.2.2 x1)), (3, oP 1 (S__P_impl_Basis_insert_dec.hd us 0)), (5, oR (.int 3) (LA.insW x0.2.2.2.2 x1))]⟩) h (st_congr2 (fun (d0 : List (List Int)) (d1 : Int) => (⟨[(0, aP 1 3), (4, aB false), (5, aS 5), (7, aI d1)], [(1, oX 30 [cI x0.1, cI x0.2.1, cI x0.2.2.1, cI x0.2.2.2.1, .sl 2]), (2, oR s39 d0), (3, oP 1 (S__P_impl_Basis_insert_dec.hd us 0)), (5, oR (.int 3) (LA.insW x0.2.2.2.2 x1))]⟩ : St)) (show ((LA.elTo x0.2.2.2.2 (LA.insW x0.2.2.2.2 x1) (LA.leadS (LA.redS x0.2.2.2.2 x1)).toNat i) : List (List Int)) = (LA.insE x0.2.2.2.2 x1) from by first | with_reducible rfl | (exact LA.elTo_all (by omega)) | rfl) (show (((LA.atTo (LA.insE x0.2.2.2.2 x1) (LA.leadS (LA.redS x0.2.2.2.2 x1)) i : Nat) : Int) : Int) = ((LA.atTo (LA.insE x0.2.2.2.2 x1) (LA.leadS (LA.redS x0.2.2.2.2 x1)) (List.length x0.2.2.2.2) : Nat) : Int) from by first | with_reducible rfl | (rw [show i = List.length x0.2.2.2.2 by omega]) | rfl))
   have hal := LA.atTo_le (LA.insE x0.2.2.2.2 x1) (LA.leadS (LA.redS x0.2.2.2.2 x1)) (List.length x0.2.2.2.2)
   refine then_exit (in_hit (then_normal (wp_seq ?_)))
   refine at_regq [{}, {}, {}, {}, {}, {}, {}, { ids := [7] }, { ids := [8] }] { ts := [4], os := [1, 3, 8] } [(fun (x0 : List (List Int)) (x1 : Int) (x2 : List (List Int)) => (0 ≤ x1 ∧ x1 ≤ ((List.length x0 : Nat) : Int)) ∧ 0 < List.length x2 ∧ (List.length x0 + List.length x2) * 24 ≤ 140737488355328) (LA.insE x0.2.2.2.2 x1) ((LA.atTo (LA.insE x0.2.2.2.2 x1) (LA.leadS (LA.redS x0.2.2.2.2 x1)) (List.length x0.2.2.2.2) : Nat) : Int) ([(LA.insW x0.2.2.2.2 x1)])] gamOK hT h (by kernel_rfl) ⟨(by exact ⟨⟨by omega, by first | omega | (rw [show List.length (LA.insE x0.2.2.2.2 x1) = List.length x0.2.2.2.2 from by simp [LA.insE]]; omega)⟩, by simp, by simp [LA.insE]; omega⟩), trivial⟩ fun a w h => then_normal (wp_seq ?_)
   refine at_regq [] { ts := [4], os := [1, 3, 8] } [] gamOK hT h (by kernel_rfl) trivial fun a w h => then_normal (wp_ret ?_)
   exact at_returnI (S := S__P_impl_Basis_insert_dec) (x := (x0, x1, ())) [1, 2] [3] ((x0.1, (x0.2.1, (x0.2.2.1, (x0.2.2.2.1, (D_slices_Insert_S_S_int_S_int_ (LA.insE x0.2.2.2.2 x1) ((LA.atTo (LA.insE x0.2.2.2.2 x1) (LA.leadS (LA.redS x0.2.2.2.2 x1)) (List.length x0.2.2.2.2) : Nat) : Int) ([(LA.insW x0.2.2.2.2 x1)])))))), (x1, ())) (some (true, ())) [S__P_impl_Basis_insert_dec.hd us 0 = S__P_impl_Basis_insert_dec.hd us 0] hio h (by kernel_rfl) ⟨rfl, trivial⟩ (by first | rfl | exact congrArg (fun (z : T30) => (z, (x1, ()))) (show ((x0.1, (x0.2.1, (x0.2.2.1, (x0.2.2.2.1, (D_slices_Insert_S_S_int_S_int_ (LA.insE x0.2.2.2.2 x1) ((LA.atTo (LA.insE x0.2.2.2.2 x1) (LA.leadS (LA.redS x0.2.2.2.2 x1)) (List.length x0.2.2.2.2) : Nat) : Int) ([(LA.insW x0.2.2.2.2 x1)])))))) : T30) = insUD x0 x1 from by (unfold insUD insU; first | (rw [LA.insS_no (by assumption)]; done) | (rw [LA.insS_yes (by assumption)]; rfl)))) (fun z e => (Option.some.inj e) ▸ (congrArg (fun z => (z, ())) (show (true) = insDq x0 x1 from by (unfold insDq insD; first | (rw [LA.insS_no (by assumption)]; done) | (rw [LA.insS_yes (by assumption)]; done)))))

abbrev Q__P_impl_Decoder_add := (fun (x0 : T30) (x1 : T41) => Sh.fit s30 x0 ∧ Sh.fit s41 x1 ∧ validD x0 = true)
def S__P_impl_Decoder_add : Sum := { fid := 42, dom := [s30, s41], cod := [(.bool 4)], dp := true, fz := false, pre := fun x => Q__P_impl_Decoder_add x.1 x.2.1, g := fun x => ((addOKD x.1 x.2.1), ()), kinds := [(.bx 30 0), .rd], upd := fun x => (addUD x.1 x.2.1, (x.2.1, ())) }
def S__P_impl_Decoder_add_tab : List (Nat × Sum) := [(65, S_impl_IsValidPacket), (80, S_impl_PacketRow), (79, S__impl_Basis_reduce), (78, S_impl_LeadingIndex), (59, S_impl_InRange), (100007, S__P_impl_Basis_insert_dec)]
theorem S__P_impl_Decoder_add_ok : FnOK Tryz.prog 42 S__P_impl_Decoder_add := by
 refine at_enterI 48 [1, 2] [3] (fun us x => ⟨[(0, aP 1 0), (1, aG [cI x.2.1.1, .ro (.int 3) x.2.1.2.1, .ro (.int 3) x.2.1.2.2])], [(1, oX 30 [cI x.1.1, cI x.1.2.1, cI x.1.2.2.1, cI x.1.2.2.2.1, .sl 2]), (2, oR s39 x.1.2.2.2.2), (3, oP 1 (S__P_impl_Decoder_add.hd us 0))]⟩) Tryz.func42 rfl (by kernel_rfl) (fun us x => rfl) ?_
 rintro w0 Z0 us ⟨x0, x1, u⟩ L a w
 revert x0 x1
 intro (x0 : T30) (x1 : T41) hio hpre hlens h
 replace h : At w0 Z0 L 48 ⟨[(0, aP 1 0), (1, aG [cI x1.1, .ro (.int 3) x1.2.1, .ro (.int 3) x1.2.2])], [(1, oX 30 [cI x0.1, cI x0.2.1, cI x0.2.2.1, cI x0.2.2.2.1, .sl 2]), (2, oR s39 x0.2.2.2.2), (3, oP 1 (S__P_impl_Decoder_add.hd us 0))]⟩ a w := h
 replace hpre : Q__P_impl_Decoder_add x0 x1 := hpre
 have hT : TabOK Tryz.prog S__P_impl_Decoder_add_tab := (.cons S_impl_IsValidPacket_ok (.cons S_impl_PacketRow_ok (.cons S__impl_Basis_reduce_ok (.cons S_impl_LeadingIndex_ok (.cons S_impl_InRange_ok (.cons S__P_impl_Basis_insert_dec_ok .nil))))))
 obtain ⟨hf0, hf1, hpx⟩ := hpre
 have hn0_1 : List.length x0.2.2.2.2 ≤ 1073741824 := hf0.2.2.2.2.1
 have hn1_2 : List.length x1.2.1 ≤ 1073741824 := hf1.2.1.1
 have hn1_3 : List.length x1.2.2 ≤ 1073741824 := hf1.2.2.1
 have hdv := validD_t hpx
 have hdr := hdv.1
 have hdw := hdv.2.2.1
 refine wp_seq ?_
 refine at_regq [{ ids := [4] }] { ts := [0, 3, 4], os := [1, 2, 3, 4] } [] gamOK hT h (by kernel_rfl) trivial fun a w h => then_normal (wp_seq (wp_seq ?_))
 rcases Bool.eq_false_or_eq_true (!(validP x1 x0.2.1 x0.2.2.1)) with h1 | h1
 ·have hzh1 : (validP x1 x0.2.1 x0.2.2.1) = false := notT h1
  refine at_anyq [{}, {}, {}, {}, {}, {}, {}, {}, {}, {}, { hint := some (aB true) }, {}, {}, {}, {}, {}, {}, {}, {}, {}] { ts := [0, 3, 4, 25], os := [1, 2, 3, 4] } [Q_impl_IsValidPacket x1 x0.2.1 x0.2.2.1, (AV.p (.c (.v (.bool (!(validP x1 x0.2.1 x0.2.2.1))))) = AV.p (.c (.v (.bool true))))] gamOK hT mixed h (by kernel_rfl) ⟨(by exact hf1), hint_bool (h1), trivial⟩ fun a w h => then_normal ?_
  refine at_test true h (by kernel_rfl) (fun hh => ?_) (fun hh => nomatch hh)
  refine wp_seq ?_
  refine at_regq [] { ts := [0, 3, 4], os := [1, 2, 3, 4] } [] gamOK hT h (by kernel_rfl) trivial fun a w h => then_normal (wp_ret (then_ret ?_))
  exact at_returnI (S := S__P_impl_Decoder_add) (x := (x0, x1, ())) [1, 2] [3] (x0, (x1, ())) (some (false, ())) [S__P_impl_Decoder_add.hd us 0 = S__P_impl_Decoder_add.hd us 0] hio h (by kernel_rfl) ⟨rfl, trivial⟩ (by first | rfl | exact congrArg (fun (z : T30) => (z, (x1, ()))) (show (x0 : T30) = addUD x0 x1 from by (first | (rw [addUD_no (addOKD_f (by first | (left; assumption) | (right; left; omega) | (right; right; assumption)))]; done) | (rw [addUD_yes hpx (addOKD_t (by assumption) (by omega) (by assumption))]; done)))) (fun z e => (Option.some.inj e) ▸ (congrArg (fun z => (z, ())) (show (false) = addOKD x0 x1 from by (first | exact (addOKD_f (by first | (left; assumption) | (right; left; omega) | (right; right; assumption))).symm | (rw [insDq_y hpx (by assumption) (by assumption)]; exact (addOKD_t (by assumption) (by omega) (by assumption)).symm)))))
 ·have hzh1 : (validP x1 x0.2.1 x0.2.2.1) = true := notF h1
  have hvh1 := validP_n (notF h1)
  have hrw := addRow hpx (p := x1) (by first | exact notF h1 | exact h1)
  have hrd := LA.redS_rng hrw.1.2 hrw.2
  have hw0 := hrw.1.1
  have hrl := hrw.2.1
  rw [List.length_append] at hrl
  refine at_anyq [{}, {}, {}, {}, {}, {}, {}, {}, {}, {}, { hint := some (aB false) }, {}, {}, {}, {}, {}, {}, {}, {}, {}] { ts := [0, 3, 4, 25], os := [1, 2, 3, 4] } [Q_impl_IsValidPacket x1 x0.2.1 x0.2.2.1, (AV.p (.c (.v (.bool (!(validP x1 x0.2.1 x0.2.2.1))))) = AV.p (.c (.v (.bool false))))] gamOK hT mixed h (by kernel_rfl) ⟨(by exact hf1), hint_bool (h1), trivial⟩ fun a w h => then_normal ?_
  refine at_test (!decide (x1.1 = x0.1)) h (by kernel_rfl) (fun h2 => ?_) (fun h2 => ?_)
  ·replace h2 : ¬ (x1.1 = x0.1) := of_decide_eq_false (notT h2)
   refine wp_seq ?_
   refine at_regq [] { ts := [0, 3, 4], os := [1, 2, 3, 4] } [] gamOK hT h (by kernel_rfl) trivial fun a w h => then_normal (wp_ret (then_ret ?_))
   exact at_returnI (S := S__P_impl_Decoder_add) (x := (x0, x1, ())) [1, 2] [3] (x0, (x1, ())) (some (false, ())) [S__P_impl_Decoder_add.hd us 0 = S__P_impl_Decoder_add.hd us 0] hio h (by kernel_rfl) ⟨rfl, trivial⟩ (by first | rfl | exact congrArg (fun (z : T30) => (z, (x1, ()))) (show (x0 : T30) = addUD x0 x1 from by (first | (rw [addUD_no (addOKD_f (by first | (left; assumption) | (right; left; omega) | (right; right; assumption)))]; done) | (rw [addUD_yes hpx (addOKD_t (by assumption) (by omega) (by assumption))]; done)))) (fun z e => (Option.some.inj e) ▸ (congrArg (fun z => (z, ())) (show (false) = addOKD x0 x1 from by (first | exact (addOKD_f (by first | (left; assumption) | (right; left; omega) | (right; right; assumption))).symm | (rw [insDq_y hpx (by assumption) (by assumption)]; exact (addOKD_t (by assumption) (by omega) (by assumption)).symm)))))
  ·replace h2 : x1.1 = x0.1 := of_decide_eq_true (notF h2)
   refine wp_skip (then_normal (wp_seq ?_))
   refine at_anyq [{}, {}, {}, {}, {}, { ids := [5] }, { ids := [6] }, {}] { ts := [0, 4, 5], os := [1, 2, 3, 6] } [Q_impl_PacketRow x1, Q__impl_Basis_reduce x0.2.2.2 (x1.2.1 ++ x1.2.2)] gamOK hT mixed h (by kernel_rfl) ⟨(by exact hf1), (by exact ⟨hf0.2.2.2, fitV hrw.2 (by omega), hrw⟩), trivial⟩ fun a w h => then_normal (wp_seq ?_)
   rcases Bool.eq_false_or_eq_true ((inR (LA.leadS (LA.redS x0.2.2.2.2 (x1.2.1 ++ x1.2.2))) 0 (x0.2.1 - 1))) with h3 | h3
   ·have hvh3 := inR_t h3
    refine at_anyq [{}, {}, {}, {}, {}, {}, { nw := true }, { hint := some (aB true) }, {}, {}, {}, {}, {}, { ids := [7], key := some 100007 }, {}, {}] { ts := [4], os := [1, 3, 7] } [Q_impl_LeadingIndex (LA.redS x0.2.2.2.2 (x1.2.1 ++ x1.2.2)), I64 (x0.2.1 - 1), True, (AV.p (.c (.v (.bool ((inR (LA.leadS (LA.redS x0.2.2.2.2 (x1.2.1 ++ x1.2.2))) 0 (x0.2.1 - 1)))))) = AV.p (.c (.v (.bool true)))), Q__P_impl_Basis_insert_dec x0 (LA.redS x0.2.2.2.2 (x1.2.1 ++ x1.2.2))] gamOK hT mixed h (by kernel_rfl) ⟨(by exact fitV hrd (by omega)), ⟨by first | omega | (simp only [lsA]; omega) | (simp <;> omega), by first | omega | (simp only [lsA]; omega) | (simp <;> omega)⟩, trivial, hint_bool (h3), (by exact ⟨hf0, fitV hrd (by omega), hrw.1, hrd⟩), trivial⟩ fun a w h => then_normal (wp_ret ?_)
    exact at_returnI (S := S__P_impl_Decoder_add) (x := (x0, x1, ())) [1, 2] [3] ((insUD x0 (LA.redS x0.2.2.2.2 (x1.2.1 ++ x1.2.2))), (x1, ())) (some ((insDq x0 (LA.redS x0.2.2.2.2 (x1.2.1 ++ x1.2.2))), ())) [S__P_impl_Decoder_add.hd us 0 = S__P_impl_Decoder_add.hd us 0] hio h (by kernel_rfl) ⟨rfl, trivial⟩ (by first | rfl | exact congrArg (fun (z : T30) => (z, (x1, ()))) (show ((insUD x0 (LA.redS x0.2.2.2.2 (x1.2.1 ++ x1.2.2))) : T30) = addUD x0 x1 from by (first | (rw [addUD_no (addOKD_f (by first | (left; assumption) | (right; left; omega) | (right; right; assumption)))]; done) | (rw [addUD_yes hpx (addOKD_t (by assumption) (by omega) (by assumption))]; done)))) (fun z e => (Option.some.inj e) ▸ (congrArg (fun z => (z, ())) (show ((insDq x0 (LA.redS x0.2.2.2.2 (x1.2.1 ++ x1.2.2)))) = addOKD x0 x1 from by (first | exact (addOKD_f (by first | (left; assumption) | (right; left; omega) | (right; right; assumption))).symm | (rw [insDq_y hpx (by assumption) (by assumption)]; exact (addOKD_t (by assumption) (by omega) (by assumption)).symm)))))
   ·have hvh3 := inR_f h3
    refine at_anyq [{}, {}, {}, {}, {}, {}, { nw := true }, { hint := some (aB false) }, {}, {}, {}, {}, {}, {}, {}, {}] { ts := [4], os := [1, 2, 3] } [Q_impl_LeadingIndex (LA.redS x0.2.2.2.2 (x1.2.1 ++ x1.2.2)), I64 (x0.2.1 - 1), True, (AV.p (.c (.v (.bool ((inR (LA.leadS (LA.redS x0.2.2.2.2 (x1.2.1 ++ x1.2.2))) 0 (x0.2.1 - 1)))))) = AV.p (.c (.v (.bool false))))] gamOK hT mixed h (by kernel_rfl) ⟨(by exact fitV hrd (by omega)), ⟨by first | omega | (simp only [lsA]; omega) | (simp <;> omega), by first | omega | (simp only [lsA]; omega) | (simp <;> omega)⟩, trivial, hint_bool (h3), trivial⟩ fun a w h => then_normal (wp_ret ?_)
    exact at_returnI (S := S__P_impl_Decoder_add) (x := (x0, x1, ())) [1, 2] [3] (x0, (x1, ())) (some (false, ())) [S__P_impl_Decoder_add.hd us 0 = S__P_impl_Decoder_add.hd us 0] hio h (by kernel_rfl) ⟨rfl, trivial⟩ (by first | rfl | exact congrArg (fun (z : T30) => (z, (x1, ()))) (show (x0 : T30) = addUD x0 x1 from by (first | (rw [addUD_no (addOKD_f (by first | (left; assumption) | (right; left; omega) | (right; right; assumption)))]; done) | (rw [addUD_yes hpx (addOKD_t (by assumption) (by omega) (by assumption))]; done)))) (fun z e => (Option.some.inj e) ▸ (congrArg (fun z => (z, ())) (show (false) = addOKD x0 x1 from by (first | exact (addOKD_f (by first | (left; assumption) | (right; left; omega) | (right; right; assumption))).symm | (rw [insDq_y hpx (by assumption) (by assumption)]; exact (addOKD_t (by assumption) (by omega) (by assumption)).symm)))))

abbrev Q_impl_AddPacket := (fun (x0 : T30) (x1 : T41) => Sh.fit s30 x0 ∧ Sh.fit s41 x1)
def S_impl_AddPacket : Sum := { fid := 14, dom := [s30, s41], cod := [s30, (.bool 4)], dp := true, fz := false, pre := fun x => Q_impl_AddPacket x.1 x.2.1, g := fun x => ((addPk x.1 x.2.1).1, ((addPk x.1 x.2.1).2, ())) }
def S_impl_AddPacket_tab : List (Nat × Sum) := [(40, S__impl_Decoder_clone), (41, S_impl_IsValidDecoder), (42, S__P_impl_Decoder_add)]
theorem S_impl_AddPacket_ok : FnOK Tryz.prog 14 S_impl_AddPacket := by
 refine at_enter 18 (fun x => ⟨[(0, aG [cI x.1.1, cI x.1.2.1, cI x.1.2.2.1, cI x.1.2.2.2.1, .ro s39 x.1.2.2.2.2]), (1, aG [cI x.2.1.1, .ro (.int 3) x.2.1.2.1, .ro (.int 3) x.2.1.2.2])], []⟩) Tryz.func14 rfl (by kernel_rfl) (fun x => rfl) ?_
 rintro w0 Z0 ⟨x0, x1, u⟩ a w
 revert x0 x1
 intro (x0 : T30) (x1 : T41) hpre hlens h
 replace hpre : Q_impl_AddPacket x0 x1 := hpre
 have hT : TabOK Tryz.prog S_impl_AddPacket_tab := (.cons S__impl_Decoder_clone_ok (.cons S_impl_IsValidDecoder_ok (.cons S__P_impl_Decoder_add_ok .nil)))
 obtain ⟨hf0, hf1⟩ := hpre
 have hn0_1 : List.length x0.2.2.2.2 ≤ 1073741824 := hf0.2.2.2.2.1
 have hn1_2 : List.length x1.2.1 ≤ 1073741824 := hf1.2.1.1
 have hn1_3 : List.length x1.2.2 ≤ 1073741824 := hf1.2.2.1
 refine wp_seq ?_
 refine at_regq [{ ids := [1] }, { ids := [2] }, { ids := [3] }] { ts := [2, 3, 4, 5], os := [1, 2, 3] } [] gamOK hT h (by kernel_rfl) trivial fun a w h => then_normal (wp_seq ?_)
 refine at_regq [{}, { ids := [4] }, { ids := [5] }] { ts := [2, 3, 4, 5, 6], os := [1, 2, 3, 4, 5] } [Q__impl_Decoder_clone x0] gamOK hT h (by kernel_rfl) ⟨(by exact hf0), trivial⟩ fun a w h => then_normal (wp_seq ?_)
 rcases Bool.eq_false_or_eq_true ((validD x0)) with h1 | h1
 ·have hvh1 := validD_t h1
  refine at_regq [{}, { hint := some (aB true) }, {}, {}, { ids := [6] }] { ts := [4, 5, 6, 7], os := [3, 5, 6] } [Q_impl_IsValidDecoder x0, (AV.p (.c (.v (.bool ((validD x0))))) = AV.p (.c (.v (.bool true)))), Q__P_impl_Decoder_add x0 x1] gamOK hT h (by kernel_rfl) ⟨(by exact hf0), hint_bool (h1), (by exact ⟨hf0, hf1, by assumption⟩), trivial⟩ fun a w h => then_normal (wp_seq ?_)
  refine at_regq [] { ts := [4, 5], os := [3, 6] } [] gamOK hT h (by kernel_rfl) trivial fun a w h => then_normal (wp_ret ?_)
  exact at_return ((addUD x0 x1), ((addOKD x0 x1), ())) [] h (by kernel_rfl) trivial (congrArg (fun z => (z.1, z.2, ())) (show (((addUD x0 x1), (addOKD x0 x1))) = addPk x0 x1 from by first | exact addPk_y (by assumption) | exact addPk_n (by left; assumption) | (have hq := addPk_y (d := x0) (p := x1) (by assumption); simp_all)))
 ·refine at_regq [{}, { hint := some (aB false) }] { ts := [4, 5, 6, 7], os := [3, 4, 5] } [Q_impl_IsValidDecoder x0, (AV.p (.c (.v (.bool ((validD x0))))) = AV.p (.c (.v (.bool false))))] gamOK hT h (by kernel_rfl) ⟨(by exact hf0), hint_bool (h1), trivial⟩ fun a w h => then_normal (wp_seq ?_)
  refine at_regq [] { ts := [4, 5], os := [3, 4] } [] gamOK hT h (by kernel_rfl) trivial fun a w h => then_normal (wp_ret ?_)
  exact at_return (x0, (false, ())) [] h (by kernel_rfl) trivial (congrArg (fun z => (z.1, z.2, ())) (show ((x0, false)) = addPk x0 x1 from by first | exact addPk_y (by assumption) | exact addPk_n (by left; assumption) | (have hq := addPk_y (d := x0) (p := x1) (by assumption); simp_all)))

abbrev Q_spec_AddPacket := (fun (x0 : T30) (x1 : T41) => Sh.fit s30 x0 ∧ Sh.fit s41 x1)
def S_spec_AddPacket : Sum := { fid := 61, dom := [s30, s41], cod := [s30, (.bool 4)], dp := false, fz := false, pre := fun x => Q_spec_AddPacket x.1 x.2.1, g := fun x => ((addPk x.1 x.2.1).1, ((addPk x.1 x.2.1).2, ())) }
def S_spec_AddPacket_tab : List (Nat × Sum) := [(98, S_spec_l14Copy), (99, S_spec_IsValidDecoder), (100, S_spec_IsValidPacket), (102, S_spec_ReduceVector), (101, S_spec_LeadingIndex), (92, S_spec_l1In), (103, S_spec_InsertVector)]
theorem S_spec_AddPacket_ok : FnOK Tryz.prog 61 S_spec_AddPacket := by
 refine at_enter 61 (fun x => ⟨[(0, aG [cI x.1.1, cI x.1.2.1, cI x.1.2.2.1, cI x.1.2.2.2.1, .ro s39 x.1.2.2.2.2]), (1, aG [cI x.2.1.1, .ro (.int 3) x.2.1.2.1, .ro (.int 3) x.2.1.2.2])], []⟩) Tryz.func61 rfl (by kernel_rfl) (fun x => rfl) ?_
 rintro w0 Z0 ⟨x0, x1, u⟩ a w
 revert x0 x1
 intro (x0 : T30) (x1 : T41) hpre hlens h
 replace hpre : Q_spec_AddPacket x0 x1 := hpre
 have hT : TabOK Tryz.prog S_spec_AddPacket_tab := (.cons S_spec_l14Copy_ok (.cons S_spec_IsValidDecoder_ok (.cons S_spec_IsValidPacket_ok (.cons S_spec_ReduceVector_ok (.cons S_spec_LeadingIndex_ok (.cons S_spec_l1In_ok (.cons S_spec_InsertVector_ok .nil)))))))
 obtain ⟨hf0, hf1⟩ := hpre
 have hn0_1 : List.length x0.2.2.2.2 ≤ 1073741824 := hf0.2.2.2.2.1
 have hn1_2 : List.length x1.2.1 ≤ 1073741824 := hf1.2.1.1
 have hn1_3 : List.length x1.2.2 ≤ 1073741824 := hf1.2.2.1
 refine wp_seq ?_
 refine at_regq [{ ids := [1] }, { ids := [2] }, { ids := [3] }] { ts := [2, 3, 4, 5], os := [1, 2, 3] } [] gamOK hT h (by kernel_rfl) trivial fun a w h => then_normal (wp_seq ?_)
 refine at_regq [{}, { ids := [4] }, { ids := [5] }] { ts := [2, 3, 4, 5, 6], os := [1, 2, 3, 4, 5] } [Q_spec_l14Copy x0] gamOK hT h (by kernel_rfl) ⟨(by exact hf0), trivial⟩ fun a w h => then_normal (wp_seq (wp_seq ?_))
 rcases Bool.eq_false_or_eq_true (!(validD x0)) with h1 | h1
 ·have hzh1 : (validD x0) = false := notT h1
  refine at_regq [{}, {}, { hint := some (aB true) }] { ts := [2, 3, 4, 5, 6, 30], os := [1, 2, 3, 4, 5] } [Q_spec_IsValidDecoder x0, (AV.p (.c (.v (.bool (!(validD x0))))) = AV.p (.c (.v (.bool true))))] gamOK hT h (by kernel_rfl) ⟨(by exact hf0), hint_bool (h1), trivial⟩ fun a w h => then_normal ?_
  refine at_test true h (by kernel_rfl) (fun hh => ?_) (fun hh => nomatch hh)
  refine wp_seq ?_
  refine at_regq [] { ts := [2, 3, 4, 5, 6], os := [1, 2, 3, 4, 5] } [] gamOK hT h (by kernel_rfl) trivial fun a w h => then_normal (wp_ret (then_ret ?_))
  exact at_return (x0, (false, ())) [] h (by kernel_rfl) trivial (congrArg (fun z => (z.1, z.2, ())) (show ((x0, false)) = addPk x0 x1 from by first | exact addPk_n (by first | (left; assumption) | (right; exact addOKD_f (by first | (left; assumption) | (right; left; omega) | (right; right; rw [← hrv]; assumption)))) | exact addPk_s (by assumption) (by assumption) (by omega) (by rw [← hrv]; assumption)))
 ·have hzh1 : (validD x0) = true := notF h1
  have hvh1 := validD_t (notF h1)
  rcases Bool.eq_false_or_eq_true (!(validP x1 x0.2.1 x0.2.2.1)) with h2 | h2
  ·have hzh2 : (validP x1 x0.2.1 x0.2.2.1) = false := notT h2
   refine at_regq [{}, {}, { hint := some (aB false) }, {}, {}, {}, {}, {}, {}, {}, { hint := some (aB true) }] { ts := [2, 3, 4, 5, 6, 30], os := [1, 2, 3, 4, 5] } [Q_spec_IsValidDecoder x0, (AV.p (.c (.v (.bool (!(validD x0))))) = AV.p (.c (.v (.bool false)))), Q_spec_IsValidPacket x1 x0.2.1 x0.2.2.1, (AV.p (.c (.v (.bool (!(validP x1 x0.2.1 x0.2.2.1))))) = AV.p (.c (.v (.bool true))))] gamOK hT h (by kernel_rfl) ⟨(by exact hf0), hint_bool (h1), (by exact hf1), hint_bool (h2), trivial⟩ fun a w h => then_normal ?_
   refine at_test true h (by kernel_rfl) (fun hh => ?_) (fun hh => nomatch hh)
   refine wp_seq ?_
   refine at_regq [] { ts := [2, 3, 4, 5, 6], os := [1, 2, 3, 4, 5] } [] gamOK hT h (by kernel_rfl) trivial fun a w h => then_normal (wp_ret (then_ret ?_))
   exact at_return (x0, (false, ())) [] h (by kernel_rfl) trivial (congrArg (fun z => (z.1, z.2, ())) (show ((x0, false)) = addPk x0 x1 from by first | exact addPk_n (by first | (left; assumption) | (right; exact addOKD_f (by first | (left; assumption) | (right; left; omega) | (right; right; rw [← hrv]; assumption)))) | exact addPk_s (by assumption) (by assumption) (by omega) (by rw [← hrv]; assumption)))
  ·have hzh2 : (validP x1 x0.2.1 x0.2.2.1) = true := notF h2
   have hvh2 := validP_n (notF h2)
   have hrw := addRow (d := x0) (p := x1) (by assumption) (by first | exact notF h2 | exact h2)
   have hrd := LA.redS_rng hrw.1.2 hrw.2
   have hw0 := hrw.1.1
   have hrl := hrw.2.1
   rw [List.length_append] at hrl
   have hrv : D_spec_ReduceVector x0.2.2.2 ([] ++ x1.2.1 ++ x1.2.2) = LA.redS x0.2.2.2.2 (x1.2.1 ++ x1.2.2) := if_pos (takesB_of hrw)
   refine at_regq [{}, {}, { hint := some (aB false) }, {}, {}, {}, {}, {}, {}, {}, { hint := some (aB false) }] { ts := [2, 3, 4, 5, 6, 30], os := [1, 2, 3, 4, 5] } [Q_spec_IsValidDecoder x0, (AV.p (.c (.v (.bool (!(validD x0))))) = AV.p (.c (.v (.bool false)))), Q_spec_IsValidPacket x1 x0.2.1 x0.2.2.1, (AV.p (.c (.v (.bool (!(validP x1 x0.2.1 x0.2.2.1))))) = AV.p (.c (.v (.bool false))))] gamOK hT h (by kernel_rfl) ⟨(by exact hf0), hint_bool (h1), (by exact hf1), hint_bool (h2), trivial⟩ fun a w h => then_normal ?_
   refine at_test (!decide (x1.1 = x0.1)) h (by kernel_rfl) (fun h3 => ?_) (fun h3 => ?_)
   ·replace h3 : ¬ (x1.1 = x0.1) := of_decide_eq_false (notT h3)
    refine wp_seq ?_
    refine at_regq [] { ts := [2, 3, 4, 5, 6], os := [1, 2, 3, 4, 5] } [] gamOK hT h (by kernel_rfl) trivial fun a w h => then_normal (wp_ret (then_ret ?_))
    exact at_return (x0, (false, ())) [] h (by kernel_rfl) trivial (congrArg (fun z => (z.1, z.2, ())) (show ((x0, false)) = addPk x0 x1 from by first | exact addPk_n (by first | (left; assumption) | (right; exact addOKD_f (by first | (left; assumption) | (right; left; omega) | (right; right; rw [← hrv]; assumption)))) | exact addPk_s (by assumption) (by assumption) (by omega) (by rw [← hrv]; assumption)))
   ·replace h3 : x1.1 = x0.1 := of_decide_eq_true (notF h3)
    refine wp_skip (then_normal (wp_seq ?_))
    refine at_anyq [{ ids := [6], dp := false }, {}, {}, { ids := [7], dp := false }, {}, {}, { ids := [8], dp := false }, {}] { ts := [2, 4, 5, 6, 7], os := [1, 3, 4, 5, 8] } [(List.length ([] : List Int) + List.length x1.2.1) * 8 ≤ 140737488355328, (List.length (([] : List Int) ++ x1.2.1) + List.length x1.2.2) * 8 ≤ 140737488355328] gamOK hT mixed h (by kernel_rfl) ⟨(by first | omega | (simp only [lsA]; omega) | (simp <;> omega)), (by first | omega | (simp only [lsA]; omega) | (simp <;> omega)), trivial⟩ fun a w h => then_normal (wp_seq (wp_seq ?_))
    refine at_anyq [{}, {}, {}, { ids := [9] }, {}, {}, {}, { nw := true }, {}, {}] { ts := [2, 4, 5, 6, 7, 48], os := [1, 3, 4, 5, 8] } [Q_spec_ReduceVector x0.2.2.2 ((([] : List Int) ++ x1.2.1) ++ x1.2.2), Q_spec_LeadingIndex (D_spec_ReduceVector x0.2.2.2 ((([] : List Int) ++ x1.2.1) ++ x1.2.2)), I64 (x0.2.1 - 1), True] gamOK hT mixed h (by kernel_rfl) ⟨(by exact ⟨hf0.2.2.2, fitV hrw.2 (by omega)⟩), (by (rw [hrv]; exact fitV hrd (by omega))), ⟨by first | omega | (simp only [lsA]; omega) | (simp <;> omega), by first | omega | (simp only [lsA]; omega) | (simp <;> omega)⟩, trivial, trivial⟩ fun a w h => then_normal ?_
    refine at_test (!(inR (LA.leadS (D_spec_ReduceVector x0.2.2.2 ((([] : List Int) ++ x1.2.1) ++ x1.2.2))) 0 (x0.2.1 - 1))) h (by kernel_rfl) (fun h4 => ?_) (fun h4 => ?_)
    ·replace h4 : (inR (LA.leadS (D_spec_ReduceVector x0.2.2.2 ((([] : List Int) ++ x1.2.1) ++ x1.2.2))) 0 (x0.2.1 - 1)) = false := notT h4
     have hvh4 := inR_f h4
     refine wp_seq ?_
     refine at_regq [] { ts := [2, 4, 5, 6, 7], os := [1, 3, 4, 5, 8] } [] gamOK hT h (by kernel_rfl) trivial fun a w h => then_normal (wp_ret (then_ret ?_))
     exact at_return (x0, (false, ())) [] h (by kernel_rfl) trivial (congrArg (fun z => (z.1, z.2, ())) (show ((x0, false)) = addPk x0 x1 from by first | exact addPk_n (by first | (left; assumption) | (right; exact addOKD_f (by first | (left; assumption) | (right; left; omega) | (right; right; rw [← hrv]; assumption)))) | exact addPk_s (by assumption) (by assumption) (by omega) (by rw [← hrv]; assumption)))
    ·replace h4 : (inR (LA.leadS (D_spec_ReduceVector x0.2.2.2 ((([] : List Int) ++ x1.2.1) ++ x1.2.2))) 0 (x0.2.1 - 1)) = true := notF h4
     have hvh4 := inR_t h4
     refine wp_skip (then_normal (wp_seq ?_))
     replace h := at_out (σ' := ⟨[(2, aP 1 0), (4, aP 3 0), (5, aB false), (6, aP 5 0), (7, aF (.int 3) ((([] : List Int) ++ x1.2.1) ++ x1.2.2))], [(1, oX 30 [cI x0.1, cI x0.2.1, cI x0.2.2.1, cI x0.2.2.2.1, .ro s39 x0.2.2.2.2]), (3, oX 30 [cI 0, cI 0, cI 0, cI 0, cN]), (4, oF s39 x0.2.2.2.2), (5, oX 30 [cI x0.1, cI x0.2.1, cI x0.2.2.1, cI x0.2.2.2.1, .sl 4])]⟩) { fz := [8], ts := [2, 4, 5, 6, 7], os := [1, 3, 4, 5] } h (by kernel_rfl)
     refine at_regq [{}, {}, {}, { ids := [10] }, {}, {}, {}, { ids := [11] }] { ts := [4, 5, 6, 8, 9], os := [3, 4, 5, 10, 11] } [Q_spec_InsertVector x0.2.2.2 ((([] : List Int) ++ x1.2.1) ++ x1.2.2)] gamOK hT h (by kernel_rfl) ⟨(by exact ⟨hf0.2.2.2, fitV hrw.2 (by omega)⟩), trivial⟩ fun a w h => then_normal (wp_seq ?_)
     refine at_regq [] { ts := [4, 5, 6, 9], os := [3, 5, 10] } [] gamOK hT h (by kernel_rfl) trivial fun a w h => then_normal (wp_seq ?_)
     refine at_regq [] { ts := [4, 5], os := [3, 10] } [] gamOK hT h (by kernel_rfl) trivial fun a w h => then_normal (wp_ret ?_)
     exact at_return ((x0.1, (x0.2.1, (x0.2.2.1, (insV x0.2.2.2 ((([] : List Int) ++ x1.2.1) ++ x1.2.2)).1))), ((insV x0.2.2.2 ((([] : List Int) ++ x1.2.1) ++ x1.2.2)).2, ())) [] h (by kernel_rfl) trivial (congrArg (fun z => (z.1, z.2, ())) (show (((x0.1, (x0.2.1, (x0.2.2.1, (insV x0.2.2.2 ((([] : List Int) ++ x1.2.1) ++ x1.2.2)).1))), (insV x0.2.2.2 ((([] : List Int) ++ x1.2.1) ++ x1.2.2)).2)) = addPk x0 x1 from by first | exact addPk_n (by first | (left; assumption) | (right; exact addOKD_f (by first | (left; assumption) | (right; left; omega) | (right; right; rw [← hrv]; assumption)))) | exact addPk_s (by assumption) (by assumption) (by omega) (by rw [← hrv]; assumption)))

def rndN (x0 : Int) (x1 : Int) (x2 : Int) : Int := (if (inR x2 1 1000000000000) = true then (Int.tmod (Int.tmod ((keyed x0 ([x1, 71])) * (keyed x0 ([x1, 71]))) 2147483647) x2) else 0)
def S_impl_RandomNumber : Sum := { fid := 111, dom := [(.int 3), (.int 3), (.int 3)], cod := [(.int 3)], dp := true, fz := false, pre := fun x => True, g := fun x => ((rndN x.1 x.2.1 x.2.2.1), ()) }
def S_impl_RandomNumber_tab : List (Nat × Sum) := [(59, S_impl_InRange), (112, S_impl_KeyedHash)]
theorem S_impl_RandomNumber_ok : FnOK Tryz.prog 111 S_impl_RandomNumber := by
 refine at_enter 21 (fun x => ⟨[(0, aI x.1), (1, aI x.2.1), (2, aI x.2.2.1)], []⟩) Tryz.func111 rfl (by kernel_rfl) (fun x => rfl) ?_
 rintro w0 Z0 ⟨x0, x1, x2, u⟩ a w
 revert x0 x1 x2
 intro (x0 : Int) (x1 : Int) (x2 : Int) hpre hlens h
 have hT : TabOK Tryz.prog S_impl_RandomNumber_tab := (.cons S_impl_InRange_ok (.cons S_impl_KeyedHash_ok .nil))
 have hkb := keyed_bd x0 ([x1, 71])
 refine wp_seq ?_
 refine at_regq [] { ts := [0, 1, 2, 6], os := [] } [] gamOK hT h (by kernel_rfl) trivial fun a w h => then_normal (wp_seq (wp_seq ?_))
 refine at_regq [] { ts := [0, 1, 2, 6, 10], os := [] } [True] gamOK hT h (by kernel_rfl) ⟨trivial, trivial⟩ fun a w h => then_normal ?_
 refine at_test (!(inR x2 1 1000000000000)) h (by kernel_rfl) (fun h1 => ?_) (fun h1 => ?_)
 ·replace h1 : (inR x2 1 1000000000000) = false := notT h1
  have hvh1 := inR_f h1
  refine wp_seq ?_
  refine at_regq [] { ts := [0, 1, 2, 6], os := [] } [] gamOK hT h (by kernel_rfl) trivial fun a w h => then_normal (wp_ret (then_ret ?_))
  exact at_return (0, ()) [] h (by kernel_rfl) trivial (congrArg (fun z => (z, ())) (show (0) = rndN x0 x1 x2 from by first | rfl | (unfold rndN; rw [if_neg (neT h1)])))
 ·replace h1 : (inR x2 1 1000000000000) = true := notF h1
  have hvh1 := inR_t h1
  refine wp_skip (then_normal (wp_seq ?_))
  refine at_regq [{}, {}, { ids := [1] }] { ts := [2, 6, 7], os := [] } [pKey x0 ([x1, 71])] gamOK hT h (by kernel_rfl) ⟨(by (show _ ≤ _; simp)), trivial⟩ fun a w h => then_normal (wp_seq ?_)
  refine at_regq [{}, {}, { nw := true }] { ts := [6], os := [] } [I64 ((keyed x0 ([x1, 71])) * (keyed x0 ([x1, 71]))), (2147483647 : Int) ≠ 0, (x2 : Int) ≠ 0] gamOK hT h (by kernel_rfl) ⟨⟨by (have hA0 := mul_f (keyed x0 ([x1, 71])) (keyed x0 ([x1, 71])); first | omega | (simp only [lsA]; omega) | (simp <;> omega)), by (have hA0 := mul_f (keyed x0 ([x1, 71])) (keyed x0 ([x1, 71])); first | omega | (simp only [lsA]; omega) | (simp <;> omega))⟩, (by first | omega | (simp only [lsA]; omega) | (simp <;> omega)), (by first | omega | (simp only [lsA]; omega) | (simp <;> omega)), trivial⟩ fun a w h => then_normal (wp_ret ?_)
  exact at_return ((Int.tmod (Int.tmod ((keyed x0 ([x1, 71])) * (keyed x0 ([x1, 71]))) 2147483647) x2), ()) [] h (by kernel_rfl) trivial (congrArg (fun z => (z, ())) (show ((Int.tmod (Int.tmod ((keyed x0 ([x1, 71])) * (keyed x0 ([x1, 71]))) 2147483647) x2)) = rndN x0 x1 x2 from by first | rfl | (unfold rndN; rw [if_pos h1])))
theorem rndN_el (s i : Int) : LA.El (rndN s i 1019) := by
 have hkb := keyed_bd s ([i, 71])
 have hm := mul_f (keyed s ([i, 71])) (keyed s ([i, 71]))
 have h1 := tmod_f (keyed s ([i, 71]) * keyed s ([i, 71])) 2147483647 (by decide)
 have h2 := tmod_f ((keyed s ([i, 71]) * keyed s ([i, 71])).tmod 2147483647) 1019 (by decide)
 unfold rndN LA.El
 rw [if_pos (show inR 1019 1 1000000000000 = true from rfl)]
 omega
def unitL (n : Nat) (k : Int) : List Int := (List.range n).map fun (j : Nat) => if (j : Int) = k then 1 else 0
theorem unitL_snoc (n : Nat) (k : Int) : unitL (n + 1) k = unitL n k ++ [if (n : Int) = k then 1 else 0] := by unfold unitL; rw [List.range_succ, List.map_append]; rfl
theorem unitL_len (n : Nat) (k : Int) : (unitL n k).length = n := by simp [unitL]
theorem unitL_set {n : Nat} {k : Int} (h0 : 0 ≤ k) (h : k < n) : List.set (List.replicate n (0 : Int)) k.toNat 1 = unitL n k := by
 apply List.ext_getElem
 ·simp [unitL]
 ·intro i h1 h2
  rw [List.getElem_set]
  simp only [unitL, List.getElem_map, List.getElem_range, List.getElem_replicate]
  by_cases e : k.toNat = i
  ·rw [if_pos e, if_pos (by omega)]
  ·rw [if_neg e, if_neg (by omega)]
def unitV (w i : Int) : List Int := if inR w 0 40 = true ∧ inR i 0 (w - 1) = true then unitL w.toNat i else []
theorem unitV_y {w i : Int} (h : inR w 0 40 = true) (h2 : inR i 0 (w - 1) = true) : unitL w.toNat i = unitV w i := (if_pos ⟨h, h2⟩).symm
theorem unitV_n {w i : Int} (h : inR w 0 40 = false ∨ inR i 0 (w - 1) = false) : [] = unitV w i := by
 unfold unitV; rw [if_neg]
 rintro ⟨h1, h2⟩
 rcases h with h | h
 ·rw [h1] at h; cases h
 ·rw [h2] at h; cases h
theorem unitV_len (w i : Int) : (unitV w i).length ≤ 40 := by
 unfold unitV; split
 ·rename_i h; rw [unitL_len]; have := inR_t h.1; omega
 ·exact Nat.zero_le _
theorem unitL_ok (n : Nat) (k : Int) : LA.VokB n (unitL n k) := ⟨unitL_len n k, fun x hx => by
 obtain ⟨j, _, rfl⟩ := List.mem_map.1 hx
 unfold LA.El; split <;> omega⟩
def rndL (s : Int) (n : Nat) : List Int := (List.range n).map fun (j : Nat) => rndN s (j : Int) 1019
theorem rndL_snoc (s : Int) (n : Nat) : rndL s (n + 1) = rndL s n ++ [rndN s (n : Int) 1019] := by unfold rndL; rw [List.range_succ, List.map_append]; rfl
theorem rndL_len (s : Int) (n : Nat) : (rndL s n).length = n := by simp [rndL]
theorem rndL_at {s : Int} {n i : Nat} (h : i < n) : (rndL s n).getD i 0 = rndN s (i : Int) 1019 := by rw [getD_of_lt (by rw [rndL_len]; exact h)]; simp [rndL]
theorem rndL_zero (s : Int) (n : Nat) : List.replicate n (0 : Int) = copyTo 0 (rndL s n) 0 := by
 have e := copyTo_zero (z := (0 : Int)) (xs := rndL s n)
 rw [rndL_len] at e; exact e
theorem rndL_set {s : Int} {n i : Nat} (h : i < n) : (copyTo 0 (rndL s n) i).set i (rndN s (i : Int) 1019) = copyTo 0 (rndL s n) (i + 1) := by
 rw [← rndL_at h]; exact copyTo_set (by rw [rndL_len]; exact h)
def rndS (s w : Int) : List Int := if inR w 1 40 = true then rndL s w.toNat else []
theorem rndS_len (s w : Int) : (rndS s w).length ≤ 40 := by
 unfold rndS; split
 ·rename_i h; rw [rndL_len]; have := inR_t h; omega
 ·exact Nat.zero_le _
theorem rndS_eq {s w : Int} {i : Nat} (h : i = 0 ∨ ((i : Int) ≤ w ∧ inR w 1 40 = true)) (he : ¬ (i : Int) < w ∨ inR w 1 40 = false) : rndL s i = rndS s w := by
 unfold rndS
 cases hi : inR w 1 40 with
 | true =>
  rw [if_pos rfl]
  have hw := inR_t hi
  rcases he with he | he
  ·congr 1; omega
  ·rw [hi] at he; cases he
 | false =>
  rw [if_neg (by decide)]
  rcases h with h | h
  ·subst h; rfl
  ·rw [hi] at h; cases h.2
def rndV (s w : Int) : List Int := if 0 < (rndS s w).length ∧ LA.leadS (rndS s w) < 0 then (rndS s w).set 0 1 else rndS s w
theorem rndV_1 {s w : Int} (h : inR w 1 40 = true) (h2 : LA.leadS (rndL s w.toNat) < 0) : (rndL s w.toNat).set 0 1 = rndV s w := by
 unfold rndV rndS; rw [if_pos h, if_pos ⟨by rw [rndL_len]; have := inR_t h; omega, h2⟩]
theorem rndV_2 {s w : Int} (h : inR w 1 40 = true) (h2 : ¬ LA.leadS (rndL s w.toNat) < 0) : rndL s w.toNat = rndV s w := by
 unfold rndV rndS; rw [if_pos h, if_neg (fun e => h2 e.2)]
theorem rndV_0 {s w : Int} (h : inR w 1 40 = false) : [] = rndV s w := by
 unfold rndV rndS; rw [h]; simp
theorem rndV_len (s w : Int) : (rndV s w).length ≤ 40 := by
 have := rndS_len s w
 unfold rndV; split
 ·rw [List.length_set]; exact this
 ·exact this
theorem rndV_at {s w : Int} (h : 1 ≤ w ∧ w ≤ 40) : (rndV s w).length = w.toNat := by
 have e : rndS s w = rndL s w.toNat := if_pos (inR_true h)
 unfold rndV; rw [e]; split
 ·rw [List.length_set, rndL_len]
 ·rw [rndL_len]
theorem rndV_ok {s w : Int} (h : 1 ≤ w ∧ w ≤ 40) : LA.VokB w.toNat (rndV s w) := by
 refine ⟨rndV_at h, fun x hx => ?_⟩
 have e : rndS s w = rndL s w.toNat := if_pos (inR_true h)
 have hl : ∀ y ∈ rndL s w.toNat, LA.El y := fun y hy => by
  obtain ⟨j, _, rfl⟩ := List.mem_map.1 hy
  exact rndN_el _ _
 unfold rndV at hx; rw [e] at hx
 split at hx
 ·rcases List.mem_or_eq_of_mem_set hx with hx | hx
  ·exact hl x hx
  ·rw [hx]; unfold LA.El; omega
 ·exact hl x hx
def combTo (vs : List (List Int)) (cs : List Int) : Nat → List Int
 | 0 => List.replicate (vs.getD 0 []).length 0
 | i + 1 => LA.addS (combTo vs cs i) (vs.getD i []) (cs.getD i 0)
def combS (vs : List (List Int)) (cs : List Int) : List Int := combTo vs cs vs.length
abbrev cvB (vs : List (List Int)) (v : List Int) : Bool := validV v && decide (v.length = (vs.getD 0 []).length)
theorem cvB_ok {vs : List (List Int)} {v : List Int} (h : cvB vs v = true) : LA.VokB (vs.getD 0 []).length v := by
 unfold cvB at h; rw [Bool.and_eq_true] at h
 exact ⟨of_decide_eq_true h.2, (validV_t h.1).2.1⟩
theorem cvB_40 {vs : List (List Int)} {v : List Int} (h : cvB vs v = true) : (vs.getD 0 []).length ≤ 40 := by
 unfold cvB at h; rw [Bool.and_eq_true] at h
 have h1 := of_decide_eq_true h.2
 have := (validV_t h.1).1; omega
theorem combTo_ok {n : Nat} {vs : List (List Int)} {cs : List Int} (hn : (vs.getD 0 []).length = n) (hc : ∀ j, 0 ≤ cs.getD j 0 ∧ cs.getD j 0 ≤ 1018) : ∀ i, (∀ j, j < i → LA.VokB n (vs.getD j [])) → LA.VokB n (combTo vs cs i)
 | 0, _ => by
  refine ⟨by simp only [combTo]; rw [List.length_replicate, hn], fun x hx => ?_⟩
  simp only [combTo] at hx
  rw [(List.mem_replicate.1 hx).2]; unfold LA.El; omega
 | i + 1, h => (LA.addS_ok (combTo_ok hn hc i (fun j hj => h j (by omega))) (h i (by omega)) (hc i)).1
def combV (vs : List (List Int)) (cs : List Int) : List Int := if (¬ vs.length = 0 ∧ vs.length = cs.length) ∧ validV cs = true ∧ vs.all (cvB vs) = true then combS vs cs else []
theorem combV_y {vs : List (List Int)} {cs : List Int} (h1 : ¬ vs.length = 0) (h2 : vs.length = cs.length) (h3 : validV cs = true) (h4 : vs.all (cvB vs) = true) : combS vs cs = combV vs cs := (if_pos ⟨⟨h1, h2⟩, h3, h4⟩).symm
theorem combV_n {vs : List (List Int)} {cs : List Int} (h : vs.length = 0 ∨ ¬ vs.length = cs.length ∨ validV cs = false ∨ vs.all (cvB vs) = false) : [] = combV vs cs := by
 unfold combV; rw [if_neg]
 rintro ⟨⟨h1, h2⟩, h3, h4⟩
 rcases h with h | h | h | h
 ·exact h1 h
 ·exact h h2
 ·rw [h3] at h; cases h
 ·rw [h4] at h; cases h
theorem combV_len (vs : List (List Int)) (cs : List Int) : (combV vs cs).length ≤ 40 := by
 unfold combV; split
 ·rename_i h
  have hp := List.all_eq_true.1 h.2.2
  have h0 := hp _ (getD_mem (z := []) (show 0 < vs.length by have := h.1.1; omega))
  have := (combTo_ok (n := (vs.getD 0 []).length) (cs := cs) rfl (validV_t h.2.1).2.2 vs.length (fun j hj => cvB_ok (hp _ (getD_mem hj)))).1
  have := cvB_40 h0
  unfold combS; omega
 ·exact Nat.zero_le _
theorem combV_pos {vs : List (List Int)} {cs : List Int} (h : ¬ (combV vs cs).length = 0) : 0 < vs.length := by
 rcases Nat.eq_zero_or_pos vs.length with h0 | h0
 ·rw [← combV_n (.inl h0)] at h; exact absurd rfl h
 ·exact h0
def combP (vs : List (List Int)) (cs : List Int) : Prop := (0 < vs.length ∧ vs.length ≤ cs.length ∧ (vs.getD 0 []).length ≤ 40) ∧ (∀ j, j < vs.length → LA.VokB (vs.getD 0 []).length (vs.getD j [])) ∧ ∀ j, 0 ≤ cs.getD j 0 ∧ cs.getD j 0 ≤ 1018
def pays (ps : List T41) : List (List Int) := ps.map fun p => p.2.2
theorem pays_len (ps : List T41) : (pays ps).length = ps.length := by simp [pays]
theorem pays_snoc (ps : List T41) (p : T41) : pays (ps ++ [p]) = pays ps ++ [p.2.2] := by simp [pays]
theorem fit_pays {ps : List T41} (h : Sh.fit s33 ps) : Sh.fit s24 (pays ps) := ⟨by rw [pays_len]; exact h.1, fun v hv => by
 obtain ⟨p, hp, rfl⟩ := List.mem_map.1 hv
 exact (h.2 p hp).2.2⟩
def genB0 (ps : List T41) (p : T41) : Bool := decide (p.1 = (ps.getD 0 (0, ([], []))).1)
def comP (ps : List T41) (cs : List Int) : T41 × Bool := if ps.all (fun p => decide (p.1 = (ps.getD 0 (0, ([], []))).1)) = true ∧ ¬ (combV (cofs ps) cs).length = 0 ∧ ¬ (combV (pays ps) cs).length = 0 then (((ps.getD 0 (0, ([], []))).1, combV (cofs ps) cs, combV (pays ps) cs), true) else ((0, [], []), false)
theorem comP_y {ps : List T41} {cs : List Int} (h1 : ps.all (fun p => decide (p.1 = (ps.getD 0 (0, ([], []))).1)) = true) (h2 : ¬ (combV (cofs ps) cs).length = 0) (h3 : ¬ (combV (pays ps) cs).length = 0) : (((ps.getD 0 (0, ([], []))).1, combV (cofs ps) cs, combV (pays ps) cs), true) = comP ps cs := (if_pos ⟨h1, h2, h3⟩).symm
theorem comP_n {ps : List T41} {cs : List Int} (h : ps.all (fun p => decide (p.1 = (ps.getD 0 (0, ([], []))).1)) = false ∨ (combV (cofs ps) cs).length = 0 ∨ (combV (pays ps) cs).length = 0) : ((0, [], []), false) = comP ps cs := by
 unfold comP; rw [if_neg]
 rintro ⟨h1, h2, h3⟩
 rcases h with h | h | h
 ·rw [h1] at h; cases h
 ·exact h2 h
 ·exact h3 h
theorem comP_sz (ps : List T41) (cs : List Int) : Sh.sz s41 (comP ps cs).1 ≤ 80 := by
 unfold comP; split
 ·show 0 + (Sh.sz s39 _ + Sh.sz s39 _) ≤ 80
  rw [sz_flat (by rfl), sz_flat (by rfl)]
  have := combV_len (cofs ps) cs; have := combV_len (pays ps) cs
  dsimp only; omega
 ·exact Nat.zero_le _
def recNo (r : T35) : Bool := decide (List.length r.2.2.2.1 = 0) || decide (r.2.2.2.2 = 1000000000000)
def recD (r : T35) (s : Int) : T41 × Bool := if recNo r = true then ((0, [], []), false) else comP r.2.2.2.1 (rndV (keyed s ([r.1, r.2.2.2.2])) ((List.length r.2.2.2.1 : Nat) : Int))
def recU (r : T35) (s : Int) : T35 := if recNo r = true then r else (r.1, r.2.1, r.2.2.1, r.2.2.2.1, r.2.2.2.2 + 1)
def recodeR (r : T35) (s : Int) : T35 × T41 × Bool := if validR r = true then (recU r s, recD r s) else (r, (0, [], []), false)
theorem recNo_t {r : T35} (h : List.length r.2.2.2.1 = 0 ∨ r.2.2.2.2 = 1000000000000) : recNo r = true := by unfold recNo; rw [Bool.or_eq_true, decide_eq_true_iff, decide_eq_true_iff]; exact h
theorem recNo_f {r : T35} (h1 : ¬ List.length r.2.2.2.1 = 0) (h2 : ¬ r.2.2.2.2 = 1000000000000) : recNo r = false := by unfold recNo; rw [decide_eq_false h1, decide_eq_false h2]; rfl
theorem recU_y {r : T35} {s : Int} (h : recNo r = true) : r = recU r s := (if_pos h).symm
theorem recU_n {r : T35} {s : Int} (h : recNo r = false) : (r.1, r.2.1, r.2.2.1, r.2.2.2.1, r.2.2.2.2 + 1) = recU r s := (if_neg (by rw [h]; decide)).symm
theorem recD_y {r : T35} {s : Int} (h : recNo r = true) : ((0, [], []), false) = recD r s := (if_pos h).symm
theorem recD_n {r : T35} {s : Int} (h : recNo r = false) : comP r.2.2.2.1 (rndV (keyed s ([r.1, r.2.2.2.2])) ((List.length r.2.2.2.1 : Nat) : Int)) = recD r s := (if_neg (by rw [h]; decide)).symm
theorem recodeR_y {r : T35} {s : Int} (h : validR r = true) : (recU r s, recD r s) = recodeR r s := (if_pos h).symm
theorem recodeR_n {r : T35} {s : Int} (h : validR r = false) : (r, (0, [], []), false) = recodeR r s := (if_neg (by rw [h]; decide)).symm
theorem recU_sz (r : T35) (s : Int) : Sh.sz s35 (recU r s) = Sh.sz s35 r := by unfold recU; split <;> rfl
theorem recodeR_sz (r : T35) (s : Int) : Sh.sz s35 (recodeR r s).1 = Sh.sz s35 r ∧ Sh.sz s41 (recodeR r s).2.1 ≤ 80 := by
 unfold recodeR; split
 ·refine ⟨recU_sz r s, ?_⟩
  show Sh.sz s41 (recD r s).1 ≤ 80
  unfold recD; split
  ·exact Nat.zero_le _
  ·exact comP_sz _ _
 ·exact ⟨rfl, Nat.zero_le _⟩

def S_impl_UnitVector : Sum := { fid := 68, dom := [(.int 3), (.int 3)], cod := [s39], dp := true, fz := false, pre := fun x => True, g := fun x => ((unitV x.1 x.2.1), ()) }
def S_impl_UnitVector_tab : List (Nat × Sum) := [(59, S_impl_InRange)]
theorem S_impl_UnitVector_ok : FnOK Tryz.prog 68 S_impl_UnitVector := by
 refine at_enter 22 (fun x => ⟨[(0, aI x.1), (1, aI x.2.1)], []⟩) Tryz.func68 rfl (by kernel_rfl) (fun x => rfl) ?_
 rintro w0 Z0 ⟨x0, x1, u⟩ a w
 revert x0 x1
 intro (x0 : Int) (x1 : Int) hpre hlens h
 have hT : TabOK Tryz.prog S_impl_UnitVector_tab := (.cons S_impl_InRange_ok .nil)
 refine wp_seq ?_
 refine at_regq [] { ts := [0, 1, 4], os := [] } [] gamOK hT h (by kernel_rfl) trivial fun a w h => then_normal (wp_seq (wp_seq ?_))
 rcases Bool.eq_false_or_eq_true (!(inR x0 0 40)) with h1 | h1
 ·have hzh1 : (inR x0 0 40) = false := notT h1
  have hvh1 := inR_f (notT h1)
  refine at_regq [{}, {}, { hint := some (aB true) }] { ts := [0, 1, 4, 15], os := [] } [True, (AV.p (.c (.v (.bool (!(inR x0 0 40))))) = AV.p (.c (.v (.bool true))))] gamOK hT h (by kernel_rfl) ⟨trivial, hint_bool (h1), trivial⟩ fun a w h => then_normal ?_
  refine at_test true h (by kernel_rfl) (fun hh => ?_) (fun hh => nomatch hh)
  refine wp_seq ?_
  refine at_regq [] { ts := [0, 1, 4], os := [] } [] gamOK hT h (by kernel_rfl) trivial fun a w h => then_normal (wp_ret (then_ret ?_))
  exact at_return (([] : List Int), ()) [] h (by kernel_rfl) trivial (congrArg (fun z => (z, ())) (show (([] : List Int)) = unitV x0 x1 from by first | exact unitV_n (by first | (left; assumption) | (right; assumption)) | (rw [← unitV_y (by assumption) (by assumption)]; exact unitL_set (by omega) (by omega))))
 ·have hzh1 : (inR x0 0 40) = true := notF h1
  have hvh1 := inR_t (notF h1)
  refine at_regq [{}, {}, { hint := some (aB false) }, {}, {}, {}, { nw := true }] { ts := [0, 1, 4, 15], os := [] } [True, (AV.p (.c (.v (.bool (!(inR x0 0 40))))) = AV.p (.c (.v (.bool false)))), I64 (x0 - 1), True] gamOK hT h (by kernel_rfl) ⟨trivial, hint_bool (h1), ⟨by first | omega | (simp only [lsA]; omega) | (simp <;> omega), by first | omega | (simp only [lsA]; omega) | (simp <;> omega)⟩, trivial, trivial⟩ fun a w h => then_normal ?_
  refine at_test (!(inR x1 0 (x0 - 1))) h (by kernel_rfl) (fun h2 => ?_) (fun h2 => ?_)
  ·replace h2 : (inR x1 0 (x0 - 1)) = false := notT h2
   have hvh2 := inR_f h2
   refine wp_seq ?_
   refine at_regq [] { ts := [0, 1, 4], os := [] } [] gamOK hT h (by kernel_rfl) trivial fun a w h => then_normal (wp_ret (then_ret ?_))
   exact at_return (([] : List Int), ()) [] h (by kernel_rfl) trivial (congrArg (fun z => (z, ())) (show (([] : List Int)) = unitV x0 x1 from by first | exact unitV_n (by first | (left; assumption) | (right; assumption)) | (rw [← unitV_y (by assumption) (by assumption)]; exact unitL_set (by omega) (by omega))))
  ·replace h2 : (inR x1 0 (x0 - 1)) = true := notF h2
   have hvh2 := inR_t h2
   refine wp_skip (then_normal (wp_seq ?_))
   refine at_regq [{}, { ids := [1] }] { ts := [1, 4, 5], os := [1] } [(0 : Int) ≤ x0 ∧ x0 = x0 ∧ x0 * (8 : Nat) ≤ (140737488355328 : Int)] gamOK hT h (by kernel_rfl) ⟨(by refine ⟨?_, ?_, ?_⟩ <;> ((have hA0 := mul_f x0 (8 : Nat); first | omega | (simp only [lsA]; omega) | (simp <;> omega)))), trivial⟩ fun a w h => then_normal (wp_seq ?_)
   refine at_regq [] { ts := [4, 5], os := [1] } [(0 : Int) ≤ x1 ∧ x1 < ((List.length (List.replicate ((x0).toNat) (0 : Int)) : Nat) : Int), (x1).toNat < List.length (List.replicate ((x0).toNat) (0 : Int))] gamOK hT h (by kernel_rfl) ⟨(by refine ⟨?_, ?_⟩ <;> (first | omega | (simp only [lsA]; omega) | (simp <;> omega))), (by first | omega | (simp only [lsA]; omega) | (simp <;> omega)), trivial⟩ fun a w h => then_normal (wp_seq ?_)
   refine at_regq [] { ts := [4], os := [1] } [] gamOK hT h (by kernel_rfl) trivial fun a w h => then_normal (wp_ret ?_)
   exact at_return ((List.set (List.replicate ((x0).toNat) (0 : Int)) ((x1).toNat) 1), ()) [] h (by kernel_rfl) trivial (congrArg (fun z => (z, ())) (show ((List.set (List.replicate ((x0).toNat) (0 : Int)) ((x1).toNat) 1)) = unitV x0 x1 from by first | exact unitV_n (by first | (left; assumption) | (right; assumption)) | (rw [← unitV_y (by assumption) (by assumption)]; exact unitL_set (by omega) (by omega))))

def S_impl_RandomVector : Sum := { fid := 69, dom := [(.int 3), (.int 3)], cod := [s39], dp := true, fz := false, pre := fun x => True, g := fun x => ((rndV x.1 x.2.1), ()) }
def S_impl_RandomVector_tab : List (Nat × Sum) := [(59, S_impl_InRange), (111, S_impl_RandomNumber), (78, S_impl_LeadingIndex)]
theorem S_impl_RandomVector_ok : FnOK Tryz.prog 69 S_impl_RandomVector := by
 refine at_enter 30 (fun x => ⟨[(0, aI x.1), (1, aI x.2.1)], []⟩) Tryz.func69 rfl (by kernel_rfl) (fun x => rfl) ?_
 rintro w0 Z0 ⟨x0, x1, u⟩ a w
 revert x0 x1
 intro (x0 : Int) (x1 : Int) hpre hlens h
 have hT : TabOK Tryz.prog S_impl_RandomVector_tab := (.cons S_impl_InRange_ok (.cons S_impl_RandomNumber_ok (.cons S_impl_LeadingIndex_ok .nil)))
 have hrl := rndL_len x0 x1.toNat
 refine wp_seq ?_
 refine at_regq [] { ts := [0, 1, 4], os := [] } [] gamOK hT h (by kernel_rfl) trivial fun a w h => then_normal (wp_seq (wp_seq ?_))
 refine at_regq [] { ts := [0, 1, 4, 9], os := [] } [True] gamOK hT h (by kernel_rfl) ⟨trivial, trivial⟩ fun a w h => then_normal ?_
 refine at_test (!(inR x1 1 40)) h (by kernel_rfl) (fun h1 => ?_) (fun h1 => ?_)
 ·replace h1 : (inR x1 1 40) = false := notT h1
  have hvh1 := inR_f h1
  refine wp_seq ?_
  refine at_regq [] { ts := [0, 1, 4], os := [] } [] gamOK hT h (by kernel_rfl) trivial fun a w h => then_normal (wp_ret (then_ret ?_))
  exact at_return (([] : List Int), ()) [] h (by kernel_rfl) trivial (congrArg (fun z => (z, ())) (show (([] : List Int)) = rndV x0 x1 from by first | exact rndV_0 (by assumption) | exact rndV_1 (by assumption) (by assumption) | exact rndV_2 (by assumption) (by assumption)))
 ·replace h1 : (inR x1 1 40) = true := notF h1
  have hvh1 := inR_t h1
  refine wp_skip (then_normal (wp_seq ?_))
  refine at_regq [{}, { ids := [1] }] { ts := [0, 4, 5], os := [1] } [(0 : Int) ≤ x1 ∧ x1 = x1 ∧ x1 * (8 : Nat) ≤ (140737488355328 : Int)] gamOK hT h (by kernel_rfl) ⟨(by refine ⟨?_, ?_, ?_⟩ <;> ((have hA0 := mul_f x1 (8 : Nat); first | omega | (simp only [lsA, copyTo_len (show i ≤ List.length (rndL x0 x1.toNat) by rw [rndL_len]; omega)]; omega) | (simp <;> omega)))), trivial⟩ fun a w h => then_normal (wp_seq (wp_seq ?_))
  refine at_regq [] { ts := [0, 4, 5, 13, 14], os := [1] } [] gamOK hT h (by kernel_rfl) trivial fun a w h => then_normal (wp_block ?_)
  replace h := at_out (σ' := ⟨[(0, aI x0), (4, .p (.c (cN))), (5, aS 1), (13, aI ((List.length (List.replicate ((x1).toNat) (0 : Int)) : Nat) : Int)), (14, aI 0)], [(1, oR (.int 3) (List.replicate ((x1).toNat) (0 : Int)))]⟩) { ts := [0, 4, 5, 13, 14], os := [1] } h (by kernel_rfl)
  refine at_loop (fun i : Nat => (⟨[(0, aI x0), (4, .p (.c (cN))), (5, aS 1), (13, aI ((List.length (List.replicate ((x1).toNat) (0 : Int)) : Nat) : Int)), (14, aI ((i : Nat) : Int))], [(1, oR (.int 3) (copyTo 0 (rndL x0 x1.toNat) i))]⟩ : St)) (fun i => i ≤ x1.toNat) (fun i => x1.toNat - i) (0) h (st_congr2 (fun (d0 : List Int) (d1 : Int) => (⟨[(0, aI x0), (4, .p (.c (cN))), (5, aS 1), (13, aI ((List.length (List.replicate ((x1).toNat) (0 : Int)) : Nat) : Int)), (14, aI d1)], [(1, oR (.int 3) d0)]⟩ : St)) (show ((List.replicate ((x1).toNat) (0 : Int)) : List Int) = (copyTo 0 (rndL x0 x1.toNat) (0)) from by first | with_reducible rfl | (exact rndL_zero _ _) | rfl) (show (0 : Int) = (((0) : Nat) : Int) from by first | with_reducible rfl | (exact rndL_zero _ _) | rfl)) (by omega) ?_
  intro i a w hok0 h
  have hcl := copyTo_len (z := (0 : Int)) (show i ≤ List.length (rndL x0 x1.toNat) by omega)
  have hrp : List.length (List.replicate x1.toNat (0 : Int)) = x1.toNat := List.length_replicate
  refine wp_seq ?_
  refine at_regq [] { ts := [0, 4, 5, 13, 14, 15], os := [1] } [] gamOK hT h (by kernel_rfl) trivial fun a w h => then_normal (wp_seq ?_)
  refine at_test (decide (((i : Nat) : Int) < ((List.length (List.replicate ((x1).toNat) (0 : Int)) : Nat) : Int))) h (by kernel_rfl) (fun h2 => ?_) (fun h2 => ?_)
  ·replace h2 : ((i : Nat) : Int) < ((List.length (List.replicate ((x1).toNat) (0 : Int)) : Nat) : Int) := of_decide_eq_true h2
   refine wp_skip (then_normal (wp_seq (wp_block (wp_seq ?_))))
   refine at_regq [] { ts := [0, 4, 5, 6, 13, 14], os := [1] } [] gamOK hT h (by kernel_rfl) trivial fun a w h => then_normal ?_
   refine at_regq [] { ts := [0, 4, 5, 13, 14], os := [1] } [True, (0 : Int) ≤ ((i : Nat) : Int) ∧ ((i : Nat) : Int) < ((List.length (copyTo 0 (rndL x0 x1.toNat) i) : Nat) : Int), i < List.length (copyTo 0 (rndL x0 x1.toNat) i)] gamOK hT h (by kernel_rfl) ⟨trivial, (by refine ⟨?_, ?_⟩ <;> (first | omega | (simp only [lsA, copyTo_len (show i ≤ List.length (rndL x0 x1.toNat) by rw [rndL_len]; omega)]; omega) | (simp <;> omega))), (by first | omega | (simp only [lsA, copyTo_len (show i ≤ List.length (rndL x0 x1.toNat) by rw [rndL_len]; omega)]; omega) | (simp <;> omega)), trivial⟩ fun a w h => in_normal (then_normal ?_)
   refine at_regq [{ nw := true }] { ts := [0, 4, 5, 13, 14], os := [1] } [I64 (((i : Nat) : Int) + 1)] gamOK hT h (by kernel_rfl) ⟨⟨by first | omega | (simp only [lsA, copyTo_len (show i ≤ List.length (rndL x0 x1.toNat) by rw [rndL_len]; omega)]; omega) | (simp <;> omega), by first | omega | (simp only [lsA, copyTo_len (show i ≤ List.length (rndL x0 x1.toNat) by rw [rndL_len]; omega)]; omega) | (simp <;> omega)⟩, trivial⟩ fun a w h => ?_
   replace h := at_out (σ' := ⟨[(0, aI x0), (4, .p (.c (cN))), (5, aS 1), (13, aI ((List.length (List.replicate ((x1).toNat) (0 : Int)) : Nat) : Int)), (14, aI (((i : Nat) : Int) + 1))], [(1, oR (.int 3) (List.set (copyTo 0 (rndL x0 x1.toNat) i) i (rndN x0 ((i : Nat) : Int) 1019)))]⟩) { ts := [0, 4, 5, 13, 14], os := [1] } h (by kernel_rfl)
   exact ⟨i + 1, at_eq h (st_congr2 (fun (d0 : List Int) (d1 : Int) => (⟨[(0, aI x0), (4, .p (.c (cN))), (5, aS 1), (13, aI ((List.length (List.replicate ((x1).toNat) (0 : Int)) : Nat) : Int)), (14, aI d1)], [(1, oR (.int 3) d0)]⟩ : St)) (show ((List.set (copyTo 0 (rndL x0 x1.toNat) i) i (rndN x0 ((i : Nat) : Int) 1019)) : List Int) = (copyTo 0 (rndL x0 x1.toNat) (i + 1)) from by first | with_reducible rfl | (exact rndL_set (by omega)) | rfl) (show (((i : Nat) : Int) + 1 : Int) = (((i + 1) : Nat) : Int) from by first | with_reducible rfl | (omega) | rfl)), (by omega), (by omega)⟩
  ·replace h2 : ¬ (((i : Nat) : Int) < ((List.length (List.replicate ((x1).toNat) (0 : Int)) : Nat) : Int)) := of_decide_eq_false h2
   refine wp_exit (then_exit ?_)
   replace h := at_out (σ' := ⟨[(4, .p (.c (cN))), (5, aS 1)], [(1, oR (.int 3) (copyTo 0 (rndL x0 x1.toNat) i))]⟩) { ts := [4, 5], os := [1] } h (by kernel_rfl)
   replace h := at_eq (σ' := ⟨[(4, .p (.c (cN))), (5, aS 1)], [(1, oR (.int 3) (rndL x0 x1.toNat))]⟩) h (st_congr1 (fun (d0 : List Int) => (⟨[(4, .p (.c (cN))), (5, aS 1)], [(1, oR (.int 3) d0)]⟩ : St)) (show ((copyTo 0 (rndL x0 x1.toNat) i) : List Int) = (rndL x0 x1.toNat) from by first | with_reducible rfl | (rw [copyTo_all (by omega)]) | rfl))
   refine then_exit (in_hit (then_normal (wp_seq (wp_seq ?_))))
   refine at_regq [] { ts := [4, 5, 26], os := [1] } [Q_impl_LeadingIndex (rndL x0 x1.toNat)] gamOK hT h (by kernel_rfl) ⟨(by exact Sh.fit_len rfl (by rw [rndL_len]; omega)), trivial⟩ fun a w h => then_normal ?_
   refine at_test (decide ((LA.leadS (rndL x0 x1.toNat)) < 0)) h (by kernel_rfl) (fun h3 => ?_) (fun h3 => ?_)
   ·replace h3 : (LA.leadS (rndL x0 x1.toNat)) < 0 := of_decide_eq_true h3
    refine at_regq [] { ts := [4, 5], os := [1] } [(0 : Int) ≤ 0 ∧ 0 < ((List.length (rndL x0 x1.toNat) : Nat) : Int), 0 < List.length (rndL x0 x1.toNat)] gamOK hT h (by kernel_rfl) ⟨(by refine ⟨?_, ?_⟩ <;> (first | omega | (simp only [lsA, copyTo_len (show i ≤ List.length (rndL x0 x1.toNat) by rw [rndL_len]; omega)]; omega) | (simp <;> omega))), (by first | omega | (simp only [lsA, copyTo_len (show i ≤ List.length (rndL x0 x1.toNat) by rw [rndL_len]; omega)]; omega) | (simp <;> omega)), trivial⟩ fun a w h => then_normal (wp_seq ?_)
    refine at_regq [] { ts := [4], os := [1] } [] gamOK hT h (by kernel_rfl) trivial fun a w h => then_normal (wp_ret ?_)
    exact at_return ((List.set (rndL x0 x1.toNat) 0 1), ()) [] h (by kernel_rfl) trivial (congrArg (fun z => (z, ())) (show ((List.set (rndL x0 x1.toNat) 0 1)) = rndV x0 x1 from by first | exact rndV_0 (by assumption) | exact rndV_1 (by assumption) (by assumption) | exact rndV_2 (by assumption) (by assumption)))
   ·replace h3 : ¬ ((LA.leadS (rndL x0 x1.toNat)) < 0) := of_decide_eq_false h3
    refine wp_skip (then_normal (wp_seq ?_))
    refine at_regq [] { ts := [4], os := [1] } [] gamOK hT h (by kernel_rfl) trivial fun a w h => then_normal (wp_ret ?_)
    exact at_return ((rndL x0 x1.toNat), ()) [] h (by kernel_rfl) trivial (congrArg (fun z => (z, ())) (show ((rndL x0 x1.toNat)) = rndV x0 x1 from by first | exact rndV_0 (by assumption) | exact rndV_1 (by assumption) (by assumption) | exact rndV_2 (by assumption) (by assumption)))

abbrev Q_impl_combine := (fun (x0 : (List (List Int))) (x1 : (List Int)) => Sh.fit s24 x0 ∧ Sh.fit s39 x1 ∧ combP x0 x1)
def S_impl_combine : Sum := { fid := 113, dom := [s24, s39], cod := [s39], dp := true, fz := false, pre := fun x => Q_impl_combine x.1 x.2.1, g := fun x => ((combS x.1 x.2.1), ()) }
def S_impl_combine_tab : List (Nat × Sum) := [(109, S_impl_addScaled)]
theorem S_impl_combine_ok : FnOK Tryz.prog 113 S_impl_combine := by
 refine at_enter 29 (fun x => ⟨[(0, aF s39 x.1), (1, aF (.int 3) x.2.1)], []⟩) Tryz.func113 rfl (by kernel_rfl) (fun x => rfl) ?_
 rintro w0 Z0 ⟨x0, x1, u⟩ a w
 revert x0 x1
 intro (x0 : (List (List Int))) (x1 : (List Int)) hpre hlens h
 replace hpre : Q_impl_combine x0 x1 := hpre
 have hT : TabOK Tryz.prog S_impl_combine_tab := (.cons S_impl_addScaled_ok .nil)
 obtain ⟨hf0, hf1, hpx⟩ := hpre
 have hn0_1 : List.length x0 ≤ 1073741824 := hf0.1
 have hn1_2 : List.length x1 ≤ 1073741824 := hf1.1
 have hp1 := hpx.1
 refine wp_seq ?_
 refine at_regq [] { ts := [0, 1, 4], os := [] } [] gamOK hT h (by kernel_rfl) trivial fun a w h => then_normal (wp_seq ?_)
 refine at_regq [{}, {}, {}, {}, { ids := [1] }] { ts := [0, 1, 4, 5], os := [1] } [(0 : Int) ≤ 0 ∧ 0 < ((List.length x0 : Nat) : Int), (0 : Int) ≤ ((List.length (x0.getD 0 []) : Nat) : Int) ∧ ((List.length (x0.getD 0 []) : Nat) : Int) = ((List.length (x0.getD 0 []) : Nat) : Int) ∧ ((List.length (x0.getD 0 []) : Nat) : Int) * (8 : Nat) ≤ (140737488355328 : Int)] gamOK hT h (by kernel_rfl) ⟨(by refine ⟨?_, ?_⟩ <;> (first | omega | (simp only [lsA]; omega) | (simp <;> omega))), (by refine ⟨?_, ?_, ?_⟩ <;> ((have hA0 := mul_f ((List.length (x0.getD 0 []) : Nat) : Int) (8 : Nat); have hL1 := (show List.length (x0.getD 0 []) ≤ 1073741824 from ((Sh.fit_getD hf0 0)).1); first | omega | (simp only [lsA]; omega) | (simp <;> omega)))), trivial⟩ fun a w h => then_normal (wp_seq (wp_seq ?_))
 refine at_regq [] { ts := [1, 4, 5, 13, 14, 15], os := [1] } [] gamOK hT h (by kernel_rfl) trivial fun a w h => then_normal (wp_block ?_)
 replace h := at_out (σ' := ⟨[(1, aF (.int 3) x1), (4, .p (.c (cN))), (5, aS 1), (13, aF s39 x0), (14, aI ((List.length x0 : Nat) : Int)), (15, aI 0)], [(1, oR (.int 3) (List.replicate (List.length (x0.getD 0 [])) (0 : Int)))]⟩) { ts := [1, 4, 5, 13, 14, 15], os := [1] } h (by kernel_rfl)
 refine at_loop (fun i : Nat => (⟨[(1, aF (.int 3) x1), (4, .p (.c (cN))), (5, aS 1), (13, aF s39 x0), (14, aI ((List.length x0 : Nat) : Int)), (15, aI ((i : Nat) : Int))], [(1, oR (.int 3) (combTo x0 x1 i))]⟩ : St)) (fun i => i ≤ List.length x0) (fun i => List.length x0 - i) (0) h (st_congr2 (fun (d0 : List Int) (d1 : Int) => (⟨[(1, aF (.int 3) x1), (4, .p (.c (cN))), (5, aS 1), (13, aF s39 x0), (14, aI ((List.length x0 : Nat) : Int)), (15, aI d1)], [(1, oR (.int 3) d0)]⟩ : St)) (show ((List.replicate (List.length (x0.getD 0 [])) (0 : Int)) : List Int) = (combTo x0 x1 (0)) from by first | with_reducible rfl | (rfl) | rfl) (show (0 : Int) = (((0) : Nat) : Int) from by first | with_reducible rfl | (rfl) | rfl)) (by omega) ?_
 intro i a w hok0 h
 refine wp_seq ?_
 refine at_regq [] { ts := [1, 4, 5, 13, 14, 15, 16], os := [1] } [] gamOK hT h (by kernel_rfl) trivial fun a w h => then_normal (wp_seq ?_)
 refine at_test (decide (((i : Nat) : Int) < ((List.length x0 : Nat) : Int))) h (by kernel_rfl) (fun h1 => ?_) (fun h1 => ?_)
 ·replace h1 : ((i : Nat) : Int) < ((List.length x0 : Nat) : Int) := of_decide_eq_true h1
  have hcv := hpx.2.1 i (by omega)
  have hco := combTo_ok (n := List.length (x0.getD 0 [])) (vs := x0) (cs := x1) rfl hpx.2.2 i (fun j hj => hpx.2.1 j (by omega))
  have hck := hpx.2.2 i
  refine wp_skip (then_normal (wp_seq (wp_block (wp_seq ?_))))
  refine at_regq [] { ts := [1, 4, 5, 6, 7, 13, 14, 15], os := [1] } [(0 : Int) ≤ ((i : Nat) : Int) ∧ ((i : Nat) : Int) < ((List.length x0 : Nat) : Int)] gamOK hT h (by kernel_rfl) ⟨(by refine ⟨?_, ?_⟩ <;> (first | omega | (simp only [lsA]; omega) | (simp <;> omega))), trivial⟩ fun a w h => then_normal ?_
  refine at_regq [] { ts := [1, 4, 5, 13, 14, 15], os := [1] } [(0 : Int) ≤ ((i : Nat) : Int) ∧ ((i : Nat) : Int) < ((List.length x1 : Nat) : Int), Q_impl_addScaled (combTo x0 x1 i) (x0.getD i []) (x1.getD i 0)] gamOK hT h (by kernel_rfl) ⟨(by refine ⟨?_, ?_⟩ <;> (first | omega | (simp only [lsA]; omega) | (simp <;> omega))), (by exact ⟨fitV hco (by omega), fitV hcv (by omega), addOK_of hco hcv (by omega)⟩), trivial⟩ fun a w h => in_normal (then_normal ?_)
  refine at_regq [{ nw := true }] { ts := [1, 4, 5, 13, 14, 15], os := [1] } [I64 (((i : Nat) : Int) + 1)] gamOK hT h (by kernel_rfl) ⟨⟨by first | omega | (simp only [lsA]; omega) | (simp <;> omega), by first | omega | (simp only [lsA]; omega) | (simp <;> omega)⟩, trivial⟩ fun a w h => ?_
  replace h := at_out (σ' := ⟨[(1, aF (.int 3) x1), (4, .p (.c (cN))), (5, aS 1), (13, aF s39 x0), (14, aI ((List.length x0 : Nat) : Int)), (15, aI (((i : Nat) : Int) + 1))], [(1, oR (.int 3) (LA.addS (combTo x0 x1 i) (x0.getD i []) (x1.getD i 0)))]⟩) { ts := [1, 4, 5, 13, 14, 15], os := [1] } h (by kernel_rfl)
  exact ⟨i + 1, at_eq h (st_congr2 (fun (d0 : List Int) (d1 : Int) => (⟨[(1, aF (.int 3) x1), (4, .p (.c (cN))), (5, aS 1), (13, aF s39 x0), (14, aI ((List.length x0 : Nat) : Int)), (15, aI d1)], [(1, oR (.int 3) d0)]⟩ : St)) (show ((LA.addS (combTo x0 x1 i) (x0.getD i []) (x1.getD i 0)) : List Int) = (combTo x0 x1 (i + 1)) from by first | with_reducible rfl | (rfl) | rfl) (show (((i : Nat) : Int) + 1 : Int) = (((i + 1) : Nat) : Int) from by first | with_reducible rfl | (omega) | rfl)), (by omega), (by omega)⟩
 ·replace h1 : ¬ (((i : Nat) : Int) < ((List.length x0 : Nat) : Int)) := of_decide_eq_false h1
  refine wp_exit (then_exit (then_exit (in_hit (then_normal (wp_seq ?_)))))
  refine at_regq [] { ts := [4], os := [1] } [] gamOK hT h (by kernel_rfl) trivial fun a w h => then_normal (wp_ret ?_)
  exact at_return ((combTo x0 x1 i), ()) [] h (by kernel_rfl) trivial (congrArg (fun z => (z, ())) (show ((combTo x0 x1 i)) = combS x0 x1 from by (show _ = combTo x0 x1 (List.length x0); rw [show List.length x0 = i by omega])))

abbrev Q_spec_Combine := (fun (x0 : (List (List Int))) (x1 : (List Int)) => Sh.fit s24 x0 ∧ Sh.fit s39 x1)
def S_spec_Combine : Sum := { fid := 74, dom := [s24, s39], cod := [s39], dp := true, fz := false, pre := fun x => Q_spec_Combine x.1 x.2.1, g := fun x => ((combV x.1 x.2.1), ()) }
def S_spec_Combine_tab : List (Nat × Sum) := [(73, S_spec_IsValidVector), (116, S_spec_AddScaled)]
theorem S_spec_Combine_ok : FnOK Tryz.prog 74 S_spec_Combine := by
 refine at_enter 64 (fun x => ⟨[(0, aF s39 x.1), (1, aF (.int 3) x.2.1)], []⟩) Tryz.func74 rfl (by kernel_rfl) (fun x => rfl) ?_
 rintro w0 Z0 ⟨x0, x1, u⟩ a w
 revert x0 x1
 intro (x0 : (List (List Int))) (x1 : (List Int)) hpre hlens h
 replace hpre : Q_spec_Combine x0 x1 := hpre
 have hT : TabOK Tryz.prog S_spec_Combine_tab := (.cons S_spec_IsValidVector_ok (.cons S_spec_AddScaled_ok .nil))
 obtain ⟨hf0, hf1⟩ := hpre
 have hn0_1 : List.length x0 ≤ 1073741824 := hf0.1
 have hn1_2 : List.length x1 ≤ 1073741824 := hf1.1
 refine wp_seq ?_
 refine at_regq [] { ts := [0, 1, 4], os := [] } [] gamOK hT h (by kernel_rfl) trivial fun a w h => then_normal (wp_seq (wp_seq ?_))
 by_cases h1 : ((List.length x0 : Nat) : Int) = 0
 ·refine at_regq [{}, {}, { hint := some (aB true) }] { ts := [0, 1, 4, 21], os := [] } [(AV.p (.c (.v (.bool (decide (((List.length x0 : Nat) : Int) = 0))))) = AV.p (.c (.v (.bool true))))] gamOK hT h (by kernel_rfl) ⟨hint_bool (decide_eq_true h1), trivial⟩ fun a w h => then_normal ?_
  refine at_test true h (by kernel_rfl) (fun hh => ?_) (fun hh => nomatch hh)
  refine wp_seq ?_
  refine at_regq [{ ids := [1] }] { ts := [0, 1, 4], os := [1] } [] gamOK hT h (by kernel_rfl) trivial fun a w h => then_normal (wp_ret (then_ret ?_))
  exact at_return (([] : List Int), ()) [] h (by kernel_rfl) trivial (congrArg (fun z => (z, ())) (show (([] : List Int)) = combV x0 x1 from by first | exact combV_n (by first | (left; omega) | (right; left; omega) | (right; right; left; assumption) | (right; right; right; assumption)) | (rw [← combV_y (by omega) (by omega) (by assumption) (all_of (z := []) (i := i) (by omega) hok0.2)]; show _ = combTo x0 x1 (List.length x0); rw [show List.length x0 = i by omega]; done) | exact combV_n (Or.inr (Or.inr (Or.inr (all_at (z := []) (i := i) (by omega) (by (show ((validV _) && _) = false; rw [Bool.and_eq_false_iff]; first | (left; assumption) | (right; exact decide_eq_false (by omega))))))))))
 ·by_cases h2 : ((List.length x0 : Nat) : Int) = ((List.length x1 : Nat) : Int)
  ·refine at_regq [{}, {}, { hint := some (aB false) }, {}, {}, {}, {}, {}, { hint := some (aB false) }] { ts := [0, 1, 4, 21], os := [] } [(AV.p (.c (.v (.bool (decide (((List.length x0 : Nat) : Int) = 0))))) = AV.p (.c (.v (.bool false)))), (AV.p (.c (.v (.bool (!decide (((List.length x0 : Nat) : Int) = ((List.length x1 : Nat) : Int)))))) = AV.p (.c (.v (.bool false)))), Q_spec_IsValidVector x1] gamOK hT h (by kernel_rfl) ⟨hint_bool (decide_eq_false h1), hint_bool (ndT h2), (by exact hf1), trivial⟩ fun a w h => then_normal ?_
   refine at_test (!(validV x1)) h (by kernel_rfl) (fun h3 => ?_) (fun h3 => ?_)
   ·replace h3 : (validV x1) = false := notT h3
    refine wp_seq ?_
    refine at_regq [{ ids := [1] }] { ts := [0, 1, 4], os := [1] } [] gamOK hT h (by kernel_rfl) trivial fun a w h => then_normal (wp_ret (then_ret ?_))
    exact at_return (([] : List Int), ()) [] h (by kernel_rfl) trivial (congrArg (fun z => (z, ())) (show (([] : List Int)) = combV x0 x1 from by first | exact combV_n (by first | (left; omega) | (right; left; omega) | (right; right; left; assumption) | (right; right; right; assumption)) | (rw [← combV_y (by omega) (by omega) (by assumption) (all_of (z := []) (i := i) (by omega) hok0.2)]; show _ = combTo x0 x1 (List.length x0); rw [show List.length x0 = i by omega]; done) | exact combV_n (Or.inr (Or.inr (Or.inr (all_at (z := []) (i := i) (by omega) (by (show ((validV _) && _) = false; rw [Bool.and_eq_false_iff]; first | (left; assumption) | (right; exact decide_eq_false (by omega))))))))))
   ·replace h3 : (validV x1) = true := notF h3
    have hvh3 := validV_t h3
    refine wp_skip (then_normal (wp_seq ?_))
    refine at_regq [{}, {}, {}, {}, { ids := [2] }] { ts := [0, 1, 4, 5], os := [2] } [(0 : Int) ≤ 0 ∧ 0 < ((List.length x0 : Nat) : Int), (0 : Int) ≤ ((List.length (x0.getD 0 []) : Nat) : Int) ∧ ((List.length (x0.getD 0 []) : Nat) : Int) = ((List.length (x0.getD 0 []) : Nat) : Int) ∧ ((List.length (x0.getD 0 []) : Nat) : Int) * (8 : Nat) ≤ (140737488355328 : Int)] gamOK hT h (by kernel_rfl) ⟨(by refine ⟨?_, ?_⟩ <;> (first | omega | (simp only [lsA]; omega) | (simp <;> omega))), (by refine ⟨?_, ?_, ?_⟩ <;> ((have hA0 := mul_f ((List.length (x0.getD 0 []) : Nat) : Int) (8 : Nat); have hL1 := (show List.length (x0.getD 0 []) ≤ 1073741824 from ((Sh.fit_getD hf0 0)).1); first | omega | (simp only [lsA]; omega) | (simp <;> omega)))), trivial⟩ fun a w h => then_normal (wp_seq (wp_seq ?_))
    refine at_regq [] { ts := [0, 1, 4, 5, 6], os := [2] } [] gamOK hT h (by kernel_rfl) trivial fun a w h => then_normal (wp_block ?_)
    replace h := at_out (σ' := ⟨[(0, aF s39 x0), (1, aF (.int 3) x1), (4, .p (.c (cN))), (5, aS 2), (6, aI 0)], [(2, oR (.int 3) (List.replicate (List.length (x0.getD 0 [])) (0 : Int)))]⟩) { ts := [0, 1, 4, 5, 6], os := [2] } h (by kernel_rfl)
    refine at_loop (fun i : Nat => (⟨[(0, aF s39 x0), (1, aF (.int 3) x1), (4, .p (.c (cN))), (5, aS 2), (6, aI ((i : Nat) : Int))], [(2, oR (.int 3) (combTo x0 x1 i))]⟩ : St)) (fun i => (i ≤ List.length x0 ∧ allTo1 (cvB x0) x0 [] i)) (fun i => List.length x0 - i) (0) h (st_congr2 (fun (d0 : List Int) (d1 : Int) => (⟨[(0, aF s39 x0), (1, aF (.int 3) x1), (4, .p (.c (cN))), (5, aS 2), (6, aI d1)], [(2, oR (.int 3) d0)]⟩ : St)) (show ((List.replicate (List.length (x0.getD 0 [])) (0 : Int)) : List Int) = (combTo x0 x1 (0)) from by first | with_reducible rfl | (rfl) | rfl) (show (0 : Int) = (((0) : Nat) : Int) from by first | with_reducible rfl | (rfl) | rfl)) (by exact ⟨Nat.zero_le _, allTo1_zero⟩) ?_
    intro i a w hok0 h
    refine wp_seq (wp_seq ?_)
    refine at_regq [] { ts := [0, 1, 4, 5, 6, 31], os := [2] } [] gamOK hT h (by kernel_rfl) trivial fun a w h => then_normal ?_
    refine at_test (decide (((i : Nat) : Int) < ((List.length x0 : Nat) : Int))) h (by kernel_rfl) (fun h4 => ?_) (fun h4 => ?_)
    ·replace h4 : ((i : Nat) : Int) < ((List.length x0 : Nat) : Int) := of_decide_eq_true h4
     have hvr := (validV_t (v := x1) (by assumption)).2.2
     have hck := hvr i
     refine wp_skip (then_normal (wp_seq (wp_block (wp_seq (wp_seq ?_)))))
     rcases Bool.eq_false_or_eq_true (!(validV (x0.getD i []))) with h5 | h5
     ·have hzh5 : (validV (x0.getD i [])) = false := notT h5
      refine at_anyq [{}, {}, {}, {}, {}, { hint := some (aB true) }, {}, {}, {}, {}, {}, {}, {}, {}, {}, {}, {}, {}] { ts := [0, 1, 4, 5, 6, 41, 42, 43, 44, 45, 46, 47, 48, 49, 50, 51], os := [2] } [(0 : Int) ≤ ((i : Nat) : Int) ∧ ((i : Nat) : Int) < ((List.length x0 : Nat) : Int), Q_spec_IsValidVector (x0.getD i []), (AV.p (.c (.v (.bool (!(validV (x0.getD i [])))))) = AV.p (.c (.v (.bool true))))] gamOK hT mixed h (by kernel_rfl) ⟨(by refine ⟨?_, ?_⟩ <;> (first | omega | (simp only [lsA]; omega) | (simp <;> omega))), (by exact (Sh.fit_getD hf0 i)), hint_bool (h5), trivial⟩ fun a w h => then_normal ?_
      refine at_test true h (by kernel_rfl) (fun hh => ?_) (fun hh => nomatch hh)
      refine wp_seq ?_
      refine at_regq [{ ids := [3] }] { ts := [0, 1, 4, 5, 6, 41, 42, 43, 44, 45, 46, 47, 48, 49, 50], os := [2, 3] } [] gamOK hT h (by kernel_rfl) trivial fun a w h => then_normal (wp_ret (then_ret (in_ret (then_ret (then_ret (in_ret (then_ret ?_)))))))
      exact at_return (([] : List Int), ()) [] h (by kernel_rfl) trivial (congrArg (fun z => (z, ())) (show (([] : List Int)) = combV x0 x1 from by first | exact combV_n (by first | (left; omega) | (right; left; omega) | (right; right; left; assumption) | (right; right; right; assumption)) | (rw [← combV_y (by omega) (by omega) (by assumption) (all_of (z := []) (i := i) (by omega) hok0.2)]; show _ = combTo x0 x1 (List.length x0); rw [show List.length x0 = i by omega]; done) | exact combV_n (Or.inr (Or.inr (Or.inr (all_at (z := []) (i := i) (by omega) (by (show ((validV _) && _) = false; rw [Bool.and_eq_false_iff]; first | (left; assumption) | (right; exact decide_eq_false (by omega))))))))))
     ·have hzh5 : (validV (x0.getD i [])) = true := notF h5
      have hvh5 := validV_t (notF h5)
      refine at_anyq [{}, {}, {}, {}, {}, { hint := some (aB false) }, {}, {}, {}, {}, {}, {}, {}, {}, {}, {}, {}, {}] { ts := [0, 1, 4, 5, 6, 41, 42, 43, 44, 45, 46, 47, 48, 49, 50, 51], os := [2] } [(0 : Int) ≤ ((i : Nat) : Int) ∧ ((i : Nat) : Int) < ((List.length x0 : Nat) : Int), Q_spec_IsValidVector (x0.getD i []), (AV.p (.c (.v (.bool (!(validV (x0.getD i [])))))) = AV.p (.c (.v (.bool false)))), (0 : Int) ≤ ((i : Nat) : Int) ∧ ((i : Nat) : Int) < ((List.length x0 : Nat) : Int), (0 : Int) ≤ 0 ∧ 0 < ((List.length x0 : Nat) : Int)] gamOK hT mixed h (by kernel_rfl) ⟨(by refine ⟨?_, ?_⟩ <;> (first | omega | (simp only [lsA]; omega) | (simp <;> omega))), (by exact (Sh.fit_getD hf0 i)), hint_bool (h5), (by refine ⟨?_, ?_⟩ <;> (first | omega | (simp only [lsA]; omega) | (simp <;> omega))), (by refine ⟨?_, ?_⟩ <;> (first | omega | (simp only [lsA]; omega) | (simp <;> omega))), trivial⟩ fun a w h => then_normal ?_
      refine at_test (!decide (((List.length (x0.getD i []) : Nat) : Int) = ((List.length (x0.getD 0 []) : Nat) : Int))) h (by kernel_rfl) (fun h6 => ?_) (fun h6 => ?_)
      ·replace h6 : ¬ (((List.length (x0.getD i []) : Nat) : Int) = ((List.length (x0.getD 0 []) : Nat) : Int)) := of_decide_eq_false (notT h6)
       refine wp_seq ?_
       refine at_regq [{ ids := [3] }] { ts := [0, 1, 4, 5, 6, 41, 42, 43, 44, 45, 46, 47, 48, 49, 50], os := [2, 3] } [] gamOK hT h (by kernel_rfl) trivial fun a w h => then_normal (wp_ret (then_ret (in_ret (then_ret (then_ret (in_ret (then_ret ?_)))))))
       exact at_return (([] : List Int), ()) [] h (by kernel_rfl) trivial (congrArg (fun z => (z, ())) (show (([] : List Int)) = combV x0 x1 from by first | exact combV_n (by first | (left; omega) | (right; left; omega) | (right; right; left; assumption) | (right; right; right; assumption)) | (rw [← combV_y (by omega) (by omega) (by assumption) (all_of (z := []) (i := i) (by omega) hok0.2)]; show _ = combTo x0 x1 (List.length x0); rw [show List.length x0 = i by omega]; done) | exact combV_n (Or.inr (Or.inr (Or.inr (all_at (z := []) (i := i) (by omega) (by (show ((validV _) && _) = false; rw [Bool.and_eq_false_iff]; first | (left; assumption) | (right; exact decide_eq_false (by omega))))))))))
      ·replace h6 : ((List.length (x0.getD i []) : Nat) : Int) = ((List.length (x0.getD 0 []) : Nat) : Int) := of_decide_eq_true (notF h6)
       refine wp_skip (then_normal ?_)
       refine at_anyq [{}, {}, {}, {}, {}, {}, {}, {}, {}, { ids := [4] }, {}] { ts := [0, 1, 4, 5, 6, 41, 42, 43, 44, 45, 46, 47, 48, 49, 50], os := [4] } [(0 : Int) ≤ ((i : Nat) : Int) ∧ ((i : Nat) : Int) < ((List.length x0 : Nat) : Int), (0 : Int) ≤ ((i : Nat) : Int) ∧ ((i : Nat) : Int) < ((List.length x1 : Nat) : Int), Q_spec_AddScaled (combTo x0 x1 i) (x0.getD i []) (x1.getD i 0)] gamOK hT mixed h (by kernel_rfl) ⟨(by refine ⟨?_, ?_⟩ <;> (first | omega | (simp only [lsA]; omega) | (simp <;> omega))), (by refine ⟨?_, ?_⟩ <;> (first | omega | (simp only [lsA]; omega) | (simp <;> omega))), (by (have hci : cvB x0 (x0.getD i []) = true := (by (show ((validV _) && _) = true; rw [Bool.and_eq_true]; exact ⟨by assumption, decide_eq_true (by omega)⟩)); have hcv := cvB_ok hci; have hco := combTo_ok (n := List.length (x0.getD 0 [])) (vs := x0) (cs := x1) rfl hvr i (fun j hj => cvB_ok (hok0.2 j hj)); exact ⟨fitV hco (cvB_40 hci), fitV hcv (cvB_40 hci)⟩)), trivial⟩ fun a w h => in_normal (then_normal ?_)
       refine at_regq [{}, { nw := true }] { ts := [0, 1, 4, 5, 6, 41, 42, 43, 44, 45, 46, 47, 48, 49, 50], os := [4] } [I64 (((i : Nat) : Int) + 1)] gamOK hT h (by kernel_rfl) ⟨⟨by first | omega | (simp only [lsA]; omega) | (simp <;> omega), by first | omega | (simp only [lsA]; omega) | (simp <;> omega)⟩, trivial⟩ fun a w h => ?_
       replace h := at_out (σ' := ⟨[(0, aF s39 x0), (1, aF (.int 3) x1), (4, .p (.c (cN))), (5, aS 2), (6, aI (((i : Nat) : Int) + 1))], [(2, oR (.int 3) (addV (combTo x0 x1 i) (x0.getD i []) (x1.getD i 0)))]⟩) { ts := [0, 1, 4, 5, 6], os := [4], rn := [(4, 2)] } h (by kernel_rfl)
       exact ⟨i + 1, at_eq h (st_congr2 (fun (d0 : List Int) (d1 : Int) => (⟨[(0, aF s39 x0), (1, aF (.int 3) x1), (4, .p (.c (cN))), (5, aS 2), (6, aI d1)], [(2, oR (.int 3) d0)]⟩ : St)) (show ((addV (combTo x0 x1 i) (x0.getD i []) (x1.getD i 0)) : List Int) = (combTo x0 x1 (i + 1)) from by first | with_reducible rfl | ((have hci : cvB x0 (x0.getD i []) = true := (by (show ((validV _) && _) = true; rw [Bool.and_eq_true]; exact ⟨by assumption, decide_eq_true (by omega)⟩)); have hcv := cvB_ok hci; have hco := combTo_ok (n := List.length (x0.getD 0 [])) (vs := x0) (cs := x1) rfl hvr i (fun j hj => cvB_ok (hok0.2 j hj)); rw [addV_L hco hcv (cvB_40 hci) (by omega)]; rfl)) | rfl) (show (((i : Nat) : Int) + 1 : Int) = (((i + 1) : Nat) : Int) from by first | with_reducible rfl | (omega) | rfl)), (by exact ⟨by omega, allTo1_succ hok0.2 (by (show ((validV _) && _) = true; rw [Bool.and_eq_true]; exact ⟨by assumption, decide_eq_true (by omega)⟩))⟩), (by omega)⟩
    ·replace h4 : ¬ (((i : Nat) : Int) < ((List.length x0 : Nat) : Int)) := of_decide_eq_false h4
     refine wp_exit (then_exit (then_exit (in_hit (then_normal (wp_seq ?_)))))
     refine at_regq [] { ts := [4], os := [2] } [] gamOK hT h (by kernel_rfl) trivial fun a w h => then_normal (wp_ret ?_)
     exact at_return ((combTo x0 x1 i), ()) [] h (by kernel_rfl) trivial (congrArg (fun z => (z, ())) (show ((combTo x0 x1 i)) = combV x0 x1 from by first | exact combV_n (by first | (left; omega) | (right; left; omega) | (right; right; left; assumption) | (right; right; right; assumption)) | (rw [← combV_y (by omega) (by omega) (by assumption) (all_of (z := []) (i := i) (by omega) hok0.2)]; show _ = combTo x0 x1 (List.length x0); rw [show List.length x0 = i by omega]; done) | exact combV_n (Or.inr (Or.inr (Or.inr (all_at (z := []) (i := i) (by omega) (by (show ((validV _) && _) = false; rw [Bool.and_eq_false_iff]; first | (left; assumption) | (right; exact decide_eq_false (by omega))))))))))
  ·refine at_regq [{}, {}, { hint := some (aB false) }, {}, {}, {}, {}, {}, { hint := some (aB true) }] { ts := [0, 1, 4, 21], os := [] } [(AV.p (.c (.v (.bool (decide (((List.length x0 : Nat) : Int) = 0))))) = AV.p (.c (.v (.bool false)))), (AV.p (.c (.v (.bool (!decide (((List.length x0 : Nat) : Int) = ((List.length x1 : Nat) : Int)))))) = AV.p (.c (.v (.bool true))))] gamOK hT h (by kernel_rfl) ⟨hint_bool (decide_eq_false h1), hint_bool (ndF h2), trivial⟩ fun a w h => then_normal ?_
   refine at_test true h (by kernel_rfl) (fun hh => ?_) (fun hh => nomatch hh)
   refine wp_seq ?_
   refine at_regq [{ ids := [1] }] { ts := [0, 1, 4], os := [1] } [] gamOK hT h (by kernel_rfl) trivial fun a w h => then_normal (wp_ret (then_ret ?_))
   exact at_return (([] : List Int), ()) [] h (by kernel_rfl) trivial (congrArg (fun z => (z, ())) (show (([] : List Int)) = combV x0 x1 from by first | exact combV_n (by first | (left; omega) | (right; left; omega) | (right; right; left; assumption) | (right; right; right; assumption)) | (rw [← combV_y (by omega) (by omega) (by assumption) (all_of (z := []) (i := i) (by omega) hok0.2)]; show _ = combTo x0 x1 (List.length x0); rw [show List.length x0 = i by omega]; done) | exact combV_n (Or.inr (Or.inr (Or.inr (all_at (z := []) (i := i) (by omega) (by (show ((validV _) && _) = false; rw [Bool.and_eq_false_iff]; first | (left; assumption) | (right; exact decide_eq_false (by omega))))))))))

def D__impl_Recoder_seed := (fun (r : T35) (s : Int) => keyed s ([r.1, r.2.2.2.2]))
abbrev Q__impl_Recoder_seed := (fun (x0 : T35) (x1 : Int) => Sh.fit s35 x0)
def S__impl_Recoder_seed : Sum := { fid := 70, dom := [s35, (.int 3)], cod := [(.int 3)], dp := true, fz := false, pre := fun x => Q__impl_Recoder_seed x.1 x.2.1, g := fun x => ((D__impl_Recoder_seed x.1 x.2.1), ()) }
def S__impl_Recoder_seed_tab : List (Nat × Sum) := [(112, S_impl_KeyedHash)]
theorem S__impl_Recoder_seed_ok : FnOK Tryz.prog 70 S__impl_Recoder_seed := by
 refine at_enter 12 (fun x => ⟨[(0, aG [cI x.1.1, cI x.1.2.1, cI x.1.2.2.1, .ro s41 x.1.2.2.2.1, cI x.1.2.2.2.2]), (1, aI x.2.1)], []⟩) Tryz.func70 rfl (by kernel_rfl) (fun x => rfl) ?_
 rintro w0 Z0 ⟨x0, x1, u⟩ a w
 revert x0 x1
 intro (x0 : T35) (x1 : Int) hpre hlens h
 replace hpre : Q__impl_Recoder_seed x0 x1 := hpre
 have hT : TabOK Tryz.prog S__impl_Recoder_seed_tab := (.cons S_impl_KeyedHash_ok .nil)
 have hf0 : Sh.fit s35 x0 := hpre
 have hn0_1 : List.length x0.2.2.2.1 ≤ 1073741824 := hf0.2.2.2.1.1
 refine wp_seq ?_
 refine at_regq [{ ids := [1] }] { ts := [1, 2, 4], os := [1] } [] gamOK hT h (by kernel_rfl) trivial fun a w h => then_normal (wp_seq ?_)
 refine at_regq [{}, {}, {}, {}, {}, { ids := [2] }] { ts := [4], os := [] } [pKey x1 ([x0.1, x0.2.2.2.2])] gamOK hT h (by kernel_rfl) ⟨(by (show _ ≤ _; simp)), trivial⟩ fun a w h => then_normal (wp_ret ?_)
 exact at_return ((keyed x1 ([x0.1, x0.2.2.2.2])), ()) [] h (by kernel_rfl) trivial (congrArg (fun z => (z, ())) (show ((keyed x1 ([x0.1, x0.2.2.2.2]))) = D__impl_Recoder_seed x0 x1 from by unfold D__impl_Recoder_seed; rfl))

def codePk (g : T26) (cs : List Int) : T41 × Bool := if validG g = true ∧ validV cs = true ∧ cs.length = g.2.length then ((g.1, cs, combV g.2 cs), true) else ((0, [], []), false)
theorem codePk_y {g : T26} {cs : List Int} (h1 : validG g = true) (h2 : validV cs = true) (h3 : cs.length = g.2.length) : ((g.1, cs, combV g.2 cs), true) = codePk g cs := (if_pos ⟨h1, h2, h3⟩).symm
theorem codePk_n {g : T26} {cs : List Int} (h : validG g = false ∨ validV cs = false ∨ ¬ cs.length = g.2.length) : ((0, [], []), false) = codePk g cs := by
 unfold codePk; rw [if_neg]
 rintro ⟨h1, h2, h3⟩
 rcases h with h | h | h
 ·rw [h1] at h; cases h
 ·rw [h2] at h; cases h
 ·exact h h3
theorem genP {g : T26} (h : validG g = true) {cs : List Int} (hc : LA.VokB g.2.length cs) : combP g.2 cs := by
 have h1 := validG_t h
 have hm := validM_t h1.2.2.1
 have hk := validM_ok h1.2.2.1
 have h0 := (validV_t (hm.2 _ (getD_mem (z := []) (show 0 < g.2.length by omega))).1).1
 exact ⟨⟨by omega, by have := hc.1; omega, h0⟩, fun j hj => hk _ (LA.getD_in hj), fun j => hc.rng j⟩
theorem genC {g : T26} (h : validG g = true) {cs : List Int} (hc : LA.VokB g.2.length cs) : combV g.2 cs = combS g.2 cs := by
 have h1 := validG_t h
 have hm := validM_t h1.2.2.1
 refine (combV_y (by omega) hc.1.symm (validV_of hc (by omega)) ?_).symm
 rw [List.all_eq_true]; intro v hv
 have h2 := hm.2 v hv
 unfold cvB
 rw [Bool.and_eq_true]; exact ⟨h2.1, decide_eq_true h2.2⟩
def sysC (r : T35) (s : Int) : List Int := if r.2.2.2.2 ≥ r.2.1 then rndV (keyed s ([r.1, r.2.2.2.2])) r.2.1 else unitV r.2.1 r.2.2.2.2
def sysD (r : T35) (g : T26) (s : Int) : T41 × Bool := if r.2.2.2.2 = 1000000000000 then ((0, [], []), false) else ((g.1, sysC r s, combS g.2 (sysC r s)), true)
def sysU (r : T35) (_ : T26) (_ : Int) : T35 := if r.2.2.2.2 = 1000000000000 then r else (r.1, r.2.1, r.2.2.1, r.2.2.2.1, r.2.2.2.2 + 1)
def sysOK (g : T26) (r : T35) : Bool := (validG g && validR r) && (decide (g.1 = r.1) && (decide (((List.length g.2 : Nat) : Int) = r.2.1) && decide (colsOf g.2 = r.2.2.1)))
def sysP (g : T26) (r : T35) (s : Int) : T35 × T41 × Bool := if sysOK g r = true then (sysU r g s, sysD r g s) else (r, (0, [], []), false)
theorem sysOK_t {g : T26} {r : T35} (h1 : validG g = true) (h2 : validR r = true) (h3 : g.1 = r.1) (h4 : ((List.length g.2 : Nat) : Int) = r.2.1) (h5 : colsOf g.2 = r.2.2.1) : sysOK g r = true := by
 unfold sysOK; rw [h1, h2, decide_eq_true h3, decide_eq_true h4, decide_eq_true h5]; rfl
theorem sysOK_f {g : T26} {r : T35} (h : validG g = false ∨ validR r = false ∨ ¬ g.1 = r.1 ∨ ¬ ((List.length g.2 : Nat) : Int) = r.2.1 ∨ ¬ colsOf g.2 = r.2.2.1) : sysOK g r = false := by
 unfold sysOK
 rcases h with h | h | h | h | h
 ·rw [h]; rfl
 ·rw [h]; simp
 ·rw [decide_eq_false h]; simp
 ·rw [decide_eq_false h]; simp
 ·rw [decide_eq_false h]; simp
theorem sysP_y {g : T26} {r : T35} {s : Int} (h : sysOK g r = true) : (sysU r g s, sysD r g s) = sysP g r s := (if_pos h).symm
theorem sysP_n {g : T26} {r : T35} {s : Int} (h : sysOK g r = false) : (r, (0, [], []), false) = sysP g r s := (if_neg (by rw [h]; decide)).symm
theorem sysC_ok {g : T26} {r : T35} {s : Int} (hr : validR r = true) (h : ((List.length g.2 : Nat) : Int) = r.2.1) : LA.VokB g.2.length (sysC r s) := by
 have h1 := validR_t hr
 unfold sysC
 split
 ·have := rndV_ok (s := keyed s ([r.1, r.2.2.2.2])) (w := r.2.1) (by omega)
  rwa [show r.2.1.toNat = g.2.length by omega] at this
 ·have := unitL_ok r.2.1.toNat r.2.2.2.2
  rw [unitV_y (inR_true (by omega)) (inR_true (by omega)), show r.2.1.toNat = g.2.length by omega] at this
  exact this
theorem sysC_1 {r : T35} {s : Int} (h : r.2.2.2.2 ≥ r.2.1) : sysC r s = rndV (keyed s ([r.1, r.2.2.2.2])) r.2.1 := if_pos h
theorem sysC_2 {r : T35} {s : Int} (h : ¬ r.2.2.2.2 ≥ r.2.1) : sysC r s = unitV r.2.1 r.2.2.2.2 := if_neg h
theorem sysD_y {r : T35} {g : T26} {s : Int} (h : r.2.2.2.2 = 1000000000000) : ((0, [], []), false) = sysD r g s := (if_pos h).symm
theorem sysD_n {r : T35} {g : T26} {s : Int} (h : ¬ r.2.2.2.2 = 1000000000000) {cs : List Int} (hc : sysC r s = cs) : ((g.1, cs, combS g.2 cs), true) = sysD r g s := by unfold sysD; rw [if_neg h, hc]
theorem sysU_y {r : T35} {g : T26} {s : Int} (h : r.2.2.2.2 = 1000000000000) : r = sysU r g s := (if_pos h).symm
theorem sysU_n {r : T35} {g : T26} {s : Int} (h : ¬ r.2.2.2.2 = 1000000000000) : (r.1, r.2.1, r.2.2.1, r.2.2.2.1, r.2.2.2.2 + 1) = sysU r g s := (if_neg h).symm
def D_impl_codePacket := (fun (g : T26) (cs : List Int) => (g.1, cs, combS g.2 cs))
abbrev Q_impl_codePacket := (fun (x0 : T26) (x1 : (List Int)) => Sh.fit s26 x0 ∧ Sh.fit s39 x1 ∧ combP x0.2 x1)
def S_impl_codePacket : Sum := { fid := 71, dom := [s26, s39], cod := [s41], dp := true, fz := false, pre := fun x => Q_impl_codePacket x.1 x.2.1, g := fun x => ((D_impl_codePacket x.1 x.2.1), ()), kinds := [.rd, .tk], upd := fun x => (x.1, (x.2.1, ())) }
def S_impl_codePacket_tab : List (Nat × Sum) := [(113, S_impl_combine)]
theorem S_impl_codePacket_ok : FnOK Tryz.prog 71 S_impl_codePacket := by
 refine at_enterI 13 [1] [] (fun us x => ⟨[(0, aG [cI x.1.1, .ro s39 x.1.2]), (1, aS 1)], [(1, oR (.int 3) x.2.1)]⟩) Tryz.func71 rfl (by kernel_rfl) (fun us x => rfl) ?_
 rintro w0 Z0 us ⟨x0, x1, u⟩ L a w
 revert x0 x1
 intro (x0 : T26) (x1 : (List Int)) hio hpre hlens h
 replace h : At w0 Z0 L 13 ⟨[(0, aG [cI x0.1, .ro s39 x0.2]), (1, aS 1)], [(1, oR (.int 3) x1)]⟩ a w := h
 replace hpre : Q_impl_codePacket x0 x1 := hpre
 have hT : TabOK Tryz.prog S_impl_codePacket_tab := (.cons S_impl_combine_ok .nil)
 obtain ⟨hf0, hf1, hpx⟩ := hpre
 have hn0_1 : List.length x0.2 ≤ 1073741824 := hf0.2.1
 have hn1_2 : List.length x1 ≤ 1073741824 := hf1.1
 refine wp_seq ?_
 refine at_regq [{ ids := [2] }, { ids := [3] }] { ts := [1, 2, 4], os := [1, 2, 3] } [] gamOK hT h (by kernel_rfl) trivial fun a w h => then_normal (wp_seq ?_)
 refine at_anyq [{}, {}, {}, {}, {}, {}, { ids := [4] }, {}, {}] { ts := [4], os := [1, 3, 4] } [Q_impl_combine x0.2 x1] gamOK hT mixed h (by kernel_rfl) ⟨(by exact ⟨hf0.2, hf1, hpx⟩), trivial⟩ fun a w h => then_normal (wp_ret ?_)
 exact at_returnI (S := S_impl_codePacket) (x := (x0, x1, ())) [1] [] (x0, (x1, ())) (some ((x0.1, (x1, (combS x0.2 x1))), ())) [] hio h (by kernel_rfl) trivial (by first | rfl | (show (x0, (x1, ())) = (x0, (x1, ())))) (fun z e => (Option.some.inj e) ▸ (congrArg (fun z => (z, ())) (show ((x0.1, (x1, (combS x0.2 x1)))) = D_impl_codePacket x0 x1 from by unfold D_impl_codePacket; rfl)))

abbrev Q__P_impl_Recoder_systematic := (fun (x0 : T35) (x1 : T26) (x2 : Int) => Sh.fit s35 x0 ∧ Sh.fit s26 x1 ∧ (validG x1 = true ∧ validR x0 = true ∧ ((List.length x1.2 : Nat) : Int) = x0.2.1))
def S__P_impl_Recoder_systematic : Sum := { fid := 37, dom := [s35, s26, (.int 3)], cod := [s41, (.bool 4)], dp := true, fz := false, pre := fun x => Q__P_impl_Recoder_systematic x.1 x.2.1 x.2.2.1, g := fun x => ((sysD x.1 x.2.1 x.2.2.1).1, ((sysD x.1 x.2.1 x.2.2.1).2, ())), kinds := [(.bx 35 0), .rd, .rd], upd := fun x => (sysU x.1 x.2.1 x.2.2.1, (x.2.1, (x.2.2.1, ()))) }
def S__P_impl_Recoder_systematic_tab : List (Nat × Sum) := [(68, S_impl_UnitVector), (70, S__impl_Recoder_seed), (69, S_impl_RandomVector), (71, S_impl_codePacket)]
theorem S__P_impl_Recoder_systematic_ok : FnOK Tryz.prog 37 S__P_impl_Recoder_systematic := by
 refine at_enterI 53 [1, 2] [3] (fun us x => ⟨[(0, aP 1 0), (1, aG [cI x.2.1.1, .ro s39 x.2.1.2]), (2, aI x.2.2.1)], [(1, oX 35 [cI x.1.1, cI x.1.2.1, cI x.1.2.2.1, .sl 2, cI x.1.2.2.2.2]), (2, oR s41 x.1.2.2.2.1), (3, oP 1 (S__P_impl_Recoder_systematic.hd us 0))]⟩) Tryz.func37 rfl (by kernel_rfl) (fun us x => rfl) ?_
 rintro w0 Z0 us ⟨x0, x1, x2, u⟩ L a w
 revert x0 x1 x2
 intro (x0 : T35) (x1 : T26) (x2 : Int) hio hpre hlens h
 replace h : At w0 Z0 L 53 ⟨[(0, aP 1 0), (1, aG [cI x1.1, .ro s39 x1.2]), (2, aI x2)], [(1, oX 35 [cI x0.1, cI x0.2.1, cI x0.2.2.1, .sl 2, cI x0.2.2.2.2]), (2, oR s41 x0.2.2.2.1), (3, oP 1 (S__P_impl_Recoder_systematic.hd us 0))]⟩ a w := h
 replace hpre : Q__P_impl_Recoder_systematic x0 x1 x2 := hpre
 have hT : TabOK Tryz.prog S__P_impl_Recoder_systematic_tab := (.cons S_impl_UnitVector_ok (.cons S__impl_Recoder_seed_ok (.cons S_impl_RandomVector_ok (.cons S_impl_codePacket_ok .nil))))
 obtain ⟨hf0, hf1, hpx⟩ := hpre
 have hn0_1 : List.length x0.2.2.2.1 ≤ 1073741824 := hf0.2.2.2.1.1
 have hn1_2 : List.length x1.2 ≤ 1073741824 := hf1.2.1
 have hvr := validR_t hpx.2.1
 have hvg := validG_t hpx.1
 have hc := sysC_ok (s := x2) hpx.2.1 hpx.2.2
 refine wp_seq ?_
 refine at_regq [{ ids := [4] }, { ids := [5] }] { ts := [0, 2, 4, 6, 7], os := [1, 2, 3, 4, 5] } [] gamOK hT h (by kernel_rfl) trivial fun a w h => then_normal (wp_seq (wp_seq ?_))
 refine at_regq [] { ts := [0, 2, 4, 6, 7, 13], os := [1, 2, 3, 4, 5] } [] gamOK hT h (by kernel_rfl) trivial fun a w h => then_normal ?_
 refine at_test (decide (x0.2.2.2.2 = 1000000000000)) h (by kernel_rfl) (fun h1 => ?_) (fun h1 => ?_)
 ·replace h1 : x0.2.2.2.2 = 1000000000000 := of_decide_eq_true h1
  refine wp_seq ?_
  refine at_regq [] { ts := [0, 2, 4, 6, 7], os := [1, 2, 3, 4, 5] } [] gamOK hT h (by kernel_rfl) trivial fun a w h => then_normal (wp_ret (then_ret ?_))
  exact at_returnI (S := S__P_impl_Recoder_systematic) (x := (x0, x1, x2, ())) [1, 2] [3] (x0, (x1, (x2, ()))) (some ((0, (([] : List Int), ([] : List Int))), (false, ()))) [S__P_impl_Recoder_systematic.hd us 0 = S__P_impl_Recoder_systematic.hd us 0] hio h (by kernel_rfl) ⟨rfl, trivial⟩ (by first | rfl | exact congrArg (fun (z : T35) => (z, (x1, (x2, ())))) (show (x0 : T35) = sysU x0 x1 x2 from by (first | exact sysU_y (by omega) | exact sysU_n (by omega)))) (fun z e => (Option.some.inj e) ▸ (congrArg (fun z => (z.1, z.2, ())) (show (((0, (([] : List Int), ([] : List Int))), false)) = sysD x0 x1 x2 from by (first | exact sysD_y (by omega) | exact sysD_n (by omega) (sysC_1 (by omega)) | exact sysD_n (by omega) (sysC_2 (by omega))))))
 ·replace h1 : ¬ (x0.2.2.2.2 = 1000000000000) := of_decide_eq_false h1
  refine wp_skip (then_normal (wp_seq ?_))
  refine at_anyq [{}, {}, {}, {}, {}, {}, {}, {}, { ids := [6] }, {}] { ts := [0, 2, 4, 6, 7, 8], os := [1, 2, 3, 4, 5, 6] } [True] gamOK hT mixed h (by kernel_rfl) ⟨trivial, trivial⟩ fun a w h => then_normal (wp_seq (wp_seq ?_))
  refine at_anyq [{}, {}, {}, {}, {}, {}, {}, {}, {}] { ts := [0, 2, 4, 6, 7, 8, 32], os := [1, 2, 3, 4, 5, 6] } [] gamOK hT mixed h (by kernel_rfl) trivial fun a w h => then_normal ?_
  refine at_test (decide (x0.2.2.2.2 ≥ x0.2.1)) h (by kernel_rfl) (fun h2 => ?_) (fun h2 => ?_)
  ·replace h2 : x0.2.2.2.2 ≥ x0.2.1 := of_decide_eq_true h2
   refine at_anyq [{}, {}, {}, {}, {}, {}, {}, {}, {}, { ids := [7] }, {}] { ts := [0, 4, 6, 7, 8], os := [1, 2, 3, 4, 5, 7] } [Q__impl_Recoder_seed x0 x2, True] gamOK hT mixed h (by kernel_rfl) ⟨(by exact hf0), trivial, trivial⟩ fun a w h => then_normal (wp_seq ?_)
   refine at_regq [{}, {}, {}, {}, { nw := true }] { ts := [4, 6, 7, 8], os := [1, 2, 3, 4, 5, 7] } [I64 (x0.2.2.2.2 + 1)] gamOK hT h (by kernel_rfl) ⟨⟨by first | omega | (simp only [lsA]; omega) | (simp <;> omega), by first | omega | (simp only [lsA]; omega) | (simp <;> omega)⟩, trivial⟩ fun a w h => then_normal (wp_seq ?_)
   refine at_regq [{}, {}, { ids := [8, 9] }] { ts := [6, 7], os := [1, 2, 3, 5, 8, 9] } [Q_impl_codePacket x1 (rndV (keyed x2 ([x0.1, x0.2.2.2.2])) x0.2.1)] gamOK hT h (by kernel_rfl) ⟨(by first | (rw [sysC_1 (by omega)] at hc; exact ⟨hf1, (Sh.fit_len (t := 39) (s := .int 3) rfl (by have := hc.1; omega)), genP hpx.1 hc⟩) | (rw [sysC_2 (by omega)] at hc; exact ⟨hf1, (Sh.fit_len (t := 39) (s := .int 3) rfl (by have := hc.1; omega)), genP hpx.1 hc⟩)), trivial⟩ fun a w h => then_normal (wp_ret ?_)
   exact at_returnI (S := S__P_impl_Recoder_systematic) (x := (x0, x1, x2, ())) [1, 2] [3] ((x0.1, (x0.2.1, (x0.2.2.1, (x0.2.2.2.1, x0.2.2.2.2 + 1)))), (x1, (x2, ()))) (some ((D_impl_codePacket x1 (rndV (keyed x2 ([x0.1, x0.2.2.2.2])) x0.2.1)), (true, ()))) [S__P_impl_Recoder_systematic.hd us 0 = S__P_impl_Recoder_systematic.hd us 0] hio h (by kernel_rfl) ⟨rfl, trivial⟩ (by first | rfl | exact congrArg (fun (z : T35) => (z, (x1, (x2, ())))) (show ((x0.1, (x0.2.1, (x0.2.2.1, (x0.2.2.2.1, x0.2.2.2.2 + 1)))) : T35) = sysU x0 x1 x2 from by (first | exact sysU_y (by omega) | exact sysU_n (by omega)))) (fun z e => (Option.some.inj e) ▸ (congrArg (fun z => (z.1, z.2, ())) (show (((D_impl_codePacket x1 (rndV (keyed x2 ([x0.1, x0.2.2.2.2])) x0.2.1)), true)) = sysD x0 x1 x2 from by (first | exact sysD_y (by omega) | exact sysD_n (by omega) (sysC_1 (by omega)) | exact sysD_n (by omega) (sysC_2 (by omega))))))
  ·replace h2 : ¬ (x0.2.2.2.2 ≥ x0.2.1) := of_decide_eq_false h2
   refine wp_skip (then_normal (wp_seq ?_))
   refine at_regq [{}, {}, {}, {}, { nw := true }] { ts := [4, 6, 7, 8], os := [1, 2, 3, 4, 5, 6] } [I64 (x0.2.2.2.2 + 1)] gamOK hT h (by kernel_rfl) ⟨⟨by first | omega | (simp only [lsA]; omega) | (simp <;> omega), by first | omega | (simp only [lsA]; omega) | (simp <;> omega)⟩, trivial⟩ fun a w h => then_normal (wp_seq ?_)
   refine at_regq [{}, {}, { ids := [10, 11] }] { ts := [6, 7], os := [1, 2, 3, 5, 10, 11] } [Q_impl_codePacket x1 (unitV x0.2.1 x0.2.2.2.2)] gamOK hT h (by kernel_rfl) ⟨(by first | (rw [sysC_1 (by omega)] at hc; exact ⟨hf1, (Sh.fit_len (t := 39) (s := .int 3) rfl (by have := hc.1; omega)), genP hpx.1 hc⟩) | (rw [sysC_2 (by omega)] at hc; exact ⟨hf1, (Sh.fit_len (t := 39) (s := .int 3) rfl (by have := hc.1; omega)), genP hpx.1 hc⟩)), trivial⟩ fun a w h => then_normal (wp_ret ?_)
   exact at_returnI (S := S__P_impl_Recoder_systematic) (x := (x0, x1, x2, ())) [1, 2] [3] ((x0.1, (x0.2.1, (x0.2.2.1, (x0.2.2.2.1, x0.2.2.2.2 + 1)))), (x1, (x2, ()))) (some ((D_impl_codePacket x1 (unitV x0.2.1 x0.2.2.2.2)), (true, ()))) [S__P_impl_Recoder_systematic.hd us 0 = S__P_impl_Recoder_systematic.hd us 0] hio h (by kernel_rfl) ⟨rfl, trivial⟩ (by first | rfl | exact congrArg (fun (z : T35) => (z, (x1, (x2, ())))) (show ((x0.1, (x0.2.1, (x0.2.2.1, (x0.2.2.2.1, x0.2.2.2.2 + 1)))) : T35) = sysU x0 x1 x2 from by (first | exact sysU_y (by omega) | exact sysU_n (by omega)))) (fun z e => (Option.some.inj e) ▸ (congrArg (fun z => (z.1, z.2, ())) (show (((D_impl_codePacket x1 (unitV x0.2.1 x0.2.2.2.2)), true)) = sysD x0 x1 x2 from by (first | exact sysD_y (by omega) | exact sysD_n (by omega) (sysC_1 (by omega)) | exact sysD_n (by omega) (sysC_2 (by omega))))))

abbrev Q_impl_SystematicPacket := (fun (x0 : T26) (x1 : T35) (x2 : Int) => Sh.fit s26 x0 ∧ Sh.fit s35 x1)
def S_impl_SystematicPacket : Sum := { fid := 10, dom := [s26, s35, (.int 3)], cod := [s35, s41, (.bool 4)], dp := true, fz := false, pre := fun x => Q_impl_SystematicPacket x.1 x.2.1 x.2.2.1, g := fun x => ((sysP x.1 x.2.1 x.2.2.1).1, ((sysP x.1 x.2.1 x.2.2.1).2.1, ((sysP x.1 x.2.1 x.2.2.1).2.2, ()))) }
def S_impl_SystematicPacket_tab : List (Nat × Sum) := [(33, S__impl_Recoder_clone), (34, S_impl_IsValidGeneration), (35, S_impl_IsValidRecoder), (36, S_impl_SymbolWidth), (37, S__P_impl_Recoder_systematic)]
theorem S_impl_SystematicPacket_ok : FnOK Tryz.prog 10 S_impl_SystematicPacket := by
 refine at_enter 55 (fun x => ⟨[(0, aG [cI x.1.1, .ro s39 x.1.2]), (1, aG [cI x.2.1.1, cI x.2.1.2.1, cI x.2.1.2.2.1, .ro s41 x.2.1.2.2.2.1, cI x.2.1.2.2.2.2]), (2, aI x.2.2.1)], []⟩) Tryz.func10 rfl (by kernel_rfl) (fun x => rfl) ?_
 rintro w0 Z0 ⟨x0, x1, x2, u⟩ a w
 revert x0 x1 x2
 intro (x0 : T26) (x1 : T35) (x2 : Int) hpre hlens h
 replace hpre : Q_impl_SystematicPacket x0 x1 x2 := hpre
 have hT : TabOK Tryz.prog S_impl_SystematicPacket_tab := (.cons S__impl_Recoder_clone_ok (.cons S_impl_IsValidGeneration_ok (.cons S_impl_IsValidRecoder_ok (.cons S_impl_SymbolWidth_ok (.cons S__P_impl_Recoder_systematic_ok .nil)))))
 obtain ⟨hf0, hf1⟩ := hpre
 have hn0_1 : List.length x0.2 ≤ 1073741824 := hf0.2.1
 have hn1_2 : List.length x1.2.2.2.1 ≤ 1073741824 := hf1.2.2.2.1.1
 refine wp_seq ?_
 refine at_regq [{ ids := [1] }, { ids := [2] }, { ids := [3] }, { ids := [4] }] { ts := [2, 3, 4, 6, 7, 8], os := [1, 2, 3, 4] } [] gamOK hT h (by kernel_rfl) trivial fun a w h => then_normal (wp_seq ?_)
 refine at_regq [{}, { ids := [5] }, { ids := [6] }] { ts := [2, 3, 4, 6, 7, 8, 9], os := [1, 2, 3, 4, 5, 6] } [Q__impl_Recoder_clone x1] gamOK hT h (by kernel_rfl) ⟨(by exact hf1), trivial⟩ fun a w h => then_normal (wp_seq (wp_seq ?_))
 rcases Bool.eq_false_or_eq_true (!(validG x0)) with h1 | h1
 ·have hzh1 : (validG x0) = false := notT h1
  refine at_anyq [{}, {}, { hint := some (aB true) }, {}, {}, {}, {}, {}, {}, {}, {}, {}, {}, {}, {}, {}, {}, {}, {}, {}, {}, {}, {}, {}, {}, {}, {}, {}, {}, {}] { ts := [2, 3, 6, 7, 8, 9, 43], os := [1, 3, 4, 5, 6] } [Q_impl_IsValidGeneration x0, (AV.p (.c (.v (.bool (!(validG x0))))) = AV.p (.c (.v (.bool true))))] gamOK hT mixed h (by kernel_rfl) ⟨(by exact hf0), hint_bool (h1), trivial⟩ fun a w h => then_normal ?_
  refine at_test true h (by kernel_rfl) (fun hh => ?_) (fun hh => nomatch hh)
  refine wp_seq ?_
  refine at_regq [] { ts := [2, 3, 6, 7, 8, 9], os := [1, 3, 4, 5, 6] } [] gamOK hT h (by kernel_rfl) trivial fun a w h => then_normal (wp_ret (then_ret ?_))
  exact at_return (x1, ((0, (([] : List Int), ([] : List Int))), (false, ()))) [] h (by kernel_rfl) trivial (congrArg (fun z => (z.1, z.2.1, z.2.2, ())) (show ((x1, (0, (([] : List Int), ([] : List Int))), false)) = sysP x0 x1 x2 from by first | exact sysP_n (sysOK_f (by first | (left; assumption) | (right; left; assumption) | (right; right; left; omega) | (right; right; right; left; omega) | (right; right; right; right; omega))) | exact sysP_y (sysOK_t (by assumption) (by assumption) (by omega) (by omega) (by omega))))
 ·have hzh1 : (validG x0) = true := notF h1
  have hvh1 := validG_t (notF h1)
  rcases Bool.eq_false_or_eq_true (!(validR x1)) with h2 | h2
  ·have hzh2 : (validR x1) = false := notT h2
   refine at_anyq [{}, {}, { hint := some (aB false) }, {}, {}, {}, { hint := some (aB true) }, {}, {}, {}, {}, {}, {}, {}, {}, {}, {}, {}, {}, {}, {}, {}, {}, {}, {}, {}, {}, {}, {}, {}] { ts := [2, 3, 6, 7, 8, 9, 43], os := [1, 3, 4, 5, 6] } [Q_impl_IsValidGeneration x0, (AV.p (.c (.v (.bool (!(validG x0))))) = AV.p (.c (.v (.bool false)))), Q_impl_IsValidRecoder x1, (AV.p (.c (.v (.bool (!(validR x1))))) = AV.p (.c (.v (.bool true))))] gamOK hT mixed h (by kernel_rfl) ⟨(by exact hf0), hint_bool (h1), (by exact hf1), hint_bool (h2), trivial⟩ fun a w h => then_normal ?_
   refine at_test true h (by kernel_rfl) (fun hh => ?_) (fun hh => nomatch hh)
   refine wp_seq ?_
   refine at_regq [] { ts := [2, 3, 6, 7, 8, 9], os := [1, 3, 4, 5, 6] } [] gamOK hT h (by kernel_rfl) trivial fun a w h => then_normal (wp_ret (then_ret ?_))
   exact at_return (x1, ((0, (([] : List Int), ([] : List Int))), (false, ()))) [] h (by kernel_rfl) trivial (congrArg (fun z => (z.1, z.2.1, z.2.2, ())) (show ((x1, (0, (([] : List Int), ([] : List Int))), false)) = sysP x0 x1 x2 from by first | exact sysP_n (sysOK_f (by first | (left; assumption) | (right; left; assumption) | (right; right; left; omega) | (right; right; right; left; omega) | (right; right; right; right; omega))) | exact sysP_y (sysOK_t (by assumption) (by assumption) (by omega) (by omega) (by omega))))
  ·have hzh2 : (validR x1) = true := notF h2
   have hvh2 := validR_t (notF h2)
   by_cases h3 : x0.1 = x1.1
   ·by_cases h4 : ((List.length x0.2 : Nat) : Int) = x1.2.1
    ·refine at_anyq [{}, {}, { hint := some (aB false) }, {}, {}, {}, { hint := some (aB false) }, {}, {}, {}, {}, {}, {}, { hint := some (aB false) }, {}, {}, {}, {}, {}, {}, {}, { hint := some (aB false) }, {}, {}, {}, {}, {}, {}, {}, {}] { ts := [2, 3, 6, 7, 8, 9, 43], os := [1, 3, 4, 5, 6] } [Q_impl_IsValidGeneration x0, (AV.p (.c (.v (.bool (!(validG x0))))) = AV.p (.c (.v (.bool false)))), Q_impl_IsValidRecoder x1, (AV.p (.c (.v (.bool (!(validR x1))))) = AV.p (.c (.v (.bool false)))), (AV.p (.c (.v (.bool (!decide (x0.1 = x1.1))))) = AV.p (.c (.v (.bool false)))), (AV.p (.c (.v (.bool (!decide (((List.length x0.2 : Nat) : Int) = x1.2.1))))) = AV.p (.c (.v (.bool false)))), Q_impl_SymbolWidth x0] gamOK hT mixed h (by kernel_rfl) ⟨(by exact hf0), hint_bool (h1), (by exact hf1), hint_bool (h2), hint_bool (ndT h3), hint_bool (ndT h4), (by exact hf0), trivial⟩ fun a w h => then_normal ?_
     refine at_test (!decide ((colsOf x0.2) = x1.2.2.1)) h (by kernel_rfl) (fun h5 => ?_) (fun h5 => ?_)
     ·replace h5 : ¬ ((colsOf x0.2) = x1.2.2.1) := of_decide_eq_false (notT h5)
      refine wp_seq ?_
      refine at_regq [] { ts := [2, 3, 6, 7, 8, 9], os := [1, 3, 4, 5, 6] } [] gamOK hT h (by kernel_rfl) trivial fun a w h => then_normal (wp_ret (then_ret ?_))
      exact at_return (x1, ((0, (([] : List Int), ([] : List Int))), (false, ()))) [] h (by kernel_rfl) trivial (congrArg (fun z => (z.1, z.2.1, z.2.2, ())) (show ((x1, (0, (([] : List Int), ([] : List Int))), false)) = sysP x0 x1 x2 from by first | exact sysP_n (sysOK_f (by first | (left; assumption) | (right; left; assumption) | (right; right; left; omega) | (right; right; right; left; omega) | (right; right; right; right; omega))) | exact sysP_y (sysOK_t (by assumption) (by assumption) (by omega) (by omega) (by omega))))
     ·replace h5 : (colsOf x0.2) = x1.2.2.1 := of_decide_eq_true (notF h5)
      refine wp_skip (then_normal (wp_seq ?_))
      refine at_regq [{}, {}, { ids := [7, 8, 9] }, {}, {}, {}, { ids := [10] }] { ts := [6, 7, 8, 9, 10, 11], os := [3, 4, 6, 7, 8, 9, 10] } [Q__P_impl_Recoder_systematic x1 x0 x2] gamOK hT h (by kernel_rfl) ⟨(by exact ⟨hf1, hf0, by assumption, by assumption, by omega⟩), trivial⟩ fun a w h => then_normal (wp_seq ?_)
      refine at_anyq [{}, {}, {}, {}, {}, {}] { ts := [6, 7, 8], os := [3, 4, 7, 8, 9] } [] gamOK hT mixed h (by kernel_rfl) trivial fun a w h => then_normal (wp_ret ?_)
      exact at_return ((sysU x1 x0 x2), ((sysD x1 x0 x2).1, ((sysD x1 x0 x2).2, ()))) [] h (by kernel_rfl) trivial (congrArg (fun z => (z.1, z.2.1, z.2.2, ())) (show (((sysU x1 x0 x2), (sysD x1 x0 x2).1, (sysD x1 x0 x2).2)) = sysP x0 x1 x2 from by first | exact sysP_n (sysOK_f (by first | (left; assumption) | (right; left; assumption) | (right; right; left; omega) | (right; right; right; left; omega) | (right; right; right; right; omega))) | exact sysP_y (sysOK_t (by assumption) (by assumption) (by omega) (by omega) (by omega))))
    ·refine at_anyq [{}, {}, { hint := some (aB false) }, {}, {}, {}, { hint := some (aB false) }, {}, {}, {}, {}, {}, {}, { hint := some (aB false) }, {}, {}, {}, {}, {}, {}, {}, { hint := some (aB true) }, {}, {}, {}, {}, {}, {}, {}, {}] { ts := [2, 3, 6, 7, 8, 9, 43], os := [1, 3, 4, 5, 6] } [Q_impl_IsValidGeneration x0, (AV.p (.c (.v (.bool (!(validG x0))))) = AV.p (.c (.v (.bool false)))), Q_impl_IsValidRecoder x1, (AV.p (.c (.v (.bool (!(validR x1))))) = AV.p (.c (.v (.bool false)))), (AV.p (.c (.v (.bool (!decide (x0.1 = x1.1))))) = AV.p (.c (.v (.bool false)))), (AV.p (.c (.v (.bool (!decide (((List.length x0.2 : Nat) : Int) = x1.2.1))))) = AV.p (.c (.v (.bool true))))] gamOK hT mixed h (by kernel_rfl) ⟨(by exact hf0), hint_bool (h1), (by exact hf1), hint_bool (h2), hint_bool (ndT h3), hint_bool (ndF h4), trivial⟩ fun a w h => then_normal ?_
     refine at_test true h (by kernel_rfl) (fun hh => ?_) (fun hh => nomatch hh)
     refine wp_seq ?_
     refine at_regq [] { ts := [2, 3, 6, 7, 8, 9], os := [1, 3, 4, 5, 6] } [] gamOK hT h (by kernel_rfl) trivial fun a w h => then_normal (wp_ret (then_ret ?_))
     exact at_return (x1, ((0, (([] : List Int), ([] : List Int))), (false, ()))) [] h (by kernel_rfl) trivial (congrArg (fun z => (z.1, z.2.1, z.2.2, ())) (show ((x1, (0, (([] : List Int), ([] : List Int))), false)) = sysP x0 x1 x2 from by first | exact sysP_n (sysOK_f (by first | (left; assumption) | (right; left; assumption) | (right; right; left; omega) | (right; right; right; left; omega) | (right; right; right; right; omega))) | exact sysP_y (sysOK_t (by assumption) (by assumption) (by omega) (by omega) (by omega))))
   ·refine at_anyq [{}, {}, { hint := some (aB false) }, {}, {}, {}, { hint := some (aB false) }, {}, {}, {}, {}, {}, {}, { hint := some (aB true) }, {}, {}, {}, {}, {}, {}, {}, {}, {}, {}, {}, {}, {}, {}, {}, {}] { ts := [2, 3, 6, 7, 8, 9, 43], os := [1, 3, 4, 5, 6] } [Q_impl_IsValidGeneration x0, (AV.p (.c (.v (.bool (!(validG x0))))) = AV.p (.c (.v (.bool false)))), Q_impl_IsValidRecoder x1, (AV.p (.c (.v (.bool (!(validR x1))))) = AV.p (.c (.v (.bool false)))), (AV.p (.c (.v (.bool (!decide (x0.1 = x1.1))))) = AV.p (.c (.v (.bool true))))] gamOK hT mixed h (by kernel_rfl) ⟨(by exact hf0), hint_bool (h1), (by exact hf1), hint_bool (h2), hint_bool (ndF h3), trivial⟩ fun a w h => then_normal ?_
    refine at_test true h (by kernel_rfl) (fun hh => ?_) (fun hh => nomatch hh)
    refine wp_seq ?_
    refine at_regq [] { ts := [2, 3, 6, 7, 8, 9], os := [1, 3, 4, 5, 6] } [] gamOK hT h (by kernel_rfl) trivial fun a w h => then_normal (wp_ret (then_ret ?_))
    exact at_return (x1, ((0, (([] : List Int), ([] : List Int))), (false, ()))) [] h (by kernel_rfl) trivial (congrArg (fun z => (z.1, z.2.1, z.2.2, ())) (show ((x1, (0, (([] : List Int), ([] : List Int))), false)) = sysP x0 x1 x2 from by first | exact sysP_n (sysOK_f (by first | (left; assumption) | (right; left; assumption) | (right; right; left; omega) | (right; right; right; left; omega) | (right; right; right; right; omega))) | exact sysP_y (sysOK_t (by assumption) (by assumption) (by omega) (by omega) (by omega))))

abbrev Q_spec_CodePacket := (fun (x0 : T26) (x1 : (List Int)) => Sh.fit s26 x0 ∧ Sh.fit s39 x1)
def S_spec_CodePacket : Sum := { fid := 38, dom := [s26, s39], cod := [s41, (.bool 4)], dp := true, fz := false, pre := fun x => Q_spec_CodePacket x.1 x.2.1, g := fun x => ((codePk x.1 x.2.1).1, ((codePk x.1 x.2.1).2, ())) }
def S_spec_CodePacket_tab : List (Nat × Sum) := [(72, S_spec_IsValidGeneration), (73, S_spec_IsValidVector), (74, S_spec_Combine)]
theorem S_spec_CodePacket_ok : FnOK Tryz.prog 38 S_spec_CodePacket := by
 refine at_enter 33 (fun x => ⟨[(0, aG [cI x.1.1, .ro s39 x.1.2]), (1, aF (.int 3) x.2.1)], []⟩) Tryz.func38 rfl (by kernel_rfl) (fun x => rfl) ?_
 rintro w0 Z0 ⟨x0, x1, u⟩ a w
 revert x0 x1
 intro (x0 : T26) (x1 : (List Int)) hpre hlens h
 replace hpre : Q_spec_CodePacket x0 x1 := hpre
 have hT : TabOK Tryz.prog S_spec_CodePacket_tab := (.cons S_spec_IsValidGeneration_ok (.cons S_spec_IsValidVector_ok (.cons S_spec_Combine_ok .nil)))
 obtain ⟨hf0, hf1⟩ := hpre
 have hn0_1 : List.length x0.2 ≤ 1073741824 := hf0.2.1
 have hn1_2 : List.length x1 ≤ 1073741824 := hf1.1
 refine wp_seq ?_
 refine at_regq [{ ids := [1] }, { ids := [2] }] { ts := [1, 2, 4, 5], os := [1, 2] } [] gamOK hT h (by kernel_rfl) trivial fun a w h => then_normal (wp_seq (wp_seq ?_))
 rcases Bool.eq_false_or_eq_true (!(validG x0)) with h1 | h1
 ·have hzh1 : (validG x0) = false := notT h1
  refine at_regq [{}, {}, { hint := some (aB true) }] { ts := [1, 2, 4, 5, 21], os := [1, 2] } [Q_spec_IsValidGeneration x0, (AV.p (.c (.v (.bool (!(validG x0))))) = AV.p (.c (.v (.bool true))))] gamOK hT h (by kernel_rfl) ⟨(by exact hf0), hint_bool (h1), trivial⟩ fun a w h => then_normal ?_
  refine at_test true h (by kernel_rfl) (fun hh => ?_) (fun hh => nomatch hh)
  refine wp_seq ?_
  refine at_regq [] { ts := [1, 2, 4, 5], os := [1, 2] } [] gamOK hT h (by kernel_rfl) trivial fun a w h => then_normal (wp_ret (then_ret ?_))
  exact at_return ((0, (([] : List Int), ([] : List Int))), (false, ())) [] h (by kernel_rfl) trivial (congrArg (fun z => (z.1, z.2, ())) (show (((0, (([] : List Int), ([] : List Int))), false)) = codePk x0 x1 from by first | exact codePk_n (by first | (left; assumption) | (right; left; assumption) | (right; right; omega)) | exact codePk_y (cs := x1) (by assumption) (by assumption) (by omega)))
 ·have hzh1 : (validG x0) = true := notF h1
  have hvh1 := validG_t (notF h1)
  rcases Bool.eq_false_or_eq_true (!(validV x1)) with h2 | h2
  ·have hzh2 : (validV x1) = false := notT h2
   refine at_regq [{}, {}, { hint := some (aB false) }, {}, {}, {}, { hint := some (aB true) }] { ts := [1, 2, 4, 5, 21], os := [1, 2] } [Q_spec_IsValidGeneration x0, (AV.p (.c (.v (.bool (!(validG x0))))) = AV.p (.c (.v (.bool false)))), Q_spec_IsValidVector x1, (AV.p (.c (.v (.bool (!(validV x1))))) = AV.p (.c (.v (.bool true))))] gamOK hT h (by kernel_rfl) ⟨(by exact hf0), hint_bool (h1), (by exact hf1), hint_bool (h2), trivial⟩ fun a w h => then_normal ?_
   refine at_test true h (by kernel_rfl) (fun hh => ?_) (fun hh => nomatch hh)
   refine wp_seq ?_
   refine at_regq [] { ts := [1, 2, 4, 5], os := [1, 2] } [] gamOK hT h (by kernel_rfl) trivial fun a w h => then_normal (wp_ret (then_ret ?_))
   exact at_return ((0, (([] : List Int), ([] : List Int))), (false, ())) [] h (by kernel_rfl) trivial (congrArg (fun z => (z.1, z.2, ())) (show (((0, (([] : List Int), ([] : List Int))), false)) = codePk x0 x1 from by first | exact codePk_n (by first | (left; assumption) | (right; left; assumption) | (right; right; omega)) | exact codePk_y (cs := x1) (by assumption) (by assumption) (by omega)))
  ·have hzh2 : (validV x1) = true := notF h2
   have hvh2 := validV_t (notF h2)
   refine at_regq [{}, {}, { hint := some (aB false) }, {}, {}, {}, { hint := some (aB false) }] { ts := [1, 2, 4, 5, 21], os := [1, 2] } [Q_spec_IsValidGeneration x0, (AV.p (.c (.v (.bool (!(validG x0))))) = AV.p (.c (.v (.bool false)))), Q_spec_IsValidVector x1, (AV.p (.c (.v (.bool (!(validV x1))))) = AV.p (.c (.v (.bool false))))] gamOK hT h (by kernel_rfl) ⟨(by exact hf0), hint_bool (h1), (by exact hf1), hint_bool (h2), trivial⟩ fun a w h => then_normal ?_
   refine at_test (!decide (((List.length x1 : Nat) : Int) = ((List.length x0.2 : Nat) : Int))) h (by kernel_rfl) (fun h3 => ?_) (fun h3 => ?_)
   ·replace h3 : ¬ (((List.length x1 : Nat) : Int) = ((List.length x0.2 : Nat) : Int)) := of_decide_eq_false (notT h3)
    refine wp_seq ?_
    refine at_regq [] { ts := [1, 2, 4, 5], os := [1, 2] } [] gamOK hT h (by kernel_rfl) trivial fun a w h => then_normal (wp_ret (then_ret ?_))
    exact at_return ((0, (([] : List Int), ([] : List Int))), (false, ())) [] h (by kernel_rfl) trivial (congrArg (fun z => (z.1, z.2, ())) (show (((0, (([] : List Int), ([] : List Int))), false)) = codePk x0 x1 from by first | exact codePk_n (by first | (left; assumption) | (right; left; assumption) | (right; right; omega)) | exact codePk_y (cs := x1) (by assumption) (by assumption) (by omega)))
   ·replace h3 : ((List.length x1 : Nat) : Int) = ((List.length x0.2 : Nat) : Int) := of_decide_eq_true (notF h3)
    refine wp_skip (then_normal (wp_seq ?_))
    refine at_anyq [{}, {}, { ids := [3] }, {}, { ids := [4] }, {}, {}, {}, { ids := [5] }, {}, {}, {}] { ts := [4, 5], os := [2, 4, 5] } [(List.length ([] : List Int) + List.length x1) * 8 ≤ 140737488355328, Q_spec_Combine x0.2 x1] gamOK hT mixed h (by kernel_rfl) ⟨(by first | omega | (simp only [lsA]; omega) | (simp <;> omega)), (by exact ⟨hf0.2, hf1⟩), trivial⟩ fun a w h => then_normal (wp_ret ?_)
    exact at_return ((x0.1, ((([] : List Int) ++ x1), (combV x0.2 x1))), (true, ())) [] h (by kernel_rfl) trivial (congrArg (fun z => (z.1, z.2, ())) (show (((x0.1, ((([] : List Int) ++ x1), (combV x0.2 x1))), true)) = codePk x0 x1 from by first | exact codePk_n (by first | (left; assumption) | (right; left; assumption) | (right; right; omega)) | exact codePk_y (cs := x1) (by assumption) (by assumption) (by omega)))

def and255 (z : Int) : Int := IntKind.i64.wrap ((BitVec.ofInt (IntKind.i64).bits z &&& BitVec.ofInt (IntKind.i64).bits 255).toNat : Int)
theorem and255_bd (z : Int) : 0 ≤ and255 z ∧ and255 z ≤ 255 := by
 unfold and255
 have e : (BitVec.ofInt (IntKind.i64).bits z &&& BitVec.ofInt (IntKind.i64).bits 255).toNat ≤ 255 := by
  rw [BitVec.toNat_and]
  have h2 : (BitVec.ofInt (IntKind.i64).bits 255).toNat = 255 := by decide
  rw [h2]; exact Nat.and_le_right
 rw [IntKind.wrap_i64]; omega
def lcgF (h : Int) : Int := IntKind.i64.wrap (IntKind.i64.wrap (h * 6364136223846793005) + 1442695040888963407)
def xorF (h : Int) : Int := IntKind.i64.wrap ((BitVec.ofInt (IntKind.i64).bits (Int.fdiv h (2 ^ (min (33 : Int).toNat (IntKind.i64).bits))) ^^^ BitVec.ofInt (IntKind.i64).bits (Int.fdiv h (2 ^ (min (47 : Int).toNat (IntKind.i64).bits)))).toNat : Int)
def hsF (h c : Int) : Int := IntKind.i64.wrap ((BitVec.ofInt (IntKind.i64).bits (IntKind.i64.wrap (IntKind.i64.wrap (IntKind.i64.wrap (h * 137) + c) + 11)) &&& BitVec.ofInt (IntKind.i64).bits 1073741823).toNat : Int)
def hsTo (code : List Int) : Nat → Int
 | 0 => 193017 + ((List.length code : Nat) : Int)
 | i + 1 => hsF (hsTo code i) (code.getD i 0)
def newC (code : List Int) : T112 := (code, 0, hsTo code (min (List.length code) 4000))
abbrev Q_spec_l1New := (fun (x0 : (List Int)) => Sh.fit s22 x0)
def B_spec_l1New : NS := { t := 112, s := s112, dom := [s22], pre := fun x => Q_spec_l1New x.1, g := fun x => (newC x.1) }
def S_spec_l1New : Sum := nSum 28 B_spec_l1New
def S_spec_l1New_tab : List (Nat × Sum) := []
theorem S_spec_l1New_ok : FnOK Tryz.prog 28 S_spec_l1New := by
 refine at_enterN (B := B_spec_l1New) 32 (fun x => ⟨[(0, aF (.u8 5) x.1)], []⟩) Tryz.func28 rfl (by kernel_rfl) (fun x => rfl) ?_
 rintro w0 Z0 ⟨x0, u⟩ a w
 revert x0
 intro (x0 : (List Int)) hpre hlens h
 replace h : At w0 Z0 [] 32 ⟨[(0, aF (.u8 5) x0)], []⟩ a w := h
 replace hpre : Q_spec_l1New x0 := hpre
 have hl1 : List.length x0 ≤ 9223372036854775807 := hlens.1.1
 have hu0 : u8L x0 := hlens.1.2
 have hT : TabOK Tryz.prog S_spec_l1New_tab := .nil
 have hf0 : Sh.fit s22 x0 := hpre
 have hn0_1 : List.length x0 ≤ 1073741824 := hf0.1
 refine wp_seq ?_
 refine at_regq [] { ts := [0, 2], os := [] } [] gamOK hT h (by kernel_rfl) trivial fun a w h => then_normal (wp_seq ?_)
 refine at_regq [{}, {}, { nw := true }] { ts := [0, 2, 3], os := [] } [I64 (193017 + ((List.length x0 : Nat) : Int))] gamOK hT h (by kernel_rfl) ⟨⟨by first | omega | (simp only [lsA]; omega) | (simp <;> omega), by first | omega | (simp only [lsA]; omega) | (simp <;> omega)⟩, trivial⟩ fun a w h => then_normal (wp_seq (wp_seq ?_))
 refine at_regq [] { ts := [0, 2, 3, 4], os := [] } [] gamOK hT h (by kernel_rfl) trivial fun a w h => then_normal (wp_block ?_)
 replace h := at_out (σ' := ⟨[(0, aF (.u8 5) x0), (2, .p (.c (.v (.pointer none)))), (3, aI (193017 + ((List.length x0 : Nat) : Int))), (4, aI 0)], []⟩) { ts := [0, 2, 3, 4], os := [] } h (by kernel_rfl)
 refine at_loop (fun i : Nat => (⟨[(0, aF (.u8 5) x0), (2, .p (.c (.v (.pointer none)))), (3, aI (hsTo x0 i)), (4, aI ((i : Nat) : Int))], []⟩ : St)) (fun i => i ≤ (min (List.length x0) 4000)) (fun i => (min (List.length x0) 4000) - i) (0) h (st_congr2 (fun (d0 : Int) (d1 : Int) => (⟨[(0, aF (.u8 5) x0), (2, .p (.c (.v (.pointer none)))), (3, aI d0), (4, aI d1)], []⟩ : St)) (show (193017 + ((List.length x0 : Nat) : Int) : Int) = (hsTo x0 (0)) from by first | with_reducible rfl | (rfl) | rfl) (show (0 : Int) = (((0) : Nat) : Int) from by first | with_reducible rfl | (rfl) | rfl)) (by omega) ?_
 intro i a w hok0 h
 have hu1 := getD_u8 hu0 i
 refine wp_seq (wp_seq ?_)
 by_cases h1 : ((i : Nat) : Int) < ((List.length x0 : Nat) : Int)
 ·refine at_regq [{}, {}, {}, { hint := some (aB true) }] { ts := [0, 2, 3, 4, 13, 14, 15], os := [] } [(AV.p (.c (.v (.bool (decide (((i : Nat) : Int) < ((List.length x0 : Nat) : Int)))))) = AV.p (.c (.v (.bool true))))] gamOK hT h (by kernel_rfl) ⟨hint_bool (decide_eq_true h1), trivial⟩ fun a w h => then_normal ?_
  refine at_test (decide (((i : Nat) : Int) < 4000)) h (by kernel_rfl) (fun h2 => ?_) (fun h2 => ?_)
  ·replace h2 : ((i : Nat) : Int) < 4000 := of_decide_eq_true h2
   refine wp_skip (then_normal (wp_seq (wp_block ?_)))
   refine at_regq [{}, {}, {}, {}, {}, {}, { hint := some (aI (x0.getD i 0)) }, {}, {}, { hint := some (aI (hsF (hsTo x0 i) (x0.getD i 0))) }] { ts := [0, 2, 3, 4, 13, 14], os := [] } [(0 : Int) ≤ ((i : Nat) : Int) ∧ ((i : Nat) : Int) < ((List.length x0 : Nat) : Int), (AV.p (.c (.v (.int .i64 (IntKind.i64.wrap ((x0.getD i 0)))))) = AV.p (.c (.v (.int .i64 ((x0.getD i 0)))))), (AV.p (.c (.v (.int .i64 (IntKind.i64.wrap ((BitVec.ofInt (IntKind.i64).bits (IntKind.i64.wrap ((IntKind.i64.wrap ((IntKind.i64.wrap ((hsTo x0 i) * 137)) + (x0.getD i 0))) + 11)) &&& BitVec.ofInt (IntKind.i64).bits 1073741823).toNat : Int))))) = AV.p (.c (.v (.int .i64 ((hsF (hsTo x0 i) (x0.getD i 0)))))))] gamOK hT h (by kernel_rfl) ⟨(by refine ⟨?_, ?_⟩ <;> (first | omega | (simp only [lsA]; omega) | (simp <;> omega))), hint_int (wrap_id ⟨by first | omega | (simp only [lsA]; omega) | (simp <;> omega), by first | omega | (simp only [lsA]; omega) | (simp <;> omega)⟩), hint_int (by rfl), trivial⟩ fun a w h => in_normal (then_normal ?_)
   refine at_regq [{}, { nw := true }] { ts := [0, 2, 3, 4, 13, 14], os := [] } [I64 (((i : Nat) : Int) + 1)] gamOK hT h (by kernel_rfl) ⟨⟨by first | omega | (simp only [lsA]; omega) | (simp <;> omega), by first | omega | (simp only [lsA]; omega) | (simp <;> omega)⟩, trivial⟩ fun a w h => ?_
   replace h := at_out (σ' := ⟨[(0, aF (.u8 5) x0), (2, .p (.c (.v (.pointer none)))), (3, aI (hsF (hsTo x0 i) (x0.getD i 0))), (4, aI (((i : Nat) : Int) + 1))], []⟩) { ts := [0, 2, 3, 4], os := [] } h (by kernel_rfl)
   exact ⟨i + 1, at_eq h (st_congr2 (fun (d0 : Int) (d1 : Int) => (⟨[(0, aF (.u8 5) x0), (2, .p (.c (.v (.pointer none)))), (3, aI d0), (4, aI d1)], []⟩ : St)) (show ((hsF (hsTo x0 i) (x0.getD i 0)) : Int) = (hsTo x0 (i + 1)) from by first | with_reducible rfl | (rfl) | rfl) (show (((i : Nat) : Int) + 1 : Int) = (((i + 1) : Nat) : Int) from by first | with_reducible rfl | (omega) | rfl)), (by omega), (by omega)⟩
  ·replace h2 : ¬ (((i : Nat) : Int) < 4000) := of_decide_eq_false h2
   refine wp_exit (then_exit ?_)
   replace h := at_out (σ' := ⟨[(0, aF (.u8 5) x0), (2, .p (.c (.v (.pointer none)))), (3, aI (hsTo x0 i))], []⟩) { ts := [0, 2, 3], os := [] } h (by kernel_rfl)
   replace h := at_eq (σ' := ⟨[(0, aF (.u8 5) x0), (2, .p (.c (.v (.pointer none)))), (3, aI (hsTo x0 (min (List.length x0) 4000)))], []⟩) h (st_congr1 (fun (d0 : Int) => (⟨[(0, aF (.u8 5) x0), (2, .p (.c (.v (.pointer none)))), (3, aI d0)], []⟩ : St)) (show ((hsTo x0 i) : Int) = (hsTo x0 (min (List.length x0) 4000)) from by first | with_reducible rfl | (rw [show i = (min (List.length x0) 4000) by omega]) | rfl))
   refine then_exit (in_hit (then_normal (wp_seq ?_)))
   refine at_regq [{}, {}, {}, { ids := [1] }] { ts := [2], os := [1] } [] gamOK hT h (by kernel_rfl) trivial fun a w h => then_normal (wp_ret ?_)
   exact at_returnN (B := B_spec_l1New) (x := (x0, ())) ((x0, (0, (hsTo x0 (min (List.length x0) 4000))))) [] h (by kernel_rfl) trivial (show (x0, (0, (hsTo x0 (min (List.length x0) 4000)))) = newC x0 from by rfl)
 ·refine at_regq [{}, {}, {}, { hint := some (aB false) }] { ts := [0, 2, 3, 4, 13, 14, 15], os := [] } [(AV.p (.c (.v (.bool (decide (((i : Nat) : Int) < ((List.length x0 : Nat) : Int)))))) = AV.p (.c (.v (.bool false))))] gamOK hT h (by kernel_rfl) ⟨hint_bool (decide_eq_false h1), trivial⟩ fun a w h => then_normal ?_
  refine at_test false h (by kernel_rfl) (fun hh => nomatch hh) (fun hh => ?_)
  refine wp_exit (then_exit ?_)
  replace h := at_out (σ' := ⟨[(0, aF (.u8 5) x0), (2, .p (.c (.v (.pointer none)))), (3, aI (hsTo x0 i))], []⟩) { ts := [0, 2, 3], os := [] } h (by kernel_rfl)
  replace h := at_eq (σ' := ⟨[(0, aF (.u8 5) x0), (2, .p (.c (.v (.pointer none)))), (3, aI (hsTo x0 (min (List.length x0) 4000)))], []⟩) h (st_congr1 (fun (d0 : Int) => (⟨[(0, aF (.u8 5) x0), (2, .p (.c (.v (.pointer none)))), (3, aI d0)], []⟩ : St)) (show ((hsTo x0 i) : Int) = (hsTo x0 (min (List.length x0) 4000)) from by first | with_reducible rfl | (rw [show i = (min (List.length x0) 4000) by omega]) | rfl))
  refine then_exit (in_hit (then_normal (wp_seq ?_)))
  refine at_regq [{}, {}, {}, { ids := [1] }] { ts := [2], os := [1] } [] gamOK hT h (by kernel_rfl) trivial fun a w h => then_normal (wp_ret ?_)
  exact at_returnN (B := B_spec_l1New) (x := (x0, ())) ((x0, (0, (hsTo x0 (min (List.length x0) 4000))))) [] h (by kernel_rfl) trivial (show (x0, (0, (hsTo x0 (min (List.length x0) 4000)))) = newC x0 from by rfl)

@[irreducible]
def byteC (x0 : T112) : T112 × Int := (if x0.2.1 < ((List.length x0.1 : Nat) : Int) then ((x0.1, (x0.2.1 + 1, (lcgF x0.2.2))), (and255 (and255 (xorF (lcgF x0.2.2)) + x0.1.getD x0.2.1.toNat 0))) else ((x0.1, (x0.2.1, (lcgF x0.2.2))), (and255 (xorF (lcgF x0.2.2)))))
abbrev Q_spec_l1Byte := (fun (x0 : T112) => 0 ≤ x0.2.1)
def B_spec_l1Byte : BS := { t := 112, s := s112, dom := [], cod := [(.int 3)], pre := fun y x => Q_spec_l1Byte y, upd := fun y x => (byteC y).1, g := fun y x => ((byteC y).2, ()) }
def S_spec_l1Byte : Sum := bSum 93 B_spec_l1Byte
def S_spec_l1Byte_tab : List (Nat × Sum) := []
theorem S_spec_l1Byte_ok : FnOK Tryz.prog 93 S_spec_l1Byte := by
 refine at_enterB (B := B_spec_l1Byte) 58 (fun v y x => ⟨[(0, aP 1 0)], [(1, oX 112 [.ro (.u8 5) y.1, cI y.2.1, cI y.2.2]), (2, oP 1 v)]⟩) Tryz.func93 rfl (by kernel_rfl) (fun v y x => rfl) ?_
 rintro w0 Z0 b0 x0 ⟨u⟩ a w
 revert x0
 intro (x0 : T112) hpre hlens0 hlens h
 replace h : At w0 Z0 [b0] 58 ⟨[(0, aP 1 0)], [(1, oX 112 [.ro (.u8 5) x0.1, cI x0.2.1, cI x0.2.2]), (2, oP 1 (Value.pointer (some ⟨b0, 0, none⟩)))]⟩ a w := h
 replace hpre : Q_spec_l1Byte x0 := hpre
 have hl1 : List.length x0.1 ≤ 9223372036854775807 := hlens0.1.1
 have hu0 : u8L x0.1 := hlens0.1.2
 have hT : TabOK Tryz.prog S_spec_l1Byte_tab := .nil
 have hp : (0 : Int) ≤ x0.2.1 := hpre
 refine wp_seq ?_
 refine at_regq [] { ts := [0, 2], os := [1, 2] } [] gamOK hT h (by kernel_rfl) trivial fun a w h => then_normal (wp_seq ?_)
 refine at_regq [{}, {}, {}, {}, {}, {}, { hint := some (aI (lcgF x0.2.2)) }] { ts := [0, 2], os := [1, 2] } [(AV.p (.c (.v (.int .i64 (IntKind.i64.wrap ((IntKind.i64.wrap (x0.2.2 * 6364136223846793005)) + 1442695040888963407))))) = AV.p (.c (.v (.int .i64 ((lcgF x0.2.2))))))] gamOK hT h (by kernel_rfl) ⟨hint_int (by rfl), trivial⟩ fun a w h => then_normal (wp_seq ?_)
 refine at_anyq [{}, {}, {}, {}, {}, {}, {}, {}, {}, {}, { hint := some (aI (xorF (lcgF x0.2.2))) }, { hint := some (aI (and255 (xorF (lcgF x0.2.2)))) }, {}] { ts := [0, 2, 3], os := [1, 2] } [(0 : Int) ≤ 33, (0 : Int) ≤ 47, (AV.p (.c (.v (.int .i64 (IntKind.i64.wrap ((BitVec.ofInt (IntKind.i64).bits (Int.fdiv (lcgF x0.2.2) (2 ^ (min (33 : Int).toNat (IntKind.i64).bits))) ^^^ BitVec.ofInt (IntKind.i64).bits (Int.fdiv (lcgF x0.2.2) (2 ^ (min (47 : Int).toNat (IntKind.i64).bits)))).toNat : Int))))) = AV.p (.c (.v (.int .i64 ((xorF (lcgF x0.2.2))))))), (AV.p (.c (.v (.int .i64 (IntKind.i64.wrap ((BitVec.ofInt (IntKind.i64).bits (xorF (lcgF x0.2.2)) &&& BitVec.ofInt (IntKind.i64).bits 255).toNat : Int))))) = AV.p (.c (.v (.int .i64 ((and255 (xorF (lcgF x0.2.2))))))))] gamOK hT mixed h (by kernel_rfl) ⟨(by first | omega | (simp only [lsA]; omega) | (simp <;> omega)), (by first | omega | (simp only [lsA]; omega) | (simp <;> omega)), hint_int (by rfl), hint_int (by rfl), trivial⟩ fun a w h => then_normal (wp_seq (wp_seq ?_))
 refine at_anyq [{}, {}, {}, {}, {}, {}, {}, {}, {}, {}] { ts := [0, 2, 3, 34], os := [1, 2] } [] gamOK hT mixed h (by kernel_rfl) trivial fun a w h => then_normal ?_
 refine at_test (decide (x0.2.1 < ((List.length x0.1 : Nat) : Int))) h (by kernel_rfl) (fun h1 => ?_) (fun h1 => ?_)
 ·replace h1 : x0.2.1 < ((List.length x0.1 : Nat) : Int) := of_decide_eq_true h1
  have hu1 := getD_u8 hu0 x0.2.1.toNat
  have ha1 := and255_bd (xorF (lcgF x0.2.2))
  refine wp_seq ?_
  refine at_anyq [{}, {}, {}, {}, {}, {}, {}, {}, {}, {}, {}, { hint := some (aI (x0.1.getD ((x0.2.1).toNat) 0)) }, { nw := true }, { hint := some (aI (and255 (and255 (xorF (lcgF x0.2.2)) + x0.1.getD x0.2.1.toNat 0))) }, {}] { ts := [0, 2, 3], os := [1, 2] } [(0 : Int) ≤ x0.2.1 ∧ x0.2.1 < ((List.length x0.1 : Nat) : Int), (AV.p (.c (.v (.int .i64 (IntKind.i64.wrap ((x0.1.getD ((x0.2.1).toNat) 0)))))) = AV.p (.c (.v (.int .i64 ((x0.1.getD ((x0.2.1).toNat) 0)))))), I64 ((and255 (xorF (lcgF x0.2.2))) + (x0.1.getD ((x0.2.1).toNat) 0)), (AV.p (.c (.v (.int .i64 (IntKind.i64.wrap ((BitVec.ofInt (IntKind.i64).bits ((and255 (xorF (lcgF x0.2.2))) + (x0.1.getD ((x0.2.1).toNat) 0)) &&& BitVec.ofInt (IntKind.i64).bits 255).toNat : Int))))) = AV.p (.c (.v (.int .i64 ((and255 (and255 (xorF (lcgF x0.2.2)) + x0.1.getD x0.2.1.toNat 0)))))))] gamOK hT mixed h (by kernel_rfl) ⟨(by refine ⟨?_, ?_⟩ <;> (first | omega | (simp only [lsA]; omega) | (simp <;> omega))), hint_int (wrap_id ⟨by first | omega | (simp only [lsA]; omega) | (simp <;> omega), by first | omega | (simp only [lsA]; omega) | (simp <;> omega)⟩), ⟨by first | omega | (simp only [lsA]; omega) | (simp <;> omega), by first | omega | (simp only [lsA]; omega) | (simp <;> omega)⟩, hint_int (by rfl), trivial⟩ fun a w h => then_normal ?_
  refine at_regq [{}, {}, {}, {}, {}, { nw := true }] { ts := [2, 3], os := [1, 2] } [I64 (x0.2.1 + 1)] gamOK hT h (by kernel_rfl) ⟨⟨by first | omega | (simp only [lsA]; omega) | (simp <;> omega), by first | omega | (simp only [lsA]; omega) | (simp <;> omega)⟩, trivial⟩ fun a w h => then_normal (wp_seq ?_)
  refine at_regq [] { ts := [2], os := [1, 2] } [] gamOK hT h (by kernel_rfl) trivial fun a w h => then_normal (wp_ret ?_)
  have hr2 : (((x0.1, (x0.2.1 + 1, (lcgF x0.2.2))), (and255 (and255 (xorF (lcgF x0.2.2)) + x0.1.getD x0.2.1.toNat 0))) : T112 × Int) = byteC x0 := by (unfold byteC; rw [if_pos h1])
  exact at_returnB (B := B_spec_l1Byte) (c0 := x0) (x := (())) ((x0.1, (x0.2.1 + 1, (lcgF x0.2.2)))) ((and255 (and255 (xorF (lcgF x0.2.2)) + x0.1.getD x0.2.1.toNat 0)), ()) [(Value.pointer (some ⟨b0, 0, none⟩)) = (Value.pointer (some ⟨b0, 0, none⟩))] h (by kernel_rfl) ⟨rfl, trivial⟩ (congrArg (a₁ := ((x0.1, (x0.2.1 + 1, (lcgF x0.2.2))), (and255 (and255 (xorF (lcgF x0.2.2)) + x0.1.getD x0.2.1.toNat 0)))) (a₂ := byteC x0) (fun (z : T112 × Int) => z.1) hr2) (congrArg (a₁ := ((x0.1, (x0.2.1 + 1, (lcgF x0.2.2))), (and255 (and255 (xorF (lcgF x0.2.2)) + x0.1.getD x0.2.1.toNat 0)))) (a₂ := byteC x0) (fun (z : T112 × Int) => (z.2, ())) hr2)
 ·replace h1 : ¬ (x0.2.1 < ((List.length x0.1 : Nat) : Int)) := of_decide_eq_false h1
  refine wp_skip (then_normal (wp_seq ?_))
  refine at_regq [] { ts := [2], os := [1, 2] } [] gamOK hT h (by kernel_rfl) trivial fun a w h => then_normal (wp_ret ?_)
  have hr3 : (((x0.1, (x0.2.1, (lcgF x0.2.2))), (and255 (xorF (lcgF x0.2.2)))) : T112 × Int) = byteC x0 := by (unfold byteC; rw [if_neg h1])
  exact at_returnB (B := B_spec_l1Byte) (c0 := x0) (x := (())) ((x0.1, (x0.2.1, (lcgF x0.2.2)))) ((and255 (xorF (lcgF x0.2.2))), ()) [(Value.pointer (some ⟨b0, 0, none⟩)) = (Value.pointer (some ⟨b0, 0, none⟩))] h (by kernel_rfl) ⟨rfl, trivial⟩ (congrArg (a₁ := ((x0.1, (x0.2.1, (lcgF x0.2.2))), (and255 (xorF (lcgF x0.2.2))))) (a₂ := byteC x0) (fun (z : T112 × Int) => z.1) hr3) (congrArg (a₁ := ((x0.1, (x0.2.1, (lcgF x0.2.2))), (and255 (xorF (lcgF x0.2.2))))) (a₂ := byteC x0) (fun (z : T112 × Int) => (z.2, ())) hr3)
theorem byte_bd (x : T112) : 0 ≤ (byteC x).2 ∧ (byteC x).2 ≤ 255 := by
 unfold byteC; split <;> exact and255_bd _
theorem byte_ok {x : T112} (h : 0 ≤ x.2.1) : 0 ≤ (byteC x).1.2.1 := by
 unfold byteC; split
 ·show (0 : Int) ≤ x.2.1 + 1; omega
 ·exact h

@[irreducible]
def belowC (x0 : T112) (x1 : Int) : T112 × Int := (if x1 ≤ 0 then (x0, 0) else (if x1 ≤ 256 then ((byteC x0).1, (Int.tmod (byteC x0).2 x1)) else ((byteC (byteC (byteC x0).1).1).1, (Int.tmod ((((byteC x0).2 * 65536) + ((byteC (byteC x0).1).2 * 256)) + (byteC (byteC (byteC x0).1).1).2) x1))))
abbrev Q_spec_l1Below := (fun (x0 : T112) (x1 : Int) => 0 ≤ x0.2.1)
def B_spec_l1Below : BS := { t := 112, s := s112, dom := [(.int 3)], cod := [(.int 3)], pre := fun y x => Q_spec_l1Below y x.1, upd := fun y x => (belowC y x.1).1, g := fun y x => ((belowC y x.1).2, ()) }
def S_spec_l1Below : Sum := bSum 54 B_spec_l1Below
def S_spec_l1Below_tab : List (Nat × Sum) := [(93, S_spec_l1Byte)]
theorem S_spec_l1Below_ok : FnOK Tryz.prog 54 S_spec_l1Below := by
 refine at_enterB (B := B_spec_l1Below) 31 (fun v y x => ⟨[(0, aP 1 0), (1, aI x.1)], [(1, oX 112 [.ro (.u8 5) y.1, cI y.2.1, cI y.2.2]), (2, oP 1 v)]⟩) Tryz.func54 rfl (by kernel_rfl) (fun v y x => rfl) ?_
 rintro w0 Z0 b0 x0 ⟨x1, u⟩ a w
 revert x0 x1
 intro (x0 : T112) (x1 : Int) hpre hlens0 hlens h
 replace h : At w0 Z0 [b0] 31 ⟨[(0, aP 1 0), (1, aI x1)], [(1, oX 112 [.ro (.u8 5) x0.1, cI x0.2.1, cI x0.2.2]), (2, oP 1 (Value.pointer (some ⟨b0, 0, none⟩)))]⟩ a w := h
 replace hpre : Q_spec_l1Below x0 x1 := hpre
 have hl1 : List.length x0.1 ≤ 9223372036854775807 := hlens0.1.1
 have hu0 : u8L x0.1 := hlens0.1.2
 have hT : TabOK Tryz.prog S_spec_l1Below_tab := (.cons S_spec_l1Byte_ok .nil)
 have hb1 := byte_ok hpre
 have hb2 := byte_ok hb1
 have hb3 := byte_ok hb2
 have hd1 := byte_bd x0
 have hd2 := byte_bd (byteC x0).1
 have hd3 := byte_bd (byteC (byteC x0).1).1
 refine wp_seq ?_
 refine at_regq [] { ts := [0, 1, 4], os := [1, 2] } [] gamOK hT h (by kernel_rfl) trivial fun a w h => then_normal (wp_seq (wp_seq ?_))
 refine at_regq [] { ts := [0, 1, 4, 9], os := [1, 2] } [] gamOK hT h (by kernel_rfl) trivial fun a w h => then_normal ?_
 refine at_test (decide (x1 ≤ 0)) h (by kernel_rfl) (fun h1 => ?_) (fun h1 => ?_)
 ·replace h1 : x1 ≤ 0 := of_decide_eq_true h1
  refine wp_seq ?_
  refine at_regq [] { ts := [0, 1, 4], os := [1, 2] } [] gamOK hT h (by kernel_rfl) trivial fun a w h => then_normal (wp_ret (then_ret ?_))
  have hr2 : ((x0, 0) : T112 × Int) = belowC x0 x1 := by (unfold belowC; rw [if_pos h1])
  exact at_returnB (B := B_spec_l1Below) (c0 := x0) (x := (x1, ())) (x0) (0, ()) [(Value.pointer (some ⟨b0, 0, none⟩)) = (Value.pointer (some ⟨b0, 0, none⟩))] h (by kernel_rfl) ⟨rfl, trivial⟩ (congrArg (a₁ := (x0, 0)) (a₂ := belowC x0 x1) (fun (z : T112 × Int) => z.1) hr2) (congrArg (a₁ := (x0, 0)) (a₂ := belowC x0 x1) (fun (z : T112 × Int) => (z.2, ())) hr2)
 ·replace h1 : ¬ (x1 ≤ 0) := of_decide_eq_false h1
  refine wp_skip (then_normal (wp_seq (wp_seq ?_)))
  refine at_regq [] { ts := [0, 1, 4, 11], os := [1, 2] } [] gamOK hT h (by kernel_rfl) trivial fun a w h => then_normal ?_
  refine at_test (decide (x1 ≤ 256)) h (by kernel_rfl) (fun h3 => ?_) (fun h3 => ?_)
  ·replace h3 : x1 ≤ 256 := of_decide_eq_true h3
   refine wp_seq ?_
   refine at_regq [] { ts := [0, 1, 4], os := [1, 2] } [B_spec_l1Byte.pre x0 (()), (x1 : Int) ≠ 0] gamOK hT h (by kernel_rfl) ⟨(by first | exact hpre | exact hb1 | exact hb2 | exact hb3), (by first | omega | (simp only [lsA]; omega) | (simp <;> omega)), trivial⟩ fun a w h => then_normal (wp_ret (then_ret ?_))
   have hr4 : (((byteC x0).1, (Int.tmod (byteC x0).2 x1)) : T112 × Int) = belowC x0 x1 := by (unfold belowC; rw [if_neg h1, if_pos h3])
   exact at_returnB (B := B_spec_l1Below) (c0 := x0) (x := (x1, ())) ((byteC x0).1) ((Int.tmod (byteC x0).2 x1), ()) [(Value.pointer (some ⟨b0, 0, none⟩)) = (Value.pointer (some ⟨b0, 0, none⟩))] h (by kernel_rfl) ⟨rfl, trivial⟩ (congrArg (a₁ := ((byteC x0).1, (Int.tmod (byteC x0).2 x1))) (a₂ := belowC x0 x1) (fun (z : T112 × Int) => z.1) hr4) (congrArg (a₁ := ((byteC x0).1, (Int.tmod (byteC x0).2 x1))) (a₂ := belowC x0 x1) (fun (z : T112 × Int) => (z.2, ())) hr4)
  ·replace h3 : ¬ (x1 ≤ 256) := of_decide_eq_false h3
   refine wp_skip (then_normal (wp_seq ?_))
   refine at_regq [] { ts := [0, 1, 4, 5], os := [1, 2] } [B_spec_l1Byte.pre x0 (())] gamOK hT h (by kernel_rfl) ⟨(by first | exact hpre | exact hb1 | exact hb2 | exact hb3), trivial⟩ fun a w h => then_normal (wp_seq ?_)
   refine at_regq [] { ts := [0, 1, 4, 5, 6], os := [1, 2] } [B_spec_l1Byte.pre (byteC x0).1 (())] gamOK hT h (by kernel_rfl) ⟨(by first | exact hpre | exact hb1 | exact hb2 | exact hb3), trivial⟩ fun a w h => then_normal (wp_seq ?_)
   refine at_regq [] { ts := [1, 4, 5, 6, 7], os := [1, 2] } [B_spec_l1Byte.pre (byteC (byteC x0).1).1 (())] gamOK hT h (by kernel_rfl) ⟨(by first | exact hpre | exact hb1 | exact hb2 | exact hb3), trivial⟩ fun a w h => then_normal (wp_seq ?_)
   refine at_regq [{}, { nw := true }, {}, { nw := true }, { nw := true }, {}, { nw := true }] { ts := [4], os := [1, 2] } [I64 ((byteC x0).2 * 65536), I64 ((byteC (byteC x0).1).2 * 256), I64 (((byteC x0).2 * 65536) + ((byteC (byteC x0).1).2 * 256)), I64 ((((byteC x0).2 * 65536) + ((byteC (byteC x0).1).2 * 256)) + (byteC (byteC (byteC x0).1).1).2), (x1 : Int) ≠ 0] gamOK hT h (by kernel_rfl) ⟨⟨by first | omega | (simp only [lsA]; omega) | (simp <;> omega), by first | omega | (simp only [lsA]; omega) | (simp <;> omega)⟩, ⟨by first | omega | (simp only [lsA]; omega) | (simp <;> omega), by first | omega | (simp only [lsA]; omega) | (simp <;> omega)⟩, ⟨by first | omega | (simp only [lsA]; omega) | (simp <;> omega), by first | omega | (simp only [lsA]; omega) | (simp <;> omega)⟩, ⟨by first | omega | (simp only [lsA]; omega) | (simp <;> omega), by first | omega | (simp only [lsA]; omega) | (simp <;> omega)⟩, (by first | omega | (simp only [lsA]; omega) | (simp <;> omega)), trivial⟩ fun a w h => then_normal (wp_ret ?_)
   have hr5 : (((byteC (byteC (byteC x0).1).1).1, (Int.tmod ((((byteC x0).2 * 65536) + ((byteC (byteC x0).1).2 * 256)) + (byteC (byteC (byteC x0).1).1).2) x1)) : T112 × Int) = belowC x0 x1 := by (unfold belowC; rw [if_neg h1, if_neg h3])
   exact at_returnB (B := B_spec_l1Below) (c0 := x0) (x := (x1, ())) ((byteC (byteC (byteC x0).1).1).1) ((Int.tmod ((((byteC x0).2 * 65536) + ((byteC (byteC x0).1).2 * 256)) + (byteC (byteC (byteC x0).1).1).2) x1), ()) [(Value.pointer (some ⟨b0, 0, none⟩)) = (Value.pointer (some ⟨b0, 0, none⟩))] h (by kernel_rfl) ⟨rfl, trivial⟩ (congrArg (a₁ := ((byteC (byteC (byteC x0).1).1).1, (Int.tmod ((((byteC x0).2 * 65536) + ((byteC (byteC x0).1).2 * 256)) + (byteC (byteC (byteC x0).1).1).2) x1))) (a₂ := belowC x0 x1) (fun (z : T112 × Int) => z.1) hr5) (congrArg (a₁ := ((byteC (byteC (byteC x0).1).1).1, (Int.tmod ((((byteC x0).2 * 65536) + ((byteC (byteC x0).1).2 * 256)) + (byteC (byteC (byteC x0).1).1).2) x1))) (a₂ := belowC x0 x1) (fun (z : T112 × Int) => (z.2, ())) hr5)
theorem below_ok {x : T112} {n : Int} (h : 0 ≤ x.2.1) : 0 ≤ (belowC x n).1.2.1 := by
 unfold belowC
 split
 ·exact h
 ·split
  ·exact byte_ok h
  ·exact byte_ok (byte_ok (byte_ok h))
theorem below_bd (x : T112) {n : Int} (h : 0 < n) : 0 ≤ (belowC x n).2 ∧ (belowC x n).2 < n := by
 unfold belowC
 rw [if_neg (by omega)]
 have hd1 := byte_bd x; have hd2 := byte_bd (byteC x).1; have hd3 := byte_bd (byteC (byteC x).1).1
 split
 ·exact LA.tmod_lt hd1.1 h
 ·exact LA.tmod_lt (by first | omega | (dsimp only; omega)) h

def onceC (x0 : T112) (x1 : Int) : T112 × Bool := ((belowC x0 x1).1, decide ((belowC x0 x1).2 = 0))
abbrev Q_spec_l1Once := (fun (x0 : T112) (x1 : Int) => 0 ≤ x0.2.1)
def B_spec_l1Once : BS := { t := 112, s := s112, dom := [(.int 3)], cod := [(.bool 4)], pre := fun y x => Q_spec_l1Once y x.1, upd := fun y x => (onceC y x.1).1, g := fun y x => ((onceC y x.1).2, ()) }
def S_spec_l1Once : Sum := bSum 46 B_spec_l1Once
def S_spec_l1Once_tab : List (Nat × Sum) := [(54, S_spec_l1Below)]
theorem S_spec_l1Once_ok : FnOK Tryz.prog 46 S_spec_l1Once := by
 refine at_enterB (B := B_spec_l1Once) 9 (fun v y x => ⟨[(0, aP 1 0), (1, aI x.1)], [(1, oX 112 [.ro (.u8 5) y.1, cI y.2.1, cI y.2.2]), (2, oP 1 v)]⟩) Tryz.func46 rfl (by kernel_rfl) (fun v y x => rfl) ?_
 rintro w0 Z0 b0 x0 ⟨x1, u⟩ a w
 revert x0 x1
 intro (x0 : T112) (x1 : Int) hpre hlens0 hlens h
 replace h : At w0 Z0 [b0] 9 ⟨[(0, aP 1 0), (1, aI x1)], [(1, oX 112 [.ro (.u8 5) x0.1, cI x0.2.1, cI x0.2.2]), (2, oP 1 (Value.pointer (some ⟨b0, 0, none⟩)))]⟩ a w := h
 replace hpre : Q_spec_l1Once x0 x1 := hpre
 have hl1 : List.length x0.1 ≤ 9223372036854775807 := hlens0.1.1
 have hu0 : u8L x0.1 := hlens0.1.2
 have hT : TabOK Tryz.prog S_spec_l1Once_tab := (.cons S_spec_l1Below_ok .nil)
 refine wp_seq ?_
 refine at_regq [] { ts := [0, 1, 4], os := [1, 2] } [] gamOK hT h (by kernel_rfl) trivial fun a w h => then_normal (wp_seq ?_)
 refine at_regq [] { ts := [4], os := [1, 2] } [B_spec_l1Below.pre x0 (x1, ())] gamOK hT h (by kernel_rfl) ⟨(by exact hpre), trivial⟩ fun a w h => then_normal (wp_ret ?_)
 have hr1 : (((belowC x0 x1).1, decide ((belowC x0 x1).2 = 0)) : T112 × Bool) = onceC x0 x1 := by rfl
 exact at_returnB (B := B_spec_l1Once) (c0 := x0) (x := (x1, ())) ((belowC x0 x1).1) (decide ((belowC x0 x1).2 = 0), ()) [(Value.pointer (some ⟨b0, 0, none⟩)) = (Value.pointer (some ⟨b0, 0, none⟩))] h (by kernel_rfl) ⟨rfl, trivial⟩ (congrArg (a₁ := ((belowC x0 x1).1, decide ((belowC x0 x1).2 = 0))) (a₂ := onceC x0 x1) (fun (z : T112 × Bool) => z.1) hr1) (congrArg (a₁ := ((belowC x0 x1).1, decide ((belowC x0 x1).2 = 0))) (a₂ := onceC x0 x1) (fun (z : T112 × Bool) => (z.2, ())) hr1)
theorem once_ok {x : T112} {n : Int} (h : 0 ≤ x.2.1) : 0 ≤ (onceC x n).1.2.1 := below_ok h

def bigF (x0 : (List Int)) : Bool := decide (((List.length x0 : Nat) : Int) > 1048576)
def S_laws_big : Sum := { fid := 5, dom := [s22], cod := [(.bool 4)], dp := true, fz := false, pre := fun x => True, g := fun x => ((bigF x.1), ()) }
def S_laws_big_tab : List (Nat × Sum) := []
theorem S_laws_big_ok : FnOK Tryz.prog 5 S_laws_big := by
 refine at_enter 6 (fun x => ⟨[(0, aF (.u8 5) x.1)], []⟩) Tryz.func5 rfl (by kernel_rfl) (fun x => rfl) ?_
 rintro w0 Z0 ⟨x0, u⟩ a w
 revert x0
 intro (x0 : (List Int)) hpre hlens h
 have hl1 : List.length x0 ≤ 9223372036854775807 := hlens.1.1
 have hu0 : u8L x0 := hlens.1.2
 have hT : TabOK Tryz.prog S_laws_big_tab := .nil
 refine wp_seq ?_
 refine at_regq [] { ts := [0, 2], os := [] } [] gamOK hT h (by kernel_rfl) trivial fun a w h => then_normal (wp_seq ?_)
 refine at_regq [] { ts := [2], os := [] } [] gamOK hT h (by kernel_rfl) trivial fun a w h => then_normal (wp_ret ?_)
 exact at_return (decide (((List.length x0 : Nat) : Int) > 1048576), ()) [] h (by kernel_rfl) trivial (congrArg (fun z => (z, ())) (show (decide (((List.length x0 : Nat) : Int) > 1048576)) = bigF x0 from by rfl))
theorem big_f {x : List Int} (h : bigF x = false) : List.length x ≤ 1048576 := by
 have := of_decide_eq_false h; omega

def atF (x0 : (List Int)) (x1 : Int) : Int := (if x1 < ((List.length x0 : Nat) : Int) then (x0.getD ((x1).toNat) 0) else (Int.tmod ((x1 * 31) + (((List.length x0 : Nat) : Int) * 7)) 256))
abbrev Q_laws_at := (fun (x0 : List Int) (x1 : Int) => List.length x0 ≤ 1048576 ∧ (0 ≤ x1 ∧ x1 ≤ 1048576))
def S_laws_at : Sum := { fid := 11, dom := [s22, (.int 3)], cod := [(.int 3)], dp := true, fz := false, pre := fun x => Q_laws_at x.1 x.2.1, g := fun x => ((atF x.1 x.2.1), ()) }
def S_laws_at_tab : List (Nat × Sum) := []
theorem S_laws_at_ok : FnOK Tryz.prog 11 S_laws_at := by
 refine at_enter 21 (fun x => ⟨[(0, aF (.u8 5) x.1), (1, aI x.2.1)], []⟩) Tryz.func11 rfl (by kernel_rfl) (fun x => rfl) ?_
 rintro w0 Z0 ⟨x0, x1, u⟩ a w
 revert x0 x1
 intro (x0 : (List Int)) (x1 : Int) hpre hlens h
 replace hpre : Q_laws_at x0 x1 := hpre
 have hl1 : List.length x0 ≤ 9223372036854775807 := hlens.1.1
 have hu0 : u8L x0 := hlens.1.2
 have hT : TabOK Tryz.prog S_laws_at_tab := .nil
 have hpz : List.length x0 ≤ 1048576 ∧ (0 ≤ x1 ∧ x1 ≤ 1048576) := hpre
 refine wp_seq ?_
 refine at_regq [] { ts := [0, 1, 4], os := [] } [] gamOK hT h (by kernel_rfl) trivial fun a w h => then_normal (wp_seq (wp_seq ?_))
 refine at_regq [] { ts := [0, 1, 4, 8], os := [] } [] gamOK hT h (by kernel_rfl) trivial fun a w h => then_normal ?_
 refine at_test (decide (x1 < ((List.length x0 : Nat) : Int))) h (by kernel_rfl) (fun h1 => ?_) (fun h1 => ?_)
 ·replace h1 : x1 < ((List.length x0 : Nat) : Int) := of_decide_eq_true h1
  have hu1 := getD_u8 hu0 x1.toNat
  refine wp_seq ?_
  refine at_regq [{}, {}, {}, {}, { hint := some (aI (x0.getD ((x1).toNat) 0)) }] { ts := [0, 1, 4], os := [] } [(0 : Int) ≤ x1 ∧ x1 < ((List.length x0 : Nat) : Int), (AV.p (.c (.v (.int .i64 (IntKind.i64.wrap ((x0.getD ((x1).toNat) 0)))))) = AV.p (.c (.v (.int .i64 ((x0.getD ((x1).toNat) 0))))))] gamOK hT h (by kernel_rfl) ⟨(by refine ⟨?_, ?_⟩ <;> (first | omega | (simp only [lsA]; omega) | (simp <;> omega))), hint_int (wrap_id ⟨by first | omega | (simp only [lsA]; omega) | (simp <;> omega), by first | omega | (simp only [lsA]; omega) | (simp <;> omega)⟩), trivial⟩ fun a w h => then_normal (wp_ret (then_ret ?_))
  exact at_return ((x0.getD ((x1).toNat) 0), ()) [] h (by kernel_rfl) trivial (congrArg (fun z => (z, ())) (show ((x0.getD ((x1).toNat) 0)) = atF x0 x1 from by first | rfl | (unfold atF; rw [if_pos h1])))
 ·replace h1 : ¬ (x1 < ((List.length x0 : Nat) : Int)) := of_decide_eq_false h1
  have hu1 := getD_u8 hu0 x1.toNat
  refine wp_skip (then_normal (wp_seq ?_))
  refine at_regq [{}, { nw := true }, {}, {}, { nw := true }, { nw := true }] { ts := [4], os := [] } [I64 (x1 * 31), I64 (((List.length x0 : Nat) : Int) * 7), I64 ((x1 * 31) + (((List.length x0 : Nat) : Int) * 7)), (256 : Int) ≠ 0] gamOK hT h (by kernel_rfl) ⟨⟨by first | omega | (simp only [lsA]; omega) | (simp <;> omega), by first | omega | (simp only [lsA]; omega) | (simp <;> omega)⟩, ⟨by first | omega | (simp only [lsA]; omega) | (simp <;> omega), by first | omega | (simp only [lsA]; omega) | (simp <;> omega)⟩, ⟨by first | omega | (simp only [lsA]; omega) | (simp <;> omega), by first | omega | (simp only [lsA]; omega) | (simp <;> omega)⟩, (by first | omega | (simp only [lsA]; omega) | (simp <;> omega)), trivial⟩ fun a w h => then_normal (wp_ret ?_)
  exact at_return ((Int.tmod ((x1 * 31) + (((List.length x0 : Nat) : Int) * 7)) 256), ()) [] h (by kernel_rfl) trivial (congrArg (fun z => (z, ())) (show ((Int.tmod ((x1 * 31) + (((List.length x0 : Nat) : Int) * 7)) 256)) = atF x0 x1 from by first | rfl | (unfold atF; rw [if_neg h1])))
theorem at_bd {x : List Int} (hu : u8L x) {i : Int} (h : 0 ≤ i) : 0 ≤ atF x i ∧ atF x i < 256 := by
 unfold atF; split
 ·exact getD_u8 hu _
 ·exact LA.tmod_lt (by omega) (by decide)

def elemC (x0 : T112) : T112 × Int := ((belowC x0 1019).1, (belowC x0 1019).2)
abbrev Q_spec_l4Element := (fun (x0 : T112) => 0 ≤ x0.2.1)
def B_spec_l4Element : BS := { t := 112, s := s112, dom := [], cod := [(.int 3)], pre := fun y x => Q_spec_l4Element y, upd := fun y x => (elemC y).1, g := fun y x => ((elemC y).2, ()) }
def S_spec_l4Element : Sum := bSum 147 B_spec_l4Element
def S_spec_l4Element_tab : List (Nat × Sum) := [(54, S_spec_l1Below)]
theorem S_spec_l4Element_ok : FnOK Tryz.prog 147 S_spec_l4Element := by
 refine at_enterB (B := B_spec_l4Element) 5 (fun v y x => ⟨[(0, aP 1 0)], [(1, oX 112 [.ro (.u8 5) y.1, cI y.2.1, cI y.2.2]), (2, oP 1 v)]⟩) Tryz.func147 rfl (by kernel_rfl) (fun v y x => rfl) ?_
 rintro w0 Z0 b0 x0 ⟨u⟩ a w
 revert x0
 intro (x0 : T112) hpre hlens0 hlens h
 replace h : At w0 Z0 [b0] 5 ⟨[(0, aP 1 0)], [(1, oX 112 [.ro (.u8 5) x0.1, cI x0.2.1, cI x0.2.2]), (2, oP 1 (Value.pointer (some ⟨b0, 0, none⟩)))]⟩ a w := h
 replace hpre : Q_spec_l4Element x0 := hpre
 have hl1 : List.length x0.1 ≤ 9223372036854775807 := hlens0.1.1
 have hu0 : u8L x0.1 := hlens0.1.2
 have hT : TabOK Tryz.prog S_spec_l4Element_tab := (.cons S_spec_l1Below_ok .nil)
 refine wp_seq ?_
 refine at_regq [] { ts := [0, 2], os := [1, 2] } [] gamOK hT h (by kernel_rfl) trivial fun a w h => then_normal (wp_seq ?_)
 refine at_regq [] { ts := [2], os := [1, 2] } [B_spec_l1Below.pre x0 (1019, ())] gamOK hT h (by kernel_rfl) ⟨(by exact hpre), trivial⟩ fun a w h => then_normal (wp_ret ?_)
 have hr1 : (((belowC x0 1019).1, (belowC x0 1019).2) : T112 × Int) = elemC x0 := by rfl
 exact at_returnB (B := B_spec_l4Element) (c0 := x0) (x := (())) ((belowC x0 1019).1) ((belowC x0 1019).2, ()) [(Value.pointer (some ⟨b0, 0, none⟩)) = (Value.pointer (some ⟨b0, 0, none⟩))] h (by kernel_rfl) ⟨rfl, trivial⟩ (congrArg (a₁ := ((belowC x0 1019).1, (belowC x0 1019).2)) (a₂ := elemC x0) (fun (z : T112 × Int) => z.1) hr1) (congrArg (a₁ := ((belowC x0 1019).1, (belowC x0 1019).2)) (a₂ := elemC x0) (fun (z : T112 × Int) => (z.2, ())) hr1)
theorem elem_ok {x : T112} (h : 0 ≤ x.2.1) : 0 ≤ (elemC x).1.2.1 := below_ok h
theorem elem_bd (x : T112) : LA.El (elemC x).2 := by have := below_bd x (n := 1019) (by decide); show 0 ≤ _ ∧ _ ≤ 1018; unfold elemC; dsimp only; omega
def vecS (q : T112 × List Int) : T112 × List Int := if (onceC q.1 3).2 = true then ((onceC q.1 3).1, q.2 ++ [0]) else ((elemC (onceC q.1 3).1).1, q.2 ++ [(elemC (onceC q.1 3).1).2])
def vecIt (x : T112) : Nat → T112 × List Int
 | 0 => (x, [])
 | i + 1 => vecS (vecIt x i)
theorem vecIt_y {x : T112} {i : Nat} (h : (onceC (vecIt x i).1 3).2 = true) : vecIt x (i + 1) = ((onceC (vecIt x i).1 3).1, (vecIt x i).2 ++ [0]) := if_pos h
theorem vecIt_n {x : T112} {i : Nat} (h : (onceC (vecIt x i).1 3).2 = false) : vecIt x (i + 1) = ((elemC (onceC (vecIt x i).1 3).1).1, (vecIt x i).2 ++ [(elemC (onceC (vecIt x i).1 3).1).2]) := if_neg (by rw [h]; decide)
theorem vecIt_inv {x : T112} (hx : 0 ≤ x.2.1) : ∀ i, 0 ≤ (vecIt x i).1.2.1 ∧ (vecIt x i).2.length = i ∧ ∀ e ∈ (vecIt x i).2, LA.El e
 | 0 => ⟨hx, rfl, fun e he => by cases he⟩
 | i + 1 => by
  obtain ⟨h1, h2, h3⟩ := vecIt_inv hx i
  have e : vecIt x (i + 1) = vecS (vecIt x i) := rfl
  have hb := elem_bd (onceC (vecIt x i).1 3).1
  rw [e]; unfold vecS
  split
  ·refine ⟨once_ok h1, by simp [h2], fun y hy => ?_⟩
   rcases List.mem_append.1 hy with hy | hy
   ·exact h3 y hy
   ·have : y = 0 := by simpa using hy
    rw [this]; unfold LA.El; omega
  ·refine ⟨elem_ok (once_ok h1), by simp [h2], fun y hy => ?_⟩
   rcases List.mem_append.1 hy with hy | hy
   ·exact h3 y hy
   ·have : y = (elemC (onceC (vecIt x i).1 3).1).2 := by simpa using hy
    rw [this]; exact hb

def vecD (x0 : T112) (x1 : Int) : T112 × (List Int) := ((vecIt x0 x1.toNat).1, (vecIt x0 x1.toNat).2)
abbrev Q_spec_l5Vector := (fun (x0 : T112) (x1 : Int) => 0 ≤ x0.2.1 ∧ x1 ≤ 1000)
def B_spec_l5Vector : BS := { t := 112, s := s112, dom := [(.int 3)], cod := [s39], pre := fun y x => Q_spec_l5Vector y x.1, upd := fun y x => (vecD y x.1).1, g := fun y x => ((vecD y x.1).2, ()) }
def S_spec_l5Vector : Sum := bSum 104 B_spec_l5Vector
def S_spec_l5Vector_tab : List (Nat × Sum) := [(46, S_spec_l1Once), (147, S_spec_l4Element)]
theorem S_spec_l5Vector_ok : FnOK Tryz.prog 104 S_spec_l5Vector := by
 refine at_enterB (B := B_spec_l5Vector) 24 (fun v y x => ⟨[(0, aP 1 0), (1, aI x.1)], [(1, oX 112 [.ro (.u8 5) y.1, cI y.2.1, cI y.2.2]), (2, oP 1 v)]⟩) Tryz.func104 rfl (by kernel_rfl) (fun v y x => rfl) ?_
 rintro w0 Z0 b0 x0 ⟨x1, u⟩ a w
 revert x0 x1
 intro (x0 : T112) (x1 : Int) hpre hlens0 hlens h
 replace h : At w0 Z0 [b0] 24 ⟨[(0, aP 1 0), (1, aI x1)], [(1, oX 112 [.ro (.u8 5) x0.1, cI x0.2.1, cI x0.2.2]), (2, oP 1 (Value.pointer (some ⟨b0, 0, none⟩)))]⟩ a w := h
 replace hpre : Q_spec_l5Vector x0 x1 := hpre
 have hl1 : List.length x0.1 ≤ 9223372036854775807 := hlens0.1.1
 have hu0 : u8L x0.1 := hlens0.1.2
 have hT : TabOK Tryz.prog S_spec_l5Vector_tab := (.cons S_spec_l1Once_ok (.cons S_spec_l4Element_ok .nil))
 have hp2 := hpre.2
 refine wp_seq ?_
 refine at_regq [] { ts := [0, 1, 4], os := [1, 2] } [] gamOK hT h (by kernel_rfl) trivial fun a w h => then_normal (wp_seq ?_)
 refine at_regq [{ ids := [3] }] { ts := [0, 1, 4, 5], os := [1, 2, 3] } [] gamOK hT h (by kernel_rfl) trivial fun a w h => then_normal (wp_seq (wp_seq ?_))
 refine at_regq [] { ts := [0, 1, 4, 5, 6], os := [1, 2, 3] } [] gamOK hT h (by kernel_rfl) trivial fun a w h => then_normal (wp_block ?_)
 replace h := at_out (σ' := ⟨[(0, aP 1 0), (1, aI x1), (4, .p (.c (cN))), (5, aS 3), (6, aI 0)], [(1, oX 112 [.ro (.u8 5) x0.1, cI x0.2.1, cI x0.2.2]), (2, oP 1 (Value.pointer (some ⟨b0, 0, none⟩))), (3, oR (.int 3) ([] : List Int))]⟩) { ts := [0, 1, 4, 5, 6], os := [1, 2, 3] } h (by kernel_rfl)
 refine at_loop (fun i : Nat => (⟨[(0, aP 1 0), (1, aI x1), (4, .p (.c (cN))), (5, aS 3), (6, aI ((i : Nat) : Int))], [(1, oX 112 [.ro (.u8 5) (vecIt x0 i).1.1, cI (vecIt x0 i).1.2.1, cI (vecIt x0 i).1.2.2]), (2, oP 1 (Value.pointer (some ⟨b0, 0, none⟩))), (3, oR (.int 3) (vecIt x0 i).2)]⟩ : St)) (fun i => i ≤ x1.toNat) (fun i => x1.toNat - i) (0) h (st_congr5 (fun (d0 : List Int) (d1 : Int) (d2 : Int) (d3 : List Int) (d4 : Int) => (⟨[(0, aP 1 0), (1, aI x1), (4, .p (.c (cN))), (5, aS 3), (6, aI d4)], [(1, oX 112 [.ro (.u8 5) d0, cI d1, cI d2]), (2, oP 1 (Value.pointer (some ⟨b0, 0, none⟩))), (3, oR (.int 3) d3)]⟩ : St)) (show (x0.1 : List Int) = (vecIt x0 (0)).1.1 from by first | with_reducible rfl | (rfl) | rfl) (show (x0.2.1 : Int) = (vecIt x0 (0)).1.2.1 from by first | with_reducible rfl | (rfl) | rfl) (show (x0.2.2 : Int) = (vecIt x0 (0)).1.2.2 from by first | with_reducible rfl | (rfl) | rfl) (show (([] : List Int) : List Int) = (vecIt x0 (0)).2 from by first | with_reducible rfl | (rfl) | rfl) (show (0 : Int) = (((0) : Nat) : Int) from by first | with_reducible rfl | (rfl) | rfl)) (by omega) ?_
 intro i a w hok0 h
 have hvi := vecIt_inv hpre.1 i
 have hvl := hvi.2.1
 refine wp_seq (wp_seq ?_)
 refine at_regq [] { ts := [0, 1, 4, 5, 6, 10], os := [1, 2, 3] } [] gamOK hT h (by kernel_rfl) trivial fun a w h => then_normal ?_
 refine at_test (decide (((i : Nat) : Int) < x1)) h (by kernel_rfl) (fun h1 => ?_) (fun h1 => ?_)
 ·replace h1 : ((i : Nat) : Int) < x1 := of_decide_eq_true h1
  refine wp_skip (then_normal (wp_seq (wp_block (wp_seq ?_))))
  refine at_regq [] { ts := [0, 1, 4, 5, 6, 14], os := [1, 2, 3] } [B_spec_l1Once.pre (vecIt x0 i).1 (3, ())] gamOK hT h (by kernel_rfl) ⟨(by exact hvi.1), trivial⟩ fun a w h => then_normal ?_
  refine at_test ((onceC (vecIt x0 i).1 3).2) h (by kernel_rfl) (fun h2 => ?_) (fun h2 => ?_)
  ·refine at_regq [{}, { ids := [4] }, { ids := [5] }] { ts := [0, 1, 4, 5, 6], os := [1, 2, 5] } [(List.length (vecIt x0 i).2 + List.length ([0])) * 8 ≤ 140737488355328] gamOK hT h (by kernel_rfl) ⟨(by first | omega | (simp only [lsA]; omega) | (simp <;> omega)), trivial⟩ fun a w h => in_normal (then_normal ?_)
   refine at_regq [{}, { nw := true }] { ts := [0, 1, 4, 5, 6], os := [1, 2, 5] } [I64 (((i : Nat) : Int) + 1)] gamOK hT h (by kernel_rfl) ⟨⟨by first | omega | (simp only [lsA]; omega) | (simp <;> omega), by first | omega | (simp only [lsA]; omega) | (simp <;> omega)⟩, trivial⟩ fun a w h => ?_
   replace h := at_out (σ' := ⟨[(0, aP 1 0), (1, aI x1), (4, .p (.c (cN))), (5, aS 3), (6, aI (((i : Nat) : Int) + 1))], [(1, oX 112 [.ro (.u8 5) (onceC (vecIt x0 i).1 3).1.1, cI (onceC (vecIt x0 i).1 3).1.2.1, cI (onceC (vecIt x0 i).1 3).1.2.2]), (2, oP 1 (Value.pointer (some ⟨b0, 0, none⟩))), (3, oR (.int 3) ((vecIt x0 i).2 ++ ([0])))]⟩) { ts := [0, 1, 4, 5, 6], os := [1, 2, 5], rn := [(5, 3)] } h (by kernel_rfl)
   exact ⟨i + 1, at_eq h (st_congr5 (fun (d0 : List Int) (d1 : Int) (d2 : Int) (d3 : List Int) (d4 : Int) => (⟨[(0, aP 1 0), (1, aI x1), (4, .p (.c (cN))), (5, aS 3), (6, aI d4)], [(1, oX 112 [.ro (.u8 5) d0, cI d1, cI d2]), (2, oP 1 (Value.pointer (some ⟨b0, 0, none⟩))), (3, oR (.int 3) d3)]⟩ : St)) (show ((onceC (vecIt x0 i).1 3).1.1 : List Int) = (vecIt x0 (i + 1)).1.1 from by first | with_reducible rfl | (first | (rw [vecIt_y (x := x0) (i := i) (by assumption)]; done) | (rw [vecIt_n (x := x0) (i := i) (by assumption)]; done)) | rfl) (show ((onceC (vecIt x0 i).1 3).1.2.1 : Int) = (vecIt x0 (i + 1)).1.2.1 from by first | with_reducible rfl | (first | (rw [vecIt_y (x := x0) (i := i) (by assumption)]; done) | (rw [vecIt_n (x := x0) (i := i) (by assumption)]; done)) | rfl) (show ((onceC (vecIt x0 i).1 3).1.2.2 : Int) = (vecIt x0 (i + 1)).1.2.2 from by first | with_reducible rfl | (first | (rw [vecIt_y (x := x0) (i := i) (by assumption)]; done) | (rw [vecIt_n (x := x0) (i := i) (by assumption)]; done)) | rfl) (show (((vecIt x0 i).2 ++ ([0])) : List Int) = (vecIt x0 (i + 1)).2 from by first | with_reducible rfl | (first | (rw [vecIt_y (x := x0) (i := i) (by assumption)]; done) | (rw [vecIt_n (x := x0) (i := i) (by assumption)]; done)) | rfl) (show (((i : Nat) : Int) + 1 : Int) = (((i + 1) : Nat) : Int) from by first | with_reducible rfl | (omega) | rfl)), (by omega), (by omega)⟩
  ·refine at_regq [{}, {}, {}, { ids := [6] }, { ids := [7] }] { ts := [0, 1, 4, 5, 6], os := [1, 2, 7] } [B_spec_l4Element.pre (onceC (vecIt x0 i).1 3).1 (()), (List.length (vecIt x0 i).2 + List.length ([(elemC (onceC (vecIt x0 i).1 3).1).2])) * 8 ≤ 140737488355328] gamOK hT h (by kernel_rfl) ⟨(by exact (once_ok hvi.1)), (by first | omega | (simp only [lsA]; omega) | (simp <;> omega)), trivial⟩ fun a w h => in_normal (then_normal ?_)
   refine at_regq [{}, { nw := true }] { ts := [0, 1, 4, 5, 6], os := [1, 2, 7] } [I64 (((i : Nat) : Int) + 1)] gamOK hT h (by kernel_rfl) ⟨⟨by first | omega | (simp only [lsA]; omega) | (simp <;> omega), by first | omega | (simp only [lsA]; omega) | (simp <;> omega)⟩, trivial⟩ fun a w h => ?_
   replace h := at_out (σ' := ⟨[(0, aP 1 0), (1, aI x1), (4, .p (.c (cN))), (5, aS 3), (6, aI (((i : Nat) : Int) + 1))], [(1, oX 112 [.ro (.u8 5) (elemC (onceC (vecIt x0 i).1 3).1).1.1, cI (elemC (onceC (vecIt x0 i).1 3).1).1.2.1, cI (elemC (onceC (vecIt x0 i).1 3).1).1.2.2]), (2, oP 1 (Value.pointer (some ⟨b0, 0, none⟩))), (3, oR (.int 3) ((vecIt x0 i).2 ++ ([(elemC (onceC (vecIt x0 i).1 3).1).2])))]⟩) { ts := [0, 1, 4, 5, 6], os := [1, 2, 7], rn := [(7, 3)] } h (by kernel_rfl)
   exact ⟨i + 1, at_eq h (st_congr5 (fun (d0 : List Int) (d1 : Int) (d2 : Int) (d3 : List Int) (d4 : Int) => (⟨[(0, aP 1 0), (1, aI x1), (4, .p (.c (cN))), (5, aS 3), (6, aI d4)], [(1, oX 112 [.ro (.u8 5) d0, cI d1, cI d2]), (2, oP 1 (Value.pointer (some ⟨b0, 0, none⟩))), (3, oR (.int 3) d3)]⟩ : St)) (show ((elemC (onceC (vecIt x0 i).1 3).1).1.1 : List Int) = (vecIt x0 (i + 1)).1.1 from by first | with_reducible rfl | (first | (rw [vecIt_y (x := x0) (i := i) (by assumption)]; done) | (rw [vecIt_n (x := x0) (i := i) (by assumption)]; done)) | rfl) (show ((elemC (onceC (vecIt x0 i).1 3).1).1.2.1 : Int) = (vecIt x0 (i + 1)).1.2.1 from by first | with_reducible rfl | (first | (rw [vecIt_y (x := x0) (i := i) (by assumption)]; done) | (rw [vecIt_n (x := x0) (i := i) (by assumption)]; done)) | rfl) (show ((elemC (onceC (vecIt x0 i).1 3).1).1.2.2 : Int) = (vecIt x0 (i + 1)).1.2.2 from by first | with_reducible rfl | (first | (rw [vecIt_y (x := x0) (i := i) (by assumption)]; done) | (rw [vecIt_n (x := x0) (i := i) (by assumption)]; done)) | rfl) (show (((vecIt x0 i).2 ++ ([(elemC (onceC (vecIt x0 i).1 3).1).2])) : List Int) = (vecIt x0 (i + 1)).2 from by first | with_reducible rfl | (first | (rw [vecIt_y (x := x0) (i := i) (by assumption)]; done) | (rw [vecIt_n (x := x0) (i := i) (by assumption)]; done)) | rfl) (show (((i : Nat) : Int) + 1 : Int) = (((i + 1) : Nat) : Int) from by first | with_reducible rfl | (omega) | rfl)), (by omega), (by omega)⟩
 ·replace h1 : ¬ (((i : Nat) : Int) < x1) := of_decide_eq_false h1
  refine wp_exit (then_exit ?_)
  replace h := at_out (σ' := ⟨[(4, .p (.c (cN))), (5, aS 3)], [(1, oX 112 [.ro (.u8 5) (vecIt x0 i).1.1, cI (vecIt x0 i).1.2.1, cI (vecIt x0 i).1.2.2]), (2, oP 1 (Value.pointer (some ⟨b0, 0, none⟩))), (3, oR (.int 3) (vecIt x0 i).2)]⟩) { ts := [4, 5], os := [1, 2, 3] } h (by kernel_rfl)
  replace h := at_eq (σ' := ⟨[(4, .p (.c (cN))), (5, aS 3)], [(1, oX 112 [.ro (.u8 5) (vecIt x0 x1.toNat).1.1, cI (vecIt x0 x1.toNat).1.2.1, cI (vecIt x0 x1.toNat).1.2.2]), (2, oP 1 (Value.pointer (some ⟨b0, 0, none⟩))), (3, oR (.int 3) (vecIt x0 x1.toNat).2)]⟩) h (st_congr4 (fun (d0 : List Int) (d1 : Int) (d2 : Int) (d3 : List Int) => (⟨[(4, .p (.c (cN))), (5, aS 3)], [(1, oX 112 [.ro (.u8 5) d0, cI d1, cI d2]), (2, oP 1 (Value.pointer (some ⟨b0, 0, none⟩))), (3, oR (.int 3) d3)]⟩ : St)) (show ((vecIt x0 i).1.1 : List Int) = (vecIt x0 x1.toNat).1.1 from by first | with_reducible rfl | (rw [show x1.toNat = i by omega]) | rfl) (show ((vecIt x0 i).1.2.1 : Int) = (vecIt x0 x1.toNat).1.2.1 from by first | with_reducible rfl | (rw [show x1.toNat = i by omega]) | rfl) (show ((vecIt x0 i).1.2.2 : Int) = (vecIt x0 x1.toNat).1.2.2 from by first | with_reducible rfl | (rw [show x1.toNat = i by omega]) | rfl) (show ((vecIt x0 i).2 : List Int) = (vecIt x0 x1.toNat).2 from by first | with_reducible rfl | (rw [show x1.toNat = i by omega]) | rfl))
  refine then_exit (in_hit (then_normal (wp_seq ?_)))
  refine at_regq [] { ts := [4], os := [1, 2, 3] } [] gamOK hT h (by kernel_rfl) trivial fun a w h => then_normal (wp_ret ?_)
  have hr3 : (((vecIt x0 x1.toNat).1, (vecIt x0 x1.toNat).2) : T112 × (List Int)) = vecD x0 x1 := by rfl
  exact at_returnB (B := B_spec_l5Vector) (c0 := x0) (x := (x1, ())) ((vecIt x0 x1.toNat).1) ((vecIt x0 x1.toNat).2, ()) [(Value.pointer (some ⟨b0, 0, none⟩)) = (Value.pointer (some ⟨b0, 0, none⟩))] h (by kernel_rfl) ⟨rfl, trivial⟩ (congrArg (a₁ := ((vecIt x0 x1.toNat).1, (vecIt x0 x1.toNat).2)) (a₂ := vecD x0 x1) (fun (z : T112 × (List Int)) => z.1) hr3) (congrArg (a₁ := ((vecIt x0 x1.toNat).1, (vecIt x0 x1.toNat).2)) (a₂ := vecD x0 x1) (fun (z : T112 × (List Int)) => (z.2, ())) hr3)
theorem vecD_ok {x : T112} {n : Int} (h : 0 ≤ x.2.1) : 0 ≤ (vecD x n).1.2.1 ∧ LA.VokB n.toNat (vecD x n).2 := ⟨(vecIt_inv h _).1, (vecIt_inv h _).2.1, (vecIt_inv h _).2.2⟩

end Go.Proofs.YtgeonngfipikeaaGreat

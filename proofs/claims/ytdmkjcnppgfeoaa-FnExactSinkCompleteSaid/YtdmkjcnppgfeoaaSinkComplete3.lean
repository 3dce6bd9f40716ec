/- The law FnExactSinkComplete returns true for every input and leaves its arguments as they were. No condition. -/
import Derived.Test.YtdmkjcnppgfeoaaSinkComplete2
import Derived.Test.YtdmkjcnppgfeoaaLA
import Derived.Test.YtdmkjcnppgfeoaaProg
import Derived.Test.YtdmkjcnppgfeoaaRows
import Derived.Test.YtdmkjcnppgfeoaaFX
namespace Go.Proofs.Ytdmkjcnppgfeoaa
open Go.RowKit
set_option linter.unusedVariables false
set_option linter.unusedSimpArgs false
def S_spec_IsValidDecoder : Sum := { fid := 141, dom := [s112], cod := [(.bool 4)], dp := true, fz := false, pre := fun x => (fun (x0 : T112) => Sh.fit s112 x0) x.1, g := fun x => ((validD x.1), ()) }
def S_spec_IsValidDecoder_tab : List (Nat × Sum) := [(220, S_spec_l14Range), (210, S_spec_IsValidBasis), (143, S_spec_LeadingIndex)]
theorem S_spec_IsValidDecoder_ok : FnOK Try.prog 141 S_spec_IsValidDecoder := by
  refine at_enter 47 (fun x => ⟨[(0, aG [cI x.1.1, cI x.1.2.1, cI x.1.2.2.1, cI x.1.2.2.2.1, .ro s22 x.1.2.2.2.2])], []⟩) Try.func141 rfl (by kernel_rfl) (fun x => rfl) ?_
  rintro w0 Z0 ⟨x0, u⟩ a w
  revert x0
  intro (x0 : T112) hpre hlens h
  replace h : At w0 Z0 [] 47 ⟨[(0, aG [cI x0.1, cI x0.2.1, cI x0.2.2.1, cI x0.2.2.2.1, .ro s22 x0.2.2.2.2])], []⟩ a w := h
  replace hpre : (fun (x0 : T112) => Sh.fit s112 x0) x0 := hpre
  have hl1 : List.length x0.2.2.2.2 ≤ 9223372036854775807 := hlens.1.2.2.2.2.1
  have hT : TabOK Try.prog S_spec_IsValidDecoder_tab := (.cons S_spec_l14Range_ok (.cons S_spec_IsValidBasis_ok (.cons S_spec_LeadingIndex_ok .nil)))
  have hf0 : Sh.fit s112 x0 := hpre
  have hn0_1 : List.length x0.2.2.2.2 ≤ 1073741824 := hf0.2.2.2.2.1
  refine wp_seq ?_
  refine at_regq [{ ids := [1] }] { ts := [1, 2], os := [1] } [] gamOK hT h (by kernel_rfl) trivial ?_
  intro a w h
  refine then_normal ?_
  refine wp_seq ?_
  refine wp_seq ?_
  rcases Bool.eq_false_or_eq_true (!(isFmt x0.1 x0.2.1 x0.2.2.1)) with h1 | h1
  · skip
    have hzh1 : (isFmt x0.1 x0.2.1 x0.2.2.1) = false := notT h1
    refine at_regq [{}, {}, {}, {}, {}, {}, {}, { hint := some (aB true) }] { ts := [1, 2, 28], os := [1] } [True, (AV.p (.c (.v (.bool (!(isFmt x0.1 x0.2.1 x0.2.2.1))))) = AV.p (.c (.v (.bool true))))] gamOK hT h (by kernel_rfl) ⟨trivial, hint_bool (h1), trivial⟩ ?_
    intro a w h
    refine then_normal ?_
    refine at_test true h (by kernel_rfl) (fun hh => ?_) (fun hh => nomatch hh)
    refine wp_seq ?_
    refine at_regq [] { ts := [1, 2], os := [1] } [] gamOK hT h (by kernel_rfl) trivial ?_
    intro a w h
    refine then_normal ?_
    refine wp_ret ?_
    refine then_ret ?_
    exact at_return (S := S_spec_IsValidDecoder) (x := (x0, ())) (false, ()) [] h (by kernel_rfl) trivial (congrArg (fun z => (z, ())) (show (false) = validD x0 from by first | rfl | (unfold validD; rw [if_neg (neT (notT h1))]; done) | (unfold validD; (repeat (first | rfl | split)) <;> (first | rfl | omega | (simp_all [-List.all_eq_true, -List.any_eq_true, -List.all_eq_false, -List.any_eq_false, validBS_eq]; done) | (simp_all [-List.all_eq_true, -List.any_eq_true, -List.all_eq_false, -List.any_eq_false, validBS_eq]; omega) | (exfalso; simp_all [-List.all_eq_true, -List.any_eq_true, -List.all_eq_false, -List.any_eq_false, validBS_eq]; omega)))))
  · skip
    have hzh1 : (isFmt x0.1 x0.2.1 x0.2.2.1) = true := notF h1
    have hvh1 := isFmt_t (notF h1)
    rcases Bool.eq_false_or_eq_true (!(validBS x0.2.2.2)) with h2 | h2
    · skip
      have hzh2 : (validBS x0.2.2.2) = false := notT h2
      refine at_regq [{}, {}, {}, {}, {}, {}, {}, { hint := some (aB false) }, {}, {}, {}, {}, { hint := some (aB true) }] { ts := [1, 2, 28], os := [1] } [True, (AV.p (.c (.v (.bool (!(isFmt x0.1 x0.2.1 x0.2.2.1))))) = AV.p (.c (.v (.bool false)))), (fun (x0 : T101) => Sh.fit s101 x0) x0.2.2.2, (AV.p (.c (.v (.bool (!(validBS x0.2.2.2))))) = AV.p (.c (.v (.bool true))))] gamOK hT h (by kernel_rfl) ⟨trivial, hint_bool (h1), (by exact hf0.2.2.2), hint_bool (h2), trivial⟩ ?_
      intro a w h
      refine then_normal ?_
      refine at_test true h (by kernel_rfl) (fun hh => ?_) (fun hh => nomatch hh)
      refine wp_seq ?_
      refine at_regq [] { ts := [1, 2], os := [1] } [] gamOK hT h (by kernel_rfl) trivial ?_
      intro a w h
      refine then_normal ?_
      refine wp_ret ?_
      refine then_ret ?_
      exact at_return (S := S_spec_IsValidDecoder) (x := (x0, ())) (false, ()) [] h (by kernel_rfl) trivial (congrArg (fun z => (z, ())) (show (false) = validD x0 from by first | rfl | (unfold validD; rw [if_pos (notF h1), if_neg (neT (notT h2))]; done) | (unfold validD; (repeat (first | rfl | split)) <;> (first | rfl | omega | (simp_all [-List.all_eq_true, -List.any_eq_true, -List.all_eq_false, -List.any_eq_false, validBS_eq]; done) | (simp_all [-List.all_eq_true, -List.any_eq_true, -List.all_eq_false, -List.any_eq_false, validBS_eq]; omega) | (exfalso; simp_all [-List.all_eq_true, -List.any_eq_true, -List.all_eq_false, -List.any_eq_false, validBS_eq]; omega)))))
    · skip
      have hzh2 : (validBS x0.2.2.2) = true := notF h2
      have hvh2 := validBS_t (notF h2)
      refine at_regq [{}, {}, {}, {}, {}, {}, {}, { hint := some (aB false) }, {}, {}, {}, {}, { hint := some (aB false) }, {}, {}, {}, {}, {}, {}, {}, {}, {}, { nw := true }] { ts := [1, 2, 28], os := [1] } [True, (AV.p (.c (.v (.bool (!(isFmt x0.1 x0.2.1 x0.2.2.1))))) = AV.p (.c (.v (.bool false)))), (fun (x0 : T101) => Sh.fit s101 x0) x0.2.2.2, (AV.p (.c (.v (.bool (!(validBS x0.2.2.2))))) = AV.p (.c (.v (.bool false)))), I64 (x0.2.1 + x0.2.2.1)] gamOK hT h (by kernel_rfl) ⟨trivial, hint_bool (h1), (by exact hf0.2.2.2), hint_bool (h2), ⟨by first | omega | (simp only [lsA]; omega) | (simp; done) | (simp; omega) | done, by first | omega | (simp only [lsA]; omega) | (simp; done) | (simp; omega) | done⟩, trivial⟩ ?_
      intro a w h
      refine then_normal ?_
      refine at_test (!decide (x0.2.2.2.1 = x0.2.1 + x0.2.2.1)) h (by kernel_rfl) (fun h3 => ?_) (fun h3 => ?_)
      · replace h3 : ¬ (x0.2.2.2.1 = x0.2.1 + x0.2.2.1) := of_decide_eq_false (notT h3)
        refine wp_seq ?_
        refine at_regq [] { ts := [1, 2], os := [1] } [] gamOK hT h (by kernel_rfl) trivial ?_
        intro a w h
        refine then_normal ?_
        refine wp_ret ?_
        refine then_ret ?_
        exact at_return (S := S_spec_IsValidDecoder) (x := (x0, ())) (false, ()) [] h (by kernel_rfl) trivial (congrArg (fun z => (z, ())) (show (false) = validD x0 from by first | rfl | (unfold validD; rw [if_pos (notF h1), if_pos (notF h2), if_neg h3]; done) | (unfold validD; (repeat (first | rfl | split)) <;> (first | rfl | omega | (simp_all [-List.all_eq_true, -List.any_eq_true, -List.all_eq_false, -List.any_eq_false, validBS_eq]; done) | (simp_all [-List.all_eq_true, -List.any_eq_true, -List.all_eq_false, -List.any_eq_false, validBS_eq]; omega) | (exfalso; simp_all [-List.all_eq_true, -List.any_eq_true, -List.all_eq_false, -List.any_eq_false, validBS_eq]; omega)))))
      · replace h3 : x0.2.2.2.1 = x0.2.1 + x0.2.2.1 := of_decide_eq_true (notF h3)
        refine wp_skip ?_
        refine then_normal ?_
        refine wp_seq ?_
        refine wp_seq ?_
        refine at_regq [] { ts := [1, 2, 3], os := [1] } [] gamOK hT h (by kernel_rfl) trivial ?_
        intro a w h
        refine then_normal ?_
        refine wp_block ?_
        replace h := at_out (σ' := ⟨[(1, aP 1 0), (2, aB false), (3, aI 0)], [(1, oX 112 [cI x0.1, cI x0.2.1, cI x0.2.2.1, cI x0.2.2.2.1, .ro s22 x0.2.2.2.2])]⟩) { ts := [1, 2, 3], os := [1] } h (by kernel_rfl)
        refine at_loop (fun i : Nat => (⟨[(1, aP 1 0), (2, aB false), (3, aI ((i : Nat) : Int))], [(1, oX 112 [cI x0.1, cI x0.2.1, cI x0.2.2.1, cI x0.2.2.2.1, .ro s22 x0.2.2.2.2])]⟩ : St)) (fun i => (i ≤ List.length x0.2.2.2.2 ∧ allTo1 (fun r => decide (LA.leadS r < x0.2.1)) x0.2.2.2.2 [] i)) (fun i => List.length x0.2.2.2.2 - i) (0) h (st_congr1 (fun (d0 : Int) => (⟨[(1, aP 1 0), (2, aB false), (3, aI d0)], [(1, oX 112 [cI x0.1, cI x0.2.1, cI x0.2.2.1, cI x0.2.2.2.1, .ro s22 x0.2.2.2.2])]⟩ : St)) (show (0 : Int) = (((0) : Nat) : Int) from by first | with_reducible rfl | (rfl) | rfl)) (by exact ⟨Nat.zero_le _, allTo1_zero⟩) ?_
        intro i a w hok0 h
        refine wp_seq ?_
        refine wp_seq ?_
        refine at_regq [] { ts := [1, 2, 3, 34], os := [1] } [] gamOK hT h (by kernel_rfl) trivial ?_
        intro a w h
        refine then_normal ?_
        refine at_test (decide (((i : Nat) : Int) < ((List.length x0.2.2.2.2 : Nat) : Int))) h (by kernel_rfl) (fun h4 => ?_) (fun h4 => ?_)
        · replace h4 : ((i : Nat) : Int) < ((List.length x0.2.2.2.2 : Nat) : Int) := of_decide_eq_true h4
          refine wp_skip ?_
          refine then_normal ?_
          refine wp_seq ?_
          refine wp_block ?_
          refine wp_seq ?_
          refine at_anyq [{}, {}, {}, {}, {}, {}, {}, {}, {}, {}] { ts := [1, 2, 3, 46], os := [1] } [(0 : Int) ≤ ((i : Nat) : Int) ∧ ((i : Nat) : Int) < ((List.length x0.2.2.2.2 : Nat) : Int), (fun (x0 : (List Int)) => Sh.fit s22 x0) (x0.2.2.2.2.getD i [])] gamOK hT mixed h (by kernel_rfl) ⟨(by refine ⟨?_, ?_⟩ <;> (first | omega | (simp only [lsA]; omega) | (simp; done) | (simp; omega) | done)), (by exact Sh.fit_getD hf0.2.2.2.2 i), trivial⟩ ?_
          intro a w h
          refine then_normal ?_
          refine at_test (decide ((LA.leadS (x0.2.2.2.2.getD i [])) ≥ x0.2.1)) h (by kernel_rfl) (fun h5 => ?_) (fun h5 => ?_)
          · replace h5 : (LA.leadS (x0.2.2.2.2.getD i [])) ≥ x0.2.1 := of_decide_eq_true h5
            refine wp_seq ?_
            refine at_regq [] { ts := [1, 2, 3], os := [1] } [] gamOK hT h (by kernel_rfl) trivial ?_
            intro a w h
            refine then_normal ?_
            refine wp_ret ?_
            refine in_ret ?_
            refine then_ret ?_
            have hs6 : (List.all x0.2.2.2.2 (fun r => decide (LA.leadS r < x0.2.1))) = false := by exact all_at (z := []) (i := i) (by omega) (by exact decide_eq_false (by omega))
            refine then_ret ?_
            refine in_ret ?_
            refine then_ret ?_
            exact at_return (S := S_spec_IsValidDecoder) (x := (x0, ())) (false, ()) [] h (by kernel_rfl) trivial (congrArg (fun z => (z, ())) (show (false) = validD x0 from by first | rfl | (unfold validD; rw [if_pos (notF h1), if_pos (notF h2), if_pos h3, if_neg (neT hs6)]; done) | (unfold validD; (repeat (first | rfl | split)) <;> (first | rfl | omega | (simp_all [-List.all_eq_true, -List.any_eq_true, -List.all_eq_false, -List.any_eq_false, validBS_eq]; done) | (simp_all [-List.all_eq_true, -List.any_eq_true, -List.all_eq_false, -List.any_eq_false, validBS_eq]; omega) | (exfalso; simp_all [-List.all_eq_true, -List.any_eq_true, -List.all_eq_false, -List.any_eq_false, validBS_eq]; omega)))))
          · replace h5 : ¬ ((LA.leadS (x0.2.2.2.2.getD i [])) ≥ x0.2.1) := of_decide_eq_false h5
            refine wp_skip ?_
            refine in_normal ?_
            refine then_normal ?_
            refine at_regq [{}, { nw := true }] { ts := [1, 2, 3], os := [1] } [I64 (((i : Nat) : Int) + 1)] gamOK hT h (by kernel_rfl) ⟨⟨by first | omega | (simp only [lsA]; omega) | (simp; done) | (simp; omega) | done, by first | omega | (simp only [lsA]; omega) | (simp; done) | (simp; omega) | done⟩, trivial⟩ ?_
            intro a w h
            replace h := at_out (σ' := ⟨[(1, aP 1 0), (2, aB false), (3, aI (((i : Nat) : Int) + 1))], [(1, oX 112 [cI x0.1, cI x0.2.1, cI x0.2.2.1, cI x0.2.2.2.1, .ro s22 x0.2.2.2.2])]⟩) { ts := [1, 2, 3], os := [1] } h (by kernel_rfl)
            exact ⟨i + 1, at_eq h (st_congr1 (fun (d0 : Int) => (⟨[(1, aP 1 0), (2, aB false), (3, aI d0)], [(1, oX 112 [cI x0.1, cI x0.2.1, cI x0.2.2.1, cI x0.2.2.2.1, .ro s22 x0.2.2.2.2])]⟩ : St)) (show (((i : Nat) : Int) + 1 : Int) = (((i + 1) : Nat) : Int) from by first | with_reducible rfl | (omega) | rfl)), (by exact ⟨by omega, allTo1_succ hok0.2 (by exact decide_eq_true (by omega))⟩), (by omega)⟩
        · replace h4 : ¬ (((i : Nat) : Int) < ((List.length x0.2.2.2.2 : Nat) : Int)) := of_decide_eq_false h4
          refine wp_exit ?_
          refine then_exit ?_
          have hs7 : (List.all x0.2.2.2.2 (fun r => decide (LA.leadS r < x0.2.1))) = true := by exact all_of (z := []) (i := i) (by omega) hok0.2
          refine then_exit ?_
          refine in_hit ?_
          refine then_normal ?_
          refine wp_seq ?_
          refine at_regq [] { ts := [2], os := [] } [] gamOK hT h (by kernel_rfl) trivial ?_
          intro a w h
          refine then_normal ?_
          refine wp_ret ?_
          exact at_return (S := S_spec_IsValidDecoder) (x := (x0, ())) (true, ()) [] h (by kernel_rfl) trivial (congrArg (fun z => (z, ())) (show (true) = validD x0 from by first | rfl | (unfold validD; rw [if_pos (notF h1), if_pos (notF h2), if_pos h3, if_pos hs7]; done) | (unfold validD; (repeat (first | rfl | split)) <;> (first | rfl | omega | (simp_all [-List.all_eq_true, -List.any_eq_true, -List.all_eq_false, -List.any_eq_false, validBS_eq]; done) | (simp_all [-List.all_eq_true, -List.any_eq_true, -List.all_eq_false, -List.any_eq_false, validBS_eq]; omega) | (exfalso; simp_all [-List.all_eq_true, -List.any_eq_true, -List.all_eq_false, -List.any_eq_false, validBS_eq]; omega)))))

def complD (x0 : T112) : Bool := decide (((List.length x0.2.2.2.2 : Nat) : Int) = x0.2.1)
def S__impl_Decoder_complete : Sum := { fid := 184, dom := [s112], cod := [(.bool 4)], dp := true, fz := false, pre := fun x => (fun (x0 : T112) => Sh.fit s112 x0) x.1, g := fun x => ((complD x.1), ()) }
def S__impl_Decoder_complete_tab : List (Nat × Sum) := []
theorem S__impl_Decoder_complete_ok : FnOK Try.prog 184 S__impl_Decoder_complete := by
  refine at_enter 10 (fun x => ⟨[(0, aG [cI x.1.1, cI x.1.2.1, cI x.1.2.2.1, cI x.1.2.2.2.1, .ro s22 x.1.2.2.2.2])], []⟩) Try.func184 rfl (by kernel_rfl) (fun x => rfl) ?_
  rintro w0 Z0 ⟨x0, u⟩ a w
  revert x0
  intro (x0 : T112) hpre hlens h
  replace h : At w0 Z0 [] 10 ⟨[(0, aG [cI x0.1, cI x0.2.1, cI x0.2.2.1, cI x0.2.2.2.1, .ro s22 x0.2.2.2.2])], []⟩ a w := h
  replace hpre : (fun (x0 : T112) => Sh.fit s112 x0) x0 := hpre
  have hl1 : List.length x0.2.2.2.2 ≤ 9223372036854775807 := hlens.1.2.2.2.2.1
  have hT : TabOK Try.prog S__impl_Decoder_complete_tab := .nil
  have hf0 : Sh.fit s112 x0 := hpre
  have hn0_1 : List.length x0.2.2.2.2 ≤ 1073741824 := hf0.2.2.2.2.1
  refine wp_seq ?_
  refine at_regq [{ ids := [1] }] { ts := [1, 2], os := [1] } [] gamOK hT h (by kernel_rfl) trivial ?_
  intro a w h
  refine then_normal ?_
  refine wp_seq ?_
  refine at_regq [] { ts := [2], os := [] } [] gamOK hT h (by kernel_rfl) trivial ?_
  intro a w h
  refine then_normal ?_
  refine wp_ret ?_
  exact at_return (S := S__impl_Decoder_complete) (x := (x0, ())) (decide (((List.length x0.2.2.2.2 : Nat) : Int) = x0.2.1), ()) [] h (by kernel_rfl) trivial (congrArg (fun z => (z, ())) (show (decide (((List.length x0.2.2.2.2 : Nat) : Int) = x0.2.1)) = complD x0 from by rfl))

def D_spec_MissingDegrees (x0 : T112) : Int := (if (validD x0) = true then x0.2.1 - ((List.length x0.2.2.2.2 : Nat) : Int) else 0)
def S_spec_MissingDegrees : Sum := { fid := 106, dom := [s112], cod := [(.int 3)], dp := true, fz := false, pre := fun x => (fun (x0 : T112) => Sh.fit s112 x0) x.1, g := fun x => ((D_spec_MissingDegrees x.1), ()) }
def S_spec_MissingDegrees_tab : List (Nat × Sum) := [(141, S_spec_IsValidDecoder)]
theorem S_spec_MissingDegrees_ok : FnOK Try.prog 106 S_spec_MissingDegrees := by
  refine at_enter 13 (fun x => ⟨[(0, aG [cI x.1.1, cI x.1.2.1, cI x.1.2.2.1, cI x.1.2.2.2.1, .ro s22 x.1.2.2.2.2])], []⟩) Try.func106 rfl (by kernel_rfl) (fun x => rfl) ?_
  rintro w0 Z0 ⟨x0, u⟩ a w
  revert x0
  intro (x0 : T112) hpre hlens h
  replace h : At w0 Z0 [] 13 ⟨[(0, aG [cI x0.1, cI x0.2.1, cI x0.2.2.1, cI x0.2.2.2.1, .ro s22 x0.2.2.2.2])], []⟩ a w := h
  replace hpre : (fun (x0 : T112) => Sh.fit s112 x0) x0 := hpre
  have hl1 : List.length x0.2.2.2.2 ≤ 9223372036854775807 := hlens.1.2.2.2.2.1
  have hT : TabOK Try.prog S_spec_MissingDegrees_tab := (.cons S_spec_IsValidDecoder_ok .nil)
  have hf0 : Sh.fit s112 x0 := hpre
  have hn0_1 : List.length x0.2.2.2.2 ≤ 1073741824 := hf0.2.2.2.2.1
  refine wp_seq ?_
  refine at_regq [{ ids := [1] }] { ts := [1, 2], os := [1] } [] gamOK hT h (by kernel_rfl) trivial ?_
  intro a w h
  refine then_normal ?_
  refine wp_seq ?_
  refine wp_seq ?_
  refine at_regq [] { ts := [1, 2, 5], os := [1] } [(fun (x0 : T112) => Sh.fit s112 x0) x0] gamOK hT h (by kernel_rfl) ⟨(by exact hf0), trivial⟩ ?_
  intro a w h
  refine then_normal ?_
  refine at_test (!(validD x0)) h (by kernel_rfl) (fun h1 => ?_) (fun h1 => ?_)
  · replace h1 : (validD x0) = false := notT h1
    refine wp_seq ?_
    refine at_regq [] { ts := [1, 2], os := [1] } [] gamOK hT h (by kernel_rfl) trivial ?_
    intro a w h
    refine then_normal ?_
    refine wp_ret ?_
    refine then_ret ?_
    exact at_return (S := S_spec_MissingDegrees) (x := (x0, ())) (0, ()) [] h (by kernel_rfl) trivial (congrArg (fun z => (z, ())) (show (0) = D_spec_MissingDegrees x0 from by first | rfl | (unfold D_spec_MissingDegrees; rw [if_neg (neT h1)])))
  · replace h1 : (validD x0) = true := notF h1
    have hvh1 := validD_t h1
    refine wp_skip ?_
    refine then_normal ?_
    refine wp_seq ?_
    refine at_regq [{}, {}, {}, {}, {}, {}, { nw := true }] { ts := [2], os := [] } [I64 (x0.2.1 - ((List.length x0.2.2.2.2 : Nat) : Int))] gamOK hT h (by kernel_rfl) ⟨⟨by first | omega | (simp only [lsA]; omega) | (simp; done) | (simp; omega) | done, by first | omega | (simp only [lsA]; omega) | (simp; done) | (simp; omega) | done⟩, trivial⟩ ?_
    intro a w h
    refine then_normal ?_
    refine wp_ret ?_
    exact at_return (S := S_spec_MissingDegrees) (x := (x0, ())) (x0.2.1 - ((List.length x0.2.2.2.2 : Nat) : Int), ()) [] h (by kernel_rfl) trivial (congrArg (fun z => (z, ())) (show (x0.2.1 - ((List.length x0.2.2.2.2 : Nat) : Int)) = D_spec_MissingDegrees x0 from by first | rfl | (unfold D_spec_MissingDegrees; rw [if_pos h1])))

def D_spec_IsComplete := (fun d => validD d && complD d)
def S_spec_IsComplete : Sum := { fid := 180, dom := [s112], cod := [(.bool 4)], dp := true, fz := false, pre := fun x => (fun (x0 : T112) => Sh.fit s112 x0) x.1, g := fun x => ((D_spec_IsComplete x.1), ()) }
def S_spec_IsComplete_tab : List (Nat × Sum) := [(141, S_spec_IsValidDecoder), (106, S_spec_MissingDegrees)]
theorem S_spec_IsComplete_ok : FnOK Try.prog 180 S_spec_IsComplete := by
  refine at_enter 10 (fun x => ⟨[(0, aG [cI x.1.1, cI x.1.2.1, cI x.1.2.2.1, cI x.1.2.2.2.1, .ro s22 x.1.2.2.2.2])], []⟩) Try.func180 rfl (by kernel_rfl) (fun x => rfl) ?_
  rintro w0 Z0 ⟨x0, u⟩ a w
  revert x0
  intro (x0 : T112) hpre hlens h
  replace h : At w0 Z0 [] 10 ⟨[(0, aG [cI x0.1, cI x0.2.1, cI x0.2.2.1, cI x0.2.2.2.1, .ro s22 x0.2.2.2.2])], []⟩ a w := h
  replace hpre : (fun (x0 : T112) => Sh.fit s112 x0) x0 := hpre
  have hl1 : List.length x0.2.2.2.2 ≤ 9223372036854775807 := hlens.1.2.2.2.2.1
  have hT : TabOK Try.prog S_spec_IsComplete_tab := (.cons S_spec_IsValidDecoder_ok (.cons S_spec_MissingDegrees_ok .nil))
  have hf0 : Sh.fit s112 x0 := hpre
  have hn0_1 : List.length x0.2.2.2.2 ≤ 1073741824 := hf0.2.2.2.2.1
  refine wp_seq ?_
  refine at_regq [{ ids := [1] }] { ts := [1, 2], os := [1] } [] gamOK hT h (by kernel_rfl) trivial ?_
  intro a w h
  refine then_normal ?_
  refine wp_seq ?_
  rcases Bool.eq_false_or_eq_true ((validD x0)) with h1 | h1
  · skip
    have hvh1 := validD_t h1
    refine at_regq [{}, { hint := some (aB true) }] { ts := [2], os := [] } [(fun (x0 : T112) => Sh.fit s112 x0) x0, (AV.p (.c (.v (.bool ((validD x0))))) = AV.p (.c (.v (.bool true)))), (fun (x0 : T112) => Sh.fit s112 x0) x0] gamOK hT h (by kernel_rfl) ⟨(by exact hf0), hint_bool (h1), (by exact hf0), trivial⟩ ?_
    intro a w h
    refine then_normal ?_
    refine wp_ret ?_
    exact at_return (S := S_spec_IsComplete) (x := (x0, ())) (decide ((D_spec_MissingDegrees x0) = 0), ()) [] h (by kernel_rfl) trivial (congrArg (fun z => (z, ())) (show (decide ((D_spec_MissingDegrees x0) = 0)) = D_spec_IsComplete x0 from by unfold D_spec_IsComplete; (first | (rw [show validD x0 = false by assumption]; rfl) | (rw [show validD x0 = true by assumption]; unfold D_spec_MissingDegrees complD; rw [if_pos (by assumption), Bool.true_and, decide_eq_decide]; omega))))
  · skip
    refine at_regq [{}, { hint := some (aB false) }] { ts := [2], os := [] } [(fun (x0 : T112) => Sh.fit s112 x0) x0, (AV.p (.c (.v (.bool ((validD x0))))) = AV.p (.c (.v (.bool false))))] gamOK hT h (by kernel_rfl) ⟨(by exact hf0), hint_bool (h1), trivial⟩ ?_
    intro a w h
    refine then_normal ?_
    refine wp_ret ?_
    exact at_return (S := S_spec_IsComplete) (x := (x0, ())) (false, ()) [] h (by kernel_rfl) trivial (congrArg (fun z => (z, ())) (show (false) = D_spec_IsComplete x0 from by unfold D_spec_IsComplete; (first | (rw [show validD x0 = false by assumption]; rfl) | (rw [show validD x0 = true by assumption]; unfold D_spec_MissingDegrees complD; rw [if_pos (by assumption), Bool.true_and, decide_eq_decide]; omega))))

def fitsS (x0 : T32) (x1 : Int) (x2 : Int) (x3 : Int) : Bool := (if (inR x1 0 (((List.length x0.2.2.1 : Nat) : Int) - 1)) = true then (if x2 = (x0.2.2.1.getD ((x1).toNat) 0) then decide (x3 = x0.2.1) else false) else false)
def S__impl_Sink_fits : Sum := { fid := 185, dom := [s32, (.int 3), (.int 3), (.int 3)], cod := [(.bool 4)], dp := true, fz := false, pre := fun x => (fun (x0 : T32) (x1 : Int) (x2 : Int) (x3 : Int) => Sh.fit s32 x0) x.1 x.2.1 x.2.2.1 x.2.2.2.1, g := fun x => ((fitsS x.1 x.2.1 x.2.2.1 x.2.2.2.1), ()) }
def S__impl_Sink_fits_tab : List (Nat × Sum) := [(107, S_impl_InRange)]
theorem S__impl_Sink_fits_ok : FnOK Try.prog 185 S__impl_Sink_fits := by
  refine at_enter 30 (fun x => ⟨[(0, aG [cI x.1.1, cI x.1.2.1, .ro (.int 3) x.1.2.2.1, .ro s112 x.1.2.2.2.1, .ro s218 x.1.2.2.2.2.1, cI x.1.2.2.2.2.2]), (1, aI x.2.1), (2, aI x.2.2.1), (3, aI x.2.2.2.1)], []⟩) Try.func185 rfl (by kernel_rfl) (fun x => rfl) ?_
  rintro w0 Z0 ⟨x0, x1, x2, x3, u⟩ a w
  revert x0 x1 x2 x3
  intro (x0 : T32) (x1 : Int) (x2 : Int) (x3 : Int) hpre hlens h
  replace h : At w0 Z0 [] 30 ⟨[(0, aG [cI x0.1, cI x0.2.1, .ro (.int 3) x0.2.2.1, .ro s112 x0.2.2.2.1, .ro s218 x0.2.2.2.2.1, cI x0.2.2.2.2.2]), (1, aI x1), (2, aI x2), (3, aI x3)], []⟩ a w := h
  replace hpre : (fun (x0 : T32) (x1 : Int) (x2 : Int) (x3 : Int) => Sh.fit s32 x0) x0 x1 x2 x3 := hpre
  have hl1 : List.length x0.2.2.1 ≤ 9223372036854775807 := hlens.1.2.2.1.1
  have hl2 : List.length x0.2.2.2.1 ≤ 9223372036854775807 := hlens.1.2.2.2.1.1
  have hl3 : List.length x0.2.2.2.2.1 ≤ 9223372036854775807 := hlens.1.2.2.2.2.1.1
  have hT : TabOK Try.prog S__impl_Sink_fits_tab := (.cons S_impl_InRange_ok .nil)
  have hf0 : Sh.fit s32 x0 := hpre
  have hn0_1 : List.length x0.2.2.1 ≤ 1073741824 := hf0.2.2.1.1
  have hn0_2 : List.length x0.2.2.2.1 ≤ 1073741824 := hf0.2.2.2.1.1
  have hn0_3 : List.length x0.2.2.2.2.1 ≤ 1073741824 := hf0.2.2.2.2.1.1
  refine wp_seq ?_
  refine at_regq [{ ids := [1] }] { ts := [1, 2, 3, 4, 8], os := [1] } [] gamOK hT h (by kernel_rfl) trivial ?_
  intro a w h
  refine then_normal ?_
  refine wp_seq ?_
  rcases Bool.eq_false_or_eq_true ((inR x1 0 (((List.length x0.2.2.1 : Nat) : Int) - 1))) with h1 | h1
  · skip
    have hvh1 := inR_t h1
    by_cases h2 : x2 = (x0.2.2.1.getD ((x1).toNat) 0)
    · skip
      refine at_regq [{}, {}, {}, {}, { nw := true }, { hint := some (aB true) }, {}, {}, {}, {}, {}, {}, {}, { hint := some (aB true) }] { ts := [8], os := [] } [I64 (((List.length x0.2.2.1 : Nat) : Int) - 1), True, (AV.p (.c (.v (.bool ((inR x1 0 (((List.length x0.2.2.1 : Nat) : Int) - 1)))))) = AV.p (.c (.v (.bool true)))), (0 : Int) ≤ x1 ∧ x1 < ((List.length x0.2.2.1 : Nat) : Int), (AV.p (.c (.v (.bool (decide (x2 = (x0.2.2.1.getD ((x1).toNat) 0)))))) = AV.p (.c (.v (.bool true))))] gamOK hT h (by kernel_rfl) ⟨⟨by first | omega | (simp only [lsA]; omega) | (simp; done) | (simp; omega) | done, by first | omega | (simp only [lsA]; omega) | (simp; done) | (simp; omega) | done⟩, trivial, hint_bool (h1), (by refine ⟨?_, ?_⟩ <;> (first | omega | (simp only [lsA]; omega) | (simp; done) | (simp; omega) | done)), hint_bool (decide_eq_true h2), trivial⟩ ?_
      intro a w h
      refine then_normal ?_
      refine wp_ret ?_
      exact at_return (S := S__impl_Sink_fits) (x := (x0, x1, x2, x3, ())) (decide (x3 = x0.2.1), ()) [] h (by kernel_rfl) trivial (congrArg (fun z => (z, ())) (show (decide (x3 = x0.2.1)) = fitsS x0 x1 x2 x3 from by first | rfl | (unfold fitsS; rw [if_pos h1, if_pos h2])))
    · skip
      refine at_regq [{}, {}, {}, {}, { nw := true }, { hint := some (aB true) }, {}, {}, {}, {}, {}, {}, {}, { hint := some (aB false) }] { ts := [8], os := [] } [I64 (((List.length x0.2.2.1 : Nat) : Int) - 1), True, (AV.p (.c (.v (.bool ((inR x1 0 (((List.length x0.2.2.1 : Nat) : Int) - 1)))))) = AV.p (.c (.v (.bool true)))), (0 : Int) ≤ x1 ∧ x1 < ((List.length x0.2.2.1 : Nat) : Int), (AV.p (.c (.v (.bool (decide (x2 = (x0.2.2.1.getD ((x1).toNat) 0)))))) = AV.p (.c (.v (.bool false))))] gamOK hT h (by kernel_rfl) ⟨⟨by first | omega | (simp only [lsA]; omega) | (simp; done) | (simp; omega) | done, by first | omega | (simp only [lsA]; omega) | (simp; done) | (simp; omega) | done⟩, trivial, hint_bool (h1), (by refine ⟨?_, ?_⟩ <;> (first | omega | (simp only [lsA]; omega) | (simp; done) | (simp; omega) | done)), hint_bool (decide_eq_false h2), trivial⟩ ?_
      intro a w h
      refine then_normal ?_
      refine wp_ret ?_
      exact at_return (S := S__impl_Sink_fits) (x := (x0, x1, x2, x3, ())) (false, ()) [] h (by kernel_rfl) trivial (congrArg (fun z => (z, ())) (show (false) = fitsS x0 x1 x2 x3 from by first | rfl | (unfold fitsS; rw [if_pos h1, if_neg h2])))
  · skip
    have hvh1 := inR_f h1
    refine at_regq [{}, {}, {}, {}, { nw := true }, { hint := some (aB false) }] { ts := [8], os := [] } [I64 (((List.length x0.2.2.1 : Nat) : Int) - 1), True, (AV.p (.c (.v (.bool ((inR x1 0 (((List.length x0.2.2.1 : Nat) : Int) - 1)))))) = AV.p (.c (.v (.bool false))))] gamOK hT h (by kernel_rfl) ⟨⟨by first | omega | (simp only [lsA]; omega) | (simp; done) | (simp; omega) | done, by first | omega | (simp only [lsA]; omega) | (simp; done) | (simp; omega) | done⟩, trivial, hint_bool (h1), trivial⟩ ?_
    intro a w h
    refine then_normal ?_
    refine wp_ret ?_
    exact at_return (S := S__impl_Sink_fits) (x := (x0, x1, x2, x3, ())) (false, ()) [] h (by kernel_rfl) trivial (congrArg (fun z => (z, ())) (show (false) = fitsS x0 x1 x2 x3 from by first | rfl | (unfold fitsS; rw [if_neg (neT h1)])))

theorem allN_and {P Q : Nat → Bool} : ∀ {n : Nat}, allN (fun i => P i && Q i) n = (allN P n && allN Q n)
  | 0 => rfl
  | n + 1 => by
    simp only [allN]; rw [allN_and (n := n)]
    cases allN P n <;> cases allN Q n <;> cases P n <;> cases Q n <;> rfl
def decB (s : T32) (i : Nat) : Bool := (validD (s.2.2.2.1.getD i (0, (0, (0, (0, []))))) && (!complD (s.2.2.2.1.getD i (0, (0, (0, (0, []))))) && fitsS s (s.2.2.2.1.getD i (0, (0, (0, (0, []))))).1 (s.2.2.2.1.getD i (0, (0, (0, (0, []))))).2.1 (s.2.2.2.1.getD i (0, (0, (0, (0, []))))).2.2.1)) && ordB (fun x => x.1) (0, (0, (0, (0, [])))) s.2.2.2.1 i
def genB (s : T32) (i : Nat) : Bool := (validG (s.2.2.2.2.1.getD i (0, [])) && fitsS s (s.2.2.2.2.1.getD i (0, [])).1 ((List.length (s.2.2.2.2.1.getD i (0, [])).2 : Nat) : Int) (colsOf (s.2.2.2.2.1.getD i (0, [])).2)) && ordB (fun x => x.1) (0, []) s.2.2.2.2.1 i
def opnB (s : T32) (j : Nat) : Bool := !fndK (fun x => x.1) (0, (0, (0, (0, [])))) s.2.2.2.1 (s.2.2.2.2.1.getD j (0, [])).1
def clsB (s : T32) (i : Nat) : Bool := !(s.2.2.2.2.1.any fun g => decide (g.1 = (s.2.2.2.1.getD i (0, (0, (0, (0, []))))).1))
def headS (s : T32) : Bool := inR s.1 0 7 && (inR s.2.1 1 16 && (D_spec_l30Sizes s.2.2.1 && (decide (List.length s.2.2.2.1 ≤ 4) && inR s.2.2.2.2.2 0 ((List.length s.2.2.2.2.1 : Nat) : Int))))
def validS (s : T32) : Bool := headS s && (allN (decB s) (List.length s.2.2.2.1) && (allN (genB s) (List.length s.2.2.2.2.1) && allN (opnB s) (List.length s.2.2.2.2.1)))
theorem opnB_t {s : T32} {j : Nat} (h : fndK (fun x => x.1) (0, (0, (0, (0, [])))) s.2.2.2.1 (s.2.2.2.2.1.getD j (0, [])).1 = false) : opnB s j = true := by unfold opnB; rw [h]; rfl
theorem opnB_f {s : T32} {j : Nat} (h : fndK (fun x => x.1) (0, (0, (0, (0, [])))) s.2.2.2.1 (s.2.2.2.2.1.getD j (0, [])).1 = true) : opnB s j = false := by unfold opnB; rw [h]; rfl
theorem clsB_t {s : T32} {i : Nat} (h : (s.2.2.2.2.1.any fun g => decide (g.1 = (s.2.2.2.1.getD i (0, (0, (0, (0, []))))).1)) = false) : clsB s i = true := by unfold clsB; rw [h]; rfl
theorem isC_f {d : T112} (h : (validD d && complD d) = false) (hv : validD d = true) : complD d = false := by rw [hv, Bool.true_and] at h; exact h
theorem decB_t {s : T32} {i : Nat} (h1 : validD (s.2.2.2.1.getD i (0, (0, (0, (0, []))))) = true) (h2 : complD (s.2.2.2.1.getD i (0, (0, (0, (0, []))))) = false) (h3 : fitsS s (s.2.2.2.1.getD i (0, (0, (0, (0, []))))).1 (s.2.2.2.1.getD i (0, (0, (0, (0, []))))).2.1 (s.2.2.2.1.getD i (0, (0, (0, (0, []))))).2.2.1 = true) (h4 : i = 0 ∨ (s.2.2.2.1.getD (((i : Nat) : Int) - 1).toNat (0, (0, (0, (0, []))))).1 < (s.2.2.2.1.getD i (0, (0, (0, (0, []))))).1) : decB s i = true := by
  unfold decB; rw [h1, h2, h3, ordB_t h4]; rfl
theorem decB_f {s : T32} {i : Nat} (h : validD (s.2.2.2.1.getD i (0, (0, (0, (0, []))))) = false ∨ complD (s.2.2.2.1.getD i (0, (0, (0, (0, []))))) = true ∨ fitsS s (s.2.2.2.1.getD i (0, (0, (0, (0, []))))).1 (s.2.2.2.1.getD i (0, (0, (0, (0, []))))).2.1 (s.2.2.2.1.getD i (0, (0, (0, (0, []))))).2.2.1 = false ∨ (0 < i ∧ (s.2.2.2.1.getD i (0, (0, (0, (0, []))))).1 ≤ (s.2.2.2.1.getD (((i : Nat) : Int) - 1).toNat (0, (0, (0, (0, []))))).1)) : decB s i = false := by
  unfold decB
  rcases h with h | h | h | h
  · rw [h]; rfl
  · rw [h]; simp
  · rw [h]; simp
  · rw [ordB_f h, Bool.and_false]
theorem genB_t {s : T32} {i : Nat} (h1 : validG (s.2.2.2.2.1.getD i (0, [])) = true) (h3 : fitsS s (s.2.2.2.2.1.getD i (0, [])).1 ((List.length (s.2.2.2.2.1.getD i (0, [])).2 : Nat) : Int) (colsOf (s.2.2.2.2.1.getD i (0, [])).2) = true) (h4 : i = 0 ∨ (s.2.2.2.2.1.getD (((i : Nat) : Int) - 1).toNat (0, [])).1 < (s.2.2.2.2.1.getD i (0, [])).1) : genB s i = true := by
  unfold genB; rw [h1, h3, ordB_t h4]; rfl
theorem genB_f {s : T32} {i : Nat} (h : validG (s.2.2.2.2.1.getD i (0, [])) = false ∨ fitsS s (s.2.2.2.2.1.getD i (0, [])).1 ((List.length (s.2.2.2.2.1.getD i (0, [])).2 : Nat) : Int) (colsOf (s.2.2.2.2.1.getD i (0, [])).2) = false ∨ (0 < i ∧ (s.2.2.2.2.1.getD i (0, [])).1 ≤ (s.2.2.2.2.1.getD (((i : Nat) : Int) - 1).toNat (0, [])).1)) : genB s i = false := by
  unfold genB
  rcases h with h | h | h
  · rw [h]; rfl
  · rw [h]; simp
  · rw [ordB_f h, Bool.and_false]
theorem and_t {a b : Bool} (ha : a = true) (hb : b = true) : (a && b) = true := by rw [ha, hb]; rfl
theorem and_f {a b : Bool} (h : a = false ∨ b = false) : (a && b) = false := by rcases h with h | h <;> rw [h] <;> simp
theorem dec_srt {s : T32} (h : allN (decB s) (List.length s.2.2.2.1) = true) : srtK (fun x => x.1) (0, (0, (0, (0, [])))) s.2.2.2.1 := srt_ord fun i hi => by
  have := allN_iff.1 h i hi
  unfold decB at this; rw [Bool.and_eq_true] at this; exact this.2
theorem gen_srt {s : T32} (h : allN (genB s) (List.length s.2.2.2.2.1) = true) : srtK (fun x => x.1) (0, []) s.2.2.2.2.1 := srt_ord fun i hi => by
  have := allN_iff.1 h i hi
  unfold genB at this; rw [Bool.and_eq_true] at this; exact this.2
theorem opn_cls {s : T32} (h : allN (decB s) (List.length s.2.2.2.1) = true) : allN (opnB s) (List.length s.2.2.2.2.1) = allN (clsB s) (List.length s.2.2.2.1) := by
  rw [Bool.eq_iff_iff, allN_iff, allN_iff]
  constructor
  · intro ho i hi
    unfold clsB; rw [Bool.not_eq_true']; rw [Bool.eq_false_iff]; intro ha
    obtain ⟨g, hg, he⟩ := List.any_eq_true.1 ha
    obtain ⟨j, hj, rfl⟩ := List.getElem_of_mem hg
    have h1 := ho j hj
    unfold opnB at h1
    rw [getD_of_lt hj, fndK_at (dec_srt h) hi (of_decide_eq_true he).symm] at h1
    cases h1
  · intro hc j hj
    unfold opnB; rw [Bool.not_eq_true']; rw [Bool.eq_false_iff]; intro hf
    obtain ⟨h1, h2⟩ := fndK_t hf
    have h3 := hc _ h1
    unfold clsB at h3
    rw [Bool.not_eq_true', List.any_eq_false] at h3
    exact h3 _ (getD_mem (z := (0, [])) hj) (decide_eq_true h2.symm)
theorem newSink_w (a b : Int) (l : List Int) : (newSink a b l).2.1 = 0 ↔ (inR a 0 7 && (inR b 1 16 && D_spec_l30Sizes l)) = false := by
  unfold newSink D_spec_l30Sizes
  by_cases h1 : inR a 0 7 = true
  · by_cases h2 : inR b 1 16 = true
    · have hb := inR_t h2
      rw [if_pos h1, if_pos h2, h1, h2]
      simp only [Bool.true_and]
      (repeat' split) <;> simp_all [D_slices_ContainsFunc_S_int_int__NewSink_1, any_not] <;> omega
    · rw [if_pos h1, if_neg h2]; simp [h2]
  · rw [if_neg h1]; simp [h1]
theorem headS_y {s : T32} (h1 : ¬ (newSink s.1 s.2.1 s.2.2.1).2.1 = 0) (h2 : List.length s.2.2.2.1 ≤ 4) (h3 : inR s.2.2.2.2.2 0 ((List.length s.2.2.2.2.1 : Nat) : Int) = true) : headS s = true := by
  rw [newSink_w, Bool.not_eq_false, Bool.and_eq_true, Bool.and_eq_true] at h1
  unfold headS; rw [h1.1, h1.2.1, h1.2.2, decide_eq_true h2, h3]; rfl
theorem headS_n {s : T32} (h : (newSink s.1 s.2.1 s.2.2.1).2.1 = 0 ∨ ¬ List.length s.2.2.2.1 ≤ 4 ∨ inR s.2.2.2.2.2 0 ((List.length s.2.2.2.2.1 : Nat) : Int) = false) : headS s = false := by
  unfold headS
  rcases h with h | h | h
  · rw [newSink_w] at h
    revert h
    cases inR s.1 0 7 <;> cases inR s.2.1 1 16 <;> cases D_spec_l30Sizes s.2.2.1 <;> simp
  · rw [decide_eq_false h]; simp
  · rw [h]; simp
theorem headS_y2 {s : T32} (h0 : inR s.1 0 7 = true) (h1 : inR s.2.1 1 16 = true) (h4 : D_spec_l30Sizes s.2.2.1 = true) (h2 : List.length s.2.2.2.1 ≤ 4) (h3 : inR s.2.2.2.2.2 0 ((List.length s.2.2.2.2.1 : Nat) : Int) = true) : headS s = true := by
  unfold headS; rw [h0, h1, h4, decide_eq_true h2, h3]; rfl
theorem headS_n2 {s : T32} (h : inR s.1 0 7 = false ∨ inR s.2.1 1 16 = false ∨ D_spec_l30Sizes s.2.2.1 = false ∨ ¬ List.length s.2.2.2.1 ≤ 4 ∨ inR s.2.2.2.2.2 0 ((List.length s.2.2.2.2.1 : Nat) : Int) = false) : headS s = false := by
  unfold headS
  rcases h with h | h | h | h | h
  · rw [h]; simp
  · rw [h]; simp
  · rw [h]; simp
  · rw [decide_eq_false h]; simp
  · rw [h]; simp
theorem validS_impl {s : T32} (h : allN (decB s) (List.length s.2.2.2.1) = true) (h0 : headS s = true) : allN (fun j => genB s j && opnB s j) (List.length s.2.2.2.2.1) = validS s := by
  unfold validS; rw [h, h0, allN_and]; rfl
theorem validS_spec {s : T32} (h : allN (fun i => decB s i && clsB s i) (List.length s.2.2.2.1) = true) (h0 : headS s = true) : allN (genB s) (List.length s.2.2.2.2.1) = validS s := by
  rw [allN_and, Bool.and_eq_true] at h
  unfold validS; rw [h.1, h0, opn_cls h.1, h.2, Bool.and_true]; rfl
theorem validS_no {s : T32} (h : headS s = false ∨ allN (decB s) (List.length s.2.2.2.1) = false ∨ allN (fun i => decB s i && clsB s i) (List.length s.2.2.2.1) = false) : false = validS s := by
  unfold validS
  rcases h with h | h | h
  · rw [h]; rfl
  · rw [h]; simp
  · rw [allN_and] at h
    cases hd : allN (decB s) (List.length s.2.2.2.1) with
    | false => simp
    | true => rw [hd, Bool.true_and] at h; rw [opn_cls hd, h]; simp
theorem validS_t {s : T32} (h : validS s = true) : headS s = true ∧ allN (decB s) (List.length s.2.2.2.1) = true ∧ allN (genB s) (List.length s.2.2.2.2.1) = true ∧ allN (opnB s) (List.length s.2.2.2.2.1) = true := by
  unfold validS at h
  rw [Bool.and_eq_true, Bool.and_eq_true, Bool.and_eq_true] at h
  exact h


def S_spec_l30Fits : Sum := { fid := 181, dom := [s32, (.int 3), (.int 3), (.int 3)], cod := [(.bool 4)], dp := true, fz := false, pre := fun x => (fun (x0 : T32) (x1 : Int) (x2 : Int) (x3 : Int) => Sh.fit s32 x0) x.1 x.2.1 x.2.2.1 x.2.2.2.1, g := fun x => ((fitsS x.1 x.2.1 x.2.2.1 x.2.2.2.1), ()) }
def S_spec_l30Fits_tab : List (Nat × Sum) := [(103, S_spec_l1In)]
theorem S_spec_l30Fits_ok : FnOK Try.prog 181 S_spec_l30Fits := by
  refine at_enter 30 (fun x => ⟨[(0, aG [cI x.1.1, cI x.1.2.1, .ro (.int 3) x.1.2.2.1, .ro s112 x.1.2.2.2.1, .ro s218 x.1.2.2.2.2.1, cI x.1.2.2.2.2.2]), (1, aI x.2.1), (2, aI x.2.2.1), (3, aI x.2.2.2.1)], []⟩) Try.func181 rfl (by kernel_rfl) (fun x => rfl) ?_
  rintro w0 Z0 ⟨x0, x1, x2, x3, u⟩ a w
  revert x0 x1 x2 x3
  intro (x0 : T32) (x1 : Int) (x2 : Int) (x3 : Int) hpre hlens h
  replace h : At w0 Z0 [] 30 ⟨[(0, aG [cI x0.1, cI x0.2.1, .ro (.int 3) x0.2.2.1, .ro s112 x0.2.2.2.1, .ro s218 x0.2.2.2.2.1, cI x0.2.2.2.2.2]), (1, aI x1), (2, aI x2), (3, aI x3)], []⟩ a w := h
  replace hpre : (fun (x0 : T32) (x1 : Int) (x2 : Int) (x3 : Int) => Sh.fit s32 x0) x0 x1 x2 x3 := hpre
  have hl1 : List.length x0.2.2.1 ≤ 9223372036854775807 := hlens.1.2.2.1.1
  have hl2 : List.length x0.2.2.2.1 ≤ 9223372036854775807 := hlens.1.2.2.2.1.1
  have hl3 : List.length x0.2.2.2.2.1 ≤ 9223372036854775807 := hlens.1.2.2.2.2.1.1
  have hT : TabOK Try.prog S_spec_l30Fits_tab := (.cons S_spec_l1In_ok .nil)
  have hf0 : Sh.fit s32 x0 := hpre
  have hn0_1 : List.length x0.2.2.1 ≤ 1073741824 := hf0.2.2.1.1
  have hn0_2 : List.length x0.2.2.2.1 ≤ 1073741824 := hf0.2.2.2.1.1
  have hn0_3 : List.length x0.2.2.2.2.1 ≤ 1073741824 := hf0.2.2.2.2.1.1
  refine wp_seq ?_
  refine at_regq [{ ids := [1] }] { ts := [1, 2, 3, 4, 8], os := [1] } [] gamOK hT h (by kernel_rfl) trivial ?_
  intro a w h
  refine then_normal ?_
  refine wp_seq ?_
  rcases Bool.eq_false_or_eq_true ((inR x1 0 (((List.length x0.2.2.1 : Nat) : Int) - 1))) with h1 | h1
  · skip
    have hvh1 := inR_t h1
    by_cases h2 : (x0.2.2.1.getD ((x1).toNat) 0) = x2
    · skip
      refine at_regq [{}, {}, {}, {}, { nw := true }, { hint := some (aB true) }, {}, {}, {}, {}, {}, {}, {}, { hint := some (aB true) }] { ts := [8], os := [] } [I64 (((List.length x0.2.2.1 : Nat) : Int) - 1), True, (AV.p (.c (.v (.bool ((inR x1 0 (((List.length x0.2.2.1 : Nat) : Int) - 1)))))) = AV.p (.c (.v (.bool true)))), (0 : Int) ≤ x1 ∧ x1 < ((List.length x0.2.2.1 : Nat) : Int), (AV.p (.c (.v (.bool (decide ((x0.2.2.1.getD ((x1).toNat) 0) = x2))))) = AV.p (.c (.v (.bool true))))] gamOK hT h (by kernel_rfl) ⟨⟨by first | omega | (simp only [lsA]; omega) | (simp; done) | (simp; omega) | done, by first | omega | (simp only [lsA]; omega) | (simp; done) | (simp; omega) | done⟩, trivial, hint_bool (h1), (by refine ⟨?_, ?_⟩ <;> (first | omega | (simp only [lsA]; omega) | (simp; done) | (simp; omega) | done)), hint_bool (decide_eq_true h2), trivial⟩ ?_
      intro a w h
      refine then_normal ?_
      refine wp_ret ?_
      exact at_return (S := S_spec_l30Fits) (x := (x0, x1, x2, x3, ())) (decide (x3 = x0.2.1), ()) [] h (by kernel_rfl) trivial (congrArg (fun z => (z, ())) (show (decide (x3 = x0.2.1)) = fitsS x0 x1 x2 x3 from by first | rfl | (unfold fitsS; rw [if_pos h1, if_pos h2]; done) | (unfold fitsS; (simp_all; try (intro e; exact absurd e.symm (by assumption))))))
    · skip
      refine at_regq [{}, {}, {}, {}, { nw := true }, { hint := some (aB true) }, {}, {}, {}, {}, {}, {}, {}, { hint := some (aB false) }] { ts := [8], os := [] } [I64 (((List.length x0.2.2.1 : Nat) : Int) - 1), True, (AV.p (.c (.v (.bool ((inR x1 0 (((List.length x0.2.2.1 : Nat) : Int) - 1)))))) = AV.p (.c (.v (.bool true)))), (0 : Int) ≤ x1 ∧ x1 < ((List.length x0.2.2.1 : Nat) : Int), (AV.p (.c (.v (.bool (decide ((x0.2.2.1.getD ((x1).toNat) 0) = x2))))) = AV.p (.c (.v (.bool false))))] gamOK hT h (by kernel_rfl) ⟨⟨by first | omega | (simp only [lsA]; omega) | (simp; done) | (simp; omega) | done, by first | omega | (simp only [lsA]; omega) | (simp; done) | (simp; omega) | done⟩, trivial, hint_bool (h1), (by refine ⟨?_, ?_⟩ <;> (first | omega | (simp only [lsA]; omega) | (simp; done) | (simp; omega) | done)), hint_bool (decide_eq_false h2), trivial⟩ ?_
      intro a w h
      refine then_normal ?_
      refine wp_ret ?_
      exact at_return (S := S_spec_l30Fits) (x := (x0, x1, x2, x3, ())) (false, ()) [] h (by kernel_rfl) trivial (congrArg (fun z => (z, ())) (show (false) = fitsS x0 x1 x2 x3 from by first | rfl | (unfold fitsS; rw [if_pos h1, if_neg h2]; done) | (unfold fitsS; (simp_all; try (intro e; exact absurd e.symm (by assumption))))))
  · skip
    have hvh1 := inR_f h1
    refine at_regq [{}, {}, {}, {}, { nw := true }, { hint := some (aB false) }] { ts := [8], os := [] } [I64 (((List.length x0.2.2.1 : Nat) : Int) - 1), True, (AV.p (.c (.v (.bool ((inR x1 0 (((List.length x0.2.2.1 : Nat) : Int) - 1)))))) = AV.p (.c (.v (.bool false))))] gamOK hT h (by kernel_rfl) ⟨⟨by first | omega | (simp only [lsA]; omega) | (simp; done) | (simp; omega) | done, by first | omega | (simp only [lsA]; omega) | (simp; done) | (simp; omega) | done⟩, trivial, hint_bool (h1), trivial⟩ ?_
    intro a w h
    refine then_normal ?_
    refine wp_ret ?_
    exact at_return (S := S_spec_l30Fits) (x := (x0, x1, x2, x3, ())) (false, ()) [] h (by kernel_rfl) trivial (congrArg (fun z => (z, ())) (show (false) = fitsS x0 x1 x2 x3 from by first | rfl | (unfold fitsS; rw [if_neg (neT h1)]; done) | (unfold fitsS; (simp_all; try (intro e; exact absurd e.symm (by assumption))))))

def D__impl_Sink_decoderAt_1 := (fun (x : T112) (g : Int) => cmpI x.1 g)
def S__impl_Sink_decoderAt_1 : Sum := { fid := 259, dom := [s112, (.int 3)], cod := [(.int 3)], dp := true, fz := false, pre := fun x => (fun (x0 : T112) (x1 : Int) => Sh.fit s112 x0) x.1 x.2.1, g := fun x => ((D__impl_Sink_decoderAt_1 x.1 x.2.1), ()) }
def S__impl_Sink_decoderAt_1_tab : List (Nat × Sum) := [(260, S_cmp_Compare_int_)]
theorem S__impl_Sink_decoderAt_1_ok : FnOK Try.prog 259 S__impl_Sink_decoderAt_1 := by
  refine at_enter 9 (fun x => ⟨[(0, aG [cI x.1.1, cI x.1.2.1, cI x.1.2.2.1, cI x.1.2.2.2.1, .ro s22 x.1.2.2.2.2]), (1, aI x.2.1)], []⟩) Try.func259 rfl (by kernel_rfl) (fun x => rfl) ?_
  rintro w0 Z0 ⟨x0, x1, u⟩ a w
  revert x0 x1
  intro (x0 : T112) (x1 : Int) hpre hlens h
  replace h : At w0 Z0 [] 9 ⟨[(0, aG [cI x0.1, cI x0.2.1, cI x0.2.2.1, cI x0.2.2.2.1, .ro s22 x0.2.2.2.2]), (1, aI x1)], []⟩ a w := h
  replace hpre : (fun (x0 : T112) (x1 : Int) => Sh.fit s112 x0) x0 x1 := hpre
  have hl1 : List.length x0.2.2.2.2 ≤ 9223372036854775807 := hlens.1.2.2.2.2.1
  have hT : TabOK Try.prog S__impl_Sink_decoderAt_1_tab := (.cons S_cmp_Compare_int__ok .nil)
  have hf0 : Sh.fit s112 x0 := hpre
  have hn0_1 : List.length x0.2.2.2.2 ≤ 1073741824 := hf0.2.2.2.2.1
  refine wp_seq ?_
  refine at_regq [{ ids := [1] }] { ts := [1, 2, 4], os := [1] } [] gamOK hT h (by kernel_rfl) trivial ?_
  intro a w h
  refine then_normal ?_
  refine wp_seq ?_
  refine at_regq [] { ts := [4], os := [] } [True] gamOK hT h (by kernel_rfl) ⟨trivial, trivial⟩ ?_
  intro a w h
  refine then_normal ?_
  refine wp_ret ?_
  exact at_return (S := S__impl_Sink_decoderAt_1) (x := (x0, x1, ())) ((cmpI x0.1 x1), ()) [] h (by kernel_rfl) trivial (congrArg (fun z => (z, ())) (show ((cmpI x0.1 x1)) = D__impl_Sink_decoderAt_1 x0 x1 from by unfold D__impl_Sink_decoderAt_1; rfl))

def D_slices_BinarySearchFunc_S_impl_Decoder_impl_Decoder_int__decoderAt_1 := (fun (xs : List T112) (v : Int) (_ : Unit) => (((bsK (fun x => x.1) (0, (0, (0, (0, [])))) xs v : Nat) : Int), fndK (fun x => x.1) (0, (0, (0, (0, [])))) xs v))
def S_slices_BinarySearchFunc_S_impl_Decoder_impl_Decoder_int__decoderAt_1 : Sum := { fid := 258, dom := [s29, (.int 3), (.fn0 259)], cod := [(.int 3), (.bool 4)], dp := true, fz := false, pre := fun x => (fun (x0 : (List T112)) (x1 : Int) (x2 : Unit) => Sh.fit s29 x0) x.1 x.2.1 x.2.2.1, g := fun x => ((D_slices_BinarySearchFunc_S_impl_Decoder_impl_Decoder_int__decoderAt_1 x.1 x.2.1 x.2.2.1).1, ((D_slices_BinarySearchFunc_S_impl_Decoder_impl_Decoder_int__decoderAt_1 x.1 x.2.1 x.2.2.1).2, ())) }
def S_slices_BinarySearchFunc_S_impl_Decoder_impl_Decoder_int__decoderAt_1_tab : List (Nat × Sum) := [(259, S__impl_Sink_decoderAt_1)]
theorem S_slices_BinarySearchFunc_S_impl_Decoder_impl_Decoder_int__decoderAt_1_ok : FnOK Try.prog 258 S_slices_BinarySearchFunc_S_impl_Decoder_impl_Decoder_int__decoderAt_1 := by
  refine at_enter 49 (fun x => ⟨[(0, aF s112 x.1), (1, aI x.2.1), (2, .p (.c (.cl 259 .cnil)))], []⟩) Try.func258 rfl (by kernel_rfl) (fun x => rfl) ?_
  rintro w0 Z0 ⟨x0, x1, x2, u⟩ a w
  revert x0 x1 x2
  intro (x0 : (List T112)) (x1 : Int) (x2 : Unit) hpre hlens h
  replace h : At w0 Z0 [] 49 ⟨[(0, aF s112 x0), (1, aI x1), (2, .p (.c (.cl 259 .cnil)))], []⟩ a w := h
  replace hpre : (fun (x0 : (List T112)) (x1 : Int) (x2 : Unit) => Sh.fit s29 x0) x0 x1 x2 := hpre
  have hl1 : List.length x0 ≤ 9223372036854775807 := hlens.1.1
  have hT : TabOK Try.prog S_slices_BinarySearchFunc_S_impl_Decoder_impl_Decoder_int__decoderAt_1_tab := (.cons S__impl_Sink_decoderAt_1_ok .nil)
  have hf0 : Sh.fit s29 x0 := hpre
  have hn0_1 : List.length x0 ≤ 1073741824 := hf0.1
  refine wp_seq ?_
  refine at_regq [] { ts := [0, 1, 2, 6, 7], os := [] } [] gamOK hT h (by kernel_rfl) trivial ?_
  intro a w h
  refine then_normal ?_
  refine wp_seq ?_
  refine at_regq [] { ts := [0, 1, 2, 6, 7, 8], os := [] } [] gamOK hT h (by kernel_rfl) trivial ?_
  intro a w h
  refine then_normal ?_
  refine wp_seq ?_
  refine at_regq [] { ts := [0, 1, 2, 6, 7, 8, 9, 10], os := [] } [] gamOK hT h (by kernel_rfl) trivial ?_
  intro a w h
  refine then_normal ?_
  refine wp_seq ?_
  refine wp_block ?_
  replace h := at_out (σ' := ⟨[(0, aF s112 x0), (1, aI x1), (2, .p (.c (.cl 259 .cnil))), (6, aI 0), (7, aB false), (8, aI ((List.length x0 : Nat) : Int)), (9, aI 0), (10, aI ((List.length x0 : Nat) : Int))], []⟩) { ts := [0, 1, 2, 6, 7, 8, 9, 10], os := [] } h (by kernel_rfl)
  refine at_loop (fun q : (Nat × Nat) => (⟨[(0, aF s112 x0), (1, aI x1), (2, .p (.c (.cl 259 .cnil))), (6, aI 0), (7, aB false), (8, aI ((List.length x0 : Nat) : Int)), (9, aI ((q.1 : Nat) : Int)), (10, aI ((q.2 : Nat) : Int))], []⟩ : St)) (fun q => (q.1 ≤ q.2 ∧ q.2 ≤ List.length x0 ∧ bsF (ltK (fun x => x.1) (0, (0, (0, (0, [])))) x0 x1) q.1 q.2 = bsF (ltK (fun x => x.1) (0, (0, (0, (0, [])))) x0 x1) 0 (List.length x0))) (fun q => q.2 - q.1) ((0, List.length x0)) h (st_congr2 (fun (d0 : Int) (d1 : Int) => (⟨[(0, aF s112 x0), (1, aI x1), (2, .p (.c (.cl 259 .cnil))), (6, aI 0), (7, aB false), (8, aI ((List.length x0 : Nat) : Int)), (9, aI d0), (10, aI d1)], []⟩ : St)) (show (0 : Int) = ((((0, List.length x0)).1 : Nat) : Int) from by first | with_reducible rfl | (rfl) | rfl) (show (((List.length x0 : Nat) : Int) : Int) = ((((0, List.length x0)).2 : Nat) : Int) from by first | with_reducible rfl | (rfl) | rfl)) (by exact ⟨Nat.zero_le _, Nat.le_refl _, rfl⟩) ?_
  intro q a w hok0 h
  refine wp_seq ?_
  refine wp_seq ?_
  refine at_regq [] { ts := [0, 1, 2, 6, 7, 8, 9, 10, 17], os := [] } [] gamOK hT h (by kernel_rfl) trivial ?_
  intro a w h
  refine then_normal ?_
  refine at_test (decide (((q.1 : Nat) : Int) < ((q.2 : Nat) : Int))) h (by kernel_rfl) (fun h1 => ?_) (fun h1 => ?_)
  · replace h1 : ((q.1 : Nat) : Int) < ((q.2 : Nat) : Int) := of_decide_eq_true h1
    refine wp_skip ?_
    refine then_normal ?_
    refine wp_block ?_
    refine wp_seq ?_
    refine at_regq [{}, {}, { nw := true }, {}, {}, { hint := some (aI (((q.1 + q.2) / 2 : Nat) : Int)) }] { ts := [0, 1, 2, 6, 7, 8, 9, 10, 11], os := [] } [I64 (((q.1 : Nat) : Int) + ((q.2 : Nat) : Int)), (0 : Int) ≤ 1, (AV.p (.c (.v (.int .i64 (IntKind.i64.wrap ((Int.fdiv (IntKind.u64.wrap (((q.1 : Nat) : Int) + ((q.2 : Nat) : Int))) (2 ^ (min (1 : Int).toNat (IntKind.u64).bits)))))))) = AV.p (.c (.v (.int .i64 ((((q.1 + q.2) / 2 : Nat) : Int))))))] gamOK hT h (by kernel_rfl) ⟨⟨by first | omega | (simp only [lsA]; omega) | (simp; done) | (simp; omega) | done, by first | omega | (simp only [lsA]; omega) | (simp; done) | (simp; omega) | done⟩, (by first | omega | (simp only [lsA]; omega) | (simp; done) | (simp; omega) | done), hint_int (by exact half_eq (by omega)), trivial⟩ ?_
    intro a w h
    refine then_normal ?_
    refine wp_seq ?_
    refine at_regq [] { ts := [0, 1, 2, 6, 7, 8, 9, 10, 11, 31], os := [] } [(0 : Int) ≤ (((q.1 + q.2) / 2 : Nat) : Int) ∧ (((q.1 + q.2) / 2 : Nat) : Int) < ((List.length x0 : Nat) : Int), (fun (x0 : T112) (x1 : Int) => Sh.fit s112 x0) (x0.getD ((q.1 + q.2) / 2) (0, (0, (0, (0, []))))) x1] gamOK hT h (by kernel_rfl) ⟨(by refine ⟨?_, ?_⟩ <;> (first | omega | (simp only [lsA]; omega) | (simp; done) | (simp; omega) | done)), (by exact (Sh.fit_getD hf0 ((q.1 + q.2) / 2))), trivial⟩ ?_
    intro a w h
    refine then_normal ?_
    refine at_test (decide ((D__impl_Sink_decoderAt_1 (x0.getD ((q.1 + q.2) / 2) (0, (0, (0, (0, []))))) x1) < 0)) h (by kernel_rfl) (fun h2 => ?_) (fun h2 => ?_)
    · replace h2 : (D__impl_Sink_decoderAt_1 (x0.getD ((q.1 + q.2) / 2) (0, (0, (0, (0, []))))) x1) < 0 := of_decide_eq_true h2
      refine at_regq [{}, { nw := true }] { ts := [0, 1, 2, 6, 7, 8, 9, 10], os := [] } [I64 ((((q.1 + q.2) / 2 : Nat) : Int) + 1)] gamOK hT h (by kernel_rfl) ⟨⟨by first | omega | (simp only [lsA]; omega) | (simp; done) | (simp; omega) | done, by first | omega | (simp only [lsA]; omega) | (simp; done) | (simp; omega) | done⟩, trivial⟩ ?_
      intro a w h
      refine in_normal ?_
      replace h := at_out (σ' := ⟨[(0, aF s112 x0), (1, aI x1), (2, .p (.c (.cl 259 .cnil))), (6, aI 0), (7, aB false), (8, aI ((List.length x0 : Nat) : Int)), (9, aI ((((q.1 + q.2) / 2 : Nat) : Int) + 1)), (10, aI ((q.2 : Nat) : Int))], []⟩) { ts := [0, 1, 2, 6, 7, 8, 9, 10], os := [] } h (by kernel_rfl)
      exact ⟨((q.1 + q.2) / 2 + 1, q.2), at_eq h (st_congr2 (fun (d0 : Int) (d1 : Int) => (⟨[(0, aF s112 x0), (1, aI x1), (2, .p (.c (.cl 259 .cnil))), (6, aI 0), (7, aB false), (8, aI ((List.length x0 : Nat) : Int)), (9, aI d0), (10, aI d1)], []⟩ : St)) (show ((((q.1 + q.2) / 2 : Nat) : Int) + 1 : Int) = (((((q.1 + q.2) / 2 + 1, q.2)).1 : Nat) : Int) from by first | with_reducible rfl | (dsimp only; omega) | rfl) (show (((q.2 : Nat) : Int) : Int) = (((((q.1 + q.2) / 2 + 1, q.2)).2 : Nat) : Int) from by first | with_reducible rfl | (dsimp only; omega) | rfl)), (by dsimp only; first | (refine ⟨by omega, by omega, ?_⟩; exact (bsF_up (by omega) (show ltK (fun x => x.1) (0, (0, (0, (0, [])))) x0 x1 _ = true from decide_eq_true (cmpI_lt.1 (by assumption)))).symm.trans hok0.2.2) | (refine ⟨by omega, by omega, ?_⟩; exact (bsF_down (by omega) (show ltK (fun x => x.1) (0, (0, (0, (0, [])))) x0 x1 _ = false from decide_eq_false (fun e => absurd (cmpI_lt.2 e) (by assumption)))).symm.trans hok0.2.2)), (by dsimp only; omega)⟩
    · replace h2 : ¬ ((D__impl_Sink_decoderAt_1 (x0.getD ((q.1 + q.2) / 2) (0, (0, (0, (0, []))))) x1) < 0) := of_decide_eq_false h2
      refine at_regq [] { ts := [0, 1, 2, 6, 7, 8, 9, 10], os := [] } [] gamOK hT h (by kernel_rfl) trivial ?_
      intro a w h
      refine in_normal ?_
      replace h := at_out (σ' := ⟨[(0, aF s112 x0), (1, aI x1), (2, .p (.c (.cl 259 .cnil))), (6, aI 0), (7, aB false), (8, aI ((List.length x0 : Nat) : Int)), (9, aI ((q.1 : Nat) : Int)), (10, aI (((q.1 + q.2) / 2 : Nat) : Int))], []⟩) { ts := [0, 1, 2, 6, 7, 8, 9, 10], os := [] } h (by kernel_rfl)
      exact ⟨(q.1, (q.1 + q.2) / 2), at_eq h (st_congr2 (fun (d0 : Int) (d1 : Int) => (⟨[(0, aF s112 x0), (1, aI x1), (2, .p (.c (.cl 259 .cnil))), (6, aI 0), (7, aB false), (8, aI ((List.length x0 : Nat) : Int)), (9, aI d0), (10, aI d1)], []⟩ : St)) (show (((q.1 : Nat) : Int) : Int) = ((((q.1, (q.1 + q.2) / 2)).1 : Nat) : Int) from by first | with_reducible rfl | (dsimp only; omega) | rfl) (show ((((q.1 + q.2) / 2 : Nat) : Int) : Int) = ((((q.1, (q.1 + q.2) / 2)).2 : Nat) : Int) from by first | with_reducible rfl | (dsimp only; omega) | rfl)), (by dsimp only; first | (refine ⟨by omega, by omega, ?_⟩; exact (bsF_up (by omega) (show ltK (fun x => x.1) (0, (0, (0, (0, [])))) x0 x1 _ = true from decide_eq_true (cmpI_lt.1 (by assumption)))).symm.trans hok0.2.2) | (refine ⟨by omega, by omega, ?_⟩; exact (bsF_down (by omega) (show ltK (fun x => x.1) (0, (0, (0, (0, [])))) x0 x1 _ = false from decide_eq_false (fun e => absurd (cmpI_lt.2 e) (by assumption)))).symm.trans hok0.2.2)), (by dsimp only; omega)⟩
  · replace h1 : ¬ (((q.1 : Nat) : Int) < ((q.2 : Nat) : Int)) := of_decide_eq_false h1
    refine wp_exit ?_
    refine then_exit ?_
    refine then_exit ?_
    refine in_hit ?_
    refine then_normal ?_
    refine wp_seq ?_
    by_cases h3 : ((q.1 : Nat) : Int) < ((List.length x0 : Nat) : Int)
    · skip
      refine at_regq [{}, {}, {}, { hint := some (aB true) }] { ts := [6, 7], os := [] } [(AV.p (.c (.v (.bool (decide (((q.1 : Nat) : Int) < ((List.length x0 : Nat) : Int)))))) = AV.p (.c (.v (.bool true)))), (0 : Int) ≤ ((q.1 : Nat) : Int) ∧ ((q.1 : Nat) : Int) < ((List.length x0 : Nat) : Int), (fun (x0 : T112) (x1 : Int) => Sh.fit s112 x0) (x0.getD q.1 (0, (0, (0, (0, []))))) x1] gamOK hT h (by kernel_rfl) ⟨hint_bool (decide_eq_true h3), (by refine ⟨?_, ?_⟩ <;> (first | omega | (simp only [lsA]; omega) | (simp; done) | (simp; omega) | done)), (by exact (Sh.fit_getD hf0 q.1)), trivial⟩ ?_
      intro a w h
      refine then_normal ?_
      refine wp_ret ?_
      exact at_return (S := S_slices_BinarySearchFunc_S_impl_Decoder_impl_Decoder_int__decoderAt_1) (x := (x0, x1, x2, ())) (((q.1 : Nat) : Int), (decide ((D__impl_Sink_decoderAt_1 (x0.getD q.1 (0, (0, (0, (0, []))))) x1) = 0), ())) [] h (by kernel_rfl) trivial (congrArg (fun z => (z.1, z.2, ())) (show ((((q.1 : Nat) : Int), decide ((D__impl_Sink_decoderAt_1 (x0.getD q.1 (0, (0, (0, (0, []))))) x1) = 0))) = D_slices_BinarySearchFunc_S_impl_Decoder_impl_Decoder_int__decoderAt_1 x0 x1 x2 from by unfold D_slices_BinarySearchFunc_S_impl_Decoder_impl_Decoder_int__decoderAt_1; (have e := hok0.2.2; rw [bsF_end (by omega)] at e; have e1 : bsK (fun x => x.1) (0, (0, (0, (0, [])))) x0 x1 = q.1 := e.symm; unfold fndK; rw [e1]; exact Prod.ext rfl (by first | exact fnd_no (f := (fun x => x.1)) (z := (0, (0, (0, (0, []))))) (xs := x0) (v := x1) (q := q.1) (by omega) | exact fnd_eq (f := (fun x => x.1)) (z := (0, (0, (0, (0, []))))) (xs := x0) (v := x1) (q := q.1) (by omega)))))
    · skip
      refine at_regq [{}, {}, {}, { hint := some (aB false) }] { ts := [6, 7], os := [] } [(AV.p (.c (.v (.bool (decide (((q.1 : Nat) : Int) < ((List.length x0 : Nat) : Int)))))) = AV.p (.c (.v (.bool false))))] gamOK hT h (by kernel_rfl) ⟨hint_bool (decide_eq_false h3), trivial⟩ ?_
      intro a w h
      refine then_normal ?_
      refine wp_ret ?_
      exact at_return (S := S_slices_BinarySearchFunc_S_impl_Decoder_impl_Decoder_int__decoderAt_1) (x := (x0, x1, x2, ())) (((q.1 : Nat) : Int), (false, ())) [] h (by kernel_rfl) trivial (congrArg (fun z => (z.1, z.2, ())) (show ((((q.1 : Nat) : Int), false)) = D_slices_BinarySearchFunc_S_impl_Decoder_impl_Decoder_int__decoderAt_1 x0 x1 x2 from by unfold D_slices_BinarySearchFunc_S_impl_Decoder_impl_Decoder_int__decoderAt_1; (have e := hok0.2.2; rw [bsF_end (by omega)] at e; have e1 : bsK (fun x => x.1) (0, (0, (0, (0, [])))) x0 x1 = q.1 := e.symm; unfold fndK; rw [e1]; exact Prod.ext rfl (by first | exact fnd_no (f := (fun x => x.1)) (z := (0, (0, (0, (0, []))))) (xs := x0) (v := x1) (q := q.1) (by omega) | exact fnd_eq (f := (fun x => x.1)) (z := (0, (0, (0, (0, []))))) (xs := x0) (v := x1) (q := q.1) (by omega)))))

def D__impl_Sink_decoderAt (x0 : T32) (x1 : Int) : Int × Bool := ((D_slices_BinarySearchFunc_S_impl_Decoder_impl_Decoder_int__decoderAt_1 x0.2.2.2.1 x1 ()).1, (D_slices_BinarySearchFunc_S_impl_Decoder_impl_Decoder_int__decoderAt_1 x0.2.2.2.1 x1 ()).2)
def S__impl_Sink_decoderAt : Sum := { fid := 186, dom := [s32, (.int 3)], cod := [(.int 3), (.bool 4)], dp := true, fz := false, pre := fun x => (fun (x0 : T32) (x1 : Int) => Sh.fit s32 x0) x.1 x.2.1, g := fun x => ((D__impl_Sink_decoderAt x.1 x.2.1).1, ((D__impl_Sink_decoderAt x.1 x.2.1).2, ())) }
def S__impl_Sink_decoderAt_tab : List (Nat × Sum) := [(100008, S_slices_BinarySearchFunc_S_impl_Decoder_impl_Decoder_int__decoderAt_1)]
theorem S__impl_Sink_decoderAt_ok : FnOK Try.prog 186 S__impl_Sink_decoderAt := by
  refine at_enter 12 (fun x => ⟨[(0, aG [cI x.1.1, cI x.1.2.1, .ro (.int 3) x.1.2.2.1, .ro s112 x.1.2.2.2.1, .ro s218 x.1.2.2.2.2.1, cI x.1.2.2.2.2.2]), (1, aI x.2.1)], []⟩) Try.func186 rfl (by kernel_rfl) (fun x => rfl) ?_
  rintro w0 Z0 ⟨x0, x1, u⟩ a w
  revert x0 x1
  intro (x0 : T32) (x1 : Int) hpre hlens h
  replace h : At w0 Z0 [] 12 ⟨[(0, aG [cI x0.1, cI x0.2.1, .ro (.int 3) x0.2.2.1, .ro s112 x0.2.2.2.1, .ro s218 x0.2.2.2.2.1, cI x0.2.2.2.2.2]), (1, aI x1)], []⟩ a w := h
  replace hpre : (fun (x0 : T32) (x1 : Int) => Sh.fit s32 x0) x0 x1 := hpre
  have hl1 : List.length x0.2.2.1 ≤ 9223372036854775807 := hlens.1.2.2.1.1
  have hl2 : List.length x0.2.2.2.1 ≤ 9223372036854775807 := hlens.1.2.2.2.1.1
  have hl3 : List.length x0.2.2.2.2.1 ≤ 9223372036854775807 := hlens.1.2.2.2.2.1.1
  have hT : TabOK Try.prog S__impl_Sink_decoderAt_tab := (.cons S_slices_BinarySearchFunc_S_impl_Decoder_impl_Decoder_int__decoderAt_1_ok .nil)
  have hf0 : Sh.fit s32 x0 := hpre
  have hn0_1 : List.length x0.2.2.1 ≤ 1073741824 := hf0.2.2.1.1
  have hn0_2 : List.length x0.2.2.2.1 ≤ 1073741824 := hf0.2.2.2.1.1
  have hn0_3 : List.length x0.2.2.2.2.1 ≤ 1073741824 := hf0.2.2.2.2.1.1
  refine wp_seq ?_
  refine at_regq [{ ids := [1] }] { ts := [1, 2, 4, 5], os := [1] } [] gamOK hT h (by kernel_rfl) trivial ?_
  intro a w h
  refine then_normal ?_
  refine wp_seq ?_
  refine at_regq [{}, {}, {}, { key := some 100008 }] { ts := [4, 5], os := [] } [(fun (x0 : (List T112)) (x1 : Int) (x2 : Unit) => Sh.fit s29 x0) x0.2.2.2.1 x1 ()] gamOK hT h (by kernel_rfl) ⟨(by exact hf0.2.2.2.1), trivial⟩ ?_
  intro a w h
  refine then_normal ?_
  refine wp_ret ?_
  exact at_return (S := S__impl_Sink_decoderAt) (x := (x0, x1, ())) ((D_slices_BinarySearchFunc_S_impl_Decoder_impl_Decoder_int__decoderAt_1 x0.2.2.2.1 x1 ()).1, ((D_slices_BinarySearchFunc_S_impl_Decoder_impl_Decoder_int__decoderAt_1 x0.2.2.2.1 x1 ()).2, ())) [] h (by kernel_rfl) trivial (congrArg (fun z => (z.1, z.2, ())) (show (((D_slices_BinarySearchFunc_S_impl_Decoder_impl_Decoder_int__decoderAt_1 x0.2.2.2.1 x1 ()).1, (D_slices_BinarySearchFunc_S_impl_Decoder_impl_Decoder_int__decoderAt_1 x0.2.2.2.1 x1 ()).2)) = D__impl_Sink_decoderAt x0 x1 from by rfl))

def D_spec_l30Done := (fun (s : T32) (v : Int) => s.2.2.2.2.1.any fun g => decide (g.1 = v))
def S_spec_l30Done : Sum := { fid := 104, dom := [s32, (.int 3)], cod := [(.bool 4)], dp := true, fz := false, pre := fun x => (fun (x0 : T32) (x1 : Int) => Sh.fit s32 x0) x.1 x.2.1, g := fun x => ((D_spec_l30Done x.1 x.2.1), ()) }
def S_spec_l30Done_tab : List (Nat × Sum) := []
theorem S_spec_l30Done_ok : FnOK Try.prog 104 S_spec_l30Done := by
  refine at_enter 21 (fun x => ⟨[(0, aG [cI x.1.1, cI x.1.2.1, .ro (.int 3) x.1.2.2.1, .ro s112 x.1.2.2.2.1, .ro s218 x.1.2.2.2.2.1, cI x.1.2.2.2.2.2]), (1, aI x.2.1)], []⟩) Try.func104 rfl (by kernel_rfl) (fun x => rfl) ?_
  rintro w0 Z0 ⟨x0, x1, u⟩ a w
  revert x0 x1
  intro (x0 : T32) (x1 : Int) hpre hlens h
  replace h : At w0 Z0 [] 21 ⟨[(0, aG [cI x0.1, cI x0.2.1, .ro (.int 3) x0.2.2.1, .ro s112 x0.2.2.2.1, .ro s218 x0.2.2.2.2.1, cI x0.2.2.2.2.2]), (1, aI x1)], []⟩ a w := h
  replace hpre : (fun (x0 : T32) (x1 : Int) => Sh.fit s32 x0) x0 x1 := hpre
  have hl1 : List.length x0.2.2.1 ≤ 9223372036854775807 := hlens.1.2.2.1.1
  have hl2 : List.length x0.2.2.2.1 ≤ 9223372036854775807 := hlens.1.2.2.2.1.1
  have hl3 : List.length x0.2.2.2.2.1 ≤ 9223372036854775807 := hlens.1.2.2.2.2.1.1
  have hT : TabOK Try.prog S_spec_l30Done_tab := .nil
  have hf0 : Sh.fit s32 x0 := hpre
  have hn0_1 : List.length x0.2.2.1 ≤ 1073741824 := hf0.2.2.1.1
  have hn0_2 : List.length x0.2.2.2.1 ≤ 1073741824 := hf0.2.2.2.1.1
  have hn0_3 : List.length x0.2.2.2.2.1 ≤ 1073741824 := hf0.2.2.2.2.1.1
  refine wp_seq ?_
  refine at_regq [{ ids := [1] }] { ts := [1, 2, 4], os := [1] } [] gamOK hT h (by kernel_rfl) trivial ?_
  intro a w h
  refine then_normal ?_
  refine wp_seq ?_
  refine wp_seq ?_
  refine at_regq [] { ts := [1, 2, 4, 5], os := [1] } [] gamOK hT h (by kernel_rfl) trivial ?_
  intro a w h
  refine then_normal ?_
  refine wp_block ?_
  replace h := at_out (σ' := ⟨[(1, aI x1), (2, aP 1 0), (4, aB false), (5, aI 0)], [(1, oX 32 [cI x0.1, cI x0.2.1, .ro (.int 3) x0.2.2.1, .ro s112 x0.2.2.2.1, .ro s218 x0.2.2.2.2.1, cI x0.2.2.2.2.2])]⟩) { ts := [1, 2, 4, 5], os := [1] } h (by kernel_rfl)
  refine at_loop (fun i : Nat => (⟨[(1, aI x1), (2, aP 1 0), (4, aB false), (5, aI ((i : Nat) : Int))], [(1, oX 32 [cI x0.1, cI x0.2.1, .ro (.int 3) x0.2.2.1, .ro s112 x0.2.2.2.1, .ro s218 x0.2.2.2.2.1, cI x0.2.2.2.2.2])]⟩ : St)) (fun i => (i ≤ List.length x0.2.2.2.2.1 ∧ noneTo (fun g => decide (g.1 = x1)) x0.2.2.2.2.1 (0, []) i)) (fun i => List.length x0.2.2.2.2.1 - i) (0) h (st_congr1 (fun (d0 : Int) => (⟨[(1, aI x1), (2, aP 1 0), (4, aB false), (5, aI d0)], [(1, oX 32 [cI x0.1, cI x0.2.1, .ro (.int 3) x0.2.2.1, .ro s112 x0.2.2.2.1, .ro s218 x0.2.2.2.2.1, cI x0.2.2.2.2.2])]⟩ : St)) (show (0 : Int) = (((0) : Nat) : Int) from by first | with_reducible rfl | (rfl) | rfl)) (by exact ⟨Nat.zero_le _, noneTo_zero⟩) ?_
  intro i a w hok0 h
  refine wp_seq ?_
  refine wp_seq ?_
  refine at_regq [] { ts := [1, 2, 4, 5, 10], os := [1] } [] gamOK hT h (by kernel_rfl) trivial ?_
  intro a w h
  refine then_normal ?_
  refine at_test (decide (((i : Nat) : Int) < ((List.length x0.2.2.2.2.1 : Nat) : Int))) h (by kernel_rfl) (fun h1 => ?_) (fun h1 => ?_)
  · replace h1 : ((i : Nat) : Int) < ((List.length x0.2.2.2.2.1 : Nat) : Int) := of_decide_eq_true h1
    refine wp_skip ?_
    refine then_normal ?_
    refine wp_seq ?_
    refine wp_block ?_
    refine wp_seq ?_
    refine at_regq [] { ts := [1, 2, 4, 5, 20], os := [1] } [(0 : Int) ≤ ((i : Nat) : Int) ∧ ((i : Nat) : Int) < ((List.length x0.2.2.2.2.1 : Nat) : Int)] gamOK hT h (by kernel_rfl) ⟨(by refine ⟨?_, ?_⟩ <;> (first | omega | (simp only [lsA]; omega) | (simp; done) | (simp; omega) | done)), trivial⟩ ?_
    intro a w h
    refine then_normal ?_
    refine at_test (decide ((x0.2.2.2.2.1.getD i (0, [])).1 = x1)) h (by kernel_rfl) (fun h2 => ?_) (fun h2 => ?_)
    · replace h2 : (x0.2.2.2.2.1.getD i (0, [])).1 = x1 := of_decide_eq_true h2
      refine wp_seq ?_
      refine at_regq [] { ts := [1, 2, 4, 5], os := [1] } [] gamOK hT h (by kernel_rfl) trivial ?_
      intro a w h
      refine then_normal ?_
      refine wp_ret ?_
      refine in_ret ?_
      refine then_ret ?_
      have hs3 : (!(List.any x0.2.2.2.2.1 (fun g => decide (g.1 = x1)))) = false := by exact notT' (any_at (z := (0, [])) (i := i) (by omega) (by exact decide_eq_true (by assumption)))
      refine then_ret ?_
      refine in_ret ?_
      refine then_ret ?_
      exact at_return (S := S_spec_l30Done) (x := (x0, x1, ())) (true, ()) [] h (by kernel_rfl) trivial (congrArg (fun z => (z, ())) (show (true) = D_spec_l30Done x0 x1 from by unfold D_spec_l30Done; first | exact (notT (by assumption)).symm | exact (notF (by assumption)).symm))
    · replace h2 : ¬ ((x0.2.2.2.2.1.getD i (0, [])).1 = x1) := of_decide_eq_false h2
      refine wp_skip ?_
      refine in_normal ?_
      refine then_normal ?_
      refine at_regq [{}, { nw := true }] { ts := [1, 2, 4, 5], os := [1] } [I64 (((i : Nat) : Int) + 1)] gamOK hT h (by kernel_rfl) ⟨⟨by first | omega | (simp only [lsA]; omega) | (simp; done) | (simp; omega) | done, by first | omega | (simp only [lsA]; omega) | (simp; done) | (simp; omega) | done⟩, trivial⟩ ?_
      intro a w h
      replace h := at_out (σ' := ⟨[(1, aI x1), (2, aP 1 0), (4, aB false), (5, aI (((i : Nat) : Int) + 1))], [(1, oX 32 [cI x0.1, cI x0.2.1, .ro (.int 3) x0.2.2.1, .ro s112 x0.2.2.2.1, .ro s218 x0.2.2.2.2.1, cI x0.2.2.2.2.2])]⟩) { ts := [1, 2, 4, 5], os := [1] } h (by kernel_rfl)
      exact ⟨i + 1, at_eq h (st_congr1 (fun (d0 : Int) => (⟨[(1, aI x1), (2, aP 1 0), (4, aB false), (5, aI d0)], [(1, oX 32 [cI x0.1, cI x0.2.1, .ro (.int 3) x0.2.2.1, .ro s112 x0.2.2.2.1, .ro s218 x0.2.2.2.2.1, cI x0.2.2.2.2.2])]⟩ : St)) (show (((i : Nat) : Int) + 1 : Int) = (((i + 1) : Nat) : Int) from by first | with_reducible rfl | (omega) | rfl)), (by exact ⟨by omega, noneTo_succ hok0.2 (by exact decide_eq_false (by assumption))⟩), (by omega)⟩
  · replace h1 : ¬ (((i : Nat) : Int) < ((List.length x0.2.2.2.2.1 : Nat) : Int)) := of_decide_eq_false h1
    refine wp_exit ?_
    refine then_exit ?_
    have hs4 : (!(List.any x0.2.2.2.2.1 (fun g => decide (g.1 = x1)))) = true := by exact notF' (any_of (z := (0, [])) (i := i) (by omega) hok0.2)
    refine then_exit ?_
    refine in_hit ?_
    refine then_normal ?_
    refine wp_seq ?_
    refine at_regq [] { ts := [4], os := [] } [] gamOK hT h (by kernel_rfl) trivial ?_
    intro a w h
    refine then_normal ?_
    refine wp_ret ?_
    exact at_return (S := S_spec_l30Done) (x := (x0, x1, ())) (false, ()) [] h (by kernel_rfl) trivial (congrArg (fun z => (z, ())) (show (false) = D_spec_l30Done x0 x1 from by unfold D_spec_l30Done; first | exact (notT (by assumption)).symm | exact (notF (by assumption)).symm))

def S_impl_IsValidSink : Sum := { fid := 87, dom := [s32], cod := [(.bool 4)], dp := true, fz := false, pre := fun x => (fun (x0 : T32) => Sh.fit s32 x0) x.1, g := fun x => ((validS x.1), ()) }
def S_impl_IsValidSink_tab : List (Nat × Sum) := [(183, S_impl_NewSink), (107, S_impl_InRange), (147, S_impl_IsValidDecoder), (184, S__impl_Decoder_complete), (185, S__impl_Sink_fits), (176, S_impl_IsValidGeneration), (177, S_impl_SymbolWidth), (186, S__impl_Sink_decoderAt)]
theorem S_impl_IsValidSink_ok : FnOK Try.prog 87 S_impl_IsValidSink := by
  refine at_enter 124 (fun x => ⟨[(0, aG [cI x.1.1, cI x.1.2.1, .ro (.int 3) x.1.2.2.1, .ro s112 x.1.2.2.2.1, .ro s218 x.1.2.2.2.2.1, cI x.1.2.2.2.2.2])], []⟩) Try.func87 rfl (by kernel_rfl) (fun x => rfl) ?_
  rintro w0 Z0 ⟨x0, u⟩ a w
  revert x0
  intro (x0 : T32) hpre hlens h
  replace h : At w0 Z0 [] 124 ⟨[(0, aG [cI x0.1, cI x0.2.1, .ro (.int 3) x0.2.2.1, .ro s112 x0.2.2.2.1, .ro s218 x0.2.2.2.2.1, cI x0.2.2.2.2.2])], []⟩ a w := h
  replace hpre : (fun (x0 : T32) => Sh.fit s32 x0) x0 := hpre
  have hl1 : List.length x0.2.2.1 ≤ 9223372036854775807 := hlens.1.2.2.1.1
  have hl2 : List.length x0.2.2.2.1 ≤ 9223372036854775807 := hlens.1.2.2.2.1.1
  have hl3 : List.length x0.2.2.2.2.1 ≤ 9223372036854775807 := hlens.1.2.2.2.2.1.1
  have hT : TabOK Try.prog S_impl_IsValidSink_tab := (.cons S_impl_NewSink_ok (.cons S_impl_InRange_ok (.cons S_impl_IsValidDecoder_ok (.cons S__impl_Decoder_complete_ok (.cons S__impl_Sink_fits_ok (.cons S_impl_IsValidGeneration_ok (.cons S_impl_SymbolWidth_ok (.cons S__impl_Sink_decoderAt_ok .nil))))))))
  have hf0 : Sh.fit s32 x0 := hpre
  have hn0_1 : List.length x0.2.2.1 ≤ 1073741824 := hf0.2.2.1.1
  have hn0_2 : List.length x0.2.2.2.1 ≤ 1073741824 := hf0.2.2.2.1.1
  have hn0_3 : List.length x0.2.2.2.2.1 ≤ 1073741824 := hf0.2.2.2.2.1.1
  refine wp_seq ?_
  refine at_regq [{ ids := [1] }] { ts := [1, 2], os := [1] } [] gamOK hT h (by kernel_rfl) trivial ?_
  intro a w h
  refine then_normal ?_
  refine wp_seq ?_
  refine wp_seq ?_
  by_cases h1 : (newSink x0.1 x0.2.1 x0.2.2.1).2.1 = 0
  · skip
    refine at_regq [{}, {}, {}, {}, {}, {}, { ids := [2, 3, 4] }, {}, { hint := some (aB true) }] { ts := [1, 2, 32], os := [1] } [(fun (x0 : Int) (x1 : Int) (x2 : (List Int)) => Sh.fit s22 x2) x0.1 x0.2.1 x0.2.2.1, (AV.p (.c (.v (.bool (decide ((newSink x0.1 x0.2.1 x0.2.2.1).2.1 = 0))))) = AV.p (.c (.v (.bool true))))] gamOK hT h (by kernel_rfl) ⟨(by exact hf0.2.2.1), hint_bool (decide_eq_true h1), trivial⟩ ?_
    intro a w h
    refine then_normal ?_
    refine at_test true h (by kernel_rfl) (fun hh => ?_) (fun hh => nomatch hh)
    refine wp_seq ?_
    refine at_regq [] { ts := [1, 2], os := [1] } [] gamOK hT h (by kernel_rfl) trivial ?_
    intro a w h
    refine then_normal ?_
    refine wp_ret ?_
    refine then_ret ?_
    exact at_return (S := S_impl_IsValidSink) (x := (x0, ())) (false, ()) [] h (by kernel_rfl) trivial (congrArg (fun z => (z, ())) (show (false) = validS x0 from by (first | (rw [← validS_impl (by assumption) (headS_y (by assumption) (by omega) (by assumption))]; symm; assumption) | exact validS_no (by first | (right; left; assumption) | (left; exact headS_n (by first | (left; assumption) | (right; left; omega) | (right; right; assumption)))))))
  · skip
    by_cases h2 : ((List.length x0.2.2.2.1 : Nat) : Int) > 4
    · skip
      refine at_regq [{}, {}, {}, {}, {}, {}, { ids := [2, 3, 4] }, {}, { hint := some (aB false) }, {}, {}, {}, {}, { hint := some (aB true) }] { ts := [1, 2, 32], os := [1] } [(fun (x0 : Int) (x1 : Int) (x2 : (List Int)) => Sh.fit s22 x2) x0.1 x0.2.1 x0.2.2.1, (AV.p (.c (.v (.bool (decide ((newSink x0.1 x0.2.1 x0.2.2.1).2.1 = 0))))) = AV.p (.c (.v (.bool false)))), (AV.p (.c (.v (.bool (decide (((List.length x0.2.2.2.1 : Nat) : Int) > 4))))) = AV.p (.c (.v (.bool true))))] gamOK hT h (by kernel_rfl) ⟨(by exact hf0.2.2.1), hint_bool (decide_eq_false h1), hint_bool (decide_eq_true h2), trivial⟩ ?_
      intro a w h
      refine then_normal ?_
      refine at_test true h (by kernel_rfl) (fun hh => ?_) (fun hh => nomatch hh)
      refine wp_seq ?_
      refine at_regq [] { ts := [1, 2], os := [1] } [] gamOK hT h (by kernel_rfl) trivial ?_
      intro a w h
      refine then_normal ?_
      refine wp_ret ?_
      refine then_ret ?_
      exact at_return (S := S_impl_IsValidSink) (x := (x0, ())) (false, ()) [] h (by kernel_rfl) trivial (congrArg (fun z => (z, ())) (show (false) = validS x0 from by (first | (rw [← validS_impl (by assumption) (headS_y (by assumption) (by omega) (by assumption))]; symm; assumption) | exact validS_no (by first | (right; left; assumption) | (left; exact headS_n (by first | (left; assumption) | (right; left; omega) | (right; right; assumption)))))))
    · skip
      refine at_regq [{}, {}, {}, {}, {}, {}, { ids := [2, 3, 4] }, {}, { hint := some (aB false) }, {}, {}, {}, {}, { hint := some (aB false) }] { ts := [1, 2, 32], os := [1] } [(fun (x0 : Int) (x1 : Int) (x2 : (List Int)) => Sh.fit s22 x2) x0.1 x0.2.1 x0.2.2.1, (AV.p (.c (.v (.bool (decide ((newSink x0.1 x0.2.1 x0.2.2.1).2.1 = 0))))) = AV.p (.c (.v (.bool false)))), (AV.p (.c (.v (.bool (decide (((List.length x0.2.2.2.1 : Nat) : Int) > 4))))) = AV.p (.c (.v (.bool false)))), True] gamOK hT h (by kernel_rfl) ⟨(by exact hf0.2.2.1), hint_bool (decide_eq_false h1), hint_bool (decide_eq_false h2), trivial, trivial⟩ ?_
      intro a w h
      refine then_normal ?_
      refine at_test (!(inR x0.2.2.2.2.2 0 ((List.length x0.2.2.2.2.1 : Nat) : Int))) h (by kernel_rfl) (fun h3 => ?_) (fun h3 => ?_)
      · replace h3 : (inR x0.2.2.2.2.2 0 ((List.length x0.2.2.2.2.1 : Nat) : Int)) = false := notT h3
        have hvh3 := inR_f h3
        refine wp_seq ?_
        refine at_regq [] { ts := [1, 2], os := [1] } [] gamOK hT h (by kernel_rfl) trivial ?_
        intro a w h
        refine then_normal ?_
        refine wp_ret ?_
        refine then_ret ?_
        exact at_return (S := S_impl_IsValidSink) (x := (x0, ())) (false, ()) [] h (by kernel_rfl) trivial (congrArg (fun z => (z, ())) (show (false) = validS x0 from by (first | (rw [← validS_impl (by assumption) (headS_y (by assumption) (by omega) (by assumption))]; symm; assumption) | exact validS_no (by first | (right; left; assumption) | (left; exact headS_n (by first | (left; assumption) | (right; left; omega) | (right; right; assumption)))))))
      · replace h3 : (inR x0.2.2.2.2.2 0 ((List.length x0.2.2.2.2.1 : Nat) : Int)) = true := notF h3
        have hvh3 := inR_t h3
        refine wp_skip ?_
        refine then_normal ?_
        refine wp_seq ?_
        refine wp_seq ?_
        refine at_regq [] { ts := [1, 2, 34, 35, 36], os := [1] } [] gamOK hT h (by kernel_rfl) trivial ?_
        intro a w h
        refine then_normal ?_
        refine wp_block ?_
        replace h := at_out (σ' := ⟨[(1, aP 1 0), (2, aB false), (34, aF s112 x0.2.2.2.1), (35, aI ((List.length x0.2.2.2.1 : Nat) : Int)), (36, aI 0)], [(1, oX 32 [cI x0.1, cI x0.2.1, .ro (.int 3) x0.2.2.1, .ro s112 x0.2.2.2.1, .ro s218 x0.2.2.2.2.1, cI x0.2.2.2.2.2])]⟩) { ts := [1, 2, 34, 35, 36], os := [1] } h (by kernel_rfl)
        refine at_loop (fun i : Nat => (⟨[(1, aP 1 0), (2, aB false), (34, aF s112 x0.2.2.2.1), (35, aI ((List.length x0.2.2.2.1 : Nat) : Int)), (36, aI ((i : Nat) : Int))], [(1, oX 32 [cI x0.1, cI x0.2.1, .ro (.int 3) x0.2.2.1, .ro s112 x0.2.2.2.1, .ro s218 x0.2.2.2.2.1, cI x0.2.2.2.2.2])]⟩ : St)) (fun i => (i ≤ (List.length x0.2.2.2.1) ∧ allN (decB x0) i = true)) (fun i => (List.length x0.2.2.2.1) - i) (0) h (st_congr1 (fun (d0 : Int) => (⟨[(1, aP 1 0), (2, aB false), (34, aF s112 x0.2.2.2.1), (35, aI ((List.length x0.2.2.2.1 : Nat) : Int)), (36, aI d0)], [(1, oX 32 [cI x0.1, cI x0.2.1, .ro (.int 3) x0.2.2.1, .ro s112 x0.2.2.2.1, .ro s218 x0.2.2.2.2.1, cI x0.2.2.2.2.2])]⟩ : St)) (show (0 : Int) = (((0) : Nat) : Int) from by first | with_reducible rfl | (rfl) | rfl)) (by exact ⟨Nat.zero_le _, rfl⟩) ?_
        intro i a w hok0 h
        refine wp_seq ?_
        refine at_regq [] { ts := [1, 2, 34, 35, 36, 37], os := [1] } [] gamOK hT h (by kernel_rfl) trivial ?_
        intro a w h
        refine then_normal ?_
        refine wp_seq ?_
        refine at_test (decide (((i : Nat) : Int) < ((List.length x0.2.2.2.1 : Nat) : Int))) h (by kernel_rfl) (fun h4 => ?_) (fun h4 => ?_)
        · replace h4 : ((i : Nat) : Int) < ((List.length x0.2.2.2.1 : Nat) : Int) := of_decide_eq_true h4
          refine wp_skip ?_
          refine then_normal ?_
          refine wp_seq ?_
          refine wp_block ?_
          refine wp_seq ?_
          refine at_regq [{}, {}, {}, { ids := [5] }] { ts := [1, 2, 3, 4, 34, 35, 36], os := [1, 5] } [(0 : Int) ≤ ((i : Nat) : Int) ∧ ((i : Nat) : Int) < ((List.length x0.2.2.2.1 : Nat) : Int)] gamOK hT h (by kernel_rfl) ⟨(by refine ⟨?_, ?_⟩ <;> (first | omega | (simp only [lsA]; omega) | (simp; done) | (simp; omega) | done)), trivial⟩ ?_
          intro a w h
          refine then_normal ?_
          refine wp_seq ?_
          rcases Bool.eq_false_or_eq_true (!(validD (x0.2.2.2.1.getD i (0, (0, (0, (0, []))))))) with h5 | h5
          · skip
            have hzh5 : (validD (x0.2.2.2.1.getD i (0, (0, (0, (0, [])))))) = false := notT h5
            refine at_anyq [{}, {}, { hint := some (aB true) }, {}, {}, {}, {}, {}, {}, {}, {}, {}, {}, {}, {}, {}, {}, {}, {}, {}, {}, {}, {}, {}, {}, {}, {}, {}, {}, {}, {}, {}, {}, {}] { ts := [1, 2, 34, 35, 36, 45, 46, 49, 50, 51, 52, 53, 54, 55, 56, 57, 60, 61, 62, 63, 64, 65, 66, 67, 68, 69, 70, 71, 72, 73, 74], os := [1] } [(fun (x0 : T112) => Sh.fit s112 x0) (x0.2.2.2.1.getD i (0, (0, (0, (0, []))))), (AV.p (.c (.v (.bool (!(validD (x0.2.2.2.1.getD i (0, (0, (0, (0, [])))))))))) = AV.p (.c (.v (.bool true))))] gamOK hT mixed h (by kernel_rfl) ⟨(by exact (Sh.fit_getD hf0.2.2.2.1 i)), hint_bool (h5), trivial⟩ ?_
            intro a w h
            refine then_normal ?_
            refine at_test true h (by kernel_rfl) (fun hh => ?_) (fun hh => nomatch hh)
            refine wp_seq ?_
            refine at_regq [] { ts := [1, 2, 34, 35, 36, 45, 46, 49, 50, 51, 52, 53, 54, 55, 56, 57, 60, 61, 62, 63, 64, 65, 66, 67, 68, 69, 70, 71, 72, 73], os := [1] } [] gamOK hT h (by kernel_rfl) trivial ?_
            intro a w h
            refine then_normal ?_
            refine wp_ret ?_
            refine in_ret ?_
            refine then_ret ?_
            have hs6 : (allN (decB x0) (List.length x0.2.2.2.1)) = false := by exact allN_at (i := i) (by omega) (by exact decB_f (by first | (left; assumption) | (right; left; assumption) | (right; right; left; assumption) | (right; right; right; omega)))
            refine then_ret ?_
            refine in_ret ?_
            refine then_ret ?_
            exact at_return (S := S_impl_IsValidSink) (x := (x0, ())) (false, ()) [] h (by kernel_rfl) trivial (congrArg (fun z => (z, ())) (show (false) = validS x0 from by (first | (rw [← validS_impl (by assumption) (headS_y (by assumption) (by omega) (by assumption))]; symm; assumption) | exact validS_no (by first | (right; left; assumption) | (left; exact headS_n (by first | (left; assumption) | (right; left; omega) | (right; right; assumption)))))))
          · skip
            have hzh5 : (validD (x0.2.2.2.1.getD i (0, (0, (0, (0, [])))))) = true := notF h5
            have hvh5 := validD_t (notF h5)
            rcases Bool.eq_false_or_eq_true ((complD (x0.2.2.2.1.getD i (0, (0, (0, (0, []))))))) with h7 | h7
            · skip
              refine at_anyq [{}, {}, { hint := some (aB false) }, {}, {}, { hint := some (aB true) }, {}, {}, {}, {}, {}, {}, {}, {}, {}, {}, {}, {}, {}, {}, {}, {}, {}, {}, {}, {}, {}, {}, {}, {}, {}, {}, {}, {}] { ts := [1, 2, 34, 35, 36, 45, 46, 49, 50, 51, 52, 53, 54, 55, 56, 57, 60, 61, 62, 63, 64, 65, 66, 67, 68, 69, 70, 71, 72, 73, 74], os := [1] } [(fun (x0 : T112) => Sh.fit s112 x0) (x0.2.2.2.1.getD i (0, (0, (0, (0, []))))), (AV.p (.c (.v (.bool (!(validD (x0.2.2.2.1.getD i (0, (0, (0, (0, [])))))))))) = AV.p (.c (.v (.bool false)))), (fun (x0 : T112) => Sh.fit s112 x0) (x0.2.2.2.1.getD i (0, (0, (0, (0, []))))), (AV.p (.c (.v (.bool ((complD (x0.2.2.2.1.getD i (0, (0, (0, (0, [])))))))))) = AV.p (.c (.v (.bool true))))] gamOK hT mixed h (by kernel_rfl) ⟨(by exact (Sh.fit_getD hf0.2.2.2.1 i)), hint_bool (h5), (by exact (Sh.fit_getD hf0.2.2.2.1 i)), hint_bool (h7), trivial⟩ ?_
              intro a w h
              refine then_normal ?_
              refine at_test true h (by kernel_rfl) (fun hh => ?_) (fun hh => nomatch hh)
              refine wp_seq ?_
              refine at_regq [] { ts := [1, 2, 34, 35, 36, 45, 46, 49, 50, 51, 52, 53, 54, 55, 56, 57, 60, 61, 62, 63, 64, 65, 66, 67, 68, 69, 70, 71, 72, 73], os := [1] } [] gamOK hT h (by kernel_rfl) trivial ?_
              intro a w h
              refine then_normal ?_
              refine wp_ret ?_
              refine in_ret ?_
              refine then_ret ?_
              have hs8 : (allN (decB x0) (List.length x0.2.2.2.1)) = false := by exact allN_at (i := i) (by omega) (by exact decB_f (by first | (left; assumption) | (right; left; assumption) | (right; right; left; assumption) | (right; right; right; omega)))
              refine then_ret ?_
              refine in_ret ?_
              refine then_ret ?_
              exact at_return (S := S_impl_IsValidSink) (x := (x0, ())) (false, ()) [] h (by kernel_rfl) trivial (congrArg (fun z => (z, ())) (show (false) = validS x0 from by (first | (rw [← validS_impl (by assumption) (headS_y (by assumption) (by omega) (by assumption))]; symm; assumption) | exact validS_no (by first | (right; left; assumption) | (left; exact headS_n (by first | (left; assumption) | (right; left; omega) | (right; right; assumption)))))))
            · skip
              rcases Bool.eq_false_or_eq_true (!(fitsS x0 (x0.2.2.2.1.getD i (0, (0, (0, (0, []))))).1 (x0.2.2.2.1.getD i (0, (0, (0, (0, []))))).2.1 (x0.2.2.2.1.getD i (0, (0, (0, (0, []))))).2.2.1)) with h9 | h9
              · skip
                have hzh9 : (fitsS x0 (x0.2.2.2.1.getD i (0, (0, (0, (0, []))))).1 (x0.2.2.2.1.getD i (0, (0, (0, (0, []))))).2.1 (x0.2.2.2.1.getD i (0, (0, (0, (0, []))))).2.2.1) = false := notT h9
                refine at_anyq [{}, {}, { hint := some (aB false) }, {}, {}, { hint := some (aB false) }, {}, {}, {}, {}, {}, {}, {}, {}, {}, {}, { hint := some (aB true) }, {}, {}, {}, {}, {}, {}, {}, {}, {}, {}, {}, {}, {}, {}, {}, {}, {}] { ts := [1, 2, 34, 35, 36, 45, 46, 49, 50, 51, 52, 53, 54, 55, 56, 57, 60, 61, 62, 63, 64, 65, 66, 67, 68, 69, 70, 71, 72, 73, 74], os := [1, 5] } [(fun (x0 : T112) => Sh.fit s112 x0) (x0.2.2.2.1.getD i (0, (0, (0, (0, []))))), (AV.p (.c (.v (.bool (!(validD (x0.2.2.2.1.getD i (0, (0, (0, (0, [])))))))))) = AV.p (.c (.v (.bool false)))), (fun (x0 : T112) => Sh.fit s112 x0) (x0.2.2.2.1.getD i (0, (0, (0, (0, []))))), (AV.p (.c (.v (.bool ((complD (x0.2.2.2.1.getD i (0, (0, (0, (0, [])))))))))) = AV.p (.c (.v (.bool false)))), (fun (x0 : T32) (x1 : Int) (x2 : Int) (x3 : Int) => Sh.fit s32 x0) x0 (x0.2.2.2.1.getD i (0, (0, (0, (0, []))))).1 (x0.2.2.2.1.getD i (0, (0, (0, (0, []))))).2.1 (x0.2.2.2.1.getD i (0, (0, (0, (0, []))))).2.2.1, (AV.p (.c (.v (.bool (!(fitsS x0 (x0.2.2.2.1.getD i (0, (0, (0, (0, []))))).1 (x0.2.2.2.1.getD i (0, (0, (0, (0, []))))).2.1 (x0.2.2.2.1.getD i (0, (0, (0, (0, []))))).2.2.1))))) = AV.p (.c (.v (.bool true))))] gamOK hT mixed h (by kernel_rfl) ⟨(by exact (Sh.fit_getD hf0.2.2.2.1 i)), hint_bool (h5), (by exact (Sh.fit_getD hf0.2.2.2.1 i)), hint_bool (h7), (by exact hf0), hint_bool (h9), trivial⟩ ?_
                intro a w h
                refine then_normal ?_
                refine at_test true h (by kernel_rfl) (fun hh => ?_) (fun hh => nomatch hh)
                refine wp_seq ?_
                refine at_regq [] { ts := [1, 2, 34, 35, 36, 45, 46, 49, 50, 51, 52, 53, 54, 55, 56, 57, 60, 61, 62, 63, 64, 65, 66, 67, 68, 69, 70, 71, 72, 73], os := [1, 5] } [] gamOK hT h (by kernel_rfl) trivial ?_
                intro a w h
                refine then_normal ?_
                refine wp_ret ?_
                refine in_ret ?_
                refine then_ret ?_
                have hs10 : (allN (decB x0) (List.length x0.2.2.2.1)) = false := by exact allN_at (i := i) (by omega) (by exact decB_f (by first | (left; assumption) | (right; left; assumption) | (right; right; left; assumption) | (right; right; right; omega)))
                refine then_ret ?_
                refine in_ret ?_
                refine then_ret ?_
                exact at_return (S := S_impl_IsValidSink) (x := (x0, ())) (false, ()) [] h (by kernel_rfl) trivial (congrArg (fun z => (z, ())) (show (false) = validS x0 from by (first | (rw [← validS_impl (by assumption) (headS_y (by assumption) (by omega) (by assumption))]; symm; assumption) | exact validS_no (by first | (right; left; assumption) | (left; exact headS_n (by first | (left; assumption) | (right; left; omega) | (right; right; assumption)))))))
              · skip
                have hzh9 : (fitsS x0 (x0.2.2.2.1.getD i (0, (0, (0, (0, []))))).1 (x0.2.2.2.1.getD i (0, (0, (0, (0, []))))).2.1 (x0.2.2.2.1.getD i (0, (0, (0, (0, []))))).2.2.1) = true := notF h9
                by_cases h11 : ((i : Nat) : Int) > 0
                · skip
                  refine at_anyq [{}, {}, { hint := some (aB false) }, {}, {}, { hint := some (aB false) }, {}, {}, {}, {}, {}, {}, {}, {}, {}, {}, { hint := some (aB false) }, {}, {}, {}, { hint := some (aB true) }, {}, {}, {}, {}, {}, {}, { nw := true }, {}, {}, {}, {}, {}, {}] { ts := [1, 2, 34, 35, 36, 45, 46, 49, 50, 51, 52, 53, 54, 55, 56, 57, 60, 61, 62, 63, 64, 65, 66, 67, 68, 69, 70, 71, 72, 73, 74], os := [1, 5] } [(fun (x0 : T112) => Sh.fit s112 x0) (x0.2.2.2.1.getD i (0, (0, (0, (0, []))))), (AV.p (.c (.v (.bool (!(validD (x0.2.2.2.1.getD i (0, (0, (0, (0, [])))))))))) = AV.p (.c (.v (.bool false)))), (fun (x0 : T112) => Sh.fit s112 x0) (x0.2.2.2.1.getD i (0, (0, (0, (0, []))))), (AV.p (.c (.v (.bool ((complD (x0.2.2.2.1.getD i (0, (0, (0, (0, [])))))))))) = AV.p (.c (.v (.bool false)))), (fun (x0 : T32) (x1 : Int) (x2 : Int) (x3 : Int) => Sh.fit s32 x0) x0 (x0.2.2.2.1.getD i (0, (0, (0, (0, []))))).1 (x0.2.2.2.1.getD i (0, (0, (0, (0, []))))).2.1 (x0.2.2.2.1.getD i (0, (0, (0, (0, []))))).2.2.1, (AV.p (.c (.v (.bool (!(fitsS x0 (x0.2.2.2.1.getD i (0, (0, (0, (0, []))))).1 (x0.2.2.2.1.getD i (0, (0, (0, (0, []))))).2.1 (x0.2.2.2.1.getD i (0, (0, (0, (0, []))))).2.2.1))))) = AV.p (.c (.v (.bool false)))), (AV.p (.c (.v (.bool (decide (((i : Nat) : Int) > 0))))) = AV.p (.c (.v (.bool true)))), I64 (((i : Nat) : Int) - 1), (0 : Int) ≤ ((i : Nat) : Int) - 1 ∧ ((i : Nat) : Int) - 1 < ((List.length x0.2.2.2.1 : Nat) : Int)] gamOK hT mixed h (by kernel_rfl) ⟨(by exact (Sh.fit_getD hf0.2.2.2.1 i)), hint_bool (h5), (by exact (Sh.fit_getD hf0.2.2.2.1 i)), hint_bool (h7), (by exact hf0), hint_bool (h9), hint_bool (decide_eq_true h11), ⟨by first | omega | (simp only [lsA]; omega) | (simp; done) | (simp; omega) | done, by first | omega | (simp only [lsA]; omega) | (simp; done) | (simp; omega) | done⟩, (by refine ⟨?_, ?_⟩ <;> (first | omega | (simp only [lsA]; omega) | (simp; done) | (simp; omega) | done)), trivial⟩ ?_
                  intro a w h
                  refine then_normal ?_
                  refine at_test (decide ((x0.2.2.2.1.getD i (0, (0, (0, (0, []))))).1 ≤ (x0.2.2.2.1.getD ((((i : Nat) : Int) - 1).toNat) (0, (0, (0, (0, []))))).1)) h (by kernel_rfl) (fun h12 => ?_) (fun h12 => ?_)
                  · replace h12 : (x0.2.2.2.1.getD i (0, (0, (0, (0, []))))).1 ≤ (x0.2.2.2.1.getD ((((i : Nat) : Int) - 1).toNat) (0, (0, (0, (0, []))))).1 := of_decide_eq_true h12
                    refine wp_seq ?_
                    refine at_regq [] { ts := [1, 2, 34, 35, 36, 45, 46, 49, 50, 51, 52, 53, 54, 55, 56, 57, 60, 61, 62, 63, 64, 65, 66, 67, 68, 69, 70, 71, 72, 73], os := [1, 5] } [] gamOK hT h (by kernel_rfl) trivial ?_
                    intro a w h
                    refine then_normal ?_
                    refine wp_ret ?_
                    refine in_ret ?_
                    refine then_ret ?_
                    have hs13 : (allN (decB x0) (List.length x0.2.2.2.1)) = false := by exact allN_at (i := i) (by omega) (by exact decB_f (by first | (left; assumption) | (right; left; assumption) | (right; right; left; assumption) | (right; right; right; omega)))
                    refine then_ret ?_
                    refine in_ret ?_
                    refine then_ret ?_
                    exact at_return (S := S_impl_IsValidSink) (x := (x0, ())) (false, ()) [] h (by kernel_rfl) trivial (congrArg (fun z => (z, ())) (show (false) = validS x0 from by (first | (rw [← validS_impl (by assumption) (headS_y (by assumption) (by omega) (by assumption))]; symm; assumption) | exact validS_no (by first | (right; left; assumption) | (left; exact headS_n (by first | (left; assumption) | (right; left; omega) | (right; right; assumption)))))))
                  · replace h12 : ¬ ((x0.2.2.2.1.getD i (0, (0, (0, (0, []))))).1 ≤ (x0.2.2.2.1.getD ((((i : Nat) : Int) - 1).toNat) (0, (0, (0, (0, []))))).1) := of_decide_eq_false h12
                    refine wp_skip ?_
                    refine in_normal ?_
                    refine then_normal ?_
                    refine at_regq [{ nw := true }] { ts := [1, 2, 34, 35, 36, 45, 46, 49, 50, 51, 52, 53, 54, 55, 56, 57, 60, 61, 62, 63, 64, 65, 66, 67, 68, 69, 70, 71, 72, 73], os := [1, 5] } [I64 (((i : Nat) : Int) + 1)] gamOK hT h (by kernel_rfl) ⟨⟨by first | omega | (simp only [lsA]; omega) | (simp; done) | (simp; omega) | done, by first | omega | (simp only [lsA]; omega) | (simp; done) | (simp; omega) | done⟩, trivial⟩ ?_
                    intro a w h
                    replace h := at_out (σ' := ⟨[(1, aP 1 0), (2, aB false), (34, aF s112 x0.2.2.2.1), (35, aI ((List.length x0.2.2.2.1 : Nat) : Int)), (36, aI (((i : Nat) : Int) + 1))], [(1, oX 32 [cI x0.1, cI x0.2.1, .ro (.int 3) x0.2.2.1, .ro s112 x0.2.2.2.1, .ro s218 x0.2.2.2.2.1, cI x0.2.2.2.2.2])]⟩) { ts := [1, 2, 34, 35, 36], os := [1] } h (by kernel_rfl)
                    exact ⟨i + 1, at_eq h (st_congr1 (fun (d0 : Int) => (⟨[(1, aP 1 0), (2, aB false), (34, aF s112 x0.2.2.2.1), (35, aI ((List.length x0.2.2.2.1 : Nat) : Int)), (36, aI d0)], [(1, oX 32 [cI x0.1, cI x0.2.1, .ro (.int 3) x0.2.2.1, .ro s112 x0.2.2.2.1, .ro s218 x0.2.2.2.2.1, cI x0.2.2.2.2.2])]⟩ : St)) (show (((i : Nat) : Int) + 1 : Int) = (((i + 1) : Nat) : Int) from by first | with_reducible rfl | (omega) | rfl)), (by exact ⟨by omega, allN_succ hok0.2 (by exact decB_t (by assumption) (by assumption) (by assumption) (by omega))⟩), (by omega)⟩
                · skip
                  refine at_anyq [{}, {}, { hint := some (aB false) }, {}, {}, { hint := some (aB false) }, {}, {}, {}, {}, {}, {}, {}, {}, {}, {}, { hint := some (aB false) }, {}, {}, {}, { hint := some (aB false) }, {}, {}, {}, {}, {}, {}, {}, {}, {}, {}, {}, {}, {}] { ts := [1, 2, 34, 35, 36, 45, 46, 49, 50, 51, 52, 53, 54, 55, 56, 57, 60, 61, 62, 63, 64, 65, 66, 67, 68, 69, 70, 71, 72, 73, 74], os := [1, 5] } [(fun (x0 : T112) => Sh.fit s112 x0) (x0.2.2.2.1.getD i (0, (0, (0, (0, []))))), (AV.p (.c (.v (.bool (!(validD (x0.2.2.2.1.getD i (0, (0, (0, (0, [])))))))))) = AV.p (.c (.v (.bool false)))), (fun (x0 : T112) => Sh.fit s112 x0) (x0.2.2.2.1.getD i (0, (0, (0, (0, []))))), (AV.p (.c (.v (.bool ((complD (x0.2.2.2.1.getD i (0, (0, (0, (0, [])))))))))) = AV.p (.c (.v (.bool false)))), (fun (x0 : T32) (x1 : Int) (x2 : Int) (x3 : Int) => Sh.fit s32 x0) x0 (x0.2.2.2.1.getD i (0, (0, (0, (0, []))))).1 (x0.2.2.2.1.getD i (0, (0, (0, (0, []))))).2.1 (x0.2.2.2.1.getD i (0, (0, (0, (0, []))))).2.2.1, (AV.p (.c (.v (.bool (!(fitsS x0 (x0.2.2.2.1.getD i (0, (0, (0, (0, []))))).1 (x0.2.2.2.1.getD i (0, (0, (0, (0, []))))).2.1 (x0.2.2.2.1.getD i (0, (0, (0, (0, []))))).2.2.1))))) = AV.p (.c (.v (.bool false)))), (AV.p (.c (.v (.bool (decide (((i : Nat) : Int) > 0))))) = AV.p (.c (.v (.bool false))))] gamOK hT mixed h (by kernel_rfl) ⟨(by exact (Sh.fit_getD hf0.2.2.2.1 i)), hint_bool (h5), (by exact (Sh.fit_getD hf0.2.2.2.1 i)), hint_bool (h7), (by exact hf0), hint_bool (h9), hint_bool (decide_eq_false h11), trivial⟩ ?_
                  intro a w h
                  refine then_normal ?_
                  refine at_test false h (by kernel_rfl) (fun hh => nomatch hh) (fun hh => ?_)
                  refine wp_skip ?_
                  refine in_normal ?_
                  refine then_normal ?_
                  refine at_regq [{ nw := true }] { ts := [1, 2, 34, 35, 36, 45, 46, 49, 50, 51, 52, 53, 54, 55, 56, 57, 60, 61, 62, 63, 64, 65, 66, 67, 68, 69, 70, 71, 72, 73], os := [1, 5] } [I64 (((i : Nat) : Int) + 1)] gamOK hT h (by kernel_rfl) ⟨⟨by first | omega | (simp only [lsA]; omega) | (simp; done) | (simp; omega) | done, by first | omega | (simp only [lsA]; omega) | (simp; done) | (simp; omega) | done⟩, trivial⟩ ?_
                  intro a w h
                  replace h := at_out (σ' := ⟨[(1, aP 1 0), (2, aB false), (34, aF s112 x0.2.2.2.1), (35, aI ((List.length x0.2.2.2.1 : Nat) : Int)), (36, aI (((i : Nat) : Int) + 1))], [(1, oX 32 [cI x0.1, cI x0.2.1, .ro (.int 3) x0.2.2.1, .ro s112 x0.2.2.2.1, .ro s218 x0.2.2.2.2.1, cI x0.2.2.2.2.2])]⟩) { ts := [1, 2, 34, 35, 36], os := [1] } h (by kernel_rfl)
                  exact ⟨i + 1, at_eq h (st_congr1 (fun (d0 : Int) => (⟨[(1, aP 1 0), (2, aB false), (34, aF s112 x0.2.2.2.1), (35, aI ((List.length x0.2.2.2.1 : Nat) : Int)), (36, aI d0)], [(1, oX 32 [cI x0.1, cI x0.2.1, .ro (.int 3) x0.2.2.1, .ro s112 x0.2.2.2.1, .ro s218 x0.2.2.2.2.1, cI x0.2.2.2.2.2])]⟩ : St)) (show (((i : Nat) : Int) + 1 : Int) = (((i + 1) : Nat) : Int) from by first | with_reducible rfl | (omega) | rfl)), (by exact ⟨by omega, allN_succ hok0.2 (by exact decB_t (by assumption) (by assumption) (by assumption) (by omega))⟩), (by omega)⟩
        · replace h4 : ¬ (((i : Nat) : Int) < ((List.length x0.2.2.2.1 : Nat) : Int)) := of_decide_eq_false h4
          refine wp_exit ?_
          refine then_exit ?_
          have hs14 : (allN (decB x0) (List.length x0.2.2.2.1)) = true := by exact allN_eq (by omega) hok0.1 hok0.2
          refine then_exit ?_
          refine in_hit ?_
          refine then_normal ?_
          refine wp_seq ?_
          refine wp_seq ?_
          refine at_regq [] { ts := [1, 2, 77, 78, 79], os := [1] } [] gamOK hT h (by kernel_rfl) trivial ?_
          intro a w h
          refine then_normal ?_
          refine wp_block ?_
          replace h := at_out (σ' := ⟨[(1, aP 1 0), (2, aB false), (77, aF s218 x0.2.2.2.2.1), (78, aI ((List.length x0.2.2.2.2.1 : Nat) : Int)), (79, aI 0)], [(1, oX 32 [cI x0.1, cI x0.2.1, .ro (.int 3) x0.2.2.1, .ro s112 x0.2.2.2.1, .ro s218 x0.2.2.2.2.1, cI x0.2.2.2.2.2])]⟩) { ts := [1, 2, 77, 78, 79], os := [1] } h (by kernel_rfl)
          refine at_loop (fun i : Nat => (⟨[(1, aP 1 0), (2, aB false), (77, aF s218 x0.2.2.2.2.1), (78, aI ((List.length x0.2.2.2.2.1 : Nat) : Int)), (79, aI ((i : Nat) : Int))], [(1, oX 32 [cI x0.1, cI x0.2.1, .ro (.int 3) x0.2.2.1, .ro s112 x0.2.2.2.1, .ro s218 x0.2.2.2.2.1, cI x0.2.2.2.2.2])]⟩ : St)) (fun i => (i ≤ (List.length x0.2.2.2.2.1) ∧ allN (fun j => genB x0 j && opnB x0 j) i = true)) (fun i => (List.length x0.2.2.2.2.1) - i) (0) h (st_congr1 (fun (d0 : Int) => (⟨[(1, aP 1 0), (2, aB false), (77, aF s218 x0.2.2.2.2.1), (78, aI ((List.length x0.2.2.2.2.1 : Nat) : Int)), (79, aI d0)], [(1, oX 32 [cI x0.1, cI x0.2.1, .ro (.int 3) x0.2.2.1, .ro s112 x0.2.2.2.1, .ro s218 x0.2.2.2.2.1, cI x0.2.2.2.2.2])]⟩ : St)) (show (0 : Int) = (((0) : Nat) : Int) from by first | with_reducible rfl | (rfl) | rfl)) (by exact ⟨Nat.zero_le _, rfl⟩) ?_
          intro i a w hok1 h
          refine wp_seq ?_
          refine at_regq [] { ts := [1, 2, 77, 78, 79, 80], os := [1] } [] gamOK hT h (by kernel_rfl) trivial ?_
          intro a w h
          refine then_normal ?_
          refine wp_seq ?_
          refine at_test (decide (((i : Nat) : Int) < ((List.length x0.2.2.2.2.1 : Nat) : Int))) h (by kernel_rfl) (fun h15 => ?_) (fun h15 => ?_)
          · replace h15 : ((i : Nat) : Int) < ((List.length x0.2.2.2.2.1 : Nat) : Int) := of_decide_eq_true h15
            refine wp_skip ?_
            refine then_normal ?_
            refine wp_seq ?_
            refine wp_block ?_
            refine wp_seq ?_
            refine at_regq [{}, {}, {}, { ids := [6] }] { ts := [1, 2, 5, 6, 77, 78, 79], os := [1, 6] } [(0 : Int) ≤ ((i : Nat) : Int) ∧ ((i : Nat) : Int) < ((List.length x0.2.2.2.2.1 : Nat) : Int)] gamOK hT h (by kernel_rfl) ⟨(by refine ⟨?_, ?_⟩ <;> (first | omega | (simp only [lsA]; omega) | (simp; done) | (simp; omega) | done)), trivial⟩ ?_
            intro a w h
            refine then_normal ?_
            refine wp_seq ?_
            refine wp_seq ?_
            rcases Bool.eq_false_or_eq_true (!(validG (x0.2.2.2.2.1.getD i (0, [])))) with h16 | h16
            · skip
              have hzh16 : (validG (x0.2.2.2.2.1.getD i (0, []))) = false := notT h16
              refine at_anyq [{}, {}, { hint := some (aB true) }, {}, {}, {}, {}, {}, {}, {}, {}, {}, {}, {}, {}, {}, {}, {}, {}, {}, {}, {}, {}, {}, {}, {}, {}, {}, {}, {}, {}] { ts := [1, 2, 6, 77, 78, 79, 88, 89, 90, 91, 92, 93, 94, 95, 96, 97, 100, 101, 102, 103, 104, 105, 106, 107, 108, 109, 110, 111, 112, 113, 114], os := [1, 6] } [(fun (x0 : T218) => Sh.fit s218 x0) (x0.2.2.2.2.1.getD i (0, [])), (AV.p (.c (.v (.bool (!(validG (x0.2.2.2.2.1.getD i (0, []))))))) = AV.p (.c (.v (.bool true))))] gamOK hT mixed h (by kernel_rfl) ⟨(by exact (Sh.fit_getD hf0.2.2.2.2.1 i)), hint_bool (h16), trivial⟩ ?_
              intro a w h
              refine then_normal ?_
              refine at_test true h (by kernel_rfl) (fun hh => ?_) (fun hh => nomatch hh)
              refine wp_seq ?_
              refine at_reg [] { ts := [1, 2, 6, 77, 78, 79, 88, 89, 90, 91, 92, 93, 94, 95, 96, 97, 100, 101, 102, 103, 104, 105, 106, 107, 108, 109, 110, 111, 112, 113], os := [1, 6] } ⟨[(1, aP 1 0), (2, aB false), (6, aP 6 0), (77, aF s218 x0.2.2.2.2.1), (78, aI ((List.length x0.2.2.2.2.1 : Nat) : Int)), (79, aI ((i : Nat) : Int)), (88, .p (.c (.v undef))), (89, .p (.c (.v undef))), (90, .p (.c (.v undef))), (91, .p (.c (.v undef))), (92, .p (.c (.v undef))), (93, .p (.c (.v undef))), (94, .p (.c (.v undef))), (95, .p (.c (.v undef))), (96, .p (.c (.v undef))), (97, .p (.c (.v undef))), (100, .p (.c (.v undef))), (101, .p (.c (.v undef))), (102, .p (.c (.v undef))), (103, .p (.c (.v undef))), (104, .p (.c (.v undef))), (105, .p (.c (.v undef))), (106, .p (.c (.v undef))), (107, .p (.c (.v undef))), (108, .p (.c (.v undef))), (109, .p (.c (.v undef))), (110, .p (.c (.v undef))), (111, .p (.c (.v undef))), (112, .p (.c (.v undef))), (113, .p (.c (.v undef)))], [(1, oX 32 [cI x0.1, cI x0.2.1, .ro (.int 3) x0.2.2.1, .ro s112 x0.2.2.2.1, .ro s218 x0.2.2.2.2.1, cI x0.2.2.2.2.2]), (6, oX 218 [cI (x0.2.2.2.2.1.getD i (0, [])).1, .ro s22 (x0.2.2.2.2.1.getD i (0, [])).2])]⟩ [] gamOK hT h (by kernel_rfl) trivial ?_
              intro a w h
              refine then_normal ?_
              refine wp_ret ?_
              refine then_ret ?_
              refine in_ret ?_
              refine then_ret ?_
              have hs17 : (allN (fun j => genB x0 j && opnB x0 j) (List.length x0.2.2.2.2.1)) = false := by exact allN_at (i := i) (by omega) (by exact and_f (by first | (left; exact genB_f (by first | (left; assumption) | (right; left; assumption) | (right; right; omega))) | (right; exact opnB_f (by assumption))))
              refine then_ret ?_
              refine in_ret ?_
              refine then_ret ?_
              exact at_return (S := S_impl_IsValidSink) (x := (x0, ())) (false, ()) [] h (by kernel_rfl) trivial (congrArg (fun z => (z, ())) (show (false) = validS x0 from by (first | (rw [← validS_impl (by assumption) (headS_y (by assumption) (by omega) (by assumption))]; symm; assumption) | exact validS_no (by first | (right; left; assumption) | (left; exact headS_n (by first | (left; assumption) | (right; left; omega) | (right; right; assumption)))))))
            · skip
              have hzh16 : (validG (x0.2.2.2.2.1.getD i (0, []))) = true := notF h16
              have hvh16 := validG_t (notF h16)
              rcases Bool.eq_false_or_eq_true (!(fitsS x0 (x0.2.2.2.2.1.getD i (0, [])).1 ((List.length (x0.2.2.2.2.1.getD i (0, [])).2 : Nat) : Int) (colsOf (x0.2.2.2.2.1.getD i (0, [])).2))) with h18 | h18
              · skip
                have hzh18 : (fitsS x0 (x0.2.2.2.2.1.getD i (0, [])).1 ((List.length (x0.2.2.2.2.1.getD i (0, [])).2 : Nat) : Int) (colsOf (x0.2.2.2.2.1.getD i (0, [])).2)) = false := notT h18
                refine at_anyq [{}, {}, { hint := some (aB false) }, {}, {}, {}, {}, {}, {}, {}, {}, {}, {}, { hint := some (aB true) }, {}, {}, {}, {}, {}, {}, {}, {}, {}, {}, {}, {}, {}, {}, {}, {}, {}] { ts := [1, 2, 6, 77, 78, 79, 88, 89, 90, 91, 92, 93, 94, 95, 96, 97, 100, 101, 102, 103, 104, 105, 106, 107, 108, 109, 110, 111, 112, 113, 114], os := [1, 6] } [(fun (x0 : T218) => Sh.fit s218 x0) (x0.2.2.2.2.1.getD i (0, [])), (AV.p (.c (.v (.bool (!(validG (x0.2.2.2.2.1.getD i (0, []))))))) = AV.p (.c (.v (.bool false)))), (fun (x0 : T218) => Sh.fit s218 x0) (x0.2.2.2.2.1.getD i (0, [])), (fun (x0 : T32) (x1 : Int) (x2 : Int) (x3 : Int) => Sh.fit s32 x0) x0 (x0.2.2.2.2.1.getD i (0, [])).1 ((List.length (x0.2.2.2.2.1.getD i (0, [])).2 : Nat) : Int) (colsOf (x0.2.2.2.2.1.getD i (0, [])).2), (AV.p (.c (.v (.bool (!(fitsS x0 (x0.2.2.2.2.1.getD i (0, [])).1 ((List.length (x0.2.2.2.2.1.getD i (0, [])).2 : Nat) : Int) (colsOf (x0.2.2.2.2.1.getD i (0, [])).2)))))) = AV.p (.c (.v (.bool true))))] gamOK hT mixed h (by kernel_rfl) ⟨(by exact (Sh.fit_getD hf0.2.2.2.2.1 i)), hint_bool (h16), (by exact (Sh.fit_getD hf0.2.2.2.2.1 i)), (by exact hf0), hint_bool (h18), trivial⟩ ?_
                intro a w h
                refine then_normal ?_
                refine at_test true h (by kernel_rfl) (fun hh => ?_) (fun hh => nomatch hh)
                refine wp_seq ?_
                refine at_reg [] { ts := [1, 2, 6, 77, 78, 79, 88, 89, 90, 91, 92, 93, 94, 95, 96, 97, 100, 101, 102, 103, 104, 105, 106, 107, 108, 109, 110, 111, 112, 113], os := [1, 6] } ⟨[(1, aP 1 0), (2, aB false), (6, aP 6 0), (77, aF s218 x0.2.2.2.2.1), (78, aI ((List.length x0.2.2.2.2.1 : Nat) : Int)), (79, aI ((i : Nat) : Int)), (88, aG [cI x0.1, cI x0.2.1, .ro (.int 3) x0.2.2.1, .ro s112 x0.2.2.2.1, .ro s218 x0.2.2.2.2.1, cI x0.2.2.2.2.2]), (89, aP 6 0), (90, aI (x0.2.2.2.2.1.getD i (0, [])).1), (91, aP 6 1), (92, aF s22 (x0.2.2.2.2.1.getD i (0, [])).2), (93, aI ((List.length (x0.2.2.2.2.1.getD i (0, [])).2 : Nat) : Int)), (94, aG [cI (x0.2.2.2.2.1.getD i (0, [])).1, .ro s22 (x0.2.2.2.2.1.getD i (0, [])).2]), (95, aI (colsOf (x0.2.2.2.2.1.getD i (0, [])).2)), (96, aB (fitsS x0 (x0.2.2.2.2.1.getD i (0, [])).1 ((List.length (x0.2.2.2.2.1.getD i (0, [])).2 : Nat) : Int) (colsOf (x0.2.2.2.2.1.getD i (0, [])).2))), (97, aB true), (100, .p (.c (.v undef))), (101, .p (.c (.v undef))), (102, .p (.c (.v undef))), (103, .p (.c (.v undef))), (104, .p (.c (.v undef))), (105, .p (.c (.v undef))), (106, .p (.c (.v undef))), (107, .p (.c (.v undef))), (108, .p (.c (.v undef))), (109, .p (.c (.v undef))), (110, .p (.c (.v undef))), (111, .p (.c (.v undef))), (112, .p (.c (.v undef))), (113, .p (.c (.v undef)))], [(1, oX 32 [cI x0.1, cI x0.2.1, .ro (.int 3) x0.2.2.1, .ro s112 x0.2.2.2.1, .ro s218 x0.2.2.2.2.1, cI x0.2.2.2.2.2]), (6, oX 218 [cI (x0.2.2.2.2.1.getD i (0, [])).1, .ro s22 (x0.2.2.2.2.1.getD i (0, [])).2])]⟩ [] gamOK hT h (by kernel_rfl) trivial ?_
                intro a w h
                refine then_normal ?_
                refine wp_ret ?_
                refine then_ret ?_
                refine in_ret ?_
                refine then_ret ?_
                have hs19 : (allN (fun j => genB x0 j && opnB x0 j) (List.length x0.2.2.2.2.1)) = false := by exact allN_at (i := i) (by omega) (by exact and_f (by first | (left; exact genB_f (by first | (left; assumption) | (right; left; assumption) | (right; right; omega))) | (right; exact opnB_f (by assumption))))
                refine then_ret ?_
                refine in_ret ?_
                refine then_ret ?_
                exact at_return (S := S_impl_IsValidSink) (x := (x0, ())) (false, ()) [] h (by kernel_rfl) trivial (congrArg (fun z => (z, ())) (show (false) = validS x0 from by (first | (rw [← validS_impl (by assumption) (headS_y (by assumption) (by omega) (by assumption))]; symm; assumption) | exact validS_no (by first | (right; left; assumption) | (left; exact headS_n (by first | (left; assumption) | (right; left; omega) | (right; right; assumption)))))))
              · skip
                have hzh18 : (fitsS x0 (x0.2.2.2.2.1.getD i (0, [])).1 ((List.length (x0.2.2.2.2.1.getD i (0, [])).2 : Nat) : Int) (colsOf (x0.2.2.2.2.1.getD i (0, [])).2)) = true := notF h18
                by_cases h20 : ((i : Nat) : Int) > 0
                · skip
                  refine at_anyq [{}, {}, { hint := some (aB false) }, {}, {}, {}, {}, {}, {}, {}, {}, {}, {}, { hint := some (aB false) }, {}, {}, {}, { hint := some (aB true) }, {}, {}, {}, {}, {}, {}, { nw := true }, {}, {}, {}, {}, {}, {}] { ts := [1, 2, 6, 77, 78, 79, 88, 89, 90, 91, 92, 93, 94, 95, 96, 97, 100, 101, 102, 103, 104, 105, 106, 107, 108, 109, 110, 111, 112, 113, 114], os := [1, 6] } [(fun (x0 : T218) => Sh.fit s218 x0) (x0.2.2.2.2.1.getD i (0, [])), (AV.p (.c (.v (.bool (!(validG (x0.2.2.2.2.1.getD i (0, []))))))) = AV.p (.c (.v (.bool false)))), (fun (x0 : T218) => Sh.fit s218 x0) (x0.2.2.2.2.1.getD i (0, [])), (fun (x0 : T32) (x1 : Int) (x2 : Int) (x3 : Int) => Sh.fit s32 x0) x0 (x0.2.2.2.2.1.getD i (0, [])).1 ((List.length (x0.2.2.2.2.1.getD i (0, [])).2 : Nat) : Int) (colsOf (x0.2.2.2.2.1.getD i (0, [])).2), (AV.p (.c (.v (.bool (!(fitsS x0 (x0.2.2.2.2.1.getD i (0, [])).1 ((List.length (x0.2.2.2.2.1.getD i (0, [])).2 : Nat) : Int) (colsOf (x0.2.2.2.2.1.getD i (0, [])).2)))))) = AV.p (.c (.v (.bool false)))), (AV.p (.c (.v (.bool (decide (((i : Nat) : Int) > 0))))) = AV.p (.c (.v (.bool true)))), I64 (((i : Nat) : Int) - 1), (0 : Int) ≤ ((i : Nat) : Int) - 1 ∧ ((i : Nat) : Int) - 1 < ((List.length x0.2.2.2.2.1 : Nat) : Int)] gamOK hT mixed h (by kernel_rfl) ⟨(by exact (Sh.fit_getD hf0.2.2.2.2.1 i)), hint_bool (h16), (by exact (Sh.fit_getD hf0.2.2.2.2.1 i)), (by exact hf0), hint_bool (h18), hint_bool (decide_eq_true h20), ⟨by first | omega | (simp only [lsA]; omega) | (simp; done) | (simp; omega) | done, by first | omega | (simp only [lsA]; omega) | (simp; done) | (simp; omega) | done⟩, (by refine ⟨?_, ?_⟩ <;> (first | omega | (simp only [lsA]; omega) | (simp; done) | (simp; omega) | done)), trivial⟩ ?_
                  intro a w h
                  refine then_normal ?_
                  refine at_test (decide ((x0.2.2.2.2.1.getD i (0, [])).1 ≤ (x0.2.2.2.2.1.getD ((((i : Nat) : Int) - 1).toNat) (0, [])).1)) h (by kernel_rfl) (fun h21 => ?_) (fun h21 => ?_)
                  · replace h21 : (x0.2.2.2.2.1.getD i (0, [])).1 ≤ (x0.2.2.2.2.1.getD ((((i : Nat) : Int) - 1).toNat) (0, [])).1 := of_decide_eq_true h21
                    refine wp_seq ?_
                    refine at_reg [] { ts := [1, 2, 6, 77, 78, 79, 88, 89, 90, 91, 92, 93, 94, 95, 96, 97, 100, 101, 102, 103, 104, 105, 106, 107, 108, 109, 110, 111, 112, 113], os := [1, 6] } ⟨[(1, aP 1 0), (2, aB false), (6, aP 6 0), (77, aF s218 x0.2.2.2.2.1), (78, aI ((List.length x0.2.2.2.2.1 : Nat) : Int)), (79, aI ((i : Nat) : Int)), (88, aG [cI x0.1, cI x0.2.1, .ro (.int 3) x0.2.2.1, .ro s112 x0.2.2.2.1, .ro s218 x0.2.2.2.2.1, cI x0.2.2.2.2.2]), (89, aP 6 0), (90, aI (x0.2.2.2.2.1.getD i (0, [])).1), (91, aP 6 1), (92, aF s22 (x0.2.2.2.2.1.getD i (0, [])).2), (93, aI ((List.length (x0.2.2.2.2.1.getD i (0, [])).2 : Nat) : Int)), (94, aG [cI (x0.2.2.2.2.1.getD i (0, [])).1, .ro s22 (x0.2.2.2.2.1.getD i (0, [])).2]), (95, aI (colsOf (x0.2.2.2.2.1.getD i (0, [])).2)), (96, aB (fitsS x0 (x0.2.2.2.2.1.getD i (0, [])).1 ((List.length (x0.2.2.2.2.1.getD i (0, [])).2 : Nat) : Int) (colsOf (x0.2.2.2.2.1.getD i (0, [])).2))), (97, aB false), (100, aI ((i : Nat) : Int)), (101, aB true), (102, aB true), (103, aP 6 0), (104, aI (x0.2.2.2.2.1.getD i (0, [])).1), (105, aP 1 4), (106, aF s218 x0.2.2.2.2.1), (107, aI ((i : Nat) : Int)), (108, aI (((i : Nat) : Int) - 1)), (109, aR s218 (x0.2.2.2.2.1.getD ((((i : Nat) : Int) - 1).toNat) (0, [])) 0), (110, aR s218 (x0.2.2.2.2.1.getD ((((i : Nat) : Int) - 1).toNat) (0, [])) 0), (111, aI (x0.2.2.2.2.1.getD ((((i : Nat) : Int) - 1).toNat) (0, [])).1), (112, aB (decide ((x0.2.2.2.2.1.getD i (0, [])).1 ≤ (x0.2.2.2.2.1.getD ((((i : Nat) : Int) - 1).toNat) (0, [])).1))), (113, aB (decide ((x0.2.2.2.2.1.getD i (0, [])).1 ≤ (x0.2.2.2.2.1.getD ((((i : Nat) : Int) - 1).toNat) (0, [])).1)))], [(1, oX 32 [cI x0.1, cI x0.2.1, .ro (.int 3) x0.2.2.1, .ro s112 x0.2.2.2.1, .ro s218 x0.2.2.2.2.1, cI x0.2.2.2.2.2]), (6, oX 218 [cI (x0.2.2.2.2.1.getD i (0, [])).1, .ro s22 (x0.2.2.2.2.1.getD i (0, [])).2])]⟩ [] gamOK hT h (by kernel_rfl) trivial ?_
                    intro a w h
                    refine then_normal ?_
                    refine wp_ret ?_
                    refine then_ret ?_
                    refine in_ret ?_
                    refine then_ret ?_
                    have hs22 : (allN (fun j => genB x0 j && opnB x0 j) (List.length x0.2.2.2.2.1)) = false := by exact allN_at (i := i) (by omega) (by exact and_f (by first | (left; exact genB_f (by first | (left; assumption) | (right; left; assumption) | (right; right; omega))) | (right; exact opnB_f (by assumption))))
                    refine then_ret ?_
                    refine in_ret ?_
                    refine then_ret ?_
                    exact at_return (S := S_impl_IsValidSink) (x := (x0, ())) (false, ()) [] h (by kernel_rfl) trivial (congrArg (fun z => (z, ())) (show (false) = validS x0 from by (first | (rw [← validS_impl (by assumption) (headS_y (by assumption) (by omega) (by assumption))]; symm; assumption) | exact validS_no (by first | (right; left; assumption) | (left; exact headS_n (by first | (left; assumption) | (right; left; omega) | (right; right; assumption)))))))
                  · replace h21 : ¬ ((x0.2.2.2.2.1.getD i (0, [])).1 ≤ (x0.2.2.2.2.1.getD ((((i : Nat) : Int) - 1).toNat) (0, [])).1) := of_decide_eq_false h21
                    refine wp_skip ?_
                    refine then_normal ?_
                    refine wp_seq ?_
                    refine at_reg [] { ts := [1, 2, 8, 77, 78, 79, 88, 89, 90, 91, 92, 93, 94, 95, 96, 97, 100, 101, 102, 103, 104, 105, 106, 107, 108, 109, 110, 111, 112, 113], os := [1, 6] } ⟨[(1, aP 1 0), (2, aB false), (8, aB (D__impl_Sink_decoderAt x0 (x0.2.2.2.2.1.getD i (0, [])).1).2), (77, aF s218 x0.2.2.2.2.1), (78, aI ((List.length x0.2.2.2.2.1 : Nat) : Int)), (79, aI ((i : Nat) : Int)), (88, aG [cI x0.1, cI x0.2.1, .ro (.int 3) x0.2.2.1, .ro s112 x0.2.2.2.1, .ro s218 x0.2.2.2.2.1, cI x0.2.2.2.2.2]), (89, aP 6 0), (90, aI (x0.2.2.2.2.1.getD i (0, [])).1), (91, aP 6 1), (92, aF s22 (x0.2.2.2.2.1.getD i (0, [])).2), (93, aI ((List.length (x0.2.2.2.2.1.getD i (0, [])).2 : Nat) : Int)), (94, aG [cI (x0.2.2.2.2.1.getD i (0, [])).1, .ro s22 (x0.2.2.2.2.1.getD i (0, [])).2]), (95, aI (colsOf (x0.2.2.2.2.1.getD i (0, [])).2)), (96, aB (fitsS x0 (x0.2.2.2.2.1.getD i (0, [])).1 ((List.length (x0.2.2.2.2.1.getD i (0, [])).2 : Nat) : Int) (colsOf (x0.2.2.2.2.1.getD i (0, [])).2))), (97, aB false), (100, aI ((i : Nat) : Int)), (101, aB true), (102, aB true), (103, aP 6 0), (104, aI (x0.2.2.2.2.1.getD i (0, [])).1), (105, aP 1 4), (106, aF s218 x0.2.2.2.2.1), (107, aI ((i : Nat) : Int)), (108, aI (((i : Nat) : Int) - 1)), (109, aR s218 (x0.2.2.2.2.1.getD ((((i : Nat) : Int) - 1).toNat) (0, [])) 0), (110, aR s218 (x0.2.2.2.2.1.getD ((((i : Nat) : Int) - 1).toNat) (0, [])) 0), (111, aI (x0.2.2.2.2.1.getD ((((i : Nat) : Int) - 1).toNat) (0, [])).1), (112, aB (decide ((x0.2.2.2.2.1.getD i (0, [])).1 ≤ (x0.2.2.2.2.1.getD ((((i : Nat) : Int) - 1).toNat) (0, [])).1))), (113, aB (decide ((x0.2.2.2.2.1.getD i (0, [])).1 ≤ (x0.2.2.2.2.1.getD ((((i : Nat) : Int) - 1).toNat) (0, [])).1)))], [(1, oX 32 [cI x0.1, cI x0.2.1, .ro (.int 3) x0.2.2.1, .ro s112 x0.2.2.2.1, .ro s218 x0.2.2.2.2.1, cI x0.2.2.2.2.2]), (6, oX 218 [cI (x0.2.2.2.2.1.getD i (0, [])).1, .ro s22 (x0.2.2.2.2.1.getD i (0, [])).2])]⟩ [(fun (x0 : T32) (x1 : Int) => Sh.fit s32 x0) x0 (x0.2.2.2.2.1.getD i (0, [])).1] gamOK hT h (by kernel_rfl) ⟨(by exact hf0), trivial⟩ ?_
                    intro a w h
                    refine then_normal ?_
                    refine wp_seq ?_
                    refine at_regq [] { ts := [1, 2, 77, 78, 79, 88, 89, 90, 91, 92, 93, 94, 95, 96, 97, 100, 101, 102, 103, 104, 105, 106, 107, 108, 109, 110, 111, 112, 113, 122], os := [1, 6] } [] gamOK hT h (by kernel_rfl) trivial ?_
                    intro a w h
                    refine then_normal ?_
                    refine at_test ((D__impl_Sink_decoderAt x0 (x0.2.2.2.2.1.getD i (0, [])).1).2) h (by kernel_rfl) (fun h23 => ?_) (fun h23 => ?_)
                    · refine wp_seq ?_
                      refine at_regq [] { ts := [1, 2, 77, 78, 79, 88, 89, 90, 91, 92, 93, 94, 95, 96, 97, 100, 101, 102, 103, 104, 105, 106, 107, 108, 109, 110, 111, 112, 113], os := [1, 6] } [] gamOK hT h (by kernel_rfl) trivial ?_
                      intro a w h
                      refine then_normal ?_
                      refine wp_ret ?_
                      refine in_ret ?_
                      refine then_ret ?_
                      have hs24 : (allN (fun j => genB x0 j && opnB x0 j) (List.length x0.2.2.2.2.1)) = false := by exact allN_at (i := i) (by omega) (by exact and_f (by first | (left; exact genB_f (by first | (left; assumption) | (right; left; assumption) | (right; right; omega))) | (right; exact opnB_f (by assumption))))
                      refine then_ret ?_
                      refine in_ret ?_
                      refine then_ret ?_
                      exact at_return (S := S_impl_IsValidSink) (x := (x0, ())) (false, ()) [] h (by kernel_rfl) trivial (congrArg (fun z => (z, ())) (show (false) = validS x0 from by (first | (rw [← validS_impl (by assumption) (headS_y (by assumption) (by omega) (by assumption))]; symm; assumption) | exact validS_no (by first | (right; left; assumption) | (left; exact headS_n (by first | (left; assumption) | (right; left; omega) | (right; right; assumption)))))))
                    · refine wp_skip ?_
                      refine in_normal ?_
                      refine then_normal ?_
                      refine at_regq [{ nw := true }] { ts := [1, 2, 77, 78, 79, 88, 89, 90, 91, 92, 93, 94, 95, 96, 97, 100, 101, 102, 103, 104, 105, 106, 107, 108, 109, 110, 111, 112, 113], os := [1, 6] } [I64 (((i : Nat) : Int) + 1)] gamOK hT h (by kernel_rfl) ⟨⟨by first | omega | (simp only [lsA]; omega) | (simp; done) | (simp; omega) | done, by first | omega | (simp only [lsA]; omega) | (simp; done) | (simp; omega) | done⟩, trivial⟩ ?_
                      intro a w h
                      replace h := at_out (σ' := ⟨[(1, aP 1 0), (2, aB false), (77, aF s218 x0.2.2.2.2.1), (78, aI ((List.length x0.2.2.2.2.1 : Nat) : Int)), (79, aI (((i : Nat) : Int) + 1))], [(1, oX 32 [cI x0.1, cI x0.2.1, .ro (.int 3) x0.2.2.1, .ro s112 x0.2.2.2.1, .ro s218 x0.2.2.2.2.1, cI x0.2.2.2.2.2])]⟩) { ts := [1, 2, 77, 78, 79], os := [1] } h (by kernel_rfl)
                      exact ⟨i + 1, at_eq h (st_congr1 (fun (d0 : Int) => (⟨[(1, aP 1 0), (2, aB false), (77, aF s218 x0.2.2.2.2.1), (78, aI ((List.length x0.2.2.2.2.1 : Nat) : Int)), (79, aI d0)], [(1, oX 32 [cI x0.1, cI x0.2.1, .ro (.int 3) x0.2.2.1, .ro s112 x0.2.2.2.1, .ro s218 x0.2.2.2.2.1, cI x0.2.2.2.2.2])]⟩ : St)) (show (((i : Nat) : Int) + 1 : Int) = (((i + 1) : Nat) : Int) from by first | with_reducible rfl | (omega) | rfl)), (by exact ⟨by omega, allN_succ hok1.2 (by exact and_t (genB_t (by assumption) (by assumption) (by omega)) (opnB_t (by assumption)))⟩), (by omega)⟩
                · skip
                  refine at_anyq [{}, {}, { hint := some (aB false) }, {}, {}, {}, {}, {}, {}, {}, {}, {}, {}, { hint := some (aB false) }, {}, {}, {}, { hint := some (aB false) }, {}, {}, {}, {}, {}, {}, {}, {}, {}, {}, {}, {}, {}] { ts := [1, 2, 6, 77, 78, 79, 88, 89, 90, 91, 92, 93, 94, 95, 96, 97, 100, 101, 102, 103, 104, 105, 106, 107, 108, 109, 110, 111, 112, 113, 114], os := [1, 6] } [(fun (x0 : T218) => Sh.fit s218 x0) (x0.2.2.2.2.1.getD i (0, [])), (AV.p (.c (.v (.bool (!(validG (x0.2.2.2.2.1.getD i (0, []))))))) = AV.p (.c (.v (.bool false)))), (fun (x0 : T218) => Sh.fit s218 x0) (x0.2.2.2.2.1.getD i (0, [])), (fun (x0 : T32) (x1 : Int) (x2 : Int) (x3 : Int) => Sh.fit s32 x0) x0 (x0.2.2.2.2.1.getD i (0, [])).1 ((List.length (x0.2.2.2.2.1.getD i (0, [])).2 : Nat) : Int) (colsOf (x0.2.2.2.2.1.getD i (0, [])).2), (AV.p (.c (.v (.bool (!(fitsS x0 (x0.2.2.2.2.1.getD i (0, [])).1 ((List.length (x0.2.2.2.2.1.getD i (0, [])).2 : Nat) : Int) (colsOf (x0.2.2.2.2.1.getD i (0, [])).2)))))) = AV.p (.c (.v (.bool false)))), (AV.p (.c (.v (.bool (decide (((i : Nat) : Int) > 0))))) = AV.p (.c (.v (.bool false))))] gamOK hT mixed h (by kernel_rfl) ⟨(by exact (Sh.fit_getD hf0.2.2.2.2.1 i)), hint_bool (h16), (by exact (Sh.fit_getD hf0.2.2.2.2.1 i)), (by exact hf0), hint_bool (h18), hint_bool (decide_eq_false h20), trivial⟩ ?_
                  intro a w h
                  refine then_normal ?_
                  refine at_test false h (by kernel_rfl) (fun hh => nomatch hh) (fun hh => ?_)
                  refine wp_skip ?_
                  refine then_normal ?_
                  refine wp_seq ?_
                  refine at_reg [] { ts := [1, 2, 8, 77, 78, 79, 88, 89, 90, 91, 92, 93, 94, 95, 96, 97, 100, 101, 102, 103, 104, 105, 106, 107, 108, 109, 110, 111, 112, 113], os := [1, 6] } ⟨[(1, aP 1 0), (2, aB false), (8, aB (D__impl_Sink_decoderAt x0 (x0.2.2.2.2.1.getD i (0, [])).1).2), (77, aF s218 x0.2.2.2.2.1), (78, aI ((List.length x0.2.2.2.2.1 : Nat) : Int)), (79, aI ((i : Nat) : Int)), (88, aG [cI x0.1, cI x0.2.1, .ro (.int 3) x0.2.2.1, .ro s112 x0.2.2.2.1, .ro s218 x0.2.2.2.2.1, cI x0.2.2.2.2.2]), (89, aP 6 0), (90, aI (x0.2.2.2.2.1.getD i (0, [])).1), (91, aP 6 1), (92, aF s22 (x0.2.2.2.2.1.getD i (0, [])).2), (93, aI ((List.length (x0.2.2.2.2.1.getD i (0, [])).2 : Nat) : Int)), (94, aG [cI (x0.2.2.2.2.1.getD i (0, [])).1, .ro s22 (x0.2.2.2.2.1.getD i (0, [])).2]), (95, aI (colsOf (x0.2.2.2.2.1.getD i (0, [])).2)), (96, aB (fitsS x0 (x0.2.2.2.2.1.getD i (0, [])).1 ((List.length (x0.2.2.2.2.1.getD i (0, [])).2 : Nat) : Int) (colsOf (x0.2.2.2.2.1.getD i (0, [])).2))), (97, aB false), (100, aI ((i : Nat) : Int)), (101, aB false), (102, aB false), (103, .p (.c (.v undef))), (104, .p (.c (.v undef))), (105, .p (.c (.v undef))), (106, .p (.c (.v undef))), (107, .p (.c (.v undef))), (108, .p (.c (.v undef))), (109, .p (.c (.v undef))), (110, .p (.c (.v undef))), (111, .p (.c (.v undef))), (112, .p (.c (.v undef))), (113, aB false)], [(1, oX 32 [cI x0.1, cI x0.2.1, .ro (.int 3) x0.2.2.1, .ro s112 x0.2.2.2.1, .ro s218 x0.2.2.2.2.1, cI x0.2.2.2.2.2]), (6, oX 218 [cI (x0.2.2.2.2.1.getD i (0, [])).1, .ro s22 (x0.2.2.2.2.1.getD i (0, [])).2])]⟩ [(fun (x0 : T32) (x1 : Int) => Sh.fit s32 x0) x0 (x0.2.2.2.2.1.getD i (0, [])).1] gamOK hT h (by kernel_rfl) ⟨(by exact hf0), trivial⟩ ?_
                  intro a w h
                  refine then_normal ?_
                  refine wp_seq ?_
                  refine at_regq [] { ts := [1, 2, 77, 78, 79, 88, 89, 90, 91, 92, 93, 94, 95, 96, 97, 100, 101, 102, 103, 104, 105, 106, 107, 108, 109, 110, 111, 112, 113, 122], os := [1, 6] } [] gamOK hT h (by kernel_rfl) trivial ?_
                  intro a w h
                  refine then_normal ?_
                  refine at_test ((D__impl_Sink_decoderAt x0 (x0.2.2.2.2.1.getD i (0, [])).1).2) h (by kernel_rfl) (fun h25 => ?_) (fun h25 => ?_)
                  · refine wp_seq ?_
                    refine at_regq [] { ts := [1, 2, 77, 78, 79, 88, 89, 90, 91, 92, 93, 94, 95, 96, 97, 100, 101, 102, 103, 104, 105, 106, 107, 108, 109, 110, 111, 112, 113], os := [1, 6] } [] gamOK hT h (by kernel_rfl) trivial ?_
                    intro a w h
                    refine then_normal ?_
                    refine wp_ret ?_
                    refine in_ret ?_
                    refine then_ret ?_
                    have hs26 : (allN (fun j => genB x0 j && opnB x0 j) (List.length x0.2.2.2.2.1)) = false := by exact allN_at (i := i) (by omega) (by exact and_f (by first | (left; exact genB_f (by first | (left; assumption) | (right; left; assumption) | (right; right; omega))) | (right; exact opnB_f (by assumption))))
                    refine then_ret ?_
                    refine in_ret ?_
                    refine then_ret ?_
                    exact at_return (S := S_impl_IsValidSink) (x := (x0, ())) (false, ()) [] h (by kernel_rfl) trivial (congrArg (fun z => (z, ())) (show (false) = validS x0 from by (first | (rw [← validS_impl (by assumption) (headS_y (by assumption) (by omega) (by assumption))]; symm; assumption) | exact validS_no (by first | (right; left; assumption) | (left; exact headS_n (by first | (left; assumption) | (right; left; omega) | (right; right; assumption)))))))
                  · refine wp_skip ?_
                    refine in_normal ?_
                    refine then_normal ?_
                    refine at_regq [{ nw := true }] { ts := [1, 2, 77, 78, 79, 88, 89, 90, 91, 92, 93, 94, 95, 96, 97, 100, 101, 102, 103, 104, 105, 106, 107, 108, 109, 110, 111, 112, 113], os := [1, 6] } [I64 (((i : Nat) : Int) + 1)] gamOK hT h (by kernel_rfl) ⟨⟨by first | omega | (simp only [lsA]; omega) | (simp; done) | (simp; omega) | done, by first | omega | (simp only [lsA]; omega) | (simp; done) | (simp; omega) | done⟩, trivial⟩ ?_
                    intro a w h
                    replace h := at_out (σ' := ⟨[(1, aP 1 0), (2, aB false), (77, aF s218 x0.2.2.2.2.1), (78, aI ((List.length x0.2.2.2.2.1 : Nat) : Int)), (79, aI (((i : Nat) : Int) + 1))], [(1, oX 32 [cI x0.1, cI x0.2.1, .ro (.int 3) x0.2.2.1, .ro s112 x0.2.2.2.1, .ro s218 x0.2.2.2.2.1, cI x0.2.2.2.2.2])]⟩) { ts := [1, 2, 77, 78, 79], os := [1] } h (by kernel_rfl)
                    exact ⟨i + 1, at_eq h (st_congr1 (fun (d0 : Int) => (⟨[(1, aP 1 0), (2, aB false), (77, aF s218 x0.2.2.2.2.1), (78, aI ((List.length x0.2.2.2.2.1 : Nat) : Int)), (79, aI d0)], [(1, oX 32 [cI x0.1, cI x0.2.1, .ro (.int 3) x0.2.2.1, .ro s112 x0.2.2.2.1, .ro s218 x0.2.2.2.2.1, cI x0.2.2.2.2.2])]⟩ : St)) (show (((i : Nat) : Int) + 1 : Int) = (((i + 1) : Nat) : Int) from by first | with_reducible rfl | (omega) | rfl)), (by exact ⟨by omega, allN_succ hok1.2 (by exact and_t (genB_t (by assumption) (by assumption) (by omega)) (opnB_t (by assumption)))⟩), (by omega)⟩
          · replace h15 : ¬ (((i : Nat) : Int) < ((List.length x0.2.2.2.2.1 : Nat) : Int)) := of_decide_eq_false h15
            refine wp_exit ?_
            refine then_exit ?_
            have hs27 : (allN (fun j => genB x0 j && opnB x0 j) (List.length x0.2.2.2.2.1)) = true := by exact allN_eq (by omega) hok1.1 hok1.2
            refine then_exit ?_
            refine in_hit ?_
            refine then_normal ?_
            refine wp_seq ?_
            refine at_regq [] { ts := [2], os := [] } [] gamOK hT h (by kernel_rfl) trivial ?_
            intro a w h
            refine then_normal ?_
            refine wp_ret ?_
            exact at_return (S := S_impl_IsValidSink) (x := (x0, ())) (true, ()) [] h (by kernel_rfl) trivial (congrArg (fun z => (z, ())) (show (true) = validS x0 from by (first | (rw [← validS_impl (by assumption) (headS_y (by assumption) (by omega) (by assumption))]; symm; assumption) | exact validS_no (by first | (right; left; assumption) | (left; exact headS_n (by first | (left; assumption) | (right; left; omega) | (right; right; assumption)))))))

def S_spec_IsValidSink : Sum := { fid := 83, dom := [s32], cod := [(.bool 4)], dp := true, fz := false, pre := fun x => (fun (x0 : T32) => Sh.fit s32 x0) x.1, g := fun x => ((validS x.1), ()) }
def S_spec_IsValidSink_tab : List (Nat × Sum) := [(103, S_spec_l1In), (179, S_spec_l30Sizes), (141, S_spec_IsValidDecoder), (180, S_spec_IsComplete), (181, S_spec_l30Fits), (104, S_spec_l30Done), (172, S_spec_IsValidGeneration), (173, S_spec_ColumnsOf)]
theorem S_spec_IsValidSink_ok : FnOK Try.prog 83 S_spec_IsValidSink := by
  refine at_enter 134 (fun x => ⟨[(0, aG [cI x.1.1, cI x.1.2.1, .ro (.int 3) x.1.2.2.1, .ro s112 x.1.2.2.2.1, .ro s218 x.1.2.2.2.2.1, cI x.1.2.2.2.2.2])], []⟩) Try.func83 rfl (by kernel_rfl) (fun x => rfl) ?_
  rintro w0 Z0 ⟨x0, u⟩ a w
  revert x0
  intro (x0 : T32) hpre hlens h
  replace h : At w0 Z0 [] 134 ⟨[(0, aG [cI x0.1, cI x0.2.1, .ro (.int 3) x0.2.2.1, .ro s112 x0.2.2.2.1, .ro s218 x0.2.2.2.2.1, cI x0.2.2.2.2.2])], []⟩ a w := h
  replace hpre : (fun (x0 : T32) => Sh.fit s32 x0) x0 := hpre
  have hl1 : List.length x0.2.2.1 ≤ 9223372036854775807 := hlens.1.2.2.1.1
  have hl2 : List.length x0.2.2.2.1 ≤ 9223372036854775807 := hlens.1.2.2.2.1.1
  have hl3 : List.length x0.2.2.2.2.1 ≤ 9223372036854775807 := hlens.1.2.2.2.2.1.1
  have hT : TabOK Try.prog S_spec_IsValidSink_tab := (.cons S_spec_l1In_ok (.cons S_spec_l30Sizes_ok (.cons S_spec_IsValidDecoder_ok (.cons S_spec_IsComplete_ok (.cons S_spec_l30Fits_ok (.cons S_spec_l30Done_ok (.cons S_spec_IsValidGeneration_ok (.cons S_spec_ColumnsOf_ok .nil))))))))
  have hf0 : Sh.fit s32 x0 := hpre
  have hn0_1 : List.length x0.2.2.1 ≤ 1073741824 := hf0.2.2.1.1
  have hn0_2 : List.length x0.2.2.2.1 ≤ 1073741824 := hf0.2.2.2.1.1
  have hn0_3 : List.length x0.2.2.2.2.1 ≤ 1073741824 := hf0.2.2.2.2.1.1
  refine wp_seq ?_
  refine at_regq [{ ids := [1] }] { ts := [1, 2], os := [1] } [] gamOK hT h (by kernel_rfl) trivial ?_
  intro a w h
  refine then_normal ?_
  refine wp_seq ?_
  refine wp_seq ?_
  rcases Bool.eq_false_or_eq_true (!(inR x0.1 0 7)) with h1 | h1
  · skip
    have hzh1 : (inR x0.1 0 7) = false := notT h1
    have hvh1 := inR_f (notT h1)
    refine at_regq [{}, {}, {}, { hint := some (aB true) }] { ts := [1, 2, 37], os := [1] } [True, (AV.p (.c (.v (.bool (!(inR x0.1 0 7))))) = AV.p (.c (.v (.bool true))))] gamOK hT h (by kernel_rfl) ⟨trivial, hint_bool (h1), trivial⟩ ?_
    intro a w h
    refine then_normal ?_
    refine at_test true h (by kernel_rfl) (fun hh => ?_) (fun hh => nomatch hh)
    refine wp_seq ?_
    refine at_regq [] { ts := [1, 2], os := [1] } [] gamOK hT h (by kernel_rfl) trivial ?_
    intro a w h
    refine then_normal ?_
    refine wp_ret ?_
    refine then_ret ?_
    exact at_return (S := S_spec_IsValidSink) (x := (x0, ())) (false, ()) [] h (by kernel_rfl) trivial (congrArg (fun z => (z, ())) (show (false) = validS x0 from by (first | (rw [← validS_spec (by assumption) (headS_y2 (by assumption) (by assumption) (by assumption) (by omega) (by assumption))]; symm; assumption) | exact validS_no (by first | (right; right; assumption) | (left; exact headS_n2 (by first | (left; assumption) | (right; left; assumption) | (right; right; left; assumption) | (right; right; right; left; omega) | (right; right; right; right; assumption)))))))
  · skip
    have hzh1 : (inR x0.1 0 7) = true := notF h1
    have hvh1 := inR_t (notF h1)
    rcases Bool.eq_false_or_eq_true (!(inR x0.2.1 1 16)) with h2 | h2
    · skip
      have hzh2 : (inR x0.2.1 1 16) = false := notT h2
      have hvh2 := inR_f (notT h2)
      refine at_regq [{}, {}, {}, { hint := some (aB false) }, {}, {}, {}, {}, { hint := some (aB true) }] { ts := [1, 2, 37], os := [1] } [True, (AV.p (.c (.v (.bool (!(inR x0.1 0 7))))) = AV.p (.c (.v (.bool false)))), True, (AV.p (.c (.v (.bool (!(inR x0.2.1 1 16))))) = AV.p (.c (.v (.bool true))))] gamOK hT h (by kernel_rfl) ⟨trivial, hint_bool (h1), trivial, hint_bool (h2), trivial⟩ ?_
      intro a w h
      refine then_normal ?_
      refine at_test true h (by kernel_rfl) (fun hh => ?_) (fun hh => nomatch hh)
      refine wp_seq ?_
      refine at_regq [] { ts := [1, 2], os := [1] } [] gamOK hT h (by kernel_rfl) trivial ?_
      intro a w h
      refine then_normal ?_
      refine wp_ret ?_
      refine then_ret ?_
      exact at_return (S := S_spec_IsValidSink) (x := (x0, ())) (false, ()) [] h (by kernel_rfl) trivial (congrArg (fun z => (z, ())) (show (false) = validS x0 from by (first | (rw [← validS_spec (by assumption) (headS_y2 (by assumption) (by assumption) (by assumption) (by omega) (by assumption))]; symm; assumption) | exact validS_no (by first | (right; right; assumption) | (left; exact headS_n2 (by first | (left; assumption) | (right; left; assumption) | (right; right; left; assumption) | (right; right; right; left; omega) | (right; right; right; right; assumption)))))))
    · skip
      have hzh2 : (inR x0.2.1 1 16) = true := notF h2
      have hvh2 := inR_t (notF h2)
      rcases Bool.eq_false_or_eq_true (!(D_spec_l30Sizes x0.2.2.1)) with h3 | h3
      · skip
        have hzh3 : (D_spec_l30Sizes x0.2.2.1) = false := notT h3
        refine at_regq [{}, {}, {}, { hint := some (aB false) }, {}, {}, {}, {}, { hint := some (aB false) }, {}, {}, {}, {}, {}, { hint := some (aB true) }] { ts := [1, 2, 37], os := [1] } [True, (AV.p (.c (.v (.bool (!(inR x0.1 0 7))))) = AV.p (.c (.v (.bool false)))), True, (AV.p (.c (.v (.bool (!(inR x0.2.1 1 16))))) = AV.p (.c (.v (.bool false)))), True, (AV.p (.c (.v (.bool (!(D_spec_l30Sizes x0.2.2.1))))) = AV.p (.c (.v (.bool true))))] gamOK hT h (by kernel_rfl) ⟨trivial, hint_bool (h1), trivial, hint_bool (h2), trivial, hint_bool (h3), trivial⟩ ?_
        intro a w h
        refine then_normal ?_
        refine at_test true h (by kernel_rfl) (fun hh => ?_) (fun hh => nomatch hh)
        refine wp_seq ?_
        refine at_regq [] { ts := [1, 2], os := [1] } [] gamOK hT h (by kernel_rfl) trivial ?_
        intro a w h
        refine then_normal ?_
        refine wp_ret ?_
        refine then_ret ?_
        exact at_return (S := S_spec_IsValidSink) (x := (x0, ())) (false, ()) [] h (by kernel_rfl) trivial (congrArg (fun z => (z, ())) (show (false) = validS x0 from by (first | (rw [← validS_spec (by assumption) (headS_y2 (by assumption) (by assumption) (by assumption) (by omega) (by assumption))]; symm; assumption) | exact validS_no (by first | (right; right; assumption) | (left; exact headS_n2 (by first | (left; assumption) | (right; left; assumption) | (right; right; left; assumption) | (right; right; right; left; omega) | (right; right; right; right; assumption)))))))
      · skip
        have hzh3 : (D_spec_l30Sizes x0.2.2.1) = true := notF h3
        by_cases h4 : ((List.length x0.2.2.2.1 : Nat) : Int) > 4
        · skip
          refine at_regq [{}, {}, {}, { hint := some (aB false) }, {}, {}, {}, {}, { hint := some (aB false) }, {}, {}, {}, {}, {}, { hint := some (aB false) }, {}, {}, {}, {}, {}, { hint := some (aB true) }] { ts := [1, 2, 37], os := [1] } [True, (AV.p (.c (.v (.bool (!(inR x0.1 0 7))))) = AV.p (.c (.v (.bool false)))), True, (AV.p (.c (.v (.bool (!(inR x0.2.1 1 16))))) = AV.p (.c (.v (.bool false)))), True, (AV.p (.c (.v (.bool (!(D_spec_l30Sizes x0.2.2.1))))) = AV.p (.c (.v (.bool false)))), (AV.p (.c (.v (.bool (decide (((List.length x0.2.2.2.1 : Nat) : Int) > 4))))) = AV.p (.c (.v (.bool true))))] gamOK hT h (by kernel_rfl) ⟨trivial, hint_bool (h1), trivial, hint_bool (h2), trivial, hint_bool (h3), hint_bool (decide_eq_true h4), trivial⟩ ?_
          intro a w h
          refine then_normal ?_
          refine at_test true h (by kernel_rfl) (fun hh => ?_) (fun hh => nomatch hh)
          refine wp_seq ?_
          refine at_regq [] { ts := [1, 2], os := [1] } [] gamOK hT h (by kernel_rfl) trivial ?_
          intro a w h
          refine then_normal ?_
          refine wp_ret ?_
          refine then_ret ?_
          exact at_return (S := S_spec_IsValidSink) (x := (x0, ())) (false, ()) [] h (by kernel_rfl) trivial (congrArg (fun z => (z, ())) (show (false) = validS x0 from by (first | (rw [← validS_spec (by assumption) (headS_y2 (by assumption) (by assumption) (by assumption) (by omega) (by assumption))]; symm; assumption) | exact validS_no (by first | (right; right; assumption) | (left; exact headS_n2 (by first | (left; assumption) | (right; left; assumption) | (right; right; left; assumption) | (right; right; right; left; omega) | (right; right; right; right; assumption)))))))
        · skip
          refine at_regq [{}, {}, {}, { hint := some (aB false) }, {}, {}, {}, {}, { hint := some (aB false) }, {}, {}, {}, {}, {}, { hint := some (aB false) }, {}, {}, {}, {}, {}, { hint := some (aB false) }] { ts := [1, 2, 37], os := [1] } [True, (AV.p (.c (.v (.bool (!(inR x0.1 0 7))))) = AV.p (.c (.v (.bool false)))), True, (AV.p (.c (.v (.bool (!(inR x0.2.1 1 16))))) = AV.p (.c (.v (.bool false)))), True, (AV.p (.c (.v (.bool (!(D_spec_l30Sizes x0.2.2.1))))) = AV.p (.c (.v (.bool false)))), (AV.p (.c (.v (.bool (decide (((List.length x0.2.2.2.1 : Nat) : Int) > 4))))) = AV.p (.c (.v (.bool false)))), True] gamOK hT h (by kernel_rfl) ⟨trivial, hint_bool (h1), trivial, hint_bool (h2), trivial, hint_bool (h3), hint_bool (decide_eq_false h4), trivial, trivial⟩ ?_
          intro a w h
          refine then_normal ?_
          refine at_test (!(inR x0.2.2.2.2.2 0 ((List.length x0.2.2.2.2.1 : Nat) : Int))) h (by kernel_rfl) (fun h5 => ?_) (fun h5 => ?_)
          · replace h5 : (inR x0.2.2.2.2.2 0 ((List.length x0.2.2.2.2.1 : Nat) : Int)) = false := notT h5
            have hvh5 := inR_f h5
            refine wp_seq ?_
            refine at_regq [] { ts := [1, 2], os := [1] } [] gamOK hT h (by kernel_rfl) trivial ?_
            intro a w h
            refine then_normal ?_
            refine wp_ret ?_
            refine then_ret ?_
            exact at_return (S := S_spec_IsValidSink) (x := (x0, ())) (false, ()) [] h (by kernel_rfl) trivial (congrArg (fun z => (z, ())) (show (false) = validS x0 from by (first | (rw [← validS_spec (by assumption) (headS_y2 (by assumption) (by assumption) (by assumption) (by omega) (by assumption))]; symm; assumption) | exact validS_no (by first | (right; right; assumption) | (left; exact headS_n2 (by first | (left; assumption) | (right; left; assumption) | (right; right; left; assumption) | (right; right; right; left; omega) | (right; right; right; right; assumption)))))))
          · replace h5 : (inR x0.2.2.2.2.2 0 ((List.length x0.2.2.2.2.1 : Nat) : Int)) = true := notF h5
            have hvh5 := inR_t h5
            refine wp_skip ?_
            refine then_normal ?_
            refine wp_seq ?_
            refine wp_seq ?_
            refine at_regq [] { ts := [1, 2, 3], os := [1] } [] gamOK hT h (by kernel_rfl) trivial ?_
            intro a w h
            refine then_normal ?_
            refine wp_block ?_
            replace h := at_out (σ' := ⟨[(1, aP 1 0), (2, aB false), (3, aI 0)], [(1, oX 32 [cI x0.1, cI x0.2.1, .ro (.int 3) x0.2.2.1, .ro s112 x0.2.2.2.1, .ro s218 x0.2.2.2.2.1, cI x0.2.2.2.2.2])]⟩) { ts := [1, 2, 3], os := [1] } h (by kernel_rfl)
            refine at_loop (fun i : Nat => (⟨[(1, aP 1 0), (2, aB false), (3, aI ((i : Nat) : Int))], [(1, oX 32 [cI x0.1, cI x0.2.1, .ro (.int 3) x0.2.2.1, .ro s112 x0.2.2.2.1, .ro s218 x0.2.2.2.2.1, cI x0.2.2.2.2.2])]⟩ : St)) (fun i => (i ≤ (List.length x0.2.2.2.1) ∧ allN (fun i => decB x0 i && clsB x0 i) i = true)) (fun i => (List.length x0.2.2.2.1) - i) (0) h (st_congr1 (fun (d0 : Int) => (⟨[(1, aP 1 0), (2, aB false), (3, aI d0)], [(1, oX 32 [cI x0.1, cI x0.2.1, .ro (.int 3) x0.2.2.1, .ro s112 x0.2.2.2.1, .ro s218 x0.2.2.2.2.1, cI x0.2.2.2.2.2])]⟩ : St)) (show (0 : Int) = (((0) : Nat) : Int) from by first | with_reducible rfl | (rfl) | rfl)) (by exact ⟨Nat.zero_le _, rfl⟩) ?_
            intro i a w hok0 h
            refine wp_seq ?_
            refine wp_seq ?_
            refine at_regq [] { ts := [1, 2, 3, 42], os := [1] } [] gamOK hT h (by kernel_rfl) trivial ?_
            intro a w h
            refine then_normal ?_
            refine at_test (decide (((i : Nat) : Int) < ((List.length x0.2.2.2.1 : Nat) : Int))) h (by kernel_rfl) (fun h6 => ?_) (fun h6 => ?_)
            · replace h6 : ((i : Nat) : Int) < ((List.length x0.2.2.2.1 : Nat) : Int) := of_decide_eq_true h6
              refine wp_skip ?_
              refine then_normal ?_
              refine wp_seq ?_
              refine wp_block ?_
              refine wp_seq ?_
              refine at_regq [{}, {}, {}, {}, {}, { ids := [2] }] { ts := [1, 2, 3, 4], os := [1, 2] } [(0 : Int) ≤ ((i : Nat) : Int) ∧ ((i : Nat) : Int) < ((List.length x0.2.2.2.1 : Nat) : Int)] gamOK hT h (by kernel_rfl) ⟨(by refine ⟨?_, ?_⟩ <;> (first | omega | (simp only [lsA]; omega) | (simp; done) | (simp; omega) | done)), trivial⟩ ?_
              intro a w h
              refine then_normal ?_
              refine wp_seq ?_
              rcases Bool.eq_false_or_eq_true (!(validD (x0.2.2.2.1.getD i (0, (0, (0, (0, []))))))) with h7 | h7
              · skip
                have hzh7 : (validD (x0.2.2.2.1.getD i (0, (0, (0, (0, [])))))) = false := notT h7
                refine at_anyq [{}, {}, { hint := some (aB true) }, {}, {}, {}, {}, {}, {}, {}, {}, {}, {}, {}, {}, {}, {}, {}, {}, {}, {}, {}, {}, {}, {}, {}, {}, {}, {}, {}, {}, {}, {}, {}, {}, {}, {}, {}, {}, {}] { ts := [1, 2, 3, 54, 55, 58, 59, 60, 61, 62, 63, 64, 65, 66, 69, 70, 71, 72, 73, 74, 75, 76, 77, 78, 79, 80, 81, 82, 85, 86, 87, 88, 89], os := [1] } [(fun (x0 : T112) => Sh.fit s112 x0) (x0.2.2.2.1.getD i (0, (0, (0, (0, []))))), (AV.p (.c (.v (.bool (!(validD (x0.2.2.2.1.getD i (0, (0, (0, (0, [])))))))))) = AV.p (.c (.v (.bool true))))] gamOK hT mixed h (by kernel_rfl) ⟨(by exact (Sh.fit_getD hf0.2.2.2.1 i)), hint_bool (h7), trivial⟩ ?_
                intro a w h
                refine then_normal ?_
                refine at_test true h (by kernel_rfl) (fun hh => ?_) (fun hh => nomatch hh)
                refine wp_seq ?_
                refine at_regq [] { ts := [1, 2, 3, 54, 55, 58, 59, 60, 61, 62, 63, 64, 65, 66, 69, 70, 71, 72, 73, 74, 75, 76, 77, 78, 79, 80, 81, 82, 85, 86, 87, 88], os := [1] } [] gamOK hT h (by kernel_rfl) trivial ?_
                intro a w h
                refine then_normal ?_
                refine wp_ret ?_
                refine in_ret ?_
                refine then_ret ?_
                have hs8 : (allN (fun i => decB x0 i && clsB x0 i) (List.length x0.2.2.2.1)) = false := by exact allN_at (i := i) (by omega) (by exact and_f (by first | (left; exact decB_f (by first | (left; assumption) | (right; left; simp_all [D_spec_IsComplete]; done) | (right; right; left; assumption) | (right; right; right; omega))) | (right; simp_all [clsB, D_spec_l30Done]; done)))
                refine then_ret ?_
                refine in_ret ?_
                refine then_ret ?_
                exact at_return (S := S_spec_IsValidSink) (x := (x0, ())) (false, ()) [] h (by kernel_rfl) trivial (congrArg (fun z => (z, ())) (show (false) = validS x0 from by (first | (rw [← validS_spec (by assumption) (headS_y2 (by assumption) (by assumption) (by assumption) (by omega) (by assumption))]; symm; assumption) | exact validS_no (by first | (right; right; assumption) | (left; exact headS_n2 (by first | (left; assumption) | (right; left; assumption) | (right; right; left; assumption) | (right; right; right; left; omega) | (right; right; right; right; assumption)))))))
              · skip
                have hzh7 : (validD (x0.2.2.2.1.getD i (0, (0, (0, (0, [])))))) = true := notF h7
                have hvh7 := validD_t (notF h7)
                rcases Bool.eq_false_or_eq_true ((D_spec_IsComplete (x0.2.2.2.1.getD i (0, (0, (0, (0, []))))))) with h9 | h9
                · skip
                  refine at_anyq [{}, {}, { hint := some (aB false) }, {}, {}, { hint := some (aB true) }, {}, {}, {}, {}, {}, {}, {}, {}, {}, {}, {}, {}, {}, {}, {}, {}, {}, {}, {}, {}, {}, {}, {}, {}, {}, {}, {}, {}, {}, {}, {}, {}, {}, {}] { ts := [1, 2, 3, 54, 55, 58, 59, 60, 61, 62, 63, 64, 65, 66, 69, 70, 71, 72, 73, 74, 75, 76, 77, 78, 79, 80, 81, 82, 85, 86, 87, 88, 89], os := [1] } [(fun (x0 : T112) => Sh.fit s112 x0) (x0.2.2.2.1.getD i (0, (0, (0, (0, []))))), (AV.p (.c (.v (.bool (!(validD (x0.2.2.2.1.getD i (0, (0, (0, (0, [])))))))))) = AV.p (.c (.v (.bool false)))), (fun (x0 : T112) => Sh.fit s112 x0) (x0.2.2.2.1.getD i (0, (0, (0, (0, []))))), (AV.p (.c (.v (.bool ((D_spec_IsComplete (x0.2.2.2.1.getD i (0, (0, (0, (0, [])))))))))) = AV.p (.c (.v (.bool true))))] gamOK hT mixed h (by kernel_rfl) ⟨(by exact (Sh.fit_getD hf0.2.2.2.1 i)), hint_bool (h7), (by exact (Sh.fit_getD hf0.2.2.2.1 i)), hint_bool (h9), trivial⟩ ?_
                  intro a w h
                  refine then_normal ?_
                  refine at_test true h (by kernel_rfl) (fun hh => ?_) (fun hh => nomatch hh)
                  refine wp_seq ?_
                  refine at_regq [] { ts := [1, 2, 3, 54, 55, 58, 59, 60, 61, 62, 63, 64, 65, 66, 69, 70, 71, 72, 73, 74, 75, 76, 77, 78, 79, 80, 81, 82, 85, 86, 87, 88], os := [1] } [] gamOK hT h (by kernel_rfl) trivial ?_
                  intro a w h
                  refine then_normal ?_
                  refine wp_ret ?_
                  refine in_ret ?_
                  refine then_ret ?_
                  have hs10 : (allN (fun i => decB x0 i && clsB x0 i) (List.length x0.2.2.2.1)) = false := by exact allN_at (i := i) (by omega) (by exact and_f (by first | (left; exact decB_f (by first | (left; assumption) | (right; left; simp_all [D_spec_IsComplete]; done) | (right; right; left; assumption) | (right; right; right; omega))) | (right; simp_all [clsB, D_spec_l30Done]; done)))
                  refine then_ret ?_
                  refine in_ret ?_
                  refine then_ret ?_
                  exact at_return (S := S_spec_IsValidSink) (x := (x0, ())) (false, ()) [] h (by kernel_rfl) trivial (congrArg (fun z => (z, ())) (show (false) = validS x0 from by (first | (rw [← validS_spec (by assumption) (headS_y2 (by assumption) (by assumption) (by assumption) (by omega) (by assumption))]; symm; assumption) | exact validS_no (by first | (right; right; assumption) | (left; exact headS_n2 (by first | (left; assumption) | (right; left; assumption) | (right; right; left; assumption) | (right; right; right; left; omega) | (right; right; right; right; assumption)))))))
                · skip
                  rcases Bool.eq_false_or_eq_true (!(fitsS x0 (x0.2.2.2.1.getD i (0, (0, (0, (0, []))))).1 (x0.2.2.2.1.getD i (0, (0, (0, (0, []))))).2.1 (x0.2.2.2.1.getD i (0, (0, (0, (0, []))))).2.2.1)) with h11 | h11
                  · skip
                    have hzh11 : (fitsS x0 (x0.2.2.2.1.getD i (0, (0, (0, (0, []))))).1 (x0.2.2.2.1.getD i (0, (0, (0, (0, []))))).2.1 (x0.2.2.2.1.getD i (0, (0, (0, (0, []))))).2.2.1) = false := notT h11
                    refine at_anyq [{}, {}, { hint := some (aB false) }, {}, {}, { hint := some (aB false) }, {}, {}, {}, {}, {}, {}, {}, {}, {}, {}, { hint := some (aB true) }, {}, {}, {}, {}, {}, {}, {}, {}, {}, {}, {}, {}, {}, {}, {}, {}, {}, {}, {}, {}, {}, {}, {}] { ts := [1, 2, 3, 54, 55, 58, 59, 60, 61, 62, 63, 64, 65, 66, 69, 70, 71, 72, 73, 74, 75, 76, 77, 78, 79, 80, 81, 82, 85, 86, 87, 88, 89], os := [1, 2] } [(fun (x0 : T112) => Sh.fit s112 x0) (x0.2.2.2.1.getD i (0, (0, (0, (0, []))))), (AV.p (.c (.v (.bool (!(validD (x0.2.2.2.1.getD i (0, (0, (0, (0, [])))))))))) = AV.p (.c (.v (.bool false)))), (fun (x0 : T112) => Sh.fit s112 x0) (x0.2.2.2.1.getD i (0, (0, (0, (0, []))))), (AV.p (.c (.v (.bool ((D_spec_IsComplete (x0.2.2.2.1.getD i (0, (0, (0, (0, [])))))))))) = AV.p (.c (.v (.bool false)))), (fun (x0 : T32) (x1 : Int) (x2 : Int) (x3 : Int) => Sh.fit s32 x0) x0 (x0.2.2.2.1.getD i (0, (0, (0, (0, []))))).1 (x0.2.2.2.1.getD i (0, (0, (0, (0, []))))).2.1 (x0.2.2.2.1.getD i (0, (0, (0, (0, []))))).2.2.1, (AV.p (.c (.v (.bool (!(fitsS x0 (x0.2.2.2.1.getD i (0, (0, (0, (0, []))))).1 (x0.2.2.2.1.getD i (0, (0, (0, (0, []))))).2.1 (x0.2.2.2.1.getD i (0, (0, (0, (0, []))))).2.2.1))))) = AV.p (.c (.v (.bool true))))] gamOK hT mixed h (by kernel_rfl) ⟨(by exact (Sh.fit_getD hf0.2.2.2.1 i)), hint_bool (h7), (by exact (Sh.fit_getD hf0.2.2.2.1 i)), hint_bool (h9), (by exact hf0), hint_bool (h11), trivial⟩ ?_
                    intro a w h
                    refine then_normal ?_
                    refine at_test true h (by kernel_rfl) (fun hh => ?_) (fun hh => nomatch hh)
                    refine wp_seq ?_
                    refine at_regq [] { ts := [1, 2, 3, 54, 55, 58, 59, 60, 61, 62, 63, 64, 65, 66, 69, 70, 71, 72, 73, 74, 75, 76, 77, 78, 79, 80, 81, 82, 85, 86, 87, 88], os := [1, 2] } [] gamOK hT h (by kernel_rfl) trivial ?_
                    intro a w h
                    refine then_normal ?_
                    refine wp_ret ?_
                    refine in_ret ?_
                    refine then_ret ?_
                    have hs12 : (allN (fun i => decB x0 i && clsB x0 i) (List.length x0.2.2.2.1)) = false := by exact allN_at (i := i) (by omega) (by exact and_f (by first | (left; exact decB_f (by first | (left; assumption) | (right; left; simp_all [D_spec_IsComplete]; done) | (right; right; left; assumption) | (right; right; right; omega))) | (right; simp_all [clsB, D_spec_l30Done]; done)))
                    refine then_ret ?_
                    refine in_ret ?_
                    refine then_ret ?_
                    exact at_return (S := S_spec_IsValidSink) (x := (x0, ())) (false, ()) [] h (by kernel_rfl) trivial (congrArg (fun z => (z, ())) (show (false) = validS x0 from by (first | (rw [← validS_spec (by assumption) (headS_y2 (by assumption) (by assumption) (by assumption) (by omega) (by assumption))]; symm; assumption) | exact validS_no (by first | (right; right; assumption) | (left; exact headS_n2 (by first | (left; assumption) | (right; left; assumption) | (right; right; left; assumption) | (right; right; right; left; omega) | (right; right; right; right; assumption)))))))
                  · skip
                    have hzh11 : (fitsS x0 (x0.2.2.2.1.getD i (0, (0, (0, (0, []))))).1 (x0.2.2.2.1.getD i (0, (0, (0, (0, []))))).2.1 (x0.2.2.2.1.getD i (0, (0, (0, (0, []))))).2.2.1) = true := notF h11
                    by_cases h13 : ((i : Nat) : Int) > 0
                    · skip
                      by_cases h14 : (x0.2.2.2.1.getD ((((i : Nat) : Int) - 1).toNat) (0, (0, (0, (0, []))))).1 ≥ (x0.2.2.2.1.getD i (0, (0, (0, (0, []))))).1
                      · skip
                        refine at_anyq [{}, {}, { hint := some (aB false) }, {}, {}, { hint := some (aB false) }, {}, {}, {}, {}, {}, {}, {}, {}, {}, {}, { hint := some (aB false) }, {}, {}, {}, { hint := some (aB true) }, {}, {}, {}, {}, { nw := true }, {}, {}, {}, {}, {}, { hint := some (aB true) }, {}, {}, {}, {}, {}, {}, {}, {}] { ts := [1, 2, 3, 54, 55, 58, 59, 60, 61, 62, 63, 64, 65, 66, 69, 70, 71, 72, 73, 74, 75, 76, 77, 78, 79, 80, 81, 82, 85, 86, 87, 88, 89], os := [1, 2] } [(fun (x0 : T112) => Sh.fit s112 x0) (x0.2.2.2.1.getD i (0, (0, (0, (0, []))))), (AV.p (.c (.v (.bool (!(validD (x0.2.2.2.1.getD i (0, (0, (0, (0, [])))))))))) = AV.p (.c (.v (.bool false)))), (fun (x0 : T112) => Sh.fit s112 x0) (x0.2.2.2.1.getD i (0, (0, (0, (0, []))))), (AV.p (.c (.v (.bool ((D_spec_IsComplete (x0.2.2.2.1.getD i (0, (0, (0, (0, [])))))))))) = AV.p (.c (.v (.bool false)))), (fun (x0 : T32) (x1 : Int) (x2 : Int) (x3 : Int) => Sh.fit s32 x0) x0 (x0.2.2.2.1.getD i (0, (0, (0, (0, []))))).1 (x0.2.2.2.1.getD i (0, (0, (0, (0, []))))).2.1 (x0.2.2.2.1.getD i (0, (0, (0, (0, []))))).2.2.1, (AV.p (.c (.v (.bool (!(fitsS x0 (x0.2.2.2.1.getD i (0, (0, (0, (0, []))))).1 (x0.2.2.2.1.getD i (0, (0, (0, (0, []))))).2.1 (x0.2.2.2.1.getD i (0, (0, (0, (0, []))))).2.2.1))))) = AV.p (.c (.v (.bool false)))), (AV.p (.c (.v (.bool (decide (((i : Nat) : Int) > 0))))) = AV.p (.c (.v (.bool true)))), I64 (((i : Nat) : Int) - 1), (0 : Int) ≤ ((i : Nat) : Int) - 1 ∧ ((i : Nat) : Int) - 1 < ((List.length x0.2.2.2.1 : Nat) : Int), (AV.p (.c (.v (.bool (decide ((x0.2.2.2.1.getD ((((i : Nat) : Int) - 1).toNat) (0, (0, (0, (0, []))))).1 ≥ (x0.2.2.2.1.getD i (0, (0, (0, (0, []))))).1))))) = AV.p (.c (.v (.bool true))))] gamOK hT mixed h (by kernel_rfl) ⟨(by exact (Sh.fit_getD hf0.2.2.2.1 i)), hint_bool (h7), (by exact (Sh.fit_getD hf0.2.2.2.1 i)), hint_bool (h9), (by exact hf0), hint_bool (h11), hint_bool (decide_eq_true h13), ⟨by first | omega | (simp only [lsA]; omega) | (simp; done) | (simp; omega) | done, by first | omega | (simp only [lsA]; omega) | (simp; done) | (simp; omega) | done⟩, (by refine ⟨?_, ?_⟩ <;> (first | omega | (simp only [lsA]; omega) | (simp; done) | (simp; omega) | done)), hint_bool (decide_eq_true h14), trivial⟩ ?_
                        intro a w h
                        refine then_normal ?_
                        refine at_test true h (by kernel_rfl) (fun hh => ?_) (fun hh => nomatch hh)
                        refine wp_seq ?_
                        refine at_regq [] { ts := [1, 2, 3, 54, 55, 58, 59, 60, 61, 62, 63, 64, 65, 66, 69, 70, 71, 72, 73, 74, 75, 76, 77, 78, 79, 80, 81, 82, 85, 86, 87, 88], os := [1, 2] } [] gamOK hT h (by kernel_rfl) trivial ?_
                        intro a w h
                        refine then_normal ?_
                        refine wp_ret ?_
                        refine in_ret ?_
                        refine then_ret ?_
                        have hs15 : (allN (fun i => decB x0 i && clsB x0 i) (List.length x0.2.2.2.1)) = false := by exact allN_at (i := i) (by omega) (by exact and_f (by first | (left; exact decB_f (by first | (left; assumption) | (right; left; simp_all [D_spec_IsComplete]; done) | (right; right; left; assumption) | (right; right; right; omega))) | (right; simp_all [clsB, D_spec_l30Done]; done)))
                        refine then_ret ?_
                        refine in_ret ?_
                        refine then_ret ?_
                        exact at_return (S := S_spec_IsValidSink) (x := (x0, ())) (false, ()) [] h (by kernel_rfl) trivial (congrArg (fun z => (z, ())) (show (false) = validS x0 from by (first | (rw [← validS_spec (by assumption) (headS_y2 (by assumption) (by assumption) (by assumption) (by omega) (by assumption))]; symm; assumption) | exact validS_no (by first | (right; right; assumption) | (left; exact headS_n2 (by first | (left; assumption) | (right; left; assumption) | (right; right; left; assumption) | (right; right; right; left; omega) | (right; right; right; right; assumption)))))))
                      · skip
                        refine at_anyq [{}, {}, { hint := some (aB false) }, {}, {}, { hint := some (aB false) }, {}, {}, {}, {}, {}, {}, {}, {}, {}, {}, { hint := some (aB false) }, {}, {}, {}, { hint := some (aB true) }, {}, {}, {}, {}, { nw := true }, {}, {}, {}, {}, {}, { hint := some (aB false) }, {}, {}, {}, {}, {}, {}, {}, {}] { ts := [1, 2, 3, 54, 55, 58, 59, 60, 61, 62, 63, 64, 65, 66, 69, 70, 71, 72, 73, 74, 75, 76, 77, 78, 79, 80, 81, 82, 85, 86, 87, 88, 89], os := [1, 2] } [(fun (x0 : T112) => Sh.fit s112 x0) (x0.2.2.2.1.getD i (0, (0, (0, (0, []))))), (AV.p (.c (.v (.bool (!(validD (x0.2.2.2.1.getD i (0, (0, (0, (0, [])))))))))) = AV.p (.c (.v (.bool false)))), (fun (x0 : T112) => Sh.fit s112 x0) (x0.2.2.2.1.getD i (0, (0, (0, (0, []))))), (AV.p (.c (.v (.bool ((D_spec_IsComplete (x0.2.2.2.1.getD i (0, (0, (0, (0, [])))))))))) = AV.p (.c (.v (.bool false)))), (fun (x0 : T32) (x1 : Int) (x2 : Int) (x3 : Int) => Sh.fit s32 x0) x0 (x0.2.2.2.1.getD i (0, (0, (0, (0, []))))).1 (x0.2.2.2.1.getD i (0, (0, (0, (0, []))))).2.1 (x0.2.2.2.1.getD i (0, (0, (0, (0, []))))).2.2.1, (AV.p (.c (.v (.bool (!(fitsS x0 (x0.2.2.2.1.getD i (0, (0, (0, (0, []))))).1 (x0.2.2.2.1.getD i (0, (0, (0, (0, []))))).2.1 (x0.2.2.2.1.getD i (0, (0, (0, (0, []))))).2.2.1))))) = AV.p (.c (.v (.bool false)))), (AV.p (.c (.v (.bool (decide (((i : Nat) : Int) > 0))))) = AV.p (.c (.v (.bool true)))), I64 (((i : Nat) : Int) - 1), (0 : Int) ≤ ((i : Nat) : Int) - 1 ∧ ((i : Nat) : Int) - 1 < ((List.length x0.2.2.2.1 : Nat) : Int), (AV.p (.c (.v (.bool (decide ((x0.2.2.2.1.getD ((((i : Nat) : Int) - 1).toNat) (0, (0, (0, (0, []))))).1 ≥ (x0.2.2.2.1.getD i (0, (0, (0, (0, []))))).1))))) = AV.p (.c (.v (.bool false)))), (fun (x0 : T32) (x1 : Int) => Sh.fit s32 x0) x0 (x0.2.2.2.1.getD i (0, (0, (0, (0, []))))).1] gamOK hT mixed h (by kernel_rfl) ⟨(by exact (Sh.fit_getD hf0.2.2.2.1 i)), hint_bool (h7), (by exact (Sh.fit_getD hf0.2.2.2.1 i)), hint_bool (h9), (by exact hf0), hint_bool (h11), hint_bool (decide_eq_true h13), ⟨by first | omega | (simp only [lsA]; omega) | (simp; done) | (simp; omega) | done, by first | omega | (simp only [lsA]; omega) | (simp; done) | (simp; omega) | done⟩, (by refine ⟨?_, ?_⟩ <;> (first | omega | (simp only [lsA]; omega) | (simp; done) | (simp; omega) | done)), hint_bool (decide_eq_false h14), (by exact hf0), trivial⟩ ?_
                        intro a w h
                        refine then_normal ?_
                        refine at_test ((D_spec_l30Done x0 (x0.2.2.2.1.getD i (0, (0, (0, (0, []))))).1)) h (by kernel_rfl) (fun h16 => ?_) (fun h16 => ?_)
                        · refine wp_seq ?_
                          refine at_regq [] { ts := [1, 2, 3, 54, 55, 58, 59, 60, 61, 62, 63, 64, 65, 66, 69, 70, 71, 72, 73, 74, 75, 76, 77, 78, 79, 80, 81, 82, 85, 86, 87, 88], os := [1, 2] } [] gamOK hT h (by kernel_rfl) trivial ?_
                          intro a w h
                          refine then_normal ?_
                          refine wp_ret ?_
                          refine in_ret ?_
                          refine then_ret ?_
                          have hs17 : (allN (fun i => decB x0 i && clsB x0 i) (List.length x0.2.2.2.1)) = false := by exact allN_at (i := i) (by omega) (by exact and_f (by first | (left; exact decB_f (by first | (left; assumption) | (right; left; simp_all [D_spec_IsComplete]; done) | (right; right; left; assumption) | (right; right; right; omega))) | (right; simp_all [clsB, D_spec_l30Done]; done)))
                          refine then_ret ?_
                          refine in_ret ?_
                          refine then_ret ?_
                          exact at_return (S := S_spec_IsValidSink) (x := (x0, ())) (false, ()) [] h (by kernel_rfl) trivial (congrArg (fun z => (z, ())) (show (false) = validS x0 from by (first | (rw [← validS_spec (by assumption) (headS_y2 (by assumption) (by assumption) (by assumption) (by omega) (by assumption))]; symm; assumption) | exact validS_no (by first | (right; right; assumption) | (left; exact headS_n2 (by first | (left; assumption) | (right; left; assumption) | (right; right; left; assumption) | (right; right; right; left; omega) | (right; right; right; right; assumption)))))))
                        · refine wp_skip ?_
                          refine in_normal ?_
                          refine then_normal ?_
                          refine at_regq [{}, { nw := true }] { ts := [1, 2, 3, 54, 55, 58, 59, 60, 61, 62, 63, 64, 65, 66, 69, 70, 71, 72, 73, 74, 75, 76, 77, 78, 79, 80, 81, 82, 85, 86, 87, 88], os := [1, 2] } [I64 (((i : Nat) : Int) + 1)] gamOK hT h (by kernel_rfl) ⟨⟨by first | omega | (simp only [lsA]; omega) | (simp; done) | (simp; omega) | done, by first | omega | (simp only [lsA]; omega) | (simp; done) | (simp; omega) | done⟩, trivial⟩ ?_
                          intro a w h
                          replace h := at_out (σ' := ⟨[(1, aP 1 0), (2, aB false), (3, aI (((i : Nat) : Int) + 1))], [(1, oX 32 [cI x0.1, cI x0.2.1, .ro (.int 3) x0.2.2.1, .ro s112 x0.2.2.2.1, .ro s218 x0.2.2.2.2.1, cI x0.2.2.2.2.2])]⟩) { ts := [1, 2, 3], os := [1] } h (by kernel_rfl)
                          exact ⟨i + 1, at_eq h (st_congr1 (fun (d0 : Int) => (⟨[(1, aP 1 0), (2, aB false), (3, aI d0)], [(1, oX 32 [cI x0.1, cI x0.2.1, .ro (.int 3) x0.2.2.1, .ro s112 x0.2.2.2.1, .ro s218 x0.2.2.2.2.1, cI x0.2.2.2.2.2])]⟩ : St)) (show (((i : Nat) : Int) + 1 : Int) = (((i + 1) : Nat) : Int) from by first | with_reducible rfl | (omega) | rfl)), (by exact ⟨by omega, allN_succ hok0.2 (by exact and_t (decB_t (by assumption) (isC_f (by assumption) (by assumption)) (by assumption) (by omega)) (clsB_t (by assumption)))⟩), (by omega)⟩
                    · skip
                      refine at_anyq [{}, {}, { hint := some (aB false) }, {}, {}, { hint := some (aB false) }, {}, {}, {}, {}, {}, {}, {}, {}, {}, {}, { hint := some (aB false) }, {}, {}, {}, { hint := some (aB false) }, {}, {}, {}, {}, {}, {}, {}, {}, {}, {}, {}, {}, {}, {}, {}, {}, {}, {}, {}] { ts := [1, 2, 3, 54, 55, 58, 59, 60, 61, 62, 63, 64, 65, 66, 69, 70, 71, 72, 73, 74, 75, 76, 77, 78, 79, 80, 81, 82, 85, 86, 87, 88, 89], os := [1, 2] } [(fun (x0 : T112) => Sh.fit s112 x0) (x0.2.2.2.1.getD i (0, (0, (0, (0, []))))), (AV.p (.c (.v (.bool (!(validD (x0.2.2.2.1.getD i (0, (0, (0, (0, [])))))))))) = AV.p (.c (.v (.bool false)))), (fun (x0 : T112) => Sh.fit s112 x0) (x0.2.2.2.1.getD i (0, (0, (0, (0, []))))), (AV.p (.c (.v (.bool ((D_spec_IsComplete (x0.2.2.2.1.getD i (0, (0, (0, (0, [])))))))))) = AV.p (.c (.v (.bool false)))), (fun (x0 : T32) (x1 : Int) (x2 : Int) (x3 : Int) => Sh.fit s32 x0) x0 (x0.2.2.2.1.getD i (0, (0, (0, (0, []))))).1 (x0.2.2.2.1.getD i (0, (0, (0, (0, []))))).2.1 (x0.2.2.2.1.getD i (0, (0, (0, (0, []))))).2.2.1, (AV.p (.c (.v (.bool (!(fitsS x0 (x0.2.2.2.1.getD i (0, (0, (0, (0, []))))).1 (x0.2.2.2.1.getD i (0, (0, (0, (0, []))))).2.1 (x0.2.2.2.1.getD i (0, (0, (0, (0, []))))).2.2.1))))) = AV.p (.c (.v (.bool false)))), (AV.p (.c (.v (.bool (decide (((i : Nat) : Int) > 0))))) = AV.p (.c (.v (.bool false)))), (fun (x0 : T32) (x1 : Int) => Sh.fit s32 x0) x0 (x0.2.2.2.1.getD i (0, (0, (0, (0, []))))).1] gamOK hT mixed h (by kernel_rfl) ⟨(by exact (Sh.fit_getD hf0.2.2.2.1 i)), hint_bool (h7), (by exact (Sh.fit_getD hf0.2.2.2.1 i)), hint_bool (h9), (by exact hf0), hint_bool (h11), hint_bool (decide_eq_false h13), (by exact hf0), trivial⟩ ?_
                      intro a w h
                      refine then_normal ?_
                      refine at_test ((D_spec_l30Done x0 (x0.2.2.2.1.getD i (0, (0, (0, (0, []))))).1)) h (by kernel_rfl) (fun h18 => ?_) (fun h18 => ?_)
                      · refine wp_seq ?_
                        refine at_regq [] { ts := [1, 2, 3, 54, 55, 58, 59, 60, 61, 62, 63, 64, 65, 66, 69, 70, 71, 72, 73, 74, 75, 76, 77, 78, 79, 80, 81, 82, 85, 86, 87, 88], os := [1, 2] } [] gamOK hT h (by kernel_rfl) trivial ?_
                        intro a w h
                        refine then_normal ?_
                        refine wp_ret ?_
                        refine in_ret ?_
                        refine then_ret ?_
                        have hs19 : (allN (fun i => decB x0 i && clsB x0 i) (List.length x0.2.2.2.1)) = false := by exact allN_at (i := i) (by omega) (by exact and_f (by first | (left; exact decB_f (by first | (left; assumption) | (right; left; simp_all [D_spec_IsComplete]; done) | (right; right; left; assumption) | (right; right; right; omega))) | (right; simp_all [clsB, D_spec_l30Done]; done)))
                        refine then_ret ?_
                        refine in_ret ?_
                        refine then_ret ?_
                        exact at_return (S := S_spec_IsValidSink) (x := (x0, ())) (false, ()) [] h (by kernel_rfl) trivial (congrArg (fun z => (z, ())) (show (false) = validS x0 from by (first | (rw [← validS_spec (by assumption) (headS_y2 (by assumption) (by assumption) (by assumption) (by omega) (by assumption))]; symm; assumption) | exact validS_no (by first | (right; right; assumption) | (left; exact headS_n2 (by first | (left; assumption) | (right; left; assumption) | (right; right; left; assumption) | (right; right; right; left; omega) | (right; right; right; right; assumption)))))))
                      · refine wp_skip ?_
                        refine in_normal ?_
                        refine then_normal ?_
                        refine at_regq [{}, { nw := true }] { ts := [1, 2, 3, 54, 55, 58, 59, 60, 61, 62, 63, 64, 65, 66, 69, 70, 71, 72, 73, 74, 75, 76, 77, 78, 79, 80, 81, 82, 85, 86, 87, 88], os := [1, 2] } [I64 (((i : Nat) : Int) + 1)] gamOK hT h (by kernel_rfl) ⟨⟨by first | omega | (simp only [lsA]; omega) | (simp; done) | (simp; omega) | done, by first | omega | (simp only [lsA]; omega) | (simp; done) | (simp; omega) | done⟩, trivial⟩ ?_
                        intro a w h
                        replace h := at_out (σ' := ⟨[(1, aP 1 0), (2, aB false), (3, aI (((i : Nat) : Int) + 1))], [(1, oX 32 [cI x0.1, cI x0.2.1, .ro (.int 3) x0.2.2.1, .ro s112 x0.2.2.2.1, .ro s218 x0.2.2.2.2.1, cI x0.2.2.2.2.2])]⟩) { ts := [1, 2, 3], os := [1] } h (by kernel_rfl)
                        exact ⟨i + 1, at_eq h (st_congr1 (fun (d0 : Int) => (⟨[(1, aP 1 0), (2, aB false), (3, aI d0)], [(1, oX 32 [cI x0.1, cI x0.2.1, .ro (.int 3) x0.2.2.1, .ro s112 x0.2.2.2.1, .ro s218 x0.2.2.2.2.1, cI x0.2.2.2.2.2])]⟩ : St)) (show (((i : Nat) : Int) + 1 : Int) = (((i + 1) : Nat) : Int) from by first | with_reducible rfl | (omega) | rfl)), (by exact ⟨by omega, allN_succ hok0.2 (by exact and_t (decB_t (by assumption) (isC_f (by assumption) (by assumption)) (by assumption) (by omega)) (clsB_t (by assumption)))⟩), (by omega)⟩
            · replace h6 : ¬ (((i : Nat) : Int) < ((List.length x0.2.2.2.1 : Nat) : Int)) := of_decide_eq_false h6
              refine wp_exit ?_
              refine then_exit ?_
              have hs20 : (allN (fun i => decB x0 i && clsB x0 i) (List.length x0.2.2.2.1)) = true := by exact allN_eq (by omega) hok0.1 hok0.2
              refine then_exit ?_
              refine in_hit ?_
              refine then_normal ?_
              refine wp_seq ?_
              refine wp_seq ?_
              refine at_regq [] { ts := [1, 2, 5], os := [1] } [] gamOK hT h (by kernel_rfl) trivial ?_
              intro a w h
              refine then_normal ?_
              refine wp_block ?_
              replace h := at_out (σ' := ⟨[(1, aP 1 0), (2, aB false), (5, aI 0)], [(1, oX 32 [cI x0.1, cI x0.2.1, .ro (.int 3) x0.2.2.1, .ro s112 x0.2.2.2.1, .ro s218 x0.2.2.2.2.1, cI x0.2.2.2.2.2])]⟩) { ts := [1, 2, 5], os := [1] } h (by kernel_rfl)
              refine at_loop (fun i : Nat => (⟨[(1, aP 1 0), (2, aB false), (5, aI ((i : Nat) : Int))], [(1, oX 32 [cI x0.1, cI x0.2.1, .ro (.int 3) x0.2.2.1, .ro s112 x0.2.2.2.1, .ro s218 x0.2.2.2.2.1, cI x0.2.2.2.2.2])]⟩ : St)) (fun i => (i ≤ (List.length x0.2.2.2.2.1) ∧ allN (genB x0) i = true)) (fun i => (List.length x0.2.2.2.2.1) - i) (0) h (st_congr1 (fun (d0 : Int) => (⟨[(1, aP 1 0), (2, aB false), (5, aI d0)], [(1, oX 32 [cI x0.1, cI x0.2.1, .ro (.int 3) x0.2.2.1, .ro s112 x0.2.2.2.1, .ro s218 x0.2.2.2.2.1, cI x0.2.2.2.2.2])]⟩ : St)) (show (0 : Int) = (((0) : Nat) : Int) from by first | with_reducible rfl | (rfl) | rfl)) (by exact ⟨Nat.zero_le _, rfl⟩) ?_
              intro i a w hok1 h
              refine wp_seq ?_
              refine wp_seq ?_
              refine at_regq [] { ts := [1, 2, 5, 94], os := [1] } [] gamOK hT h (by kernel_rfl) trivial ?_
              intro a w h
              refine then_normal ?_
              refine at_test (decide (((i : Nat) : Int) < ((List.length x0.2.2.2.2.1 : Nat) : Int))) h (by kernel_rfl) (fun h21 => ?_) (fun h21 => ?_)
              · replace h21 : ((i : Nat) : Int) < ((List.length x0.2.2.2.2.1 : Nat) : Int) := of_decide_eq_true h21
                refine wp_skip ?_
                refine then_normal ?_
                refine wp_seq ?_
                refine wp_block ?_
                refine wp_seq ?_
                refine at_regq [{}, {}, {}, {}, {}, { ids := [3] }] { ts := [1, 2, 5, 6], os := [1, 3] } [(0 : Int) ≤ ((i : Nat) : Int) ∧ ((i : Nat) : Int) < ((List.length x0.2.2.2.2.1 : Nat) : Int)] gamOK hT h (by kernel_rfl) ⟨(by refine ⟨?_, ?_⟩ <;> (first | omega | (simp only [lsA]; omega) | (simp; done) | (simp; omega) | done)), trivial⟩ ?_
                intro a w h
                refine then_normal ?_
                refine wp_seq ?_
                rcases Bool.eq_false_or_eq_true (!(validG (x0.2.2.2.2.1.getD i (0, [])))) with h22 | h22
                · skip
                  have hzh22 : (validG (x0.2.2.2.2.1.getD i (0, []))) = false := notT h22
                  refine at_anyq [{}, {}, { hint := some (aB true) }, {}, {}, {}, {}, {}, {}, {}, {}, {}, {}, {}, {}, {}, {}, {}, {}, {}, {}, {}, {}, {}, {}, {}, {}, {}, {}, {}, {}, {}] { ts := [1, 2, 5, 106, 107, 108, 109, 110, 111, 112, 113, 114, 115, 116, 119, 120, 121, 122, 123, 124, 125, 126, 127, 128, 129, 130, 131, 132, 133], os := [1] } [(fun (x0 : T218) => Sh.fit s218 x0) (x0.2.2.2.2.1.getD i (0, [])), (AV.p (.c (.v (.bool (!(validG (x0.2.2.2.2.1.getD i (0, []))))))) = AV.p (.c (.v (.bool true))))] gamOK hT mixed h (by kernel_rfl) ⟨(by exact (Sh.fit_getD hf0.2.2.2.2.1 i)), hint_bool (h22), trivial⟩ ?_
                  intro a w h
                  refine then_normal ?_
                  refine at_test true h (by kernel_rfl) (fun hh => ?_) (fun hh => nomatch hh)
                  refine wp_seq ?_
                  refine at_reg [] { ts := [1, 2, 5, 106, 107, 108, 109, 110, 111, 112, 113, 114, 115, 116, 119, 120, 121, 122, 123, 124, 125, 126, 127, 128, 129, 130, 131, 132], os := [1] } ⟨[(1, aP 1 0), (2, aB false), (5, aI ((i : Nat) : Int)), (106, .p (.c (.v undef))), (107, .p (.c (.v undef))), (108, .p (.c (.v undef))), (109, .p (.c (.v undef))), (110, .p (.c (.v undef))), (111, .p (.c (.v undef))), (112, .p (.c (.v undef))), (113, .p (.c (.v undef))), (114, .p (.c (.v undef))), (115, .p (.c (.v undef))), (116, .p (.c (.v undef))), (119, .p (.c (.v undef))), (120, .p (.c (.v undef))), (121, .p (.c (.v undef))), (122, .p (.c (.v undef))), (123, .p (.c (.v undef))), (124, .p (.c (.v undef))), (125, .p (.c (.v undef))), (126, .p (.c (.v undef))), (127, .p (.c (.v undef))), (128, .p (.c (.v undef))), (129, .p (.c (.v undef))), (130, .p (.c (.v undef))), (131, .p (.c (.v undef))), (132, .p (.c (.v undef)))], [(1, oX 32 [cI x0.1, cI x0.2.1, .ro (.int 3) x0.2.2.1, .ro s112 x0.2.2.2.1, .ro s218 x0.2.2.2.2.1, cI x0.2.2.2.2.2])]⟩ [] gamOK hT h (by kernel_rfl) trivial ?_
                  intro a w h
                  refine then_normal ?_
                  refine wp_ret ?_
                  refine in_ret ?_
                  refine then_ret ?_
                  have hs23 : (allN (genB x0) (List.length x0.2.2.2.2.1)) = false := by exact allN_at (i := i) (by omega) (by exact genB_f (by first | (left; assumption) | (right; left; assumption) | (right; right; omega)))
                  refine then_ret ?_
                  refine in_ret ?_
                  refine then_ret ?_
                  exact at_return (S := S_spec_IsValidSink) (x := (x0, ())) (false, ()) [] h (by kernel_rfl) trivial (congrArg (fun z => (z, ())) (show (false) = validS x0 from by (first | (rw [← validS_spec (by assumption) (headS_y2 (by assumption) (by assumption) (by assumption) (by omega) (by assumption))]; symm; assumption) | exact validS_no (by first | (right; right; assumption) | (left; exact headS_n2 (by first | (left; assumption) | (right; left; assumption) | (right; right; left; assumption) | (right; right; right; left; omega) | (right; right; right; right; assumption)))))))
                · skip
                  have hzh22 : (validG (x0.2.2.2.2.1.getD i (0, []))) = true := notF h22
                  have hvh22 := validG_t (notF h22)
                  rcases Bool.eq_false_or_eq_true (!(fitsS x0 (x0.2.2.2.2.1.getD i (0, [])).1 ((List.length (x0.2.2.2.2.1.getD i (0, [])).2 : Nat) : Int) (colsOf (x0.2.2.2.2.1.getD i (0, [])).2))) with h24 | h24
                  · skip
                    have hzh24 : (fitsS x0 (x0.2.2.2.2.1.getD i (0, [])).1 ((List.length (x0.2.2.2.2.1.getD i (0, [])).2 : Nat) : Int) (colsOf (x0.2.2.2.2.1.getD i (0, [])).2)) = false := notT h24
                    refine at_anyq [{}, {}, { hint := some (aB false) }, {}, {}, {}, {}, {}, {}, {}, {}, {}, {}, {}, { hint := some (aB true) }, {}, {}, {}, {}, {}, {}, {}, {}, {}, {}, {}, {}, {}, {}, {}, {}, {}] { ts := [1, 2, 5, 106, 107, 108, 109, 110, 111, 112, 113, 114, 115, 116, 119, 120, 121, 122, 123, 124, 125, 126, 127, 128, 129, 130, 131, 132, 133], os := [1, 3] } [(fun (x0 : T218) => Sh.fit s218 x0) (x0.2.2.2.2.1.getD i (0, [])), (AV.p (.c (.v (.bool (!(validG (x0.2.2.2.2.1.getD i (0, []))))))) = AV.p (.c (.v (.bool false)))), (fun (x0 : (List (List Int))) => Sh.fit s97 x0) (x0.2.2.2.2.1.getD i (0, [])).2, (fun (x0 : T32) (x1 : Int) (x2 : Int) (x3 : Int) => Sh.fit s32 x0) x0 (x0.2.2.2.2.1.getD i (0, [])).1 ((List.length (x0.2.2.2.2.1.getD i (0, [])).2 : Nat) : Int) (colsOf (x0.2.2.2.2.1.getD i (0, [])).2), (AV.p (.c (.v (.bool (!(fitsS x0 (x0.2.2.2.2.1.getD i (0, [])).1 ((List.length (x0.2.2.2.2.1.getD i (0, [])).2 : Nat) : Int) (colsOf (x0.2.2.2.2.1.getD i (0, [])).2)))))) = AV.p (.c (.v (.bool true))))] gamOK hT mixed h (by kernel_rfl) ⟨(by exact (Sh.fit_getD hf0.2.2.2.2.1 i)), hint_bool (h22), (by exact (Sh.fit_getD hf0.2.2.2.2.1 i).2), (by exact hf0), hint_bool (h24), trivial⟩ ?_
                    intro a w h
                    refine then_normal ?_
                    refine at_test true h (by kernel_rfl) (fun hh => ?_) (fun hh => nomatch hh)
                    refine wp_seq ?_
                    refine at_reg [] { ts := [1, 2, 5, 106, 107, 108, 109, 110, 111, 112, 113, 114, 115, 116, 119, 120, 121, 122, 123, 124, 125, 126, 127, 128, 129, 130, 131, 132], os := [1, 3] } ⟨[(1, aP 1 0), (2, aB false), (5, aI ((i : Nat) : Int)), (106, aG [cI x0.1, cI x0.2.1, .ro (.int 3) x0.2.2.1, .ro s112 x0.2.2.2.1, .ro s218 x0.2.2.2.2.1, cI x0.2.2.2.2.2]), (107, aP 3 0), (108, aI (x0.2.2.2.2.1.getD i (0, [])).1), (109, aP 3 1), (110, aF s22 (x0.2.2.2.2.1.getD i (0, [])).2), (111, aI ((List.length (x0.2.2.2.2.1.getD i (0, [])).2 : Nat) : Int)), (112, aP 3 1), (113, aF s22 (x0.2.2.2.2.1.getD i (0, [])).2), (114, aI (colsOf (x0.2.2.2.2.1.getD i (0, [])).2)), (115, aB (fitsS x0 (x0.2.2.2.2.1.getD i (0, [])).1 ((List.length (x0.2.2.2.2.1.getD i (0, [])).2 : Nat) : Int) (colsOf (x0.2.2.2.2.1.getD i (0, [])).2))), (116, aB true), (119, .p (.c (.v undef))), (120, .p (.c (.v undef))), (121, .p (.c (.v undef))), (122, .p (.c (.v undef))), (123, .p (.c (.v undef))), (124, .p (.c (.v undef))), (125, .p (.c (.v undef))), (126, .p (.c (.v undef))), (127, .p (.c (.v undef))), (128, .p (.c (.v undef))), (129, .p (.c (.v undef))), (130, .p (.c (.v undef))), (131, .p (.c (.v undef))), (132, .p (.c (.v undef)))], [(1, oX 32 [cI x0.1, cI x0.2.1, .ro (.int 3) x0.2.2.1, .ro s112 x0.2.2.2.1, .ro s218 x0.2.2.2.2.1, cI x0.2.2.2.2.2]), (3, oX 218 [cI (x0.2.2.2.2.1.getD i (0, [])).1, .ro s22 (x0.2.2.2.2.1.getD i (0, [])).2])]⟩ [] gamOK hT h (by kernel_rfl) trivial ?_
                    intro a w h
                    refine then_normal ?_
                    refine wp_ret ?_
                    refine in_ret ?_
                    refine then_ret ?_
                    have hs25 : (allN (genB x0) (List.length x0.2.2.2.2.1)) = false := by exact allN_at (i := i) (by omega) (by exact genB_f (by first | (left; assumption) | (right; left; assumption) | (right; right; omega)))
                    refine then_ret ?_
                    refine in_ret ?_
                    refine then_ret ?_
                    exact at_return (S := S_spec_IsValidSink) (x := (x0, ())) (false, ()) [] h (by kernel_rfl) trivial (congrArg (fun z => (z, ())) (show (false) = validS x0 from by (first | (rw [← validS_spec (by assumption) (headS_y2 (by assumption) (by assumption) (by assumption) (by omega) (by assumption))]; symm; assumption) | exact validS_no (by first | (right; right; assumption) | (left; exact headS_n2 (by first | (left; assumption) | (right; left; assumption) | (right; right; left; assumption) | (right; right; right; left; omega) | (right; right; right; right; assumption)))))))
                  · skip
                    have hzh24 : (fitsS x0 (x0.2.2.2.2.1.getD i (0, [])).1 ((List.length (x0.2.2.2.2.1.getD i (0, [])).2 : Nat) : Int) (colsOf (x0.2.2.2.2.1.getD i (0, [])).2)) = true := notF h24
                    by_cases h26 : ((i : Nat) : Int) > 0
                    · skip
                      refine at_anyq [{}, {}, { hint := some (aB false) }, {}, {}, {}, {}, {}, {}, {}, {}, {}, {}, {}, { hint := some (aB false) }, {}, {}, {}, { hint := some (aB true) }, {}, {}, {}, {}, { nw := true }, {}, {}, {}, {}, {}, {}, {}, {}] { ts := [1, 2, 5, 106, 107, 108, 109, 110, 111, 112, 113, 114, 115, 116, 119, 120, 121, 122, 123, 124, 125, 126, 127, 128, 129, 130, 131, 132, 133], os := [1, 3] } [(fun (x0 : T218) => Sh.fit s218 x0) (x0.2.2.2.2.1.getD i (0, [])), (AV.p (.c (.v (.bool (!(validG (x0.2.2.2.2.1.getD i (0, []))))))) = AV.p (.c (.v (.bool false)))), (fun (x0 : (List (List Int))) => Sh.fit s97 x0) (x0.2.2.2.2.1.getD i (0, [])).2, (fun (x0 : T32) (x1 : Int) (x2 : Int) (x3 : Int) => Sh.fit s32 x0) x0 (x0.2.2.2.2.1.getD i (0, [])).1 ((List.length (x0.2.2.2.2.1.getD i (0, [])).2 : Nat) : Int) (colsOf (x0.2.2.2.2.1.getD i (0, [])).2), (AV.p (.c (.v (.bool (!(fitsS x0 (x0.2.2.2.2.1.getD i (0, [])).1 ((List.length (x0.2.2.2.2.1.getD i (0, [])).2 : Nat) : Int) (colsOf (x0.2.2.2.2.1.getD i (0, [])).2)))))) = AV.p (.c (.v (.bool false)))), (AV.p (.c (.v (.bool (decide (((i : Nat) : Int) > 0))))) = AV.p (.c (.v (.bool true)))), I64 (((i : Nat) : Int) - 1), (0 : Int) ≤ ((i : Nat) : Int) - 1 ∧ ((i : Nat) : Int) - 1 < ((List.length x0.2.2.2.2.1 : Nat) : Int)] gamOK hT mixed h (by kernel_rfl) ⟨(by exact (Sh.fit_getD hf0.2.2.2.2.1 i)), hint_bool (h22), (by exact (Sh.fit_getD hf0.2.2.2.2.1 i).2), (by exact hf0), hint_bool (h24), hint_bool (decide_eq_true h26), ⟨by first | omega | (simp only [lsA]; omega) | (simp; done) | (simp; omega) | done, by first | omega | (simp only [lsA]; omega) | (simp; done) | (simp; omega) | done⟩, (by refine ⟨?_, ?_⟩ <;> (first | omega | (simp only [lsA]; omega) | (simp; done) | (simp; omega) | done)), trivial⟩ ?_
                      intro a w h
                      refine then_normal ?_
                      refine at_test (decide ((x0.2.2.2.2.1.getD ((((i : Nat) : Int) - 1).toNat) (0, [])).1 ≥ (x0.2.2.2.2.1.getD i (0, [])).1)) h (by kernel_rfl) (fun h27 => ?_) (fun h27 => ?_)
                      · replace h27 : (x0.2.2.2.2.1.getD ((((i : Nat) : Int) - 1).toNat) (0, [])).1 ≥ (x0.2.2.2.2.1.getD i (0, [])).1 := of_decide_eq_true h27
                        refine wp_seq ?_
                        refine at_reg [] { ts := [1, 2, 5, 106, 107, 108, 109, 110, 111, 112, 113, 114, 115, 116, 119, 120, 121, 122, 123, 124, 125, 126, 127, 128, 129, 130, 131, 132], os := [1, 3] } ⟨[(1, aP 1 0), (2, aB false), (5, aI ((i : Nat) : Int)), (106, aG [cI x0.1, cI x0.2.1, .ro (.int 3) x0.2.2.1, .ro s112 x0.2.2.2.1, .ro s218 x0.2.2.2.2.1, cI x0.2.2.2.2.2]), (107, aP 3 0), (108, aI (x0.2.2.2.2.1.getD i (0, [])).1), (109, aP 3 1), (110, aF s22 (x0.2.2.2.2.1.getD i (0, [])).2), (111, aI ((List.length (x0.2.2.2.2.1.getD i (0, [])).2 : Nat) : Int)), (112, aP 3 1), (113, aF s22 (x0.2.2.2.2.1.getD i (0, [])).2), (114, aI (colsOf (x0.2.2.2.2.1.getD i (0, [])).2)), (115, aB (fitsS x0 (x0.2.2.2.2.1.getD i (0, [])).1 ((List.length (x0.2.2.2.2.1.getD i (0, [])).2 : Nat) : Int) (colsOf (x0.2.2.2.2.1.getD i (0, [])).2))), (116, aB false), (119, aI ((i : Nat) : Int)), (120, aB true), (121, aB true), (122, aP 1 4), (123, aF s218 x0.2.2.2.2.1), (124, aI ((i : Nat) : Int)), (125, aI (((i : Nat) : Int) - 1)), (126, aR s218 (x0.2.2.2.2.1.getD ((((i : Nat) : Int) - 1).toNat) (0, [])) 0), (127, aR s218 (x0.2.2.2.2.1.getD ((((i : Nat) : Int) - 1).toNat) (0, [])) 0), (128, aI (x0.2.2.2.2.1.getD ((((i : Nat) : Int) - 1).toNat) (0, [])).1), (129, aP 3 0), (130, aI (x0.2.2.2.2.1.getD i (0, [])).1), (131, aB (decide ((x0.2.2.2.2.1.getD ((((i : Nat) : Int) - 1).toNat) (0, [])).1 ≥ (x0.2.2.2.2.1.getD i (0, [])).1))), (132, aB (decide ((x0.2.2.2.2.1.getD ((((i : Nat) : Int) - 1).toNat) (0, [])).1 ≥ (x0.2.2.2.2.1.getD i (0, [])).1)))], [(1, oX 32 [cI x0.1, cI x0.2.1, .ro (.int 3) x0.2.2.1, .ro s112 x0.2.2.2.1, .ro s218 x0.2.2.2.2.1, cI x0.2.2.2.2.2]), (3, oX 218 [cI (x0.2.2.2.2.1.getD i (0, [])).1, .ro s22 (x0.2.2.2.2.1.getD i (0, [])).2])]⟩ [] gamOK hT h (by kernel_rfl) trivial ?_
                        intro a w h
                        refine then_normal ?_
                        refine wp_ret ?_
                        refine in_ret ?_
                        refine then_ret ?_
                        have hs28 : (allN (genB x0) (List.length x0.2.2.2.2.1)) = false := by exact allN_at (i := i) (by omega) (by exact genB_f (by first | (left; assumption) | (right; left; assumption) | (right; right; omega)))
                        refine then_ret ?_
                        refine in_ret ?_
                        refine then_ret ?_
                        exact at_return (S := S_spec_IsValidSink) (x := (x0, ())) (false, ()) [] h (by kernel_rfl) trivial (congrArg (fun z => (z, ())) (show (false) = validS x0 from by (first | (rw [← validS_spec (by assumption) (headS_y2 (by assumption) (by assumption) (by assumption) (by omega) (by assumption))]; symm; assumption) | exact validS_no (by first | (right; right; assumption) | (left; exact headS_n2 (by first | (left; assumption) | (right; left; assumption) | (right; right; left; assumption) | (right; right; right; left; omega) | (right; right; right; right; assumption)))))))
                      · replace h27 : ¬ ((x0.2.2.2.2.1.getD ((((i : Nat) : Int) - 1).toNat) (0, [])).1 ≥ (x0.2.2.2.2.1.getD i (0, [])).1) := of_decide_eq_false h27
                        refine wp_skip ?_
                        refine in_normal ?_
                        refine then_normal ?_
                        refine at_reg [{}, { nw := true }] { ts := [1, 2, 5, 106, 107, 108, 109, 110, 111, 112, 113, 114, 115, 116, 119, 120, 121, 122, 123, 124, 125, 126, 127, 128, 129, 130, 131, 132], os := [1, 3] } ⟨[(1, aP 1 0), (2, aB false), (5, aI (((i : Nat) : Int) + 1)), (106, aG [cI x0.1, cI x0.2.1, .ro (.int 3) x0.2.2.1, .ro s112 x0.2.2.2.1, .ro s218 x0.2.2.2.2.1, cI x0.2.2.2.2.2]), (107, aP 3 0), (108, aI (x0.2.2.2.2.1.getD i (0, [])).1), (109, aP 3 1), (110, aF s22 (x0.2.2.2.2.1.getD i (0, [])).2), (111, aI ((List.length (x0.2.2.2.2.1.getD i (0, [])).2 : Nat) : Int)), (112, aP 3 1), (113, aF s22 (x0.2.2.2.2.1.getD i (0, [])).2), (114, aI (colsOf (x0.2.2.2.2.1.getD i (0, [])).2)), (115, aB (fitsS x0 (x0.2.2.2.2.1.getD i (0, [])).1 ((List.length (x0.2.2.2.2.1.getD i (0, [])).2 : Nat) : Int) (colsOf (x0.2.2.2.2.1.getD i (0, [])).2))), (116, aB false), (119, aI ((i : Nat) : Int)), (120, aB true), (121, aB true), (122, aP 1 4), (123, aF s218 x0.2.2.2.2.1), (124, aI ((i : Nat) : Int)), (125, aI (((i : Nat) : Int) - 1)), (126, aR s218 (x0.2.2.2.2.1.getD ((((i : Nat) : Int) - 1).toNat) (0, [])) 0), (127, aR s218 (x0.2.2.2.2.1.getD ((((i : Nat) : Int) - 1).toNat) (0, [])) 0), (128, aI (x0.2.2.2.2.1.getD ((((i : Nat) : Int) - 1).toNat) (0, [])).1), (129, aP 3 0), (130, aI (x0.2.2.2.2.1.getD i (0, [])).1), (131, aB (decide ((x0.2.2.2.2.1.getD ((((i : Nat) : Int) - 1).toNat) (0, [])).1 ≥ (x0.2.2.2.2.1.getD i (0, [])).1))), (132, aB (decide ((x0.2.2.2.2.1.getD ((((i : Nat) : Int) - 1).toNat) (0, [])).1 ≥ (x0.2.2.2.2.1.getD i (0, [])).1)))], [(1, oX 32 [cI x0.1, cI x0.2.1, .ro (.int 3) x0.2.2.1, .ro s112 x0.2.2.2.1, .ro s218 x0.2.2.2.2.1, cI x0.2.2.2.2.2]), (3, oX 218 [cI (x0.2.2.2.2.1.getD i (0, [])).1, .ro s22 (x0.2.2.2.2.1.getD i (0, [])).2])]⟩ [I64 (((i : Nat) : Int) + 1)] gamOK hT h (by kernel_rfl) ⟨⟨by first | omega | (simp only [lsA]; omega) | (simp; done) | (simp; omega) | done, by first | omega | (simp only [lsA]; omega) | (simp; done) | (simp; omega) | done⟩, trivial⟩ ?_
                        intro a w h
                        replace h := at_out (σ' := ⟨[(1, aP 1 0), (2, aB false), (5, aI (((i : Nat) : Int) + 1))], [(1, oX 32 [cI x0.1, cI x0.2.1, .ro (.int 3) x0.2.2.1, .ro s112 x0.2.2.2.1, .ro s218 x0.2.2.2.2.1, cI x0.2.2.2.2.2])]⟩) { ts := [1, 2, 5], os := [1] } h (by kernel_rfl)
                        exact ⟨i + 1, at_eq h (st_congr1 (fun (d0 : Int) => (⟨[(1, aP 1 0), (2, aB false), (5, aI d0)], [(1, oX 32 [cI x0.1, cI x0.2.1, .ro (.int 3) x0.2.2.1, .ro s112 x0.2.2.2.1, .ro s218 x0.2.2.2.2.1, cI x0.2.2.2.2.2])]⟩ : St)) (show (((i : Nat) : Int) + 1 : Int) = (((i + 1) : Nat) : Int) from by first | with_reducible rfl | (omega) | rfl)), (by exact ⟨by omega, allN_succ hok1.2 (by exact genB_t (by assumption) (by assumption) (by omega))⟩), (by omega)⟩
                    · skip
                      refine at_anyq [{}, {}, { hint := some (aB false) }, {}, {}, {}, {}, {}, {}, {}, {}, {}, {}, {}, { hint := some (aB false) }, {}, {}, {}, { hint := some (aB false) }, {}, {}, {}, {}, {}, {}, {}, {}, {}, {}, {}, {}, {}] { ts := [1, 2, 5, 106, 107, 108, 109, 110, 111, 112, 113, 114, 115, 116, 119, 120, 121, 122, 123, 124, 125, 126, 127, 128, 129, 130, 131, 132, 133], os := [1, 3] } [(fun (x0 : T218) => Sh.fit s218 x0) (x0.2.2.2.2.1.getD i (0, [])), (AV.p (.c (.v (.bool (!(validG (x0.2.2.2.2.1.getD i (0, []))))))) = AV.p (.c (.v (.bool false)))), (fun (x0 : (List (List Int))) => Sh.fit s97 x0) (x0.2.2.2.2.1.getD i (0, [])).2, (fun (x0 : T32) (x1 : Int) (x2 : Int) (x3 : Int) => Sh.fit s32 x0) x0 (x0.2.2.2.2.1.getD i (0, [])).1 ((List.length (x0.2.2.2.2.1.getD i (0, [])).2 : Nat) : Int) (colsOf (x0.2.2.2.2.1.getD i (0, [])).2), (AV.p (.c (.v (.bool (!(fitsS x0 (x0.2.2.2.2.1.getD i (0, [])).1 ((List.length (x0.2.2.2.2.1.getD i (0, [])).2 : Nat) : Int) (colsOf (x0.2.2.2.2.1.getD i (0, [])).2)))))) = AV.p (.c (.v (.bool false)))), (AV.p (.c (.v (.bool (decide (((i : Nat) : Int) > 0))))) = AV.p (.c (.v (.bool false))))] gamOK hT mixed h (by kernel_rfl) ⟨(by exact (Sh.fit_getD hf0.2.2.2.2.1 i)), hint_bool (h22), (by exact (Sh.fit_getD hf0.2.2.2.2.1 i).2), (by exact hf0), hint_bool (h24), hint_bool (decide_eq_false h26), trivial⟩ ?_
                      intro a w h
                      refine then_normal ?_
                      refine at_test false h (by kernel_rfl) (fun hh => nomatch hh) (fun hh => ?_)
                      refine wp_skip ?_
                      refine in_normal ?_
                      refine then_normal ?_
                      refine at_reg [{}, { nw := true }] { ts := [1, 2, 5, 106, 107, 108, 109, 110, 111, 112, 113, 114, 115, 116, 119, 120, 121, 122, 123, 124, 125, 126, 127, 128, 129, 130, 131, 132], os := [1, 3] } ⟨[(1, aP 1 0), (2, aB false), (5, aI (((i : Nat) : Int) + 1)), (106, aG [cI x0.1, cI x0.2.1, .ro (.int 3) x0.2.2.1, .ro s112 x0.2.2.2.1, .ro s218 x0.2.2.2.2.1, cI x0.2.2.2.2.2]), (107, aP 3 0), (108, aI (x0.2.2.2.2.1.getD i (0, [])).1), (109, aP 3 1), (110, aF s22 (x0.2.2.2.2.1.getD i (0, [])).2), (111, aI ((List.length (x0.2.2.2.2.1.getD i (0, [])).2 : Nat) : Int)), (112, aP 3 1), (113, aF s22 (x0.2.2.2.2.1.getD i (0, [])).2), (114, aI (colsOf (x0.2.2.2.2.1.getD i (0, [])).2)), (115, aB (fitsS x0 (x0.2.2.2.2.1.getD i (0, [])).1 ((List.length (x0.2.2.2.2.1.getD i (0, [])).2 : Nat) : Int) (colsOf (x0.2.2.2.2.1.getD i (0, [])).2))), (116, aB false), (119, aI ((i : Nat) : Int)), (120, aB false), (121, aB false), (122, .p (.c (.v undef))), (123, .p (.c (.v undef))), (124, .p (.c (.v undef))), (125, .p (.c (.v undef))), (126, .p (.c (.v undef))), (127, .p (.c (.v undef))), (128, .p (.c (.v undef))), (129, .p (.c (.v undef))), (130, .p (.c (.v undef))), (131, .p (.c (.v undef))), (132, aB false)], [(1, oX 32 [cI x0.1, cI x0.2.1, .ro (.int 3) x0.2.2.1, .ro s112 x0.2.2.2.1, .ro s218 x0.2.2.2.2.1, cI x0.2.2.2.2.2]), (3, oX 218 [cI (x0.2.2.2.2.1.getD i (0, [])).1, .ro s22 (x0.2.2.2.2.1.getD i (0, [])).2])]⟩ [I64 (((i : Nat) : Int) + 1)] gamOK hT h (by kernel_rfl) ⟨⟨by first | omega | (simp only [lsA]; omega) | (simp; done) | (simp; omega) | done, by first | omega | (simp only [lsA]; omega) | (simp; done) | (simp; omega) | done⟩, trivial⟩ ?_
                      intro a w h
                      replace h := at_out (σ' := ⟨[(1, aP 1 0), (2, aB false), (5, aI (((i : Nat) : Int) + 1))], [(1, oX 32 [cI x0.1, cI x0.2.1, .ro (.int 3) x0.2.2.1, .ro s112 x0.2.2.2.1, .ro s218 x0.2.2.2.2.1, cI x0.2.2.2.2.2])]⟩) { ts := [1, 2, 5], os := [1] } h (by kernel_rfl)
                      exact ⟨i + 1, at_eq h (st_congr1 (fun (d0 : Int) => (⟨[(1, aP 1 0), (2, aB false), (5, aI d0)], [(1, oX 32 [cI x0.1, cI x0.2.1, .ro (.int 3) x0.2.2.1, .ro s112 x0.2.2.2.1, .ro s218 x0.2.2.2.2.1, cI x0.2.2.2.2.2])]⟩ : St)) (show (((i : Nat) : Int) + 1 : Int) = (((i + 1) : Nat) : Int) from by first | with_reducible rfl | (omega) | rfl)), (by exact ⟨by omega, allN_succ hok1.2 (by exact genB_t (by assumption) (by assumption) (by omega))⟩), (by omega)⟩
              · replace h21 : ¬ (((i : Nat) : Int) < ((List.length x0.2.2.2.2.1 : Nat) : Int)) := of_decide_eq_false h21
                refine wp_exit ?_
                refine then_exit ?_
                have hs29 : (allN (genB x0) (List.length x0.2.2.2.2.1)) = true := by exact allN_eq (by omega) hok1.1 hok1.2
                refine then_exit ?_
                refine in_hit ?_
                refine then_normal ?_
                refine wp_seq ?_
                refine at_regq [] { ts := [2], os := [] } [] gamOK hT h (by kernel_rfl) trivial ?_
                intro a w h
                refine then_normal ?_
                refine wp_ret ?_
                exact at_return (S := S_spec_IsValidSink) (x := (x0, ())) (true, ()) [] h (by kernel_rfl) trivial (congrArg (fun z => (z, ())) (show (true) = validS x0 from by (first | (rw [← validS_spec (by assumption) (headS_y2 (by assumption) (by assumption) (by assumption) (by omega) (by assumption))]; symm; assumption) | exact validS_no (by first | (right; right; assumption) | (left; exact headS_n2 (by first | (left; assumption) | (right; left; assumption) | (right; right; left; assumption) | (right; right; right; left; omega) | (right; right; right; right; assumption)))))))

def sinkC (x0 : T32) : Bool := (if (validS x0) = true then decide (((List.length x0.2.2.2.2.1 : Nat) : Int) = ((List.length x0.2.2.1 : Nat) : Int)) else false)
def S_impl_SinkComplete : Sum := { fid := 15, dom := [s32], cod := [(.bool 4)], dp := true, fz := false, pre := fun x => (fun (x0 : T32) => Sh.fit s32 x0) x.1, g := fun x => ((sinkC x.1), ()) }
def S_impl_SinkComplete_tab : List (Nat × Sum) := [(87, S_impl_IsValidSink)]
theorem S_impl_SinkComplete_ok : FnOK Try.prog 15 S_impl_SinkComplete := by
  refine at_enter 14 (fun x => ⟨[(0, aG [cI x.1.1, cI x.1.2.1, .ro (.int 3) x.1.2.2.1, .ro s112 x.1.2.2.2.1, .ro s218 x.1.2.2.2.2.1, cI x.1.2.2.2.2.2])], []⟩) Try.func15 rfl (by kernel_rfl) (fun x => rfl) ?_
  rintro w0 Z0 ⟨x0, u⟩ a w
  revert x0
  intro (x0 : T32) hpre hlens h
  replace h : At w0 Z0 [] 14 ⟨[(0, aG [cI x0.1, cI x0.2.1, .ro (.int 3) x0.2.2.1, .ro s112 x0.2.2.2.1, .ro s218 x0.2.2.2.2.1, cI x0.2.2.2.2.2])], []⟩ a w := h
  replace hpre : (fun (x0 : T32) => Sh.fit s32 x0) x0 := hpre
  have hl1 : List.length x0.2.2.1 ≤ 9223372036854775807 := hlens.1.2.2.1.1
  have hl2 : List.length x0.2.2.2.1 ≤ 9223372036854775807 := hlens.1.2.2.2.1.1
  have hl3 : List.length x0.2.2.2.2.1 ≤ 9223372036854775807 := hlens.1.2.2.2.2.1.1
  have hT : TabOK Try.prog S_impl_SinkComplete_tab := (.cons S_impl_IsValidSink_ok .nil)
  have hf0 : Sh.fit s32 x0 := hpre
  have hn0_1 : List.length x0.2.2.1 ≤ 1073741824 := hf0.2.2.1.1
  have hn0_2 : List.length x0.2.2.2.1 ≤ 1073741824 := hf0.2.2.2.1.1
  have hn0_3 : List.length x0.2.2.2.2.1 ≤ 1073741824 := hf0.2.2.2.2.1.1
  refine wp_seq ?_
  refine at_regq [{ ids := [1] }] { ts := [1, 2], os := [1] } [] gamOK hT h (by kernel_rfl) trivial ?_
  intro a w h
  refine then_normal ?_
  refine wp_seq ?_
  rcases Bool.eq_false_or_eq_true ((validS x0)) with h1 | h1
  · skip
    have hvh1 := validS_t h1
    refine at_regq [{}, { hint := some (aB true) }] { ts := [2], os := [] } [(fun (x0 : T32) => Sh.fit s32 x0) x0, (AV.p (.c (.v (.bool ((validS x0))))) = AV.p (.c (.v (.bool true))))] gamOK hT h (by kernel_rfl) ⟨(by exact hf0), hint_bool (h1), trivial⟩ ?_
    intro a w h
    refine then_normal ?_
    refine wp_ret ?_
    exact at_return (S := S_impl_SinkComplete) (x := (x0, ())) (decide (((List.length x0.2.2.2.2.1 : Nat) : Int) = ((List.length x0.2.2.1 : Nat) : Int)), ()) [] h (by kernel_rfl) trivial (congrArg (fun z => (z, ())) (show (decide (((List.length x0.2.2.2.2.1 : Nat) : Int) = ((List.length x0.2.2.1 : Nat) : Int))) = sinkC x0 from by first | rfl | (unfold sinkC; rw [if_pos h1])))
  · skip
    refine at_regq [{}, { hint := some (aB false) }] { ts := [2], os := [] } [(fun (x0 : T32) => Sh.fit s32 x0) x0, (AV.p (.c (.v (.bool ((validS x0))))) = AV.p (.c (.v (.bool false))))] gamOK hT h (by kernel_rfl) ⟨(by exact hf0), hint_bool (h1), trivial⟩ ?_
    intro a w h
    refine then_normal ?_
    refine wp_ret ?_
    exact at_return (S := S_impl_SinkComplete) (x := (x0, ())) (false, ()) [] h (by kernel_rfl) trivial (congrArg (fun z => (z, ())) (show (false) = sinkC x0 from by first | rfl | (unfold sinkC; rw [if_neg (neT h1)])))

def S_spec_SinkComplete : Sum := { fid := 13, dom := [s32], cod := [(.bool 4)], dp := true, fz := false, pre := fun x => (fun (x0 : T32) => Sh.fit s32 x0) x.1, g := fun x => ((sinkC x.1), ()) }
def S_spec_SinkComplete_tab : List (Nat × Sum) := [(83, S_spec_IsValidSink)]
theorem S_spec_SinkComplete_ok : FnOK Try.prog 13 S_spec_SinkComplete := by
  refine at_enter 14 (fun x => ⟨[(0, aG [cI x.1.1, cI x.1.2.1, .ro (.int 3) x.1.2.2.1, .ro s112 x.1.2.2.2.1, .ro s218 x.1.2.2.2.2.1, cI x.1.2.2.2.2.2])], []⟩) Try.func13 rfl (by kernel_rfl) (fun x => rfl) ?_
  rintro w0 Z0 ⟨x0, u⟩ a w
  revert x0
  intro (x0 : T32) hpre hlens h
  replace h : At w0 Z0 [] 14 ⟨[(0, aG [cI x0.1, cI x0.2.1, .ro (.int 3) x0.2.2.1, .ro s112 x0.2.2.2.1, .ro s218 x0.2.2.2.2.1, cI x0.2.2.2.2.2])], []⟩ a w := h
  replace hpre : (fun (x0 : T32) => Sh.fit s32 x0) x0 := hpre
  have hl1 : List.length x0.2.2.1 ≤ 9223372036854775807 := hlens.1.2.2.1.1
  have hl2 : List.length x0.2.2.2.1 ≤ 9223372036854775807 := hlens.1.2.2.2.1.1
  have hl3 : List.length x0.2.2.2.2.1 ≤ 9223372036854775807 := hlens.1.2.2.2.2.1.1
  have hT : TabOK Try.prog S_spec_SinkComplete_tab := (.cons S_spec_IsValidSink_ok .nil)
  have hf0 : Sh.fit s32 x0 := hpre
  have hn0_1 : List.length x0.2.2.1 ≤ 1073741824 := hf0.2.2.1.1
  have hn0_2 : List.length x0.2.2.2.1 ≤ 1073741824 := hf0.2.2.2.1.1
  have hn0_3 : List.length x0.2.2.2.2.1 ≤ 1073741824 := hf0.2.2.2.2.1.1
  refine wp_seq ?_
  refine at_regq [{ ids := [1] }] { ts := [1, 2], os := [1] } [] gamOK hT h (by kernel_rfl) trivial ?_
  intro a w h
  refine then_normal ?_
  refine wp_seq ?_
  rcases Bool.eq_false_or_eq_true ((validS x0)) with h1 | h1
  · skip
    have hvh1 := validS_t h1
    refine at_regq [{}, { hint := some (aB true) }] { ts := [2], os := [] } [(fun (x0 : T32) => Sh.fit s32 x0) x0, (AV.p (.c (.v (.bool ((validS x0))))) = AV.p (.c (.v (.bool true))))] gamOK hT h (by kernel_rfl) ⟨(by exact hf0), hint_bool (h1), trivial⟩ ?_
    intro a w h
    refine then_normal ?_
    refine wp_ret ?_
    exact at_return (S := S_spec_SinkComplete) (x := (x0, ())) (decide (((List.length x0.2.2.2.2.1 : Nat) : Int) = ((List.length x0.2.2.1 : Nat) : Int)), ()) [] h (by kernel_rfl) trivial (congrArg (fun z => (z, ())) (show (decide (((List.length x0.2.2.2.2.1 : Nat) : Int) = ((List.length x0.2.2.1 : Nat) : Int))) = sinkC x0 from by first | rfl | (unfold sinkC; rw [if_pos h1]; done) | (unfold sinkC; simp_all)))
  · skip
    refine at_regq [{}, { hint := some (aB false) }] { ts := [2], os := [] } [(fun (x0 : T32) => Sh.fit s32 x0) x0, (AV.p (.c (.v (.bool ((validS x0))))) = AV.p (.c (.v (.bool false))))] gamOK hT h (by kernel_rfl) ⟨(by exact hf0), hint_bool (h1), trivial⟩ ?_
    intro a w h
    refine then_normal ?_
    refine wp_ret ?_
    exact at_return (S := S_spec_SinkComplete) (x := (x0, ())) (false, ()) [] h (by kernel_rfl) trivial (congrArg (fun z => (z, ())) (show (false) = sinkC x0 from by first | rfl | (unfold sinkC; rw [if_neg (neT h1)]; done) | (unfold sinkC; simp_all)))

def D_laws_FnExactSinkComplete := (fun (_ : T26) => true)
def S_laws_FnExactSinkComplete : Sum := { fid := 3, dom := [s26], cod := [(.bool 4)], dp := true, fz := false, pre := fun x => (fun (x0 : T26) => Sh.i64 s26 x0) x.1, g := fun x => ((D_laws_FnExactSinkComplete x.1), ()) }
def S_laws_FnExactSinkComplete_tab : List (Nat × Sum) := [(12, S_laws_szSink), (14, S_laws_toSink), (13, S_spec_SinkComplete), (15, S_impl_SinkComplete), (16, S_laws_eqSink)]
theorem S_laws_FnExactSinkComplete_ok : FnOK Try.prog 3 S_laws_FnExactSinkComplete := by
  refine at_enter 27 (fun x => ⟨[(0, aG [cI x.1.1, cI x.1.2.1, .ro (.int 3) x.1.2.2.1, .ro s108 x.1.2.2.2.1, .ro s223 x.1.2.2.2.2.1, cI x.1.2.2.2.2.2])], []⟩) Try.func3 rfl (by kernel_rfl) (fun x => rfl) ?_
  rintro w0 Z0 ⟨x0, u⟩ a w
  revert x0
  intro (x0 : T26) hpre hlens h
  replace h : At w0 Z0 [] 27 ⟨[(0, aG [cI x0.1, cI x0.2.1, .ro (.int 3) x0.2.2.1, .ro s108 x0.2.2.2.1, .ro s223 x0.2.2.2.2.1, cI x0.2.2.2.2.2])], []⟩ a w := h
  replace hpre : (fun (x0 : T26) => Sh.i64 s26 x0) x0 := hpre
  have hl1 : List.length x0.2.2.1 ≤ 9223372036854775807 := hlens.1.2.2.1.1
  have hl2 : List.length x0.2.2.2.1 ≤ 9223372036854775807 := hlens.1.2.2.2.1.1
  have hl3 : List.length x0.2.2.2.2.1 ≤ 9223372036854775807 := hlens.1.2.2.2.2.1.1
  have hT : TabOK Try.prog S_laws_FnExactSinkComplete_tab := (.cons S_laws_szSink_ok (.cons S_laws_toSink_ok (.cons S_spec_SinkComplete_ok (.cons S_impl_SinkComplete_ok (.cons S_laws_eqSink_ok .nil)))))
  have hq0 : Sh.sz s32 x0 = Sh.sz s26 x0 := rfl
  have hb0 : Sh.ctT s32 x0 ≤ 11 * Sh.sz s32 x0 := Sh.ctT_le2 s32 x0
  have hz0 : Sh.ct s32 x0 ≤ 11 * (1 + Sh.sz s32 x0) := Sh.ct_le s32 x0
  have ht0 : Sh.sz s26 x0 = (0 + (0 + ((Sh.sz s22 x0.2.2.1) + ((Sh.sz s23 x0.2.2.2.1) + ((Sh.sz s24 x0.2.2.2.2.1) + 0))))) := rfl
  have hs0_1 : Sh.sz s22 x0.2.2.1 = List.length x0.2.2.1 := sz_flat (by rfl) _
  have hs0_2 : Sh.sz s23 x0.2.2.2.1 = List.length x0.2.2.2.1 + ctL (Sh.sz s108) x0.2.2.2.1 := rfl
  have hs0_3 : Sh.sz s24 x0.2.2.2.2.1 = List.length x0.2.2.2.2.1 + ctL (Sh.sz s223) x0.2.2.2.2.1 := rfl
  refine wp_seq ?_
  refine at_regq [{ ids := [1] }] { ts := [1, 2], os := [1] } [] gamOK hT h (by kernel_rfl) trivial ?_
  intro a w h
  refine then_normal ?_
  refine wp_seq ?_
  refine at_regq [] { ts := [1, 2, 3], os := [1] } [] gamOK hT h (by kernel_rfl) trivial ?_
  intro a w h
  refine then_normal ?_
  refine wp_seq ?_
  refine at_regq [] { ts := [1, 2, 3], os := [1] } [(pSz s26) x0 1048576] gamOK hT h (by kernel_rfl) ⟨(by (show (0 : Int) ≤ _ ∧ _ ≤ (9223372036854775807 : Int); constructor <;> omega)), trivial⟩ ?_
  intro a w h
  refine then_normal ?_
  refine wp_seq ?_
  refine wp_seq ?_
  refine at_regq [] { ts := [1, 2, 11], os := [1] } [] gamOK hT h (by kernel_rfl) trivial ?_
  intro a w h
  refine then_normal ?_
  refine at_test (decide (((szD s26) x0 1048576) < 0)) h (by kernel_rfl) (fun h1 => ?_) (fun h1 => ?_)
  · replace h1 : ((szD s26) x0 1048576) < 0 := of_decide_eq_true h1
    have hvh1 := szD_neg h1 (by omega)
    refine wp_seq ?_
    refine at_regq [] { ts := [1, 2], os := [1] } [] gamOK hT h (by kernel_rfl) trivial ?_
    intro a w h
    refine then_normal ?_
    refine wp_ret ?_
    refine then_ret ?_
    exact at_return (S := S_laws_FnExactSinkComplete) (x := (x0, ())) (true, ()) [] h (by kernel_rfl) trivial (congrArg (fun z => (z, ())) (show (true) = D_laws_FnExactSinkComplete x0 from by unfold D_laws_FnExactSinkComplete; rfl))
  · replace h1 : ¬ (((szD s26) x0 1048576) < 0) := of_decide_eq_false h1
    have hvh1 := szD_val h1 (by omega)
    refine wp_skip ?_
    refine then_normal ?_
    refine wp_seq ?_
    refine at_regq [{}, { ids := [2, 3, 4] }] { ts := [1, 2, 4], os := [1] } [(pTo s26) x0, (fun (x0 : T32) => Sh.fit s32 x0) x0] gamOK hT h (by kernel_rfl) ⟨(by (show Sh.sz _ _ ≤ 1048576; omega)), (by exact (Sh.fit_of_sz s32 rfl (x := x0) (by omega))), trivial⟩ ?_
    intro a w h
    refine then_normal ?_
    refine wp_seq ?_
    refine at_regq [{}, { ids := [5, 6, 7] }, { ids := [8] }] { ts := [1, 2, 4, 5], os := [1, 5, 6, 7, 8] } [(pTo s26) x0] gamOK hT h (by kernel_rfl) ⟨(by (show Sh.sz _ _ ≤ 1048576; omega)), trivial⟩ ?_
    intro a w h
    refine then_normal ?_
    refine wp_seq ?_
    refine at_regq [] { ts := [1, 2, 4, 5, 6], os := [1, 5, 6, 7, 8] } [(fun (x0 : T32) => Sh.fit s32 x0) x0] gamOK hT h (by kernel_rfl) ⟨(by exact (Sh.fit_of_sz s32 rfl (x := x0) (by omega))), trivial⟩ ?_
    intro a w h
    refine then_normal ?_
    refine wp_seq ?_
    refine wp_seq ?_
    refine at_regq [] { ts := [1, 2, 5, 21], os := [1, 5, 6, 7, 8] } [] gamOK hT h (by kernel_rfl) trivial ?_
    intro a w h
    refine then_normal ?_
    refine at_test (!((sinkC x0) == (sinkC x0))) h (by kernel_rfl) (fun h2 => ?_) (fun h2 => ?_)
    · replace h2 : ((sinkC x0) == (sinkC x0)) = false := notT h2
      refine wp_seq ?_
      refine at_reg [] { ts := [1, 2, 5], os := [1, 5, 6, 7, 8] } ⟨[(1, aP 1 0), (2, aB false), (5, aP 8 0)], [(1, oX 26 [cI x0.1, cI x0.2.1, .ro (.int 3) x0.2.2.1, .ro s108 x0.2.2.2.1, .ro s223 x0.2.2.2.2.1, cI x0.2.2.2.2.2]), (5, oR (.int 3) x0.2.2.1), (6, oR s112 x0.2.2.2.1), (7, oR s218 x0.2.2.2.2.1), (8, oX 32 [cI x0.1, cI x0.2.1, .sl 5, .sl 6, .sl 7, cI x0.2.2.2.2.2])]⟩ [] gamOK hT h (by kernel_rfl) trivial ?_
      intro a w h
      refine then_normal ?_
      refine wp_ret ?_
      refine then_ret ?_
      exact at_return (S := S_laws_FnExactSinkComplete) (x := (x0, ())) (false, ()) [] h (by kernel_rfl) trivial (congrArg (fun z => (z, ())) (show (false) = D_laws_FnExactSinkComplete x0 from by unfold D_laws_FnExactSinkComplete; exact absurd (beqT (show _ = _ from by first | rfl | (rfl))) (neT h2)))
    · replace h2 : ((sinkC x0) == (sinkC x0)) = true := notF h2
      refine wp_skip ?_
      refine then_normal ?_
      refine wp_seq ?_
      refine wp_seq ?_
      refine at_any [{}, {}, { ids := [9, 10, 11] }, {}, {}] { ts := [2, 26], os := [] } ⟨[(2, aB false), (26, aB (!((Sh.eqB s32) x0 x0)))], []⟩ [(pTo s26) x0, True] gamOK hT mixed h (by kernel_rfl) ⟨(by (show Sh.sz _ _ ≤ 1048576; omega)), trivial, trivial⟩ ?_
      intro a w h
      refine then_normal ?_
      refine at_test (!((Sh.eqB s32) x0 x0)) h (by kernel_rfl) (fun h3 => ?_) (fun h3 => ?_)
      · replace h3 : ((Sh.eqB s32) x0 x0) = false := notT h3
        refine wp_seq ?_
        refine at_regq [] { ts := [2], os := [] } [] gamOK hT h (by kernel_rfl) trivial ?_
        intro a w h
        refine then_normal ?_
        refine wp_ret ?_
        refine then_ret ?_
        exact at_return (S := S_laws_FnExactSinkComplete) (x := (x0, ())) (false, ()) [] h (by kernel_rfl) trivial (congrArg (fun z => (z, ())) (show (false) = D_laws_FnExactSinkComplete x0 from by unfold D_laws_FnExactSinkComplete; exact absurd ((Sh.eqB_iff _).2 (show _ = _ from by first | rfl | (rfl))) (neT h3)))
      · replace h3 : ((Sh.eqB s32) x0 x0) = true := notF h3
        refine wp_skip ?_
        refine then_normal ?_
        refine wp_seq ?_
        refine at_regq [] { ts := [2], os := [] } [] gamOK hT h (by kernel_rfl) trivial ?_
        intro a w h
        refine then_normal ?_
        refine wp_ret ?_
        exact at_return (S := S_laws_FnExactSinkComplete) (x := (x0, ())) (true, ()) [] h (by kernel_rfl) trivial (congrArg (fun z => (z, ())) (show (true) = D_laws_FnExactSinkComplete x0 from by unfold D_laws_FnExactSinkComplete; rfl))

theorem opn3 : OpensS Try.prog 3 (.int 3) := opensS_int Try.underlying3
theorem co3 : Try.prog.cellsOf 3 = 1 := by kernel_rfl
theorem opn22 : OpensS Try.prog 22 s22 := opensS_slice (a := (.int 3)) Try.underlying22 co3 opn3
theorem co22 : Try.prog.cellsOf 22 = 1 := by kernel_rfl
theorem opn97 : OpensS Try.prog 97 s97 := opensS_slice (a := s22) Try.underlying97 co22 opn22
theorem co97 : Try.prog.cellsOf 97 = 1 := by kernel_rfl
theorem co99 : Try.prog.cellsOf 99 = 2 := by kernel_rfl
theorem opn99 : OpensS Try.prog 99 s99 := by
  intro H enc w base spare held fuel cs x h
  obtain ⟨xs, n, _, _, hl, hlen, hf⟩ := DataW.trod_struct Try.underlying99 h
  obtain ⟨a0, k0, i0⟩ := opensS_field (a := (.int 3)) (i := 0) 0 1 hf hlen rfl rfl rfl co3 opn3
  obtain ⟨a1, k1, i1⟩ := opensS_field (a := s97) (i := 1) 1 1 hf hlen rfl rfl rfl co97 opn97
  rw [co99] at hl
  exact ⟨(a0, a1), (rdS_pair (off := 0) k0 (rdS_last (off := 1) k1 (by omega))), ⟨i0, i1⟩⟩
theorem co108 : Try.prog.cellsOf 108 = 5 := by kernel_rfl
theorem opn108 : OpensS Try.prog 108 s108 := by
  intro H enc w base spare held fuel cs x h
  obtain ⟨xs, n, _, _, hl, hlen, hf⟩ := DataW.trod_struct Try.underlying108 h
  obtain ⟨a0, k0, i0⟩ := opensS_field (a := (.int 3)) (i := 0) 0 1 hf hlen rfl rfl rfl co3 opn3
  obtain ⟨a1, k1, i1⟩ := opensS_field (a := (.int 3)) (i := 1) 1 1 hf hlen rfl rfl rfl co3 opn3
  obtain ⟨a2, k2, i2⟩ := opensS_field (a := (.int 3)) (i := 2) 2 1 hf hlen rfl rfl rfl co3 opn3
  obtain ⟨a3, k3, i3⟩ := opensS_field (a := s99) (i := 3) 3 2 hf hlen rfl rfl rfl co99 opn99
  rw [co108] at hl
  exact ⟨(a0, (a1, (a2, a3))), (rdS_pair (off := 0) k0 (rdS_pair (off := 1) k1 (rdS_pair (off := 2) k2 (rdS_last (off := 3) k3 (by omega))))), ⟨i0, ⟨i1, ⟨i2, i3⟩⟩⟩⟩
theorem opn23 : OpensS Try.prog 23 s23 := opensS_slice (a := s108) Try.underlying23 co108 opn108
theorem co23 : Try.prog.cellsOf 23 = 1 := by kernel_rfl
theorem co223 : Try.prog.cellsOf 223 = 2 := by kernel_rfl
theorem opn223 : OpensS Try.prog 223 s223 := by
  intro H enc w base spare held fuel cs x h
  obtain ⟨xs, n, _, _, hl, hlen, hf⟩ := DataW.trod_struct Try.underlying223 h
  obtain ⟨a0, k0, i0⟩ := opensS_field (a := (.int 3)) (i := 0) 0 1 hf hlen rfl rfl rfl co3 opn3
  obtain ⟨a1, k1, i1⟩ := opensS_field (a := s97) (i := 1) 1 1 hf hlen rfl rfl rfl co97 opn97
  rw [co223] at hl
  exact ⟨(a0, a1), (rdS_pair (off := 0) k0 (rdS_last (off := 1) k1 (by omega))), ⟨i0, i1⟩⟩
theorem opn24 : OpensS Try.prog 24 s24 := opensS_slice (a := s223) Try.underlying24 co223 opn223
theorem co24 : Try.prog.cellsOf 24 = 1 := by kernel_rfl
theorem co26 : Try.prog.cellsOf 26 = 6 := by kernel_rfl
theorem opn26 : OpensS Try.prog 26 s26 := by
  intro H enc w base spare held fuel cs x h
  obtain ⟨xs, n, _, _, hl, hlen, hf⟩ := DataW.trod_struct Try.underlying26 h
  obtain ⟨a0, k0, i0⟩ := opensS_field (a := (.int 3)) (i := 0) 0 1 hf hlen rfl rfl rfl co3 opn3
  obtain ⟨a1, k1, i1⟩ := opensS_field (a := (.int 3)) (i := 1) 1 1 hf hlen rfl rfl rfl co3 opn3
  obtain ⟨a2, k2, i2⟩ := opensS_field (a := s22) (i := 2) 2 1 hf hlen rfl rfl rfl co22 opn22
  obtain ⟨a3, k3, i3⟩ := opensS_field (a := s23) (i := 3) 3 1 hf hlen rfl rfl rfl co23 opn23
  obtain ⟨a4, k4, i4⟩ := opensS_field (a := s24) (i := 4) 4 1 hf hlen rfl rfl rfl co24 opn24
  obtain ⟨a5, k5, i5⟩ := opensS_field (a := (.int 3)) (i := 5) 5 1 hf hlen rfl rfl rfl co3 opn3
  rw [co26] at hl
  exact ⟨(a0, (a1, (a2, (a3, (a4, a5))))), (rdS_pair (off := 0) k0 (rdS_pair (off := 1) k1 (rdS_pair (off := 2) k2 (rdS_pair (off := 3) k3 (rdS_pair (off := 4) k4 (rdS_last (off := 5) k5 (by omega))))))), ⟨i0, ⟨i1, ⟨i2, ⟨i3, ⟨i4, i5⟩⟩⟩⟩⟩⟩
namespace fnExactSinkComplete
open Go.ChangeShapes Go.WideShapes Go.ChangeAt Go.RowKit
theorem own : ownKnob Try.prog.godebug = none := by kernel_rfl
theorem laidOut : laidOutB Try.prog = true := fxLaid
set_option maxRecDepth 100000 in
theorem lifted (os : Os) (started : os.Started) (H : Type) (enc : TypeId × Value → H) :
    ReturnsInHanded {} Try.checked os 3 .any (Rows.fnExactSinkCompleteSpec.pre6 enc Try.prog Try.f3 Rows.fnExactSinkCompleteRow.domain false) (Rows.fnExactSinkCompleteSpec.post enc Try.prog Try.f3 false true false false) := by
  refine returnsInHanded_of_change (C := Try.checked) own started (by kernel_rfl) Try.func3
    (ChangeSpec.witness6 (enc := enc) (C := Try.checked) false ⟨#[], #[.agg #[.int .i64 0, .int .i64 0, .slice none 0 0, .slice none 0 0, .slice none 0 0, .int .i64 0]], []⟩ 8 (by kernel_rfl) (by kernel_rfl) (by kernel_rfl) (by kernel_rfl)) ?_
  intro W base args ds gs before hval0 hW hcnd _
  have hval : ∀ (j : Nat) t v, Try.f3.params[j]? = some t → args[j]? = some v → Value.okWide Try.prog W .any base t v := hval0
  have hW' := hW
  obtain ⟨p, q, hA0, hV, rfl, hfz, hnd⟩ := hW
  have hA : DataW.TrodAll enc Try.prog W 0 (fun _ => true) true Try.f3.params.toList args.toList ds p := hA0
  rw [Try.params3] at hA hval
  obtain ⟨v0, vs0, d0, ds0, p0, q0, hargs, rfl, rfl, h0, r0⟩ := trodAll_cons hA
  obtain ⟨rfl, rfl, rfl⟩ := trodAll_nil r0
  obtain rfl : args = #[v0] := by cases args; simp_all
  obtain ⟨rfl, rfl⟩ := trodVars_none hV
  have k0 := h0
  have lt0 : ∀ x ∈ p0, x.block < W.heap.size := by obtain ⟨m, hm⟩ := k0; exact DataW.trod_lt m _ _ _ hm
  obtain ⟨cs0, rfl, _⟩ := okWide_struct Try.underlying26 (hval 0 26 v0 rfl rfl)
  obtain ⟨cs0⟩ := cs0
  obtain ⟨x0, hx0, i0⟩ : ∃ x : (s26).D, (s26).rd W (fun b => b < W.heap.size) cs0 x ∧ (s26).i64 x := by obtain ⟨fuel, hf⟩ := h0; exact opn26 hf
  clear hA0 hval0
  refine (calls_law S_laws_FnExactSinkComplete_ok (by kernel_rfl) W (fun b => b < W.heap.size) [.agg cs0.toArray] (x0, ()) (fun _ h => h) ⟨argRd_st hx0, trivial⟩ i0).mono fun e W' hr => ?_
  obtain ⟨he, bel⟩ := ret_bool hr
  subst he
  exact ⟨_, rfl, _, _, _, [], _, [], hW', trodAll_mk1 (shut_bool Try.underlying4 _), (trodAll_cons_mk (Below.trod laidOut (by kernel_rfl) (of_decide_eq_true (by kernel_rfl)) k0 bel lt0) trodAll_mk0), rfl, bel.frame _, fun h => by cases h⟩
theorem closed : joinedFacts Try.prog 3 Try.f3 (Rows.fnExactSinkCompleteSpec) Rows.fnExactSinkCompleteRow = true := by
  unfold joinedFacts
  exact (and2 (and2 (and2 (and2 (and2 (and2 (and2 (and2 (and2 (and2 (and2 (and2 (and2 (and2 (and2 (and2 (and2 (and2 (and2 (and2 (and2 (and2 (and2 (and2 (and2 (and2 (and2 (and2 (and2 (and2 (and2 (by kernel_rfl) fxLaid) fxMaps) (by kernel_rfl)) (by kernel_rfl)) (by kernel_rfl)) (by kernel_rfl)) (by kernel_rfl)) (by kernel_rfl)) (by kernel_rfl)) (by kernel_rfl)) (by kernel_rfl)) (by kernel_rfl)) (by kernel_rfl)) (by kernel_rfl)) (by kernel_rfl)) (by kernel_rfl)) (by kernel_rfl)) (by kernel_rfl)) (by kernel_rfl)) (by kernel_rfl)) (by kernel_rfl)) (by kernel_rfl)) (by kernel_rfl)) (by kernel_rfl)) fxEnter) (by rw [fxLifts]; kernel_rfl)) (by rw [fxMake]; kernel_rfl)) (by kernel_rfl)) (by kernel_rfl)) (by kernel_rfl)) (by kernel_rfl))
theorem over : Rows.fnExactSinkCompleteRow.holds Try.pinned (OpenSpec.ofChange Rows.fnExactSinkCompleteSpec) :=
  OpenClaim.holds_of_wide 3 Try.f3 rfl rfl rfl rfl rfl rfl rfl ⟨rfl, rfl, rfl, rfl, rfl⟩ rfl rfl rfl rfl rfl (by kernel_rfl) Try.func3 closed
    (of_decide_eq_true (by kernel_rfl)) (by unfold Func.isWrapper; first | (rw [if_pos (by decide +kernel)]; kernel_rfl) | (rw [if_neg (by decide +kernel)]; exact ⟨rfl, rfl⟩))
    (fun os started H enc _ => lifted os started H enc)
/-- the statement -/
theorem proved : Rows.FnExactSinkCompleteSaid := over
end fnExactSinkComplete

end Go.Proofs.Ytdmkjcnppgfeoaa

/- The walks of the functions that the law reaches: each summary holds. No condition. -/
import Derived.Test.YtamibfjeldfphaaGreatSinkMessage2
import Derived.Test.YtamibfjeldfphaaGreatLA
import Derived.Test.YtamibfjeldfphaaGreatProg
namespace Go.Proofs.YtamibfjeldfphaaGreat
open Go.RowKit
set_option linter.unusedVariables false
set_option linter.unusedSimpArgs false
def validD (x0 : T69) : Bool := (if (isFmt x0.1 x0.2.1 x0.2.2.1) = true then (if (validB x0.2.2.2) = true then (if x0.2.2.2.1 = x0.2.1 + x0.2.2.1 then (if (List.all x0.2.2.2.2 (fun r => decide (LA.leadS r < x0.2.1))) = true then true else false) else false) else false) else false)
abbrev Q_impl_IsValidDecoder := (fun (x0 : T69) => Sh.fit s69 x0)
def S_impl_IsValidDecoder : Sum := { fid := 60, dom := [s69], cod := [(.bool 4)], dp := true, fz := false, pre := fun x => Q_impl_IsValidDecoder x.1, g := fun x => ((validD x.1), ()) }
def S_impl_IsValidDecoder_tab : List (Nat × Sum) := [(82, S_impl_isFormat), (83, S_impl_IsValidBasis), (84, S_impl_LeadingIndex)]
theorem S_impl_IsValidDecoder_ok : FnOK Tryz.prog 60 S_impl_IsValidDecoder := by
 refine at_enter 44 (fun x => ⟨[(0, aG [cI x.1.1, cI x.1.2.1, cI x.1.2.2.1, cI x.1.2.2.2.1, .ro s22 x.1.2.2.2.2])], []⟩) Tryz.func60 rfl (by kernel_rfl) (fun x => rfl) ?_
 rintro w0 Z0 ⟨x0, u⟩ a w
 revert x0
 intro (x0 : T69) hpre hlens h
 replace hpre : Q_impl_IsValidDecoder x0 := hpre
 have hT : TabOK Tryz.prog S_impl_IsValidDecoder_tab := (.cons S_impl_isFormat_ok (.cons S_impl_IsValidBasis_ok (.cons S_impl_LeadingIndex_ok .nil)))
 have hf0 : Sh.fit s69 x0 := hpre
 have hn0_1 : List.length x0.2.2.2.2 ≤ 1073741824 := hf0.2.2.2.2.1
 refine wp_seq ?_
 refine at_regq [{ ids := [1] }] { ts := [1, 2], os := [1] } [] gamOK hT h (by kernel_rfl) trivial fun a w h => then_normal (wp_seq (wp_seq ?_))
 rcases Bool.eq_false_or_eq_true (!(isFmt x0.1 x0.2.1 x0.2.2.1)) with h1 | h1
 ·have hzh1 : (isFmt x0.1 x0.2.1 x0.2.2.1) = false := notT h1
  refine at_regq [{}, {}, {}, {}, {}, {}, {}, { hint := some (aB true) }] { ts := [1, 2, 29], os := [1] } [True, (AV.p (.c (.v (.bool (!(isFmt x0.1 x0.2.1 x0.2.2.1))))) = AV.p (.c (.v (.bool true))))] gamOK hT h (by kernel_rfl) ⟨trivial, hint_bool (h1), trivial⟩ fun a w h => then_normal ?_
  refine at_test true h (by kernel_rfl) (fun hh => ?_) (fun hh => nomatch hh)
  refine wp_seq ?_
  refine at_regq [] { ts := [1, 2], os := [1] } [] gamOK hT h (by kernel_rfl) trivial fun a w h => then_normal (wp_ret (then_ret ?_))
  exact at_return (false, ()) [] h (by kernel_rfl) trivial (congrArg (fun z => (z, ())) (show (false) = validD x0 from by first | rfl | (unfold validD; rw [if_neg (neT (notT h1))])))
 ·have hzh1 : (isFmt x0.1 x0.2.1 x0.2.2.1) = true := notF h1
  have hvh1 := isFmt_t (notF h1)
  rcases Bool.eq_false_or_eq_true (!(validB x0.2.2.2)) with h2 | h2
  ·have hzh2 : (validB x0.2.2.2) = false := notT h2
   refine at_regq [{}, {}, {}, {}, {}, {}, {}, { hint := some (aB false) }, {}, {}, {}, {}, { hint := some (aB true) }] { ts := [1, 2, 29], os := [1] } [True, (AV.p (.c (.v (.bool (!(isFmt x0.1 x0.2.1 x0.2.2.1))))) = AV.p (.c (.v (.bool false)))), Q_impl_IsValidBasis x0.2.2.2, (AV.p (.c (.v (.bool (!(validB x0.2.2.2))))) = AV.p (.c (.v (.bool true))))] gamOK hT h (by kernel_rfl) ⟨trivial, hint_bool (h1), (by exact hf0.2.2.2), hint_bool (h2), trivial⟩ fun a w h => then_normal ?_
   refine at_test true h (by kernel_rfl) (fun hh => ?_) (fun hh => nomatch hh)
   refine wp_seq ?_
   refine at_regq [] { ts := [1, 2], os := [1] } [] gamOK hT h (by kernel_rfl) trivial fun a w h => then_normal (wp_ret (then_ret ?_))
   exact at_return (false, ()) [] h (by kernel_rfl) trivial (congrArg (fun z => (z, ())) (show (false) = validD x0 from by first | rfl | (unfold validD; rw [if_pos (notF h1), if_neg (neT (notT h2))])))
  ·have hzh2 : (validB x0.2.2.2) = true := notF h2
   have hvh2 := validB_t (notF h2)
   refine at_regq [{}, {}, {}, {}, {}, {}, {}, { hint := some (aB false) }, {}, {}, {}, {}, { hint := some (aB false) }, {}, {}, {}, {}, {}, {}, {}, {}, {}, { nw := true }] { ts := [1, 2, 29], os := [1] } [True, (AV.p (.c (.v (.bool (!(isFmt x0.1 x0.2.1 x0.2.2.1))))) = AV.p (.c (.v (.bool false)))), Q_impl_IsValidBasis x0.2.2.2, (AV.p (.c (.v (.bool (!(validB x0.2.2.2))))) = AV.p (.c (.v (.bool false)))), I64 (x0.2.1 + x0.2.2.1)] gamOK hT h (by kernel_rfl) ⟨trivial, hint_bool (h1), (by exact hf0.2.2.2), hint_bool (h2), ⟨by first | omega | (simp only [lsA]; omega) | (simp <;> omega), by first | omega | (simp only [lsA]; omega) | (simp <;> omega)⟩, trivial⟩ fun a w h => then_normal ?_
   refine at_test (!decide (x0.2.2.2.1 = x0.2.1 + x0.2.2.1)) h (by kernel_rfl) (fun h3 => ?_) (fun h3 => ?_)
   ·replace h3 : ¬ (x0.2.2.2.1 = x0.2.1 + x0.2.2.1) := of_decide_eq_false (notT h3)
    refine wp_seq ?_
    refine at_regq [] { ts := [1, 2], os := [1] } [] gamOK hT h (by kernel_rfl) trivial fun a w h => then_normal (wp_ret (then_ret ?_))
    exact at_return (false, ()) [] h (by kernel_rfl) trivial (congrArg (fun z => (z, ())) (show (false) = validD x0 from by first | rfl | (unfold validD; rw [if_pos (notF h1), if_pos (notF h2), if_neg h3])))
   ·replace h3 : x0.2.2.2.1 = x0.2.1 + x0.2.2.1 := of_decide_eq_true (notF h3)
    refine wp_skip (then_normal (wp_seq (wp_seq ?_)))
    refine at_regq [] { ts := [1, 2, 32, 33, 34], os := [1] } [] gamOK hT h (by kernel_rfl) trivial fun a w h => then_normal (wp_block ?_)
    replace h := at_out (σ' := ⟨[(1, aP 1 0), (2, aB false), (32, aF s22 x0.2.2.2.2), (33, aI ((List.length x0.2.2.2.2 : Nat) : Int)), (34, aI 0)], [(1, oX 69 [cI x0.1, cI x0.2.1, cI x0.2.2.1, cI x0.2.2.2.1, .ro s22 x0.2.2.2.2])]⟩) { ts := [1, 2, 32, 33, 34], os := [1] } h (by kernel_rfl)
    refine at_loop (fun i : Nat => (⟨[(1, aP 1 0), (2, aB false), (32, aF s22 x0.2.2.2.2), (33, aI ((List.length x0.2.2.2.2 : Nat) : Int)), (34, aI ((i : Nat) : Int))], [(1, oX 69 [cI x0.1, cI x0.2.1, cI x0.2.2.1, cI x0.2.2.2.1, .ro s22 x0.2.2.2.2])]⟩ : St)) (fun i => (i ≤ List.length x0.2.2.2.2 ∧ allTo1 (fun r => decide (LA.leadS r < x0.2.1)) x0.2.2.2.2 [] i)) (fun i => List.length x0.2.2.2.2 - i) (0) h (st_congr1 (fun (d0 : Int) => (⟨[(1, aP 1 0), (2, aB false), (32, aF s22 x0.2.2.2.2), (33, aI ((List.length x0.2.2.2.2 : Nat) : Int)), (34, aI d0)], [(1, oX 69 [cI x0.1, cI x0.2.1, cI x0.2.2.1, cI x0.2.2.2.1, .ro s22 x0.2.2.2.2])]⟩ : St)) (show (0 : Int) = (((0) : Nat) : Int) from by first | with_reducible rfl | (rfl) | rfl)) (by exact ⟨Nat.zero_le _, allTo1_zero⟩) ?_
    intro i a w hok0 h
    refine wp_seq ?_
    refine at_regq [] { ts := [1, 2, 32, 33, 34, 35], os := [1] } [] gamOK hT h (by kernel_rfl) trivial fun a w h => then_normal (wp_seq ?_)
    refine at_test (decide (((i : Nat) : Int) < ((List.length x0.2.2.2.2 : Nat) : Int))) h (by kernel_rfl) (fun h4 => ?_) (fun h4 => ?_)
    ·replace h4 : ((i : Nat) : Int) < ((List.length x0.2.2.2.2 : Nat) : Int) := of_decide_eq_true h4
     refine wp_skip (then_normal (wp_seq (wp_block (wp_seq ?_))))
     refine at_regq [] { ts := [1, 2, 4, 32, 33, 34], os := [1] } [(0 : Int) ≤ ((i : Nat) : Int) ∧ ((i : Nat) : Int) < ((List.length x0.2.2.2.2 : Nat) : Int)] gamOK hT h (by kernel_rfl) ⟨(by refine ⟨?_, ?_⟩ <;> (first | omega | (simp only [lsA]; omega) | (simp <;> omega))), trivial⟩ fun a w h => then_normal (wp_seq ?_)
     refine at_anyq [{}, {}, {}, {}, {}] { ts := [1, 2, 32, 33, 34, 42], os := [1] } [Q_impl_LeadingIndex (x0.2.2.2.2.getD i [])] gamOK hT mixed h (by kernel_rfl) ⟨(by exact Sh.fit_getD hf0.2.2.2.2 i), trivial⟩ fun a w h => then_normal ?_
     refine at_test (decide ((LA.leadS (x0.2.2.2.2.getD i [])) ≥ x0.2.1)) h (by kernel_rfl) (fun h5 => ?_) (fun h5 => ?_)
     ·replace h5 : (LA.leadS (x0.2.2.2.2.getD i [])) ≥ x0.2.1 := of_decide_eq_true h5
      refine wp_seq ?_
      refine at_regq [] { ts := [1, 2, 32, 33, 34], os := [1] } [] gamOK hT h (by kernel_rfl) trivial fun a w h => then_normal (wp_ret (in_ret (then_ret ?_)))
      have hs6 : (List.all x0.2.2.2.2 (fun r => decide (LA.leadS r < x0.2.1))) = false := by exact all_at (z := []) (i := i) (by omega) (by exact decide_eq_false (by omega))
      refine then_ret (in_ret (then_ret ?_))
      exact at_return (false, ()) [] h (by kernel_rfl) trivial (congrArg (fun z => (z, ())) (show (false) = validD x0 from by first | rfl | (unfold validD; rw [if_pos (notF h1), if_pos (notF h2), if_pos h3, if_neg (neT hs6)])))
     ·replace h5 : ¬ ((LA.leadS (x0.2.2.2.2.getD i [])) ≥ x0.2.1) := of_decide_eq_false h5
      refine wp_skip (in_normal (then_normal ?_))
      refine at_regq [{ nw := true }] { ts := [1, 2, 32, 33, 34], os := [1] } [I64 (((i : Nat) : Int) + 1)] gamOK hT h (by kernel_rfl) ⟨⟨by first | omega | (simp only [lsA]; omega) | (simp <;> omega), by first | omega | (simp only [lsA]; omega) | (simp <;> omega)⟩, trivial⟩ fun a w h => ?_
      replace h := at_out (σ' := ⟨[(1, aP 1 0), (2, aB false), (32, aF s22 x0.2.2.2.2), (33, aI ((List.length x0.2.2.2.2 : Nat) : Int)), (34, aI (((i : Nat) : Int) + 1))], [(1, oX 69 [cI x0.1, cI x0.2.1, cI x0.2.2.1, cI x0.2.2.2.1, .ro s22 x0.2.2.2.2])]⟩) { ts := [1, 2, 32, 33, 34], os := [1] } h (by kernel_rfl)
      exact ⟨i + 1, at_eq h (st_congr1 (fun (d0 : Int) => (⟨[(1, aP 1 0), (2, aB false), (32, aF s22 x0.2.2.2.2), (33, aI ((List.length x0.2.2.2.2 : Nat) : Int)), (34, aI d0)], [(1, oX 69 [cI x0.1, cI x0.2.1, cI x0.2.2.1, cI x0.2.2.2.1, .ro s22 x0.2.2.2.2])]⟩ : St)) (show (((i : Nat) : Int) + 1 : Int) = (((i + 1) : Nat) : Int) from by first | with_reducible rfl | (omega) | rfl)), (by exact ⟨by omega, allTo1_succ hok0.2 (by exact decide_eq_true (by omega))⟩), (by omega)⟩
    ·replace h4 : ¬ (((i : Nat) : Int) < ((List.length x0.2.2.2.2 : Nat) : Int)) := of_decide_eq_false h4
     refine wp_exit (then_exit ?_)
     have hs7 : (List.all x0.2.2.2.2 (fun r => decide (LA.leadS r < x0.2.1))) = true := by exact all_of (z := []) (i := i) (by omega) hok0.2
     refine then_exit (in_hit (then_normal (wp_seq ?_)))
     refine at_regq [] { ts := [2], os := [] } [] gamOK hT h (by kernel_rfl) trivial fun a w h => then_normal (wp_ret ?_)
     exact at_return (true, ()) [] h (by kernel_rfl) trivial (congrArg (fun z => (z, ())) (show (true) = validD x0 from by first | rfl | (unfold validD; rw [if_pos (notF h1), if_pos (notF h2), if_pos h3, if_pos hs7])))
theorem validD_t {d : T69} (h : validD d = true) : ((0 ≤ d.1 ∧ d.1 ≤ 1000000000000) ∧ (1 ≤ d.2.1 ∧ d.2.1 ≤ 8) ∧ (1 ≤ d.2.2.1 ∧ d.2.2.1 ≤ 16)) ∧ basP d.2.2.2 ∧ d.2.2.2.1 = d.2.1 + d.2.2.1 ∧ ∀ r ∈ d.2.2.2.2, LA.leadS r < d.2.1 := by
 unfold validD at h
 split at h
 ·split at h
  ·split at h
   ·split at h
    ·rename_i h1 h2 h3 h4
     exact ⟨isFmt_t h1, validB_t h2, h3, fun r hr => of_decide_eq_true (List.all_eq_true.1 h4 r hr)⟩
    ·cases h
   ·cases h
  ·cases h
 ·cases h

abbrev Q_spec_IsValidDecoder := (fun (x0 : T69) => Sh.fit s69 x0)
def S_spec_IsValidDecoder : Sum := { fid := 47, dom := [s69], cod := [(.bool 4)], dp := true, fz := false, pre := fun x => Q_spec_IsValidDecoder x.1, g := fun x => ((validD x.1), ()) }
def S_spec_IsValidDecoder_tab : List (Nat × Sum) := [(72, S_spec_l14Range), (73, S_spec_IsValidBasis), (74, S_spec_LeadingIndex)]
theorem S_spec_IsValidDecoder_ok : FnOK Tryz.prog 47 S_spec_IsValidDecoder := by
 refine at_enter 47 (fun x => ⟨[(0, aG [cI x.1.1, cI x.1.2.1, cI x.1.2.2.1, cI x.1.2.2.2.1, .ro s22 x.1.2.2.2.2])], []⟩) Tryz.func47 rfl (by kernel_rfl) (fun x => rfl) ?_
 rintro w0 Z0 ⟨x0, u⟩ a w
 revert x0
 intro (x0 : T69) hpre hlens h
 replace hpre : Q_spec_IsValidDecoder x0 := hpre
 have hT : TabOK Tryz.prog S_spec_IsValidDecoder_tab := (.cons S_spec_l14Range_ok (.cons S_spec_IsValidBasis_ok (.cons S_spec_LeadingIndex_ok .nil)))
 have hf0 : Sh.fit s69 x0 := hpre
 have hn0_1 : List.length x0.2.2.2.2 ≤ 1073741824 := hf0.2.2.2.2.1
 refine wp_seq ?_
 refine at_regq [{ ids := [1] }] { ts := [1, 2], os := [1] } [] gamOK hT h (by kernel_rfl) trivial fun a w h => then_normal (wp_seq (wp_seq ?_))
 rcases Bool.eq_false_or_eq_true (!(isFmt x0.1 x0.2.1 x0.2.2.1)) with h1 | h1
 ·have hzh1 : (isFmt x0.1 x0.2.1 x0.2.2.1) = false := notT h1
  refine at_regq [{}, {}, {}, {}, {}, {}, {}, { hint := some (aB true) }] { ts := [1, 2, 28], os := [1] } [True, (AV.p (.c (.v (.bool (!(isFmt x0.1 x0.2.1 x0.2.2.1))))) = AV.p (.c (.v (.bool true))))] gamOK hT h (by kernel_rfl) ⟨trivial, hint_bool (h1), trivial⟩ fun a w h => then_normal ?_
  refine at_test true h (by kernel_rfl) (fun hh => ?_) (fun hh => nomatch hh)
  refine wp_seq ?_
  refine at_regq [] { ts := [1, 2], os := [1] } [] gamOK hT h (by kernel_rfl) trivial fun a w h => then_normal (wp_ret (then_ret ?_))
  exact at_return (false, ()) [] h (by kernel_rfl) trivial (congrArg (fun z => (z, ())) (show (false) = validD x0 from by first | rfl | (unfold validD; rw [if_neg (neT (notT h1))]; done) | (unfold validD; (repeat (first | rfl | split)) <;> (first | rfl | omega | (simp_all [-List.all_eq_true, -List.any_eq_true, -List.all_eq_false, -List.any_eq_false, validBS_eq]; done) | (simp_all [-List.all_eq_true, -List.any_eq_true, -List.all_eq_false, -List.any_eq_false, validBS_eq]; omega) | (exfalso; simp_all [-List.all_eq_true, -List.any_eq_true, -List.all_eq_false, -List.any_eq_false, validBS_eq]; omega)))))
 ·have hzh1 : (isFmt x0.1 x0.2.1 x0.2.2.1) = true := notF h1
  have hvh1 := isFmt_t (notF h1)
  rcases Bool.eq_false_or_eq_true (!(validBS x0.2.2.2)) with h2 | h2
  ·have hzh2 : (validBS x0.2.2.2) = false := notT h2
   refine at_regq [{}, {}, {}, {}, {}, {}, {}, { hint := some (aB false) }, {}, {}, {}, {}, { hint := some (aB true) }] { ts := [1, 2, 28], os := [1] } [True, (AV.p (.c (.v (.bool (!(isFmt x0.1 x0.2.1 x0.2.2.1))))) = AV.p (.c (.v (.bool false)))), Q_spec_IsValidBasis x0.2.2.2, (AV.p (.c (.v (.bool (!(validBS x0.2.2.2))))) = AV.p (.c (.v (.bool true))))] gamOK hT h (by kernel_rfl) ⟨trivial, hint_bool (h1), (by exact hf0.2.2.2), hint_bool (h2), trivial⟩ fun a w h => then_normal ?_
   refine at_test true h (by kernel_rfl) (fun hh => ?_) (fun hh => nomatch hh)
   refine wp_seq ?_
   refine at_regq [] { ts := [1, 2], os := [1] } [] gamOK hT h (by kernel_rfl) trivial fun a w h => then_normal (wp_ret (then_ret ?_))
   exact at_return (false, ()) [] h (by kernel_rfl) trivial (congrArg (fun z => (z, ())) (show (false) = validD x0 from by first | rfl | (unfold validD; rw [if_pos (notF h1), if_neg (neT (notT h2))]; done) | (unfold validD; (repeat (first | rfl | split)) <;> (first | rfl | omega | (simp_all [-List.all_eq_true, -List.any_eq_true, -List.all_eq_false, -List.any_eq_false, validBS_eq]; done) | (simp_all [-List.all_eq_true, -List.any_eq_true, -List.all_eq_false, -List.any_eq_false, validBS_eq]; omega) | (exfalso; simp_all [-List.all_eq_true, -List.any_eq_true, -List.all_eq_false, -List.any_eq_false, validBS_eq]; omega)))))
  ·have hzh2 : (validBS x0.2.2.2) = true := notF h2
   have hvh2 := validBS_t (notF h2)
   refine at_regq [{}, {}, {}, {}, {}, {}, {}, { hint := some (aB false) }, {}, {}, {}, {}, { hint := some (aB false) }, {}, {}, {}, {}, {}, {}, {}, {}, {}, { nw := true }] { ts := [1, 2, 28], os := [1] } [True, (AV.p (.c (.v (.bool (!(isFmt x0.1 x0.2.1 x0.2.2.1))))) = AV.p (.c (.v (.bool false)))), Q_spec_IsValidBasis x0.2.2.2, (AV.p (.c (.v (.bool (!(validBS x0.2.2.2))))) = AV.p (.c (.v (.bool false)))), I64 (x0.2.1 + x0.2.2.1)] gamOK hT h (by kernel_rfl) ⟨trivial, hint_bool (h1), (by exact hf0.2.2.2), hint_bool (h2), ⟨by first | omega | (simp only [lsA]; omega) | (simp <;> omega), by first | omega | (simp only [lsA]; omega) | (simp <;> omega)⟩, trivial⟩ fun a w h => then_normal ?_
   refine at_test (!decide (x0.2.2.2.1 = x0.2.1 + x0.2.2.1)) h (by kernel_rfl) (fun h3 => ?_) (fun h3 => ?_)
   ·replace h3 : ¬ (x0.2.2.2.1 = x0.2.1 + x0.2.2.1) := of_decide_eq_false (notT h3)
    refine wp_seq ?_
    refine at_regq [] { ts := [1, 2], os := [1] } [] gamOK hT h (by kernel_rfl) trivial fun a w h => then_normal (wp_ret (then_ret ?_))
    exact at_return (false, ()) [] h (by kernel_rfl) trivial (congrArg (fun z => (z, ())) (show (false) = validD x0 from by first | rfl | (unfold validD; rw [if_pos (notF h1), if_pos (notF h2), if_neg h3]; done) | (unfold validD; (repeat (first | rfl | split)) <;> (first | rfl | omega | (simp_all [-List.all_eq_true, -List.any_eq_true, -List.all_eq_false, -List.any_eq_false, validBS_eq]; done) | (simp_all [-List.all_eq_true, -List.any_eq_true, -List.all_eq_false, -List.any_eq_false, validBS_eq]; omega) | (exfalso; simp_all [-List.all_eq_true, -List.any_eq_true, -List.all_eq_false, -List.any_eq_false, validBS_eq]; omega)))))
   ·replace h3 : x0.2.2.2.1 = x0.2.1 + x0.2.2.1 := of_decide_eq_true (notF h3)
    refine wp_skip (then_normal (wp_seq (wp_seq ?_)))
    refine at_regq [] { ts := [1, 2, 3], os := [1] } [] gamOK hT h (by kernel_rfl) trivial fun a w h => then_normal (wp_block ?_)
    replace h := at_out (σ' := ⟨[(1, aP 1 0), (2, aB false), (3, aI 0)], [(1, oX 69 [cI x0.1, cI x0.2.1, cI x0.2.2.1, cI x0.2.2.2.1, .ro s22 x0.2.2.2.2])]⟩) { ts := [1, 2, 3], os := [1] } h (by kernel_rfl)
    refine at_loop (fun i : Nat => (⟨[(1, aP 1 0), (2, aB false), (3, aI ((i : Nat) : Int))], [(1, oX 69 [cI x0.1, cI x0.2.1, cI x0.2.2.1, cI x0.2.2.2.1, .ro s22 x0.2.2.2.2])]⟩ : St)) (fun i => (i ≤ List.length x0.2.2.2.2 ∧ allTo1 (fun r => decide (LA.leadS r < x0.2.1)) x0.2.2.2.2 [] i)) (fun i => List.length x0.2.2.2.2 - i) (0) h (st_congr1 (fun (d0 : Int) => (⟨[(1, aP 1 0), (2, aB false), (3, aI d0)], [(1, oX 69 [cI x0.1, cI x0.2.1, cI x0.2.2.1, cI x0.2.2.2.1, .ro s22 x0.2.2.2.2])]⟩ : St)) (show (0 : Int) = (((0) : Nat) : Int) from by first | with_reducible rfl | (rfl) | rfl)) (by exact ⟨Nat.zero_le _, allTo1_zero⟩) ?_
    intro i a w hok0 h
    refine wp_seq (wp_seq ?_)
    refine at_regq [] { ts := [1, 2, 3, 34], os := [1] } [] gamOK hT h (by kernel_rfl) trivial fun a w h => then_normal ?_
    refine at_test (decide (((i : Nat) : Int) < ((List.length x0.2.2.2.2 : Nat) : Int))) h (by kernel_rfl) (fun h4 => ?_) (fun h4 => ?_)
    ·replace h4 : ((i : Nat) : Int) < ((List.length x0.2.2.2.2 : Nat) : Int) := of_decide_eq_true h4
     refine wp_skip (then_normal (wp_seq (wp_block (wp_seq ?_))))
     refine at_anyq [{}, {}, {}, {}, {}, {}, {}, {}, {}, {}] { ts := [1, 2, 3, 46], os := [1] } [(0 : Int) ≤ ((i : Nat) : Int) ∧ ((i : Nat) : Int) < ((List.length x0.2.2.2.2 : Nat) : Int), Q_spec_LeadingIndex (x0.2.2.2.2.getD i [])] gamOK hT mixed h (by kernel_rfl) ⟨(by refine ⟨?_, ?_⟩ <;> (first | omega | (simp only [lsA]; omega) | (simp <;> omega))), (by exact Sh.fit_getD hf0.2.2.2.2 i), trivial⟩ fun a w h => then_normal ?_
     refine at_test (decide ((LA.leadS (x0.2.2.2.2.getD i [])) ≥ x0.2.1)) h (by kernel_rfl) (fun h5 => ?_) (fun h5 => ?_)
     ·replace h5 : (LA.leadS (x0.2.2.2.2.getD i [])) ≥ x0.2.1 := of_decide_eq_true h5
      refine wp_seq ?_
      refine at_regq [] { ts := [1, 2, 3], os := [1] } [] gamOK hT h (by kernel_rfl) trivial fun a w h => then_normal (wp_ret (in_ret (then_ret ?_)))
      have hs6 : (List.all x0.2.2.2.2 (fun r => decide (LA.leadS r < x0.2.1))) = false := by exact all_at (z := []) (i := i) (by omega) (by exact decide_eq_false (by omega))
      refine then_ret (in_ret (then_ret ?_))
      exact at_return (false, ()) [] h (by kernel_rfl) trivial (congrArg (fun z => (z, ())) (show (false) = validD x0 from by first | rfl | (unfold validD; rw [if_pos (notF h1), if_pos (notF h2), if_pos h3, if_neg (neT hs6)]; done) | (unfold validD; (repeat (first | rfl | split)) <;> (first | rfl | omega | (simp_all [-List.all_eq_true, -List.any_eq_true, -List.all_eq_false, -List.any_eq_false, validBS_eq]; done) | (simp_all [-List.all_eq_true, -List.any_eq_true, -List.all_eq_false, -List.any_eq_false, validBS_eq]; omega) | (exfalso; simp_all [-List.all_eq_true, -List.any_eq_true, -List.all_eq_false, -List.any_eq_false, validBS_eq]; omega)))))
     ·replace h5 : ¬ ((LA.leadS (x0.2.2.2.2.getD i [])) ≥ x0.2.1) := of_decide_eq_false h5
      refine wp_skip (in_normal (then_normal ?_))
      refine at_regq [{}, { nw := true }] { ts := [1, 2, 3], os := [1] } [I64 (((i : Nat) : Int) + 1)] gamOK hT h (by kernel_rfl) ⟨⟨by first | omega | (simp only [lsA]; omega) | (simp <;> omega), by first | omega | (simp only [lsA]; omega) | (simp <;> omega)⟩, trivial⟩ fun a w h => ?_
      replace h := at_out (σ' := ⟨[(1, aP 1 0), (2, aB false), (3, aI (((i : Nat) : Int) + 1))], [(1, oX 69 [cI x0.1, cI x0.2.1, cI x0.2.2.1, cI x0.2.2.2.1, .ro s22 x0.2.2.2.2])]⟩) { ts := [1, 2, 3], os := [1] } h (by kernel_rfl)
      exact ⟨i + 1, at_eq h (st_congr1 (fun (d0 : Int) => (⟨[(1, aP 1 0), (2, aB false), (3, aI d0)], [(1, oX 69 [cI x0.1, cI x0.2.1, cI x0.2.2.1, cI x0.2.2.2.1, .ro s22 x0.2.2.2.2])]⟩ : St)) (show (((i : Nat) : Int) + 1 : Int) = (((i + 1) : Nat) : Int) from by first | with_reducible rfl | (omega) | rfl)), (by exact ⟨by omega, allTo1_succ hok0.2 (by exact decide_eq_true (by omega))⟩), (by omega)⟩
    ·replace h4 : ¬ (((i : Nat) : Int) < ((List.length x0.2.2.2.2 : Nat) : Int)) := of_decide_eq_false h4
     refine wp_exit (then_exit ?_)
     have hs7 : (List.all x0.2.2.2.2 (fun r => decide (LA.leadS r < x0.2.1))) = true := by exact all_of (z := []) (i := i) (by omega) hok0.2
     refine then_exit (in_hit (then_normal (wp_seq ?_)))
     refine at_regq [] { ts := [2], os := [] } [] gamOK hT h (by kernel_rfl) trivial fun a w h => then_normal (wp_ret ?_)
     exact at_return (true, ()) [] h (by kernel_rfl) trivial (congrArg (fun z => (z, ())) (show (true) = validD x0 from by first | rfl | (unfold validD; rw [if_pos (notF h1), if_pos (notF h2), if_pos h3, if_pos hs7]; done) | (unfold validD; (repeat (first | rfl | split)) <;> (first | rfl | omega | (simp_all [-List.all_eq_true, -List.any_eq_true, -List.all_eq_false, -List.any_eq_false, validBS_eq]; done) | (simp_all [-List.all_eq_true, -List.any_eq_true, -List.all_eq_false, -List.any_eq_false, validBS_eq]; omega) | (exfalso; simp_all [-List.all_eq_true, -List.any_eq_true, -List.all_eq_false, -List.any_eq_false, validBS_eq]; omega)))))

def complD (x0 : T69) : Bool := decide (((List.length x0.2.2.2.2 : Nat) : Int) = x0.2.1)
abbrev Q__impl_Decoder_complete := (fun (x0 : T69) => Sh.fit s69 x0)
def S__impl_Decoder_complete : Sum := { fid := 61, dom := [s69], cod := [(.bool 4)], dp := true, fz := false, pre := fun x => Q__impl_Decoder_complete x.1, g := fun x => ((complD x.1), ()) }
def S__impl_Decoder_complete_tab : List (Nat × Sum) := []
theorem S__impl_Decoder_complete_ok : FnOK Tryz.prog 61 S__impl_Decoder_complete := by
 refine at_enter 10 (fun x => ⟨[(0, aG [cI x.1.1, cI x.1.2.1, cI x.1.2.2.1, cI x.1.2.2.2.1, .ro s22 x.1.2.2.2.2])], []⟩) Tryz.func61 rfl (by kernel_rfl) (fun x => rfl) ?_
 rintro w0 Z0 ⟨x0, u⟩ a w
 revert x0
 intro (x0 : T69) hpre hlens h
 replace hpre : Q__impl_Decoder_complete x0 := hpre
 have hT : TabOK Tryz.prog S__impl_Decoder_complete_tab := .nil
 have hf0 : Sh.fit s69 x0 := hpre
 have hn0_1 : List.length x0.2.2.2.2 ≤ 1073741824 := hf0.2.2.2.2.1
 refine wp_seq ?_
 refine at_regq [{ ids := [1] }] { ts := [1, 2], os := [1] } [] gamOK hT h (by kernel_rfl) trivial fun a w h => then_normal (wp_seq ?_)
 refine at_regq [] { ts := [2], os := [] } [] gamOK hT h (by kernel_rfl) trivial fun a w h => then_normal (wp_ret ?_)
 exact at_return (decide (((List.length x0.2.2.2.2 : Nat) : Int) = x0.2.1), ()) [] h (by kernel_rfl) trivial (congrArg (fun z => (z, ())) (show (decide (((List.length x0.2.2.2.2 : Nat) : Int) = x0.2.1)) = complD x0 from by rfl))

def D_spec_MissingDegrees (x0 : T69) : Int := (if (validD x0) = true then x0.2.1 - ((List.length x0.2.2.2.2 : Nat) : Int) else 0)
abbrev Q_spec_MissingDegrees := (fun (x0 : T69) => Sh.fit s69 x0)
def S_spec_MissingDegrees : Sum := { fid := 75, dom := [s69], cod := [(.int 3)], dp := true, fz := false, pre := fun x => Q_spec_MissingDegrees x.1, g := fun x => ((D_spec_MissingDegrees x.1), ()) }
def S_spec_MissingDegrees_tab : List (Nat × Sum) := [(47, S_spec_IsValidDecoder)]
theorem S_spec_MissingDegrees_ok : FnOK Tryz.prog 75 S_spec_MissingDegrees := by
 refine at_enter 13 (fun x => ⟨[(0, aG [cI x.1.1, cI x.1.2.1, cI x.1.2.2.1, cI x.1.2.2.2.1, .ro s22 x.1.2.2.2.2])], []⟩) Tryz.func75 rfl (by kernel_rfl) (fun x => rfl) ?_
 rintro w0 Z0 ⟨x0, u⟩ a w
 revert x0
 intro (x0 : T69) hpre hlens h
 replace hpre : Q_spec_MissingDegrees x0 := hpre
 have hT : TabOK Tryz.prog S_spec_MissingDegrees_tab := (.cons S_spec_IsValidDecoder_ok .nil)
 have hf0 : Sh.fit s69 x0 := hpre
 have hn0_1 : List.length x0.2.2.2.2 ≤ 1073741824 := hf0.2.2.2.2.1
 refine wp_seq ?_
 refine at_regq [{ ids := [1] }] { ts := [1, 2], os := [1] } [] gamOK hT h (by kernel_rfl) trivial fun a w h => then_normal (wp_seq (wp_seq ?_))
 refine at_regq [] { ts := [1, 2, 5], os := [1] } [Q_spec_IsValidDecoder x0] gamOK hT h (by kernel_rfl) ⟨(by exact hf0), trivial⟩ fun a w h => then_normal ?_
 refine at_test (!(validD x0)) h (by kernel_rfl) (fun h1 => ?_) (fun h1 => ?_)
 ·replace h1 : (validD x0) = false := notT h1
  refine wp_seq ?_
  refine at_regq [] { ts := [1, 2], os := [1] } [] gamOK hT h (by kernel_rfl) trivial fun a w h => then_normal (wp_ret (then_ret ?_))
  exact at_return (0, ()) [] h (by kernel_rfl) trivial (congrArg (fun z => (z, ())) (show (0) = D_spec_MissingDegrees x0 from by first | rfl | (unfold D_spec_MissingDegrees; rw [if_neg (neT h1)])))
 ·replace h1 : (validD x0) = true := notF h1
  have hvh1 := validD_t h1
  refine wp_skip (then_normal (wp_seq ?_))
  refine at_regq [{}, {}, {}, {}, {}, {}, { nw := true }] { ts := [2], os := [] } [I64 (x0.2.1 - ((List.length x0.2.2.2.2 : Nat) : Int))] gamOK hT h (by kernel_rfl) ⟨⟨by first | omega | (simp only [lsA]; omega) | (simp <;> omega), by first | omega | (simp only [lsA]; omega) | (simp <;> omega)⟩, trivial⟩ fun a w h => then_normal (wp_ret ?_)
  exact at_return (x0.2.1 - ((List.length x0.2.2.2.2 : Nat) : Int), ()) [] h (by kernel_rfl) trivial (congrArg (fun z => (z, ())) (show (x0.2.1 - ((List.length x0.2.2.2.2 : Nat) : Int)) = D_spec_MissingDegrees x0 from by first | rfl | (unfold D_spec_MissingDegrees; rw [if_pos h1])))

def D_spec_IsComplete := (fun d => validD d && complD d)
abbrev Q_spec_IsComplete := (fun (x0 : T69) => Sh.fit s69 x0)
def S_spec_IsComplete : Sum := { fid := 48, dom := [s69], cod := [(.bool 4)], dp := true, fz := false, pre := fun x => Q_spec_IsComplete x.1, g := fun x => ((D_spec_IsComplete x.1), ()) }
def S_spec_IsComplete_tab : List (Nat × Sum) := [(47, S_spec_IsValidDecoder), (75, S_spec_MissingDegrees)]
theorem S_spec_IsComplete_ok : FnOK Tryz.prog 48 S_spec_IsComplete := by
 refine at_enter 10 (fun x => ⟨[(0, aG [cI x.1.1, cI x.1.2.1, cI x.1.2.2.1, cI x.1.2.2.2.1, .ro s22 x.1.2.2.2.2])], []⟩) Tryz.func48 rfl (by kernel_rfl) (fun x => rfl) ?_
 rintro w0 Z0 ⟨x0, u⟩ a w
 revert x0
 intro (x0 : T69) hpre hlens h
 replace hpre : Q_spec_IsComplete x0 := hpre
 have hT : TabOK Tryz.prog S_spec_IsComplete_tab := (.cons S_spec_IsValidDecoder_ok (.cons S_spec_MissingDegrees_ok .nil))
 have hf0 : Sh.fit s69 x0 := hpre
 have hn0_1 : List.length x0.2.2.2.2 ≤ 1073741824 := hf0.2.2.2.2.1
 refine wp_seq ?_
 refine at_regq [{ ids := [1] }] { ts := [1, 2], os := [1] } [] gamOK hT h (by kernel_rfl) trivial fun a w h => then_normal (wp_seq ?_)
 rcases Bool.eq_false_or_eq_true ((validD x0)) with h1 | h1
 ·have hvh1 := validD_t h1
  refine at_regq [{}, { hint := some (aB true) }] { ts := [2], os := [] } [Q_spec_IsValidDecoder x0, (AV.p (.c (.v (.bool ((validD x0))))) = AV.p (.c (.v (.bool true)))), Q_spec_MissingDegrees x0] gamOK hT h (by kernel_rfl) ⟨(by exact hf0), hint_bool (h1), (by exact hf0), trivial⟩ fun a w h => then_normal (wp_ret ?_)
  exact at_return (decide ((D_spec_MissingDegrees x0) = 0), ()) [] h (by kernel_rfl) trivial (congrArg (fun z => (z, ())) (show (decide ((D_spec_MissingDegrees x0) = 0)) = D_spec_IsComplete x0 from by unfold D_spec_IsComplete; (first | (rw [show validD x0 = false by assumption]; rfl) | (rw [show validD x0 = true by assumption]; unfold D_spec_MissingDegrees complD; rw [if_pos (by assumption), Bool.true_and, decide_eq_decide]; omega))))
 ·refine at_regq [{}, { hint := some (aB false) }] { ts := [2], os := [] } [Q_spec_IsValidDecoder x0, (AV.p (.c (.v (.bool ((validD x0))))) = AV.p (.c (.v (.bool false))))] gamOK hT h (by kernel_rfl) ⟨(by exact hf0), hint_bool (h1), trivial⟩ fun a w h => then_normal (wp_ret ?_)
  exact at_return (false, ()) [] h (by kernel_rfl) trivial (congrArg (fun z => (z, ())) (show (false) = D_spec_IsComplete x0 from by unfold D_spec_IsComplete; (first | (rw [show validD x0 = false by assumption]; rfl) | (rw [show validD x0 = true by assumption]; unfold D_spec_MissingDegrees complD; rw [if_pos (by assumption), Bool.true_and, decide_eq_decide]; omega))))

def fitsS (x0 : T34) (x1 : Int) (x2 : Int) (x3 : Int) : Bool := (if (inR x1 0 (((List.length x0.2.2.1 : Nat) : Int) - 1)) = true then (if x2 = (x0.2.2.1.getD ((x1).toNat) 0) then decide (x3 = x0.2.1) else false) else false)
abbrev Q__impl_Sink_fits := (fun (x0 : T34) (x1 : Int) (x2 : Int) (x3 : Int) => Sh.fit s34 x0)
def S__impl_Sink_fits : Sum := { fid := 62, dom := [s34, (.int 3), (.int 3), (.int 3)], cod := [(.bool 4)], dp := true, fz := false, pre := fun x => Q__impl_Sink_fits x.1 x.2.1 x.2.2.1 x.2.2.2.1, g := fun x => ((fitsS x.1 x.2.1 x.2.2.1 x.2.2.2.1), ()) }
def S__impl_Sink_fits_tab : List (Nat × Sum) := [(59, S_impl_InRange)]
theorem S__impl_Sink_fits_ok : FnOK Tryz.prog 62 S__impl_Sink_fits := by
 refine at_enter 30 (fun x => ⟨[(0, aG [cI x.1.1, cI x.1.2.1, .ro (.int 3) x.1.2.2.1, .ro s69 x.1.2.2.2.1, .ro s64 x.1.2.2.2.2.1, cI x.1.2.2.2.2.2]), (1, aI x.2.1), (2, aI x.2.2.1), (3, aI x.2.2.2.1)], []⟩) Tryz.func62 rfl (by kernel_rfl) (fun x => rfl) ?_
 rintro w0 Z0 ⟨x0, x1, x2, x3, u⟩ a w
 revert x0 x1 x2 x3
 intro (x0 : T34) (x1 : Int) (x2 : Int) (x3 : Int) hpre hlens h
 replace hpre : Q__impl_Sink_fits x0 x1 x2 x3 := hpre
 have hT : TabOK Tryz.prog S__impl_Sink_fits_tab := (.cons S_impl_InRange_ok .nil)
 have hf0 : Sh.fit s34 x0 := hpre
 have hn0_1 : List.length x0.2.2.1 ≤ 1073741824 := hf0.2.2.1.1
 have hn0_2 : List.length x0.2.2.2.1 ≤ 1073741824 := hf0.2.2.2.1.1
 have hn0_3 : List.length x0.2.2.2.2.1 ≤ 1073741824 := hf0.2.2.2.2.1.1
 refine wp_seq ?_
 refine at_regq [{ ids := [1] }] { ts := [1, 2, 3, 4, 8], os := [1] } [] gamOK hT h (by kernel_rfl) trivial fun a w h => then_normal (wp_seq ?_)
 rcases Bool.eq_false_or_eq_true ((inR x1 0 (((List.length x0.2.2.1 : Nat) : Int) - 1))) with h1 | h1
 ·have hvh1 := inR_t h1
  by_cases h2 : x2 = (x0.2.2.1.getD ((x1).toNat) 0)
  ·refine at_regq [{}, {}, {}, {}, { nw := true }, { hint := some (aB true) }, {}, {}, {}, {}, {}, {}, {}, { hint := some (aB true) }] { ts := [8], os := [] } [I64 (((List.length x0.2.2.1 : Nat) : Int) - 1), True, (AV.p (.c (.v (.bool ((inR x1 0 (((List.length x0.2.2.1 : Nat) : Int) - 1)))))) = AV.p (.c (.v (.bool true)))), (0 : Int) ≤ x1 ∧ x1 < ((List.length x0.2.2.1 : Nat) : Int), (AV.p (.c (.v (.bool (decide (x2 = (x0.2.2.1.getD ((x1).toNat) 0)))))) = AV.p (.c (.v (.bool true))))] gamOK hT h (by kernel_rfl) ⟨⟨by first | omega | (simp only [lsA]; omega) | (simp <;> omega), by first | omega | (simp only [lsA]; omega) | (simp <;> omega)⟩, trivial, hint_bool (h1), (by refine ⟨?_, ?_⟩ <;> (first | omega | (simp only [lsA]; omega) | (simp <;> omega))), hint_bool (decide_eq_true h2), trivial⟩ fun a w h => then_normal (wp_ret ?_)
   exact at_return (decide (x3 = x0.2.1), ()) [] h (by kernel_rfl) trivial (congrArg (fun z => (z, ())) (show (decide (x3 = x0.2.1)) = fitsS x0 x1 x2 x3 from by first | rfl | (unfold fitsS; rw [if_pos h1, if_pos h2])))
  ·refine at_regq [{}, {}, {}, {}, { nw := true }, { hint := some (aB true) }, {}, {}, {}, {}, {}, {}, {}, { hint := some (aB false) }] { ts := [8], os := [] } [I64 (((List.length x0.2.2.1 : Nat) : Int) - 1), True, (AV.p (.c (.v (.bool ((inR x1 0 (((List.length x0.2.2.1 : Nat) : Int) - 1)))))) = AV.p (.c (.v (.bool true)))), (0 : Int) ≤ x1 ∧ x1 < ((List.length x0.2.2.1 : Nat) : Int), (AV.p (.c (.v (.bool (decide (x2 = (x0.2.2.1.getD ((x1).toNat) 0)))))) = AV.p (.c (.v (.bool false))))] gamOK hT h (by kernel_rfl) ⟨⟨by first | omega | (simp only [lsA]; omega) | (simp <;> omega), by first | omega | (simp only [lsA]; omega) | (simp <;> omega)⟩, trivial, hint_bool (h1), (by refine ⟨?_, ?_⟩ <;> (first | omega | (simp only [lsA]; omega) | (simp <;> omega))), hint_bool (decide_eq_false h2), trivial⟩ fun a w h => then_normal (wp_ret ?_)
   exact at_return (false, ()) [] h (by kernel_rfl) trivial (congrArg (fun z => (z, ())) (show (false) = fitsS x0 x1 x2 x3 from by first | rfl | (unfold fitsS; rw [if_pos h1, if_neg h2])))
 ·have hvh1 := inR_f h1
  refine at_regq [{}, {}, {}, {}, { nw := true }, { hint := some (aB false) }] { ts := [8], os := [] } [I64 (((List.length x0.2.2.1 : Nat) : Int) - 1), True, (AV.p (.c (.v (.bool ((inR x1 0 (((List.length x0.2.2.1 : Nat) : Int) - 1)))))) = AV.p (.c (.v (.bool false))))] gamOK hT h (by kernel_rfl) ⟨⟨by first | omega | (simp only [lsA]; omega) | (simp <;> omega), by first | omega | (simp only [lsA]; omega) | (simp <;> omega)⟩, trivial, hint_bool (h1), trivial⟩ fun a w h => then_normal (wp_ret ?_)
  exact at_return (false, ()) [] h (by kernel_rfl) trivial (congrArg (fun z => (z, ())) (show (false) = fitsS x0 x1 x2 x3 from by first | rfl | (unfold fitsS; rw [if_neg (neT h1)])))
theorem allN_and {P Q : Nat → Bool} : ∀ {n : Nat}, allN (fun i => P i && Q i) n = (allN P n && allN Q n)
 | 0 => rfl
 | n + 1 => by
  simp only [allN]; rw [allN_and (n := n)]
  cases allN P n <;> cases allN Q n <;> cases P n <;> cases Q n <;> rfl
def decB (s : T34) (i : Nat) : Bool := (validD (s.2.2.2.1.getD i (0, (0, (0, (0, []))))) && (!complD (s.2.2.2.1.getD i (0, (0, (0, (0, []))))) && fitsS s (s.2.2.2.1.getD i (0, (0, (0, (0, []))))).1 (s.2.2.2.1.getD i (0, (0, (0, (0, []))))).2.1 (s.2.2.2.1.getD i (0, (0, (0, (0, []))))).2.2.1)) && ordB (fun x => x.1) (0, (0, (0, (0, [])))) s.2.2.2.1 i
def genB (s : T34) (i : Nat) : Bool := (validG (s.2.2.2.2.1.getD i (0, [])) && fitsS s (s.2.2.2.2.1.getD i (0, [])).1 ((List.length (s.2.2.2.2.1.getD i (0, [])).2 : Nat) : Int) (colsOf (s.2.2.2.2.1.getD i (0, [])).2)) && ordB (fun x => x.1) (0, []) s.2.2.2.2.1 i
def opnB (s : T34) (j : Nat) : Bool := !fndK (fun x => x.1) (0, (0, (0, (0, [])))) s.2.2.2.1 (s.2.2.2.2.1.getD j (0, [])).1
def clsB (s : T34) (i : Nat) : Bool := !(s.2.2.2.2.1.any fun g => decide (g.1 = (s.2.2.2.1.getD i (0, (0, (0, (0, []))))).1))
def headS (s : T34) : Bool := inR s.1 0 7 && (inR s.2.1 1 16 && (D_spec_l30Sizes s.2.2.1 && (decide (List.length s.2.2.2.1 ≤ 4) && inR s.2.2.2.2.2 0 ((List.length s.2.2.2.2.1 : Nat) : Int))))
def validS (s : T34) : Bool := headS s && (allN (decB s) (List.length s.2.2.2.1) && (allN (genB s) (List.length s.2.2.2.2.1) && allN (opnB s) (List.length s.2.2.2.2.1)))
theorem opnB_t {s : T34} {j : Nat} (h : fndK (fun x => x.1) (0, (0, (0, (0, [])))) s.2.2.2.1 (s.2.2.2.2.1.getD j (0, [])).1 = false) : opnB s j = true := by unfold opnB; rw [h]; rfl
theorem opnB_f {s : T34} {j : Nat} (h : fndK (fun x => x.1) (0, (0, (0, (0, [])))) s.2.2.2.1 (s.2.2.2.2.1.getD j (0, [])).1 = true) : opnB s j = false := by unfold opnB; rw [h]; rfl
theorem clsB_t {s : T34} {i : Nat} (h : (s.2.2.2.2.1.any fun g => decide (g.1 = (s.2.2.2.1.getD i (0, (0, (0, (0, []))))).1)) = false) : clsB s i = true := by unfold clsB; rw [h]; rfl
theorem isC_f {d : T69} (h : (validD d && complD d) = false) (hv : validD d = true) : complD d = false := by rw [hv, Bool.true_and] at h; exact h
theorem decB_t {s : T34} {i : Nat} (h1 : validD (s.2.2.2.1.getD i (0, (0, (0, (0, []))))) = true) (h2 : complD (s.2.2.2.1.getD i (0, (0, (0, (0, []))))) = false) (h3 : fitsS s (s.2.2.2.1.getD i (0, (0, (0, (0, []))))).1 (s.2.2.2.1.getD i (0, (0, (0, (0, []))))).2.1 (s.2.2.2.1.getD i (0, (0, (0, (0, []))))).2.2.1 = true) (h4 : i = 0 ∨ (s.2.2.2.1.getD (((i : Nat) : Int) - 1).toNat (0, (0, (0, (0, []))))).1 < (s.2.2.2.1.getD i (0, (0, (0, (0, []))))).1) : decB s i = true := by
 unfold decB; rw [h1, h2, h3, ordB_t h4]; rfl
theorem decB_f {s : T34} {i : Nat} (h : validD (s.2.2.2.1.getD i (0, (0, (0, (0, []))))) = false ∨ complD (s.2.2.2.1.getD i (0, (0, (0, (0, []))))) = true ∨ fitsS s (s.2.2.2.1.getD i (0, (0, (0, (0, []))))).1 (s.2.2.2.1.getD i (0, (0, (0, (0, []))))).2.1 (s.2.2.2.1.getD i (0, (0, (0, (0, []))))).2.2.1 = false ∨ (0 < i ∧ (s.2.2.2.1.getD i (0, (0, (0, (0, []))))).1 ≤ (s.2.2.2.1.getD (((i : Nat) : Int) - 1).toNat (0, (0, (0, (0, []))))).1)) : decB s i = false := by
 unfold decB
 rcases h with h | h | h | h
 ·rw [h]; rfl
 ·rw [h]; simp
 ·rw [h]; simp
 ·rw [ordB_f h, Bool.and_false]
theorem genB_t {s : T34} {i : Nat} (h1 : validG (s.2.2.2.2.1.getD i (0, [])) = true) (h3 : fitsS s (s.2.2.2.2.1.getD i (0, [])).1 ((List.length (s.2.2.2.2.1.getD i (0, [])).2 : Nat) : Int) (colsOf (s.2.2.2.2.1.getD i (0, [])).2) = true) (h4 : i = 0 ∨ (s.2.2.2.2.1.getD (((i : Nat) : Int) - 1).toNat (0, [])).1 < (s.2.2.2.2.1.getD i (0, [])).1) : genB s i = true := by
 unfold genB; rw [h1, h3, ordB_t h4]; rfl
theorem genB_f {s : T34} {i : Nat} (h : validG (s.2.2.2.2.1.getD i (0, [])) = false ∨ fitsS s (s.2.2.2.2.1.getD i (0, [])).1 ((List.length (s.2.2.2.2.1.getD i (0, [])).2 : Nat) : Int) (colsOf (s.2.2.2.2.1.getD i (0, [])).2) = false ∨ (0 < i ∧ (s.2.2.2.2.1.getD i (0, [])).1 ≤ (s.2.2.2.2.1.getD (((i : Nat) : Int) - 1).toNat (0, [])).1)) : genB s i = false := by
 unfold genB
 rcases h with h | h | h
 ·rw [h]; rfl
 ·rw [h]; simp
 ·rw [ordB_f h, Bool.and_false]
theorem and_t {a b : Bool} (ha : a = true) (hb : b = true) : (a && b) = true := by rw [ha, hb]; rfl
theorem and_f {a b : Bool} (h : a = false ∨ b = false) : (a && b) = false := by rcases h with h | h <;> rw [h] <;> simp
theorem dec_srt {s : T34} (h : allN (decB s) (List.length s.2.2.2.1) = true) : srtK (fun x => x.1) (0, (0, (0, (0, [])))) s.2.2.2.1 := srt_ord fun i hi => by
 have := allN_iff.1 h i hi
 unfold decB at this; rw [Bool.and_eq_true] at this; exact this.2
theorem gen_srt {s : T34} (h : allN (genB s) (List.length s.2.2.2.2.1) = true) : srtK (fun x => x.1) (0, []) s.2.2.2.2.1 := srt_ord fun i hi => by
 have := allN_iff.1 h i hi
 unfold genB at this; rw [Bool.and_eq_true] at this; exact this.2
theorem opn_cls {s : T34} (h : allN (decB s) (List.length s.2.2.2.1) = true) : allN (opnB s) (List.length s.2.2.2.2.1) = allN (clsB s) (List.length s.2.2.2.1) := by
 rw [Bool.eq_iff_iff, allN_iff, allN_iff]
 constructor
 ·intro ho i hi
  unfold clsB; rw [Bool.not_eq_true']; rw [Bool.eq_false_iff]; intro ha
  obtain ⟨g, hg, he⟩ := List.any_eq_true.1 ha
  obtain ⟨j, hj, rfl⟩ := List.getElem_of_mem hg
  have h1 := ho j hj
  unfold opnB at h1
  rw [getD_of_lt hj, fndK_at (dec_srt h) hi (of_decide_eq_true he).symm] at h1
  cases h1
 ·intro hc j hj
  unfold opnB; rw [Bool.not_eq_true']; rw [Bool.eq_false_iff]; intro hf
  obtain ⟨h1, h2⟩ := fndK_t hf
  have h3 := hc _ h1
  unfold clsB at h3
  rw [Bool.not_eq_true', List.any_eq_false] at h3
  exact h3 _ (getD_mem (z := (0, [])) hj) (decide_eq_true h2.symm)
theorem newSink_w (a b : Int) (l : List Int) : (newSink a b l).2.1 = 0 ↔ (inR a 0 7 && (inR b 1 16 && D_spec_l30Sizes l)) = false := by
 unfold newSink D_spec_l30Sizes
 by_cases h1 : inR a 0 7 = true
 ·by_cases h2 : inR b 1 16 = true
  ·have hb := inR_t h2
   rw [if_pos h1, if_pos h2, h1, h2]
   simp only [Bool.true_and]
   (repeat' split) <;> simp_all [D_slices_ContainsFunc_S_int_int__NewSink_1, any_not] <;> omega
  ·rw [if_pos h1, if_neg h2]; simp [h2]
 ·rw [if_neg h1]; simp [h1]
theorem headS_y {s : T34} (h1 : ¬ (newSink s.1 s.2.1 s.2.2.1).2.1 = 0) (h2 : List.length s.2.2.2.1 ≤ 4) (h3 : inR s.2.2.2.2.2 0 ((List.length s.2.2.2.2.1 : Nat) : Int) = true) : headS s = true := by
 rw [newSink_w, Bool.not_eq_false, Bool.and_eq_true, Bool.and_eq_true] at h1
 unfold headS; rw [h1.1, h1.2.1, h1.2.2, decide_eq_true h2, h3]; rfl
theorem headS_n {s : T34} (h : (newSink s.1 s.2.1 s.2.2.1).2.1 = 0 ∨ ¬ List.length s.2.2.2.1 ≤ 4 ∨ inR s.2.2.2.2.2 0 ((List.length s.2.2.2.2.1 : Nat) : Int) = false) : headS s = false := by
 unfold headS
 rcases h with h | h | h
 ·rw [newSink_w] at h
  revert h
  cases inR s.1 0 7 <;> cases inR s.2.1 1 16 <;> cases D_spec_l30Sizes s.2.2.1 <;> simp
 ·rw [decide_eq_false h]; simp
 ·rw [h]; simp
theorem headS_y2 {s : T34} (h0 : inR s.1 0 7 = true) (h1 : inR s.2.1 1 16 = true) (h4 : D_spec_l30Sizes s.2.2.1 = true) (h2 : List.length s.2.2.2.1 ≤ 4) (h3 : inR s.2.2.2.2.2 0 ((List.length s.2.2.2.2.1 : Nat) : Int) = true) : headS s = true := by
 unfold headS; rw [h0, h1, h4, decide_eq_true h2, h3]; rfl
theorem headS_n2 {s : T34} (h : inR s.1 0 7 = false ∨ inR s.2.1 1 16 = false ∨ D_spec_l30Sizes s.2.2.1 = false ∨ ¬ List.length s.2.2.2.1 ≤ 4 ∨ inR s.2.2.2.2.2 0 ((List.length s.2.2.2.2.1 : Nat) : Int) = false) : headS s = false := by
 unfold headS
 rcases h with h | h | h | h | h
 ·rw [h]; simp
 ·rw [h]; simp
 ·rw [h]; simp
 ·rw [decide_eq_false h]; simp
 ·rw [h]; simp
theorem validS_impl {s : T34} (h : allN (decB s) (List.length s.2.2.2.1) = true) (h0 : headS s = true) : allN (fun j => genB s j && opnB s j) (List.length s.2.2.2.2.1) = validS s := by
 unfold validS; rw [h, h0, allN_and]; rfl
theorem validS_spec {s : T34} (h : allN (fun i => decB s i && clsB s i) (List.length s.2.2.2.1) = true) (h0 : headS s = true) : allN (genB s) (List.length s.2.2.2.2.1) = validS s := by
 rw [allN_and, Bool.and_eq_true] at h
 unfold validS; rw [h.1, h0, opn_cls h.1, h.2, Bool.and_true]; rfl
theorem validS_no {s : T34} (h : headS s = false ∨ allN (decB s) (List.length s.2.2.2.1) = false ∨ allN (fun i => decB s i && clsB s i) (List.length s.2.2.2.1) = false) : false = validS s := by
 unfold validS
 rcases h with h | h | h
 ·rw [h]; rfl
 ·rw [h]; simp
 ·rw [allN_and] at h
  cases hd : allN (decB s) (List.length s.2.2.2.1) with
  | false => simp
  | true => rw [hd, Bool.true_and] at h; rw [opn_cls hd, h]; simp
theorem validS_t {s : T34} (h : validS s = true) : headS s = true ∧ allN (decB s) (List.length s.2.2.2.1) = true ∧ allN (genB s) (List.length s.2.2.2.2.1) = true ∧ allN (opnB s) (List.length s.2.2.2.2.1) = true := by
 unfold validS at h
 rw [Bool.and_eq_true, Bool.and_eq_true, Bool.and_eq_true] at h
 exact h

abbrev Q_spec_l30Fits := (fun (x0 : T34) (x1 : Int) (x2 : Int) (x3 : Int) => Sh.fit s34 x0)
def S_spec_l30Fits : Sum := { fid := 49, dom := [s34, (.int 3), (.int 3), (.int 3)], cod := [(.bool 4)], dp := true, fz := false, pre := fun x => Q_spec_l30Fits x.1 x.2.1 x.2.2.1 x.2.2.2.1, g := fun x => ((fitsS x.1 x.2.1 x.2.2.1 x.2.2.2.1), ()) }
def S_spec_l30Fits_tab : List (Nat × Sum) := [(45, S_spec_l1In)]
theorem S_spec_l30Fits_ok : FnOK Tryz.prog 49 S_spec_l30Fits := by
 refine at_enter 30 (fun x => ⟨[(0, aG [cI x.1.1, cI x.1.2.1, .ro (.int 3) x.1.2.2.1, .ro s69 x.1.2.2.2.1, .ro s64 x.1.2.2.2.2.1, cI x.1.2.2.2.2.2]), (1, aI x.2.1), (2, aI x.2.2.1), (3, aI x.2.2.2.1)], []⟩) Tryz.func49 rfl (by kernel_rfl) (fun x => rfl) ?_
 rintro w0 Z0 ⟨x0, x1, x2, x3, u⟩ a w
 revert x0 x1 x2 x3
 intro (x0 : T34) (x1 : Int) (x2 : Int) (x3 : Int) hpre hlens h
 replace hpre : Q_spec_l30Fits x0 x1 x2 x3 := hpre
 have hT : TabOK Tryz.prog S_spec_l30Fits_tab := (.cons S_spec_l1In_ok .nil)
 have hf0 : Sh.fit s34 x0 := hpre
 have hn0_1 : List.length x0.2.2.1 ≤ 1073741824 := hf0.2.2.1.1
 have hn0_2 : List.length x0.2.2.2.1 ≤ 1073741824 := hf0.2.2.2.1.1
 have hn0_3 : List.length x0.2.2.2.2.1 ≤ 1073741824 := hf0.2.2.2.2.1.1
 refine wp_seq ?_
 refine at_regq [{ ids := [1] }] { ts := [1, 2, 3, 4, 8], os := [1] } [] gamOK hT h (by kernel_rfl) trivial fun a w h => then_normal (wp_seq ?_)
 rcases Bool.eq_false_or_eq_true ((inR x1 0 (((List.length x0.2.2.1 : Nat) : Int) - 1))) with h1 | h1
 ·have hvh1 := inR_t h1
  by_cases h2 : (x0.2.2.1.getD ((x1).toNat) 0) = x2
  ·refine at_regq [{}, {}, {}, {}, { nw := true }, { hint := some (aB true) }, {}, {}, {}, {}, {}, {}, {}, { hint := some (aB true) }] { ts := [8], os := [] } [I64 (((List.length x0.2.2.1 : Nat) : Int) - 1), True, (AV.p (.c (.v (.bool ((inR x1 0 (((List.length x0.2.2.1 : Nat) : Int) - 1)))))) = AV.p (.c (.v (.bool true)))), (0 : Int) ≤ x1 ∧ x1 < ((List.length x0.2.2.1 : Nat) : Int), (AV.p (.c (.v (.bool (decide ((x0.2.2.1.getD ((x1).toNat) 0) = x2))))) = AV.p (.c (.v (.bool true))))] gamOK hT h (by kernel_rfl) ⟨⟨by first | omega | (simp only [lsA]; omega) | (simp <;> omega), by first | omega | (simp only [lsA]; omega) | (simp <;> omega)⟩, trivial, hint_bool (h1), (by refine ⟨?_, ?_⟩ <;> (first | omega | (simp only [lsA]; omega) | (simp <;> omega))), hint_bool (decide_eq_true h2), trivial⟩ fun a w h => then_normal (wp_ret ?_)
   exact at_return (decide (x3 = x0.2.1), ()) [] h (by kernel_rfl) trivial (congrArg (fun z => (z, ())) (show (decide (x3 = x0.2.1)) = fitsS x0 x1 x2 x3 from by first | rfl | (unfold fitsS; rw [if_pos h1, if_pos h2]; done) | (unfold fitsS; (simp_all; try (intro e; exact absurd e.symm (by assumption))))))
  ·refine at_regq [{}, {}, {}, {}, { nw := true }, { hint := some (aB true) }, {}, {}, {}, {}, {}, {}, {}, { hint := some (aB false) }] { ts := [8], os := [] } [I64 (((List.length x0.2.2.1 : Nat) : Int) - 1), True, (AV.p (.c (.v (.bool ((inR x1 0 (((List.length x0.2.2.1 : Nat) : Int) - 1)))))) = AV.p (.c (.v (.bool true)))), (0 : Int) ≤ x1 ∧ x1 < ((List.length x0.2.2.1 : Nat) : Int), (AV.p (.c (.v (.bool (decide ((x0.2.2.1.getD ((x1).toNat) 0) = x2))))) = AV.p (.c (.v (.bool false))))] gamOK hT h (by kernel_rfl) ⟨⟨by first | omega | (simp only [lsA]; omega) | (simp <;> omega), by first | omega | (simp only [lsA]; omega) | (simp <;> omega)⟩, trivial, hint_bool (h1), (by refine ⟨?_, ?_⟩ <;> (first | omega | (simp only [lsA]; omega) | (simp <;> omega))), hint_bool (decide_eq_false h2), trivial⟩ fun a w h => then_normal (wp_ret ?_)
   exact at_return (false, ()) [] h (by kernel_rfl) trivial (congrArg (fun z => (z, ())) (show (false) = fitsS x0 x1 x2 x3 from by first | rfl | (unfold fitsS; rw [if_pos h1, if_neg h2]; done) | (unfold fitsS; (simp_all; try (intro e; exact absurd e.symm (by assumption))))))
 ·have hvh1 := inR_f h1
  refine at_regq [{}, {}, {}, {}, { nw := true }, { hint := some (aB false) }] { ts := [8], os := [] } [I64 (((List.length x0.2.2.1 : Nat) : Int) - 1), True, (AV.p (.c (.v (.bool ((inR x1 0 (((List.length x0.2.2.1 : Nat) : Int) - 1)))))) = AV.p (.c (.v (.bool false))))] gamOK hT h (by kernel_rfl) ⟨⟨by first | omega | (simp only [lsA]; omega) | (simp <;> omega), by first | omega | (simp only [lsA]; omega) | (simp <;> omega)⟩, trivial, hint_bool (h1), trivial⟩ fun a w h => then_normal (wp_ret ?_)
  exact at_return (false, ()) [] h (by kernel_rfl) trivial (congrArg (fun z => (z, ())) (show (false) = fitsS x0 x1 x2 x3 from by first | rfl | (unfold fitsS; rw [if_neg (neT h1)]; done) | (unfold fitsS; (simp_all; try (intro e; exact absurd e.symm (by assumption))))))

def D__impl_Sink_decoderAt_1 := (fun (x : T69) (g : Int) => cmpI x.1 g)
abbrev Q__impl_Sink_decoderAt_1 := (fun (x0 : T69) (x1 : Int) => Sh.fit s69 x0)
def S__impl_Sink_decoderAt_1 : Sum := { fid := 86, dom := [s69, (.int 3)], cod := [(.int 3)], dp := true, fz := false, pre := fun x => Q__impl_Sink_decoderAt_1 x.1 x.2.1, g := fun x => ((D__impl_Sink_decoderAt_1 x.1 x.2.1), ()) }
def S__impl_Sink_decoderAt_1_tab : List (Nat × Sum) := [(87, S_cmp_Compare_int_)]
theorem S__impl_Sink_decoderAt_1_ok : FnOK Tryz.prog 86 S__impl_Sink_decoderAt_1 := by
 refine at_enter 9 (fun x => ⟨[(0, aG [cI x.1.1, cI x.1.2.1, cI x.1.2.2.1, cI x.1.2.2.2.1, .ro s22 x.1.2.2.2.2]), (1, aI x.2.1)], []⟩) Tryz.func86 rfl (by kernel_rfl) (fun x => rfl) ?_
 rintro w0 Z0 ⟨x0, x1, u⟩ a w
 revert x0 x1
 intro (x0 : T69) (x1 : Int) hpre hlens h
 replace hpre : Q__impl_Sink_decoderAt_1 x0 x1 := hpre
 have hT : TabOK Tryz.prog S__impl_Sink_decoderAt_1_tab := (.cons S_cmp_Compare_int__ok .nil)
 have hf0 : Sh.fit s69 x0 := hpre
 have hn0_1 : List.length x0.2.2.2.2 ≤ 1073741824 := hf0.2.2.2.2.1
 refine wp_seq ?_
 refine at_regq [{ ids := [1] }] { ts := [1, 2, 4], os := [1] } [] gamOK hT h (by kernel_rfl) trivial fun a w h => then_normal (wp_seq ?_)
 refine at_regq [] { ts := [4], os := [] } [True] gamOK hT h (by kernel_rfl) ⟨trivial, trivial⟩ fun a w h => then_normal (wp_ret ?_)
 exact at_return ((cmpI x0.1 x1), ()) [] h (by kernel_rfl) trivial (congrArg (fun z => (z, ())) (show ((cmpI x0.1 x1)) = D__impl_Sink_decoderAt_1 x0 x1 from by unfold D__impl_Sink_decoderAt_1; rfl))

def D_slices_BinarySearchFunc_S_impl_Decoder_impl_Decoder_int__decoderAt_1 := (fun (xs : List T69) (v : Int) (_ : Unit) => (((bsK (fun x => x.1) (0, (0, (0, (0, [])))) xs v : Nat) : Int), fndK (fun x => x.1) (0, (0, (0, (0, [])))) xs v))
abbrev Q_slices_BinarySearchFunc_S_impl_Decoder_impl_Decoder_int__decoderAt_1 := (fun (x0 : (List T69)) (x1 : Int) (x2 : Unit) => Sh.fit s31 x0)
def S_slices_BinarySearchFunc_S_impl_Decoder_impl_Decoder_int__decoderAt_1 : Sum := { fid := 85, dom := [s31, (.int 3), (.fn0 86)], cod := [(.int 3), (.bool 4)], dp := true, fz := false, pre := fun x => Q_slices_BinarySearchFunc_S_impl_Decoder_impl_Decoder_int__decoderAt_1 x.1 x.2.1 x.2.2.1, g := fun x => ((D_slices_BinarySearchFunc_S_impl_Decoder_impl_Decoder_int__decoderAt_1 x.1 x.2.1 x.2.2.1).1, ((D_slices_BinarySearchFunc_S_impl_Decoder_impl_Decoder_int__decoderAt_1 x.1 x.2.1 x.2.2.1).2, ())) }
def S_slices_BinarySearchFunc_S_impl_Decoder_impl_Decoder_int__decoderAt_1_tab : List (Nat × Sum) := [(86, S__impl_Sink_decoderAt_1)]
theorem S_slices_BinarySearchFunc_S_impl_Decoder_impl_Decoder_int__decoderAt_1_ok : FnOK Tryz.prog 85 S_slices_BinarySearchFunc_S_impl_Decoder_impl_Decoder_int__decoderAt_1 := by
 refine at_enter 49 (fun x => ⟨[(0, aF s69 x.1), (1, aI x.2.1), (2, .p (.c (.cl 86 .cnil)))], []⟩) Tryz.func85 rfl (by kernel_rfl) (fun x => rfl) ?_
 rintro w0 Z0 ⟨x0, x1, x2, u⟩ a w
 revert x0 x1 x2
 intro (x0 : (List T69)) (x1 : Int) (x2 : Unit) hpre hlens h
 replace hpre : Q_slices_BinarySearchFunc_S_impl_Decoder_impl_Decoder_int__decoderAt_1 x0 x1 x2 := hpre
 have hT : TabOK Tryz.prog S_slices_BinarySearchFunc_S_impl_Decoder_impl_Decoder_int__decoderAt_1_tab := (.cons S__impl_Sink_decoderAt_1_ok .nil)
 have hf0 : Sh.fit s31 x0 := hpre
 have hn0_1 : List.length x0 ≤ 1073741824 := hf0.1
 refine wp_seq ?_
 refine at_regq [] { ts := [0, 1, 2, 6, 7], os := [] } [] gamOK hT h (by kernel_rfl) trivial fun a w h => then_normal (wp_seq ?_)
 refine at_regq [] { ts := [0, 1, 2, 6, 7, 8], os := [] } [] gamOK hT h (by kernel_rfl) trivial fun a w h => then_normal (wp_seq ?_)
 refine at_regq [] { ts := [0, 1, 2, 6, 7, 8, 9, 10], os := [] } [] gamOK hT h (by kernel_rfl) trivial fun a w h => then_normal (wp_seq (wp_block ?_))
 replace h := at_out (σ' := ⟨[(0, aF s69 x0), (1, aI x1), (2, .p (.c (.cl 86 .cnil))), (6, aI 0), (7, aB false), (8, aI ((List.length x0 : Nat) : Int)), (9, aI 0), (10, aI ((List.length x0 : Nat) : Int))], []⟩) { ts := [0, 1, 2, 6, 7, 8, 9, 10], os := [] } h (by kernel_rfl)
 refine at_loop (fun q : (Nat × Nat) => (⟨[(0, aF s69 x0), (1, aI x1), (2, .p (.c (.cl 86 .cnil))), (6, aI 0), (7, aB false), (8, aI ((List.length x0 : Nat) : Int)), (9, aI ((q.1 : Nat) : Int)), (10, aI ((q.2 : Nat) : Int))], []⟩ : St)) (fun q => (q.1 ≤ q.2 ∧ q.2 ≤ List.length x0 ∧ bsF (ltK (fun x => x.1) (0, (0, (0, (0, [])))) x0 x1) q.1 q.2 = bsF (ltK (fun x => x.1) (0, (0, (0, (0, [])))) x0 x1) 0 (List.length x0))) (fun q => q.2 - q.1) ((0, List.length x0)) h (st_congr2 (fun (d0 : Int) (d1 : Int) => (⟨[(0, aF s69 x0), (1, aI x1), (2, .p (.c (.cl 86 .cnil))), (6, aI 0), (7, aB false), (8, aI ((List.length x0 : Nat) : Int)), (9, aI d0), (10, aI d1)], []⟩ : St)) (show (0 : Int) = ((((0, List.length x0)).1 : Nat) : Int) from by first | with_reducible rfl | (rfl) | rfl) (show (((List.length x0 : Nat) : Int) : Int) = ((((0, List.length x0)).2 : Nat) : Int) from by first | with_reducible rfl | (rfl) | rfl)) (by exact ⟨Nat.zero_le _, Nat.le_refl _, rfl⟩) ?_
 intro q a w hok0 h
 refine wp_seq (wp_seq ?_)
 refine at_regq [] { ts := [0, 1, 2, 6, 7, 8, 9, 10, 17], os := [] } [] gamOK hT h (by kernel_rfl) trivial fun a w h => then_normal ?_
 refine at_test (decide (((q.1 : Nat) : Int) < ((q.2 : Nat) : Int))) h (by kernel_rfl) (fun h1 => ?_) (fun h1 => ?_)
 ·replace h1 : ((q.1 : Nat) : Int) < ((q.2 : Nat) : Int) := of_decide_eq_true h1
  refine wp_skip (then_normal (wp_block (wp_seq ?_)))
  refine at_regq [{}, {}, { nw := true }, {}, {}, { hint := some (aI (((q.1 + q.2) / 2 : Nat) : Int)) }] { ts := [0, 1, 2, 6, 7, 8, 9, 10, 11], os := [] } [I64 (((q.1 : Nat) : Int) + ((q.2 : Nat) : Int)), (0 : Int) ≤ 1, (AV.p (.c (.v (.int .i64 (IntKind.i64.wrap ((Int.fdiv (IntKind.u64.wrap (((q.1 : Nat) : Int) + ((q.2 : Nat) : Int))) (2 ^ (min (1 : Int).toNat (IntKind.u64).bits)))))))) = AV.p (.c (.v (.int .i64 ((((q.1 + q.2) / 2 : Nat) : Int))))))] gamOK hT h (by kernel_rfl) ⟨⟨by first | omega | (simp only [lsA]; omega) | (simp <;> omega), by first | omega | (simp only [lsA]; omega) | (simp <;> omega)⟩, (by first | omega | (simp only [lsA]; omega) | (simp <;> omega)), hint_int (by exact half_eq (by omega)), trivial⟩ fun a w h => then_normal (wp_seq ?_)
  refine at_regq [] { ts := [0, 1, 2, 6, 7, 8, 9, 10, 11, 31], os := [] } [(0 : Int) ≤ (((q.1 + q.2) / 2 : Nat) : Int) ∧ (((q.1 + q.2) / 2 : Nat) : Int) < ((List.length x0 : Nat) : Int), Q__impl_Sink_decoderAt_1 (x0.getD ((q.1 + q.2) / 2) (0, (0, (0, (0, []))))) x1] gamOK hT h (by kernel_rfl) ⟨(by refine ⟨?_, ?_⟩ <;> (first | omega | (simp only [lsA]; omega) | (simp <;> omega))), (by exact (Sh.fit_getD hf0 ((q.1 + q.2) / 2))), trivial⟩ fun a w h => then_normal ?_
  refine at_test (decide ((D__impl_Sink_decoderAt_1 (x0.getD ((q.1 + q.2) / 2) (0, (0, (0, (0, []))))) x1) < 0)) h (by kernel_rfl) (fun h2 => ?_) (fun h2 => ?_)
  ·replace h2 : (D__impl_Sink_decoderAt_1 (x0.getD ((q.1 + q.2) / 2) (0, (0, (0, (0, []))))) x1) < 0 := of_decide_eq_true h2
   refine at_regq [{}, { nw := true }] { ts := [0, 1, 2, 6, 7, 8, 9, 10], os := [] } [I64 ((((q.1 + q.2) / 2 : Nat) : Int) + 1)] gamOK hT h (by kernel_rfl) ⟨⟨by first | omega | (simp only [lsA]; omega) | (simp <;> omega), by first | omega | (simp only [lsA]; omega) | (simp <;> omega)⟩, trivial⟩ fun a w h => in_normal ?_
   replace h := at_out (σ' := ⟨[(0, aF s69 x0), (1, aI x1), (2, .p (.c (.cl 86 .cnil))), (6, aI 0), (7, aB false), (8, aI ((List.length x0 : Nat) : Int)), (9, aI ((((q.1 + q.2) / 2 : Nat) : Int) + 1)), (10, aI ((q.2 : Nat) : Int))], []⟩) { ts := [0, 1, 2, 6, 7, 8, 9, 10], os := [] } h (by kernel_rfl)
   exact ⟨((q.1 + q.2) / 2 + 1, q.2), at_eq h (st_congr2 (fun (d0 : Int) (d1 : Int) => (⟨[(0, aF s69 x0), (1, aI x1), (2, .p (.c (.cl 86 .cnil))), (6, aI 0), (7, aB false), (8, aI ((List.length x0 : Nat) : Int)), (9, aI d0), (10, aI d1)], []⟩ : St)) (show ((((q.1 + q.2) / 2 : Nat) : Int) + 1 : Int) = (((((q.1 + q.2) / 2 + 1, q.2)).1 : Nat) : Int) from by first | with_reducible rfl | (dsimp only; omega) | rfl) (show (((q.2 : Nat) : Int) : Int) = (((((q.1 + q.2) / 2 + 1, q.2)).2 : Nat) : Int) from by first | with_reducible rfl | (dsimp only; omega) | rfl)), (by dsimp only; first | (refine ⟨by omega, by omega, ?_⟩; exact (bsF_up (by omega) (show ltK (fun x => x.1) (0, (0, (0, (0, [])))) x0 x1 _ = true from decide_eq_true (cmpI_lt.1 (by assumption)))).symm.trans hok0.2.2) | (refine ⟨by omega, by omega, ?_⟩; exact (bsF_down (by omega) (show ltK (fun x => x.1) (0, (0, (0, (0, [])))) x0 x1 _ = false from decide_eq_false (fun e => absurd (cmpI_lt.2 e) (by assumption)))).symm.trans hok0.2.2)), (by dsimp only; omega)⟩
  ·replace h2 : ¬ ((D__impl_Sink_decoderAt_1 (x0.getD ((q.1 + q.2) / 2) (0, (0, (0, (0, []))))) x1) < 0) := of_decide_eq_false h2
   refine at_regq [] { ts := [0, 1, 2, 6, 7, 8, 9, 10], os := [] } [] gamOK hT h (by kernel_rfl) trivial fun a w h => in_normal ?_
   replace h := at_out (σ' := ⟨[(0, aF s69 x0), (1, aI x1), (2, .p (.c (.cl 86 .cnil))), (6, aI 0), (7, aB false), (8, aI ((List.length x0 : Nat) : Int)), (9, aI ((q.1 : Nat) : Int)), (10, aI (((q.1 + q.2) / 2 : Nat) : Int))], []⟩) { ts := [0, 1, 2, 6, 7, 8, 9, 10], os := [] } h (by kernel_rfl)
   exact ⟨(q.1, (q.1 + q.2) / 2), at_eq h (st_congr2 (fun (d0 : Int) (d1 : Int) => (⟨[(0, aF s69 x0), (1, aI x1), (2, .p (.c (.cl 86 .cnil))), (6, aI 0), (7, aB false), (8, aI ((List.length x0 : Nat) : Int)), (9, aI d0), (10, aI d1)], []⟩ : St)) (show (((q.1 : Nat) : Int) : Int) = ((((q.1, (q.1 + q.2) / 2)).1 : Nat) : Int) from by first | with_reducible rfl | (dsimp only; omega) | rfl) (show ((((q.1 + q.2) / 2 : Nat) : Int) : Int) = ((((q.1, (q.1 + q.2) / 2)).2 : Nat) : Int) from by first | with_reducible rfl | (dsimp only; omega) | rfl)), (by dsimp only; first | (refine ⟨by omega, by omega, ?_⟩; exact (bsF_up (by omega) (show ltK (fun x => x.1) (0, (0, (0, (0, [])))) x0 x1 _ = true from decide_eq_true (cmpI_lt.1 (by assumption)))).symm.trans hok0.2.2) | (refine ⟨by omega, by omega, ?_⟩; exact (bsF_down (by omega) (show ltK (fun x => x.1) (0, (0, (0, (0, [])))) x0 x1 _ = false from decide_eq_false (fun e => absurd (cmpI_lt.2 e) (by assumption)))).symm.trans hok0.2.2)), (by dsimp only; omega)⟩
 ·replace h1 : ¬ (((q.1 : Nat) : Int) < ((q.2 : Nat) : Int)) := of_decide_eq_false h1
  refine wp_exit (then_exit (then_exit (in_hit (then_normal (wp_seq ?_)))))
  by_cases h3 : ((q.1 : Nat) : Int) < ((List.length x0 : Nat) : Int)
  ·refine at_regq [{}, {}, {}, { hint := some (aB true) }] { ts := [6, 7], os := [] } [(AV.p (.c (.v (.bool (decide (((q.1 : Nat) : Int) < ((List.length x0 : Nat) : Int)))))) = AV.p (.c (.v (.bool true)))), (0 : Int) ≤ ((q.1 : Nat) : Int) ∧ ((q.1 : Nat) : Int) < ((List.length x0 : Nat) : Int), Q__impl_Sink_decoderAt_1 (x0.getD q.1 (0, (0, (0, (0, []))))) x1] gamOK hT h (by kernel_rfl) ⟨hint_bool (decide_eq_true h3), (by refine ⟨?_, ?_⟩ <;> (first | omega | (simp only [lsA]; omega) | (simp <;> omega))), (by exact (Sh.fit_getD hf0 q.1)), trivial⟩ fun a w h => then_normal (wp_ret ?_)
   exact at_return (((q.1 : Nat) : Int), (decide ((D__impl_Sink_decoderAt_1 (x0.getD q.1 (0, (0, (0, (0, []))))) x1) = 0), ())) [] h (by kernel_rfl) trivial (congrArg (fun z => (z.1, z.2, ())) (show ((((q.1 : Nat) : Int), decide ((D__impl_Sink_decoderAt_1 (x0.getD q.1 (0, (0, (0, (0, []))))) x1) = 0))) = D_slices_BinarySearchFunc_S_impl_Decoder_impl_Decoder_int__decoderAt_1 x0 x1 x2 from by unfold D_slices_BinarySearchFunc_S_impl_Decoder_impl_Decoder_int__decoderAt_1; (have e := hok0.2.2; rw [bsF_end (by omega)] at e; have e1 : bsK (fun x => x.1) (0, (0, (0, (0, [])))) x0 x1 = q.1 := e.symm; unfold fndK; rw [e1]; exact Prod.ext rfl (by first | exact fnd_no (f := (fun x => x.1)) (z := (0, (0, (0, (0, []))))) (xs := x0) (v := x1) (q := q.1) (by omega) | exact fnd_eq (f := (fun x => x.1)) (z := (0, (0, (0, (0, []))))) (xs := x0) (v := x1) (q := q.1) (by omega)))))
  ·refine at_regq [{}, {}, {}, { hint := some (aB false) }] { ts := [6, 7], os := [] } [(AV.p (.c (.v (.bool (decide (((q.1 : Nat) : Int) < ((List.length x0 : Nat) : Int)))))) = AV.p (.c (.v (.bool false))))] gamOK hT h (by kernel_rfl) ⟨hint_bool (decide_eq_false h3), trivial⟩ fun a w h => then_normal (wp_ret ?_)
   exact at_return (((q.1 : Nat) : Int), (false, ())) [] h (by kernel_rfl) trivial (congrArg (fun z => (z.1, z.2, ())) (show ((((q.1 : Nat) : Int), false)) = D_slices_BinarySearchFunc_S_impl_Decoder_impl_Decoder_int__decoderAt_1 x0 x1 x2 from by unfold D_slices_BinarySearchFunc_S_impl_Decoder_impl_Decoder_int__decoderAt_1; (have e := hok0.2.2; rw [bsF_end (by omega)] at e; have e1 : bsK (fun x => x.1) (0, (0, (0, (0, [])))) x0 x1 = q.1 := e.symm; unfold fndK; rw [e1]; exact Prod.ext rfl (by first | exact fnd_no (f := (fun x => x.1)) (z := (0, (0, (0, (0, []))))) (xs := x0) (v := x1) (q := q.1) (by omega) | exact fnd_eq (f := (fun x => x.1)) (z := (0, (0, (0, (0, []))))) (xs := x0) (v := x1) (q := q.1) (by omega)))))

def D__impl_Sink_decoderAt (x0 : T34) (x1 : Int) : Int × Bool := ((D_slices_BinarySearchFunc_S_impl_Decoder_impl_Decoder_int__decoderAt_1 x0.2.2.2.1 x1 ()).1, (D_slices_BinarySearchFunc_S_impl_Decoder_impl_Decoder_int__decoderAt_1 x0.2.2.2.1 x1 ()).2)
abbrev Q__impl_Sink_decoderAt := (fun (x0 : T34) (x1 : Int) => Sh.fit s34 x0)
def S__impl_Sink_decoderAt : Sum := { fid := 64, dom := [s34, (.int 3)], cod := [(.int 3), (.bool 4)], dp := true, fz := false, pre := fun x => Q__impl_Sink_decoderAt x.1 x.2.1, g := fun x => ((D__impl_Sink_decoderAt x.1 x.2.1).1, ((D__impl_Sink_decoderAt x.1 x.2.1).2, ())) }
def S__impl_Sink_decoderAt_tab : List (Nat × Sum) := [(100006, S_slices_BinarySearchFunc_S_impl_Decoder_impl_Decoder_int__decoderAt_1)]
theorem S__impl_Sink_decoderAt_ok : FnOK Tryz.prog 64 S__impl_Sink_decoderAt := by
 refine at_enter 12 (fun x => ⟨[(0, aG [cI x.1.1, cI x.1.2.1, .ro (.int 3) x.1.2.2.1, .ro s69 x.1.2.2.2.1, .ro s64 x.1.2.2.2.2.1, cI x.1.2.2.2.2.2]), (1, aI x.2.1)], []⟩) Tryz.func64 rfl (by kernel_rfl) (fun x => rfl) ?_
 rintro w0 Z0 ⟨x0, x1, u⟩ a w
 revert x0 x1
 intro (x0 : T34) (x1 : Int) hpre hlens h
 replace hpre : Q__impl_Sink_decoderAt x0 x1 := hpre
 have hT : TabOK Tryz.prog S__impl_Sink_decoderAt_tab := (.cons S_slices_BinarySearchFunc_S_impl_Decoder_impl_Decoder_int__decoderAt_1_ok .nil)
 have hf0 : Sh.fit s34 x0 := hpre
 have hn0_1 : List.length x0.2.2.1 ≤ 1073741824 := hf0.2.2.1.1
 have hn0_2 : List.length x0.2.2.2.1 ≤ 1073741824 := hf0.2.2.2.1.1
 have hn0_3 : List.length x0.2.2.2.2.1 ≤ 1073741824 := hf0.2.2.2.2.1.1
 refine wp_seq ?_
 refine at_regq [{ ids := [1] }] { ts := [1, 2, 4, 5], os := [1] } [] gamOK hT h (by kernel_rfl) trivial fun a w h => then_normal (wp_seq ?_)
 refine at_regq [{}, {}, {}, { key := some 100006 }] { ts := [4, 5], os := [] } [Q_slices_BinarySearchFunc_S_impl_Decoder_impl_Decoder_int__decoderAt_1 x0.2.2.2.1 x1 ()] gamOK hT h (by kernel_rfl) ⟨(by exact hf0.2.2.2.1), trivial⟩ fun a w h => then_normal (wp_ret ?_)
 exact at_return ((D_slices_BinarySearchFunc_S_impl_Decoder_impl_Decoder_int__decoderAt_1 x0.2.2.2.1 x1 ()).1, ((D_slices_BinarySearchFunc_S_impl_Decoder_impl_Decoder_int__decoderAt_1 x0.2.2.2.1 x1 ()).2, ())) [] h (by kernel_rfl) trivial (congrArg (fun z => (z.1, z.2, ())) (show (((D_slices_BinarySearchFunc_S_impl_Decoder_impl_Decoder_int__decoderAt_1 x0.2.2.2.1 x1 ()).1, (D_slices_BinarySearchFunc_S_impl_Decoder_impl_Decoder_int__decoderAt_1 x0.2.2.2.1 x1 ()).2)) = D__impl_Sink_decoderAt x0 x1 from by rfl))

def D_spec_l30Done := (fun (s : T34) (v : Int) => s.2.2.2.2.1.any fun g => decide (g.1 = v))
abbrev Q_spec_l30Done := (fun (x0 : T34) (x1 : Int) => Sh.fit s34 x0)
def S_spec_l30Done : Sum := { fid := 50, dom := [s34, (.int 3)], cod := [(.bool 4)], dp := true, fz := false, pre := fun x => Q_spec_l30Done x.1 x.2.1, g := fun x => ((D_spec_l30Done x.1 x.2.1), ()) }
def S_spec_l30Done_tab : List (Nat × Sum) := []
theorem S_spec_l30Done_ok : FnOK Tryz.prog 50 S_spec_l30Done := by
 refine at_enter 21 (fun x => ⟨[(0, aG [cI x.1.1, cI x.1.2.1, .ro (.int 3) x.1.2.2.1, .ro s69 x.1.2.2.2.1, .ro s64 x.1.2.2.2.2.1, cI x.1.2.2.2.2.2]), (1, aI x.2.1)], []⟩) Tryz.func50 rfl (by kernel_rfl) (fun x => rfl) ?_
 rintro w0 Z0 ⟨x0, x1, u⟩ a w
 revert x0 x1
 intro (x0 : T34) (x1 : Int) hpre hlens h
 replace hpre : Q_spec_l30Done x0 x1 := hpre
 have hT : TabOK Tryz.prog S_spec_l30Done_tab := .nil
 have hf0 : Sh.fit s34 x0 := hpre
 have hn0_1 : List.length x0.2.2.1 ≤ 1073741824 := hf0.2.2.1.1
 have hn0_2 : List.length x0.2.2.2.1 ≤ 1073741824 := hf0.2.2.2.1.1
 have hn0_3 : List.length x0.2.2.2.2.1 ≤ 1073741824 := hf0.2.2.2.2.1.1
 refine wp_seq ?_
 refine at_regq [{ ids := [1] }] { ts := [1, 2, 4], os := [1] } [] gamOK hT h (by kernel_rfl) trivial fun a w h => then_normal (wp_seq (wp_seq ?_))
 refine at_regq [] { ts := [1, 2, 4, 5], os := [1] } [] gamOK hT h (by kernel_rfl) trivial fun a w h => then_normal (wp_block ?_)
 replace h := at_out (σ' := ⟨[(1, aI x1), (2, aP 1 0), (4, aB false), (5, aI 0)], [(1, oX 34 [cI x0.1, cI x0.2.1, .ro (.int 3) x0.2.2.1, .ro s69 x0.2.2.2.1, .ro s64 x0.2.2.2.2.1, cI x0.2.2.2.2.2])]⟩) { ts := [1, 2, 4, 5], os := [1] } h (by kernel_rfl)
 refine at_loop (fun i : Nat => (⟨[(1, aI x1), (2, aP 1 0), (4, aB false), (5, aI ((i : Nat) : Int))], [(1, oX 34 [cI x0.1, cI x0.2.1, .ro (.int 3) x0.2.2.1, .ro s69 x0.2.2.2.1, .ro s64 x0.2.2.2.2.1, cI x0.2.2.2.2.2])]⟩ : St)) (fun i => (i ≤ List.length x0.2.2.2.2.1 ∧ noneTo (fun g => decide (g.1 = x1)) x0.2.2.2.2.1 (0, []) i)) (fun i => List.length x0.2.2.2.2.1 - i) (0) h (st_congr1 (fun (d0 : Int) => (⟨[(1, aI x1), (2, aP 1 0), (4, aB false), (5, aI d0)], [(1, oX 34 [cI x0.1, cI x0.2.1, .ro (.int 3) x0.2.2.1, .ro s69 x0.2.2.2.1, .ro s64 x0.2.2.2.2.1, cI x0.2.2.2.2.2])]⟩ : St)) (show (0 : Int) = (((0) : Nat) : Int) from by first | with_reducible rfl | (rfl) | rfl)) (by exact ⟨Nat.zero_le _, noneTo_zero⟩) ?_
 intro i a w hok0 h
 refine wp_seq (wp_seq ?_)
 refine at_regq [] { ts := [1, 2, 4, 5, 10], os := [1] } [] gamOK hT h (by kernel_rfl) trivial fun a w h => then_normal ?_
 refine at_test (decide (((i : Nat) : Int) < ((List.length x0.2.2.2.2.1 : Nat) : Int))) h (by kernel_rfl) (fun h1 => ?_) (fun h1 => ?_)
 ·replace h1 : ((i : Nat) : Int) < ((List.length x0.2.2.2.2.1 : Nat) : Int) := of_decide_eq_true h1
  refine wp_skip (then_normal (wp_seq (wp_block (wp_seq ?_))))
  refine at_regq [] { ts := [1, 2, 4, 5, 20], os := [1] } [(0 : Int) ≤ ((i : Nat) : Int) ∧ ((i : Nat) : Int) < ((List.length x0.2.2.2.2.1 : Nat) : Int)] gamOK hT h (by kernel_rfl) ⟨(by refine ⟨?_, ?_⟩ <;> (first | omega | (simp only [lsA]; omega) | (simp <;> omega))), trivial⟩ fun a w h => then_normal ?_
  refine at_test (decide ((x0.2.2.2.2.1.getD i (0, [])).1 = x1)) h (by kernel_rfl) (fun h2 => ?_) (fun h2 => ?_)
  ·replace h2 : (x0.2.2.2.2.1.getD i (0, [])).1 = x1 := of_decide_eq_true h2
   refine wp_seq ?_
   refine at_regq [] { ts := [1, 2, 4, 5], os := [1] } [] gamOK hT h (by kernel_rfl) trivial fun a w h => then_normal (wp_ret (in_ret (then_ret ?_)))
   have hs3 : (!(List.any x0.2.2.2.2.1 (fun g => decide (g.1 = x1)))) = false := by exact notT' (any_at (z := (0, [])) (i := i) (by omega) (by exact decide_eq_true (by assumption)))
   refine then_ret (in_ret (then_ret ?_))
   exact at_return (true, ()) [] h (by kernel_rfl) trivial (congrArg (fun z => (z, ())) (show (true) = D_spec_l30Done x0 x1 from by unfold D_spec_l30Done; first | exact (notT (by assumption)).symm | exact (notF (by assumption)).symm))
  ·replace h2 : ¬ ((x0.2.2.2.2.1.getD i (0, [])).1 = x1) := of_decide_eq_false h2
   refine wp_skip (in_normal (then_normal ?_))
   refine at_regq [{}, { nw := true }] { ts := [1, 2, 4, 5], os := [1] } [I64 (((i : Nat) : Int) + 1)] gamOK hT h (by kernel_rfl) ⟨⟨by first | omega | (simp only [lsA]; omega) | (simp <;> omega), by first | omega | (simp only [lsA]; omega) | (simp <;> omega)⟩, trivial⟩ fun a w h => ?_
   replace h := at_out (σ' := ⟨[(1, aI x1), (2, aP 1 0), (4, aB false), (5, aI (((i : Nat) : Int) + 1))], [(1, oX 34 [cI x0.1, cI x0.2.1, .ro (.int 3) x0.2.2.1, .ro s69 x0.2.2.2.1, .ro s64 x0.2.2.2.2.1, cI x0.2.2.2.2.2])]⟩) { ts := [1, 2, 4, 5], os := [1] } h (by kernel_rfl)
   exact ⟨i + 1, at_eq h (st_congr1 (fun (d0 : Int) => (⟨[(1, aI x1), (2, aP 1 0), (4, aB false), (5, aI d0)], [(1, oX 34 [cI x0.1, cI x0.2.1, .ro (.int 3) x0.2.2.1, .ro s69 x0.2.2.2.1, .ro s64 x0.2.2.2.2.1, cI x0.2.2.2.2.2])]⟩ : St)) (show (((i : Nat) : Int) + 1 : Int) = (((i + 1) : Nat) : Int) from by first | with_reducible rfl | (omega) | rfl)), (by exact ⟨by omega, noneTo_succ hok0.2 (by exact decide_eq_false (by assumption))⟩), (by omega)⟩
 ·replace h1 : ¬ (((i : Nat) : Int) < ((List.length x0.2.2.2.2.1 : Nat) : Int)) := of_decide_eq_false h1
  refine wp_exit (then_exit ?_)
  have hs4 : (!(List.any x0.2.2.2.2.1 (fun g => decide (g.1 = x1)))) = true := by exact notF' (any_of (z := (0, [])) (i := i) (by omega) hok0.2)
  refine then_exit (in_hit (then_normal (wp_seq ?_)))
  refine at_regq [] { ts := [4], os := [] } [] gamOK hT h (by kernel_rfl) trivial fun a w h => then_normal (wp_ret ?_)
  exact at_return (false, ()) [] h (by kernel_rfl) trivial (congrArg (fun z => (z, ())) (show (false) = D_spec_l30Done x0 x1 from by unfold D_spec_l30Done; first | exact (notT (by assumption)).symm | exact (notF (by assumption)).symm))

abbrev Q_impl_IsValidSink := (fun (x0 : T34) => Sh.fit s34 x0)
def S_impl_IsValidSink : Sum := { fid := 37, dom := [s34], cod := [(.bool 4)], dp := true, fz := false, pre := fun x => Q_impl_IsValidSink x.1, g := fun x => ((validS x.1), ()) }
def S_impl_IsValidSink_tab : List (Nat × Sum) := [(58, S_impl_NewSink), (59, S_impl_InRange), (60, S_impl_IsValidDecoder), (61, S__impl_Decoder_complete), (62, S__impl_Sink_fits), (38, S_impl_IsValidGeneration), (63, S_impl_SymbolWidth), (64, S__impl_Sink_decoderAt)]
theorem S_impl_IsValidSink_ok : FnOK Tryz.prog 37 S_impl_IsValidSink := by
 refine at_enter 124 (fun x => ⟨[(0, aG [cI x.1.1, cI x.1.2.1, .ro (.int 3) x.1.2.2.1, .ro s69 x.1.2.2.2.1, .ro s64 x.1.2.2.2.2.1, cI x.1.2.2.2.2.2])], []⟩) Tryz.func37 rfl (by kernel_rfl) (fun x => rfl) ?_
 rintro w0 Z0 ⟨x0, u⟩ a w
 revert x0
 intro (x0 : T34) hpre hlens h
 replace hpre : Q_impl_IsValidSink x0 := hpre
 have hT : TabOK Tryz.prog S_impl_IsValidSink_tab := (.cons S_impl_NewSink_ok (.cons S_impl_InRange_ok (.cons S_impl_IsValidDecoder_ok (.cons S__impl_Decoder_complete_ok (.cons S__impl_Sink_fits_ok (.cons S_impl_IsValidGeneration_ok (.cons S_impl_SymbolWidth_ok (.cons S__impl_Sink_decoderAt_ok .nil))))))))
 have hf0 : Sh.fit s34 x0 := hpre
 have hn0_1 : List.length x0.2.2.1 ≤ 1073741824 := hf0.2.2.1.1
 have hn0_2 : List.length x0.2.2.2.1 ≤ 1073741824 := hf0.2.2.2.1.1
 have hn0_3 : List.length x0.2.2.2.2.1 ≤ 1073741824 := hf0.2.2.2.2.1.1
 refine wp_seq ?_
 refine at_regq [{ ids := [1] }] { ts := [1, 2], os := [1] } [] gamOK hT h (by kernel_rfl) trivial fun a w h => then_normal (wp_seq (wp_seq ?_))
 by_cases h1 : (newSink x0.1 x0.2.1 x0.2.2.1).2.1 = 0
 ·refine at_regq [{}, {}, {}, {}, {}, {}, { ids := [2, 3, 4] }, {}, { hint := some (aB true) }] { ts := [1, 2, 32], os := [1] } [Q_impl_NewSink x0.1 x0.2.1 x0.2.2.1, (AV.p (.c (.v (.bool (decide ((newSink x0.1 x0.2.1 x0.2.2.1).2.1 = 0))))) = AV.p (.c (.v (.bool true))))] gamOK hT h (by kernel_rfl) ⟨(by exact hf0.2.2.1), hint_bool (decide_eq_true h1), trivial⟩ fun a w h => then_normal ?_
  refine at_test true h (by kernel_rfl) (fun hh => ?_) (fun hh => nomatch hh)
  refine wp_seq ?_
  refine at_regq [] { ts := [1, 2], os := [1] } [] gamOK hT h (by kernel_rfl) trivial fun a w h => then_normal (wp_ret (then_ret ?_))
  exact at_return (false, ()) [] h (by kernel_rfl) trivial (congrArg (fun z => (z, ())) (show (false) = validS x0 from by (first | (rw [← validS_impl (by assumption) (headS_y (by assumption) (by omega) (by assumption))]; symm; assumption) | exact validS_no (by first | (right; left; assumption) | (left; exact headS_n (by first | (left; assumption) | (right; left; omega) | (right; right; assumption)))))))
 ·by_cases h2 : ((List.length x0.2.2.2.1 : Nat) : Int) > 4
  ·refine at_regq [{}, {}, {}, {}, {}, {}, { ids := [2, 3, 4] }, {}, { hint := some (aB false) }, {}, {}, {}, {}, { hint := some (aB true) }] { ts := [1, 2, 32], os := [1] } [Q_impl_NewSink x0.1 x0.2.1 x0.2.2.1, (AV.p (.c (.v (.bool (decide ((newSink x0.1 x0.2.1 x0.2.2.1).2.1 = 0))))) = AV.p (.c (.v (.bool false)))), (AV.p (.c (.v (.bool (decide (((List.length x0.2.2.2.1 : Nat) : Int) > 4))))) = AV.p (.c (.v (.bool true))))] gamOK hT h (by kernel_rfl) ⟨(by exact hf0.2.2.1), hint_bool (decide_eq_false h1), hint_bool (decide_eq_true h2), trivial⟩ fun a w h => then_normal ?_
   refine at_test true h (by kernel_rfl) (fun hh => ?_) (fun hh => nomatch hh)
   refine wp_seq ?_
   refine at_regq [] { ts := [1, 2], os := [1] } [] gamOK hT h (by kernel_rfl) trivial fun a w h => then_normal (wp_ret (then_ret ?_))
   exact at_return (false, ()) [] h (by kernel_rfl) trivial (congrArg (fun z => (z, ())) (show (false) = validS x0 from by (first | (rw [← validS_impl (by assumption) (headS_y (by assumption) (by omega) (by assumption))]; symm; assumption) | exact validS_no (by first | (right; left; assumption) | (left; exact headS_n (by first | (left; assumption) | (right; left; omega) | (right; right; assumption)))))))
  ·refine at_regq [{}, {}, {}, {}, {}, {}, { ids := [2, 3, 4] }, {}, { hint := some (aB false) }, {}, {}, {}, {}, { hint := some (aB false) }] { ts := [1, 2, 32], os := [1] } [Q_impl_NewSink x0.1 x0.2.1 x0.2.2.1, (AV.p (.c (.v (.bool (decide ((newSink x0.1 x0.2.1 x0.2.2.1).2.1 = 0))))) = AV.p (.c (.v (.bool false)))), (AV.p (.c (.v (.bool (decide (((List.length x0.2.2.2.1 : Nat) : Int) > 4))))) = AV.p (.c (.v (.bool false)))), True] gamOK hT h (by kernel_rfl) ⟨(by exact hf0.2.2.1), hint_bool (decide_eq_false h1), hint_bool (decide_eq_false h2), trivial, trivial⟩ fun a w h => then_normal ?_
   refine at_test (!(inR x0.2.2.2.2.2 0 ((List.length x0.2.2.2.2.1 : Nat) : Int))) h (by kernel_rfl) (fun h3 => ?_) (fun h3 => ?_)
   ·replace h3 : (inR x0.2.2.2.2.2 0 ((List.length x0.2.2.2.2.1 : Nat) : Int)) = false := notT h3
    have hvh3 := inR_f h3
    refine wp_seq ?_
    refine at_regq [] { ts := [1, 2], os := [1] } [] gamOK hT h (by kernel_rfl) trivial fun a w h => then_normal (wp_ret (then_ret ?_))
    exact at_return (false, ()) [] h (by kernel_rfl) trivial (congrArg (fun z => (z, ())) (show (false) = validS x0 from by (first | (rw [← validS_impl (by assumption) (headS_y (by assumption) (by omega) (by assumption))]; symm; assumption) | exact validS_no (by first | (right; left; assumption) | (left; exact headS_n (by first | (left; assumption) | (right; left; omega) | (right; right; assumption)))))))
   ·replace h3 : (inR x0.2.2.2.2.2 0 ((List.length x0.2.2.2.2.1 : Nat) : Int)) = true := notF h3
    have hvh3 := inR_t h3
    refine wp_skip (then_normal (wp_seq (wp_seq ?_)))
    refine at_regq [] { ts := [1, 2, 34, 35, 36], os := [1] } [] gamOK hT h (by kernel_rfl) trivial fun a w h => then_normal (wp_block ?_)
    replace h := at_out (σ' := ⟨[(1, aP 1 0), (2, aB false), (34, aF s69 x0.2.2.2.1), (35, aI ((List.length x0.2.2.2.1 : Nat) : Int)), (36, aI 0)], [(1, oX 34 [cI x0.1, cI x0.2.1, .ro (.int 3) x0.2.2.1, .ro s69 x0.2.2.2.1, .ro s64 x0.2.2.2.2.1, cI x0.2.2.2.2.2])]⟩) { ts := [1, 2, 34, 35, 36], os := [1] } h (by kernel_rfl)
    refine at_loop (fun i : Nat => (⟨[(1, aP 1 0), (2, aB false), (34, aF s69 x0.2.2.2.1), (35, aI ((List.length x0.2.2.2.1 : Nat) : Int)), (36, aI ((i : Nat) : Int))], [(1, oX 34 [cI x0.1, cI x0.2.1, .ro (.int 3) x0.2.2.1, .ro s69 x0.2.2.2.1, .ro s64 x0.2.2.2.2.1, cI x0.2.2.2.2.2])]⟩ : St)) (fun i => (i ≤ (List.length x0.2.2.2.1) ∧ allN (decB x0) i = true)) (fun i => (List.length x0.2.2.2.1) - i) (0) h (st_congr1 (fun (d0 : Int) => (⟨[(1, aP 1 0), (2, aB false), (34, aF s69 x0.2.2.2.1), (35, aI ((List.length x0.2.2.2.1 : Nat) : Int)), (36, aI d0)], [(1, oX 34 [cI x0.1, cI x0.2.1, .ro (.int 3) x0.2.2.1, .ro s69 x0.2.2.2.1, .ro s64 x0.2.2.2.2.1, cI x0.2.2.2.2.2])]⟩ : St)) (show (0 : Int) = (((0) : Nat) : Int) from by first | with_reducible rfl | (rfl) | rfl)) (by exact ⟨Nat.zero_le _, rfl⟩) ?_
    intro i a w hok0 h
    refine wp_seq ?_
    refine at_regq [] { ts := [1, 2, 34, 35, 36, 37], os := [1] } [] gamOK hT h (by kernel_rfl) trivial fun a w h => then_normal (wp_seq ?_)
    refine at_test (decide (((i : Nat) : Int) < ((List.length x0.2.2.2.1 : Nat) : Int))) h (by kernel_rfl) (fun h4 => ?_) (fun h4 => ?_)
    ·replace h4 : ((i : Nat) : Int) < ((List.length x0.2.2.2.1 : Nat) : Int) := of_decide_eq_true h4
     refine wp_skip (then_normal (wp_seq (wp_block (wp_seq ?_))))
     refine at_regq [{}, {}, {}, { ids := [5] }] { ts := [1, 2, 3, 4, 34, 35, 36], os := [1, 5] } [(0 : Int) ≤ ((i : Nat) : Int) ∧ ((i : Nat) : Int) < ((List.length x0.2.2.2.1 : Nat) : Int)] gamOK hT h (by kernel_rfl) ⟨(by refine ⟨?_, ?_⟩ <;> (first | omega | (simp only [lsA]; omega) | (simp <;> omega))), trivial⟩ fun a w h => then_normal (wp_seq ?_)
     rcases Bool.eq_false_or_eq_true (!(validD (x0.2.2.2.1.getD i (0, (0, (0, (0, []))))))) with h5 | h5
     ·have hzh5 : (validD (x0.2.2.2.1.getD i (0, (0, (0, (0, [])))))) = false := notT h5
      refine at_anyq [{}, {}, { hint := some (aB true) }, {}, {}, {}, {}, {}, {}, {}, {}, {}, {}, {}, {}, {}, {}, {}, {}, {}, {}, {}, {}, {}, {}, {}, {}, {}, {}, {}, {}, {}, {}, {}] { ts := [1, 2, 34, 35, 36, 45, 46, 49, 50, 51, 52, 53, 54, 55, 56, 57, 60, 61, 62, 63, 64, 65, 66, 67, 68, 69, 70, 71, 72, 73, 74], os := [1] } [Q_impl_IsValidDecoder (x0.2.2.2.1.getD i (0, (0, (0, (0, []))))), (AV.p (.c (.v (.bool (!(validD (x0.2.2.2.1.getD i (0, (0, (0, (0, [])))))))))) = AV.p (.c (.v (.bool true))))] gamOK hT mixed h (by kernel_rfl) ⟨(by exact (Sh.fit_getD hf0.2.2.2.1 i)), hint_bool (h5), trivial⟩ fun a w h => then_normal ?_
      refine at_test true h (by kernel_rfl) (fun hh => ?_) (fun hh => nomatch hh)
      refine wp_seq ?_
      refine at_regq [] { ts := [1, 2, 34, 35, 36, 45, 46, 49, 50, 51, 52, 53, 54, 55, 56, 57, 60, 61, 62, 63, 64, 65, 66, 67, 68, 69, 70, 71, 72, 73], os := [1] } [] gamOK hT h (by kernel_rfl) trivial fun a w h => then_normal (wp_ret (in_ret (then_ret ?_)))
      have hs6 : (allN (decB x0) (List.length x0.2.2.2.1)) = false := by exact allN_at (i := i) (by omega) (by exact decB_f (by first | (left; assumption) | (right; left; assumption) | (right; right; left; assumption) | (right; right; right; omega)))
      refine then_ret (in_ret (then_ret ?_))
      exact at_return (false, ()) [] h (by kernel_rfl) trivial (congrArg (fun z => (z, ())) (show (false) = validS x0 from by (first | (rw [← validS_impl (by assumption) (headS_y (by assumption) (by omega) (by assumption))]; symm; assumption) | exact validS_no (by first | (right; left; assumption) | (left; exact headS_n (by first | (left; assumption) | (right; left; omega) | (right; right; assumption)))))))
     ·have hzh5 : (validD (x0.2.2.2.1.getD i (0, (0, (0, (0, [])))))) = true := notF h5
      have hvh5 := validD_t (notF h5)
      rcases Bool.eq_false_or_eq_true ((complD (x0.2.2.2.1.getD i (0, (0, (0, (0, []))))))) with h7 | h7
      ·refine at_anyq [{}, {}, { hint := some (aB false) }, {}, {}, { hint := some (aB true) }, {}, {}, {}, {}, {}, {}, {}, {}, {}, {}, {}, {}, {}, {}, {}, {}, {}, {}, {}, {}, {}, {}, {}, {}, {}, {}, {}, {}] { ts := [1, 2, 34, 35, 36, 45, 46, 49, 50, 51, 52, 53, 54, 55, 56, 57, 60, 61, 62, 63, 64, 65, 66, 67, 68, 69, 70, 71, 72, 73, 74], os := [1] } [Q_impl_IsValidDecoder (x0.2.2.2.1.getD i (0, (0, (0, (0, []))))), (AV.p (.c (.v (.bool (!(validD (x0.2.2.2.1.getD i (0, (0, (0, (0, [])))))))))) = AV.p (.c (.v (.bool false)))), Q__impl_Decoder_complete (x0.2.2.2.1.getD i (0, (0, (0, (0, []))))), (AV.p (.c (.v (.bool ((complD (x0.2.2.2.1.getD i (0, (0, (0, (0, [])))))))))) = AV.p (.c (.v (.bool true))))] gamOK hT mixed h (by kernel_rfl) ⟨(by exact (Sh.fit_getD hf0.2.2.2.1 i)), hint_bool (h5), (by exact (Sh.fit_getD hf0.2.2.2.1 i)), hint_bool (h7), trivial⟩ fun a w h => then_normal ?_
       refine at_test true h (by kernel_rfl) (fun hh => ?_) (fun hh => nomatch hh)
       refine wp_seq ?_
       refine at_regq [] { ts := [1, 2, 34, 35, 36, 45, 46, 49, 50, 51, 52, 53, 54, 55, 56, 57, 60, 61, 62, 63, 64, 65, 66, 67, 68, 69, 70, 71, 72, 73], os := [1] } [] gamOK hT h (by kernel_rfl) trivial fun a w h => then_normal (wp_ret (in_ret (then_ret ?_)))
       have hs8 : (allN (decB x0) (List.length x0.2.2.2.1)) = false := by exact allN_at (i := i) (by omega) (by exact decB_f (by first | (left; assumption) | (right; left; assumption) | (right; right; left; assumption) | (right; right; right; omega)))
       refine then_ret (in_ret (then_ret ?_))
       exact at_return (false, ()) [] h (by kernel_rfl) trivial (congrArg (fun z => (z, ())) (show (false) = validS x0 from by (first | (rw [← validS_impl (by assumption) (headS_y (by assumption) (by omega) (by assumption))]; symm; assumption) | exact validS_no (by first | (right; left; assumption) | (left; exact headS_n (by first | (left; assumption) | (right; left; omega) | (right; right; assumption)))))))
      ·rcases Bool.eq_false_or_eq_true (!(fitsS x0 (x0.2.2.2.1.getD i (0, (0, (0, (0, []))))).1 (x0.2.2.2.1.getD i (0, (0, (0, (0, []))))).2.1 (x0.2.2.2.1.getD i (0, (0, (0, (0, []))))).2.2.1)) with h9 | h9
       ·have hzh9 : (fitsS x0 (x0.2.2.2.1.getD i (0, (0, (0, (0, []))))).1 (x0.2.2.2.1.getD i (0, (0, (0, (0, []))))).2.1 (x0.2.2.2.1.getD i (0, (0, (0, (0, []))))).2.2.1) = false := notT h9
        refine at_anyq [{}, {}, { hint := some (aB false) }, {}, {}, { hint := some (aB false) }, {}, {}, {}, {}, {}, {}, {}, {}, {}, {}, { hint := some (aB true) }, {}, {}, {}, {}, {}, {}, {}, {}, {}, {}, {}, {}, {}, {}, {}, {}, {}] { ts := [1, 2, 34, 35, 36, 45, 46, 49, 50, 51, 52, 53, 54, 55, 56, 57, 60, 61, 62, 63, 64, 65, 66, 67, 68, 69, 70, 71, 72, 73, 74], os := [1, 5] } [Q_impl_IsValidDecoder (x0.2.2.2.1.getD i (0, (0, (0, (0, []))))), (AV.p (.c (.v (.bool (!(validD (x0.2.2.2.1.getD i (0, (0, (0, (0, [])))))))))) = AV.p (.c (.v (.bool false)))), Q__impl_Decoder_complete (x0.2.2.2.1.getD i (0, (0, (0, (0, []))))), (AV.p (.c (.v (.bool ((complD (x0.2.2.2.1.getD i (0, (0, (0, (0, [])))))))))) = AV.p (.c (.v (.bool false)))), Q__impl_Sink_fits x0 (x0.2.2.2.1.getD i (0, (0, (0, (0, []))))).1 (x0.2.2.2.1.getD i (0, (0, (0, (0, []))))).2.1 (x0.2.2.2.1.getD i (0, (0, (0, (0, []))))).2.2.1, (AV.p (.c (.v (.bool (!(fitsS x0 (x0.2.2.2.1.getD i (0, (0, (0, (0, []))))).1 (x0.2.2.2.1.getD i (0, (0, (0, (0, []))))).2.1 (x0.2.2.2.1.getD i (0, (0, (0, (0, []))))).2.2.1))))) = AV.p (.c (.v (.bool true))))] gamOK hT mixed h (by kernel_rfl) ⟨(by exact (Sh.fit_getD hf0.2.2.2.1 i)), hint_bool (h5), (by exact (Sh.fit_getD hf0.2.2.2.1 i)), hint_bool (h7), (by exact hf0), hint_bool (h9), trivial⟩ fun a w h => then_normal ?_
        refine at_test true h (by kernel_rfl) (fun hh => ?_) (fun hh => nomatch hh)
        refine wp_seq ?_
        refine at_regq [] { ts := [1, 2, 34, 35, 36, 45, 46, 49, 50, 51, 52, 53, 54, 55, 56, 57, 60, 61, 62, 63, 64, 65, 66, 67, 68, 69, 70, 71, 72, 73], os := [1, 5] } [] gamOK hT h (by kernel_rfl) trivial fun a w h => then_normal (wp_ret (in_ret (then_ret ?_)))
        have hs10 : (allN (decB x0) (List.length x0.2.2.2.1)) = false := by exact allN_at (i := i) (by omega) (by exact decB_f (by first | (left; assumption) | (right; left; assumption) | (right; right; left; assumption) | (right; right; right; omega)))
        refine then_ret (in_ret (then_ret ?_))
        exact at_return (false, ()) [] h (by kernel_rfl) trivial (congrArg (fun z => (z, ())) (show (false) = validS x0 from by (first | (rw [← validS_impl (by assumption) (headS_y (by assumption) (by omega) (by assumption))]; symm; assumption) | exact validS_no (by first | (right; left; assumption) | (left; exact headS_n (by first | (left; assumption) | (right; left; omega) | (right; right; assumption)))))))
       ·have hzh9 : (fitsS x0 (x0.2.2.2.1.getD i (0, (0, (0, (0, []))))).1 (x0.2.2.2.1.getD i (0, (0, (0, (0, []))))).2.1 (x0.2.2.2.1.getD i (0, (0, (0, (0, []))))).2.2.1) = true := notF h9
        by_cases h11 : ((i : Nat) : Int) > 0
        ·refine at_anyq [{}, {}, { hint := some (aB false) }, {}, {}, { hint := some (aB false) }, {}, {}, {}, {}, {}, {}, {}, {}, {}, {}, { hint := some (aB false) }, {}, {}, {}, { hint := some (aB true) }, {}, {}, {}, {}, {}, {}, { nw := true }, {}, {}, {}, {}, {}, {}] { ts := [1, 2, 34, 35, 36, 45, 46, 49, 50, 51, 52, 53, 54, 55, 56, 57, 60, 61, 62, 63, 64, 65, 66, 67, 68, 69, 70, 71, 72, 73, 74], os := [1, 5] } [Q_impl_IsValidDecoder (x0.2.2.2.1.getD i (0, (0, (0, (0, []))))), (AV.p (.c (.v (.bool (!(validD (x0.2.2.2.1.getD i (0, (0, (0, (0, [])))))))))) = AV.p (.c (.v (.bool false)))), Q__impl_Decoder_complete (x0.2.2.2.1.getD i (0, (0, (0, (0, []))))), (AV.p (.c (.v (.bool ((complD (x0.2.2.2.1.getD i (0, (0, (0, (0, [])))))))))) = AV.p (.c (.v (.bool false)))), Q__impl_Sink_fits x0 (x0.2.2.2.1.getD i (0, (0, (0, (0, []))))).1 (x0.2.2.2.1.getD i (0, (0, (0, (0, []))))).2.1 (x0.2.2.2.1.getD i (0, (0, (0, (0, []))))).2.2.1, (AV.p (.c (.v (.bool (!(fitsS x0 (x0.2.2.2.1.getD i (0, (0, (0, (0, []))))).1 (x0.2.2.2.1.getD i (0, (0, (0, (0, []))))).2.1 (x0.2.2.2.1.getD i (0, (0, (0, (0, []))))).2.2.1))))) = AV.p (.c (.v (.bool false)))), (AV.p (.c (.v (.bool (decide (((i : Nat) : Int) > 0))))) = AV.p (.c (.v (.bool true)))), I64 (((i : Nat) : Int) - 1), (0 : Int) ≤ ((i : Nat) : Int) - 1 ∧ ((i : Nat) : Int) - 1 < ((List.length x0.2.2.2.1 : Nat) : Int)] gamOK hT mixed h (by kernel_rfl) ⟨(by exact (Sh.fit_getD hf0.2.2.2.1 i)), hint_bool (h5), (by exact (Sh.fit_getD hf0.2.2.2.1 i)), hint_bool (h7), (by exact hf0), hint_bool (h9), hint_bool (decide_eq_true h11), ⟨by first | omega | (simp only [lsA]; omega) | (simp <;> omega), by first | omega | (simp only [lsA]; omega) | (simp <;> omega)⟩, (by refine ⟨?_, ?_⟩ <;> (first | omega | (simp only [lsA]; omega) | (simp <;> omega))), trivial⟩ fun a w h => then_normal ?_
         refine at_test (decide ((x0.2.2.2.1.getD i (0, (0, (0, (0, []))))).1 ≤ (x0.2.2.2.1.getD ((((i : Nat) : Int) - 1).toNat) (0, (0, (0, (0, []))))).1)) h (by kernel_rfl) (fun h12 => ?_) (fun h12 => ?_)
         ·replace h12 : (x0.2.2.2.1.getD i (0, (0, (0, (0, []))))).1 ≤ (x0.2.2.2.1.getD ((((i : Nat) : Int) - 1).toNat) (0, (0, (0, (0, []))))).1 := of_decide_eq_true h12
          refine wp_seq ?_
          refine at_regq [] { ts := [1, 2, 34, 35, 36, 45, 46, 49, 50, 51, 52, 53, 54, 55, 56, 57, 60, 61, 62, 63, 64, 65, 66, 67, 68, 69, 70, 71, 72, 73], os := [1, 5] } [] gamOK hT h (by kernel_rfl) trivial fun a w h => then_normal (wp_ret (in_ret (then_ret ?_)))
          have hs13 : (allN (decB x0) (List.length x0.2.2.2.1)) = false := by exact allN_at (i := i) (by omega) (by exact decB_f (by first | (left; assumption) | (right; left; assumption) | (right; right; left; assumption) | (right; right; right; omega)))
          refine then_ret (in_ret (then_ret ?_))
          exact at_return (false, ()) [] h (by kernel_rfl) trivial (congrArg (fun z => (z, ())) (show (false) = validS x0 from by (first | (rw [← validS_impl (by assumption) (headS_y (by assumption) (by omega) (by assumption))]; symm; assumption) | exact validS_no (by first | (right; left; assumption) | (left; exact headS_n (by first | (left; assumption) | (right; left; omega) | (right; right; assumption)))))))
         ·replace h12 : ¬ ((x0.2.2.2.1.getD i (0, (0, (0, (0, []))))).1 ≤ (x0.2.2.2.1.getD ((((i : Nat) : Int) - 1).toNat) (0, (0, (0, (0, []))))).1) := of_decide_eq_false h12
          refine wp_skip (in_normal (then_normal ?_))
          refine at_regq [{ nw := true }] { ts := [1, 2, 34, 35, 36, 45, 46, 49, 50, 51, 52, 53, 54, 55, 56, 57, 60, 61, 62, 63, 64, 65, 66, 67, 68, 69, 70, 71, 72, 73], os := [1, 5] } [I64 (((i : Nat) : Int) + 1)] gamOK hT h (by kernel_rfl) ⟨⟨by first | omega | (simp only [lsA]; omega) | (simp <;> omega), by first | omega | (simp only [lsA]; omega) | (simp <;> omega)⟩, trivial⟩ fun a w h => ?_
          replace h := at_out (σ' := ⟨[(1, aP 1 0), (2, aB false), (34, aF s69 x0.2.2.2.1), (35, aI ((List.length x0.2.2.2.1 : Nat) : Int)), (36, aI (((i : Nat) : Int) + 1))], [(1, oX 34 [cI x0.1, cI x0.2.1, .ro (.int 3) x0.2.2.1, .ro s69 x0.2.2.2.1, .ro s64 x0.2.2.2.2.1, cI x0.2.2.2.2.2])]⟩) { ts := [1, 2, 34, 35, 36], os := [1] } h (by kernel_rfl)
          exact ⟨i + 1, at_eq h (st_congr1 (fun (d0 : Int) => (⟨[(1, aP 1 0), (2, aB false), (34, aF s69 x0.2.2.2.1), (35, aI ((List.length x0.2.2.2.1 : Nat) : Int)), (36, aI d0)], [(1, oX 34 [cI x0.1, cI x0.2.1, .ro (.int 3) x0.2.2.1, .ro s69 x0.2.2.2.1, .ro s64 x0.2.2.2.2.1, cI x0.2.2.2.2.2])]⟩ : St)) (show (((i : Nat) : Int) + 1 : Int) = (((i + 1) : Nat) : Int) from by first | with_reducible rfl | (omega) | rfl)), (by exact ⟨by omega, allN_succ hok0.2 (by exact decB_t (by assumption) (by assumption) (by assumption) (by omega))⟩), (by omega)⟩
        ·refine at_anyq [{}, {}, { hint := some (aB false) }, {}, {}, { hint := some (aB false) }, {}, {}, {}, {}, {}, {}, {}, {}, {}, {}, { hint := some (aB false) }, {}, {}, {}, { hint := some (aB false) }, {}, {}, {}, {}, {}, {}, {}, {}, {}, {}, {}, {}, {}] { ts := [1, 2, 34, 35, 36, 45, 46, 49, 50, 51, 52, 53, 54, 55, 56, 57, 60, 61, 62, 63, 64, 65, 66, 67, 68, 69, 70, 71, 72, 73, 74], os := [1, 5] } [Q_impl_IsValidDecoder (x0.2.2.2.1.getD i (0, (0, (0, (0, []))))), (AV.p (.c (.v (.bool (!(validD (x0.2.2.2.1.getD i (0, (0, (0, (0, [])))))))))) = AV.p (.c (.v (.bool false)))), Q__impl_Decoder_complete (x0.2.2.2.1.getD i (0, (0, (0, (0, []))))), (AV.p (.c (.v (.bool ((complD (x0.2.2.2.1.getD i (0, (0, (0, (0, [])))))))))) = AV.p (.c (.v (.bool false)))), Q__impl_Sink_fits x0 (x0.2.2.2.1.getD i (0, (0, (0, (0, []))))).1 (x0.2.2.2.1.getD i (0, (0, (0, (0, []))))).2.1 (x0.2.2.2.1.getD i (0, (0, (0, (0, []))))).2.2.1, (AV.p (.c (.v (.bool (!(fitsS x0 (x0.2.2.2.1.getD i (0, (0, (0, (0, []))))).1 (x0.2.2.2.1.getD i (0, (0, (0, (0, []))))).2.1 (x0.2.2.2.1.getD i (0, (0, (0, (0, []))))).2.2.1))))) = AV.p (.c (.v (.bool false)))), (AV.p (.c (.v (.bool (decide (((i : Nat) : Int) > 0))))) = AV.p (.c (.v (.bool false))))] gamOK hT mixed h (by kernel_rfl) ⟨(by exact (Sh.fit_getD hf0.2.2.2.1 i)), hint_bool (h5), (by exact (Sh.fit_getD hf0.2.2.2.1 i)), hint_bool (h7), (by exact hf0), hint_bool (h9), hint_bool (decide_eq_false h11), trivial⟩ fun a w h => then_normal ?_
         refine at_test false h (by kernel_rfl) (fun hh => nomatch hh) (fun hh => ?_)
         refine wp_skip (in_normal (then_normal ?_))
         refine at_regq [{ nw := true }] { ts := [1, 2, 34, 35, 36, 45, 46, 49, 50, 51, 52, 53, 54, 55, 56, 57, 60, 61, 62, 63, 64, 65, 66, 67, 68, 69, 70, 71, 72, 73], os := [1, 5] } [I64 (((i : Nat) : Int) + 1)] gamOK hT h (by kernel_rfl) ⟨⟨by first | omega | (simp only [lsA]; omega) | (simp <;> omega), by first | omega | (simp only [lsA]; omega) | (simp <;> omega)⟩, trivial⟩ fun a w h => ?_
         replace h := at_out (σ' := ⟨[(1, aP 1 0), (2, aB false), (34, aF s69 x0.2.2.2.1), (35, aI ((List.length x0.2.2.2.1 : Nat) : Int)), (36, aI (((i : Nat) : Int) + 1))], [(1, oX 34 [cI x0.1, cI x0.2.1, .ro (.int 3) x0.2.2.1, .ro s69 x0.2.2.2.1, .ro s64 x0.2.2.2.2.1, cI x0.2.2.2.2.2])]⟩) { ts := [1, 2, 34, 35, 36], os := [1] } h (by kernel_rfl)
         exact ⟨i + 1, at_eq h (st_congr1 (fun (d0 : Int) => (⟨[(1, aP 1 0), (2, aB false), (34, aF s69 x0.2.2.2.1), (35, aI ((List.length x0.2.2.2.1 : Nat) : Int)), (36, aI d0)], [(1, oX 34 [cI x0.1, cI x0.2.1, .ro (.int 3) x0.2.2.1, .ro s69 x0.2.2.2.1, .ro s64 x0.2.2.2.2.1, cI x0.2.2.2.2.2])]⟩ : St)) (show (((i : Nat) : Int) + 1 : Int) = (((i + 1) : Nat) : Int) from by first | with_reducible rfl | (omega) | rfl)), (by exact ⟨by omega, allN_succ hok0.2 (by exact decB_t (by assumption) (by assumption) (by assumption) (by omega))⟩), (by omega)⟩
    ·replace h4 : ¬ (((i : Nat) : Int) < ((List.length x0.2.2.2.1 : Nat) : Int)) := of_decide_eq_false h4
     refine wp_exit (then_exit ?_)
     have hs14 : (allN (decB x0) (List.length x0.2.2.2.1)) = true := by exact allN_eq (by omega) hok0.1 hok0.2
     refine then_exit (in_hit (then_normal (wp_seq (wp_seq ?_))))
     refine at_regq [] { ts := [1, 2, 77, 78, 79], os := [1] } [] gamOK hT h (by kernel_rfl) trivial fun a w h => then_normal (wp_block ?_)
     replace h := at_out (σ' := ⟨[(1, aP 1 0), (2, aB false), (77, aF s64 x0.2.2.2.2.1), (78, aI ((List.length x0.2.2.2.2.1 : Nat) : Int)), (79, aI 0)], [(1, oX 34 [cI x0.1, cI x0.2.1, .ro (.int 3) x0.2.2.1, .ro s69 x0.2.2.2.1, .ro s64 x0.2.2.2.2.1, cI x0.2.2.2.2.2])]⟩) { ts := [1, 2, 77, 78, 79], os := [1] } h (by kernel_rfl)
     refine at_loop (fun i : Nat => (⟨[(1, aP 1 0), (2, aB false), (77, aF s64 x0.2.2.2.2.1), (78, aI ((List.length x0.2.2.2.2.1 : Nat) : Int)), (79, aI ((i : Nat) : Int))], [(1, oX 34 [cI x0.1, cI x0.2.1, .ro (.int 3) x0.2.2.1, .ro s69 x0.2.2.2.1, .ro s64 x0.2.2.2.2.1, cI x0.2.2.2.2.2])]⟩ : St)) (fun i => (i ≤ (List.length x0.2.2.2.2.1) ∧ allN (fun j => genB x0 j && opnB x0 j) i = true)) (fun i => (List.length x0.2.2.2.2.1) - i) (0) h (st_congr1 (fun (d0 : Int) => (⟨[(1, aP 1 0), (2, aB false), (77, aF s64 x0.2.2.2.2.1), (78, aI ((List.length x0.2.2.2.2.1 : Nat) : Int)), (79, aI d0)], [(1, oX 34 [cI x0.1, cI x0.2.1, .ro (.int 3) x0.2.2.1, .ro s69 x0.2.2.2.1, .ro s64 x0.2.2.2.2.1, cI x0.2.2.2.2.2])]⟩ : St)) (show (0 : Int) = (((0) : Nat) : Int) from by first | with_reducible rfl | (rfl) | rfl)) (by exact ⟨Nat.zero_le _, rfl⟩) ?_
     intro i a w hok1 h
     refine wp_seq ?_
     refine at_regq [] { ts := [1, 2, 77, 78, 79, 80], os := [1] } [] gamOK hT h (by kernel_rfl) trivial fun a w h => then_normal (wp_seq ?_)
     refine at_test (decide (((i : Nat) : Int) < ((List.length x0.2.2.2.2.1 : Nat) : Int))) h (by kernel_rfl) (fun h15 => ?_) (fun h15 => ?_)
     ·replace h15 : ((i : Nat) : Int) < ((List.length x0.2.2.2.2.1 : Nat) : Int) := of_decide_eq_true h15
      refine wp_skip (then_normal (wp_seq (wp_block (wp_seq ?_))))
      refine at_regq [{}, {}, {}, { ids := [6] }] { ts := [1, 2, 5, 6, 77, 78, 79], os := [1, 6] } [(0 : Int) ≤ ((i : Nat) : Int) ∧ ((i : Nat) : Int) < ((List.length x0.2.2.2.2.1 : Nat) : Int)] gamOK hT h (by kernel_rfl) ⟨(by refine ⟨?_, ?_⟩ <;> (first | omega | (simp only [lsA]; omega) | (simp <;> omega))), trivial⟩ fun a w h => then_normal (wp_seq (wp_seq ?_))
      rcases Bool.eq_false_or_eq_true (!(validG (x0.2.2.2.2.1.getD i (0, [])))) with h16 | h16
      ·have hzh16 : (validG (x0.2.2.2.2.1.getD i (0, []))) = false := notT h16
       refine at_anyq [{}, {}, { hint := some (aB true) }, {}, {}, {}, {}, {}, {}, {}, {}, {}, {}, {}, {}, {}, {}, {}, {}, {}, {}, {}, {}, {}, {}, {}, {}, {}, {}, {}, {}] { ts := [1, 2, 6, 77, 78, 79, 88, 89, 90, 91, 92, 93, 94, 95, 96, 97, 100, 101, 102, 103, 104, 105, 106, 107, 108, 109, 110, 111, 112, 113, 114], os := [1, 6] } [Q_impl_IsValidGeneration (x0.2.2.2.2.1.getD i (0, [])), (AV.p (.c (.v (.bool (!(validG (x0.2.2.2.2.1.getD i (0, []))))))) = AV.p (.c (.v (.bool true))))] gamOK hT mixed h (by kernel_rfl) ⟨(by exact (Sh.fit_getD hf0.2.2.2.2.1 i)), hint_bool (h16), trivial⟩ fun a w h => then_normal ?_
       refine at_test true h (by kernel_rfl) (fun hh => ?_) (fun hh => nomatch hh)
       refine wp_seq ?_
       refine at_regq [] { ts := [1, 2, 6, 77, 78, 79, 88, 89, 90, 91, 92, 93, 94, 95, 96, 97, 100, 101, 102, 103, 104, 105, 106, 107, 108, 109, 110, 111, 112, 113], os := [1, 6] } [] gamOK hT h (by kernel_rfl) trivial fun a w h => then_normal (wp_ret (then_ret (in_ret (then_ret ?_))))
       have hs17 : (allN (fun j => genB x0 j && opnB x0 j) (List.length x0.2.2.2.2.1)) = false := by exact allN_at (i := i) (by omega) (by exact and_f (by first | (left; exact genB_f (by first | (left; assumption) | (right; left; assumption) | (right; right; omega))) | (right; exact opnB_f (by assumption))))
       refine then_ret (in_ret (then_ret ?_))
       exact at_return (false, ()) [] h (by kernel_rfl) trivial (congrArg (fun z => (z, ())) (show (false) = validS x0 from by (first | (rw [← validS_impl (by assumption) (headS_y (by assumption) (by omega) (by assumption))]; symm; assumption) | exact validS_no (by first | (right; left; assumption) | (left; exact headS_n (by first | (left; assumption) | (right; left; omega) | (right; right; assumption)))))))
      ·have hzh16 : (validG (x0.2.2.2.2.1.getD i (0, []))) = true := notF h16
       have hvh16 := validG_t (notF h16)
       rcases Bool.eq_false_or_eq_true (!(fitsS x0 (x0.2.2.2.2.1.getD i (0, [])).1 ((List.length (x0.2.2.2.2.1.getD i (0, [])).2 : Nat) : Int) (colsOf (x0.2.2.2.2.1.getD i (0, [])).2))) with h18 | h18
       ·have hzh18 : (fitsS x0 (x0.2.2.2.2.1.getD i (0, [])).1 ((List.length (x0.2.2.2.2.1.getD i (0, [])).2 : Nat) : Int) (colsOf (x0.2.2.2.2.1.getD i (0, [])).2)) = false := notT h18
        refine at_anyq [{}, {}, { hint := some (aB false) }, {}, {}, {}, {}, {}, {}, {}, {}, {}, {}, { hint := some (aB true) }, {}, {}, {}, {}, {}, {}, {}, {}, {}, {}, {}, {}, {}, {}, {}, {}, {}] { ts := [1, 2, 6, 77, 78, 79, 88, 89, 90, 91, 92, 93, 94, 95, 96, 97, 100, 101, 102, 103, 104, 105, 106, 107, 108, 109, 110, 111, 112, 113, 114], os := [1, 6] } [Q_impl_IsValidGeneration (x0.2.2.2.2.1.getD i (0, [])), (AV.p (.c (.v (.bool (!(validG (x0.2.2.2.2.1.getD i (0, []))))))) = AV.p (.c (.v (.bool false)))), Q_impl_SymbolWidth (x0.2.2.2.2.1.getD i (0, [])), Q__impl_Sink_fits x0 (x0.2.2.2.2.1.getD i (0, [])).1 ((List.length (x0.2.2.2.2.1.getD i (0, [])).2 : Nat) : Int) (colsOf (x0.2.2.2.2.1.getD i (0, [])).2), (AV.p (.c (.v (.bool (!(fitsS x0 (x0.2.2.2.2.1.getD i (0, [])).1 ((List.length (x0.2.2.2.2.1.getD i (0, [])).2 : Nat) : Int) (colsOf (x0.2.2.2.2.1.getD i (0, [])).2)))))) = AV.p (.c (.v (.bool true))))] gamOK hT mixed h (by kernel_rfl) ⟨(by exact (Sh.fit_getD hf0.2.2.2.2.1 i)), hint_bool (h16), (by exact (Sh.fit_getD hf0.2.2.2.2.1 i)), (by exact hf0), hint_bool (h18), trivial⟩ fun a w h => then_normal ?_
        refine at_test true h (by kernel_rfl) (fun hh => ?_) (fun hh => nomatch hh)
        refine wp_seq ?_
        refine at_regq [] { ts := [1, 2, 6, 77, 78, 79, 88, 89, 90, 91, 92, 93, 94, 95, 96, 97, 100, 101, 102, 103, 104, 105, 106, 107, 108, 109, 110, 111, 112, 113], os := [1, 6] } [] gamOK hT h (by kernel_rfl) trivial fun a w h => then_normal (wp_ret (then_ret (in_ret (then_ret ?_))))
        have hs19 : (allN (fun j => genB x0 j && opnB x0 j) (List.length x0.2.2.2.2.1)) = false := by exact allN_at (i := i) (by omega) (by exact and_f (by first | (left; exact genB_f (by first | (left; assumption) | (right; left; assumption) | (right; right; omega))) | (right; exact opnB_f (by assumption))))
        refine then_ret (in_ret (then_ret ?_))
        exact at_return (false, ()) [] h (by kernel_rfl) trivial (congrArg (fun z => (z, ())) (show (false) = validS x0 from by (first | (rw [← validS_impl (by assumption) (headS_y (by assumption) (by omega) (by assumption))]; symm; assumption) | exact validS_no (by first | (right; left; assumption) | (left; exact headS_n (by first | (left; assumption) | (right; left; omega) | (right; right; assumption)))))))
       ·have hzh18 : (fitsS x0 (x0.2.2.2.2.1.getD i (0, [])).1 ((List.length (x0.2.2.2.2.1.getD i (0, [])).2 : Nat) : Int) (colsOf (x0.2.2.2.2.1.getD i (0, [])).2)) = true := notF h18
        by_cases h20 : ((i : Nat) : Int) > 0
        ·refine at_anyq [{}, {}, { hint := some (aB false) }, {}, {}, {}, {}, {}, {}, {}, {}, {}, {}, { hint := some (aB false) }, {}, {}, {}, { hint := some (aB true) }, {}, {}, {}, {}, {}, {}, { nw := true }, {}, {}, {}, {}, {}, {}] { ts := [1, 2, 6, 77, 78, 79, 88, 89, 90, 91, 92, 93, 94, 95, 96, 97, 100, 101, 102, 103, 104, 105, 106, 107, 108, 109, 110, 111, 112, 113, 114], os := [1, 6] } [Q_impl_IsValidGeneration (x0.2.2.2.2.1.getD i (0, [])), (AV.p (.c (.v (.bool (!(validG (x0.2.2.2.2.1.getD i (0, []))))))) = AV.p (.c (.v (.bool false)))), Q_impl_SymbolWidth (x0.2.2.2.2.1.getD i (0, [])), Q__impl_Sink_fits x0 (x0.2.2.2.2.1.getD i (0, [])).1 ((List.length (x0.2.2.2.2.1.getD i (0, [])).2 : Nat) : Int) (colsOf (x0.2.2.2.2.1.getD i (0, [])).2), (AV.p (.c (.v (.bool (!(fitsS x0 (x0.2.2.2.2.1.getD i (0, [])).1 ((List.length (x0.2.2.2.2.1.getD i (0, [])).2 : Nat) : Int) (colsOf (x0.2.2.2.2.1.getD i (0, [])).2)))))) = AV.p (.c (.v (.bool false)))), (AV.p (.c (.v (.bool (decide (((i : Nat) : Int) > 0))))) = AV.p (.c (.v (.bool true)))), I64 (((i : Nat) : Int) - 1), (0 : Int) ≤ ((i : Nat) : Int) - 1 ∧ ((i : Nat) : Int) - 1 < ((List.length x0.2.2.2.2.1 : Nat) : Int)] gamOK hT mixed h (by kernel_rfl) ⟨(by exact (Sh.fit_getD hf0.2.2.2.2.1 i)), hint_bool (h16), (by exact (Sh.fit_getD hf0.2.2.2.2.1 i)), (by exact hf0), hint_bool (h18), hint_bool (decide_eq_true h20), ⟨by first | omega | (simp only [lsA]; omega) | (simp <;> omega), by first | omega | (simp only [lsA]; omega) | (simp <;> omega)⟩, (by refine ⟨?_, ?_⟩ <;> (first | omega | (simp only [lsA]; omega) | (simp <;> omega))), trivial⟩ fun a w h => then_normal ?_
         refine at_test (decide ((x0.2.2.2.2.1.getD i (0, [])).1 ≤ (x0.2.2.2.2.1.getD ((((i : Nat) : Int) - 1).toNat) (0, [])).1)) h (by kernel_rfl) (fun h21 => ?_) (fun h21 => ?_)
         ·replace h21 : (x0.2.2.2.2.1.getD i (0, [])).1 ≤ (x0.2.2.2.2.1.getD ((((i : Nat) : Int) - 1).toNat) (0, [])).1 := of_decide_eq_true h21
          refine wp_seq ?_
          refine at_regq [] { ts := [1, 2, 6, 77, 78, 79, 88, 89, 90, 91, 92, 93, 94, 95, 96, 97, 100, 101, 102, 103, 104, 105, 106, 107, 108, 109, 110, 111, 112, 113], os := [1, 6] } [] gamOK hT h (by kernel_rfl) trivial fun a w h => then_normal (wp_ret (then_ret (in_ret (then_ret ?_))))
          have hs22 : (allN (fun j => genB x0 j && opnB x0 j) (List.length x0.2.2.2.2.1)) = false := by exact allN_at (i := i) (by omega) (by exact and_f (by first | (left; exact genB_f (by first | (left; assumption) | (right; left; assumption) | (right; right; omega))) | (right; exact opnB_f (by assumption))))
          refine then_ret (in_ret (then_ret ?_))
          exact at_return (false, ()) [] h (by kernel_rfl) trivial (congrArg (fun z => (z, ())) (show (false) = validS x0 from by (first | (rw [← validS_impl (by assumption) (headS_y (by assumption) (by omega) (by assumption))]; symm; assumption) | exact validS_no (by first | (right; left; assumption) | (left; exact headS_n (by first | (left; assumption) | (right; left; omega) | (right; right; assumption)))))))
         ·replace h21 : ¬ ((x0.2.2.2.2.1.getD i (0, [])).1 ≤ (x0.2.2.2.2.1.getD ((((i : Nat) : Int) - 1).toNat) (0, [])).1) := of_decide_eq_false h21
          refine wp_skip (then_normal (wp_seq ?_))
          refine at_regq [] { ts := [1, 2, 8, 77, 78, 79, 88, 89, 90, 91, 92, 93, 94, 95, 96, 97, 100, 101, 102, 103, 104, 105, 106, 107, 108, 109, 110, 111, 112, 113], os := [1, 6] } [Q__impl_Sink_decoderAt x0 (x0.2.2.2.2.1.getD i (0, [])).1] gamOK hT h (by kernel_rfl) ⟨(by exact hf0), trivial⟩ fun a w h => then_normal (wp_seq ?_)
          refine at_regq [] { ts := [1, 2, 77, 78, 79, 88, 89, 90, 91, 92, 93, 94, 95, 96, 97, 100, 101, 102, 103, 104, 105, 106, 107, 108, 109, 110, 111, 112, 113, 122], os := [1, 6] } [] gamOK hT h (by kernel_rfl) trivial fun a w h => then_normal ?_
          refine at_test ((D__impl_Sink_decoderAt x0 (x0.2.2.2.2.1.getD i (0, [])).1).2) h (by kernel_rfl) (fun h23 => ?_) (fun h23 => ?_)
          ·refine wp_seq ?_
           refine at_regq [] { ts := [1, 2, 77, 78, 79, 88, 89, 90, 91, 92, 93, 94, 95, 96, 97, 100, 101, 102, 103, 104, 105, 106, 107, 108, 109, 110, 111, 112, 113], os := [1, 6] } [] gamOK hT h (by kernel_rfl) trivial fun a w h => then_normal (wp_ret (in_ret (then_ret ?_)))
           have hs24 : (allN (fun j => genB x0 j && opnB x0 j) (List.length x0.2.2.2.2.1)) = false := by exact allN_at (i := i) (by omega) (by exact and_f (by first | (left; exact genB_f (by first | (left; assumption) | (right; left; assumption) | (right; right; omega))) | (right; exact opnB_f (by assumption))))
           refine then_ret (in_ret (then_ret ?_))
           exact at_return (false, ()) [] h (by kernel_rfl) trivial (congrArg (fun z => (z, ())) (show (false) = validS x0 from by (first | (rw [← validS_impl (by assumption) (headS_y (by assumption) (by omega) (by assumption))]; symm; assumption) | exact validS_no (by first | (right; left; assumption) | (left; exact headS_n (by first | (left; assumption) | (right; left; omega) | (right; right; assumption)))))))
          ·refine wp_skip (in_normal (then_normal ?_))
           refine at_regq [{ nw := true }] { ts := [1, 2, 77, 78, 79, 88, 89, 90, 91, 92, 93, 94, 95, 96, 97, 100, 101, 102, 103, 104, 105, 106, 107, 108, 109, 110, 111, 112, 113], os := [1, 6] } [I64 (((i : Nat) : Int) + 1)] gamOK hT h (by kernel_rfl) ⟨⟨by first | omega | (simp only [lsA]; omega) | (simp <;> omega), by first | omega | (simp only [lsA]; omega) | (simp <;> omega)⟩, trivial⟩ fun a w h => ?_
           replace h := at_out (σ' := ⟨[(1, aP 1 0), (2, aB false), (77, aF s64 x0.2.2.2.2.1), (78, aI ((List.length x0.2.2.2.2.1 : Nat) : Int)), (79, aI (((i : Nat) : Int) + 1))], [(1, oX 34 [cI x0.1, cI x0.2.1, .ro (.int 3) x0.2.2.1, .ro s69 x0.2.2.2.1, .ro s64 x0.2.2.2.2.1, cI x0.2.2.2.2.2])]⟩) { ts := [1, 2, 77, 78, 79], os := [1] } h (by kernel_rfl)
           exact ⟨i + 1, at_eq h (st_congr1 (fun (d0 : Int) => (⟨[(1, aP 1 0), (2, aB false), (77, aF s64 x0.2.2.2.2.1), (78, aI ((List.length x0.2.2.2.2.1 : Nat) : Int)), (79, aI d0)], [(1, oX 34 [cI x0.1, cI x0.2.1, .ro (.int 3) x0.2.2.1, .ro s69 x0.2.2.2.1, .ro s64 x0.2.2.2.2.1, cI x0.2.2.2.2.2])]⟩ : St)) (show (((i : Nat) : Int) + 1 : Int) = (((i + 1) : Nat) : Int) from by first | with_reducible rfl | (omega) | rfl)), (by exact ⟨by omega, allN_succ hok1.2 (by exact and_t (genB_t (by assumption) (by assumption) (by omega)) (opnB_t (by assumption)))⟩), (by omega)⟩
        ·refine at_anyq [{}, {}, { hint := some (aB false) }, {}, {}, {}, {}, {}, {}, {}, {}, {}, {}, { hint := some (aB false) }, {}, {}, {}, { hint := some (aB false) }, {}, {}, {}, {}, {}, {}, {}, {}, {}, {}, {}, {}, {}] { ts := [1, 2, 6, 77, 78, 79, 88, 89, 90, 91, 92, 93, 94, 95, 96, 97, 100, 101, 102, 103, 104, 105, 106, 107, 108, 109, 110, 111, 112, 113, 114], os := [1, 6] } [Q_impl_IsValidGeneration (x0.2.2.2.2.1.getD i (0, [])), (AV.p (.c (.v (.bool (!(validG (x0.2.2.2.2.1.getD i (0, []))))))) = AV.p (.c (.v (.bool false)))), Q_impl_SymbolWidth (x0.2.2.2.2.1.getD i (0, [])), Q__impl_Sink_fits x0 (x0.2.2.2.2.1.getD i (0, [])).1 ((List.length (x0.2.2.2.2.1.getD i (0, [])).2 : Nat) : Int) (colsOf (x0.2.2.2.2.1.getD i (0, [])).2), (AV.p (.c (.v (.bool (!(fitsS x0 (x0.2.2.2.2.1.getD i (0, [])).1 ((List.length (x0.2.2.2.2.1.getD i (0, [])).2 : Nat) : Int) (colsOf (x0.2.2.2.2.1.getD i (0, [])).2)))))) = AV.p (.c (.v (.bool false)))), (AV.p (.c (.v (.bool (decide (((i : Nat) : Int) > 0))))) = AV.p (.c (.v (.bool false))))] gamOK hT mixed h (by kernel_rfl) ⟨(by exact (Sh.fit_getD hf0.2.2.2.2.1 i)), hint_bool (h16), (by exact (Sh.fit_getD hf0.2.2.2.2.1 i)), (by exact hf0), hint_bool (h18), hint_bool (decide_eq_false h20), trivial⟩ fun a w h => then_normal ?_
         refine at_test false h (by kernel_rfl) (fun hh => nomatch hh) (fun hh => ?_)
         refine wp_skip (then_normal (wp_seq ?_))
         refine at_regq [] { ts := [1, 2, 8, 77, 78, 79, 88, 89, 90, 91, 92, 93, 94, 95, 96, 97, 100, 101, 102, 103, 104, 105, 106, 107, 108, 109, 110, 111, 112, 113], os := [1, 6] } [Q__impl_Sink_decoderAt x0 (x0.2.2.2.2.1.getD i (0, [])).1] gamOK hT h (by kernel_rfl) ⟨(by exact hf0), trivial⟩ fun a w h => then_normal (wp_seq ?_)
         refine at_regq [] { ts := [1, 2, 77, 78, 79, 88, 89, 90, 91, 92, 93, 94, 95, 96, 97, 100, 101, 102, 103, 104, 105, 106, 107, 108, 109, 110, 111, 112, 113, 122], os := [1, 6] } [] gamOK hT h (by kernel_rfl) trivial fun a w h => then_normal ?_
         refine at_test ((D__impl_Sink_decoderAt x0 (x0.2.2.2.2.1.getD i (0, [])).1).2) h (by kernel_rfl) (fun h25 => ?_) (fun h25 => ?_)
         ·refine wp_seq ?_
          refine at_regq [] { ts := [1, 2, 77, 78, 79, 88, 89, 90, 91, 92, 93, 94, 95, 96, 97, 100, 101, 102, 103, 104, 105, 106, 107, 108, 109, 110, 111, 112, 113], os := [1, 6] } [] gamOK hT h (by kernel_rfl) trivial fun a w h => then_normal (wp_ret (in_ret (then_ret ?_)))
          have hs26 : (allN (fun j => genB x0 j && opnB x0 j) (List.length x0.2.2.2.2.1)) = false := by exact allN_at (i := i) (by omega) (by exact and_f (by first | (left; exact genB_f (by first | (left; assumption) | (right; left; assumption) | (right; right; omega))) | (right; exact opnB_f (by assumption))))
          refine then_ret (in_ret (then_ret ?_))
          exact at_return (false, ()) [] h (by kernel_rfl) trivial (congrArg (fun z => (z, ())) (show (false) = validS x0 from by (first | (rw [← validS_impl (by assumption) (headS_y (by assumption) (by omega) (by assumption))]; symm; assumption) | exact validS_no (by first | (right; left; assumption) | (left; exact headS_n (by first | (left; assumption) | (right; left; omega) | (right; right; assumption)))))))
         ·refine wp_skip (in_normal (then_normal ?_))
          refine at_regq [{ nw := true }] { ts := [1, 2, 77, 78, 79, 88, 89, 90, 91, 92, 93, 94, 95, 96, 97, 100, 101, 102, 103, 104, 105, 106, 107, 108, 109, 110, 111, 112, 113], os := [1, 6] } [I64 (((i : Nat) : Int) + 1)] gamOK hT h (by kernel_rfl) ⟨⟨by first | omega | (simp only [lsA]; omega) | (simp <;> omega), by first | omega | (simp only [lsA]; omega) | (simp <;> omega)⟩, trivial⟩ fun a w h => ?_
          replace h := at_out (σ' := ⟨[(1, aP 1 0), (2, aB false), (77, aF s64 x0.2.2.2.2.1), (78, aI ((List.length x0.2.2.2.2.1 : Nat) : Int)), (79, aI (((i : Nat) : Int) + 1))], [(1, oX 34 [cI x0.1, cI x0.2.1, .ro (.int 3) x0.2.2.1, .ro s69 x0.2.2.2.1, .ro s64 x0.2.2.2.2.1, cI x0.2.2.2.2.2])]⟩) { ts := [1, 2, 77, 78, 79], os := [1] } h (by kernel_rfl)
          exact ⟨i + 1, at_eq h (st_congr1 (fun (d0 : Int) => (⟨[(1, aP 1 0), (2, aB false), (77, aF s64 x0.2.2.2.2.1), (78, aI ((List.length x0.2.2.2.2.1 : Nat) : Int)), (79, aI d0)], [(1, oX 34 [cI x0.1, cI x0.2.1, .ro (.int 3) x0.2.2.1, .ro s69 x0.2.2.2.1, .ro s64 x0.2.2.2.2.1, cI x0.2.2.2.2.2])]⟩ : St)) (show (((i : Nat) : Int) + 1 : Int) = (((i + 1) : Nat) : Int) from by first | with_reducible rfl | (omega) | rfl)), (by exact ⟨by omega, allN_succ hok1.2 (by exact and_t (genB_t (by assumption) (by assumption) (by omega)) (opnB_t (by assumption)))⟩), (by omega)⟩
     ·replace h15 : ¬ (((i : Nat) : Int) < ((List.length x0.2.2.2.2.1 : Nat) : Int)) := of_decide_eq_false h15
      refine wp_exit (then_exit ?_)
      have hs27 : (allN (fun j => genB x0 j && opnB x0 j) (List.length x0.2.2.2.2.1)) = true := by exact allN_eq (by omega) hok1.1 hok1.2
      refine then_exit (in_hit (then_normal (wp_seq ?_)))
      refine at_regq [] { ts := [2], os := [] } [] gamOK hT h (by kernel_rfl) trivial fun a w h => then_normal (wp_ret ?_)
      exact at_return (true, ()) [] h (by kernel_rfl) trivial (congrArg (fun z => (z, ())) (show (true) = validS x0 from by (first | (rw [← validS_impl (by assumption) (headS_y (by assumption) (by omega) (by assumption))]; symm; assumption) | exact validS_no (by first | (right; left; assumption) | (left; exact headS_n (by first | (left; assumption) | (right; left; omega) | (right; right; assumption)))))))

abbrev Q_spec_IsValidSink := (fun (x0 : T34) => Sh.fit s34 x0)
def S_spec_IsValidSink : Sum := { fid := 31, dom := [s34], cod := [(.bool 4)], dp := true, fz := false, pre := fun x => Q_spec_IsValidSink x.1, g := fun x => ((validS x.1), ()) }
def S_spec_IsValidSink_tab : List (Nat × Sum) := [(45, S_spec_l1In), (46, S_spec_l30Sizes), (47, S_spec_IsValidDecoder), (48, S_spec_IsComplete), (49, S_spec_l30Fits), (50, S_spec_l30Done), (32, S_spec_IsValidGeneration), (51, S_spec_ColumnsOf)]
theorem S_spec_IsValidSink_ok : FnOK Tryz.prog 31 S_spec_IsValidSink := by
 refine at_enter 134 (fun x => ⟨[(0, aG [cI x.1.1, cI x.1.2.1, .ro (.int 3) x.1.2.2.1, .ro s69 x.1.2.2.2.1, .ro s64 x.1.2.2.2.2.1, cI x.1.2.2.2.2.2])], []⟩) Tryz.func31 rfl (by kernel_rfl) (fun x => rfl) ?_
 rintro w0 Z0 ⟨x0, u⟩ a w
 revert x0
 intro (x0 : T34) hpre hlens h
 replace hpre : Q_spec_IsValidSink x0 := hpre
 have hT : TabOK Tryz.prog S_spec_IsValidSink_tab := (.cons S_spec_l1In_ok (.cons S_spec_l30Sizes_ok (.cons S_spec_IsValidDecoder_ok (.cons S_spec_IsComplete_ok (.cons S_spec_l30Fits_ok (.cons S_spec_l30Done_ok (.cons S_spec_IsValidGeneration_ok (.cons S_spec_ColumnsOf_ok .nil))))))))
 have hf0 : Sh.fit s34 x0 := hpre
 have hn0_1 : List.length x0.2.2.1 ≤ 1073741824 := hf0.2.2.1.1
 have hn0_2 : List.length x0.2.2.2.1 ≤ 1073741824 := hf0.2.2.2.1.1
 have hn0_3 : List.length x0.2.2.2.2.1 ≤ 1073741824 := hf0.2.2.2.2.1.1
 refine wp_seq ?_
 refine at_regq [{ ids := [1] }] { ts := [1, 2], os := [1] } [] gamOK hT h (by kernel_rfl) trivial fun a w h => then_normal (wp_seq (wp_seq ?_))
 rcases Bool.eq_false_or_eq_true (!(inR x0.1 0 7)) with h1 | h1
 ·have hzh1 : (inR x0.1 0 7) = false := notT h1
  have hvh1 := inR_f (notT h1)
  refine at_regq [{}, {}, {}, { hint := some (aB true) }] { ts := [1, 2, 37], os := [1] } [True, (AV.p (.c (.v (.bool (!(inR x0.1 0 7))))) = AV.p (.c (.v (.bool true))))] gamOK hT h (by kernel_rfl) ⟨trivial, hint_bool (h1), trivial⟩ fun a w h => then_normal ?_
  refine at_test true h (by kernel_rfl) (fun hh => ?_) (fun hh => nomatch hh)
  refine wp_seq ?_
  refine at_regq [] { ts := [1, 2], os := [1] } [] gamOK hT h (by kernel_rfl) trivial fun a w h => then_normal (wp_ret (then_ret ?_))
  exact at_return (false, ()) [] h (by kernel_rfl) trivial (congrArg (fun z => (z, ())) (show (false) = validS x0 from by (first | (rw [← validS_spec (by assumption) (headS_y2 (by assumption) (by assumption) (by assumption) (by omega) (by assumption))]; symm; assumption) | exact validS_no (by first | (right; right; assumption) | (left; exact headS_n2 (by first | (left; assumption) | (right; left; assumption) | (right; right; left; assumption) | (right; right; right; left; omega) | (right; right; right; right; assumption)))))))
 ·have hzh1 : (inR x0.1 0 7) = true := notF h1
  have hvh1 := inR_t (notF h1)
  rcases Bool.eq_false_or_eq_true (!(inR x0.2.1 1 16)) with h2 | h2
  ·have hzh2 : (inR x0.2.1 1 16) = false := notT h2
   have hvh2 := inR_f (notT h2)
   refine at_regq [{}, {}, {}, { hint := some (aB false) }, {}, {}, {}, {}, { hint := some (aB true) }] { ts := [1, 2, 37], os := [1] } [True, (AV.p (.c (.v (.bool (!(inR x0.1 0 7))))) = AV.p (.c (.v (.bool false)))), True, (AV.p (.c (.v (.bool (!(inR x0.2.1 1 16))))) = AV.p (.c (.v (.bool true))))] gamOK hT h (by kernel_rfl) ⟨trivial, hint_bool (h1), trivial, hint_bool (h2), trivial⟩ fun a w h => then_normal ?_
   refine at_test true h (by kernel_rfl) (fun hh => ?_) (fun hh => nomatch hh)
   refine wp_seq ?_
   refine at_regq [] { ts := [1, 2], os := [1] } [] gamOK hT h (by kernel_rfl) trivial fun a w h => then_normal (wp_ret (then_ret ?_))
   exact at_return (false, ()) [] h (by kernel_rfl) trivial (congrArg (fun z => (z, ())) (show (false) = validS x0 from by (first | (rw [← validS_spec (by assumption) (headS_y2 (by assumption) (by assumption) (by assumption) (by omega) (by assumption))]; symm; assumption) | exact validS_no (by first | (right; right; assumption) | (left; exact headS_n2 (by first | (left; assumption) | (right; left; assumption) | (right; right; left; assumption) | (right; right; right; left; omega) | (right; right; right; right; assumption)))))))
  ·have hzh2 : (inR x0.2.1 1 16) = true := notF h2
   have hvh2 := inR_t (notF h2)
   rcases Bool.eq_false_or_eq_true (!(D_spec_l30Sizes x0.2.2.1)) with h3 | h3
   ·have hzh3 : (D_spec_l30Sizes x0.2.2.1) = false := notT h3
    refine at_regq [{}, {}, {}, { hint := some (aB false) }, {}, {}, {}, {}, { hint := some (aB false) }, {}, {}, {}, {}, {}, { hint := some (aB true) }] { ts := [1, 2, 37], os := [1] } [True, (AV.p (.c (.v (.bool (!(inR x0.1 0 7))))) = AV.p (.c (.v (.bool false)))), True, (AV.p (.c (.v (.bool (!(inR x0.2.1 1 16))))) = AV.p (.c (.v (.bool false)))), True, (AV.p (.c (.v (.bool (!(D_spec_l30Sizes x0.2.2.1))))) = AV.p (.c (.v (.bool true))))] gamOK hT h (by kernel_rfl) ⟨trivial, hint_bool (h1), trivial, hint_bool (h2), trivial, hint_bool (h3), trivial⟩ fun a w h => then_normal ?_
    refine at_test true h (by kernel_rfl) (fun hh => ?_) (fun hh => nomatch hh)
    refine wp_seq ?_
    refine at_regq [] { ts := [1, 2], os := [1] } [] gamOK hT h (by kernel_rfl) trivial fun a w h => then_normal (wp_ret (then_ret ?_))
    exact at_return (false, ()) [] h (by kernel_rfl) trivial (congrArg (fun z => (z, ())) (show (false) = validS x0 from by (first | (rw [← validS_spec (by assumption) (headS_y2 (by assumption) (by assumption) (by assumption) (by omega) (by assumption))]; symm; assumption) | exact validS_no (by first | (right; right; assumption) | (left; exact headS_n2 (by first | (left; assumption) | (right; left; assumption) | (right; right; left; assumption) | (right; right; right; left; omega) | (right; right; right; right; assumption)))))))
   ·have hzh3 : (D_spec_l30Sizes x0.2.2.1) = true := notF h3
    by_cases h4 : ((List.length x0.2.2.2.1 : Nat) : Int) > 4
    ·refine at_regq [{}, {}, {}, { hint := some (aB false) }, {}, {}, {}, {}, { hint := some (aB false) }, {}, {}, {}, {}, {}, { hint := some (aB false) }, {}, {}, {}, {}, {}, { hint := some (aB true) }] { ts := [1, 2, 37], os := [1] } [True, (AV.p (.c (.v (.bool (!(inR x0.1 0 7))))) = AV.p (.c (.v (.bool false)))), True, (AV.p (.c (.v (.bool (!(inR x0.2.1 1 16))))) = AV.p (.c (.v (.bool false)))), True, (AV.p (.c (.v (.bool (!(D_spec_l30Sizes x0.2.2.1))))) = AV.p (.c (.v (.bool false)))), (AV.p (.c (.v (.bool (decide (((List.length x0.2.2.2.1 : Nat) : Int) > 4))))) = AV.p (.c (.v (.bool true))))] gamOK hT h (by kernel_rfl) ⟨trivial, hint_bool (h1), trivial, hint_bool (h2), trivial, hint_bool (h3), hint_bool (decide_eq_true h4), trivial⟩ fun a w h => then_normal ?_
     refine at_test true h (by kernel_rfl) (fun hh => ?_) (fun hh => nomatch hh)
     refine wp_seq ?_
     refine at_regq [] { ts := [1, 2], os := [1] } [] gamOK hT h (by kernel_rfl) trivial fun a w h => then_normal (wp_ret (then_ret ?_))
     exact at_return (false, ()) [] h (by kernel_rfl) trivial (congrArg (fun z => (z, ())) (show (false) = validS x0 from by (first | (rw [← validS_spec (by assumption) (headS_y2 (by assumption) (by assumption) (by assumption) (by omega) (by assumption))]; symm; assumption) | exact validS_no (by first | (right; right; assumption) | (left; exact headS_n2 (by first | (left; assumption) | (right; left; assumption) | (right; right; left; assumption) | (right; right; right; left; omega) | (right; right; right; right; assumption)))))))
    ·refine at_regq [{}, {}, {}, { hint := some (aB false) }, {}, {}, {}, {}, { hint := some (aB false) }, {}, {}, {}, {}, {}, { hint := some (aB false) }, {}, {}, {}, {}, {}, { hint := some (aB false) }] { ts := [1, 2, 37], os := [1] } [True, (AV.p (.c (.v (.bool (!(inR x0.1 0 7))))) = AV.p (.c (.v (.bool false)))), True, (AV.p (.c (.v (.bool (!(inR x0.2.1 1 16))))) = AV.p (.c (.v (.bool false)))), True, (AV.p (.c (.v (.bool (!(D_spec_l30Sizes x0.2.2.1))))) = AV.p (.c (.v (.bool false)))), (AV.p (.c (.v (.bool (decide (((List.length x0.2.2.2.1 : Nat) : Int) > 4))))) = AV.p (.c (.v (.bool false)))), True] gamOK hT h (by kernel_rfl) ⟨trivial, hint_bool (h1), trivial, hint_bool (h2), trivial, hint_bool (h3), hint_bool (decide_eq_false h4), trivial, trivial⟩ fun a w h => then_normal ?_
     refine at_test (!(inR x0.2.2.2.2.2 0 ((List.length x0.2.2.2.2.1 : Nat) : Int))) h (by kernel_rfl) (fun h5 => ?_) (fun h5 => ?_)
     ·replace h5 : (inR x0.2.2.2.2.2 0 ((List.length x0.2.2.2.2.1 : Nat) : Int)) = false := notT h5
      have hvh5 := inR_f h5
      refine wp_seq ?_
      refine at_regq [] { ts := [1, 2], os := [1] } [] gamOK hT h (by kernel_rfl) trivial fun a w h => then_normal (wp_ret (then_ret ?_))
      exact at_return (false, ()) [] h (by kernel_rfl) trivial (congrArg (fun z => (z, ())) (show (false) = validS x0 from by (first | (rw [← validS_spec (by assumption) (headS_y2 (by assumption) (by assumption) (by assumption) (by omega) (by assumption))]; symm; assumption) | exact validS_no (by first | (right; right; assumption) | (left; exact headS_n2 (by first | (left; assumption) | (right; left; assumption) | (right; right; left; assumption) | (right; right; right; left; omega) | (right; right; right; right; assumption)))))))
     ·replace h5 : (inR x0.2.2.2.2.2 0 ((List.length x0.2.2.2.2.1 : Nat) : Int)) = true := notF h5
      have hvh5 := inR_t h5
      refine wp_skip (then_normal (wp_seq (wp_seq ?_)))
      refine at_regq [] { ts := [1, 2, 3], os := [1] } [] gamOK hT h (by kernel_rfl) trivial fun a w h => then_normal (wp_block ?_)
      replace h := at_out (σ' := ⟨[(1, aP 1 0), (2, aB false), (3, aI 0)], [(1, oX 34 [cI x0.1, cI x0.2.1, .ro (.int 3) x0.2.2.1, .ro s69 x0.2.2.2.1, .ro s64 x0.2.2.2.2.1, cI x0.2.2.2.2.2])]⟩) { ts := [1, 2, 3], os := [1] } h (by kernel_rfl)
      refine at_loop (fun i : Nat => (⟨[(1, aP 1 0), (2, aB false), (3, aI ((i : Nat) : Int))], [(1, oX 34 [cI x0.1, cI x0.2.1, .ro (.int 3) x0.2.2.1, .ro s69 x0.2.2.2.1, .ro s64 x0.2.2.2.2.1, cI x0.2.2.2.2.2])]⟩ : St)) (fun i => (i ≤ (List.length x0.2.2.2.1) ∧ allN (fun i => decB x0 i && clsB x0 i) i = true)) (fun i => (List.length x0.2.2.2.1) - i) (0) h (st_congr1 (fun (d0 : Int) => (⟨[(1, aP 1 0), (2, aB false), (3, aI d0)], [(1, oX 34 [cI x0.1, cI x0.2.1, .ro (.int 3) x0.2.2.1, .ro s69 x0.2.2.2.1, .ro s64 x0.2.2.2.2.1, cI x0.2.2.2.2.2])]⟩ : St)) (show (0 : Int) = (((0) : Nat) : Int) from by first | with_reducible rfl | (rfl) | rfl)) (by exact ⟨Nat.zero_le _, rfl⟩) ?_
      intro i a w hok0 h
      refine wp_seq (wp_seq ?_)
      refine at_regq [] { ts := [1, 2, 3, 42], os := [1] } [] gamOK hT h (by kernel_rfl) trivial fun a w h => then_normal ?_
      refine at_test (decide (((i : Nat) : Int) < ((List.length x0.2.2.2.1 : Nat) : Int))) h (by kernel_rfl) (fun h6 => ?_) (fun h6 => ?_)
      ·replace h6 : ((i : Nat) : Int) < ((List.length x0.2.2.2.1 : Nat) : Int) := of_decide_eq_true h6
       refine wp_skip (then_normal (wp_seq (wp_block (wp_seq ?_))))
       refine at_regq [{}, {}, {}, {}, {}, { ids := [2] }] { ts := [1, 2, 3, 4], os := [1, 2] } [(0 : Int) ≤ ((i : Nat) : Int) ∧ ((i : Nat) : Int) < ((List.length x0.2.2.2.1 : Nat) : Int)] gamOK hT h (by kernel_rfl) ⟨(by refine ⟨?_, ?_⟩ <;> (first | omega | (simp only [lsA]; omega) | (simp <;> omega))), trivial⟩ fun a w h => then_normal (wp_seq ?_)
       rcases Bool.eq_false_or_eq_true (!(validD (x0.2.2.2.1.getD i (0, (0, (0, (0, []))))))) with h7 | h7
       ·have hzh7 : (validD (x0.2.2.2.1.getD i (0, (0, (0, (0, [])))))) = false := notT h7
        refine at_anyq [{}, {}, { hint := some (aB true) }, {}, {}, {}, {}, {}, {}, {}, {}, {}, {}, {}, {}, {}, {}, {}, {}, {}, {}, {}, {}, {}, {}, {}, {}, {}, {}, {}, {}, {}, {}, {}, {}, {}, {}, {}, {}, {}] { ts := [1, 2, 3, 54, 55, 58, 59, 60, 61, 62, 63, 64, 65, 66, 69, 70, 71, 72, 73, 74, 75, 76, 77, 78, 79, 80, 81, 82, 85, 86, 87, 88, 89], os := [1] } [Q_spec_IsValidDecoder (x0.2.2.2.1.getD i (0, (0, (0, (0, []))))), (AV.p (.c (.v (.bool (!(validD (x0.2.2.2.1.getD i (0, (0, (0, (0, [])))))))))) = AV.p (.c (.v (.bool true))))] gamOK hT mixed h (by kernel_rfl) ⟨(by exact (Sh.fit_getD hf0.2.2.2.1 i)), hint_bool (h7), trivial⟩ fun a w h => then_normal ?_
        refine at_test true h (by kernel_rfl) (fun hh => ?_) (fun hh => nomatch hh)
        refine wp_seq ?_
        refine at_regq [] { ts := [1, 2, 3, 54, 55, 58, 59, 60, 61, 62, 63, 64, 65, 66, 69, 70, 71, 72, 73, 74, 75, 76, 77, 78, 79, 80, 81, 82, 85, 86, 87, 88], os := [1] } [] gamOK hT h (by kernel_rfl) trivial fun a w h => then_normal (wp_ret (in_ret (then_ret ?_)))
        have hs8 : (allN (fun i => decB x0 i && clsB x0 i) (List.length x0.2.2.2.1)) = false := by exact allN_at (i := i) (by omega) (by exact and_f (by first | (left; exact decB_f (by first | (left; assumption) | (right; left; simp_all [D_spec_IsComplete]; done) | (right; right; left; assumption) | (right; right; right; omega))) | (right; simp_all [clsB, D_spec_l30Done]; done)))
        refine then_ret (in_ret (then_ret ?_))
        exact at_return (false, ()) [] h (by kernel_rfl) trivial (congrArg (fun z => (z, ())) (show (false) = validS x0 from by (first | (rw [← validS_spec (by assumption) (headS_y2 (by assumption) (by assumption) (by assumption) (by omega) (by assumption))]; symm; assumption) | exact validS_no (by first | (right; right; assumption) | (left; exact headS_n2 (by first | (left; assumption) | (right; left; assumption) | (right; right; left; assumption) | (right; right; right; left; omega) | (right; right; right; right; assumption)))))))
       ·have hzh7 : (validD (x0.2.2.2.1.getD i (0, (0, (0, (0, [])))))) = true := notF h7
        have hvh7 := validD_t (notF h7)
        rcases Bool.eq_false_or_eq_true ((D_spec_IsComplete (x0.2.2.2.1.getD i (0, (0, (0, (0, []))))))) with h9 | h9
        ·refine at_anyq [{}, {}, { hint := some (aB false) }, {}, {}, { hint := some (aB true) }, {}, {}, {}, {}, {}, {}, {}, {}, {}, {}, {}, {}, {}, {}, {}, {}, {}, {}, {}, {}, {}, {}, {}, {}, {}, {}, {}, {}, {}, {}, {}, {}, {}, {}] { ts := [1, 2, 3, 54, 55, 58, 59, 60, 61, 62, 63, 64, 65, 66, 69, 70, 71, 72, 73, 74, 75, 76, 77, 78, 79, 80, 81, 82, 85, 86, 87, 88, 89], os := [1] } [Q_spec_IsValidDecoder (x0.2.2.2.1.getD i (0, (0, (0, (0, []))))), (AV.p (.c (.v (.bool (!(validD (x0.2.2.2.1.getD i (0, (0, (0, (0, [])))))))))) = AV.p (.c (.v (.bool false)))), Q_spec_IsComplete (x0.2.2.2.1.getD i (0, (0, (0, (0, []))))), (AV.p (.c (.v (.bool ((D_spec_IsComplete (x0.2.2.2.1.getD i (0, (0, (0, (0, [])))))))))) = AV.p (.c (.v (.bool true))))] gamOK hT mixed h (by kernel_rfl) ⟨(by exact (Sh.fit_getD hf0.2.2.2.1 i)), hint_bool (h7), (by exact (Sh.fit_getD hf0.2.2.2.1 i)), hint_bool (h9), trivial⟩ fun a w h => then_normal ?_
         refine at_test true h (by kernel_rfl) (fun hh => ?_) (fun hh => nomatch hh)
         refine wp_seq ?_
         refine at_regq [] { ts := [1, 2, 3, 54, 55, 58, 59, 60, 61, 62, 63, 64, 65, 66, 69, 70, 71, 72, 73, 74, 75, 76, 77, 78, 79, 80, 81, 82, 85, 86, 87, 88], os := [1] } [] gamOK hT h (by kernel_rfl) trivial fun a w h => then_normal (wp_ret (in_ret (then_ret ?_)))
         have hs10 : (allN (fun i => decB x0 i && clsB x0 i) (List.length x0.2.2.2.1)) = false := by exact allN_at (i := i) (by omega) (by exact and_f (by first | (left; exact decB_f (by first | (left; assumption) | (right; left; simp_all [D_spec_IsComplete]; done) | (right; right; left; assumption) | (right; right; right; omega))) | (right; simp_all [clsB, D_spec_l30Done]; done)))
         refine then_ret (in_ret (then_ret ?_))
         exact at_return (false, ()) [] h (by kernel_rfl) trivial (congrArg (fun z => (z, ())) (show (false) = validS x0 from by (first | (rw [← validS_spec (by assumption) (headS_y2 (by assumption) (by assumption) (by assumption) (by omega) (by assumption))]; symm; assumption) | exact validS_no (by first | (right; right; assumption) | (left; exact headS_n2 (by first | (left; assumption) | (right; left; assumption) | (right; right; left; assumption) | (right; right; right; left; omega) | (right; right; right; right; assumption)))))))
        ·rcases Bool.eq_false_or_eq_true (!(fitsS x0 (x0.2.2.2.1.getD i (0, (0, (0, (0, []))))).1 (x0.2.2.2.1.getD i (0, (0, (0, (0, []))))).2.1 (x0.2.2.2.1.getD i (0, (0, (0, (0, []))))).2.2.1)) with h11 | h11
         ·have hzh11 : (fitsS x0 (x0.2.2.2.1.getD i (0, (0, (0, (0, []))))).1 (x0.2.2.2.1.getD i (0, (0, (0, (0, []))))).2.1 (x0.2.2.2.1.getD i (0, (0, (0, (0, []))))).2.2.1) = false := notT h11
          refine at_anyq [{}, {}, { hint := some (aB false) }, {}, {}, { hint := some (aB false) }, {}, {}, {}, {}, {}, {}, {}, {}, {}, {}, { hint := some (aB true) }, {}, {}, {}, {}, {}, {}, {}, {}, {}, {}, {}, {}, {}, {}, {}, {}, {}, {}, {}, {}, {}, {}, {}] { ts := [1, 2, 3, 54, 55, 58, 59, 60, 61, 62, 63, 64, 65, 66, 69, 70, 71, 72, 73, 74, 75, 76, 77, 78, 79, 80, 81, 82, 85, 86, 87, 88, 89], os := [1, 2] } [Q_spec_IsValidDecoder (x0.2.2.2.1.getD i (0, (0, (0, (0, []))))), (AV.p (.c (.v (.bool (!(validD (x0.2.2.2.1.getD i (0, (0, (0, (0, [])))))))))) = AV.p (.c (.v (.bool false)))), Q_spec_IsComplete (x0.2.2.2.1.getD i (0, (0, (0, (0, []))))), (AV.p (.c (.v (.bool ((D_spec_IsComplete (x0.2.2.2.1.getD i (0, (0, (0, (0, [])))))))))) = AV.p (.c (.v (.bool false)))), Q_spec_l30Fits x0 (x0.2.2.2.1.getD i (0, (0, (0, (0, []))))).1 (x0.2.2.2.1.getD i (0, (0, (0, (0, []))))).2.1 (x0.2.2.2.1.getD i (0, (0, (0, (0, []))))).2.2.1, (AV.p (.c (.v (.bool (!(fitsS x0 (x0.2.2.2.1.getD i (0, (0, (0, (0, []))))).1 (x0.2.2.2.1.getD i (0, (0, (0, (0, []))))).2.1 (x0.2.2.2.1.getD i (0, (0, (0, (0, []))))).2.2.1))))) = AV.p (.c (.v (.bool true))))] gamOK hT mixed h (by kernel_rfl) ⟨(by exact (Sh.fit_getD hf0.2.2.2.1 i)), hint_bool (h7), (by exact (Sh.fit_getD hf0.2.2.2.1 i)), hint_bool (h9), (by exact hf0), hint_bool (h11), trivial⟩ fun a w h => then_normal ?_
          refine at_test true h (by kernel_rfl) (fun hh => ?_) (fun hh => nomatch hh)
          refine wp_seq ?_
          refine at_regq [] { ts := [1, 2, 3, 54, 55, 58, 59, 60, 61, 62, 63, 64, 65, 66, 69, 70, 71, 72, 73, 74, 75, 76, 77, 78, 79, 80, 81, 82, 85, 86, 87, 88], os := [1, 2] } [] gamOK hT h (by kernel_rfl) trivial fun a w h => then_normal (wp_ret (in_ret (then_ret ?_)))
          have hs12 : (allN (fun i => decB x0 i && clsB x0 i) (List.length x0.2.2.2.1)) = false := by exact allN_at (i := i) (by omega) (by exact and_f (by first | (left; exact decB_f (by first | (left; assumption) | (right; left; simp_all [D_spec_IsComplete]; done) | (right; right; left; assumption) | (right; right; right; omega))) | (right; simp_all [clsB, D_spec_l30Done]; done)))
          refine then_ret (in_ret (then_ret ?_))
          exact at_return (false, ()) [] h (by kernel_rfl) trivial (congrArg (fun z => (z, ())) (show (false) = validS x0 from by (first | (rw [← validS_spec (by assumption) (headS_y2 (by assumption) (by assumption) (by assumption) (by omega) (by assumption))]; symm; assumption) | exact validS_no (by first | (right; right; assumption) | (left; exact headS_n2 (by first | (left; assumption) | (right; left; assumption) | (right; right; left; assumption) | (right; right; right; left; omega) | (right; right; right; right; assumption)))))))
         ·have hzh11 : (fitsS x0 (x0.2.2.2.1.getD i (0, (0, (0, (0, []))))).1 (x0.2.2.2.1.getD i (0, (0, (0, (0, []))))).2.1 (x0.2.2.2.1.getD i (0, (0, (0, (0, []))))).2.2.1) = true := notF h11
          by_cases h13 : ((i : Nat) : Int) > 0
          ·by_cases h14 : (x0.2.2.2.1.getD ((((i : Nat) : Int) - 1).toNat) (0, (0, (0, (0, []))))).1 ≥ (x0.2.2.2.1.getD i (0, (0, (0, (0, []))))).1
           ·refine at_anyq [{}, {}, { hint := some (aB false) }, {}, {}, { hint := some (aB false) }, {}, {}, {}, {}, {}, {}, {}, {}, {}, {}, { hint := some (aB false) }, {}, {}, {}, { hint := some (aB true) }, {}, {}, {}, {}, { nw := true }, {}, {}, {}, {}, {}, { hint := some (aB true) }, {}, {}, {}, {}, {}, {}, {}, {}] { ts := [1, 2, 3, 54, 55, 58, 59, 60, 61, 62, 63, 64, 65, 66, 69, 70, 71, 72, 73, 74, 75, 76, 77, 78, 79, 80, 81, 82, 85, 86, 87, 88, 89], os := [1, 2] } [Q_spec_IsValidDecoder (x0.2.2.2.1.getD i (0, (0, (0, (0, []))))), (AV.p (.c (.v (.bool (!(validD (x0.2.2.2.1.getD i (0, (0, (0, (0, [])))))))))) = AV.p (.c (.v (.bool false)))), Q_spec_IsComplete (x0.2.2.2.1.getD i (0, (0, (0, (0, []))))), (AV.p (.c (.v (.bool ((D_spec_IsComplete (x0.2.2.2.1.getD i (0, (0, (0, (0, [])))))))))) = AV.p (.c (.v (.bool false)))), Q_spec_l30Fits x0 (x0.2.2.2.1.getD i (0, (0, (0, (0, []))))).1 (x0.2.2.2.1.getD i (0, (0, (0, (0, []))))).2.1 (x0.2.2.2.1.getD i (0, (0, (0, (0, []))))).2.2.1, (AV.p (.c (.v (.bool (!(fitsS x0 (x0.2.2.2.1.getD i (0, (0, (0, (0, []))))).1 (x0.2.2.2.1.getD i (0, (0, (0, (0, []))))).2.1 (x0.2.2.2.1.getD i (0, (0, (0, (0, []))))).2.2.1))))) = AV.p (.c (.v (.bool false)))), (AV.p (.c (.v (.bool (decide (((i : Nat) : Int) > 0))))) = AV.p (.c (.v (.bool true)))), I64 (((i : Nat) : Int) - 1), (0 : Int) ≤ ((i : Nat) : Int) - 1 ∧ ((i : Nat) : Int) - 1 < ((List.length x0.2.2.2.1 : Nat) : Int), (AV.p (.c (.v (.bool (decide ((x0.2.2.2.1.getD ((((i : Nat) : Int) - 1).toNat) (0, (0, (0, (0, []))))).1 ≥ (x0.2.2.2.1.getD i (0, (0, (0, (0, []))))).1))))) = AV.p (.c (.v (.bool true))))] gamOK hT mixed h (by kernel_rfl) ⟨(by exact (Sh.fit_getD hf0.2.2.2.1 i)), hint_bool (h7), (by exact (Sh.fit_getD hf0.2.2.2.1 i)), hint_bool (h9), (by exact hf0), hint_bool (h11), hint_bool (decide_eq_true h13), ⟨by first | omega | (simp only [lsA]; omega) | (simp <;> omega), by first | omega | (simp only [lsA]; omega) | (simp <;> omega)⟩, (by refine ⟨?_, ?_⟩ <;> (first | omega | (simp only [lsA]; omega) | (simp <;> omega))), hint_bool (decide_eq_true h14), trivial⟩ fun a w h => then_normal ?_
            refine at_test true h (by kernel_rfl) (fun hh => ?_) (fun hh => nomatch hh)
            refine wp_seq ?_
            refine at_regq [] { ts := [1, 2, 3, 54, 55, 58, 59, 60, 61, 62, 63, 64, 65, 66, 69, 70, 71, 72, 73, 74, 75, 76, 77, 78, 79, 80, 81, 82, 85, 86, 87, 88], os := [1, 2] } [] gamOK hT h (by kernel_rfl) trivial fun a w h => then_normal (wp_ret (in_ret (then_ret ?_)))
            have hs15 : (allN (fun i => decB x0 i && clsB x0 i) (List.length x0.2.2.2.1)) = false := by exact allN_at (i := i) (by omega) (by exact and_f (by first | (left; exact decB_f (by first | (left; assumption) | (right; left; simp_all [D_spec_IsComplete]; done) | (right; right; left; assumption) | (right; right; right; omega))) | (right; simp_all [clsB, D_spec_l30Done]; done)))
            refine then_ret (in_ret (then_ret ?_))
            exact at_return (false, ()) [] h (by kernel_rfl) trivial (congrArg (fun z => (z, ())) (show (false) = validS x0 from by (first | (rw [← validS_spec (by assumption) (headS_y2 (by assumption) (by assumption) (by assumption) (by omega) (by assumption))]; symm; assumption) | exact validS_no (by first | (right; right; assumption) | (left; exact headS_n2 (by first | (left; assumption) | (right; left; assumption) | (right; right; left; assumption) | (right; right; right; left; omega) | (right; right; right; right; assumption)))))))
           ·refine at_anyq [{}, {}, { hint := some (aB false) }, {}, {}, { hint := some (aB false) }, {}, {}, {}, {}, {}, {}, {}, {}, {}, {}, { hint := some (aB false) }, {}, {}, {}, { hint := some (aB true) }, {}, {}, {}, {}, { nw := true }, {}, {}, {}, {}, {}, { hint := some (aB false) }, {}, {}, {}, {}, {}, {}, {}, {}] { ts := [1, 2, 3, 54, 55, 58, 59, 60, 61, 62, 63, 64, 65, 66, 69, 70, 71, 72, 73, 74, 75, 76, 77, 78, 79, 80, 81, 82, 85, 86, 87, 88, 89], os := [1, 2] } [Q_spec_IsValidDecoder (x0.2.2.2.1.getD i (0, (0, (0, (0, []))))), (AV.p (.c (.v (.bool (!(validD (x0.2.2.2.1.getD i (0, (0, (0, (0, [])))))))))) = AV.p (.c (.v (.bool false)))), Q_spec_IsComplete (x0.2.2.2.1.getD i (0, (0, (0, (0, []))))), (AV.p (.c (.v (.bool ((D_spec_IsComplete (x0.2.2.2.1.getD i (0, (0, (0, (0, [])))))))))) = AV.p (.c (.v (.bool false)))), Q_spec_l30Fits x0 (x0.2.2.2.1.getD i (0, (0, (0, (0, []))))).1 (x0.2.2.2.1.getD i (0, (0, (0, (0, []))))).2.1 (x0.2.2.2.1.getD i (0, (0, (0, (0, []))))).2.2.1, (AV.p (.c (.v (.bool (!(fitsS x0 (x0.2.2.2.1.getD i (0, (0, (0, (0, []))))).1 (x0.2.2.2.1.getD i (0, (0, (0, (0, []))))).2.1 (x0.2.2.2.1.getD i (0, (0, (0, (0, []))))).2.2.1))))) = AV.p (.c (.v (.bool false)))), (AV.p (.c (.v (.bool (decide (((i : Nat) : Int) > 0))))) = AV.p (.c (.v (.bool true)))), I64 (((i : Nat) : Int) - 1), (0 : Int) ≤ ((i : Nat) : Int) - 1 ∧ ((i : Nat) : Int) - 1 < ((List.length x0.2.2.2.1 : Nat) : Int), (AV.p (.c (.v (.bool (decide ((x0.2.2.2.1.getD ((((i : Nat) : Int) - 1).toNat) (0, (0, (0, (0, []))))).1 ≥ (x0.2.2.2.1.getD i (0, (0, (0, (0, []))))).1))))) = AV.p (.c (.v (.bool false)))), Q_spec_l30Done x0 (x0.2.2.2.1.getD i (0, (0, (0, (0, []))))).1] gamOK hT mixed h (by kernel_rfl) ⟨(by exact (Sh.fit_getD hf0.2.2.2.1 i)), hint_bool (h7), (by exact (Sh.fit_getD hf0.2.2.2.1 i)), hint_bool (h9), (by exact hf0), hint_bool (h11), hint_bool (decide_eq_true h13), ⟨by first | omega | (simp only [lsA]; omega) | (simp <;> omega), by first | omega | (simp only [lsA]; omega) | (simp <;> omega)⟩, (by refine ⟨?_, ?_⟩ <;> (first | omega | (simp only [lsA]; omega) | (simp <;> omega))), hint_bool (decide_eq_false h14), (by exact hf0), trivial⟩ fun a w h => then_normal ?_
            refine at_test ((D_spec_l30Done x0 (x0.2.2.2.1.getD i (0, (0, (0, (0, []))))).1)) h (by kernel_rfl) (fun h16 => ?_) (fun h16 => ?_)
            ·refine wp_seq ?_
             refine at_regq [] { ts := [1, 2, 3, 54, 55, 58, 59, 60, 61, 62, 63, 64, 65, 66, 69, 70, 71, 72, 73, 74, 75, 76, 77, 78, 79, 80, 81, 82, 85, 86, 87, 88], os := [1, 2] } [] gamOK hT h (by kernel_rfl) trivial fun a w h => then_normal (wp_ret (in_ret (then_ret ?_)))
             have hs17 : (allN (fun i => decB x0 i && clsB x0 i) (List.length x0.2.2.2.1)) = false := by exact allN_at (i := i) (by omega) (by exact and_f (by first | (left; exact decB_f (by first | (left; assumption) | (right; left; simp_all [D_spec_IsComplete]; done) | (right; right; left; assumption) | (right; right; right; omega))) | (right; simp_all [clsB, D_spec_l30Done]; done)))
             refine then_ret (in_ret (then_ret ?_))
             exact at_return (false, ()) [] h (by kernel_rfl) trivial (congrArg (fun z => (z, ())) (show (false) = validS x0 from by (first | (rw [← validS_spec (by assumption) (headS_y2 (by assumption) (by assumption) (by assumption) (by omega) (by assumption))]; symm; assumption) | exact validS_no (by first | (right; right; assumption) | (left; exact headS_n2 (by first | (left; assumption) | (right; left; assumption) | (right; right; left; assumption) | (right; right; right; left; omega) | (right; right; right; right; assumption)))))))
            ·refine wp_skip (in_normal (then_normal ?_))
             refine at_regq [{}, { nw := true }] { ts := [1, 2, 3, 54, 55, 58, 59, 60, 61, 62, 63, 64, 65, 66, 69, 70, 71, 72, 73, 74, 75, 76, 77, 78, 79, 80, 81, 82, 85, 86, 87, 88], os := [1, 2] } [I64 (((i : Nat) : Int) + 1)] gamOK hT h (by kernel_rfl) ⟨⟨by first | omega | (simp only [lsA]; omega) | (simp <;> omega), by first | omega | (simp only [lsA]; omega) | (simp <;> omega)⟩, trivial⟩ fun a w h => ?_
             replace h := at_out (σ' := ⟨[(1, aP 1 0), (2, aB false), (3, aI (((i : Nat) : Int) + 1))], [(1, oX 34 [cI x0.1, cI x0.2.1, .ro (.int 3) x0.2.2.1, .ro s69 x0.2.2.2.1, .ro s64 x0.2.2.2.2.1, cI x0.2.2.2.2.2])]⟩) { ts := [1, 2, 3], os := [1] } h (by kernel_rfl)
             exact ⟨i + 1, at_eq h (st_congr1 (fun (d0 : Int) => (⟨[(1, aP 1 0), (2, aB false), (3, aI d0)], [(1, oX 34 [cI x0.1, cI x0.2.1, .ro (.int 3) x0.2.2.1, .ro s69 x0.2.2.2.1, .ro s64 x0.2.2.2.2.1, cI x0.2.2.2.2.2])]⟩ : St)) (show (((i : Nat) : Int) + 1 : Int) = (((i + 1) : Nat) : Int) from by first | with_reducible rfl | (omega) | rfl)), (by exact ⟨by omega, allN_succ hok0.2 (by exact and_t (decB_t (by assumption) (isC_f (by assumption) (by assumption)) (by assumption) (by omega)) (clsB_t (by assumption)))⟩), (by omega)⟩
          ·refine at_anyq [{}, {}, { hint := some (aB false) }, {}, {}, { hint := some (aB false) }, {}, {}, {}, {}, {}, {}, {}, {}, {}, {}, { hint := some (aB false) }, {}, {}, {}, { hint := some (aB false) }, {}, {}, {}, {}, {}, {}, {}, {}, {}, {}, {}, {}, {}, {}, {}, {}, {}, {}, {}] { ts := [1, 2, 3, 54, 55, 58, 59, 60, 61, 62, 63, 64, 65, 66, 69, 70, 71, 72, 73, 74, 75, 76, 77, 78, 79, 80, 81, 82, 85, 86, 87, 88, 89], os := [1, 2] } [Q_spec_IsValidDecoder (x0.2.2.2.1.getD i (0, (0, (0, (0, []))))), (AV.p (.c (.v (.bool (!(validD (x0.2.2.2.1.getD i (0, (0, (0, (0, [])))))))))) = AV.p (.c (.v (.bool false)))), Q_spec_IsComplete (x0.2.2.2.1.getD i (0, (0, (0, (0, []))))), (AV.p (.c (.v (.bool ((D_spec_IsComplete (x0.2.2.2.1.getD i (0, (0, (0, (0, [])))))))))) = AV.p (.c (.v (.bool false)))), Q_spec_l30Fits x0 (x0.2.2.2.1.getD i (0, (0, (0, (0, []))))).1 (x0.2.2.2.1.getD i (0, (0, (0, (0, []))))).2.1 (x0.2.2.2.1.getD i (0, (0, (0, (0, []))))).2.2.1, (AV.p (.c (.v (.bool (!(fitsS x0 (x0.2.2.2.1.getD i (0, (0, (0, (0, []))))).1 (x0.2.2.2.1.getD i (0, (0, (0, (0, []))))).2.1 (x0.2.2.2.1.getD i (0, (0, (0, (0, []))))).2.2.1))))) = AV.p (.c (.v (.bool false)))), (AV.p (.c (.v (.bool (decide (((i : Nat) : Int) > 0))))) = AV.p (.c (.v (.bool false)))), Q_spec_l30Done x0 (x0.2.2.2.1.getD i (0, (0, (0, (0, []))))).1] gamOK hT mixed h (by kernel_rfl) ⟨(by exact (Sh.fit_getD hf0.2.2.2.1 i)), hint_bool (h7), (by exact (Sh.fit_getD hf0.2.2.2.1 i)), hint_bool (h9), (by exact hf0), hint_bool (h11), hint_bool (decide_eq_false h13), (by exact hf0), trivial⟩ fun a w h => then_normal ?_
           refine at_test ((D_spec_l30Done x0 (x0.2.2.2.1.getD i (0, (0, (0, (0, []))))).1)) h (by kernel_rfl) (fun h18 => ?_) (fun h18 => ?_)
           ·refine wp_seq ?_
            refine at_regq [] { ts := [1, 2, 3, 54, 55, 58, 59, 60, 61, 62, 63, 64, 65, 66, 69, 70, 71, 72, 73, 74, 75, 76, 77, 78, 79, 80, 81, 82, 85, 86, 87, 88], os := [1, 2] } [] gamOK hT h (by kernel_rfl) trivial fun a w h => then_normal (wp_ret (in_ret (then_ret ?_)))
            have hs19 : (allN (fun i => decB x0 i && clsB x0 i) (List.length x0.2.2.2.1)) = false := by exact allN_at (i := i) (by omega) (by exact and_f (by first | (left; exact decB_f (by first | (left; assumption) | (right; left; simp_all [D_spec_IsComplete]; done) | (right; right; left; assumption) | (right; right; right; omega))) | (right; simp_all [clsB, D_spec_l30Done]; done)))
            refine then_ret (in_ret (then_ret ?_))
            exact at_return (false, ()) [] h (by kernel_rfl) trivial (congrArg (fun z => (z, ())) (show (false) = validS x0 from by (first | (rw [← validS_spec (by assumption) (headS_y2 (by assumption) (by assumption) (by assumption) (by omega) (by assumption))]; symm; assumption) | exact validS_no (by first | (right; right; assumption) | (left; exact headS_n2 (by first | (left; assumption) | (right; left; assumption) | (right; right; left; assumption) | (right; right; right; left; omega) | (right; right; right; right; assumption)))))))
           ·refine wp_skip (in_normal (then_normal ?_))
            refine at_regq [{}, { nw := true }] { ts := [1, 2, 3, 54, 55, 58, 59, 60, 61, 62, 63, 64, 65, 66, 69, 70, 71, 72, 73, 74, 75, 76, 77, 78, 79, 80, 81, 82, 85, 86, 87, 88], os := [1, 2] } [I64 (((i : Nat) : Int) + 1)] gamOK hT h (by kernel_rfl) ⟨⟨by first | omega | (simp only [lsA]; omega) | (simp <;> omega), by first | omega | (simp only [lsA]; omega) | (simp <;> omega)⟩, trivial⟩ fun a w h => ?_
            replace h := at_out (σ' := ⟨[(1, aP 1 0), (2, aB false), (3, aI (((i : Nat) : Int) + 1))], [(1, oX 34 [cI x0.1, cI x0.2.1, .ro (.int 3) x0.2.2.1, .ro s69 x0.2.2.2.1, .ro s64 x0.2.2.2.2.1, cI x0.2.2.2.2.2])]⟩) { ts := [1, 2, 3], os := [1] } h (by kernel_rfl)
            exact ⟨i + 1, at_eq h (st_congr1 (fun (d0 : Int) => (⟨[(1, aP 1 0), (2, aB false), (3, aI d0)], [(1, oX 34 [cI x0.1, cI x0.2.1, .ro (.int 3) x0.2.2.1, .ro s69 x0.2.2.2.1, .ro s64 x0.2.2.2.2.1, cI x0.2.2.2.2.2])]⟩ : St)) (show (((i : Nat) : Int) + 1 : Int) = (((i + 1) : Nat) : Int) from by first | with_reducible rfl | (omega) | rfl)), (by exact ⟨by omega, allN_succ hok0.2 (by exact and_t (decB_t (by assumption) (isC_f (by assumption) (by assumption)) (by assumption) (by omega)) (clsB_t (by assumption)))⟩), (by omega)⟩
      ·replace h6 : ¬ (((i : Nat) : Int) < ((List.length x0.2.2.2.1 : Nat) : Int)) := of_decide_eq_false h6
       refine wp_exit (then_exit ?_)
       have hs20 : (allN (fun i => decB x0 i && clsB x0 i) (List.length x0.2.2.2.1)) = true := by exact allN_eq (by omega) hok0.1 hok0.2
       refine then_exit (in_hit (then_normal (wp_seq (wp_seq ?_))))
       refine at_regq [] { ts := [1, 2, 5], os := [1] } [] gamOK hT h (by kernel_rfl) trivial fun a w h => then_normal (wp_block ?_)
       replace h := at_out (σ' := ⟨[(1, aP 1 0), (2, aB false), (5, aI 0)], [(1, oX 34 [cI x0.1, cI x0.2.1, .ro (.int 3) x0.2.2.1, .ro s69 x0.2.2.2.1, .ro s64 x0.2.2.2.2.1, cI x0.2.2.2.2.2])]⟩) { ts := [1, 2, 5], os := [1] } h (by kernel_rfl)
       refine at_loop (fun i : Nat => (⟨[(1, aP 1 0), (2, aB false), (5, aI ((i : Nat) : Int))], [(1, oX 34 [cI x0.1, cI x0.2.1, .ro (.int 3) x0.2.2.1, .ro s69 x0.2.2.2.1, .ro s64 x0.2.2.2.2.1, cI x0.2.2.2.2.2])]⟩ : St)) (fun i => (i ≤ (List.length x0.2.2.2.2.1) ∧ allN (genB x0) i = true)) (fun i => (List.length x0.2.2.2.2.1) - i) (0) h (st_congr1 (fun (d0 : Int) => (⟨[(1, aP 1 0), (2, aB false), (5, aI d0)], [(1, oX 34 [cI x0.1, cI x0.2.1, .ro (.int 3) x0.2.2.1, .ro s69 x0.2.2.2.1, .ro s64 x0.2.2.2.2.1, cI x0.2.2.2.2.2])]⟩ : St)) (show (0 : Int) = (((0) : Nat) : Int) from by first | with_reducible rfl | (rfl) | rfl)) (by exact ⟨Nat.zero_le _, rfl⟩) ?_
       intro i a w hok1 h
       refine wp_seq (wp_seq ?_)
       refine at_regq [] { ts := [1, 2, 5, 94], os := [1] } [] gamOK hT h (by kernel_rfl) trivial fun a w h => then_normal ?_
       refine at_test (decide (((i : Nat) : Int) < ((List.length x0.2.2.2.2.1 : Nat) : Int))) h (by kernel_rfl) (fun h21 => ?_) (fun h21 => ?_)
       ·replace h21 : ((i : Nat) : Int) < ((List.length x0.2.2.2.2.1 : Nat) : Int) := of_decide_eq_true h21
        refine wp_skip (then_normal (wp_seq (wp_block (wp_seq ?_))))
        refine at_regq [{}, {}, {}, {}, {}, { ids := [3] }] { ts := [1, 2, 5, 6], os := [1, 3] } [(0 : Int) ≤ ((i : Nat) : Int) ∧ ((i : Nat) : Int) < ((List.length x0.2.2.2.2.1 : Nat) : Int)] gamOK hT h (by kernel_rfl) ⟨(by refine ⟨?_, ?_⟩ <;> (first | omega | (simp only [lsA]; omega) | (simp <;> omega))), trivial⟩ fun a w h => then_normal (wp_seq ?_)
        rcases Bool.eq_false_or_eq_true (!(validG (x0.2.2.2.2.1.getD i (0, [])))) with h22 | h22
        ·have hzh22 : (validG (x0.2.2.2.2.1.getD i (0, []))) = false := notT h22
         refine at_anyq [{}, {}, { hint := some (aB true) }, {}, {}, {}, {}, {}, {}, {}, {}, {}, {}, {}, {}, {}, {}, {}, {}, {}, {}, {}, {}, {}, {}, {}, {}, {}, {}, {}, {}, {}] { ts := [1, 2, 5, 106, 107, 108, 109, 110, 111, 112, 113, 114, 115, 116, 119, 120, 121, 122, 123, 124, 125, 126, 127, 128, 129, 130, 131, 132, 133], os := [1] } [Q_spec_IsValidGeneration (x0.2.2.2.2.1.getD i (0, [])), (AV.p (.c (.v (.bool (!(validG (x0.2.2.2.2.1.getD i (0, []))))))) = AV.p (.c (.v (.bool true))))] gamOK hT mixed h (by kernel_rfl) ⟨(by exact (Sh.fit_getD hf0.2.2.2.2.1 i)), hint_bool (h22), trivial⟩ fun a w h => then_normal ?_
         refine at_test true h (by kernel_rfl) (fun hh => ?_) (fun hh => nomatch hh)
         refine wp_seq ?_
         refine at_regq [] { ts := [1, 2, 5, 106, 107, 108, 109, 110, 111, 112, 113, 114, 115, 116, 119, 120, 121, 122, 123, 124, 125, 126, 127, 128, 129, 130, 131, 132], os := [1] } [] gamOK hT h (by kernel_rfl) trivial fun a w h => then_normal (wp_ret (in_ret (then_ret ?_)))
         have hs23 : (allN (genB x0) (List.length x0.2.2.2.2.1)) = false := by exact allN_at (i := i) (by omega) (by exact genB_f (by first | (left; assumption) | (right; left; assumption) | (right; right; omega)))
         refine then_ret (in_ret (then_ret ?_))
         exact at_return (false, ()) [] h (by kernel_rfl) trivial (congrArg (fun z => (z, ())) (show (false) = validS x0 from by (first | (rw [← validS_spec (by assumption) (headS_y2 (by assumption) (by assumption) (by assumption) (by omega) (by assumption))]; symm; assumption) | exact validS_no (by first | (right; right; assumption) | (left; exact headS_n2 (by first | (left; assumption) | (right; left; assumption) | (right; right; left; assumption) | (right; right; right; left; omega) | (right; right; right; right; assumption)))))))
        ·have hzh22 : (validG (x0.2.2.2.2.1.getD i (0, []))) = true := notF h22
         have hvh22 := validG_t (notF h22)
         rcases Bool.eq_false_or_eq_true (!(fitsS x0 (x0.2.2.2.2.1.getD i (0, [])).1 ((List.length (x0.2.2.2.2.1.getD i (0, [])).2 : Nat) : Int) (colsOf (x0.2.2.2.2.1.getD i (0, [])).2))) with h24 | h24
         ·have hzh24 : (fitsS x0 (x0.2.2.2.2.1.getD i (0, [])).1 ((List.length (x0.2.2.2.2.1.getD i (0, [])).2 : Nat) : Int) (colsOf (x0.2.2.2.2.1.getD i (0, [])).2)) = false := notT h24
          refine at_anyq [{}, {}, { hint := some (aB false) }, {}, {}, {}, {}, {}, {}, {}, {}, {}, {}, {}, { hint := some (aB true) }, {}, {}, {}, {}, {}, {}, {}, {}, {}, {}, {}, {}, {}, {}, {}, {}, {}] { ts := [1, 2, 5, 106, 107, 108, 109, 110, 111, 112, 113, 114, 115, 116, 119, 120, 121, 122, 123, 124, 125, 126, 127, 128, 129, 130, 131, 132, 133], os := [1, 3] } [Q_spec_IsValidGeneration (x0.2.2.2.2.1.getD i (0, [])), (AV.p (.c (.v (.bool (!(validG (x0.2.2.2.2.1.getD i (0, []))))))) = AV.p (.c (.v (.bool false)))), Q_spec_ColumnsOf (x0.2.2.2.2.1.getD i (0, [])).2, Q_spec_l30Fits x0 (x0.2.2.2.2.1.getD i (0, [])).1 ((List.length (x0.2.2.2.2.1.getD i (0, [])).2 : Nat) : Int) (colsOf (x0.2.2.2.2.1.getD i (0, [])).2), (AV.p (.c (.v (.bool (!(fitsS x0 (x0.2.2.2.2.1.getD i (0, [])).1 ((List.length (x0.2.2.2.2.1.getD i (0, [])).2 : Nat) : Int) (colsOf (x0.2.2.2.2.1.getD i (0, [])).2)))))) = AV.p (.c (.v (.bool true))))] gamOK hT mixed h (by kernel_rfl) ⟨(by exact (Sh.fit_getD hf0.2.2.2.2.1 i)), hint_bool (h22), (by exact (Sh.fit_getD hf0.2.2.2.2.1 i).2), (by exact hf0), hint_bool (h24), trivial⟩ fun a w h => then_normal ?_
          refine at_test true h (by kernel_rfl) (fun hh => ?_) (fun hh => nomatch hh)
          refine wp_seq ?_
          refine at_regq [] { ts := [1, 2, 5, 106, 107, 108, 109, 110, 111, 112, 113, 114, 115, 116, 119, 120, 121, 122, 123, 124, 125, 126, 127, 128, 129, 130, 131, 132], os := [1, 3] } [] gamOK hT h (by kernel_rfl) trivial fun a w h => then_normal (wp_ret (in_ret (then_ret ?_)))
          have hs25 : (allN (genB x0) (List.length x0.2.2.2.2.1)) = false := by exact allN_at (i := i) (by omega) (by exact genB_f (by first | (left; assumption) | (right; left; assumption) | (right; right; omega)))
          refine then_ret (in_ret (then_ret ?_))
          exact at_return (false, ()) [] h (by kernel_rfl) trivial (congrArg (fun z => (z, ())) (show (false) = validS x0 from by (first | (rw [← validS_spec (by assumption) (headS_y2 (by assumption) (by assumption) (by assumption) (by omega) (by assumption))]; symm; assumption) | exact validS_no (by first | (right; right; assumption) | (left; exact headS_n2 (by first | (left; assumption) | (right; left; assumption) | (right; right; left; assumption) | (right; right; right; left; omega) | (right; right; right; right; assumption)))))))
         ·have hzh24 : (fitsS x0 (x0.2.2.2.2.1.getD i (0, [])).1 ((List.length (x0.2.2.2.2.1.getD i (0, [])).2 : Nat) : Int) (colsOf (x0.2.2.2.2.1.getD i (0, [])).2)) = true := notF h24
          by_cases h26 : ((i : Nat) : Int) > 0
          ·refine at_anyq [{}, {}, { hint := some (aB false) }, {}, {}, {}, {}, {}, {}, {}, {}, {}, {}, {}, { hint := some (aB false) }, {}, {}, {}, { hint := some (aB true) }, {}, {}, {}, {}, { nw := true }, {}, {}, {}, {}, {}, {}, {}, {}] { ts := [1, 2, 5, 106, 107, 108, 109, 110, 111, 112, 113, 114, 115, 116, 119, 120, 121, 122, 123, 124, 125, 126, 127, 128, 129, 130, 131, 132, 133], os := [1, 3] } [Q_spec_IsValidGeneration (x0.2.2.2.2.1.getD i (0, [])), (AV.p (.c (.v (.bool (!(validG (x0.2.2.2.2.1.getD i (0, []))))))) = AV.p (.c (.v (.bool false)))), Q_spec_ColumnsOf (x0.2.2.2.2.1.getD i (0, [])).2, Q_spec_l30Fits x0 (x0.2.2.2.2.1.getD i (0, [])).1 ((List.length (x0.2.2.2.2.1.getD i (0, [])).2 : Nat) : Int) (colsOf (x0.2.2.2.2.1.getD i (0, [])).2), (AV.p (.c (.v (.bool (!(fitsS x0 (x0.2.2.2.2.1.getD i (0, [])).1 ((List.length (x0.2.2.2.2.1.getD i (0, [])).2 : Nat) : Int) (colsOf (x0.2.2.2.2.1.getD i (0, [])).2)))))) = AV.p (.c (.v (.bool false)))), (AV.p (.c (.v (.bool (decide (((i : Nat) : Int) > 0))))) = AV.p (.c (.v (.bool true)))), I64 (((i : Nat) : Int) - 1), (0 : Int) ≤ ((i : Nat) : Int) - 1 ∧ ((i : Nat) : Int) - 1 < ((List.length x0.2.2.2.2.1 : Nat) : Int)] gamOK hT mixed h (by kernel_rfl) ⟨(by exact (Sh.fit_getD hf0.2.2.2.2.1 i)), hint_bool (h22), (by exact (Sh.fit_getD hf0.2.2.2.2.1 i).2), (by exact hf0), hint_bool (h24), hint_bool (decide_eq_true h26), ⟨by first | omega | (simp only [lsA]; omega) | (simp <;> omega), by first | omega | (simp only [lsA]; omega) | (simp <;> omega)⟩, (by refine ⟨?_, ?_⟩ <;> (first | omega | (simp only [lsA]; omega) | (simp <;> omega))), trivial⟩ fun a w h => then_normal ?_
           refine at_test (decide ((x0.2.2.2.2.1.getD ((((i : Nat) : Int) - 1).toNat) (0, [])).1 ≥ (x0.2.2.2.2.1.getD i (0, [])).1)) h (by kernel_rfl) (fun h27 => ?_) (fun h27 => ?_)
           ·replace h27 : (x0.2.2.2.2.1.getD ((((i : Nat) : Int) - 1).toNat) (0, [])).1 ≥ (x0.2.2.2.2.1.getD i (0, [])).1 := of_decide_eq_true h27
            refine wp_seq ?_
            refine at_regq [] { ts := [1, 2, 5, 106, 107, 108, 109, 110, 111, 112, 113, 114, 115, 116, 119, 120, 121, 122, 123, 124, 125, 126, 127, 128, 129, 130, 131, 132], os := [1, 3] } [] gamOK hT h (by kernel_rfl) trivial fun a w h => then_normal (wp_ret (in_ret (then_ret ?_)))
            have hs28 : (allN (genB x0) (List.length x0.2.2.2.2.1)) = false := by exact allN_at (i := i) (by omega) (by exact genB_f (by first | (left; assumption) | (right; left; assumption) | (right; right; omega)))
            refine then_ret (in_ret (then_ret ?_))
            exact at_return (false, ()) [] h (by kernel_rfl) trivial (congrArg (fun z => (z, ())) (show (false) = validS x0 from by (first | (rw [← validS_spec (by assumption) (headS_y2 (by assumption) (by assumption) (by assumption) (by omega) (by assumption))]; symm; assumption) | exact validS_no (by first | (right; right; assumption) | (left; exact headS_n2 (by first | (left; assumption) | (right; left; assumption) | (right; right; left; assumption) | (right; right; right; left; omega) | (right; right; right; right; assumption)))))))
           ·replace h27 : ¬ ((x0.2.2.2.2.1.getD ((((i : Nat) : Int) - 1).toNat) (0, [])).1 ≥ (x0.2.2.2.2.1.getD i (0, [])).1) := of_decide_eq_false h27
            refine wp_skip (in_normal (then_normal ?_))
            refine at_regq [{}, { nw := true }] { ts := [1, 2, 5, 106, 107, 108, 109, 110, 111, 112, 113, 114, 115, 116, 119, 120, 121, 122, 123, 124, 125, 126, 127, 128, 129, 130, 131, 132], os := [1, 3] } [I64 (((i : Nat) : Int) + 1)] gamOK hT h (by kernel_rfl) ⟨⟨by first | omega | (simp only [lsA]; omega) | (simp <;> omega), by first | omega | (simp only [lsA]; omega) | (simp <;> omega)⟩, trivial⟩ fun a w h => ?_
            replace h := at_out (σ' := ⟨[(1, aP 1 0), (2, aB false), (5, aI (((i : Nat) : Int) + 1))], [(1, oX 34 [cI x0.1, cI x0.2.1, .ro (.int 3) x0.2.2.1, .ro s69 x0.2.2.2.1, .ro s64 x0.2.2.2.2.1, cI x0.2.2.2.2.2])]⟩) { ts := [1, 2, 5], os := [1] } h (by kernel_rfl)
            exact ⟨i + 1, at_eq h (st_congr1 (fun (d0 : Int) => (⟨[(1, aP 1 0), (2, aB false), (5, aI d0)], [(1, oX 34 [cI x0.1, cI x0.2.1, .ro (.int 3) x0.2.2.1, .ro s69 x0.2.2.2.1, .ro s64 x0.2.2.2.2.1, cI x0.2.2.2.2.2])]⟩ : St)) (show (((i : Nat) : Int) + 1 : Int) = (((i + 1) : Nat) : Int) from by first | with_reducible rfl | (omega) | rfl)), (by exact ⟨by omega, allN_succ hok1.2 (by exact genB_t (by assumption) (by assumption) (by omega))⟩), (by omega)⟩
          ·refine at_anyq [{}, {}, { hint := some (aB false) }, {}, {}, {}, {}, {}, {}, {}, {}, {}, {}, {}, { hint := some (aB false) }, {}, {}, {}, { hint := some (aB false) }, {}, {}, {}, {}, {}, {}, {}, {}, {}, {}, {}, {}, {}] { ts := [1, 2, 5, 106, 107, 108, 109, 110, 111, 112, 113, 114, 115, 116, 119, 120, 121, 122, 123, 124, 125, 126, 127, 128, 129, 130, 131, 132, 133], os := [1, 3] } [Q_spec_IsValidGeneration (x0.2.2.2.2.1.getD i (0, [])), (AV.p (.c (.v (.bool (!(validG (x0.2.2.2.2.1.getD i (0, []))))))) = AV.p (.c (.v (.bool false)))), Q_spec_ColumnsOf (x0.2.2.2.2.1.getD i (0, [])).2, Q_spec_l30Fits x0 (x0.2.2.2.2.1.getD i (0, [])).1 ((List.length (x0.2.2.2.2.1.getD i (0, [])).2 : Nat) : Int) (colsOf (x0.2.2.2.2.1.getD i (0, [])).2), (AV.p (.c (.v (.bool (!(fitsS x0 (x0.2.2.2.2.1.getD i (0, [])).1 ((List.length (x0.2.2.2.2.1.getD i (0, [])).2 : Nat) : Int) (colsOf (x0.2.2.2.2.1.getD i (0, [])).2)))))) = AV.p (.c (.v (.bool false)))), (AV.p (.c (.v (.bool (decide (((i : Nat) : Int) > 0))))) = AV.p (.c (.v (.bool false))))] gamOK hT mixed h (by kernel_rfl) ⟨(by exact (Sh.fit_getD hf0.2.2.2.2.1 i)), hint_bool (h22), (by exact (Sh.fit_getD hf0.2.2.2.2.1 i).2), (by exact hf0), hint_bool (h24), hint_bool (decide_eq_false h26), trivial⟩ fun a w h => then_normal ?_
           refine at_test false h (by kernel_rfl) (fun hh => nomatch hh) (fun hh => ?_)
           refine wp_skip (in_normal (then_normal ?_))
           refine at_regq [{}, { nw := true }] { ts := [1, 2, 5, 106, 107, 108, 109, 110, 111, 112, 113, 114, 115, 116, 119, 120, 121, 122, 123, 124, 125, 126, 127, 128, 129, 130, 131, 132], os := [1, 3] } [I64 (((i : Nat) : Int) + 1)] gamOK hT h (by kernel_rfl) ⟨⟨by first | omega | (simp only [lsA]; omega) | (simp <;> omega), by first | omega | (simp only [lsA]; omega) | (simp <;> omega)⟩, trivial⟩ fun a w h => ?_
           replace h := at_out (σ' := ⟨[(1, aP 1 0), (2, aB false), (5, aI (((i : Nat) : Int) + 1))], [(1, oX 34 [cI x0.1, cI x0.2.1, .ro (.int 3) x0.2.2.1, .ro s69 x0.2.2.2.1, .ro s64 x0.2.2.2.2.1, cI x0.2.2.2.2.2])]⟩) { ts := [1, 2, 5], os := [1] } h (by kernel_rfl)
           exact ⟨i + 1, at_eq h (st_congr1 (fun (d0 : Int) => (⟨[(1, aP 1 0), (2, aB false), (5, aI d0)], [(1, oX 34 [cI x0.1, cI x0.2.1, .ro (.int 3) x0.2.2.1, .ro s69 x0.2.2.2.1, .ro s64 x0.2.2.2.2.1, cI x0.2.2.2.2.2])]⟩ : St)) (show (((i : Nat) : Int) + 1 : Int) = (((i + 1) : Nat) : Int) from by first | with_reducible rfl | (omega) | rfl)), (by exact ⟨by omega, allN_succ hok1.2 (by exact genB_t (by assumption) (by assumption) (by omega))⟩), (by omega)⟩
       ·replace h21 : ¬ (((i : Nat) : Int) < ((List.length x0.2.2.2.2.1 : Nat) : Int)) := of_decide_eq_false h21
        refine wp_exit (then_exit ?_)
        have hs29 : (allN (genB x0) (List.length x0.2.2.2.2.1)) = true := by exact allN_eq (by omega) hok1.1 hok1.2
        refine then_exit (in_hit (then_normal (wp_seq ?_)))
        refine at_regq [] { ts := [2], os := [] } [] gamOK hT h (by kernel_rfl) trivial fun a w h => then_normal (wp_ret ?_)
        exact at_return (true, ()) [] h (by kernel_rfl) trivial (congrArg (fun z => (z, ())) (show (true) = validS x0 from by (first | (rw [← validS_spec (by assumption) (headS_y2 (by assumption) (by assumption) (by assumption) (by omega) (by assumption))]; symm; assumption) | exact validS_no (by first | (right; right; assumption) | (left; exact headS_n2 (by first | (left; assumption) | (right; left; assumption) | (right; right; left; assumption) | (right; right; right; left; omega) | (right; right; right; right; assumption)))))))

def sinkC (x0 : T34) : Bool := (if (validS x0) = true then decide (((List.length x0.2.2.2.2.1 : Nat) : Int) = ((List.length x0.2.2.1 : Nat) : Int)) else false)
abbrev Q_impl_SinkComplete := (fun (x0 : T34) => Sh.fit s34 x0)
def S_impl_SinkComplete : Sum := { fid := 21, dom := [s34], cod := [(.bool 4)], dp := true, fz := false, pre := fun x => Q_impl_SinkComplete x.1, g := fun x => ((sinkC x.1), ()) }
def S_impl_SinkComplete_tab : List (Nat × Sum) := [(37, S_impl_IsValidSink)]
theorem S_impl_SinkComplete_ok : FnOK Tryz.prog 21 S_impl_SinkComplete := by
 refine at_enter 14 (fun x => ⟨[(0, aG [cI x.1.1, cI x.1.2.1, .ro (.int 3) x.1.2.2.1, .ro s69 x.1.2.2.2.1, .ro s64 x.1.2.2.2.2.1, cI x.1.2.2.2.2.2])], []⟩) Tryz.func21 rfl (by kernel_rfl) (fun x => rfl) ?_
 rintro w0 Z0 ⟨x0, u⟩ a w
 revert x0
 intro (x0 : T34) hpre hlens h
 replace hpre : Q_impl_SinkComplete x0 := hpre
 have hT : TabOK Tryz.prog S_impl_SinkComplete_tab := (.cons S_impl_IsValidSink_ok .nil)
 have hf0 : Sh.fit s34 x0 := hpre
 have hn0_1 : List.length x0.2.2.1 ≤ 1073741824 := hf0.2.2.1.1
 have hn0_2 : List.length x0.2.2.2.1 ≤ 1073741824 := hf0.2.2.2.1.1
 have hn0_3 : List.length x0.2.2.2.2.1 ≤ 1073741824 := hf0.2.2.2.2.1.1
 refine wp_seq ?_
 refine at_regq [{ ids := [1] }] { ts := [1, 2], os := [1] } [] gamOK hT h (by kernel_rfl) trivial fun a w h => then_normal (wp_seq ?_)
 rcases Bool.eq_false_or_eq_true ((validS x0)) with h1 | h1
 ·have hvh1 := validS_t h1
  refine at_regq [{}, { hint := some (aB true) }] { ts := [2], os := [] } [Q_impl_IsValidSink x0, (AV.p (.c (.v (.bool ((validS x0))))) = AV.p (.c (.v (.bool true))))] gamOK hT h (by kernel_rfl) ⟨(by exact hf0), hint_bool (h1), trivial⟩ fun a w h => then_normal (wp_ret ?_)
  exact at_return (decide (((List.length x0.2.2.2.2.1 : Nat) : Int) = ((List.length x0.2.2.1 : Nat) : Int)), ()) [] h (by kernel_rfl) trivial (congrArg (fun z => (z, ())) (show (decide (((List.length x0.2.2.2.2.1 : Nat) : Int) = ((List.length x0.2.2.1 : Nat) : Int))) = sinkC x0 from by first | rfl | (unfold sinkC; rw [if_pos h1])))
 ·refine at_regq [{}, { hint := some (aB false) }] { ts := [2], os := [] } [Q_impl_IsValidSink x0, (AV.p (.c (.v (.bool ((validS x0))))) = AV.p (.c (.v (.bool false))))] gamOK hT h (by kernel_rfl) ⟨(by exact hf0), hint_bool (h1), trivial⟩ fun a w h => then_normal (wp_ret ?_)
  exact at_return (false, ()) [] h (by kernel_rfl) trivial (congrArg (fun z => (z, ())) (show (false) = sinkC x0 from by first | rfl | (unfold sinkC; rw [if_neg (neT h1)])))

abbrev Q_spec_SinkComplete := (fun (x0 : T34) => Sh.fit s34 x0)
def S_spec_SinkComplete : Sum := { fid := 16, dom := [s34], cod := [(.bool 4)], dp := true, fz := false, pre := fun x => Q_spec_SinkComplete x.1, g := fun x => ((sinkC x.1), ()) }
def S_spec_SinkComplete_tab : List (Nat × Sum) := [(31, S_spec_IsValidSink)]
theorem S_spec_SinkComplete_ok : FnOK Tryz.prog 16 S_spec_SinkComplete := by
 refine at_enter 14 (fun x => ⟨[(0, aG [cI x.1.1, cI x.1.2.1, .ro (.int 3) x.1.2.2.1, .ro s69 x.1.2.2.2.1, .ro s64 x.1.2.2.2.2.1, cI x.1.2.2.2.2.2])], []⟩) Tryz.func16 rfl (by kernel_rfl) (fun x => rfl) ?_
 rintro w0 Z0 ⟨x0, u⟩ a w
 revert x0
 intro (x0 : T34) hpre hlens h
 replace hpre : Q_spec_SinkComplete x0 := hpre
 have hT : TabOK Tryz.prog S_spec_SinkComplete_tab := (.cons S_spec_IsValidSink_ok .nil)
 have hf0 : Sh.fit s34 x0 := hpre
 have hn0_1 : List.length x0.2.2.1 ≤ 1073741824 := hf0.2.2.1.1
 have hn0_2 : List.length x0.2.2.2.1 ≤ 1073741824 := hf0.2.2.2.1.1
 have hn0_3 : List.length x0.2.2.2.2.1 ≤ 1073741824 := hf0.2.2.2.2.1.1
 refine wp_seq ?_
 refine at_regq [{ ids := [1] }] { ts := [1, 2], os := [1] } [] gamOK hT h (by kernel_rfl) trivial fun a w h => then_normal (wp_seq ?_)
 rcases Bool.eq_false_or_eq_true ((validS x0)) with h1 | h1
 ·have hvh1 := validS_t h1
  refine at_regq [{}, { hint := some (aB true) }] { ts := [2], os := [] } [Q_spec_IsValidSink x0, (AV.p (.c (.v (.bool ((validS x0))))) = AV.p (.c (.v (.bool true))))] gamOK hT h (by kernel_rfl) ⟨(by exact hf0), hint_bool (h1), trivial⟩ fun a w h => then_normal (wp_ret ?_)
  exact at_return (decide (((List.length x0.2.2.2.2.1 : Nat) : Int) = ((List.length x0.2.2.1 : Nat) : Int)), ()) [] h (by kernel_rfl) trivial (congrArg (fun z => (z, ())) (show (decide (((List.length x0.2.2.2.2.1 : Nat) : Int) = ((List.length x0.2.2.1 : Nat) : Int))) = sinkC x0 from by first | rfl | (unfold sinkC; rw [if_pos h1]; done) | (unfold sinkC; simp_all)))
 ·refine at_regq [{}, { hint := some (aB false) }] { ts := [2], os := [] } [Q_spec_IsValidSink x0, (AV.p (.c (.v (.bool ((validS x0))))) = AV.p (.c (.v (.bool false))))] gamOK hT h (by kernel_rfl) ⟨(by exact hf0), hint_bool (h1), trivial⟩ fun a w h => then_normal (wp_ret ?_)
  exact at_return (false, ()) [] h (by kernel_rfl) trivial (congrArg (fun z => (z, ())) (show (false) = sinkC x0 from by first | rfl | (unfold sinkC; rw [if_neg (neT h1)]; done) | (unfold sinkC; simp_all)))

def shN (n i : Nat) : Nat := n / 128 ^ i
theorem shN_zero (n : Nat) : shN n 0 = n := by simp [shN]
theorem shN_succ (n i : Nat) : shN n (i + 1) = shN n i / 128 := by unfold shN; rw [Nat.pow_succ, Nat.div_div_eq_div_mul]
theorem shN_out (n i : Nat) : shN n (i + 1) = shN (n / 128) i := by unfold shN; rw [Nat.pow_succ, Nat.mul_comm, Nat.div_div_eq_div_mul]
theorem shN_le (n i : Nat) : shN n i ≤ n := Nat.div_le_self _ _
theorem shN_six {n : Nat} (h : n ≤ 1000000000000) : shN n 6 = 0 := by
 have e : shN n 6 = n / 4398046511104 := rfl
 rw [e]; omega
def uvT (n i : Nat) : List Int := (List.range i).map fun j => ((shN n j % 128 + 128 : Nat) : Int)
theorem uvT_zero (n : Nat) : uvT n 0 = [] := rfl
theorem uvT_succ (n i : Nat) : uvT n (i + 1) = uvT n i ++ [((shN n i % 128 + 128 : Nat) : Int)] := by simp [uvT, List.range_succ]
theorem uvT_len (n i : Nat) : (uvT n i).length = i := by simp [uvT]
theorem uvT_cons (n i : Nat) : uvT n (i + 1) = ((n % 128 + 128 : Nat) : Int) :: uvT (n / 128) i := by
 unfold uvT
 rw [List.range_succ_eq_map, List.map_cons, List.map_map, shN_zero]
 congr 1
 exact List.map_congr_left fun j _ => by show ((shN n (j + 1) % 128 + 128 : Nat) : Int) = _; rw [shN_out]
def uvF : Nat → Nat → List Int
 | 0, n => [(n : Int)]
 | f + 1, n => if n < 128 then [(n : Int)] else ((n % 128 + 128 : Nat) : Int) :: uvF f (n / 128)
def uvB (n : Nat) : List Int := uvF 9 n
theorem uvF_last {f n : Nat} (h : n < 128) : uvF f n = [(n : Int)] := by cases f <;> simp [uvF, h]
theorem uvF_end : ∀ {i f n : Nat}, i ≤ f → (∀ j, j < i → 128 ≤ shN n j) → shN n i < 128 → uvT n i ++ [((shN n i : Nat) : Int)] = uvF f n
 | 0, f, n, _, _, h => by rw [shN_zero] at h ⊢; rw [uvF_last h]; rfl
 | i + 1, 0, n, hf, _, _ => by omega
 | i + 1, f + 1, n, hf, ha, h => by
  have h0 := ha 0 (by omega)
  rw [shN_zero] at h0
  rw [uvT_cons, shN_out, List.cons_append, uvF_end (i := i) (f := f) (by omega) (fun j hj => by have := ha (j + 1) (by omega); rwa [shN_out] at this) (by rwa [shN_out] at h)]
  unfold uvF; rw [if_neg (by omega)]
  cases f <;> rfl
theorem uvF_len (f n : Nat) : (uvF f n).length ≤ f + 1 := by
 induction f generalizing n with
 | zero => simp [uvF]
 | succ f ih => unfold uvF; split <;> simp; exact ih _
theorem uvF_u8 : ∀ (f n : Nat), n < 128 ^ (f + 1) → u8L (uvF f n)
 | 0, n, h => fun e he => by
  cases he with
  | head => simp at h; constructor <;> omega
  | tail _ hm => cases hm
 | f + 1, n, h => by
  unfold uvF; split
  ·intro e he
   cases he with
   | head => constructor <;> omega
   | tail _ hm => cases hm
  ·intro e he
   cases he with
   | head => constructor <;> omega
   | tail _ hm => exact uvF_u8 f _ (by rw [Nat.pow_succ] at h; omega) e hm
def appUv (x : List Int) (n : Int) : List Int := x ++ (if inR n 0 1000000000000 = true then uvB n.toNat else [])
theorem appUv_n {x : List Int} {n : Int} (h : inR n 0 1000000000000 = false) : x = appUv x n := by unfold appUv; rw [h, if_neg (by decide), List.append_nil]
theorem appUv_y {x : List Int} {n : Int} {i : Nat} (h : inR n 0 1000000000000 = true) (h1 : i ≤ 6) (h2 : ∀ j, j < i → 128 ≤ shN n.toNat j) (h3 : shN n.toNat i < 128) : (x ++ uvT n.toNat i) ++ [IntKind.u8.wrap ((shN n.toNat i : Nat) : Int)] = appUv x n := by
 have e : IntKind.u8.wrap ((shN n.toNat i : Nat) : Int) = ((shN n.toNat i : Nat) : Int) := by simp only [IntKind.wrap, IntKind.signed, IntKind.bits]; simp; omega
 unfold appUv; rw [e, h, if_pos rfl, List.append_assoc, uvF_end (f := 9) (by omega) h2 h3]; rfl
theorem appUv_le (x : List Int) (n : Int) : x.length ≤ (appUv x n).length ∧ (appUv x n).length ≤ x.length + 10 := by
 unfold appUv; rw [List.length_append]
 have := uvF_len 9 n.toNat
 split
 ·unfold uvB; omega
 ·simp
theorem u8L_append {x y : List Int} (hx : u8L x) (hy : u8L y) : u8L (x ++ y) := fun e he => by
 rcases List.mem_append.1 he with h | h
 ·exact hx e h
 ·exact hy e h
theorem u8L_nil : u8L [] := fun _ h => by cases h
theorem appUv_u8 {x : List Int} {n : Int} (h : u8L x) : u8L (appUv x n) := by
 unfold appUv
 refine u8L_append h ?_
 split
 ·rename_i hn
  have := inR_t hn
  exact uvF_u8 9 _ (by
   have e : (128 : Nat) ^ (9 + 1) = 1180591620717411303424 := by decide
   rw [e]; omega)
 ·exact u8L_nil
theorem and127 {n : Nat} (h : n ≤ 4611686018427387904) : IntKind.i64.wrap ((BitVec.ofInt (IntKind.i64).bits (n : Int) &&& BitVec.ofInt (IntKind.i64).bits 127).toNat : Int) = ((n % 128 : Nat) : Int) := by
 have e : (BitVec.ofInt (IntKind.i64).bits (n : Int) &&& BitVec.ofInt (IntKind.i64).bits 127).toNat = n % 128 := by
  rw [BitVec.toNat_and]
  have h1 : (BitVec.ofInt (IntKind.i64).bits (n : Int)).toNat = n := by
   rw [BitVec.toNat_ofInt]; simp [IntKind.bits]; omega
  have h2 : (BitVec.ofInt (IntKind.i64).bits 127).toNat = 2 ^ 7 - 1 := by decide
  rw [h1, h2, Nat.and_two_pow_sub_one_eq_mod]
 rw [e, IntKind.wrap_i64]; omega
theorem or128 {m : Nat} (h : m < 128) : IntKind.i64.wrap ((BitVec.ofInt (IntKind.i64).bits (m : Int) ||| BitVec.ofInt (IntKind.i64).bits 128).toNat : Int) = ((m + 128 : Nat) : Int) := by
 have e : (BitVec.ofInt (IntKind.i64).bits (m : Int) ||| BitVec.ofInt (IntKind.i64).bits 128).toNat = m + 128 := by
  rw [BitVec.toNat_or]
  have h1 : (BitVec.ofInt (IntKind.i64).bits (m : Int)).toNat = m := by
   rw [BitVec.toNat_ofInt]; simp [IntKind.bits]; omega
  have h2 : (BitVec.ofInt (IntKind.i64).bits 128).toNat = 2 ^ 7 * 1 := by decide
  rw [h1, h2, Nat.or_comm, ← Nat.two_pow_add_eq_or_of_lt (i := 7) (by omega)]; omega
 rw [e, IntKind.wrap_i64]; omega
theorem shr7 {n : Nat} : Int.fdiv (n : Int) (2 ^ (min (7 : Int).toNat (IntKind.i64).bits)) = ((n / 128 : Nat) : Int) := by
 have e2 : (2 : Int) ^ (min (7 : Int).toNat (IntKind.i64).bits) = 128 := by decide
 rw [e2, Int.fdiv_eq_ediv_of_nonneg _ (by omega)]; omega
theorem u8w {m : Nat} (h : m < 256) : IntKind.u8.wrap (m : Int) = (m : Int) := by simp only [IntKind.wrap, IntKind.signed, IntKind.bits]; simp; omega
def appBy (x y : List Int) : List Int := appUv x ((List.length y : Nat) : Int) ++ y
theorem appBy_u8 {x y : List Int} (hx : u8L x) (hy : u8L y) : u8L (appBy x y) := u8L_append (appUv_u8 hx) hy
theorem wrapNat {a b : Nat} (h : a + b ≤ 4611686018427387904) : IntKind.i64.wrap ((a : Int) + (b : Int)) = ((a + b : Nat) : Int) := by rw [IntKind.wrap_i64]; omega
theorem appBy_le (x y : List Int) : (appBy x y).length ≤ x.length + y.length + 10 := by
 unfold appBy; rw [List.length_append]; have := appUv_le x ((List.length y : Nat) : Int); omega
def symRow (all : List Int) (w j : Nat) : List Int := (List.range w).map fun k => all.getD (j * w + k) 0
def symTo (all : List Int) (w j : Nat) : List (List Int) := (List.range j).map (symRow all w)
theorem symTo_succ (all : List Int) (w j : Nat) : symTo all w (j + 1) = symTo all w j ++ [symRow all w j] := by simp [symTo, List.range_succ]
theorem symTo_len (all : List Int) (w j : Nat) : (symTo all w j).length = j := by simp [symTo]
def rowTo (all : List Int) (w j k : Nat) : List Int := (List.range w).map fun i => if i < k then all.getD (j * w + i) 0 else 0
theorem rowTo_len (all : List Int) (w j k : Nat) : (rowTo all w j k).length = w := by simp [rowTo]
theorem rowTo_zero (all : List Int) (w j : Nat) : List.replicate w (0 : Int) = rowTo all w j 0 := by
 apply List.ext_getElem <;> simp [rowTo]
theorem rowTo_set {all : List Int} {w j k : Nat} : (rowTo all w j k).set k (all.getD (j * w + k) 0) = rowTo all w j (k + 1) := by
 apply List.ext_getElem
 ·simp [rowTo]
 ·intro i h1 h2
  simp only [List.getElem_set, rowTo, List.getElem_map, List.getElem_range]
  by_cases e : k = i
  ·subst e; simp
  ·rw [if_neg e]
   by_cases l : i < k
   ·rw [if_pos l, if_pos (by omega)]
   ·rw [if_neg l, if_neg (by omega)]
theorem slice_get {all : List Int} {a b k : Nat} (h : k < (List.drop a (List.take b all)).length) : (List.drop a (List.take b all)).getD k 0 = all.getD (a + k) 0 := by
 have h' := h
 rw [List.length_drop, List.length_take] at h'
 rw [getD_of_lt h, List.getElem_drop, List.getElem_take, getD_of_lt (by omega)]
theorem rowTo_set2 {all : List Int} {w j k b : Nat} (h : k < (List.drop (j * w) (List.take b all)).length) : (rowTo all w j k).set k ((List.drop (j * w) (List.take b all)).getD k 0) = rowTo all w j (k + 1) := by
 rw [slice_get h]; exact rowTo_set
theorem rowTo_all {all : List Int} {w j k : Nat} (h : w ≤ k ∨ all.length ≤ j * w + k) : rowTo all w j k = symRow all w j := by
 apply List.ext_getElem
 ·simp [rowTo, symRow]
 ·intro i h1 h2
  simp only [rowTo, symRow, List.getElem_map, List.getElem_range]
  split
  ·rfl
  ·rename_i l
   have hw : i < w := by simpa [rowTo] using h1
   rw [List.getD_eq_getElem?_getD, List.getElem?_eq_none (by omega)]; rfl
theorem rowTo_all2 {all : List Int} {w j k : Nat} (h : (List.drop (j * w) (List.take (min (j * w + w) (List.length all)) all)).length ≤ k) : rowTo all w j k = symRow all w j := by
 rw [List.length_drop, List.length_take] at h
 exact rowTo_all (by omega)
theorem slice_u8 {all : List Int} (h : u8L all) (a b k : Nat) : (0 : Int) ≤ (List.drop a (List.take b all)).getD k 0 ∧ (List.drop a (List.take b all)).getD k 0 < (256 : Int) :=
 getD_u8 (fun e he => h e (List.mem_of_mem_take (List.mem_of_mem_drop he))) k
def cdiv (n w : Nat) : Nat := (n + w - 1) / w
theorem cdiv_end {n w i : Nat} (hw : 1 ≤ w) (h1 : n ≤ i * w) (h2 : i * w < n + w) : cdiv n w = i := by
 unfold cdiv
 rw [Nat.div_eq_iff (by omega)]
 have : (i + 1) * w = i * w + w := Nat.succ_mul i w
 constructor <;> omega
theorem cdiv_le {n w : Nat} (hw : 1 ≤ w) : cdiv n w ≤ n := by
 unfold cdiv
 rw [Nat.div_le_iff_le_mul_add_pred (by omega)]
 have := Nat.mul_le_mul_right n hw
 omega
def symS (all : List Int) (w : Nat) : List (List Int) := symTo all w (cdiv all.length w)
theorem symS_end {all : List Int} {w i : Nat} (hw : 1 ≤ w) (h1 : all.length ≤ i * w) (h2 : i * w < all.length + w) : symTo all w i = symS all w := by unfold symS; rw [cdiv_end hw h1 h2]
def symD (x : List Int) (w : Int) : List (List Int) := if inR w 1 16 = true ∧ x.length ≤ 400 then symS (appBy [] x) w.toNat else []
theorem symD_n {x : List Int} {w : Int} (h : inR w 1 16 = false ∨ 400 < x.length) : [] = symD x w := by
 unfold symD; rw [if_neg]; rintro ⟨h1, h2⟩
 rcases h with h | h
 ·rw [h1] at h; cases h
 ·omega
theorem symD_y {x : List Int} {w : Int} (h : inR w 1 16 = true) (h2 : x.length ≤ 400) : symS (appBy [] x) w.toNat = symD x w := (if_pos ⟨h, h2⟩).symm
theorem symD_len (x : List Int) (w : Int) : (symD x w).length ≤ 410 ∧ ∀ r ∈ symD x w, r.length ≤ 16 := by
 unfold symD
 split
 ·rename_i h
  have hw := inR_t h.1
  have h2 := appBy_le [] x
  have hc : cdiv (appBy [] x).length w.toNat ≤ (appBy [] x).length := cdiv_le (by omega)
  refine ⟨by unfold symS; rw [symTo_len]; simp at h2; omega, fun r hr => ?_⟩
  obtain ⟨j, _, rfl⟩ := List.mem_map.1 hr
  simp [symRow]; omega
 ·exact ⟨by simp, fun r hr => by cases hr⟩
def genRows {α : Type} (l : List α) (s j : Nat) : List α := List.drop (j * s) (List.take (j * s + s) l)
def genTo {α : Type} (l : List α) (s : Nat) (f : Int) (i : Nat) : List (Int × List α) := (List.range i).map fun (j : Nat) => (f + ((j : Nat) : Int), genRows l s j)
theorem genTo_len {α : Type} (l : List α) (s : Nat) (f : Int) (i : Nat) : (genTo l s f i).length = i := by simp [genTo]
def splitD (x : List Int) (w s f : Int) : List (Int × List (List Int)) := if inR s 1 8 = true ∧ inR f 0 999999999590 = true then genTo (symD x w) s.toNat f (cdiv (symD x w).length s.toNat) else []
theorem genRows_len {α : Type} (l : List α) (s j : Nat) : (genRows l s j).length ≤ s := by
 unfold genRows; rw [List.length_drop, List.length_take]; omega
theorem splitD_bd (x : List Int) (w s f : Int) : (splitD x w s f).length ≤ 410 ∧ ∀ g ∈ splitD x w s f, g.2.length ≤ 8 ∧ ∀ r ∈ g.2, r.length ≤ 16 := by
 unfold splitD
 have h0 := symD_len x w
 split
 ·rename_i h
  have hs := inR_t h.1
  refine ⟨by rw [genTo_len]; have : cdiv (symD x w).length s.toNat ≤ (symD x w).length := cdiv_le (by omega); omega, fun g hg => ?_⟩
  obtain ⟨j, _, rfl⟩ := List.mem_map.1 hg
  refine ⟨Nat.le_trans (genRows_len _ _ _) (by omega), fun r hr => h0.2 r ?_⟩
  exact List.mem_of_mem_take (List.mem_of_mem_drop hr)
 ·exact ⟨by simp, fun g hg => by cases hg⟩
abbrev Q_impl_AppendUvarint := (fun (x0 : (List Int)) (x1 : Int) => Sh.fit s28 x0)
def S_impl_AppendUvarint : Sum := { fid := 101, dom := [s28, (.int 3)], cod := [s28], dp := true, fz := false, pre := fun x => Q_impl_AppendUvarint x.1 x.2.1, g := fun x => ((appUv x.1 x.2.1), ()) }
def S_impl_AppendUvarint_tab : List (Nat × Sum) := [(90, S_slices_Clone_S_byte_byte_), (59, S_impl_InRange)]
theorem S_impl_AppendUvarint_ok : FnOK Tryz.prog 101 S_impl_AppendUvarint := by
 refine at_enter 28 (fun x => ⟨[(0, aF (.u8 5) x.1), (1, aI x.2.1)], []⟩) Tryz.func101 rfl (by kernel_rfl) (fun x => rfl) ?_
 rintro w0 Z0 ⟨x0, x1, u⟩ a w
 revert x0 x1
 intro (x0 : (List Int)) (x1 : Int) hpre hlens h
 replace hpre : Q_impl_AppendUvarint x0 x1 := hpre
 have hu0 : u8L x0 := hlens.1.2
 have hT : TabOK Tryz.prog S_impl_AppendUvarint_tab := (.cons S_slices_Clone_S_byte_byte__ok (.cons S_impl_InRange_ok .nil))
 have hf0 : Sh.fit s28 x0 := hpre
 have hn0_1 : List.length x0 ≤ 1073741824 := hf0.1
 refine wp_seq ?_
 refine at_regq [] { ts := [0, 1, 4], os := [] } [] gamOK hT h (by kernel_rfl) trivial fun a w h => then_normal (wp_seq ?_)
 refine at_regq [{}, { ids := [1] }] { ts := [1, 4, 5], os := [1] } [(lenOK (α := Int)) x0] gamOK hT h (by kernel_rfl) ⟨(by exact hf0.1), trivial⟩ fun a w h => then_normal (wp_seq (wp_seq ?_))
 refine at_regq [] { ts := [1, 4, 5, 10], os := [1] } [True] gamOK hT h (by kernel_rfl) ⟨trivial, trivial⟩ fun a w h => then_normal ?_
 refine at_test (!(inR x1 0 1000000000000)) h (by kernel_rfl) (fun h1 => ?_) (fun h1 => ?_)
 ·replace h1 : (inR x1 0 1000000000000) = false := notT h1
  have hvh1 := inR_f h1
  refine wp_seq ?_
  refine at_regq [] { ts := [1, 4, 5], os := [1] } [] gamOK hT h (by kernel_rfl) trivial fun a w h => then_normal (wp_ret (then_ret ?_))
  exact at_return (x0, ()) [] h (by kernel_rfl) trivial (congrArg (fun z => (z, ())) (show (x0) = appUv x0 x1 from by first | exact appUv_n (by assumption) | exact appUv_y (by assumption) hok0.1 hok0.2 (by omega)))
 ·replace h1 : (inR x1 0 1000000000000) = true := notF h1
  have hvh1 := inR_t h1
  have hir := inR_t h1
  refine wp_skip (then_normal (wp_seq (wp_block ?_)))
  replace h := at_out (σ' := ⟨[(1, aI x1), (4, .p (.c (cN))), (5, aS 1)], [(1, oR (.u8 5) x0)]⟩) { ts := [1, 4, 5], os := [1] } h (by kernel_rfl)
  refine at_loop (fun i : Nat => (⟨[(1, aI (((shN x1.toNat i) : Nat) : Int)), (4, .p (.c (cN))), (5, aS 1)], [(1, oR (.u8 5) (x0 ++ uvT x1.toNat i))]⟩ : St)) (fun i => (i ≤ 6 ∧ ∀ j, j < i → 128 ≤ shN x1.toNat j)) (fun i => (shN x1.toNat i)) (0) h (st_congr2 (fun (d0 : Int) (d1 : List Int) => (⟨[(1, aI d0), (4, .p (.c (cN))), (5, aS 1)], [(1, oR (.u8 5) d1)]⟩ : St)) (show (x1 : Int) = (((shN x1.toNat (0)) : Nat) : Int) from by first | with_reducible rfl | (first | (rw [shN_zero]; omega) | (rw [uvT_zero, List.append_nil]; done) | (rw [uvT_zero, List.append_nil]; rfl)) | rfl) (show (x0 : List Int) = (x0 ++ uvT x1.toNat (0)) from by first | with_reducible rfl | (first | (rw [shN_zero]; omega) | (rw [uvT_zero, List.append_nil]; done) | (rw [uvT_zero, List.append_nil]; rfl)) | rfl)) (by exact ⟨by omega, fun j hj => absurd hj (by omega)⟩) ?_
  intro i a w hok0 h
  have hsl := shN_le x1.toNat i
  have hss := shN_succ x1.toNat i
  have htl := uvT_len x1.toNat i
  refine wp_seq (wp_seq ?_)
  refine at_regq [] { ts := [1, 4, 5, 13], os := [1] } [] gamOK hT h (by kernel_rfl) trivial fun a w h => then_normal ?_
  refine at_test (decide ((((shN x1.toNat i) : Nat) : Int) ≥ 128)) h (by kernel_rfl) (fun h2 => ?_) (fun h2 => ?_)
  ·replace h2 : (((shN x1.toNat i) : Nat) : Int) ≥ 128 := of_decide_eq_true h2
   refine wp_skip (then_normal (wp_block (wp_seq ?_)))
   refine at_regq [{}, {}, { hint := some (aI (((shN x1.toNat i) % 128 : Nat) : Int)) }, { hint := some (aI (((shN x1.toNat i) % 128 + 128 : Nat) : Int)) }, {}, { ids := [2] }, { ids := [3] }] { ts := [1, 4, 5], os := [3] } [(AV.p (.c (.v (.int .i64 (IntKind.i64.wrap ((BitVec.ofInt (IntKind.i64).bits (((shN x1.toNat i) : Nat) : Int) &&& BitVec.ofInt (IntKind.i64).bits 127).toNat : Int))))) = AV.p (.c (.v (.int .i64 ((((shN x1.toNat i) % 128 : Nat) : Int)))))), (AV.p (.c (.v (.int .i64 (IntKind.i64.wrap ((BitVec.ofInt (IntKind.i64).bits (((shN x1.toNat i) % 128 : Nat) : Int) ||| BitVec.ofInt (IntKind.i64).bits 128).toNat : Int))))) = AV.p (.c (.v (.int .i64 ((((shN x1.toNat i) % 128 + 128 : Nat) : Int)))))), (0 : Int) ≤ IntKind.u8.wrap ((((shN x1.toNat i) % 128 + 128 : Nat) : Int)) ∧ IntKind.u8.wrap ((((shN x1.toNat i) % 128 + 128 : Nat) : Int)) < (256 : Int), (List.length (x0 ++ uvT x1.toNat i) + List.length ([IntKind.u8.wrap ((((shN x1.toNat i) % 128 + 128 : Nat) : Int))])) * 1 ≤ 140737488355328] gamOK hT h (by kernel_rfl) ⟨hint_int (by have hsl := shN_le x1.toNat i; exact and127 (by omega)), hint_int (by exact or128 (by omega)), (by first | exact u8_range _ | exact getD_u8 (by assumption) _ | (refine ⟨?_, ?_⟩ <;> (first | omega | (simp only [lsA]; omega) | (simp <;> omega)))), (by first | omega | (simp only [lsA]; omega) | (simp <;> omega)), trivial⟩ fun a w h => then_normal ?_
   refine at_regq [{}, { hint := some (aI ((shN x1.toNat (i + 1) : Nat) : Int)) }] { ts := [1, 4, 5], os := [3] } [(0 : Int) ≤ 7, (AV.p (.c (.v (.int .i64 ((Int.fdiv (((shN x1.toNat i) : Nat) : Int) (2 ^ (min (7 : Int).toNat (IntKind.i64).bits))))))) = AV.p (.c (.v (.int .i64 (((shN x1.toNat (i + 1) : Nat) : Int))))))] gamOK hT h (by kernel_rfl) ⟨(by first | omega | (simp only [lsA]; omega) | (simp <;> omega)), hint_int (by rw [shN_succ]; exact shr7), trivial⟩ fun a w h => in_normal ?_
   replace h := at_out (σ' := ⟨[(1, aI ((shN x1.toNat (i + 1) : Nat) : Int)), (4, .p (.c (cN))), (5, aS 1)], [(1, oR (.u8 5) ((x0 ++ uvT x1.toNat i) ++ ([IntKind.u8.wrap ((((shN x1.toNat i) % 128 + 128 : Nat) : Int))])))]⟩) { ts := [1, 4, 5], os := [3], rn := [(3, 1)] } h (by kernel_rfl)
   exact ⟨i + 1, at_eq h (st_congr2 (fun (d0 : Int) (d1 : List Int) => (⟨[(1, aI d0), (4, .p (.c (cN))), (5, aS 1)], [(1, oR (.u8 5) d1)]⟩ : St)) (show (((shN x1.toNat (i + 1) : Nat) : Int) : Int) = (((shN x1.toNat (i + 1)) : Nat) : Int) from by first | with_reducible rfl | (rfl) | rfl) (show (((x0 ++ uvT x1.toNat i) ++ ([IntKind.u8.wrap ((((shN x1.toNat i) % 128 + 128 : Nat) : Int))])) : List Int) = (x0 ++ uvT x1.toNat (i + 1)) from by first | with_reducible rfl | (rw [uvT_succ, u8w (by omega), List.append_assoc]) | rfl)), (by refine ⟨?_, fun j hj => ?_⟩; (by_cases e6 : i = 6; (subst e6; have := shN_six (n := x1.toNat) (by omega); omega); omega); (by_cases e : j = i; (subst e; omega); exact hok0.2 j (by omega))), (by omega)⟩
  ·replace h2 : ¬ ((((shN x1.toNat i) : Nat) : Int) ≥ 128) := of_decide_eq_false h2
   refine wp_exit (then_exit (then_exit (in_hit (then_normal (wp_seq ?_)))))
   refine at_regq [{}, {}, {}, { ids := [4] }, { ids := [5] }] { ts := [4], os := [5] } [(0 : Int) ≤ IntKind.u8.wrap ((((shN x1.toNat i) : Nat) : Int)) ∧ IntKind.u8.wrap ((((shN x1.toNat i) : Nat) : Int)) < (256 : Int), (List.length (x0 ++ uvT x1.toNat i) + List.length ([IntKind.u8.wrap ((((shN x1.toNat i) : Nat) : Int))])) * 1 ≤ 140737488355328] gamOK hT h (by kernel_rfl) ⟨(by first | exact u8_range _ | exact getD_u8 (by assumption) _ | (refine ⟨?_, ?_⟩ <;> (first | omega | (simp only [lsA]; omega) | (simp <;> omega)))), (by first | omega | (simp only [lsA]; omega) | (simp <;> omega)), trivial⟩ fun a w h => then_normal (wp_ret ?_)
   exact at_return (((x0 ++ uvT x1.toNat i) ++ ([IntKind.u8.wrap ((((shN x1.toNat i) : Nat) : Int))])), ()) [] h (by kernel_rfl) trivial (congrArg (fun z => (z, ())) (show (((x0 ++ uvT x1.toNat i) ++ ([IntKind.u8.wrap ((((shN x1.toNat i) : Nat) : Int))]))) = appUv x0 x1 from by first | exact appUv_n (by assumption) | exact appUv_y (by assumption) hok0.1 hok0.2 (by omega)))

abbrev Q_spec_AppendUvarint := (fun (x0 : (List Int)) (x1 : Int) => Sh.fit s28 x0)
def S_spec_AppendUvarint : Sum := { fid := 78, dom := [s28, (.int 3)], cod := [s28], dp := true, fz := false, pre := fun x => Q_spec_AppendUvarint x.1 x.2.1, g := fun x => ((appUv x.1 x.2.1), ()) }
def S_spec_AppendUvarint_tab : List (Nat × Sum) := [(45, S_spec_l1In)]
theorem S_spec_AppendUvarint_ok : FnOK Tryz.prog 78 S_spec_AppendUvarint := by
 refine at_enter 29 (fun x => ⟨[(0, aF (.u8 5) x.1), (1, aI x.2.1)], []⟩) Tryz.func78 rfl (by kernel_rfl) (fun x => rfl) ?_
 rintro w0 Z0 ⟨x0, x1, u⟩ a w
 revert x0 x1
 intro (x0 : (List Int)) (x1 : Int) hpre hlens h
 replace hpre : Q_spec_AppendUvarint x0 x1 := hpre
 have hu0 : u8L x0 := hlens.1.2
 have hT : TabOK Tryz.prog S_spec_AppendUvarint_tab := (.cons S_spec_l1In_ok .nil)
 have hf0 : Sh.fit s28 x0 := hpre
 have hn0_1 : List.length x0 ≤ 1073741824 := hf0.1
 refine wp_seq ?_
 refine at_regq [] { ts := [0, 1, 4], os := [] } [] gamOK hT h (by kernel_rfl) trivial fun a w h => then_normal (wp_seq ?_)
 refine at_regq [{ ids := [1] }, {}, { ids := [2] }] { ts := [1, 4, 5], os := [2] } [(List.length ([] : List Int) + List.length x0) * 1 ≤ 140737488355328] gamOK hT h (by kernel_rfl) ⟨(by first | omega | (simp only [lsA]; omega) | (simp <;> omega)), trivial⟩ fun a w h => then_normal (wp_seq (wp_seq ?_))
 refine at_regq [] { ts := [1, 4, 5, 11], os := [2] } [True] gamOK hT h (by kernel_rfl) ⟨trivial, trivial⟩ fun a w h => then_normal ?_
 refine at_test (!(inR x1 0 1000000000000)) h (by kernel_rfl) (fun h1 => ?_) (fun h1 => ?_)
 ·replace h1 : (inR x1 0 1000000000000) = false := notT h1
  have hvh1 := inR_f h1
  refine wp_seq ?_
  refine at_regq [] { ts := [1, 4, 5], os := [2] } [] gamOK hT h (by kernel_rfl) trivial fun a w h => then_normal (wp_ret (then_ret ?_))
  exact at_return ((([] : List Int) ++ x0), ()) [] h (by kernel_rfl) trivial (congrArg (fun z => (z, ())) (show ((([] : List Int) ++ x0)) = appUv x0 x1 from by first | exact appUv_n (by assumption) | exact appUv_y (by assumption) hok0.1 hok0.2 (by omega)))
 ·replace h1 : (inR x1 0 1000000000000) = true := notF h1
  have hvh1 := inR_t h1
  have hir := inR_t h1
  refine wp_skip (then_normal (wp_seq (wp_block ?_)))
  replace h := at_out (σ' := ⟨[(1, aI x1), (4, .p (.c (cN))), (5, aS 2)], [(2, oR (.u8 5) (([] : List Int) ++ x0))]⟩) { ts := [1, 4, 5], os := [2] } h (by kernel_rfl)
  refine at_loop (fun i : Nat => (⟨[(1, aI (((shN x1.toNat i) : Nat) : Int)), (4, .p (.c (cN))), (5, aS 2)], [(2, oR (.u8 5) (x0 ++ uvT x1.toNat i))]⟩ : St)) (fun i => (i ≤ 6 ∧ ∀ j, j < i → 128 ≤ shN x1.toNat j)) (fun i => (shN x1.toNat i)) (0) h (st_congr2 (fun (d0 : Int) (d1 : List Int) => (⟨[(1, aI d0), (4, .p (.c (cN))), (5, aS 2)], [(2, oR (.u8 5) d1)]⟩ : St)) (show (x1 : Int) = (((shN x1.toNat (0)) : Nat) : Int) from by first | with_reducible rfl | (first | (rw [shN_zero]; omega) | (rw [uvT_zero, List.append_nil]; done) | (rw [uvT_zero, List.append_nil]; rfl)) | rfl) (show ((([] : List Int) ++ x0) : List Int) = (x0 ++ uvT x1.toNat (0)) from by first | with_reducible rfl | (first | (rw [shN_zero]; omega) | (rw [uvT_zero, List.append_nil]; done) | (rw [uvT_zero, List.append_nil]; rfl)) | rfl)) (by exact ⟨by omega, fun j hj => absurd hj (by omega)⟩) ?_
  intro i a w hok0 h
  have hsl := shN_le x1.toNat i
  have hss := shN_succ x1.toNat i
  have htl := uvT_len x1.toNat i
  refine wp_seq (wp_seq ?_)
  refine at_regq [] { ts := [1, 4, 5, 14], os := [2] } [] gamOK hT h (by kernel_rfl) trivial fun a w h => then_normal ?_
  refine at_test (decide ((((shN x1.toNat i) : Nat) : Int) > 127)) h (by kernel_rfl) (fun h2 => ?_) (fun h2 => ?_)
  ·replace h2 : (((shN x1.toNat i) : Nat) : Int) > 127 := of_decide_eq_true h2
   refine wp_skip (then_normal (wp_block (wp_seq ?_)))
   refine at_regq [{}, {}, { hint := some (aI (((shN x1.toNat i) % 128 : Nat) : Int)) }, { hint := some (aI (((shN x1.toNat i) % 128 + 128 : Nat) : Int)) }, {}, { ids := [3] }, { ids := [4] }] { ts := [1, 4, 5], os := [4] } [(AV.p (.c (.v (.int .i64 (IntKind.i64.wrap ((BitVec.ofInt (IntKind.i64).bits (((shN x1.toNat i) : Nat) : Int) &&& BitVec.ofInt (IntKind.i64).bits 127).toNat : Int))))) = AV.p (.c (.v (.int .i64 ((((shN x1.toNat i) % 128 : Nat) : Int)))))), (AV.p (.c (.v (.int .i64 (IntKind.i64.wrap ((BitVec.ofInt (IntKind.i64).bits (((shN x1.toNat i) % 128 : Nat) : Int) ||| BitVec.ofInt (IntKind.i64).bits 128).toNat : Int))))) = AV.p (.c (.v (.int .i64 ((((shN x1.toNat i) % 128 + 128 : Nat) : Int)))))), (0 : Int) ≤ IntKind.u8.wrap ((((shN x1.toNat i) % 128 + 128 : Nat) : Int)) ∧ IntKind.u8.wrap ((((shN x1.toNat i) % 128 + 128 : Nat) : Int)) < (256 : Int), (List.length (x0 ++ uvT x1.toNat i) + List.length ([IntKind.u8.wrap ((((shN x1.toNat i) % 128 + 128 : Nat) : Int))])) * 1 ≤ 140737488355328] gamOK hT h (by kernel_rfl) ⟨hint_int (by have hsl := shN_le x1.toNat i; exact and127 (by omega)), hint_int (by exact or128 (by omega)), (by first | exact u8_range _ | exact getD_u8 (by assumption) _ | (refine ⟨?_, ?_⟩ <;> (first | omega | (simp only [lsA]; omega) | (simp <;> omega)))), (by first | omega | (simp only [lsA]; omega) | (simp <;> omega)), trivial⟩ fun a w h => then_normal ?_
   refine at_regq [{}, { hint := some (aI ((shN x1.toNat (i + 1) : Nat) : Int)) }] { ts := [1, 4, 5], os := [4] } [(0 : Int) ≤ 7, (AV.p (.c (.v (.int .i64 ((Int.fdiv (((shN x1.toNat i) : Nat) : Int) (2 ^ (min (7 : Int).toNat (IntKind.i64).bits))))))) = AV.p (.c (.v (.int .i64 (((shN x1.toNat (i + 1) : Nat) : Int))))))] gamOK hT h (by kernel_rfl) ⟨(by first | omega | (simp only [lsA]; omega) | (simp <;> omega)), hint_int (by rw [shN_succ]; exact shr7), trivial⟩ fun a w h => in_normal ?_
   replace h := at_out (σ' := ⟨[(1, aI ((shN x1.toNat (i + 1) : Nat) : Int)), (4, .p (.c (cN))), (5, aS 2)], [(2, oR (.u8 5) ((x0 ++ uvT x1.toNat i) ++ ([IntKind.u8.wrap ((((shN x1.toNat i) % 128 + 128 : Nat) : Int))])))]⟩) { ts := [1, 4, 5], os := [4], rn := [(4, 2)] } h (by kernel_rfl)
   exact ⟨i + 1, at_eq h (st_congr2 (fun (d0 : Int) (d1 : List Int) => (⟨[(1, aI d0), (4, .p (.c (cN))), (5, aS 2)], [(2, oR (.u8 5) d1)]⟩ : St)) (show (((shN x1.toNat (i + 1) : Nat) : Int) : Int) = (((shN x1.toNat (i + 1)) : Nat) : Int) from by first | with_reducible rfl | (rfl) | rfl) (show (((x0 ++ uvT x1.toNat i) ++ ([IntKind.u8.wrap ((((shN x1.toNat i) % 128 + 128 : Nat) : Int))])) : List Int) = (x0 ++ uvT x1.toNat (i + 1)) from by first | with_reducible rfl | (rw [uvT_succ, u8w (by omega), List.append_assoc]) | rfl)), (by refine ⟨?_, fun j hj => ?_⟩; (by_cases e6 : i = 6; (subst e6; have := shN_six (n := x1.toNat) (by omega); omega); omega); (by_cases e : j = i; (subst e; omega); exact hok0.2 j (by omega))), (by omega)⟩
  ·replace h2 : ¬ ((((shN x1.toNat i) : Nat) : Int) > 127) := of_decide_eq_false h2
   refine wp_exit (then_exit (then_exit (in_hit (then_normal (wp_seq ?_)))))
   refine at_regq [{}, {}, {}, { ids := [5] }, { ids := [6] }] { ts := [4], os := [6] } [(0 : Int) ≤ IntKind.u8.wrap ((((shN x1.toNat i) : Nat) : Int)) ∧ IntKind.u8.wrap ((((shN x1.toNat i) : Nat) : Int)) < (256 : Int), (List.length (x0 ++ uvT x1.toNat i) + List.length ([IntKind.u8.wrap ((((shN x1.toNat i) : Nat) : Int))])) * 1 ≤ 140737488355328] gamOK hT h (by kernel_rfl) ⟨(by first | exact u8_range _ | exact getD_u8 (by assumption) _ | (refine ⟨?_, ?_⟩ <;> (first | omega | (simp only [lsA]; omega) | (simp <;> omega)))), (by first | omega | (simp only [lsA]; omega) | (simp <;> omega)), trivial⟩ fun a w h => then_normal (wp_ret ?_)
   exact at_return (((x0 ++ uvT x1.toNat i) ++ ([IntKind.u8.wrap ((((shN x1.toNat i) : Nat) : Int))])), ()) [] h (by kernel_rfl) trivial (congrArg (fun z => (z, ())) (show (((x0 ++ uvT x1.toNat i) ++ ([IntKind.u8.wrap ((((shN x1.toNat i) : Nat) : Int))]))) = appUv x0 x1 from by first | exact appUv_n (by assumption) | exact appUv_y (by assumption) hok0.1 hok0.2 (by omega)))

abbrev Q_impl_AppendBytes := (fun (x0 : (List Int)) (x1 : (List Int)) => Sh.fit s28 x0 ∧ Sh.fit s28 x1)
def S_impl_AppendBytes : Sum := { fid := 94, dom := [s28, s28], cod := [s28], dp := true, fz := false, pre := fun x => Q_impl_AppendBytes x.1 x.2.1, g := fun x => ((appBy x.1 x.2.1), ()) }
def S_impl_AppendBytes_tab : List (Nat × Sum) := [(101, S_impl_AppendUvarint)]
theorem S_impl_AppendBytes_ok : FnOK Tryz.prog 94 S_impl_AppendBytes := by
 refine at_enter 11 (fun x => ⟨[(0, aF (.u8 5) x.1), (1, aF (.u8 5) x.2.1)], []⟩) Tryz.func94 rfl (by kernel_rfl) (fun x => rfl) ?_
 rintro w0 Z0 ⟨x0, x1, u⟩ a w
 revert x0 x1
 intro (x0 : (List Int)) (x1 : (List Int)) hpre hlens h
 replace hpre : Q_impl_AppendBytes x0 x1 := hpre
 have hu0 : u8L x0 := hlens.1.2
 have hu1 : u8L x1 := hlens.2.1.2
 have hT : TabOK Tryz.prog S_impl_AppendBytes_tab := (.cons S_impl_AppendUvarint_ok .nil)
 obtain ⟨hf0, hf1⟩ := hpre
 have hn0_1 : List.length x0 ≤ 1073741824 := hf0.1
 have hn1_2 : List.length x1 ≤ 1073741824 := hf1.1
 have hal := appUv_le x0 ((List.length x1 : Nat) : Int)
 refine wp_seq ?_
 refine at_regq [] { ts := [0, 1, 4], os := [] } [] gamOK hT h (by kernel_rfl) trivial fun a w h => then_normal (wp_seq ?_)
 refine at_regq [{}, {}, {}, { ids := [1] }, {}, { ids := [2] }] { ts := [4], os := [2] } [Q_impl_AppendUvarint x0 ((List.length x1 : Nat) : Int), (List.length (appUv x0 ((List.length x1 : Nat) : Int)) + List.length x1) * 1 ≤ 140737488355328] gamOK hT h (by kernel_rfl) ⟨(by exact hf0), (by first | omega | (simp only [lsA]; omega) | (simp <;> omega)), trivial⟩ fun a w h => then_normal (wp_ret ?_)
 exact at_return (((appUv x0 ((List.length x1 : Nat) : Int)) ++ x1), ()) [] h (by kernel_rfl) trivial (congrArg (fun z => (z, ())) (show (((appUv x0 ((List.length x1 : Nat) : Int)) ++ x1)) = appBy x0 x1 from by rfl))
theorem symD_fit (x : List Int) (w : Int) : Sh.fit s55 (symD x w) := ⟨by have := (symD_len x w).1; omega, fun r hr => ⟨by have := (symD_len x w).2 r hr; omega, fun _ _ => trivial⟩⟩
theorem splitD_fit (x : List Int) (w s f : Int) : Sh.fit s32 (splitD x w s f) := by
 have h := splitD_bd x w s f
 exact ⟨by omega, fun g hg => ⟨trivial, by have := (h.2 g hg).1; omega, fun r hr => ⟨by have := (h.2 g hg).2 r hr; omega, fun _ _ => trivial⟩⟩⟩

abbrev Q_impl_BytesToSymbols := (fun (x0 : (List Int)) (x1 : Int) => Sh.fit s28 x0)
def S_impl_BytesToSymbols : Sum := { fid := 68, dom := [s28, (.int 3)], cod := [s55], dp := true, fz := false, pre := fun x => Q_impl_BytesToSymbols x.1 x.2.1, g := fun x => ((symD x.1 x.2.1), ()) }
def S_impl_BytesToSymbols_tab : List (Nat × Sum) := [(59, S_impl_InRange), (94, S_impl_AppendBytes)]
theorem S_impl_BytesToSymbols_ok : FnOK Tryz.prog 68 S_impl_BytesToSymbols := by
 refine at_enter 56 (fun x => ⟨[(0, aF (.u8 5) x.1), (1, aI x.2.1)], []⟩) Tryz.func68 rfl (by kernel_rfl) (fun x => rfl) ?_
 rintro w0 Z0 ⟨x0, x1, u⟩ a w
 revert x0 x1
 intro (x0 : (List Int)) (x1 : Int) hpre hlens h
 replace hpre : Q_impl_BytesToSymbols x0 x1 := hpre
 have hu0 : u8L x0 := hlens.1.2
 have hT : TabOK Tryz.prog S_impl_BytesToSymbols_tab := (.cons S_impl_InRange_ok (.cons S_impl_AppendBytes_ok .nil))
 have hf0 : Sh.fit s28 x0 := hpre
 have hn0_1 : List.length x0 ≤ 1073741824 := hf0.1
 have hal : u8L (appBy ([] : List Int) x0) := appBy_u8 u8L_nil hu0
 have hlb := appBy_le ([] : List Int) x0
 have hnl : List.length ([] : List Int) = 0 := rfl
 refine wp_seq ?_
 refine at_regq [] { ts := [0, 1, 4], os := [] } [] gamOK hT h (by kernel_rfl) trivial fun a w h => then_normal (wp_seq (wp_seq ?_))
 rcases Bool.eq_false_or_eq_true (!(inR x1 1 16)) with h1 | h1
 ·have hzh1 : (inR x1 1 16) = false := notT h1
  have hvh1 := inR_f (notT h1)
  refine at_regq [{}, {}, { hint := some (aB true) }] { ts := [0, 1, 4, 18], os := [] } [True, (AV.p (.c (.v (.bool (!(inR x1 1 16))))) = AV.p (.c (.v (.bool true))))] gamOK hT h (by kernel_rfl) ⟨trivial, hint_bool (h1), trivial⟩ fun a w h => then_normal ?_
  refine at_test true h (by kernel_rfl) (fun hh => ?_) (fun hh => nomatch hh)
  refine wp_seq ?_
  refine at_regq [] { ts := [0, 1, 4], os := [] } [] gamOK hT h (by kernel_rfl) trivial fun a w h => then_normal (wp_ret (then_ret ?_))
  exact at_return (([] : List (List Int)), ()) [] h (by kernel_rfl) trivial (congrArg (fun z => (z, ())) (show (([] : List (List Int))) = symD x0 x1 from by first | exact symD_n (by first | (left; assumption) | (right; omega)) | exact symD_y (by assumption) (by omega)))
 ·have hzh1 : (inR x1 1 16) = true := notF h1
  have hvh1 := inR_t (notF h1)
  have hir := inR_t (show inR x1 1 16 = true from by first | assumption | (simp_all; done))
  refine at_regq [{}, {}, { hint := some (aB false) }] { ts := [0, 1, 4, 18], os := [] } [True, (AV.p (.c (.v (.bool (!(inR x1 1 16))))) = AV.p (.c (.v (.bool false))))] gamOK hT h (by kernel_rfl) ⟨trivial, hint_bool (h1), trivial⟩ fun a w h => then_normal ?_
  refine at_test (decide (((List.length x0 : Nat) : Int) > 400)) h (by kernel_rfl) (fun h2 => ?_) (fun h2 => ?_)
  ·replace h2 : ((List.length x0 : Nat) : Int) > 400 := of_decide_eq_true h2
   refine wp_seq ?_
   refine at_regq [] { ts := [0, 1, 4], os := [] } [] gamOK hT h (by kernel_rfl) trivial fun a w h => then_normal (wp_ret (then_ret ?_))
   exact at_return (([] : List (List Int)), ()) [] h (by kernel_rfl) trivial (congrArg (fun z => (z, ())) (show (([] : List (List Int))) = symD x0 x1 from by first | exact symD_n (by first | (left; assumption) | (right; omega)) | exact symD_y (by assumption) (by omega)))
  ·replace h2 : ¬ (((List.length x0 : Nat) : Int) > 400) := of_decide_eq_false h2
   refine wp_skip (then_normal (wp_seq ?_))
   refine at_regq [{}, { frz := true }] { ts := [1, 4, 5], os := [] } [Q_impl_AppendBytes ([] : List Int) x0] gamOK hT h (by kernel_rfl) ⟨(by exact ⟨Sh.fit_nil, hf0⟩), trivial⟩ fun a w h => then_normal (wp_seq ?_)
   refine at_regq [] { ts := [1, 4, 5, 6], os := [] } [] gamOK hT h (by kernel_rfl) trivial fun a w h => then_normal (wp_seq (wp_seq ?_))
   refine at_regq [] { ts := [1, 4, 5, 6, 7], os := [] } [] gamOK hT h (by kernel_rfl) trivial fun a w h => then_normal (wp_block ?_)
   replace h := at_out (σ' := ⟨[(1, aI x1), (4, .p (.c (cN))), (5, aF (.u8 5) (appBy ([] : List Int) x0)), (6, aS 1), (7, aI 0)], [(1, oR s22 ([] : List (List Int)))]⟩) { mt := [⟨none, 6, 1, true, s22⟩], ts := [1, 4, 5, 6, 7], os := [1] } h (by kernel_rfl)
   refine at_loop (fun i : Nat => (⟨[(1, aI x1), (4, .p (.c (cN))), (5, aF (.u8 5) (appBy ([] : List Int) x0)), (6, aS 1), (7, aI ((i * x1.toNat : Nat) : Int))], [(1, oR s22 (symTo (appBy ([] : List Int) x0) x1.toNat i))]⟩ : St)) (fun i => (i * x1.toNat < List.length (appBy ([] : List Int) x0) + x1.toNat)) (fun i => List.length (appBy ([] : List Int) x0) + x1.toNat - i * x1.toNat) (0) h (st_congr2 (fun (d0 : Int) (d1 : List (List Int)) => (⟨[(1, aI x1), (4, .p (.c (cN))), (5, aF (.u8 5) (appBy ([] : List Int) x0)), (6, aS 1), (7, aI d0)], [(1, oR s22 d1)]⟩ : St)) (show (0 : Int) = (((0) * x1.toNat : Nat) : Int) from by first | with_reducible rfl | (first | rfl | (simp; done)) | rfl) (show (([] : List (List Int)) : List (List Int)) = (symTo (appBy ([] : List Int) x0) x1.toNat (0)) from by first | with_reducible rfl | (first | rfl | (simp; done)) | rfl)) (by (simp only [Nat.zero_mul]; omega)) ?_
   intro i a w hok0 h
   have hm := Nat.succ_mul i x1.toNat
   have hsl := symTo_len (appBy ([] : List Int) x0) x1.toNat i
   have hil : i ≤ i * x1.toNat := Nat.le_mul_of_pos_right i (by omega)
   refine wp_seq (wp_seq ?_)
   refine at_regq [] { ts := [1, 4, 5, 6, 7, 24], os := [1] } [] gamOK hT h (by kernel_rfl) trivial fun a w h => then_normal ?_
   refine at_test (decide (((i * x1.toNat : Nat) : Int) < ((List.length (appBy ([] : List Int) x0) : Nat) : Int))) h (by kernel_rfl) (fun h3 => ?_) (fun h3 => ?_)
   ·replace h3 : ((i * x1.toNat : Nat) : Int) < ((List.length (appBy ([] : List Int) x0) : Nat) : Int) := of_decide_eq_true h3
    refine wp_skip (then_normal (wp_seq (wp_block (wp_seq ?_))))
    refine at_regq [{}, { ids := [2] }] { ts := [1, 4, 5, 6, 7, 8], os := [1, 2] } [(0 : Int) ≤ x1 ∧ x1 = x1 ∧ x1 * (8 : Nat) ≤ (140737488355328 : Int)] gamOK hT h (by kernel_rfl) ⟨(by refine ⟨?_, ?_, ?_⟩ <;> ((have hA0 := mul_f x1 (8 : Nat); first | omega | (simp only [lsA]; omega) | (simp <;> omega)))), trivial⟩ fun a w h => then_normal (wp_seq (wp_seq ?_))
    refine at_regq [{}, {}, {}, {}, { nw := true }, {}, {}, { hint := some (aI (((min (i * x1.toNat + x1.toNat) (List.length (appBy ([] : List Int) x0))) : Nat) : Int)) }] { ts := [1, 4, 5, 6, 7, 8, 38, 39, 40], os := [1, 2] } [I64 (((i * x1.toNat : Nat) : Int) + x1), (AV.p (.c (.v (.int .i64 (if ((List.length (appBy ([] : List Int) x0) : Nat) : Int) < ((i * x1.toNat : Nat) : Int) + x1 then ((List.length (appBy ([] : List Int) x0) : Nat) : Int) else ((i * x1.toNat : Nat) : Int) + x1)))) = AV.p (.c (.v (.int .i64 ((((min (i * x1.toNat + x1.toNat) (List.length (appBy ([] : List Int) x0))) : Nat) : Int)))))), (0 : Int) ≤ ((i * x1.toNat : Nat) : Int) ∧ ((i * x1.toNat : Nat) : Int) ≤ (((min (i * x1.toNat + x1.toNat) (List.length (appBy ([] : List Int) x0))) : Nat) : Int) ∧ (((min (i * x1.toNat + x1.toNat) (List.length (appBy ([] : List Int) x0))) : Nat) : Int) ≤ ((List.length (appBy ([] : List Int) x0) : Nat) : Int)] gamOK hT h (by kernel_rfl) ⟨⟨by (have hA0 := mul_f i x1.toNat; first | omega | (simp only [lsA]; omega) | (simp <;> omega)), by (have hA0 := mul_f i x1.toNat; first | omega | (simp only [lsA]; omega) | (simp <;> omega))⟩, hint_int (by split <;> omega), (by refine ⟨?_, ?_, ?_⟩ <;> ((have hA0 := mul_f i x1.toNat; first | omega | (simp only [lsA]; omega) | (simp <;> omega)))), trivial⟩ fun a w h => then_normal (wp_block ?_)
    replace h := at_out (σ' := ⟨[(1, aI x1), (4, .p (.c (cN))), (5, aF (.u8 5) (appBy ([] : List Int) x0)), (6, aS 1), (7, aI ((i * x1.toNat : Nat) : Int)), (8, aS 2), (38, aF (.u8 5) (List.drop (i * x1.toNat) (List.take (min (i * x1.toNat + x1.toNat) (List.length (appBy ([] : List Int) x0))) (appBy ([] : List Int) x0)))), (39, aI ((List.length (List.drop (i * x1.toNat) (List.take (min (i * x1.toNat + x1.toNat) (List.length (appBy ([] : List Int) x0))) (appBy ([] : List Int) x0))) : Nat) : Int)), (40, aI 0)], [(1, oR s22 (symTo (appBy ([] : List Int) x0) x1.toNat i)), (2, oR (.int 3) (List.replicate ((x1).toNat) (0 : Int)))]⟩) { ts := [1, 4, 5, 6, 7, 8, 38, 39, 40], os := [1, 2] } h (by kernel_rfl)
    refine at_loop (fun k : Nat => (⟨[(1, aI x1), (4, .p (.c (cN))), (5, aF (.u8 5) (appBy ([] : List Int) x0)), (6, aS 1), (7, aI ((i * x1.toNat : Nat) : Int)), (8, aS 2), (38, aF (.u8 5) (List.drop (i * x1.toNat) (List.take (min (i * x1.toNat + x1.toNat) (List.length (appBy ([] : List Int) x0))) (appBy ([] : List Int) x0)))), (39, aI ((List.length (List.drop (i * x1.toNat) (List.take (min (i * x1.toNat + x1.toNat) (List.length (appBy ([] : List Int) x0))) (appBy ([] : List Int) x0))) : Nat) : Int)), (40, aI ((k : Nat) : Int))], [(1, oR s22 (symTo (appBy ([] : List Int) x0) x1.toNat i)), (2, oR (.int 3) (rowTo (appBy ([] : List Int) x0) x1.toNat i k))]⟩ : St)) (fun k => k ≤ List.length (List.drop (i * x1.toNat) (List.take (min (i * x1.toNat + x1.toNat) (List.length (appBy ([] : List Int) x0))) (appBy ([] : List Int) x0)))) (fun k => List.length (List.drop (i * x1.toNat) (List.take (min (i * x1.toNat + x1.toNat) (List.length (appBy ([] : List Int) x0))) (appBy ([] : List Int) x0))) - k) (0) h (st_congr2 (fun (d0 : List Int) (d1 : Int) => (⟨[(1, aI x1), (4, .p (.c (cN))), (5, aF (.u8 5) (appBy ([] : List Int) x0)), (6, aS 1), (7, aI ((i * x1.toNat : Nat) : Int)), (8, aS 2), (38, aF (.u8 5) (List.drop (i * x1.toNat) (List.take (min (i * x1.toNat + x1.toNat) (List.length (appBy ([] : List Int) x0))) (appBy ([] : List Int) x0)))), (39, aI ((List.length (List.drop (i * x1.toNat) (List.take (min (i * x1.toNat + x1.toNat) (List.length (appBy ([] : List Int) x0))) (appBy ([] : List Int) x0))) : Nat) : Int)), (40, aI d1)], [(1, oR s22 (symTo (appBy ([] : List Int) x0) x1.toNat i)), (2, oR (.int 3) d0)]⟩ : St)) (show ((List.replicate ((x1).toNat) (0 : Int)) : List Int) = (rowTo (appBy ([] : List Int) x0) x1.toNat i (0)) from by first | with_reducible rfl | (exact rowTo_zero _ _ _) | rfl) (show (0 : Int) = (((0) : Nat) : Int) from by first | with_reducible rfl | (exact rowTo_zero _ _ _) | rfl)) (by omega) ?_
    intro k a w hok1 h
    have hu1 := slice_u8 hal (i * x1.toNat) (min (i * x1.toNat + x1.toNat) (List.length (appBy ([] : List Int) x0))) k
    have hrl := rowTo_len (appBy ([] : List Int) x0) x1.toNat i k
    have hdl : List.length (List.drop (i * x1.toNat) (List.take (min (i * x1.toNat + x1.toNat) (List.length (appBy ([] : List Int) x0))) (appBy ([] : List Int) x0))) ≤ x1.toNat := by rw [List.length_drop, List.length_take]; omega
    refine wp_seq ?_
    refine at_regq [] { ts := [1, 4, 5, 6, 7, 8, 38, 39, 40, 41], os := [1, 2] } [] gamOK hT h (by kernel_rfl) trivial fun a w h => then_normal (wp_seq ?_)
    refine at_test (decide (((k : Nat) : Int) < ((List.length (List.drop (i * x1.toNat) (List.take (min (i * x1.toNat + x1.toNat) (List.length (appBy ([] : List Int) x0))) (appBy ([] : List Int) x0))) : Nat) : Int))) h (by kernel_rfl) (fun h4 => ?_) (fun h4 => ?_)
    ·replace h4 : ((k : Nat) : Int) < ((List.length (List.drop (i * x1.toNat) (List.take (min (i * x1.toNat + x1.toNat) (List.length (appBy ([] : List Int) x0))) (appBy ([] : List Int) x0))) : Nat) : Int) := of_decide_eq_true h4
     refine wp_skip (then_normal (wp_seq (wp_block (wp_seq ?_))))
     refine at_regq [] { ts := [1, 4, 5, 6, 7, 8, 9, 10, 38, 39, 40], os := [1, 2] } [(0 : Int) ≤ ((k : Nat) : Int) ∧ ((k : Nat) : Int) < ((List.length (List.drop (i * x1.toNat) (List.take (min (i * x1.toNat + x1.toNat) (List.length (appBy ([] : List Int) x0))) (appBy ([] : List Int) x0))) : Nat) : Int)] gamOK hT h (by kernel_rfl) ⟨(by refine ⟨?_, ?_⟩ <;> ((have hA0 := mul_f i x1.toNat; first | omega | (simp only [lsA]; omega) | (simp <;> omega)))), trivial⟩ fun a w h => then_normal ?_
     refine at_regq [{}, {}, {}, { hint := some (aI ((List.drop (i * x1.toNat) (List.take (min (i * x1.toNat + x1.toNat) (List.length (appBy ([] : List Int) x0))) (appBy ([] : List Int) x0))).getD k 0)) }] { ts := [1, 4, 5, 6, 7, 8, 38, 39, 40], os := [1, 2] } [(AV.p (.c (.v (.int .i64 (IntKind.i64.wrap (((List.drop (i * x1.toNat) (List.take (min (i * x1.toNat + x1.toNat) (List.length (appBy ([] : List Int) x0))) (appBy ([] : List Int) x0))).getD k 0)))))) = AV.p (.c (.v (.int .i64 (((List.drop (i * x1.toNat) (List.take (min (i * x1.toNat + x1.toNat) (List.length (appBy ([] : List Int) x0))) (appBy ([] : List Int) x0))).getD k 0)))))), (0 : Int) ≤ ((k : Nat) : Int) ∧ ((k : Nat) : Int) < ((List.length (rowTo (appBy ([] : List Int) x0) x1.toNat i k) : Nat) : Int), k < List.length (rowTo (appBy ([] : List Int) x0) x1.toNat i k)] gamOK hT h (by kernel_rfl) ⟨hint_int (wrap_id ⟨by (have hA0 := mul_f i x1.toNat; first | omega | (simp only [lsA]; omega) | (simp <;> omega)), by (have hA0 := mul_f i x1.toNat; first | omega | (simp only [lsA]; omega) | (simp <;> omega))⟩), (by refine ⟨?_, ?_⟩ <;> (first | omega | (simp only [lsA]; omega) | (simp <;> omega))), (by first | omega | (simp only [lsA]; omega) | (simp <;> omega)), trivial⟩ fun a w h => in_normal (then_normal ?_)
     refine at_regq [{ nw := true }] { ts := [1, 4, 5, 6, 7, 8, 38, 39, 40], os := [1, 2] } [I64 (((k : Nat) : Int) + 1)] gamOK hT h (by kernel_rfl) ⟨⟨by first | omega | (simp only [lsA]; omega) | (simp <;> omega), by first | omega | (simp only [lsA]; omega) | (simp <;> omega)⟩, trivial⟩ fun a w h => ?_
     replace h := at_out (σ' := ⟨[(1, aI x1), (4, .p (.c (cN))), (5, aF (.u8 5) (appBy ([] : List Int) x0)), (6, aS 1), (7, aI ((i * x1.toNat : Nat) : Int)), (8, aS 2), (38, aF (.u8 5) (List.drop (i * x1.toNat) (List.take (min (i * x1.toNat + x1.toNat) (List.length (appBy ([] : List Int) x0))) (appBy ([] : List Int) x0)))), (39, aI ((List.length (List.drop (i * x1.toNat) (List.take (min (i * x1.toNat + x1.toNat) (List.length (appBy ([] : List Int) x0))) (appBy ([] : List Int) x0))) : Nat) : Int)), (40, aI (((k : Nat) : Int) + 1))], [(1, oR s22 (symTo (appBy ([] : List Int) x0) x1.toNat i)), (2, oR (.int 3) (List.set (rowTo (appBy ([] : List Int) x0) x1.toNat i k) k ((List.drop (i * x1.toNat) (List.take (min (i * x1.toNat + x1.toNat) (List.length (appBy ([] : List Int) x0))) (appBy ([] : List Int) x0))).getD k 0)))]⟩) { ts := [1, 4, 5, 6, 7, 8, 38, 39, 40], os := [1, 2] } h (by kernel_rfl)
     exact ⟨k + 1, at_eq h (st_congr2 (fun (d0 : List Int) (d1 : Int) => (⟨[(1, aI x1), (4, .p (.c (cN))), (5, aF (.u8 5) (appBy ([] : List Int) x0)), (6, aS 1), (7, aI ((i * x1.toNat : Nat) : Int)), (8, aS 2), (38, aF (.u8 5) (List.drop (i * x1.toNat) (List.take (min (i * x1.toNat + x1.toNat) (List.length (appBy ([] : List Int) x0))) (appBy ([] : List Int) x0)))), (39, aI ((List.length (List.drop (i * x1.toNat) (List.take (min (i * x1.toNat + x1.toNat) (List.length (appBy ([] : List Int) x0))) (appBy ([] : List Int) x0))) : Nat) : Int)), (40, aI d1)], [(1, oR s22 (symTo (appBy ([] : List Int) x0) x1.toNat i)), (2, oR (.int 3) d0)]⟩ : St)) (show ((List.set (rowTo (appBy ([] : List Int) x0) x1.toNat i k) k ((List.drop (i * x1.toNat) (List.take (min (i * x1.toNat + x1.toNat) (List.length (appBy ([] : List Int) x0))) (appBy ([] : List Int) x0))).getD k 0)) : List Int) = (rowTo (appBy ([] : List Int) x0) x1.toNat i (k + 1)) from by first | with_reducible rfl | (exact rowTo_set2 (by omega)) | rfl) (show (((k : Nat) : Int) + 1 : Int) = (((k + 1) : Nat) : Int) from by first | with_reducible rfl | (omega) | rfl)), (by omega), (by omega)⟩
    ·replace h4 : ¬ (((k : Nat) : Int) < ((List.length (List.drop (i * x1.toNat) (List.take (min (i * x1.toNat + x1.toNat) (List.length (appBy ([] : List Int) x0))) (appBy ([] : List Int) x0))) : Nat) : Int)) := of_decide_eq_false h4
     refine wp_exit (then_exit ?_)
     replace h := at_out (σ' := ⟨[(1, aI x1), (4, .p (.c (cN))), (5, aF (.u8 5) (appBy ([] : List Int) x0)), (6, aS 1), (7, aI ((i * x1.toNat : Nat) : Int)), (8, aS 2)], [(1, oR s22 (symTo (appBy ([] : List Int) x0) x1.toNat i)), (2, oR (.int 3) (rowTo (appBy ([] : List Int) x0) x1.toNat i k))]⟩) { ts := [1, 4, 5, 6, 7, 8], os := [1, 2] } h (by kernel_rfl)
     replace h := at_eq (σ' := ⟨[(1, aI x1), (4, .p (.c (cN))), (5, aF (.u8 5) (appBy ([] : List Int) x0)), (6, aS 1), (7, aI ((i * x1.toNat : Nat) : Int)), (8, aS 2)], [(1, oR s22 (symTo (appBy ([] : List Int) x0) x1.toNat i)), (2, oR (.int 3) (symRow (appBy ([] : List Int) x0) x1.toNat i))]⟩) h (st_congr1 (fun (d0 : List Int) => (⟨[(1, aI x1), (4, .p (.c (cN))), (5, aF (.u8 5) (appBy ([] : List Int) x0)), (6, aS 1), (7, aI ((i * x1.toNat : Nat) : Int)), (8, aS 2)], [(1, oR s22 (symTo (appBy ([] : List Int) x0) x1.toNat i)), (2, oR (.int 3) d0)]⟩ : St)) (show ((rowTo (appBy ([] : List Int) x0) x1.toNat i k) : List Int) = (symRow (appBy ([] : List Int) x0) x1.toNat i) from by first | with_reducible rfl | (exact rowTo_all2 (by omega)) | rfl))
     refine then_exit (in_hit (then_normal ?_))
     refine at_regq [{}, {}, { ids := [3] }, { ids := [4] }] { ts := [1, 4, 5, 6, 7], os := [4] } [(List.length (symTo (appBy ([] : List Int) x0) x1.toNat i) + List.length ([(symRow (appBy ([] : List Int) x0) x1.toNat i)])) * 24 ≤ 140737488355328] gamOK hT h (by kernel_rfl) ⟨(by first | omega | (simp only [lsA]; omega) | (simp <;> omega)), trivial⟩ fun a w h => in_normal (then_normal ?_)
     refine at_regq [{}, {}, { nw := true }] { ts := [1, 4, 5, 6, 7], os := [4] } [I64 (((i * x1.toNat : Nat) : Int) + x1)] gamOK hT h (by kernel_rfl) ⟨⟨by (have hA0 := mul_f i x1.toNat; first | omega | (simp only [lsA]; omega) | (simp <;> omega)), by (have hA0 := mul_f i x1.toNat; first | omega | (simp only [lsA]; omega) | (simp <;> omega))⟩, trivial⟩ fun a w h => ?_
     replace h := at_out (σ' := ⟨[(1, aI x1), (4, .p (.c (cN))), (5, aF (.u8 5) (appBy ([] : List Int) x0)), (6, aS 1), (7, aI (((i * x1.toNat : Nat) : Int) + x1))], [(1, oR s22 ((symTo (appBy ([] : List Int) x0) x1.toNat i) ++ ([(symRow (appBy ([] : List Int) x0) x1.toNat i)])))]⟩) { ts := [1, 4, 5, 6, 7], os := [4], rn := [(4, 1)] } h (by kernel_rfl)
     exact ⟨i + 1, at_eq h (st_congr2 (fun (d0 : Int) (d1 : List (List Int)) => (⟨[(1, aI x1), (4, .p (.c (cN))), (5, aF (.u8 5) (appBy ([] : List Int) x0)), (6, aS 1), (7, aI d0)], [(1, oR s22 d1)]⟩ : St)) (show (((i * x1.toNat : Nat) : Int) + x1 : Int) = (((i + 1) * x1.toNat : Nat) : Int) from by first | with_reducible rfl | ((rw [Nat.succ_mul]; omega)) | rfl) (show (((symTo (appBy ([] : List Int) x0) x1.toNat i) ++ ([(symRow (appBy ([] : List Int) x0) x1.toNat i)])) : List (List Int)) = (symTo (appBy ([] : List Int) x0) x1.toNat (i + 1)) from by first | with_reducible rfl | (exact (symTo_succ _ _ _).symm) | rfl)), (by (rw [Nat.succ_mul]; omega)), (by (rw [Nat.succ_mul]; omega))⟩
   ·replace h3 : ¬ (((i * x1.toNat : Nat) : Int) < ((List.length (appBy ([] : List Int) x0) : Nat) : Int)) := of_decide_eq_false h3
    refine wp_exit (then_exit ?_)
    replace h := at_out (σ' := ⟨[(4, .p (.c (cN))), (6, aS 1)], [(1, oR s22 (symTo (appBy ([] : List Int) x0) x1.toNat i))]⟩) { ts := [4, 6], os := [1] } h (by kernel_rfl)
    replace h := at_eq (σ' := ⟨[(4, .p (.c (cN))), (6, aS 1)], [(1, oR s22 (symS (appBy ([] : List Int) x0) x1.toNat))]⟩) h (st_congr1 (fun (d0 : List (List Int)) => (⟨[(4, .p (.c (cN))), (6, aS 1)], [(1, oR s22 d0)]⟩ : St)) (show ((symTo (appBy ([] : List Int) x0) x1.toNat i) : List (List Int)) = (symS (appBy ([] : List Int) x0) x1.toNat) from by first | with_reducible rfl | (exact symS_end (by omega) (by omega) hok0) | rfl))
    refine then_exit (in_hit (then_normal (wp_seq ?_)))
    refine at_regq [] { ts := [4], os := [1] } [] gamOK hT h (by kernel_rfl) trivial fun a w h => then_normal (wp_ret ?_)
    exact at_return ((symS (appBy ([] : List Int) x0) x1.toNat), ()) [] h (by kernel_rfl) trivial (congrArg (fun z => (z, ())) (show ((symS (appBy ([] : List Int) x0) x1.toNat)) = symD x0 x1 from by first | exact symD_n (by first | (left; assumption) | (right; omega)) | exact symD_y (by assumption) (by omega)))

abbrev Q_spec_BytesToSymbols := (fun (x0 : (List Int)) (x1 : Int) => Sh.fit s28 x0)
def S_spec_BytesToSymbols : Sum := { fid := 55, dom := [s28, (.int 3)], cod := [s55], dp := true, fz := false, pre := fun x => Q_spec_BytesToSymbols x.1 x.2.1, g := fun x => ((symD x.1 x.2.1), ()) }
def S_spec_BytesToSymbols_tab : List (Nat × Sum) := [(45, S_spec_l1In), (78, S_spec_AppendUvarint)]
theorem S_spec_BytesToSymbols_ok : FnOK Tryz.prog 55 S_spec_BytesToSymbols := by
 refine at_enter 63 (fun x => ⟨[(0, aF (.u8 5) x.1), (1, aI x.2.1)], []⟩) Tryz.func55 rfl (by kernel_rfl) (fun x => rfl) ?_
 rintro w0 Z0 ⟨x0, x1, u⟩ a w
 revert x0 x1
 intro (x0 : (List Int)) (x1 : Int) hpre hlens h
 replace hpre : Q_spec_BytesToSymbols x0 x1 := hpre
 have hu0 : u8L x0 := hlens.1.2
 have hT : TabOK Tryz.prog S_spec_BytesToSymbols_tab := (.cons S_spec_l1In_ok (.cons S_spec_AppendUvarint_ok .nil))
 have hf0 : Sh.fit s28 x0 := hpre
 have hn0_1 : List.length x0 ≤ 1073741824 := hf0.1
 have hl2 := appUv_le ([] : List Int) ((List.length x0 : Nat) : Int)
 have hal : u8L ((appUv ([] : List Int) ((List.length x0 : Nat) : Int)) ++ x0) := appBy_u8 u8L_nil hu0
 have hlb : List.length ((appUv ([] : List Int) ((List.length x0 : Nat) : Int)) ++ x0) ≤ _ := appBy_le ([] : List Int) x0
 have hnl : List.length ([] : List Int) = 0 := rfl
 refine wp_seq ?_
 refine at_regq [] { ts := [0, 1, 4], os := [] } [] gamOK hT h (by kernel_rfl) trivial fun a w h => then_normal (wp_seq ?_)
 refine at_regq [{ ids := [1] }] { ts := [0, 1, 4, 5], os := [1] } [] gamOK hT h (by kernel_rfl) trivial fun a w h => then_normal (wp_seq (wp_seq ?_))
 rcases Bool.eq_false_or_eq_true (!(inR x1 1 16)) with h1 | h1
 ·have hzh1 : (inR x1 1 16) = false := notT h1
  have hvh1 := inR_f (notT h1)
  refine at_regq [{}, {}, { hint := some (aB true) }] { ts := [0, 1, 4, 5, 18], os := [1] } [True, (AV.p (.c (.v (.bool (!(inR x1 1 16))))) = AV.p (.c (.v (.bool true))))] gamOK hT h (by kernel_rfl) ⟨trivial, hint_bool (h1), trivial⟩ fun a w h => then_normal ?_
  refine at_test true h (by kernel_rfl) (fun hh => ?_) (fun hh => nomatch hh)
  refine wp_seq ?_
  refine at_regq [] { ts := [0, 1, 4, 5], os := [1] } [] gamOK hT h (by kernel_rfl) trivial fun a w h => then_normal (wp_ret (then_ret ?_))
  exact at_return (([] : List (List Int)), ()) [] h (by kernel_rfl) trivial (congrArg (fun z => (z, ())) (show (([] : List (List Int))) = symD x0 x1 from by first | exact symD_n (by first | (left; assumption) | (right; omega)) | exact symD_y (by assumption) (by omega)))
 ·have hzh1 : (inR x1 1 16) = true := notF h1
  have hvh1 := inR_t (notF h1)
  have hir := inR_t (show inR x1 1 16 = true from by first | assumption | (simp_all; done))
  refine at_regq [{}, {}, { hint := some (aB false) }] { ts := [0, 1, 4, 5, 18], os := [1] } [True, (AV.p (.c (.v (.bool (!(inR x1 1 16))))) = AV.p (.c (.v (.bool false))))] gamOK hT h (by kernel_rfl) ⟨trivial, hint_bool (h1), trivial⟩ fun a w h => then_normal ?_
  refine at_test (decide (((List.length x0 : Nat) : Int) > 400)) h (by kernel_rfl) (fun h2 => ?_) (fun h2 => ?_)
  ·replace h2 : ((List.length x0 : Nat) : Int) > 400 := of_decide_eq_true h2
   refine wp_seq ?_
   refine at_regq [] { ts := [0, 1, 4, 5], os := [1] } [] gamOK hT h (by kernel_rfl) trivial fun a w h => then_normal (wp_ret (then_ret ?_))
   exact at_return (([] : List (List Int)), ()) [] h (by kernel_rfl) trivial (congrArg (fun z => (z, ())) (show (([] : List (List Int))) = symD x0 x1 from by first | exact symD_n (by first | (left; assumption) | (right; omega)) | exact symD_y (by assumption) (by omega)))
  ·replace h2 : ¬ (((List.length x0 : Nat) : Int) > 400) := of_decide_eq_false h2
   refine wp_skip (then_normal (wp_seq ?_))
   refine at_regq [{ ids := [2] }, {}, {}, { ids := [3] }, {}, { ids := [4], frz := true }] { ts := [1, 4, 5, 6], os := [1] } [Q_spec_AppendUvarint ([] : List Int) ((List.length x0 : Nat) : Int), (List.length (appUv ([] : List Int) ((List.length x0 : Nat) : Int)) + List.length x0) * 1 ≤ 140737488355328] gamOK hT h (by kernel_rfl) ⟨(by exact Sh.fit_nil), (by first | omega | (simp only [lsA]; omega) | (simp <;> omega)), trivial⟩ fun a w h => then_normal (wp_seq (wp_seq ?_))
   refine at_regq [] { ts := [1, 4, 5, 6, 7], os := [1] } [] gamOK hT h (by kernel_rfl) trivial fun a w h => then_normal (wp_block ?_)
   replace h := at_out (σ' := ⟨[(1, aI x1), (4, .p (.c (cN))), (5, aS 1), (6, aF (.u8 5) ((appUv ([] : List Int) ((List.length x0 : Nat) : Int)) ++ x0)), (7, aI 0)], [(1, oR s22 ([] : List (List Int)))]⟩) { ts := [1, 4, 5, 6, 7], os := [1] } h (by kernel_rfl)
   refine at_loop (fun i : Nat => (⟨[(1, aI x1), (4, .p (.c (cN))), (5, aS 1), (6, aF (.u8 5) ((appUv ([] : List Int) ((List.length x0 : Nat) : Int)) ++ x0)), (7, aI ((i * x1.toNat : Nat) : Int))], [(1, oR s22 (symTo ((appUv ([] : List Int) ((List.length x0 : Nat) : Int)) ++ x0) x1.toNat i))]⟩ : St)) (fun i => (i * x1.toNat < List.length ((appUv ([] : List Int) ((List.length x0 : Nat) : Int)) ++ x0) + x1.toNat)) (fun i => List.length ((appUv ([] : List Int) ((List.length x0 : Nat) : Int)) ++ x0) + x1.toNat - i * x1.toNat) (0) h (st_congr2 (fun (d0 : Int) (d1 : List (List Int)) => (⟨[(1, aI x1), (4, .p (.c (cN))), (5, aS 1), (6, aF (.u8 5) ((appUv ([] : List Int) ((List.length x0 : Nat) : Int)) ++ x0)), (7, aI d0)], [(1, oR s22 d1)]⟩ : St)) (show (0 : Int) = (((0) * x1.toNat : Nat) : Int) from by first | with_reducible rfl | (first | rfl | (simp; done)) | rfl) (show (([] : List (List Int)) : List (List Int)) = (symTo ((appUv ([] : List Int) ((List.length x0 : Nat) : Int)) ++ x0) x1.toNat (0)) from by first | with_reducible rfl | (first | rfl | (simp; done)) | rfl)) (by (simp only [Nat.zero_mul]; omega)) ?_
   intro i a w hok0 h
   have hm := Nat.succ_mul i x1.toNat
   have hsl := symTo_len ((appUv ([] : List Int) ((List.length x0 : Nat) : Int)) ++ x0) x1.toNat i
   have hil : i ≤ i * x1.toNat := Nat.le_mul_of_pos_right i (by omega)
   refine wp_seq (wp_seq ?_)
   refine at_regq [] { ts := [1, 4, 5, 6, 7, 29], os := [1] } [] gamOK hT h (by kernel_rfl) trivial fun a w h => then_normal ?_
   refine at_test (decide (((i * x1.toNat : Nat) : Int) < ((List.length ((appUv ([] : List Int) ((List.length x0 : Nat) : Int)) ++ x0) : Nat) : Int))) h (by kernel_rfl) (fun h3 => ?_) (fun h3 => ?_)
   ·replace h3 : ((i * x1.toNat : Nat) : Int) < ((List.length ((appUv ([] : List Int) ((List.length x0 : Nat) : Int)) ++ x0) : Nat) : Int) := of_decide_eq_true h3
    refine wp_skip (then_normal (wp_seq (wp_block (wp_seq ?_))))
    refine at_regq [{}, { ids := [5] }] { ts := [1, 4, 5, 6, 7, 8], os := [1, 5] } [(0 : Int) ≤ x1 ∧ x1 = x1 ∧ x1 * (8 : Nat) ≤ (140737488355328 : Int)] gamOK hT h (by kernel_rfl) ⟨(by refine ⟨?_, ?_, ?_⟩ <;> ((have hA0 := mul_f x1 (8 : Nat); first | omega | (simp only [lsA]; omega) | (simp <;> omega)))), trivial⟩ fun a w h => then_normal (wp_seq (wp_seq ?_))
    refine at_regq [] { ts := [1, 4, 5, 6, 7, 8, 9], os := [1, 5] } [] gamOK hT h (by kernel_rfl) trivial fun a w h => then_normal (wp_block ?_)
    replace h := at_out (σ' := ⟨[(1, aI x1), (4, .p (.c (cN))), (5, aS 1), (6, aF (.u8 5) ((appUv ([] : List Int) ((List.length x0 : Nat) : Int)) ++ x0)), (7, aI ((i * x1.toNat : Nat) : Int)), (8, aS 5), (9, aI 0)], [(1, oR s22 (symTo ((appUv ([] : List Int) ((List.length x0 : Nat) : Int)) ++ x0) x1.toNat i)), (5, oR (.int 3) (List.replicate ((x1).toNat) (0 : Int)))]⟩) { ts := [1, 4, 5, 6, 7, 8, 9], os := [1, 5] } h (by kernel_rfl)
    refine at_loop (fun k : Nat => (⟨[(1, aI x1), (4, .p (.c (cN))), (5, aS 1), (6, aF (.u8 5) ((appUv ([] : List Int) ((List.length x0 : Nat) : Int)) ++ x0)), (7, aI ((i * x1.toNat : Nat) : Int)), (8, aS 5), (9, aI ((k : Nat) : Int))], [(1, oR s22 (symTo ((appUv ([] : List Int) ((List.length x0 : Nat) : Int)) ++ x0) x1.toNat i)), (5, oR (.int 3) (rowTo ((appUv ([] : List Int) ((List.length x0 : Nat) : Int)) ++ x0) x1.toNat i k))]⟩ : St)) (fun k => k ≤ x1.toNat) (fun k => x1.toNat - k) (0) h (st_congr2 (fun (d0 : List Int) (d1 : Int) => (⟨[(1, aI x1), (4, .p (.c (cN))), (5, aS 1), (6, aF (.u8 5) ((appUv ([] : List Int) ((List.length x0 : Nat) : Int)) ++ x0)), (7, aI ((i * x1.toNat : Nat) : Int)), (8, aS 5), (9, aI d1)], [(1, oR s22 (symTo ((appUv ([] : List Int) ((List.length x0 : Nat) : Int)) ++ x0) x1.toNat i)), (5, oR (.int 3) d0)]⟩ : St)) (show ((List.replicate ((x1).toNat) (0 : Int)) : List Int) = (rowTo ((appUv ([] : List Int) ((List.length x0 : Nat) : Int)) ++ x0) x1.toNat i (0)) from by first | with_reducible rfl | (exact rowTo_zero _ _ _) | rfl) (show (0 : Int) = (((0) : Nat) : Int) from by first | with_reducible rfl | (exact rowTo_zero _ _ _) | rfl)) (by omega) ?_
    intro k a w hok1 h
    have hu1 := getD_u8 hal (i * x1.toNat + k)
    have hrl := rowTo_len ((appUv ([] : List Int) ((List.length x0 : Nat) : Int)) ++ x0) x1.toNat i k
    refine wp_seq (wp_seq ?_)
    by_cases h4 : ((k : Nat) : Int) < x1
    ·refine at_regq [{}, {}, { hint := some (aB true) }, {}, {}, {}, { nw := true }] { ts := [1, 4, 5, 6, 7, 8, 9, 39, 40, 41, 42, 43, 44, 45], os := [1, 5] } [(AV.p (.c (.v (.bool (decide (((k : Nat) : Int) < x1))))) = AV.p (.c (.v (.bool true)))), I64 (((i * x1.toNat : Nat) : Int) + ((k : Nat) : Int))] gamOK hT h (by kernel_rfl) ⟨hint_bool (decide_eq_true h4), ⟨by (have hA0 := mul_f i x1.toNat; first | omega | (simp only [lsA]; omega) | (simp <;> omega)), by (have hA0 := mul_f i x1.toNat; first | omega | (simp only [lsA]; omega) | (simp <;> omega))⟩, trivial⟩ fun a w h => then_normal ?_
     refine at_test (decide (((i * x1.toNat : Nat) : Int) + ((k : Nat) : Int) < ((List.length ((appUv ([] : List Int) ((List.length x0 : Nat) : Int)) ++ x0) : Nat) : Int))) h (by kernel_rfl) (fun h5 => ?_) (fun h5 => ?_)
     ·replace h5 : ((i * x1.toNat : Nat) : Int) + ((k : Nat) : Int) < ((List.length ((appUv ([] : List Int) ((List.length x0 : Nat) : Int)) ++ x0) : Nat) : Int) := of_decide_eq_true h5
      refine wp_skip (then_normal (wp_seq (wp_block ?_)))
      refine at_regq [{}, {}, {}, {}, {}, { hint := some (aI ((i * x1.toNat + k : Nat) : Int)) }, {}, {}, { hint := some (aI (((appUv ([] : List Int) ((List.length x0 : Nat) : Int)) ++ x0).getD (i * x1.toNat + k) 0)) }] { ts := [1, 4, 5, 6, 7, 8, 9, 39, 40, 41, 42, 43, 44], os := [1, 5] } [(AV.p (.c (.v (.int .i64 (IntKind.i64.wrap (((i * x1.toNat : Nat) : Int) + ((k : Nat) : Int)))))) = AV.p (.c (.v (.int .i64 (((i * x1.toNat + k : Nat) : Int)))))), (0 : Int) ≤ ((i * x1.toNat + k : Nat) : Int) ∧ ((i * x1.toNat + k : Nat) : Int) < ((List.length ((appUv ([] : List Int) ((List.length x0 : Nat) : Int)) ++ x0) : Nat) : Int), (AV.p (.c (.v (.int .i64 (IntKind.i64.wrap ((((appUv ([] : List Int) ((List.length x0 : Nat) : Int)) ++ x0).getD (i * x1.toNat + k) 0)))))) = AV.p (.c (.v (.int .i64 ((((appUv ([] : List Int) ((List.length x0 : Nat) : Int)) ++ x0).getD (i * x1.toNat + k) 0)))))), (0 : Int) ≤ ((k : Nat) : Int) ∧ ((k : Nat) : Int) < ((List.length (rowTo ((appUv ([] : List Int) ((List.length x0 : Nat) : Int)) ++ x0) x1.toNat i k) : Nat) : Int), k < List.length (rowTo ((appUv ([] : List Int) ((List.length x0 : Nat) : Int)) ++ x0) x1.toNat i k)] gamOK hT h (by kernel_rfl) ⟨hint_int (by exact wrapNat (by omega)), (by refine ⟨?_, ?_⟩ <;> ((have hA0 := mul_f i x1.toNat; first | omega | (simp only [lsA]; omega) | (simp <;> omega)))), hint_int (wrap_id ⟨by (have hA0 := mul_f i x1.toNat; first | omega | (simp only [lsA]; omega) | (simp <;> omega)), by (have hA0 := mul_f i x1.toNat; first | omega | (simp only [lsA]; omega) | (simp <;> omega))⟩), (by refine ⟨?_, ?_⟩ <;> (first | omega | (simp only [lsA]; omega) | (simp <;> omega))), (by first | omega | (simp only [lsA]; omega) | (simp <;> omega)), trivial⟩ fun a w h => in_normal (then_normal ?_)
      refine at_regq [{}, { nw := true }] { ts := [1, 4, 5, 6, 7, 8, 9, 39, 40, 41, 42, 43, 44], os := [1, 5] } [I64 (((k : Nat) : Int) + 1)] gamOK hT h (by kernel_rfl) ⟨⟨by first | omega | (simp only [lsA]; omega) | (simp <;> omega), by first | omega | (simp only [lsA]; omega) | (simp <;> omega)⟩, trivial⟩ fun a w h => ?_
      replace h := at_out (σ' := ⟨[(1, aI x1), (4, .p (.c (cN))), (5, aS 1), (6, aF (.u8 5) ((appUv ([] : List Int) ((List.length x0 : Nat) : Int)) ++ x0)), (7, aI ((i * x1.toNat : Nat) : Int)), (8, aS 5), (9, aI (((k : Nat) : Int) + 1))], [(1, oR s22 (symTo ((appUv ([] : List Int) ((List.length x0 : Nat) : Int)) ++ x0) x1.toNat i)), (5, oR (.int 3) (List.set (rowTo ((appUv ([] : List Int) ((List.length x0 : Nat) : Int)) ++ x0) x1.toNat i k) k (((appUv ([] : List Int) ((List.length x0 : Nat) : Int)) ++ x0).getD (i * x1.toNat + k) 0)))]⟩) { ts := [1, 4, 5, 6, 7, 8, 9], os := [1, 5] } h (by kernel_rfl)
      exact ⟨k + 1, at_eq h (st_congr2 (fun (d0 : List Int) (d1 : Int) => (⟨[(1, aI x1), (4, .p (.c (cN))), (5, aS 1), (6, aF (.u8 5) ((appUv ([] : List Int) ((List.length x0 : Nat) : Int)) ++ x0)), (7, aI ((i * x1.toNat : Nat) : Int)), (8, aS 5), (9, aI d1)], [(1, oR s22 (symTo ((appUv ([] : List Int) ((List.length x0 : Nat) : Int)) ++ x0) x1.toNat i)), (5, oR (.int 3) d0)]⟩ : St)) (show ((List.set (rowTo ((appUv ([] : List Int) ((List.length x0 : Nat) : Int)) ++ x0) x1.toNat i k) k (((appUv ([] : List Int) ((List.length x0 : Nat) : Int)) ++ x0).getD (i * x1.toNat + k) 0)) : List Int) = (rowTo ((appUv ([] : List Int) ((List.length x0 : Nat) : Int)) ++ x0) x1.toNat i (k + 1)) from by first | with_reducible rfl | (exact rowTo_set) | rfl) (show (((k : Nat) : Int) + 1 : Int) = (((k + 1) : Nat) : Int) from by first | with_reducible rfl | (omega) | rfl)), (by omega), (by omega)⟩
     ·replace h5 : ¬ (((i * x1.toNat : Nat) : Int) + ((k : Nat) : Int) < ((List.length ((appUv ([] : List Int) ((List.length x0 : Nat) : Int)) ++ x0) : Nat) : Int)) := of_decide_eq_false h5
      refine wp_exit (then_exit ?_)
      replace h := at_out (σ' := ⟨[(1, aI x1), (4, .p (.c (cN))), (5, aS 1), (6, aF (.u8 5) ((appUv ([] : List Int) ((List.length x0 : Nat) : Int)) ++ x0)), (7, aI ((i * x1.toNat : Nat) : Int)), (8, aS 5), (39, aI ((i * x1.toNat : Nat) : Int)), (40, aI ((k : Nat) : Int)), (41, aI (((i * x1.toNat : Nat) : Int) + ((k : Nat) : Int))), (42, aF (.u8 5) ((appUv ([] : List Int) ((List.length x0 : Nat) : Int)) ++ x0)), (43, aI ((List.length ((appUv ([] : List Int) ((List.length x0 : Nat) : Int)) ++ x0) : Nat) : Int)), (44, aB (decide (((i * x1.toNat : Nat) : Int) + ((k : Nat) : Int) < ((List.length ((appUv ([] : List Int) ((List.length x0 : Nat) : Int)) ++ x0) : Nat) : Int))))], [(1, oR s22 (symTo ((appUv ([] : List Int) ((List.length x0 : Nat) : Int)) ++ x0) x1.toNat i)), (5, oR (.int 3) (rowTo ((appUv ([] : List Int) ((List.length x0 : Nat) : Int)) ++ x0) x1.toNat i k))]⟩) { ts := [1, 4, 5, 6, 7, 8, 39, 40, 41, 42, 43, 44], os := [1, 5] } h (by kernel_rfl)
      replace h := at_eq (σ' := ⟨[(1, aI x1), (4, .p (.c (cN))), (5, aS 1), (6, aF (.u8 5) ((appUv ([] : List Int) ((List.length x0 : Nat) : Int)) ++ x0)), (7, aI ((i * x1.toNat : Nat) : Int)), (8, aS 5), (39, aI ((i * x1.toNat : Nat) : Int)), (40, aI ((k : Nat) : Int)), (41, aI (((i * x1.toNat : Nat) : Int) + ((k : Nat) : Int))), (42, aF (.u8 5) ((appUv ([] : List Int) ((List.length x0 : Nat) : Int)) ++ x0)), (43, aI ((List.length ((appUv ([] : List Int) ((List.length x0 : Nat) : Int)) ++ x0) : Nat) : Int)), (44, aB (decide (((i * x1.toNat : Nat) : Int) + ((k : Nat) : Int) < ((List.length ((appUv ([] : List Int) ((List.length x0 : Nat) : Int)) ++ x0) : Nat) : Int))))], [(1, oR s22 (symTo ((appUv ([] : List Int) ((List.length x0 : Nat) : Int)) ++ x0) x1.toNat i)), (5, oR (.int 3) (symRow ((appUv ([] : List Int) ((List.length x0 : Nat) : Int)) ++ x0) x1.toNat i))]⟩) h (st_congr1 (fun (d0 : List Int) => (⟨[(1, aI x1), (4, .p (.c (cN))), (5, aS 1), (6, aF (.u8 5) ((appUv ([] : List Int) ((List.length x0 : Nat) : Int)) ++ x0)), (7, aI ((i * x1.toNat : Nat) : Int)), (8, aS 5), (39, aI ((i * x1.toNat : Nat) : Int)), (40, aI ((k : Nat) : Int)), (41, aI (((i * x1.toNat : Nat) : Int) + ((k : Nat) : Int))), (42, aF (.u8 5) ((appUv ([] : List Int) ((List.length x0 : Nat) : Int)) ++ x0)), (43, aI ((List.length ((appUv ([] : List Int) ((List.length x0 : Nat) : Int)) ++ x0) : Nat) : Int)), (44, aB (decide (((i * x1.toNat : Nat) : Int) + ((k : Nat) : Int) < ((List.length ((appUv ([] : List Int) ((List.length x0 : Nat) : Int)) ++ x0) : Nat) : Int))))], [(1, oR s22 (symTo ((appUv ([] : List Int) ((List.length x0 : Nat) : Int)) ++ x0) x1.toNat i)), (5, oR (.int 3) d0)]⟩ : St)) (show ((rowTo ((appUv ([] : List Int) ((List.length x0 : Nat) : Int)) ++ x0) x1.toNat i k) : List Int) = (symRow ((appUv ([] : List Int) ((List.length x0 : Nat) : Int)) ++ x0) x1.toNat i) from by first | with_reducible rfl | (exact rowTo_all (by first | (left; omega) | (right; omega))) | rfl))
      refine then_exit (in_hit (then_normal ?_))
      refine at_regq [{}, {}, { ids := [6] }, { ids := [7] }] { ts := [1, 4, 5, 6, 7, 39, 40, 41, 42, 43, 44], os := [7] } [(List.length (symTo ((appUv ([] : List Int) ((List.length x0 : Nat) : Int)) ++ x0) x1.toNat i) + List.length ([(symRow ((appUv ([] : List Int) ((List.length x0 : Nat) : Int)) ++ x0) x1.toNat i)])) * 24 ≤ 140737488355328] gamOK hT h (by kernel_rfl) ⟨(by first | omega | (simp only [lsA]; omega) | (simp <;> omega)), trivial⟩ fun a w h => in_normal (then_normal ?_)
      refine at_regq [{}, {}, { nw := true }] { ts := [1, 4, 5, 6, 7, 39, 40, 41, 42, 43, 44], os := [7] } [I64 (((i * x1.toNat : Nat) : Int) + x1)] gamOK hT h (by kernel_rfl) ⟨⟨by (have hA0 := mul_f i x1.toNat; first | omega | (simp only [lsA]; omega) | (simp <;> omega)), by (have hA0 := mul_f i x1.toNat; first | omega | (simp only [lsA]; omega) | (simp <;> omega))⟩, trivial⟩ fun a w h => ?_
      replace h := at_out (σ' := ⟨[(1, aI x1), (4, .p (.c (cN))), (5, aS 1), (6, aF (.u8 5) ((appUv ([] : List Int) ((List.length x0 : Nat) : Int)) ++ x0)), (7, aI (((i * x1.toNat : Nat) : Int) + x1))], [(1, oR s22 ((symTo ((appUv ([] : List Int) ((List.length x0 : Nat) : Int)) ++ x0) x1.toNat i) ++ ([(symRow ((appUv ([] : List Int) ((List.length x0 : Nat) : Int)) ++ x0) x1.toNat i)])))]⟩) { ts := [1, 4, 5, 6, 7], os := [7], rn := [(7, 1)] } h (by kernel_rfl)
      exact ⟨i + 1, at_eq h (st_congr2 (fun (d0 : Int) (d1 : List (List Int)) => (⟨[(1, aI x1), (4, .p (.c (cN))), (5, aS 1), (6, aF (.u8 5) ((appUv ([] : List Int) ((List.length x0 : Nat) : Int)) ++ x0)), (7, aI d0)], [(1, oR s22 d1)]⟩ : St)) (show (((i * x1.toNat : Nat) : Int) + x1 : Int) = (((i + 1) * x1.toNat : Nat) : Int) from by first | with_reducible rfl | ((rw [Nat.succ_mul]; omega)) | rfl) (show (((symTo ((appUv ([] : List Int) ((List.length x0 : Nat) : Int)) ++ x0) x1.toNat i) ++ ([(symRow ((appUv ([] : List Int) ((List.length x0 : Nat) : Int)) ++ x0) x1.toNat i)])) : List (List Int)) = (symTo ((appUv ([] : List Int) ((List.length x0 : Nat) : Int)) ++ x0) x1.toNat (i + 1)) from by first | with_reducible rfl | (exact (symTo_succ _ _ _).symm) | rfl)), (by (rw [Nat.succ_mul]; omega)), (by (rw [Nat.succ_mul]; omega))⟩
    ·refine at_regq [{}, {}, { hint := some (aB false) }] { ts := [1, 4, 5, 6, 7, 8, 9, 39, 40, 41, 42, 43, 44, 45], os := [1, 5] } [(AV.p (.c (.v (.bool (decide (((k : Nat) : Int) < x1))))) = AV.p (.c (.v (.bool false))))] gamOK hT h (by kernel_rfl) ⟨hint_bool (decide_eq_false h4), trivial⟩ fun a w h => then_normal ?_
     refine at_test false h (by kernel_rfl) (fun hh => nomatch hh) (fun hh => ?_)
     refine wp_exit (then_exit ?_)
     replace h := at_out (σ' := ⟨[(1, aI x1), (4, .p (.c (cN))), (5, aS 1), (6, aF (.u8 5) ((appUv ([] : List Int) ((List.length x0 : Nat) : Int)) ++ x0)), (7, aI ((i * x1.toNat : Nat) : Int)), (8, aS 5), (39, .p (.c (.v undef))), (40, .p (.c (.v undef))), (41, .p (.c (.v undef))), (42, .p (.c (.v undef))), (43, .p (.c (.v undef))), (44, .p (.c (.v undef)))], [(1, oR s22 (symTo ((appUv ([] : List Int) ((List.length x0 : Nat) : Int)) ++ x0) x1.toNat i)), (5, oR (.int 3) (rowTo ((appUv ([] : List Int) ((List.length x0 : Nat) : Int)) ++ x0) x1.toNat i k))]⟩) { ts := [1, 4, 5, 6, 7, 8, 39, 40, 41, 42, 43, 44], os := [1, 5] } h (by kernel_rfl)
     replace h := at_eq (σ' := ⟨[(1, aI x1), (4, .p (.c (cN))), (5, aS 1), (6, aF (.u8 5) ((appUv ([] : List Int) ((List.length x0 : Nat) : Int)) ++ x0)), (7, aI ((i * x1.toNat : Nat) : Int)), (8, aS 5), (39, .p (.c (.v undef))), (40, .p (.c (.v undef))), (41, .p (.c (.v undef))), (42, .p (.c (.v undef))), (43, .p (.c (.v undef))), (44, .p (.c (.v undef)))], [(1, oR s22 (symTo ((appUv ([] : List Int) ((List.length x0 : Nat) : Int)) ++ x0) x1.toNat i)), (5, oR (.int 3) (symRow ((appUv ([] : List Int) ((List.length x0 : Nat) : Int)) ++ x0) x1.toNat i))]⟩) h (st_congr1 (fun (d0 : List Int) => (⟨[(1, aI x1), (4, .p (.c (cN))), (5, aS 1), (6, aF (.u8 5) ((appUv ([] : List Int) ((List.length x0 : Nat) : Int)) ++ x0)), (7, aI ((i * x1.toNat : Nat) : Int)), (8, aS 5), (39, .p (.c (.v undef))), (40, .p (.c (.v undef))), (41, .p (.c (.v undef))), (42, .p (.c (.v undef))), (43, .p (.c (.v undef))), (44, .p (.c (.v undef)))], [(1, oR s22 (symTo ((appUv ([] : List Int) ((List.length x0 : Nat) : Int)) ++ x0) x1.toNat i)), (5, oR (.int 3) d0)]⟩ : St)) (show ((rowTo ((appUv ([] : List Int) ((List.length x0 : Nat) : Int)) ++ x0) x1.toNat i k) : List Int) = (symRow ((appUv ([] : List Int) ((List.length x0 : Nat) : Int)) ++ x0) x1.toNat i) from by first | with_reducible rfl | (exact rowTo_all (by first | (left; omega) | (right; omega))) | rfl))
     refine then_exit (in_hit (then_normal ?_))
     refine at_regq [{}, {}, { ids := [6] }, { ids := [7] }] { ts := [1, 4, 5, 6, 7, 39, 40, 41, 42, 43, 44], os := [7] } [(List.length (symTo ((appUv ([] : List Int) ((List.length x0 : Nat) : Int)) ++ x0) x1.toNat i) + List.length ([(symRow ((appUv ([] : List Int) ((List.length x0 : Nat) : Int)) ++ x0) x1.toNat i)])) * 24 ≤ 140737488355328] gamOK hT h (by kernel_rfl) ⟨(by first | omega | (simp only [lsA]; omega) | (simp <;> omega)), trivial⟩ fun a w h => in_normal (then_normal ?_)
     refine at_regq [{}, {}, { nw := true }] { ts := [1, 4, 5, 6, 7, 39, 40, 41, 42, 43, 44], os := [7] } [I64 (((i * x1.toNat : Nat) : Int) + x1)] gamOK hT h (by kernel_rfl) ⟨⟨by (have hA0 := mul_f i x1.toNat; first | omega | (simp only [lsA]; omega) | (simp <;> omega)), by (have hA0 := mul_f i x1.toNat; first | omega | (simp only [lsA]; omega) | (simp <;> omega))⟩, trivial⟩ fun a w h => ?_
     replace h := at_out (σ' := ⟨[(1, aI x1), (4, .p (.c (cN))), (5, aS 1), (6, aF (.u8 5) ((appUv ([] : List Int) ((List.length x0 : Nat) : Int)) ++ x0)), (7, aI (((i * x1.toNat : Nat) : Int) + x1))], [(1, oR s22 ((symTo ((appUv ([] : List Int) ((List.length x0 : Nat) : Int)) ++ x0) x1.toNat i) ++ ([(symRow ((appUv ([] : List Int) ((List.length x0 : Nat) : Int)) ++ x0) x1.toNat i)])))]⟩) { ts := [1, 4, 5, 6, 7], os := [7], rn := [(7, 1)] } h (by kernel_rfl)
     exact ⟨i + 1, at_eq h (st_congr2 (fun (d0 : Int) (d1 : List (List Int)) => (⟨[(1, aI x1), (4, .p (.c (cN))), (5, aS 1), (6, aF (.u8 5) ((appUv ([] : List Int) ((List.length x0 : Nat) : Int)) ++ x0)), (7, aI d0)], [(1, oR s22 d1)]⟩ : St)) (show (((i * x1.toNat : Nat) : Int) + x1 : Int) = (((i + 1) * x1.toNat : Nat) : Int) from by first | with_reducible rfl | ((rw [Nat.succ_mul]; omega)) | rfl) (show (((symTo ((appUv ([] : List Int) ((List.length x0 : Nat) : Int)) ++ x0) x1.toNat i) ++ ([(symRow ((appUv ([] : List Int) ((List.length x0 : Nat) : Int)) ++ x0) x1.toNat i)])) : List (List Int)) = (symTo ((appUv ([] : List Int) ((List.length x0 : Nat) : Int)) ++ x0) x1.toNat (i + 1)) from by first | with_reducible rfl | (exact (symTo_succ _ _ _).symm) | rfl)), (by (rw [Nat.succ_mul]; omega)), (by (rw [Nat.succ_mul]; omega))⟩
   ·replace h3 : ¬ (((i * x1.toNat : Nat) : Int) < ((List.length ((appUv ([] : List Int) ((List.length x0 : Nat) : Int)) ++ x0) : Nat) : Int)) := of_decide_eq_false h3
    refine wp_exit (then_exit ?_)
    replace h := at_out (σ' := ⟨[(4, .p (.c (cN))), (5, aS 1)], [(1, oR s22 (symTo ((appUv ([] : List Int) ((List.length x0 : Nat) : Int)) ++ x0) x1.toNat i))]⟩) { ts := [4, 5], os := [1] } h (by kernel_rfl)
    replace h := at_eq (σ' := ⟨[(4, .p (.c (cN))), (5, aS 1)], [(1, oR s22 (symS ((appUv ([] : List Int) ((List.length x0 : Nat) : Int)) ++ x0) x1.toNat))]⟩) h (st_congr1 (fun (d0 : List (List Int)) => (⟨[(4, .p (.c (cN))), (5, aS 1)], [(1, oR s22 d0)]⟩ : St)) (show ((symTo ((appUv ([] : List Int) ((List.length x0 : Nat) : Int)) ++ x0) x1.toNat i) : List (List Int)) = (symS ((appUv ([] : List Int) ((List.length x0 : Nat) : Int)) ++ x0) x1.toNat) from by first | with_reducible rfl | (exact symS_end (by omega) (by omega) hok0) | rfl))
    refine then_exit (in_hit (then_normal (wp_seq ?_)))
    refine at_regq [] { ts := [4], os := [1] } [] gamOK hT h (by kernel_rfl) trivial fun a w h => then_normal (wp_ret ?_)
    exact at_return ((symS ((appUv ([] : List Int) ((List.length x0 : Nat) : Int)) ++ x0) x1.toNat), ()) [] h (by kernel_rfl) trivial (congrArg (fun z => (z, ())) (show ((symS ((appUv ([] : List Int) ((List.length x0 : Nat) : Int)) ++ x0) x1.toNat)) = symD x0 x1 from by first | exact symD_n (by first | (left; assumption) | (right; omega)) | exact symD_y (by assumption) (by omega)))

def uvN (b : List Int) : Nat → Nat
 | 0 => 0
 | i + 1 => uvN b i + (b.getD i 0).toNat % 128 * 128 ^ i
theorem uvN_lt (b : List Int) : ∀ i, uvN b i < 128 ^ i
 | 0 => by simp [uvN]
 | i + 1 => by
  have h := uvN_lt b i
  have h2 : (b.getD i 0).toNat % 128 * 128 ^ i ≤ 127 * 128 ^ i := Nat.mul_le_mul_right _ (by omega)
  simp only [uvN]; rw [Nat.pow_succ]; omega
theorem pow128 {i : Nat} (h : i ≤ 5) : 128 ^ i ≤ 34359738368 := by
 have : 128 ^ i ≤ 128 ^ 5 := Nat.pow_le_pow_right (by decide) h
 exact Nat.le_trans this (by decide)
theorem two7 (i : Nat) : 2 ^ (7 * i) = 128 ^ i := by rw [Nat.pow_mul]
end Go.Proofs.YtamibfjeldfphaaGreat

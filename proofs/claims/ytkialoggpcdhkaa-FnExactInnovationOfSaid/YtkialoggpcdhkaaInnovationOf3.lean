/- The law FnExactInnovationOf returns true for every input and leaves its arguments as they were. No condition. -/
import Derived.Test.YtkialoggpcdhkaaInnovationOf2
import Derived.Test.YtkialoggpcdhkaaLA
import Derived.Test.YtkialoggpcdhkaaProg
import Derived.Test.YtkialoggpcdhkaaRows
import Derived.Test.YtkialoggpcdhkaaFX
namespace Go.Proofs.Ytkialoggpcdhkaa
open Go.RowKit
set_option linter.unusedVariables false
set_option linter.unusedSimpArgs false
def D_spec_ContainsVector := (fun (b : T105) (v : List Int) => takesB b v && decide (LA.leadS (LA.redS b.2 v) < 0))
def S_spec_ContainsVector : Sum := { fid := 145, dom := [s105, s22], cod := [(.bool 4)], dp := true, fz := false, pre := fun x => (fun (x0 : T105) (x1 : (List Int)) => Sh.fit s105 x0 ∧ Sh.fit s22 x1) x.1 x.2.1, g := fun x => ((D_spec_ContainsVector x.1 x.2.1), ()) }
def S_spec_ContainsVector_tab : List (Nat × Sum) := [(144, S_spec_l8Fits), (210, S_spec_ReduceVector), (209, S_spec_LeadingIndex)]
theorem S_spec_ContainsVector_ok : FnOK Try.prog 145 S_spec_ContainsVector := by
  refine at_enter 15 (fun x => ⟨[(0, aG [cI x.1.1, .ro s22 x.1.2]), (1, aF (.int 3) x.2.1)], []⟩) Try.func145 rfl (by kernel_rfl) (fun x => rfl) ?_
  rintro w0 Z0 ⟨x0, x1, u⟩ a w
  revert x0 x1
  intro (x0 : T105) (x1 : (List Int)) hpre hlens h
  replace h : At w0 Z0 [] 15 ⟨[(0, aG [cI x0.1, .ro s22 x0.2]), (1, aF (.int 3) x1)], []⟩ a w := h
  replace hpre : (fun (x0 : T105) (x1 : (List Int)) => Sh.fit s105 x0 ∧ Sh.fit s22 x1) x0 x1 := hpre
  have hl1 : List.length x0.2 ≤ 9223372036854775807 := hlens.1.2.1
  have hl2 : List.length x1 ≤ 9223372036854775807 := hlens.2.1.1
  have hT : TabOK Try.prog S_spec_ContainsVector_tab := (.cons S_spec_l8Fits_ok (.cons S_spec_ReduceVector_ok (.cons S_spec_LeadingIndex_ok .nil)))
  obtain ⟨hf0, hf1⟩ := hpre
  have hn0_1 : List.length x0.2 ≤ 1073741824 := hf0.2.1
  have hn1_2 : List.length x1 ≤ 1073741824 := hf1.1
  refine wp_seq ?_
  refine at_regq (T := S_spec_ContainsVector_tab) [{ ids := [1] }] { ts := [1, 2, 4], os := [1] } [] gamOK hT h (by kernel_rfl) trivial ?_
  intro a w h
  refine then_normal ?_
  refine wp_seq ?_
  rcases Bool.eq_false_or_eq_true ((takesB x0 x1)) with h1 | h1
  · skip
    have hvh1 := takesB_t h1
    refine at_regq (T := S_spec_ContainsVector_tab) [{}, {}, { hint := some (aB true) }, {}, {}, {}, { ids := [2] }] { ts := [4], os := [] } [(fun (x0 : T105) (x1 : (List Int)) => Sh.fit s105 x0 ∧ Sh.fit s22 x1) x0 x1, (AV.p (.c (.v (.bool ((takesB x0 x1))))) = AV.p (.c (.v (.bool true)))), (fun (x0 : T105) (x1 : (List Int)) => Sh.fit s105 x0 ∧ Sh.fit s22 x1) x0 x1, (fun (x0 : (List Int)) => Sh.fit s22 x0) (D_spec_ReduceVector x0 x1)] gamOK hT h (by kernel_rfl) ⟨(by exact ⟨hf0, hf1⟩), hint_bool (h1), (by exact ⟨hf0, hf1⟩), (by (unfold D_spec_ReduceVector; rw [if_pos (by assumption)]; exact fitV (LA.redS_rng (takesB_t (by assumption)).1.2 (takesB_t (by assumption)).2) (by have := (takesB_t (b := x0) (v := x1) (by assumption)).1.1; omega))), trivial⟩ ?_
    intro a w h
    refine then_normal ?_
    refine wp_ret ?_
    exact at_return (S := S_spec_ContainsVector) (x := (x0, x1, ())) (decide ((LA.leadS (D_spec_ReduceVector x0 x1)) < 0), ()) [] h (by kernel_rfl) trivial (congrArg (fun z => (z, ())) (show (decide ((LA.leadS (D_spec_ReduceVector x0 x1)) < 0)) = D_spec_ContainsVector x0 x1 from by unfold D_spec_ContainsVector; (first | (rw [show takesB x0 x1 = true from by assumption]; unfold D_spec_ReduceVector; rw [if_pos (by assumption)]; rfl) | (rw [show takesB x0 x1 = false from by first | assumption | (simp_all; done)]; rfl))))
  · skip
    refine at_regq (T := S_spec_ContainsVector_tab) [{}, {}, { hint := some (aB false) }] { ts := [4], os := [] } [(fun (x0 : T105) (x1 : (List Int)) => Sh.fit s105 x0 ∧ Sh.fit s22 x1) x0 x1, (AV.p (.c (.v (.bool ((takesB x0 x1))))) = AV.p (.c (.v (.bool false))))] gamOK hT h (by kernel_rfl) ⟨(by exact ⟨hf0, hf1⟩), hint_bool (h1), trivial⟩ ?_
    intro a w h
    refine then_normal ?_
    refine wp_ret ?_
    exact at_return (S := S_spec_ContainsVector) (x := (x0, x1, ())) (false, ()) [] h (by kernel_rfl) trivial (congrArg (fun z => (z, ())) (show (false) = D_spec_ContainsVector x0 x1 from by unfold D_spec_ContainsVector; (first | (rw [show takesB x0 x1 = true from by assumption]; unfold D_spec_ReduceVector; rw [if_pos (by assumption)]; rfl) | (rw [show takesB x0 x1 = false from by first | assumption | (simp_all; done)]; rfl))))
def insV (b : T105) (v : List Int) : T105 × Bool := if takesB b v = true then (insU b v, insD b v) else (b, false)
theorem insV_no {b : T105} {v : List Int} (ht : takesB b v = true) (hc : D_spec_ContainsVector b v = true) : (b, false) = insV b v := by
  unfold D_spec_ContainsVector at hc
  rw [ht, Bool.true_and] at hc
  have hl := of_decide_eq_true hc
  unfold insV insU insD
  rw [if_pos ht, LA.insS_no hl]
theorem insV_yes {b : T105} {v : List Int} (ht : takesB b v = true) (hc : D_spec_ContainsVector b v = false) : ((b.1, D_spec_l7Reduce (b.2 ++ [v]) b.1), true) = insV b v := by
  unfold D_spec_ContainsVector at hc
  rw [ht, Bool.true_and] at hc
  have hl := of_decide_eq_false hc
  have hr := takesB_t ht
  unfold insV insU insD D_spec_l7Reduce
  rw [if_pos ht, LA.insS_gj hr.1.2 hr.2, LA.insS_yes hl]

def S_spec_InsertVector : Sum := { fid := 63, dom := [s105, s22], cod := [s105, (.bool 4)], dp := false, fz := false, pre := fun x => (fun (x0 : T105) (x1 : (List Int)) => Sh.fit s105 x0 ∧ Sh.fit s22 x1) x.1 x.2.1, g := fun x => ((insV x.1 x.2.1).1, ((insV x.1 x.2.1).2, ())) }
def S_spec_InsertVector_tab : List (Nat × Sum) := [(144, S_spec_l8Fits), (146, S_spec_l8Copy), (145, S_spec_ContainsVector), (148, S_spec_l6Copy), (147, S_spec_l7Reduce)]
theorem S_spec_InsertVector_ok : FnOK Try.prog 63 S_spec_InsertVector := by
  refine at_enter 31 (fun x => ⟨[(0, aG [cI x.1.1, .ro s22 x.1.2]), (1, aF (.int 3) x.2.1)], []⟩) Try.func63 rfl (by kernel_rfl) (fun x => rfl) ?_
  rintro w0 Z0 ⟨x0, x1, u⟩ a w
  revert x0 x1
  intro (x0 : T105) (x1 : (List Int)) hpre hlens h
  replace h : At w0 Z0 [] 31 ⟨[(0, aG [cI x0.1, .ro s22 x0.2]), (1, aF (.int 3) x1)], []⟩ a w := h
  replace hpre : (fun (x0 : T105) (x1 : (List Int)) => Sh.fit s105 x0 ∧ Sh.fit s22 x1) x0 x1 := hpre
  have hl1 : List.length x0.2 ≤ 9223372036854775807 := hlens.1.2.1
  have hl2 : List.length x1 ≤ 9223372036854775807 := hlens.2.1.1
  have hT : TabOK Try.prog S_spec_InsertVector_tab := (.cons S_spec_l8Fits_ok (.cons S_spec_l8Copy_ok (.cons S_spec_ContainsVector_ok (.cons S_spec_l6Copy_ok (.cons S_spec_l7Reduce_ok .nil)))))
  obtain ⟨hf0, hf1⟩ := hpre
  have hn0_1 : List.length x0.2 ≤ 1073741824 := hf0.2.1
  have hn1_2 : List.length x1 ≤ 1073741824 := hf1.1
  refine wp_seq ?_
  refine at_regq (T := S_spec_InsertVector_tab) [{ ids := [1] }, { ids := [2] }] { ts := [1, 2, 4, 5], os := [1, 2] } [] gamOK hT h (by kernel_rfl) trivial ?_
  intro a w h
  refine then_normal ?_
  refine wp_seq ?_
  refine wp_seq ?_
  rcases Bool.eq_false_or_eq_true (!(takesB x0 x1)) with h1 | h1
  · skip
    have hzh1 : (takesB x0 x1) = false := notT h1
    refine at_regq (T := S_spec_InsertVector_tab) [{}, {}, {}, { hint := some (aB true) }] { ts := [1, 2, 4, 5, 14], os := [1, 2] } [(fun (x0 : T105) (x1 : (List Int)) => Sh.fit s105 x0 ∧ Sh.fit s22 x1) x0 x1, (AV.p (.c (.v (.bool (!(takesB x0 x1))))) = AV.p (.c (.v (.bool true))))] gamOK hT h (by kernel_rfl) ⟨(by exact ⟨hf0, hf1⟩), hint_bool (h1), trivial⟩ ?_
    intro a w h
    refine then_normal ?_
    refine at_test true h (by kernel_rfl) (fun hh => ?_) (fun hh => nomatch hh)
    refine wp_seq ?_
    refine at_regq (T := S_spec_InsertVector_tab) [{}, { ids := [3] }] { ts := [1, 2, 4, 5], os := [1, 2, 3] } [(fun (x0 : T105) => Sh.fit s105 x0) x0] gamOK hT h (by kernel_rfl) ⟨(by exact hf0), trivial⟩ ?_
    intro a w h
    refine then_normal ?_
    refine wp_ret ?_
    refine then_ret ?_
    exact at_return (S := S_spec_InsertVector) (x := (x0, x1, ())) (x0, (false, ())) [] h (by kernel_rfl) trivial (congrArg (fun z => (z.1, z.2, ())) (show ((x0, false)) = insV x0 x1 from by (first | exact insV_no (by assumption) (by assumption) | exact insV_yes (by assumption) (by assumption) | (unfold insV; rw [if_neg (by simp_all)]; done))))
  · skip
    have hzh1 : (takesB x0 x1) = true := notF h1
    have hvh1 := takesB_t (notF h1)
    refine at_regq (T := S_spec_InsertVector_tab) [{}, {}, {}, { hint := some (aB false) }] { ts := [1, 2, 4, 5, 14], os := [1, 2] } [(fun (x0 : T105) (x1 : (List Int)) => Sh.fit s105 x0 ∧ Sh.fit s22 x1) x0 x1, (AV.p (.c (.v (.bool (!(takesB x0 x1))))) = AV.p (.c (.v (.bool false)))), (fun (x0 : T105) (x1 : (List Int)) => Sh.fit s105 x0 ∧ Sh.fit s22 x1) x0 x1] gamOK hT h (by kernel_rfl) ⟨(by exact ⟨hf0, hf1⟩), hint_bool (h1), (by exact ⟨hf0, hf1⟩), trivial⟩ ?_
    intro a w h
    refine then_normal ?_
    refine at_test ((D_spec_ContainsVector x0 x1)) h (by kernel_rfl) (fun h2 => ?_) (fun h2 => ?_)
    · refine wp_seq ?_
      refine at_regq (T := S_spec_InsertVector_tab) [{}, { ids := [3] }] { ts := [1, 2, 4, 5], os := [1, 2, 3] } [(fun (x0 : T105) => Sh.fit s105 x0) x0] gamOK hT h (by kernel_rfl) ⟨(by exact hf0), trivial⟩ ?_
      intro a w h
      refine then_normal ?_
      refine wp_ret ?_
      refine then_ret ?_
      exact at_return (S := S_spec_InsertVector) (x := (x0, x1, ())) (x0, (false, ())) [] h (by kernel_rfl) trivial (congrArg (fun z => (z.1, z.2, ())) (show ((x0, false)) = insV x0 x1 from by (first | exact insV_no (by assumption) (by assumption) | exact insV_yes (by assumption) (by assumption) | (unfold insV; rw [if_neg (by simp_all)]; done))))
    · refine wp_skip ?_
      refine then_normal ?_
      refine wp_seq ?_
      refine at_anyq (T := S_spec_InsertVector_tab) [{}, {}, {}, {}, { ids := [4] }, { ids := [5], dp := false }, {}, { ids := [6], frz := true, dp := false }, { ids := [7], dp := false }, { ids := [8], frz := true, dp := false }, {}, {}, { ids := [9] }, {}, {}, {}] { ts := [4, 5], os := [2, 9] } [(fun (x0 : (List (List Int))) => Sh.fit s80 x0) x0.2, (List.length ([] : List Int) + List.length x1) * 8 ≤ 140737488355328, (List.length x0.2 + List.length ([(([] : List Int) ++ x1)])) * 24 ≤ 140737488355328, (fun (x0 : (List (List Int))) (x1 : Int) => Sh.fit s80 x0 ∧ l7P x0 x1) (x0.2 ++ ([(([] : List Int) ++ x1)])) x0.1] gamOK hT mixed h (by kernel_rfl) ⟨(by exact hf0.2), (by first | omega | (simp only [List.length_append, List.length_cons, List.length_nil, List.length_set, List.length_take, List.length_drop, List.length_replicate, List.length_map, Nat.min_def]; omega) | (simp; done) | (simp; omega) | done), (by first | omega | (simp only [List.length_append, List.length_cons, List.length_nil, List.length_set, List.length_take, List.length_drop, List.length_replicate, List.length_map, Nat.min_def]; omega) | (simp; done) | (simp; omega) | done), (by exact ins_l7 (takesB_t (by assumption))), trivial⟩ ?_
      intro a w h
      refine then_normal ?_
      refine wp_ret ?_
      exact at_return (S := S_spec_InsertVector) (x := (x0, x1, ())) ((x0.1, (D_spec_l7Reduce (x0.2 ++ ([(([] : List Int) ++ x1)])) x0.1)), (true, ())) [] h (by kernel_rfl) trivial (congrArg (fun z => (z.1, z.2, ())) (show (((x0.1, (D_spec_l7Reduce (x0.2 ++ ([(([] : List Int) ++ x1)])) x0.1)), true)) = insV x0 x1 from by (first | exact insV_no (by assumption) (by assumption) | exact insV_yes (by assumption) (by assumption) | (unfold insV; rw [if_neg (by simp_all)]; done))))

def sameW (x0 : T105) (x1 : T105) : Bool := (if (validB x0) = true then (if (validB x1) = true then decide (x0.1 = x1.1) else false) else false)
def S_impl_sameWidth : Sum := { fid := 143, dom := [s105, s105], cod := [(.bool 4)], dp := true, fz := false, pre := fun x => (fun (x0 : T105) (x1 : T105) => Sh.fit s105 x0 ∧ Sh.fit s105 x1) x.1 x.2.1, g := fun x => ((sameW x.1 x.2.1), ()) }
def S_impl_sameWidth_tab : List (Nat × Sum) := [(207, S_impl_IsValidBasis)]
theorem S_impl_sameWidth_ok : FnOK Try.prog 143 S_impl_sameWidth := by
  refine at_enter 18 (fun x => ⟨[(0, aG [cI x.1.1, .ro s22 x.1.2]), (1, aG [cI x.2.1.1, .ro s22 x.2.1.2])], []⟩) Try.func143 rfl (by kernel_rfl) (fun x => rfl) ?_
  rintro w0 Z0 ⟨x0, x1, u⟩ a w
  revert x0 x1
  intro (x0 : T105) (x1 : T105) hpre hlens h
  replace h : At w0 Z0 [] 18 ⟨[(0, aG [cI x0.1, .ro s22 x0.2]), (1, aG [cI x1.1, .ro s22 x1.2])], []⟩ a w := h
  replace hpre : (fun (x0 : T105) (x1 : T105) => Sh.fit s105 x0 ∧ Sh.fit s105 x1) x0 x1 := hpre
  have hl1 : List.length x0.2 ≤ 9223372036854775807 := hlens.1.2.1
  have hl2 : List.length x1.2 ≤ 9223372036854775807 := hlens.2.1.2.1
  have hT : TabOK Try.prog S_impl_sameWidth_tab := (.cons S_impl_IsValidBasis_ok .nil)
  obtain ⟨hf0, hf1⟩ := hpre
  have hn0_1 : List.length x0.2 ≤ 1073741824 := hf0.2.1
  have hn1_2 : List.length x1.2 ≤ 1073741824 := hf1.2.1
  refine wp_seq ?_
  refine at_regq (T := S_impl_sameWidth_tab) [{ ids := [1] }, { ids := [2] }] { ts := [2, 3, 4], os := [1, 2] } [] gamOK hT h (by kernel_rfl) trivial ?_
  intro a w h
  refine then_normal ?_
  refine wp_seq ?_
  rcases Bool.eq_false_or_eq_true ((validB x0)) with h1 | h1
  · skip
    have hvh1 := validB_t h1
    rcases Bool.eq_false_or_eq_true ((validB x1)) with h2 | h2
    · skip
      have hvh2 := validB_t h2
      refine at_regq (T := S_impl_sameWidth_tab) [{}, { hint := some (aB true) }, {}, {}, { hint := some (aB true) }] { ts := [4], os := [] } [(fun (x0 : T105) => Sh.fit s105 x0) x0, (AV.p (.c (.v (.bool ((validB x0))))) = AV.p (.c (.v (.bool true)))), (fun (x0 : T105) => Sh.fit s105 x0) x1, (AV.p (.c (.v (.bool ((validB x1))))) = AV.p (.c (.v (.bool true))))] gamOK hT h (by kernel_rfl) ⟨(by exact hf0), hint_bool (h1), (by exact hf1), hint_bool (h2), trivial⟩ ?_
      intro a w h
      refine then_normal ?_
      refine wp_ret ?_
      exact at_return (S := S_impl_sameWidth) (x := (x0, x1, ())) (decide (x0.1 = x1.1), ()) [] h (by kernel_rfl) trivial (congrArg (fun z => (z, ())) (show (decide (x0.1 = x1.1)) = sameW x0 x1 from by first | rfl | (unfold sameW; rw [if_pos h1, if_pos h2])))
    · skip
      refine at_regq (T := S_impl_sameWidth_tab) [{}, { hint := some (aB true) }, {}, {}, { hint := some (aB false) }] { ts := [4], os := [] } [(fun (x0 : T105) => Sh.fit s105 x0) x0, (AV.p (.c (.v (.bool ((validB x0))))) = AV.p (.c (.v (.bool true)))), (fun (x0 : T105) => Sh.fit s105 x0) x1, (AV.p (.c (.v (.bool ((validB x1))))) = AV.p (.c (.v (.bool false))))] gamOK hT h (by kernel_rfl) ⟨(by exact hf0), hint_bool (h1), (by exact hf1), hint_bool (h2), trivial⟩ ?_
      intro a w h
      refine then_normal ?_
      refine wp_ret ?_
      exact at_return (S := S_impl_sameWidth) (x := (x0, x1, ())) (false, ()) [] h (by kernel_rfl) trivial (congrArg (fun z => (z, ())) (show (false) = sameW x0 x1 from by first | rfl | (unfold sameW; rw [if_pos h1, if_neg (neT h2)])))
  · skip
    refine at_regq (T := S_impl_sameWidth_tab) [{}, { hint := some (aB false) }] { ts := [4], os := [] } [(fun (x0 : T105) => Sh.fit s105 x0) x0, (AV.p (.c (.v (.bool ((validB x0))))) = AV.p (.c (.v (.bool false))))] gamOK hT h (by kernel_rfl) ⟨(by exact hf0), hint_bool (h1), trivial⟩ ?_
    intro a w h
    refine then_normal ?_
    refine wp_ret ?_
    exact at_return (S := S_impl_sameWidth) (x := (x0, x1, ())) (false, ()) [] h (by kernel_rfl) trivial (congrArg (fun z => (z, ())) (show (false) = sameW x0 x1 from by first | rfl | (unfold sameW; rw [if_neg (neT h1)])))

theorem sameW_t {a b : T105} (h : sameW a b = true) : basP a ∧ basP b ∧ a.1 = b.1 := by
  unfold sameW at h
  split at h
  · split at h
    · exact ⟨validB_t (by assumption), validB_t (by assumption), of_decide_eq_true h⟩
    · cases h
  · cases h
def sumB (a b : T105) : T105 := if sameW a b = true then (a.1, foldTo insR a.2 b.2 (List.length b.2)) else a
theorem sumB_row {a b : T105} (h : sameW a b = true) {i : Nat} (hi : i < b.2.length) : LA.VokB a.1.toNat (b.2.getD i []) := by
  obtain ⟨h1, h2, h3⟩ := sameW_t h
  rw [h3]; exact h2.2.ok _ (LA.getD_in hi)
theorem sumB_at {a b : T105} (h : sameW a b = true) {i : Nat} (hi : i ≤ b.2.length) : LA.RedL a.1.toNat (foldTo insR a.2 b.2 i) := by
  obtain ⟨h1, h2, h3⟩ := sameW_t h
  exact insR_red h1.2 (fun v hv => by rw [h3]; exact h2.2.ok v hv) i hi
theorem sumB_P {a b : T105} (h : sameW a b = true) : basP (sumB a b) := by
  unfold sumB; rw [if_pos h]; exact ⟨(sameW_t h).1.1, sumB_at h (Nat.le_refl _)⟩
theorem basP_fit {a : T105} (h : basP a) : Sh.fit s105 a := ⟨trivial, fitM h.2.ok (by have := h.1; omega) (by have := h.2.len; have := h.1; omega)⟩
theorem sumB_fit {a b : T105} (h : Sh.fit s105 a) : Sh.fit s105 (sumB a b) := by
  by_cases hs : sameW a b = true
  · exact basP_fit (sumB_P hs)
  · unfold sumB; rw [if_neg hs]; exact h
theorem insV_at {b : T105} {v : List Int} (h : redP b v) : (insV b v).1 = (b.1, insR b.2 v) := by unfold insV; rw [if_pos (takesB_of h)]; rfl
theorem ctL_bd {α : Type} {c : α → Nat} {m : Nat} : ∀ {xs : List α}, (∀ x ∈ xs, c x ≤ m) → ctL c xs ≤ m * xs.length
  | [], _ => Nat.zero_le _
  | x :: l, h => by
    have h1 := h x (by simp)
    have h2 := ctL_bd (xs := l) (fun y hy => h y (by simp [hy]))
    simp only [ctL, List.length_cons, Nat.mul_add, Nat.mul_one]; omega
theorem basP_sz {a : T105} (h : basP a) : Sh.sz s105 a ≤ 2000 := by
  have h1 : Sh.sz s105 a = 0 + (List.length a.2 + ctL (Sh.sz s22) a.2) := rfl
  have h2 := ctL_bd (c := Sh.sz s22) (m := 40) (xs := a.2) (fun x hx => by rw [sz_flat (by rfl)]; have := (h.2.ok x hx).1; have := h.1; omega)
  have h3 := h.2.len; have h4 := h.1
  omega
theorem insV_sz (b : T105) (v : List Int) : Sh.sz s105 (insV b v).1 ≤ 2000 + Sh.sz s105 b := by
  by_cases ht : takesB b v = true
  · have hr := takesB_t ht
    have : basP (insV b v).1 := by rw [insV_at hr]; exact ⟨hr.1.1, (LA.insS_ok hr.1.2 hr.2).1⟩
    have := basP_sz this; omega
  · unfold insV; rw [if_neg ht]; exact Nat.le_add_left _ _
theorem sumB_sz (a b : T105) : Sh.sz s105 (sumB a b) ≤ 2000 + Sh.sz s105 a := by
  by_cases hs : sameW a b = true
  · have := basP_sz (sumB_P hs); omega
  · unfold sumB; rw [if_neg hs]; exact Nat.le_add_left _ _
theorem takes_sum {a b : T105} (h : sameW a b = true) {i : Nat} (hi : i < b.2.length) : redP (a.1, foldTo insR a.2 b.2 i) (b.2.getD i []) := ⟨⟨(sameW_t h).1.1, sumB_at h (Nat.le_of_lt hi)⟩, sumB_row h hi⟩


def S_spec_l9Pair : Sum := { fid := 141, dom := [s105, s105], cod := [(.bool 4)], dp := true, fz := false, pre := fun x => (fun (x0 : T105) (x1 : T105) => Sh.fit s105 x0 ∧ Sh.fit s105 x1) x.1 x.2.1, g := fun x => ((sameW x.1 x.2.1), ()) }
def S_spec_l9Pair_tab : List (Nat × Sum) := [(206, S_spec_IsValidBasis)]
theorem S_spec_l9Pair_ok : FnOK Try.prog 141 S_spec_l9Pair := by
  refine at_enter 18 (fun x => ⟨[(0, aG [cI x.1.1, .ro s22 x.1.2]), (1, aG [cI x.2.1.1, .ro s22 x.2.1.2])], []⟩) Try.func141 rfl (by kernel_rfl) (fun x => rfl) ?_
  rintro w0 Z0 ⟨x0, x1, u⟩ a w
  revert x0 x1
  intro (x0 : T105) (x1 : T105) hpre hlens h
  replace h : At w0 Z0 [] 18 ⟨[(0, aG [cI x0.1, .ro s22 x0.2]), (1, aG [cI x1.1, .ro s22 x1.2])], []⟩ a w := h
  replace hpre : (fun (x0 : T105) (x1 : T105) => Sh.fit s105 x0 ∧ Sh.fit s105 x1) x0 x1 := hpre
  have hl1 : List.length x0.2 ≤ 9223372036854775807 := hlens.1.2.1
  have hl2 : List.length x1.2 ≤ 9223372036854775807 := hlens.2.1.2.1
  have hT : TabOK Try.prog S_spec_l9Pair_tab := (.cons S_spec_IsValidBasis_ok .nil)
  obtain ⟨hf0, hf1⟩ := hpre
  have hn0_1 : List.length x0.2 ≤ 1073741824 := hf0.2.1
  have hn1_2 : List.length x1.2 ≤ 1073741824 := hf1.2.1
  refine wp_seq ?_
  refine at_regq (T := S_spec_l9Pair_tab) [{ ids := [1] }, { ids := [2] }] { ts := [2, 3, 4], os := [1, 2] } [] gamOK hT h (by kernel_rfl) trivial ?_
  intro a w h
  refine then_normal ?_
  refine wp_seq ?_
  rcases Bool.eq_false_or_eq_true ((validBS x0)) with h1 | h1
  · skip
    have hvh1 := validBS_t h1
    rcases Bool.eq_false_or_eq_true ((validBS x1)) with h2 | h2
    · skip
      have hvh2 := validBS_t h2
      refine at_regq (T := S_spec_l9Pair_tab) [{}, { hint := some (aB true) }, {}, {}, { hint := some (aB true) }] { ts := [4], os := [] } [(fun (x0 : T105) => Sh.fit s105 x0) x0, (AV.p (.c (.v (.bool ((validBS x0))))) = AV.p (.c (.v (.bool true)))), (fun (x0 : T105) => Sh.fit s105 x0) x1, (AV.p (.c (.v (.bool ((validBS x1))))) = AV.p (.c (.v (.bool true))))] gamOK hT h (by kernel_rfl) ⟨(by exact hf0), hint_bool (h1), (by exact hf1), hint_bool (h2), trivial⟩ ?_
      intro a w h
      refine then_normal ?_
      refine wp_ret ?_
      exact at_return (S := S_spec_l9Pair) (x := (x0, x1, ())) (decide (x0.1 = x1.1), ()) [] h (by kernel_rfl) trivial (congrArg (fun z => (z, ())) (show (decide (x0.1 = x1.1)) = sameW x0 x1 from by first | rfl | (unfold sameW; rw [if_pos h1, if_pos h2]; done) | (unfold sameW; simp_all [validBS_eq])))
    · skip
      refine at_regq (T := S_spec_l9Pair_tab) [{}, { hint := some (aB true) }, {}, {}, { hint := some (aB false) }] { ts := [4], os := [] } [(fun (x0 : T105) => Sh.fit s105 x0) x0, (AV.p (.c (.v (.bool ((validBS x0))))) = AV.p (.c (.v (.bool true)))), (fun (x0 : T105) => Sh.fit s105 x0) x1, (AV.p (.c (.v (.bool ((validBS x1))))) = AV.p (.c (.v (.bool false))))] gamOK hT h (by kernel_rfl) ⟨(by exact hf0), hint_bool (h1), (by exact hf1), hint_bool (h2), trivial⟩ ?_
      intro a w h
      refine then_normal ?_
      refine wp_ret ?_
      exact at_return (S := S_spec_l9Pair) (x := (x0, x1, ())) (false, ()) [] h (by kernel_rfl) trivial (congrArg (fun z => (z, ())) (show (false) = sameW x0 x1 from by first | rfl | (unfold sameW; rw [if_pos h1, if_neg (neT h2)]; done) | (unfold sameW; simp_all [validBS_eq])))
  · skip
    refine at_regq (T := S_spec_l9Pair_tab) [{}, { hint := some (aB false) }] { ts := [4], os := [] } [(fun (x0 : T105) => Sh.fit s105 x0) x0, (AV.p (.c (.v (.bool ((validBS x0))))) = AV.p (.c (.v (.bool false))))] gamOK hT h (by kernel_rfl) ⟨(by exact hf0), hint_bool (h1), trivial⟩ ?_
    intro a w h
    refine then_normal ?_
    refine wp_ret ?_
    exact at_return (S := S_spec_l9Pair) (x := (x0, x1, ())) (false, ()) [] h (by kernel_rfl) trivial (congrArg (fun z => (z, ())) (show (false) = sameW x0 x1 from by first | rfl | (unfold sameW; rw [if_neg (neT h1)]; done) | (unfold sameW; simp_all [validBS_eq])))

def D_spec_Dimension := (fun (b : T105) => if validB b = true then ((List.length b.2 : Nat) : Int) else 0)
def S_spec_Dimension : Sum := { fid := 142, dom := [s105], cod := [(.int 3)], dp := true, fz := false, pre := fun x => (fun (x0 : T105) => Sh.fit s105 x0) x.1, g := fun x => ((D_spec_Dimension x.1), ()) }
def S_spec_Dimension_tab : List (Nat × Sum) := [(206, S_spec_IsValidBasis)]
theorem S_spec_Dimension_ok : FnOK Try.prog 142 S_spec_Dimension := by
  refine at_enter 9 (fun x => ⟨[(0, aG [cI x.1.1, .ro s22 x.1.2])], []⟩) Try.func142 rfl (by kernel_rfl) (fun x => rfl) ?_
  rintro w0 Z0 ⟨x0, u⟩ a w
  revert x0
  intro (x0 : T105) hpre hlens h
  replace h : At w0 Z0 [] 9 ⟨[(0, aG [cI x0.1, .ro s22 x0.2])], []⟩ a w := h
  replace hpre : (fun (x0 : T105) => Sh.fit s105 x0) x0 := hpre
  have hl1 : List.length x0.2 ≤ 9223372036854775807 := hlens.1.2.1
  have hT : TabOK Try.prog S_spec_Dimension_tab := (.cons S_spec_IsValidBasis_ok .nil)
  have hf0 : Sh.fit s105 x0 := hpre
  have hn0_1 : List.length x0.2 ≤ 1073741824 := hf0.2.1
  refine wp_seq ?_
  refine at_regq (T := S_spec_Dimension_tab) [{ ids := [1] }] { ts := [1, 2], os := [1] } [] gamOK hT h (by kernel_rfl) trivial ?_
  intro a w h
  refine then_normal ?_
  refine wp_seq ?_
  refine wp_seq ?_
  refine at_regq (T := S_spec_Dimension_tab) [] { ts := [1, 2, 5], os := [1] } [(fun (x0 : T105) => Sh.fit s105 x0) x0] gamOK hT h (by kernel_rfl) ⟨(by exact hf0), trivial⟩ ?_
  intro a w h
  refine then_normal ?_
  refine at_test (!(validBS x0)) h (by kernel_rfl) (fun h1 => ?_) (fun h1 => ?_)
  · replace h1 : (validBS x0) = false := notT h1
    refine wp_seq ?_
    refine at_regq (T := S_spec_Dimension_tab) [] { ts := [1, 2], os := [1] } [] gamOK hT h (by kernel_rfl) trivial ?_
    intro a w h
    refine then_normal ?_
    refine wp_ret ?_
    refine then_ret ?_
    exact at_return (S := S_spec_Dimension) (x := (x0, ())) (0, ()) [] h (by kernel_rfl) trivial (congrArg (fun z => (z, ())) (show (0) = D_spec_Dimension x0 from by unfold D_spec_Dimension; simp_all [validBS_eq]))
  · replace h1 : (validBS x0) = true := notF h1
    have hvh1 := validBS_t h1
    refine wp_skip ?_
    refine then_normal ?_
    refine wp_seq ?_
    refine at_regq (T := S_spec_Dimension_tab) [] { ts := [2], os := [] } [] gamOK hT h (by kernel_rfl) trivial ?_
    intro a w h
    refine then_normal ?_
    refine wp_ret ?_
    exact at_return (S := S_spec_Dimension) (x := (x0, ())) (((List.length x0.2 : Nat) : Int), ()) [] h (by kernel_rfl) trivial (congrArg (fun z => (z, ())) (show (((List.length x0.2 : Nat) : Int)) = D_spec_Dimension x0 from by unfold D_spec_Dimension; simp_all [validBS_eq]))

def S_impl_SumOf : Sum := { fid := 69, dom := [s105, s105], cod := [s105], dp := true, fz := false, pre := fun x => (fun (x0 : T105) (x1 : T105) => Sh.fit s105 x0 ∧ Sh.fit s105 x1) x.1 x.2.1, g := fun x => ((sumB x.1 x.2.1), ()) }
def S_impl_SumOf_tab : List (Nat × Sum) := [(149, S__impl_Basis_clone), (143, S_impl_sameWidth), (151, S__P_impl_Basis_insert)]
theorem S_impl_SumOf_ok : FnOK Try.prog 69 S_impl_SumOf := by
  refine at_enter 24 (fun x => ⟨[(0, aG [cI x.1.1, .ro s22 x.1.2]), (1, aG [cI x.2.1.1, .ro s22 x.2.1.2])], []⟩) Try.func69 rfl (by kernel_rfl) (fun x => rfl) ?_
  rintro w0 Z0 ⟨x0, x1, u⟩ a w
  revert x0 x1
  intro (x0 : T105) (x1 : T105) hpre hlens h
  replace h : At w0 Z0 [] 24 ⟨[(0, aG [cI x0.1, .ro s22 x0.2]), (1, aG [cI x1.1, .ro s22 x1.2])], []⟩ a w := h
  replace hpre : (fun (x0 : T105) (x1 : T105) => Sh.fit s105 x0 ∧ Sh.fit s105 x1) x0 x1 := hpre
  have hl1 : List.length x0.2 ≤ 9223372036854775807 := hlens.1.2.1
  have hl2 : List.length x1.2 ≤ 9223372036854775807 := hlens.2.1.2.1
  have hT : TabOK Try.prog S_impl_SumOf_tab := (.cons S__impl_Basis_clone_ok (.cons S_impl_sameWidth_ok (.cons S__P_impl_Basis_insert_ok .nil)))
  obtain ⟨hf0, hf1⟩ := hpre
  have hn0_1 : List.length x0.2 ≤ 1073741824 := hf0.2.1
  have hn1_2 : List.length x1.2 ≤ 1073741824 := hf1.2.1
  refine wp_seq ?_
  refine at_regq (T := S_impl_SumOf_tab) [{ ids := [1] }, { ids := [2] }, { ids := [3] }] { ts := [2, 3, 4], os := [1, 2, 3] } [] gamOK hT h (by kernel_rfl) trivial ?_
  intro a w h
  refine then_normal ?_
  refine wp_seq ?_
  refine at_regq (T := S_impl_SumOf_tab) [{}, { ids := [4] }, { ids := [5] }] { ts := [2, 3, 4, 5], os := [1, 2, 3, 4, 5] } [(fun (x0 : T105) => Sh.fit s105 x0) x0] gamOK hT h (by kernel_rfl) ⟨(by exact hf0), trivial⟩ ?_
  intro a w h
  refine then_normal ?_
  refine wp_seq ?_
  refine wp_seq ?_
  refine at_regq (T := S_impl_SumOf_tab) [] { ts := [3, 4, 5, 12], os := [2, 3, 4, 5] } [(fun (x0 : T105) (x1 : T105) => Sh.fit s105 x0 ∧ Sh.fit s105 x1) x0 x1] gamOK hT h (by kernel_rfl) ⟨(by exact ⟨hf0, hf1⟩), trivial⟩ ?_
  intro a w h
  refine then_normal ?_
  refine at_test ((sameW x0 x1)) h (by kernel_rfl) (fun h1 => ?_) (fun h1 => ?_)
  · refine wp_seq ?_
    refine at_reg (T := S_impl_SumOf_tab) [] { ts := [4, 5, 14, 15, 16], os := [3, 4, 5] } ⟨[(4, aP 3 0), (5, aP 5 0), (14, aF s22 x1.2), (15, aI ((List.length x1.2 : Nat) : Int)), (16, aI 0)], [(3, oX 105 [cI 0, cN]), (4, oR s22 x0.2), (5, oX 105 [cI x0.1, .sl 4])]⟩ [] gamOK hT h (by kernel_rfl) trivial ?_
    intro a w h
    refine then_normal ?_
    refine wp_block ?_
    replace h := at_out (σ' := ⟨[(4, aP 3 0), (5, aP 5 0), (14, aF s22 x1.2), (15, aI ((List.length x1.2 : Nat) : Int)), (16, aI 0)], [(3, oX 105 [cI 0, cN]), (4, oR s22 x0.2), (5, oX 105 [cI x0.1, .sl 4])]⟩) { ts := [4, 5, 14, 15, 16], os := [3, 4, 5] } h (by kernel_rfl)
    refine at_loop (fun i : Nat => (⟨[(4, aP 3 0), (5, aP 5 0), (14, aF s22 x1.2), (15, aI ((List.length x1.2 : Nat) : Int)), (16, aI ((i : Nat) : Int))], [(3, oX 105 [cI 0, cN]), (4, oR s22 (foldTo insR x0.2 x1.2 i)), (5, oX 105 [cI x0.1, .sl 4])]⟩ : St)) (fun i => i ≤ List.length x1.2) (fun i => List.length x1.2 - i) (0) h (st_congr3 (fun (d0 : Int) (d1 : List (List Int)) (d2 : Int) => (⟨[(4, aP 3 0), (5, aP 5 0), (14, aF s22 x1.2), (15, aI ((List.length x1.2 : Nat) : Int)), (16, aI d2)], [(3, oX 105 [cI 0, cN]), (4, oR s22 d1), (5, oX 105 [cI d0, .sl 4])]⟩ : St)) (show (x0.1 : Int) = x0.1 from by first | with_reducible rfl | (rfl) | rfl) (show (x0.2 : List (List Int)) = (foldTo insR x0.2 x1.2 (0)) from by first | with_reducible rfl | (rfl) | rfl) (show (0 : Int) = (((0) : Nat) : Int) from by first | with_reducible rfl | (rfl) | rfl)) (by omega) ?_
    intro i a w hok0 h
    refine wp_seq ?_
    refine at_regq (T := S_impl_SumOf_tab) [] { ts := [4, 5, 14, 15, 16, 17], os := [3, 4, 5] } [] gamOK hT h (by kernel_rfl) trivial ?_
    intro a w h
    refine then_normal ?_
    refine wp_seq ?_
    refine at_test (decide (((i : Nat) : Int) < ((List.length x1.2 : Nat) : Int))) h (by kernel_rfl) (fun h2 => ?_) (fun h2 => ?_)
    · replace h2 : ((i : Nat) : Int) < ((List.length x1.2 : Nat) : Int) := of_decide_eq_true h2
      have htk := takes_sum (a := x0) (b := x1) (i := i) (by assumption) (by omega)
      have hbf := basP_fit htk.1
      have hrw := htk.2
      have hb01 := htk.1.1
      have hrf := fitV hrw (by dsimp only at *; omega)
      refine wp_skip ?_
      refine then_normal ?_
      refine wp_seq ?_
      refine wp_block ?_
      refine wp_seq ?_
      refine at_regq (T := S_impl_SumOf_tab) [] { ts := [4, 5, 7, 14, 15, 16], os := [3, 4, 5] } [(0 : Int) ≤ ((i : Nat) : Int) ∧ ((i : Nat) : Int) < ((List.length x1.2 : Nat) : Int)] gamOK hT h (by kernel_rfl) ⟨(by refine ⟨?_, ?_⟩ <;> (first | omega | (simp only [List.length_append, List.length_cons, List.length_nil, List.length_set, List.length_take, List.length_drop, List.length_replicate, List.length_map, Nat.min_def]; omega) | (simp; done) | (simp; omega) | done)), trivial⟩ ?_
      intro a w h
      refine then_normal ?_
      refine at_regq (T := S_impl_SumOf_tab) [{}, { ids := [6] }] { ts := [4, 5, 14, 15, 16], os := [3, 5, 6] } [(fun (x0 : T105) (x1 : (List Int)) => Sh.fit s105 x0 ∧ Sh.fit s22 x1 ∧ redP x0 x1) (x0.1, (foldTo insR x0.2 x1.2 i)) (x1.2.getD i [])] gamOK hT h (by kernel_rfl) ⟨(by exact ⟨hbf, hrf, htk⟩), trivial⟩ ?_
      intro a w h
      refine in_normal ?_
      refine then_normal ?_
      refine at_reg (T := S_impl_SumOf_tab) [{ nw := true }] { ts := [4, 5, 14, 15, 16], os := [3, 5, 6] } ⟨[(4, aP 3 0), (5, aP 5 0), (14, aF s22 x1.2), (15, aI ((List.length x1.2 : Nat) : Int)), (16, aI (((i : Nat) : Int) + 1))], [(3, oX 105 [cI 0, cN]), (5, oX 105 [cI (insU (x0.1, (foldTo insR x0.2 x1.2 i)) (x1.2.getD i [])).1, .sl 6]), (6, oR s22 (insU (x0.1, (foldTo insR x0.2 x1.2 i)) (x1.2.getD i [])).2)]⟩ [I64 (((i : Nat) : Int) + 1)] gamOK hT h (by kernel_rfl) ⟨⟨by first | omega | (simp only [List.length_append, List.length_cons, List.length_nil, List.length_set, List.length_take, List.length_drop, List.length_replicate, List.length_map, Nat.min_def]; omega) | (simp; done) | (simp; omega) | done, by first | omega | (simp only [List.length_append, List.length_cons, List.length_nil, List.length_set, List.length_take, List.length_drop, List.length_replicate, List.length_map, Nat.min_def]; omega) | (simp; done) | (simp; omega) | done⟩, trivial⟩ ?_
      intro a w h
      replace h := at_out (σ' := ⟨[(4, aP 3 0), (5, aP 5 0), (14, aF s22 x1.2), (15, aI ((List.length x1.2 : Nat) : Int)), (16, aI (((i : Nat) : Int) + 1))], [(3, oX 105 [cI 0, cN]), (4, oR s22 (insU (x0.1, (foldTo insR x0.2 x1.2 i)) (x1.2.getD i [])).2), (5, oX 105 [cI (insU (x0.1, (foldTo insR x0.2 x1.2 i)) (x1.2.getD i [])).1, .sl 4])]⟩) { ts := [4, 5, 14, 15, 16], os := [3, 6, 5], rn := [(6, 4)] } h (by kernel_rfl)
      exact ⟨i + 1, at_eq h (st_congr3 (fun (d0 : Int) (d1 : List (List Int)) (d2 : Int) => (⟨[(4, aP 3 0), (5, aP 5 0), (14, aF s22 x1.2), (15, aI ((List.length x1.2 : Nat) : Int)), (16, aI d2)], [(3, oX 105 [cI 0, cN]), (4, oR s22 d1), (5, oX 105 [cI d0, .sl 4])]⟩ : St)) (show ((insU (x0.1, (foldTo insR x0.2 x1.2 i)) (x1.2.getD i [])).1 : Int) = x0.1 from by first | with_reducible rfl | (first | rfl | (rw [insV_at htk]; done)) | rfl) (show ((insU (x0.1, (foldTo insR x0.2 x1.2 i)) (x1.2.getD i [])).2 : List (List Int)) = (foldTo insR x0.2 x1.2 (i + 1)) from by first | with_reducible rfl | (first | (rw [foldTo_succ [] (by omega)]; rfl) | (rw [foldTo_succ [] (by omega), insV_at htk]; done)) | rfl) (show (((i : Nat) : Int) + 1 : Int) = (((i + 1) : Nat) : Int) from by first | with_reducible rfl | (omega) | rfl)), (by omega), (by omega)⟩
    · replace h2 : ¬ (((i : Nat) : Int) < ((List.length x1.2 : Nat) : Int)) := of_decide_eq_false h2
      refine wp_exit ?_
      refine then_exit ?_
      refine then_exit ?_
      refine in_hit ?_
      refine then_normal ?_
      refine wp_seq ?_
      refine at_regq (T := S_impl_SumOf_tab) [] { ts := [4], os := [3, 4] } [] gamOK hT h (by kernel_rfl) trivial ?_
      intro a w h
      refine then_normal ?_
      refine wp_ret ?_
      exact at_return (S := S_impl_SumOf) (x := (x0, x1, ())) ((x0.1, (foldTo insR x0.2 x1.2 i)), ()) [] h (by kernel_rfl) trivial (congrArg (fun z => (z, ())) (show ((x0.1, (foldTo insR x0.2 x1.2 i))) = sumB x0 x1 from by first | (unfold sumB; rw [if_pos (by assumption), show List.length x1.2 = i by omega]; done) | (unfold sumB; rw [if_neg (by simp_all)]; done)))
  · refine wp_skip ?_
    refine then_normal ?_
    refine wp_seq ?_
    refine at_reg (T := S_impl_SumOf_tab) [] { ts := [4], os := [3, 4] } ⟨[(4, aP 3 0)], [(3, oX 105 [cI x0.1, .sl 4]), (4, oR s22 x0.2)]⟩ [] gamOK hT h (by kernel_rfl) trivial ?_
    intro a w h
    refine then_normal ?_
    refine wp_ret ?_
    exact at_return (S := S_impl_SumOf) (x := (x0, x1, ())) (x0, ()) [] h (by kernel_rfl) trivial (congrArg (fun z => (z, ())) (show (x0) = sumB x0 x1 from by first | (unfold sumB; rw [if_pos (by assumption), show List.length x1.2 = i by omega]; done) | (unfold sumB; rw [if_neg (by simp_all)]; done)))

def S_spec_SumOf : Sum := { fid := 68, dom := [s105, s105], cod := [s105], dp := false, fz := false, pre := fun x => (fun (x0 : T105) (x1 : T105) => Sh.fit s105 x0 ∧ Sh.fit s105 x1) x.1 x.2.1, g := fun x => ((sumB x.1 x.2.1), ()) }
def S_spec_SumOf_tab : List (Nat × Sum) := [(146, S_spec_l8Copy), (141, S_spec_l9Pair), (63, S_spec_InsertVector)]
theorem S_spec_SumOf_ok : FnOK Try.prog 68 S_spec_SumOf := by
  refine at_enter 35 (fun x => ⟨[(0, aG [cI x.1.1, .ro s22 x.1.2]), (1, aG [cI x.2.1.1, .ro s22 x.2.1.2])], []⟩) Try.func68 rfl (by kernel_rfl) (fun x => rfl) ?_
  rintro w0 Z0 ⟨x0, x1, u⟩ a w
  revert x0 x1
  intro (x0 : T105) (x1 : T105) hpre hlens h
  replace h : At w0 Z0 [] 35 ⟨[(0, aG [cI x0.1, .ro s22 x0.2]), (1, aG [cI x1.1, .ro s22 x1.2])], []⟩ a w := h
  replace hpre : (fun (x0 : T105) (x1 : T105) => Sh.fit s105 x0 ∧ Sh.fit s105 x1) x0 x1 := hpre
  have hl1 : List.length x0.2 ≤ 9223372036854775807 := hlens.1.2.1
  have hl2 : List.length x1.2 ≤ 9223372036854775807 := hlens.2.1.2.1
  have hT : TabOK Try.prog S_spec_SumOf_tab := (.cons S_spec_l8Copy_ok (.cons S_spec_l9Pair_ok (.cons S_spec_InsertVector_ok .nil)))
  obtain ⟨hf0, hf1⟩ := hpre
  have hn0_1 : List.length x0.2 ≤ 1073741824 := hf0.2.1
  have hn1_2 : List.length x1.2 ≤ 1073741824 := hf1.2.1
  refine wp_seq ?_
  refine at_regq (T := S_spec_SumOf_tab) [{ ids := [1] }, { ids := [2] }, { ids := [3] }] { ts := [2, 3, 4], os := [1, 2, 3] } [] gamOK hT h (by kernel_rfl) trivial ?_
  intro a w h
  refine then_normal ?_
  refine wp_seq ?_
  refine at_regq (T := S_spec_SumOf_tab) [{}, { ids := [4] }, { ids := [5] }] { ts := [2, 3, 4, 5], os := [1, 2, 3, 4, 5] } [(fun (x0 : T105) => Sh.fit s105 x0) x0] gamOK hT h (by kernel_rfl) ⟨(by exact hf0), trivial⟩ ?_
  intro a w h
  refine then_normal ?_
  refine wp_seq ?_
  refine wp_seq ?_
  refine at_regq (T := S_spec_SumOf_tab) [] { ts := [3, 4, 5, 14], os := [2, 3, 4, 5] } [(fun (x0 : T105) (x1 : T105) => Sh.fit s105 x0 ∧ Sh.fit s105 x1) x0 x1] gamOK hT h (by kernel_rfl) ⟨(by exact ⟨hf0, hf1⟩), trivial⟩ ?_
  intro a w h
  refine then_normal ?_
  refine at_test (!(sameW x0 x1)) h (by kernel_rfl) (fun h1 => ?_) (fun h1 => ?_)
  · replace h1 : (sameW x0 x1) = false := notT h1
    refine wp_seq ?_
    refine at_reg (T := S_spec_SumOf_tab) [] { ts := [3, 4, 5], os := [2, 3, 4, 5] } ⟨[(3, aP 2 0), (4, aP 3 0), (5, aP 5 0)], [(2, oX 105 [cI x1.1, .ro s22 x1.2]), (3, oX 105 [cI x0.1, .sl 4]), (4, oF s22 x0.2), (5, oX 105 [cI x0.1, .sl 4])]⟩ [] gamOK hT h (by kernel_rfl) trivial ?_
    intro a w h
    refine then_normal ?_
    refine wp_ret ?_
    refine then_ret ?_
    exact at_return (S := S_spec_SumOf) (x := (x0, x1, ())) (x0, ()) [] h (by kernel_rfl) trivial (congrArg (fun z => (z, ())) (show (x0) = sumB x0 x1 from by first | (unfold sumB; rw [if_pos (by assumption), show List.length x1.2 = i by omega]; done) | (unfold sumB; rw [if_neg (by simp_all)]; done)))
  · replace h1 : (sameW x0 x1) = true := notF h1
    refine wp_skip ?_
    refine then_normal ?_
    refine wp_seq ?_
    refine wp_seq ?_
    refine at_reg (T := S_spec_SumOf_tab) [] { ts := [3, 4, 5, 6], os := [2, 3, 4, 5] } ⟨[(3, aP 2 0), (4, aP 3 0), (5, aP 5 0), (6, aI 0)], [(2, oX 105 [cI x1.1, .ro s22 x1.2]), (3, oX 105 [cI 0, cN]), (4, oF s22 x0.2), (5, oX 105 [cI x0.1, .sl 4])]⟩ [] gamOK hT h (by kernel_rfl) trivial ?_
    intro a w h
    refine then_normal ?_
    refine wp_block ?_
    replace h := at_out (σ' := ⟨[(3, aP 2 0), (4, aP 3 0), (5, aP 5 0), (6, aI 0)], [(2, oX 105 [cI x1.1, .ro s22 x1.2]), (3, oX 105 [cI 0, cN]), (4, oF s22 x0.2), (5, oX 105 [cI x0.1, .sl 4])]⟩) { ts := [3, 4, 5, 6], os := [2, 3, 4, 5] } h (by kernel_rfl)
    refine at_loop (fun i : Nat => (⟨[(3, aP 2 0), (4, aP 3 0), (5, aP 5 0), (6, aI ((i : Nat) : Int))], [(2, oX 105 [cI x1.1, .ro s22 x1.2]), (3, oX 105 [cI 0, cN]), (4, oF s22 (foldTo insR x0.2 x1.2 i)), (5, oX 105 [cI x0.1, .sl 4])]⟩ : St)) (fun i => i ≤ List.length x1.2) (fun i => List.length x1.2 - i) (0) h (st_congr3 (fun (d0 : Int) (d1 : List (List Int)) (d2 : Int) => (⟨[(3, aP 2 0), (4, aP 3 0), (5, aP 5 0), (6, aI d2)], [(2, oX 105 [cI x1.1, .ro s22 x1.2]), (3, oX 105 [cI 0, cN]), (4, oF s22 d1), (5, oX 105 [cI d0, .sl 4])]⟩ : St)) (show (x0.1 : Int) = x0.1 from by first | with_reducible rfl | (rfl) | rfl) (show (x0.2 : List (List Int)) = (foldTo insR x0.2 x1.2 (0)) from by first | with_reducible rfl | (rfl) | rfl) (show (0 : Int) = (((0) : Nat) : Int) from by first | with_reducible rfl | (rfl) | rfl)) (by omega) ?_
    intro i a w hok0 h
    refine wp_seq ?_
    refine wp_seq ?_
    refine at_regq (T := S_spec_SumOf_tab) [] { ts := [3, 4, 5, 6, 20], os := [2, 3, 4, 5] } [] gamOK hT h (by kernel_rfl) trivial ?_
    intro a w h
    refine then_normal ?_
    refine at_test (decide (((i : Nat) : Int) < ((List.length x1.2 : Nat) : Int))) h (by kernel_rfl) (fun h2 => ?_) (fun h2 => ?_)
    · replace h2 : ((i : Nat) : Int) < ((List.length x1.2 : Nat) : Int) := of_decide_eq_true h2
      have htk := takes_sum (a := x0) (b := x1) (i := i) (by assumption) (by omega)
      have hbf := basP_fit htk.1
      have hrw := htk.2
      have hb01 := htk.1.1
      have hrf := fitV hrw (by dsimp only at *; omega)
      refine wp_skip ?_
      refine then_normal ?_
      refine wp_seq ?_
      refine wp_block ?_
      refine wp_seq ?_
      replace h := at_out (σ' := ⟨[(3, aP 2 0), (4, aP 3 0), (5, aP 5 0), (6, aI ((i : Nat) : Int))], [(2, oX 105 [cI x1.1, .ro s22 x1.2]), (3, oX 105 [cI 0, cN]), (5, oX 105 [cI x0.1, .ro s22 (foldTo insR x0.2 x1.2 i)])]⟩) { fz := [4], ts := [3, 4, 5, 6], os := [2, 3, 5] } h (by kernel_rfl)
      refine at_anyq (T := S_spec_SumOf_tab) [{}, {}, {}, {}, {}, {}, { ids := [6] }, {}, {}, {}, { ids := [7] }, {}, {}] { ts := [3, 4, 5, 6, 7], os := [2, 3, 5, 6, 7] } [(0 : Int) ≤ ((i : Nat) : Int) ∧ ((i : Nat) : Int) < ((List.length x1.2 : Nat) : Int), (fun (x0 : T105) (x1 : (List Int)) => Sh.fit s105 x0 ∧ Sh.fit s22 x1) (x0.1, (foldTo insR x0.2 x1.2 i)) (x1.2.getD i [])] gamOK hT mixed h (by kernel_rfl) ⟨(by refine ⟨?_, ?_⟩ <;> (first | omega | (simp only [List.length_append, List.length_cons, List.length_nil, List.length_set, List.length_take, List.length_drop, List.length_replicate, List.length_map, Nat.min_def]; omega) | (simp; done) | (simp; omega) | done)), (by exact ⟨hbf, hrf⟩), trivial⟩ ?_
      intro a w h
      refine then_normal ?_
      refine at_regq (T := S_spec_SumOf_tab) [] { ts := [3, 4, 5, 6], os := [2, 3, 5, 6] } [] gamOK hT h (by kernel_rfl) trivial ?_
      intro a w h
      refine in_normal ?_
      refine then_normal ?_
      refine at_reg (T := S_spec_SumOf_tab) [{}, { nw := true }] { ts := [3, 4, 5, 6], os := [2, 3, 5, 6] } ⟨[(3, aP 2 0), (4, aP 3 0), (5, aP 5 0), (6, aI (((i : Nat) : Int) + 1))], [(2, oX 105 [cI x1.1, .ro s22 x1.2]), (3, oX 105 [cI 0, cN]), (5, oX 105 [cI (insV (x0.1, (foldTo insR x0.2 x1.2 i)) (x1.2.getD i [])).1.1, .sl 6]), (6, oF s22 (insV (x0.1, (foldTo insR x0.2 x1.2 i)) (x1.2.getD i [])).1.2)]⟩ [I64 (((i : Nat) : Int) + 1)] gamOK hT h (by kernel_rfl) ⟨⟨by first | omega | (simp only [List.length_append, List.length_cons, List.length_nil, List.length_set, List.length_take, List.length_drop, List.length_replicate, List.length_map, Nat.min_def]; omega) | (simp; done) | (simp; omega) | done, by first | omega | (simp only [List.length_append, List.length_cons, List.length_nil, List.length_set, List.length_take, List.length_drop, List.length_replicate, List.length_map, Nat.min_def]; omega) | (simp; done) | (simp; omega) | done⟩, trivial⟩ ?_
      intro a w h
      replace h := at_out (σ' := ⟨[(3, aP 2 0), (4, aP 3 0), (5, aP 5 0), (6, aI (((i : Nat) : Int) + 1))], [(2, oX 105 [cI x1.1, .ro s22 x1.2]), (3, oX 105 [cI 0, cN]), (4, oF s22 (insV (x0.1, (foldTo insR x0.2 x1.2 i)) (x1.2.getD i [])).1.2), (5, oX 105 [cI (insV (x0.1, (foldTo insR x0.2 x1.2 i)) (x1.2.getD i [])).1.1, .sl 4])]⟩) { ts := [3, 4, 5, 6], os := [2, 3, 6, 5], rn := [(6, 4)] } h (by kernel_rfl)
      exact ⟨i + 1, at_eq h (st_congr3 (fun (d0 : Int) (d1 : List (List Int)) (d2 : Int) => (⟨[(3, aP 2 0), (4, aP 3 0), (5, aP 5 0), (6, aI d2)], [(2, oX 105 [cI x1.1, .ro s22 x1.2]), (3, oX 105 [cI 0, cN]), (4, oF s22 d1), (5, oX 105 [cI d0, .sl 4])]⟩ : St)) (show ((insV (x0.1, (foldTo insR x0.2 x1.2 i)) (x1.2.getD i [])).1.1 : Int) = x0.1 from by first | with_reducible rfl | (first | rfl | (rw [insV_at htk]; done)) | rfl) (show ((insV (x0.1, (foldTo insR x0.2 x1.2 i)) (x1.2.getD i [])).1.2 : List (List Int)) = (foldTo insR x0.2 x1.2 (i + 1)) from by first | with_reducible rfl | (first | (rw [foldTo_succ [] (by omega)]; rfl) | (rw [foldTo_succ [] (by omega), insV_at htk]; done)) | rfl) (show (((i : Nat) : Int) + 1 : Int) = (((i + 1) : Nat) : Int) from by first | with_reducible rfl | (omega) | rfl)), (by omega), (by omega)⟩
    · replace h2 : ¬ (((i : Nat) : Int) < ((List.length x1.2 : Nat) : Int)) := of_decide_eq_false h2
      refine wp_exit ?_
      refine then_exit ?_
      refine then_exit ?_
      refine in_hit ?_
      refine then_normal ?_
      refine wp_seq ?_
      refine at_regq (T := S_spec_SumOf_tab) [] { ts := [4], os := [3, 4] } [] gamOK hT h (by kernel_rfl) trivial ?_
      intro a w h
      refine then_normal ?_
      refine wp_ret ?_
      exact at_return (S := S_spec_SumOf) (x := (x0, x1, ())) ((x0.1, (foldTo insR x0.2 x1.2 i)), ()) [] h (by kernel_rfl) trivial (congrArg (fun z => (z, ())) (show ((x0.1, (foldTo insR x0.2 x1.2 i))) = sumB x0 x1 from by first | (unfold sumB; rw [if_pos (by assumption), show List.length x1.2 = i by omega]; done) | (unfold sumB; rw [if_neg (by simp_all)]; done)))

def innovB (x0 : T105) (x1 : T105) : Int := (if (sameW x0 x1) = true then ((List.length (sumB x0 x1).2 : Nat) : Int) - ((List.length x0.2 : Nat) : Int) else 0)
def S_impl_InnovationOf : Sum := { fid := 61, dom := [s105, s105], cod := [(.int 3)], dp := true, fz := false, pre := fun x => (fun (x0 : T105) (x1 : T105) => Sh.fit s105 x0 ∧ Sh.fit s105 x1) x.1 x.2.1, g := fun x => ((innovB x.1 x.2.1), ()) }
def S_impl_InnovationOf_tab : List (Nat × Sum) := [(143, S_impl_sameWidth), (69, S_impl_SumOf)]
theorem S_impl_InnovationOf_ok : FnOK Try.prog 61 S_impl_InnovationOf := by
  refine at_enter 18 (fun x => ⟨[(0, aG [cI x.1.1, .ro s22 x.1.2]), (1, aG [cI x.2.1.1, .ro s22 x.2.1.2])], []⟩) Try.func61 rfl (by kernel_rfl) (fun x => rfl) ?_
  rintro w0 Z0 ⟨x0, x1, u⟩ a w
  revert x0 x1
  intro (x0 : T105) (x1 : T105) hpre hlens h
  replace h : At w0 Z0 [] 18 ⟨[(0, aG [cI x0.1, .ro s22 x0.2]), (1, aG [cI x1.1, .ro s22 x1.2])], []⟩ a w := h
  replace hpre : (fun (x0 : T105) (x1 : T105) => Sh.fit s105 x0 ∧ Sh.fit s105 x1) x0 x1 := hpre
  have hl1 : List.length x0.2 ≤ 9223372036854775807 := hlens.1.2.1
  have hl2 : List.length x1.2 ≤ 9223372036854775807 := hlens.2.1.2.1
  have hT : TabOK Try.prog S_impl_InnovationOf_tab := (.cons S_impl_sameWidth_ok (.cons S_impl_SumOf_ok .nil))
  obtain ⟨hf0, hf1⟩ := hpre
  have hn0_1 : List.length x0.2 ≤ 1073741824 := hf0.2.1
  have hn1_2 : List.length x1.2 ≤ 1073741824 := hf1.2.1
  refine wp_seq ?_
  refine at_regq (T := S_impl_InnovationOf_tab) [{ ids := [1] }, { ids := [2] }] { ts := [2, 3, 4], os := [1, 2] } [] gamOK hT h (by kernel_rfl) trivial ?_
  intro a w h
  refine then_normal ?_
  refine wp_seq ?_
  refine wp_seq ?_
  refine at_regq (T := S_impl_InnovationOf_tab) [] { ts := [2, 3, 4, 8], os := [1, 2] } [(fun (x0 : T105) (x1 : T105) => Sh.fit s105 x0 ∧ Sh.fit s105 x1) x0 x1] gamOK hT h (by kernel_rfl) ⟨(by exact ⟨hf0, hf1⟩), trivial⟩ ?_
  intro a w h
  refine then_normal ?_
  refine at_test (!(sameW x0 x1)) h (by kernel_rfl) (fun h1 => ?_) (fun h1 => ?_)
  · replace h1 : (sameW x0 x1) = false := notT h1
    refine wp_seq ?_
    refine at_regq (T := S_impl_InnovationOf_tab) [] { ts := [2, 3, 4], os := [1, 2] } [] gamOK hT h (by kernel_rfl) trivial ?_
    intro a w h
    refine then_normal ?_
    refine wp_ret ?_
    refine then_ret ?_
    exact at_return (S := S_impl_InnovationOf) (x := (x0, x1, ())) (0, ()) [] h (by kernel_rfl) trivial (congrArg (fun z => (z, ())) (show (0) = innovB x0 x1 from by first | rfl | (unfold innovB; rw [if_neg (neT h1)])))
  · replace h1 : (sameW x0 x1) = true := notF h1
    refine wp_skip ?_
    refine then_normal ?_
    refine wp_seq ?_
    refine at_anyq (T := S_impl_InnovationOf_tab) [{}, {}, { ids := [3] }, {}, {}, {}, {}, {}, { nw := true }, {}] { ts := [4], os := [] } [(fun (x0 : T105) (x1 : T105) => Sh.fit s105 x0 ∧ Sh.fit s105 x1) x0 x1, I64 (((List.length (sumB x0 x1).2 : Nat) : Int) - ((List.length x0.2 : Nat) : Int))] gamOK hT mixed h (by kernel_rfl) ⟨(by exact ⟨hf0, hf1⟩), ⟨by (have hL0 := (show List.length (sumB x0 x1).2 ≤ 1073741824 from ((sumB_fit hf0).2).1); first | omega | (simp only [List.length_append, List.length_cons, List.length_nil, List.length_set, List.length_take, List.length_drop, List.length_replicate, List.length_map, Nat.min_def]; omega) | (simp; done) | (simp; omega) | done), by (have hL0 := (show List.length (sumB x0 x1).2 ≤ 1073741824 from ((sumB_fit hf0).2).1); first | omega | (simp only [List.length_append, List.length_cons, List.length_nil, List.length_set, List.length_take, List.length_drop, List.length_replicate, List.length_map, Nat.min_def]; omega) | (simp; done) | (simp; omega) | done)⟩, trivial⟩ ?_
    intro a w h
    refine then_normal ?_
    refine wp_ret ?_
    exact at_return (S := S_impl_InnovationOf) (x := (x0, x1, ())) (((List.length (sumB x0 x1).2 : Nat) : Int) - ((List.length x0.2 : Nat) : Int), ()) [] h (by kernel_rfl) trivial (congrArg (fun z => (z, ())) (show (((List.length (sumB x0 x1).2 : Nat) : Int) - ((List.length x0.2 : Nat) : Int)) = innovB x0 x1 from by first | rfl | (unfold innovB; rw [if_pos h1])))

def S_spec_InnovationOf : Sum := { fid := 59, dom := [s105, s105], cod := [(.int 3)], dp := true, fz := false, pre := fun x => (fun (x0 : T105) (x1 : T105) => Sh.fit s105 x0 ∧ Sh.fit s105 x1) x.1 x.2.1, g := fun x => ((innovB x.1 x.2.1), ()) }
def S_spec_InnovationOf_tab : List (Nat × Sum) := [(141, S_spec_l9Pair), (68, S_spec_SumOf), (142, S_spec_Dimension)]
theorem S_spec_InnovationOf_ok : FnOK Try.prog 59 S_spec_InnovationOf := by
  refine at_enter 16 (fun x => ⟨[(0, aG [cI x.1.1, .ro s22 x.1.2]), (1, aG [cI x.2.1.1, .ro s22 x.2.1.2])], []⟩) Try.func59 rfl (by kernel_rfl) (fun x => rfl) ?_
  rintro w0 Z0 ⟨x0, x1, u⟩ a w
  revert x0 x1
  intro (x0 : T105) (x1 : T105) hpre hlens h
  replace h : At w0 Z0 [] 16 ⟨[(0, aG [cI x0.1, .ro s22 x0.2]), (1, aG [cI x1.1, .ro s22 x1.2])], []⟩ a w := h
  replace hpre : (fun (x0 : T105) (x1 : T105) => Sh.fit s105 x0 ∧ Sh.fit s105 x1) x0 x1 := hpre
  have hl1 : List.length x0.2 ≤ 9223372036854775807 := hlens.1.2.1
  have hl2 : List.length x1.2 ≤ 9223372036854775807 := hlens.2.1.2.1
  have hT : TabOK Try.prog S_spec_InnovationOf_tab := (.cons S_spec_l9Pair_ok (.cons S_spec_SumOf_ok (.cons S_spec_Dimension_ok .nil)))
  obtain ⟨hf0, hf1⟩ := hpre
  have hn0_1 : List.length x0.2 ≤ 1073741824 := hf0.2.1
  have hn1_2 : List.length x1.2 ≤ 1073741824 := hf1.2.1
  refine wp_seq ?_
  refine at_regq (T := S_spec_InnovationOf_tab) [{ ids := [1] }, { ids := [2] }] { ts := [2, 3, 4], os := [1, 2] } [] gamOK hT h (by kernel_rfl) trivial ?_
  intro a w h
  refine then_normal ?_
  refine wp_seq ?_
  refine wp_seq ?_
  refine at_regq (T := S_spec_InnovationOf_tab) [] { ts := [2, 3, 4, 8], os := [1, 2] } [(fun (x0 : T105) (x1 : T105) => Sh.fit s105 x0 ∧ Sh.fit s105 x1) x0 x1] gamOK hT h (by kernel_rfl) ⟨(by exact ⟨hf0, hf1⟩), trivial⟩ ?_
  intro a w h
  refine then_normal ?_
  refine at_test (!(sameW x0 x1)) h (by kernel_rfl) (fun h1 => ?_) (fun h1 => ?_)
  · replace h1 : (sameW x0 x1) = false := notT h1
    refine wp_seq ?_
    refine at_regq (T := S_spec_InnovationOf_tab) [] { ts := [2, 3, 4], os := [1, 2] } [] gamOK hT h (by kernel_rfl) trivial ?_
    intro a w h
    refine then_normal ?_
    refine wp_ret ?_
    refine then_ret ?_
    exact at_return (S := S_spec_InnovationOf) (x := (x0, x1, ())) (0, ()) [] h (by kernel_rfl) trivial (congrArg (fun z => (z, ())) (show (0) = innovB x0 x1 from by first | rfl | (unfold innovB; rw [if_neg (neT h1)]; done) | (unfold innovB; (rw [if_pos (by assumption), hd1, hd0]))))
  · replace h1 : (sameW x0 x1) = true := notF h1
    have hd1 : D_spec_Dimension (sumB x0 x1) = ((List.length (sumB x0 x1).2 : Nat) : Int) := if_pos ((validB_iff _).2 (sumB_P (by assumption)))
    have hd0 : D_spec_Dimension x0 = ((List.length x0.2 : Nat) : Int) := if_pos ((validB_iff _).2 (sameW_t (by assumption)).1)
    have hsl := (sumB_fit (b := x1) hf0).2.1
    refine wp_skip ?_
    refine then_normal ?_
    refine wp_seq ?_
    refine at_anyq (T := S_spec_InnovationOf_tab) [{}, {}, { ids := [3] }, {}, {}, {}, { nw := true }, {}] { ts := [4], os := [] } [(fun (x0 : T105) (x1 : T105) => Sh.fit s105 x0 ∧ Sh.fit s105 x1) x0 x1, (fun (x0 : T105) => Sh.fit s105 x0) (sumB x0 x1), (fun (x0 : T105) => Sh.fit s105 x0) x0, I64 ((D_spec_Dimension (sumB x0 x1)) - (D_spec_Dimension x0))] gamOK hT mixed h (by kernel_rfl) ⟨(by exact ⟨hf0, hf1⟩), (by exact (sumB_fit hf0)), (by exact hf0), ⟨by first | omega | (simp only [List.length_append, List.length_cons, List.length_nil, List.length_set, List.length_take, List.length_drop, List.length_replicate, List.length_map, Nat.min_def]; omega) | (simp; done) | (simp; omega) | done, by first | omega | (simp only [List.length_append, List.length_cons, List.length_nil, List.length_set, List.length_take, List.length_drop, List.length_replicate, List.length_map, Nat.min_def]; omega) | (simp; done) | (simp; omega) | done⟩, trivial⟩ ?_
    intro a w h
    refine then_normal ?_
    refine wp_ret ?_
    exact at_return (S := S_spec_InnovationOf) (x := (x0, x1, ())) ((D_spec_Dimension (sumB x0 x1)) - (D_spec_Dimension x0), ()) [] h (by kernel_rfl) trivial (congrArg (fun z => (z, ())) (show ((D_spec_Dimension (sumB x0 x1)) - (D_spec_Dimension x0)) = innovB x0 x1 from by first | rfl | (unfold innovB; rw [if_pos h1]; done) | (unfold innovB; (rw [if_pos (by assumption), hd1, hd0]))))

def D_laws_FnExactInnovationOf := (fun (_ : T102) (_ : T102) => true)
def S_laws_FnExactInnovationOf : Sum := { fid := 9, dom := [s102, s102], cod := [(.bool 4)], dp := true, fz := false, pre := fun x => (fun (x0 : T102) (x1 : T102) => Sh.i64 s102 x0 ∧ Sh.i64 s102 x1) x.1 x.2.1, g := fun x => ((D_laws_FnExactInnovationOf x.1 x.2.1), ()) }
def S_laws_FnExactInnovationOf_tab : List (Nat × Sum) := [(58, S_laws_szBasis), (60, S_laws_toBasis), (59, S_spec_InnovationOf), (61, S_impl_InnovationOf), (62, S_laws_eqBasis)]
theorem S_laws_FnExactInnovationOf_ok : FnOK Try.prog 9 S_laws_FnExactInnovationOf := by
  refine at_enter 45 (fun x => ⟨[(0, aG [cI x.1.1, .ro s22 x.1.2]), (1, aG [cI x.2.1.1, .ro s22 x.2.1.2])], []⟩) Try.func9 rfl (by kernel_rfl) (fun x => rfl) ?_
  rintro w0 Z0 ⟨x0, x1, u⟩ a w
  revert x0 x1
  intro (x0 : T102) (x1 : T102) hpre hlens h
  replace h : At w0 Z0 [] 45 ⟨[(0, aG [cI x0.1, .ro s22 x0.2]), (1, aG [cI x1.1, .ro s22 x1.2])], []⟩ a w := h
  replace hpre : (fun (x0 : T102) (x1 : T102) => Sh.i64 s102 x0 ∧ Sh.i64 s102 x1) x0 x1 := hpre
  have hl1 : List.length x0.2 ≤ 9223372036854775807 := hlens.1.2.1
  have hl2 : List.length x1.2 ≤ 9223372036854775807 := hlens.2.1.2.1
  have hT : TabOK Try.prog S_laws_FnExactInnovationOf_tab := (.cons S_laws_szBasis_ok (.cons S_laws_toBasis_ok (.cons S_spec_InnovationOf_ok (.cons S_impl_InnovationOf_ok (.cons S_laws_eqBasis_ok .nil)))))
  have hq0 : Sh.sz s105 x0 = Sh.sz s102 x0 := rfl
  have hb0 : Sh.ctT s105 x0 ≤ 2 * Sh.sz s105 x0 := Sh.ctT_le2 s105 x0
  have hz0 : Sh.ct s105 x0 ≤ 2 * (1 + Sh.sz s105 x0) := Sh.ct_le s105 x0
  have ht0 : Sh.sz s102 x0 = (0 + (Sh.sz s80 x0.2)) := rfl
  have hs0_1 : Sh.sz s80 x0.2 = List.length x0.2 + ctL (Sh.sz s22) x0.2 := rfl
  have hq1 : Sh.sz s105 x1 = Sh.sz s102 x1 := rfl
  have hb1 : Sh.ctT s105 x1 ≤ 2 * Sh.sz s105 x1 := Sh.ctT_le2 s105 x1
  have hz1 : Sh.ct s105 x1 ≤ 2 * (1 + Sh.sz s105 x1) := Sh.ct_le s105 x1
  have ht1 : Sh.sz s102 x1 = (0 + (Sh.sz s80 x1.2)) := rfl
  have hs1_1 : Sh.sz s80 x1.2 = List.length x1.2 + ctL (Sh.sz s22) x1.2 := rfl
  refine wp_seq ?_
  refine at_regq (T := S_laws_FnExactInnovationOf_tab) [{ ids := [1] }, { ids := [2] }] { ts := [2, 3, 4], os := [1, 2] } [] gamOK hT h (by kernel_rfl) trivial ?_
  intro a w h
  refine then_normal ?_
  refine wp_seq ?_
  refine at_regq (T := S_laws_FnExactInnovationOf_tab) [] { ts := [2, 3, 4, 5], os := [1, 2] } [] gamOK hT h (by kernel_rfl) trivial ?_
  intro a w h
  refine then_normal ?_
  refine wp_seq ?_
  refine at_regq (T := S_laws_FnExactInnovationOf_tab) [] { ts := [2, 3, 4, 5], os := [1, 2] } [(pSz s102) x0 1048576] gamOK hT h (by kernel_rfl) ⟨(by (show (0 : Int) ≤ _ ∧ _ ≤ (9223372036854775807 : Int); constructor <;> omega)), trivial⟩ ?_
  intro a w h
  refine then_normal ?_
  refine wp_seq ?_
  refine wp_seq ?_
  refine at_reg (T := S_laws_FnExactInnovationOf_tab) [] { ts := [2, 3, 4, 5, 14], os := [1, 2] } ⟨[(2, aP 1 0), (3, aP 2 0), (4, aB false), (5, aI ((szD s102) x0 1048576)), (14, aB (decide (((szD s102) x0 1048576) < 0)))], [(1, oX 102 [cI x0.1, .ro s22 x0.2]), (2, oX 102 [cI x1.1, .ro s22 x1.2])]⟩ [] gamOK hT h (by kernel_rfl) trivial ?_
  intro a w h
  refine then_normal ?_
  refine at_test (decide (((szD s102) x0 1048576) < 0)) h (by kernel_rfl) (fun h1 => ?_) (fun h1 => ?_)
  · replace h1 : ((szD s102) x0 1048576) < 0 := of_decide_eq_true h1
    have hvh1 := szD_neg h1 (by omega)
    refine wp_seq ?_
    refine at_regq (T := S_laws_FnExactInnovationOf_tab) [] { ts := [2, 3, 4, 5], os := [1, 2] } [] gamOK hT h (by kernel_rfl) trivial ?_
    intro a w h
    refine then_normal ?_
    refine wp_ret ?_
    refine then_ret ?_
    exact at_return (S := S_laws_FnExactInnovationOf) (x := (x0, x1, ())) (true, ()) [] h (by kernel_rfl) trivial (congrArg (fun z => (z, ())) (show (true) = D_laws_FnExactInnovationOf x0 x1 from by unfold D_laws_FnExactInnovationOf; rfl))
  · replace h1 : ¬ (((szD s102) x0 1048576) < 0) := of_decide_eq_false h1
    have hvh1 := szD_val h1 (by omega)
    refine wp_skip ?_
    refine then_normal ?_
    refine wp_seq ?_
    refine at_regq (T := S_laws_FnExactInnovationOf_tab) [] { ts := [2, 3, 4, 5], os := [1, 2] } [(pSz s102) x1 ((szD s102) x0 1048576)] gamOK hT h (by kernel_rfl) ⟨(by (show (0 : Int) ≤ _ ∧ _ ≤ (9223372036854775807 : Int); constructor <;> omega)), trivial⟩ ?_
    intro a w h
    refine then_normal ?_
    refine wp_seq ?_
    refine wp_seq ?_
    refine at_regq (T := S_laws_FnExactInnovationOf_tab) [] { ts := [2, 3, 4, 19], os := [1, 2] } [] gamOK hT h (by kernel_rfl) trivial ?_
    intro a w h
    refine then_normal ?_
    refine at_test (decide (((szD s102) x1 ((szD s102) x0 1048576)) < 0)) h (by kernel_rfl) (fun h2 => ?_) (fun h2 => ?_)
    · replace h2 : ((szD s102) x1 ((szD s102) x0 1048576)) < 0 := of_decide_eq_true h2
      have hvh2 := szD_neg h2 (by omega)
      refine wp_seq ?_
      refine at_regq (T := S_laws_FnExactInnovationOf_tab) [] { ts := [2, 3, 4], os := [1, 2] } [] gamOK hT h (by kernel_rfl) trivial ?_
      intro a w h
      refine then_normal ?_
      refine wp_ret ?_
      refine then_ret ?_
      exact at_return (S := S_laws_FnExactInnovationOf) (x := (x0, x1, ())) (true, ()) [] h (by kernel_rfl) trivial (congrArg (fun z => (z, ())) (show (true) = D_laws_FnExactInnovationOf x0 x1 from by unfold D_laws_FnExactInnovationOf; rfl))
    · replace h2 : ¬ (((szD s102) x1 ((szD s102) x0 1048576)) < 0) := of_decide_eq_false h2
      have hvh2 := szD_val h2 (by omega)
      refine wp_skip ?_
      refine then_normal ?_
      refine wp_seq ?_
      refine at_anyq (T := S_laws_FnExactInnovationOf_tab) [{}, { ids := [3] }, {}, { ids := [4] }, {}, {}] { ts := [2, 3, 4, 6], os := [1, 2] } [(pTo s102) x0, (pTo s102) x1, (fun (x0 : T105) (x1 : T105) => Sh.fit s105 x0 ∧ Sh.fit s105 x1) x0 x1] gamOK hT mixed h (by kernel_rfl) ⟨(by (show Sh.sz _ _ ≤ 1048576; omega)), (by (show Sh.sz _ _ ≤ 1048576; omega)), (by exact ⟨(Sh.fit_of_sz s105 rfl (x := x0) (by omega)), (Sh.fit_of_sz s105 rfl (x := x1) (by omega))⟩), trivial⟩ ?_
      intro a w h
      refine then_normal ?_
      refine wp_seq ?_
      refine at_reg (T := S_laws_FnExactInnovationOf_tab) [{}, { ids := [5] }, { ids := [6] }] { ts := [2, 3, 4, 6, 7], os := [1, 2, 5, 6] } ⟨[(2, aP 1 0), (3, aP 2 0), (4, aB false), (6, aI (innovB x0 x1)), (7, aP 6 0)], [(1, oX 102 [cI x0.1, .ro s22 x0.2]), (2, oX 102 [cI x1.1, .ro s22 x1.2]), (5, oR s22 x0.2), (6, oX 105 [cI x0.1, .sl 5])]⟩ [(pTo s102) x0] gamOK hT h (by kernel_rfl) ⟨(by (show Sh.sz _ _ ≤ 1048576; omega)), trivial⟩ ?_
      intro a w h
      refine then_normal ?_
      refine wp_seq ?_
      refine at_regq (T := S_laws_FnExactInnovationOf_tab) [{}, { ids := [7] }, { ids := [8] }] { ts := [2, 3, 4, 6, 7, 8], os := [1, 2, 5, 6, 7, 8] } [(pTo s102) x1] gamOK hT h (by kernel_rfl) ⟨(by (show Sh.sz _ _ ≤ 1048576; omega)), trivial⟩ ?_
      intro a w h
      refine then_normal ?_
      refine wp_seq ?_
      refine at_regq (T := S_laws_FnExactInnovationOf_tab) [] { ts := [2, 3, 4, 6, 7, 8, 9], os := [1, 2, 5, 6, 7, 8] } [(fun (x0 : T105) (x1 : T105) => Sh.fit s105 x0 ∧ Sh.fit s105 x1) x0 x1] gamOK hT h (by kernel_rfl) ⟨(by exact ⟨(Sh.fit_of_sz s105 rfl (x := x0) (by omega)), (Sh.fit_of_sz s105 rfl (x := x1) (by omega))⟩), trivial⟩ ?_
      intro a w h
      refine then_normal ?_
      refine wp_seq ?_
      refine wp_seq ?_
      refine at_regq (T := S_laws_FnExactInnovationOf_tab) [] { ts := [2, 3, 4, 7, 8, 34], os := [1, 2, 5, 6, 7, 8] } [] gamOK hT h (by kernel_rfl) trivial ?_
      intro a w h
      refine then_normal ?_
      refine at_test (!decide ((innovB x0 x1) = (innovB x0 x1))) h (by kernel_rfl) (fun h3 => ?_) (fun h3 => ?_)
      · replace h3 : ¬ ((innovB x0 x1) = (innovB x0 x1)) := of_decide_eq_false (notT h3)
        refine wp_seq ?_
        refine at_reg (T := S_laws_FnExactInnovationOf_tab) [] { ts := [2, 3, 4, 7, 8], os := [1, 2, 5, 6, 7, 8] } ⟨[(2, aP 1 0), (3, aP 2 0), (4, aB false), (7, aP 6 0), (8, aP 8 0)], [(1, oX 102 [cI x0.1, .ro s22 x0.2]), (2, oX 102 [cI x1.1, .ro s22 x1.2]), (5, oR s22 x0.2), (6, oX 105 [cI x0.1, .sl 5]), (7, oR s22 x1.2), (8, oX 105 [cI x1.1, .sl 7])]⟩ [] gamOK hT h (by kernel_rfl) trivial ?_
        intro a w h
        refine then_normal ?_
        refine wp_ret ?_
        refine then_ret ?_
        exact at_return (S := S_laws_FnExactInnovationOf) (x := (x0, x1, ())) (false, ()) [] h (by kernel_rfl) trivial (congrArg (fun z => (z, ())) (show (false) = D_laws_FnExactInnovationOf x0 x1 from by unfold D_laws_FnExactInnovationOf; exact absurd (show _ from by first | rfl | (rfl)) h3))
      · replace h3 : (innovB x0 x1) = (innovB x0 x1) := of_decide_eq_true (notF h3)
        refine wp_skip ?_
        refine then_normal ?_
        refine wp_seq ?_
        refine wp_seq ?_
        refine at_any (T := S_laws_FnExactInnovationOf_tab) [{}, {}, { ids := [9] }, {}, {}] { ts := [3, 4, 8, 39], os := [2, 7, 8] } ⟨[(3, aP 2 0), (4, aB false), (8, aP 8 0), (39, aB (!((Sh.eqB s105) x0 x0)))], [(2, oX 102 [cI x1.1, .ro s22 x1.2]), (7, oR s22 x1.2), (8, oX 105 [cI x1.1, .sl 7])]⟩ [(pTo s102) x0, True] gamOK hT mixed h (by kernel_rfl) ⟨(by (show Sh.sz _ _ ≤ 1048576; omega)), trivial, trivial⟩ ?_
        intro a w h
        refine then_normal ?_
        refine at_test (!((Sh.eqB s105) x0 x0)) h (by kernel_rfl) (fun h4 => ?_) (fun h4 => ?_)
        · replace h4 : ((Sh.eqB s105) x0 x0) = false := notT h4
          refine wp_seq ?_
          refine at_regq (T := S_laws_FnExactInnovationOf_tab) [] { ts := [3, 4, 8], os := [2, 7, 8] } [] gamOK hT h (by kernel_rfl) trivial ?_
          intro a w h
          refine then_normal ?_
          refine wp_ret ?_
          refine then_ret ?_
          exact at_return (S := S_laws_FnExactInnovationOf) (x := (x0, x1, ())) (false, ()) [] h (by kernel_rfl) trivial (congrArg (fun z => (z, ())) (show (false) = D_laws_FnExactInnovationOf x0 x1 from by unfold D_laws_FnExactInnovationOf; exact absurd ((Sh.eqB_iff _).2 (show _ = _ from by first | rfl | (rfl))) (neT h4)))
        · replace h4 : ((Sh.eqB s105) x0 x0) = true := notF h4
          refine wp_skip ?_
          refine then_normal ?_
          refine wp_seq ?_
          refine wp_seq ?_
          refine at_anyq (T := S_laws_FnExactInnovationOf_tab) [{}, {}, { ids := [10] }, {}, {}] { ts := [4, 44], os := [] } [(pTo s102) x1, True] gamOK hT mixed h (by kernel_rfl) ⟨(by (show Sh.sz _ _ ≤ 1048576; omega)), trivial, trivial⟩ ?_
          intro a w h
          refine then_normal ?_
          refine at_test (!((Sh.eqB s105) x1 x1)) h (by kernel_rfl) (fun h5 => ?_) (fun h5 => ?_)
          · replace h5 : ((Sh.eqB s105) x1 x1) = false := notT h5
            refine wp_seq ?_
            refine at_regq (T := S_laws_FnExactInnovationOf_tab) [] { ts := [4], os := [] } [] gamOK hT h (by kernel_rfl) trivial ?_
            intro a w h
            refine then_normal ?_
            refine wp_ret ?_
            refine then_ret ?_
            exact at_return (S := S_laws_FnExactInnovationOf) (x := (x0, x1, ())) (false, ()) [] h (by kernel_rfl) trivial (congrArg (fun z => (z, ())) (show (false) = D_laws_FnExactInnovationOf x0 x1 from by unfold D_laws_FnExactInnovationOf; exact absurd ((Sh.eqB_iff _).2 (show _ = _ from by first | rfl | (rfl))) (neT h5)))
          · replace h5 : ((Sh.eqB s105) x1 x1) = true := notF h5
            refine wp_skip ?_
            refine then_normal ?_
            refine wp_seq ?_
            refine at_regq (T := S_laws_FnExactInnovationOf_tab) [] { ts := [4], os := [] } [] gamOK hT h (by kernel_rfl) trivial ?_
            intro a w h
            refine then_normal ?_
            refine wp_ret ?_
            exact at_return (S := S_laws_FnExactInnovationOf) (x := (x0, x1, ())) (true, ()) [] h (by kernel_rfl) trivial (congrArg (fun z => (z, ())) (show (true) = D_laws_FnExactInnovationOf x0 x1 from by unfold D_laws_FnExactInnovationOf; rfl))

theorem opn3 : OpensS Try.prog 3 (.int 3) := opensS_int Try.underlying3
theorem co3 : Try.prog.cellsOf 3 = 1 := by kernel_rfl
theorem opn22 : OpensS Try.prog 22 s22 := opensS_slice (a := (.int 3)) Try.underlying22 co3 opn3
theorem co22 : Try.prog.cellsOf 22 = 1 := by kernel_rfl
theorem opn80 : OpensS Try.prog 80 s80 := opensS_slice (a := s22) Try.underlying80 co22 opn22
theorem co80 : Try.prog.cellsOf 80 = 1 := by kernel_rfl
theorem co102 : Try.prog.cellsOf 102 = 2 := by kernel_rfl
theorem opn102 : OpensS Try.prog 102 s102 := by
  intro H enc w base spare held fuel cs x h
  obtain ⟨xs, n, _, _, hl, hlen, hf⟩ := DataW.trod_struct Try.underlying102 h
  obtain ⟨a0, k0, i0⟩ := opensS_field (a := (.int 3)) (i := 0) 0 1 hf hlen rfl rfl rfl co3 opn3
  obtain ⟨a1, k1, i1⟩ := opensS_field (a := s80) (i := 1) 1 1 hf hlen rfl rfl rfl co80 opn80
  rw [co102] at hl
  exact ⟨(a0, a1), (rdS_pair (off := 0) k0 (rdS_last (off := 1) k1 (by omega))), ⟨i0, i1⟩⟩
namespace fnExactInnovationOf
open Go.ChangeShapes Go.WideShapes Go.ChangeAt Go.RowKit
theorem own : ownKnob Try.prog.godebug = none := by kernel_rfl
theorem laidOut : laidOutB Try.prog = true := fxLaid
set_option maxRecDepth 100000 in
theorem lifted (os : Os) (started : os.Started) (H : Type) (enc : TypeId × Value → H) :
    ReturnsInHanded {} Try.checked os 9 .any (Rows.fnExactInnovationOfSpec.pre6 enc Try.prog Try.f9 Rows.fnExactInnovationOfRow.domain false) (Rows.fnExactInnovationOfSpec.post enc Try.prog Try.f9 false true false false) := by
  refine returnsInHanded_of_change (C := Try.checked) own started (by kernel_rfl) Try.func9
    (ChangeSpec.witness6 (enc := enc) (C := Try.checked) false ⟨#[], #[.agg #[.int .i64 0, .slice none 0 0], .agg #[.int .i64 0, .slice none 0 0]], []⟩ 8 (by kernel_rfl) (by kernel_rfl) (by kernel_rfl) (by kernel_rfl)) ?_
  intro W base args ds gs before hval0 hW hcnd _
  have hval : ∀ (j : Nat) t v, Try.f9.params[j]? = some t → args[j]? = some v → Value.okWide Try.prog W .any base t v := hval0
  have hW' := hW
  obtain ⟨p, q, hA0, hV, rfl, hfz, hnd⟩ := hW
  have hA : DataW.TrodAll enc Try.prog W 0 (fun _ => true) true Try.f9.params.toList args.toList ds p := hA0
  rw [Try.params9] at hA hval
  obtain ⟨v0, vs0, d0, ds0, p0, q0, hargs, rfl, rfl, h0, r0⟩ := trodAll_cons hA
  obtain ⟨v1, vs1, d1, ds1, p1, q1, rfl, rfl, rfl, h1, r1⟩ := trodAll_cons r0
  obtain ⟨rfl, rfl, rfl⟩ := trodAll_nil r1
  obtain rfl : args = #[v0, v1] := by cases args; simp_all
  obtain ⟨rfl, rfl⟩ := trodVars_none hV
  have k0 := h0
  have lt0 : ∀ x ∈ p0, x.block < W.heap.size := by obtain ⟨m, hm⟩ := k0; exact DataW.trod_lt m _ _ _ hm
  obtain ⟨cs0, rfl, _⟩ := okWide_struct Try.underlying102 (hval 0 102 v0 rfl rfl)
  obtain ⟨cs0⟩ := cs0
  obtain ⟨x0, hx0, i0⟩ : ∃ x : (s102).D, (s102).rd W (fun b => b < W.heap.size) cs0 x ∧ (s102).i64 x := by obtain ⟨fuel, hf⟩ := h0; exact opn102 hf
  have k1 := h1
  have lt1 : ∀ x ∈ p1, x.block < W.heap.size := by obtain ⟨m, hm⟩ := k1; exact DataW.trod_lt m _ _ _ hm
  obtain ⟨cs1, rfl, _⟩ := okWide_struct Try.underlying102 (hval 1 102 v1 rfl rfl)
  obtain ⟨cs1⟩ := cs1
  obtain ⟨x1, hx1, i1⟩ : ∃ x : (s102).D, (s102).rd W (fun b => b < W.heap.size) cs1 x ∧ (s102).i64 x := by obtain ⟨fuel, hf⟩ := h1; exact opn102 hf
  clear hA0 hval0
  refine (calls_law S_laws_FnExactInnovationOf_ok (by kernel_rfl) W (fun b => b < W.heap.size) [.agg cs0.toArray, .agg cs1.toArray] (x0, x1, ()) (fun _ h => h) ⟨argRd_st hx0, argRd_st hx1, trivial⟩ ⟨i0, i1⟩).mono fun e W' hr => ?_
  obtain ⟨he, bel⟩ := ret_bool hr
  subst he
  exact ⟨_, rfl, _, _, _, [], _, [], hW', trodAll_mk1 (shut_bool Try.underlying4 _), (trodAll_cons_mk (Below.trod laidOut (by kernel_rfl) (of_decide_eq_true (by kernel_rfl)) k0 bel lt0) (trodAll_cons_mk (Below.trod laidOut (by kernel_rfl) (of_decide_eq_true (by kernel_rfl)) k1 bel lt1) trodAll_mk0)), rfl, bel.frame _, fun h => by cases h⟩
theorem closed : joinedFacts Try.prog 9 Try.f9 (Rows.fnExactInnovationOfSpec) Rows.fnExactInnovationOfRow = true := by
  unfold joinedFacts
  exact (and2 (and2 (and2 (and2 (and2 (and2 (and2 (and2 (and2 (and2 (and2 (and2 (and2 (and2 (and2 (and2 (and2 (and2 (and2 (and2 (and2 (and2 (and2 (and2 (and2 (and2 (and2 (and2 (and2 (and2 (and2 (by kernel_rfl) fxLaid) fxMaps) (by kernel_rfl)) (by kernel_rfl)) (by kernel_rfl)) (by kernel_rfl)) (by kernel_rfl)) (by kernel_rfl)) (by kernel_rfl)) (by kernel_rfl)) (by kernel_rfl)) (by kernel_rfl)) (by kernel_rfl)) (by kernel_rfl)) (by kernel_rfl)) (by kernel_rfl)) (by kernel_rfl)) (by kernel_rfl)) (by kernel_rfl)) (by kernel_rfl)) (by kernel_rfl)) (by kernel_rfl)) (by kernel_rfl)) (by kernel_rfl)) fxEnter) (by rw [fxLifts]; kernel_rfl)) (by rw [fxMake]; kernel_rfl)) (by kernel_rfl)) (by kernel_rfl)) (by kernel_rfl)) (by kernel_rfl))
theorem over : Rows.fnExactInnovationOfRow.holds Try.pinned (OpenSpec.ofChange Rows.fnExactInnovationOfSpec) :=
  OpenClaim.holds_of_wide 9 Try.f9 rfl rfl rfl rfl rfl rfl rfl ⟨rfl, rfl, rfl, rfl, rfl⟩ rfl rfl rfl rfl rfl (by kernel_rfl) Try.func9 closed
    (of_decide_eq_true (by kernel_rfl)) (by unfold Func.isWrapper; first | (rw [if_pos (by decide +kernel)]; kernel_rfl) | (rw [if_neg (by decide +kernel)]; exact ⟨rfl, rfl⟩))
    (fun os started H enc _ => lifted os started H enc)
/-- the statement -/
theorem proved : Rows.FnExactInnovationOfSaid := over
end fnExactInnovationOf

end Go.Proofs.Ytkialoggpcdhkaa

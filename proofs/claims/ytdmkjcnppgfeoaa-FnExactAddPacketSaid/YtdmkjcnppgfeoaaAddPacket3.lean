/- The law FnExactAddPacket returns true for every input and leaves its arguments as they were. No condition. -/
import Derived.Test.YtdmkjcnppgfeoaaAddPacket2
import Derived.Test.YtdmkjcnppgfeoaaLA
import Derived.Test.YtdmkjcnppgfeoaaProg
import Derived.Test.YtdmkjcnppgfeoaaRows
import Derived.Test.YtdmkjcnppgfeoaaFX
namespace Go.Proofs.Ytdmkjcnppgfeoaa
open Go.RowKit
set_option linter.unusedVariables false
set_option linter.unusedSimpArgs false
def validP (x0 : T61) (x1 : Int) (x2 : Int) : Bool := (if (isFmt x0.1 x1 x2) = true then (if ((List.length x0.2.1 : Nat) : Int) = x1 then (if ((List.length x0.2.2 : Nat) : Int) = x2 then (if (validV x0.2.1) = true then (validV x0.2.2) else false) else false) else false) else false)
def S_impl_IsValidPacket : Sum := { fid := 230, dom := [s61, (.int 3), (.int 3)], cod := [(.bool 4)], dp := true, fz := false, pre := fun x => (fun (x0 : T61) (x1 : Int) (x2 : Int) => Sh.fit s61 x0) x.1 x.2.1 x.2.2.1, g := fun x => ((validP x.1 x.2.1 x.2.2.1), ()) }
def S_impl_IsValidPacket_tab : List (Nat × Sum) := [(228, S_impl_isFormat), (253, S_impl_IsValidVector)]
theorem S_impl_IsValidPacket_ok : FnOK Try.prog 230 S_impl_IsValidPacket := by
  refine at_enter 36 (fun x => ⟨[(0, aG [cI x.1.1, .ro (.int 3) x.1.2.1, .ro (.int 3) x.1.2.2]), (1, aI x.2.1), (2, aI x.2.2.1)], []⟩) Try.func230 rfl (by kernel_rfl) (fun x => rfl) ?_
  rintro w0 Z0 ⟨x0, x1, x2, u⟩ a w
  revert x0 x1 x2
  intro (x0 : T61) (x1 : Int) (x2 : Int) hpre hlens h
  replace h : At w0 Z0 [] 36 ⟨[(0, aG [cI x0.1, .ro (.int 3) x0.2.1, .ro (.int 3) x0.2.2]), (1, aI x1), (2, aI x2)], []⟩ a w := h
  replace hpre : (fun (x0 : T61) (x1 : Int) (x2 : Int) => Sh.fit s61 x0) x0 x1 x2 := hpre
  have hl1 : List.length x0.2.1 ≤ 9223372036854775807 := hlens.1.2.1.1
  have hl2 : List.length x0.2.2 ≤ 9223372036854775807 := hlens.1.2.2.1
  have hT : TabOK Try.prog S_impl_IsValidPacket_tab := (.cons S_impl_isFormat_ok (.cons S_impl_IsValidVector_ok .nil))
  have hf0 : Sh.fit s61 x0 := hpre
  have hn0_1 : List.length x0.2.1 ≤ 1073741824 := hf0.2.1.1
  have hn0_2 : List.length x0.2.2 ≤ 1073741824 := hf0.2.2.1
  refine wp_seq ?_
  refine at_regq [{ ids := [1] }] { ts := [1, 2, 3, 6], os := [1] } [] gamOK hT h (by kernel_rfl) trivial ?_
  intro a w h
  refine then_normal ?_
  refine wp_seq ?_
  rcases Bool.eq_false_or_eq_true ((isFmt x0.1 x1 x2)) with h1 | h1
  · skip
    have hvh1 := isFmt_t h1
    by_cases h2 : ((List.length x0.2.1 : Nat) : Int) = x1
    · skip
      by_cases h3 : ((List.length x0.2.2 : Nat) : Int) = x2
      · skip
        rcases Bool.eq_false_or_eq_true ((validV x0.2.1)) with h4 | h4
        · skip
          have hvh4 := validV_t h4
          refine at_regq [{}, {}, {}, {}, { hint := some (aB true) }, {}, {}, {}, {}, {}, { hint := some (aB true) }, {}, {}, {}, {}, {}, {}, { hint := some (aB true) }, {}, {}, {}, {}, { hint := some (aB true) }] { ts := [6], os := [] } [True, (AV.p (.c (.v (.bool ((isFmt x0.1 x1 x2))))) = AV.p (.c (.v (.bool true)))), (AV.p (.c (.v (.bool (decide (((List.length x0.2.1 : Nat) : Int) = x1))))) = AV.p (.c (.v (.bool true)))), (AV.p (.c (.v (.bool (decide (((List.length x0.2.2 : Nat) : Int) = x2))))) = AV.p (.c (.v (.bool true)))), (fun (x0 : (List Int)) => Sh.fit s22 x0) x0.2.1, (AV.p (.c (.v (.bool ((validV x0.2.1))))) = AV.p (.c (.v (.bool true)))), (fun (x0 : (List Int)) => Sh.fit s22 x0) x0.2.2] gamOK hT h (by kernel_rfl) ⟨trivial, hint_bool (h1), hint_bool (decide_eq_true h2), hint_bool (decide_eq_true h3), (by exact hf0.2.1), hint_bool (h4), (by exact hf0.2.2), trivial⟩ ?_
          intro a w h
          refine then_normal ?_
          refine wp_ret ?_
          exact at_return (S := S_impl_IsValidPacket) (x := (x0, x1, x2, ())) ((validV x0.2.2), ()) [] h (by kernel_rfl) trivial (congrArg (fun z => (z, ())) (show ((validV x0.2.2)) = validP x0 x1 x2 from by first | rfl | (unfold validP; rw [if_pos h1, if_pos h2, if_pos h3, if_pos h4])))
        · skip
          refine at_regq [{}, {}, {}, {}, { hint := some (aB true) }, {}, {}, {}, {}, {}, { hint := some (aB true) }, {}, {}, {}, {}, {}, {}, { hint := some (aB true) }, {}, {}, {}, {}, { hint := some (aB false) }] { ts := [6], os := [] } [True, (AV.p (.c (.v (.bool ((isFmt x0.1 x1 x2))))) = AV.p (.c (.v (.bool true)))), (AV.p (.c (.v (.bool (decide (((List.length x0.2.1 : Nat) : Int) = x1))))) = AV.p (.c (.v (.bool true)))), (AV.p (.c (.v (.bool (decide (((List.length x0.2.2 : Nat) : Int) = x2))))) = AV.p (.c (.v (.bool true)))), (fun (x0 : (List Int)) => Sh.fit s22 x0) x0.2.1, (AV.p (.c (.v (.bool ((validV x0.2.1))))) = AV.p (.c (.v (.bool false))))] gamOK hT h (by kernel_rfl) ⟨trivial, hint_bool (h1), hint_bool (decide_eq_true h2), hint_bool (decide_eq_true h3), (by exact hf0.2.1), hint_bool (h4), trivial⟩ ?_
          intro a w h
          refine then_normal ?_
          refine wp_ret ?_
          exact at_return (S := S_impl_IsValidPacket) (x := (x0, x1, x2, ())) (false, ()) [] h (by kernel_rfl) trivial (congrArg (fun z => (z, ())) (show (false) = validP x0 x1 x2 from by first | rfl | (unfold validP; rw [if_pos h1, if_pos h2, if_pos h3, if_neg (neT h4)])))
      · skip
        refine at_regq [{}, {}, {}, {}, { hint := some (aB true) }, {}, {}, {}, {}, {}, { hint := some (aB true) }, {}, {}, {}, {}, {}, {}, { hint := some (aB false) }] { ts := [6], os := [] } [True, (AV.p (.c (.v (.bool ((isFmt x0.1 x1 x2))))) = AV.p (.c (.v (.bool true)))), (AV.p (.c (.v (.bool (decide (((List.length x0.2.1 : Nat) : Int) = x1))))) = AV.p (.c (.v (.bool true)))), (AV.p (.c (.v (.bool (decide (((List.length x0.2.2 : Nat) : Int) = x2))))) = AV.p (.c (.v (.bool false))))] gamOK hT h (by kernel_rfl) ⟨trivial, hint_bool (h1), hint_bool (decide_eq_true h2), hint_bool (decide_eq_false h3), trivial⟩ ?_
        intro a w h
        refine then_normal ?_
        refine wp_ret ?_
        exact at_return (S := S_impl_IsValidPacket) (x := (x0, x1, x2, ())) (false, ()) [] h (by kernel_rfl) trivial (congrArg (fun z => (z, ())) (show (false) = validP x0 x1 x2 from by first | rfl | (unfold validP; rw [if_pos h1, if_pos h2, if_neg h3])))
    · skip
      refine at_regq [{}, {}, {}, {}, { hint := some (aB true) }, {}, {}, {}, {}, {}, { hint := some (aB false) }] { ts := [6], os := [] } [True, (AV.p (.c (.v (.bool ((isFmt x0.1 x1 x2))))) = AV.p (.c (.v (.bool true)))), (AV.p (.c (.v (.bool (decide (((List.length x0.2.1 : Nat) : Int) = x1))))) = AV.p (.c (.v (.bool false))))] gamOK hT h (by kernel_rfl) ⟨trivial, hint_bool (h1), hint_bool (decide_eq_false h2), trivial⟩ ?_
      intro a w h
      refine then_normal ?_
      refine wp_ret ?_
      exact at_return (S := S_impl_IsValidPacket) (x := (x0, x1, x2, ())) (false, ()) [] h (by kernel_rfl) trivial (congrArg (fun z => (z, ())) (show (false) = validP x0 x1 x2 from by first | rfl | (unfold validP; rw [if_pos h1, if_neg h2])))
  · skip
    refine at_regq [{}, {}, {}, {}, { hint := some (aB false) }] { ts := [6], os := [] } [True, (AV.p (.c (.v (.bool ((isFmt x0.1 x1 x2))))) = AV.p (.c (.v (.bool false))))] gamOK hT h (by kernel_rfl) ⟨trivial, hint_bool (h1), trivial⟩ ?_
    intro a w h
    refine then_normal ?_
    refine wp_ret ?_
    exact at_return (S := S_impl_IsValidPacket) (x := (x0, x1, x2, ())) (false, ()) [] h (by kernel_rfl) trivial (congrArg (fun z => (z, ())) (show (false) = validP x0 x1 x2 from by first | rfl | (unfold validP; rw [if_neg (neT h1)])))
theorem validP_t {p : T61} {s w : Int} (h : validP p s w = true) : isFmt p.1 s w = true ∧ ((List.length p.2.1 : Nat) : Int) = s ∧ ((List.length p.2.2 : Nat) : Int) = w ∧ validV p.2.1 = true ∧ validV p.2.2 = true := by
  unfold validP at h
  split at h
  · split at h
    · split at h
      · split at h
        · exact ⟨by assumption, by assumption, by assumption, by assumption, h⟩
        · cases h
      · cases h
    · cases h
  · cases h
theorem validP_n {p : T61} {s w : Int} (h : validP p s w = true) : ((0 ≤ p.1 ∧ p.1 ≤ 1000000000000) ∧ (1 ≤ s ∧ s ≤ 8) ∧ (1 ≤ w ∧ w ≤ 16)) ∧ ((List.length p.2.1 : Nat) : Int) = s ∧ ((List.length p.2.2 : Nat) : Int) = w := ⟨isFmt_t (validP_t h).1, (validP_t h).2.1, (validP_t h).2.2.1⟩
theorem validP_of {p : T61} {s w : Int} (h : isFmt p.1 s w = true ∧ ((List.length p.2.1 : Nat) : Int) = s ∧ ((List.length p.2.2 : Nat) : Int) = w ∧ validV p.2.1 = true ∧ validV p.2.2 = true) : validP p s w = true := by
  unfold validP; rw [if_pos h.1, if_pos h.2.1, if_pos h.2.2.1, if_pos h.2.2.2.1]; exact h.2.2.2.2

def S_spec_IsValidPacket : Sum := { fid := 142, dom := [s61, (.int 3), (.int 3)], cod := [(.bool 4)], dp := true, fz := false, pre := fun x => (fun (x0 : T61) (x1 : Int) (x2 : Int) => Sh.fit s61 x0) x.1 x.2.1 x.2.2.1, g := fun x => ((validP x.1 x.2.1 x.2.2.1), ()) }
def S_spec_IsValidPacket_tab : List (Nat × Sum) := [(103, S_spec_l1In), (221, S_spec_IsValidVector)]
theorem S_spec_IsValidPacket_ok : FnOK Try.prog 142 S_spec_IsValidPacket := by
  refine at_enter 42 (fun x => ⟨[(0, aG [cI x.1.1, .ro (.int 3) x.1.2.1, .ro (.int 3) x.1.2.2]), (1, aI x.2.1), (2, aI x.2.2.1)], []⟩) Try.func142 rfl (by kernel_rfl) (fun x => rfl) ?_
  rintro w0 Z0 ⟨x0, x1, x2, u⟩ a w
  revert x0 x1 x2
  intro (x0 : T61) (x1 : Int) (x2 : Int) hpre hlens h
  replace h : At w0 Z0 [] 42 ⟨[(0, aG [cI x0.1, .ro (.int 3) x0.2.1, .ro (.int 3) x0.2.2]), (1, aI x1), (2, aI x2)], []⟩ a w := h
  replace hpre : (fun (x0 : T61) (x1 : Int) (x2 : Int) => Sh.fit s61 x0) x0 x1 x2 := hpre
  have hl1 : List.length x0.2.1 ≤ 9223372036854775807 := hlens.1.2.1.1
  have hl2 : List.length x0.2.2 ≤ 9223372036854775807 := hlens.1.2.2.1
  have hT : TabOK Try.prog S_spec_IsValidPacket_tab := (.cons S_spec_l1In_ok (.cons S_spec_IsValidVector_ok .nil))
  have hf0 : Sh.fit s61 x0 := hpre
  have hn0_1 : List.length x0.2.1 ≤ 1073741824 := hf0.2.1.1
  have hn0_2 : List.length x0.2.2 ≤ 1073741824 := hf0.2.2.1
  refine wp_seq ?_
  refine at_regq [{ ids := [1] }] { ts := [1, 2, 3, 6], os := [1] } [] gamOK hT h (by kernel_rfl) trivial ?_
  intro a w h
  refine then_normal ?_
  refine wp_seq ?_
  rcases Bool.eq_false_or_eq_true ((inR x0.1 0 1000000000000)) with h1 | h1
  · skip
    have hvh1 := inR_t h1
    rcases Bool.eq_false_or_eq_true ((inR x1 1 8)) with h2 | h2
    · skip
      have hvh2 := inR_t h2
      rcases Bool.eq_false_or_eq_true ((inR x2 1 16)) with h3 | h3
      · skip
        have hvh3 := inR_t h3
        by_cases h4 : ((List.length x0.2.1 : Nat) : Int) = x1
        · skip
          by_cases h5 : ((List.length x0.2.2 : Nat) : Int) = x2
          · skip
            rcases Bool.eq_false_or_eq_true ((validV x0.2.1)) with h6 | h6
            · skip
              have hvh6 := validV_t h6
              refine at_regq [{}, {}, { hint := some (aB true) }, {}, {}, { hint := some (aB true) }, {}, {}, {}, { hint := some (aB true) }, {}, {}, {}, {}, {}, {}, { hint := some (aB true) }, {}, {}, {}, {}, {}, {}, { hint := some (aB true) }, {}, {}, {}, {}, { hint := some (aB true) }] { ts := [6], os := [] } [True, (AV.p (.c (.v (.bool ((inR x0.1 0 1000000000000))))) = AV.p (.c (.v (.bool true)))), True, (AV.p (.c (.v (.bool ((inR x1 1 8))))) = AV.p (.c (.v (.bool true)))), True, (AV.p (.c (.v (.bool ((inR x2 1 16))))) = AV.p (.c (.v (.bool true)))), (AV.p (.c (.v (.bool (decide (((List.length x0.2.1 : Nat) : Int) = x1))))) = AV.p (.c (.v (.bool true)))), (AV.p (.c (.v (.bool (decide (((List.length x0.2.2 : Nat) : Int) = x2))))) = AV.p (.c (.v (.bool true)))), (fun (x0 : (List Int)) => Sh.fit s22 x0) x0.2.1, (AV.p (.c (.v (.bool ((validV x0.2.1))))) = AV.p (.c (.v (.bool true)))), (fun (x0 : (List Int)) => Sh.fit s22 x0) x0.2.2] gamOK hT h (by kernel_rfl) ⟨trivial, hint_bool (h1), trivial, hint_bool (h2), trivial, hint_bool (h3), hint_bool (decide_eq_true h4), hint_bool (decide_eq_true h5), (by exact hf0.2.1), hint_bool (h6), (by exact hf0.2.2), trivial⟩ ?_
              intro a w h
              refine then_normal ?_
              refine wp_ret ?_
              exact at_return (S := S_spec_IsValidPacket) (x := (x0, x1, x2, ())) ((validV x0.2.2), ()) [] h (by kernel_rfl) trivial (congrArg (fun z => (z, ())) (show ((validV x0.2.2)) = validP x0 x1 x2 from by first | rfl | (unfold validP; rw [if_pos h1, if_pos h2, if_pos h3, if_pos h4, if_pos h5, if_pos h6]; done) | (unfold validP; simp_all [isFmt])))
            · skip
              refine at_regq [{}, {}, { hint := some (aB true) }, {}, {}, { hint := some (aB true) }, {}, {}, {}, { hint := some (aB true) }, {}, {}, {}, {}, {}, {}, { hint := some (aB true) }, {}, {}, {}, {}, {}, {}, { hint := some (aB true) }, {}, {}, {}, {}, { hint := some (aB false) }] { ts := [6], os := [] } [True, (AV.p (.c (.v (.bool ((inR x0.1 0 1000000000000))))) = AV.p (.c (.v (.bool true)))), True, (AV.p (.c (.v (.bool ((inR x1 1 8))))) = AV.p (.c (.v (.bool true)))), True, (AV.p (.c (.v (.bool ((inR x2 1 16))))) = AV.p (.c (.v (.bool true)))), (AV.p (.c (.v (.bool (decide (((List.length x0.2.1 : Nat) : Int) = x1))))) = AV.p (.c (.v (.bool true)))), (AV.p (.c (.v (.bool (decide (((List.length x0.2.2 : Nat) : Int) = x2))))) = AV.p (.c (.v (.bool true)))), (fun (x0 : (List Int)) => Sh.fit s22 x0) x0.2.1, (AV.p (.c (.v (.bool ((validV x0.2.1))))) = AV.p (.c (.v (.bool false))))] gamOK hT h (by kernel_rfl) ⟨trivial, hint_bool (h1), trivial, hint_bool (h2), trivial, hint_bool (h3), hint_bool (decide_eq_true h4), hint_bool (decide_eq_true h5), (by exact hf0.2.1), hint_bool (h6), trivial⟩ ?_
              intro a w h
              refine then_normal ?_
              refine wp_ret ?_
              exact at_return (S := S_spec_IsValidPacket) (x := (x0, x1, x2, ())) (false, ()) [] h (by kernel_rfl) trivial (congrArg (fun z => (z, ())) (show (false) = validP x0 x1 x2 from by first | rfl | (unfold validP; rw [if_pos h1, if_pos h2, if_pos h3, if_pos h4, if_pos h5, if_neg (neT h6)]; done) | (unfold validP; simp_all [isFmt])))
          · skip
            refine at_regq [{}, {}, { hint := some (aB true) }, {}, {}, { hint := some (aB true) }, {}, {}, {}, { hint := some (aB true) }, {}, {}, {}, {}, {}, {}, { hint := some (aB true) }, {}, {}, {}, {}, {}, {}, { hint := some (aB false) }] { ts := [6], os := [] } [True, (AV.p (.c (.v (.bool ((inR x0.1 0 1000000000000))))) = AV.p (.c (.v (.bool true)))), True, (AV.p (.c (.v (.bool ((inR x1 1 8))))) = AV.p (.c (.v (.bool true)))), True, (AV.p (.c (.v (.bool ((inR x2 1 16))))) = AV.p (.c (.v (.bool true)))), (AV.p (.c (.v (.bool (decide (((List.length x0.2.1 : Nat) : Int) = x1))))) = AV.p (.c (.v (.bool true)))), (AV.p (.c (.v (.bool (decide (((List.length x0.2.2 : Nat) : Int) = x2))))) = AV.p (.c (.v (.bool false))))] gamOK hT h (by kernel_rfl) ⟨trivial, hint_bool (h1), trivial, hint_bool (h2), trivial, hint_bool (h3), hint_bool (decide_eq_true h4), hint_bool (decide_eq_false h5), trivial⟩ ?_
            intro a w h
            refine then_normal ?_
            refine wp_ret ?_
            exact at_return (S := S_spec_IsValidPacket) (x := (x0, x1, x2, ())) (false, ()) [] h (by kernel_rfl) trivial (congrArg (fun z => (z, ())) (show (false) = validP x0 x1 x2 from by first | rfl | (unfold validP; rw [if_pos h1, if_pos h2, if_pos h3, if_pos h4, if_neg h5]; done) | (unfold validP; simp_all [isFmt])))
        · skip
          refine at_regq [{}, {}, { hint := some (aB true) }, {}, {}, { hint := some (aB true) }, {}, {}, {}, { hint := some (aB true) }, {}, {}, {}, {}, {}, {}, { hint := some (aB false) }] { ts := [6], os := [] } [True, (AV.p (.c (.v (.bool ((inR x0.1 0 1000000000000))))) = AV.p (.c (.v (.bool true)))), True, (AV.p (.c (.v (.bool ((inR x1 1 8))))) = AV.p (.c (.v (.bool true)))), True, (AV.p (.c (.v (.bool ((inR x2 1 16))))) = AV.p (.c (.v (.bool true)))), (AV.p (.c (.v (.bool (decide (((List.length x0.2.1 : Nat) : Int) = x1))))) = AV.p (.c (.v (.bool false))))] gamOK hT h (by kernel_rfl) ⟨trivial, hint_bool (h1), trivial, hint_bool (h2), trivial, hint_bool (h3), hint_bool (decide_eq_false h4), trivial⟩ ?_
          intro a w h
          refine then_normal ?_
          refine wp_ret ?_
          exact at_return (S := S_spec_IsValidPacket) (x := (x0, x1, x2, ())) (false, ()) [] h (by kernel_rfl) trivial (congrArg (fun z => (z, ())) (show (false) = validP x0 x1 x2 from by first | rfl | (unfold validP; rw [if_pos h1, if_pos h2, if_pos h3, if_neg h4]; done) | (unfold validP; simp_all [isFmt])))
      · skip
        have hvh3 := inR_f h3
        refine at_regq [{}, {}, { hint := some (aB true) }, {}, {}, { hint := some (aB true) }, {}, {}, {}, { hint := some (aB false) }] { ts := [6], os := [] } [True, (AV.p (.c (.v (.bool ((inR x0.1 0 1000000000000))))) = AV.p (.c (.v (.bool true)))), True, (AV.p (.c (.v (.bool ((inR x1 1 8))))) = AV.p (.c (.v (.bool true)))), True, (AV.p (.c (.v (.bool ((inR x2 1 16))))) = AV.p (.c (.v (.bool false))))] gamOK hT h (by kernel_rfl) ⟨trivial, hint_bool (h1), trivial, hint_bool (h2), trivial, hint_bool (h3), trivial⟩ ?_
        intro a w h
        refine then_normal ?_
        refine wp_ret ?_
        exact at_return (S := S_spec_IsValidPacket) (x := (x0, x1, x2, ())) (false, ()) [] h (by kernel_rfl) trivial (congrArg (fun z => (z, ())) (show (false) = validP x0 x1 x2 from by first | rfl | (unfold validP; rw [if_pos h1, if_pos h2, if_neg (neT h3)]; done) | (unfold validP; simp_all [isFmt])))
    · skip
      have hvh2 := inR_f h2
      refine at_regq [{}, {}, { hint := some (aB true) }, {}, {}, { hint := some (aB false) }] { ts := [6], os := [] } [True, (AV.p (.c (.v (.bool ((inR x0.1 0 1000000000000))))) = AV.p (.c (.v (.bool true)))), True, (AV.p (.c (.v (.bool ((inR x1 1 8))))) = AV.p (.c (.v (.bool false))))] gamOK hT h (by kernel_rfl) ⟨trivial, hint_bool (h1), trivial, hint_bool (h2), trivial⟩ ?_
      intro a w h
      refine then_normal ?_
      refine wp_ret ?_
      exact at_return (S := S_spec_IsValidPacket) (x := (x0, x1, x2, ())) (false, ()) [] h (by kernel_rfl) trivial (congrArg (fun z => (z, ())) (show (false) = validP x0 x1 x2 from by first | rfl | (unfold validP; rw [if_pos h1, if_neg (neT h2)]; done) | (unfold validP; simp_all [isFmt])))
  · skip
    have hvh1 := inR_f h1
    refine at_regq [{}, {}, { hint := some (aB false) }] { ts := [6], os := [] } [True, (AV.p (.c (.v (.bool ((inR x0.1 0 1000000000000))))) = AV.p (.c (.v (.bool false))))] gamOK hT h (by kernel_rfl) ⟨trivial, hint_bool (h1), trivial⟩ ?_
    intro a w h
    refine then_normal ?_
    refine wp_ret ?_
    exact at_return (S := S_spec_IsValidPacket) (x := (x0, x1, x2, ())) (false, ()) [] h (by kernel_rfl) trivial (congrArg (fun z => (z, ())) (show (false) = validP x0 x1 x2 from by first | rfl | (unfold validP; rw [if_neg (neT h1)]; done) | (unfold validP; simp_all [isFmt])))

def validD (x0 : T112) : Bool := (if (isFmt x0.1 x0.2.1 x0.2.2.1) = true then (if (validB x0.2.2.2) = true then (if x0.2.2.2.1 = x0.2.1 + x0.2.2.1 then (if (List.all x0.2.2.2.2 (fun r => decide (LA.leadS r < x0.2.1))) = true then true else false) else false) else false) else false)
def S_impl_IsValidDecoder : Sum := { fid := 147, dom := [s112], cod := [(.bool 4)], dp := true, fz := false, pre := fun x => (fun (x0 : T112) => Sh.fit s112 x0) x.1, g := fun x => ((validD x.1), ()) }
def S_impl_IsValidDecoder_tab : List (Nat × Sum) := [(228, S_impl_isFormat), (215, S_impl_IsValidBasis), (229, S_impl_LeadingIndex)]
theorem S_impl_IsValidDecoder_ok : FnOK Try.prog 147 S_impl_IsValidDecoder := by
  refine at_enter 44 (fun x => ⟨[(0, aG [cI x.1.1, cI x.1.2.1, cI x.1.2.2.1, cI x.1.2.2.2.1, .ro s22 x.1.2.2.2.2])], []⟩) Try.func147 rfl (by kernel_rfl) (fun x => rfl) ?_
  rintro w0 Z0 ⟨x0, u⟩ a w
  revert x0
  intro (x0 : T112) hpre hlens h
  replace h : At w0 Z0 [] 44 ⟨[(0, aG [cI x0.1, cI x0.2.1, cI x0.2.2.1, cI x0.2.2.2.1, .ro s22 x0.2.2.2.2])], []⟩ a w := h
  replace hpre : (fun (x0 : T112) => Sh.fit s112 x0) x0 := hpre
  have hl1 : List.length x0.2.2.2.2 ≤ 9223372036854775807 := hlens.1.2.2.2.2.1
  have hT : TabOK Try.prog S_impl_IsValidDecoder_tab := (.cons S_impl_isFormat_ok (.cons S_impl_IsValidBasis_ok (.cons S_impl_LeadingIndex_ok .nil)))
  have hf0 : Sh.fit s112 x0 := hpre
  have hn0_1 : List.length x0.2.2.2.2 ≤ 1073741824 := hf0.2.2.2.2.1
  refine wp_seq ?_
  refine at_regq [{ ids := [1] }] { ts := [1, 2], os := [1] } [] gamOK hT h (by kernel_rfl) trivial ?_
  intro a w h
  refine then_normal ?_
  refine wp_seq ?_
  refine wp_seq ?_
  rcases Bool.eq_false_or_eq_true (!(isFmt x0.1 x0.2.1 x0.2.2.1)) with h1 | h1
  · skip
    have hzh1 : (isFmt x0.1 x0.2.1 x0.2.2.1) = false := notT h1
    refine at_regq [{}, {}, {}, {}, {}, {}, {}, { hint := some (aB true) }] { ts := [1, 2, 29], os := [1] } [True, (AV.p (.c (.v (.bool (!(isFmt x0.1 x0.2.1 x0.2.2.1))))) = AV.p (.c (.v (.bool true))))] gamOK hT h (by kernel_rfl) ⟨trivial, hint_bool (h1), trivial⟩ ?_
    intro a w h
    refine then_normal ?_
    refine at_test true h (by kernel_rfl) (fun hh => ?_) (fun hh => nomatch hh)
    refine wp_seq ?_
    refine at_regq [] { ts := [1, 2], os := [1] } [] gamOK hT h (by kernel_rfl) trivial ?_
    intro a w h
    refine then_normal ?_
    refine wp_ret ?_
    refine then_ret ?_
    exact at_return (S := S_impl_IsValidDecoder) (x := (x0, ())) (false, ()) [] h (by kernel_rfl) trivial (congrArg (fun z => (z, ())) (show (false) = validD x0 from by first | rfl | (unfold validD; rw [if_neg (neT (notT h1))])))
  · skip
    have hzh1 : (isFmt x0.1 x0.2.1 x0.2.2.1) = true := notF h1
    have hvh1 := isFmt_t (notF h1)
    rcases Bool.eq_false_or_eq_true (!(validB x0.2.2.2)) with h2 | h2
    · skip
      have hzh2 : (validB x0.2.2.2) = false := notT h2
      refine at_regq [{}, {}, {}, {}, {}, {}, {}, { hint := some (aB false) }, {}, {}, {}, {}, { hint := some (aB true) }] { ts := [1, 2, 29], os := [1] } [True, (AV.p (.c (.v (.bool (!(isFmt x0.1 x0.2.1 x0.2.2.1))))) = AV.p (.c (.v (.bool false)))), (fun (x0 : T101) => Sh.fit s101 x0) x0.2.2.2, (AV.p (.c (.v (.bool (!(validB x0.2.2.2))))) = AV.p (.c (.v (.bool true))))] gamOK hT h (by kernel_rfl) ⟨trivial, hint_bool (h1), (by exact hf0.2.2.2), hint_bool (h2), trivial⟩ ?_
      intro a w h
      refine then_normal ?_
      refine at_test true h (by kernel_rfl) (fun hh => ?_) (fun hh => nomatch hh)
      refine wp_seq ?_
      refine at_regq [] { ts := [1, 2], os := [1] } [] gamOK hT h (by kernel_rfl) trivial ?_
      intro a w h
      refine then_normal ?_
      refine wp_ret ?_
      refine then_ret ?_
      exact at_return (S := S_impl_IsValidDecoder) (x := (x0, ())) (false, ()) [] h (by kernel_rfl) trivial (congrArg (fun z => (z, ())) (show (false) = validD x0 from by first | rfl | (unfold validD; rw [if_pos (notF h1), if_neg (neT (notT h2))])))
    · skip
      have hzh2 : (validB x0.2.2.2) = true := notF h2
      have hvh2 := validB_t (notF h2)
      refine at_regq [{}, {}, {}, {}, {}, {}, {}, { hint := some (aB false) }, {}, {}, {}, {}, { hint := some (aB false) }, {}, {}, {}, {}, {}, {}, {}, {}, {}, { nw := true }] { ts := [1, 2, 29], os := [1] } [True, (AV.p (.c (.v (.bool (!(isFmt x0.1 x0.2.1 x0.2.2.1))))) = AV.p (.c (.v (.bool false)))), (fun (x0 : T101) => Sh.fit s101 x0) x0.2.2.2, (AV.p (.c (.v (.bool (!(validB x0.2.2.2))))) = AV.p (.c (.v (.bool false)))), I64 (x0.2.1 + x0.2.2.1)] gamOK hT h (by kernel_rfl) ⟨trivial, hint_bool (h1), (by exact hf0.2.2.2), hint_bool (h2), ⟨by first | omega | (simp only [lsA]; omega) | (simp; done) | (simp; omega) | done, by first | omega | (simp only [lsA]; omega) | (simp; done) | (simp; omega) | done⟩, trivial⟩ ?_
      intro a w h
      refine then_normal ?_
      refine at_test (!decide (x0.2.2.2.1 = x0.2.1 + x0.2.2.1)) h (by kernel_rfl) (fun h3 => ?_) (fun h3 => ?_)
      · replace h3 : ¬ (x0.2.2.2.1 = x0.2.1 + x0.2.2.1) := of_decide_eq_false (notT h3)
        refine wp_seq ?_
        refine at_regq [] { ts := [1, 2], os := [1] } [] gamOK hT h (by kernel_rfl) trivial ?_
        intro a w h
        refine then_normal ?_
        refine wp_ret ?_
        refine then_ret ?_
        exact at_return (S := S_impl_IsValidDecoder) (x := (x0, ())) (false, ()) [] h (by kernel_rfl) trivial (congrArg (fun z => (z, ())) (show (false) = validD x0 from by first | rfl | (unfold validD; rw [if_pos (notF h1), if_pos (notF h2), if_neg h3])))
      · replace h3 : x0.2.2.2.1 = x0.2.1 + x0.2.2.1 := of_decide_eq_true (notF h3)
        refine wp_skip ?_
        refine then_normal ?_
        refine wp_seq ?_
        refine wp_seq ?_
        refine at_regq [] { ts := [1, 2, 32, 33, 34], os := [1] } [] gamOK hT h (by kernel_rfl) trivial ?_
        intro a w h
        refine then_normal ?_
        refine wp_block ?_
        replace h := at_out (σ' := ⟨[(1, aP 1 0), (2, aB false), (32, aF s22 x0.2.2.2.2), (33, aI ((List.length x0.2.2.2.2 : Nat) : Int)), (34, aI 0)], [(1, oX 112 [cI x0.1, cI x0.2.1, cI x0.2.2.1, cI x0.2.2.2.1, .ro s22 x0.2.2.2.2])]⟩) { ts := [1, 2, 32, 33, 34], os := [1] } h (by kernel_rfl)
        refine at_loop (fun i : Nat => (⟨[(1, aP 1 0), (2, aB false), (32, aF s22 x0.2.2.2.2), (33, aI ((List.length x0.2.2.2.2 : Nat) : Int)), (34, aI ((i : Nat) : Int))], [(1, oX 112 [cI x0.1, cI x0.2.1, cI x0.2.2.1, cI x0.2.2.2.1, .ro s22 x0.2.2.2.2])]⟩ : St)) (fun i => (i ≤ List.length x0.2.2.2.2 ∧ allTo1 (fun r => decide (LA.leadS r < x0.2.1)) x0.2.2.2.2 [] i)) (fun i => List.length x0.2.2.2.2 - i) (0) h (st_congr1 (fun (d0 : Int) => (⟨[(1, aP 1 0), (2, aB false), (32, aF s22 x0.2.2.2.2), (33, aI ((List.length x0.2.2.2.2 : Nat) : Int)), (34, aI d0)], [(1, oX 112 [cI x0.1, cI x0.2.1, cI x0.2.2.1, cI x0.2.2.2.1, .ro s22 x0.2.2.2.2])]⟩ : St)) (show (0 : Int) = (((0) : Nat) : Int) from by first | with_reducible rfl | (rfl) | rfl)) (by exact ⟨Nat.zero_le _, allTo1_zero⟩) ?_
        intro i a w hok0 h
        refine wp_seq ?_
        refine at_regq [] { ts := [1, 2, 32, 33, 34, 35], os := [1] } [] gamOK hT h (by kernel_rfl) trivial ?_
        intro a w h
        refine then_normal ?_
        refine wp_seq ?_
        refine at_test (decide (((i : Nat) : Int) < ((List.length x0.2.2.2.2 : Nat) : Int))) h (by kernel_rfl) (fun h4 => ?_) (fun h4 => ?_)
        · replace h4 : ((i : Nat) : Int) < ((List.length x0.2.2.2.2 : Nat) : Int) := of_decide_eq_true h4
          refine wp_skip ?_
          refine then_normal ?_
          refine wp_seq ?_
          refine wp_block ?_
          refine wp_seq ?_
          refine at_regq [] { ts := [1, 2, 4, 32, 33, 34], os := [1] } [(0 : Int) ≤ ((i : Nat) : Int) ∧ ((i : Nat) : Int) < ((List.length x0.2.2.2.2 : Nat) : Int)] gamOK hT h (by kernel_rfl) ⟨(by refine ⟨?_, ?_⟩ <;> (first | omega | (simp only [lsA]; omega) | (simp; done) | (simp; omega) | done)), trivial⟩ ?_
          intro a w h
          refine then_normal ?_
          refine wp_seq ?_
          refine at_anyq [{}, {}, {}, {}, {}] { ts := [1, 2, 32, 33, 34, 42], os := [1] } [(fun (x0 : (List Int)) => Sh.fit s22 x0) (x0.2.2.2.2.getD i [])] gamOK hT mixed h (by kernel_rfl) ⟨(by exact Sh.fit_getD hf0.2.2.2.2 i), trivial⟩ ?_
          intro a w h
          refine then_normal ?_
          refine at_test (decide ((LA.leadS (x0.2.2.2.2.getD i [])) ≥ x0.2.1)) h (by kernel_rfl) (fun h5 => ?_) (fun h5 => ?_)
          · replace h5 : (LA.leadS (x0.2.2.2.2.getD i [])) ≥ x0.2.1 := of_decide_eq_true h5
            refine wp_seq ?_
            refine at_regq [] { ts := [1, 2, 32, 33, 34], os := [1] } [] gamOK hT h (by kernel_rfl) trivial ?_
            intro a w h
            refine then_normal ?_
            refine wp_ret ?_
            refine in_ret ?_
            refine then_ret ?_
            have hs6 : (List.all x0.2.2.2.2 (fun r => decide (LA.leadS r < x0.2.1))) = false := by exact all_at (z := []) (i := i) (by omega) (by exact decide_eq_false (by omega))
            refine then_ret ?_
            refine in_ret ?_
            refine then_ret ?_
            exact at_return (S := S_impl_IsValidDecoder) (x := (x0, ())) (false, ()) [] h (by kernel_rfl) trivial (congrArg (fun z => (z, ())) (show (false) = validD x0 from by first | rfl | (unfold validD; rw [if_pos (notF h1), if_pos (notF h2), if_pos h3, if_neg (neT hs6)])))
          · replace h5 : ¬ ((LA.leadS (x0.2.2.2.2.getD i [])) ≥ x0.2.1) := of_decide_eq_false h5
            refine wp_skip ?_
            refine in_normal ?_
            refine then_normal ?_
            refine at_regq [{ nw := true }] { ts := [1, 2, 32, 33, 34], os := [1] } [I64 (((i : Nat) : Int) + 1)] gamOK hT h (by kernel_rfl) ⟨⟨by first | omega | (simp only [lsA]; omega) | (simp; done) | (simp; omega) | done, by first | omega | (simp only [lsA]; omega) | (simp; done) | (simp; omega) | done⟩, trivial⟩ ?_
            intro a w h
            replace h := at_out (σ' := ⟨[(1, aP 1 0), (2, aB false), (32, aF s22 x0.2.2.2.2), (33, aI ((List.length x0.2.2.2.2 : Nat) : Int)), (34, aI (((i : Nat) : Int) + 1))], [(1, oX 112 [cI x0.1, cI x0.2.1, cI x0.2.2.1, cI x0.2.2.2.1, .ro s22 x0.2.2.2.2])]⟩) { ts := [1, 2, 32, 33, 34], os := [1] } h (by kernel_rfl)
            exact ⟨i + 1, at_eq h (st_congr1 (fun (d0 : Int) => (⟨[(1, aP 1 0), (2, aB false), (32, aF s22 x0.2.2.2.2), (33, aI ((List.length x0.2.2.2.2 : Nat) : Int)), (34, aI d0)], [(1, oX 112 [cI x0.1, cI x0.2.1, cI x0.2.2.1, cI x0.2.2.2.1, .ro s22 x0.2.2.2.2])]⟩ : St)) (show (((i : Nat) : Int) + 1 : Int) = (((i + 1) : Nat) : Int) from by first | with_reducible rfl | (omega) | rfl)), (by exact ⟨by omega, allTo1_succ hok0.2 (by exact decide_eq_true (by omega))⟩), (by omega)⟩
        · replace h4 : ¬ (((i : Nat) : Int) < ((List.length x0.2.2.2.2 : Nat) : Int)) := of_decide_eq_false h4
          refine wp_exit ?_
          refine then_exit ?_
          have hs7 : (List.all x0.2.2.2.2 (fun r => decide (LA.leadS r < x0.2.1))) = true := by exact all_of (z := []) (i := i) (by omega) hok0.2
          refine then_exit ?_
          refine in_hit ?_
          refine then_normal ?_
          refine wp_seq ?_
          refine at_regq [] { ts := [2], os := [] } [] gamOK hT h (by kernel_rfl) trivial ?_
          intro a w h
          refine then_normal ?_
          refine wp_ret ?_
          exact at_return (S := S_impl_IsValidDecoder) (x := (x0, ())) (true, ()) [] h (by kernel_rfl) trivial (congrArg (fun z => (z, ())) (show (true) = validD x0 from by first | rfl | (unfold validD; rw [if_pos (notF h1), if_pos (notF h2), if_pos h3, if_pos hs7])))
theorem validD_t {d : T112} (h : validD d = true) : ((0 ≤ d.1 ∧ d.1 ≤ 1000000000000) ∧ (1 ≤ d.2.1 ∧ d.2.1 ≤ 8) ∧ (1 ≤ d.2.2.1 ∧ d.2.2.1 ≤ 16)) ∧ basP d.2.2.2 ∧ d.2.2.2.1 = d.2.1 + d.2.2.1 ∧ ∀ r ∈ d.2.2.2.2, LA.leadS r < d.2.1 := by
  unfold validD at h
  split at h
  · split at h
    · split at h
      · split at h
        · rename_i h1 h2 h3 h4
          exact ⟨isFmt_t h1, validB_t h2, h3, fun r hr => of_decide_eq_true (List.all_eq_true.1 h4 r hr)⟩
        · cases h
      · cases h
    · cases h
  · cases h

def S_spec_IsValidDecoder : Sum := { fid := 141, dom := [s112], cod := [(.bool 4)], dp := true, fz := false, pre := fun x => (fun (x0 : T112) => Sh.fit s112 x0) x.1, g := fun x => ((validD x.1), ()) }
def S_spec_IsValidDecoder_tab : List (Nat × Sum) := [(220, S_spec_l14Range), (210, S_spec_IsValidBasis), (143, S_spec_LeadingIndex)]
theorem S_spec_IsValidDecoder_ok : FnOK Try.prog 141 S_spec_IsValidDecoder := by
  refine at_enter 47 (fun x => ⟨[(0, aG [cI x.1.1, cI x.1.2.1, cI x.1.2.2.1, cI x.1.2.2.2.1, .ro s22 x.1.2.2.2.2])], []⟩) Try.func141 rfl (by kernel_rfl) (fun x => rfl) ?_
  rintro w0 Z0 ⟨x0, u⟩ a w
  revert x0
  intro (x0 : T112) hpre hlens h
  replace h : At w0 Z0 [] 47 ⟨[(0, aG [cI x0.1, cI x0.2.1, cI x0.2.2.1, cI x0.2.2.2.1, .ro s22 x0.2.2.2.2])], []⟩ a w := h
  replace hpre : (fun (x0 : T112) => Sh.fit s112 x0) x0 := hpre
  have hl1 : List.length x0.2.2.2.2 ≤ 9223372036854775807 := hlens.1.2.2.2.2.1
  have hT : TabOK Try.prog S_spec_IsValidDecoder_tab := (.cons S_spec_l14Range_ok (.cons S_spec_IsValidBasis_ok (.cons S_spec_LeadingIndex_ok .nil)))
  have hf0 : Sh.fit s112 x0 := hpre
  have hn0_1 : List.length x0.2.2.2.2 ≤ 1073741824 := hf0.2.2.2.2.1
  refine wp_seq ?_
  refine at_regq [{ ids := [1] }] { ts := [1, 2], os := [1] } [] gamOK hT h (by kernel_rfl) trivial ?_
  intro a w h
  refine then_normal ?_
  refine wp_seq ?_
  refine wp_seq ?_
  rcases Bool.eq_false_or_eq_true (!(isFmt x0.1 x0.2.1 x0.2.2.1)) with h1 | h1
  · skip
    have hzh1 : (isFmt x0.1 x0.2.1 x0.2.2.1) = false := notT h1
    refine at_regq [{}, {}, {}, {}, {}, {}, {}, { hint := some (aB true) }] { ts := [1, 2, 28], os := [1] } [True, (AV.p (.c (.v (.bool (!(isFmt x0.1 x0.2.1 x0.2.2.1))))) = AV.p (.c (.v (.bool true))))] gamOK hT h (by kernel_rfl) ⟨trivial, hint_bool (h1), trivial⟩ ?_
    intro a w h
    refine then_normal ?_
    refine at_test true h (by kernel_rfl) (fun hh => ?_) (fun hh => nomatch hh)
    refine wp_seq ?_
    refine at_regq [] { ts := [1, 2], os := [1] } [] gamOK hT h (by kernel_rfl) trivial ?_
    intro a w h
    refine then_normal ?_
    refine wp_ret ?_
    refine then_ret ?_
    exact at_return (S := S_spec_IsValidDecoder) (x := (x0, ())) (false, ()) [] h (by kernel_rfl) trivial (congrArg (fun z => (z, ())) (show (false) = validD x0 from by first | rfl | (unfold validD; rw [if_neg (neT (notT h1))]; done) | (unfold validD; (repeat (first | rfl | split)) <;> (first | rfl | omega | (simp_all [-List.all_eq_true, -List.any_eq_true, -List.all_eq_false, -List.any_eq_false, validBS_eq]; done) | (simp_all [-List.all_eq_true, -List.any_eq_true, -List.all_eq_false, -List.any_eq_false, validBS_eq]; omega) | (exfalso; simp_all [-List.all_eq_true, -List.any_eq_true, -List.all_eq_false, -List.any_eq_false, validBS_eq]; omega)))))
  · skip
    have hzh1 : (isFmt x0.1 x0.2.1 x0.2.2.1) = true := notF h1
    have hvh1 := isFmt_t (notF h1)
    rcases Bool.eq_false_or_eq_true (!(validBS x0.2.2.2)) with h2 | h2
    · skip
      have hzh2 : (validBS x0.2.2.2) = false := notT h2
      refine at_regq [{}, {}, {}, {}, {}, {}, {}, { hint := some (aB false) }, {}, {}, {}, {}, { hint := some (aB true) }] { ts := [1, 2, 28], os := [1] } [True, (AV.p (.c (.v (.bool (!(isFmt x0.1 x0.2.1 x0.2.2.1))))) = AV.p (.c (.v (.bool false)))), (fun (x0 : T101) => Sh.fit s101 x0) x0.2.2.2, (AV.p (.c (.v (.bool (!(validBS x0.2.2.2))))) = AV.p (.c (.v (.bool true))))] gamOK hT h (by kernel_rfl) ⟨trivial, hint_bool (h1), (by exact hf0.2.2.2), hint_bool (h2), trivial⟩ ?_
      intro a w h
      refine then_normal ?_
      refine at_test true h (by kernel_rfl) (fun hh => ?_) (fun hh => nomatch hh)
      refine wp_seq ?_
      refine at_regq [] { ts := [1, 2], os := [1] } [] gamOK hT h (by kernel_rfl) trivial ?_
      intro a w h
      refine then_normal ?_
      refine wp_ret ?_
      refine then_ret ?_
      exact at_return (S := S_spec_IsValidDecoder) (x := (x0, ())) (false, ()) [] h (by kernel_rfl) trivial (congrArg (fun z => (z, ())) (show (false) = validD x0 from by first | rfl | (unfold validD; rw [if_pos (notF h1), if_neg (neT (notT h2))]; done) | (unfold validD; (repeat (first | rfl | split)) <;> (first | rfl | omega | (simp_all [-List.all_eq_true, -List.any_eq_true, -List.all_eq_false, -List.any_eq_false, validBS_eq]; done) | (simp_all [-List.all_eq_true, -List.any_eq_true, -List.all_eq_false, -List.any_eq_false, validBS_eq]; omega) | (exfalso; simp_all [-List.all_eq_true, -List.any_eq_true, -List.all_eq_false, -List.any_eq_false, validBS_eq]; omega)))))
    · skip
      have hzh2 : (validBS x0.2.2.2) = true := notF h2
      have hvh2 := validBS_t (notF h2)
      refine at_regq [{}, {}, {}, {}, {}, {}, {}, { hint := some (aB false) }, {}, {}, {}, {}, { hint := some (aB false) }, {}, {}, {}, {}, {}, {}, {}, {}, {}, { nw := true }] { ts := [1, 2, 28], os := [1] } [True, (AV.p (.c (.v (.bool (!(isFmt x0.1 x0.2.1 x0.2.2.1))))) = AV.p (.c (.v (.bool false)))), (fun (x0 : T101) => Sh.fit s101 x0) x0.2.2.2, (AV.p (.c (.v (.bool (!(validBS x0.2.2.2))))) = AV.p (.c (.v (.bool false)))), I64 (x0.2.1 + x0.2.2.1)] gamOK hT h (by kernel_rfl) ⟨trivial, hint_bool (h1), (by exact hf0.2.2.2), hint_bool (h2), ⟨by first | omega | (simp only [lsA]; omega) | (simp; done) | (simp; omega) | done, by first | omega | (simp only [lsA]; omega) | (simp; done) | (simp; omega) | done⟩, trivial⟩ ?_
      intro a w h
      refine then_normal ?_
      refine at_test (!decide (x0.2.2.2.1 = x0.2.1 + x0.2.2.1)) h (by kernel_rfl) (fun h3 => ?_) (fun h3 => ?_)
      · replace h3 : ¬ (x0.2.2.2.1 = x0.2.1 + x0.2.2.1) := of_decide_eq_false (notT h3)
        refine wp_seq ?_
        refine at_regq [] { ts := [1, 2], os := [1] } [] gamOK hT h (by kernel_rfl) trivial ?_
        intro a w h
        refine then_normal ?_
        refine wp_ret ?_
        refine then_ret ?_
        exact at_return (S := S_spec_IsValidDecoder) (x := (x0, ())) (false, ()) [] h (by kernel_rfl) trivial (congrArg (fun z => (z, ())) (show (false) = validD x0 from by first | rfl | (unfold validD; rw [if_pos (notF h1), if_pos (notF h2), if_neg h3]; done) | (unfold validD; (repeat (first | rfl | split)) <;> (first | rfl | omega | (simp_all [-List.all_eq_true, -List.any_eq_true, -List.all_eq_false, -List.any_eq_false, validBS_eq]; done) | (simp_all [-List.all_eq_true, -List.any_eq_true, -List.all_eq_false, -List.any_eq_false, validBS_eq]; omega) | (exfalso; simp_all [-List.all_eq_true, -List.any_eq_true, -List.all_eq_false, -List.any_eq_false, validBS_eq]; omega)))))
      · replace h3 : x0.2.2.2.1 = x0.2.1 + x0.2.2.1 := of_decide_eq_true (notF h3)
        refine wp_skip ?_
        refine then_normal ?_
        refine wp_seq ?_
        refine wp_seq ?_
        refine at_regq [] { ts := [1, 2, 3], os := [1] } [] gamOK hT h (by kernel_rfl) trivial ?_
        intro a w h
        refine then_normal ?_
        refine wp_block ?_
        replace h := at_out (σ' := ⟨[(1, aP 1 0), (2, aB false), (3, aI 0)], [(1, oX 112 [cI x0.1, cI x0.2.1, cI x0.2.2.1, cI x0.2.2.2.1, .ro s22 x0.2.2.2.2])]⟩) { ts := [1, 2, 3], os := [1] } h (by kernel_rfl)
        refine at_loop (fun i : Nat => (⟨[(1, aP 1 0), (2, aB false), (3, aI ((i : Nat) : Int))], [(1, oX 112 [cI x0.1, cI x0.2.1, cI x0.2.2.1, cI x0.2.2.2.1, .ro s22 x0.2.2.2.2])]⟩ : St)) (fun i => (i ≤ List.length x0.2.2.2.2 ∧ allTo1 (fun r => decide (LA.leadS r < x0.2.1)) x0.2.2.2.2 [] i)) (fun i => List.length x0.2.2.2.2 - i) (0) h (st_congr1 (fun (d0 : Int) => (⟨[(1, aP 1 0), (2, aB false), (3, aI d0)], [(1, oX 112 [cI x0.1, cI x0.2.1, cI x0.2.2.1, cI x0.2.2.2.1, .ro s22 x0.2.2.2.2])]⟩ : St)) (show (0 : Int) = (((0) : Nat) : Int) from by first | with_reducible rfl | (rfl) | rfl)) (by exact ⟨Nat.zero_le _, allTo1_zero⟩) ?_
        intro i a w hok0 h
        refine wp_seq ?_
        refine wp_seq ?_
        refine at_regq [] { ts := [1, 2, 3, 34], os := [1] } [] gamOK hT h (by kernel_rfl) trivial ?_
        intro a w h
        refine then_normal ?_
        refine at_test (decide (((i : Nat) : Int) < ((List.length x0.2.2.2.2 : Nat) : Int))) h (by kernel_rfl) (fun h4 => ?_) (fun h4 => ?_)
        · replace h4 : ((i : Nat) : Int) < ((List.length x0.2.2.2.2 : Nat) : Int) := of_decide_eq_true h4
          refine wp_skip ?_
          refine then_normal ?_
          refine wp_seq ?_
          refine wp_block ?_
          refine wp_seq ?_
          refine at_anyq [{}, {}, {}, {}, {}, {}, {}, {}, {}, {}] { ts := [1, 2, 3, 46], os := [1] } [(0 : Int) ≤ ((i : Nat) : Int) ∧ ((i : Nat) : Int) < ((List.length x0.2.2.2.2 : Nat) : Int), (fun (x0 : (List Int)) => Sh.fit s22 x0) (x0.2.2.2.2.getD i [])] gamOK hT mixed h (by kernel_rfl) ⟨(by refine ⟨?_, ?_⟩ <;> (first | omega | (simp only [lsA]; omega) | (simp; done) | (simp; omega) | done)), (by exact Sh.fit_getD hf0.2.2.2.2 i), trivial⟩ ?_
          intro a w h
          refine then_normal ?_
          refine at_test (decide ((LA.leadS (x0.2.2.2.2.getD i [])) ≥ x0.2.1)) h (by kernel_rfl) (fun h5 => ?_) (fun h5 => ?_)
          · replace h5 : (LA.leadS (x0.2.2.2.2.getD i [])) ≥ x0.2.1 := of_decide_eq_true h5
            refine wp_seq ?_
            refine at_regq [] { ts := [1, 2, 3], os := [1] } [] gamOK hT h (by kernel_rfl) trivial ?_
            intro a w h
            refine then_normal ?_
            refine wp_ret ?_
            refine in_ret ?_
            refine then_ret ?_
            have hs6 : (List.all x0.2.2.2.2 (fun r => decide (LA.leadS r < x0.2.1))) = false := by exact all_at (z := []) (i := i) (by omega) (by exact decide_eq_false (by omega))
            refine then_ret ?_
            refine in_ret ?_
            refine then_ret ?_
            exact at_return (S := S_spec_IsValidDecoder) (x := (x0, ())) (false, ()) [] h (by kernel_rfl) trivial (congrArg (fun z => (z, ())) (show (false) = validD x0 from by first | rfl | (unfold validD; rw [if_pos (notF h1), if_pos (notF h2), if_pos h3, if_neg (neT hs6)]; done) | (unfold validD; (repeat (first | rfl | split)) <;> (first | rfl | omega | (simp_all [-List.all_eq_true, -List.any_eq_true, -List.all_eq_false, -List.any_eq_false, validBS_eq]; done) | (simp_all [-List.all_eq_true, -List.any_eq_true, -List.all_eq_false, -List.any_eq_false, validBS_eq]; omega) | (exfalso; simp_all [-List.all_eq_true, -List.any_eq_true, -List.all_eq_false, -List.any_eq_false, validBS_eq]; omega)))))
          · replace h5 : ¬ ((LA.leadS (x0.2.2.2.2.getD i [])) ≥ x0.2.1) := of_decide_eq_false h5
            refine wp_skip ?_
            refine in_normal ?_
            refine then_normal ?_
            refine at_regq [{}, { nw := true }] { ts := [1, 2, 3], os := [1] } [I64 (((i : Nat) : Int) + 1)] gamOK hT h (by kernel_rfl) ⟨⟨by first | omega | (simp only [lsA]; omega) | (simp; done) | (simp; omega) | done, by first | omega | (simp only [lsA]; omega) | (simp; done) | (simp; omega) | done⟩, trivial⟩ ?_
            intro a w h
            replace h := at_out (σ' := ⟨[(1, aP 1 0), (2, aB false), (3, aI (((i : Nat) : Int) + 1))], [(1, oX 112 [cI x0.1, cI x0.2.1, cI x0.2.2.1, cI x0.2.2.2.1, .ro s22 x0.2.2.2.2])]⟩) { ts := [1, 2, 3], os := [1] } h (by kernel_rfl)
            exact ⟨i + 1, at_eq h (st_congr1 (fun (d0 : Int) => (⟨[(1, aP 1 0), (2, aB false), (3, aI d0)], [(1, oX 112 [cI x0.1, cI x0.2.1, cI x0.2.2.1, cI x0.2.2.2.1, .ro s22 x0.2.2.2.2])]⟩ : St)) (show (((i : Nat) : Int) + 1 : Int) = (((i + 1) : Nat) : Int) from by first | with_reducible rfl | (omega) | rfl)), (by exact ⟨by omega, allTo1_succ hok0.2 (by exact decide_eq_true (by omega))⟩), (by omega)⟩
        · replace h4 : ¬ (((i : Nat) : Int) < ((List.length x0.2.2.2.2 : Nat) : Int)) := of_decide_eq_false h4
          refine wp_exit ?_
          refine then_exit ?_
          have hs7 : (List.all x0.2.2.2.2 (fun r => decide (LA.leadS r < x0.2.1))) = true := by exact all_of (z := []) (i := i) (by omega) hok0.2
          refine then_exit ?_
          refine in_hit ?_
          refine then_normal ?_
          refine wp_seq ?_
          refine at_regq [] { ts := [2], os := [] } [] gamOK hT h (by kernel_rfl) trivial ?_
          intro a w h
          refine then_normal ?_
          refine wp_ret ?_
          exact at_return (S := S_spec_IsValidDecoder) (x := (x0, ())) (true, ()) [] h (by kernel_rfl) trivial (congrArg (fun z => (z, ())) (show (true) = validD x0 from by first | rfl | (unfold validD; rw [if_pos (notF h1), if_pos (notF h2), if_pos h3, if_pos hs7]; done) | (unfold validD; (repeat (first | rfl | split)) <;> (first | rfl | omega | (simp_all [-List.all_eq_true, -List.any_eq_true, -List.all_eq_false, -List.any_eq_false, validBS_eq]; done) | (simp_all [-List.all_eq_true, -List.any_eq_true, -List.all_eq_false, -List.any_eq_false, validBS_eq]; omega) | (exfalso; simp_all [-List.all_eq_true, -List.any_eq_true, -List.all_eq_false, -List.any_eq_false, validBS_eq]; omega)))))

def S__impl_Decoder_clone : Sum := { fid := 146, dom := [s112], cod := [s112], dp := true, fz := false, pre := fun x => (fun (x0 : T112) => Sh.fit s112 x0) x.1, g := fun x => (((idD s112) x.1), ()) }
def S__impl_Decoder_clone_tab : List (Nat × Sum) := [(218, S__impl_Basis_clone)]
theorem S__impl_Decoder_clone_ok : FnOK Try.prog 146 S__impl_Decoder_clone := by
  refine at_enter 8 (fun x => ⟨[(0, aG [cI x.1.1, cI x.1.2.1, cI x.1.2.2.1, cI x.1.2.2.2.1, .ro s22 x.1.2.2.2.2])], []⟩) Try.func146 rfl (by kernel_rfl) (fun x => rfl) ?_
  rintro w0 Z0 ⟨x0, u⟩ a w
  revert x0
  intro (x0 : T112) hpre hlens h
  replace h : At w0 Z0 [] 8 ⟨[(0, aG [cI x0.1, cI x0.2.1, cI x0.2.2.1, cI x0.2.2.2.1, .ro s22 x0.2.2.2.2])], []⟩ a w := h
  replace hpre : (fun (x0 : T112) => Sh.fit s112 x0) x0 := hpre
  have hl1 : List.length x0.2.2.2.2 ≤ 9223372036854775807 := hlens.1.2.2.2.2.1
  have hT : TabOK Try.prog S__impl_Decoder_clone_tab := (.cons S__impl_Basis_clone_ok .nil)
  have hf0 : Sh.fit s112 x0 := hpre
  have hn0_1 : List.length x0.2.2.2.2 ≤ 1073741824 := hf0.2.2.2.2.1
  refine wp_seq ?_
  refine at_regq [{ ids := [1] }, { ids := [2] }] { ts := [1, 2], os := [1, 2] } [] gamOK hT h (by kernel_rfl) trivial ?_
  intro a w h
  refine then_normal ?_
  refine wp_seq ?_
  refine at_regq [{}, {}, { ids := [3] }] { ts := [1, 2], os := [1, 2, 3] } [(fun (x0 : T101) => Sh.fit s101 x0) x0.2.2.2] gamOK hT h (by kernel_rfl) ⟨(by exact hf0.2.2.2), trivial⟩ ?_
  intro a w h
  refine then_normal ?_
  refine wp_seq ?_
  refine at_regq [] { ts := [2], os := [2, 3] } [] gamOK hT h (by kernel_rfl) trivial ?_
  intro a w h
  refine then_normal ?_
  refine wp_ret ?_
  exact at_return (S := S__impl_Decoder_clone) (x := (x0, ())) (x0, ()) [] h (by kernel_rfl) trivial (congrArg (fun z => (z, ())) (show (x0) = (idD s112) x0 from by rfl))

def S_spec_l14Copy : Sum := { fid := 140, dom := [s112], cod := [s112], dp := false, fz := false, pre := fun x => (fun (x0 : T112) => Sh.fit s112 x0) x.1, g := fun x => (((idD s112) x.1), ()) }
def S_spec_l14Copy_tab : List (Nat × Sum) := [(214, S_spec_l8Copy)]
theorem S_spec_l14Copy_ok : FnOK Try.prog 140 S_spec_l14Copy := by
  refine at_enter 10 (fun x => ⟨[(0, aG [cI x.1.1, cI x.1.2.1, cI x.1.2.2.1, cI x.1.2.2.2.1, .ro s22 x.1.2.2.2.2])], []⟩) Try.func140 rfl (by kernel_rfl) (fun x => rfl) ?_
  rintro w0 Z0 ⟨x0, u⟩ a w
  revert x0
  intro (x0 : T112) hpre hlens h
  replace h : At w0 Z0 [] 10 ⟨[(0, aG [cI x0.1, cI x0.2.1, cI x0.2.2.1, cI x0.2.2.2.1, .ro s22 x0.2.2.2.2])], []⟩ a w := h
  replace hpre : (fun (x0 : T112) => Sh.fit s112 x0) x0 := hpre
  have hl1 : List.length x0.2.2.2.2 ≤ 9223372036854775807 := hlens.1.2.2.2.2.1
  have hT : TabOK Try.prog S_spec_l14Copy_tab := (.cons S_spec_l8Copy_ok .nil)
  have hf0 : Sh.fit s112 x0 := hpre
  have hn0_1 : List.length x0.2.2.2.2 ≤ 1073741824 := hf0.2.2.2.2.1
  refine wp_seq ?_
  refine at_regq [{ ids := [1] }, { ids := [2] }] { ts := [1, 2], os := [1, 2] } [] gamOK hT h (by kernel_rfl) trivial ?_
  intro a w h
  refine then_normal ?_
  refine wp_seq ?_
  refine at_regq [{}, { ids := [3] }] { ts := [1, 2, 3], os := [1, 2, 3] } [] gamOK hT h (by kernel_rfl) trivial ?_
  intro a w h
  refine then_normal ?_
  refine wp_seq ?_
  refine at_regq [{}, {}, { ids := [4] }] { ts := [2, 3], os := [2, 3, 4] } [(fun (x0 : T101) => Sh.fit s101 x0) x0.2.2.2] gamOK hT h (by kernel_rfl) ⟨(by exact hf0.2.2.2), trivial⟩ ?_
  intro a w h
  refine then_normal ?_
  refine wp_seq ?_
  refine at_regq [] { ts := [2], os := [2, 4] } [] gamOK hT h (by kernel_rfl) trivial ?_
  intro a w h
  refine then_normal ?_
  refine wp_ret ?_
  exact at_return (S := S_spec_l14Copy) (x := (x0, ())) (x0, ()) [] h (by kernel_rfl) trivial (congrArg (fun z => (z, ())) (show (x0) = (idD s112) x0 from by rfl))

theorem redTo_id {m : List LA.V} {p : Nat → Nat} (h : LA.Red m p) {v : LA.V} (hz : ∀ k, k < m.length → v (p k) = 0) : ∀ n, n ≤ m.length → LA.redTo m p v n = v
  | 0, _ => rfl
  | n + 1, hn => by
    have ih := redTo_id h hz n (by omega)
    have hp := hz n (by omega)
    simp only [LA.redTo, ih]
    funext j
    simp only [LA.vadd, hp]
    grind
theorem redS_idem {n : Nat} {rows : List (List Int)} {v : List Int} (h : LA.RedL n rows) (hv : LA.VokB n v) : LA.redS rows (LA.redS rows v) = LA.redS rows v := by
  obtain ⟨h1, h2⟩ := LA.redS_ok h.ok hv
  obtain ⟨h3, h4⟩ := LA.redS_ok h.ok h1
  refine LA.vec_inj h3 h1 ?_
  rw [h4]
  unfold LA.rem
  refine redTo_id h.red (fun k hk => ?_) _ (Nat.le_refl _)
  rw [h2]; exact LA.rem_piv h.red _ hk
theorem insS_redS {n : Nat} {rows : List (List Int)} {v : List Int} (h : LA.RedL n rows) (hv : LA.VokB n v) : LA.insS rows (LA.redS rows v) = LA.insS rows v := by
  have e := redS_idem h hv
  unfold LA.insS LA.insE LA.insW
  rw [e]
def insUD (d : T112) (v : List Int) : T112 := (d.1, d.2.1, d.2.2.1, insU d.2.2.2 v)
def insDq (d : T112) (v : List Int) : Bool := insD d.2.2.2 v
def addOKD (d : T112) (p : T61) : Bool := (validP p d.2.1 d.2.2.1 && decide (p.1 = d.1)) && inR (LA.leadS (LA.redS d.2.2.2.2 (p.2.1 ++ p.2.2))) 0 (d.2.1 - 1)
def addUD (d : T112) (p : T61) : T112 := if addOKD d p = true then insUD d (p.2.1 ++ p.2.2) else d
def addPk (d : T112) (p : T61) : T112 × Bool := if validD d = true ∧ addOKD d p = true then (addUD d p, true) else (d, false)
theorem addRow {d : T112} {p : T61} (h : validD d = true) (hp : validP p d.2.1 d.2.2.1 = true) : redP d.2.2.2 (p.2.1 ++ p.2.2) := by
  have h1 := validD_t h
  have h2 := validP_t hp
  have h3 := (validV_t h2.2.2.2.1).2.1
  have h4 := (validV_t h2.2.2.2.2).2.1
  refine ⟨h1.2.1, ?_, fun x hx => ?_⟩
  · rw [List.length_append]; omega
  · rcases List.mem_append.1 hx with hx | hx
    · exact h3 x hx
    · exact h4 x hx
theorem addOKD_f {d : T112} {p : T61} (h : validP p d.2.1 d.2.2.1 = false ∨ ¬ p.1 = d.1 ∨ inR (LA.leadS (LA.redS d.2.2.2.2 (p.2.1 ++ p.2.2))) 0 (d.2.1 - 1) = false) : addOKD d p = false := by
  unfold addOKD
  rcases h with h | h | h
  · rw [h]; rfl
  · rw [decide_eq_false h]; simp
  · rw [h]; simp
theorem addOKD_t {d : T112} {p : T61} (h1 : validP p d.2.1 d.2.2.1 = true) (h2 : p.1 = d.1) (h3 : inR (LA.leadS (LA.redS d.2.2.2.2 (p.2.1 ++ p.2.2))) 0 (d.2.1 - 1) = true) : addOKD d p = true := by
  unfold addOKD; rw [h1, decide_eq_true h2, h3]; rfl
theorem addUD_no {d : T112} {p : T61} (h : addOKD d p = false) : addUD d p = d := if_neg (by rw [h]; decide)
theorem addUD_yes {d : T112} {p : T61} (hd : validD d = true) (h : addOKD d p = true) : addUD d p = insUD d (LA.redS d.2.2.2.2 (p.2.1 ++ p.2.2)) := by
  have hp : validP p d.2.1 d.2.2.1 = true := by unfold addOKD at h; rw [Bool.and_eq_true, Bool.and_eq_true] at h; exact h.1.1
  have hr := addRow hd hp
  unfold addUD insUD insU
  rw [if_pos h, insS_redS hr.1.2 hr.2]
theorem insD_y {b : T101} {v : List Int} (h : 0 ≤ LA.leadS (LA.redS b.2 v)) : insD b v = true := by unfold insD; rw [LA.insS_yes (by omega)]
theorem insDq_y {d : T112} {p : T61} (hd : validD d = true) (hp : validP p d.2.1 d.2.2.1 = true) (h : inR (LA.leadS (LA.redS d.2.2.2.2 (p.2.1 ++ p.2.2))) 0 (d.2.1 - 1) = true) : insDq d (LA.redS d.2.2.2.2 (p.2.1 ++ p.2.2)) = true := by
  have hr := addRow hd hp
  unfold insDq
  refine insD_y ?_
  rw [redS_idem hr.1.2 hr.2]
  exact (inR_t h).1
theorem addPk_y {d : T112} {p : T61} (h : validD d = true) : (addUD d p, addOKD d p) = addPk d p := by
  unfold addPk
  cases ha : addOKD d p with
  | true => rw [if_pos ⟨h, rfl⟩]
  | false => rw [if_neg (fun e => by cases e.2), addUD_no ha]
theorem addPk_n {d : T112} {p : T61} (h : validD d = false ∨ addOKD d p = false) : (d, false) = addPk d p := by
  unfold addPk; rw [if_neg]
  rintro ⟨h1, h2⟩
  rcases h with h | h
  · rw [h1] at h; cases h
  · rw [h2] at h; cases h
theorem addPk_s {d : T112} {p : T61} (h : validD d = true) (hp : validP p d.2.1 d.2.2.1 = true) (hg : p.1 = d.1) (hi : inR (LA.leadS (LA.redS d.2.2.2.2 (p.2.1 ++ p.2.2))) 0 (d.2.1 - 1) = true) : ((d.1, d.2.1, d.2.2.1, (insV d.2.2.2 (p.2.1 ++ p.2.2)).1), (insV d.2.2.2 (p.2.1 ++ p.2.2)).2) = addPk d p := by
  have hr := addRow h hp
  unfold insV
  rw [if_pos (takesB_of hr), ← addPk_y h, addOKD_t hp hg hi]
  unfold addUD insUD
  rw [if_pos (addOKD_t hp hg hi), insD_y (inR_t hi).1]
theorem addPk_sz (d : T112) (p : T61) : Sh.sz s112 (addPk d p).1 ≤ 2000 + Sh.sz s112 d := by
  by_cases h : validD d = true ∧ addOKD d p = true
  · have hp : validP p d.2.1 d.2.2.1 = true := by have h := h.2; unfold addOKD at h; rw [Bool.and_eq_true, Bool.and_eq_true] at h; exact h.1.1
    have hr := addRow h.1 hp
    have hb : basP (insU d.2.2.2 (p.2.1 ++ p.2.2)) := ⟨hr.1.1, (LA.insS_ok hr.1.2 hr.2).1⟩
    have h1 := basP_sz hb
    have h2 : Sh.sz s112 (addPk d p).1 = 0 + (0 + (0 + Sh.sz s101 (insU d.2.2.2 (p.2.1 ++ p.2.2)))) := by
      unfold addPk; rw [if_pos h]; unfold addUD; rw [if_pos h.2]; rfl
    omega
  · unfold addPk; rw [if_neg h]; exact Nat.le_add_left _ _

def D_impl_PacketRow := (fun (p : T61) => p.2.1 ++ p.2.2)
def S_impl_PacketRow : Sum := { fid := 232, dom := [s61], cod := [s22], dp := true, fz := false, pre := fun x => (fun (x0 : T61) => Sh.fit s61 x0) x.1, g := fun x => ((D_impl_PacketRow x.1), ()) }
def S_impl_PacketRow_tab : List (Nat × Sum) := [(295, S_slices_Concat_S_int_int_)]
theorem S_impl_PacketRow_ok : FnOK Try.prog 232 S_impl_PacketRow := by
  refine at_enter 9 (fun x => ⟨[(0, aG [cI x.1.1, .ro (.int 3) x.1.2.1, .ro (.int 3) x.1.2.2])], []⟩) Try.func232 rfl (by kernel_rfl) (fun x => rfl) ?_
  rintro w0 Z0 ⟨x0, u⟩ a w
  revert x0
  intro (x0 : T61) hpre hlens h
  replace h : At w0 Z0 [] 9 ⟨[(0, aG [cI x0.1, .ro (.int 3) x0.2.1, .ro (.int 3) x0.2.2])], []⟩ a w := h
  replace hpre : (fun (x0 : T61) => Sh.fit s61 x0) x0 := hpre
  have hl1 : List.length x0.2.1 ≤ 9223372036854775807 := hlens.1.2.1.1
  have hl2 : List.length x0.2.2 ≤ 9223372036854775807 := hlens.1.2.2.1
  have hT : TabOK Try.prog S_impl_PacketRow_tab := (.cons S_slices_Concat_S_int_int__ok .nil)
  have hf0 : Sh.fit s61 x0 := hpre
  have hn0_1 : List.length x0.2.1 ≤ 1073741824 := hf0.2.1.1
  have hn0_2 : List.length x0.2.2 ≤ 1073741824 := hf0.2.2.1
  refine wp_seq ?_
  refine at_regq [{ ids := [1] }] { ts := [1, 2], os := [1] } [] gamOK hT h (by kernel_rfl) trivial ?_
  intro a w h
  refine then_normal ?_
  refine wp_seq ?_
  refine at_regq [{}, {}, {}, {}, { ids := [2], dp := false }, { ids := [3] }] { ts := [2], os := [3] } [pCat ([x0.2.1, x0.2.2])] gamOK hT h (by kernel_rfl) ⟨(by (show _ ∧ _; refine ⟨by simp, ?_⟩; simp; omega)), trivial⟩ ?_
  intro a w h
  refine then_normal ?_
  refine wp_ret ?_
  exact at_return (S := S_impl_PacketRow) (x := (x0, ())) ((D_slices_Concat_S_int_int_ ([x0.2.1, x0.2.2])), ()) [] h (by kernel_rfl) trivial (congrArg (fun z => (z, ())) (show ((D_slices_Concat_S_int_int_ ([x0.2.1, x0.2.2]))) = D_impl_PacketRow x0 from by unfold D_impl_PacketRow; (simp [D_slices_Concat_S_int_int_])))

def S__P_impl_Basis_insert_dec : Sum := { fid := 219, dom := [s112, s22], cod := [(.bool 4)], dp := true, fz := false, pre := fun x => (fun (x0 : T112) (x1 : (List Int)) => Sh.fit s112 x0 ∧ Sh.fit s22 x1 ∧ redP x0.2.2.2 x1) x.1 x.2.1, g := fun x => ((insDq x.1 x.2.1), ()), kinds := [(.bx 112 3), .rd], upd := fun x => (insUD x.1 x.2.1, (x.2.1, ())) }
def S__P_impl_Basis_insert_dec_tab : List (Nat × Sum) := [(231, S__impl_Basis_reduce), (229, S_impl_LeadingIndex), (285, S_impl_InverseField), (284, S_impl_ScaleVector), (286, S_impl_addScaled), (287, S_slices_Insert_S_S_int_S_int_)]
theorem S__P_impl_Basis_insert_dec_ok : FnOK Try.prog 219 S__P_impl_Basis_insert_dec := by
  refine at_enterI 66 [1, 2] [3] (fun us x => ⟨[(0, aP 1 3), (1, aF (.int 3) x.2.1)], [(1, oX 112 [cI x.1.1, cI x.1.2.1, cI x.1.2.2.1, cI x.1.2.2.2.1, .sl 2]), (2, oR s22 x.1.2.2.2.2), (3, oP 1 (S__P_impl_Basis_insert_dec.hd us 0))]⟩) Try.func219 rfl (by kernel_rfl) (fun us x => rfl) ?_
  rintro w0 Z0 us ⟨x0, x1, u⟩ L a w
  revert x0 x1
  intro (x0 : T112) (x1 : (List Int)) hio hpre hlens h
  replace h : At w0 Z0 L 66 ⟨[(0, aP 1 3), (1, aF (.int 3) x1)], [(1, oX 112 [cI x0.1, cI x0.2.1, cI x0.2.2.1, cI x0.2.2.2.1, .sl 2]), (2, oR s22 x0.2.2.2.2), (3, oP 1 (S__P_impl_Basis_insert_dec.hd us 0))]⟩ a w := h
  replace hpre : (fun (x0 : T112) (x1 : (List Int)) => Sh.fit s112 x0 ∧ Sh.fit s22 x1 ∧ redP x0.2.2.2 x1) x0 x1 := hpre
  have hl1 : List.length x0.2.2.2.2 ≤ 9223372036854775807 := hlens.1.2.2.2.2.1
  have hl2 : List.length x1 ≤ 9223372036854775807 := hlens.2.1.1
  have hT : TabOK Try.prog S__P_impl_Basis_insert_dec_tab := (.cons S__impl_Basis_reduce_ok (.cons S_impl_LeadingIndex_ok (.cons S_impl_InverseField_ok (.cons S_impl_ScaleVector_ok (.cons S_impl_addScaled_ok (.cons S_slices_Insert_S_S_int_S_int__ok .nil))))))
  obtain ⟨hf0, hf1, hpx⟩ := hpre
  have hn0_1 : List.length x0.2.2.2.2 ≤ 1073741824 := hf0.2.2.2.2.1
  have hn1_2 : List.length x1 ≤ 1073741824 := hf1.1
  have hb0 := hpx.1.1
  have hbR := hpx.1.2
  have hbv := hpx.2
  have hrd := LA.redS_rng hbR hbv
  have hrdl := hrd.1
  have hrn := hbR.len
  refine wp_seq ?_
  refine at_regq [] { ts := [0, 1, 4], os := [1, 2, 3] } [] gamOK hT h (by kernel_rfl) trivial ?_
  intro a w h
  refine then_normal ?_
  refine wp_seq ?_
  refine at_regq [{}, {}, {}, {}, { ids := [4] }] { ts := [0, 4, 5], os := [1, 2, 3, 4] } [(fun (x0 : T101) (x1 : (List Int)) => Sh.fit s101 x0 ∧ Sh.fit s22 x1 ∧ redP x0 x1) x0.2.2.2 x1] gamOK hT h (by kernel_rfl) ⟨(by exact ⟨hf0.2.2.2, hf1, hpx⟩), trivial⟩ ?_
  intro a w h
  refine then_normal ?_
  refine wp_seq ?_
  refine at_regq [] { ts := [0, 4, 5, 6], os := [1, 2, 3, 4] } [(fun (x0 : (List Int)) => Sh.fit s22 x0) (LA.redS x0.2.2.2.2 x1)] gamOK hT h (by kernel_rfl) ⟨(by first | exact fitV hrd (by omega) | exact fitV hrk (by omega) | exact Sh.fit_len rfl (by rw [LA.addS_len (by omega)]; omega)), trivial⟩ ?_
  intro a w h
  refine then_normal ?_
  refine wp_seq ?_
  refine wp_seq ?_
  refine at_regq [] { ts := [0, 4, 5, 6, 19], os := [1, 2, 3, 4] } [] gamOK hT h (by kernel_rfl) trivial ?_
  intro a w h
  refine then_normal ?_
  refine at_test (decide ((LA.leadS (LA.redS x0.2.2.2.2 x1)) < 0)) h (by kernel_rfl) (fun h1 => ?_) (fun h1 => ?_)
  · replace h1 : (LA.leadS (LA.redS x0.2.2.2.2 x1)) < 0 := of_decide_eq_true h1
    refine wp_seq ?_
    refine at_regq [] { ts := [0, 4, 5, 6], os := [1, 2, 3, 4] } [] gamOK hT h (by kernel_rfl) trivial ?_
    intro a w h
    refine then_normal ?_
    refine wp_ret ?_
    refine then_ret ?_
    exact at_returnI (S := S__P_impl_Basis_insert_dec) (x := (x0, x1, ())) [1, 2] [3] (x0, (x1, ())) (some (false, ())) [S__P_impl_Basis_insert_dec.hd us 0 = S__P_impl_Basis_insert_dec.hd us 0] hio h (by kernel_rfl) ⟨rfl, trivial⟩ (by first | rfl | exact congrArg (fun (z : T112) => (z, (x1, ()))) (show (x0 : T112) = insUD x0 x1 from by (unfold insUD insU; first | (rw [LA.insS_no (by assumption)]; done) | (rw [LA.insS_yes (by assumption)]; rfl)))) (fun z e => (Option.some.inj e) ▸ (congrArg (fun z => (z, ())) (show (false) = insDq x0 x1 from by (unfold insDq insD; first | (rw [LA.insS_no (by assumption)]; done) | (rw [LA.insS_yes (by assumption)]; done)))))
  · replace h1 : ¬ ((LA.leadS (LA.redS x0.2.2.2.2 x1)) < 0) := of_decide_eq_false h1
    have hlp := LA.leadS_bd (LA.redS x0.2.2.2.2 x1)
    have hwk := LA.insW_ok hbR hbv (by omega)
    have hwl := hwk.1
    have hpz := (LA.leadS_pos (v := LA.redS x0.2.2.2.2 x1) (by omega)).1
    refine wp_skip ?_
    refine then_normal ?_
    refine wp_seq ?_
    refine at_regq [{}, {}, {}, {}, {}, {}, { ids := [5] }] { ts := [0, 4, 5, 6], os := [1, 2, 3, 5] } [(0 : Int) ≤ (LA.leadS (LA.redS x0.2.2.2.2 x1)) ∧ (LA.leadS (LA.redS x0.2.2.2.2 x1)) < ((List.length (LA.redS x0.2.2.2.2 x1) : Nat) : Int), ((LA.leadS (LA.redS x0.2.2.2.2 x1))).toNat < List.length (LA.redS x0.2.2.2.2 x1), True, (fun (x0 : (List Int)) (x1 : Int) => Sh.fit s22 x0) (LA.redS x0.2.2.2.2 x1) (invF ((LA.redS x0.2.2.2.2 x1).getD (((LA.leadS (LA.redS x0.2.2.2.2 x1))).toNat) 0))] gamOK hT h (by kernel_rfl) ⟨(by refine ⟨?_, ?_⟩ <;> (first | omega | (simp only [lsA]; omega) | (simp; done) | (simp; omega) | done)), (by first | omega | (simp only [lsA]; omega) | (simp; done) | (simp; omega) | done), trivial, (by exact fitV hrd (by omega)), trivial⟩ ?_
    intro a w h
    refine then_normal ?_
    refine wp_seq ?_
    refine at_regq [] { ts := [0, 4, 5, 6, 7], os := [1, 2, 3, 5] } [] gamOK hT h (by kernel_rfl) trivial ?_
    intro a w h
    refine then_normal ?_
    refine wp_seq ?_
    refine wp_seq ?_
    refine at_regq [] { ts := [0, 4, 5, 6, 7, 30, 31, 32], os := [1, 2, 3, 5] } [] gamOK hT h (by kernel_rfl) trivial ?_
    intro a w h
    refine then_normal ?_
    refine wp_block ?_
    replace h := at_out (σ' := ⟨[(0, aP 1 3), (4, aB false), (5, aS 5), (6, aI (LA.leadS (LA.redS x0.2.2.2.2 x1))), (7, aI 0), (30, aS 2), (31, aI ((List.length x0.2.2.2.2 : Nat) : Int)), (32, aI 0)], [(1, oX 112 [cI x0.1, cI x0.2.1, cI x0.2.2.1, cI x0.2.2.2.1, .sl 2]), (2, oR s22 x0.2.2.2.2), (3, oP 1 (S__P_impl_Basis_insert_dec.hd us 0)), (5, oR (.int 3) (scaleV (LA.redS x0.2.2.2.2 x1) (invF ((LA.redS x0.2.2.2.2 x1).getD (((LA.leadS (LA.redS x0.2.2.2.2 x1))).toNat) 0))))]⟩) { ts := [0, 4, 5, 6, 7, 30, 31, 32], os := [1, 2, 3, 5] } h (by kernel_rfl)
    refine at_loop (fun i : Nat => (⟨[(0, aP 1 3), (4, aB false), (5, aS 5), (6, aI (LA.leadS (LA.redS x0.2.2.2.2 x1))), (7, aI ((LA.atTo (LA.insE x0.2.2.2.2 x1) (LA.leadS (LA.redS x0.2.2.2.2 x1)) i : Nat) : Int)), (30, aS 2), (31, aI ((List.length x0.2.2.2.2 : Nat) : Int)), (32, aI ((i : Nat) : Int))], [(1, oX 112 [cI x0.1, cI x0.2.1, cI x0.2.2.1, cI x0.2.2.2.1, .sl 2]), (2, oR s22 (LA.elTo x0.2.2.2.2 (LA.insW x0.2.2.2.2 x1) (LA.leadS (LA.redS x0.2.2.2.2 x1)).toNat i)), (3, oP 1 (S__P_impl_Basis_insert_dec.hd us 0)), (5, oR (.int 3) (LA.insW x0.2.2.2.2 x1))]⟩ : St)) (fun i => i ≤ List.length x0.2.2.2.2) (fun i => List.length x0.2.2.2.2 - i) (0) h (st_congr4 (fun (d0 : List (List Int)) (d1 : List Int) (d2 : Int) (d3 : Int) => (⟨[(0, aP 1 3), (4, aB false), (5, aS 5), (6, aI (LA.leadS (LA.redS x0.2.2.2.2 x1))), (7, aI d2), (30, aS 2), (31, aI ((List.length x0.2.2.2.2 : Nat) : Int)), (32, aI d3)], [(1, oX 112 [cI x0.1, cI x0.2.1, cI x0.2.2.1, cI x0.2.2.2.1, .sl 2]), (2, oR s22 d0), (3, oP 1 (S__P_impl_Basis_insert_dec.hd us 0)), (5, oR (.int 3) d1)]⟩ : St)) (show (x0.2.2.2.2 : List (List Int)) = (LA.elTo x0.2.2.2.2 (LA.insW x0.2.2.2.2 x1) (LA.leadS (LA.redS x0.2.2.2.2 x1)).toNat (0)) from by first | with_reducible rfl | (first | rfl | exact ins_w hrd (by omega) (by omega)) | rfl) (show ((scaleV (LA.redS x0.2.2.2.2 x1) (invF ((LA.redS x0.2.2.2.2 x1).getD (((LA.leadS (LA.redS x0.2.2.2.2 x1))).toNat) 0))) : List Int) = (LA.insW x0.2.2.2.2 x1) from by first | with_reducible rfl | (first | rfl | exact ins_w hrd (by omega) (by omega)) | rfl) (show (0 : Int) = ((LA.atTo (LA.insE x0.2.2.2.2 x1) (LA.leadS (LA.redS x0.2.2.2.2 x1)) (0) : Nat) : Int) from by first | with_reducible rfl | (first | rfl | exact ins_w hrd (by omega) (by omega)) | rfl) (show (0 : Int) = (((0) : Nat) : Int) from by first | with_reducible rfl | (first | rfl | exact ins_w hrd (by omega) (by omega)) | rfl)) (by omega) ?_
    intro i a w hok0 h
    have hel := LA.elTo_len (rows := x0.2.2.2.2) (w := (LA.insW x0.2.2.2.2 x1)) (l := (LA.leadS (LA.redS x0.2.2.2.2 x1)).toNat) (i := i)
    refine wp_seq ?_
    refine at_regq [] { ts := [0, 4, 5, 6, 7, 30, 31, 32, 33], os := [1, 2, 3, 5] } [] gamOK hT h (by kernel_rfl) trivial ?_
    intro a w h
    refine then_normal ?_
    refine wp_seq ?_
    refine at_test (decide (((i : Nat) : Int) < ((List.length x0.2.2.2.2 : Nat) : Int))) h (by kernel_rfl) (fun h2 => ?_) (fun h2 => ?_)
    · replace h2 : ((i : Nat) : Int) < ((List.length x0.2.2.2.2 : Nat) : Int) := of_decide_eq_true h2
      have hrr := hbR.at_ (show i < List.length x0.2.2.2.2 by omega)
      have hge := LA.elTo_get (w := (LA.insW x0.2.2.2.2 x1)) (l := (LA.leadS (LA.redS x0.2.2.2.2 x1)).toNat) (show i < List.length x0.2.2.2.2 by omega)
      have hrk : LA.VokB x0.2.2.2.1.toNat ((LA.elTo x0.2.2.2.2 (LA.insW x0.2.2.2.2 x1) (LA.leadS (LA.redS x0.2.2.2.2 x1)).toNat i).getD i []) := by rw [hge]; exact hrr.1
      have hrkl := hrk.1
      have hrkr := hrk.rng (LA.leadS (LA.redS x0.2.2.2.2 x1)).toNat
      refine wp_skip ?_
      refine then_normal ?_
      refine wp_seq ?_
      refine wp_block ?_
      refine wp_seq ?_
      replace h := at_open (σ' := ⟨[(0, aP 1 3), (4, aB false), (5, aS 5), (6, aI (LA.leadS (LA.redS x0.2.2.2.2 x1))), (7, aI ((LA.atTo (LA.insE x0.2.2.2.2 x1) (LA.leadS (LA.redS x0.2.2.2.2 x1)) i : Nat) : Int)), (30, aS 2), (31, aI ((List.length x0.2.2.2.2 : Nat) : Int)), (32, aI ((i : Nat) : Int)), (33, aB (decide (((i : Nat) : Int) < ((List.length x0.2.2.2.2 : Nat) : Int))))], [(1, oX 112 [cI x0.1, cI x0.2.1, cI x0.2.2.1, cI x0.2.2.2.1, .sl 2]), (2, some (.op s22 (LA.elTo x0.2.2.2.2 (LA.insW x0.2.2.2.2 x1) (LA.leadS (LA.redS x0.2.2.2.2 x1)).toNat i) i [.sl 6])), (3, oP 1 (S__P_impl_Basis_insert_dec.hd us 0)), (5, oR (.int 3) (LA.insW x0.2.2.2.2 x1)), (6, oR (.int 3) ((LA.elTo x0.2.2.2.2 (LA.insW x0.2.2.2.2 x1) (LA.leadS (LA.redS x0.2.2.2.2 x1)).toNat i).getD i []))]⟩) (ps := [i < List.length (LA.elTo x0.2.2.2.2 (LA.insW x0.2.2.2.2 x1) (LA.leadS (LA.redS x0.2.2.2.2 x1)).toNat i)]) 2 i [6] { ts := [0, 4, 5, 6, 7, 30, 31, 32, 33], os := [1, 2, 3, 5, 6] } h (by kernel_rfl) ⟨(by first | omega | (simp only [lsA]; omega) | (simp; done) | (simp; omega) | done), trivial⟩
      refine at_reg [] { ts := [0, 4, 5, 6, 7, 8, 9, 30, 31, 32], os := [1, 2, 3, 5, 6] } ⟨[(0, aP 1 3), (4, aB false), (5, aS 5), (6, aI (LA.leadS (LA.redS x0.2.2.2.2 x1))), (7, aI ((LA.atTo (LA.insE x0.2.2.2.2 x1) (LA.leadS (LA.redS x0.2.2.2.2 x1)) i : Nat) : Int)), (8, aI ((i : Nat) : Int)), (9, aS 6), (30, aS 2), (31, aI ((List.length x0.2.2.2.2 : Nat) : Int)), (32, aI ((i : Nat) : Int))], [(1, oX 112 [cI x0.1, cI x0.2.1, cI x0.2.2.1, cI x0.2.2.2.1, .sl 2]), (2, some (.op s22 (LA.elTo x0.2.2.2.2 (LA.insW x0.2.2.2.2 x1) (LA.leadS (LA.redS x0.2.2.2.2 x1)).toNat i) i [.sl 6])), (3, oP 1 (S__P_impl_Basis_insert_dec.hd us 0)), (5, oR (.int 3) (LA.insW x0.2.2.2.2 x1)), (6, oR (.int 3) ((LA.elTo x0.2.2.2.2 (LA.insW x0.2.2.2.2 x1) (LA.leadS (LA.redS x0.2.2.2.2 x1)).toNat i).getD i []))]⟩ [(0 : Int) ≤ ((i : Nat) : Int) ∧ ((i : Nat) : Int) < ((List.length (LA.elTo x0.2.2.2.2 (LA.insW x0.2.2.2.2 x1) (LA.leadS (LA.redS x0.2.2.2.2 x1)).toNat i) : Nat) : Int), i = i] gamOK hT h (by kernel_rfl) ⟨(by refine ⟨?_, ?_⟩ <;> (first | omega | (simp only [lsA]; omega) | (simp; done) | (simp; omega) | done)), rfl, trivial⟩ ?_
      intro a w h
      refine then_normal ?_
      refine wp_seq ?_
      refine wp_seq ?_
      refine at_regq [] { ts := [0, 4, 5, 6, 7, 8, 9, 10, 30, 31, 32], os := [1, 2, 3, 5, 6] } [(0 : Int) ≤ (LA.leadS (LA.redS x0.2.2.2.2 x1)) ∧ (LA.leadS (LA.redS x0.2.2.2.2 x1)) < ((List.length ((LA.elTo x0.2.2.2.2 (LA.insW x0.2.2.2.2 x1) (LA.leadS (LA.redS x0.2.2.2.2 x1)).toNat i).getD i []) : Nat) : Int), ((LA.leadS (LA.redS x0.2.2.2.2 x1))).toNat < List.length ((LA.elTo x0.2.2.2.2 (LA.insW x0.2.2.2.2 x1) (LA.leadS (LA.redS x0.2.2.2.2 x1)).toNat i).getD i [])] gamOK hT h (by kernel_rfl) ⟨(by refine ⟨?_, ?_⟩ <;> (first | omega | (simp only [lsA]; omega) | (simp; done) | (simp; omega) | done)), (by first | omega | (simp only [lsA]; omega) | (simp; done) | (simp; omega) | done), trivial⟩ ?_
      intro a w h
      refine then_normal ?_
      refine wp_seq ?_
      refine at_regq [] { ts := [0, 4, 5, 6, 7, 8, 9, 10, 30, 31, 32, 42], os := [1, 2, 3, 5, 6] } [] gamOK hT h (by kernel_rfl) trivial ?_
      intro a w h
      refine then_normal ?_
      refine at_test (!decide ((((LA.elTo x0.2.2.2.2 (LA.insW x0.2.2.2.2 x1) (LA.leadS (LA.redS x0.2.2.2.2 x1)).toNat i).getD i []).getD (((LA.leadS (LA.redS x0.2.2.2.2 x1))).toNat) 0) = 0)) h (by kernel_rfl) (fun h3 => ?_) (fun h3 => ?_)
      · replace h3 : ¬ ((((LA.elTo x0.2.2.2.2 (LA.insW x0.2.2.2.2 x1) (LA.leadS (LA.redS x0.2.2.2.2 x1)).toNat i).getD i []).getD (((LA.leadS (LA.redS x0.2.2.2.2 x1))).toNat) 0) = 0) := of_decide_eq_false (notT h3)
        refine at_regq [{}, {}, {}, { nw := true }] { ts := [0, 4, 5, 6, 7, 8, 9, 30, 31, 32], os := [1, 2, 3, 5, 6] } [I64 (1019 - (((LA.elTo x0.2.2.2.2 (LA.insW x0.2.2.2.2 x1) (LA.leadS (LA.redS x0.2.2.2.2 x1)).toNat i).getD i []).getD (((LA.leadS (LA.redS x0.2.2.2.2 x1))).toNat) 0)), (fun (x0 : (List Int)) (x1 : (List Int)) (x2 : Int) => Sh.fit s22 x0 ∧ Sh.fit s22 x1 ∧ addOK x0 x1 x2) ((LA.elTo x0.2.2.2.2 (LA.insW x0.2.2.2.2 x1) (LA.leadS (LA.redS x0.2.2.2.2 x1)).toNat i).getD i []) (LA.insW x0.2.2.2.2 x1) (1019 - (((LA.elTo x0.2.2.2.2 (LA.insW x0.2.2.2.2 x1) (LA.leadS (LA.redS x0.2.2.2.2 x1)).toNat i).getD i []).getD (((LA.leadS (LA.redS x0.2.2.2.2 x1))).toNat) 0))] gamOK hT h (by kernel_rfl) ⟨⟨by first | omega | (simp only [lsA]; omega) | (simp; done) | (simp; omega) | done, by first | omega | (simp only [lsA]; omega) | (simp; done) | (simp; omega) | done⟩, (by exact ⟨fitV hrk (by omega), fitV hwk (by omega), addOK_of hrk hwk (by omega)⟩), trivial⟩ ?_
        intro a w h
        refine then_normal ?_
        refine wp_seq ?_
        refine at_regq [] { ts := [0, 4, 5, 6, 7, 8, 30, 31, 32, 51], os := [1, 2, 3, 5, 6] } [(fun (x0 : (List Int)) => Sh.fit s22 x0) (LA.addS ((LA.elTo x0.2.2.2.2 (LA.insW x0.2.2.2.2 x1) (LA.leadS (LA.redS x0.2.2.2.2 x1)).toNat i).getD i []) (LA.insW x0.2.2.2.2 x1) (1019 - (((LA.elTo x0.2.2.2.2 (LA.insW x0.2.2.2.2 x1) (LA.leadS (LA.redS x0.2.2.2.2 x1)).toNat i).getD i []).getD (((LA.leadS (LA.redS x0.2.2.2.2 x1))).toNat) 0)))] gamOK hT h (by kernel_rfl) ⟨(by first | exact fitV hrd (by omega) | exact fitV hrk (by omega) | exact Sh.fit_len rfl (by rw [LA.addS_len (by omega)]; omega)), trivial⟩ ?_
        intro a w h
        refine then_normal ?_
        refine at_test (decide ((LA.leadS (LA.addS ((LA.elTo x0.2.2.2.2 (LA.insW x0.2.2.2.2 x1) (LA.leadS (LA.redS x0.2.2.2.2 x1)).toNat i).getD i []) (LA.insW x0.2.2.2.2 x1) (1019 - (((LA.elTo x0.2.2.2.2 (LA.insW x0.2.2.2.2 x1) (LA.leadS (LA.redS x0.2.2.2.2 x1)).toNat i).getD i []).getD (((LA.leadS (LA.redS x0.2.2.2.2 x1))).toNat) 0)))) < (LA.leadS (LA.redS x0.2.2.2.2 x1)))) h (by kernel_rfl) (fun h4 => ?_) (fun h4 => ?_)
        · replace h4 : (LA.leadS (LA.addS ((LA.elTo x0.2.2.2.2 (LA.insW x0.2.2.2.2 x1) (LA.leadS (LA.redS x0.2.2.2.2 x1)).toNat i).getD i []) (LA.insW x0.2.2.2.2 x1) (1019 - (((LA.elTo x0.2.2.2.2 (LA.insW x0.2.2.2.2 x1) (LA.leadS (LA.redS x0.2.2.2.2 x1)).toNat i).getD i []).getD (((LA.leadS (LA.redS x0.2.2.2.2 x1))).toNat) 0)))) < (LA.leadS (LA.redS x0.2.2.2.2 x1)) := of_decide_eq_true h4
          refine at_regq [{}, { nw := true }] { ts := [0, 4, 5, 6, 7, 30, 31, 32], os := [1, 2, 3, 5, 6] } [I64 (((i : Nat) : Int) + 1)] gamOK hT h (by kernel_rfl) ⟨⟨by first | omega | (simp only [lsA]; omega) | (simp; done) | (simp; omega) | done, by first | omega | (simp only [lsA]; omega) | (simp; done) | (simp; omega) | done⟩, trivial⟩ ?_
          intro a w h
          refine in_normal ?_
          refine then_normal ?_
          refine at_regq [{ nw := true }] { ts := [0, 4, 5, 6, 7, 30, 31, 32], os := [1, 2, 3, 5, 6] } [I64 (((i : Nat) : Int) + 1)] gamOK hT h (by kernel_rfl) ⟨⟨by first | omega | (simp only [lsA]; omega) | (simp; done) | (simp; omega) | done, by first | omega | (simp only [lsA]; omega) | (simp; done) | (simp; omega) | done⟩, trivial⟩ ?_
          intro a w h
          replace h := at_shut (σ' := ⟨[(0, aP 1 3), (4, aB false), (5, aS 5), (6, aI (LA.leadS (LA.redS x0.2.2.2.2 x1))), (7, aI (((i : Nat) : Int) + 1)), (30, aS 2), (31, aI ((List.length x0.2.2.2.2 : Nat) : Int)), (32, aI (((i : Nat) : Int) + 1))], [(1, oX 112 [cI x0.1, cI x0.2.1, cI x0.2.2.1, cI x0.2.2.2.1, .sl 2]), (2, oR s22 (List.set (LA.elTo x0.2.2.2.2 (LA.insW x0.2.2.2.2 x1) (LA.leadS (LA.redS x0.2.2.2.2 x1)).toNat i) i (LA.addS ((LA.elTo x0.2.2.2.2 (LA.insW x0.2.2.2.2 x1) (LA.leadS (LA.redS x0.2.2.2.2 x1)).toNat i).getD i []) (LA.insW x0.2.2.2.2 x1) (1019 - (((LA.elTo x0.2.2.2.2 (LA.insW x0.2.2.2.2 x1) (LA.leadS (LA.redS x0.2.2.2.2 x1)).toNat i).getD i []).getD (((LA.leadS (LA.redS x0.2.2.2.2 x1))).toNat) 0))))), (3, oP 1 (S__P_impl_Basis_insert_dec.hd us 0)), (5, oR (.int 3) (LA.insW x0.2.2.2.2 x1))]⟩) (ps := []) 2 { ts := [0, 4, 5, 6, 7, 30, 31, 32], os := [1, 2, 3, 5] } h (by kernel_rfl) trivial
          replace h := at_out (σ' := ⟨[(0, aP 1 3), (4, aB false), (5, aS 5), (6, aI (LA.leadS (LA.redS x0.2.2.2.2 x1))), (7, aI (((i : Nat) : Int) + 1)), (30, aS 2), (31, aI ((List.length x0.2.2.2.2 : Nat) : Int)), (32, aI (((i : Nat) : Int) + 1))], [(1, oX 112 [cI x0.1, cI x0.2.1, cI x0.2.2.1, cI x0.2.2.2.1, .sl 2]), (2, oR s22 (List.set (LA.elTo x0.2.2.2.2 (LA.insW x0.2.2.2.2 x1) (LA.leadS (LA.redS x0.2.2.2.2 x1)).toNat i) i (LA.addS ((LA.elTo x0.2.2.2.2 (LA.insW x0.2.2.2.2 x1) (LA.leadS (LA.redS x0.2.2.2.2 x1)).toNat i).getD i []) (LA.insW x0.2.2.2.2 x1) (1019 - (((LA.elTo x0.2.2.2.2 (LA.insW x0.2.2.2.2 x1) (LA.leadS (LA.redS x0.2.2.2.2 x1)).toNat i).getD i []).getD (((LA.leadS (LA.redS x0.2.2.2.2 x1))).toNat) 0))))), (3, oP 1 (S__P_impl_Basis_insert_dec.hd us 0)), (5, oR (.int 3) (LA.insW x0.2.2.2.2 x1))]⟩) { ts := [0, 4, 5, 6, 7, 30, 31, 32], os := [1, 2, 3, 5] } h (by kernel_rfl)
          exact ⟨i + 1, at_eq h (st_congr4 (fun (d0 : List (List Int)) (d1 : List Int) (d2 : Int) (d3 : Int) => (⟨[(0, aP 1 3), (4, aB false), (5, aS 5), (6, aI (LA.leadS (LA.redS x0.2.2.2.2 x1))), (7, aI d2), (30, aS 2), (31, aI ((List.length x0.2.2.2.2 : Nat) : Int)), (32, aI d3)], [(1, oX 112 [cI x0.1, cI x0.2.1, cI x0.2.2.1, cI x0.2.2.2.1, .sl 2]), (2, oR s22 d0), (3, oP 1 (S__P_impl_Basis_insert_dec.hd us 0)), (5, oR (.int 3) d1)]⟩ : St)) (show ((List.set (LA.elTo x0.2.2.2.2 (LA.insW x0.2.2.2.2 x1) (LA.leadS (LA.redS x0.2.2.2.2 x1)).toNat i) i (LA.addS ((LA.elTo x0.2.2.2.2 (LA.insW x0.2.2.2.2 x1) (LA.leadS (LA.redS x0.2.2.2.2 x1)).toNat i).getD i []) (LA.insW x0.2.2.2.2 x1) (1019 - (((LA.elTo x0.2.2.2.2 (LA.insW x0.2.2.2.2 x1) (LA.leadS (LA.redS x0.2.2.2.2 x1)).toNat i).getD i []).getD (((LA.leadS (LA.redS x0.2.2.2.2 x1))).toNat) 0)))) : List (List Int)) = (LA.elTo x0.2.2.2.2 (LA.insW x0.2.2.2.2 x1) (LA.leadS (LA.redS x0.2.2.2.2 x1)).toNat (i + 1)) from by first | with_reducible rfl | (first | exact LA.ins_b1 (by omega) (by assumption) | exact LA.ins_b0 (by omega) (by omega)) | rfl) (show ((LA.insW x0.2.2.2.2 x1) : List Int) = (LA.insW x0.2.2.2.2 x1) from by first | with_reducible rfl | (rfl) | rfl) (show (((i : Nat) : Int) + 1 : Int) = ((LA.atTo (LA.insE x0.2.2.2.2 x1) (LA.leadS (LA.redS x0.2.2.2.2 x1)) (i + 1) : Nat) : Int) from by first | with_reducible rfl | (first | (rw [LA.atTo_y (LA.at_b1 (by omega) (by assumption)) (by assumption)]; omega) | (rw [LA.atTo_y (LA.at_b0 (by omega) (by omega)) (by assumption)]; omega) | (rw [LA.atTo_n (LA.at_b1 (by omega) (by assumption)) (by assumption)]; done) | (rw [LA.atTo_n (LA.at_b0 (by omega) (by omega)) (by assumption)]; done)) | rfl) (show (((i : Nat) : Int) + 1 : Int) = (((i + 1) : Nat) : Int) from by first | with_reducible rfl | (omega) | rfl)), (by omega), (by omega)⟩
        · replace h4 : ¬ ((LA.leadS (LA.addS ((LA.elTo x0.2.2.2.2 (LA.insW x0.2.2.2.2 x1) (LA.leadS (LA.redS x0.2.2.2.2 x1)).toNat i).getD i []) (LA.insW x0.2.2.2.2 x1) (1019 - (((LA.elTo x0.2.2.2.2 (LA.insW x0.2.2.2.2 x1) (LA.leadS (LA.redS x0.2.2.2.2 x1)).toNat i).getD i []).getD (((LA.leadS (LA.redS x0.2.2.2.2 x1))).toNat) 0)))) < (LA.leadS (LA.redS x0.2.2.2.2 x1))) := of_decide_eq_false h4
          refine wp_skip ?_
          refine in_normal ?_
          refine then_normal ?_
          refine at_regq [{ nw := true }] { ts := [0, 4, 5, 6, 7, 30, 31, 32], os := [1, 2, 3, 5, 6] } [I64 (((i : Nat) : Int) + 1)] gamOK hT h (by kernel_rfl) ⟨⟨by first | omega | (simp only [lsA]; omega) | (simp; done) | (simp; omega) | done, by first | omega | (simp only [lsA]; omega) | (simp; done) | (simp; omega) | done⟩, trivial⟩ ?_
          intro a w h
          replace h := at_shut (σ' := ⟨[(0, aP 1 3), (4, aB false), (5, aS 5), (6, aI (LA.leadS (LA.redS x0.2.2.2.2 x1))), (7, aI ((LA.atTo (LA.insE x0.2.2.2.2 x1) (LA.leadS (LA.redS x0.2.2.2.2 x1)) i : Nat) : Int)), (30, aS 2), (31, aI ((List.length x0.2.2.2.2 : Nat) : Int)), (32, aI (((i : Nat) : Int) + 1))], [(1, oX 112 [cI x0.1, cI x0.2.1, cI x0.2.2.1, cI x0.2.2.2.1, .sl 2]), (2, oR s22 (List.set (LA.elTo x0.2.2.2.2 (LA.insW x0.2.2.2.2 x1) (LA.leadS (LA.redS x0.2.2.2.2 x1)).toNat i) i (LA.addS ((LA.elTo x0.2.2.2.2 (LA.insW x0.2.2.2.2 x1) (LA.leadS (LA.redS x0.2.2.2.2 x1)).toNat i).getD i []) (LA.insW x0.2.2.2.2 x1) (1019 - (((LA.elTo x0.2.2.2.2 (LA.insW x0.2.2.2.2 x1) (LA.leadS (LA.redS x0.2.2.2.2 x1)).toNat i).getD i []).getD (((LA.leadS (LA.redS x0.2.2.2.2 x1))).toNat) 0))))), (3, oP 1 (S__P_impl_Basis_insert_dec.hd us 0)), (5, oR (.int 3) (LA.insW x0.2.2.2.2 x1))]⟩) (ps := []) 2 { ts := [0, 4, 5, 6, 7, 30, 31, 32], os := [1, 2, 3, 5] } h (by kernel_rfl) trivial
          replace h := at_out (σ' := ⟨[(0, aP 1 3), (4, aB false), (5, aS 5), (6, aI (LA.leadS (LA.redS x0.2.2.2.2 x1))), (7, aI ((LA.atTo (LA.insE x0.2.2.2.2 x1) (LA.leadS (LA.redS x0.2.2.2.2 x1)) i : Nat) : Int)), (30, aS 2), (31, aI ((List.length x0.2.2.2.2 : Nat) : Int)), (32, aI (((i : Nat) : Int) + 1))], [(1, oX 112 [cI x0.1, cI x0.2.1, cI x0.2.2.1, cI x0.2.2.2.1, .sl 2]), (2, oR s22 (List.set (LA.elTo x0.2.2.2.2 (LA.insW x0.2.2.2.2 x1) (LA.leadS (LA.redS x0.2.2.2.2 x1)).toNat i) i (LA.addS ((LA.elTo x0.2.2.2.2 (LA.insW x0.2.2.2.2 x1) (LA.leadS (LA.redS x0.2.2.2.2 x1)).toNat i).getD i []) (LA.insW x0.2.2.2.2 x1) (1019 - (((LA.elTo x0.2.2.2.2 (LA.insW x0.2.2.2.2 x1) (LA.leadS (LA.redS x0.2.2.2.2 x1)).toNat i).getD i []).getD (((LA.leadS (LA.redS x0.2.2.2.2 x1))).toNat) 0))))), (3, oP 1 (S__P_impl_Basis_insert_dec.hd us 0)), (5, oR (.int 3) (LA.insW x0.2.2.2.2 x1))]⟩) { ts := [0, 4, 5, 6, 7, 30, 31, 32], os := [1, 2, 3, 5] } h (by kernel_rfl)
          exact ⟨i + 1, at_eq h (st_congr4 (fun (d0 : List (List Int)) (d1 : List Int) (d2 : Int) (d3 : Int) => (⟨[(0, aP 1 3), (4, aB false), (5, aS 5), (6, aI (LA.leadS (LA.redS x0.2.2.2.2 x1))), (7, aI d2), (30, aS 2), (31, aI ((List.length x0.2.2.2.2 : Nat) : Int)), (32, aI d3)], [(1, oX 112 [cI x0.1, cI x0.2.1, cI x0.2.2.1, cI x0.2.2.2.1, .sl 2]), (2, oR s22 d0), (3, oP 1 (S__P_impl_Basis_insert_dec.hd us 0)), (5, oR (.int 3) d1)]⟩ : St)) (show ((List.set (LA.elTo x0.2.2.2.2 (LA.insW x0.2.2.2.2 x1) (LA.leadS (LA.redS x0.2.2.2.2 x1)).toNat i) i (LA.addS ((LA.elTo x0.2.2.2.2 (LA.insW x0.2.2.2.2 x1) (LA.leadS (LA.redS x0.2.2.2.2 x1)).toNat i).getD i []) (LA.insW x0.2.2.2.2 x1) (1019 - (((LA.elTo x0.2.2.2.2 (LA.insW x0.2.2.2.2 x1) (LA.leadS (LA.redS x0.2.2.2.2 x1)).toNat i).getD i []).getD (((LA.leadS (LA.redS x0.2.2.2.2 x1))).toNat) 0)))) : List (List Int)) = (LA.elTo x0.2.2.2.2 (LA.insW x0.2.2.2.2 x1) (LA.leadS (LA.redS x0.2.2.2.2 x1)).toNat (i + 1)) from by first | with_reducible rfl | (first | exact LA.ins_b1 (by omega) (by assumption) | exact LA.ins_b0 (by omega) (by omega)) | rfl) (show ((LA.insW x0.2.2.2.2 x1) : List Int) = (LA.insW x0.2.2.2.2 x1) from by first | with_reducible rfl | (rfl) | rfl) (show (((LA.atTo (LA.insE x0.2.2.2.2 x1) (LA.leadS (LA.redS x0.2.2.2.2 x1)) i : Nat) : Int) : Int) = ((LA.atTo (LA.insE x0.2.2.2.2 x1) (LA.leadS (LA.redS x0.2.2.2.2 x1)) (i + 1) : Nat) : Int) from by first | with_reducible rfl | (first | (rw [LA.atTo_y (LA.at_b1 (by omega) (by assumption)) (by assumption)]; omega) | (rw [LA.atTo_y (LA.at_b0 (by omega) (by omega)) (by assumption)]; omega) | (rw [LA.atTo_n (LA.at_b1 (by omega) (by assumption)) (by assumption)]; done) | (rw [LA.atTo_n (LA.at_b0 (by omega) (by omega)) (by assumption)]; done)) | rfl) (show (((i : Nat) : Int) + 1 : Int) = (((i + 1) : Nat) : Int) from by first | with_reducible rfl | (omega) | rfl)), (by omega), (by omega)⟩
      · replace h3 : (((LA.elTo x0.2.2.2.2 (LA.insW x0.2.2.2.2 x1) (LA.leadS (LA.redS x0.2.2.2.2 x1)).toNat i).getD i []).getD (((LA.leadS (LA.redS x0.2.2.2.2 x1))).toNat) 0) = 0 := of_decide_eq_true (notF h3)
        refine wp_skip ?_
        refine then_normal ?_
        refine wp_seq ?_
        refine at_regq [] { ts := [0, 4, 5, 6, 7, 8, 30, 31, 32, 51], os := [1, 2, 3, 5, 6] } [(fun (x0 : (List Int)) => Sh.fit s22 x0) ((LA.elTo x0.2.2.2.2 (LA.insW x0.2.2.2.2 x1) (LA.leadS (LA.redS x0.2.2.2.2 x1)).toNat i).getD i [])] gamOK hT h (by kernel_rfl) ⟨(by first | exact fitV hrd (by omega) | exact fitV hrk (by omega) | exact Sh.fit_len rfl (by rw [LA.addS_len (by omega)]; omega)), trivial⟩ ?_
        intro a w h
        refine then_normal ?_
        refine at_test (decide ((LA.leadS ((LA.elTo x0.2.2.2.2 (LA.insW x0.2.2.2.2 x1) (LA.leadS (LA.redS x0.2.2.2.2 x1)).toNat i).getD i [])) < (LA.leadS (LA.redS x0.2.2.2.2 x1)))) h (by kernel_rfl) (fun h5 => ?_) (fun h5 => ?_)
        · replace h5 : (LA.leadS ((LA.elTo x0.2.2.2.2 (LA.insW x0.2.2.2.2 x1) (LA.leadS (LA.redS x0.2.2.2.2 x1)).toNat i).getD i [])) < (LA.leadS (LA.redS x0.2.2.2.2 x1)) := of_decide_eq_true h5
          refine at_regq [{}, { nw := true }] { ts := [0, 4, 5, 6, 7, 30, 31, 32], os := [1, 2, 3, 5, 6] } [I64 (((i : Nat) : Int) + 1)] gamOK hT h (by kernel_rfl) ⟨⟨by first | omega | (simp only [lsA]; omega) | (simp; done) | (simp; omega) | done, by first | omega | (simp only [lsA]; omega) | (simp; done) | (simp; omega) | done⟩, trivial⟩ ?_
          intro a w h
          refine in_normal ?_
          refine then_normal ?_
          refine at_regq [{ nw := true }] { ts := [0, 4, 5, 6, 7, 30, 31, 32], os := [1, 2, 3, 5, 6] } [I64 (((i : Nat) : Int) + 1)] gamOK hT h (by kernel_rfl) ⟨⟨by first | omega | (simp only [lsA]; omega) | (simp; done) | (simp; omega) | done, by first | omega | (simp only [lsA]; omega) | (simp; done) | (simp; omega) | done⟩, trivial⟩ ?_
          intro a w h
          replace h := at_shut (σ' := ⟨[(0, aP 1 3), (4, aB false), (5, aS 5), (6, aI (LA.leadS (LA.redS x0.2.2.2.2 x1))), (7, aI (((i : Nat) : Int) + 1)), (30, aS 2), (31, aI ((List.length x0.2.2.2.2 : Nat) : Int)), (32, aI (((i : Nat) : Int) + 1))], [(1, oX 112 [cI x0.1, cI x0.2.1, cI x0.2.2.1, cI x0.2.2.2.1, .sl 2]), (2, oR s22 (List.set (LA.elTo x0.2.2.2.2 (LA.insW x0.2.2.2.2 x1) (LA.leadS (LA.redS x0.2.2.2.2 x1)).toNat i) i ((LA.elTo x0.2.2.2.2 (LA.insW x0.2.2.2.2 x1) (LA.leadS (LA.redS x0.2.2.2.2 x1)).toNat i).getD i []))), (3, oP 1 (S__P_impl_Basis_insert_dec.hd us 0)), (5, oR (.int 3) (LA.insW x0.2.2.2.2 x1))]⟩) (ps := []) 2 { ts := [0, 4, 5, 6, 7, 30, 31, 32], os := [1, 2, 3, 5] } h (by kernel_rfl) trivial
          replace h := at_out (σ' := ⟨[(0, aP 1 3), (4, aB false), (5, aS 5), (6, aI (LA.leadS (LA.redS x0.2.2.2.2 x1))), (7, aI (((i : Nat) : Int) + 1)), (30, aS 2), (31, aI ((List.length x0.2.2.2.2 : Nat) : Int)), (32, aI (((i : Nat) : Int) + 1))], [(1, oX 112 [cI x0.1, cI x0.2.1, cI x0.2.2.1, cI x0.2.2.2.1, .sl 2]), (2, oR s22 (List.set (LA.elTo x0.2.2.2.2 (LA.insW x0.2.2.2.2 x1) (LA.leadS (LA.redS x0.2.2.2.2 x1)).toNat i) i ((LA.elTo x0.2.2.2.2 (LA.insW x0.2.2.2.2 x1) (LA.leadS (LA.redS x0.2.2.2.2 x1)).toNat i).getD i []))), (3, oP 1 (S__P_impl_Basis_insert_dec.hd us 0)), (5, oR (.int 3) (LA.insW x0.2.2.2.2 x1))]⟩) { ts := [0, 4, 5, 6, 7, 30, 31, 32], os := [1, 2, 3, 5] } h (by kernel_rfl)
          exact ⟨i + 1, at_eq h (st_congr4 (fun (d0 : List (List Int)) (d1 : List Int) (d2 : Int) (d3 : Int) => (⟨[(0, aP 1 3), (4, aB false), (5, aS 5), (6, aI (LA.leadS (LA.redS x0.2.2.2.2 x1))), (7, aI d2), (30, aS 2), (31, aI ((List.length x0.2.2.2.2 : Nat) : Int)), (32, aI d3)], [(1, oX 112 [cI x0.1, cI x0.2.1, cI x0.2.2.1, cI x0.2.2.2.1, .sl 2]), (2, oR s22 d0), (3, oP 1 (S__P_impl_Basis_insert_dec.hd us 0)), (5, oR (.int 3) d1)]⟩ : St)) (show ((List.set (LA.elTo x0.2.2.2.2 (LA.insW x0.2.2.2.2 x1) (LA.leadS (LA.redS x0.2.2.2.2 x1)).toNat i) i ((LA.elTo x0.2.2.2.2 (LA.insW x0.2.2.2.2 x1) (LA.leadS (LA.redS x0.2.2.2.2 x1)).toNat i).getD i [])) : List (List Int)) = (LA.elTo x0.2.2.2.2 (LA.insW x0.2.2.2.2 x1) (LA.leadS (LA.redS x0.2.2.2.2 x1)).toNat (i + 1)) from by first | with_reducible rfl | (first | exact LA.ins_b1 (by omega) (by assumption) | exact LA.ins_b0 (by omega) (by omega)) | rfl) (show ((LA.insW x0.2.2.2.2 x1) : List Int) = (LA.insW x0.2.2.2.2 x1) from by first | with_reducible rfl | (rfl) | rfl) (show (((i : Nat) : Int) + 1 : Int) = ((LA.atTo (LA.insE x0.2.2.2.2 x1) (LA.leadS (LA.redS x0.2.2.2.2 x1)) (i + 1) : Nat) : Int) from by first | with_reducible rfl | (first | (rw [LA.atTo_y (LA.at_b1 (by omega) (by assumption)) (by assumption)]; omega) | (rw [LA.atTo_y (LA.at_b0 (by omega) (by omega)) (by assumption)]; omega) | (rw [LA.atTo_n (LA.at_b1 (by omega) (by assumption)) (by assumption)]; done) | (rw [LA.atTo_n (LA.at_b0 (by omega) (by omega)) (by assumption)]; done)) | rfl) (show (((i : Nat) : Int) + 1 : Int) = (((i + 1) : Nat) : Int) from by first | with_reducible rfl | (omega) | rfl)), (by omega), (by omega)⟩
        · replace h5 : ¬ ((LA.leadS ((LA.elTo x0.2.2.2.2 (LA.insW x0.2.2.2.2 x1) (LA.leadS (LA.redS x0.2.2.2.2 x1)).toNat i).getD i [])) < (LA.leadS (LA.redS x0.2.2.2.2 x1))) := of_decide_eq_false h5
          refine wp_skip ?_
          refine in_normal ?_
          refine then_normal ?_
          refine at_regq [{ nw := true }] { ts := [0, 4, 5, 6, 7, 30, 31, 32], os := [1, 2, 3, 5, 6] } [I64 (((i : Nat) : Int) + 1)] gamOK hT h (by kernel_rfl) ⟨⟨by first | omega | (simp only [lsA]; omega) | (simp; done) | (simp; omega) | done, by first | omega | (simp only [lsA]; omega) | (simp; done) | (simp; omega) | done⟩, trivial⟩ ?_
          intro a w h
          replace h := at_shut (σ' := ⟨[(0, aP 1 3), (4, aB false), (5, aS 5), (6, aI (LA.leadS (LA.redS x0.2.2.2.2 x1))), (7, aI ((LA.atTo (LA.insE x0.2.2.2.2 x1) (LA.leadS (LA.redS x0.2.2.2.2 x1)) i : Nat) : Int)), (30, aS 2), (31, aI ((List.length x0.2.2.2.2 : Nat) : Int)), (32, aI (((i : Nat) : Int) + 1))], [(1, oX 112 [cI x0.1, cI x0.2.1, cI x0.2.2.1, cI x0.2.2.2.1, .sl 2]), (2, oR s22 (List.set (LA.elTo x0.2.2.2.2 (LA.insW x0.2.2.2.2 x1) (LA.leadS (LA.redS x0.2.2.2.2 x1)).toNat i) i ((LA.elTo x0.2.2.2.2 (LA.insW x0.2.2.2.2 x1) (LA.leadS (LA.redS x0.2.2.2.2 x1)).toNat i).getD i []))), (3, oP 1 (S__P_impl_Basis_insert_dec.hd us 0)), (5, oR (.int 3) (LA.insW x0.2.2.2.2 x1))]⟩) (ps := []) 2 { ts := [0, 4, 5, 6, 7, 30, 31, 32], os := [1, 2, 3, 5] } h (by kernel_rfl) trivial
          replace h := at_out (σ' := ⟨[(0, aP 1 3), (4, aB false), (5, aS 5), (6, aI (LA.leadS (LA.redS x0.2.2.2.2 x1))), (7, aI ((LA.atTo (LA.insE x0.2.2.2.2 x1) (LA.leadS (LA.redS x0.2.2.2.2 x1)) i : Nat) : Int)), (30, aS 2), (31, aI ((List.length x0.2.2.2.2 : Nat) : Int)), (32, aI (((i : Nat) : Int) + 1))], [(1, oX 112 [cI x0.1, cI x0.2.1, cI x0.2.2.1, cI x0.2.2.2.1, .sl 2]), (2, oR s22 (List.set (LA.elTo x0.2.2.2.2 (LA.insW x0.2.2.2.2 x1) (LA.leadS (LA.redS x0.2.2.2.2 x1)).toNat i) i ((LA.elTo x0.2.2.2.2 (LA.insW x0.2.2.2.2 x1) (LA.leadS (LA.redS x0.2.2.2.2 x1)).toNat i).getD i []))), (3, oP 1 (S__P_impl_Basis_insert_dec.hd us 0)), (5, oR (.int 3) (LA.insW x0.2.2.2.2 x1))]⟩) { ts := [0, 4, 5, 6, 7, 30, 31, 32], os := [1, 2, 3, 5] } h (by kernel_rfl)
          exact ⟨i + 1, at_eq h (st_congr4 (fun (d0 : List (List Int)) (d1 : List Int) (d2 : Int) (d3 : Int) => (⟨[(0, aP 1 3), (4, aB false), (5, aS 5), (6, aI (LA.leadS (LA.redS x0.2.2.2.2 x1))), (7, aI d2), (30, aS 2), (31, aI ((List.length x0.2.2.2.2 : Nat) : Int)), (32, aI d3)], [(1, oX 112 [cI x0.1, cI x0.2.1, cI x0.2.2.1, cI x0.2.2.2.1, .sl 2]), (2, oR s22 d0), (3, oP 1 (S__P_impl_Basis_insert_dec.hd us 0)), (5, oR (.int 3) d1)]⟩ : St)) (show ((List.set (LA.elTo x0.2.2.2.2 (LA.insW x0.2.2.2.2 x1) (LA.leadS (LA.redS x0.2.2.2.2 x1)).toNat i) i ((LA.elTo x0.2.2.2.2 (LA.insW x0.2.2.2.2 x1) (LA.leadS (LA.redS x0.2.2.2.2 x1)).toNat i).getD i [])) : List (List Int)) = (LA.elTo x0.2.2.2.2 (LA.insW x0.2.2.2.2 x1) (LA.leadS (LA.redS x0.2.2.2.2 x1)).toNat (i + 1)) from by first | with_reducible rfl | (first | exact LA.ins_b1 (by omega) (by assumption) | exact LA.ins_b0 (by omega) (by omega)) | rfl) (show ((LA.insW x0.2.2.2.2 x1) : List Int) = (LA.insW x0.2.2.2.2 x1) from by first | with_reducible rfl | (rfl) | rfl) (show (((LA.atTo (LA.insE x0.2.2.2.2 x1) (LA.leadS (LA.redS x0.2.2.2.2 x1)) i : Nat) : Int) : Int) = ((LA.atTo (LA.insE x0.2.2.2.2 x1) (LA.leadS (LA.redS x0.2.2.2.2 x1)) (i + 1) : Nat) : Int) from by first | with_reducible rfl | (first | (rw [LA.atTo_y (LA.at_b1 (by omega) (by assumption)) (by assumption)]; omega) | (rw [LA.atTo_y (LA.at_b0 (by omega) (by omega)) (by assumption)]; omega) | (rw [LA.atTo_n (LA.at_b1 (by omega) (by assumption)) (by assumption)]; done) | (rw [LA.atTo_n (LA.at_b0 (by omega) (by omega)) (by assumption)]; done)) | rfl) (show (((i : Nat) : Int) + 1 : Int) = (((i + 1) : Nat) : Int) from by first | with_reducible rfl | (omega) | rfl)), (by omega), (by omega)⟩
    · replace h2 : ¬ (((i : Nat) : Int) < ((List.length x0.2.2.2.2 : Nat) : Int)) := of_decide_eq_false h2
      refine wp_exit ?_
      refine then_exit ?_
      replace h := at_out (σ' := ⟨[(0, aP 1 3), (4, aB false), (5, aS 5), (7, aI ((LA.atTo (LA.insE x0.2.2.2.2 x1) (LA.leadS (LA.redS x0.2.2.2.2 x1)) i : Nat) : Int))], [(1, oX 112 [cI x0.1, cI x0.2.1, cI x0.2.2.1, cI x0.2.2.2.1, .sl 2]), (2, oR s22 (LA.elTo x0.2.2.2.2 (LA.insW x0.2.2.2.2 x1) (LA.leadS (LA.redS x0.2.2.2.2 x1)).toNat i)), (3, oP 1 (S__P_impl_Basis_insert_dec.hd us 0)), (5, oR (.int 3) (LA.insW x0.2.2.2.2 x1))]⟩) { ts := [0, 4, 5, 7], os := [1, 2, 3, 5] } h (by kernel_rfl)
      replace h := at_eq (σ' := ⟨[(0, aP 1 3), (4, aB false), (5, aS 5), (7, aI ((LA.atTo (LA.insE x0.2.2.2.2 x1) (LA.leadS (LA.redS x0.2.2.2.2 x1)) (List.length x0.2.2.2.2) : Nat) : Int))], [(1, oX 112 [cI x0.1, cI x0.2.1, cI x0.2.2.1, cI x0.2.2.2.1, .sl 2]), (2, oR s22 (LA.insE x0.2.2.2.2 x1)), (3, oP 1 (S__P_impl_Basis_insert_dec.hd us 0)), (5, oR (.int 3) (LA.insW x0.2.2.2.2 x1))]⟩) h (st_congr2 (fun (d0 : List (List Int)) (d1 : Int) => (⟨[(0, aP 1 3), (4, aB false), (5, aS 5), (7, aI d1)], [(1, oX 112 [cI x0.1, cI x0.2.1, cI x0.2.2.1, cI x0.2.2.2.1, .sl 2]), (2, oR s22 d0), (3, oP 1 (S__P_impl_Basis_insert_dec.hd us 0)), (5, oR (.int 3) (LA.insW x0.2.2.2.2 x1))]⟩ : St)) (show ((LA.elTo x0.2.2.2.2 (LA.insW x0.2.2.2.2 x1) (LA.leadS (LA.redS x0.2.2.2.2 x1)).toNat i) : List (List Int)) = (LA.insE x0.2.2.2.2 x1) from by first | with_reducible rfl | (exact LA.elTo_all (by omega)) | rfl) (show (((LA.atTo (LA.insE x0.2.2.2.2 x1) (LA.leadS (LA.redS x0.2.2.2.2 x1)) i : Nat) : Int) : Int) = ((LA.atTo (LA.insE x0.2.2.2.2 x1) (LA.leadS (LA.redS x0.2.2.2.2 x1)) (List.length x0.2.2.2.2) : Nat) : Int) from by first | with_reducible rfl | (rw [show i = List.length x0.2.2.2.2 by omega]) | rfl))
      have hal := LA.atTo_le (LA.insE x0.2.2.2.2 x1) (LA.leadS (LA.redS x0.2.2.2.2 x1)) (List.length x0.2.2.2.2)
      refine then_exit ?_
      refine in_hit ?_
      refine then_normal ?_
      refine wp_seq ?_
      refine at_reg [{}, {}, {}, {}, {}, {}, {}, { ids := [7] }, { ids := [8] }] { ts := [4], os := [1, 3, 8] } ⟨[(4, aB false)], [(1, oX 112 [cI x0.1, cI x0.2.1, cI x0.2.2.1, cI x0.2.2.2.1, .sl 8]), (3, oP 1 (S__P_impl_Basis_insert_dec.hd us 0)), (8, oR s22 (D_slices_Insert_S_S_int_S_int_ (LA.insE x0.2.2.2.2 x1) ((LA.atTo (LA.insE x0.2.2.2.2 x1) (LA.leadS (LA.redS x0.2.2.2.2 x1)) (List.length x0.2.2.2.2) : Nat) : Int) ([(LA.insW x0.2.2.2.2 x1)])))]⟩ [(fun (x0 : List (List Int)) (x1 : Int) (x2 : List (List Int)) => (0 ≤ x1 ∧ x1 ≤ ((List.length x0 : Nat) : Int)) ∧ 0 < List.length x2 ∧ (List.length x0 + List.length x2) * 24 ≤ 140737488355328) (LA.insE x0.2.2.2.2 x1) ((LA.atTo (LA.insE x0.2.2.2.2 x1) (LA.leadS (LA.redS x0.2.2.2.2 x1)) (List.length x0.2.2.2.2) : Nat) : Int) ([(LA.insW x0.2.2.2.2 x1)])] gamOK hT h (by kernel_rfl) ⟨(by exact ⟨⟨by omega, by first | omega | (rw [show List.length (LA.insE x0.2.2.2.2 x1) = List.length x0.2.2.2.2 from by simp [LA.insE]]; omega)⟩, by simp, by simp [LA.insE]; omega⟩), trivial⟩ ?_
      intro a w h
      refine then_normal ?_
      refine wp_seq ?_
      refine at_regq [] { ts := [4], os := [1, 3, 8] } [] gamOK hT h (by kernel_rfl) trivial ?_
      intro a w h
      refine then_normal ?_
      refine wp_ret ?_
      exact at_returnI (S := S__P_impl_Basis_insert_dec) (x := (x0, x1, ())) [1, 2] [3] ((x0.1, (x0.2.1, (x0.2.2.1, (x0.2.2.2.1, (D_slices_Insert_S_S_int_S_int_ (LA.insE x0.2.2.2.2 x1) ((LA.atTo (LA.insE x0.2.2.2.2 x1) (LA.leadS (LA.redS x0.2.2.2.2 x1)) (List.length x0.2.2.2.2) : Nat) : Int) ([(LA.insW x0.2.2.2.2 x1)])))))), (x1, ())) (some (true, ())) [S__P_impl_Basis_insert_dec.hd us 0 = S__P_impl_Basis_insert_dec.hd us 0] hio h (by kernel_rfl) ⟨rfl, trivial⟩ (by first | rfl | exact congrArg (fun (z : T112) => (z, (x1, ()))) (show ((x0.1, (x0.2.1, (x0.2.2.1, (x0.2.2.2.1, (D_slices_Insert_S_S_int_S_int_ (LA.insE x0.2.2.2.2 x1) ((LA.atTo (LA.insE x0.2.2.2.2 x1) (LA.leadS (LA.redS x0.2.2.2.2 x1)) (List.length x0.2.2.2.2) : Nat) : Int) ([(LA.insW x0.2.2.2.2 x1)])))))) : T112) = insUD x0 x1 from by (unfold insUD insU; first | (rw [LA.insS_no (by assumption)]; done) | (rw [LA.insS_yes (by assumption)]; rfl)))) (fun z e => (Option.some.inj e) ▸ (congrArg (fun z => (z, ())) (show (true) = insDq x0 x1 from by (unfold insDq insD; first | (rw [LA.insS_no (by assumption)]; done) | (rw [LA.insS_yes (by assumption)]; done)))))

def S__P_impl_Decoder_add : Sum := { fid := 148, dom := [s112, s61], cod := [(.bool 4)], dp := true, fz := false, pre := fun x => (fun (x0 : T112) (x1 : T61) => Sh.fit s112 x0 ∧ Sh.fit s61 x1 ∧ validD x0 = true) x.1 x.2.1, g := fun x => ((addOKD x.1 x.2.1), ()), kinds := [(.bx 112 0), .rd], upd := fun x => (addUD x.1 x.2.1, (x.2.1, ())) }
def S__P_impl_Decoder_add_tab : List (Nat × Sum) := [(230, S_impl_IsValidPacket), (232, S_impl_PacketRow), (231, S__impl_Basis_reduce), (229, S_impl_LeadingIndex), (107, S_impl_InRange), (100010, S__P_impl_Basis_insert_dec)]
theorem S__P_impl_Decoder_add_ok : FnOK Try.prog 148 S__P_impl_Decoder_add := by
  refine at_enterI 48 [1, 2] [3] (fun us x => ⟨[(0, aP 1 0), (1, aG [cI x.2.1.1, .ro (.int 3) x.2.1.2.1, .ro (.int 3) x.2.1.2.2])], [(1, oX 112 [cI x.1.1, cI x.1.2.1, cI x.1.2.2.1, cI x.1.2.2.2.1, .sl 2]), (2, oR s22 x.1.2.2.2.2), (3, oP 1 (S__P_impl_Decoder_add.hd us 0))]⟩) Try.func148 rfl (by kernel_rfl) (fun us x => rfl) ?_
  rintro w0 Z0 us ⟨x0, x1, u⟩ L a w
  revert x0 x1
  intro (x0 : T112) (x1 : T61) hio hpre hlens h
  replace h : At w0 Z0 L 48 ⟨[(0, aP 1 0), (1, aG [cI x1.1, .ro (.int 3) x1.2.1, .ro (.int 3) x1.2.2])], [(1, oX 112 [cI x0.1, cI x0.2.1, cI x0.2.2.1, cI x0.2.2.2.1, .sl 2]), (2, oR s22 x0.2.2.2.2), (3, oP 1 (S__P_impl_Decoder_add.hd us 0))]⟩ a w := h
  replace hpre : (fun (x0 : T112) (x1 : T61) => Sh.fit s112 x0 ∧ Sh.fit s61 x1 ∧ validD x0 = true) x0 x1 := hpre
  have hl1 : List.length x0.2.2.2.2 ≤ 9223372036854775807 := hlens.1.2.2.2.2.1
  have hl2 : List.length x1.2.1 ≤ 9223372036854775807 := hlens.2.1.2.1.1
  have hl3 : List.length x1.2.2 ≤ 9223372036854775807 := hlens.2.1.2.2.1
  have hT : TabOK Try.prog S__P_impl_Decoder_add_tab := (.cons S_impl_IsValidPacket_ok (.cons S_impl_PacketRow_ok (.cons S__impl_Basis_reduce_ok (.cons S_impl_LeadingIndex_ok (.cons S_impl_InRange_ok (.cons S__P_impl_Basis_insert_dec_ok .nil))))))
  obtain ⟨hf0, hf1, hpx⟩ := hpre
  have hn0_1 : List.length x0.2.2.2.2 ≤ 1073741824 := hf0.2.2.2.2.1
  have hn1_2 : List.length x1.2.1 ≤ 1073741824 := hf1.2.1.1
  have hn1_3 : List.length x1.2.2 ≤ 1073741824 := hf1.2.2.1
  have hdv := validD_t hpx
  have hdr := hdv.1
  have hdw := hdv.2.2.1
  refine wp_seq ?_
  refine at_regq [{ ids := [4] }] { ts := [0, 3, 4], os := [1, 2, 3, 4] } [] gamOK hT h (by kernel_rfl) trivial ?_
  intro a w h
  refine then_normal ?_
  refine wp_seq ?_
  refine wp_seq ?_
  rcases Bool.eq_false_or_eq_true (!(validP x1 x0.2.1 x0.2.2.1)) with h1 | h1
  · skip
    have hzh1 : (validP x1 x0.2.1 x0.2.2.1) = false := notT h1
    refine at_anyq [{}, {}, {}, {}, {}, {}, {}, {}, {}, {}, { hint := some (aB true) }, {}, {}, {}, {}, {}, {}, {}, {}, {}] { ts := [0, 3, 4, 25], os := [1, 2, 3, 4] } [(fun (x0 : T61) (x1 : Int) (x2 : Int) => Sh.fit s61 x0) x1 x0.2.1 x0.2.2.1, (AV.p (.c (.v (.bool (!(validP x1 x0.2.1 x0.2.2.1))))) = AV.p (.c (.v (.bool true))))] gamOK hT mixed h (by kernel_rfl) ⟨(by exact hf1), hint_bool (h1), trivial⟩ ?_
    intro a w h
    refine then_normal ?_
    refine at_test true h (by kernel_rfl) (fun hh => ?_) (fun hh => nomatch hh)
    refine wp_seq ?_
    refine at_regq [] { ts := [0, 3, 4], os := [1, 2, 3, 4] } [] gamOK hT h (by kernel_rfl) trivial ?_
    intro a w h
    refine then_normal ?_
    refine wp_ret ?_
    refine then_ret ?_
    exact at_returnI (S := S__P_impl_Decoder_add) (x := (x0, x1, ())) [1, 2] [3] (x0, (x1, ())) (some (false, ())) [S__P_impl_Decoder_add.hd us 0 = S__P_impl_Decoder_add.hd us 0] hio h (by kernel_rfl) ⟨rfl, trivial⟩ (by first | rfl | exact congrArg (fun (z : T112) => (z, (x1, ()))) (show (x0 : T112) = addUD x0 x1 from by (first | (rw [addUD_no (addOKD_f (by first | (left; assumption) | (right; left; omega) | (right; right; assumption)))]; done) | (rw [addUD_yes hpx (addOKD_t (by assumption) (by omega) (by assumption))]; done)))) (fun z e => (Option.some.inj e) ▸ (congrArg (fun z => (z, ())) (show (false) = addOKD x0 x1 from by (first | exact (addOKD_f (by first | (left; assumption) | (right; left; omega) | (right; right; assumption))).symm | (rw [insDq_y hpx (by assumption) (by assumption)]; exact (addOKD_t (by assumption) (by omega) (by assumption)).symm)))))
  · skip
    have hzh1 : (validP x1 x0.2.1 x0.2.2.1) = true := notF h1
    have hvh1 := validP_n (notF h1)
    have hrw := addRow hpx (p := x1) (by first | exact notF h1 | exact h1)
    have hrd := LA.redS_rng hrw.1.2 hrw.2
    have hw0 := hrw.1.1
    have hrl := hrw.2.1
    rw [List.length_append] at hrl
    refine at_anyq [{}, {}, {}, {}, {}, {}, {}, {}, {}, {}, { hint := some (aB false) }, {}, {}, {}, {}, {}, {}, {}, {}, {}] { ts := [0, 3, 4, 25], os := [1, 2, 3, 4] } [(fun (x0 : T61) (x1 : Int) (x2 : Int) => Sh.fit s61 x0) x1 x0.2.1 x0.2.2.1, (AV.p (.c (.v (.bool (!(validP x1 x0.2.1 x0.2.2.1))))) = AV.p (.c (.v (.bool false))))] gamOK hT mixed h (by kernel_rfl) ⟨(by exact hf1), hint_bool (h1), trivial⟩ ?_
    intro a w h
    refine then_normal ?_
    refine at_test (!decide (x1.1 = x0.1)) h (by kernel_rfl) (fun h2 => ?_) (fun h2 => ?_)
    · replace h2 : ¬ (x1.1 = x0.1) := of_decide_eq_false (notT h2)
      refine wp_seq ?_
      refine at_regq [] { ts := [0, 3, 4], os := [1, 2, 3, 4] } [] gamOK hT h (by kernel_rfl) trivial ?_
      intro a w h
      refine then_normal ?_
      refine wp_ret ?_
      refine then_ret ?_
      exact at_returnI (S := S__P_impl_Decoder_add) (x := (x0, x1, ())) [1, 2] [3] (x0, (x1, ())) (some (false, ())) [S__P_impl_Decoder_add.hd us 0 = S__P_impl_Decoder_add.hd us 0] hio h (by kernel_rfl) ⟨rfl, trivial⟩ (by first | rfl | exact congrArg (fun (z : T112) => (z, (x1, ()))) (show (x0 : T112) = addUD x0 x1 from by (first | (rw [addUD_no (addOKD_f (by first | (left; assumption) | (right; left; omega) | (right; right; assumption)))]; done) | (rw [addUD_yes hpx (addOKD_t (by assumption) (by omega) (by assumption))]; done)))) (fun z e => (Option.some.inj e) ▸ (congrArg (fun z => (z, ())) (show (false) = addOKD x0 x1 from by (first | exact (addOKD_f (by first | (left; assumption) | (right; left; omega) | (right; right; assumption))).symm | (rw [insDq_y hpx (by assumption) (by assumption)]; exact (addOKD_t (by assumption) (by omega) (by assumption)).symm)))))
    · replace h2 : x1.1 = x0.1 := of_decide_eq_true (notF h2)
      refine wp_skip ?_
      refine then_normal ?_
      refine wp_seq ?_
      refine at_anyq [{}, {}, {}, {}, {}, { ids := [5] }, { ids := [6] }, {}] { ts := [0, 4, 5], os := [1, 2, 3, 6] } [(fun (x0 : T61) => Sh.fit s61 x0) x1, (fun (x0 : T101) (x1 : (List Int)) => Sh.fit s101 x0 ∧ Sh.fit s22 x1 ∧ redP x0 x1) x0.2.2.2 (x1.2.1 ++ x1.2.2)] gamOK hT mixed h (by kernel_rfl) ⟨(by exact hf1), (by exact ⟨hf0.2.2.2, fitV hrw.2 (by omega), hrw⟩), trivial⟩ ?_
      intro a w h
      refine then_normal ?_
      refine wp_seq ?_
      rcases Bool.eq_false_or_eq_true ((inR (LA.leadS (LA.redS x0.2.2.2.2 (x1.2.1 ++ x1.2.2))) 0 (x0.2.1 - 1))) with h3 | h3
      · skip
        have hvh3 := inR_t h3
        refine at_anyq [{}, {}, {}, {}, {}, {}, { nw := true }, { hint := some (aB true) }, {}, {}, {}, {}, {}, { ids := [7], key := some 100010 }, {}, {}] { ts := [4], os := [1, 3, 7] } [(fun (x0 : (List Int)) => Sh.fit s22 x0) (LA.redS x0.2.2.2.2 (x1.2.1 ++ x1.2.2)), I64 (x0.2.1 - 1), True, (AV.p (.c (.v (.bool ((inR (LA.leadS (LA.redS x0.2.2.2.2 (x1.2.1 ++ x1.2.2))) 0 (x0.2.1 - 1)))))) = AV.p (.c (.v (.bool true)))), (fun (x0 : T112) (x1 : (List Int)) => Sh.fit s112 x0 ∧ Sh.fit s22 x1 ∧ redP x0.2.2.2 x1) x0 (LA.redS x0.2.2.2.2 (x1.2.1 ++ x1.2.2))] gamOK hT mixed h (by kernel_rfl) ⟨(by exact fitV hrd (by omega)), ⟨by first | omega | (simp only [lsA]; omega) | (simp; done) | (simp; omega) | done, by first | omega | (simp only [lsA]; omega) | (simp; done) | (simp; omega) | done⟩, trivial, hint_bool (h3), (by exact ⟨hf0, fitV hrd (by omega), hrw.1, hrd⟩), trivial⟩ ?_
        intro a w h
        refine then_normal ?_
        refine wp_ret ?_
        exact at_returnI (S := S__P_impl_Decoder_add) (x := (x0, x1, ())) [1, 2] [3] ((insUD x0 (LA.redS x0.2.2.2.2 (x1.2.1 ++ x1.2.2))), (x1, ())) (some ((insDq x0 (LA.redS x0.2.2.2.2 (x1.2.1 ++ x1.2.2))), ())) [S__P_impl_Decoder_add.hd us 0 = S__P_impl_Decoder_add.hd us 0] hio h (by kernel_rfl) ⟨rfl, trivial⟩ (by first | rfl | exact congrArg (fun (z : T112) => (z, (x1, ()))) (show ((insUD x0 (LA.redS x0.2.2.2.2 (x1.2.1 ++ x1.2.2))) : T112) = addUD x0 x1 from by (first | (rw [addUD_no (addOKD_f (by first | (left; assumption) | (right; left; omega) | (right; right; assumption)))]; done) | (rw [addUD_yes hpx (addOKD_t (by assumption) (by omega) (by assumption))]; done)))) (fun z e => (Option.some.inj e) ▸ (congrArg (fun z => (z, ())) (show ((insDq x0 (LA.redS x0.2.2.2.2 (x1.2.1 ++ x1.2.2)))) = addOKD x0 x1 from by (first | exact (addOKD_f (by first | (left; assumption) | (right; left; omega) | (right; right; assumption))).symm | (rw [insDq_y hpx (by assumption) (by assumption)]; exact (addOKD_t (by assumption) (by omega) (by assumption)).symm)))))
      · skip
        have hvh3 := inR_f h3
        refine at_anyq [{}, {}, {}, {}, {}, {}, { nw := true }, { hint := some (aB false) }, {}, {}, {}, {}, {}, {}, {}, {}] { ts := [4], os := [1, 2, 3] } [(fun (x0 : (List Int)) => Sh.fit s22 x0) (LA.redS x0.2.2.2.2 (x1.2.1 ++ x1.2.2)), I64 (x0.2.1 - 1), True, (AV.p (.c (.v (.bool ((inR (LA.leadS (LA.redS x0.2.2.2.2 (x1.2.1 ++ x1.2.2))) 0 (x0.2.1 - 1)))))) = AV.p (.c (.v (.bool false))))] gamOK hT mixed h (by kernel_rfl) ⟨(by exact fitV hrd (by omega)), ⟨by first | omega | (simp only [lsA]; omega) | (simp; done) | (simp; omega) | done, by first | omega | (simp only [lsA]; omega) | (simp; done) | (simp; omega) | done⟩, trivial, hint_bool (h3), trivial⟩ ?_
        intro a w h
        refine then_normal ?_
        refine wp_ret ?_
        exact at_returnI (S := S__P_impl_Decoder_add) (x := (x0, x1, ())) [1, 2] [3] (x0, (x1, ())) (some (false, ())) [S__P_impl_Decoder_add.hd us 0 = S__P_impl_Decoder_add.hd us 0] hio h (by kernel_rfl) ⟨rfl, trivial⟩ (by first | rfl | exact congrArg (fun (z : T112) => (z, (x1, ()))) (show (x0 : T112) = addUD x0 x1 from by (first | (rw [addUD_no (addOKD_f (by first | (left; assumption) | (right; left; omega) | (right; right; assumption)))]; done) | (rw [addUD_yes hpx (addOKD_t (by assumption) (by omega) (by assumption))]; done)))) (fun z e => (Option.some.inj e) ▸ (congrArg (fun z => (z, ())) (show (false) = addOKD x0 x1 from by (first | exact (addOKD_f (by first | (left; assumption) | (right; left; omega) | (right; right; assumption))).symm | (rw [insDq_y hpx (by assumption) (by assumption)]; exact (addOKD_t (by assumption) (by omega) (by assumption)).symm)))))

def S_impl_AddPacket : Sum := { fid := 57, dom := [s112, s61], cod := [s112, (.bool 4)], dp := true, fz := false, pre := fun x => (fun (x0 : T112) (x1 : T61) => Sh.fit s112 x0 ∧ Sh.fit s61 x1) x.1 x.2.1, g := fun x => ((addPk x.1 x.2.1).1, ((addPk x.1 x.2.1).2, ())) }
def S_impl_AddPacket_tab : List (Nat × Sum) := [(146, S__impl_Decoder_clone), (147, S_impl_IsValidDecoder), (148, S__P_impl_Decoder_add)]
theorem S_impl_AddPacket_ok : FnOK Try.prog 57 S_impl_AddPacket := by
  refine at_enter 18 (fun x => ⟨[(0, aG [cI x.1.1, cI x.1.2.1, cI x.1.2.2.1, cI x.1.2.2.2.1, .ro s22 x.1.2.2.2.2]), (1, aG [cI x.2.1.1, .ro (.int 3) x.2.1.2.1, .ro (.int 3) x.2.1.2.2])], []⟩) Try.func57 rfl (by kernel_rfl) (fun x => rfl) ?_
  rintro w0 Z0 ⟨x0, x1, u⟩ a w
  revert x0 x1
  intro (x0 : T112) (x1 : T61) hpre hlens h
  replace h : At w0 Z0 [] 18 ⟨[(0, aG [cI x0.1, cI x0.2.1, cI x0.2.2.1, cI x0.2.2.2.1, .ro s22 x0.2.2.2.2]), (1, aG [cI x1.1, .ro (.int 3) x1.2.1, .ro (.int 3) x1.2.2])], []⟩ a w := h
  replace hpre : (fun (x0 : T112) (x1 : T61) => Sh.fit s112 x0 ∧ Sh.fit s61 x1) x0 x1 := hpre
  have hl1 : List.length x0.2.2.2.2 ≤ 9223372036854775807 := hlens.1.2.2.2.2.1
  have hl2 : List.length x1.2.1 ≤ 9223372036854775807 := hlens.2.1.2.1.1
  have hl3 : List.length x1.2.2 ≤ 9223372036854775807 := hlens.2.1.2.2.1
  have hT : TabOK Try.prog S_impl_AddPacket_tab := (.cons S__impl_Decoder_clone_ok (.cons S_impl_IsValidDecoder_ok (.cons S__P_impl_Decoder_add_ok .nil)))
  obtain ⟨hf0, hf1⟩ := hpre
  have hn0_1 : List.length x0.2.2.2.2 ≤ 1073741824 := hf0.2.2.2.2.1
  have hn1_2 : List.length x1.2.1 ≤ 1073741824 := hf1.2.1.1
  have hn1_3 : List.length x1.2.2 ≤ 1073741824 := hf1.2.2.1
  refine wp_seq ?_
  refine at_regq [{ ids := [1] }, { ids := [2] }, { ids := [3] }] { ts := [2, 3, 4, 5], os := [1, 2, 3] } [] gamOK hT h (by kernel_rfl) trivial ?_
  intro a w h
  refine then_normal ?_
  refine wp_seq ?_
  refine at_regq [{}, { ids := [4] }, { ids := [5] }] { ts := [2, 3, 4, 5, 6], os := [1, 2, 3, 4, 5] } [(fun (x0 : T112) => Sh.fit s112 x0) x0] gamOK hT h (by kernel_rfl) ⟨(by exact hf0), trivial⟩ ?_
  intro a w h
  refine then_normal ?_
  refine wp_seq ?_
  rcases Bool.eq_false_or_eq_true ((validD x0)) with h1 | h1
  · skip
    have hvh1 := validD_t h1
    refine at_regq [{}, { hint := some (aB true) }, {}, {}, { ids := [6] }] { ts := [4, 5, 6, 7], os := [3, 5, 6] } [(fun (x0 : T112) => Sh.fit s112 x0) x0, (AV.p (.c (.v (.bool ((validD x0))))) = AV.p (.c (.v (.bool true)))), (fun (x0 : T112) (x1 : T61) => Sh.fit s112 x0 ∧ Sh.fit s61 x1 ∧ validD x0 = true) x0 x1] gamOK hT h (by kernel_rfl) ⟨(by exact hf0), hint_bool (h1), (by exact ⟨hf0, hf1, by assumption⟩), trivial⟩ ?_
    intro a w h
    refine then_normal ?_
    refine wp_seq ?_
    refine at_regq [] { ts := [4, 5], os := [3, 6] } [] gamOK hT h (by kernel_rfl) trivial ?_
    intro a w h
    refine then_normal ?_
    refine wp_ret ?_
    exact at_return (S := S_impl_AddPacket) (x := (x0, x1, ())) ((addUD x0 x1), ((addOKD x0 x1), ())) [] h (by kernel_rfl) trivial (congrArg (fun z => (z.1, z.2, ())) (show (((addUD x0 x1), (addOKD x0 x1))) = addPk x0 x1 from by first | exact addPk_y (by assumption) | exact addPk_n (by left; assumption) | (have hq := addPk_y (d := x0) (p := x1) (by assumption); simp_all)))
  · skip
    refine at_regq [{}, { hint := some (aB false) }] { ts := [4, 5, 6, 7], os := [3, 4, 5] } [(fun (x0 : T112) => Sh.fit s112 x0) x0, (AV.p (.c (.v (.bool ((validD x0))))) = AV.p (.c (.v (.bool false))))] gamOK hT h (by kernel_rfl) ⟨(by exact hf0), hint_bool (h1), trivial⟩ ?_
    intro a w h
    refine then_normal ?_
    refine wp_seq ?_
    refine at_regq [] { ts := [4, 5], os := [3, 4] } [] gamOK hT h (by kernel_rfl) trivial ?_
    intro a w h
    refine then_normal ?_
    refine wp_ret ?_
    exact at_return (S := S_impl_AddPacket) (x := (x0, x1, ())) (x0, (false, ())) [] h (by kernel_rfl) trivial (congrArg (fun z => (z.1, z.2, ())) (show ((x0, false)) = addPk x0 x1 from by first | exact addPk_y (by assumption) | exact addPk_n (by left; assumption) | (have hq := addPk_y (d := x0) (p := x1) (by assumption); simp_all)))

def S_spec_AddPacket : Sum := { fid := 54, dom := [s112, s61], cod := [s112, (.bool 4)], dp := false, fz := false, pre := fun x => (fun (x0 : T112) (x1 : T61) => Sh.fit s112 x0 ∧ Sh.fit s61 x1) x.1 x.2.1, g := fun x => ((addPk x.1 x.2.1).1, ((addPk x.1 x.2.1).2, ())) }
def S_spec_AddPacket_tab : List (Nat × Sum) := [(140, S_spec_l14Copy), (141, S_spec_IsValidDecoder), (142, S_spec_IsValidPacket), (144, S_spec_ReduceVector), (143, S_spec_LeadingIndex), (103, S_spec_l1In), (145, S_spec_InsertVector)]
theorem S_spec_AddPacket_ok : FnOK Try.prog 54 S_spec_AddPacket := by
  refine at_enter 61 (fun x => ⟨[(0, aG [cI x.1.1, cI x.1.2.1, cI x.1.2.2.1, cI x.1.2.2.2.1, .ro s22 x.1.2.2.2.2]), (1, aG [cI x.2.1.1, .ro (.int 3) x.2.1.2.1, .ro (.int 3) x.2.1.2.2])], []⟩) Try.func54 rfl (by kernel_rfl) (fun x => rfl) ?_
  rintro w0 Z0 ⟨x0, x1, u⟩ a w
  revert x0 x1
  intro (x0 : T112) (x1 : T61) hpre hlens h
  replace h : At w0 Z0 [] 61 ⟨[(0, aG [cI x0.1, cI x0.2.1, cI x0.2.2.1, cI x0.2.2.2.1, .ro s22 x0.2.2.2.2]), (1, aG [cI x1.1, .ro (.int 3) x1.2.1, .ro (.int 3) x1.2.2])], []⟩ a w := h
  replace hpre : (fun (x0 : T112) (x1 : T61) => Sh.fit s112 x0 ∧ Sh.fit s61 x1) x0 x1 := hpre
  have hl1 : List.length x0.2.2.2.2 ≤ 9223372036854775807 := hlens.1.2.2.2.2.1
  have hl2 : List.length x1.2.1 ≤ 9223372036854775807 := hlens.2.1.2.1.1
  have hl3 : List.length x1.2.2 ≤ 9223372036854775807 := hlens.2.1.2.2.1
  have hT : TabOK Try.prog S_spec_AddPacket_tab := (.cons S_spec_l14Copy_ok (.cons S_spec_IsValidDecoder_ok (.cons S_spec_IsValidPacket_ok (.cons S_spec_ReduceVector_ok (.cons S_spec_LeadingIndex_ok (.cons S_spec_l1In_ok (.cons S_spec_InsertVector_ok .nil)))))))
  obtain ⟨hf0, hf1⟩ := hpre
  have hn0_1 : List.length x0.2.2.2.2 ≤ 1073741824 := hf0.2.2.2.2.1
  have hn1_2 : List.length x1.2.1 ≤ 1073741824 := hf1.2.1.1
  have hn1_3 : List.length x1.2.2 ≤ 1073741824 := hf1.2.2.1
  refine wp_seq ?_
  refine at_regq [{ ids := [1] }, { ids := [2] }, { ids := [3] }] { ts := [2, 3, 4, 5], os := [1, 2, 3] } [] gamOK hT h (by kernel_rfl) trivial ?_
  intro a w h
  refine then_normal ?_
  refine wp_seq ?_
  refine at_regq [{}, { ids := [4] }, { ids := [5] }] { ts := [2, 3, 4, 5, 6], os := [1, 2, 3, 4, 5] } [(fun (x0 : T112) => Sh.fit s112 x0) x0] gamOK hT h (by kernel_rfl) ⟨(by exact hf0), trivial⟩ ?_
  intro a w h
  refine then_normal ?_
  refine wp_seq ?_
  refine wp_seq ?_
  rcases Bool.eq_false_or_eq_true (!(validD x0)) with h1 | h1
  · skip
    have hzh1 : (validD x0) = false := notT h1
    refine at_regq [{}, {}, { hint := some (aB true) }] { ts := [2, 3, 4, 5, 6, 30], os := [1, 2, 3, 4, 5] } [(fun (x0 : T112) => Sh.fit s112 x0) x0, (AV.p (.c (.v (.bool (!(validD x0))))) = AV.p (.c (.v (.bool true))))] gamOK hT h (by kernel_rfl) ⟨(by exact hf0), hint_bool (h1), trivial⟩ ?_
    intro a w h
    refine then_normal ?_
    refine at_test true h (by kernel_rfl) (fun hh => ?_) (fun hh => nomatch hh)
    refine wp_seq ?_
    refine at_regq [] { ts := [2, 3, 4, 5, 6], os := [1, 2, 3, 4, 5] } [] gamOK hT h (by kernel_rfl) trivial ?_
    intro a w h
    refine then_normal ?_
    refine wp_ret ?_
    refine then_ret ?_
    exact at_return (S := S_spec_AddPacket) (x := (x0, x1, ())) (x0, (false, ())) [] h (by kernel_rfl) trivial (congrArg (fun z => (z.1, z.2, ())) (show ((x0, false)) = addPk x0 x1 from by first | exact addPk_n (by first | (left; assumption) | (right; exact addOKD_f (by first | (left; assumption) | (right; left; omega) | (right; right; rw [← hrv]; assumption)))) | exact addPk_s (by assumption) (by assumption) (by omega) (by rw [← hrv]; assumption)))
  · skip
    have hzh1 : (validD x0) = true := notF h1
    have hvh1 := validD_t (notF h1)
    rcases Bool.eq_false_or_eq_true (!(validP x1 x0.2.1 x0.2.2.1)) with h2 | h2
    · skip
      have hzh2 : (validP x1 x0.2.1 x0.2.2.1) = false := notT h2
      refine at_regq [{}, {}, { hint := some (aB false) }, {}, {}, {}, {}, {}, {}, {}, { hint := some (aB true) }] { ts := [2, 3, 4, 5, 6, 30], os := [1, 2, 3, 4, 5] } [(fun (x0 : T112) => Sh.fit s112 x0) x0, (AV.p (.c (.v (.bool (!(validD x0))))) = AV.p (.c (.v (.bool false)))), (fun (x0 : T61) (x1 : Int) (x2 : Int) => Sh.fit s61 x0) x1 x0.2.1 x0.2.2.1, (AV.p (.c (.v (.bool (!(validP x1 x0.2.1 x0.2.2.1))))) = AV.p (.c (.v (.bool true))))] gamOK hT h (by kernel_rfl) ⟨(by exact hf0), hint_bool (h1), (by exact hf1), hint_bool (h2), trivial⟩ ?_
      intro a w h
      refine then_normal ?_
      refine at_test true h (by kernel_rfl) (fun hh => ?_) (fun hh => nomatch hh)
      refine wp_seq ?_
      refine at_regq [] { ts := [2, 3, 4, 5, 6], os := [1, 2, 3, 4, 5] } [] gamOK hT h (by kernel_rfl) trivial ?_
      intro a w h
      refine then_normal ?_
      refine wp_ret ?_
      refine then_ret ?_
      exact at_return (S := S_spec_AddPacket) (x := (x0, x1, ())) (x0, (false, ())) [] h (by kernel_rfl) trivial (congrArg (fun z => (z.1, z.2, ())) (show ((x0, false)) = addPk x0 x1 from by first | exact addPk_n (by first | (left; assumption) | (right; exact addOKD_f (by first | (left; assumption) | (right; left; omega) | (right; right; rw [← hrv]; assumption)))) | exact addPk_s (by assumption) (by assumption) (by omega) (by rw [← hrv]; assumption)))
    · skip
      have hzh2 : (validP x1 x0.2.1 x0.2.2.1) = true := notF h2
      have hvh2 := validP_n (notF h2)
      have hrw := addRow (d := x0) (p := x1) (by assumption) (by first | exact notF h2 | exact h2)
      have hrd := LA.redS_rng hrw.1.2 hrw.2
      have hw0 := hrw.1.1
      have hrl := hrw.2.1
      rw [List.length_append] at hrl
      have hrv : D_spec_ReduceVector x0.2.2.2 ([] ++ x1.2.1 ++ x1.2.2) = LA.redS x0.2.2.2.2 (x1.2.1 ++ x1.2.2) := if_pos (takesB_of hrw)
      refine at_regq [{}, {}, { hint := some (aB false) }, {}, {}, {}, {}, {}, {}, {}, { hint := some (aB false) }] { ts := [2, 3, 4, 5, 6, 30], os := [1, 2, 3, 4, 5] } [(fun (x0 : T112) => Sh.fit s112 x0) x0, (AV.p (.c (.v (.bool (!(validD x0))))) = AV.p (.c (.v (.bool false)))), (fun (x0 : T61) (x1 : Int) (x2 : Int) => Sh.fit s61 x0) x1 x0.2.1 x0.2.2.1, (AV.p (.c (.v (.bool (!(validP x1 x0.2.1 x0.2.2.1))))) = AV.p (.c (.v (.bool false))))] gamOK hT h (by kernel_rfl) ⟨(by exact hf0), hint_bool (h1), (by exact hf1), hint_bool (h2), trivial⟩ ?_
      intro a w h
      refine then_normal ?_
      refine at_test (!decide (x1.1 = x0.1)) h (by kernel_rfl) (fun h3 => ?_) (fun h3 => ?_)
      · replace h3 : ¬ (x1.1 = x0.1) := of_decide_eq_false (notT h3)
        refine wp_seq ?_
        refine at_regq [] { ts := [2, 3, 4, 5, 6], os := [1, 2, 3, 4, 5] } [] gamOK hT h (by kernel_rfl) trivial ?_
        intro a w h
        refine then_normal ?_
        refine wp_ret ?_
        refine then_ret ?_
        exact at_return (S := S_spec_AddPacket) (x := (x0, x1, ())) (x0, (false, ())) [] h (by kernel_rfl) trivial (congrArg (fun z => (z.1, z.2, ())) (show ((x0, false)) = addPk x0 x1 from by first | exact addPk_n (by first | (left; assumption) | (right; exact addOKD_f (by first | (left; assumption) | (right; left; omega) | (right; right; rw [← hrv]; assumption)))) | exact addPk_s (by assumption) (by assumption) (by omega) (by rw [← hrv]; assumption)))
      · replace h3 : x1.1 = x0.1 := of_decide_eq_true (notF h3)
        refine wp_skip ?_
        refine then_normal ?_
        refine wp_seq ?_
        refine at_anyq [{ ids := [6], dp := false }, {}, {}, { ids := [7], dp := false }, {}, {}, { ids := [8], dp := false }, {}] { ts := [2, 4, 5, 6, 7], os := [1, 3, 4, 5, 8] } [(List.length ([] : List Int) + List.length x1.2.1) * 8 ≤ 140737488355328, (List.length (([] : List Int) ++ x1.2.1) + List.length x1.2.2) * 8 ≤ 140737488355328] gamOK hT mixed h (by kernel_rfl) ⟨(by first | omega | (simp only [lsA]; omega) | (simp; done) | (simp; omega) | done), (by first | omega | (simp only [lsA]; omega) | (simp; done) | (simp; omega) | done), trivial⟩ ?_
        intro a w h
        refine then_normal ?_
        refine wp_seq ?_
        refine wp_seq ?_
        refine at_anyq [{}, {}, {}, { ids := [9] }, {}, {}, {}, { nw := true }, {}, {}] { ts := [2, 4, 5, 6, 7, 48], os := [1, 3, 4, 5, 8] } [(fun (x0 : T101) (x1 : (List Int)) => Sh.fit s101 x0 ∧ Sh.fit s22 x1) x0.2.2.2 ((([] : List Int) ++ x1.2.1) ++ x1.2.2), (fun (x0 : (List Int)) => Sh.fit s22 x0) (D_spec_ReduceVector x0.2.2.2 ((([] : List Int) ++ x1.2.1) ++ x1.2.2)), I64 (x0.2.1 - 1), True] gamOK hT mixed h (by kernel_rfl) ⟨(by exact ⟨hf0.2.2.2, fitV hrw.2 (by omega)⟩), (by (rw [hrv]; exact fitV hrd (by omega))), ⟨by first | omega | (simp only [lsA]; omega) | (simp; done) | (simp; omega) | done, by first | omega | (simp only [lsA]; omega) | (simp; done) | (simp; omega) | done⟩, trivial, trivial⟩ ?_
        intro a w h
        refine then_normal ?_
        refine at_test (!(inR (LA.leadS (D_spec_ReduceVector x0.2.2.2 ((([] : List Int) ++ x1.2.1) ++ x1.2.2))) 0 (x0.2.1 - 1))) h (by kernel_rfl) (fun h4 => ?_) (fun h4 => ?_)
        · replace h4 : (inR (LA.leadS (D_spec_ReduceVector x0.2.2.2 ((([] : List Int) ++ x1.2.1) ++ x1.2.2))) 0 (x0.2.1 - 1)) = false := notT h4
          have hvh4 := inR_f h4
          refine wp_seq ?_
          refine at_regq [] { ts := [2, 4, 5, 6, 7], os := [1, 3, 4, 5, 8] } [] gamOK hT h (by kernel_rfl) trivial ?_
          intro a w h
          refine then_normal ?_
          refine wp_ret ?_
          refine then_ret ?_
          exact at_return (S := S_spec_AddPacket) (x := (x0, x1, ())) (x0, (false, ())) [] h (by kernel_rfl) trivial (congrArg (fun z => (z.1, z.2, ())) (show ((x0, false)) = addPk x0 x1 from by first | exact addPk_n (by first | (left; assumption) | (right; exact addOKD_f (by first | (left; assumption) | (right; left; omega) | (right; right; rw [← hrv]; assumption)))) | exact addPk_s (by assumption) (by assumption) (by omega) (by rw [← hrv]; assumption)))
        · replace h4 : (inR (LA.leadS (D_spec_ReduceVector x0.2.2.2 ((([] : List Int) ++ x1.2.1) ++ x1.2.2))) 0 (x0.2.1 - 1)) = true := notF h4
          have hvh4 := inR_t h4
          refine wp_skip ?_
          refine then_normal ?_
          refine wp_seq ?_
          replace h := at_out (σ' := ⟨[(2, aP 1 0), (4, aP 3 0), (5, aB false), (6, aP 5 0), (7, aF (.int 3) ((([] : List Int) ++ x1.2.1) ++ x1.2.2))], [(1, oX 112 [cI x0.1, cI x0.2.1, cI x0.2.2.1, cI x0.2.2.2.1, .ro s22 x0.2.2.2.2]), (3, oX 112 [cI 0, cI 0, cI 0, cI 0, cN]), (4, oF s22 x0.2.2.2.2), (5, oX 112 [cI x0.1, cI x0.2.1, cI x0.2.2.1, cI x0.2.2.2.1, .sl 4])]⟩) { fz := [8], ts := [2, 4, 5, 6, 7], os := [1, 3, 4, 5] } h (by kernel_rfl)
          refine at_regq [{}, {}, {}, { ids := [10] }, {}, {}, {}, { ids := [11] }] { ts := [4, 5, 6, 8, 9], os := [3, 4, 5, 10, 11] } [(fun (x0 : T101) (x1 : (List Int)) => Sh.fit s101 x0 ∧ Sh.fit s22 x1) x0.2.2.2 ((([] : List Int) ++ x1.2.1) ++ x1.2.2)] gamOK hT h (by kernel_rfl) ⟨(by exact ⟨hf0.2.2.2, fitV hrw.2 (by omega)⟩), trivial⟩ ?_
          intro a w h
          refine then_normal ?_
          refine wp_seq ?_
          refine at_regq [] { ts := [4, 5, 6, 9], os := [3, 5, 10] } [] gamOK hT h (by kernel_rfl) trivial ?_
          intro a w h
          refine then_normal ?_
          refine wp_seq ?_
          refine at_regq [] { ts := [4, 5], os := [3, 10] } [] gamOK hT h (by kernel_rfl) trivial ?_
          intro a w h
          refine then_normal ?_
          refine wp_ret ?_
          exact at_return (S := S_spec_AddPacket) (x := (x0, x1, ())) ((x0.1, (x0.2.1, (x0.2.2.1, (insV x0.2.2.2 ((([] : List Int) ++ x1.2.1) ++ x1.2.2)).1))), ((insV x0.2.2.2 ((([] : List Int) ++ x1.2.1) ++ x1.2.2)).2, ())) [] h (by kernel_rfl) trivial (congrArg (fun z => (z.1, z.2, ())) (show (((x0.1, (x0.2.1, (x0.2.2.1, (insV x0.2.2.2 ((([] : List Int) ++ x1.2.1) ++ x1.2.2)).1))), (insV x0.2.2.2 ((([] : List Int) ++ x1.2.1) ++ x1.2.2)).2)) = addPk x0 x1 from by first | exact addPk_n (by first | (left; assumption) | (right; exact addOKD_f (by first | (left; assumption) | (right; left; omega) | (right; right; rw [← hrv]; assumption)))) | exact addPk_s (by assumption) (by assumption) (by omega) (by rw [← hrv]; assumption)))

def D_laws_FnExactAddPacket := (fun (_ : T108) (_ : T44) => true)
def S_laws_FnExactAddPacket : Sum := { fid := 8, dom := [s108, s44], cod := [(.bool 4)], dp := true, fz := false, pre := fun x => (fun (x0 : T108) (x1 : T44) => Sh.i64 s108 x0 ∧ Sh.i64 s44 x1) x.1 x.2.1, g := fun x => ((D_laws_FnExactAddPacket x.1 x.2.1), ()) }
def S_laws_FnExactAddPacket_tab : List (Nat × Sum) := [(52, S_laws_szDecoder), (53, S_laws_szCodedPacket), (55, S_laws_toDecoder), (56, S_laws_toCodedPacket), (54, S_spec_AddPacket), (57, S_impl_AddPacket), (58, S_laws_eqDecoder), (59, S_laws_eqCodedPacket), (60, S_laws_markDecoder), (61, S_laws_markCodedPacket), (62, S_laws_heldDecoder)]
theorem S_laws_FnExactAddPacket_ok : FnOK Try.prog 8 S_laws_FnExactAddPacket := by
  refine at_enter 119 (fun x => ⟨[(0, aG [cI x.1.1, cI x.1.2.1, cI x.1.2.2.1, cI x.1.2.2.2.1, .ro s22 x.1.2.2.2.2]), (1, aG [cI x.2.1.1, .ro (.int 3) x.2.1.2.1, .ro (.int 3) x.2.1.2.2])], []⟩) Try.func8 rfl (by kernel_rfl) (fun x => rfl) ?_
  rintro w0 Z0 ⟨x0, x1, u⟩ a w
  revert x0 x1
  intro (x0 : T108) (x1 : T44) hpre hlens h
  replace h : At w0 Z0 [] 119 ⟨[(0, aG [cI x0.1, cI x0.2.1, cI x0.2.2.1, cI x0.2.2.2.1, .ro s22 x0.2.2.2.2]), (1, aG [cI x1.1, .ro (.int 3) x1.2.1, .ro (.int 3) x1.2.2])], []⟩ a w := h
  replace hpre : (fun (x0 : T108) (x1 : T44) => Sh.i64 s108 x0 ∧ Sh.i64 s44 x1) x0 x1 := hpre
  have hl1 : List.length x0.2.2.2.2 ≤ 9223372036854775807 := hlens.1.2.2.2.2.1
  have hl2 : List.length x1.2.1 ≤ 9223372036854775807 := hlens.2.1.2.1.1
  have hl3 : List.length x1.2.2 ≤ 9223372036854775807 := hlens.2.1.2.2.1
  have hT : TabOK Try.prog S_laws_FnExactAddPacket_tab := (.cons S_laws_szDecoder_ok (.cons S_laws_szCodedPacket_ok (.cons S_laws_toDecoder_ok (.cons S_laws_toCodedPacket_ok (.cons S_spec_AddPacket_ok (.cons S_impl_AddPacket_ok (.cons S_laws_eqDecoder_ok (.cons S_laws_eqCodedPacket_ok (.cons S_laws_markDecoder_ok (.cons S_laws_markCodedPacket_ok (.cons S_laws_heldDecoder_ok .nil)))))))))))
  have hq0 : Sh.sz s112 x0 = Sh.sz s108 x0 := rfl
  have hb0 : Sh.ctT s112 x0 ≤ 5 * Sh.sz s112 x0 := Sh.ctT_le2 s112 x0
  have hz0 : Sh.ct s112 x0 ≤ 5 * (1 + Sh.sz s112 x0) := Sh.ct_le s112 x0
  have ht0 : Sh.sz s108 x0 = (0 + (0 + (0 + (0 + (Sh.sz s97 x0.2.2.2.2))))) := rfl
  have hs0_1 : Sh.sz s97 x0.2.2.2.2 = List.length x0.2.2.2.2 + ctL (Sh.sz s22) x0.2.2.2.2 := rfl
  have hq1 : Sh.sz s61 x1 = Sh.sz s44 x1 := rfl
  have hb1 : Sh.ctT s61 x1 ≤ 3 * Sh.sz s61 x1 := Sh.ctT_le2 s61 x1
  have hz1 : Sh.ct s61 x1 ≤ 3 * (1 + Sh.sz s61 x1) := Sh.ct_le s61 x1
  have ht1 : Sh.sz s44 x1 = (0 + ((Sh.sz s22 x1.2.1) + (Sh.sz s22 x1.2.2))) := rfl
  have hs1_1 : Sh.sz s22 x1.2.1 = List.length x1.2.1 := sz_flat (by rfl) _
  have hs1_2 : Sh.sz s22 x1.2.2 = List.length x1.2.2 := sz_flat (by rfl) _
  have hr1 : Sh.ctT s112 ((addPk x0 x1).1) ≤ 5 * Sh.sz s112 ((addPk x0 x1).1) := Sh.ctT_le2 s112 _
  have hr2 := addPk_sz x0 x1
  refine wp_seq ?_
  refine at_regq [{ ids := [1] }, { ids := [2] }] { ts := [2, 3, 4], os := [1, 2] } [] gamOK hT h (by kernel_rfl) trivial ?_
  intro a w h
  refine then_normal ?_
  refine wp_seq ?_
  refine at_regq [] { ts := [2, 3, 4, 5], os := [1, 2] } [] gamOK hT h (by kernel_rfl) trivial ?_
  intro a w h
  refine then_normal ?_
  refine wp_seq ?_
  refine at_regq [] { ts := [2, 3, 4, 5], os := [1, 2] } [(pSz s108) x0 1048576] gamOK hT h (by kernel_rfl) ⟨(by (show (0 : Int) ≤ _ ∧ _ ≤ (9223372036854775807 : Int); constructor <;> omega)), trivial⟩ ?_
  intro a w h
  refine then_normal ?_
  refine wp_seq ?_
  refine wp_seq ?_
  refine at_regq [] { ts := [2, 3, 4, 5, 21], os := [1, 2] } [] gamOK hT h (by kernel_rfl) trivial ?_
  intro a w h
  refine then_normal ?_
  refine at_test (decide (((szD s108) x0 1048576) < 0)) h (by kernel_rfl) (fun h1 => ?_) (fun h1 => ?_)
  · replace h1 : ((szD s108) x0 1048576) < 0 := of_decide_eq_true h1
    have hvh1 := szD_neg h1 (by omega)
    refine wp_seq ?_
    refine at_regq [] { ts := [2, 3, 4, 5], os := [1, 2] } [] gamOK hT h (by kernel_rfl) trivial ?_
    intro a w h
    refine then_normal ?_
    refine wp_ret ?_
    refine then_ret ?_
    exact at_return (S := S_laws_FnExactAddPacket) (x := (x0, x1, ())) (true, ()) [] h (by kernel_rfl) trivial (congrArg (fun z => (z, ())) (show (true) = D_laws_FnExactAddPacket x0 x1 from by unfold D_laws_FnExactAddPacket; rfl))
  · replace h1 : ¬ (((szD s108) x0 1048576) < 0) := of_decide_eq_false h1
    have hvh1 := szD_val h1 (by omega)
    refine wp_skip ?_
    refine then_normal ?_
    refine wp_seq ?_
    refine at_regq [] { ts := [2, 3, 4, 5], os := [1, 2] } [(pSz s44) x1 ((szD s108) x0 1048576)] gamOK hT h (by kernel_rfl) ⟨(by (show (0 : Int) ≤ _ ∧ _ ≤ (9223372036854775807 : Int); constructor <;> omega)), trivial⟩ ?_
    intro a w h
    refine then_normal ?_
    refine wp_seq ?_
    refine wp_seq ?_
    refine at_regq [] { ts := [2, 3, 4, 26], os := [1, 2] } [] gamOK hT h (by kernel_rfl) trivial ?_
    intro a w h
    refine then_normal ?_
    refine at_test (decide (((szD s44) x1 ((szD s108) x0 1048576)) < 0)) h (by kernel_rfl) (fun h2 => ?_) (fun h2 => ?_)
    · replace h2 : ((szD s44) x1 ((szD s108) x0 1048576)) < 0 := of_decide_eq_true h2
      have hvh2 := szD_neg h2 (by omega)
      refine wp_seq ?_
      refine at_regq [] { ts := [2, 3, 4], os := [1, 2] } [] gamOK hT h (by kernel_rfl) trivial ?_
      intro a w h
      refine then_normal ?_
      refine wp_ret ?_
      refine then_ret ?_
      exact at_return (S := S_laws_FnExactAddPacket) (x := (x0, x1, ())) (true, ()) [] h (by kernel_rfl) trivial (congrArg (fun z => (z, ())) (show (true) = D_laws_FnExactAddPacket x0 x1 from by unfold D_laws_FnExactAddPacket; rfl))
    · replace h2 : ¬ (((szD s44) x1 ((szD s108) x0 1048576)) < 0) := of_decide_eq_false h2
      have hvh2 := szD_val h2 (by omega)
      refine wp_skip ?_
      refine then_normal ?_
      refine wp_seq ?_
      refine at_anyq [{}, { frz := true }, {}, { frz := true }, { ids := [3] }, {}, {}, {}, { ids := [4] }, {}, {}] { ts := [2, 3, 4, 6, 7], os := [1, 2, 3, 4] } [(pTo s108) x0, (pTo s44) x1, (fun (x0 : T112) (x1 : T61) => Sh.fit s112 x0 ∧ Sh.fit s61 x1) x0 x1] gamOK hT mixed h (by kernel_rfl) ⟨(by (show Sh.sz _ _ ≤ 1048576; omega)), (by (show Sh.sz _ _ ≤ 1048576; omega)), (by exact ⟨(Sh.fit_of_sz s112 rfl (x := x0) (by omega)), (Sh.fit_of_sz s61 rfl (x := x1) (by omega))⟩), trivial⟩ ?_
      intro a w h
      refine then_normal ?_
      refine wp_seq ?_
      refine at_regq [{}, { ids := [5] }, { ids := [6] }] { ts := [2, 3, 4, 6, 7, 8], os := [1, 2, 3, 4, 5, 6] } [(pTo s108) x0] gamOK hT h (by kernel_rfl) ⟨(by (show Sh.sz _ _ ≤ 1048576; omega)), trivial⟩ ?_
      intro a w h
      refine then_normal ?_
      refine wp_seq ?_
      refine at_reg [{}, { ids := [7, 8] }, { ids := [9] }] { ts := [2, 3, 4, 6, 7, 8, 9], os := [1, 2, 3, 4, 5, 6, 7, 8, 9] } ⟨[(2, aP 1 0), (3, aP 2 0), (4, aB false), (6, aP 4 0), (7, aB (addPk x0 x1).2), (8, aP 6 0), (9, aP 9 0)], [(1, oX 108 [cI x0.1, cI x0.2.1, cI x0.2.2.1, cI x0.2.2.2.1, .ro s22 x0.2.2.2.2]), (2, oX 44 [cI x1.1, .ro (.int 3) x1.2.1, .ro (.int 3) x1.2.2]), (3, oF s22 (addPk x0 x1).1.2.2.2.2), (4, oX 112 [cI (addPk x0 x1).1.1, cI (addPk x0 x1).1.2.1, cI (addPk x0 x1).1.2.2.1, cI (addPk x0 x1).1.2.2.2.1, .sl 3]), (5, oR s22 x0.2.2.2.2), (6, oX 112 [cI x0.1, cI x0.2.1, cI x0.2.2.1, cI x0.2.2.2.1, .sl 5]), (7, oR (.int 3) x1.2.1), (8, oR (.int 3) x1.2.2), (9, oX 61 [cI x1.1, .sl 7, .sl 8])]⟩ [(pTo s44) x1] gamOK hT h (by kernel_rfl) ⟨(by (show Sh.sz _ _ ≤ 1048576; omega)), trivial⟩ ?_
      intro a w h
      refine then_normal ?_
      refine wp_seq ?_
      refine at_regq [{}, {}, { ids := [10] }, {}, {}, {}, { ids := [11] }] { ts := [2, 3, 4, 6, 7, 8, 9, 10, 11], os := [1, 2, 3, 4, 5, 6, 7, 8, 9, 10, 11] } [(fun (x0 : T112) (x1 : T61) => Sh.fit s112 x0 ∧ Sh.fit s61 x1) x0 x1] gamOK hT h (by kernel_rfl) ⟨(by exact ⟨(Sh.fit_of_sz s112 rfl (x := x0) (by omega)), (Sh.fit_of_sz s61 rfl (x := x1) (by omega))⟩), trivial⟩ ?_
      intro a w h
      refine then_normal ?_
      refine wp_seq ?_
      refine wp_seq ?_
      rcases Bool.eq_false_or_eq_true (!((Sh.eqB s112) (addPk x0 x1).1 (addPk x0 x1).1)) with h3 | h3
      · skip
        have hzh3 : ((Sh.eqB s112) (addPk x0 x1).1 (addPk x0 x1).1) = false := notT h3
        refine at_regq [{}, {}, {}, { hint := some (aB true) }] { ts := [2, 3, 4, 6, 7, 8, 9, 10, 11, 53], os := [1, 2, 3, 4, 5, 6, 7, 8, 9, 10, 11] } [True, (AV.p (.c (.v (.bool (!((Sh.eqB s112) (addPk x0 x1).1 (addPk x0 x1).1))))) = AV.p (.c (.v (.bool true))))] gamOK hT h (by kernel_rfl) ⟨trivial, hint_bool (h3), trivial⟩ ?_
        intro a w h
        refine then_normal ?_
        refine at_test true h (by kernel_rfl) (fun hh => ?_) (fun hh => nomatch hh)
        refine wp_seq ?_
        refine at_regq [] { ts := [2, 3, 4, 6, 7, 8, 9, 10, 11], os := [1, 2, 3, 4, 5, 6, 7, 8, 9, 10, 11] } [] gamOK hT h (by kernel_rfl) trivial ?_
        intro a w h
        refine then_normal ?_
        refine wp_ret ?_
        refine then_ret ?_
        exact at_return (S := S_laws_FnExactAddPacket) (x := (x0, x1, ())) (false, ()) [] h (by kernel_rfl) trivial (congrArg (fun z => (z, ())) (show (false) = D_laws_FnExactAddPacket x0 x1 from by unfold D_laws_FnExactAddPacket; exact absurd ((Sh.eqB_iff _).2 (show _ = _ from by first | rfl | (rfl))) (neT (notT h3))))
      · skip
        have hzh3 : ((Sh.eqB s112) (addPk x0 x1).1 (addPk x0 x1).1) = true := notF h3
        refine at_regq [{}, {}, {}, { hint := some (aB false) }] { ts := [2, 3, 4, 6, 7, 8, 9, 10, 11, 53], os := [1, 2, 3, 4, 5, 6, 7, 8, 9, 10, 11] } [True, (AV.p (.c (.v (.bool (!((Sh.eqB s112) (addPk x0 x1).1 (addPk x0 x1).1))))) = AV.p (.c (.v (.bool false))))] gamOK hT h (by kernel_rfl) ⟨trivial, hint_bool (h3), trivial⟩ ?_
        intro a w h
        refine then_normal ?_
        refine at_test (!((addPk x0 x1).2 == (addPk x0 x1).2)) h (by kernel_rfl) (fun h4 => ?_) (fun h4 => ?_)
        · replace h4 : ((addPk x0 x1).2 == (addPk x0 x1).2) = false := notT h4
          refine wp_seq ?_
          refine at_regq [] { ts := [2, 3, 4, 6, 7, 8, 9, 10, 11], os := [1, 2, 3, 4, 5, 6, 7, 8, 9, 10, 11] } [] gamOK hT h (by kernel_rfl) trivial ?_
          intro a w h
          refine then_normal ?_
          refine wp_ret ?_
          refine then_ret ?_
          exact at_return (S := S_laws_FnExactAddPacket) (x := (x0, x1, ())) (false, ()) [] h (by kernel_rfl) trivial (congrArg (fun z => (z, ())) (show (false) = D_laws_FnExactAddPacket x0 x1 from by unfold D_laws_FnExactAddPacket; exact absurd (beqT (show _ = _ from by first | rfl | (rfl))) (neT h4)))
        · replace h4 : ((addPk x0 x1).2 == (addPk x0 x1).2) = true := notF h4
          refine wp_skip ?_
          refine then_normal ?_
          refine wp_seq ?_
          refine wp_seq ?_
          refine at_anyq [{}, {}, { ids := [12] }, {}, {}] { ts := [2, 3, 4, 6, 7, 8, 9, 10, 11, 58], os := [1, 2, 3, 4, 5, 6, 7, 8, 9, 10, 11] } [(pTo s108) x0, True] gamOK hT mixed h (by kernel_rfl) ⟨(by (show Sh.sz _ _ ≤ 1048576; omega)), trivial, trivial⟩ ?_
          intro a w h
          refine then_normal ?_
          refine at_test (!((Sh.eqB s112) x0 x0)) h (by kernel_rfl) (fun h5 => ?_) (fun h5 => ?_)
          · replace h5 : ((Sh.eqB s112) x0 x0) = false := notT h5
            refine wp_seq ?_
            refine at_regq [] { ts := [2, 3, 4, 6, 7, 8, 9, 10, 11], os := [1, 2, 3, 4, 5, 6, 7, 8, 9, 10, 11] } [] gamOK hT h (by kernel_rfl) trivial ?_
            intro a w h
            refine then_normal ?_
            refine wp_ret ?_
            refine then_ret ?_
            exact at_return (S := S_laws_FnExactAddPacket) (x := (x0, x1, ())) (false, ()) [] h (by kernel_rfl) trivial (congrArg (fun z => (z, ())) (show (false) = D_laws_FnExactAddPacket x0 x1 from by unfold D_laws_FnExactAddPacket; exact absurd ((Sh.eqB_iff _).2 (show _ = _ from by first | rfl | (rfl))) (neT h5)))
          · replace h5 : ((Sh.eqB s112) x0 x0) = true := notF h5
            refine wp_skip ?_
            refine then_normal ?_
            refine wp_seq ?_
            refine wp_seq ?_
            refine at_anyq [{}, {}, { ids := [13, 14] }, {}, {}] { ts := [2, 3, 4, 6, 7, 8, 9, 10, 11, 63], os := [1, 2, 3, 4, 5, 6, 7, 8, 9, 10, 11] } [(pTo s44) x1, True] gamOK hT mixed h (by kernel_rfl) ⟨(by (show Sh.sz _ _ ≤ 1048576; omega)), trivial, trivial⟩ ?_
            intro a w h
            refine then_normal ?_
            refine at_test (!((Sh.eqB s61) x1 x1)) h (by kernel_rfl) (fun h6 => ?_) (fun h6 => ?_)
            · replace h6 : ((Sh.eqB s61) x1 x1) = false := notT h6
              refine wp_seq ?_
              refine at_regq [] { ts := [2, 3, 4, 6, 7, 8, 9, 10, 11], os := [1, 2, 3, 4, 5, 6, 7, 8, 9, 10, 11] } [] gamOK hT h (by kernel_rfl) trivial ?_
              intro a w h
              refine then_normal ?_
              refine wp_ret ?_
              refine then_ret ?_
              exact at_return (S := S_laws_FnExactAddPacket) (x := (x0, x1, ())) (false, ()) [] h (by kernel_rfl) trivial (congrArg (fun z => (z, ())) (show (false) = D_laws_FnExactAddPacket x0 x1 from by unfold D_laws_FnExactAddPacket; exact absurd ((Sh.eqB_iff _).2 (show _ = _ from by first | rfl | (rfl))) (neT h6)))
            · replace h6 : ((Sh.eqB s61) x1 x1) = true := notF h6
              refine wp_skip ?_
              refine then_normal ?_
              refine wp_seq ?_
              refine at_regq [] { ts := [2, 3, 4, 6, 7, 8, 9, 10, 11, 12], os := [1, 2, 3, 4, 5, 6, 7, 8, 9, 10, 11] } [] gamOK hT h (by kernel_rfl) trivial ?_
              intro a w h
              refine then_normal ?_
              refine wp_seq ?_
              refine at_regq [] { ts := [2, 3, 4, 6, 7, 9, 10, 11, 12], os := [1, 2, 3, 4, 7, 8, 9, 10, 11] } [(pMkT s112) x0 1] gamOK hT h (by kernel_rfl) ⟨(by (show (0 : Int) ≤ _ ∧ _ + ((Sh.ctT _ _ : Nat) : Int) ≤ (4611686018427387904 : Int); (try simp only [held_marked, held_markedT, mkK, mkKT, Sh.ctT_mkT, Sh.ct_mk]); constructor <;> omega)), trivial⟩ ?_
              intro a w h
              refine then_normal ?_
              refine wp_seq ?_
              refine at_regq [] { ts := [2, 3, 4, 6, 7, 10, 11, 12], os := [1, 2, 3, 4, 10, 11] } [(pMkT s61) x1 ((mkKT s112) x0 1)] gamOK hT h (by kernel_rfl) ⟨(by (show (0 : Int) ≤ _ ∧ _ + ((Sh.ctT _ _ : Nat) : Int) ≤ (4611686018427387904 : Int); (try simp only [held_marked, held_markedT, mkK, mkKT, Sh.ctT_mkT, Sh.ct_mk]); constructor <;> omega)), trivial⟩ ?_
              intro a w h
              refine then_normal ?_
              refine wp_seq ?_
              refine wp_seq ?_
              by_cases h7 : ((mkKT s61) x1 ((mkKT s112) x0 1)) < 0
              · skip
                refine at_regq [{}, { hint := some (aB true) }] { ts := [2, 3, 4, 6, 7, 10, 82], os := [1, 2, 3, 4, 10, 11] } [(AV.p (.c (.v (.bool (decide (((mkKT s61) x1 ((mkKT s112) x0 1)) < 0))))) = AV.p (.c (.v (.bool true))))] gamOK hT h (by kernel_rfl) ⟨hint_bool (decide_eq_true h7), trivial⟩ ?_
                intro a w h
                refine then_normal ?_
                refine at_test true h (by kernel_rfl) (fun hh => ?_) (fun hh => nomatch hh)
                refine wp_seq ?_
                refine at_reg [] { ts := [2, 3, 4, 6, 7, 10], os := [1, 2, 3, 4, 10, 11] } ⟨[(2, aP 1 0), (3, aP 2 0), (4, aB false), (6, aP 4 0), (7, aB (addPk x0 x1).2), (10, aP 11 0)], [(1, oX 108 [cI x0.1, cI x0.2.1, cI x0.2.2.1, cI x0.2.2.2.1, .ro s22 x0.2.2.2.2]), (2, oX 44 [cI x1.1, .ro (.int 3) x1.2.1, .ro (.int 3) x1.2.2]), (3, oF s22 (addPk x0 x1).1.2.2.2.2), (4, oX 112 [cI (addPk x0 x1).1.1, cI (addPk x0 x1).1.2.1, cI (addPk x0 x1).1.2.2.1, cI (addPk x0 x1).1.2.2.2.1, .sl 3]), (10, oR s22 (addPk x0 x1).1.2.2.2.2), (11, oX 112 [cI (addPk x0 x1).1.1, cI (addPk x0 x1).1.2.1, cI (addPk x0 x1).1.2.2.1, cI (addPk x0 x1).1.2.2.2.1, .sl 10])]⟩ [] gamOK hT h (by kernel_rfl) trivial ?_
                intro a w h
                refine then_normal ?_
                refine wp_ret ?_
                refine then_ret ?_
                exact at_return (S := S_laws_FnExactAddPacket) (x := (x0, x1, ())) (false, ()) [] h (by kernel_rfl) trivial (congrArg (fun z => (z, ())) (show (false) = D_laws_FnExactAddPacket x0 x1 from by unfold D_laws_FnExactAddPacket; (exfalso; simp only [mkK, mkKT, Sh.ctT_mkT, Sh.ct_mk] at h7; first | omega | exact h7 trivial | exact h7 rfl)))
              · skip
                refine at_regq [{}, { hint := some (aB false) }, {}, {}, {}, {}, { hint := some (aB false) }] { ts := [2, 3, 4, 6, 7, 10, 82], os := [1, 2, 3, 4, 10, 11] } [(AV.p (.c (.v (.bool (decide (((mkKT s61) x1 ((mkKT s112) x0 1)) < 0))))) = AV.p (.c (.v (.bool false)))), True, (AV.p (.c (.v (.bool (!((Sh.eqB s112) (addPk x0 x1).1 (addPk x0 x1).1))))) = AV.p (.c (.v (.bool false))))] gamOK hT h (by kernel_rfl) ⟨hint_bool (decide_eq_false h7), trivial, hint_bool (h3), trivial⟩ ?_
                intro a w h
                refine then_normal ?_
                refine at_test (!((addPk x0 x1).2 == (addPk x0 x1).2)) h (by kernel_rfl) (fun h8 => ?_) (fun h8 => ?_)
                · replace h8 : ((addPk x0 x1).2 == (addPk x0 x1).2) = false := notT h8
                  refine wp_seq ?_
                  refine at_reg [] { ts := [2, 3, 4, 6, 7, 10], os := [1, 2, 3, 4, 10, 11] } ⟨[(2, aP 1 0), (3, aP 2 0), (4, aB false), (6, aP 4 0), (7, aB (addPk x0 x1).2), (10, aP 11 0)], [(1, oX 108 [cI x0.1, cI x0.2.1, cI x0.2.2.1, cI x0.2.2.2.1, .ro s22 x0.2.2.2.2]), (2, oX 44 [cI x1.1, .ro (.int 3) x1.2.1, .ro (.int 3) x1.2.2]), (3, oF s22 (addPk x0 x1).1.2.2.2.2), (4, oX 112 [cI (addPk x0 x1).1.1, cI (addPk x0 x1).1.2.1, cI (addPk x0 x1).1.2.2.1, cI (addPk x0 x1).1.2.2.2.1, .sl 3]), (10, oR s22 (addPk x0 x1).1.2.2.2.2), (11, oX 112 [cI (addPk x0 x1).1.1, cI (addPk x0 x1).1.2.1, cI (addPk x0 x1).1.2.2.1, cI (addPk x0 x1).1.2.2.2.1, .sl 10])]⟩ [] gamOK hT h (by kernel_rfl) trivial ?_
                  intro a w h
                  refine then_normal ?_
                  refine wp_ret ?_
                  refine then_ret ?_
                  exact at_return (S := S_laws_FnExactAddPacket) (x := (x0, x1, ())) (false, ()) [] h (by kernel_rfl) trivial (congrArg (fun z => (z, ())) (show (false) = D_laws_FnExactAddPacket x0 x1 from by unfold D_laws_FnExactAddPacket; exact absurd (beqT (show _ = _ from by first | rfl | (rfl))) (neT h8)))
                · replace h8 : ((addPk x0 x1).2 == (addPk x0 x1).2) = true := notF h8
                  refine wp_skip ?_
                  refine then_normal ?_
                  refine wp_seq ?_
                  refine at_reg [] { ts := [2, 3, 4, 6, 7, 10, 13], os := [1, 2, 3, 4, 10, 11] } ⟨[(2, aP 1 0), (3, aP 2 0), (4, aB false), (6, aP 4 0), (7, aB (addPk x0 x1).2), (10, aP 11 0), (13, aI 1)], [(1, oX 108 [cI x0.1, cI x0.2.1, cI x0.2.2.1, cI x0.2.2.2.1, .ro s22 x0.2.2.2.2]), (2, oX 44 [cI x1.1, .ro (.int 3) x1.2.1, .ro (.int 3) x1.2.2]), (3, oF s22 (addPk x0 x1).1.2.2.2.2), (4, oX 112 [cI (addPk x0 x1).1.1, cI (addPk x0 x1).1.2.1, cI (addPk x0 x1).1.2.2.1, cI (addPk x0 x1).1.2.2.2.1, .sl 3]), (10, oR s22 (addPk x0 x1).1.2.2.2.2), (11, oX 112 [cI (addPk x0 x1).1.1, cI (addPk x0 x1).1.2.1, cI (addPk x0 x1).1.2.2.1, cI (addPk x0 x1).1.2.2.2.1, .sl 10])]⟩ [] gamOK hT h (by kernel_rfl) trivial ?_
                  intro a w h
                  refine then_normal ?_
                  refine wp_seq ?_
                  refine at_regq [] { ts := [2, 3, 4, 6, 7, 10, 13], os := [1, 2, 3, 4, 10, 11] } [(pMkT s112) (addPk x0 x1).1 1] gamOK hT h (by kernel_rfl) ⟨(by (show (0 : Int) ≤ _ ∧ _ + ((Sh.ctT _ _ : Nat) : Int) ≤ (4611686018427387904 : Int); (try simp only [held_marked, held_markedT, mkK, mkKT, Sh.ctT_mkT, Sh.ct_mk]); constructor <;> omega)), trivial⟩ ?_
                  intro a w h
                  refine then_normal ?_
                  refine wp_seq ?_
                  refine at_regq [] { ts := [2, 3, 4, 6, 7, 10, 13, 14], os := [1, 2, 3, 4, 10, 11] } [] gamOK hT h (by kernel_rfl) trivial ?_
                  intro a w h
                  refine then_normal ?_
                  refine wp_seq ?_
                  refine at_regq [] { ts := [2, 3, 4, 6, 7, 10, 13, 14], os := [1, 2, 3, 4, 10, 11] } [(pMkT s112) ((Sh.mkT s112) (addPk x0 x1).1 1) 1] gamOK hT h (by kernel_rfl) ⟨(by (show (0 : Int) ≤ _ ∧ _ + ((Sh.ctT _ _ : Nat) : Int) ≤ (4611686018427387904 : Int); (try simp only [held_marked, held_markedT, mkK, mkKT, Sh.ctT_mkT, Sh.ct_mk]); constructor <;> omega)), trivial⟩ ?_
                  intro a w h
                  refine then_normal ?_
                  refine wp_seq ?_
                  refine wp_seq ?_
                  refine at_regq [] { ts := [2, 3, 4, 6, 7, 10, 13, 14, 90], os := [1, 2, 3, 4, 10, 11] } [] gamOK hT h (by kernel_rfl) trivial ?_
                  intro a w h
                  refine then_normal ?_
                  refine at_test (decide (((heldDT s112) ((Sh.mkT s112) (addPk x0 x1).1 1) 1) < 0)) h (by kernel_rfl) (fun h9 => ?_) (fun h9 => ?_)
                  · replace h9 : ((heldDT s112) ((Sh.mkT s112) (addPk x0 x1).1 1) 1) < 0 := of_decide_eq_true h9
                    refine wp_seq ?_
                    refine at_regq [] { ts := [2, 3, 4, 6, 7, 10, 13, 14], os := [1, 2, 3, 4, 10, 11] } [] gamOK hT h (by kernel_rfl) trivial ?_
                    intro a w h
                    refine then_normal ?_
                    refine wp_ret ?_
                    refine then_ret ?_
                    exact at_return (S := S_laws_FnExactAddPacket) (x := (x0, x1, ())) (false, ()) [] h (by kernel_rfl) trivial (congrArg (fun z => (z, ())) (show (false) = D_laws_FnExactAddPacket x0 x1 from by unfold D_laws_FnExactAddPacket; (exfalso; simp only [held_marked, held_markedT, mkK, mkKT, Sh.ctT_mkT, Sh.ct_mk] at h9; first | omega | exact h9 trivial | exact h9 rfl)))
                  · replace h9 : ¬ (((heldDT s112) ((Sh.mkT s112) (addPk x0 x1).1 1) 1) < 0) := of_decide_eq_false h9
                    refine wp_skip ?_
                    refine then_normal ?_
                    refine wp_seq ?_
                    refine wp_seq ?_
                    refine at_regq [] { ts := [2, 3, 4, 6, 7, 10, 13, 93], os := [1, 2, 3, 4, 10, 11] } [] gamOK hT h (by kernel_rfl) trivial ?_
                    intro a w h
                    refine then_normal ?_
                    refine at_test (!decide (((heldDT s112) ((Sh.mkT s112) (addPk x0 x1).1 1) 1) = ((mkKT s112) (addPk x0 x1).1 1))) h (by kernel_rfl) (fun h10 => ?_) (fun h10 => ?_)
                    · replace h10 : ¬ (((heldDT s112) ((Sh.mkT s112) (addPk x0 x1).1 1) 1) = ((mkKT s112) (addPk x0 x1).1 1)) := of_decide_eq_false (notT h10)
                      refine wp_seq ?_
                      refine at_regq [] { ts := [2, 3, 4, 6, 7, 10, 13], os := [1, 2, 3, 4, 10, 11] } [] gamOK hT h (by kernel_rfl) trivial ?_
                      intro a w h
                      refine then_normal ?_
                      refine wp_ret ?_
                      refine then_ret ?_
                      exact at_return (S := S_laws_FnExactAddPacket) (x := (x0, x1, ())) (false, ()) [] h (by kernel_rfl) trivial (congrArg (fun z => (z, ())) (show (false) = D_laws_FnExactAddPacket x0 x1 from by unfold D_laws_FnExactAddPacket; (exfalso; simp only [held_marked, held_markedT, mkK, mkKT, Sh.ctT_mkT, Sh.ct_mk] at h10; first | omega | exact h10 trivial | exact h10 rfl)))
                    · replace h10 : ((heldDT s112) ((Sh.mkT s112) (addPk x0 x1).1 1) 1) = ((mkKT s112) (addPk x0 x1).1 1) := of_decide_eq_true (notF h10)
                      refine wp_skip ?_
                      refine then_normal ?_
                      refine wp_seq ?_
                      refine at_anyq [{}, { ids := [15] }, {}, { ids := [16, 17] }, { ids := [18] }, {}, {}, {}, { ids := [19] }, {}, {}] { ts := [4, 6, 7, 10, 13, 15, 16], os := [3, 4, 10, 11, 18, 19] } [(pTo s108) x0, (pTo s44) x1, (fun (x0 : T112) (x1 : T61) => Sh.fit s112 x0 ∧ Sh.fit s61 x1) x0 x1] gamOK hT mixed h (by kernel_rfl) ⟨(by (show Sh.sz _ _ ≤ 1048576; omega)), (by (show Sh.sz _ _ ≤ 1048576; omega)), (by exact ⟨(Sh.fit_of_sz s112 rfl (x := x0) (by omega)), (Sh.fit_of_sz s61 rfl (x := x1) (by omega))⟩), trivial⟩ ?_
                      intro a w h
                      refine then_normal ?_
                      refine wp_seq ?_
                      refine wp_seq ?_
                      refine at_regq [{}, {}, {}, { hint := some (aB false) }] { ts := [4, 10, 13, 110], os := [10, 11] } [True, (AV.p (.c (.v (.bool (!((Sh.eqB s112) (addPk x0 x1).1 (addPk x0 x1).1))))) = AV.p (.c (.v (.bool false))))] gamOK hT h (by kernel_rfl) ⟨trivial, hint_bool (h3), trivial⟩ ?_
                      intro a w h
                      refine then_normal ?_
                      refine at_test (!((addPk x0 x1).2 == (addPk x0 x1).2)) h (by kernel_rfl) (fun h11 => ?_) (fun h11 => ?_)
                      · replace h11 : ((addPk x0 x1).2 == (addPk x0 x1).2) = false := notT h11
                        refine wp_seq ?_
                        refine at_regq [] { ts := [4, 10, 13], os := [10, 11] } [] gamOK hT h (by kernel_rfl) trivial ?_
                        intro a w h
                        refine then_normal ?_
                        refine wp_ret ?_
                        refine then_ret ?_
                        exact at_return (S := S_laws_FnExactAddPacket) (x := (x0, x1, ())) (false, ()) [] h (by kernel_rfl) trivial (congrArg (fun z => (z, ())) (show (false) = D_laws_FnExactAddPacket x0 x1 from by unfold D_laws_FnExactAddPacket; exact absurd (beqT (show _ = _ from by first | rfl | (rfl))) (neT h11)))
                      · replace h11 : ((addPk x0 x1).2 == (addPk x0 x1).2) = true := notF h11
                        refine wp_skip ?_
                        refine then_normal ?_
                        refine wp_seq ?_
                        refine at_regq [] { ts := [4, 10, 13, 14], os := [10, 11] } [] gamOK hT h (by kernel_rfl) trivial ?_
                        intro a w h
                        refine then_normal ?_
                        refine wp_seq ?_
                        refine at_reg [] { ts := [4, 13, 14], os := [] } ⟨[(4, aB false), (13, aI ((mkKT s112) (addPk x0 x1).1 1)), (14, aI ((heldDT s112) ((Sh.mkT s112) (addPk x0 x1).1 1) 1))], []⟩ [(pMkT s112) ((Sh.mkT s112) (addPk x0 x1).1 1) 1] gamOK hT h (by kernel_rfl) ⟨(by (show (0 : Int) ≤ _ ∧ _ + ((Sh.ctT _ _ : Nat) : Int) ≤ (4611686018427387904 : Int); (try simp only [held_marked, held_markedT, mkK, mkKT, Sh.ctT_mkT, Sh.ct_mk]); constructor <;> omega)), trivial⟩ ?_
                        intro a w h
                        refine then_normal ?_
                        refine wp_seq ?_
                        refine wp_seq ?_
                        refine at_regq [] { ts := [4, 13, 14, 115], os := [] } [] gamOK hT h (by kernel_rfl) trivial ?_
                        intro a w h
                        refine then_normal ?_
                        refine at_test (decide (((heldDT s112) ((Sh.mkT s112) (addPk x0 x1).1 1) 1) < 0)) h (by kernel_rfl) (fun h12 => ?_) (fun h12 => ?_)
                        · replace h12 : ((heldDT s112) ((Sh.mkT s112) (addPk x0 x1).1 1) 1) < 0 := of_decide_eq_true h12
                          refine wp_seq ?_
                          refine at_regq [] { ts := [4, 13, 14], os := [] } [] gamOK hT h (by kernel_rfl) trivial ?_
                          intro a w h
                          refine then_normal ?_
                          refine wp_ret ?_
                          refine then_ret ?_
                          exact at_return (S := S_laws_FnExactAddPacket) (x := (x0, x1, ())) (false, ()) [] h (by kernel_rfl) trivial (congrArg (fun z => (z, ())) (show (false) = D_laws_FnExactAddPacket x0 x1 from by unfold D_laws_FnExactAddPacket; (exfalso; simp only [held_marked, held_markedT, mkK, mkKT, Sh.ctT_mkT, Sh.ct_mk] at h12; first | omega | exact h12 trivial | exact h12 rfl)))
                        · replace h12 : ¬ (((heldDT s112) ((Sh.mkT s112) (addPk x0 x1).1 1) 1) < 0) := of_decide_eq_false h12
                          refine wp_skip ?_
                          refine then_normal ?_
                          refine wp_seq ?_
                          refine wp_seq ?_
                          refine at_regq [] { ts := [4, 118], os := [] } [] gamOK hT h (by kernel_rfl) trivial ?_
                          intro a w h
                          refine then_normal ?_
                          refine at_test (!decide (((heldDT s112) ((Sh.mkT s112) (addPk x0 x1).1 1) 1) = ((mkKT s112) (addPk x0 x1).1 1))) h (by kernel_rfl) (fun h13 => ?_) (fun h13 => ?_)
                          · replace h13 : ¬ (((heldDT s112) ((Sh.mkT s112) (addPk x0 x1).1 1) 1) = ((mkKT s112) (addPk x0 x1).1 1)) := of_decide_eq_false (notT h13)
                            refine wp_seq ?_
                            refine at_regq [] { ts := [4], os := [] } [] gamOK hT h (by kernel_rfl) trivial ?_
                            intro a w h
                            refine then_normal ?_
                            refine wp_ret ?_
                            refine then_ret ?_
                            exact at_return (S := S_laws_FnExactAddPacket) (x := (x0, x1, ())) (false, ()) [] h (by kernel_rfl) trivial (congrArg (fun z => (z, ())) (show (false) = D_laws_FnExactAddPacket x0 x1 from by unfold D_laws_FnExactAddPacket; (exfalso; simp only [held_marked, held_markedT, mkK, mkKT, Sh.ctT_mkT, Sh.ct_mk] at h13; first | omega | exact h13 trivial | exact h13 rfl)))
                          · replace h13 : ((heldDT s112) ((Sh.mkT s112) (addPk x0 x1).1 1) 1) = ((mkKT s112) (addPk x0 x1).1 1) := of_decide_eq_true (notF h13)
                            refine wp_skip ?_
                            refine then_normal ?_
                            refine wp_seq ?_
                            refine at_regq [] { ts := [4], os := [] } [] gamOK hT h (by kernel_rfl) trivial ?_
                            intro a w h
                            refine then_normal ?_
                            refine wp_ret ?_
                            exact at_return (S := S_laws_FnExactAddPacket) (x := (x0, x1, ())) (true, ()) [] h (by kernel_rfl) trivial (congrArg (fun z => (z, ())) (show (true) = D_laws_FnExactAddPacket x0 x1 from by unfold D_laws_FnExactAddPacket; rfl))

theorem opn3 : OpensS Try.prog 3 (.int 3) := opensS_int Try.underlying3
theorem co3 : Try.prog.cellsOf 3 = 1 := by kernel_rfl
theorem opn22 : OpensS Try.prog 22 s22 := opensS_slice (a := (.int 3)) Try.underlying22 co3 opn3
theorem co22 : Try.prog.cellsOf 22 = 1 := by kernel_rfl
theorem opn97 : OpensS Try.prog 97 s97 := opensS_slice (a := s22) Try.underlying97 co22 opn22
theorem co97 : Try.prog.cellsOf 97 = 1 := by kernel_rfl
theorem co99 : Try.prog.cellsOf 99 = 2 := by kernel_rfl
theorem opn99 : OpensS Try.prog 99 s99 := by
  intro H enc w base spare held fuel cs x h
  obtain ⟨xs, n, _, _, hl, hlen, hf⟩ := DataW.trod_struct Try.underlying99 h
  obtain ⟨a0, k0, i0⟩ := opensS_field (a := (.int 3)) (i := 0) 0 1 hf hlen rfl rfl rfl co3 opn3
  obtain ⟨a1, k1, i1⟩ := opensS_field (a := s97) (i := 1) 1 1 hf hlen rfl rfl rfl co97 opn97
  rw [co99] at hl
  exact ⟨(a0, a1), (rdS_pair (off := 0) k0 (rdS_last (off := 1) k1 (by omega))), ⟨i0, i1⟩⟩
theorem co108 : Try.prog.cellsOf 108 = 5 := by kernel_rfl
theorem opn108 : OpensS Try.prog 108 s108 := by
  intro H enc w base spare held fuel cs x h
  obtain ⟨xs, n, _, _, hl, hlen, hf⟩ := DataW.trod_struct Try.underlying108 h
  obtain ⟨a0, k0, i0⟩ := opensS_field (a := (.int 3)) (i := 0) 0 1 hf hlen rfl rfl rfl co3 opn3
  obtain ⟨a1, k1, i1⟩ := opensS_field (a := (.int 3)) (i := 1) 1 1 hf hlen rfl rfl rfl co3 opn3
  obtain ⟨a2, k2, i2⟩ := opensS_field (a := (.int 3)) (i := 2) 2 1 hf hlen rfl rfl rfl co3 opn3
  obtain ⟨a3, k3, i3⟩ := opensS_field (a := s99) (i := 3) 3 2 hf hlen rfl rfl rfl co99 opn99
  rw [co108] at hl
  exact ⟨(a0, (a1, (a2, a3))), (rdS_pair (off := 0) k0 (rdS_pair (off := 1) k1 (rdS_pair (off := 2) k2 (rdS_last (off := 3) k3 (by omega))))), ⟨i0, ⟨i1, ⟨i2, i3⟩⟩⟩⟩
theorem co44 : Try.prog.cellsOf 44 = 3 := by kernel_rfl
theorem opn44 : OpensS Try.prog 44 s44 := by
  intro H enc w base spare held fuel cs x h
  obtain ⟨xs, n, _, _, hl, hlen, hf⟩ := DataW.trod_struct Try.underlying44 h
  obtain ⟨a0, k0, i0⟩ := opensS_field (a := (.int 3)) (i := 0) 0 1 hf hlen rfl rfl rfl co3 opn3
  obtain ⟨a1, k1, i1⟩ := opensS_field (a := s22) (i := 1) 1 1 hf hlen rfl rfl rfl co22 opn22
  obtain ⟨a2, k2, i2⟩ := opensS_field (a := s22) (i := 2) 2 1 hf hlen rfl rfl rfl co22 opn22
  rw [co44] at hl
  exact ⟨(a0, (a1, a2)), (rdS_pair (off := 0) k0 (rdS_pair (off := 1) k1 (rdS_last (off := 2) k2 (by omega)))), ⟨i0, ⟨i1, i2⟩⟩⟩
namespace fnExactAddPacket
open Go.ChangeShapes Go.WideShapes Go.ChangeAt Go.RowKit
theorem own : ownKnob Try.prog.godebug = none := by kernel_rfl
theorem laidOut : laidOutB Try.prog = true := fxLaid
set_option maxRecDepth 100000 in
theorem lifted (os : Os) (started : os.Started) (H : Type) (enc : TypeId × Value → H) :
    ReturnsInHanded {} Try.checked os 8 .any (Rows.fnExactAddPacketSpec.pre6 enc Try.prog Try.f8 Rows.fnExactAddPacketRow.domain false) (Rows.fnExactAddPacketSpec.post enc Try.prog Try.f8 false true false false) := by
  refine returnsInHanded_of_change (C := Try.checked) own started (by kernel_rfl) Try.func8
    (ChangeSpec.witness6 (enc := enc) (C := Try.checked) false ⟨#[], #[.agg #[.int .i64 0, .int .i64 0, .int .i64 0, .int .i64 0, .slice none 0 0], .agg #[.int .i64 0, .slice none 0 0, .slice none 0 0]], []⟩ 8 (by kernel_rfl) (by kernel_rfl) (by kernel_rfl) (by kernel_rfl)) ?_
  intro W base args ds gs before hval0 hW hcnd _
  have hval : ∀ (j : Nat) t v, Try.f8.params[j]? = some t → args[j]? = some v → Value.okWide Try.prog W .any base t v := hval0
  have hW' := hW
  obtain ⟨p, q, hA0, hV, rfl, hfz, hnd⟩ := hW
  have hA : DataW.TrodAll enc Try.prog W 0 (fun _ => true) true Try.f8.params.toList args.toList ds p := hA0
  rw [Try.params8] at hA hval
  obtain ⟨v0, vs0, d0, ds0, p0, q0, hargs, rfl, rfl, h0, r0⟩ := trodAll_cons hA
  obtain ⟨v1, vs1, d1, ds1, p1, q1, rfl, rfl, rfl, h1, r1⟩ := trodAll_cons r0
  obtain ⟨rfl, rfl, rfl⟩ := trodAll_nil r1
  obtain rfl : args = #[v0, v1] := by cases args; simp_all
  obtain ⟨rfl, rfl⟩ := trodVars_none hV
  have k0 := h0
  have lt0 : ∀ x ∈ p0, x.block < W.heap.size := by obtain ⟨m, hm⟩ := k0; exact DataW.trod_lt m _ _ _ hm
  obtain ⟨cs0, rfl, _⟩ := okWide_struct Try.underlying108 (hval 0 108 v0 rfl rfl)
  obtain ⟨cs0⟩ := cs0
  obtain ⟨x0, hx0, i0⟩ : ∃ x : (s108).D, (s108).rd W (fun b => b < W.heap.size) cs0 x ∧ (s108).i64 x := by obtain ⟨fuel, hf⟩ := h0; exact opn108 hf
  have k1 := h1
  have lt1 : ∀ x ∈ p1, x.block < W.heap.size := by obtain ⟨m, hm⟩ := k1; exact DataW.trod_lt m _ _ _ hm
  obtain ⟨cs1, rfl, _⟩ := okWide_struct Try.underlying44 (hval 1 44 v1 rfl rfl)
  obtain ⟨cs1⟩ := cs1
  obtain ⟨x1, hx1, i1⟩ : ∃ x : (s44).D, (s44).rd W (fun b => b < W.heap.size) cs1 x ∧ (s44).i64 x := by obtain ⟨fuel, hf⟩ := h1; exact opn44 hf
  clear hA0 hval0
  refine (calls_law S_laws_FnExactAddPacket_ok (by kernel_rfl) W (fun b => b < W.heap.size) [.agg cs0.toArray, .agg cs1.toArray] (x0, x1, ()) (fun _ h => h) ⟨argRd_st hx0, argRd_st hx1, trivial⟩ ⟨i0, i1⟩).mono fun e W' hr => ?_
  obtain ⟨he, bel⟩ := ret_bool hr
  subst he
  exact ⟨_, rfl, _, _, _, [], _, [], hW', trodAll_mk1 (shut_bool Try.underlying4 _), (trodAll_cons_mk (Below.trod laidOut (by kernel_rfl) (of_decide_eq_true (by kernel_rfl)) k0 bel lt0) (trodAll_cons_mk (Below.trod laidOut (by kernel_rfl) (of_decide_eq_true (by kernel_rfl)) k1 bel lt1) trodAll_mk0)), rfl, bel.frame _, fun h => by cases h⟩
theorem closed : joinedFacts Try.prog 8 Try.f8 (Rows.fnExactAddPacketSpec) Rows.fnExactAddPacketRow = true := by
  unfold joinedFacts
  exact (and2 (and2 (and2 (and2 (and2 (and2 (and2 (and2 (and2 (and2 (and2 (and2 (and2 (and2 (and2 (and2 (and2 (and2 (and2 (and2 (and2 (and2 (and2 (and2 (and2 (and2 (and2 (and2 (and2 (and2 (and2 (by kernel_rfl) fxLaid) fxMaps) (by kernel_rfl)) (by kernel_rfl)) (by kernel_rfl)) (by kernel_rfl)) (by kernel_rfl)) (by kernel_rfl)) (by kernel_rfl)) (by kernel_rfl)) (by kernel_rfl)) (by kernel_rfl)) (by kernel_rfl)) (by kernel_rfl)) (by kernel_rfl)) (by kernel_rfl)) (by kernel_rfl)) (by kernel_rfl)) (by kernel_rfl)) (by kernel_rfl)) (by kernel_rfl)) (by kernel_rfl)) (by kernel_rfl)) (by kernel_rfl)) fxEnter) (by rw [fxLifts]; kernel_rfl)) (by rw [fxMake]; kernel_rfl)) (by kernel_rfl)) (by kernel_rfl)) (by kernel_rfl)) (by kernel_rfl))
theorem over : Rows.fnExactAddPacketRow.holds Try.pinned (OpenSpec.ofChange Rows.fnExactAddPacketSpec) :=
  OpenClaim.holds_of_wide 8 Try.f8 rfl rfl rfl rfl rfl rfl rfl ⟨rfl, rfl, rfl, rfl, rfl⟩ rfl rfl rfl rfl rfl (by kernel_rfl) Try.func8 closed
    (of_decide_eq_true (by kernel_rfl)) (by unfold Func.isWrapper; first | (rw [if_pos (by decide +kernel)]; kernel_rfl) | (rw [if_neg (by decide +kernel)]; exact ⟨rfl, rfl⟩))
    (fun os started H enc _ => lifted os started H enc)
/-- the statement -/
theorem proved : Rows.FnExactAddPacketSaid := over
end fnExactAddPacket

end Go.Proofs.Ytdmkjcnppgfeoaa

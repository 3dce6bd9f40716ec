/- The law FnExactAcceptPacket returns true for every input and leaves its arguments as they were. No condition. -/
import Derived.Test.YtkialoggpcdhkaaAcceptPacket2
import Derived.Test.YtkialoggpcdhkaaLA
import Derived.Test.YtkialoggpcdhkaaProg
import Derived.Test.YtkialoggpcdhkaaRows
import Derived.Test.YtkialoggpcdhkaaFX
namespace Go.Proofs.Ytkialoggpcdhkaa
open Go.RowKit
set_option linter.unusedVariables false
set_option linter.unusedSimpArgs false
def validP (x0 : T126) (x1 : Int) (x2 : Int) : Bool := (if (isFmt x0.1 x1 x2) = true then (if ((List.length x0.2.1 : Nat) : Int) = x1 then (if ((List.length x0.2.2 : Nat) : Int) = x2 then (if (validV x0.2.1) = true then (validV x0.2.2) else false) else false) else false) else false)
def S_impl_IsValidPacket : Sum := { fid := 179, dom := [s126, (.int 3), (.int 3)], cod := [(.bool 4)], dp := true, fz := false, pre := fun x => (fun (x0 : T126) (x1 : Int) (x2 : Int) => Sh.fit s126 x0) x.1 x.2.1 x.2.2.1, g := fun x => ((validP x.1 x.2.1 x.2.2.1), ()) }
def S_impl_IsValidPacket_tab : List (Nat × Sum) := [(196, S_impl_isFormat), (215, S_impl_IsValidVector)]
theorem S_impl_IsValidPacket_ok : FnOK Try.prog 179 S_impl_IsValidPacket := by
  refine at_enter 36 (fun x => ⟨[(0, aG [cI x.1.1, .ro (.int 3) x.1.2.1, .ro (.int 3) x.1.2.2]), (1, aI x.2.1), (2, aI x.2.2.1)], []⟩) Try.func179 rfl (by kernel_rfl) (fun x => rfl) ?_
  rintro w0 Z0 ⟨x0, x1, x2, u⟩ a w
  revert x0 x1 x2
  intro (x0 : T126) (x1 : Int) (x2 : Int) hpre hlens h
  replace h : At w0 Z0 [] 36 ⟨[(0, aG [cI x0.1, .ro (.int 3) x0.2.1, .ro (.int 3) x0.2.2]), (1, aI x1), (2, aI x2)], []⟩ a w := h
  replace hpre : (fun (x0 : T126) (x1 : Int) (x2 : Int) => Sh.fit s126 x0) x0 x1 x2 := hpre
  have hl1 : List.length x0.2.1 ≤ 9223372036854775807 := hlens.1.2.1.1
  have hl2 : List.length x0.2.2 ≤ 9223372036854775807 := hlens.1.2.2.1
  have hT : TabOK Try.prog S_impl_IsValidPacket_tab := (.cons S_impl_isFormat_ok (.cons S_impl_IsValidVector_ok .nil))
  have hf0 : Sh.fit s126 x0 := hpre
  have hn0_1 : List.length x0.2.1 ≤ 1073741824 := hf0.2.1.1
  have hn0_2 : List.length x0.2.2 ≤ 1073741824 := hf0.2.2.1
  refine wp_seq ?_
  refine at_regq [{ ids := [1] }] { ts := [1, 2, 3, 6], os := [1] } [] gamOK hT h (by kernel_rfl) trivial ?_
  intro a w h
  refine then_normal ?_
  refine wp_seq ?_
  rcases Bool.eq_false_or_eq_true ((isFmt x0.1 x1 x2)) with h1 | h1
  · skip
    have hvh1 := isFmt_t h1
    by_cases h2 : ((List.length x0.2.1 : Nat) : Int) = x1
    · skip
      by_cases h3 : ((List.length x0.2.2 : Nat) : Int) = x2
      · skip
        rcases Bool.eq_false_or_eq_true ((validV x0.2.1)) with h4 | h4
        · skip
          have hvh4 := validV_t h4
          refine at_regq [{}, {}, {}, {}, { hint := some (aB true) }, {}, {}, {}, {}, {}, { hint := some (aB true) }, {}, {}, {}, {}, {}, {}, { hint := some (aB true) }, {}, {}, {}, {}, { hint := some (aB true) }] { ts := [6], os := [] } [True, (AV.p (.c (.v (.bool ((isFmt x0.1 x1 x2))))) = AV.p (.c (.v (.bool true)))), (AV.p (.c (.v (.bool (decide (((List.length x0.2.1 : Nat) : Int) = x1))))) = AV.p (.c (.v (.bool true)))), (AV.p (.c (.v (.bool (decide (((List.length x0.2.2 : Nat) : Int) = x2))))) = AV.p (.c (.v (.bool true)))), (fun (x0 : (List Int)) => Sh.fit s22 x0) x0.2.1, (AV.p (.c (.v (.bool ((validV x0.2.1))))) = AV.p (.c (.v (.bool true)))), (fun (x0 : (List Int)) => Sh.fit s22 x0) x0.2.2] gamOK hT h (by kernel_rfl) ⟨trivial, hint_bool (h1), hint_bool (decide_eq_true h2), hint_bool (decide_eq_true h3), (by exact hf0.2.1), hint_bool (h4), (by exact hf0.2.2), trivial⟩ ?_
          intro a w h
          refine then_normal ?_
          refine wp_ret ?_
          exact at_return (S := S_impl_IsValidPacket) (x := (x0, x1, x2, ())) ((validV x0.2.2), ()) [] h (by kernel_rfl) trivial (congrArg (fun z => (z, ())) (show ((validV x0.2.2)) = validP x0 x1 x2 from by first | rfl | (unfold validP; rw [if_pos h1, if_pos h2, if_pos h3, if_pos h4])))
        · skip
          refine at_regq [{}, {}, {}, {}, { hint := some (aB true) }, {}, {}, {}, {}, {}, { hint := some (aB true) }, {}, {}, {}, {}, {}, {}, { hint := some (aB true) }, {}, {}, {}, {}, { hint := some (aB false) }] { ts := [6], os := [] } [True, (AV.p (.c (.v (.bool ((isFmt x0.1 x1 x2))))) = AV.p (.c (.v (.bool true)))), (AV.p (.c (.v (.bool (decide (((List.length x0.2.1 : Nat) : Int) = x1))))) = AV.p (.c (.v (.bool true)))), (AV.p (.c (.v (.bool (decide (((List.length x0.2.2 : Nat) : Int) = x2))))) = AV.p (.c (.v (.bool true)))), (fun (x0 : (List Int)) => Sh.fit s22 x0) x0.2.1, (AV.p (.c (.v (.bool ((validV x0.2.1))))) = AV.p (.c (.v (.bool false))))] gamOK hT h (by kernel_rfl) ⟨trivial, hint_bool (h1), hint_bool (decide_eq_true h2), hint_bool (decide_eq_true h3), (by exact hf0.2.1), hint_bool (h4), trivial⟩ ?_
          intro a w h
          refine then_normal ?_
          refine wp_ret ?_
          exact at_return (S := S_impl_IsValidPacket) (x := (x0, x1, x2, ())) (false, ()) [] h (by kernel_rfl) trivial (congrArg (fun z => (z, ())) (show (false) = validP x0 x1 x2 from by first | rfl | (unfold validP; rw [if_pos h1, if_pos h2, if_pos h3, if_neg (neT h4)])))
      · skip
        refine at_regq [{}, {}, {}, {}, { hint := some (aB true) }, {}, {}, {}, {}, {}, { hint := some (aB true) }, {}, {}, {}, {}, {}, {}, { hint := some (aB false) }] { ts := [6], os := [] } [True, (AV.p (.c (.v (.bool ((isFmt x0.1 x1 x2))))) = AV.p (.c (.v (.bool true)))), (AV.p (.c (.v (.bool (decide (((List.length x0.2.1 : Nat) : Int) = x1))))) = AV.p (.c (.v (.bool true)))), (AV.p (.c (.v (.bool (decide (((List.length x0.2.2 : Nat) : Int) = x2))))) = AV.p (.c (.v (.bool false))))] gamOK hT h (by kernel_rfl) ⟨trivial, hint_bool (h1), hint_bool (decide_eq_true h2), hint_bool (decide_eq_false h3), trivial⟩ ?_
        intro a w h
        refine then_normal ?_
        refine wp_ret ?_
        exact at_return (S := S_impl_IsValidPacket) (x := (x0, x1, x2, ())) (false, ()) [] h (by kernel_rfl) trivial (congrArg (fun z => (z, ())) (show (false) = validP x0 x1 x2 from by first | rfl | (unfold validP; rw [if_pos h1, if_pos h2, if_neg h3])))
    · skip
      refine at_regq [{}, {}, {}, {}, { hint := some (aB true) }, {}, {}, {}, {}, {}, { hint := some (aB false) }] { ts := [6], os := [] } [True, (AV.p (.c (.v (.bool ((isFmt x0.1 x1 x2))))) = AV.p (.c (.v (.bool true)))), (AV.p (.c (.v (.bool (decide (((List.length x0.2.1 : Nat) : Int) = x1))))) = AV.p (.c (.v (.bool false))))] gamOK hT h (by kernel_rfl) ⟨trivial, hint_bool (h1), hint_bool (decide_eq_false h2), trivial⟩ ?_
      intro a w h
      refine then_normal ?_
      refine wp_ret ?_
      exact at_return (S := S_impl_IsValidPacket) (x := (x0, x1, x2, ())) (false, ()) [] h (by kernel_rfl) trivial (congrArg (fun z => (z, ())) (show (false) = validP x0 x1 x2 from by first | rfl | (unfold validP; rw [if_pos h1, if_neg h2])))
  · skip
    refine at_regq [{}, {}, {}, {}, { hint := some (aB false) }] { ts := [6], os := [] } [True, (AV.p (.c (.v (.bool ((isFmt x0.1 x1 x2))))) = AV.p (.c (.v (.bool false))))] gamOK hT h (by kernel_rfl) ⟨trivial, hint_bool (h1), trivial⟩ ?_
    intro a w h
    refine then_normal ?_
    refine wp_ret ?_
    exact at_return (S := S_impl_IsValidPacket) (x := (x0, x1, x2, ())) (false, ()) [] h (by kernel_rfl) trivial (congrArg (fun z => (z, ())) (show (false) = validP x0 x1 x2 from by first | rfl | (unfold validP; rw [if_neg (neT h1)])))
theorem validP_t {p : T126} {s w : Int} (h : validP p s w = true) : isFmt p.1 s w = true ∧ ((List.length p.2.1 : Nat) : Int) = s ∧ ((List.length p.2.2 : Nat) : Int) = w ∧ validV p.2.1 = true ∧ validV p.2.2 = true := by
  unfold validP at h
  split at h
  · split at h
    · split at h
      · split at h
        · exact ⟨by assumption, by assumption, by assumption, by assumption, h⟩
        · cases h
      · cases h
    · cases h
  · cases h
theorem validP_n {p : T126} {s w : Int} (h : validP p s w = true) : ((0 ≤ p.1 ∧ p.1 ≤ 1000000000000) ∧ (1 ≤ s ∧ s ≤ 8) ∧ (1 ≤ w ∧ w ≤ 16)) ∧ ((List.length p.2.1 : Nat) : Int) = s ∧ ((List.length p.2.2 : Nat) : Int) = w := ⟨isFmt_t (validP_t h).1, (validP_t h).2.1, (validP_t h).2.2.1⟩
theorem validP_of {p : T126} {s w : Int} (h : isFmt p.1 s w = true ∧ ((List.length p.2.1 : Nat) : Int) = s ∧ ((List.length p.2.2 : Nat) : Int) = w ∧ validV p.2.1 = true ∧ validV p.2.2 = true) : validP p s w = true := by
  unfold validP; rw [if_pos h.1, if_pos h.2.1, if_pos h.2.2.1, if_pos h.2.2.2.1]; exact h.2.2.2.2

def S_spec_IsValidPacket : Sum := { fid := 176, dom := [s126, (.int 3), (.int 3)], cod := [(.bool 4)], dp := true, fz := false, pre := fun x => (fun (x0 : T126) (x1 : Int) (x2 : Int) => Sh.fit s126 x0) x.1 x.2.1 x.2.2.1, g := fun x => ((validP x.1 x.2.1 x.2.2.1), ()) }
def S_spec_IsValidPacket_tab : List (Nat × Sum) := [(138, S_spec_l1In), (208, S_spec_IsValidVector)]
theorem S_spec_IsValidPacket_ok : FnOK Try.prog 176 S_spec_IsValidPacket := by
  refine at_enter 42 (fun x => ⟨[(0, aG [cI x.1.1, .ro (.int 3) x.1.2.1, .ro (.int 3) x.1.2.2]), (1, aI x.2.1), (2, aI x.2.2.1)], []⟩) Try.func176 rfl (by kernel_rfl) (fun x => rfl) ?_
  rintro w0 Z0 ⟨x0, x1, x2, u⟩ a w
  revert x0 x1 x2
  intro (x0 : T126) (x1 : Int) (x2 : Int) hpre hlens h
  replace h : At w0 Z0 [] 42 ⟨[(0, aG [cI x0.1, .ro (.int 3) x0.2.1, .ro (.int 3) x0.2.2]), (1, aI x1), (2, aI x2)], []⟩ a w := h
  replace hpre : (fun (x0 : T126) (x1 : Int) (x2 : Int) => Sh.fit s126 x0) x0 x1 x2 := hpre
  have hl1 : List.length x0.2.1 ≤ 9223372036854775807 := hlens.1.2.1.1
  have hl2 : List.length x0.2.2 ≤ 9223372036854775807 := hlens.1.2.2.1
  have hT : TabOK Try.prog S_spec_IsValidPacket_tab := (.cons S_spec_l1In_ok (.cons S_spec_IsValidVector_ok .nil))
  have hf0 : Sh.fit s126 x0 := hpre
  have hn0_1 : List.length x0.2.1 ≤ 1073741824 := hf0.2.1.1
  have hn0_2 : List.length x0.2.2 ≤ 1073741824 := hf0.2.2.1
  refine wp_seq ?_
  refine at_regq [{ ids := [1] }] { ts := [1, 2, 3, 6], os := [1] } [] gamOK hT h (by kernel_rfl) trivial ?_
  intro a w h
  refine then_normal ?_
  refine wp_seq ?_
  rcases Bool.eq_false_or_eq_true ((inR x0.1 0 1000000000000)) with h1 | h1
  · skip
    have hvh1 := inR_t h1
    rcases Bool.eq_false_or_eq_true ((inR x1 1 8)) with h2 | h2
    · skip
      have hvh2 := inR_t h2
      rcases Bool.eq_false_or_eq_true ((inR x2 1 16)) with h3 | h3
      · skip
        have hvh3 := inR_t h3
        by_cases h4 : ((List.length x0.2.1 : Nat) : Int) = x1
        · skip
          by_cases h5 : ((List.length x0.2.2 : Nat) : Int) = x2
          · skip
            rcases Bool.eq_false_or_eq_true ((validV x0.2.1)) with h6 | h6
            · skip
              have hvh6 := validV_t h6
              refine at_regq [{}, {}, { hint := some (aB true) }, {}, {}, { hint := some (aB true) }, {}, {}, {}, { hint := some (aB true) }, {}, {}, {}, {}, {}, {}, { hint := some (aB true) }, {}, {}, {}, {}, {}, {}, { hint := some (aB true) }, {}, {}, {}, {}, { hint := some (aB true) }] { ts := [6], os := [] } [True, (AV.p (.c (.v (.bool ((inR x0.1 0 1000000000000))))) = AV.p (.c (.v (.bool true)))), True, (AV.p (.c (.v (.bool ((inR x1 1 8))))) = AV.p (.c (.v (.bool true)))), True, (AV.p (.c (.v (.bool ((inR x2 1 16))))) = AV.p (.c (.v (.bool true)))), (AV.p (.c (.v (.bool (decide (((List.length x0.2.1 : Nat) : Int) = x1))))) = AV.p (.c (.v (.bool true)))), (AV.p (.c (.v (.bool (decide (((List.length x0.2.2 : Nat) : Int) = x2))))) = AV.p (.c (.v (.bool true)))), (fun (x0 : (List Int)) => Sh.fit s22 x0) x0.2.1, (AV.p (.c (.v (.bool ((validV x0.2.1))))) = AV.p (.c (.v (.bool true)))), (fun (x0 : (List Int)) => Sh.fit s22 x0) x0.2.2] gamOK hT h (by kernel_rfl) ⟨trivial, hint_bool (h1), trivial, hint_bool (h2), trivial, hint_bool (h3), hint_bool (decide_eq_true h4), hint_bool (decide_eq_true h5), (by exact hf0.2.1), hint_bool (h6), (by exact hf0.2.2), trivial⟩ ?_
              intro a w h
              refine then_normal ?_
              refine wp_ret ?_
              exact at_return (S := S_spec_IsValidPacket) (x := (x0, x1, x2, ())) ((validV x0.2.2), ()) [] h (by kernel_rfl) trivial (congrArg (fun z => (z, ())) (show ((validV x0.2.2)) = validP x0 x1 x2 from by first | rfl | (unfold validP; rw [if_pos h1, if_pos h2, if_pos h3, if_pos h4, if_pos h5, if_pos h6]; done) | (unfold validP; simp_all [isFmt])))
            · skip
              refine at_regq [{}, {}, { hint := some (aB true) }, {}, {}, { hint := some (aB true) }, {}, {}, {}, { hint := some (aB true) }, {}, {}, {}, {}, {}, {}, { hint := some (aB true) }, {}, {}, {}, {}, {}, {}, { hint := some (aB true) }, {}, {}, {}, {}, { hint := some (aB false) }] { ts := [6], os := [] } [True, (AV.p (.c (.v (.bool ((inR x0.1 0 1000000000000))))) = AV.p (.c (.v (.bool true)))), True, (AV.p (.c (.v (.bool ((inR x1 1 8))))) = AV.p (.c (.v (.bool true)))), True, (AV.p (.c (.v (.bool ((inR x2 1 16))))) = AV.p (.c (.v (.bool true)))), (AV.p (.c (.v (.bool (decide (((List.length x0.2.1 : Nat) : Int) = x1))))) = AV.p (.c (.v (.bool true)))), (AV.p (.c (.v (.bool (decide (((List.length x0.2.2 : Nat) : Int) = x2))))) = AV.p (.c (.v (.bool true)))), (fun (x0 : (List Int)) => Sh.fit s22 x0) x0.2.1, (AV.p (.c (.v (.bool ((validV x0.2.1))))) = AV.p (.c (.v (.bool false))))] gamOK hT h (by kernel_rfl) ⟨trivial, hint_bool (h1), trivial, hint_bool (h2), trivial, hint_bool (h3), hint_bool (decide_eq_true h4), hint_bool (decide_eq_true h5), (by exact hf0.2.1), hint_bool (h6), trivial⟩ ?_
              intro a w h
              refine then_normal ?_
              refine wp_ret ?_
              exact at_return (S := S_spec_IsValidPacket) (x := (x0, x1, x2, ())) (false, ()) [] h (by kernel_rfl) trivial (congrArg (fun z => (z, ())) (show (false) = validP x0 x1 x2 from by first | rfl | (unfold validP; rw [if_pos h1, if_pos h2, if_pos h3, if_pos h4, if_pos h5, if_neg (neT h6)]; done) | (unfold validP; simp_all [isFmt])))
          · skip
            refine at_regq [{}, {}, { hint := some (aB true) }, {}, {}, { hint := some (aB true) }, {}, {}, {}, { hint := some (aB true) }, {}, {}, {}, {}, {}, {}, { hint := some (aB true) }, {}, {}, {}, {}, {}, {}, { hint := some (aB false) }] { ts := [6], os := [] } [True, (AV.p (.c (.v (.bool ((inR x0.1 0 1000000000000))))) = AV.p (.c (.v (.bool true)))), True, (AV.p (.c (.v (.bool ((inR x1 1 8))))) = AV.p (.c (.v (.bool true)))), True, (AV.p (.c (.v (.bool ((inR x2 1 16))))) = AV.p (.c (.v (.bool true)))), (AV.p (.c (.v (.bool (decide (((List.length x0.2.1 : Nat) : Int) = x1))))) = AV.p (.c (.v (.bool true)))), (AV.p (.c (.v (.bool (decide (((List.length x0.2.2 : Nat) : Int) = x2))))) = AV.p (.c (.v (.bool false))))] gamOK hT h (by kernel_rfl) ⟨trivial, hint_bool (h1), trivial, hint_bool (h2), trivial, hint_bool (h3), hint_bool (decide_eq_true h4), hint_bool (decide_eq_false h5), trivial⟩ ?_
            intro a w h
            refine then_normal ?_
            refine wp_ret ?_
            exact at_return (S := S_spec_IsValidPacket) (x := (x0, x1, x2, ())) (false, ()) [] h (by kernel_rfl) trivial (congrArg (fun z => (z, ())) (show (false) = validP x0 x1 x2 from by first | rfl | (unfold validP; rw [if_pos h1, if_pos h2, if_pos h3, if_pos h4, if_neg h5]; done) | (unfold validP; simp_all [isFmt])))
        · skip
          refine at_regq [{}, {}, { hint := some (aB true) }, {}, {}, { hint := some (aB true) }, {}, {}, {}, { hint := some (aB true) }, {}, {}, {}, {}, {}, {}, { hint := some (aB false) }] { ts := [6], os := [] } [True, (AV.p (.c (.v (.bool ((inR x0.1 0 1000000000000))))) = AV.p (.c (.v (.bool true)))), True, (AV.p (.c (.v (.bool ((inR x1 1 8))))) = AV.p (.c (.v (.bool true)))), True, (AV.p (.c (.v (.bool ((inR x2 1 16))))) = AV.p (.c (.v (.bool true)))), (AV.p (.c (.v (.bool (decide (((List.length x0.2.1 : Nat) : Int) = x1))))) = AV.p (.c (.v (.bool false))))] gamOK hT h (by kernel_rfl) ⟨trivial, hint_bool (h1), trivial, hint_bool (h2), trivial, hint_bool (h3), hint_bool (decide_eq_false h4), trivial⟩ ?_
          intro a w h
          refine then_normal ?_
          refine wp_ret ?_
          exact at_return (S := S_spec_IsValidPacket) (x := (x0, x1, x2, ())) (false, ()) [] h (by kernel_rfl) trivial (congrArg (fun z => (z, ())) (show (false) = validP x0 x1 x2 from by first | rfl | (unfold validP; rw [if_pos h1, if_pos h2, if_pos h3, if_neg h4]; done) | (unfold validP; simp_all [isFmt])))
      · skip
        have hvh3 := inR_f h3
        refine at_regq [{}, {}, { hint := some (aB true) }, {}, {}, { hint := some (aB true) }, {}, {}, {}, { hint := some (aB false) }] { ts := [6], os := [] } [True, (AV.p (.c (.v (.bool ((inR x0.1 0 1000000000000))))) = AV.p (.c (.v (.bool true)))), True, (AV.p (.c (.v (.bool ((inR x1 1 8))))) = AV.p (.c (.v (.bool true)))), True, (AV.p (.c (.v (.bool ((inR x2 1 16))))) = AV.p (.c (.v (.bool false))))] gamOK hT h (by kernel_rfl) ⟨trivial, hint_bool (h1), trivial, hint_bool (h2), trivial, hint_bool (h3), trivial⟩ ?_
        intro a w h
        refine then_normal ?_
        refine wp_ret ?_
        exact at_return (S := S_spec_IsValidPacket) (x := (x0, x1, x2, ())) (false, ()) [] h (by kernel_rfl) trivial (congrArg (fun z => (z, ())) (show (false) = validP x0 x1 x2 from by first | rfl | (unfold validP; rw [if_pos h1, if_pos h2, if_neg (neT h3)]; done) | (unfold validP; simp_all [isFmt])))
    · skip
      have hvh2 := inR_f h2
      refine at_regq [{}, {}, { hint := some (aB true) }, {}, {}, { hint := some (aB false) }] { ts := [6], os := [] } [True, (AV.p (.c (.v (.bool ((inR x0.1 0 1000000000000))))) = AV.p (.c (.v (.bool true)))), True, (AV.p (.c (.v (.bool ((inR x1 1 8))))) = AV.p (.c (.v (.bool false))))] gamOK hT h (by kernel_rfl) ⟨trivial, hint_bool (h1), trivial, hint_bool (h2), trivial⟩ ?_
      intro a w h
      refine then_normal ?_
      refine wp_ret ?_
      exact at_return (S := S_spec_IsValidPacket) (x := (x0, x1, x2, ())) (false, ()) [] h (by kernel_rfl) trivial (congrArg (fun z => (z, ())) (show (false) = validP x0 x1 x2 from by first | rfl | (unfold validP; rw [if_pos h1, if_neg (neT h2)]; done) | (unfold validP; simp_all [isFmt])))
  · skip
    have hvh1 := inR_f h1
    refine at_regq [{}, {}, { hint := some (aB false) }] { ts := [6], os := [] } [True, (AV.p (.c (.v (.bool ((inR x0.1 0 1000000000000))))) = AV.p (.c (.v (.bool false))))] gamOK hT h (by kernel_rfl) ⟨trivial, hint_bool (h1), trivial⟩ ?_
    intro a w h
    refine then_normal ?_
    refine wp_ret ?_
    exact at_return (S := S_spec_IsValidPacket) (x := (x0, x1, x2, ())) (false, ()) [] h (by kernel_rfl) trivial (congrArg (fun z => (z, ())) (show (false) = validP x0 x1 x2 from by first | rfl | (unfold validP; rw [if_neg (neT h1)]; done) | (unfold validP; simp_all [isFmt])))

theorem set_self {α : Type} {xs : List α} {i : Nat} {z : α} (h : i < xs.length) : xs.set i (xs.getD i z) = xs := by rw [getD_of_lt h, List.set_getElem_self]
def cofs (ps : List T126) : List (List Int) := ps.map fun p => p.2.1
theorem cofs_at {ps : List T126} {i : Nat} (h : i < ps.length) : (cofs ps).getD i [] = (ps.getD i (0, ([], []))).2.1 := by
  unfold cofs; rw [getD_of_lt (by simpa using h), getD_of_lt h, List.getElem_map]
theorem cofs_len (ps : List T126) : (cofs ps).length = ps.length := by simp [cofs]
theorem cofs_snoc (ps : List T126) (p : T126) : cofs (ps ++ [p]) = cofs ps ++ [p.2.1] := by simp [cofs]
theorem insTo_app (vs us : List (List Int)) : ∀ i, i ≤ vs.length → LA.insTo (vs ++ us) i = LA.insTo vs i
  | 0, _ => rfl
  | i + 1, h => by
    simp only [LA.insTo]
    rw [insTo_app vs us i (by omega), show (vs ++ us).getD i [] = vs.getD i [] from by rw [List.getD_eq_getElem?_getD, List.getElem?_append_left (by omega), List.getD_eq_getElem?_getD]]
theorem insTo_take {vs : List (List Int)} {i : Nat} (h : i ≤ vs.length) : LA.insTo (vs.take i) i = LA.insTo vs i := by
  have := insTo_app (vs.take i) (vs.drop i) i (by simp; omega)
  rw [List.take_append_drop] at this; exact this.symm
theorem insOk_app (vs us : List (List Int)) {i : Nat} (h : i < vs.length) : LA.insOk (vs ++ us) i = LA.insOk vs i := by
  unfold LA.insOk
  rw [insTo_app vs us i (by omega), show (vs ++ us).getD i [] = vs.getD i [] from by rw [List.getD_eq_getElem?_getD, List.getElem?_append_left (by omega), List.getD_eq_getElem?_getD]]
def okPkt (r : T122) (p : T126) : Bool := validP p r.2.1 r.2.2.1 && decide (p.1 = r.1)
theorem okPkt_v {r : T122} {p : T126} (h : okPkt r p = true) : ((0 ≤ p.1 ∧ p.1 ≤ 1000000000000) ∧ (1 ≤ r.2.1 ∧ r.2.1 ≤ 8) ∧ (1 ≤ r.2.2.1 ∧ r.2.2.1 ≤ 16)) ∧ LA.VokB r.2.1.toNat p.2.1 := by
  unfold okPkt at h
  rw [Bool.and_eq_true] at h
  have h1 := validP_t h.1
  have h2 := isFmt_t h1.1
  exact ⟨h2, by have := h1.2.1; omega, (validV_t h1.2.2.2.1).2.1⟩
theorem okPkt_t {r : T122} {p : T126} (h1 : validP p r.2.1 r.2.2.1 = true) (h2 : p.1 = r.1) : okPkt r p = true := by unfold okPkt; rw [h1, decide_eq_true h2]; rfl
theorem okPkt_f {r : T122} {p : T126} (h : validP p r.2.1 r.2.2.1 = false ∨ ¬ p.1 = r.1) : okPkt r p = false := by
  unfold okPkt; rw [Bool.and_eq_false_iff]
  rcases h with h | h
  · exact .inl h
  · exact .inr (decide_eq_false h)
theorem fit_snoc {xs : List T126} {x : T126} (h : Sh.fit s43 xs) (hx : Sh.fit s126 x) (hl : List.length xs ≤ 1073741823) : Sh.fit s43 (xs ++ [x]) := ⟨by rw [List.length_append, List.length_singleton]; omega, fun y hy => by
  rcases List.mem_append.1 hy with hy | hy
  · exact h.2 y hy
  · rw [List.mem_singleton.1 hy]; exact hx⟩
def recB (r : T122) (i : Nat) : Bool := okPkt r (r.2.2.2.1.getD i (0, ([], []))) && LA.insOk (cofs r.2.2.2.1) i
def validR (r : T122) : Bool := (isFmt r.1 r.2.1 r.2.2.1 && (decide (List.length r.2.2.2.1 ≤ 8) && inR r.2.2.2.2 0 1000000000000)) && allN (recB r) (List.length r.2.2.2.1)
theorem rec_vok {r : T122} {i : Nat} (hi : i ≤ r.2.2.2.1.length) (h : allN (recB r) i = true) : ∀ v ∈ (cofs r.2.2.2.1).take i, LA.VokB r.2.1.toNat v := fun v hv => by
  obtain ⟨j, hj, rfl⟩ := List.getElem_of_mem hv
  rw [List.length_take, cofs_len] at hj
  have h1 := allN_iff.1 h j (by omega)
  unfold recB at h1
  rw [Bool.and_eq_true] at h1
  have h2 := (okPkt_v h1.1).2
  rw [← cofs_at (by omega), getD_of_lt (by rw [cofs_len]; omega)] at h2
  rw [List.getElem_take]; exact h2
theorem red_to {n : Nat} {vs : List (List Int)} {i : Nat} (hi : i ≤ vs.length) (h : ∀ v ∈ vs.take i, LA.VokB n v) : LA.RedL n (LA.insTo vs i) := by
  have := (LA.insTo_ok h i (by simp; omega)).1
  rwa [insTo_take hi] at this
theorem rec_red {r : T122} {i : Nat} (hi : i ≤ r.2.2.2.1.length) (h : allN (recB r) i = true) : LA.RedL r.2.1.toNat (LA.insTo (cofs r.2.2.2.1) i) := red_to (by rw [cofs_len]; exact hi) (rec_vok hi h)
theorem insOk_at {ps : List T126} {s : Int} {i : Nat} (h : i < ps.length) : LA.insOk (cofs ps) i = insD (s, LA.insTo (cofs ps) i) (ps.getD i (0, ([], []))).2.1 := by unfold LA.insOk insD; rw [cofs_at h]
theorem insTo_next {ps : List T126} {s : Int} {i : Nat} (h : i < ps.length) : (insU (s, LA.insTo (cofs ps) i) (ps.getD i (0, ([], []))).2.1).2 = LA.insTo (cofs ps) (i + 1) := by show _ = (LA.insS _ _).1; rw [cofs_at h]; rfl
theorem recB_t {r : T122} {i : Nat} (hi : i < r.2.2.2.1.length) (h1 : validP (r.2.2.2.1.getD i (0, ([], []))) r.2.1 r.2.2.1 = true) (h2 : (r.2.2.2.1.getD i (0, ([], []))).1 = r.1) (h3 : insD (r.2.1, LA.insTo (cofs r.2.2.2.1) i) (r.2.2.2.1.getD i (0, ([], []))).2.1 = true) : recB r i = true := by
  unfold recB; rw [okPkt_t h1 h2, insOk_at hi, h3]; rfl
theorem recB_f {r : T122} {i : Nat} (hi : i < r.2.2.2.1.length) (h : validP (r.2.2.2.1.getD i (0, ([], []))) r.2.1 r.2.2.1 = false ∨ ¬ (r.2.2.2.1.getD i (0, ([], []))).1 = r.1 ∨ insD (r.2.1, LA.insTo (cofs r.2.2.2.1) i) (r.2.2.2.1.getD i (0, ([], []))).2.1 = false) : recB r i = false := by
  unfold recB; rw [Bool.and_eq_false_iff]
  rcases h with h | h | h
  · exact .inl (okPkt_f (.inl h))
  · exact .inl (okPkt_f (.inr h))
  · exact .inr (by rw [insOk_at hi, h])
theorem newBas_at {s : Int} (h : 0 ≤ s ∧ s ≤ 40) : newBas s = (s, []) := by unfold newBas; rw [if_pos (inR_true h)]
theorem validR_t {r : T122} (h : validR r = true) : ((0 ≤ r.1 ∧ r.1 ≤ 1000000000000) ∧ (1 ≤ r.2.1 ∧ r.2.1 ≤ 8) ∧ (1 ≤ r.2.2.1 ∧ r.2.2.1 ≤ 16)) ∧ List.length r.2.2.2.1 ≤ 8 ∧ (0 ≤ r.2.2.2.2 ∧ r.2.2.2.2 ≤ 1000000000000) ∧ allN (recB r) (List.length r.2.2.2.1) = true := by
  unfold validR at h
  rw [Bool.and_eq_true, Bool.and_eq_true, Bool.and_eq_true] at h
  exact ⟨isFmt_t h.1.1, of_decide_eq_true h.1.2.1, inR_t h.1.2.2, h.2⟩
theorem validR_y {r : T122} (h1 : isFmt r.1 r.2.1 r.2.2.1 = true) (h2 : List.length r.2.2.2.1 ≤ 8) (h3 : inR r.2.2.2.2 0 1000000000000 = true) : allN (recB r) (List.length r.2.2.2.1) = validR r := by unfold validR; rw [h1, decide_eq_true h2, h3]; rfl
theorem validR_n {r : T122} (h : isFmt r.1 r.2.1 r.2.2.1 = false ∨ ¬ List.length r.2.2.2.1 ≤ 8 ∨ inR r.2.2.2.2 0 1000000000000 = false ∨ allN (recB r) (List.length r.2.2.2.1) = false) : false = validR r := by
  unfold validR
  rcases h with h | h | h | h
  · rw [h]; rfl
  · rw [decide_eq_false h]; simp
  · rw [h]; simp
  · rw [h]; simp
theorem ok_rec {r : T122} (h : allN (fun j => okPkt r (r.2.2.2.1.getD j (0, ([], [])))) (List.length r.2.2.2.1) = false) : allN (recB r) (List.length r.2.2.2.1) = false := by
  rw [Bool.eq_false_iff] at *
  intro e; apply h
  rw [allN_iff] at *
  intro j hj
  have := e j hj
  unfold recB at this
  rw [Bool.and_eq_true] at this; exact this.1
/-- coefficients as wide as is said -/
def recP (r : T122) : Prop := List.length r.2.2.2.1 ≤ 8 ∧ ∀ v ∈ cofs r.2.2.2.1, LA.VokB r.2.1.toNat v
theorem recP_of {r : T122} (h : validR r = true) : recP r := by
  have h1 := validR_t h
  refine ⟨h1.2.1, ?_⟩
  have := rec_vok (Nat.le_refl _) h1.2.2.2
  rwa [← cofs_len, List.take_length] at this
theorem recP_red {r : T122} (h : recP r) {i : Nat} (hi : i ≤ r.2.2.2.1.length) : LA.RedL r.2.1.toNat (LA.insTo (cofs r.2.2.2.1) i) := red_to (by rw [cofs_len]; exact hi) (fun v hv => h.2 v (List.mem_of_mem_take hv))
theorem recP_row {r : T122} (h : recP r) {i : Nat} (hi : i < r.2.2.2.1.length) : LA.VokB r.2.1.toNat (r.2.2.2.1.getD i (0, ([], []))).2.1 := by
  rw [← cofs_at hi]; exact h.2 _ (LA.getD_in (by rw [cofs_len]; exact hi))
def accOK (r : T122) (p : T126) : Bool := !decide (List.length r.2.2.2.1 = 8) && (okPkt r p && insD (r.2.1, LA.insTo (cofs r.2.2.2.1) (List.length r.2.2.2.1)) p.2.1)
def accU (r : T122) (p : T126) : T122 := if accOK r p = true then (r.1, r.2.1, r.2.2.1, r.2.2.2.1 ++ [p], r.2.2.2.2) else r
theorem accOK_t {r : T122} {p : T126} (h0 : ¬ List.length r.2.2.2.1 = 8) (h1 : validP p r.2.1 r.2.2.1 = true) (h2 : p.1 = r.1) (h3 : insD (r.2.1, LA.insTo (cofs r.2.2.2.1) (List.length r.2.2.2.1)) p.2.1 = true) : accOK r p = true := by
  unfold accOK; rw [decide_eq_false h0, okPkt_t h1 h2, h3]; rfl
theorem accOK_f {r : T122} {p : T126} (h : List.length r.2.2.2.1 = 8 ∨ validP p r.2.1 r.2.2.1 = false ∨ ¬ p.1 = r.1 ∨ insD (r.2.1, LA.insTo (cofs r.2.2.2.1) (List.length r.2.2.2.1)) p.2.1 = false) : accOK r p = false := by
  unfold accOK; rw [Bool.and_eq_false_iff, Bool.and_eq_false_iff]
  rcases h with h | h | h | h
  · exact .inl (by rw [decide_eq_true h]; rfl)
  · exact .inr (.inl (okPkt_f (.inl h)))
  · exact .inr (.inl (okPkt_f (.inr h)))
  · exact .inr (.inr h)
theorem accU_yes {r : T122} {p : T126} (h : accOK r p = true) : accU r p = (r.1, r.2.1, r.2.2.1, r.2.2.2.1 ++ [p], r.2.2.2.2) := if_pos h
theorem accU_no {r : T122} {p : T126} (h : accOK r p = false) : accU r p = r := if_neg (by rw [h]; decide)
def acceptR (r : T122) (p : T126) : T122 × Bool := if validR r = true ∧ accOK r p = true then (accU r p, true) else (r, false)
theorem allN_congr {P Q : Nat → Bool} : ∀ {n : Nat}, (∀ j, j < n → P j = Q j) → allN P n = allN Q n
  | 0, _ => rfl
  | n + 1, h => by simp only [allN]; rw [allN_congr (n := n) fun j hj => h j (by omega), h n (by omega)]
theorem getD_app {α : Type} {xs ys : List α} {z : α} {j : Nat} (h : j < xs.length) : (xs ++ ys).getD j z = xs.getD j z := by rw [List.getD_eq_getElem?_getD, List.getElem?_append_left h, List.getD_eq_getElem?_getD]
theorem getD_end {α : Type} {xs : List α} {y z : α} : (xs ++ [y]).getD xs.length z = y := by rw [List.getD_eq_getElem?_getD, List.getElem?_append_right (Nat.le_refl _)]; simp
theorem validR_snoc (r : T122) (p : T126) : validR (r.1, r.2.1, r.2.2.1, r.2.2.2.1 ++ [p], r.2.2.2.2) = (validR r && accOK r p) := by
  obtain ⟨g, s, w, ps, sn⟩ := r
  have e1 : allN (recB (g, s, w, ps ++ [p], sn)) ps.length = allN (recB (g, s, w, ps, sn)) ps.length := allN_congr fun j hj => by
    unfold recB
    dsimp only
    rw [cofs_snoc, insOk_app _ _ (by rw [cofs_len]; exact hj), getD_app hj]; rfl
  have e2 : recB (g, s, w, ps ++ [p], sn) ps.length = (okPkt (g, s, w, ps, sn) p && insD (s, LA.insTo (cofs ps) (List.length ps)) p.2.1) := by
    unfold recB
    dsimp only
    rw [getD_end, cofs_snoc]
    congr 1
    unfold LA.insOk insD
    rw [insTo_app _ _ _ (by rw [cofs_len]; exact Nat.le_refl _)]
    dsimp only
    rw [show (cofs ps ++ [p.2.1]).getD ps.length [] = p.2.1 from by rw [← cofs_len ps]; exact getD_end]
  unfold validR accOK
  dsimp only
  rw [List.length_append, List.length_singleton]
  simp only [allN]
  rw [e1, e2]
  have e3 : decide (ps.length + 1 ≤ 8) = (decide (ps.length ≤ 8) && !decide (ps.length = 8)) := by
    rw [Bool.eq_iff_iff]; simp; omega
  rw [e3]
  generalize decide (ps.length ≤ 8) = a
  generalize decide (ps.length = 8) = b
  generalize isFmt g s w = c
  generalize inR sn 0 1000000000000 = d
  generalize allN (recB (g, s, w, ps, sn)) ps.length = e
  generalize okPkt (g, s, w, ps, sn) p = f
  generalize insD (s, LA.insTo (cofs ps) ps.length) p.2.1 = h
  cases a <;> cases b <;> cases c <;> cases d <;> cases e <;> cases f <;> cases h <;> rfl
theorem fit_cofs {ps : List T126} (h : Sh.fit s43 ps) : Sh.fit s80 (cofs ps) := ⟨by rw [cofs_len]; exact h.1, fun v hv => by
  obtain ⟨p, hp, rfl⟩ := List.mem_map.1 hv
  exact (h.2 p hp).2.1⟩
theorem rank_cofs {r : T122} (h : allN (fun j => okPkt r (r.2.2.2.1.getD j (0, ([], [])))) (List.length r.2.2.2.1) = true) (hl : List.length r.2.2.2.1 ≤ 8) : decide (((List.length (rowRed (cofs r.2.2.2.1)) : Nat) : Int) = ((List.length (cofs r.2.2.2.1) : Nat) : Int)) = allN (recB r) (List.length r.2.2.2.1) := by
  have hp := allN_iff.1 h
  have hv : ∀ v ∈ cofs r.2.2.2.1, LA.VokB r.2.1.toNat v := fun v hv => by
    obtain ⟨j, hj, rfl⟩ := List.getElem_of_mem hv
    rw [cofs_len] at hj
    have h2 := (okPkt_v (hp j hj)).2
    rw [← cofs_at hj, getD_of_lt (by rw [cofs_len]; exact hj)] at h2
    exact h2
  have e : allN (recB r) (List.length r.2.2.2.1) = allN (LA.insOk (cofs r.2.2.2.1)) (List.length r.2.2.2.1) := allN_congr fun j hj => by
    unfold recB; rw [hp j hj, Bool.true_and]
  rw [e, Bool.eq_iff_iff, decide_eq_true_iff, allN_iff]
  rcases Nat.eq_zero_or_pos (List.length r.2.2.2.1) with h0 | h0
  · rw [List.eq_nil_of_length_eq_zero h0]
    exact ⟨fun _ j hj => absurd hj (by simp), fun _ => rfl⟩
  · have hs := (okPkt_v (hp 0 h0)).1
    have hM : validM (cofs r.2.2.2.1) = true := by
      unfold validM
      rw [if_pos]
      · exact decide_eq_true (by rw [cofs_len]; omega)
      · rw [List.all_eq_true]; intro v hvm
        rw [Bool.and_eq_true]
        refine ⟨validV_of (hv v hvm) (by omega), decide_eq_true ?_⟩
        rw [(hv v hvm).1, (hv _ (LA.getD_in (i := 0) (by rw [cofs_len]; exact h0))).1]
    rw [rowRed_at hM, (hv _ (LA.getD_in (i := 0) (by rw [cofs_len]; exact h0))).1]
    have := LA.rank_full hv
    rw [cofs_len] at this ⊢
    rw [← this]; omega

def S_impl_IsValidRecoder : Sum := { fid := 139, dom := [s122], cod := [(.bool 4)], dp := true, fz := false, pre := fun x => (fun (x0 : T122) => Sh.fit s122 x0) x.1, g := fun x => ((validR x.1), ()) }
def S_impl_IsValidRecoder_tab : List (Nat × Sum) := [(196, S_impl_isFormat), (140, S_impl_InRange), (205, S_impl_NewBasis), (179, S_impl_IsValidPacket), (151, S__P_impl_Basis_insert)]
theorem S_impl_IsValidRecoder_ok : FnOK Try.prog 139 S_impl_IsValidRecoder := by
  refine at_enter 57 (fun x => ⟨[(0, aG [cI x.1.1, cI x.1.2.1, cI x.1.2.2.1, .ro s126 x.1.2.2.2.1, cI x.1.2.2.2.2])], []⟩) Try.func139 rfl (by kernel_rfl) (fun x => rfl) ?_
  rintro w0 Z0 ⟨x0, u⟩ a w
  revert x0
  intro (x0 : T122) hpre hlens h
  replace h : At w0 Z0 [] 57 ⟨[(0, aG [cI x0.1, cI x0.2.1, cI x0.2.2.1, .ro s126 x0.2.2.2.1, cI x0.2.2.2.2])], []⟩ a w := h
  replace hpre : (fun (x0 : T122) => Sh.fit s122 x0) x0 := hpre
  have hl1 : List.length x0.2.2.2.1 ≤ 9223372036854775807 := hlens.1.2.2.2.1.1
  have hT : TabOK Try.prog S_impl_IsValidRecoder_tab := (.cons S_impl_isFormat_ok (.cons S_impl_InRange_ok (.cons S_impl_NewBasis_ok (.cons S_impl_IsValidPacket_ok (.cons S__P_impl_Basis_insert_ok .nil)))))
  have hf0 : Sh.fit s122 x0 := hpre
  have hn0_1 : List.length x0.2.2.2.1 ≤ 1073741824 := hf0.2.2.2.1.1
  refine wp_seq ?_
  refine at_regq [{ ids := [1] }] { ts := [1, 2], os := [1] } [] gamOK hT h (by kernel_rfl) trivial ?_
  intro a w h
  refine then_normal ?_
  refine wp_seq ?_
  refine wp_seq ?_
  rcases Bool.eq_false_or_eq_true (!(isFmt x0.1 x0.2.1 x0.2.2.1)) with h1 | h1
  · skip
    have hzh1 : (isFmt x0.1 x0.2.1 x0.2.2.1) = false := notT h1
    refine at_regq [{}, {}, {}, {}, {}, {}, {}, { hint := some (aB true) }] { ts := [1, 2, 25], os := [1] } [True, (AV.p (.c (.v (.bool (!(isFmt x0.1 x0.2.1 x0.2.2.1))))) = AV.p (.c (.v (.bool true))))] gamOK hT h (by kernel_rfl) ⟨trivial, hint_bool (h1), trivial⟩ ?_
    intro a w h
    refine then_normal ?_
    refine at_test true h (by kernel_rfl) (fun hh => ?_) (fun hh => nomatch hh)
    refine wp_seq ?_
    refine at_regq [] { ts := [1, 2], os := [1] } [] gamOK hT h (by kernel_rfl) trivial ?_
    intro a w h
    refine then_normal ?_
    refine wp_ret ?_
    refine then_ret ?_
    exact at_return (S := S_impl_IsValidRecoder) (x := (x0, ())) (false, ()) [] h (by kernel_rfl) trivial (congrArg (fun z => (z, ())) (show (false) = validR x0 from by (first | (rw [← validR_y (by assumption) (by omega) (by assumption)]; symm; assumption) | exact validR_n (by first | (left; assumption) | (right; left; omega) | (right; right; left; assumption) | (right; right; right; assumption) | (right; right; right; exact ok_rec (by assumption))))))
  · skip
    have hzh1 : (isFmt x0.1 x0.2.1 x0.2.2.1) = true := notF h1
    have hvh1 := isFmt_t (notF h1)
    by_cases h2 : ((List.length x0.2.2.2.1 : Nat) : Int) > 8
    · skip
      refine at_regq [{}, {}, {}, {}, {}, {}, {}, { hint := some (aB false) }, {}, {}, {}, {}, { hint := some (aB true) }] { ts := [1, 2, 25], os := [1] } [True, (AV.p (.c (.v (.bool (!(isFmt x0.1 x0.2.1 x0.2.2.1))))) = AV.p (.c (.v (.bool false)))), (AV.p (.c (.v (.bool (decide (((List.length x0.2.2.2.1 : Nat) : Int) > 8))))) = AV.p (.c (.v (.bool true))))] gamOK hT h (by kernel_rfl) ⟨trivial, hint_bool (h1), hint_bool (decide_eq_true h2), trivial⟩ ?_
      intro a w h
      refine then_normal ?_
      refine at_test true h (by kernel_rfl) (fun hh => ?_) (fun hh => nomatch hh)
      refine wp_seq ?_
      refine at_regq [] { ts := [1, 2], os := [1] } [] gamOK hT h (by kernel_rfl) trivial ?_
      intro a w h
      refine then_normal ?_
      refine wp_ret ?_
      refine then_ret ?_
      exact at_return (S := S_impl_IsValidRecoder) (x := (x0, ())) (false, ()) [] h (by kernel_rfl) trivial (congrArg (fun z => (z, ())) (show (false) = validR x0 from by (first | (rw [← validR_y (by assumption) (by omega) (by assumption)]; symm; assumption) | exact validR_n (by first | (left; assumption) | (right; left; omega) | (right; right; left; assumption) | (right; right; right; assumption) | (right; right; right; exact ok_rec (by assumption))))))
    · skip
      refine at_regq [{}, {}, {}, {}, {}, {}, {}, { hint := some (aB false) }, {}, {}, {}, {}, { hint := some (aB false) }] { ts := [1, 2, 25], os := [1] } [True, (AV.p (.c (.v (.bool (!(isFmt x0.1 x0.2.1 x0.2.2.1))))) = AV.p (.c (.v (.bool false)))), (AV.p (.c (.v (.bool (decide (((List.length x0.2.2.2.1 : Nat) : Int) > 8))))) = AV.p (.c (.v (.bool false)))), True] gamOK hT h (by kernel_rfl) ⟨trivial, hint_bool (h1), hint_bool (decide_eq_false h2), trivial, trivial⟩ ?_
      intro a w h
      refine then_normal ?_
      refine at_test (!(inR x0.2.2.2.2 0 1000000000000)) h (by kernel_rfl) (fun h3 => ?_) (fun h3 => ?_)
      · replace h3 : (inR x0.2.2.2.2 0 1000000000000) = false := notT h3
        have hvh3 := inR_f h3
        refine wp_seq ?_
        refine at_regq [] { ts := [1, 2], os := [1] } [] gamOK hT h (by kernel_rfl) trivial ?_
        intro a w h
        refine then_normal ?_
        refine wp_ret ?_
        refine then_ret ?_
        exact at_return (S := S_impl_IsValidRecoder) (x := (x0, ())) (false, ()) [] h (by kernel_rfl) trivial (congrArg (fun z => (z, ())) (show (false) = validR x0 from by (first | (rw [← validR_y (by assumption) (by omega) (by assumption)]; symm; assumption) | exact validR_n (by first | (left; assumption) | (right; left; omega) | (right; right; left; assumption) | (right; right; right; assumption) | (right; right; right; exact ok_rec (by assumption))))))
      · replace h3 : (inR x0.2.2.2.2 0 1000000000000) = true := notF h3
        have hvh3 := inR_t h3
        refine wp_skip ?_
        refine then_normal ?_
        refine wp_seq ?_
        refine at_regq [{}, {}, { ids := [2] }, { ids := [3] }] { ts := [1, 2, 3], os := [1, 2, 3] } [True] gamOK hT h (by kernel_rfl) ⟨trivial, trivial⟩ ?_
        intro a w h
        refine then_normal ?_
        refine wp_seq ?_
        refine wp_seq ?_
        refine at_regq [] { ts := [1, 2, 3, 30, 31, 32], os := [1, 2, 3] } [] gamOK hT h (by kernel_rfl) trivial ?_
        intro a w h
        refine then_normal ?_
        refine wp_block ?_
        replace h := at_out (σ' := ⟨[(1, aP 1 0), (2, aB false), (3, aP 3 0), (30, aF s126 x0.2.2.2.1), (31, aI ((List.length x0.2.2.2.1 : Nat) : Int)), (32, aI 0)], [(1, oX 122 [cI x0.1, cI x0.2.1, cI x0.2.2.1, .ro s126 x0.2.2.2.1, cI x0.2.2.2.2]), (2, oR s22 (newBas x0.2.1).2), (3, oX 105 [cI (newBas x0.2.1).1, .sl 2])]⟩) { ts := [1, 2, 3, 30, 31, 32], os := [1, 2, 3] } h (by kernel_rfl)
        refine at_loop (fun i : Nat => (⟨[(1, aP 1 0), (2, aB false), (3, aP 3 0), (30, aF s126 x0.2.2.2.1), (31, aI ((List.length x0.2.2.2.1 : Nat) : Int)), (32, aI ((i : Nat) : Int))], [(1, oX 122 [cI x0.1, cI x0.2.1, cI x0.2.2.1, .ro s126 x0.2.2.2.1, cI x0.2.2.2.2]), (2, oR s22 (LA.insTo (cofs x0.2.2.2.1) i)), (3, oX 105 [cI x0.2.1, .sl 2])]⟩ : St)) (fun i => (i ≤ (List.length x0.2.2.2.1) ∧ allN (recB x0) i = true)) (fun i => (List.length x0.2.2.2.1) - i) (0) h (st_congr3 (fun (d0 : Int) (d1 : List (List Int)) (d2 : Int) => (⟨[(1, aP 1 0), (2, aB false), (3, aP 3 0), (30, aF s126 x0.2.2.2.1), (31, aI ((List.length x0.2.2.2.1 : Nat) : Int)), (32, aI d2)], [(1, oX 122 [cI x0.1, cI x0.2.1, cI x0.2.2.1, .ro s126 x0.2.2.2.1, cI x0.2.2.2.2]), (2, oR s22 d1), (3, oX 105 [cI d0, .sl 2])]⟩ : St)) (show ((newBas x0.2.1).1 : Int) = x0.2.1 from by first | with_reducible rfl | (first | rfl | (rw [newBas_at (by omega)]; done) | (rw [newBas_at (by omega)]; rfl)) | rfl) (show ((newBas x0.2.1).2 : List (List Int)) = (LA.insTo (cofs x0.2.2.2.1) (0)) from by first | with_reducible rfl | (first | rfl | (rw [newBas_at (by omega)]; done) | (rw [newBas_at (by omega)]; rfl)) | rfl) (show (0 : Int) = (((0) : Nat) : Int) from by first | with_reducible rfl | (first | rfl | (rw [newBas_at (by omega)]; done) | (rw [newBas_at (by omega)]; rfl)) | rfl)) (by exact ⟨Nat.zero_le _, rfl⟩) ?_
        intro i a w hok0 h
        refine wp_seq ?_
        refine at_regq [] { ts := [1, 2, 3, 30, 31, 32, 33], os := [1, 2, 3] } [] gamOK hT h (by kernel_rfl) trivial ?_
        intro a w h
        refine then_normal ?_
        refine wp_seq ?_
        refine at_test (decide (((i : Nat) : Int) < ((List.length x0.2.2.2.1 : Nat) : Int))) h (by kernel_rfl) (fun h4 => ?_) (fun h4 => ?_)
        · replace h4 : ((i : Nat) : Int) < ((List.length x0.2.2.2.1 : Nat) : Int) := of_decide_eq_true h4
          have hred := rec_red (r := x0) hok0.1 hok0.2
          have hbP : basP (x0.2.1, (LA.insTo (cofs x0.2.2.2.1) i)) := ⟨by omega, hred⟩
          refine wp_skip ?_
          refine then_normal ?_
          refine wp_seq ?_
          refine wp_block ?_
          refine wp_seq ?_
          refine at_regq [{}, {}, { ids := [4] }] { ts := [1, 2, 3, 5, 30, 31, 32], os := [1, 2, 3, 4] } [(0 : Int) ≤ ((i : Nat) : Int) ∧ ((i : Nat) : Int) < ((List.length x0.2.2.2.1 : Nat) : Int)] gamOK hT h (by kernel_rfl) ⟨(by refine ⟨?_, ?_⟩ <;> (first | omega | (simp only [lsA]; omega) | (simp; done) | (simp; omega) | done)), trivial⟩ ?_
          intro a w h
          refine then_normal ?_
          refine wp_seq ?_
          rcases Bool.eq_false_or_eq_true (!(validP (x0.2.2.2.1.getD i (0, ([], []))) x0.2.1 x0.2.2.1)) with h5 | h5
          · skip
            have hzh5 : (validP (x0.2.2.2.1.getD i (0, ([], []))) x0.2.1 x0.2.2.1) = false := notT h5
            refine at_regq [{}, {}, {}, {}, {}, {}, { hint := some (aB true) }] { ts := [1, 2, 3, 30, 31, 32, 44, 45, 46, 47, 48, 51, 52, 53, 54, 55], os := [1, 2, 3] } [(fun (x0 : T126) (x1 : Int) (x2 : Int) => Sh.fit s126 x0) (x0.2.2.2.1.getD i (0, ([], []))) x0.2.1 x0.2.2.1, (AV.p (.c (.v (.bool (!(validP (x0.2.2.2.1.getD i (0, ([], []))) x0.2.1 x0.2.2.1))))) = AV.p (.c (.v (.bool true))))] gamOK hT h (by kernel_rfl) ⟨(by exact (Sh.fit_getD hf0.2.2.2.1 i)), hint_bool (h5), trivial⟩ ?_
            intro a w h
            refine then_normal ?_
            refine at_test true h (by kernel_rfl) (fun hh => ?_) (fun hh => nomatch hh)
            refine wp_seq ?_
            refine at_regq [] { ts := [1, 2, 3, 30, 31, 32, 44, 45, 46, 47, 48, 51, 52, 53, 54], os := [1, 2, 3] } [] gamOK hT h (by kernel_rfl) trivial ?_
            intro a w h
            refine then_normal ?_
            refine wp_ret ?_
            refine in_ret ?_
            refine then_ret ?_
            have hs6 : (allN (recB x0) (List.length x0.2.2.2.1)) = false := by exact allN_at (i := i) (by omega) (by exact recB_f (by omega) (by first | (left; assumption) | (right; left; omega) | (right; right; assumption)))
            refine then_ret ?_
            refine in_ret ?_
            refine then_ret ?_
            exact at_return (S := S_impl_IsValidRecoder) (x := (x0, ())) (false, ()) [] h (by kernel_rfl) trivial (congrArg (fun z => (z, ())) (show (false) = validR x0 from by (first | (rw [← validR_y (by assumption) (by omega) (by assumption)]; symm; assumption) | exact validR_n (by first | (left; assumption) | (right; left; omega) | (right; right; left; assumption) | (right; right; right; assumption) | (right; right; right; exact ok_rec (by assumption))))))
          · skip
            have hzh5 : (validP (x0.2.2.2.1.getD i (0, ([], []))) x0.2.1 x0.2.2.1) = true := notF h5
            have hvh5 := validP_n (notF h5)
            by_cases h7 : (x0.2.2.2.1.getD i (0, ([], []))).1 = x0.1
            · skip
              refine at_regq [{}, {}, {}, {}, {}, {}, { hint := some (aB false) }, {}, {}, {}, {}, {}, { hint := some (aB false) }, {}, {}, {}, {}, { ids := [5] }] { ts := [1, 2, 3, 30, 31, 32, 44, 45, 46, 47, 48, 51, 52, 53, 54, 55], os := [1, 3, 4, 5] } [(fun (x0 : T126) (x1 : Int) (x2 : Int) => Sh.fit s126 x0) (x0.2.2.2.1.getD i (0, ([], []))) x0.2.1 x0.2.2.1, (AV.p (.c (.v (.bool (!(validP (x0.2.2.2.1.getD i (0, ([], []))) x0.2.1 x0.2.2.1))))) = AV.p (.c (.v (.bool false)))), (AV.p (.c (.v (.bool (!decide ((x0.2.2.2.1.getD i (0, ([], []))).1 = x0.1))))) = AV.p (.c (.v (.bool false)))), (fun (x0 : T105) (x1 : (List Int)) => Sh.fit s105 x0 ∧ Sh.fit s22 x1 ∧ redP x0 x1) (x0.2.1, (LA.insTo (cofs x0.2.2.2.1) i)) (x0.2.2.2.1.getD i (0, ([], []))).2.1] gamOK hT h (by kernel_rfl) ⟨(by exact (Sh.fit_getD hf0.2.2.2.1 i)), hint_bool (h5), hint_bool (ndT h7), (by (have hpv := validP_t (p := (x0.2.2.2.1.getD i (0, ([], [])))) (by assumption); have hrw : LA.VokB x0.2.1.toNat (x0.2.2.2.1.getD i (0, ([], []))).2.1 := ⟨by have := hpv.2.1; omega, (validV_t hpv.2.2.2.1).2.1⟩; exact ⟨basP_fit hbP, fitV hrw (by omega), hbP, hrw⟩)), trivial⟩ ?_
              intro a w h
              refine then_normal ?_
              refine at_test (!(insD (x0.2.1, (LA.insTo (cofs x0.2.2.2.1) i)) (x0.2.2.2.1.getD i (0, ([], []))).2.1)) h (by kernel_rfl) (fun h8 => ?_) (fun h8 => ?_)
              · replace h8 : (insD (x0.2.1, (LA.insTo (cofs x0.2.2.2.1) i)) (x0.2.2.2.1.getD i (0, ([], []))).2.1) = false := notT h8
                refine wp_seq ?_
                refine at_regq [] { ts := [1, 2, 3, 30, 31, 32, 44, 45, 46, 47, 48, 51, 52, 53, 54], os := [1, 3, 4, 5] } [] gamOK hT h (by kernel_rfl) trivial ?_
                intro a w h
                refine then_normal ?_
                refine wp_ret ?_
                refine in_ret ?_
                refine then_ret ?_
                have hs9 : (allN (recB x0) (List.length x0.2.2.2.1)) = false := by exact allN_at (i := i) (by omega) (by exact recB_f (by omega) (by first | (left; assumption) | (right; left; omega) | (right; right; assumption)))
                refine then_ret ?_
                refine in_ret ?_
                refine then_ret ?_
                exact at_return (S := S_impl_IsValidRecoder) (x := (x0, ())) (false, ()) [] h (by kernel_rfl) trivial (congrArg (fun z => (z, ())) (show (false) = validR x0 from by (first | (rw [← validR_y (by assumption) (by omega) (by assumption)]; symm; assumption) | exact validR_n (by first | (left; assumption) | (right; left; omega) | (right; right; left; assumption) | (right; right; right; assumption) | (right; right; right; exact ok_rec (by assumption))))))
              · replace h8 : (insD (x0.2.1, (LA.insTo (cofs x0.2.2.2.1) i)) (x0.2.2.2.1.getD i (0, ([], []))).2.1) = true := notF h8
                refine wp_skip ?_
                refine in_normal ?_
                refine then_normal ?_
                refine at_regq [{ nw := true }] { ts := [1, 2, 3, 30, 31, 32, 44, 45, 46, 47, 48, 51, 52, 53, 54], os := [1, 3, 4, 5] } [I64 (((i : Nat) : Int) + 1)] gamOK hT h (by kernel_rfl) ⟨⟨by first | omega | (simp only [lsA]; omega) | (simp; done) | (simp; omega) | done, by first | omega | (simp only [lsA]; omega) | (simp; done) | (simp; omega) | done⟩, trivial⟩ ?_
                intro a w h
                replace h := at_out (σ' := ⟨[(1, aP 1 0), (2, aB false), (3, aP 3 0), (30, aF s126 x0.2.2.2.1), (31, aI ((List.length x0.2.2.2.1 : Nat) : Int)), (32, aI (((i : Nat) : Int) + 1))], [(1, oX 122 [cI x0.1, cI x0.2.1, cI x0.2.2.1, .ro s126 x0.2.2.2.1, cI x0.2.2.2.2]), (2, oR s22 (insU (x0.2.1, (LA.insTo (cofs x0.2.2.2.1) i)) (x0.2.2.2.1.getD i (0, ([], []))).2.1).2), (3, oX 105 [cI (insU (x0.2.1, (LA.insTo (cofs x0.2.2.2.1) i)) (x0.2.2.2.1.getD i (0, ([], []))).2.1).1, .sl 2])]⟩) { ts := [1, 2, 3, 30, 31, 32], os := [1, 5, 3], rn := [(5, 2)] } h (by kernel_rfl)
                exact ⟨i + 1, at_eq h (st_congr3 (fun (d0 : Int) (d1 : List (List Int)) (d2 : Int) => (⟨[(1, aP 1 0), (2, aB false), (3, aP 3 0), (30, aF s126 x0.2.2.2.1), (31, aI ((List.length x0.2.2.2.1 : Nat) : Int)), (32, aI d2)], [(1, oX 122 [cI x0.1, cI x0.2.1, cI x0.2.2.1, .ro s126 x0.2.2.2.1, cI x0.2.2.2.2]), (2, oR s22 d1), (3, oX 105 [cI d0, .sl 2])]⟩ : St)) (show ((insU (x0.2.1, (LA.insTo (cofs x0.2.2.2.1) i)) (x0.2.2.2.1.getD i (0, ([], []))).2.1).1 : Int) = x0.2.1 from by first | with_reducible rfl | (rfl) | rfl) (show ((insU (x0.2.1, (LA.insTo (cofs x0.2.2.2.1) i)) (x0.2.2.2.1.getD i (0, ([], []))).2.1).2 : List (List Int)) = (LA.insTo (cofs x0.2.2.2.1) (i + 1)) from by first | with_reducible rfl | (exact insTo_next (by omega)) | rfl) (show (((i : Nat) : Int) + 1 : Int) = (((i + 1) : Nat) : Int) from by first | with_reducible rfl | (omega) | rfl)), (by exact ⟨by omega, allN_succ hok0.2 (by exact recB_t (by omega) (by assumption) (by omega) (by assumption))⟩), (by omega)⟩
            · skip
              refine at_regq [{}, {}, {}, {}, {}, {}, { hint := some (aB false) }, {}, {}, {}, {}, {}, { hint := some (aB true) }] { ts := [1, 2, 3, 30, 31, 32, 44, 45, 46, 47, 48, 51, 52, 53, 54, 55], os := [1, 2, 3, 4] } [(fun (x0 : T126) (x1 : Int) (x2 : Int) => Sh.fit s126 x0) (x0.2.2.2.1.getD i (0, ([], []))) x0.2.1 x0.2.2.1, (AV.p (.c (.v (.bool (!(validP (x0.2.2.2.1.getD i (0, ([], []))) x0.2.1 x0.2.2.1))))) = AV.p (.c (.v (.bool false)))), (AV.p (.c (.v (.bool (!decide ((x0.2.2.2.1.getD i (0, ([], []))).1 = x0.1))))) = AV.p (.c (.v (.bool true))))] gamOK hT h (by kernel_rfl) ⟨(by exact (Sh.fit_getD hf0.2.2.2.1 i)), hint_bool (h5), hint_bool (ndF h7), trivial⟩ ?_
              intro a w h
              refine then_normal ?_
              refine at_test true h (by kernel_rfl) (fun hh => ?_) (fun hh => nomatch hh)
              refine wp_seq ?_
              refine at_regq [] { ts := [1, 2, 3, 30, 31, 32, 44, 45, 46, 47, 48, 51, 52, 53, 54], os := [1, 2, 3, 4] } [] gamOK hT h (by kernel_rfl) trivial ?_
              intro a w h
              refine then_normal ?_
              refine wp_ret ?_
              refine in_ret ?_
              refine then_ret ?_
              have hs10 : (allN (recB x0) (List.length x0.2.2.2.1)) = false := by exact allN_at (i := i) (by omega) (by exact recB_f (by omega) (by first | (left; assumption) | (right; left; omega) | (right; right; assumption)))
              refine then_ret ?_
              refine in_ret ?_
              refine then_ret ?_
              exact at_return (S := S_impl_IsValidRecoder) (x := (x0, ())) (false, ()) [] h (by kernel_rfl) trivial (congrArg (fun z => (z, ())) (show (false) = validR x0 from by (first | (rw [← validR_y (by assumption) (by omega) (by assumption)]; symm; assumption) | exact validR_n (by first | (left; assumption) | (right; left; omega) | (right; right; left; assumption) | (right; right; right; assumption) | (right; right; right; exact ok_rec (by assumption))))))
        · replace h4 : ¬ (((i : Nat) : Int) < ((List.length x0.2.2.2.1 : Nat) : Int)) := of_decide_eq_false h4
          refine wp_exit ?_
          refine then_exit ?_
          have hs11 : (allN (recB x0) (List.length x0.2.2.2.1)) = true := by exact allN_eq (by omega) hok0.1 hok0.2
          refine then_exit ?_
          refine in_hit ?_
          refine then_normal ?_
          refine wp_seq ?_
          refine at_regq [] { ts := [2], os := [] } [] gamOK hT h (by kernel_rfl) trivial ?_
          intro a w h
          refine then_normal ?_
          refine wp_ret ?_
          exact at_return (S := S_impl_IsValidRecoder) (x := (x0, ())) (true, ()) [] h (by kernel_rfl) trivial (congrArg (fun z => (z, ())) (show (true) = validR x0 from by (first | (rw [← validR_y (by assumption) (by omega) (by assumption)]; symm; assumption) | exact validR_n (by first | (left; assumption) | (right; left; omega) | (right; right; left; assumption) | (right; right; right; assumption) | (right; right; right; exact ok_rec (by assumption))))))

def D_spec_Rank := (fun (m : List (List Int)) => ((List.length (rowRed m) : Nat) : Int))
def S_spec_Rank : Sum := { fid := 204, dom := [s80], cod := [(.int 3)], dp := true, fz := false, pre := fun x => (fun (x0 : (List (List Int))) => Sh.fit s80 x0) x.1, g := fun x => ((D_spec_Rank x.1), ()) }
def S_spec_Rank_tab : List (Nat × Sum) := [(245, S_spec_RowReduce)]
theorem S_spec_Rank_ok : FnOK Try.prog 204 S_spec_Rank := by
  refine at_enter 6 (fun x => ⟨[(0, aF s22 x.1)], []⟩) Try.func204 rfl (by kernel_rfl) (fun x => rfl) ?_
  rintro w0 Z0 ⟨x0, u⟩ a w
  revert x0
  intro (x0 : (List (List Int))) hpre hlens h
  replace h : At w0 Z0 [] 6 ⟨[(0, aF s22 x0)], []⟩ a w := h
  replace hpre : (fun (x0 : (List (List Int))) => Sh.fit s80 x0) x0 := hpre
  have hl1 : List.length x0 ≤ 9223372036854775807 := hlens.1.1
  have hT : TabOK Try.prog S_spec_Rank_tab := (.cons S_spec_RowReduce_ok .nil)
  have hf0 : Sh.fit s80 x0 := hpre
  have hn0_1 : List.length x0 ≤ 1073741824 := hf0.1
  refine wp_seq ?_
  refine at_regq [] { ts := [0, 2], os := [] } [] gamOK hT h (by kernel_rfl) trivial ?_
  intro a w h
  refine then_normal ?_
  refine wp_seq ?_
  refine at_regq [{}, { ids := [1] }] { ts := [2], os := [] } [(fun (x0 : (List (List Int))) => Sh.fit s80 x0) x0] gamOK hT h (by kernel_rfl) ⟨(by exact hf0), trivial⟩ ?_
  intro a w h
  refine then_normal ?_
  refine wp_ret ?_
  exact at_return (S := S_spec_Rank) (x := (x0, ())) (((List.length (rowRed x0) : Nat) : Int), ()) [] h (by kernel_rfl) trivial (congrArg (fun z => (z, ())) (show (((List.length (rowRed x0) : Nat) : Int)) = D_spec_Rank x0 from by unfold D_spec_Rank; rfl))

def S_spec_IsValidRecoder : Sum := { fid := 137, dom := [s122], cod := [(.bool 4)], dp := true, fz := false, pre := fun x => (fun (x0 : T122) => Sh.fit s122 x0) x.1, g := fun x => ((validR x.1), ()) }
def S_spec_IsValidRecoder_tab : List (Nat × Sum) := [(191, S_spec_l14Range), (138, S_spec_l1In), (176, S_spec_IsValidPacket), (204, S_spec_Rank)]
theorem S_spec_IsValidRecoder_ok : FnOK Try.prog 137 S_spec_IsValidRecoder := by
  refine at_enter 69 (fun x => ⟨[(0, aG [cI x.1.1, cI x.1.2.1, cI x.1.2.2.1, .ro s126 x.1.2.2.2.1, cI x.1.2.2.2.2])], []⟩) Try.func137 rfl (by kernel_rfl) (fun x => rfl) ?_
  rintro w0 Z0 ⟨x0, u⟩ a w
  revert x0
  intro (x0 : T122) hpre hlens h
  replace h : At w0 Z0 [] 69 ⟨[(0, aG [cI x0.1, cI x0.2.1, cI x0.2.2.1, .ro s126 x0.2.2.2.1, cI x0.2.2.2.2])], []⟩ a w := h
  replace hpre : (fun (x0 : T122) => Sh.fit s122 x0) x0 := hpre
  have hl1 : List.length x0.2.2.2.1 ≤ 9223372036854775807 := hlens.1.2.2.2.1.1
  have hT : TabOK Try.prog S_spec_IsValidRecoder_tab := (.cons S_spec_l14Range_ok (.cons S_spec_l1In_ok (.cons S_spec_IsValidPacket_ok (.cons S_spec_Rank_ok .nil))))
  have hf0 : Sh.fit s122 x0 := hpre
  have hn0_1 : List.length x0.2.2.2.1 ≤ 1073741824 := hf0.2.2.2.1.1
  refine wp_seq ?_
  refine at_regq [{ ids := [1] }] { ts := [1, 2], os := [1] } [] gamOK hT h (by kernel_rfl) trivial ?_
  intro a w h
  refine then_normal ?_
  refine wp_seq ?_
  refine wp_seq ?_
  rcases Bool.eq_false_or_eq_true (!(isFmt x0.1 x0.2.1 x0.2.2.1)) with h1 | h1
  · skip
    have hzh1 : (isFmt x0.1 x0.2.1 x0.2.2.1) = false := notT h1
    refine at_regq [{}, {}, {}, {}, {}, {}, {}, { hint := some (aB true) }] { ts := [1, 2, 24], os := [1] } [True, (AV.p (.c (.v (.bool (!(isFmt x0.1 x0.2.1 x0.2.2.1))))) = AV.p (.c (.v (.bool true))))] gamOK hT h (by kernel_rfl) ⟨trivial, hint_bool (h1), trivial⟩ ?_
    intro a w h
    refine then_normal ?_
    refine at_test true h (by kernel_rfl) (fun hh => ?_) (fun hh => nomatch hh)
    refine wp_seq ?_
    refine at_regq [] { ts := [1, 2], os := [1] } [] gamOK hT h (by kernel_rfl) trivial ?_
    intro a w h
    refine then_normal ?_
    refine wp_ret ?_
    refine then_ret ?_
    exact at_return (S := S_spec_IsValidRecoder) (x := (x0, ())) (false, ()) [] h (by kernel_rfl) trivial (congrArg (fun z => (z, ())) (show (false) = validR x0 from by (first | (rw [← validR_y (by assumption) (by omega) (by assumption)]; exact rank_cofs (by assumption) (by omega)) | exact validR_n (by first | (left; assumption) | (right; left; omega) | (right; right; left; assumption) | (right; right; right; assumption) | (right; right; right; exact ok_rec (by assumption))))))
  · skip
    have hzh1 : (isFmt x0.1 x0.2.1 x0.2.2.1) = true := notF h1
    have hvh1 := isFmt_t (notF h1)
    by_cases h2 : ((List.length x0.2.2.2.1 : Nat) : Int) > 8
    · skip
      refine at_regq [{}, {}, {}, {}, {}, {}, {}, { hint := some (aB false) }, {}, {}, {}, {}, { hint := some (aB true) }] { ts := [1, 2, 24], os := [1] } [True, (AV.p (.c (.v (.bool (!(isFmt x0.1 x0.2.1 x0.2.2.1))))) = AV.p (.c (.v (.bool false)))), (AV.p (.c (.v (.bool (decide (((List.length x0.2.2.2.1 : Nat) : Int) > 8))))) = AV.p (.c (.v (.bool true))))] gamOK hT h (by kernel_rfl) ⟨trivial, hint_bool (h1), hint_bool (decide_eq_true h2), trivial⟩ ?_
      intro a w h
      refine then_normal ?_
      refine at_test true h (by kernel_rfl) (fun hh => ?_) (fun hh => nomatch hh)
      refine wp_seq ?_
      refine at_regq [] { ts := [1, 2], os := [1] } [] gamOK hT h (by kernel_rfl) trivial ?_
      intro a w h
      refine then_normal ?_
      refine wp_ret ?_
      refine then_ret ?_
      exact at_return (S := S_spec_IsValidRecoder) (x := (x0, ())) (false, ()) [] h (by kernel_rfl) trivial (congrArg (fun z => (z, ())) (show (false) = validR x0 from by (first | (rw [← validR_y (by assumption) (by omega) (by assumption)]; exact rank_cofs (by assumption) (by omega)) | exact validR_n (by first | (left; assumption) | (right; left; omega) | (right; right; left; assumption) | (right; right; right; assumption) | (right; right; right; exact ok_rec (by assumption))))))
    · skip
      refine at_regq [{}, {}, {}, {}, {}, {}, {}, { hint := some (aB false) }, {}, {}, {}, {}, { hint := some (aB false) }] { ts := [1, 2, 24], os := [1] } [True, (AV.p (.c (.v (.bool (!(isFmt x0.1 x0.2.1 x0.2.2.1))))) = AV.p (.c (.v (.bool false)))), (AV.p (.c (.v (.bool (decide (((List.length x0.2.2.2.1 : Nat) : Int) > 8))))) = AV.p (.c (.v (.bool false)))), True] gamOK hT h (by kernel_rfl) ⟨trivial, hint_bool (h1), hint_bool (decide_eq_false h2), trivial, trivial⟩ ?_
      intro a w h
      refine then_normal ?_
      refine at_test (!(inR x0.2.2.2.2 0 1000000000000)) h (by kernel_rfl) (fun h3 => ?_) (fun h3 => ?_)
      · replace h3 : (inR x0.2.2.2.2 0 1000000000000) = false := notT h3
        have hvh3 := inR_f h3
        refine wp_seq ?_
        refine at_regq [] { ts := [1, 2], os := [1] } [] gamOK hT h (by kernel_rfl) trivial ?_
        intro a w h
        refine then_normal ?_
        refine wp_ret ?_
        refine then_ret ?_
        exact at_return (S := S_spec_IsValidRecoder) (x := (x0, ())) (false, ()) [] h (by kernel_rfl) trivial (congrArg (fun z => (z, ())) (show (false) = validR x0 from by (first | (rw [← validR_y (by assumption) (by omega) (by assumption)]; exact rank_cofs (by assumption) (by omega)) | exact validR_n (by first | (left; assumption) | (right; left; omega) | (right; right; left; assumption) | (right; right; right; assumption) | (right; right; right; exact ok_rec (by assumption))))))
      · replace h3 : (inR x0.2.2.2.2 0 1000000000000) = true := notF h3
        have hvh3 := inR_t h3
        refine wp_skip ?_
        refine then_normal ?_
        refine wp_seq ?_
        refine at_regq [{ ids := [2], dp := false }] { ts := [1, 2, 3], os := [1, 2] } [] gamOK hT h (by kernel_rfl) trivial ?_
        intro a w h
        refine then_normal ?_
        refine wp_seq ?_
        refine wp_seq ?_
        refine at_regq [] { ts := [1, 2, 3, 4], os := [1, 2] } [] gamOK hT h (by kernel_rfl) trivial ?_
        intro a w h
        refine then_normal ?_
        refine wp_block ?_
        replace h := at_out (σ' := ⟨[(1, aP 1 0), (2, aB false), (3, aS 2), (4, aI 0)], [(1, oX 122 [cI x0.1, cI x0.2.1, cI x0.2.2.1, .ro s126 x0.2.2.2.1, cI x0.2.2.2.2]), (2, oF s22 ([] : List (List Int)))]⟩) { ts := [1, 2, 3, 4], os := [1, 2] } h (by kernel_rfl)
        refine at_loop (fun i : Nat => (⟨[(1, aP 1 0), (2, aB false), (3, aS 2), (4, aI ((i : Nat) : Int))], [(1, oX 122 [cI x0.1, cI x0.2.1, cI x0.2.2.1, .ro s126 x0.2.2.2.1, cI x0.2.2.2.2]), (2, oF s22 (cofs (List.take i x0.2.2.2.1)))]⟩ : St)) (fun i => (i ≤ (List.length x0.2.2.2.1) ∧ allN (fun j => okPkt x0 (x0.2.2.2.1.getD j (0, ([], [])))) i = true)) (fun i => (List.length x0.2.2.2.1) - i) (0) h (st_congr2 (fun (d0 : List (List Int)) (d1 : Int) => (⟨[(1, aP 1 0), (2, aB false), (3, aS 2), (4, aI d1)], [(1, oX 122 [cI x0.1, cI x0.2.1, cI x0.2.2.1, .ro s126 x0.2.2.2.1, cI x0.2.2.2.2]), (2, oF s22 d0)]⟩ : St)) (show (([] : List (List Int)) : List (List Int)) = (cofs (List.take (0) x0.2.2.2.1)) from by first | with_reducible rfl | (rfl) | rfl) (show (0 : Int) = (((0) : Nat) : Int) from by first | with_reducible rfl | (rfl) | rfl)) (by exact ⟨Nat.zero_le _, rfl⟩) ?_
        intro i a w hok0 h
        have hcl := cofs_len (List.take i x0.2.2.2.1)
        have hlt := len_take_le (xs := x0.2.2.2.1) i
        refine wp_seq ?_
        refine wp_seq ?_
        refine at_regq [] { ts := [1, 2, 3, 4, 30], os := [1, 2] } [] gamOK hT h (by kernel_rfl) trivial ?_
        intro a w h
        refine then_normal ?_
        refine at_test (decide (((i : Nat) : Int) < ((List.length x0.2.2.2.1 : Nat) : Int))) h (by kernel_rfl) (fun h4 => ?_) (fun h4 => ?_)
        · replace h4 : ((i : Nat) : Int) < ((List.length x0.2.2.2.1 : Nat) : Int) := of_decide_eq_true h4
          refine wp_skip ?_
          refine then_normal ?_
          refine wp_seq ?_
          refine wp_block ?_
          refine wp_seq ?_
          refine wp_seq ?_
          rcases Bool.eq_false_or_eq_true (!(validP (x0.2.2.2.1.getD i (0, ([], []))) x0.2.1 x0.2.2.1)) with h5 | h5
          · skip
            have hzh5 : (validP (x0.2.2.2.1.getD i (0, ([], []))) x0.2.1 x0.2.2.1) = false := notT h5
            refine at_anyq [{}, {}, {}, {}, {}, {}, {}, {}, {}, {}, { hint := some (aB true) }, {}, {}, {}, {}, {}, {}, {}, {}, {}, {}, {}] { ts := [1, 2, 3, 4, 45, 46, 47, 48, 49, 50, 51, 52, 53, 54], os := [1, 2] } [(0 : Int) ≤ ((i : Nat) : Int) ∧ ((i : Nat) : Int) < ((List.length x0.2.2.2.1 : Nat) : Int), (fun (x0 : T126) (x1 : Int) (x2 : Int) => Sh.fit s126 x0) (x0.2.2.2.1.getD i (0, ([], []))) x0.2.1 x0.2.2.1, (AV.p (.c (.v (.bool (!(validP (x0.2.2.2.1.getD i (0, ([], []))) x0.2.1 x0.2.2.1))))) = AV.p (.c (.v (.bool true))))] gamOK hT mixed h (by kernel_rfl) ⟨(by refine ⟨?_, ?_⟩ <;> (first | omega | (simp only [lsA]; omega) | (simp; done) | (simp; omega) | done)), (by exact (Sh.fit_getD hf0.2.2.2.1 i)), hint_bool (h5), trivial⟩ ?_
            intro a w h
            refine then_normal ?_
            refine at_test true h (by kernel_rfl) (fun hh => ?_) (fun hh => nomatch hh)
            refine wp_seq ?_
            refine at_regq [] { ts := [1, 2, 3, 4, 45, 46, 47, 48, 49, 50, 51, 52, 53], os := [1, 2] } [] gamOK hT h (by kernel_rfl) trivial ?_
            intro a w h
            refine then_normal ?_
            refine wp_ret ?_
            refine then_ret ?_
            refine in_ret ?_
            refine then_ret ?_
            have hs6 : (allN (fun j => okPkt x0 (x0.2.2.2.1.getD j (0, ([], [])))) (List.length x0.2.2.2.1)) = false := by exact allN_at (i := i) (by omega) (by exact okPkt_f (by first | (left; assumption) | (right; omega)))
            refine then_ret ?_
            refine in_ret ?_
            refine then_ret ?_
            exact at_return (S := S_spec_IsValidRecoder) (x := (x0, ())) (false, ()) [] h (by kernel_rfl) trivial (congrArg (fun z => (z, ())) (show (false) = validR x0 from by (first | (rw [← validR_y (by assumption) (by omega) (by assumption)]; exact rank_cofs (by assumption) (by omega)) | exact validR_n (by first | (left; assumption) | (right; left; omega) | (right; right; left; assumption) | (right; right; right; assumption) | (right; right; right; exact ok_rec (by assumption))))))
          · skip
            have hzh5 : (validP (x0.2.2.2.1.getD i (0, ([], []))) x0.2.1 x0.2.2.1) = true := notF h5
            have hvh5 := validP_n (notF h5)
            refine at_anyq [{}, {}, {}, {}, {}, {}, {}, {}, {}, {}, { hint := some (aB false) }, {}, {}, {}, {}, {}, {}, {}, {}, {}, {}, {}] { ts := [1, 2, 3, 4, 45, 46, 47, 48, 49, 50, 51, 52, 53, 54], os := [1, 2] } [(0 : Int) ≤ ((i : Nat) : Int) ∧ ((i : Nat) : Int) < ((List.length x0.2.2.2.1 : Nat) : Int), (fun (x0 : T126) (x1 : Int) (x2 : Int) => Sh.fit s126 x0) (x0.2.2.2.1.getD i (0, ([], []))) x0.2.1 x0.2.2.1, (AV.p (.c (.v (.bool (!(validP (x0.2.2.2.1.getD i (0, ([], []))) x0.2.1 x0.2.2.1))))) = AV.p (.c (.v (.bool false)))), (0 : Int) ≤ ((i : Nat) : Int) ∧ ((i : Nat) : Int) < ((List.length x0.2.2.2.1 : Nat) : Int)] gamOK hT mixed h (by kernel_rfl) ⟨(by refine ⟨?_, ?_⟩ <;> (first | omega | (simp only [lsA]; omega) | (simp; done) | (simp; omega) | done)), (by exact (Sh.fit_getD hf0.2.2.2.1 i)), hint_bool (h5), (by refine ⟨?_, ?_⟩ <;> (first | omega | (simp only [lsA]; omega) | (simp; done) | (simp; omega) | done)), trivial⟩ ?_
            intro a w h
            refine then_normal ?_
            refine at_test (!decide ((x0.2.2.2.1.getD i (0, ([], []))).1 = x0.1)) h (by kernel_rfl) (fun h7 => ?_) (fun h7 => ?_)
            · replace h7 : ¬ ((x0.2.2.2.1.getD i (0, ([], []))).1 = x0.1) := of_decide_eq_false (notT h7)
              refine wp_seq ?_
              refine at_regq [] { ts := [1, 2, 3, 4, 45, 46, 47, 48, 49, 50, 51, 52, 53], os := [1, 2] } [] gamOK hT h (by kernel_rfl) trivial ?_
              intro a w h
              refine then_normal ?_
              refine wp_ret ?_
              refine then_ret ?_
              refine in_ret ?_
              refine then_ret ?_
              have hs8 : (allN (fun j => okPkt x0 (x0.2.2.2.1.getD j (0, ([], [])))) (List.length x0.2.2.2.1)) = false := by exact allN_at (i := i) (by omega) (by exact okPkt_f (by first | (left; assumption) | (right; omega)))
              refine then_ret ?_
              refine in_ret ?_
              refine then_ret ?_
              exact at_return (S := S_spec_IsValidRecoder) (x := (x0, ())) (false, ()) [] h (by kernel_rfl) trivial (congrArg (fun z => (z, ())) (show (false) = validR x0 from by (first | (rw [← validR_y (by assumption) (by omega) (by assumption)]; exact rank_cofs (by assumption) (by omega)) | exact validR_n (by first | (left; assumption) | (right; left; omega) | (right; right; left; assumption) | (right; right; right; assumption) | (right; right; right; exact ok_rec (by assumption))))))
            · replace h7 : (x0.2.2.2.1.getD i (0, ([], []))).1 = x0.1 := of_decide_eq_true (notF h7)
              refine wp_skip ?_
              refine then_normal ?_
              refine at_regq [{}, {}, {}, {}, {}, {}, {}, { ids := [3], dp := false }, { ids := [4] }] { ts := [1, 2, 3, 4, 45, 46, 47, 48, 49, 50, 51, 52, 53], os := [1, 4] } [(0 : Int) ≤ ((i : Nat) : Int) ∧ ((i : Nat) : Int) < ((List.length x0.2.2.2.1 : Nat) : Int), (List.length (cofs (List.take i x0.2.2.2.1)) + List.length ([(x0.2.2.2.1.getD i (0, ([], []))).2.1])) * 24 ≤ 140737488355328] gamOK hT h (by kernel_rfl) ⟨(by refine ⟨?_, ?_⟩ <;> (first | omega | (simp only [lsA]; omega) | (simp; done) | (simp; omega) | done)), (by first | omega | (simp only [lsA]; omega) | (simp; done) | (simp; omega) | done), trivial⟩ ?_
              intro a w h
              refine in_normal ?_
              refine then_normal ?_
              refine at_regq [{}, { nw := true }] { ts := [1, 2, 3, 4, 45, 46, 47, 48, 49, 50, 51, 52, 53], os := [1, 4] } [I64 (((i : Nat) : Int) + 1)] gamOK hT h (by kernel_rfl) ⟨⟨by first | omega | (simp only [lsA]; omega) | (simp; done) | (simp; omega) | done, by first | omega | (simp only [lsA]; omega) | (simp; done) | (simp; omega) | done⟩, trivial⟩ ?_
              intro a w h
              replace h := at_out (σ' := ⟨[(1, aP 1 0), (2, aB false), (3, aS 2), (4, aI (((i : Nat) : Int) + 1))], [(1, oX 122 [cI x0.1, cI x0.2.1, cI x0.2.2.1, .ro s126 x0.2.2.2.1, cI x0.2.2.2.2]), (2, oF s22 ((cofs (List.take i x0.2.2.2.1)) ++ ([(x0.2.2.2.1.getD i (0, ([], []))).2.1])))]⟩) { ts := [1, 2, 3, 4], os := [1, 4], rn := [(4, 2)] } h (by kernel_rfl)
              exact ⟨i + 1, at_eq h (st_congr2 (fun (d0 : List (List Int)) (d1 : Int) => (⟨[(1, aP 1 0), (2, aB false), (3, aS 2), (4, aI d1)], [(1, oX 122 [cI x0.1, cI x0.2.1, cI x0.2.2.1, .ro s126 x0.2.2.2.1, cI x0.2.2.2.2]), (2, oF s22 d0)]⟩ : St)) (show (((cofs (List.take i x0.2.2.2.1)) ++ ([(x0.2.2.2.1.getD i (0, ([], []))).2.1])) : List (List Int)) = (cofs (List.take (i + 1) x0.2.2.2.1)) from by first | with_reducible rfl | ((rw [take_snoc (z := (0, ([], []))) (by omega), cofs_snoc]; done)) | rfl) (show (((i : Nat) : Int) + 1 : Int) = (((i + 1) : Nat) : Int) from by first | with_reducible rfl | (omega) | rfl)), (by exact ⟨by omega, allN_succ hok0.2 (by exact okPkt_t (by assumption) (by omega))⟩), (by omega)⟩
        · replace h4 : ¬ (((i : Nat) : Int) < ((List.length x0.2.2.2.1 : Nat) : Int)) := of_decide_eq_false h4
          refine wp_exit ?_
          refine then_exit ?_
          have hs9 : (allN (fun j => okPkt x0 (x0.2.2.2.1.getD j (0, ([], [])))) (List.length x0.2.2.2.1)) = true := by exact allN_eq (by omega) hok0.1 hok0.2
          replace h := at_out (σ' := ⟨[(2, aB false), (3, aS 2)], [(2, oF s22 (cofs (List.take i x0.2.2.2.1)))]⟩) { ts := [2, 3], os := [2] } h (by kernel_rfl)
          replace h := at_eq (σ' := ⟨[(2, aB false), (3, aS 2)], [(2, oF s22 (cofs x0.2.2.2.1))]⟩) h (st_congr1 (fun (d0 : List (List Int)) => (⟨[(2, aB false), (3, aS 2)], [(2, oF s22 d0)]⟩ : St)) (show ((cofs (List.take i x0.2.2.2.1)) : List (List Int)) = (cofs x0.2.2.2.1) from by first | with_reducible rfl | (rw [take_all (by omega)]) | rfl))
          refine then_exit ?_
          refine in_hit ?_
          refine then_normal ?_
          refine wp_seq ?_
          refine at_regq [] { ts := [2], os := [] } [(fun (x0 : (List (List Int))) => Sh.fit s80 x0) (cofs x0.2.2.2.1)] gamOK hT h (by kernel_rfl) ⟨(by exact fit_cofs hf0.2.2.2.1), trivial⟩ ?_
          intro a w h
          refine then_normal ?_
          refine wp_ret ?_
          exact at_return (S := S_spec_IsValidRecoder) (x := (x0, ())) (decide ((D_spec_Rank (cofs x0.2.2.2.1)) = ((List.length (cofs x0.2.2.2.1) : Nat) : Int)), ()) [] h (by kernel_rfl) trivial (congrArg (fun z => (z, ())) (show (decide ((D_spec_Rank (cofs x0.2.2.2.1)) = ((List.length (cofs x0.2.2.2.1) : Nat) : Int))) = validR x0 from by (first | (rw [← validR_y (by assumption) (by omega) (by assumption)]; exact rank_cofs (by assumption) (by omega)) | exact validR_n (by first | (left; assumption) | (right; left; omega) | (right; right; left; assumption) | (right; right; right; assumption) | (right; right; right; exact ok_rec (by assumption))))))

def S__P_impl_Recoder_accept : Sum := { fid := 155, dom := [s122, s126], cod := [(.bool 4)], dp := true, fz := false, pre := fun x => (fun (x0 : T122) (x1 : T126) => Sh.fit s122 x0 ∧ Sh.fit s126 x1 ∧ recP x0) x.1 x.2.1, g := fun x => ((accOK x.1 x.2.1), ()), kinds := [(.bx 122 0), .rd], upd := fun x => (accU x.1 x.2.1, (x.2.1, ())) }
def S__P_impl_Recoder_accept_tab : List (Nat × Sum) := [(179, S_impl_IsValidPacket), (205, S_impl_NewBasis), (151, S__P_impl_Basis_insert), (103, S__impl_CodedPacket_clone)]
theorem S__P_impl_Recoder_accept_ok : FnOK Try.prog 155 S__P_impl_Recoder_accept := by
  refine at_enterI 69 [1, 2] [3] (fun us x => ⟨[(0, aP 1 0), (1, aG [cI x.2.1.1, .ro (.int 3) x.2.1.2.1, .ro (.int 3) x.2.1.2.2])], [(1, oX 122 [cI x.1.1, cI x.1.2.1, cI x.1.2.2.1, .sl 2, cI x.1.2.2.2.2]), (2, oR s126 x.1.2.2.2.1), (3, oP 1 (S__P_impl_Recoder_accept.hd us 0))]⟩) Try.func155 rfl (by kernel_rfl) (fun us x => rfl) ?_
  rintro w0 Z0 us ⟨x0, x1, u⟩ L a w
  revert x0 x1
  intro (x0 : T122) (x1 : T126) hio hpre hlens h
  replace h : At w0 Z0 L 69 ⟨[(0, aP 1 0), (1, aG [cI x1.1, .ro (.int 3) x1.2.1, .ro (.int 3) x1.2.2])], [(1, oX 122 [cI x0.1, cI x0.2.1, cI x0.2.2.1, .sl 2, cI x0.2.2.2.2]), (2, oR s126 x0.2.2.2.1), (3, oP 1 (S__P_impl_Recoder_accept.hd us 0))]⟩ a w := h
  replace hpre : (fun (x0 : T122) (x1 : T126) => Sh.fit s122 x0 ∧ Sh.fit s126 x1 ∧ recP x0) x0 x1 := hpre
  have hl1 : List.length x0.2.2.2.1 ≤ 9223372036854775807 := hlens.1.2.2.2.1.1
  have hl2 : List.length x1.2.1 ≤ 9223372036854775807 := hlens.2.1.2.1.1
  have hl3 : List.length x1.2.2 ≤ 9223372036854775807 := hlens.2.1.2.2.1
  have hT : TabOK Try.prog S__P_impl_Recoder_accept_tab := (.cons S_impl_IsValidPacket_ok (.cons S_impl_NewBasis_ok (.cons S__P_impl_Basis_insert_ok (.cons S__impl_CodedPacket_clone_ok .nil))))
  obtain ⟨hf0, hf1, hpx⟩ := hpre
  have hn0_1 : List.length x0.2.2.2.1 ≤ 1073741824 := hf0.2.2.2.1.1
  have hn1_2 : List.length x1.2.1 ≤ 1073741824 := hf1.2.1.1
  have hn1_3 : List.length x1.2.2 ≤ 1073741824 := hf1.2.2.1
  have hpl := hpx.1
  refine wp_seq ?_
  refine at_regq [{ ids := [4] }] { ts := [0, 3, 4], os := [1, 2, 3, 4] } [] gamOK hT h (by kernel_rfl) trivial ?_
  intro a w h
  refine then_normal ?_
  refine wp_seq ?_
  refine wp_seq ?_
  by_cases h1 : ((List.length x0.2.2.2.1 : Nat) : Int) = 8
  · skip
    refine at_anyq [{}, {}, {}, {}, {}, { hint := some (aB true) }, {}, {}, {}, {}, {}, {}, {}, {}, {}, {}, {}, {}, {}, {}, {}, {}, {}, {}, {}, {}, {}, {}] { ts := [0, 3, 4, 35], os := [1, 2, 3, 4] } [(AV.p (.c (.v (.bool (decide (((List.length x0.2.2.2.1 : Nat) : Int) = 8))))) = AV.p (.c (.v (.bool true))))] gamOK hT mixed h (by kernel_rfl) ⟨hint_bool (decide_eq_true h1), trivial⟩ ?_
    intro a w h
    refine then_normal ?_
    refine at_test true h (by kernel_rfl) (fun hh => ?_) (fun hh => nomatch hh)
    refine wp_seq ?_
    refine at_regq [] { ts := [0, 3, 4], os := [1, 2, 3, 4] } [] gamOK hT h (by kernel_rfl) trivial ?_
    intro a w h
    refine then_normal ?_
    refine wp_ret ?_
    refine then_ret ?_
    exact at_returnI (S := S__P_impl_Recoder_accept) (x := (x0, x1, ())) [1, 2] [3] (x0, (x1, ())) (some (false, ())) [S__P_impl_Recoder_accept.hd us 0 = S__P_impl_Recoder_accept.hd us 0] hio h (by kernel_rfl) ⟨rfl, trivial⟩ (by first | rfl | exact congrArg (fun (z : T122) => (z, (x1, ()))) (show (x0 : T122) = accU x0 x1 from by (first | (rw [accU_no (accOK_f (by first | (left; omega) | (right; left; assumption) | (right; right; left; omega) | (right; right; right; rw [← hie]; assumption)))]; done) | (rw [accU_yes (accOK_t (by omega) (by assumption) (by omega) (by rw [← hie]; assumption))]; done)))) (fun z e => (Option.some.inj e) ▸ (congrArg (fun z => (z, ())) (show (false) = accOK x0 x1 from by (first | exact (accOK_f (by first | (left; omega) | (right; left; assumption) | (right; right; left; omega) | (right; right; right; rw [← hie]; assumption))).symm | exact (accOK_t (by omega) (by assumption) (by omega) (by rw [← hie]; assumption)).symm))))
  · skip
    rcases Bool.eq_false_or_eq_true (!(validP x1 x0.2.1 x0.2.2.1)) with h2 | h2
    · skip
      have hzh2 : (validP x1 x0.2.1 x0.2.2.1) = false := notT h2
      refine at_anyq [{}, {}, {}, {}, {}, { hint := some (aB false) }, {}, {}, {}, {}, {}, {}, {}, {}, {}, {}, {}, { hint := some (aB true) }, {}, {}, {}, {}, {}, {}, {}, {}, {}, {}] { ts := [0, 3, 4, 35], os := [1, 2, 3, 4] } [(AV.p (.c (.v (.bool (decide (((List.length x0.2.2.2.1 : Nat) : Int) = 8))))) = AV.p (.c (.v (.bool false)))), (fun (x0 : T126) (x1 : Int) (x2 : Int) => Sh.fit s126 x0) x1 x0.2.1 x0.2.2.1, (AV.p (.c (.v (.bool (!(validP x1 x0.2.1 x0.2.2.1))))) = AV.p (.c (.v (.bool true))))] gamOK hT mixed h (by kernel_rfl) ⟨hint_bool (decide_eq_false h1), (by exact hf1), hint_bool (h2), trivial⟩ ?_
      intro a w h
      refine then_normal ?_
      refine at_test true h (by kernel_rfl) (fun hh => ?_) (fun hh => nomatch hh)
      refine wp_seq ?_
      refine at_regq [] { ts := [0, 3, 4], os := [1, 2, 3, 4] } [] gamOK hT h (by kernel_rfl) trivial ?_
      intro a w h
      refine then_normal ?_
      refine wp_ret ?_
      refine then_ret ?_
      exact at_returnI (S := S__P_impl_Recoder_accept) (x := (x0, x1, ())) [1, 2] [3] (x0, (x1, ())) (some (false, ())) [S__P_impl_Recoder_accept.hd us 0 = S__P_impl_Recoder_accept.hd us 0] hio h (by kernel_rfl) ⟨rfl, trivial⟩ (by first | rfl | exact congrArg (fun (z : T122) => (z, (x1, ()))) (show (x0 : T122) = accU x0 x1 from by (first | (rw [accU_no (accOK_f (by first | (left; omega) | (right; left; assumption) | (right; right; left; omega) | (right; right; right; rw [← hie]; assumption)))]; done) | (rw [accU_yes (accOK_t (by omega) (by assumption) (by omega) (by rw [← hie]; assumption))]; done)))) (fun z e => (Option.some.inj e) ▸ (congrArg (fun z => (z, ())) (show (false) = accOK x0 x1 from by (first | exact (accOK_f (by first | (left; omega) | (right; left; assumption) | (right; right; left; omega) | (right; right; right; rw [← hie]; assumption))).symm | exact (accOK_t (by omega) (by assumption) (by omega) (by rw [← hie]; assumption)).symm))))
    · skip
      have hzh2 : (validP x1 x0.2.1 x0.2.2.1) = true := notF h2
      have hvh2 := validP_n (notF h2)
      refine at_anyq [{}, {}, {}, {}, {}, { hint := some (aB false) }, {}, {}, {}, {}, {}, {}, {}, {}, {}, {}, {}, { hint := some (aB false) }, {}, {}, {}, {}, {}, {}, {}, {}, {}, {}] { ts := [0, 3, 4, 35], os := [1, 2, 3, 4] } [(AV.p (.c (.v (.bool (decide (((List.length x0.2.2.2.1 : Nat) : Int) = 8))))) = AV.p (.c (.v (.bool false)))), (fun (x0 : T126) (x1 : Int) (x2 : Int) => Sh.fit s126 x0) x1 x0.2.1 x0.2.2.1, (AV.p (.c (.v (.bool (!(validP x1 x0.2.1 x0.2.2.1))))) = AV.p (.c (.v (.bool false))))] gamOK hT mixed h (by kernel_rfl) ⟨hint_bool (decide_eq_false h1), (by exact hf1), hint_bool (h2), trivial⟩ ?_
      intro a w h
      refine then_normal ?_
      refine at_test (!decide (x1.1 = x0.1)) h (by kernel_rfl) (fun h3 => ?_) (fun h3 => ?_)
      · replace h3 : ¬ (x1.1 = x0.1) := of_decide_eq_false (notT h3)
        refine wp_seq ?_
        refine at_regq [] { ts := [0, 3, 4], os := [1, 2, 3, 4] } [] gamOK hT h (by kernel_rfl) trivial ?_
        intro a w h
        refine then_normal ?_
        refine wp_ret ?_
        refine then_ret ?_
        exact at_returnI (S := S__P_impl_Recoder_accept) (x := (x0, x1, ())) [1, 2] [3] (x0, (x1, ())) (some (false, ())) [S__P_impl_Recoder_accept.hd us 0 = S__P_impl_Recoder_accept.hd us 0] hio h (by kernel_rfl) ⟨rfl, trivial⟩ (by first | rfl | exact congrArg (fun (z : T122) => (z, (x1, ()))) (show (x0 : T122) = accU x0 x1 from by (first | (rw [accU_no (accOK_f (by first | (left; omega) | (right; left; assumption) | (right; right; left; omega) | (right; right; right; rw [← hie]; assumption)))]; done) | (rw [accU_yes (accOK_t (by omega) (by assumption) (by omega) (by rw [← hie]; assumption))]; done)))) (fun z e => (Option.some.inj e) ▸ (congrArg (fun z => (z, ())) (show (false) = accOK x0 x1 from by (first | exact (accOK_f (by first | (left; omega) | (right; left; assumption) | (right; right; left; omega) | (right; right; right; rw [← hie]; assumption))).symm | exact (accOK_t (by omega) (by assumption) (by omega) (by rw [← hie]; assumption)).symm))))
      · replace h3 : x1.1 = x0.1 := of_decide_eq_true (notF h3)
        refine wp_skip ?_
        refine then_normal ?_
        refine wp_seq ?_
        refine at_regq [{}, {}, {}, {}, { ids := [5] }, { ids := [6] }] { ts := [0, 3, 4, 5], os := [1, 2, 3, 4, 5, 6] } [True] gamOK hT h (by kernel_rfl) ⟨trivial, trivial⟩ ?_
        intro a w h
        refine then_normal ?_
        refine wp_seq ?_
        refine wp_seq ?_
        refine at_regq [] { ts := [0, 3, 4, 5, 44, 45, 46], os := [1, 2, 3, 4, 5, 6] } [] gamOK hT h (by kernel_rfl) trivial ?_
        intro a w h
        refine then_normal ?_
        refine wp_block ?_
        replace h := at_out (σ' := ⟨[(0, aP 1 0), (3, aP 4 0), (4, aB false), (5, aP 6 0), (44, aS 2), (45, aI ((List.length x0.2.2.2.1 : Nat) : Int)), (46, aI 0)], [(1, oX 122 [cI x0.1, cI x0.2.1, cI x0.2.2.1, .sl 2, cI x0.2.2.2.2]), (2, oR s126 x0.2.2.2.1), (3, oP 1 (S__P_impl_Recoder_accept.hd us 0)), (4, oX 126 [cI x1.1, .ro (.int 3) x1.2.1, .ro (.int 3) x1.2.2]), (5, oR s22 (newBas x0.2.1).2), (6, oX 105 [cI (newBas x0.2.1).1, .sl 5])]⟩) { ts := [0, 3, 4, 5, 44, 45, 46], os := [1, 2, 3, 4, 5, 6] } h (by kernel_rfl)
        refine at_loop (fun i : Nat => (⟨[(0, aP 1 0), (3, aP 4 0), (4, aB false), (5, aP 6 0), (44, aS 2), (45, aI ((List.length x0.2.2.2.1 : Nat) : Int)), (46, aI ((i : Nat) : Int))], [(1, oX 122 [cI x0.1, cI x0.2.1, cI x0.2.2.1, .sl 2, cI x0.2.2.2.2]), (2, oR s126 x0.2.2.2.1), (3, oP 1 (S__P_impl_Recoder_accept.hd us 0)), (4, oX 126 [cI x1.1, .ro (.int 3) x1.2.1, .ro (.int 3) x1.2.2]), (5, oR s22 (LA.insTo (cofs x0.2.2.2.1) i)), (6, oX 105 [cI x0.2.1, .sl 5])]⟩ : St)) (fun i => i ≤ (List.length x0.2.2.2.1)) (fun i => (List.length x0.2.2.2.1) - i) (0) h (st_congr4 (fun (d0 : Int) (d1 : List (List Int)) (d2 : List T126) (d3 : Int) => (⟨[(0, aP 1 0), (3, aP 4 0), (4, aB false), (5, aP 6 0), (44, aS 2), (45, aI ((List.length x0.2.2.2.1 : Nat) : Int)), (46, aI d3)], [(1, oX 122 [cI x0.1, cI x0.2.1, cI x0.2.2.1, .sl 2, cI x0.2.2.2.2]), (2, oR s126 d2), (3, oP 1 (S__P_impl_Recoder_accept.hd us 0)), (4, oX 126 [cI x1.1, .ro (.int 3) x1.2.1, .ro (.int 3) x1.2.2]), (5, oR s22 d1), (6, oX 105 [cI d0, .sl 5])]⟩ : St)) (show ((newBas x0.2.1).1 : Int) = x0.2.1 from by first | with_reducible rfl | (first | rfl | (rw [newBas_at (by omega)]; done) | (rw [newBas_at (by omega)]; rfl)) | rfl) (show ((newBas x0.2.1).2 : List (List Int)) = (LA.insTo (cofs x0.2.2.2.1) (0)) from by first | with_reducible rfl | (first | rfl | (rw [newBas_at (by omega)]; done) | (rw [newBas_at (by omega)]; rfl)) | rfl) (show (x0.2.2.2.1 : List T126) = x0.2.2.2.1 from by first | with_reducible rfl | (first | rfl | (rw [newBas_at (by omega)]; done) | (rw [newBas_at (by omega)]; rfl)) | rfl) (show (0 : Int) = (((0) : Nat) : Int) from by first | with_reducible rfl | (first | rfl | (rw [newBas_at (by omega)]; done) | (rw [newBas_at (by omega)]; rfl)) | rfl)) (by omega) ?_
        intro i a w hok0 h
        refine wp_seq ?_
        refine at_regq [] { ts := [0, 3, 4, 5, 44, 45, 46, 47], os := [1, 2, 3, 4, 5, 6] } [] gamOK hT h (by kernel_rfl) trivial ?_
        intro a w h
        refine then_normal ?_
        refine wp_seq ?_
        refine at_test (decide (((i : Nat) : Int) < ((List.length x0.2.2.2.1 : Nat) : Int))) h (by kernel_rfl) (fun h4 => ?_) (fun h4 => ?_)
        · replace h4 : ((i : Nat) : Int) < ((List.length x0.2.2.2.1 : Nat) : Int) := of_decide_eq_true h4
          have hrw := recP_row hpx (show i < (List.length x0.2.2.2.1) by omega)
          have hbP : basP (x0.2.1, (LA.insTo (cofs x0.2.2.2.1) i)) := ⟨by omega, recP_red hpx (by omega)⟩
          refine wp_skip ?_
          refine then_normal ?_
          refine wp_seq ?_
          refine wp_block ?_
          refine wp_seq ?_
          replace h := at_open (σ' := ⟨[(0, aP 1 0), (3, aP 4 0), (4, aB false), (5, aP 6 0), (44, aS 2), (45, aI ((List.length x0.2.2.2.1 : Nat) : Int)), (46, aI ((i : Nat) : Int)), (47, aB (decide (((i : Nat) : Int) < ((List.length x0.2.2.2.1 : Nat) : Int))))], [(1, oX 122 [cI x0.1, cI x0.2.1, cI x0.2.2.1, .sl 2, cI x0.2.2.2.2]), (2, some (.op s126 x0.2.2.2.1 i [cI (x0.2.2.2.1.getD i (0, ([], []))).1, .sl 7, .sl 8])), (3, oP 1 (S__P_impl_Recoder_accept.hd us 0)), (4, oX 126 [cI x1.1, .ro (.int 3) x1.2.1, .ro (.int 3) x1.2.2]), (5, oR s22 (LA.insTo (cofs x0.2.2.2.1) i)), (6, oX 105 [cI x0.2.1, .sl 5]), (7, oR (.int 3) (x0.2.2.2.1.getD i (0, ([], []))).2.1), (8, oR (.int 3) (x0.2.2.2.1.getD i (0, ([], []))).2.2)]⟩) (ps := [i < List.length x0.2.2.2.1]) 2 i [7, 8] { ts := [0, 3, 4, 5, 44, 45, 46, 47], os := [1, 2, 3, 4, 5, 6, 7, 8] } h (by kernel_rfl) ⟨(by first | omega | (simp only [lsA]; omega) | (simp; done) | (simp; omega) | done), trivial⟩
          refine at_regq [{}, {}, { ids := [9] }] { ts := [0, 3, 4, 5, 7, 44, 45, 46], os := [1, 2, 3, 4, 5, 6, 7, 8, 9] } [(0 : Int) ≤ ((i : Nat) : Int) ∧ ((i : Nat) : Int) < ((List.length x0.2.2.2.1 : Nat) : Int), i = i] gamOK hT h (by kernel_rfl) ⟨(by refine ⟨?_, ?_⟩ <;> (first | omega | (simp only [lsA]; omega) | (simp; done) | (simp; omega) | done)), rfl, trivial⟩ ?_
          intro a w h
          refine then_normal ?_
          refine at_regq [{}, {}, { ids := [10] }] { ts := [0, 3, 4, 5, 44, 45, 46], os := [1, 2, 3, 4, 6, 7, 8, 10] } [(fun (x0 : T105) (x1 : (List Int)) => Sh.fit s105 x0 ∧ Sh.fit s22 x1 ∧ redP x0 x1) (x0.2.1, (LA.insTo (cofs x0.2.2.2.1) i)) (x0.2.2.2.1.getD i (0, ([], []))).2.1] gamOK hT h (by kernel_rfl) ⟨(by exact ⟨basP_fit hbP, fitV hrw (by omega), hbP, hrw⟩), trivial⟩ ?_
          intro a w h
          refine in_normal ?_
          refine then_normal ?_
          refine at_regq [{ nw := true }] { ts := [0, 3, 4, 5, 44, 45, 46], os := [1, 2, 3, 4, 6, 7, 8, 10] } [I64 (((i : Nat) : Int) + 1)] gamOK hT h (by kernel_rfl) ⟨⟨by first | omega | (simp only [lsA]; omega) | (simp; done) | (simp; omega) | done, by first | omega | (simp only [lsA]; omega) | (simp; done) | (simp; omega) | done⟩, trivial⟩ ?_
          intro a w h
          replace h := at_shut (σ' := ⟨[(0, aP 1 0), (3, aP 4 0), (4, aB false), (5, aP 6 0), (44, aS 2), (45, aI ((List.length x0.2.2.2.1 : Nat) : Int)), (46, aI (((i : Nat) : Int) + 1))], [(1, oX 122 [cI x0.1, cI x0.2.1, cI x0.2.2.1, .sl 2, cI x0.2.2.2.2]), (2, oR s126 (List.set x0.2.2.2.1 i (x0.2.2.2.1.getD i (0, ([], []))))), (3, oP 1 (S__P_impl_Recoder_accept.hd us 0)), (4, oX 126 [cI x1.1, .ro (.int 3) x1.2.1, .ro (.int 3) x1.2.2]), (6, oX 105 [cI (insU (x0.2.1, (LA.insTo (cofs x0.2.2.2.1) i)) (x0.2.2.2.1.getD i (0, ([], []))).2.1).1, .sl 10]), (10, oR s22 (insU (x0.2.1, (LA.insTo (cofs x0.2.2.2.1) i)) (x0.2.2.2.1.getD i (0, ([], []))).2.1).2)]⟩) (ps := []) 2 { ts := [0, 3, 4, 5, 44, 45, 46], os := [1, 2, 3, 4, 6, 10] } h (by kernel_rfl) trivial
          replace h := at_out (σ' := ⟨[(0, aP 1 0), (3, aP 4 0), (4, aB false), (5, aP 6 0), (44, aS 2), (45, aI ((List.length x0.2.2.2.1 : Nat) : Int)), (46, aI (((i : Nat) : Int) + 1))], [(1, oX 122 [cI x0.1, cI x0.2.1, cI x0.2.2.1, .sl 2, cI x0.2.2.2.2]), (2, oR s126 (List.set x0.2.2.2.1 i (x0.2.2.2.1.getD i (0, ([], []))))), (3, oP 1 (S__P_impl_Recoder_accept.hd us 0)), (4, oX 126 [cI x1.1, .ro (.int 3) x1.2.1, .ro (.int 3) x1.2.2]), (5, oR s22 (insU (x0.2.1, (LA.insTo (cofs x0.2.2.2.1) i)) (x0.2.2.2.1.getD i (0, ([], []))).2.1).2), (6, oX 105 [cI (insU (x0.2.1, (LA.insTo (cofs x0.2.2.2.1) i)) (x0.2.2.2.1.getD i (0, ([], []))).2.1).1, .sl 5])]⟩) { ts := [0, 3, 4, 5, 44, 45, 46], os := [1, 2, 3, 4, 10, 6], rn := [(10, 5)] } h (by kernel_rfl)
          exact ⟨i + 1, at_eq h (st_congr4 (fun (d0 : Int) (d1 : List (List Int)) (d2 : List T126) (d3 : Int) => (⟨[(0, aP 1 0), (3, aP 4 0), (4, aB false), (5, aP 6 0), (44, aS 2), (45, aI ((List.length x0.2.2.2.1 : Nat) : Int)), (46, aI d3)], [(1, oX 122 [cI x0.1, cI x0.2.1, cI x0.2.2.1, .sl 2, cI x0.2.2.2.2]), (2, oR s126 d2), (3, oP 1 (S__P_impl_Recoder_accept.hd us 0)), (4, oX 126 [cI x1.1, .ro (.int 3) x1.2.1, .ro (.int 3) x1.2.2]), (5, oR s22 d1), (6, oX 105 [cI d0, .sl 5])]⟩ : St)) (show ((insU (x0.2.1, (LA.insTo (cofs x0.2.2.2.1) i)) (x0.2.2.2.1.getD i (0, ([], []))).2.1).1 : Int) = x0.2.1 from by first | with_reducible rfl | (rfl) | rfl) (show ((insU (x0.2.1, (LA.insTo (cofs x0.2.2.2.1) i)) (x0.2.2.2.1.getD i (0, ([], []))).2.1).2 : List (List Int)) = (LA.insTo (cofs x0.2.2.2.1) (i + 1)) from by first | with_reducible rfl | (exact insTo_next (by omega)) | rfl) (show ((List.set x0.2.2.2.1 i (x0.2.2.2.1.getD i (0, ([], [])))) : List T126) = x0.2.2.2.1 from by first | with_reducible rfl | (exact set_self (by omega)) | rfl) (show (((i : Nat) : Int) + 1 : Int) = (((i + 1) : Nat) : Int) from by first | with_reducible rfl | (omega) | rfl)), (by omega), (by omega)⟩
        · replace h4 : ¬ (((i : Nat) : Int) < ((List.length x0.2.2.2.1 : Nat) : Int)) := of_decide_eq_false h4
          have hie : i = (List.length x0.2.2.2.1) := by omega
          have hbP : basP (x0.2.1, (LA.insTo (cofs x0.2.2.2.1) i)) := ⟨by omega, recP_red hpx (by omega)⟩
          have hpv := validP_t (p := x1) (by assumption)
          have hrw : LA.VokB x0.2.1.toNat x1.2.1 := ⟨by have := hpv.2.1; omega, (validV_t hpv.2.2.2.1).2.1⟩
          refine wp_exit ?_
          refine then_exit ?_
          refine then_exit ?_
          refine in_hit ?_
          refine then_normal ?_
          refine wp_seq ?_
          refine wp_seq ?_
          refine at_regq [{}, {}, { ids := [11] }] { ts := [0, 3, 4, 57], os := [1, 2, 3, 4] } [(fun (x0 : T105) (x1 : (List Int)) => Sh.fit s105 x0 ∧ Sh.fit s22 x1 ∧ redP x0 x1) (x0.2.1, (LA.insTo (cofs x0.2.2.2.1) i)) x1.2.1] gamOK hT h (by kernel_rfl) ⟨(by exact ⟨basP_fit hbP, fitV hrw (by omega), hbP, hrw⟩), trivial⟩ ?_
          intro a w h
          refine then_normal ?_
          refine at_test (!(insD (x0.2.1, (LA.insTo (cofs x0.2.2.2.1) i)) x1.2.1)) h (by kernel_rfl) (fun h5 => ?_) (fun h5 => ?_)
          · replace h5 : (insD (x0.2.1, (LA.insTo (cofs x0.2.2.2.1) i)) x1.2.1) = false := notT h5
            refine wp_seq ?_
            refine at_regq [] { ts := [0, 3, 4], os := [1, 2, 3, 4] } [] gamOK hT h (by kernel_rfl) trivial ?_
            intro a w h
            refine then_normal ?_
            refine wp_ret ?_
            refine then_ret ?_
            exact at_returnI (S := S__P_impl_Recoder_accept) (x := (x0, x1, ())) [1, 2] [3] (x0, (x1, ())) (some (false, ())) [S__P_impl_Recoder_accept.hd us 0 = S__P_impl_Recoder_accept.hd us 0] hio h (by kernel_rfl) ⟨rfl, trivial⟩ (by first | rfl | exact congrArg (fun (z : T122) => (z, (x1, ()))) (show (x0 : T122) = accU x0 x1 from by (first | (rw [accU_no (accOK_f (by first | (left; omega) | (right; left; assumption) | (right; right; left; omega) | (right; right; right; rw [← hie]; assumption)))]; done) | (rw [accU_yes (accOK_t (by omega) (by assumption) (by omega) (by rw [← hie]; assumption))]; done)))) (fun z e => (Option.some.inj e) ▸ (congrArg (fun z => (z, ())) (show (false) = accOK x0 x1 from by (first | exact (accOK_f (by first | (left; omega) | (right; left; assumption) | (right; right; left; omega) | (right; right; right; rw [← hie]; assumption))).symm | exact (accOK_t (by omega) (by assumption) (by omega) (by rw [← hie]; assumption)).symm))))
          · replace h5 : (insD (x0.2.1, (LA.insTo (cofs x0.2.2.2.1) i)) x1.2.1) = true := notF h5
            refine wp_skip ?_
            refine then_normal ?_
            refine wp_seq ?_
            refine at_anyq [{}, {}, {}, {}, {}, {}, { ids := [12, 13] }, { ids := [14] }, { ids := [15] }, {}, {}, {}] { ts := [4], os := [1, 3, 15] } [(fun (x0 : T126) => Sh.fit s126 x0) x1, (List.length x0.2.2.2.1 + List.length ([x1])) * 56 ≤ 140737488355328] gamOK hT mixed h (by kernel_rfl) ⟨(by exact hf1), (by first | omega | (simp only [lsA]; omega) | (simp; done) | (simp; omega) | done), trivial⟩ ?_
            intro a w h
            refine then_normal ?_
            refine wp_seq ?_
            refine at_regq [] { ts := [4], os := [1, 3, 15] } [] gamOK hT h (by kernel_rfl) trivial ?_
            intro a w h
            refine then_normal ?_
            refine wp_ret ?_
            exact at_returnI (S := S__P_impl_Recoder_accept) (x := (x0, x1, ())) [1, 2] [3] ((x0.1, (x0.2.1, (x0.2.2.1, ((x0.2.2.2.1 ++ ([x1])), x0.2.2.2.2)))), (x1, ())) (some (true, ())) [S__P_impl_Recoder_accept.hd us 0 = S__P_impl_Recoder_accept.hd us 0] hio h (by kernel_rfl) ⟨rfl, trivial⟩ (by first | rfl | exact congrArg (fun (z : T122) => (z, (x1, ()))) (show ((x0.1, (x0.2.1, (x0.2.2.1, ((x0.2.2.2.1 ++ ([x1])), x0.2.2.2.2)))) : T122) = accU x0 x1 from by (first | (rw [accU_no (accOK_f (by first | (left; omega) | (right; left; assumption) | (right; right; left; omega) | (right; right; right; rw [← hie]; assumption)))]; done) | (rw [accU_yes (accOK_t (by omega) (by assumption) (by omega) (by rw [← hie]; assumption))]; done)))) (fun z e => (Option.some.inj e) ▸ (congrArg (fun z => (z, ())) (show (true) = accOK x0 x1 from by (first | exact (accOK_f (by first | (left; omega) | (right; left; assumption) | (right; right; left; omega) | (right; right; right; rw [← hie]; assumption))).symm | exact (accOK_t (by omega) (by assumption) (by omega) (by rw [← hie]; assumption)).symm))))

def S_impl_AcceptPacket : Sum := { fid := 75, dom := [s122, s126], cod := [s122, (.bool 4)], dp := true, fz := false, pre := fun x => (fun (x0 : T122) (x1 : T126) => Sh.fit s122 x0 ∧ Sh.fit s126 x1) x.1 x.2.1, g := fun x => ((acceptR x.1 x.2.1).1, ((acceptR x.1 x.2.1).2, ())) }
def S_impl_AcceptPacket_tab : List (Nat × Sum) := [(154, S__impl_Recoder_clone), (139, S_impl_IsValidRecoder), (155, S__P_impl_Recoder_accept)]
theorem S_impl_AcceptPacket_ok : FnOK Try.prog 75 S_impl_AcceptPacket := by
  refine at_enter 18 (fun x => ⟨[(0, aG [cI x.1.1, cI x.1.2.1, cI x.1.2.2.1, .ro s126 x.1.2.2.2.1, cI x.1.2.2.2.2]), (1, aG [cI x.2.1.1, .ro (.int 3) x.2.1.2.1, .ro (.int 3) x.2.1.2.2])], []⟩) Try.func75 rfl (by kernel_rfl) (fun x => rfl) ?_
  rintro w0 Z0 ⟨x0, x1, u⟩ a w
  revert x0 x1
  intro (x0 : T122) (x1 : T126) hpre hlens h
  replace h : At w0 Z0 [] 18 ⟨[(0, aG [cI x0.1, cI x0.2.1, cI x0.2.2.1, .ro s126 x0.2.2.2.1, cI x0.2.2.2.2]), (1, aG [cI x1.1, .ro (.int 3) x1.2.1, .ro (.int 3) x1.2.2])], []⟩ a w := h
  replace hpre : (fun (x0 : T122) (x1 : T126) => Sh.fit s122 x0 ∧ Sh.fit s126 x1) x0 x1 := hpre
  have hl1 : List.length x0.2.2.2.1 ≤ 9223372036854775807 := hlens.1.2.2.2.1.1
  have hl2 : List.length x1.2.1 ≤ 9223372036854775807 := hlens.2.1.2.1.1
  have hl3 : List.length x1.2.2 ≤ 9223372036854775807 := hlens.2.1.2.2.1
  have hT : TabOK Try.prog S_impl_AcceptPacket_tab := (.cons S__impl_Recoder_clone_ok (.cons S_impl_IsValidRecoder_ok (.cons S__P_impl_Recoder_accept_ok .nil)))
  obtain ⟨hf0, hf1⟩ := hpre
  have hn0_1 : List.length x0.2.2.2.1 ≤ 1073741824 := hf0.2.2.2.1.1
  have hn1_2 : List.length x1.2.1 ≤ 1073741824 := hf1.2.1.1
  have hn1_3 : List.length x1.2.2 ≤ 1073741824 := hf1.2.2.1
  refine wp_seq ?_
  refine at_regq [{ ids := [1] }, { ids := [2] }, { ids := [3] }] { ts := [2, 3, 4, 5], os := [1, 2, 3] } [] gamOK hT h (by kernel_rfl) trivial ?_
  intro a w h
  refine then_normal ?_
  refine wp_seq ?_
  refine at_regq [{}, { ids := [4] }, { ids := [5] }] { ts := [2, 3, 4, 5, 6], os := [1, 2, 3, 4, 5] } [(fun (x0 : T122) => Sh.fit s122 x0) x0] gamOK hT h (by kernel_rfl) ⟨(by exact hf0), trivial⟩ ?_
  intro a w h
  refine then_normal ?_
  refine wp_seq ?_
  rcases Bool.eq_false_or_eq_true ((validR x0)) with h1 | h1
  · skip
    have hvh1 := validR_t h1
    refine at_regq [{}, { hint := some (aB true) }, {}, {}, { ids := [6] }] { ts := [4, 5, 6, 7], os := [3, 5, 6] } [(fun (x0 : T122) => Sh.fit s122 x0) x0, (AV.p (.c (.v (.bool ((validR x0))))) = AV.p (.c (.v (.bool true)))), (fun (x0 : T122) (x1 : T126) => Sh.fit s122 x0 ∧ Sh.fit s126 x1 ∧ recP x0) x0 x1] gamOK hT h (by kernel_rfl) ⟨(by exact hf0), hint_bool (h1), (by exact ⟨hf0, hf1, recP_of (by assumption)⟩), trivial⟩ ?_
    intro a w h
    refine then_normal ?_
    refine wp_seq ?_
    refine at_regq [] { ts := [4, 5], os := [3, 6] } [] gamOK hT h (by kernel_rfl) trivial ?_
    intro a w h
    refine then_normal ?_
    refine wp_ret ?_
    exact at_return (S := S_impl_AcceptPacket) (x := (x0, x1, ())) ((accU x0 x1), ((accOK x0 x1), ())) [] h (by kernel_rfl) trivial (congrArg (fun z => (z.1, z.2, ())) (show (((accU x0 x1), (accOK x0 x1))) = acceptR x0 x1 from by (unfold acceptR; first | (rw [if_pos ⟨by assumption, by assumption⟩, show accOK x0 x1 = true by assumption]; done) | (rw [if_neg (by simp_all)]; first | rfl | (rw [accU_no (by assumption)]; done) | (rw [accU_no (by assumption)]; simp_all)) | (cases ha : accOK x0 x1 <;> simp_all [accU_no]))))
  · skip
    refine at_regq [{}, { hint := some (aB false) }] { ts := [4, 5, 6, 7], os := [3, 4, 5] } [(fun (x0 : T122) => Sh.fit s122 x0) x0, (AV.p (.c (.v (.bool ((validR x0))))) = AV.p (.c (.v (.bool false))))] gamOK hT h (by kernel_rfl) ⟨(by exact hf0), hint_bool (h1), trivial⟩ ?_
    intro a w h
    refine then_normal ?_
    refine wp_seq ?_
    refine at_regq [] { ts := [4, 5], os := [3, 4] } [] gamOK hT h (by kernel_rfl) trivial ?_
    intro a w h
    refine then_normal ?_
    refine wp_ret ?_
    exact at_return (S := S_impl_AcceptPacket) (x := (x0, x1, ())) (x0, (false, ())) [] h (by kernel_rfl) trivial (congrArg (fun z => (z.1, z.2, ())) (show ((x0, false)) = acceptR x0 x1 from by (unfold acceptR; first | (rw [if_pos ⟨by assumption, by assumption⟩, show accOK x0 x1 = true by assumption]; done) | (rw [if_neg (by simp_all)]; first | rfl | (rw [accU_no (by assumption)]; done) | (rw [accU_no (by assumption)]; simp_all)) | (cases ha : accOK x0 x1 <;> simp_all [accU_no]))))

def S_spec_AcceptPacket : Sum := { fid := 72, dom := [s122, s126], cod := [s122, (.bool 4)], dp := true, fz := false, pre := fun x => (fun (x0 : T122) (x1 : T126) => Sh.fit s122 x0 ∧ Sh.fit s126 x1 ∧ List.length x0.2.2.2.1 ≤ 1073741823) x.1 x.2.1, g := fun x => ((acceptR x.1 x.2.1).1, ((acceptR x.1 x.2.1).2, ())) }
def S_spec_AcceptPacket_tab : List (Nat × Sum) := [(153, S_spec_l15Copy), (101, S_spec_l11Copy), (137, S_spec_IsValidRecoder)]
theorem S_spec_AcceptPacket_ok : FnOK Try.prog 72 S_spec_AcceptPacket := by
  refine at_enter 22 (fun x => ⟨[(0, aG [cI x.1.1, cI x.1.2.1, cI x.1.2.2.1, .ro s126 x.1.2.2.2.1, cI x.1.2.2.2.2]), (1, aG [cI x.2.1.1, .ro (.int 3) x.2.1.2.1, .ro (.int 3) x.2.1.2.2])], []⟩) Try.func72 rfl (by kernel_rfl) (fun x => rfl) ?_
  rintro w0 Z0 ⟨x0, x1, u⟩ a w
  revert x0 x1
  intro (x0 : T122) (x1 : T126) hpre hlens h
  replace h : At w0 Z0 [] 22 ⟨[(0, aG [cI x0.1, cI x0.2.1, cI x0.2.2.1, .ro s126 x0.2.2.2.1, cI x0.2.2.2.2]), (1, aG [cI x1.1, .ro (.int 3) x1.2.1, .ro (.int 3) x1.2.2])], []⟩ a w := h
  replace hpre : (fun (x0 : T122) (x1 : T126) => Sh.fit s122 x0 ∧ Sh.fit s126 x1 ∧ List.length x0.2.2.2.1 ≤ 1073741823) x0 x1 := hpre
  have hl1 : List.length x0.2.2.2.1 ≤ 9223372036854775807 := hlens.1.2.2.2.1.1
  have hl2 : List.length x1.2.1 ≤ 9223372036854775807 := hlens.2.1.2.1.1
  have hl3 : List.length x1.2.2 ≤ 9223372036854775807 := hlens.2.1.2.2.1
  have hT : TabOK Try.prog S_spec_AcceptPacket_tab := (.cons S_spec_l15Copy_ok (.cons S_spec_l11Copy_ok (.cons S_spec_IsValidRecoder_ok .nil)))
  obtain ⟨hf0, hf1, hpx⟩ := hpre
  have hn0_1 : List.length x0.2.2.2.1 ≤ 1073741824 := hf0.2.2.2.1.1
  have hn1_2 : List.length x1.2.1 ≤ 1073741824 := hf1.2.1.1
  have hn1_3 : List.length x1.2.2 ≤ 1073741824 := hf1.2.2.1
  refine wp_seq ?_
  refine at_regq [{ ids := [1] }, { ids := [2] }, { ids := [3] }] { ts := [2, 3, 4, 5], os := [1, 2, 3] } [] gamOK hT h (by kernel_rfl) trivial ?_
  intro a w h
  refine then_normal ?_
  refine wp_seq ?_
  refine at_regq [{}, { ids := [4] }, { ids := [5] }] { ts := [2, 3, 4, 5, 6], os := [1, 2, 3, 4, 5] } [(fun (x0 : T122) => Sh.fit s122 x0) x0] gamOK hT h (by kernel_rfl) ⟨(by exact hf0), trivial⟩ ?_
  intro a w h
  refine then_normal ?_
  refine wp_seq ?_
  refine at_anyq [{}, {}, {}, { ids := [6, 7] }, { ids := [8] }, { ids := [9] }, {}, {}] { ts := [2, 4, 5, 6], os := [1, 3, 5, 9] } [(fun (x0 : T126) => Sh.fit s126 x0) x1, (List.length x0.2.2.2.1 + List.length ([x1])) * 56 ≤ 140737488355328] gamOK hT mixed h (by kernel_rfl) ⟨(by exact hf1), (by first | omega | (simp only [lsA]; omega) | (simp; done) | (simp; omega) | done), trivial⟩ ?_
  intro a w h
  refine then_normal ?_
  refine wp_seq ?_
  refine wp_seq ?_
  refine at_regq [] { ts := [2, 4, 5, 6, 18], os := [1, 3, 5, 9] } [(fun (x0 : T122) => Sh.fit s122 x0) (x0.1, (x0.2.1, (x0.2.2.1, ((x0.2.2.2.1 ++ ([x1])), x0.2.2.2.2))))] gamOK hT h (by kernel_rfl) ⟨(by first | exact hf0 | exact ⟨trivial, trivial, trivial, fit_snoc hf0.2.2.2.1 hf1 hpx, trivial⟩), trivial⟩ ?_
  intro a w h
  refine then_normal ?_
  refine at_test (!(validR (x0.1, (x0.2.1, (x0.2.2.1, ((x0.2.2.2.1 ++ ([x1])), x0.2.2.2.2)))))) h (by kernel_rfl) (fun h1 => ?_) (fun h1 => ?_)
  · replace h1 : (validR (x0.1, (x0.2.1, (x0.2.2.1, ((x0.2.2.2.1 ++ ([x1])), x0.2.2.2.2))))) = false := notT h1
    refine wp_seq ?_
    refine at_regq [{}, { ids := [10] }] { ts := [4, 5, 6], os := [3, 5, 9, 10] } [(fun (x0 : T122) => Sh.fit s122 x0) x0] gamOK hT h (by kernel_rfl) ⟨(by exact hf0), trivial⟩ ?_
    intro a w h
    refine then_normal ?_
    refine wp_ret ?_
    refine then_ret ?_
    exact at_return (S := S_spec_AcceptPacket) (x := (x0, x1, ())) (x0, (false, ())) [] h (by kernel_rfl) trivial (congrArg (fun z => (z.1, z.2, ())) (show ((x0, false)) = acceptR x0 x1 from by (first | (have hsn := validR_snoc x0 x1; have ht := hsn.symm.trans (by assumption : _ = true); rw [Bool.and_eq_true] at ht; unfold acceptR; rw [if_pos ht, accU_yes ht.2]; done) | (have hsn := validR_snoc x0 x1; have ht := hsn.symm.trans (by assumption : _ = false); unfold acceptR; rw [if_neg (fun e => by rw [e.1, e.2] at ht; cases ht)]; done))))
  · replace h1 : (validR (x0.1, (x0.2.1, (x0.2.2.1, ((x0.2.2.2.1 ++ ([x1])), x0.2.2.2.2))))) = true := notF h1
    have hvh1 := validR_t h1
    refine wp_skip ?_
    refine then_normal ?_
    refine wp_seq ?_
    refine at_regq [] { ts := [4, 5], os := [3, 9] } [] gamOK hT h (by kernel_rfl) trivial ?_
    intro a w h
    refine then_normal ?_
    refine wp_ret ?_
    exact at_return (S := S_spec_AcceptPacket) (x := (x0, x1, ())) ((x0.1, (x0.2.1, (x0.2.2.1, ((x0.2.2.2.1 ++ ([x1])), x0.2.2.2.2)))), (true, ())) [] h (by kernel_rfl) trivial (congrArg (fun z => (z.1, z.2, ())) (show (((x0.1, (x0.2.1, (x0.2.2.1, ((x0.2.2.2.1 ++ ([x1])), x0.2.2.2.2)))), true)) = acceptR x0 x1 from by (first | (have hsn := validR_snoc x0 x1; have ht := hsn.symm.trans (by assumption : _ = true); rw [Bool.and_eq_true] at ht; unfold acceptR; rw [if_pos ht, accU_yes ht.2]; done) | (have hsn := validR_snoc x0 x1; have ht := hsn.symm.trans (by assumption : _ = false); unfold acceptR; rw [if_neg (fun e => by rw [e.1, e.2] at ht; cases ht)]; done))))

def D_laws_FnExactAcceptPacket := (fun (_ : T116) (_ : T118) => true)
def S_laws_FnExactAcceptPacket : Sum := { fid := 12, dom := [s116, s118], cod := [(.bool 4)], dp := true, fz := false, pre := fun x => (fun (x0 : T116) (x1 : T118) => Sh.i64 s116 x0 ∧ Sh.i64 s118 x1) x.1 x.2.1, g := fun x => ((D_laws_FnExactAcceptPacket x.1 x.2.1), ()) }
def S_laws_FnExactAcceptPacket_tab : List (Nat × Sum) := [(70, S_laws_szRecoder), (71, S_laws_szCodedPacket), (73, S_laws_toRecoder), (74, S_laws_toCodedPacket), (72, S_spec_AcceptPacket), (75, S_impl_AcceptPacket), (76, S_laws_eqRecoder), (77, S_laws_eqCodedPacket), (78, S_laws_markRecoder), (79, S_laws_markCodedPacket), (80, S_laws_heldRecoder)]
theorem S_laws_FnExactAcceptPacket_ok : FnOK Try.prog 12 S_laws_FnExactAcceptPacket := by
  refine at_enter 119 (fun x => ⟨[(0, aG [cI x.1.1, cI x.1.2.1, cI x.1.2.2.1, .ro s118 x.1.2.2.2.1, cI x.1.2.2.2.2]), (1, aG [cI x.2.1.1, .ro (.int 3) x.2.1.2.1, .ro (.int 3) x.2.1.2.2])], []⟩) Try.func12 rfl (by kernel_rfl) (fun x => rfl) ?_
  rintro w0 Z0 ⟨x0, x1, u⟩ a w
  revert x0 x1
  intro (x0 : T116) (x1 : T118) hpre hlens h
  replace h : At w0 Z0 [] 119 ⟨[(0, aG [cI x0.1, cI x0.2.1, cI x0.2.2.1, .ro s118 x0.2.2.2.1, cI x0.2.2.2.2]), (1, aG [cI x1.1, .ro (.int 3) x1.2.1, .ro (.int 3) x1.2.2])], []⟩ a w := h
  replace hpre : (fun (x0 : T116) (x1 : T118) => Sh.i64 s116 x0 ∧ Sh.i64 s118 x1) x0 x1 := hpre
  have hl1 : List.length x0.2.2.2.1 ≤ 9223372036854775807 := hlens.1.2.2.2.1.1
  have hl2 : List.length x1.2.1 ≤ 9223372036854775807 := hlens.2.1.2.1.1
  have hl3 : List.length x1.2.2 ≤ 9223372036854775807 := hlens.2.1.2.2.1
  have hT : TabOK Try.prog S_laws_FnExactAcceptPacket_tab := (.cons S_laws_szRecoder_ok (.cons S_laws_szCodedPacket_ok (.cons S_laws_toRecoder_ok (.cons S_laws_toCodedPacket_ok (.cons S_spec_AcceptPacket_ok (.cons S_impl_AcceptPacket_ok (.cons S_laws_eqRecoder_ok (.cons S_laws_eqCodedPacket_ok (.cons S_laws_markRecoder_ok (.cons S_laws_markCodedPacket_ok (.cons S_laws_heldRecoder_ok .nil)))))))))))
  have hq0 : Sh.sz s122 x0 = Sh.sz s116 x0 := rfl
  have hb0 : Sh.ctT s122 x0 ≤ 7 * Sh.sz s122 x0 := Sh.ctT_le2 s122 x0
  have hz0 : Sh.ct s122 x0 ≤ 7 * (1 + Sh.sz s122 x0) := Sh.ct_le s122 x0
  have ht0 : Sh.sz s116 x0 = (0 + (0 + (0 + ((Sh.sz s39 x0.2.2.2.1) + 0)))) := rfl
  have hs0_1 : Sh.sz s39 x0.2.2.2.1 = List.length x0.2.2.2.1 + ctL (Sh.sz s118) x0.2.2.2.1 := rfl
  have hq1 : Sh.sz s126 x1 = Sh.sz s118 x1 := rfl
  have hb1 : Sh.ctT s126 x1 ≤ 3 * Sh.sz s126 x1 := Sh.ctT_le2 s126 x1
  have hz1 : Sh.ct s126 x1 ≤ 3 * (1 + Sh.sz s126 x1) := Sh.ct_le s126 x1
  have ht1 : Sh.sz s118 x1 = (0 + ((Sh.sz s22 x1.2.1) + (Sh.sz s22 x1.2.2))) := rfl
  have hs1_1 : Sh.sz s22 x1.2.1 = List.length x1.2.1 := sz_flat (by rfl) _
  have hs1_2 : Sh.sz s22 x1.2.2 = List.length x1.2.2 := sz_flat (by rfl) _
  have hr1 : Sh.ctT s122 ((acceptR x0 x1).1) ≤ 7 * Sh.sz s122 ((acceptR x0 x1).1) := Sh.ctT_le2 s122 _
  have hr2 : Sh.sz s122 ((acceptR x0 x1).1) ≤ Sh.sz s122 x0 + 1 + Sh.sz s126 x1 := by
    have h0 : Sh.sz s122 x0 = 0 + (0 + (0 + ((List.length x0.2.2.2.1 + ctL (Sh.sz s126) x0.2.2.2.1) + 0))) := rfl
    unfold acceptR
    split
    · unfold accU; split
      · show 0 + (0 + (0 + ((List.length (x0.2.2.2.1 ++ [x1]) + ctL (Sh.sz s126) (x0.2.2.2.1 ++ [x1])) + 0))) ≤ _
        rw [ctL_append, List.length_append, h0]; simp only [ctL, List.length_singleton]; omega
      · show Sh.sz s122 x0 ≤ _; omega
    · show Sh.sz s122 x0 ≤ _; omega
  refine wp_seq ?_
  refine at_regq [{ ids := [1] }, { ids := [2] }] { ts := [2, 3, 4], os := [1, 2] } [] gamOK hT h (by kernel_rfl) trivial ?_
  intro a w h
  refine then_normal ?_
  refine wp_seq ?_
  refine at_regq [] { ts := [2, 3, 4, 5], os := [1, 2] } [] gamOK hT h (by kernel_rfl) trivial ?_
  intro a w h
  refine then_normal ?_
  refine wp_seq ?_
  refine at_regq [] { ts := [2, 3, 4, 5], os := [1, 2] } [(pSz s116) x0 1048576] gamOK hT h (by kernel_rfl) ⟨(by (show (0 : Int) ≤ _ ∧ _ ≤ (9223372036854775807 : Int); constructor <;> omega)), trivial⟩ ?_
  intro a w h
  refine then_normal ?_
  refine wp_seq ?_
  refine wp_seq ?_
  refine at_regq [] { ts := [2, 3, 4, 5, 21], os := [1, 2] } [] gamOK hT h (by kernel_rfl) trivial ?_
  intro a w h
  refine then_normal ?_
  refine at_test (decide (((szD s116) x0 1048576) < 0)) h (by kernel_rfl) (fun h1 => ?_) (fun h1 => ?_)
  · replace h1 : ((szD s116) x0 1048576) < 0 := of_decide_eq_true h1
    have hvh1 := szD_neg h1 (by omega)
    refine wp_seq ?_
    refine at_regq [] { ts := [2, 3, 4, 5], os := [1, 2] } [] gamOK hT h (by kernel_rfl) trivial ?_
    intro a w h
    refine then_normal ?_
    refine wp_ret ?_
    refine then_ret ?_
    exact at_return (S := S_laws_FnExactAcceptPacket) (x := (x0, x1, ())) (true, ()) [] h (by kernel_rfl) trivial (congrArg (fun z => (z, ())) (show (true) = D_laws_FnExactAcceptPacket x0 x1 from by unfold D_laws_FnExactAcceptPacket; rfl))
  · replace h1 : ¬ (((szD s116) x0 1048576) < 0) := of_decide_eq_false h1
    have hvh1 := szD_val h1 (by omega)
    refine wp_skip ?_
    refine then_normal ?_
    refine wp_seq ?_
    refine at_regq [] { ts := [2, 3, 4, 5], os := [1, 2] } [(pSz s118) x1 ((szD s116) x0 1048576)] gamOK hT h (by kernel_rfl) ⟨(by (show (0 : Int) ≤ _ ∧ _ ≤ (9223372036854775807 : Int); constructor <;> omega)), trivial⟩ ?_
    intro a w h
    refine then_normal ?_
    refine wp_seq ?_
    refine wp_seq ?_
    refine at_regq [] { ts := [2, 3, 4, 26], os := [1, 2] } [] gamOK hT h (by kernel_rfl) trivial ?_
    intro a w h
    refine then_normal ?_
    refine at_test (decide (((szD s118) x1 ((szD s116) x0 1048576)) < 0)) h (by kernel_rfl) (fun h2 => ?_) (fun h2 => ?_)
    · replace h2 : ((szD s118) x1 ((szD s116) x0 1048576)) < 0 := of_decide_eq_true h2
      have hvh2 := szD_neg h2 (by omega)
      refine wp_seq ?_
      refine at_regq [] { ts := [2, 3, 4], os := [1, 2] } [] gamOK hT h (by kernel_rfl) trivial ?_
      intro a w h
      refine then_normal ?_
      refine wp_ret ?_
      refine then_ret ?_
      exact at_return (S := S_laws_FnExactAcceptPacket) (x := (x0, x1, ())) (true, ()) [] h (by kernel_rfl) trivial (congrArg (fun z => (z, ())) (show (true) = D_laws_FnExactAcceptPacket x0 x1 from by unfold D_laws_FnExactAcceptPacket; rfl))
    · replace h2 : ¬ (((szD s118) x1 ((szD s116) x0 1048576)) < 0) := of_decide_eq_false h2
      have hvh2 := szD_val h2 (by omega)
      refine wp_skip ?_
      refine then_normal ?_
      refine wp_seq ?_
      refine at_anyq [{}, { ids := [3] }, {}, { ids := [4, 5] }, { ids := [6] }, {}, {}, {}, { ids := [7] }, {}, {}] { ts := [2, 3, 4, 6, 7], os := [1, 2, 6, 7] } [(pTo s116) x0, (pTo s118) x1, (fun (x0 : T122) (x1 : T126) => Sh.fit s122 x0 ∧ Sh.fit s126 x1 ∧ List.length x0.2.2.2.1 ≤ 1073741823) x0 x1] gamOK hT mixed h (by kernel_rfl) ⟨(by (show Sh.sz _ _ ≤ 1048576; omega)), (by (show Sh.sz _ _ ≤ 1048576; omega)), (by exact ⟨(Sh.fit_of_sz s122 rfl (x := x0) (by omega)), (Sh.fit_of_sz s126 rfl (x := x1) (by omega)), (by first | assumption | omega | (refine ⟨?_, ?_⟩ <;> omega))⟩), trivial⟩ ?_
      intro a w h
      refine then_normal ?_
      refine wp_seq ?_
      refine at_regq [{}, { ids := [8] }, { ids := [9] }] { ts := [2, 3, 4, 6, 7, 8], os := [1, 2, 6, 7, 8, 9] } [(pTo s116) x0] gamOK hT h (by kernel_rfl) ⟨(by (show Sh.sz _ _ ≤ 1048576; omega)), trivial⟩ ?_
      intro a w h
      refine then_normal ?_
      refine wp_seq ?_
      refine at_reg [{}, { ids := [10, 11] }, { ids := [12] }] { ts := [2, 3, 4, 6, 7, 8, 9], os := [1, 2, 6, 7, 8, 9, 10, 11, 12] } ⟨[(2, aP 1 0), (3, aP 2 0), (4, aB false), (6, aP 7 0), (7, aB (acceptR x0 x1).2), (8, aP 9 0), (9, aP 12 0)], [(1, oX 116 [cI x0.1, cI x0.2.1, cI x0.2.2.1, .ro s118 x0.2.2.2.1, cI x0.2.2.2.2]), (2, oX 118 [cI x1.1, .ro (.int 3) x1.2.1, .ro (.int 3) x1.2.2]), (6, oR s126 (acceptR x0 x1).1.2.2.2.1), (7, oX 122 [cI (acceptR x0 x1).1.1, cI (acceptR x0 x1).1.2.1, cI (acceptR x0 x1).1.2.2.1, .sl 6, cI (acceptR x0 x1).1.2.2.2.2]), (8, oR s126 x0.2.2.2.1), (9, oX 122 [cI x0.1, cI x0.2.1, cI x0.2.2.1, .sl 8, cI x0.2.2.2.2]), (10, oR (.int 3) x1.2.1), (11, oR (.int 3) x1.2.2), (12, oX 126 [cI x1.1, .sl 10, .sl 11])]⟩ [(pTo s118) x1] gamOK hT h (by kernel_rfl) ⟨(by (show Sh.sz _ _ ≤ 1048576; omega)), trivial⟩ ?_
      intro a w h
      refine then_normal ?_
      refine wp_seq ?_
      refine at_regq [{}, {}, { ids := [13] }, {}, {}, {}, { ids := [14] }] { ts := [2, 3, 4, 6, 7, 8, 9, 10, 11], os := [1, 2, 6, 7, 8, 9, 10, 11, 12, 13, 14] } [(fun (x0 : T122) (x1 : T126) => Sh.fit s122 x0 ∧ Sh.fit s126 x1) x0 x1] gamOK hT h (by kernel_rfl) ⟨(by exact ⟨(Sh.fit_of_sz s122 rfl (x := x0) (by omega)), (Sh.fit_of_sz s126 rfl (x := x1) (by omega))⟩), trivial⟩ ?_
      intro a w h
      refine then_normal ?_
      refine wp_seq ?_
      refine wp_seq ?_
      rcases Bool.eq_false_or_eq_true (!((Sh.eqB s122) (acceptR x0 x1).1 (acceptR x0 x1).1)) with h3 | h3
      · skip
        have hzh3 : ((Sh.eqB s122) (acceptR x0 x1).1 (acceptR x0 x1).1) = false := notT h3
        refine at_regq [{}, {}, {}, { hint := some (aB true) }] { ts := [2, 3, 4, 6, 7, 8, 9, 10, 11, 53], os := [1, 2, 6, 7, 8, 9, 10, 11, 12, 13, 14] } [True, (AV.p (.c (.v (.bool (!((Sh.eqB s122) (acceptR x0 x1).1 (acceptR x0 x1).1))))) = AV.p (.c (.v (.bool true))))] gamOK hT h (by kernel_rfl) ⟨trivial, hint_bool (h3), trivial⟩ ?_
        intro a w h
        refine then_normal ?_
        refine at_test true h (by kernel_rfl) (fun hh => ?_) (fun hh => nomatch hh)
        refine wp_seq ?_
        refine at_regq [] { ts := [2, 3, 4, 6, 7, 8, 9, 10, 11], os := [1, 2, 6, 7, 8, 9, 10, 11, 12, 13, 14] } [] gamOK hT h (by kernel_rfl) trivial ?_
        intro a w h
        refine then_normal ?_
        refine wp_ret ?_
        refine then_ret ?_
        exact at_return (S := S_laws_FnExactAcceptPacket) (x := (x0, x1, ())) (false, ()) [] h (by kernel_rfl) trivial (congrArg (fun z => (z, ())) (show (false) = D_laws_FnExactAcceptPacket x0 x1 from by unfold D_laws_FnExactAcceptPacket; exact absurd ((Sh.eqB_iff _).2 (show _ = _ from by first | rfl | (rfl))) (neT (notT h3))))
      · skip
        have hzh3 : ((Sh.eqB s122) (acceptR x0 x1).1 (acceptR x0 x1).1) = true := notF h3
        refine at_regq [{}, {}, {}, { hint := some (aB false) }] { ts := [2, 3, 4, 6, 7, 8, 9, 10, 11, 53], os := [1, 2, 6, 7, 8, 9, 10, 11, 12, 13, 14] } [True, (AV.p (.c (.v (.bool (!((Sh.eqB s122) (acceptR x0 x1).1 (acceptR x0 x1).1))))) = AV.p (.c (.v (.bool false))))] gamOK hT h (by kernel_rfl) ⟨trivial, hint_bool (h3), trivial⟩ ?_
        intro a w h
        refine then_normal ?_
        refine at_test (!((acceptR x0 x1).2 == (acceptR x0 x1).2)) h (by kernel_rfl) (fun h4 => ?_) (fun h4 => ?_)
        · replace h4 : ((acceptR x0 x1).2 == (acceptR x0 x1).2) = false := notT h4
          refine wp_seq ?_
          refine at_regq [] { ts := [2, 3, 4, 6, 7, 8, 9, 10, 11], os := [1, 2, 6, 7, 8, 9, 10, 11, 12, 13, 14] } [] gamOK hT h (by kernel_rfl) trivial ?_
          intro a w h
          refine then_normal ?_
          refine wp_ret ?_
          refine then_ret ?_
          exact at_return (S := S_laws_FnExactAcceptPacket) (x := (x0, x1, ())) (false, ()) [] h (by kernel_rfl) trivial (congrArg (fun z => (z, ())) (show (false) = D_laws_FnExactAcceptPacket x0 x1 from by unfold D_laws_FnExactAcceptPacket; exact absurd (beqT (show _ = _ from by first | rfl | (rfl))) (neT h4)))
        · replace h4 : ((acceptR x0 x1).2 == (acceptR x0 x1).2) = true := notF h4
          refine wp_skip ?_
          refine then_normal ?_
          refine wp_seq ?_
          refine wp_seq ?_
          refine at_anyq [{}, {}, { ids := [15] }, {}, {}] { ts := [2, 3, 4, 6, 7, 8, 9, 10, 11, 58], os := [1, 2, 6, 7, 8, 9, 10, 11, 12, 13, 14] } [(pTo s116) x0, True] gamOK hT mixed h (by kernel_rfl) ⟨(by (show Sh.sz _ _ ≤ 1048576; omega)), trivial, trivial⟩ ?_
          intro a w h
          refine then_normal ?_
          refine at_test (!((Sh.eqB s122) x0 x0)) h (by kernel_rfl) (fun h5 => ?_) (fun h5 => ?_)
          · replace h5 : ((Sh.eqB s122) x0 x0) = false := notT h5
            refine wp_seq ?_
            refine at_regq [] { ts := [2, 3, 4, 6, 7, 8, 9, 10, 11], os := [1, 2, 6, 7, 8, 9, 10, 11, 12, 13, 14] } [] gamOK hT h (by kernel_rfl) trivial ?_
            intro a w h
            refine then_normal ?_
            refine wp_ret ?_
            refine then_ret ?_
            exact at_return (S := S_laws_FnExactAcceptPacket) (x := (x0, x1, ())) (false, ()) [] h (by kernel_rfl) trivial (congrArg (fun z => (z, ())) (show (false) = D_laws_FnExactAcceptPacket x0 x1 from by unfold D_laws_FnExactAcceptPacket; exact absurd ((Sh.eqB_iff _).2 (show _ = _ from by first | rfl | (rfl))) (neT h5)))
          · replace h5 : ((Sh.eqB s122) x0 x0) = true := notF h5
            refine wp_skip ?_
            refine then_normal ?_
            refine wp_seq ?_
            refine wp_seq ?_
            refine at_anyq [{}, {}, { ids := [16, 17] }, {}, {}] { ts := [2, 3, 4, 6, 7, 8, 9, 10, 11, 63], os := [1, 2, 6, 7, 8, 9, 10, 11, 12, 13, 14] } [(pTo s118) x1, True] gamOK hT mixed h (by kernel_rfl) ⟨(by (show Sh.sz _ _ ≤ 1048576; omega)), trivial, trivial⟩ ?_
            intro a w h
            refine then_normal ?_
            refine at_test (!((Sh.eqB s126) x1 x1)) h (by kernel_rfl) (fun h6 => ?_) (fun h6 => ?_)
            · replace h6 : ((Sh.eqB s126) x1 x1) = false := notT h6
              refine wp_seq ?_
              refine at_regq [] { ts := [2, 3, 4, 6, 7, 8, 9, 10, 11], os := [1, 2, 6, 7, 8, 9, 10, 11, 12, 13, 14] } [] gamOK hT h (by kernel_rfl) trivial ?_
              intro a w h
              refine then_normal ?_
              refine wp_ret ?_
              refine then_ret ?_
              exact at_return (S := S_laws_FnExactAcceptPacket) (x := (x0, x1, ())) (false, ()) [] h (by kernel_rfl) trivial (congrArg (fun z => (z, ())) (show (false) = D_laws_FnExactAcceptPacket x0 x1 from by unfold D_laws_FnExactAcceptPacket; exact absurd ((Sh.eqB_iff _).2 (show _ = _ from by first | rfl | (rfl))) (neT h6)))
            · replace h6 : ((Sh.eqB s126) x1 x1) = true := notF h6
              refine wp_skip ?_
              refine then_normal ?_
              refine wp_seq ?_
              refine at_regq [] { ts := [2, 3, 4, 6, 7, 8, 9, 10, 11, 12], os := [1, 2, 6, 7, 8, 9, 10, 11, 12, 13, 14] } [] gamOK hT h (by kernel_rfl) trivial ?_
              intro a w h
              refine then_normal ?_
              refine wp_seq ?_
              refine at_regq [] { ts := [2, 3, 4, 6, 7, 9, 10, 11, 12], os := [1, 2, 6, 7, 10, 11, 12, 13, 14] } [(pMkT s122) x0 1] gamOK hT h (by kernel_rfl) ⟨(by (show (0 : Int) ≤ _ ∧ _ + ((Sh.ctT _ _ : Nat) : Int) ≤ (4611686018427387904 : Int); (try simp only [held_marked, held_markedT, mkK, mkKT, Sh.ctT_mkT, Sh.ct_mk]); constructor <;> omega)), trivial⟩ ?_
              intro a w h
              refine then_normal ?_
              refine wp_seq ?_
              refine at_regq [] { ts := [2, 3, 4, 6, 7, 10, 11, 12], os := [1, 2, 6, 7, 13, 14] } [(pMkT s126) x1 ((mkKT s122) x0 1)] gamOK hT h (by kernel_rfl) ⟨(by (show (0 : Int) ≤ _ ∧ _ + ((Sh.ctT _ _ : Nat) : Int) ≤ (4611686018427387904 : Int); (try simp only [held_marked, held_markedT, mkK, mkKT, Sh.ctT_mkT, Sh.ct_mk]); constructor <;> omega)), trivial⟩ ?_
              intro a w h
              refine then_normal ?_
              refine wp_seq ?_
              refine wp_seq ?_
              by_cases h7 : ((mkKT s126) x1 ((mkKT s122) x0 1)) < 0
              · skip
                refine at_regq [{}, { hint := some (aB true) }] { ts := [2, 3, 4, 6, 7, 10, 82], os := [1, 2, 6, 7, 13, 14] } [(AV.p (.c (.v (.bool (decide (((mkKT s126) x1 ((mkKT s122) x0 1)) < 0))))) = AV.p (.c (.v (.bool true))))] gamOK hT h (by kernel_rfl) ⟨hint_bool (decide_eq_true h7), trivial⟩ ?_
                intro a w h
                refine then_normal ?_
                refine at_test true h (by kernel_rfl) (fun hh => ?_) (fun hh => nomatch hh)
                refine wp_seq ?_
                refine at_reg [] { ts := [2, 3, 4, 6, 7, 10], os := [1, 2, 6, 7, 13, 14] } ⟨[(2, aP 1 0), (3, aP 2 0), (4, aB false), (6, aP 7 0), (7, aB (acceptR x0 x1).2), (10, aP 14 0)], [(1, oX 116 [cI x0.1, cI x0.2.1, cI x0.2.2.1, .ro s118 x0.2.2.2.1, cI x0.2.2.2.2]), (2, oX 118 [cI x1.1, .ro (.int 3) x1.2.1, .ro (.int 3) x1.2.2]), (6, oR s126 (acceptR x0 x1).1.2.2.2.1), (7, oX 122 [cI (acceptR x0 x1).1.1, cI (acceptR x0 x1).1.2.1, cI (acceptR x0 x1).1.2.2.1, .sl 6, cI (acceptR x0 x1).1.2.2.2.2]), (13, oR s126 (acceptR x0 x1).1.2.2.2.1), (14, oX 122 [cI (acceptR x0 x1).1.1, cI (acceptR x0 x1).1.2.1, cI (acceptR x0 x1).1.2.2.1, .sl 13, cI (acceptR x0 x1).1.2.2.2.2])]⟩ [] gamOK hT h (by kernel_rfl) trivial ?_
                intro a w h
                refine then_normal ?_
                refine wp_ret ?_
                refine then_ret ?_
                exact at_return (S := S_laws_FnExactAcceptPacket) (x := (x0, x1, ())) (false, ()) [] h (by kernel_rfl) trivial (congrArg (fun z => (z, ())) (show (false) = D_laws_FnExactAcceptPacket x0 x1 from by unfold D_laws_FnExactAcceptPacket; (exfalso; simp only [mkK, mkKT, Sh.ctT_mkT, Sh.ct_mk] at h7; first | omega | exact h7 trivial | exact h7 rfl)))
              · skip
                refine at_regq [{}, { hint := some (aB false) }, {}, {}, {}, {}, { hint := some (aB false) }] { ts := [2, 3, 4, 6, 7, 10, 82], os := [1, 2, 6, 7, 13, 14] } [(AV.p (.c (.v (.bool (decide (((mkKT s126) x1 ((mkKT s122) x0 1)) < 0))))) = AV.p (.c (.v (.bool false)))), True, (AV.p (.c (.v (.bool (!((Sh.eqB s122) (acceptR x0 x1).1 (acceptR x0 x1).1))))) = AV.p (.c (.v (.bool false))))] gamOK hT h (by kernel_rfl) ⟨hint_bool (decide_eq_false h7), trivial, hint_bool (h3), trivial⟩ ?_
                intro a w h
                refine then_normal ?_
                refine at_test (!((acceptR x0 x1).2 == (acceptR x0 x1).2)) h (by kernel_rfl) (fun h8 => ?_) (fun h8 => ?_)
                · replace h8 : ((acceptR x0 x1).2 == (acceptR x0 x1).2) = false := notT h8
                  refine wp_seq ?_
                  refine at_reg [] { ts := [2, 3, 4, 6, 7, 10], os := [1, 2, 6, 7, 13, 14] } ⟨[(2, aP 1 0), (3, aP 2 0), (4, aB false), (6, aP 7 0), (7, aB (acceptR x0 x1).2), (10, aP 14 0)], [(1, oX 116 [cI x0.1, cI x0.2.1, cI x0.2.2.1, .ro s118 x0.2.2.2.1, cI x0.2.2.2.2]), (2, oX 118 [cI x1.1, .ro (.int 3) x1.2.1, .ro (.int 3) x1.2.2]), (6, oR s126 (acceptR x0 x1).1.2.2.2.1), (7, oX 122 [cI (acceptR x0 x1).1.1, cI (acceptR x0 x1).1.2.1, cI (acceptR x0 x1).1.2.2.1, .sl 6, cI (acceptR x0 x1).1.2.2.2.2]), (13, oR s126 (acceptR x0 x1).1.2.2.2.1), (14, oX 122 [cI (acceptR x0 x1).1.1, cI (acceptR x0 x1).1.2.1, cI (acceptR x0 x1).1.2.2.1, .sl 13, cI (acceptR x0 x1).1.2.2.2.2])]⟩ [] gamOK hT h (by kernel_rfl) trivial ?_
                  intro a w h
                  refine then_normal ?_
                  refine wp_ret ?_
                  refine then_ret ?_
                  exact at_return (S := S_laws_FnExactAcceptPacket) (x := (x0, x1, ())) (false, ()) [] h (by kernel_rfl) trivial (congrArg (fun z => (z, ())) (show (false) = D_laws_FnExactAcceptPacket x0 x1 from by unfold D_laws_FnExactAcceptPacket; exact absurd (beqT (show _ = _ from by first | rfl | (rfl))) (neT h8)))
                · replace h8 : ((acceptR x0 x1).2 == (acceptR x0 x1).2) = true := notF h8
                  refine wp_skip ?_
                  refine then_normal ?_
                  refine wp_seq ?_
                  refine at_reg [] { ts := [2, 3, 4, 6, 7, 10, 13], os := [1, 2, 6, 7, 13, 14] } ⟨[(2, aP 1 0), (3, aP 2 0), (4, aB false), (6, aP 7 0), (7, aB (acceptR x0 x1).2), (10, aP 14 0), (13, aI 1)], [(1, oX 116 [cI x0.1, cI x0.2.1, cI x0.2.2.1, .ro s118 x0.2.2.2.1, cI x0.2.2.2.2]), (2, oX 118 [cI x1.1, .ro (.int 3) x1.2.1, .ro (.int 3) x1.2.2]), (6, oR s126 (acceptR x0 x1).1.2.2.2.1), (7, oX 122 [cI (acceptR x0 x1).1.1, cI (acceptR x0 x1).1.2.1, cI (acceptR x0 x1).1.2.2.1, .sl 6, cI (acceptR x0 x1).1.2.2.2.2]), (13, oR s126 (acceptR x0 x1).1.2.2.2.1), (14, oX 122 [cI (acceptR x0 x1).1.1, cI (acceptR x0 x1).1.2.1, cI (acceptR x0 x1).1.2.2.1, .sl 13, cI (acceptR x0 x1).1.2.2.2.2])]⟩ [] gamOK hT h (by kernel_rfl) trivial ?_
                  intro a w h
                  refine then_normal ?_
                  refine wp_seq ?_
                  refine at_regq [] { ts := [2, 3, 4, 6, 7, 10, 13], os := [1, 2, 6, 7, 13, 14] } [(pMkT s122) (acceptR x0 x1).1 1] gamOK hT h (by kernel_rfl) ⟨(by (show (0 : Int) ≤ _ ∧ _ + ((Sh.ctT _ _ : Nat) : Int) ≤ (4611686018427387904 : Int); (try simp only [held_marked, held_markedT, mkK, mkKT, Sh.ctT_mkT, Sh.ct_mk]); constructor <;> omega)), trivial⟩ ?_
                  intro a w h
                  refine then_normal ?_
                  refine wp_seq ?_
                  refine at_regq [] { ts := [2, 3, 4, 6, 7, 10, 13, 14], os := [1, 2, 6, 7, 13, 14] } [] gamOK hT h (by kernel_rfl) trivial ?_
                  intro a w h
                  refine then_normal ?_
                  refine wp_seq ?_
                  refine at_regq [] { ts := [2, 3, 4, 6, 7, 10, 13, 14], os := [1, 2, 6, 7, 13, 14] } [(pMkT s122) ((Sh.mkT s122) (acceptR x0 x1).1 1) 1] gamOK hT h (by kernel_rfl) ⟨(by (show (0 : Int) ≤ _ ∧ _ + ((Sh.ctT _ _ : Nat) : Int) ≤ (4611686018427387904 : Int); (try simp only [held_marked, held_markedT, mkK, mkKT, Sh.ctT_mkT, Sh.ct_mk]); constructor <;> omega)), trivial⟩ ?_
                  intro a w h
                  refine then_normal ?_
                  refine wp_seq ?_
                  refine wp_seq ?_
                  refine at_regq [] { ts := [2, 3, 4, 6, 7, 10, 13, 14, 90], os := [1, 2, 6, 7, 13, 14] } [] gamOK hT h (by kernel_rfl) trivial ?_
                  intro a w h
                  refine then_normal ?_
                  refine at_test (decide (((heldDT s122) ((Sh.mkT s122) (acceptR x0 x1).1 1) 1) < 0)) h (by kernel_rfl) (fun h9 => ?_) (fun h9 => ?_)
                  · replace h9 : ((heldDT s122) ((Sh.mkT s122) (acceptR x0 x1).1 1) 1) < 0 := of_decide_eq_true h9
                    refine wp_seq ?_
                    refine at_regq [] { ts := [2, 3, 4, 6, 7, 10, 13, 14], os := [1, 2, 6, 7, 13, 14] } [] gamOK hT h (by kernel_rfl) trivial ?_
                    intro a w h
                    refine then_normal ?_
                    refine wp_ret ?_
                    refine then_ret ?_
                    exact at_return (S := S_laws_FnExactAcceptPacket) (x := (x0, x1, ())) (false, ()) [] h (by kernel_rfl) trivial (congrArg (fun z => (z, ())) (show (false) = D_laws_FnExactAcceptPacket x0 x1 from by unfold D_laws_FnExactAcceptPacket; (exfalso; simp only [held_marked, held_markedT, mkK, mkKT, Sh.ctT_mkT, Sh.ct_mk] at h9; first | omega | exact h9 trivial | exact h9 rfl)))
                  · replace h9 : ¬ (((heldDT s122) ((Sh.mkT s122) (acceptR x0 x1).1 1) 1) < 0) := of_decide_eq_false h9
                    refine wp_skip ?_
                    refine then_normal ?_
                    refine wp_seq ?_
                    refine wp_seq ?_
                    refine at_regq [] { ts := [2, 3, 4, 6, 7, 10, 13, 93], os := [1, 2, 6, 7, 13, 14] } [] gamOK hT h (by kernel_rfl) trivial ?_
                    intro a w h
                    refine then_normal ?_
                    refine at_test (!decide (((heldDT s122) ((Sh.mkT s122) (acceptR x0 x1).1 1) 1) = ((mkKT s122) (acceptR x0 x1).1 1))) h (by kernel_rfl) (fun h10 => ?_) (fun h10 => ?_)
                    · replace h10 : ¬ (((heldDT s122) ((Sh.mkT s122) (acceptR x0 x1).1 1) 1) = ((mkKT s122) (acceptR x0 x1).1 1)) := of_decide_eq_false (notT h10)
                      refine wp_seq ?_
                      refine at_regq [] { ts := [2, 3, 4, 6, 7, 10, 13], os := [1, 2, 6, 7, 13, 14] } [] gamOK hT h (by kernel_rfl) trivial ?_
                      intro a w h
                      refine then_normal ?_
                      refine wp_ret ?_
                      refine then_ret ?_
                      exact at_return (S := S_laws_FnExactAcceptPacket) (x := (x0, x1, ())) (false, ()) [] h (by kernel_rfl) trivial (congrArg (fun z => (z, ())) (show (false) = D_laws_FnExactAcceptPacket x0 x1 from by unfold D_laws_FnExactAcceptPacket; (exfalso; simp only [held_marked, held_markedT, mkK, mkKT, Sh.ctT_mkT, Sh.ct_mk] at h10; first | omega | exact h10 trivial | exact h10 rfl)))
                    · replace h10 : ((heldDT s122) ((Sh.mkT s122) (acceptR x0 x1).1 1) 1) = ((mkKT s122) (acceptR x0 x1).1 1) := of_decide_eq_true (notF h10)
                      refine wp_skip ?_
                      refine then_normal ?_
                      refine wp_seq ?_
                      refine at_anyq [{}, { ids := [18] }, {}, { ids := [19, 20] }, { ids := [21] }, {}, {}, {}, { ids := [22] }, {}, {}] { ts := [4, 6, 7, 10, 13, 15, 16], os := [6, 7, 13, 14, 21, 22] } [(pTo s116) x0, (pTo s118) x1, (fun (x0 : T122) (x1 : T126) => Sh.fit s122 x0 ∧ Sh.fit s126 x1) x0 x1] gamOK hT mixed h (by kernel_rfl) ⟨(by (show Sh.sz _ _ ≤ 1048576; omega)), (by (show Sh.sz _ _ ≤ 1048576; omega)), (by exact ⟨(Sh.fit_of_sz s122 rfl (x := x0) (by omega)), (Sh.fit_of_sz s126 rfl (x := x1) (by omega))⟩), trivial⟩ ?_
                      intro a w h
                      refine then_normal ?_
                      refine wp_seq ?_
                      refine wp_seq ?_
                      refine at_regq [{}, {}, {}, { hint := some (aB false) }] { ts := [4, 10, 13, 110], os := [13, 14] } [True, (AV.p (.c (.v (.bool (!((Sh.eqB s122) (acceptR x0 x1).1 (acceptR x0 x1).1))))) = AV.p (.c (.v (.bool false))))] gamOK hT h (by kernel_rfl) ⟨trivial, hint_bool (h3), trivial⟩ ?_
                      intro a w h
                      refine then_normal ?_
                      refine at_test (!((acceptR x0 x1).2 == (acceptR x0 x1).2)) h (by kernel_rfl) (fun h11 => ?_) (fun h11 => ?_)
                      · replace h11 : ((acceptR x0 x1).2 == (acceptR x0 x1).2) = false := notT h11
                        refine wp_seq ?_
                        refine at_regq [] { ts := [4, 10, 13], os := [13, 14] } [] gamOK hT h (by kernel_rfl) trivial ?_
                        intro a w h
                        refine then_normal ?_
                        refine wp_ret ?_
                        refine then_ret ?_
                        exact at_return (S := S_laws_FnExactAcceptPacket) (x := (x0, x1, ())) (false, ()) [] h (by kernel_rfl) trivial (congrArg (fun z => (z, ())) (show (false) = D_laws_FnExactAcceptPacket x0 x1 from by unfold D_laws_FnExactAcceptPacket; exact absurd (beqT (show _ = _ from by first | rfl | (rfl))) (neT h11)))
                      · replace h11 : ((acceptR x0 x1).2 == (acceptR x0 x1).2) = true := notF h11
                        refine wp_skip ?_
                        refine then_normal ?_
                        refine wp_seq ?_
                        refine at_regq [] { ts := [4, 10, 13, 14], os := [13, 14] } [] gamOK hT h (by kernel_rfl) trivial ?_
                        intro a w h
                        refine then_normal ?_
                        refine wp_seq ?_
                        refine at_reg [] { ts := [4, 13, 14], os := [] } ⟨[(4, aB false), (13, aI ((mkKT s122) (acceptR x0 x1).1 1)), (14, aI ((heldDT s122) ((Sh.mkT s122) (acceptR x0 x1).1 1) 1))], []⟩ [(pMkT s122) ((Sh.mkT s122) (acceptR x0 x1).1 1) 1] gamOK hT h (by kernel_rfl) ⟨(by (show (0 : Int) ≤ _ ∧ _ + ((Sh.ctT _ _ : Nat) : Int) ≤ (4611686018427387904 : Int); (try simp only [held_marked, held_markedT, mkK, mkKT, Sh.ctT_mkT, Sh.ct_mk]); constructor <;> omega)), trivial⟩ ?_
                        intro a w h
                        refine then_normal ?_
                        refine wp_seq ?_
                        refine wp_seq ?_
                        refine at_regq [] { ts := [4, 13, 14, 115], os := [] } [] gamOK hT h (by kernel_rfl) trivial ?_
                        intro a w h
                        refine then_normal ?_
                        refine at_test (decide (((heldDT s122) ((Sh.mkT s122) (acceptR x0 x1).1 1) 1) < 0)) h (by kernel_rfl) (fun h12 => ?_) (fun h12 => ?_)
                        · replace h12 : ((heldDT s122) ((Sh.mkT s122) (acceptR x0 x1).1 1) 1) < 0 := of_decide_eq_true h12
                          refine wp_seq ?_
                          refine at_regq [] { ts := [4, 13, 14], os := [] } [] gamOK hT h (by kernel_rfl) trivial ?_
                          intro a w h
                          refine then_normal ?_
                          refine wp_ret ?_
                          refine then_ret ?_
                          exact at_return (S := S_laws_FnExactAcceptPacket) (x := (x0, x1, ())) (false, ()) [] h (by kernel_rfl) trivial (congrArg (fun z => (z, ())) (show (false) = D_laws_FnExactAcceptPacket x0 x1 from by unfold D_laws_FnExactAcceptPacket; (exfalso; simp only [held_marked, held_markedT, mkK, mkKT, Sh.ctT_mkT, Sh.ct_mk] at h12; first | omega | exact h12 trivial | exact h12 rfl)))
                        · replace h12 : ¬ (((heldDT s122) ((Sh.mkT s122) (acceptR x0 x1).1 1) 1) < 0) := of_decide_eq_false h12
                          refine wp_skip ?_
                          refine then_normal ?_
                          refine wp_seq ?_
                          refine wp_seq ?_
                          refine at_regq [] { ts := [4, 118], os := [] } [] gamOK hT h (by kernel_rfl) trivial ?_
                          intro a w h
                          refine then_normal ?_
                          refine at_test (!decide (((heldDT s122) ((Sh.mkT s122) (acceptR x0 x1).1 1) 1) = ((mkKT s122) (acceptR x0 x1).1 1))) h (by kernel_rfl) (fun h13 => ?_) (fun h13 => ?_)
                          · replace h13 : ¬ (((heldDT s122) ((Sh.mkT s122) (acceptR x0 x1).1 1) 1) = ((mkKT s122) (acceptR x0 x1).1 1)) := of_decide_eq_false (notT h13)
                            refine wp_seq ?_
                            refine at_regq [] { ts := [4], os := [] } [] gamOK hT h (by kernel_rfl) trivial ?_
                            intro a w h
                            refine then_normal ?_
                            refine wp_ret ?_
                            refine then_ret ?_
                            exact at_return (S := S_laws_FnExactAcceptPacket) (x := (x0, x1, ())) (false, ()) [] h (by kernel_rfl) trivial (congrArg (fun z => (z, ())) (show (false) = D_laws_FnExactAcceptPacket x0 x1 from by unfold D_laws_FnExactAcceptPacket; (exfalso; simp only [held_marked, held_markedT, mkK, mkKT, Sh.ctT_mkT, Sh.ct_mk] at h13; first | omega | exact h13 trivial | exact h13 rfl)))
                          · replace h13 : ((heldDT s122) ((Sh.mkT s122) (acceptR x0 x1).1 1) 1) = ((mkKT s122) (acceptR x0 x1).1 1) := of_decide_eq_true (notF h13)
                            refine wp_skip ?_
                            refine then_normal ?_
                            refine wp_seq ?_
                            refine at_regq [] { ts := [4], os := [] } [] gamOK hT h (by kernel_rfl) trivial ?_
                            intro a w h
                            refine then_normal ?_
                            refine wp_ret ?_
                            exact at_return (S := S_laws_FnExactAcceptPacket) (x := (x0, x1, ())) (true, ()) [] h (by kernel_rfl) trivial (congrArg (fun z => (z, ())) (show (true) = D_laws_FnExactAcceptPacket x0 x1 from by unfold D_laws_FnExactAcceptPacket; rfl))

theorem opn3 : OpensS Try.prog 3 (.int 3) := opensS_int Try.underlying3
theorem co3 : Try.prog.cellsOf 3 = 1 := by kernel_rfl
theorem opn22 : OpensS Try.prog 22 s22 := opensS_slice (a := (.int 3)) Try.underlying22 co3 opn3
theorem co22 : Try.prog.cellsOf 22 = 1 := by kernel_rfl
theorem co118 : Try.prog.cellsOf 118 = 3 := by kernel_rfl
theorem opn118 : OpensS Try.prog 118 s118 := by
  intro H enc w base spare held fuel cs x h
  obtain ⟨xs, n, _, _, hl, hlen, hf⟩ := DataW.trod_struct Try.underlying118 h
  obtain ⟨a0, k0, i0⟩ := opensS_field (a := (.int 3)) (i := 0) 0 1 hf hlen rfl rfl rfl co3 opn3
  obtain ⟨a1, k1, i1⟩ := opensS_field (a := s22) (i := 1) 1 1 hf hlen rfl rfl rfl co22 opn22
  obtain ⟨a2, k2, i2⟩ := opensS_field (a := s22) (i := 2) 2 1 hf hlen rfl rfl rfl co22 opn22
  rw [co118] at hl
  exact ⟨(a0, (a1, a2)), (rdS_pair (off := 0) k0 (rdS_pair (off := 1) k1 (rdS_last (off := 2) k2 (by omega)))), ⟨i0, ⟨i1, i2⟩⟩⟩
theorem opn39 : OpensS Try.prog 39 s39 := opensS_slice (a := s118) Try.underlying39 co118 opn118
theorem co39 : Try.prog.cellsOf 39 = 1 := by kernel_rfl
theorem co116 : Try.prog.cellsOf 116 = 5 := by kernel_rfl
theorem opn116 : OpensS Try.prog 116 s116 := by
  intro H enc w base spare held fuel cs x h
  obtain ⟨xs, n, _, _, hl, hlen, hf⟩ := DataW.trod_struct Try.underlying116 h
  obtain ⟨a0, k0, i0⟩ := opensS_field (a := (.int 3)) (i := 0) 0 1 hf hlen rfl rfl rfl co3 opn3
  obtain ⟨a1, k1, i1⟩ := opensS_field (a := (.int 3)) (i := 1) 1 1 hf hlen rfl rfl rfl co3 opn3
  obtain ⟨a2, k2, i2⟩ := opensS_field (a := (.int 3)) (i := 2) 2 1 hf hlen rfl rfl rfl co3 opn3
  obtain ⟨a3, k3, i3⟩ := opensS_field (a := s39) (i := 3) 3 1 hf hlen rfl rfl rfl co39 opn39
  obtain ⟨a4, k4, i4⟩ := opensS_field (a := (.int 3)) (i := 4) 4 1 hf hlen rfl rfl rfl co3 opn3
  rw [co116] at hl
  exact ⟨(a0, (a1, (a2, (a3, a4)))), (rdS_pair (off := 0) k0 (rdS_pair (off := 1) k1 (rdS_pair (off := 2) k2 (rdS_pair (off := 3) k3 (rdS_last (off := 4) k4 (by omega)))))), ⟨i0, ⟨i1, ⟨i2, ⟨i3, i4⟩⟩⟩⟩⟩
namespace fnExactAcceptPacket
open Go.ChangeShapes Go.WideShapes Go.ChangeAt Go.RowKit
theorem own : ownKnob Try.prog.godebug = none := by kernel_rfl
theorem laidOut : laidOutB Try.prog = true := fxLaid
set_option maxRecDepth 100000 in
theorem lifted (os : Os) (started : os.Started) (H : Type) (enc : TypeId × Value → H) :
    ReturnsInHanded {} Try.checked os 12 .any (Rows.fnExactAcceptPacketSpec.pre6 enc Try.prog Try.f12 Rows.fnExactAcceptPacketRow.domain false) (Rows.fnExactAcceptPacketSpec.post enc Try.prog Try.f12 false true false false) := by
  refine returnsInHanded_of_change (C := Try.checked) own started (by kernel_rfl) Try.func12
    (ChangeSpec.witness6 (enc := enc) (C := Try.checked) false ⟨#[], #[.agg #[.int .i64 0, .int .i64 0, .int .i64 0, .slice none 0 0, .int .i64 0], .agg #[.int .i64 0, .slice none 0 0, .slice none 0 0]], []⟩ 8 (by kernel_rfl) (by kernel_rfl) (by kernel_rfl) (by kernel_rfl)) ?_
  intro W base args ds gs before hval0 hW hcnd _
  have hval : ∀ (j : Nat) t v, Try.f12.params[j]? = some t → args[j]? = some v → Value.okWide Try.prog W .any base t v := hval0
  have hW' := hW
  obtain ⟨p, q, hA0, hV, rfl, hfz, hnd⟩ := hW
  have hA : DataW.TrodAll enc Try.prog W 0 (fun _ => true) true Try.f12.params.toList args.toList ds p := hA0
  rw [Try.params12] at hA hval
  obtain ⟨v0, vs0, d0, ds0, p0, q0, hargs, rfl, rfl, h0, r0⟩ := trodAll_cons hA
  obtain ⟨v1, vs1, d1, ds1, p1, q1, rfl, rfl, rfl, h1, r1⟩ := trodAll_cons r0
  obtain ⟨rfl, rfl, rfl⟩ := trodAll_nil r1
  obtain rfl : args = #[v0, v1] := by cases args; simp_all
  obtain ⟨rfl, rfl⟩ := trodVars_none hV
  have k0 := h0
  have lt0 : ∀ x ∈ p0, x.block < W.heap.size := by obtain ⟨m, hm⟩ := k0; exact DataW.trod_lt m _ _ _ hm
  obtain ⟨cs0, rfl, _⟩ := okWide_struct Try.underlying116 (hval 0 116 v0 rfl rfl)
  obtain ⟨cs0⟩ := cs0
  obtain ⟨x0, hx0, i0⟩ : ∃ x : (s116).D, (s116).rd W (fun b => b < W.heap.size) cs0 x ∧ (s116).i64 x := by obtain ⟨fuel, hf⟩ := h0; exact opn116 hf
  have k1 := h1
  have lt1 : ∀ x ∈ p1, x.block < W.heap.size := by obtain ⟨m, hm⟩ := k1; exact DataW.trod_lt m _ _ _ hm
  obtain ⟨cs1, rfl, _⟩ := okWide_struct Try.underlying118 (hval 1 118 v1 rfl rfl)
  obtain ⟨cs1⟩ := cs1
  obtain ⟨x1, hx1, i1⟩ : ∃ x : (s118).D, (s118).rd W (fun b => b < W.heap.size) cs1 x ∧ (s118).i64 x := by obtain ⟨fuel, hf⟩ := h1; exact opn118 hf
  clear hA0 hval0
  refine (calls_law S_laws_FnExactAcceptPacket_ok (by kernel_rfl) W (fun b => b < W.heap.size) [.agg cs0.toArray, .agg cs1.toArray] (x0, x1, ()) (fun _ h => h) ⟨argRd_st hx0, argRd_st hx1, trivial⟩ ⟨i0, i1⟩).mono fun e W' hr => ?_
  obtain ⟨he, bel⟩ := ret_bool hr
  subst he
  exact ⟨_, rfl, _, _, _, [], _, [], hW', trodAll_mk1 (shut_bool Try.underlying4 _), (trodAll_cons_mk (Below.trod laidOut (by kernel_rfl) (of_decide_eq_true (by kernel_rfl)) k0 bel lt0) (trodAll_cons_mk (Below.trod laidOut (by kernel_rfl) (of_decide_eq_true (by kernel_rfl)) k1 bel lt1) trodAll_mk0)), rfl, bel.frame _, fun h => by cases h⟩
theorem closed : joinedFacts Try.prog 12 Try.f12 (Rows.fnExactAcceptPacketSpec) Rows.fnExactAcceptPacketRow = true := by
  unfold joinedFacts
  exact (and2 (and2 (and2 (and2 (and2 (and2 (and2 (and2 (and2 (and2 (and2 (and2 (and2 (and2 (and2 (and2 (and2 (and2 (and2 (and2 (and2 (and2 (and2 (and2 (and2 (and2 (and2 (and2 (and2 (and2 (and2 (by kernel_rfl) fxLaid) fxMaps) (by kernel_rfl)) (by kernel_rfl)) (by kernel_rfl)) (by kernel_rfl)) (by kernel_rfl)) (by kernel_rfl)) (by kernel_rfl)) (by kernel_rfl)) (by kernel_rfl)) (by kernel_rfl)) (by kernel_rfl)) (by kernel_rfl)) (by kernel_rfl)) (by kernel_rfl)) (by kernel_rfl)) (by kernel_rfl)) (by kernel_rfl)) (by kernel_rfl)) (by kernel_rfl)) (by kernel_rfl)) (by kernel_rfl)) (by kernel_rfl)) fxEnter) (by rw [fxLifts]; kernel_rfl)) (by rw [fxMake]; kernel_rfl)) (by kernel_rfl)) (by kernel_rfl)) (by kernel_rfl)) (by kernel_rfl))
theorem over : Rows.fnExactAcceptPacketRow.holds Try.pinned (OpenSpec.ofChange Rows.fnExactAcceptPacketSpec) :=
  OpenClaim.holds_of_wide 12 Try.f12 rfl rfl rfl rfl rfl rfl rfl ⟨rfl, rfl, rfl, rfl, rfl⟩ rfl rfl rfl rfl rfl (by kernel_rfl) Try.func12 closed
    (of_decide_eq_true (by kernel_rfl)) (by unfold Func.isWrapper; first | (rw [if_pos (by decide +kernel)]; kernel_rfl) | (rw [if_neg (by decide +kernel)]; exact ⟨rfl, rfl⟩))
    (fun os started H enc _ => lifted os started H enc)
/-- the statement -/
theorem proved : Rows.FnExactAcceptPacketSaid := over
end fnExactAcceptPacket

end Go.Proofs.Ytkialoggpcdhkaa

/- The law FnExactFilterPackets returns true for every input and leaves its arguments as they were. No condition. -/
import Derived.Test.YtkialoggpcdhkaaFilterPackets2
import Derived.Test.YtkialoggpcdhkaaLA
import Derived.Test.YtkialoggpcdhkaaProg
import Derived.Test.YtkialoggpcdhkaaRows
import Derived.Test.YtkialoggpcdhkaaFX
namespace Go.Proofs.Ytkialoggpcdhkaa
open Go.RowKit
set_option linter.unusedVariables false
set_option linter.unusedSimpArgs false
def S_spec_CheckPacket : Sum := { fid := 100, dom := [s45, s47, s126], cod := [(.int 3)], dp := true, fz := false, pre := fun x => (fun (x0 : (List Int)) (x1 : T47) (x2 : T126) => Sh.fit s45 x0 ∧ Sh.fit s47 x1 ∧ Sh.fit s126 x2) x.1 x.2.1 x.2.2.1, g := fun x => ((checkP x.1 x.2.1 x.2.2.1), ()) }
def S_spec_CheckPacket_tab : List (Nat × Sum) := [(123, S_spec_IsValidManifest), (119, S_spec_IsValidHashKey), (176, S_spec_IsValidPacket), (177, S_spec_VerifyHash)]
theorem S_spec_CheckPacket_ok : FnOK Try.prog 100 S_spec_CheckPacket := by
  refine at_enter 46 (fun x => ⟨[(0, aG [.ro (.int 3) x.1]), (1, aG [cI x.2.1.1, cI x.2.1.2.1, cI x.2.1.2.2.1, cI x.2.1.2.2.2.1, .ro (.int 3) x.2.1.2.2.2.2.1, cI x.2.1.2.2.2.2.2]), (2, aG [cI x.2.2.1.1, .ro (.int 3) x.2.2.1.2.1, .ro (.int 3) x.2.2.1.2.2])], []⟩) Try.func100 rfl (by kernel_rfl) (fun x => rfl) ?_
  rintro w0 Z0 ⟨x0, x1, x2, u⟩ a w
  revert x0 x1 x2
  intro (x0 : (List Int)) (x1 : T47) (x2 : T126) hpre hlens h
  replace h : At w0 Z0 [] 46 ⟨[(0, aG [.ro (.int 3) x0]), (1, aG [cI x1.1, cI x1.2.1, cI x1.2.2.1, cI x1.2.2.2.1, .ro (.int 3) x1.2.2.2.2.1, cI x1.2.2.2.2.2]), (2, aG [cI x2.1, .ro (.int 3) x2.2.1, .ro (.int 3) x2.2.2])], []⟩ a w := h
  replace hpre : (fun (x0 : (List Int)) (x1 : T47) (x2 : T126) => Sh.fit s45 x0 ∧ Sh.fit s47 x1 ∧ Sh.fit s126 x2) x0 x1 x2 := hpre
  have hl1 : List.length x0 ≤ 9223372036854775807 := hlens.1.1
  have hl2 : List.length x1.2.2.2.2.1 ≤ 9223372036854775807 := hlens.2.1.2.2.2.2.1.1
  have hl3 : List.length x2.2.1 ≤ 9223372036854775807 := hlens.2.2.1.2.1.1
  have hl4 : List.length x2.2.2 ≤ 9223372036854775807 := hlens.2.2.1.2.2.1
  have hT : TabOK Try.prog S_spec_CheckPacket_tab := (.cons S_spec_IsValidManifest_ok (.cons S_spec_IsValidHashKey_ok (.cons S_spec_IsValidPacket_ok (.cons S_spec_VerifyHash_ok .nil))))
  obtain ⟨hf0, hf1, hf2⟩ := hpre
  have hn0_1 : List.length x0 ≤ 1073741824 := hf0.1
  have hn1_2 : List.length x1.2.2.2.2.1 ≤ 1073741824 := hf1.2.2.2.2.1.1
  have hn2_3 : List.length x2.2.1 ≤ 1073741824 := hf2.2.1.1
  have hn2_4 : List.length x2.2.2 ≤ 1073741824 := hf2.2.2.1
  refine wp_seq ?_
  refine at_regq (T := S_spec_CheckPacket_tab) [{ ids := [1] }, { ids := [2] }, { ids := [3] }] { ts := [3, 4, 5, 6], os := [1, 2, 3] } [] gamOK hT h (by kernel_rfl) trivial ?_
  intro a w h
  refine then_normal ?_
  refine wp_seq ?_
  refine wp_block ?_
  refine wp_seq ?_
  rcases Bool.eq_false_or_eq_true (!(validMan x1)) with h1 | h1
  · skip
    have hzh1 : (validMan x1) = false := notT h1
    refine at_regq (T := S_spec_CheckPacket_tab) [{}, {}, { hint := some (aB true) }] { ts := [3, 4, 5, 6, 7], os := [1, 2, 3] } [(fun (x0 : T47) => Sh.fit s47 x0) x1, (AV.p (.c (.v (.bool (!(validMan x1))))) = AV.p (.c (.v (.bool true))))] gamOK hT h (by kernel_rfl) ⟨(by exact hf1), hint_bool (h1), trivial⟩ ?_
    intro a w h
    refine then_normal ?_
    refine at_test true h (by kernel_rfl) (fun hh => ?_) (fun hh => nomatch hh)
    refine wp_seq ?_
    refine at_regq (T := S_spec_CheckPacket_tab) [] { ts := [6], os := [] } [] gamOK hT h (by kernel_rfl) trivial ?_
    intro a w h
    refine then_normal ?_
    refine wp_ret ?_
    refine in_ret ?_
    refine then_ret ?_
    exact at_return (S := S_spec_CheckPacket) (x := (x0, x1, x2, ())) (1, ()) [] h (by kernel_rfl) trivial (congrArg (fun z => (z, ())) (show (1) = checkP x0 x1 x2 from by first | rfl | (unfold checkP; rw [if_neg (neT (notT h1))]; done) | (unfold checkP; simp_all)))
  · skip
    have hzh1 : (validMan x1) = true := notF h1
    rcases Bool.eq_false_or_eq_true (!(validK x0)) with h2 | h2
    · skip
      have hzh2 : (validK x0) = false := notT h2
      refine at_regq (T := S_spec_CheckPacket_tab) [{}, {}, { hint := some (aB false) }, {}, {}, {}, { hint := some (aB true) }] { ts := [3, 4, 5, 6, 7], os := [1, 2, 3] } [(fun (x0 : T47) => Sh.fit s47 x0) x1, (AV.p (.c (.v (.bool (!(validMan x1))))) = AV.p (.c (.v (.bool false)))), (fun (x0 : (List Int)) => Sh.fit s45 x0) x0, (AV.p (.c (.v (.bool (!(validK x0))))) = AV.p (.c (.v (.bool true))))] gamOK hT h (by kernel_rfl) ⟨(by exact hf1), hint_bool (h1), (by exact hf0), hint_bool (h2), trivial⟩ ?_
      intro a w h
      refine then_normal ?_
      refine at_test true h (by kernel_rfl) (fun hh => ?_) (fun hh => nomatch hh)
      refine wp_seq ?_
      refine at_regq (T := S_spec_CheckPacket_tab) [] { ts := [6], os := [] } [] gamOK hT h (by kernel_rfl) trivial ?_
      intro a w h
      refine then_normal ?_
      refine wp_ret ?_
      refine in_ret ?_
      refine then_ret ?_
      exact at_return (S := S_spec_CheckPacket) (x := (x0, x1, x2, ())) (1, ()) [] h (by kernel_rfl) trivial (congrArg (fun z => (z, ())) (show (1) = checkP x0 x1 x2 from by first | rfl | (unfold checkP; rw [if_pos (notF h1), if_neg (neT (notT h2))]; done) | (unfold checkP; simp_all)))
    · skip
      have hzh2 : (validK x0) = true := notF h2
      have hvh2 := validK_t (notF h2)
      by_cases h3 : x1.2.2.2.1 = ((List.length x0 : Nat) : Int)
      · skip
        refine at_regq (T := S_spec_CheckPacket_tab) [{}, {}, { hint := some (aB false) }, {}, {}, {}, { hint := some (aB false) }, {}, {}, {}, {}, {}, {}, {}, { hint := some (aB false) }] { ts := [3, 4, 5, 6, 7], os := [1, 2, 3] } [(fun (x0 : T47) => Sh.fit s47 x0) x1, (AV.p (.c (.v (.bool (!(validMan x1))))) = AV.p (.c (.v (.bool false)))), (fun (x0 : (List Int)) => Sh.fit s45 x0) x0, (AV.p (.c (.v (.bool (!(validK x0))))) = AV.p (.c (.v (.bool false)))), (AV.p (.c (.v (.bool (!decide (x1.2.2.2.1 = ((List.length x0 : Nat) : Int)))))) = AV.p (.c (.v (.bool false)))), (fun (x0 : T126) (x1 : Int) (x2 : Int) => Sh.fit s126 x0) x2 x1.2.2.1 x1.2.2.2.1] gamOK hT h (by kernel_rfl) ⟨(by exact hf1), hint_bool (h1), (by exact hf0), hint_bool (h2), hint_bool (ndT h3), (by exact hf2), trivial⟩ ?_
        intro a w h
        refine then_normal ?_
        refine at_test (!(validP x2 x1.2.2.1 x1.2.2.2.1)) h (by kernel_rfl) (fun h4 => ?_) (fun h4 => ?_)
        · replace h4 : (validP x2 x1.2.2.1 x1.2.2.2.1) = false := notT h4
          refine wp_seq ?_
          refine at_regq (T := S_spec_CheckPacket_tab) [] { ts := [6], os := [] } [] gamOK hT h (by kernel_rfl) trivial ?_
          intro a w h
          refine then_normal ?_
          refine wp_ret ?_
          refine in_ret ?_
          refine then_ret ?_
          exact at_return (S := S_spec_CheckPacket) (x := (x0, x1, x2, ())) (1, ()) [] h (by kernel_rfl) trivial (congrArg (fun z => (z, ())) (show (1) = checkP x0 x1 x2 from by first | rfl | (unfold checkP; rw [if_pos (notF h1), if_pos (notF h2), if_pos h3, if_neg (neT h4)]; done) | (unfold checkP; simp_all)))
        · replace h4 : (validP x2 x1.2.2.1 x1.2.2.2.1) = true := notF h4
          have hvh4 := validP_n h4
          refine wp_seq ?_
          refine at_regq (T := S_spec_CheckPacket_tab) [] { ts := [3, 4, 5, 6, 33], os := [1, 2, 3] } [] gamOK hT h (by kernel_rfl) trivial ?_
          intro a w h
          refine then_normal ?_
          refine at_test (!decide (x2.1 = x1.2.1)) h (by kernel_rfl) (fun h5 => ?_) (fun h5 => ?_)
          · replace h5 : ¬ (x2.1 = x1.2.1) := of_decide_eq_false (notT h5)
            refine wp_seq ?_
            refine at_reg (T := S_spec_CheckPacket_tab) [] { ts := [6], os := [] } ⟨[(6, aI 2)], []⟩ [] gamOK hT h (by kernel_rfl) trivial ?_
            intro a w h
            refine then_normal ?_
            refine wp_ret ?_
            refine in_ret ?_
            refine then_ret ?_
            exact at_return (S := S_spec_CheckPacket) (x := (x0, x1, x2, ())) (2, ()) [] h (by kernel_rfl) trivial (congrArg (fun z => (z, ())) (show (2) = checkP x0 x1 x2 from by first | rfl | (unfold checkP; rw [if_pos (notF h1), if_pos (notF h2), if_pos h3, if_pos h4, if_neg h5]; done) | (unfold checkP; simp_all)))
          · replace h5 : x2.1 = x1.2.1 := of_decide_eq_true (notF h5)
            refine wp_seq ?_
            refine at_reg (T := S_spec_CheckPacket_tab) [] { ts := [6, 39], os := [] } ⟨[(6, aI 0), (39, aB (!(verH x0 x1.2.2.2.2.1 x2)))], []⟩ [(fun (x0 : (List Int)) (x1 : (List Int)) (x2 : T126) => Sh.fit s45 x0 ∧ Sh.fit s22 x1 ∧ Sh.fit s126 x2) x0 x1.2.2.2.2.1 x2] gamOK hT h (by kernel_rfl) ⟨(by exact ⟨hf0, hf1.2.2.2.2.1, hf2⟩), trivial⟩ ?_
            intro a w h
            refine then_normal ?_
            refine at_test (!(verH x0 x1.2.2.2.2.1 x2)) h (by kernel_rfl) (fun h6 => ?_) (fun h6 => ?_)
            · replace h6 : (verH x0 x1.2.2.2.2.1 x2) = false := notT h6
              refine wp_seq ?_
              refine at_regq (T := S_spec_CheckPacket_tab) [] { ts := [6], os := [] } [] gamOK hT h (by kernel_rfl) trivial ?_
              intro a w h
              refine then_normal ?_
              refine wp_ret ?_
              refine in_ret ?_
              refine then_ret ?_
              exact at_return (S := S_spec_CheckPacket) (x := (x0, x1, x2, ())) (3, ()) [] h (by kernel_rfl) trivial (congrArg (fun z => (z, ())) (show (3) = checkP x0 x1 x2 from by first | rfl | (unfold checkP; rw [if_pos (notF h1), if_pos (notF h2), if_pos h3, if_pos h4, if_pos h5, if_neg (neT h6)]; done) | (unfold checkP; simp_all)))
            · replace h6 : (verH x0 x1.2.2.2.2.1 x2) = true := notF h6
              refine wp_skip ?_
              refine in_normal ?_
              refine then_normal ?_
              refine wp_seq ?_
              refine at_regq (T := S_spec_CheckPacket_tab) [] { ts := [6], os := [] } [] gamOK hT h (by kernel_rfl) trivial ?_
              intro a w h
              refine then_normal ?_
              refine wp_ret ?_
              exact at_return (S := S_spec_CheckPacket) (x := (x0, x1, x2, ())) (0, ()) [] h (by kernel_rfl) trivial (congrArg (fun z => (z, ())) (show (0) = checkP x0 x1 x2 from by first | rfl | (unfold checkP; rw [if_pos (notF h1), if_pos (notF h2), if_pos h3, if_pos h4, if_pos h5, if_pos h6]; done) | (unfold checkP; simp_all)))
      · skip
        refine at_regq (T := S_spec_CheckPacket_tab) [{}, {}, { hint := some (aB false) }, {}, {}, {}, { hint := some (aB false) }, {}, {}, {}, {}, {}, {}, {}, { hint := some (aB true) }] { ts := [3, 4, 5, 6, 7], os := [1, 2, 3] } [(fun (x0 : T47) => Sh.fit s47 x0) x1, (AV.p (.c (.v (.bool (!(validMan x1))))) = AV.p (.c (.v (.bool false)))), (fun (x0 : (List Int)) => Sh.fit s45 x0) x0, (AV.p (.c (.v (.bool (!(validK x0))))) = AV.p (.c (.v (.bool false)))), (AV.p (.c (.v (.bool (!decide (x1.2.2.2.1 = ((List.length x0 : Nat) : Int)))))) = AV.p (.c (.v (.bool true))))] gamOK hT h (by kernel_rfl) ⟨(by exact hf1), hint_bool (h1), (by exact hf0), hint_bool (h2), hint_bool (ndF h3), trivial⟩ ?_
        intro a w h
        refine then_normal ?_
        refine at_test true h (by kernel_rfl) (fun hh => ?_) (fun hh => nomatch hh)
        refine wp_seq ?_
        refine at_regq (T := S_spec_CheckPacket_tab) [] { ts := [6], os := [] } [] gamOK hT h (by kernel_rfl) trivial ?_
        intro a w h
        refine then_normal ?_
        refine wp_ret ?_
        refine in_ret ?_
        refine then_ret ?_
        exact at_return (S := S_spec_CheckPacket) (x := (x0, x1, x2, ())) (1, ()) [] h (by kernel_rfl) trivial (congrArg (fun z => (z, ())) (show (1) = checkP x0 x1 x2 from by first | rfl | (unfold checkP; rw [if_pos (notF h1), if_pos (notF h2), if_neg h3]; done) | (unfold checkP; simp_all)))
def filterP (k : (List Int)) (m : T47) (xs : List T126) : List T126 := List.filter (fun p => decide (checkP k m p = 0)) xs

def S_impl_FilterPackets : Sum := { fid := 27, dom := [s45, s47, s43], cod := [s43], dp := true, fz := false, pre := fun x => (fun (x0 : (List Int)) (x1 : T47) (x2 : (List T126)) => Sh.fit s45 x0 ∧ Sh.fit s47 x1 ∧ Sh.fit s43 x2) x.1 x.2.1 x.2.2.1, g := fun x => ((filterP x.1 x.2.1 x.2.2.1), ()) }
def S_impl_FilterPackets_tab : List (Nat × Sum) := [(102, S_impl_CheckPacket), (103, S__impl_CodedPacket_clone)]
theorem S_impl_FilterPackets_ok : FnOK Try.prog 27 S_impl_FilterPackets := by
  refine at_enter 28 (fun x => ⟨[(0, aG [.ro (.int 3) x.1]), (1, aG [cI x.2.1.1, cI x.2.1.2.1, cI x.2.1.2.2.1, cI x.2.1.2.2.2.1, .ro (.int 3) x.2.1.2.2.2.2.1, cI x.2.1.2.2.2.2.2]), (2, aF s126 x.2.2.1)], []⟩) Try.func27 rfl (by kernel_rfl) (fun x => rfl) ?_
  rintro w0 Z0 ⟨x0, x1, x2, u⟩ a w
  revert x0 x1 x2
  intro (x0 : (List Int)) (x1 : T47) (x2 : (List T126)) hpre hlens h
  replace h : At w0 Z0 [] 28 ⟨[(0, aG [.ro (.int 3) x0]), (1, aG [cI x1.1, cI x1.2.1, cI x1.2.2.1, cI x1.2.2.2.1, .ro (.int 3) x1.2.2.2.2.1, cI x1.2.2.2.2.2]), (2, aF s126 x2)], []⟩ a w := h
  replace hpre : (fun (x0 : (List Int)) (x1 : T47) (x2 : (List T126)) => Sh.fit s45 x0 ∧ Sh.fit s47 x1 ∧ Sh.fit s43 x2) x0 x1 x2 := hpre
  have hl1 : List.length x0 ≤ 9223372036854775807 := hlens.1.1
  have hl2 : List.length x1.2.2.2.2.1 ≤ 9223372036854775807 := hlens.2.1.2.2.2.2.1.1
  have hl3 : List.length x2 ≤ 9223372036854775807 := hlens.2.2.1.1
  have hT : TabOK Try.prog S_impl_FilterPackets_tab := (.cons S_impl_CheckPacket_ok (.cons S__impl_CodedPacket_clone_ok .nil))
  obtain ⟨hf0, hf1, hf2⟩ := hpre
  have hn0_1 : List.length x0 ≤ 1073741824 := hf0.1
  have hn1_2 : List.length x1.2.2.2.2.1 ≤ 1073741824 := hf1.2.2.2.2.1.1
  have hn2_3 : List.length x2 ≤ 1073741824 := hf2.1
  refine wp_seq ?_
  refine at_regq (T := S_impl_FilterPackets_tab) [{ ids := [1] }, { ids := [2] }] { ts := [2, 3, 4, 6], os := [1, 2] } [] gamOK hT h (by kernel_rfl) trivial ?_
  intro a w h
  refine then_normal ?_
  refine wp_seq ?_
  refine at_regq (T := S_impl_FilterPackets_tab) [] { ts := [2, 3, 4, 6, 7], os := [1, 2] } [] gamOK hT h (by kernel_rfl) trivial ?_
  intro a w h
  refine then_normal ?_
  refine wp_seq ?_
  refine wp_seq ?_
  refine at_regq (T := S_impl_FilterPackets_tab) [] { ts := [3, 4, 6, 7, 10, 11, 12], os := [1, 2] } [] gamOK hT h (by kernel_rfl) trivial ?_
  intro a w h
  refine then_normal ?_
  refine wp_block ?_
  replace h := at_out (σ' := ⟨[(3, aP 1 0), (4, aP 2 0), (6, .p (.c (cN))), (7, aS 3), (10, aF s126 x2), (11, aI ((List.length x2 : Nat) : Int)), (12, aI 0)], [(1, oX 45 [.ro (.int 3) x0]), (2, oX 47 [cI x1.1, cI x1.2.1, cI x1.2.2.1, cI x1.2.2.2.1, .ro (.int 3) x1.2.2.2.2.1, cI x1.2.2.2.2.2]), (3, oR s126 ([] : List T126))]⟩) { mt := [⟨none, 7, 3, true, s126⟩], ts := [3, 4, 6, 7, 10, 11, 12], os := [1, 2, 3] } h (by kernel_rfl)
  refine at_loop (fun i : Nat => (⟨[(3, aP 1 0), (4, aP 2 0), (6, .p (.c (cN))), (7, aS 3), (10, aF s126 x2), (11, aI ((List.length x2 : Nat) : Int)), (12, aI ((i : Nat) : Int))], [(1, oX 45 [.ro (.int 3) x0]), (2, oX 47 [cI x1.1, cI x1.2.1, cI x1.2.2.1, cI x1.2.2.2.1, .ro (.int 3) x1.2.2.2.2.1, cI x1.2.2.2.2.2]), (3, oR s126 (List.filter (fun p => decide (checkP x0 x1 p = 0)) (List.take i x2)))]⟩ : St)) (fun i => i ≤ List.length x2) (fun i => List.length x2 - i) (0) h (st_congr2 (fun (d0 : List T126) (d1 : Int) => (⟨[(3, aP 1 0), (4, aP 2 0), (6, .p (.c (cN))), (7, aS 3), (10, aF s126 x2), (11, aI ((List.length x2 : Nat) : Int)), (12, aI d1)], [(1, oX 45 [.ro (.int 3) x0]), (2, oX 47 [cI x1.1, cI x1.2.1, cI x1.2.2.1, cI x1.2.2.2.1, .ro (.int 3) x1.2.2.2.2.1, cI x1.2.2.2.2.2]), (3, oR s126 d0)]⟩ : St)) (show (([] : List T126) : List T126) = (List.filter (fun p => decide (checkP x0 x1 p = 0)) (List.take (0) x2)) from by first | with_reducible rfl | (first | rfl | simp) | rfl) (show (0 : Int) = (((0) : Nat) : Int) from by first | with_reducible rfl | (first | rfl | simp) | rfl)) (by omega) ?_
  intro i a w hok0 h
  have hlt0 := len_filter_take (p := (fun p => decide (checkP x0 x1 p = 0))) (xs := x2) i
  refine wp_seq ?_
  refine at_reg (T := S_impl_FilterPackets_tab) [] { ts := [3, 4, 6, 7, 10, 11, 12, 13], os := [1, 2, 3] } ⟨[(3, aP 1 0), (4, aP 2 0), (6, .p (.c (cN))), (7, aS 3), (10, aF s126 x2), (11, aI ((List.length x2 : Nat) : Int)), (12, aI ((i : Nat) : Int)), (13, aB (decide (((i : Nat) : Int) < ((List.length x2 : Nat) : Int))))], [(1, oX 45 [.ro (.int 3) x0]), (2, oX 47 [cI x1.1, cI x1.2.1, cI x1.2.2.1, cI x1.2.2.2.1, .ro (.int 3) x1.2.2.2.2.1, cI x1.2.2.2.2.2]), (3, oR s126 (List.filter (fun p => decide (checkP x0 x1 p = 0)) (List.take i x2)))]⟩ [] gamOK hT h (by kernel_rfl) trivial ?_
  intro a w h
  refine then_normal ?_
  refine wp_seq ?_
  refine at_test (decide (((i : Nat) : Int) < ((List.length x2 : Nat) : Int))) h (by kernel_rfl) (fun h1 => ?_) (fun h1 => ?_)
  · replace h1 : ((i : Nat) : Int) < ((List.length x2 : Nat) : Int) := of_decide_eq_true h1
    refine wp_skip ?_
    refine then_normal ?_
    refine wp_seq ?_
    refine wp_block ?_
    refine wp_seq ?_
    refine at_regq (T := S_impl_FilterPackets_tab) [{}, {}, { ids := [4] }] { ts := [3, 4, 6, 7, 9, 10, 11, 12], os := [1, 2, 3, 4] } [(0 : Int) ≤ ((i : Nat) : Int) ∧ ((i : Nat) : Int) < ((List.length x2 : Nat) : Int)] gamOK hT h (by kernel_rfl) ⟨(by refine ⟨?_, ?_⟩ <;> (first | omega | (simp only [List.length_append, List.length_cons, List.length_nil, List.length_set, List.length_take, List.length_drop, List.length_replicate, List.length_map, Nat.min_def]; omega) | (simp; done) | (simp; omega) | done)), trivial⟩ ?_
    intro a w h
    refine then_normal ?_
    refine wp_seq ?_
    refine at_regq (T := S_impl_FilterPackets_tab) [] { ts := [3, 4, 6, 7, 9, 10, 11, 12, 20], os := [1, 2, 3, 4] } [(fun (x0 : (List Int)) (x1 : T47) (x2 : T126) => Sh.fit s45 x0 ∧ Sh.fit s47 x1 ∧ Sh.fit s126 x2) x0 x1 (x2.getD i (0, ([], [])))] gamOK hT h (by kernel_rfl) ⟨(by exact ⟨hf0, hf1, (Sh.fit_getD hf2 i)⟩), trivial⟩ ?_
    intro a w h
    refine then_normal ?_
    refine at_test (decide ((checkP x0 x1 (x2.getD i (0, ([], [])))) = 0)) h (by kernel_rfl) (fun h2 => ?_) (fun h2 => ?_)
    · replace h2 : (checkP x0 x1 (x2.getD i (0, ([], [])))) = 0 := of_decide_eq_true h2
      refine at_regq (T := S_impl_FilterPackets_tab) [{}, {}, { ids := [5, 6] }, { ids := [7] }, { ids := [8] }] { ts := [3, 4, 6, 7, 10, 11, 12], os := [1, 2, 8] } [(fun (x0 : T126) => Sh.fit s126 x0) (x2.getD i (0, ([], []))), (List.length (List.filter (fun p => decide (checkP x0 x1 p = 0)) (List.take i x2)) + List.length ([(x2.getD i (0, ([], [])))])) * 56 ≤ 140737488355328] gamOK hT h (by kernel_rfl) ⟨(by exact (Sh.fit_getD hf2 i)), (by first | omega | (simp only [List.length_append, List.length_cons, List.length_nil, List.length_set, List.length_take, List.length_drop, List.length_replicate, List.length_map, Nat.min_def]; omega) | (simp; done) | (simp; omega) | done), trivial⟩ ?_
      intro a w h
      refine in_normal ?_
      refine then_normal ?_
      refine at_reg (T := S_impl_FilterPackets_tab) [{ nw := true }] { ts := [3, 4, 6, 7, 10, 11, 12], os := [1, 2, 8] } ⟨[(3, aP 1 0), (4, aP 2 0), (6, .p (.c (cN))), (7, aS 8), (10, aF s126 x2), (11, aI ((List.length x2 : Nat) : Int)), (12, aI (((i : Nat) : Int) + 1))], [(1, oX 45 [.ro (.int 3) x0]), (2, oX 47 [cI x1.1, cI x1.2.1, cI x1.2.2.1, cI x1.2.2.2.1, .ro (.int 3) x1.2.2.2.2.1, cI x1.2.2.2.2.2]), (8, oR s126 ((List.filter (fun p => decide (checkP x0 x1 p = 0)) (List.take i x2)) ++ ([(x2.getD i (0, ([], [])))])))]⟩ [I64 (((i : Nat) : Int) + 1)] gamOK hT h (by kernel_rfl) ⟨⟨by first | omega | (simp only [List.length_append, List.length_cons, List.length_nil, List.length_set, List.length_take, List.length_drop, List.length_replicate, List.length_map, Nat.min_def]; omega) | (simp; done) | (simp; omega) | done, by first | omega | (simp only [List.length_append, List.length_cons, List.length_nil, List.length_set, List.length_take, List.length_drop, List.length_replicate, List.length_map, Nat.min_def]; omega) | (simp; done) | (simp; omega) | done⟩, trivial⟩ ?_
      intro a w h
      replace h := at_out (σ' := ⟨[(3, aP 1 0), (4, aP 2 0), (6, .p (.c (cN))), (7, aS 3), (10, aF s126 x2), (11, aI ((List.length x2 : Nat) : Int)), (12, aI (((i : Nat) : Int) + 1))], [(1, oX 45 [.ro (.int 3) x0]), (2, oX 47 [cI x1.1, cI x1.2.1, cI x1.2.2.1, cI x1.2.2.2.1, .ro (.int 3) x1.2.2.2.2.1, cI x1.2.2.2.2.2]), (3, oR s126 ((List.filter (fun p => decide (checkP x0 x1 p = 0)) (List.take i x2)) ++ ([(x2.getD i (0, ([], [])))])))]⟩) { ts := [3, 4, 6, 7, 10, 11, 12], os := [1, 2, 8], rn := [(8, 3)] } h (by kernel_rfl)
      exact ⟨i + 1, at_eq h (st_congr2 (fun (d0 : List T126) (d1 : Int) => (⟨[(3, aP 1 0), (4, aP 2 0), (6, .p (.c (cN))), (7, aS 3), (10, aF s126 x2), (11, aI ((List.length x2 : Nat) : Int)), (12, aI d1)], [(1, oX 45 [.ro (.int 3) x0]), (2, oX 47 [cI x1.1, cI x1.2.1, cI x1.2.2.1, cI x1.2.2.2.1, .ro (.int 3) x1.2.2.2.2.1, cI x1.2.2.2.2.2]), (3, oR s126 d0)]⟩ : St)) (show (((List.filter (fun p => decide (checkP x0 x1 p = 0)) (List.take i x2)) ++ ([(x2.getD i (0, ([], [])))])) : List T126) = (List.filter (fun p => decide (checkP x0 x1 p = 0)) (List.take (i + 1) x2)) from by first | with_reducible rfl | (first | (rw [filter_snoc_t (z := (0, ([], []))) (by omega) (by first | exact decide_eq_true (by assumption) | (simp_all; done))]; done) | (rw [filter_snoc_f (z := (0, ([], []))) (by omega) (by first | exact decide_eq_false (by assumption) | (simp_all; done))]; done)) | rfl) (show (((i : Nat) : Int) + 1 : Int) = (((i + 1) : Nat) : Int) from by first | with_reducible rfl | (omega) | rfl)), (by omega), (by omega)⟩
    · replace h2 : ¬ ((checkP x0 x1 (x2.getD i (0, ([], [])))) = 0) := of_decide_eq_false h2
      refine wp_skip ?_
      refine in_normal ?_
      refine then_normal ?_
      refine at_regq (T := S_impl_FilterPackets_tab) [{ nw := true }] { ts := [3, 4, 6, 7, 10, 11, 12], os := [1, 2, 3] } [I64 (((i : Nat) : Int) + 1)] gamOK hT h (by kernel_rfl) ⟨⟨by first | omega | (simp only [List.length_append, List.length_cons, List.length_nil, List.length_set, List.length_take, List.length_drop, List.length_replicate, List.length_map, Nat.min_def]; omega) | (simp; done) | (simp; omega) | done, by first | omega | (simp only [List.length_append, List.length_cons, List.length_nil, List.length_set, List.length_take, List.length_drop, List.length_replicate, List.length_map, Nat.min_def]; omega) | (simp; done) | (simp; omega) | done⟩, trivial⟩ ?_
      intro a w h
      replace h := at_out (σ' := ⟨[(3, aP 1 0), (4, aP 2 0), (6, .p (.c (cN))), (7, aS 3), (10, aF s126 x2), (11, aI ((List.length x2 : Nat) : Int)), (12, aI (((i : Nat) : Int) + 1))], [(1, oX 45 [.ro (.int 3) x0]), (2, oX 47 [cI x1.1, cI x1.2.1, cI x1.2.2.1, cI x1.2.2.2.1, .ro (.int 3) x1.2.2.2.2.1, cI x1.2.2.2.2.2]), (3, oR s126 (List.filter (fun p => decide (checkP x0 x1 p = 0)) (List.take i x2)))]⟩) { ts := [3, 4, 6, 7, 10, 11, 12], os := [1, 2, 3] } h (by kernel_rfl)
      exact ⟨i + 1, at_eq h (st_congr2 (fun (d0 : List T126) (d1 : Int) => (⟨[(3, aP 1 0), (4, aP 2 0), (6, .p (.c (cN))), (7, aS 3), (10, aF s126 x2), (11, aI ((List.length x2 : Nat) : Int)), (12, aI d1)], [(1, oX 45 [.ro (.int 3) x0]), (2, oX 47 [cI x1.1, cI x1.2.1, cI x1.2.2.1, cI x1.2.2.2.1, .ro (.int 3) x1.2.2.2.2.1, cI x1.2.2.2.2.2]), (3, oR s126 d0)]⟩ : St)) (show ((List.filter (fun p => decide (checkP x0 x1 p = 0)) (List.take i x2)) : List T126) = (List.filter (fun p => decide (checkP x0 x1 p = 0)) (List.take (i + 1) x2)) from by first | with_reducible rfl | (first | (rw [filter_snoc_t (z := (0, ([], []))) (by omega) (by first | exact decide_eq_true (by assumption) | (simp_all; done))]; done) | (rw [filter_snoc_f (z := (0, ([], []))) (by omega) (by first | exact decide_eq_false (by assumption) | (simp_all; done))]; done)) | rfl) (show (((i : Nat) : Int) + 1 : Int) = (((i + 1) : Nat) : Int) from by first | with_reducible rfl | (omega) | rfl)), (by omega), (by omega)⟩
  · replace h1 : ¬ (((i : Nat) : Int) < ((List.length x2 : Nat) : Int)) := of_decide_eq_false h1
    refine wp_exit ?_
    refine then_exit ?_
    replace h := at_out (σ' := ⟨[(6, .p (.c (cN))), (7, aS 3)], [(3, oR s126 (List.filter (fun p => decide (checkP x0 x1 p = 0)) (List.take i x2)))]⟩) { ts := [6, 7], os := [3] } h (by kernel_rfl)
    replace h := at_eq (σ' := ⟨[(6, .p (.c (cN))), (7, aS 3)], [(3, oR s126 (List.filter (fun p => decide (checkP x0 x1 p = 0)) x2))]⟩) h (st_congr1 (fun (d0 : List T126) => (⟨[(6, .p (.c (cN))), (7, aS 3)], [(3, oR s126 d0)]⟩ : St)) (show ((List.filter (fun p => decide (checkP x0 x1 p = 0)) (List.take i x2)) : List T126) = (List.filter (fun p => decide (checkP x0 x1 p = 0)) x2) from by first | with_reducible rfl | (rw [take_all (by omega)]) | rfl))
    refine then_exit ?_
    refine in_hit ?_
    refine then_normal ?_
    refine wp_seq ?_
    refine at_regq (T := S_impl_FilterPackets_tab) [] { ts := [6], os := [3] } [] gamOK hT h (by kernel_rfl) trivial ?_
    intro a w h
    refine then_normal ?_
    refine wp_ret ?_
    exact at_return (S := S_impl_FilterPackets) (x := (x0, x1, x2, ())) ((List.filter (fun p => decide (checkP x0 x1 p = 0)) x2), ()) [] h (by kernel_rfl) trivial (congrArg (fun z => (z, ())) (show ((List.filter (fun p => decide (checkP x0 x1 p = 0)) x2)) = filterP x0 x1 x2 from by rfl))

def S_spec_FilterPackets : Sum := { fid := 23, dom := [s45, s47, s43], cod := [s43], dp := true, fz := false, pre := fun x => (fun (x0 : (List Int)) (x1 : T47) (x2 : (List T126)) => Sh.fit s45 x0 ∧ Sh.fit s47 x1 ∧ Sh.fit s43 x2) x.1 x.2.1 x.2.2.1, g := fun x => ((filterP x.1 x.2.1 x.2.2.1), ()) }
def S_spec_FilterPackets_tab : List (Nat × Sum) := [(100, S_spec_CheckPacket), (101, S_spec_l11Copy)]
theorem S_spec_FilterPackets_ok : FnOK Try.prog 23 S_spec_FilterPackets := by
  refine at_enter 35 (fun x => ⟨[(0, aG [.ro (.int 3) x.1]), (1, aG [cI x.2.1.1, cI x.2.1.2.1, cI x.2.1.2.2.1, cI x.2.1.2.2.2.1, .ro (.int 3) x.2.1.2.2.2.2.1, cI x.2.1.2.2.2.2.2]), (2, aF s126 x.2.2.1)], []⟩) Try.func23 rfl (by kernel_rfl) (fun x => rfl) ?_
  rintro w0 Z0 ⟨x0, x1, x2, u⟩ a w
  revert x0 x1 x2
  intro (x0 : (List Int)) (x1 : T47) (x2 : (List T126)) hpre hlens h
  replace h : At w0 Z0 [] 35 ⟨[(0, aG [.ro (.int 3) x0]), (1, aG [cI x1.1, cI x1.2.1, cI x1.2.2.1, cI x1.2.2.2.1, .ro (.int 3) x1.2.2.2.2.1, cI x1.2.2.2.2.2]), (2, aF s126 x2)], []⟩ a w := h
  replace hpre : (fun (x0 : (List Int)) (x1 : T47) (x2 : (List T126)) => Sh.fit s45 x0 ∧ Sh.fit s47 x1 ∧ Sh.fit s43 x2) x0 x1 x2 := hpre
  have hl1 : List.length x0 ≤ 9223372036854775807 := hlens.1.1
  have hl2 : List.length x1.2.2.2.2.1 ≤ 9223372036854775807 := hlens.2.1.2.2.2.2.1.1
  have hl3 : List.length x2 ≤ 9223372036854775807 := hlens.2.2.1.1
  have hT : TabOK Try.prog S_spec_FilterPackets_tab := (.cons S_spec_CheckPacket_ok (.cons S_spec_l11Copy_ok .nil))
  obtain ⟨hf0, hf1, hf2⟩ := hpre
  have hn0_1 : List.length x0 ≤ 1073741824 := hf0.1
  have hn1_2 : List.length x1.2.2.2.2.1 ≤ 1073741824 := hf1.2.2.2.2.1.1
  have hn2_3 : List.length x2 ≤ 1073741824 := hf2.1
  refine wp_seq ?_
  refine at_regq (T := S_spec_FilterPackets_tab) [{ ids := [1] }, { ids := [2] }] { ts := [2, 3, 4, 6], os := [1, 2] } [] gamOK hT h (by kernel_rfl) trivial ?_
  intro a w h
  refine then_normal ?_
  refine wp_seq ?_
  refine at_regq (T := S_spec_FilterPackets_tab) [{ ids := [3] }] { ts := [2, 3, 4, 6, 7], os := [1, 2, 3] } [] gamOK hT h (by kernel_rfl) trivial ?_
  intro a w h
  refine then_normal ?_
  refine wp_seq ?_
  refine wp_seq ?_
  refine at_regq (T := S_spec_FilterPackets_tab) [] { ts := [2, 3, 4, 6, 7, 8], os := [1, 2, 3] } [] gamOK hT h (by kernel_rfl) trivial ?_
  intro a w h
  refine then_normal ?_
  refine wp_block ?_
  replace h := at_out (σ' := ⟨[(2, aF s126 x2), (3, aP 1 0), (4, aP 2 0), (6, .p (.c (cN))), (7, aS 3), (8, aI 0)], [(1, oX 45 [.ro (.int 3) x0]), (2, oX 47 [cI x1.1, cI x1.2.1, cI x1.2.2.1, cI x1.2.2.2.1, .ro (.int 3) x1.2.2.2.2.1, cI x1.2.2.2.2.2]), (3, oR s126 ([] : List T126))]⟩) { ts := [2, 3, 4, 6, 7, 8], os := [1, 2, 3] } h (by kernel_rfl)
  refine at_loop (fun i : Nat => (⟨[(2, aF s126 x2), (3, aP 1 0), (4, aP 2 0), (6, .p (.c (cN))), (7, aS 3), (8, aI ((i : Nat) : Int))], [(1, oX 45 [.ro (.int 3) x0]), (2, oX 47 [cI x1.1, cI x1.2.1, cI x1.2.2.1, cI x1.2.2.2.1, .ro (.int 3) x1.2.2.2.2.1, cI x1.2.2.2.2.2]), (3, oR s126 (List.filter (fun p => decide (checkP x0 x1 p = 0)) (List.take i x2)))]⟩ : St)) (fun i => i ≤ List.length x2) (fun i => List.length x2 - i) (0) h (st_congr2 (fun (d0 : List T126) (d1 : Int) => (⟨[(2, aF s126 x2), (3, aP 1 0), (4, aP 2 0), (6, .p (.c (cN))), (7, aS 3), (8, aI d1)], [(1, oX 45 [.ro (.int 3) x0]), (2, oX 47 [cI x1.1, cI x1.2.1, cI x1.2.2.1, cI x1.2.2.2.1, .ro (.int 3) x1.2.2.2.2.1, cI x1.2.2.2.2.2]), (3, oR s126 d0)]⟩ : St)) (show (([] : List T126) : List T126) = (List.filter (fun p => decide (checkP x0 x1 p = 0)) (List.take (0) x2)) from by first | with_reducible rfl | (first | rfl | simp) | rfl) (show (0 : Int) = (((0) : Nat) : Int) from by first | with_reducible rfl | (first | rfl | simp) | rfl)) (by omega) ?_
  intro i a w hok0 h
  have hlt0 := len_filter_take (p := (fun p => decide (checkP x0 x1 p = 0))) (xs := x2) i
  refine wp_seq ?_
  refine wp_seq ?_
  refine at_reg (T := S_spec_FilterPackets_tab) [] { ts := [2, 3, 4, 6, 7, 8, 14], os := [1, 2, 3] } ⟨[(2, aF s126 x2), (3, aP 1 0), (4, aP 2 0), (6, .p (.c (cN))), (7, aS 3), (8, aI ((i : Nat) : Int)), (14, aB (decide (((i : Nat) : Int) < ((List.length x2 : Nat) : Int))))], [(1, oX 45 [.ro (.int 3) x0]), (2, oX 47 [cI x1.1, cI x1.2.1, cI x1.2.2.1, cI x1.2.2.2.1, .ro (.int 3) x1.2.2.2.2.1, cI x1.2.2.2.2.2]), (3, oR s126 (List.filter (fun p => decide (checkP x0 x1 p = 0)) (List.take i x2)))]⟩ [] gamOK hT h (by kernel_rfl) trivial ?_
  intro a w h
  refine then_normal ?_
  refine at_test (decide (((i : Nat) : Int) < ((List.length x2 : Nat) : Int))) h (by kernel_rfl) (fun h1 => ?_) (fun h1 => ?_)
  · replace h1 : ((i : Nat) : Int) < ((List.length x2 : Nat) : Int) := of_decide_eq_true h1
    refine wp_skip ?_
    refine then_normal ?_
    refine wp_seq ?_
    refine wp_block ?_
    refine wp_seq ?_
    refine at_anyq (T := S_spec_FilterPackets_tab) [{}, {}, {}, {}, {}, {}, {}, {}] { ts := [2, 3, 4, 6, 7, 8, 24], os := [1, 2, 3] } [(0 : Int) ≤ ((i : Nat) : Int) ∧ ((i : Nat) : Int) < ((List.length x2 : Nat) : Int), (fun (x0 : (List Int)) (x1 : T47) (x2 : T126) => Sh.fit s45 x0 ∧ Sh.fit s47 x1 ∧ Sh.fit s126 x2) x0 x1 (x2.getD i (0, ([], [])))] gamOK hT mixed h (by kernel_rfl) ⟨(by refine ⟨?_, ?_⟩ <;> (first | omega | (simp only [List.length_append, List.length_cons, List.length_nil, List.length_set, List.length_take, List.length_drop, List.length_replicate, List.length_map, Nat.min_def]; omega) | (simp; done) | (simp; omega) | done)), (by exact ⟨hf0, hf1, (Sh.fit_getD hf2 i)⟩), trivial⟩ ?_
    intro a w h
    refine then_normal ?_
    refine at_test (decide ((checkP x0 x1 (x2.getD i (0, ([], [])))) = 0)) h (by kernel_rfl) (fun h2 => ?_) (fun h2 => ?_)
    · replace h2 : (checkP x0 x1 (x2.getD i (0, ([], [])))) = 0 := of_decide_eq_true h2
      refine wp_seq ?_
      refine at_regq (T := S_spec_FilterPackets_tab) [{}, {}, {}, {}, { ids := [4, 5] }, { ids := [6] }] { ts := [2, 3, 4, 6, 7, 8, 9], os := [1, 2, 3, 4, 5, 6] } [(0 : Int) ≤ ((i : Nat) : Int) ∧ ((i : Nat) : Int) < ((List.length x2 : Nat) : Int), (fun (x0 : T126) => Sh.fit s126 x0) (x2.getD i (0, ([], [])))] gamOK hT h (by kernel_rfl) ⟨(by refine ⟨?_, ?_⟩ <;> (first | omega | (simp only [List.length_append, List.length_cons, List.length_nil, List.length_set, List.length_take, List.length_drop, List.length_replicate, List.length_map, Nat.min_def]; omega) | (simp; done) | (simp; omega) | done)), (by exact (Sh.fit_getD hf2 i)), trivial⟩ ?_
      intro a w h
      refine then_normal ?_
      refine at_regq (T := S_spec_FilterPackets_tab) [{}, {}, { ids := [7] }, { ids := [8] }] { ts := [2, 3, 4, 6, 7, 8], os := [1, 2, 8] } [(List.length (List.filter (fun p => decide (checkP x0 x1 p = 0)) (List.take i x2)) + List.length ([(x2.getD i (0, ([], [])))])) * 56 ≤ 140737488355328] gamOK hT h (by kernel_rfl) ⟨(by first | omega | (simp only [List.length_append, List.length_cons, List.length_nil, List.length_set, List.length_take, List.length_drop, List.length_replicate, List.length_map, Nat.min_def]; omega) | (simp; done) | (simp; omega) | done), trivial⟩ ?_
      intro a w h
      refine in_normal ?_
      refine then_normal ?_
      refine at_reg (T := S_spec_FilterPackets_tab) [{}, { nw := true }] { ts := [2, 3, 4, 6, 7, 8], os := [1, 2, 8] } ⟨[(2, aF s126 x2), (3, aP 1 0), (4, aP 2 0), (6, .p (.c (cN))), (7, aS 8), (8, aI (((i : Nat) : Int) + 1))], [(1, oX 45 [.ro (.int 3) x0]), (2, oX 47 [cI x1.1, cI x1.2.1, cI x1.2.2.1, cI x1.2.2.2.1, .ro (.int 3) x1.2.2.2.2.1, cI x1.2.2.2.2.2]), (8, oR s126 ((List.filter (fun p => decide (checkP x0 x1 p = 0)) (List.take i x2)) ++ ([(x2.getD i (0, ([], [])))])))]⟩ [I64 (((i : Nat) : Int) + 1)] gamOK hT h (by kernel_rfl) ⟨⟨by first | omega | (simp only [List.length_append, List.length_cons, List.length_nil, List.length_set, List.length_take, List.length_drop, List.length_replicate, List.length_map, Nat.min_def]; omega) | (simp; done) | (simp; omega) | done, by first | omega | (simp only [List.length_append, List.length_cons, List.length_nil, List.length_set, List.length_take, List.length_drop, List.length_replicate, List.length_map, Nat.min_def]; omega) | (simp; done) | (simp; omega) | done⟩, trivial⟩ ?_
      intro a w h
      replace h := at_out (σ' := ⟨[(2, aF s126 x2), (3, aP 1 0), (4, aP 2 0), (6, .p (.c (cN))), (7, aS 3), (8, aI (((i : Nat) : Int) + 1))], [(1, oX 45 [.ro (.int 3) x0]), (2, oX 47 [cI x1.1, cI x1.2.1, cI x1.2.2.1, cI x1.2.2.2.1, .ro (.int 3) x1.2.2.2.2.1, cI x1.2.2.2.2.2]), (3, oR s126 ((List.filter (fun p => decide (checkP x0 x1 p = 0)) (List.take i x2)) ++ ([(x2.getD i (0, ([], [])))])))]⟩) { ts := [2, 3, 4, 6, 7, 8], os := [1, 2, 8], rn := [(8, 3)] } h (by kernel_rfl)
      exact ⟨i + 1, at_eq h (st_congr2 (fun (d0 : List T126) (d1 : Int) => (⟨[(2, aF s126 x2), (3, aP 1 0), (4, aP 2 0), (6, .p (.c (cN))), (7, aS 3), (8, aI d1)], [(1, oX 45 [.ro (.int 3) x0]), (2, oX 47 [cI x1.1, cI x1.2.1, cI x1.2.2.1, cI x1.2.2.2.1, .ro (.int 3) x1.2.2.2.2.1, cI x1.2.2.2.2.2]), (3, oR s126 d0)]⟩ : St)) (show (((List.filter (fun p => decide (checkP x0 x1 p = 0)) (List.take i x2)) ++ ([(x2.getD i (0, ([], [])))])) : List T126) = (List.filter (fun p => decide (checkP x0 x1 p = 0)) (List.take (i + 1) x2)) from by first | with_reducible rfl | (first | (rw [filter_snoc_t (z := (0, ([], []))) (by omega) (by first | exact decide_eq_true (by assumption) | (simp_all; done))]; done) | (rw [filter_snoc_f (z := (0, ([], []))) (by omega) (by first | exact decide_eq_false (by assumption) | (simp_all; done))]; done)) | rfl) (show (((i : Nat) : Int) + 1 : Int) = (((i + 1) : Nat) : Int) from by first | with_reducible rfl | (omega) | rfl)), (by omega), (by omega)⟩
    · replace h2 : ¬ ((checkP x0 x1 (x2.getD i (0, ([], [])))) = 0) := of_decide_eq_false h2
      refine wp_skip ?_
      refine in_normal ?_
      refine then_normal ?_
      refine at_regq (T := S_spec_FilterPackets_tab) [{}, { nw := true }] { ts := [2, 3, 4, 6, 7, 8], os := [1, 2, 3] } [I64 (((i : Nat) : Int) + 1)] gamOK hT h (by kernel_rfl) ⟨⟨by first | omega | (simp only [List.length_append, List.length_cons, List.length_nil, List.length_set, List.length_take, List.length_drop, List.length_replicate, List.length_map, Nat.min_def]; omega) | (simp; done) | (simp; omega) | done, by first | omega | (simp only [List.length_append, List.length_cons, List.length_nil, List.length_set, List.length_take, List.length_drop, List.length_replicate, List.length_map, Nat.min_def]; omega) | (simp; done) | (simp; omega) | done⟩, trivial⟩ ?_
      intro a w h
      replace h := at_out (σ' := ⟨[(2, aF s126 x2), (3, aP 1 0), (4, aP 2 0), (6, .p (.c (cN))), (7, aS 3), (8, aI (((i : Nat) : Int) + 1))], [(1, oX 45 [.ro (.int 3) x0]), (2, oX 47 [cI x1.1, cI x1.2.1, cI x1.2.2.1, cI x1.2.2.2.1, .ro (.int 3) x1.2.2.2.2.1, cI x1.2.2.2.2.2]), (3, oR s126 (List.filter (fun p => decide (checkP x0 x1 p = 0)) (List.take i x2)))]⟩) { ts := [2, 3, 4, 6, 7, 8], os := [1, 2, 3] } h (by kernel_rfl)
      exact ⟨i + 1, at_eq h (st_congr2 (fun (d0 : List T126) (d1 : Int) => (⟨[(2, aF s126 x2), (3, aP 1 0), (4, aP 2 0), (6, .p (.c (cN))), (7, aS 3), (8, aI d1)], [(1, oX 45 [.ro (.int 3) x0]), (2, oX 47 [cI x1.1, cI x1.2.1, cI x1.2.2.1, cI x1.2.2.2.1, .ro (.int 3) x1.2.2.2.2.1, cI x1.2.2.2.2.2]), (3, oR s126 d0)]⟩ : St)) (show ((List.filter (fun p => decide (checkP x0 x1 p = 0)) (List.take i x2)) : List T126) = (List.filter (fun p => decide (checkP x0 x1 p = 0)) (List.take (i + 1) x2)) from by first | with_reducible rfl | (first | (rw [filter_snoc_t (z := (0, ([], []))) (by omega) (by first | exact decide_eq_true (by assumption) | (simp_all; done))]; done) | (rw [filter_snoc_f (z := (0, ([], []))) (by omega) (by first | exact decide_eq_false (by assumption) | (simp_all; done))]; done)) | rfl) (show (((i : Nat) : Int) + 1 : Int) = (((i + 1) : Nat) : Int) from by first | with_reducible rfl | (omega) | rfl)), (by omega), (by omega)⟩
  · replace h1 : ¬ (((i : Nat) : Int) < ((List.length x2 : Nat) : Int)) := of_decide_eq_false h1
    refine wp_exit ?_
    refine then_exit ?_
    replace h := at_out (σ' := ⟨[(6, .p (.c (cN))), (7, aS 3)], [(3, oR s126 (List.filter (fun p => decide (checkP x0 x1 p = 0)) (List.take i x2)))]⟩) { ts := [6, 7], os := [3] } h (by kernel_rfl)
    replace h := at_eq (σ' := ⟨[(6, .p (.c (cN))), (7, aS 3)], [(3, oR s126 (List.filter (fun p => decide (checkP x0 x1 p = 0)) x2))]⟩) h (st_congr1 (fun (d0 : List T126) => (⟨[(6, .p (.c (cN))), (7, aS 3)], [(3, oR s126 d0)]⟩ : St)) (show ((List.filter (fun p => decide (checkP x0 x1 p = 0)) (List.take i x2)) : List T126) = (List.filter (fun p => decide (checkP x0 x1 p = 0)) x2) from by first | with_reducible rfl | (rw [take_all (by omega)]) | rfl))
    refine then_exit ?_
    refine in_hit ?_
    refine then_normal ?_
    refine wp_seq ?_
    refine at_regq (T := S_spec_FilterPackets_tab) [] { ts := [6], os := [3] } [] gamOK hT h (by kernel_rfl) trivial ?_
    intro a w h
    refine then_normal ?_
    refine wp_ret ?_
    exact at_return (S := S_spec_FilterPackets) (x := (x0, x1, x2, ())) ((List.filter (fun p => decide (checkP x0 x1 p = 0)) x2), ()) [] h (by kernel_rfl) trivial (congrArg (fun z => (z, ())) (show ((List.filter (fun p => decide (checkP x0 x1 p = 0)) x2)) = filterP x0 x1 x2 from by rfl))

def D_laws_FnExactFilterPackets := (fun (_ : (List Int)) (_ : T38) (_ : (List T118)) => true)
def S_laws_FnExactFilterPackets : Sum := { fid := 4, dom := [s36, s38, s39], cod := [(.bool 4)], dp := true, fz := false, pre := fun x => (fun (x0 : (List Int)) (x1 : T38) (x2 : (List T118)) => Sh.i64 s36 x0 ∧ Sh.i64 s38 x1 ∧ Sh.i64 s39 x2) x.1 x.2.1 x.2.2.1, g := fun x => ((D_laws_FnExactFilterPackets x.1 x.2.1 x.2.2.1), ()) }
def S_laws_FnExactFilterPackets_tab : List (Nat × Sum) := [(20, S_laws_szHashKey), (21, S_laws_szManifest), (22, S_laws_szCodedPacketS), (24, S_laws_toHashKey), (25, S_laws_toManifest), (26, S_laws_toCodedPacketS), (23, S_spec_FilterPackets), (27, S_impl_FilterPackets), (28, S_laws_eqCodedPacketS), (29, S_laws_eqHashKey), (30, S_laws_eqManifest), (31, S_laws_markHashKey), (32, S_laws_markManifest), (33, S_laws_markCodedPacketS), (34, S_laws_heldCodedPacketS)]
theorem S_laws_FnExactFilterPackets_ok : FnOK Try.prog 4 S_laws_FnExactFilterPackets := by
  refine at_enter 115 (fun x => ⟨[(0, aG [.ro (.int 3) x.1]), (1, aG [cI x.2.1.1, cI x.2.1.2.1, cI x.2.1.2.2.1, cI x.2.1.2.2.2.1, .ro (.int 3) x.2.1.2.2.2.2.1, cI x.2.1.2.2.2.2.2]), (2, aF s118 x.2.2.1)], []⟩) Try.func4 rfl (by kernel_rfl) (fun x => rfl) ?_
  rintro w0 Z0 ⟨x0, x1, x2, u⟩ a w
  revert x0 x1 x2
  intro (x0 : (List Int)) (x1 : T38) (x2 : (List T118)) hpre hlens h
  replace h : At w0 Z0 [] 115 ⟨[(0, aG [.ro (.int 3) x0]), (1, aG [cI x1.1, cI x1.2.1, cI x1.2.2.1, cI x1.2.2.2.1, .ro (.int 3) x1.2.2.2.2.1, cI x1.2.2.2.2.2]), (2, aF s118 x2)], []⟩ a w := h
  replace hpre : (fun (x0 : (List Int)) (x1 : T38) (x2 : (List T118)) => Sh.i64 s36 x0 ∧ Sh.i64 s38 x1 ∧ Sh.i64 s39 x2) x0 x1 x2 := hpre
  have hl1 : List.length x0 ≤ 9223372036854775807 := hlens.1.1
  have hl2 : List.length x1.2.2.2.2.1 ≤ 9223372036854775807 := hlens.2.1.2.2.2.2.1.1
  have hl3 : List.length x2 ≤ 9223372036854775807 := hlens.2.2.1.1
  have hT : TabOK Try.prog S_laws_FnExactFilterPackets_tab := (.cons S_laws_szHashKey_ok (.cons S_laws_szManifest_ok (.cons S_laws_szCodedPacketS_ok (.cons S_laws_toHashKey_ok (.cons S_laws_toManifest_ok (.cons S_laws_toCodedPacketS_ok (.cons S_spec_FilterPackets_ok (.cons S_impl_FilterPackets_ok (.cons S_laws_eqCodedPacketS_ok (.cons S_laws_eqHashKey_ok (.cons S_laws_eqManifest_ok (.cons S_laws_markHashKey_ok (.cons S_laws_markManifest_ok (.cons S_laws_markCodedPacketS_ok (.cons S_laws_heldCodedPacketS_ok .nil)))))))))))))))
  have hq0 : Sh.sz s45 x0 = Sh.sz s36 x0 := rfl
  have hb0 : Sh.ctT s45 x0 ≤ 1 * Sh.sz s45 x0 := Sh.ctT_le2 s45 x0
  have hz0 : Sh.ct s45 x0 ≤ 1 * (1 + Sh.sz s45 x0) := Sh.ct_le s45 x0
  have ht0 : Sh.sz s36 x0 = (Sh.sz s22 x0) := rfl
  have hs0_1 : Sh.sz s22 x0 = List.length x0 := sz_flat (by rfl) _
  have hq1 : Sh.sz s47 x1 = Sh.sz s38 x1 := rfl
  have hb1 : Sh.ctT s47 x1 ≤ 6 * Sh.sz s47 x1 := Sh.ctT_le2 s47 x1
  have hz1 : Sh.ct s47 x1 ≤ 6 * (1 + Sh.sz s47 x1) := Sh.ct_le s47 x1
  have ht1 : Sh.sz s38 x1 = (0 + (0 + (0 + (0 + ((Sh.sz s22 x1.2.2.2.2.1) + 0))))) := rfl
  have hs1_1 : Sh.sz s22 x1.2.2.2.2.1 = List.length x1.2.2.2.2.1 := sz_flat (by rfl) _
  have hq2 : Sh.sz s43 x2 = Sh.sz s39 x2 := rfl
  have hb2 : Sh.ctT s43 x2 ≤ 3 * Sh.sz s43 x2 := Sh.ctT_le2 s43 x2
  have hz2 : Sh.ct s43 x2 ≤ 3 * (1 + Sh.sz s43 x2) := Sh.ct_le s43 x2
  have hs2_1 : Sh.sz s39 x2 = List.length x2 + ctL (Sh.sz s118) x2 := rfl
  have hr1 : Sh.ct s43 (filterP x0 x1 x2) ≤ 3 * (1 + Sh.sz s43 (filterP x0 x1 x2)) := Sh.ct_le s43 _
  have hr2 : Sh.sz s43 (filterP x0 x1 x2) ≤ Sh.sz s43 x2 := by
    have h1 : Sh.sz s43 (filterP x0 x1 x2) = List.length (filterP x0 x1 x2) + ctL (Sh.sz s126) (filterP x0 x1 x2) := rfl
    have h2 : Sh.sz s43 x2 = List.length x2 + ctL (Sh.sz s126) x2 := rfl
    have h3 : List.length (filterP x0 x1 x2) ≤ List.length x2 := List.length_filter_le _ _
    have h4 : ctL (Sh.sz s126) (filterP x0 x1 x2) ≤ ctL (Sh.sz s126) x2 := ctL_filter _ _ _
    omega
  refine wp_seq ?_
  refine at_regq (T := S_laws_FnExactFilterPackets_tab) [{ ids := [1] }, { ids := [2] }] { ts := [2, 3, 4, 6], os := [1, 2] } [] gamOK hT h (by kernel_rfl) trivial ?_
  intro a w h
  refine then_normal ?_
  refine wp_seq ?_
  refine at_regq (T := S_laws_FnExactFilterPackets_tab) [] { ts := [2, 3, 4, 6, 7], os := [1, 2] } [] gamOK hT h (by kernel_rfl) trivial ?_
  intro a w h
  refine then_normal ?_
  refine wp_seq ?_
  refine at_regq (T := S_laws_FnExactFilterPackets_tab) [] { ts := [2, 3, 4, 6, 7], os := [1, 2] } [(pSz s36) x0 1048576] gamOK hT h (by kernel_rfl) ⟨(by (show (0 : Int) ≤ _ ∧ _ ≤ (9223372036854775807 : Int); constructor <;> omega)), trivial⟩ ?_
  intro a w h
  refine then_normal ?_
  refine wp_seq ?_
  refine wp_seq ?_
  refine at_reg (T := S_laws_FnExactFilterPackets_tab) [] { ts := [2, 3, 4, 6, 7, 21], os := [1, 2] } ⟨[(2, aF s118 x2), (3, aP 1 0), (4, aP 2 0), (6, aB false), (7, aI ((szD s36) x0 1048576)), (21, aB (decide (((szD s36) x0 1048576) < 0)))], [(1, oX 36 [.ro (.int 3) x0]), (2, oX 38 [cI x1.1, cI x1.2.1, cI x1.2.2.1, cI x1.2.2.2.1, .ro (.int 3) x1.2.2.2.2.1, cI x1.2.2.2.2.2])]⟩ [] gamOK hT h (by kernel_rfl) trivial ?_
  intro a w h
  refine then_normal ?_
  refine at_test (decide (((szD s36) x0 1048576) < 0)) h (by kernel_rfl) (fun h1 => ?_) (fun h1 => ?_)
  · replace h1 : ((szD s36) x0 1048576) < 0 := of_decide_eq_true h1
    have hvh1 := szD_neg h1 (by omega)
    refine wp_seq ?_
    refine at_regq (T := S_laws_FnExactFilterPackets_tab) [] { ts := [2, 3, 4, 6, 7], os := [1, 2] } [] gamOK hT h (by kernel_rfl) trivial ?_
    intro a w h
    refine then_normal ?_
    refine wp_ret ?_
    refine then_ret ?_
    exact at_return (S := S_laws_FnExactFilterPackets) (x := (x0, x1, x2, ())) (true, ()) [] h (by kernel_rfl) trivial (congrArg (fun z => (z, ())) (show (true) = D_laws_FnExactFilterPackets x0 x1 x2 from by unfold D_laws_FnExactFilterPackets; rfl))
  · replace h1 : ¬ (((szD s36) x0 1048576) < 0) := of_decide_eq_false h1
    have hvh1 := szD_val h1 (by omega)
    refine wp_skip ?_
    refine then_normal ?_
    refine wp_seq ?_
    refine at_regq (T := S_laws_FnExactFilterPackets_tab) [] { ts := [2, 3, 4, 6, 7], os := [1, 2] } [(pSz s38) x1 ((szD s36) x0 1048576)] gamOK hT h (by kernel_rfl) ⟨(by (show (0 : Int) ≤ _ ∧ _ ≤ (9223372036854775807 : Int); constructor <;> omega)), trivial⟩ ?_
    intro a w h
    refine then_normal ?_
    refine wp_seq ?_
    refine wp_seq ?_
    refine at_regq (T := S_laws_FnExactFilterPackets_tab) [] { ts := [2, 3, 4, 6, 7, 26], os := [1, 2] } [] gamOK hT h (by kernel_rfl) trivial ?_
    intro a w h
    refine then_normal ?_
    refine at_test (decide (((szD s38) x1 ((szD s36) x0 1048576)) < 0)) h (by kernel_rfl) (fun h2 => ?_) (fun h2 => ?_)
    · replace h2 : ((szD s38) x1 ((szD s36) x0 1048576)) < 0 := of_decide_eq_true h2
      have hvh2 := szD_neg h2 (by omega)
      refine wp_seq ?_
      refine at_regq (T := S_laws_FnExactFilterPackets_tab) [] { ts := [2, 3, 4, 6, 7], os := [1, 2] } [] gamOK hT h (by kernel_rfl) trivial ?_
      intro a w h
      refine then_normal ?_
      refine wp_ret ?_
      refine then_ret ?_
      exact at_return (S := S_laws_FnExactFilterPackets) (x := (x0, x1, x2, ())) (true, ()) [] h (by kernel_rfl) trivial (congrArg (fun z => (z, ())) (show (true) = D_laws_FnExactFilterPackets x0 x1 x2 from by unfold D_laws_FnExactFilterPackets; rfl))
    · replace h2 : ¬ (((szD s38) x1 ((szD s36) x0 1048576)) < 0) := of_decide_eq_false h2
      have hvh2 := szD_val h2 (by omega)
      refine wp_skip ?_
      refine then_normal ?_
      refine wp_seq ?_
      refine at_regq (T := S_laws_FnExactFilterPackets_tab) [] { ts := [2, 3, 4, 6, 7], os := [1, 2] } [(pSz s39) x2 ((szD s38) x1 ((szD s36) x0 1048576))] gamOK hT h (by kernel_rfl) ⟨(by (show (0 : Int) ≤ _ ∧ _ ≤ (9223372036854775807 : Int); constructor <;> omega)), trivial⟩ ?_
      intro a w h
      refine then_normal ?_
      refine wp_seq ?_
      refine wp_seq ?_
      refine at_reg (T := S_laws_FnExactFilterPackets_tab) [] { ts := [2, 3, 4, 6, 31], os := [1, 2] } ⟨[(2, aF s118 x2), (3, aP 1 0), (4, aP 2 0), (6, aB false), (31, aB (decide (((szD s39) x2 ((szD s38) x1 ((szD s36) x0 1048576))) < 0)))], [(1, oX 36 [.ro (.int 3) x0]), (2, oX 38 [cI x1.1, cI x1.2.1, cI x1.2.2.1, cI x1.2.2.2.1, .ro (.int 3) x1.2.2.2.2.1, cI x1.2.2.2.2.2])]⟩ [] gamOK hT h (by kernel_rfl) trivial ?_
      intro a w h
      refine then_normal ?_
      refine at_test (decide (((szD s39) x2 ((szD s38) x1 ((szD s36) x0 1048576))) < 0)) h (by kernel_rfl) (fun h3 => ?_) (fun h3 => ?_)
      · replace h3 : ((szD s39) x2 ((szD s38) x1 ((szD s36) x0 1048576))) < 0 := of_decide_eq_true h3
        have hvh3 := szD_neg h3 (by omega)
        refine wp_seq ?_
        refine at_regq (T := S_laws_FnExactFilterPackets_tab) [] { ts := [2, 3, 4, 6], os := [1, 2] } [] gamOK hT h (by kernel_rfl) trivial ?_
        intro a w h
        refine then_normal ?_
        refine wp_ret ?_
        refine then_ret ?_
        exact at_return (S := S_laws_FnExactFilterPackets) (x := (x0, x1, x2, ())) (true, ()) [] h (by kernel_rfl) trivial (congrArg (fun z => (z, ())) (show (true) = D_laws_FnExactFilterPackets x0 x1 x2 from by unfold D_laws_FnExactFilterPackets; rfl))
      · replace h3 : ¬ (((szD s39) x2 ((szD s38) x1 ((szD s36) x0 1048576))) < 0) := of_decide_eq_false h3
        have hvh3 := szD_val h3 (by omega)
        refine wp_skip ?_
        refine then_normal ?_
        refine wp_seq ?_
        refine at_anyq (T := S_laws_FnExactFilterPackets_tab) [{}, { ids := [3] }, {}, { ids := [4] }, {}, { ids := [5] }, { ids := [6] }, {}] { ts := [2, 3, 4, 6, 8], os := [1, 2, 6] } [(pTo s36) x0, (pTo s38) x1, (pTo s39) x2, (fun (x0 : (List Int)) (x1 : T47) (x2 : (List T126)) => Sh.fit s45 x0 ∧ Sh.fit s47 x1 ∧ Sh.fit s43 x2) x0 x1 x2] gamOK hT mixed h (by kernel_rfl) ⟨(by (show Sh.sz _ _ ≤ 1048576; omega)), (by (show Sh.sz _ _ ≤ 1048576; omega)), (by (show Sh.sz _ _ ≤ 1048576; omega)), (by exact ⟨(Sh.fit_of_sz s45 rfl (x := x0) (by omega)), (Sh.fit_of_sz s47 rfl (x := x1) (by omega)), (Sh.fit_of_sz s43 rfl (x := x2) (by omega))⟩), trivial⟩ ?_
        intro a w h
        refine then_normal ?_
        refine wp_seq ?_
        refine at_regq (T := S_laws_FnExactFilterPackets_tab) [{}, { ids := [7] }, { ids := [8] }] { ts := [2, 3, 4, 6, 8, 9], os := [1, 2, 6, 7, 8] } [(pTo s36) x0] gamOK hT h (by kernel_rfl) ⟨(by (show Sh.sz _ _ ≤ 1048576; omega)), trivial⟩ ?_
        intro a w h
        refine then_normal ?_
        refine wp_seq ?_
        refine at_regq (T := S_laws_FnExactFilterPackets_tab) [{}, { ids := [9] }, { ids := [10] }] { ts := [2, 3, 4, 6, 8, 9, 10], os := [1, 2, 6, 7, 8, 9, 10] } [(pTo s38) x1] gamOK hT h (by kernel_rfl) ⟨(by (show Sh.sz _ _ ≤ 1048576; omega)), trivial⟩ ?_
        intro a w h
        refine then_normal ?_
        refine wp_seq ?_
        refine at_reg (T := S_laws_FnExactFilterPackets_tab) [{}, { ids := [11] }] { ts := [2, 3, 4, 6, 8, 9, 10, 11], os := [1, 2, 6, 7, 8, 9, 10, 11] } ⟨[(2, aF s118 x2), (3, aP 1 0), (4, aP 2 0), (6, aB false), (8, aS 6), (9, aP 8 0), (10, aP 10 0), (11, aS 11)], [(1, oX 36 [.ro (.int 3) x0]), (2, oX 38 [cI x1.1, cI x1.2.1, cI x1.2.2.1, cI x1.2.2.2.1, .ro (.int 3) x1.2.2.2.2.1, cI x1.2.2.2.2.2]), (6, oR s126 (filterP x0 x1 x2)), (7, oR (.int 3) x0), (8, oX 45 [.sl 7]), (9, oR (.int 3) x1.2.2.2.2.1), (10, oX 47 [cI x1.1, cI x1.2.1, cI x1.2.2.1, cI x1.2.2.2.1, .sl 9, cI x1.2.2.2.2.2]), (11, oR s126 x2)]⟩ [(pTo s39) x2] gamOK hT h (by kernel_rfl) ⟨(by (show Sh.sz _ _ ≤ 1048576; omega)), trivial⟩ ?_
        intro a w h
        refine then_normal ?_
        refine wp_seq ?_
        refine at_regq (T := S_laws_FnExactFilterPackets_tab) [{}, {}, {}, { ids := [12] }] { ts := [2, 3, 4, 6, 8, 9, 10, 11, 12], os := [1, 2, 6, 7, 8, 9, 10, 11, 12] } [(fun (x0 : (List Int)) (x1 : T47) (x2 : (List T126)) => Sh.fit s45 x0 ∧ Sh.fit s47 x1 ∧ Sh.fit s43 x2) x0 x1 x2] gamOK hT h (by kernel_rfl) ⟨(by exact ⟨(Sh.fit_of_sz s45 rfl (x := x0) (by omega)), (Sh.fit_of_sz s47 rfl (x := x1) (by omega)), (Sh.fit_of_sz s43 rfl (x := x2) (by omega))⟩), trivial⟩ ?_
        intro a w h
        refine then_normal ?_
        refine wp_seq ?_
        refine wp_seq ?_
        refine at_regq (T := S_laws_FnExactFilterPackets_tab) [] { ts := [2, 3, 4, 6, 8, 9, 10, 11, 12, 52], os := [1, 2, 6, 7, 8, 9, 10, 11, 12] } [True] gamOK hT h (by kernel_rfl) ⟨trivial, trivial⟩ ?_
        intro a w h
        refine then_normal ?_
        refine at_test (!((Sh.eqB s43) (filterP x0 x1 x2) (filterP x0 x1 x2))) h (by kernel_rfl) (fun h4 => ?_) (fun h4 => ?_)
        · replace h4 : ((Sh.eqB s43) (filterP x0 x1 x2) (filterP x0 x1 x2)) = false := notT h4
          refine wp_seq ?_
          refine at_regq (T := S_laws_FnExactFilterPackets_tab) [] { ts := [2, 3, 4, 6, 8, 9, 10, 11, 12], os := [1, 2, 6, 7, 8, 9, 10, 11, 12] } [] gamOK hT h (by kernel_rfl) trivial ?_
          intro a w h
          refine then_normal ?_
          refine wp_ret ?_
          refine then_ret ?_
          exact at_return (S := S_laws_FnExactFilterPackets) (x := (x0, x1, x2, ())) (false, ()) [] h (by kernel_rfl) trivial (congrArg (fun z => (z, ())) (show (false) = D_laws_FnExactFilterPackets x0 x1 x2 from by unfold D_laws_FnExactFilterPackets; exact absurd ((Sh.eqB_iff _).2 (show _ = _ from by first | rfl | (rfl))) (neT h4)))
        · replace h4 : ((Sh.eqB s43) (filterP x0 x1 x2) (filterP x0 x1 x2)) = true := notF h4
          refine wp_skip ?_
          refine then_normal ?_
          refine wp_seq ?_
          refine wp_seq ?_
          refine at_anyq (T := S_laws_FnExactFilterPackets_tab) [{}, {}, { ids := [13] }, {}, {}] { ts := [2, 3, 4, 6, 8, 9, 10, 11, 12, 57], os := [1, 2, 6, 7, 8, 9, 10, 11, 12] } [(pTo s36) x0, True] gamOK hT mixed h (by kernel_rfl) ⟨(by (show Sh.sz _ _ ≤ 1048576; omega)), trivial, trivial⟩ ?_
          intro a w h
          refine then_normal ?_
          refine at_test (!((Sh.eqB s45) x0 x0)) h (by kernel_rfl) (fun h5 => ?_) (fun h5 => ?_)
          · replace h5 : ((Sh.eqB s45) x0 x0) = false := notT h5
            refine wp_seq ?_
            refine at_reg (T := S_laws_FnExactFilterPackets_tab) [] { ts := [2, 3, 4, 6, 8, 9, 10, 11, 12], os := [1, 2, 6, 7, 8, 9, 10, 11, 12] } ⟨[(2, aF s118 x2), (3, aP 1 0), (4, aP 2 0), (6, aB false), (8, aS 6), (9, aP 8 0), (10, aP 10 0), (11, aS 11), (12, aS 12)], [(1, oX 36 [.ro (.int 3) x0]), (2, oX 38 [cI x1.1, cI x1.2.1, cI x1.2.2.1, cI x1.2.2.2.1, .ro (.int 3) x1.2.2.2.2.1, cI x1.2.2.2.2.2]), (6, oR s126 (filterP x0 x1 x2)), (7, oR (.int 3) x0), (8, oX 45 [.sl 7]), (9, oR (.int 3) x1.2.2.2.2.1), (10, oX 47 [cI x1.1, cI x1.2.1, cI x1.2.2.1, cI x1.2.2.2.1, .sl 9, cI x1.2.2.2.2.2]), (11, oR s126 x2), (12, oR s126 (filterP x0 x1 x2))]⟩ [] gamOK hT h (by kernel_rfl) trivial ?_
            intro a w h
            refine then_normal ?_
            refine wp_ret ?_
            refine then_ret ?_
            exact at_return (S := S_laws_FnExactFilterPackets) (x := (x0, x1, x2, ())) (false, ()) [] h (by kernel_rfl) trivial (congrArg (fun z => (z, ())) (show (false) = D_laws_FnExactFilterPackets x0 x1 x2 from by unfold D_laws_FnExactFilterPackets; exact absurd ((Sh.eqB_iff _).2 (show _ = _ from by first | rfl | (rfl))) (neT h5)))
          · replace h5 : ((Sh.eqB s45) x0 x0) = true := notF h5
            refine wp_skip ?_
            refine then_normal ?_
            refine wp_seq ?_
            refine wp_seq ?_
            refine at_any (T := S_laws_FnExactFilterPackets_tab) [{}, {}, { ids := [14] }, {}, {}] { ts := [2, 3, 4, 6, 8, 9, 10, 11, 12, 62], os := [1, 2, 6, 7, 8, 9, 10, 11, 12] } ⟨[(2, aF s118 x2), (3, aP 1 0), (4, aP 2 0), (6, aB false), (8, aS 6), (9, aP 8 0), (10, aP 10 0), (11, aS 11), (12, aS 12), (62, aB (!((Sh.eqB s47) x1 x1)))], [(1, oX 36 [.ro (.int 3) x0]), (2, oX 38 [cI x1.1, cI x1.2.1, cI x1.2.2.1, cI x1.2.2.2.1, .ro (.int 3) x1.2.2.2.2.1, cI x1.2.2.2.2.2]), (6, oR s126 (filterP x0 x1 x2)), (7, oR (.int 3) x0), (8, oX 45 [.sl 7]), (9, oR (.int 3) x1.2.2.2.2.1), (10, oX 47 [cI x1.1, cI x1.2.1, cI x1.2.2.1, cI x1.2.2.2.1, .sl 9, cI x1.2.2.2.2.2]), (11, oR s126 x2), (12, oR s126 (filterP x0 x1 x2))]⟩ [(pTo s38) x1, True] gamOK hT mixed h (by kernel_rfl) ⟨(by (show Sh.sz _ _ ≤ 1048576; omega)), trivial, trivial⟩ ?_
            intro a w h
            refine then_normal ?_
            refine at_test (!((Sh.eqB s47) x1 x1)) h (by kernel_rfl) (fun h6 => ?_) (fun h6 => ?_)
            · replace h6 : ((Sh.eqB s47) x1 x1) = false := notT h6
              refine wp_seq ?_
              refine at_regq (T := S_laws_FnExactFilterPackets_tab) [] { ts := [2, 3, 4, 6, 8, 9, 10, 11, 12], os := [1, 2, 6, 7, 8, 9, 10, 11, 12] } [] gamOK hT h (by kernel_rfl) trivial ?_
              intro a w h
              refine then_normal ?_
              refine wp_ret ?_
              refine then_ret ?_
              exact at_return (S := S_laws_FnExactFilterPackets) (x := (x0, x1, x2, ())) (false, ()) [] h (by kernel_rfl) trivial (congrArg (fun z => (z, ())) (show (false) = D_laws_FnExactFilterPackets x0 x1 x2 from by unfold D_laws_FnExactFilterPackets; exact absurd ((Sh.eqB_iff _).2 (show _ = _ from by first | rfl | (rfl))) (neT h6)))
            · replace h6 : ((Sh.eqB s47) x1 x1) = true := notF h6
              refine wp_skip ?_
              refine then_normal ?_
              refine wp_seq ?_
              refine wp_seq ?_
              refine at_regq (T := S_laws_FnExactFilterPackets_tab) [{}, {}, { ids := [15] }] { ts := [2, 3, 4, 6, 8, 9, 10, 11, 12, 67], os := [1, 2, 6, 7, 8, 9, 10, 11, 12] } [(pTo s39) x2, True] gamOK hT h (by kernel_rfl) ⟨(by (show Sh.sz _ _ ≤ 1048576; omega)), trivial, trivial⟩ ?_
              intro a w h
              refine then_normal ?_
              refine at_test (!((Sh.eqB s43) x2 x2)) h (by kernel_rfl) (fun h7 => ?_) (fun h7 => ?_)
              · replace h7 : ((Sh.eqB s43) x2 x2) = false := notT h7
                refine wp_seq ?_
                refine at_regq (T := S_laws_FnExactFilterPackets_tab) [] { ts := [2, 3, 4, 6, 8, 9, 10, 11, 12], os := [1, 2, 6, 7, 8, 9, 10, 11, 12] } [] gamOK hT h (by kernel_rfl) trivial ?_
                intro a w h
                refine then_normal ?_
                refine wp_ret ?_
                refine then_ret ?_
                exact at_return (S := S_laws_FnExactFilterPackets) (x := (x0, x1, x2, ())) (false, ()) [] h (by kernel_rfl) trivial (congrArg (fun z => (z, ())) (show (false) = D_laws_FnExactFilterPackets x0 x1 x2 from by unfold D_laws_FnExactFilterPackets; exact absurd ((Sh.eqB_iff _).2 (show _ = _ from by first | rfl | (rfl))) (neT h7)))
              · replace h7 : ((Sh.eqB s43) x2 x2) = true := notF h7
                refine wp_skip ?_
                refine then_normal ?_
                refine wp_seq ?_
                refine at_regq (T := S_laws_FnExactFilterPackets_tab) [] { ts := [2, 3, 4, 6, 8, 9, 10, 11, 12, 13], os := [1, 2, 6, 7, 8, 9, 10, 11, 12] } [] gamOK hT h (by kernel_rfl) trivial ?_
                intro a w h
                refine then_normal ?_
                refine wp_seq ?_
                refine at_regq (T := S_laws_FnExactFilterPackets_tab) [] { ts := [2, 3, 4, 6, 8, 10, 11, 12, 13], os := [1, 2, 6, 9, 10, 11, 12] } [(pMkT s45) x0 1] gamOK hT h (by kernel_rfl) ⟨(by (show (0 : Int) ≤ _ ∧ _ + ((Sh.ctT _ _ : Nat) : Int) ≤ (4611686018427387904 : Int); (try simp only [mkK, mkKT, Sh.ctT_mkT, Sh.ct_mk]); constructor <;> omega)), trivial⟩ ?_
                intro a w h
                refine then_normal ?_
                refine wp_seq ?_
                refine at_reg (T := S_laws_FnExactFilterPackets_tab) [] { ts := [2, 3, 4, 6, 8, 11, 12, 13], os := [1, 2, 6, 11, 12] } ⟨[(2, aF s118 x2), (3, aP 1 0), (4, aP 2 0), (6, aB false), (8, aS 6), (11, aS 11), (12, aS 12), (13, aI ((mkKT s47) x1 ((mkKT s45) x0 1)))], [(1, oX 36 [.ro (.int 3) x0]), (2, oX 38 [cI x1.1, cI x1.2.1, cI x1.2.2.1, cI x1.2.2.2.1, .ro (.int 3) x1.2.2.2.2.1, cI x1.2.2.2.2.2]), (6, oR s126 (filterP x0 x1 x2)), (11, oR s126 x2), (12, oR s126 (filterP x0 x1 x2))]⟩ [(pMkT s47) x1 ((mkKT s45) x0 1)] gamOK hT h (by kernel_rfl) ⟨(by (show (0 : Int) ≤ _ ∧ _ + ((Sh.ctT _ _ : Nat) : Int) ≤ (4611686018427387904 : Int); (try simp only [mkK, mkKT, Sh.ctT_mkT, Sh.ct_mk]); constructor <;> omega)), trivial⟩ ?_
                intro a w h
                refine then_normal ?_
                refine wp_seq ?_
                refine at_regq (T := S_laws_FnExactFilterPackets_tab) [] { ts := [2, 3, 4, 6, 8, 12, 13], os := [1, 2, 6, 12] } [(pMk s43) x2 ((mkKT s47) x1 ((mkKT s45) x0 1))] gamOK hT h (by kernel_rfl) ⟨(by (show (0 : Int) ≤ _ ∧ _ + ((Sh.ct _ _ : Nat) : Int) ≤ (4611686018427387904 : Int); (try simp only [mkK, mkKT, Sh.ctT_mkT, Sh.ct_mk]); constructor <;> omega)), trivial⟩ ?_
                intro a w h
                refine then_normal ?_
                refine wp_seq ?_
                refine wp_seq ?_
                by_cases h8 : ((mkK s43) x2 ((mkKT s47) x1 ((mkKT s45) x0 1))) < 0
                · skip
                  refine at_regq (T := S_laws_FnExactFilterPackets_tab) [{}, { hint := some (aB true) }] { ts := [2, 3, 4, 6, 8, 12, 84], os := [1, 2, 6, 12] } [(AV.p (.c (.v (.bool (decide (((mkK s43) x2 ((mkKT s47) x1 ((mkKT s45) x0 1))) < 0))))) = AV.p (.c (.v (.bool true))))] gamOK hT h (by kernel_rfl) ⟨hint_bool (decide_eq_true h8), trivial⟩ ?_
                  intro a w h
                  refine then_normal ?_
                  refine at_test true h (by kernel_rfl) (fun hh => ?_) (fun hh => nomatch hh)
                  refine wp_seq ?_
                  refine at_regq (T := S_laws_FnExactFilterPackets_tab) [] { ts := [2, 3, 4, 6, 8, 12], os := [1, 2, 6, 12] } [] gamOK hT h (by kernel_rfl) trivial ?_
                  intro a w h
                  refine then_normal ?_
                  refine wp_ret ?_
                  refine then_ret ?_
                  exact at_return (S := S_laws_FnExactFilterPackets) (x := (x0, x1, x2, ())) (false, ()) [] h (by kernel_rfl) trivial (congrArg (fun z => (z, ())) (show (false) = D_laws_FnExactFilterPackets x0 x1 x2 from by unfold D_laws_FnExactFilterPackets; (exfalso; simp only [mkK, mkKT, Sh.ctT_mkT, Sh.ct_mk] at h8; first | omega | exact h8 trivial | exact h8 rfl)))
                · skip
                  refine at_regq (T := S_laws_FnExactFilterPackets_tab) [{}, { hint := some (aB false) }] { ts := [2, 3, 4, 6, 8, 12, 84], os := [1, 2, 6, 12] } [(AV.p (.c (.v (.bool (decide (((mkK s43) x2 ((mkKT s47) x1 ((mkKT s45) x0 1))) < 0))))) = AV.p (.c (.v (.bool false)))), True] gamOK hT h (by kernel_rfl) ⟨hint_bool (decide_eq_false h8), trivial, trivial⟩ ?_
                  intro a w h
                  refine then_normal ?_
                  refine at_test (!((Sh.eqB s43) (filterP x0 x1 x2) (filterP x0 x1 x2))) h (by kernel_rfl) (fun h9 => ?_) (fun h9 => ?_)
                  · replace h9 : ((Sh.eqB s43) (filterP x0 x1 x2) (filterP x0 x1 x2)) = false := notT h9
                    refine wp_seq ?_
                    refine at_regq (T := S_laws_FnExactFilterPackets_tab) [] { ts := [2, 3, 4, 6, 8, 12], os := [1, 2, 6, 12] } [] gamOK hT h (by kernel_rfl) trivial ?_
                    intro a w h
                    refine then_normal ?_
                    refine wp_ret ?_
                    refine then_ret ?_
                    exact at_return (S := S_laws_FnExactFilterPackets) (x := (x0, x1, x2, ())) (false, ()) [] h (by kernel_rfl) trivial (congrArg (fun z => (z, ())) (show (false) = D_laws_FnExactFilterPackets x0 x1 x2 from by unfold D_laws_FnExactFilterPackets; exact absurd ((Sh.eqB_iff _).2 (show _ = _ from by first | rfl | (rfl))) (neT h9)))
                  · replace h9 : ((Sh.eqB s43) (filterP x0 x1 x2) (filterP x0 x1 x2)) = true := notF h9
                    refine wp_skip ?_
                    refine then_normal ?_
                    refine wp_seq ?_
                    refine at_regq (T := S_laws_FnExactFilterPackets_tab) [] { ts := [2, 3, 4, 6, 8, 12, 14], os := [1, 2, 6, 12] } [] gamOK hT h (by kernel_rfl) trivial ?_
                    intro a w h
                    refine then_normal ?_
                    refine wp_seq ?_
                    refine at_reg (T := S_laws_FnExactFilterPackets_tab) [] { ts := [2, 3, 4, 6, 8, 12, 14], os := [1, 2, 6, 12] } ⟨[(2, aF s118 x2), (3, aP 1 0), (4, aP 2 0), (6, aB false), (8, aS 6), (12, aS 12), (14, aI ((mkK s43) (filterP x0 x1 x2) 1))], [(1, oX 36 [.ro (.int 3) x0]), (2, oX 38 [cI x1.1, cI x1.2.1, cI x1.2.2.1, cI x1.2.2.2.1, .ro (.int 3) x1.2.2.2.2.1, cI x1.2.2.2.2.2]), (6, oR s126 (filterP x0 x1 x2)), (12, oR s126 ((Sh.mk s43) (filterP x0 x1 x2) 1))]⟩ [(pMk s43) (filterP x0 x1 x2) 1] gamOK hT h (by kernel_rfl) ⟨(by (show (0 : Int) ≤ _ ∧ _ + ((Sh.ct _ _ : Nat) : Int) ≤ (4611686018427387904 : Int); (try simp only [mkK, mkKT, Sh.ctT_mkT, Sh.ct_mk]); constructor <;> omega)), trivial⟩ ?_
                    intro a w h
                    refine then_normal ?_
                    refine wp_seq ?_
                    refine at_regq (T := S_laws_FnExactFilterPackets_tab) [] { ts := [2, 3, 4, 6, 8, 12, 14, 15], os := [1, 2, 6, 12] } [] gamOK hT h (by kernel_rfl) trivial ?_
                    intro a w h
                    refine then_normal ?_
                    refine wp_seq ?_
                    refine at_regq (T := S_laws_FnExactFilterPackets_tab) [] { ts := [2, 3, 4, 6, 8, 12, 14, 15], os := [1, 2, 6, 12] } [(pMk s43) ((Sh.mk s43) (filterP x0 x1 x2) 1) 1] gamOK hT h (by kernel_rfl) ⟨(by (show (0 : Int) ≤ _ ∧ _ + ((Sh.ct _ _ : Nat) : Int) ≤ (4611686018427387904 : Int); (try simp only [mkK, mkKT, Sh.ctT_mkT, Sh.ct_mk]); constructor <;> omega)), trivial⟩ ?_
                    intro a w h
                    refine then_normal ?_
                    refine wp_seq ?_
                    refine wp_seq ?_
                    refine at_regq (T := S_laws_FnExactFilterPackets_tab) [] { ts := [2, 3, 4, 6, 8, 12, 14, 15, 92], os := [1, 2, 6, 12] } [] gamOK hT h (by kernel_rfl) trivial ?_
                    intro a w h
                    refine then_normal ?_
                    refine at_test (decide (((heldD s43) ((Sh.mk s43) (filterP x0 x1 x2) 1) 1) < 0)) h (by kernel_rfl) (fun h10 => ?_) (fun h10 => ?_)
                    · replace h10 : ((heldD s43) ((Sh.mk s43) (filterP x0 x1 x2) 1) 1) < 0 := of_decide_eq_true h10
                      refine wp_seq ?_
                      refine at_reg (T := S_laws_FnExactFilterPackets_tab) [] { ts := [2, 3, 4, 6, 8, 12, 14, 15], os := [1, 2, 6, 12] } ⟨[(2, aF s118 x2), (3, aP 1 0), (4, aP 2 0), (6, aB false), (8, aS 6), (12, aS 12), (14, aI ((mkK s43) (filterP x0 x1 x2) 1)), (15, aI ((heldD s43) ((Sh.mk s43) (filterP x0 x1 x2) 1) 1))], [(1, oX 36 [.ro (.int 3) x0]), (2, oX 38 [cI x1.1, cI x1.2.1, cI x1.2.2.1, cI x1.2.2.2.1, .ro (.int 3) x1.2.2.2.2.1, cI x1.2.2.2.2.2]), (6, oR s126 (filterP x0 x1 x2)), (12, oR s126 ((Sh.mk s43) (filterP x0 x1 x2) 1))]⟩ [] gamOK hT h (by kernel_rfl) trivial ?_
                      intro a w h
                      refine then_normal ?_
                      refine wp_ret ?_
                      refine then_ret ?_
                      exact at_return (S := S_laws_FnExactFilterPackets) (x := (x0, x1, x2, ())) (false, ()) [] h (by kernel_rfl) trivial (congrArg (fun z => (z, ())) (show (false) = D_laws_FnExactFilterPackets x0 x1 x2 from by unfold D_laws_FnExactFilterPackets; (exfalso; simp only [held_marked, held_markedT, mkK, mkKT, Sh.ctT_mkT, Sh.ct_mk] at h10; first | omega | exact h10 trivial | exact h10 rfl)))
                    · replace h10 : ¬ (((heldD s43) ((Sh.mk s43) (filterP x0 x1 x2) 1) 1) < 0) := of_decide_eq_false h10
                      refine wp_skip ?_
                      refine then_normal ?_
                      refine wp_seq ?_
                      refine wp_seq ?_
                      refine at_reg (T := S_laws_FnExactFilterPackets_tab) [] { ts := [2, 3, 4, 6, 8, 12, 14, 95], os := [1, 2, 6, 12] } ⟨[(2, aF s118 x2), (3, aP 1 0), (4, aP 2 0), (6, aB false), (8, aS 6), (12, aS 12), (14, aI ((mkK s43) (filterP x0 x1 x2) 1)), (95, aB (!decide (((heldD s43) ((Sh.mk s43) (filterP x0 x1 x2) 1) 1) = ((mkK s43) (filterP x0 x1 x2) 1))))], [(1, oX 36 [.ro (.int 3) x0]), (2, oX 38 [cI x1.1, cI x1.2.1, cI x1.2.2.1, cI x1.2.2.2.1, .ro (.int 3) x1.2.2.2.2.1, cI x1.2.2.2.2.2]), (6, oR s126 (filterP x0 x1 x2)), (12, oR s126 ((Sh.mk s43) (filterP x0 x1 x2) 1))]⟩ [] gamOK hT h (by kernel_rfl) trivial ?_
                      intro a w h
                      refine then_normal ?_
                      refine at_test (!decide (((heldD s43) ((Sh.mk s43) (filterP x0 x1 x2) 1) 1) = ((mkK s43) (filterP x0 x1 x2) 1))) h (by kernel_rfl) (fun h11 => ?_) (fun h11 => ?_)
                      · replace h11 : ¬ (((heldD s43) ((Sh.mk s43) (filterP x0 x1 x2) 1) 1) = ((mkK s43) (filterP x0 x1 x2) 1)) := of_decide_eq_false (notT h11)
                        refine wp_seq ?_
                        refine at_regq (T := S_laws_FnExactFilterPackets_tab) [] { ts := [2, 3, 4, 6, 8, 12, 14], os := [1, 2, 6, 12] } [] gamOK hT h (by kernel_rfl) trivial ?_
                        intro a w h
                        refine then_normal ?_
                        refine wp_ret ?_
                        refine then_ret ?_
                        exact at_return (S := S_laws_FnExactFilterPackets) (x := (x0, x1, x2, ())) (false, ()) [] h (by kernel_rfl) trivial (congrArg (fun z => (z, ())) (show (false) = D_laws_FnExactFilterPackets x0 x1 x2 from by unfold D_laws_FnExactFilterPackets; (exfalso; simp only [held_marked, held_markedT, mkK, mkKT, Sh.ctT_mkT, Sh.ct_mk] at h11; first | omega | exact h11 trivial | exact h11 rfl)))
                      · replace h11 : ((heldD s43) ((Sh.mk s43) (filterP x0 x1 x2) 1) 1) = ((mkK s43) (filterP x0 x1 x2) 1) := of_decide_eq_true (notF h11)
                        refine wp_skip ?_
                        refine then_normal ?_
                        refine wp_seq ?_
                        refine at_anyq (T := S_laws_FnExactFilterPackets_tab) [{}, { ids := [16] }, {}, { ids := [17] }, {}, { ids := [18] }, { ids := [19] }, {}] { ts := [6, 8, 12, 14, 16], os := [6, 12, 19] } [(pTo s36) x0, (pTo s38) x1, (pTo s39) x2, (fun (x0 : (List Int)) (x1 : T47) (x2 : (List T126)) => Sh.fit s45 x0 ∧ Sh.fit s47 x1 ∧ Sh.fit s43 x2) x0 x1 x2] gamOK hT mixed h (by kernel_rfl) ⟨(by (show Sh.sz _ _ ≤ 1048576; omega)), (by (show Sh.sz _ _ ≤ 1048576; omega)), (by (show Sh.sz _ _ ≤ 1048576; omega)), (by exact ⟨(Sh.fit_of_sz s45 rfl (x := x0) (by omega)), (Sh.fit_of_sz s47 rfl (x := x1) (by omega)), (Sh.fit_of_sz s43 rfl (x := x2) (by omega))⟩), trivial⟩ ?_
                        intro a w h
                        refine then_normal ?_
                        refine wp_seq ?_
                        refine wp_seq ?_
                        refine at_regq (T := S_laws_FnExactFilterPackets_tab) [] { ts := [6, 12, 14, 106], os := [12] } [True] gamOK hT h (by kernel_rfl) ⟨trivial, trivial⟩ ?_
                        intro a w h
                        refine then_normal ?_
                        refine at_test (!((Sh.eqB s43) (filterP x0 x1 x2) (filterP x0 x1 x2))) h (by kernel_rfl) (fun h12 => ?_) (fun h12 => ?_)
                        · replace h12 : ((Sh.eqB s43) (filterP x0 x1 x2) (filterP x0 x1 x2)) = false := notT h12
                          refine wp_seq ?_
                          refine at_regq (T := S_laws_FnExactFilterPackets_tab) [] { ts := [6, 12, 14], os := [12] } [] gamOK hT h (by kernel_rfl) trivial ?_
                          intro a w h
                          refine then_normal ?_
                          refine wp_ret ?_
                          refine then_ret ?_
                          exact at_return (S := S_laws_FnExactFilterPackets) (x := (x0, x1, x2, ())) (false, ()) [] h (by kernel_rfl) trivial (congrArg (fun z => (z, ())) (show (false) = D_laws_FnExactFilterPackets x0 x1 x2 from by unfold D_laws_FnExactFilterPackets; exact absurd ((Sh.eqB_iff _).2 (show _ = _ from by first | rfl | (rfl))) (neT h12)))
                        · replace h12 : ((Sh.eqB s43) (filterP x0 x1 x2) (filterP x0 x1 x2)) = true := notF h12
                          refine wp_skip ?_
                          refine then_normal ?_
                          refine wp_seq ?_
                          refine at_regq (T := S_laws_FnExactFilterPackets_tab) [] { ts := [6, 12, 14, 15], os := [12] } [] gamOK hT h (by kernel_rfl) trivial ?_
                          intro a w h
                          refine then_normal ?_
                          refine wp_seq ?_
                          refine at_reg (T := S_laws_FnExactFilterPackets_tab) [] { ts := [6, 14, 15], os := [] } ⟨[(6, aB false), (14, aI ((mkK s43) (filterP x0 x1 x2) 1)), (15, aI ((heldD s43) ((Sh.mk s43) (filterP x0 x1 x2) 1) 1))], []⟩ [(pMk s43) ((Sh.mk s43) (filterP x0 x1 x2) 1) 1] gamOK hT h (by kernel_rfl) ⟨(by (show (0 : Int) ≤ _ ∧ _ + ((Sh.ct _ _ : Nat) : Int) ≤ (4611686018427387904 : Int); (try simp only [mkK, mkKT, Sh.ctT_mkT, Sh.ct_mk]); constructor <;> omega)), trivial⟩ ?_
                          intro a w h
                          refine then_normal ?_
                          refine wp_seq ?_
                          refine wp_seq ?_
                          refine at_regq (T := S_laws_FnExactFilterPackets_tab) [] { ts := [6, 14, 15, 111], os := [] } [] gamOK hT h (by kernel_rfl) trivial ?_
                          intro a w h
                          refine then_normal ?_
                          refine at_test (decide (((heldD s43) ((Sh.mk s43) (filterP x0 x1 x2) 1) 1) < 0)) h (by kernel_rfl) (fun h13 => ?_) (fun h13 => ?_)
                          · replace h13 : ((heldD s43) ((Sh.mk s43) (filterP x0 x1 x2) 1) 1) < 0 := of_decide_eq_true h13
                            refine wp_seq ?_
                            refine at_regq (T := S_laws_FnExactFilterPackets_tab) [] { ts := [6, 14, 15], os := [] } [] gamOK hT h (by kernel_rfl) trivial ?_
                            intro a w h
                            refine then_normal ?_
                            refine wp_ret ?_
                            refine then_ret ?_
                            exact at_return (S := S_laws_FnExactFilterPackets) (x := (x0, x1, x2, ())) (false, ()) [] h (by kernel_rfl) trivial (congrArg (fun z => (z, ())) (show (false) = D_laws_FnExactFilterPackets x0 x1 x2 from by unfold D_laws_FnExactFilterPackets; (exfalso; simp only [held_marked, held_markedT, mkK, mkKT, Sh.ctT_mkT, Sh.ct_mk] at h13; first | omega | exact h13 trivial | exact h13 rfl)))
                          · replace h13 : ¬ (((heldD s43) ((Sh.mk s43) (filterP x0 x1 x2) 1) 1) < 0) := of_decide_eq_false h13
                            refine wp_skip ?_
                            refine then_normal ?_
                            refine wp_seq ?_
                            refine wp_seq ?_
                            refine at_regq (T := S_laws_FnExactFilterPackets_tab) [] { ts := [6, 114], os := [] } [] gamOK hT h (by kernel_rfl) trivial ?_
                            intro a w h
                            refine then_normal ?_
                            refine at_test (!decide (((heldD s43) ((Sh.mk s43) (filterP x0 x1 x2) 1) 1) = ((mkK s43) (filterP x0 x1 x2) 1))) h (by kernel_rfl) (fun h14 => ?_) (fun h14 => ?_)
                            · replace h14 : ¬ (((heldD s43) ((Sh.mk s43) (filterP x0 x1 x2) 1) 1) = ((mkK s43) (filterP x0 x1 x2) 1)) := of_decide_eq_false (notT h14)
                              refine wp_seq ?_
                              refine at_regq (T := S_laws_FnExactFilterPackets_tab) [] { ts := [6], os := [] } [] gamOK hT h (by kernel_rfl) trivial ?_
                              intro a w h
                              refine then_normal ?_
                              refine wp_ret ?_
                              refine then_ret ?_
                              exact at_return (S := S_laws_FnExactFilterPackets) (x := (x0, x1, x2, ())) (false, ()) [] h (by kernel_rfl) trivial (congrArg (fun z => (z, ())) (show (false) = D_laws_FnExactFilterPackets x0 x1 x2 from by unfold D_laws_FnExactFilterPackets; (exfalso; simp only [held_marked, held_markedT, mkK, mkKT, Sh.ctT_mkT, Sh.ct_mk] at h14; first | omega | exact h14 trivial | exact h14 rfl)))
                            · replace h14 : ((heldD s43) ((Sh.mk s43) (filterP x0 x1 x2) 1) 1) = ((mkK s43) (filterP x0 x1 x2) 1) := of_decide_eq_true (notF h14)
                              refine wp_skip ?_
                              refine then_normal ?_
                              refine wp_seq ?_
                              refine at_regq (T := S_laws_FnExactFilterPackets_tab) [] { ts := [6], os := [] } [] gamOK hT h (by kernel_rfl) trivial ?_
                              intro a w h
                              refine then_normal ?_
                              refine wp_ret ?_
                              exact at_return (S := S_laws_FnExactFilterPackets) (x := (x0, x1, x2, ())) (true, ()) [] h (by kernel_rfl) trivial (congrArg (fun z => (z, ())) (show (true) = D_laws_FnExactFilterPackets x0 x1 x2 from by unfold D_laws_FnExactFilterPackets; rfl))

theorem opn3 : OpensS Try.prog 3 (.int 3) := opensS_int Try.underlying3
theorem co3 : Try.prog.cellsOf 3 = 1 := by kernel_rfl
theorem opn22 : OpensS Try.prog 22 s22 := opensS_slice (a := (.int 3)) Try.underlying22 co3 opn3
theorem co22 : Try.prog.cellsOf 22 = 1 := by kernel_rfl
theorem co36 : Try.prog.cellsOf 36 = 1 := by kernel_rfl
theorem opn36 : OpensS Try.prog 36 s36 := by
  intro H enc w base spare held fuel cs x h
  obtain ⟨xs, n, _, _, hl, hlen, hf⟩ := DataW.trod_struct Try.underlying36 h
  obtain ⟨a0, k0, i0⟩ := opensS_field (a := s22) (i := 0) 0 1 hf hlen rfl rfl rfl co22 opn22
  rw [co36] at hl
  exact ⟨a0, (rdS_last (off := 0) k0 (by omega)), i0⟩
theorem co38 : Try.prog.cellsOf 38 = 6 := by kernel_rfl
theorem opn38 : OpensS Try.prog 38 s38 := by
  intro H enc w base spare held fuel cs x h
  obtain ⟨xs, n, _, _, hl, hlen, hf⟩ := DataW.trod_struct Try.underlying38 h
  obtain ⟨a0, k0, i0⟩ := opensS_field (a := (.int 3)) (i := 0) 0 1 hf hlen rfl rfl rfl co3 opn3
  obtain ⟨a1, k1, i1⟩ := opensS_field (a := (.int 3)) (i := 1) 1 1 hf hlen rfl rfl rfl co3 opn3
  obtain ⟨a2, k2, i2⟩ := opensS_field (a := (.int 3)) (i := 2) 2 1 hf hlen rfl rfl rfl co3 opn3
  obtain ⟨a3, k3, i3⟩ := opensS_field (a := (.int 3)) (i := 3) 3 1 hf hlen rfl rfl rfl co3 opn3
  obtain ⟨a4, k4, i4⟩ := opensS_field (a := s22) (i := 4) 4 1 hf hlen rfl rfl rfl co22 opn22
  obtain ⟨a5, k5, i5⟩ := opensS_field (a := (.int 3)) (i := 5) 5 1 hf hlen rfl rfl rfl co3 opn3
  rw [co38] at hl
  exact ⟨(a0, (a1, (a2, (a3, (a4, a5))))), (rdS_pair (off := 0) k0 (rdS_pair (off := 1) k1 (rdS_pair (off := 2) k2 (rdS_pair (off := 3) k3 (rdS_pair (off := 4) k4 (rdS_last (off := 5) k5 (by omega))))))), ⟨i0, ⟨i1, ⟨i2, ⟨i3, ⟨i4, i5⟩⟩⟩⟩⟩⟩
theorem co118 : Try.prog.cellsOf 118 = 3 := by kernel_rfl
theorem opn118 : OpensS Try.prog 118 s118 := by
  intro H enc w base spare held fuel cs x h
  obtain ⟨xs, n, _, _, hl, hlen, hf⟩ := DataW.trod_struct Try.underlying118 h
  obtain ⟨a0, k0, i0⟩ := opensS_field (a := (.int 3)) (i := 0) 0 1 hf hlen rfl rfl rfl co3 opn3
  obtain ⟨a1, k1, i1⟩ := opensS_field (a := s22) (i := 1) 1 1 hf hlen rfl rfl rfl co22 opn22
  obtain ⟨a2, k2, i2⟩ := opensS_field (a := s22) (i := 2) 2 1 hf hlen rfl rfl rfl co22 opn22
  rw [co118] at hl
  exact ⟨(a0, (a1, a2)), (rdS_pair (off := 0) k0 (rdS_pair (off := 1) k1 (rdS_last (off := 2) k2 (by omega)))), ⟨i0, ⟨i1, i2⟩⟩⟩
theorem opn39 : OpensS Try.prog 39 s39 := opensS_slice (a := s118) Try.underlying39 co118 opn118
namespace fnExactFilterPackets
open Go.ChangeShapes Go.WideShapes Go.ChangeAt Go.RowKit
theorem own : ownKnob Try.prog.godebug = none := by kernel_rfl
theorem laidOut : laidOutB Try.prog = true := fxLaid
set_option maxRecDepth 100000 in
theorem lifted (os : Os) (started : os.Started) (H : Type) (enc : TypeId × Value → H) :
    ReturnsInHanded {} Try.checked os 4 .any (Rows.fnExactFilterPacketsSpec.pre6 enc Try.prog Try.f4 Rows.fnExactFilterPacketsRow.domain false) (Rows.fnExactFilterPacketsSpec.post enc Try.prog Try.f4 false true false false) := by
  refine returnsInHanded_of_change (C := Try.checked) own started (by kernel_rfl) Try.func4
    (ChangeSpec.witness6 (enc := enc) (C := Try.checked) false ⟨#[], #[.agg #[.slice none 0 0], .agg #[.int .i64 0, .int .i64 0, .int .i64 0, .int .i64 0, .slice none 0 0, .int .i64 0], .slice none 0 0], []⟩ 8 (by kernel_rfl) (by kernel_rfl) (by kernel_rfl) (by kernel_rfl)) ?_
  intro W base args ds gs before hval0 hW hcnd _
  have hval : ∀ (j : Nat) t v, Try.f4.params[j]? = some t → args[j]? = some v → Value.okWide Try.prog W .any base t v := hval0
  have hW' := hW
  obtain ⟨p, q, hA0, hV, rfl, hfz, hnd⟩ := hW
  have hA : DataW.TrodAll enc Try.prog W 0 (fun _ => true) true Try.f4.params.toList args.toList ds p := hA0
  rw [Try.params4] at hA hval
  obtain ⟨v0, vs0, d0, ds0, p0, q0, hargs, rfl, rfl, h0, r0⟩ := trodAll_cons hA
  obtain ⟨v1, vs1, d1, ds1, p1, q1, rfl, rfl, rfl, h1, r1⟩ := trodAll_cons r0
  obtain ⟨v2, vs2, d2, ds2, p2, q2, rfl, rfl, rfl, h2, r2⟩ := trodAll_cons r1
  obtain ⟨rfl, rfl, rfl⟩ := trodAll_nil r2
  obtain rfl : args = #[v0, v1, v2] := by cases args; simp_all
  obtain ⟨rfl, rfl⟩ := trodVars_none hV
  have k0 := h0
  have lt0 : ∀ x ∈ p0, x.block < W.heap.size := by obtain ⟨m, hm⟩ := k0; exact DataW.trod_lt m _ _ _ hm
  obtain ⟨cs0, rfl, _⟩ := okWide_struct Try.underlying36 (hval 0 36 v0 rfl rfl)
  obtain ⟨cs0⟩ := cs0
  obtain ⟨x0, hx0, i0⟩ : ∃ x : (s36).D, (s36).rd W (fun b => b < W.heap.size) cs0 x ∧ (s36).i64 x := by obtain ⟨fuel, hf⟩ := h0; exact opn36 hf
  have k1 := h1
  have lt1 : ∀ x ∈ p1, x.block < W.heap.size := by obtain ⟨m, hm⟩ := k1; exact DataW.trod_lt m _ _ _ hm
  obtain ⟨cs1, rfl, _⟩ := okWide_struct Try.underlying38 (hval 1 38 v1 rfl rfl)
  obtain ⟨cs1⟩ := cs1
  obtain ⟨x1, hx1, i1⟩ : ∃ x : (s38).D, (s38).rd W (fun b => b < W.heap.size) cs1 x ∧ (s38).i64 x := by obtain ⟨fuel, hf⟩ := h1; exact opn38 hf
  have k2 := h2
  have lt2 : ∀ x ∈ p2, x.block < W.heap.size := by obtain ⟨m, hm⟩ := k2; exact DataW.trod_lt m _ _ _ hm
  obtain ⟨ad2, len2, cap2, rfl⟩ := okWide_slice Try.underlying39 (hval 2 39 v2 rfl rfl)
  obtain ⟨x2, hx2, i2⟩ : ∃ x : (s39).D, (s39).rd W (fun b => b < W.heap.size) [.slice ad2 len2 cap2] x ∧ (s39).i64 x := by obtain ⟨fuel, hf⟩ := h2; exact opn39 hf
  clear hA0 hval0
  refine (calls_law S_laws_FnExactFilterPackets_ok (by kernel_rfl) W (fun b => b < W.heap.size) [.agg cs0.toArray, .agg cs1.toArray, .slice ad2 len2 cap2] (x0, x1, x2, ()) (fun _ h => h) ⟨argRd_st hx0, argRd_st hx1, argRd_sl hx2, trivial⟩ ⟨i0, i1, i2⟩).mono fun e W' hr => ?_
  obtain ⟨he, bel⟩ := ret_bool hr
  subst he
  exact ⟨_, rfl, _, _, _, [], _, [], hW', trodAll_mk1 (shut_bool Try.underlying4 _), (trodAll_cons_mk (Below.trod laidOut (by kernel_rfl) (of_decide_eq_true (by kernel_rfl)) k0 bel lt0) (trodAll_cons_mk (Below.trod laidOut (by kernel_rfl) (of_decide_eq_true (by kernel_rfl)) k1 bel lt1) (trodAll_cons_mk (Below.trod laidOut (by kernel_rfl) (of_decide_eq_true (by kernel_rfl)) k2 bel lt2) trodAll_mk0))), rfl, bel.frame _, fun h => by cases h⟩
theorem closed : joinedFacts Try.prog 4 Try.f4 (Rows.fnExactFilterPacketsSpec) Rows.fnExactFilterPacketsRow = true := by
  unfold joinedFacts
  exact (and2 (and2 (and2 (and2 (and2 (and2 (and2 (and2 (and2 (and2 (and2 (and2 (and2 (and2 (and2 (and2 (and2 (and2 (and2 (and2 (and2 (and2 (and2 (and2 (and2 (and2 (and2 (and2 (and2 (and2 (and2 (by kernel_rfl) fxLaid) fxMaps) (by kernel_rfl)) (by kernel_rfl)) (by kernel_rfl)) (by kernel_rfl)) (by kernel_rfl)) (by kernel_rfl)) (by kernel_rfl)) (by kernel_rfl)) (by kernel_rfl)) (by kernel_rfl)) (by kernel_rfl)) (by kernel_rfl)) (by kernel_rfl)) (by kernel_rfl)) (by kernel_rfl)) (by kernel_rfl)) (by kernel_rfl)) (by kernel_rfl)) (by kernel_rfl)) (by kernel_rfl)) (by kernel_rfl)) (by kernel_rfl)) fxEnter) (by rw [fxLifts]; kernel_rfl)) (by rw [fxMake]; kernel_rfl)) (by kernel_rfl)) (by kernel_rfl)) (by kernel_rfl)) (by kernel_rfl))
theorem over : Rows.fnExactFilterPacketsRow.holds Try.pinned (OpenSpec.ofChange Rows.fnExactFilterPacketsSpec) :=
  OpenClaim.holds_of_wide 4 Try.f4 rfl rfl rfl rfl rfl rfl rfl ⟨rfl, rfl, rfl, rfl, rfl⟩ rfl rfl rfl rfl rfl (by kernel_rfl) Try.func4 closed
    (of_decide_eq_true (by kernel_rfl)) (by unfold Func.isWrapper; first | (rw [if_pos (by decide +kernel)]; kernel_rfl) | (rw [if_neg (by decide +kernel)]; exact ⟨rfl, rfl⟩))
    (fun os started H enc _ => lifted os started H enc)
/-- the statement -/
theorem proved : Rows.FnExactFilterPacketsSaid := over
end fnExactFilterPackets

end Go.Proofs.Ytkialoggpcdhkaa

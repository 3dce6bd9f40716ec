/- The law FnExactSystematicPacket returns true for every input and leaves its arguments as they were. No condition. -/
import Derived.Test.YtdmkjcnppgfeoaaGreatSystematicPacket3
import Derived.Test.YtdmkjcnppgfeoaaGreatLA
import Derived.Test.YtdmkjcnppgfeoaaGreatProg
import Derived.Test.YtdmkjcnppgfeoaaGreatRows
import Derived.Test.YtdmkjcnppgfeoaaGreatFX
namespace Go.Proofs.YtdmkjcnppgfeoaaGreat
open Go.RowKit
set_option linter.unusedVariables false
set_option linter.unusedSimpArgs false
abbrev Q_spec_SystematicPacket := (fun (x0 : T52) (x1 : T47) (x2 : Int) => Sh.fit s52 x0 ∧ Sh.fit s47 x1)
def S_spec_SystematicPacket : Sum := { fid := 15, dom := [s52, s47, (.int 3)], cod := [s47, s49, (.bool 4)], dp := true, fz := false, pre := fun x => Q_spec_SystematicPacket x.1 x.2.1 x.2.2.1, g := fun x => ((sysP x.1 x.2.1 x.2.2.1).1, ((sysP x.1 x.2.1 x.2.2.1).2.1, ((sysP x.1 x.2.1 x.2.2.1).2.2, ()))) }
def S_spec_SystematicPacket_tab : List (Nat × Sum) := [(55, S_spec_l15Copy), (56, S_spec_IsValidGeneration), (57, S_spec_IsValidRecoder), (58, S_spec_ColumnsOf), (59, S_spec_SourcePacket), (62, S_spec_l15Seed), (61, S_spec_RandomVector), (60, S_spec_CodePacket)]
theorem S_spec_SystematicPacket_ok : FnOK Tryz.prog 15 S_spec_SystematicPacket := by
 refine at_enter 89 (fun x => ⟨[(0, aG [cI x.1.1, .ro s22 x.1.2]), (1, aG [cI x.2.1.1, cI x.2.1.2.1, cI x.2.1.2.2.1, .ro s49 x.2.1.2.2.2.1, cI x.2.1.2.2.2.2]), (2, aI x.2.2.1)], []⟩) Tryz.func15 rfl (by kernel_rfl) (fun x => rfl) ?_
 rintro w0 Z0 ⟨x0, x1, x2, u⟩ a w
 revert x0 x1 x2
 intro (x0 : T52) (x1 : T47) (x2 : Int) hpre hlens h
 replace hpre : Q_spec_SystematicPacket x0 x1 x2 := hpre
 have hT : TabOK Tryz.prog S_spec_SystematicPacket_tab := (.cons S_spec_l15Copy_ok (.cons S_spec_IsValidGeneration_ok (.cons S_spec_IsValidRecoder_ok (.cons S_spec_ColumnsOf_ok (.cons S_spec_SourcePacket_ok (.cons S_spec_l15Seed_ok (.cons S_spec_RandomVector_ok (.cons S_spec_CodePacket_ok .nil))))))))
 obtain ⟨hf0, hf1⟩ := hpre
 have hn0_1 : List.length x0.2 ≤ 1073741824 := hf0.2.1
 have hn1_2 : List.length x1.2.2.2.1 ≤ 1073741824 := hf1.2.2.2.1.1
 refine wp_seq ?_
 refine at_regq [{ ids := [1] }, { ids := [2] }, { ids := [3] }, { ids := [4] }] { ts := [2, 3, 4, 6, 7, 8], os := [1, 2, 3, 4] } [] gamOK hT h (by kernel_rfl) trivial fun a w h => then_normal (wp_seq ?_)
 refine at_regq [{}, { ids := [5] }, { ids := [6] }] { ts := [2, 3, 4, 6, 7, 8, 9], os := [1, 2, 3, 4, 5, 6] } [Q_spec_l15Copy x1] gamOK hT h (by kernel_rfl) ⟨(by exact hf1), trivial⟩ fun a w h => then_normal (wp_seq (wp_seq ?_))
 rcases Bool.eq_false_or_eq_true (!(validG x0)) with h1 | h1
 ·have hzh1 : (validG x0) = false := notT h1
  refine at_anyq [{}, {}, { hint := some (aB true) }, {}, {}, {}, {}, {}, {}, {}, {}, {}, {}, {}, {}, {}, {}, {}, {}, {}, {}, {}, {}, {}, {}, {}, {}, {}, {}, {}, {}, {}, {}, {}, {}, {}] { ts := [2, 3, 4, 6, 7, 8, 9, 51], os := [1, 2, 3, 4, 5, 6] } [Q_spec_IsValidGeneration x0, (AV.p (.c (.v (.bool (!(validG x0))))) = AV.p (.c (.v (.bool true))))] gamOK hT mixed h (by kernel_rfl) ⟨(by exact hf0), hint_bool (h1), trivial⟩ fun a w h => then_normal ?_
  refine at_test true h (by kernel_rfl) (fun hh => ?_) (fun hh => nomatch hh)
  refine wp_seq ?_
  refine at_regq [] { ts := [2, 3, 4, 6, 7, 8, 9], os := [1, 2, 3, 4, 5, 6] } [] gamOK hT h (by kernel_rfl) trivial fun a w h => then_normal (wp_ret (then_ret ?_))
  exact at_return (x1, ((0, (([] : List Int), ([] : List Int))), (false, ()))) [] h (by kernel_rfl) trivial (congrArg (fun z => (z.1, z.2.1, z.2.2, ())) (show ((x1, (0, (([] : List Int), ([] : List Int))), false)) = sysP x0 x1 x2 from by first | exact sysP_n (sysOK_f (by first | (left; assumption) | (right; left; assumption) | (right; right; left; omega) | (right; right; right; left; omega) | (right; right; right; right; omega))) | (rw [← sysP_y (sysOK_t (by assumption) (by assumption) (by omega) (by omega) (by omega)), ← sysU_y (by omega), ← sysD_y (by omega)]; done) | (rw [← sysP_y (sysOK_t (by assumption) (by assumption) (by omega) (by omega) (by omega)), ← sysU_n (by omega), ← codePk_sys (by assumption) (by assumption) (by omega) (by omega), sysC_1 (by omega)]; first | rfl | (rw [show ((List.length x0.2 : Nat) : Int) = x1.2.1 by omega]; done)) | (rw [← sysP_y (sysOK_t (by assumption) (by assumption) (by omega) (by omega) (by omega)), ← sysU_n (by omega), ← codePk_sys (by assumption) (by assumption) (by omega) (by omega)]; (have hs1 : D_spec_SourcePacket x0 x1.2.2.2.2 = codePk x0 (unitV ((List.length x0.2 : Nat) : Int) x1.2.2.2.2) := if_pos ⟨by assumption, inR_true (by have := (validR_t (r := x1) (by assumption)).2.2.1; omega)⟩; rw [hs1, show ((List.length x0.2 : Nat) : Int) = x1.2.1 by omega, ← sysC_2 (s := x2) (by omega)]))))
 ·have hzh1 : (validG x0) = true := notF h1
  have hvh1 := validG_t (notF h1)
  rcases Bool.eq_false_or_eq_true (!(validR x1)) with h2 | h2
  ·have hzh2 : (validR x1) = false := notT h2
   refine at_anyq [{}, {}, { hint := some (aB false) }, {}, {}, {}, { hint := some (aB true) }, {}, {}, {}, {}, {}, {}, {}, {}, {}, {}, {}, {}, {}, {}, {}, {}, {}, {}, {}, {}, {}, {}, {}, {}, {}, {}, {}, {}, {}] { ts := [2, 3, 4, 6, 7, 8, 9, 51], os := [1, 2, 3, 4, 5, 6] } [Q_spec_IsValidGeneration x0, (AV.p (.c (.v (.bool (!(validG x0))))) = AV.p (.c (.v (.bool false)))), Q_spec_IsValidRecoder x1, (AV.p (.c (.v (.bool (!(validR x1))))) = AV.p (.c (.v (.bool true))))] gamOK hT mixed h (by kernel_rfl) ⟨(by exact hf0), hint_bool (h1), (by exact hf1), hint_bool (h2), trivial⟩ fun a w h => then_normal ?_
   refine at_test true h (by kernel_rfl) (fun hh => ?_) (fun hh => nomatch hh)
   refine wp_seq ?_
   refine at_regq [] { ts := [2, 3, 4, 6, 7, 8, 9], os := [1, 2, 3, 4, 5, 6] } [] gamOK hT h (by kernel_rfl) trivial fun a w h => then_normal (wp_ret (then_ret ?_))
   exact at_return (x1, ((0, (([] : List Int), ([] : List Int))), (false, ()))) [] h (by kernel_rfl) trivial (congrArg (fun z => (z.1, z.2.1, z.2.2, ())) (show ((x1, (0, (([] : List Int), ([] : List Int))), false)) = sysP x0 x1 x2 from by first | exact sysP_n (sysOK_f (by first | (left; assumption) | (right; left; assumption) | (right; right; left; omega) | (right; right; right; left; omega) | (right; right; right; right; omega))) | (rw [← sysP_y (sysOK_t (by assumption) (by assumption) (by omega) (by omega) (by omega)), ← sysU_y (by omega), ← sysD_y (by omega)]; done) | (rw [← sysP_y (sysOK_t (by assumption) (by assumption) (by omega) (by omega) (by omega)), ← sysU_n (by omega), ← codePk_sys (by assumption) (by assumption) (by omega) (by omega), sysC_1 (by omega)]; first | rfl | (rw [show ((List.length x0.2 : Nat) : Int) = x1.2.1 by omega]; done)) | (rw [← sysP_y (sysOK_t (by assumption) (by assumption) (by omega) (by omega) (by omega)), ← sysU_n (by omega), ← codePk_sys (by assumption) (by assumption) (by omega) (by omega)]; (have hs1 : D_spec_SourcePacket x0 x1.2.2.2.2 = codePk x0 (unitV ((List.length x0.2 : Nat) : Int) x1.2.2.2.2) := if_pos ⟨by assumption, inR_true (by have := (validR_t (r := x1) (by assumption)).2.2.1; omega)⟩; rw [hs1, show ((List.length x0.2 : Nat) : Int) = x1.2.1 by omega, ← sysC_2 (s := x2) (by omega)]))))
  ·have hzh2 : (validR x1) = true := notF h2
   have hvh2 := validR_t (notF h2)
   by_cases h3 : x0.1 = x1.1
   ·by_cases h4 : ((List.length x0.2 : Nat) : Int) = x1.2.1
    ·by_cases h5 : (colsOf x0.2) = x1.2.2.1
     ·refine at_anyq [{}, {}, { hint := some (aB false) }, {}, {}, {}, { hint := some (aB false) }, {}, {}, {}, {}, {}, {}, { hint := some (aB false) }, {}, {}, {}, {}, {}, {}, {}, { hint := some (aB false) }, {}, {}, {}, {}, {}, {}, {}, { hint := some (aB false) }, {}, {}, {}, {}, {}, {}] { ts := [2, 3, 4, 6, 7, 8, 9, 51], os := [1, 2, 3, 4, 5, 6] } [Q_spec_IsValidGeneration x0, (AV.p (.c (.v (.bool (!(validG x0))))) = AV.p (.c (.v (.bool false)))), Q_spec_IsValidRecoder x1, (AV.p (.c (.v (.bool (!(validR x1))))) = AV.p (.c (.v (.bool false)))), (AV.p (.c (.v (.bool (!decide (x0.1 = x1.1))))) = AV.p (.c (.v (.bool false)))), (AV.p (.c (.v (.bool (!decide (((List.length x0.2 : Nat) : Int) = x1.2.1))))) = AV.p (.c (.v (.bool false)))), Q_spec_ColumnsOf x0.2, (AV.p (.c (.v (.bool (!decide ((colsOf x0.2) = x1.2.2.1))))) = AV.p (.c (.v (.bool false))))] gamOK hT mixed h (by kernel_rfl) ⟨(by exact hf0), hint_bool (h1), (by exact hf1), hint_bool (h2), hint_bool (ndT h3), hint_bool (ndT h4), (by exact hf0.2), hint_bool (ndT h5), trivial⟩ fun a w h => then_normal ?_
      refine at_test (decide (x1.2.2.2.2 = 1000000000000)) h (by kernel_rfl) (fun h6 => ?_) (fun h6 => ?_)
      ·replace h6 : x1.2.2.2.2 = 1000000000000 := of_decide_eq_true h6
       refine wp_seq ?_
       refine at_regq [] { ts := [2, 3, 4, 6, 7, 8, 9], os := [1, 2, 3, 4, 5, 6] } [] gamOK hT h (by kernel_rfl) trivial fun a w h => then_normal (wp_ret (then_ret ?_))
       exact at_return (x1, ((0, (([] : List Int), ([] : List Int))), (false, ()))) [] h (by kernel_rfl) trivial (congrArg (fun z => (z.1, z.2.1, z.2.2, ())) (show ((x1, (0, (([] : List Int), ([] : List Int))), false)) = sysP x0 x1 x2 from by first | exact sysP_n (sysOK_f (by first | (left; assumption) | (right; left; assumption) | (right; right; left; omega) | (right; right; right; left; omega) | (right; right; right; right; omega))) | (rw [← sysP_y (sysOK_t (by assumption) (by assumption) (by omega) (by omega) (by omega)), ← sysU_y (by omega), ← sysD_y (by omega)]; done) | (rw [← sysP_y (sysOK_t (by assumption) (by assumption) (by omega) (by omega) (by omega)), ← sysU_n (by omega), ← codePk_sys (by assumption) (by assumption) (by omega) (by omega), sysC_1 (by omega)]; first | rfl | (rw [show ((List.length x0.2 : Nat) : Int) = x1.2.1 by omega]; done)) | (rw [← sysP_y (sysOK_t (by assumption) (by assumption) (by omega) (by omega) (by omega)), ← sysU_n (by omega), ← codePk_sys (by assumption) (by assumption) (by omega) (by omega)]; (have hs1 : D_spec_SourcePacket x0 x1.2.2.2.2 = codePk x0 (unitV ((List.length x0.2 : Nat) : Int) x1.2.2.2.2) := if_pos ⟨by assumption, inR_true (by have := (validR_t (r := x1) (by assumption)).2.2.1; omega)⟩; rw [hs1, show ((List.length x0.2 : Nat) : Int) = x1.2.1 by omega, ← sysC_2 (s := x2) (by omega)]))))
      ·replace h6 : ¬ (x1.2.2.2.2 = 1000000000000) := of_decide_eq_false h6
       refine wp_skip (then_normal (wp_seq ?_))
       refine at_regq [{}, {}, { nw := true }] { ts := [2, 3, 4, 6, 7, 8, 9], os := [1, 2, 3, 4, 5, 6] } [I64 (x1.2.2.2.2 + 1)] gamOK hT h (by kernel_rfl) ⟨⟨by first | omega | (simp only [lsA]; omega) | (simp <;> omega), by first | omega | (simp only [lsA]; omega) | (simp <;> omega)⟩, trivial⟩ fun a w h => then_normal (wp_seq (wp_seq ?_))
       refine at_regq [] { ts := [2, 3, 4, 6, 7, 8, 9, 63], os := [1, 2, 3, 4, 5, 6] } [] gamOK hT h (by kernel_rfl) trivial fun a w h => then_normal ?_
       refine at_test (decide (x1.2.2.2.2 < ((List.length x0.2 : Nat) : Int))) h (by kernel_rfl) (fun h7 => ?_) (fun h7 => ?_)
       ·replace h7 : x1.2.2.2.2 < ((List.length x0.2 : Nat) : Int) := of_decide_eq_true h7
        refine wp_seq ?_
        refine at_regq [{}, {}, {}, { ids := [7, 8] }, {}, {}, {}, { ids := [9] }] { ts := [2, 3, 4, 6, 7, 8, 9, 10, 11], os := [1, 2, 3, 4, 5, 6, 7, 8, 9] } [Q_spec_SourcePacket x0 x1.2.2.2.2] gamOK hT h (by kernel_rfl) ⟨(by exact hf0), trivial⟩ fun a w h => then_normal (wp_seq ?_)
        refine at_anyq [{}, {}, {}, {}, {}, {}] { ts := [2, 3, 4, 6, 7, 8, 9], os := [1, 2, 3, 4, 5, 6, 7, 8] } [] gamOK hT mixed h (by kernel_rfl) trivial fun a w h => then_normal (wp_ret (then_ret ?_))
        exact at_return ((x1.1, (x1.2.1, (x1.2.2.1, (x1.2.2.2.1, x1.2.2.2.2 + 1)))), ((D_spec_SourcePacket x0 x1.2.2.2.2).1, ((D_spec_SourcePacket x0 x1.2.2.2.2).2, ()))) [] h (by kernel_rfl) trivial (congrArg (fun z => (z.1, z.2.1, z.2.2, ())) (show (((x1.1, (x1.2.1, (x1.2.2.1, (x1.2.2.2.1, x1.2.2.2.2 + 1)))), (D_spec_SourcePacket x0 x1.2.2.2.2).1, (D_spec_SourcePacket x0 x1.2.2.2.2).2)) = sysP x0 x1 x2 from by first | exact sysP_n (sysOK_f (by first | (left; assumption) | (right; left; assumption) | (right; right; left; omega) | (right; right; right; left; omega) | (right; right; right; right; omega))) | (rw [← sysP_y (sysOK_t (by assumption) (by assumption) (by omega) (by omega) (by omega)), ← sysU_y (by omega), ← sysD_y (by omega)]; done) | (rw [← sysP_y (sysOK_t (by assumption) (by assumption) (by omega) (by omega) (by omega)), ← sysU_n (by omega), ← codePk_sys (by assumption) (by assumption) (by omega) (by omega), sysC_1 (by omega)]; first | rfl | (rw [show ((List.length x0.2 : Nat) : Int) = x1.2.1 by omega]; done)) | (rw [← sysP_y (sysOK_t (by assumption) (by assumption) (by omega) (by omega) (by omega)), ← sysU_n (by omega), ← codePk_sys (by assumption) (by assumption) (by omega) (by omega)]; (have hs1 : D_spec_SourcePacket x0 x1.2.2.2.2 = codePk x0 (unitV ((List.length x0.2 : Nat) : Int) x1.2.2.2.2) := if_pos ⟨by assumption, inR_true (by have := (validR_t (r := x1) (by assumption)).2.2.1; omega)⟩; rw [hs1, show ((List.length x0.2 : Nat) : Int) = x1.2.1 by omega, ← sysC_2 (s := x2) (by omega)]))))
       ·replace h7 : ¬ (x1.2.2.2.2 < ((List.length x0.2 : Nat) : Int)) := of_decide_eq_false h7
        refine wp_skip (then_normal (wp_seq ?_))
        refine at_anyq [{}, {}, {}, {}, {}, {}, {}, { ids := [10] }, { ids := [11, 12] }, {}, {}, {}, { ids := [13] }, {}, {}] { ts := [6, 7, 8, 9, 12, 13], os := [3, 4, 5, 6, 11, 12, 13] } [Q_spec_l15Seed x1 x2, True, Q_spec_CodePacket x0 (rndV (keyed x2 ([x1.1, x1.2.2.2.2])) ((List.length x0.2 : Nat) : Int))] gamOK hT mixed h (by kernel_rfl) ⟨(by exact hf1), trivial, (by exact ⟨hf0, (Sh.fit_len (t := 22) (s := .int 3) rfl (Nat.le_trans (rndV_len _ _) (by decide)))⟩), trivial⟩ fun a w h => then_normal (wp_seq ?_)
        refine at_anyq [{}, {}, {}, {}, {}, {}] { ts := [6, 7, 8], os := [3, 4, 5, 11, 12] } [] gamOK hT mixed h (by kernel_rfl) trivial fun a w h => then_normal (wp_ret ?_)
        exact at_return ((x1.1, (x1.2.1, (x1.2.2.1, (x1.2.2.2.1, x1.2.2.2.2 + 1)))), ((codePk x0 (rndV (keyed x2 ([x1.1, x1.2.2.2.2])) ((List.length x0.2 : Nat) : Int))).1, ((codePk x0 (rndV (keyed x2 ([x1.1, x1.2.2.2.2])) ((List.length x0.2 : Nat) : Int))).2, ()))) [] h (by kernel_rfl) trivial (congrArg (fun z => (z.1, z.2.1, z.2.2, ())) (show (((x1.1, (x1.2.1, (x1.2.2.1, (x1.2.2.2.1, x1.2.2.2.2 + 1)))), (codePk x0 (rndV (keyed x2 ([x1.1, x1.2.2.2.2])) ((List.length x0.2 : Nat) : Int))).1, (codePk x0 (rndV (keyed x2 ([x1.1, x1.2.2.2.2])) ((List.length x0.2 : Nat) : Int))).2)) = sysP x0 x1 x2 from by first | exact sysP_n (sysOK_f (by first | (left; assumption) | (right; left; assumption) | (right; right; left; omega) | (right; right; right; left; omega) | (right; right; right; right; omega))) | (rw [← sysP_y (sysOK_t (by assumption) (by assumption) (by omega) (by omega) (by omega)), ← sysU_y (by omega), ← sysD_y (by omega)]; done) | (rw [← sysP_y (sysOK_t (by assumption) (by assumption) (by omega) (by omega) (by omega)), ← sysU_n (by omega), ← codePk_sys (by assumption) (by assumption) (by omega) (by omega), sysC_1 (by omega)]; first | rfl | (rw [show ((List.length x0.2 : Nat) : Int) = x1.2.1 by omega]; done)) | (rw [← sysP_y (sysOK_t (by assumption) (by assumption) (by omega) (by omega) (by omega)), ← sysU_n (by omega), ← codePk_sys (by assumption) (by assumption) (by omega) (by omega)]; (have hs1 : D_spec_SourcePacket x0 x1.2.2.2.2 = codePk x0 (unitV ((List.length x0.2 : Nat) : Int) x1.2.2.2.2) := if_pos ⟨by assumption, inR_true (by have := (validR_t (r := x1) (by assumption)).2.2.1; omega)⟩; rw [hs1, show ((List.length x0.2 : Nat) : Int) = x1.2.1 by omega, ← sysC_2 (s := x2) (by omega)]))))
     ·refine at_anyq [{}, {}, { hint := some (aB false) }, {}, {}, {}, { hint := some (aB false) }, {}, {}, {}, {}, {}, {}, { hint := some (aB false) }, {}, {}, {}, {}, {}, {}, {}, { hint := some (aB false) }, {}, {}, {}, {}, {}, {}, {}, { hint := some (aB true) }, {}, {}, {}, {}, {}, {}] { ts := [2, 3, 4, 6, 7, 8, 9, 51], os := [1, 2, 3, 4, 5, 6] } [Q_spec_IsValidGeneration x0, (AV.p (.c (.v (.bool (!(validG x0))))) = AV.p (.c (.v (.bool false)))), Q_spec_IsValidRecoder x1, (AV.p (.c (.v (.bool (!(validR x1))))) = AV.p (.c (.v (.bool false)))), (AV.p (.c (.v (.bool (!decide (x0.1 = x1.1))))) = AV.p (.c (.v (.bool false)))), (AV.p (.c (.v (.bool (!decide (((List.length x0.2 : Nat) : Int) = x1.2.1))))) = AV.p (.c (.v (.bool false)))), Q_spec_ColumnsOf x0.2, (AV.p (.c (.v (.bool (!decide ((colsOf x0.2) = x1.2.2.1))))) = AV.p (.c (.v (.bool true))))] gamOK hT mixed h (by kernel_rfl) ⟨(by exact hf0), hint_bool (h1), (by exact hf1), hint_bool (h2), hint_bool (ndT h3), hint_bool (ndT h4), (by exact hf0.2), hint_bool (ndF h5), trivial⟩ fun a w h => then_normal ?_
      refine at_test true h (by kernel_rfl) (fun hh => ?_) (fun hh => nomatch hh)
      refine wp_seq ?_
      refine at_regq [] { ts := [2, 3, 4, 6, 7, 8, 9], os := [1, 2, 3, 4, 5, 6] } [] gamOK hT h (by kernel_rfl) trivial fun a w h => then_normal (wp_ret (then_ret ?_))
      exact at_return (x1, ((0, (([] : List Int), ([] : List Int))), (false, ()))) [] h (by kernel_rfl) trivial (congrArg (fun z => (z.1, z.2.1, z.2.2, ())) (show ((x1, (0, (([] : List Int), ([] : List Int))), false)) = sysP x0 x1 x2 from by first | exact sysP_n (sysOK_f (by first | (left; assumption) | (right; left; assumption) | (right; right; left; omega) | (right; right; right; left; omega) | (right; right; right; right; omega))) | (rw [← sysP_y (sysOK_t (by assumption) (by assumption) (by omega) (by omega) (by omega)), ← sysU_y (by omega), ← sysD_y (by omega)]; done) | (rw [← sysP_y (sysOK_t (by assumption) (by assumption) (by omega) (by omega) (by omega)), ← sysU_n (by omega), ← codePk_sys (by assumption) (by assumption) (by omega) (by omega), sysC_1 (by omega)]; first | rfl | (rw [show ((List.length x0.2 : Nat) : Int) = x1.2.1 by omega]; done)) | (rw [← sysP_y (sysOK_t (by assumption) (by assumption) (by omega) (by omega) (by omega)), ← sysU_n (by omega), ← codePk_sys (by assumption) (by assumption) (by omega) (by omega)]; (have hs1 : D_spec_SourcePacket x0 x1.2.2.2.2 = codePk x0 (unitV ((List.length x0.2 : Nat) : Int) x1.2.2.2.2) := if_pos ⟨by assumption, inR_true (by have := (validR_t (r := x1) (by assumption)).2.2.1; omega)⟩; rw [hs1, show ((List.length x0.2 : Nat) : Int) = x1.2.1 by omega, ← sysC_2 (s := x2) (by omega)]))))
    ·refine at_anyq [{}, {}, { hint := some (aB false) }, {}, {}, {}, { hint := some (aB false) }, {}, {}, {}, {}, {}, {}, { hint := some (aB false) }, {}, {}, {}, {}, {}, {}, {}, { hint := some (aB true) }, {}, {}, {}, {}, {}, {}, {}, {}, {}, {}, {}, {}, {}, {}] { ts := [2, 3, 4, 6, 7, 8, 9, 51], os := [1, 2, 3, 4, 5, 6] } [Q_spec_IsValidGeneration x0, (AV.p (.c (.v (.bool (!(validG x0))))) = AV.p (.c (.v (.bool false)))), Q_spec_IsValidRecoder x1, (AV.p (.c (.v (.bool (!(validR x1))))) = AV.p (.c (.v (.bool false)))), (AV.p (.c (.v (.bool (!decide (x0.1 = x1.1))))) = AV.p (.c (.v (.bool false)))), (AV.p (.c (.v (.bool (!decide (((List.length x0.2 : Nat) : Int) = x1.2.1))))) = AV.p (.c (.v (.bool true))))] gamOK hT mixed h (by kernel_rfl) ⟨(by exact hf0), hint_bool (h1), (by exact hf1), hint_bool (h2), hint_bool (ndT h3), hint_bool (ndF h4), trivial⟩ fun a w h => then_normal ?_
     refine at_test true h (by kernel_rfl) (fun hh => ?_) (fun hh => nomatch hh)
     refine wp_seq ?_
     refine at_regq [] { ts := [2, 3, 4, 6, 7, 8, 9], os := [1, 2, 3, 4, 5, 6] } [] gamOK hT h (by kernel_rfl) trivial fun a w h => then_normal (wp_ret (then_ret ?_))
     exact at_return (x1, ((0, (([] : List Int), ([] : List Int))), (false, ()))) [] h (by kernel_rfl) trivial (congrArg (fun z => (z.1, z.2.1, z.2.2, ())) (show ((x1, (0, (([] : List Int), ([] : List Int))), false)) = sysP x0 x1 x2 from by first | exact sysP_n (sysOK_f (by first | (left; assumption) | (right; left; assumption) | (right; right; left; omega) | (right; right; right; left; omega) | (right; right; right; right; omega))) | (rw [← sysP_y (sysOK_t (by assumption) (by assumption) (by omega) (by omega) (by omega)), ← sysU_y (by omega), ← sysD_y (by omega)]; done) | (rw [← sysP_y (sysOK_t (by assumption) (by assumption) (by omega) (by omega) (by omega)), ← sysU_n (by omega), ← codePk_sys (by assumption) (by assumption) (by omega) (by omega), sysC_1 (by omega)]; first | rfl | (rw [show ((List.length x0.2 : Nat) : Int) = x1.2.1 by omega]; done)) | (rw [← sysP_y (sysOK_t (by assumption) (by assumption) (by omega) (by omega) (by omega)), ← sysU_n (by omega), ← codePk_sys (by assumption) (by assumption) (by omega) (by omega)]; (have hs1 : D_spec_SourcePacket x0 x1.2.2.2.2 = codePk x0 (unitV ((List.length x0.2 : Nat) : Int) x1.2.2.2.2) := if_pos ⟨by assumption, inR_true (by have := (validR_t (r := x1) (by assumption)).2.2.1; omega)⟩; rw [hs1, show ((List.length x0.2 : Nat) : Int) = x1.2.1 by omega, ← sysC_2 (s := x2) (by omega)]))))
   ·refine at_anyq [{}, {}, { hint := some (aB false) }, {}, {}, {}, { hint := some (aB false) }, {}, {}, {}, {}, {}, {}, { hint := some (aB true) }, {}, {}, {}, {}, {}, {}, {}, {}, {}, {}, {}, {}, {}, {}, {}, {}, {}, {}, {}, {}, {}, {}] { ts := [2, 3, 4, 6, 7, 8, 9, 51], os := [1, 2, 3, 4, 5, 6] } [Q_spec_IsValidGeneration x0, (AV.p (.c (.v (.bool (!(validG x0))))) = AV.p (.c (.v (.bool false)))), Q_spec_IsValidRecoder x1, (AV.p (.c (.v (.bool (!(validR x1))))) = AV.p (.c (.v (.bool false)))), (AV.p (.c (.v (.bool (!decide (x0.1 = x1.1))))) = AV.p (.c (.v (.bool true))))] gamOK hT mixed h (by kernel_rfl) ⟨(by exact hf0), hint_bool (h1), (by exact hf1), hint_bool (h2), hint_bool (ndF h3), trivial⟩ fun a w h => then_normal ?_
    refine at_test true h (by kernel_rfl) (fun hh => ?_) (fun hh => nomatch hh)
    refine wp_seq ?_
    refine at_regq [] { ts := [2, 3, 4, 6, 7, 8, 9], os := [1, 2, 3, 4, 5, 6] } [] gamOK hT h (by kernel_rfl) trivial fun a w h => then_normal (wp_ret (then_ret ?_))
    exact at_return (x1, ((0, (([] : List Int), ([] : List Int))), (false, ()))) [] h (by kernel_rfl) trivial (congrArg (fun z => (z.1, z.2.1, z.2.2, ())) (show ((x1, (0, (([] : List Int), ([] : List Int))), false)) = sysP x0 x1 x2 from by first | exact sysP_n (sysOK_f (by first | (left; assumption) | (right; left; assumption) | (right; right; left; omega) | (right; right; right; left; omega) | (right; right; right; right; omega))) | (rw [← sysP_y (sysOK_t (by assumption) (by assumption) (by omega) (by omega) (by omega)), ← sysU_y (by omega), ← sysD_y (by omega)]; done) | (rw [← sysP_y (sysOK_t (by assumption) (by assumption) (by omega) (by omega) (by omega)), ← sysU_n (by omega), ← codePk_sys (by assumption) (by assumption) (by omega) (by omega), sysC_1 (by omega)]; first | rfl | (rw [show ((List.length x0.2 : Nat) : Int) = x1.2.1 by omega]; done)) | (rw [← sysP_y (sysOK_t (by assumption) (by assumption) (by omega) (by omega) (by omega)), ← sysU_n (by omega), ← codePk_sys (by assumption) (by assumption) (by omega) (by omega)]; (have hs1 : D_spec_SourcePacket x0 x1.2.2.2.2 = codePk x0 (unitV ((List.length x0.2 : Nat) : Int) x1.2.2.2.2) := if_pos ⟨by assumption, inR_true (by have := (validR_t (r := x1) (by assumption)).2.2.1; omega)⟩; rw [hs1, show ((List.length x0.2 : Nat) : Int) = x1.2.1 by omega, ← sysC_2 (s := x2) (by omega)]))))

def D_laws_FnExactSystematicPacket := (fun (_ : T39) (_ : T42) (_ : Int) => true)
abbrev Q_laws_FnExactSystematicPacket := (fun (x0 : T39) (x1 : T42) (x2 : Int) => Sh.i64 s39 x0 ∧ Sh.i64 s42 x1 ∧ Sh.i64 (.int 3) x2)
def S_laws_FnExactSystematicPacket : Sum := { fid := 4, dom := [s39, s42, (.int 3)], cod := [(.bool 4)], dp := true, fz := false, pre := fun x => Q_laws_FnExactSystematicPacket x.1 x.2.1 x.2.2.1, g := fun x => ((D_laws_FnExactSystematicPacket x.1 x.2.1 x.2.2.1), ()) }
def S_laws_FnExactSystematicPacket_tab : List (Nat × Sum) := [(13, S_laws_szGeneration), (14, S_laws_szRecoder), (16, S_laws_toGeneration), (17, S_laws_toRecoder), (15, S_spec_SystematicPacket), (18, S_impl_SystematicPacket), (19, S_laws_eqRecoder), (20, S_laws_eqCodedPacket), (21, S_laws_eqGeneration), (22, S_laws_markGeneration), (23, S_laws_markRecoder), (24, S_laws_markCodedPacket), (25, S_laws_heldRecoder), (26, S_laws_heldCodedPacket)]
theorem S_laws_FnExactSystematicPacket_ok : FnOK Tryz.prog 4 S_laws_FnExactSystematicPacket := by
 refine at_enter 161 (fun x => ⟨[(0, aG [cI x.1.1, .ro s22 x.1.2]), (1, aG [cI x.2.1.1, cI x.2.1.2.1, cI x.2.1.2.2.1, .ro s147 x.2.1.2.2.2.1, cI x.2.1.2.2.2.2]), (2, aI x.2.2.1)], []⟩) Tryz.func4 rfl (by kernel_rfl) (fun x => rfl) ?_
 rintro w0 Z0 ⟨x0, x1, x2, u⟩ a w
 revert x0 x1 x2
 intro (x0 : T39) (x1 : T42) (x2 : Int) hpre hlens h
 replace hpre : Q_laws_FnExactSystematicPacket x0 x1 x2 := hpre
 have hl1 : List.length x0.2 ≤ 9223372036854775807 := hlens.1.2.1
 have hl2 : List.length x1.2.2.2.1 ≤ 9223372036854775807 := hlens.2.1.2.2.2.1.1
 have hT : TabOK Tryz.prog S_laws_FnExactSystematicPacket_tab := (.cons S_laws_szGeneration_ok (.cons S_laws_szRecoder_ok (.cons S_laws_toGeneration_ok (.cons S_laws_toRecoder_ok (.cons S_spec_SystematicPacket_ok (.cons S_impl_SystematicPacket_ok (.cons S_laws_eqRecoder_ok (.cons S_laws_eqCodedPacket_ok (.cons S_laws_eqGeneration_ok (.cons S_laws_markGeneration_ok (.cons S_laws_markRecoder_ok (.cons S_laws_markCodedPacket_ok (.cons S_laws_heldRecoder_ok (.cons S_laws_heldCodedPacket_ok .nil))))))))))))))
 have hq0 : Sh.sz s52 x0 = Sh.sz s39 x0 := rfl
 have hb0 : Sh.ctT s52 x0 ≤ 2 * Sh.sz s52 x0 := Sh.ctT_le2 s52 x0
 have hz0 : Sh.ct s52 x0 ≤ 2 * (1 + Sh.sz s52 x0) := Sh.ct_le s52 x0
 have ht0 : Sh.sz s39 x0 = (0 + (Sh.sz s37 x0.2)) := rfl
 have hs0_1 : Sh.sz s37 x0.2 = List.length x0.2 + ctL (Sh.sz s22) x0.2 := rfl
 have hq1 : Sh.sz s47 x1 = Sh.sz s42 x1 := rfl
 have hb1 : Sh.ctT s47 x1 ≤ 7 * Sh.sz s47 x1 := Sh.ctT_le2 s47 x1
 have hz1 : Sh.ct s47 x1 ≤ 7 * (1 + Sh.sz s47 x1) := Sh.ct_le s47 x1
 have ht1 : Sh.sz s42 x1 = (0 + (0 + (0 + ((Sh.sz s40 x1.2.2.2.1) + 0)))) := rfl
 have hs1_1 : Sh.sz s40 x1.2.2.2.1 = List.length x1.2.2.2.1 + ctL (Sh.sz s147) x1.2.2.2.1 := rfl
 have hr1 : Sh.ctT s47 ((sysP x0 x1 x2).1) ≤ 7 * Sh.sz s47 ((sysP x0 x1 x2).1) := Sh.ctT_le2 s47 _
 have hr2 : Sh.ctT s49 ((sysP x0 x1 x2).2.1) ≤ 3 * Sh.sz s49 ((sysP x0 x1 x2).2.1) := Sh.ctT_le2 s49 _
 have hr3 := sysP_sz x0 x1 x2
 refine wp_seq ?_
 refine at_regq [{ ids := [1] }, { ids := [2] }] { ts := [2, 3, 4, 6], os := [1, 2] } [] gamOK hT h (by kernel_rfl) trivial fun a w h => then_normal (wp_seq ?_)
 refine at_regq [] { ts := [2, 3, 4, 6, 7], os := [1, 2] } [] gamOK hT h (by kernel_rfl) trivial fun a w h => then_normal (wp_seq ?_)
 refine at_regq [] { ts := [2, 3, 4, 6, 7], os := [1, 2] } [(pSz s39) x0 1048576] gamOK hT h (by kernel_rfl) ⟨(by (show (0 : Int) ≤ _ ∧ _ ≤ (9223372036854775807 : Int); constructor <;> omega)), trivial⟩ fun a w h => then_normal (wp_seq (wp_seq ?_))
 refine at_regq [] { ts := [2, 3, 4, 6, 7, 26], os := [1, 2] } [] gamOK hT h (by kernel_rfl) trivial fun a w h => then_normal ?_
 refine at_test (decide (((szD s39) x0 1048576) < 0)) h (by kernel_rfl) (fun h1 => ?_) (fun h1 => ?_)
 ·replace h1 : ((szD s39) x0 1048576) < 0 := of_decide_eq_true h1
  have hvh1 := szD_neg h1 (by omega)
  refine wp_seq ?_
  refine at_regq [] { ts := [2, 3, 4, 6, 7], os := [1, 2] } [] gamOK hT h (by kernel_rfl) trivial fun a w h => then_normal (wp_ret (then_ret ?_))
  exact at_return (true, ()) [] h (by kernel_rfl) trivial (congrArg (fun z => (z, ())) (show (true) = D_laws_FnExactSystematicPacket x0 x1 x2 from by unfold D_laws_FnExactSystematicPacket; rfl))
 ·replace h1 : ¬ (((szD s39) x0 1048576) < 0) := of_decide_eq_false h1
  have hvh1 := szD_val h1 (by omega)
  refine wp_skip (then_normal (wp_seq ?_))
  refine at_regq [] { ts := [2, 3, 4, 6, 7], os := [1, 2] } [(pSz s42) x1 ((szD s39) x0 1048576)] gamOK hT h (by kernel_rfl) ⟨(by (show (0 : Int) ≤ _ ∧ _ ≤ (9223372036854775807 : Int); constructor <;> omega)), trivial⟩ fun a w h => then_normal (wp_seq (wp_seq ?_))
  refine at_regq [] { ts := [2, 3, 4, 6, 31], os := [1, 2] } [] gamOK hT h (by kernel_rfl) trivial fun a w h => then_normal ?_
  refine at_test (decide (((szD s42) x1 ((szD s39) x0 1048576)) < 0)) h (by kernel_rfl) (fun h2 => ?_) (fun h2 => ?_)
  ·replace h2 : ((szD s42) x1 ((szD s39) x0 1048576)) < 0 := of_decide_eq_true h2
   have hvh2 := szD_neg h2 (by omega)
   refine wp_seq ?_
   refine at_regq [] { ts := [2, 3, 4, 6], os := [1, 2] } [] gamOK hT h (by kernel_rfl) trivial fun a w h => then_normal (wp_ret (then_ret ?_))
   exact at_return (true, ()) [] h (by kernel_rfl) trivial (congrArg (fun z => (z, ())) (show (true) = D_laws_FnExactSystematicPacket x0 x1 x2 from by unfold D_laws_FnExactSystematicPacket; rfl))
  ·replace h2 : ¬ (((szD s42) x1 ((szD s39) x0 1048576)) < 0) := of_decide_eq_false h2
   have hvh2 := szD_val h2 (by omega)
   refine wp_skip (then_normal (wp_seq ?_))
   refine at_anyq [{}, { ids := [3] }, {}, { ids := [4] }, {}, { ids := [5, 6, 7] }, {}, {}, {}, {}, { ids := [8] }, { ids := [9] }, {}, {}, {}] { ts := [2, 3, 4, 6, 8, 9, 10], os := [1, 2, 5, 6, 7, 8, 9] } [(pTo s39) x0, (pTo s42) x1, Q_spec_SystematicPacket x0 x1 x2] gamOK hT mixed h (by kernel_rfl) ⟨(by (show Sh.sz _ _ ≤ 1048576; omega)), (by (show Sh.sz _ _ ≤ 1048576; omega)), (by exact ⟨(Sh.fit_of_sz s52 rfl (x := x0) (by omega)), (Sh.fit_of_sz s47 rfl (x := x1) (by omega))⟩), trivial⟩ fun a w h => then_normal (wp_seq ?_)
   refine at_regq [{}, { ids := [10] }, { ids := [11] }] { ts := [2, 3, 4, 6, 8, 9, 10, 11], os := [1, 2, 5, 6, 7, 8, 9, 10, 11] } [(pTo s39) x0] gamOK hT h (by kernel_rfl) ⟨(by (show Sh.sz _ _ ≤ 1048576; omega)), trivial⟩ fun a w h => then_normal (wp_seq ?_)
   refine at_regq [{}, { ids := [12] }, { ids := [13] }] { ts := [2, 3, 4, 6, 8, 9, 10, 11, 12], os := [1, 2, 5, 6, 7, 8, 9, 10, 11, 12, 13] } [(pTo s42) x1] gamOK hT h (by kernel_rfl) ⟨(by (show Sh.sz _ _ ≤ 1048576; omega)), trivial⟩ fun a w h => then_normal (wp_seq ?_)
   refine at_regq [{}, {}, {}, { ids := [14, 15, 16] }, {}, {}, {}, {}, { ids := [17] }, { ids := [18] }] { ts := [2, 3, 4, 6, 8, 9, 10, 11, 12, 13, 14, 15], os := [1, 2, 5, 6, 7, 8, 9, 10, 11, 12, 13, 14, 15, 16, 17, 18] } [Q_impl_SystematicPacket x0 x1 x2] gamOK hT h (by kernel_rfl) ⟨(by exact ⟨(Sh.fit_of_sz s52 rfl (x := x0) (by omega)), (Sh.fit_of_sz s47 rfl (x := x1) (by omega))⟩), trivial⟩ fun a w h => then_normal (wp_seq (wp_seq ?_))
   rcases Bool.eq_false_or_eq_true (!((Sh.eqB s47) (sysP x0 x1 x2).1 (sysP x0 x1 x2).1)) with h3 | h3
   ·have hzh3 : ((Sh.eqB s47) (sysP x0 x1 x2).1 (sysP x0 x1 x2).1) = false := notT h3
    refine at_regq [{}, {}, {}, { hint := some (aB true) }] { ts := [2, 3, 4, 6, 8, 9, 10, 11, 12, 13, 14, 15, 68], os := [1, 2, 5, 6, 7, 8, 9, 10, 11, 12, 13, 14, 15, 16, 17, 18] } [True, (AV.p (.c (.v (.bool (!((Sh.eqB s47) (sysP x0 x1 x2).1 (sysP x0 x1 x2).1))))) = AV.p (.c (.v (.bool true))))] gamOK hT h (by kernel_rfl) ⟨trivial, hint_bool (h3), trivial⟩ fun a w h => then_normal ?_
    refine at_test true h (by kernel_rfl) (fun hh => ?_) (fun hh => nomatch hh)
    refine wp_seq ?_
    refine at_regq [] { ts := [2, 3, 4, 6, 8, 9, 10, 11, 12, 13, 14, 15], os := [1, 2, 5, 6, 7, 8, 9, 10, 11, 12, 13, 14, 15, 16, 17, 18] } [] gamOK hT h (by kernel_rfl) trivial fun a w h => then_normal (wp_ret (then_ret ?_))
    exact at_return (false, ()) [] h (by kernel_rfl) trivial (congrArg (fun z => (z, ())) (show (false) = D_laws_FnExactSystematicPacket x0 x1 x2 from by unfold D_laws_FnExactSystematicPacket; exact absurd ((Sh.eqB_iff _).2 (show _ = _ from by first | rfl | (rfl))) (neT (notT h3))))
   ·have hzh3 : ((Sh.eqB s47) (sysP x0 x1 x2).1 (sysP x0 x1 x2).1) = true := notF h3
    rcases Bool.eq_false_or_eq_true (!((Sh.eqB s49) (sysP x0 x1 x2).2.1 (sysP x0 x1 x2).2.1)) with h4 | h4
    ·have hzh4 : ((Sh.eqB s49) (sysP x0 x1 x2).2.1 (sysP x0 x1 x2).2.1) = false := notT h4
     refine at_regq [{}, {}, {}, { hint := some (aB false) }, {}, {}, {}, {}, { hint := some (aB true) }] { ts := [2, 3, 4, 6, 8, 9, 10, 11, 12, 13, 14, 15, 68], os := [1, 2, 5, 6, 7, 8, 9, 10, 11, 12, 13, 14, 15, 16, 17, 18] } [True, (AV.p (.c (.v (.bool (!((Sh.eqB s47) (sysP x0 x1 x2).1 (sysP x0 x1 x2).1))))) = AV.p (.c (.v (.bool false)))), True, (AV.p (.c (.v (.bool (!((Sh.eqB s49) (sysP x0 x1 x2).2.1 (sysP x0 x1 x2).2.1))))) = AV.p (.c (.v (.bool true))))] gamOK hT h (by kernel_rfl) ⟨trivial, hint_bool (h3), trivial, hint_bool (h4), trivial⟩ fun a w h => then_normal ?_
     refine at_test true h (by kernel_rfl) (fun hh => ?_) (fun hh => nomatch hh)
     refine wp_seq ?_
     refine at_regq [] { ts := [2, 3, 4, 6, 8, 9, 10, 11, 12, 13, 14, 15], os := [1, 2, 5, 6, 7, 8, 9, 10, 11, 12, 13, 14, 15, 16, 17, 18] } [] gamOK hT h (by kernel_rfl) trivial fun a w h => then_normal (wp_ret (then_ret ?_))
     exact at_return (false, ()) [] h (by kernel_rfl) trivial (congrArg (fun z => (z, ())) (show (false) = D_laws_FnExactSystematicPacket x0 x1 x2 from by unfold D_laws_FnExactSystematicPacket; exact absurd ((Sh.eqB_iff _).2 (show _ = _ from by first | rfl | (rfl))) (neT (notT h4))))
    ·have hzh4 : ((Sh.eqB s49) (sysP x0 x1 x2).2.1 (sysP x0 x1 x2).2.1) = true := notF h4
     refine at_regq [{}, {}, {}, { hint := some (aB false) }, {}, {}, {}, {}, { hint := some (aB false) }] { ts := [2, 3, 4, 6, 8, 9, 10, 11, 12, 13, 14, 15, 68], os := [1, 2, 5, 6, 7, 8, 9, 10, 11, 12, 13, 14, 15, 16, 17, 18] } [True, (AV.p (.c (.v (.bool (!((Sh.eqB s47) (sysP x0 x1 x2).1 (sysP x0 x1 x2).1))))) = AV.p (.c (.v (.bool false)))), True, (AV.p (.c (.v (.bool (!((Sh.eqB s49) (sysP x0 x1 x2).2.1 (sysP x0 x1 x2).2.1))))) = AV.p (.c (.v (.bool false))))] gamOK hT h (by kernel_rfl) ⟨trivial, hint_bool (h3), trivial, hint_bool (h4), trivial⟩ fun a w h => then_normal ?_
     refine at_test (!((sysP x0 x1 x2).2.2 == (sysP x0 x1 x2).2.2)) h (by kernel_rfl) (fun h5 => ?_) (fun h5 => ?_)
     ·replace h5 : ((sysP x0 x1 x2).2.2 == (sysP x0 x1 x2).2.2) = false := notT h5
      refine wp_seq ?_
      refine at_regq [] { ts := [2, 3, 4, 6, 8, 9, 10, 11, 12, 13, 14, 15], os := [1, 2, 5, 6, 7, 8, 9, 10, 11, 12, 13, 14, 15, 16, 17, 18] } [] gamOK hT h (by kernel_rfl) trivial fun a w h => then_normal (wp_ret (then_ret ?_))
      exact at_return (false, ()) [] h (by kernel_rfl) trivial (congrArg (fun z => (z, ())) (show (false) = D_laws_FnExactSystematicPacket x0 x1 x2 from by unfold D_laws_FnExactSystematicPacket; exact absurd (beqT (show _ = _ from by first | rfl | (rfl))) (neT h5)))
     ·replace h5 : ((sysP x0 x1 x2).2.2 == (sysP x0 x1 x2).2.2) = true := notF h5
      refine wp_skip (then_normal (wp_seq (wp_seq ?_)))
      refine at_anyq [{}, {}, { ids := [19] }, {}, {}] { ts := [2, 3, 4, 6, 8, 9, 10, 11, 12, 13, 14, 15, 73], os := [1, 2, 5, 6, 7, 8, 9, 10, 11, 12, 13, 14, 15, 16, 17, 18] } [(pTo s39) x0, True] gamOK hT mixed h (by kernel_rfl) ⟨(by (show Sh.sz _ _ ≤ 1048576; omega)), trivial, trivial⟩ fun a w h => then_normal ?_
      refine at_test (!((Sh.eqB s52) x0 x0)) h (by kernel_rfl) (fun h6 => ?_) (fun h6 => ?_)
      ·replace h6 : ((Sh.eqB s52) x0 x0) = false := notT h6
       refine wp_seq ?_
       refine at_regq [] { ts := [2, 3, 4, 6, 8, 9, 10, 11, 12, 13, 14, 15], os := [1, 2, 5, 6, 7, 8, 9, 10, 11, 12, 13, 14, 15, 16, 17, 18] } [] gamOK hT h (by kernel_rfl) trivial fun a w h => then_normal (wp_ret (then_ret ?_))
       exact at_return (false, ()) [] h (by kernel_rfl) trivial (congrArg (fun z => (z, ())) (show (false) = D_laws_FnExactSystematicPacket x0 x1 x2 from by unfold D_laws_FnExactSystematicPacket; exact absurd ((Sh.eqB_iff _).2 (show _ = _ from by first | rfl | (rfl))) (neT h6)))
      ·replace h6 : ((Sh.eqB s52) x0 x0) = true := notF h6
       refine wp_skip (then_normal (wp_seq (wp_seq ?_)))
       refine at_anyq [{}, {}, { ids := [20] }, {}, {}] { ts := [2, 3, 4, 6, 8, 9, 10, 11, 12, 13, 14, 15, 78], os := [1, 2, 5, 6, 7, 8, 9, 10, 11, 12, 13, 14, 15, 16, 17, 18] } [(pTo s42) x1, True] gamOK hT mixed h (by kernel_rfl) ⟨(by (show Sh.sz _ _ ≤ 1048576; omega)), trivial, trivial⟩ fun a w h => then_normal ?_
       refine at_test (!((Sh.eqB s47) x1 x1)) h (by kernel_rfl) (fun h7 => ?_) (fun h7 => ?_)
       ·replace h7 : ((Sh.eqB s47) x1 x1) = false := notT h7
        refine wp_seq ?_
        refine at_regq [] { ts := [2, 3, 4, 6, 8, 9, 10, 11, 12, 13, 14, 15], os := [1, 2, 5, 6, 7, 8, 9, 10, 11, 12, 13, 14, 15, 16, 17, 18] } [] gamOK hT h (by kernel_rfl) trivial fun a w h => then_normal (wp_ret (then_ret ?_))
        exact at_return (false, ()) [] h (by kernel_rfl) trivial (congrArg (fun z => (z, ())) (show (false) = D_laws_FnExactSystematicPacket x0 x1 x2 from by unfold D_laws_FnExactSystematicPacket; exact absurd ((Sh.eqB_iff _).2 (show _ = _ from by first | rfl | (rfl))) (neT h7)))
       ·replace h7 : ((Sh.eqB s47) x1 x1) = true := notF h7
        refine wp_skip (then_normal (wp_seq ?_))
        refine at_regq [] { ts := [2, 3, 4, 6, 8, 9, 10, 11, 12, 13, 14, 15, 16], os := [1, 2, 5, 6, 7, 8, 9, 10, 11, 12, 13, 14, 15, 16, 17, 18] } [] gamOK hT h (by kernel_rfl) trivial fun a w h => then_normal (wp_seq ?_)
        refine at_regq [] { ts := [2, 3, 4, 6, 8, 9, 10, 12, 13, 14, 15, 16], os := [1, 2, 5, 6, 7, 8, 9, 12, 13, 14, 15, 16, 17, 18] } [(pMkT s52) x0 1] gamOK hT h (by kernel_rfl) ⟨(by (show (0 : Int) ≤ _ ∧ _ + ((Sh.ctT _ _ : Nat) : Int) ≤ (4611686018427387904 : Int); (try simp only [held_marked, held_markedT, mkK, mkKT, Sh.ctT_mkT, Sh.ct_mk]); constructor <;> omega)), trivial⟩ fun a w h => then_normal (wp_seq ?_)
        refine at_regq [] { ts := [2, 3, 4, 6, 8, 9, 10, 13, 14, 15, 16], os := [1, 2, 5, 6, 7, 8, 9, 14, 15, 16, 17, 18] } [(pMkT s47) x1 ((mkKT s52) x0 1)] gamOK hT h (by kernel_rfl) ⟨(by (show (0 : Int) ≤ _ ∧ _ + ((Sh.ctT _ _ : Nat) : Int) ≤ (4611686018427387904 : Int); (try simp only [held_marked, held_markedT, mkK, mkKT, Sh.ctT_mkT, Sh.ct_mk]); constructor <;> omega)), trivial⟩ fun a w h => then_normal (wp_seq (wp_seq ?_))
        by_cases h8 : ((mkKT s47) x1 ((mkKT s52) x0 1)) < 0
        ·refine at_regq [{}, { hint := some (aB true) }] { ts := [2, 3, 4, 6, 8, 9, 10, 13, 14, 103], os := [1, 2, 5, 6, 7, 8, 9, 14, 15, 16, 17, 18] } [(AV.p (.c (.v (.bool (decide (((mkKT s47) x1 ((mkKT s52) x0 1)) < 0))))) = AV.p (.c (.v (.bool true))))] gamOK hT h (by kernel_rfl) ⟨hint_bool (decide_eq_true h8), trivial⟩ fun a w h => then_normal ?_
         refine at_test true h (by kernel_rfl) (fun hh => ?_) (fun hh => nomatch hh)
         refine wp_seq ?_
         refine at_regq [] { ts := [2, 3, 4, 6, 8, 9, 10, 13, 14], os := [1, 2, 5, 6, 7, 8, 9, 14, 15, 16, 17, 18] } [] gamOK hT h (by kernel_rfl) trivial fun a w h => then_normal (wp_ret (then_ret ?_))
         exact at_return (false, ()) [] h (by kernel_rfl) trivial (congrArg (fun z => (z, ())) (show (false) = D_laws_FnExactSystematicPacket x0 x1 x2 from by unfold D_laws_FnExactSystematicPacket; (exfalso; simp only [mkK, mkKT, Sh.ctT_mkT, Sh.ct_mk] at h8; first | omega | exact h8 trivial | exact h8 rfl)))
        ·refine at_regq [{}, { hint := some (aB false) }, {}, {}, {}, {}, { hint := some (aB false) }, {}, {}, {}, {}, {}, { hint := some (aB false) }] { ts := [2, 3, 4, 6, 8, 9, 10, 13, 14, 103], os := [1, 2, 5, 6, 7, 8, 9, 14, 15, 16, 17, 18] } [(AV.p (.c (.v (.bool (decide (((mkKT s47) x1 ((mkKT s52) x0 1)) < 0))))) = AV.p (.c (.v (.bool false)))), True, (AV.p (.c (.v (.bool (!((Sh.eqB s47) (sysP x0 x1 x2).1 (sysP x0 x1 x2).1))))) = AV.p (.c (.v (.bool false)))), True, (AV.p (.c (.v (.bool (!((Sh.eqB s49) (sysP x0 x1 x2).2.1 (sysP x0 x1 x2).2.1))))) = AV.p (.c (.v (.bool false))))] gamOK hT h (by kernel_rfl) ⟨hint_bool (decide_eq_false h8), trivial, hint_bool (h3), trivial, hint_bool (h4), trivial⟩ fun a w h => then_normal ?_
         refine at_test (!((sysP x0 x1 x2).2.2 == (sysP x0 x1 x2).2.2)) h (by kernel_rfl) (fun h9 => ?_) (fun h9 => ?_)
         ·replace h9 : ((sysP x0 x1 x2).2.2 == (sysP x0 x1 x2).2.2) = false := notT h9
          refine wp_seq ?_
          refine at_regq [] { ts := [2, 3, 4, 6, 8, 9, 10, 13, 14], os := [1, 2, 5, 6, 7, 8, 9, 14, 15, 16, 17, 18] } [] gamOK hT h (by kernel_rfl) trivial fun a w h => then_normal (wp_ret (then_ret ?_))
          exact at_return (false, ()) [] h (by kernel_rfl) trivial (congrArg (fun z => (z, ())) (show (false) = D_laws_FnExactSystematicPacket x0 x1 x2 from by unfold D_laws_FnExactSystematicPacket; exact absurd (beqT (show _ = _ from by first | rfl | (rfl))) (neT h9)))
         ·replace h9 : ((sysP x0 x1 x2).2.2 == (sysP x0 x1 x2).2.2) = true := notF h9
          refine wp_skip (then_normal (wp_seq ?_))
          refine at_regq [] { ts := [2, 3, 4, 6, 8, 9, 10, 13, 14, 17], os := [1, 2, 5, 6, 7, 8, 9, 14, 15, 16, 17, 18] } [] gamOK hT h (by kernel_rfl) trivial fun a w h => then_normal (wp_seq ?_)
          refine at_regq [] { ts := [2, 3, 4, 6, 8, 9, 10, 13, 14, 17], os := [1, 2, 5, 6, 7, 8, 9, 14, 15, 16, 17, 18] } [(pMkT s47) (sysP x0 x1 x2).1 1] gamOK hT h (by kernel_rfl) ⟨(by (show (0 : Int) ≤ _ ∧ _ + ((Sh.ctT _ _ : Nat) : Int) ≤ (4611686018427387904 : Int); (try simp only [held_marked, held_markedT, mkK, mkKT, Sh.ctT_mkT, Sh.ct_mk]); constructor <;> omega)), trivial⟩ fun a w h => then_normal (wp_seq ?_)
          refine at_regq [] { ts := [2, 3, 4, 6, 8, 9, 10, 13, 14, 17], os := [1, 2, 5, 6, 7, 8, 9, 14, 15, 16, 17, 18] } [(pMkT s49) (sysP x0 x1 x2).2.1 ((mkKT s47) (sysP x0 x1 x2).1 1)] gamOK hT h (by kernel_rfl) ⟨(by (show (0 : Int) ≤ _ ∧ _ + ((Sh.ctT _ _ : Nat) : Int) ≤ (4611686018427387904 : Int); (try simp only [held_marked, held_markedT, mkK, mkKT, Sh.ctT_mkT, Sh.ct_mk]); constructor <;> omega)), trivial⟩ fun a w h => then_normal (wp_seq ?_)
          refine at_regq [] { ts := [2, 3, 4, 6, 8, 9, 10, 13, 14, 17, 18], os := [1, 2, 5, 6, 7, 8, 9, 14, 15, 16, 17, 18] } [] gamOK hT h (by kernel_rfl) trivial fun a w h => then_normal (wp_seq ?_)
          refine at_regq [] { ts := [2, 3, 4, 6, 8, 9, 10, 13, 14, 17, 18], os := [1, 2, 5, 6, 7, 8, 9, 14, 15, 16, 17, 18] } [(pMkT s47) ((Sh.mkT s47) (sysP x0 x1 x2).1 1) 1] gamOK hT h (by kernel_rfl) ⟨(by (show (0 : Int) ≤ _ ∧ _ + ((Sh.ctT _ _ : Nat) : Int) ≤ (4611686018427387904 : Int); (try simp only [held_marked, held_markedT, mkK, mkKT, Sh.ctT_mkT, Sh.ct_mk]); constructor <;> omega)), trivial⟩ fun a w h => then_normal (wp_seq (wp_seq ?_))
          refine at_regq [] { ts := [2, 3, 4, 6, 8, 9, 10, 13, 14, 17, 18, 114], os := [1, 2, 5, 6, 7, 8, 9, 14, 15, 16, 17, 18] } [] gamOK hT h (by kernel_rfl) trivial fun a w h => then_normal ?_
          refine at_test (decide (((heldDT s47) ((Sh.mkT s47) (sysP x0 x1 x2).1 1) 1) < 0)) h (by kernel_rfl) (fun h10 => ?_) (fun h10 => ?_)
          ·replace h10 : ((heldDT s47) ((Sh.mkT s47) (sysP x0 x1 x2).1 1) 1) < 0 := of_decide_eq_true h10
           refine wp_seq ?_
           refine at_regq [] { ts := [2, 3, 4, 6, 8, 9, 10, 13, 14, 17, 18], os := [1, 2, 5, 6, 7, 8, 9, 14, 15, 16, 17, 18] } [] gamOK hT h (by kernel_rfl) trivial fun a w h => then_normal (wp_ret (then_ret ?_))
           exact at_return (false, ()) [] h (by kernel_rfl) trivial (congrArg (fun z => (z, ())) (show (false) = D_laws_FnExactSystematicPacket x0 x1 x2 from by unfold D_laws_FnExactSystematicPacket; (exfalso; simp only [held_marked, held_markedT, mkK, mkKT, Sh.ctT_mkT, Sh.ct_mk] at h10; first | omega | exact h10 trivial | exact h10 rfl)))
          ·replace h10 : ¬ (((heldDT s47) ((Sh.mkT s47) (sysP x0 x1 x2).1 1) 1) < 0) := of_decide_eq_false h10
           refine wp_skip (then_normal (wp_seq ?_))
           refine at_regq [] { ts := [2, 3, 4, 6, 8, 9, 10, 13, 14, 17, 18], os := [1, 2, 5, 6, 7, 8, 9, 14, 15, 16, 17, 18] } [(pMkT s49) ((Sh.mkT s49) (sysP x0 x1 x2).2.1 ((mkKT s47) (sysP x0 x1 x2).1 1)) ((heldDT s47) ((Sh.mkT s47) (sysP x0 x1 x2).1 1) 1)] gamOK hT h (by kernel_rfl) ⟨(by (show (0 : Int) ≤ _ ∧ _ + ((Sh.ctT _ _ : Nat) : Int) ≤ (4611686018427387904 : Int); (try simp only [held_marked, held_markedT, mkK, mkKT, Sh.ctT_mkT, Sh.ct_mk]); constructor <;> omega)), trivial⟩ fun a w h => then_normal (wp_seq (wp_seq ?_))
           refine at_regq [] { ts := [2, 3, 4, 6, 8, 9, 10, 13, 14, 17, 18, 119], os := [1, 2, 5, 6, 7, 8, 9, 14, 15, 16, 17, 18] } [] gamOK hT h (by kernel_rfl) trivial fun a w h => then_normal ?_
           refine at_test (decide (((heldDT s49) ((Sh.mkT s49) (sysP x0 x1 x2).2.1 ((mkKT s47) (sysP x0 x1 x2).1 1)) ((heldDT s47) ((Sh.mkT s47) (sysP x0 x1 x2).1 1) 1)) < 0)) h (by kernel_rfl) (fun h11 => ?_) (fun h11 => ?_)
           ·replace h11 : ((heldDT s49) ((Sh.mkT s49) (sysP x0 x1 x2).2.1 ((mkKT s47) (sysP x0 x1 x2).1 1)) ((heldDT s47) ((Sh.mkT s47) (sysP x0 x1 x2).1 1) 1)) < 0 := of_decide_eq_true h11
            refine wp_seq ?_
            refine at_regq [] { ts := [2, 3, 4, 6, 8, 9, 10, 13, 14, 17, 18], os := [1, 2, 5, 6, 7, 8, 9, 14, 15, 16, 17, 18] } [] gamOK hT h (by kernel_rfl) trivial fun a w h => then_normal (wp_ret (then_ret ?_))
            exact at_return (false, ()) [] h (by kernel_rfl) trivial (congrArg (fun z => (z, ())) (show (false) = D_laws_FnExactSystematicPacket x0 x1 x2 from by unfold D_laws_FnExactSystematicPacket; (exfalso; simp only [held_marked, held_markedT, mkK, mkKT, Sh.ctT_mkT, Sh.ct_mk] at h11; first | omega | exact h11 trivial | exact h11 rfl)))
           ·replace h11 : ¬ (((heldDT s49) ((Sh.mkT s49) (sysP x0 x1 x2).2.1 ((mkKT s47) (sysP x0 x1 x2).1 1)) ((heldDT s47) ((Sh.mkT s47) (sysP x0 x1 x2).1 1) 1)) < 0) := of_decide_eq_false h11
            refine wp_skip (then_normal (wp_seq (wp_seq ?_)))
            refine at_regq [] { ts := [2, 3, 4, 6, 8, 9, 10, 13, 14, 17, 122], os := [1, 2, 5, 6, 7, 8, 9, 14, 15, 16, 17, 18] } [] gamOK hT h (by kernel_rfl) trivial fun a w h => then_normal ?_
            refine at_test (!decide (((heldDT s49) ((Sh.mkT s49) (sysP x0 x1 x2).2.1 ((mkKT s47) (sysP x0 x1 x2).1 1)) ((heldDT s47) ((Sh.mkT s47) (sysP x0 x1 x2).1 1) 1)) = ((mkKT s49) (sysP x0 x1 x2).2.1 ((mkKT s47) (sysP x0 x1 x2).1 1)))) h (by kernel_rfl) (fun h12 => ?_) (fun h12 => ?_)
            ·replace h12 : ¬ (((heldDT s49) ((Sh.mkT s49) (sysP x0 x1 x2).2.1 ((mkKT s47) (sysP x0 x1 x2).1 1)) ((heldDT s47) ((Sh.mkT s47) (sysP x0 x1 x2).1 1) 1)) = ((mkKT s49) (sysP x0 x1 x2).2.1 ((mkKT s47) (sysP x0 x1 x2).1 1))) := of_decide_eq_false (notT h12)
             refine wp_seq ?_
             refine at_regq [] { ts := [2, 3, 4, 6, 8, 9, 10, 13, 14, 17], os := [1, 2, 5, 6, 7, 8, 9, 14, 15, 16, 17, 18] } [] gamOK hT h (by kernel_rfl) trivial fun a w h => then_normal (wp_ret (then_ret ?_))
             exact at_return (false, ()) [] h (by kernel_rfl) trivial (congrArg (fun z => (z, ())) (show (false) = D_laws_FnExactSystematicPacket x0 x1 x2 from by unfold D_laws_FnExactSystematicPacket; (exfalso; simp only [held_marked, held_markedT, mkK, mkKT, Sh.ctT_mkT, Sh.ct_mk] at h12; first | omega | exact h12 trivial | exact h12 rfl)))
            ·replace h12 : ((heldDT s49) ((Sh.mkT s49) (sysP x0 x1 x2).2.1 ((mkKT s47) (sysP x0 x1 x2).1 1)) ((heldDT s47) ((Sh.mkT s47) (sysP x0 x1 x2).1 1) 1)) = ((mkKT s49) (sysP x0 x1 x2).2.1 ((mkKT s47) (sysP x0 x1 x2).1 1)) := of_decide_eq_true (notF h12)
             refine wp_skip (then_normal (wp_seq ?_))
             refine at_anyq [{}, { ids := [21] }, {}, { ids := [22] }, {}, { ids := [23, 24, 25] }, {}, {}, {}, {}, { ids := [26] }, { ids := [27] }, {}, {}, {}] { ts := [6, 8, 9, 10, 13, 14, 17, 19, 20, 21], os := [5, 6, 7, 8, 9, 14, 15, 16, 17, 18, 23, 24, 25, 26, 27] } [(pTo s39) x0, (pTo s42) x1, Q_impl_SystematicPacket x0 x1 x2] gamOK hT mixed h (by kernel_rfl) ⟨(by (show Sh.sz _ _ ≤ 1048576; omega)), (by (show Sh.sz _ _ ≤ 1048576; omega)), (by exact ⟨(Sh.fit_of_sz s52 rfl (x := x0) (by omega)), (Sh.fit_of_sz s47 rfl (x := x1) (by omega))⟩), trivial⟩ fun a w h => then_normal (wp_seq (wp_seq ?_))
             refine at_regq [{}, {}, {}, { hint := some (aB false) }, {}, {}, {}, {}, { hint := some (aB false) }] { ts := [6, 13, 14, 17, 147], os := [14, 15, 16, 17, 18] } [True, (AV.p (.c (.v (.bool (!((Sh.eqB s47) (sysP x0 x1 x2).1 (sysP x0 x1 x2).1))))) = AV.p (.c (.v (.bool false)))), True, (AV.p (.c (.v (.bool (!((Sh.eqB s49) (sysP x0 x1 x2).2.1 (sysP x0 x1 x2).2.1))))) = AV.p (.c (.v (.bool false))))] gamOK hT h (by kernel_rfl) ⟨trivial, hint_bool (h3), trivial, hint_bool (h4), trivial⟩ fun a w h => then_normal ?_
             refine at_test (!((sysP x0 x1 x2).2.2 == (sysP x0 x1 x2).2.2)) h (by kernel_rfl) (fun h13 => ?_) (fun h13 => ?_)
             ·replace h13 : ((sysP x0 x1 x2).2.2 == (sysP x0 x1 x2).2.2) = false := notT h13
              refine wp_seq ?_
              refine at_regq [] { ts := [6, 13, 14, 17], os := [14, 15, 16, 17, 18] } [] gamOK hT h (by kernel_rfl) trivial fun a w h => then_normal (wp_ret (then_ret ?_))
              exact at_return (false, ()) [] h (by kernel_rfl) trivial (congrArg (fun z => (z, ())) (show (false) = D_laws_FnExactSystematicPacket x0 x1 x2 from by unfold D_laws_FnExactSystematicPacket; exact absurd (beqT (show _ = _ from by first | rfl | (rfl))) (neT h13)))
             ·replace h13 : ((sysP x0 x1 x2).2.2 == (sysP x0 x1 x2).2.2) = true := notF h13
              refine wp_skip (then_normal (wp_seq ?_))
              refine at_regq [] { ts := [6, 13, 14, 17, 18], os := [14, 15, 16, 17, 18] } [] gamOK hT h (by kernel_rfl) trivial fun a w h => then_normal (wp_seq ?_)
              refine at_regq [] { ts := [6, 14, 17, 18], os := [15, 16, 18] } [(pMkT s47) ((Sh.mkT s47) (sysP x0 x1 x2).1 1) 1] gamOK hT h (by kernel_rfl) ⟨(by (show (0 : Int) ≤ _ ∧ _ + ((Sh.ctT _ _ : Nat) : Int) ≤ (4611686018427387904 : Int); (try simp only [held_marked, held_markedT, mkK, mkKT, Sh.ctT_mkT, Sh.ct_mk]); constructor <;> omega)), trivial⟩ fun a w h => then_normal (wp_seq (wp_seq ?_))
              refine at_reg [] { ts := [6, 14, 17, 18, 152], os := [15, 16, 18] } ⟨[(6, aB false), (14, aP 18 0), (17, aI ((mkKT s49) (sysP x0 x1 x2).2.1 ((mkKT s47) (sysP x0 x1 x2).1 1))), (18, aI ((heldDT s47) ((Sh.mkT s47) (sysP x0 x1 x2).1 1) 1)), (152, aB (decide (((heldDT s47) ((Sh.mkT s47) (sysP x0 x1 x2).1 1) 1) < 0)))], [(15, oR (.int 3) ((Sh.mkT s49) (sysP x0 x1 x2).2.1 ((mkKT s47) (sysP x0 x1 x2).1 1)).2.1), (16, oR (.int 3) ((Sh.mkT s49) (sysP x0 x1 x2).2.1 ((mkKT s47) (sysP x0 x1 x2).1 1)).2.2), (18, oX 49 [cI (sysP x0 x1 x2).2.1.1, .sl 15, .sl 16])]⟩ [] gamOK hT h (by kernel_rfl) trivial fun a w h => then_normal ?_
              refine at_test (decide (((heldDT s47) ((Sh.mkT s47) (sysP x0 x1 x2).1 1) 1) < 0)) h (by kernel_rfl) (fun h14 => ?_) (fun h14 => ?_)
              ·replace h14 : ((heldDT s47) ((Sh.mkT s47) (sysP x0 x1 x2).1 1) 1) < 0 := of_decide_eq_true h14
               refine wp_seq ?_
               refine at_regq [] { ts := [6, 14, 17, 18], os := [15, 16, 18] } [] gamOK hT h (by kernel_rfl) trivial fun a w h => then_normal (wp_ret (then_ret ?_))
               exact at_return (false, ()) [] h (by kernel_rfl) trivial (congrArg (fun z => (z, ())) (show (false) = D_laws_FnExactSystematicPacket x0 x1 x2 from by unfold D_laws_FnExactSystematicPacket; (exfalso; simp only [held_marked, held_markedT, mkK, mkKT, Sh.ctT_mkT, Sh.ct_mk] at h14; first | omega | exact h14 trivial | exact h14 rfl)))
              ·replace h14 : ¬ (((heldDT s47) ((Sh.mkT s47) (sysP x0 x1 x2).1 1) 1) < 0) := of_decide_eq_false h14
               refine wp_skip (then_normal (wp_seq ?_))
               refine at_regq [] { ts := [6, 17, 18], os := [] } [(pMkT s49) ((Sh.mkT s49) (sysP x0 x1 x2).2.1 ((mkKT s47) (sysP x0 x1 x2).1 1)) ((heldDT s47) ((Sh.mkT s47) (sysP x0 x1 x2).1 1) 1)] gamOK hT h (by kernel_rfl) ⟨(by (show (0 : Int) ≤ _ ∧ _ + ((Sh.ctT _ _ : Nat) : Int) ≤ (4611686018427387904 : Int); (try simp only [held_marked, held_markedT, mkK, mkKT, Sh.ctT_mkT, Sh.ct_mk]); constructor <;> omega)), trivial⟩ fun a w h => then_normal (wp_seq (wp_seq ?_))
               refine at_regq [] { ts := [6, 17, 18, 157], os := [] } [] gamOK hT h (by kernel_rfl) trivial fun a w h => then_normal ?_
               refine at_test (decide (((heldDT s49) ((Sh.mkT s49) (sysP x0 x1 x2).2.1 ((mkKT s47) (sysP x0 x1 x2).1 1)) ((heldDT s47) ((Sh.mkT s47) (sysP x0 x1 x2).1 1) 1)) < 0)) h (by kernel_rfl) (fun h15 => ?_) (fun h15 => ?_)
               ·replace h15 : ((heldDT s49) ((Sh.mkT s49) (sysP x0 x1 x2).2.1 ((mkKT s47) (sysP x0 x1 x2).1 1)) ((heldDT s47) ((Sh.mkT s47) (sysP x0 x1 x2).1 1) 1)) < 0 := of_decide_eq_true h15
                refine wp_seq ?_
                refine at_regq [] { ts := [6, 17, 18], os := [] } [] gamOK hT h (by kernel_rfl) trivial fun a w h => then_normal (wp_ret (then_ret ?_))
                exact at_return (false, ()) [] h (by kernel_rfl) trivial (congrArg (fun z => (z, ())) (show (false) = D_laws_FnExactSystematicPacket x0 x1 x2 from by unfold D_laws_FnExactSystematicPacket; (exfalso; simp only [held_marked, held_markedT, mkK, mkKT, Sh.ctT_mkT, Sh.ct_mk] at h15; first | omega | exact h15 trivial | exact h15 rfl)))
               ·replace h15 : ¬ (((heldDT s49) ((Sh.mkT s49) (sysP x0 x1 x2).2.1 ((mkKT s47) (sysP x0 x1 x2).1 1)) ((heldDT s47) ((Sh.mkT s47) (sysP x0 x1 x2).1 1) 1)) < 0) := of_decide_eq_false h15
                refine wp_skip (then_normal (wp_seq (wp_seq ?_)))
                refine at_regq [] { ts := [6, 160], os := [] } [] gamOK hT h (by kernel_rfl) trivial fun a w h => then_normal ?_
                refine at_test (!decide (((heldDT s49) ((Sh.mkT s49) (sysP x0 x1 x2).2.1 ((mkKT s47) (sysP x0 x1 x2).1 1)) ((heldDT s47) ((Sh.mkT s47) (sysP x0 x1 x2).1 1) 1)) = ((mkKT s49) (sysP x0 x1 x2).2.1 ((mkKT s47) (sysP x0 x1 x2).1 1)))) h (by kernel_rfl) (fun h16 => ?_) (fun h16 => ?_)
                ·replace h16 : ¬ (((heldDT s49) ((Sh.mkT s49) (sysP x0 x1 x2).2.1 ((mkKT s47) (sysP x0 x1 x2).1 1)) ((heldDT s47) ((Sh.mkT s47) (sysP x0 x1 x2).1 1) 1)) = ((mkKT s49) (sysP x0 x1 x2).2.1 ((mkKT s47) (sysP x0 x1 x2).1 1))) := of_decide_eq_false (notT h16)
                 refine wp_seq ?_
                 refine at_regq [] { ts := [6], os := [] } [] gamOK hT h (by kernel_rfl) trivial fun a w h => then_normal (wp_ret (then_ret ?_))
                 exact at_return (false, ()) [] h (by kernel_rfl) trivial (congrArg (fun z => (z, ())) (show (false) = D_laws_FnExactSystematicPacket x0 x1 x2 from by unfold D_laws_FnExactSystematicPacket; (exfalso; simp only [held_marked, held_markedT, mkK, mkKT, Sh.ctT_mkT, Sh.ct_mk] at h16; first | omega | exact h16 trivial | exact h16 rfl)))
                ·replace h16 : ((heldDT s49) ((Sh.mkT s49) (sysP x0 x1 x2).2.1 ((mkKT s47) (sysP x0 x1 x2).1 1)) ((heldDT s47) ((Sh.mkT s47) (sysP x0 x1 x2).1 1) 1)) = ((mkKT s49) (sysP x0 x1 x2).2.1 ((mkKT s47) (sysP x0 x1 x2).1 1)) := of_decide_eq_true (notF h16)
                 refine wp_skip (then_normal (wp_seq ?_))
                 refine at_regq [] { ts := [6], os := [] } [] gamOK hT h (by kernel_rfl) trivial fun a w h => then_normal (wp_ret ?_)
                 exact at_return (true, ()) [] h (by kernel_rfl) trivial (congrArg (fun z => (z, ())) (show (true) = D_laws_FnExactSystematicPacket x0 x1 x2 from by unfold D_laws_FnExactSystematicPacket; rfl))

theorem opn3 : OpensS Tryz.prog 3 (.int 3) := opensS_int Tryz.underlying3
theorem co3 : Tryz.prog.cellsOf 3 = 1 := by kernel_rfl
theorem opn22 : OpensS Tryz.prog 22 s22 := opensS_slice (a := (.int 3)) Tryz.underlying22 co3 opn3
theorem co22 : Tryz.prog.cellsOf 22 = 1 := by kernel_rfl
theorem opn37 : OpensS Tryz.prog 37 s37 := opensS_slice (a := s22) Tryz.underlying37 co22 opn22
theorem co37 : Tryz.prog.cellsOf 37 = 1 := by kernel_rfl
theorem co39 : Tryz.prog.cellsOf 39 = 2 := by kernel_rfl
theorem opn39 : OpensS Tryz.prog 39 s39 := by
  intro H enc w base spare held fuel cs x h
  obtain ⟨xs, n, _, _, hl, hlen, hf⟩ := DataW.trod_struct Tryz.underlying39 h
  obtain ⟨a0, k0, i0⟩ := opensS_field (a := (.int 3)) (i := 0) 0 1 hf hlen rfl rfl rfl co3 opn3
  obtain ⟨a1, k1, i1⟩ := opensS_field (a := s37) (i := 1) 1 1 hf hlen rfl rfl rfl co37 opn37
  rw [co39] at hl
  exact ⟨(a0, a1), (rdS_pair (off := 0) k0 (rdS_last (off := 1) k1 (by omega))), ⟨i0, i1⟩⟩
theorem co147 : Tryz.prog.cellsOf 147 = 3 := by kernel_rfl
theorem opn147 : OpensS Tryz.prog 147 s147 := by
  intro H enc w base spare held fuel cs x h
  obtain ⟨xs, n, _, _, hl, hlen, hf⟩ := DataW.trod_struct Tryz.underlying147 h
  obtain ⟨a0, k0, i0⟩ := opensS_field (a := (.int 3)) (i := 0) 0 1 hf hlen rfl rfl rfl co3 opn3
  obtain ⟨a1, k1, i1⟩ := opensS_field (a := s22) (i := 1) 1 1 hf hlen rfl rfl rfl co22 opn22
  obtain ⟨a2, k2, i2⟩ := opensS_field (a := s22) (i := 2) 2 1 hf hlen rfl rfl rfl co22 opn22
  rw [co147] at hl
  exact ⟨(a0, (a1, a2)), (rdS_pair (off := 0) k0 (rdS_pair (off := 1) k1 (rdS_last (off := 2) k2 (by omega)))), ⟨i0, ⟨i1, i2⟩⟩⟩
theorem opn40 : OpensS Tryz.prog 40 s40 := opensS_slice (a := s147) Tryz.underlying40 co147 opn147
theorem co40 : Tryz.prog.cellsOf 40 = 1 := by kernel_rfl
theorem co42 : Tryz.prog.cellsOf 42 = 5 := by kernel_rfl
theorem opn42 : OpensS Tryz.prog 42 s42 := by
  intro H enc w base spare held fuel cs x h
  obtain ⟨xs, n, _, _, hl, hlen, hf⟩ := DataW.trod_struct Tryz.underlying42 h
  obtain ⟨a0, k0, i0⟩ := opensS_field (a := (.int 3)) (i := 0) 0 1 hf hlen rfl rfl rfl co3 opn3
  obtain ⟨a1, k1, i1⟩ := opensS_field (a := (.int 3)) (i := 1) 1 1 hf hlen rfl rfl rfl co3 opn3
  obtain ⟨a2, k2, i2⟩ := opensS_field (a := (.int 3)) (i := 2) 2 1 hf hlen rfl rfl rfl co3 opn3
  obtain ⟨a3, k3, i3⟩ := opensS_field (a := s40) (i := 3) 3 1 hf hlen rfl rfl rfl co40 opn40
  obtain ⟨a4, k4, i4⟩ := opensS_field (a := (.int 3)) (i := 4) 4 1 hf hlen rfl rfl rfl co3 opn3
  rw [co42] at hl
  exact ⟨(a0, (a1, (a2, (a3, a4)))), (rdS_pair (off := 0) k0 (rdS_pair (off := 1) k1 (rdS_pair (off := 2) k2 (rdS_pair (off := 3) k3 (rdS_last (off := 4) k4 (by omega)))))), ⟨i0, ⟨i1, ⟨i2, ⟨i3, i4⟩⟩⟩⟩⟩
namespace fnExactSystematicPacket
open Go.ChangeShapes Go.WideShapes Go.ChangeAt Go.RowKit
theorem own : ownKnob Tryz.prog.godebug = none := by kernel_rfl
theorem laidOut : laidOutB Tryz.prog = true := fxLaid
set_option maxRecDepth 100000 in
theorem lifted (os : Os) (started : os.Started) (H : Type) (enc : TypeId × Value → H) :
    ReturnsInHanded {} Tryz.checked os 4 .any (Rows.fnExactSystematicPacketSpec.pre6 enc Tryz.prog Tryz.f4 Rows.fnExactSystematicPacketRow.domain false) (Rows.fnExactSystematicPacketSpec.post enc Tryz.prog Tryz.f4 false true false false) := by
  refine returnsInHanded_of_change (C := Tryz.checked) own started (by kernel_rfl) Tryz.func4
    (ChangeSpec.witness6 (enc := enc) (C := Tryz.checked) false ⟨#[], #[.agg #[.int .i64 0, .slice none 0 0], .agg #[.int .i64 0, .int .i64 0, .int .i64 0, .slice none 0 0, .int .i64 0], .int .i64 0], []⟩ 8 (by kernel_rfl) (by kernel_rfl) (by kernel_rfl) (by kernel_rfl)) ?_
  intro W base args ds gs before hval0 hW hcnd _
  have hval : ∀ (j : Nat) t v, Tryz.f4.params[j]? = some t → args[j]? = some v → Value.okWide Tryz.prog W .any base t v := hval0
  have hW' := hW
  obtain ⟨p, q, hA0, hV, rfl, hfz, hnd⟩ := hW
  have hA : DataW.TrodAll enc Tryz.prog W 0 (fun _ => true) true Tryz.f4.params.toList args.toList ds p := hA0
  rw [Tryz.params4] at hA hval
  obtain ⟨v0, vs0, d0, ds0, p0, q0, hargs, rfl, rfl, h0, r0⟩ := trodAll_cons hA
  obtain ⟨v1, vs1, d1, ds1, p1, q1, rfl, rfl, rfl, h1, r1⟩ := trodAll_cons r0
  obtain ⟨v2, vs2, d2, ds2, p2, q2, rfl, rfl, rfl, h2, r2⟩ := trodAll_cons r1
  obtain ⟨rfl, rfl, rfl⟩ := trodAll_nil r2
  obtain rfl : args = #[v0, v1, v2] := by cases args; simp_all
  obtain ⟨rfl, rfl⟩ := trodVars_none hV
  have k0 := h0
  have lt0 : ∀ x ∈ p0, x.block < W.heap.size := by obtain ⟨m, hm⟩ := k0; exact DataW.trod_lt m _ _ _ hm
  obtain ⟨cs0, rfl, _⟩ := okWide_struct Tryz.underlying39 (hval 0 39 v0 rfl rfl)
  obtain ⟨cs0⟩ := cs0
  obtain ⟨x0, hx0, i0⟩ : ∃ x : (s39).D, (s39).rd W (fun b => b < W.heap.size) cs0 x ∧ (s39).i64 x := by obtain ⟨fuel, hf⟩ := h0; exact opn39 hf
  have k1 := h1
  have lt1 : ∀ x ∈ p1, x.block < W.heap.size := by obtain ⟨m, hm⟩ := k1; exact DataW.trod_lt m _ _ _ hm
  obtain ⟨cs1, rfl, _⟩ := okWide_struct Tryz.underlying42 (hval 1 42 v1 rfl rfl)
  obtain ⟨cs1⟩ := cs1
  obtain ⟨x1, hx1, i1⟩ : ∃ x : (s42).D, (s42).rd W (fun b => b < W.heap.size) cs1 x ∧ (s42).i64 x := by obtain ⟨fuel, hf⟩ := h1; exact opn42 hf
  have k2 := h2
  have lt2 : ∀ x ∈ p2, x.block < W.heap.size := by obtain ⟨m, hm⟩ := k2; exact DataW.trod_lt m _ _ _ hm
  obtain ⟨a2, rfl, rfl, rfl, w2⟩ := open_int Tryz.underlying3 (hval 2 3 v2 rfl rfl) h2
  clear hA0 hval0
  refine (calls_law S_laws_FnExactSystematicPacket_ok (by kernel_rfl) W (fun b => b < W.heap.size) [.agg cs0.toArray, .agg cs1.toArray, .int .i64 a2] (x0, x1, a2, ()) (fun _ h => h) ⟨argRd_st hx0, argRd_st hx1, argRd_int a2, trivial⟩ ⟨i0, i1, (show I64 a2 from by unfold I64; simpa [Lit.wf, IntKind.min, IntKind.max, IntKind.signed, IntKind.bits] using w2)⟩).mono fun e W' hr => ?_
  obtain ⟨he, bel⟩ := ret_bool hr
  subst he
  exact ⟨_, rfl, _, _, _, [], _, [], hW', trodAll_mk1 (shut_bool Tryz.underlying4 _), (trodAll_cons_mk (Below.trod laidOut (by kernel_rfl) (of_decide_eq_true (by kernel_rfl)) k0 bel lt0) (trodAll_cons_mk (Below.trod laidOut (by kernel_rfl) (of_decide_eq_true (by kernel_rfl)) k1 bel lt1) (trodAll_cons_mk (Below.trod laidOut (by kernel_rfl) (of_decide_eq_true (by kernel_rfl)) k2 bel lt2) trodAll_mk0))), rfl, bel.frame _, fun h => by cases h⟩
theorem closed : joinedFacts Tryz.prog 4 Tryz.f4 (Rows.fnExactSystematicPacketSpec) Rows.fnExactSystematicPacketRow = true := by
  unfold joinedFacts
  exact (and2 (and2 (and2 (and2 (and2 (and2 (and2 (and2 (and2 (and2 (and2 (and2 (and2 (and2 (and2 (and2 (and2 (and2 (and2 (and2 (and2 (and2 (and2 (and2 (and2 (and2 (and2 (and2 (and2 (and2 (and2 (by kernel_rfl) fxLaid) fxMaps) (by kernel_rfl)) (by kernel_rfl)) (by kernel_rfl)) (by kernel_rfl)) (by kernel_rfl)) (by kernel_rfl)) (by kernel_rfl)) (by kernel_rfl)) (by kernel_rfl)) (by kernel_rfl)) (by kernel_rfl)) (by kernel_rfl)) (by kernel_rfl)) (by kernel_rfl)) (by kernel_rfl)) (by kernel_rfl)) (by kernel_rfl)) (by kernel_rfl)) (by kernel_rfl)) (by kernel_rfl)) (by kernel_rfl)) (by kernel_rfl)) fxEnter) (by rw [fxLifts]; kernel_rfl)) (by rw [fxMake]; kernel_rfl)) (by kernel_rfl)) (by kernel_rfl)) (by kernel_rfl)) (by kernel_rfl))
theorem over : Rows.fnExactSystematicPacketRow.holds Tryz.pinned (OpenSpec.ofChange Rows.fnExactSystematicPacketSpec) :=
  OpenClaim.holds_of_wide 4 Tryz.f4 rfl rfl rfl rfl rfl rfl rfl ⟨rfl, rfl, rfl, rfl, rfl⟩ rfl rfl rfl rfl rfl (by kernel_rfl) Tryz.func4 closed
    (of_decide_eq_true (by kernel_rfl)) (by unfold Func.isWrapper; first | (rw [if_pos (by decide +kernel)]; kernel_rfl) | (rw [if_neg (by decide +kernel)]; exact ⟨rfl, rfl⟩))
    (fun os started H enc _ => lifted os started H enc)
/-- the statement -/
theorem proved : Rows.FnExactSystematicPacketSaid := over
end fnExactSystematicPacket

end Go.Proofs.YtdmkjcnppgfeoaaGreat

/- The law FnExactRelayRank returns true for every input and leaves its arguments as they were. No condition. -/
import Derived.Test.YtkialoggpcdhkaaRelayRank2
import Derived.Test.YtkialoggpcdhkaaLA
import Derived.Test.YtkialoggpcdhkaaProg
import Derived.Test.YtkialoggpcdhkaaRows
import Derived.Test.YtkialoggpcdhkaaFX
namespace Go.Proofs.Ytkialoggpcdhkaa
open Go.RowKit
set_option linter.unusedVariables false
set_option linter.unusedSimpArgs false
def S_impl_IsValidRecoder : Sum := { fid := 139, dom := [s122], cod := [(.bool 4)], dp := true, fz := false, pre := fun x => (fun (x0 : T122) => Sh.fit s122 x0) x.1, g := fun x => ((validR x.1), ()) }
def S_impl_IsValidRecoder_tab : List (Nat × Sum) := [(196, S_impl_isFormat), (140, S_impl_InRange), (205, S_impl_NewBasis), (179, S_impl_IsValidPacket), (151, S__P_impl_Basis_insert)]
theorem S_impl_IsValidRecoder_ok : FnOK Try.prog 139 S_impl_IsValidRecoder := by
  refine at_enter 57 (fun x => ⟨[(0, aG [cI x.1.1, cI x.1.2.1, cI x.1.2.2.1, .ro s126 x.1.2.2.2.1, cI x.1.2.2.2.2])], []⟩) Try.func139 rfl (by kernel_rfl) (fun x => rfl) ?_
  rintro w0 Z0 ⟨x0, u⟩ a w
  revert x0
  intro (x0 : T122) hpre hlens h
  replace h : At w0 Z0 [] 57 ⟨[(0, aG [cI x0.1, cI x0.2.1, cI x0.2.2.1, .ro s126 x0.2.2.2.1, cI x0.2.2.2.2])], []⟩ a w := h
  replace hpre : (fun (x0 : T122) => Sh.fit s122 x0) x0 := hpre
  have hl1 : List.length x0.2.2.2.1 ≤ 9223372036854775807 := hlens.1.2.2.2.1.1
  have hT : TabOK Try.prog S_impl_IsValidRecoder_tab := (.cons S_impl_isFormat_ok (.cons S_impl_InRange_ok (.cons S_impl_NewBasis_ok (.cons S_impl_IsValidPacket_ok (.cons S__P_impl_Basis_insert_ok .nil)))))
  have hf0 : Sh.fit s122 x0 := hpre
  have hn0_1 : List.length x0.2.2.2.1 ≤ 1073741824 := hf0.2.2.2.1.1
  refine wp_seq ?_
  refine at_regq [{ ids := [1] }] { ts := [1, 2], os := [1] } [] gamOK hT h (by kernel_rfl) trivial ?_
  intro a w h
  refine then_normal ?_
  refine wp_seq ?_
  refine wp_seq ?_
  rcases Bool.eq_false_or_eq_true (!(isFmt x0.1 x0.2.1 x0.2.2.1)) with h1 | h1
  · skip
    have hzh1 : (isFmt x0.1 x0.2.1 x0.2.2.1) = false := notT h1
    refine at_regq [{}, {}, {}, {}, {}, {}, {}, { hint := some (aB true) }] { ts := [1, 2, 25], os := [1] } [True, (AV.p (.c (.v (.bool (!(isFmt x0.1 x0.2.1 x0.2.2.1))))) = AV.p (.c (.v (.bool true))))] gamOK hT h (by kernel_rfl) ⟨trivial, hint_bool (h1), trivial⟩ ?_
    intro a w h
    refine then_normal ?_
    refine at_test true h (by kernel_rfl) (fun hh => ?_) (fun hh => nomatch hh)
    refine wp_seq ?_
    refine at_regq [] { ts := [1, 2], os := [1] } [] gamOK hT h (by kernel_rfl) trivial ?_
    intro a w h
    refine then_normal ?_
    refine wp_ret ?_
    refine then_ret ?_
    exact at_return (S := S_impl_IsValidRecoder) (x := (x0, ())) (false, ()) [] h (by kernel_rfl) trivial (congrArg (fun z => (z, ())) (show (false) = validR x0 from by (first | (rw [← validR_y (by assumption) (by omega) (by assumption)]; symm; assumption) | exact validR_n (by first | (left; assumption) | (right; left; omega) | (right; right; left; assumption) | (right; right; right; assumption) | (right; right; right; exact ok_rec (by assumption))))))
  · skip
    have hzh1 : (isFmt x0.1 x0.2.1 x0.2.2.1) = true := notF h1
    have hvh1 := isFmt_t (notF h1)
    by_cases h2 : ((List.length x0.2.2.2.1 : Nat) : Int) > 8
    · skip
      refine at_regq [{}, {}, {}, {}, {}, {}, {}, { hint := some (aB false) }, {}, {}, {}, {}, { hint := some (aB true) }] { ts := [1, 2, 25], os := [1] } [True, (AV.p (.c (.v (.bool (!(isFmt x0.1 x0.2.1 x0.2.2.1))))) = AV.p (.c (.v (.bool false)))), (AV.p (.c (.v (.bool (decide (((List.length x0.2.2.2.1 : Nat) : Int) > 8))))) = AV.p (.c (.v (.bool true))))] gamOK hT h (by kernel_rfl) ⟨trivial, hint_bool (h1), hint_bool (decide_eq_true h2), trivial⟩ ?_
      intro a w h
      refine then_normal ?_
      refine at_test true h (by kernel_rfl) (fun hh => ?_) (fun hh => nomatch hh)
      refine wp_seq ?_
      refine at_regq [] { ts := [1, 2], os := [1] } [] gamOK hT h (by kernel_rfl) trivial ?_
      intro a w h
      refine then_normal ?_
      refine wp_ret ?_
      refine then_ret ?_
      exact at_return (S := S_impl_IsValidRecoder) (x := (x0, ())) (false, ()) [] h (by kernel_rfl) trivial (congrArg (fun z => (z, ())) (show (false) = validR x0 from by (first | (rw [← validR_y (by assumption) (by omega) (by assumption)]; symm; assumption) | exact validR_n (by first | (left; assumption) | (right; left; omega) | (right; right; left; assumption) | (right; right; right; assumption) | (right; right; right; exact ok_rec (by assumption))))))
    · skip
      refine at_regq [{}, {}, {}, {}, {}, {}, {}, { hint := some (aB false) }, {}, {}, {}, {}, { hint := some (aB false) }] { ts := [1, 2, 25], os := [1] } [True, (AV.p (.c (.v (.bool (!(isFmt x0.1 x0.2.1 x0.2.2.1))))) = AV.p (.c (.v (.bool false)))), (AV.p (.c (.v (.bool (decide (((List.length x0.2.2.2.1 : Nat) : Int) > 8))))) = AV.p (.c (.v (.bool false)))), True] gamOK hT h (by kernel_rfl) ⟨trivial, hint_bool (h1), hint_bool (decide_eq_false h2), trivial, trivial⟩ ?_
      intro a w h
      refine then_normal ?_
      refine at_test (!(inR x0.2.2.2.2 0 1000000000000)) h (by kernel_rfl) (fun h3 => ?_) (fun h3 => ?_)
      · replace h3 : (inR x0.2.2.2.2 0 1000000000000) = false := notT h3
        have hvh3 := inR_f h3
        refine wp_seq ?_
        refine at_regq [] { ts := [1, 2], os := [1] } [] gamOK hT h (by kernel_rfl) trivial ?_
        intro a w h
        refine then_normal ?_
        refine wp_ret ?_
        refine then_ret ?_
        exact at_return (S := S_impl_IsValidRecoder) (x := (x0, ())) (false, ()) [] h (by kernel_rfl) trivial (congrArg (fun z => (z, ())) (show (false) = validR x0 from by (first | (rw [← validR_y (by assumption) (by omega) (by assumption)]; symm; assumption) | exact validR_n (by first | (left; assumption) | (right; left; omega) | (right; right; left; assumption) | (right; right; right; assumption) | (right; right; right; exact ok_rec (by assumption))))))
      · replace h3 : (inR x0.2.2.2.2 0 1000000000000) = true := notF h3
        have hvh3 := inR_t h3
        refine wp_skip ?_
        refine then_normal ?_
        refine wp_seq ?_
        refine at_regq [{}, {}, { ids := [2] }, { ids := [3] }] { ts := [1, 2, 3], os := [1, 2, 3] } [True] gamOK hT h (by kernel_rfl) ⟨trivial, trivial⟩ ?_
        intro a w h
        refine then_normal ?_
        refine wp_seq ?_
        refine wp_seq ?_
        refine at_regq [] { ts := [1, 2, 3, 30, 31, 32], os := [1, 2, 3] } [] gamOK hT h (by kernel_rfl) trivial ?_
        intro a w h
        refine then_normal ?_
        refine wp_block ?_
        replace h := at_out (σ' := ⟨[(1, aP 1 0), (2, aB false), (3, aP 3 0), (30, aF s126 x0.2.2.2.1), (31, aI ((List.length x0.2.2.2.1 : Nat) : Int)), (32, aI 0)], [(1, oX 122 [cI x0.1, cI x0.2.1, cI x0.2.2.1, .ro s126 x0.2.2.2.1, cI x0.2.2.2.2]), (2, oR s22 (newBas x0.2.1).2), (3, oX 105 [cI (newBas x0.2.1).1, .sl 2])]⟩) { ts := [1, 2, 3, 30, 31, 32], os := [1, 2, 3] } h (by kernel_rfl)
        refine at_loop (fun i : Nat => (⟨[(1, aP 1 0), (2, aB false), (3, aP 3 0), (30, aF s126 x0.2.2.2.1), (31, aI ((List.length x0.2.2.2.1 : Nat) : Int)), (32, aI ((i : Nat) : Int))], [(1, oX 122 [cI x0.1, cI x0.2.1, cI x0.2.2.1, .ro s126 x0.2.2.2.1, cI x0.2.2.2.2]), (2, oR s22 (LA.insTo (cofs x0.2.2.2.1) i)), (3, oX 105 [cI x0.2.1, .sl 2])]⟩ : St)) (fun i => (i ≤ (List.length x0.2.2.2.1) ∧ allN (recB x0) i = true)) (fun i => (List.length x0.2.2.2.1) - i) (0) h (st_congr3 (fun (d0 : Int) (d1 : List (List Int)) (d2 : Int) => (⟨[(1, aP 1 0), (2, aB false), (3, aP 3 0), (30, aF s126 x0.2.2.2.1), (31, aI ((List.length x0.2.2.2.1 : Nat) : Int)), (32, aI d2)], [(1, oX 122 [cI x0.1, cI x0.2.1, cI x0.2.2.1, .ro s126 x0.2.2.2.1, cI x0.2.2.2.2]), (2, oR s22 d1), (3, oX 105 [cI d0, .sl 2])]⟩ : St)) (show ((newBas x0.2.1).1 : Int) = x0.2.1 from by first | with_reducible rfl | (first | rfl | (rw [newBas_at (by omega)]; done) | (rw [newBas_at (by omega)]; rfl)) | rfl) (show ((newBas x0.2.1).2 : List (List Int)) = (LA.insTo (cofs x0.2.2.2.1) (0)) from by first | with_reducible rfl | (first | rfl | (rw [newBas_at (by omega)]; done) | (rw [newBas_at (by omega)]; rfl)) | rfl) (show (0 : Int) = (((0) : Nat) : Int) from by first | with_reducible rfl | (first | rfl | (rw [newBas_at (by omega)]; done) | (rw [newBas_at (by omega)]; rfl)) | rfl)) (by exact ⟨Nat.zero_le _, rfl⟩) ?_
        intro i a w hok0 h
        refine wp_seq ?_
        refine at_regq [] { ts := [1, 2, 3, 30, 31, 32, 33], os := [1, 2, 3] } [] gamOK hT h (by kernel_rfl) trivial ?_
        intro a w h
        refine then_normal ?_
        refine wp_seq ?_
        refine at_test (decide (((i : Nat) : Int) < ((List.length x0.2.2.2.1 : Nat) : Int))) h (by kernel_rfl) (fun h4 => ?_) (fun h4 => ?_)
        · replace h4 : ((i : Nat) : Int) < ((List.length x0.2.2.2.1 : Nat) : Int) := of_decide_eq_true h4
          have hred := rec_red (r := x0) hok0.1 hok0.2
          have hbP : basP (x0.2.1, (LA.insTo (cofs x0.2.2.2.1) i)) := ⟨by omega, hred⟩
          refine wp_skip ?_
          refine then_normal ?_
          refine wp_seq ?_
          refine wp_block ?_
          refine wp_seq ?_
          refine at_regq [{}, {}, { ids := [4] }] { ts := [1, 2, 3, 5, 30, 31, 32], os := [1, 2, 3, 4] } [(0 : Int) ≤ ((i : Nat) : Int) ∧ ((i : Nat) : Int) < ((List.length x0.2.2.2.1 : Nat) : Int)] gamOK hT h (by kernel_rfl) ⟨(by refine ⟨?_, ?_⟩ <;> (first | omega | (simp only [lsA]; omega) | (simp; done) | (simp; omega) | done)), trivial⟩ ?_
          intro a w h
          refine then_normal ?_
          refine wp_seq ?_
          rcases Bool.eq_false_or_eq_true (!(validP (x0.2.2.2.1.getD i (0, ([], []))) x0.2.1 x0.2.2.1)) with h5 | h5
          · skip
            have hzh5 : (validP (x0.2.2.2.1.getD i (0, ([], []))) x0.2.1 x0.2.2.1) = false := notT h5
            refine at_regq [{}, {}, {}, {}, {}, {}, { hint := some (aB true) }] { ts := [1, 2, 3, 30, 31, 32, 44, 45, 46, 47, 48, 51, 52, 53, 54, 55], os := [1, 2, 3] } [(fun (x0 : T126) (x1 : Int) (x2 : Int) => Sh.fit s126 x0) (x0.2.2.2.1.getD i (0, ([], []))) x0.2.1 x0.2.2.1, (AV.p (.c (.v (.bool (!(validP (x0.2.2.2.1.getD i (0, ([], []))) x0.2.1 x0.2.2.1))))) = AV.p (.c (.v (.bool true))))] gamOK hT h (by kernel_rfl) ⟨(by exact (Sh.fit_getD hf0.2.2.2.1 i)), hint_bool (h5), trivial⟩ ?_
            intro a w h
            refine then_normal ?_
            refine at_test true h (by kernel_rfl) (fun hh => ?_) (fun hh => nomatch hh)
            refine wp_seq ?_
            refine at_regq [] { ts := [1, 2, 3, 30, 31, 32, 44, 45, 46, 47, 48, 51, 52, 53, 54], os := [1, 2, 3] } [] gamOK hT h (by kernel_rfl) trivial ?_
            intro a w h
            refine then_normal ?_
            refine wp_ret ?_
            refine in_ret ?_
            refine then_ret ?_
            have hs6 : (allN (recB x0) (List.length x0.2.2.2.1)) = false := by exact allN_at (i := i) (by omega) (by exact recB_f (by omega) (by first | (left; assumption) | (right; left; omega) | (right; right; assumption)))
            refine then_ret ?_
            refine in_ret ?_
            refine then_ret ?_
            exact at_return (S := S_impl_IsValidRecoder) (x := (x0, ())) (false, ()) [] h (by kernel_rfl) trivial (congrArg (fun z => (z, ())) (show (false) = validR x0 from by (first | (rw [← validR_y (by assumption) (by omega) (by assumption)]; symm; assumption) | exact validR_n (by first | (left; assumption) | (right; left; omega) | (right; right; left; assumption) | (right; right; right; assumption) | (right; right; right; exact ok_rec (by assumption))))))
          · skip
            have hzh5 : (validP (x0.2.2.2.1.getD i (0, ([], []))) x0.2.1 x0.2.2.1) = true := notF h5
            have hvh5 := validP_n (notF h5)
            by_cases h7 : (x0.2.2.2.1.getD i (0, ([], []))).1 = x0.1
            · skip
              refine at_regq [{}, {}, {}, {}, {}, {}, { hint := some (aB false) }, {}, {}, {}, {}, {}, { hint := some (aB false) }, {}, {}, {}, {}, { ids := [5] }] { ts := [1, 2, 3, 30, 31, 32, 44, 45, 46, 47, 48, 51, 52, 53, 54, 55], os := [1, 3, 4, 5] } [(fun (x0 : T126) (x1 : Int) (x2 : Int) => Sh.fit s126 x0) (x0.2.2.2.1.getD i (0, ([], []))) x0.2.1 x0.2.2.1, (AV.p (.c (.v (.bool (!(validP (x0.2.2.2.1.getD i (0, ([], []))) x0.2.1 x0.2.2.1))))) = AV.p (.c (.v (.bool false)))), (AV.p (.c (.v (.bool (!decide ((x0.2.2.2.1.getD i (0, ([], []))).1 = x0.1))))) = AV.p (.c (.v (.bool false)))), (fun (x0 : T105) (x1 : (List Int)) => Sh.fit s105 x0 ∧ Sh.fit s22 x1 ∧ redP x0 x1) (x0.2.1, (LA.insTo (cofs x0.2.2.2.1) i)) (x0.2.2.2.1.getD i (0, ([], []))).2.1] gamOK hT h (by kernel_rfl) ⟨(by exact (Sh.fit_getD hf0.2.2.2.1 i)), hint_bool (h5), hint_bool (ndT h7), (by (have hpv := validP_t (p := (x0.2.2.2.1.getD i (0, ([], [])))) (by assumption); have hrw : LA.VokB x0.2.1.toNat (x0.2.2.2.1.getD i (0, ([], []))).2.1 := ⟨by have := hpv.2.1; omega, (validV_t hpv.2.2.2.1).2.1⟩; exact ⟨basP_fit hbP, fitV hrw (by omega), hbP, hrw⟩)), trivial⟩ ?_
              intro a w h
              refine then_normal ?_
              refine at_test (!(insD (x0.2.1, (LA.insTo (cofs x0.2.2.2.1) i)) (x0.2.2.2.1.getD i (0, ([], []))).2.1)) h (by kernel_rfl) (fun h8 => ?_) (fun h8 => ?_)
              · replace h8 : (insD (x0.2.1, (LA.insTo (cofs x0.2.2.2.1) i)) (x0.2.2.2.1.getD i (0, ([], []))).2.1) = false := notT h8
                refine wp_seq ?_
                refine at_regq [] { ts := [1, 2, 3, 30, 31, 32, 44, 45, 46, 47, 48, 51, 52, 53, 54], os := [1, 3, 4, 5] } [] gamOK hT h (by kernel_rfl) trivial ?_
                intro a w h
                refine then_normal ?_
                refine wp_ret ?_
                refine in_ret ?_
                refine then_ret ?_
                have hs9 : (allN (recB x0) (List.length x0.2.2.2.1)) = false := by exact allN_at (i := i) (by omega) (by exact recB_f (by omega) (by first | (left; assumption) | (right; left; omega) | (right; right; assumption)))
                refine then_ret ?_
                refine in_ret ?_
                refine then_ret ?_
                exact at_return (S := S_impl_IsValidRecoder) (x := (x0, ())) (false, ()) [] h (by kernel_rfl) trivial (congrArg (fun z => (z, ())) (show (false) = validR x0 from by (first | (rw [← validR_y (by assumption) (by omega) (by assumption)]; symm; assumption) | exact validR_n (by first | (left; assumption) | (right; left; omega) | (right; right; left; assumption) | (right; right; right; assumption) | (right; right; right; exact ok_rec (by assumption))))))
              · replace h8 : (insD (x0.2.1, (LA.insTo (cofs x0.2.2.2.1) i)) (x0.2.2.2.1.getD i (0, ([], []))).2.1) = true := notF h8
                refine wp_skip ?_
                refine in_normal ?_
                refine then_normal ?_
                refine at_regq [{ nw := true }] { ts := [1, 2, 3, 30, 31, 32, 44, 45, 46, 47, 48, 51, 52, 53, 54], os := [1, 3, 4, 5] } [I64 (((i : Nat) : Int) + 1)] gamOK hT h (by kernel_rfl) ⟨⟨by first | omega | (simp only [lsA]; omega) | (simp; done) | (simp; omega) | done, by first | omega | (simp only [lsA]; omega) | (simp; done) | (simp; omega) | done⟩, trivial⟩ ?_
                intro a w h
                replace h := at_out (σ' := ⟨[(1, aP 1 0), (2, aB false), (3, aP 3 0), (30, aF s126 x0.2.2.2.1), (31, aI ((List.length x0.2.2.2.1 : Nat) : Int)), (32, aI (((i : Nat) : Int) + 1))], [(1, oX 122 [cI x0.1, cI x0.2.1, cI x0.2.2.1, .ro s126 x0.2.2.2.1, cI x0.2.2.2.2]), (2, oR s22 (insU (x0.2.1, (LA.insTo (cofs x0.2.2.2.1) i)) (x0.2.2.2.1.getD i (0, ([], []))).2.1).2), (3, oX 105 [cI (insU (x0.2.1, (LA.insTo (cofs x0.2.2.2.1) i)) (x0.2.2.2.1.getD i (0, ([], []))).2.1).1, .sl 2])]⟩) { ts := [1, 2, 3, 30, 31, 32], os := [1, 5, 3], rn := [(5, 2)] } h (by kernel_rfl)
                exact ⟨i + 1, at_eq h (st_congr3 (fun (d0 : Int) (d1 : List (List Int)) (d2 : Int) => (⟨[(1, aP 1 0), (2, aB false), (3, aP 3 0), (30, aF s126 x0.2.2.2.1), (31, aI ((List.length x0.2.2.2.1 : Nat) : Int)), (32, aI d2)], [(1, oX 122 [cI x0.1, cI x0.2.1, cI x0.2.2.1, .ro s126 x0.2.2.2.1, cI x0.2.2.2.2]), (2, oR s22 d1), (3, oX 105 [cI d0, .sl 2])]⟩ : St)) (show ((insU (x0.2.1, (LA.insTo (cofs x0.2.2.2.1) i)) (x0.2.2.2.1.getD i (0, ([], []))).2.1).1 : Int) = x0.2.1 from by first | with_reducible rfl | (rfl) | rfl) (show ((insU (x0.2.1, (LA.insTo (cofs x0.2.2.2.1) i)) (x0.2.2.2.1.getD i (0, ([], []))).2.1).2 : List (List Int)) = (LA.insTo (cofs x0.2.2.2.1) (i + 1)) from by first | with_reducible rfl | (exact insTo_next (by omega)) | rfl) (show (((i : Nat) : Int) + 1 : Int) = (((i + 1) : Nat) : Int) from by first | with_reducible rfl | (omega) | rfl)), (by exact ⟨by omega, allN_succ hok0.2 (by exact recB_t (by omega) (by assumption) (by omega) (by assumption))⟩), (by omega)⟩
            · skip
              refine at_regq [{}, {}, {}, {}, {}, {}, { hint := some (aB false) }, {}, {}, {}, {}, {}, { hint := some (aB true) }] { ts := [1, 2, 3, 30, 31, 32, 44, 45, 46, 47, 48, 51, 52, 53, 54, 55], os := [1, 2, 3, 4] } [(fun (x0 : T126) (x1 : Int) (x2 : Int) => Sh.fit s126 x0) (x0.2.2.2.1.getD i (0, ([], []))) x0.2.1 x0.2.2.1, (AV.p (.c (.v (.bool (!(validP (x0.2.2.2.1.getD i (0, ([], []))) x0.2.1 x0.2.2.1))))) = AV.p (.c (.v (.bool false)))), (AV.p (.c (.v (.bool (!decide ((x0.2.2.2.1.getD i (0, ([], []))).1 = x0.1))))) = AV.p (.c (.v (.bool true))))] gamOK hT h (by kernel_rfl) ⟨(by exact (Sh.fit_getD hf0.2.2.2.1 i)), hint_bool (h5), hint_bool (ndF h7), trivial⟩ ?_
              intro a w h
              refine then_normal ?_
              refine at_test true h (by kernel_rfl) (fun hh => ?_) (fun hh => nomatch hh)
              refine wp_seq ?_
              refine at_regq [] { ts := [1, 2, 3, 30, 31, 32, 44, 45, 46, 47, 48, 51, 52, 53, 54], os := [1, 2, 3, 4] } [] gamOK hT h (by kernel_rfl) trivial ?_
              intro a w h
              refine then_normal ?_
              refine wp_ret ?_
              refine in_ret ?_
              refine then_ret ?_
              have hs10 : (allN (recB x0) (List.length x0.2.2.2.1)) = false := by exact allN_at (i := i) (by omega) (by exact recB_f (by omega) (by first | (left; assumption) | (right; left; omega) | (right; right; assumption)))
              refine then_ret ?_
              refine in_ret ?_
              refine then_ret ?_
              exact at_return (S := S_impl_IsValidRecoder) (x := (x0, ())) (false, ()) [] h (by kernel_rfl) trivial (congrArg (fun z => (z, ())) (show (false) = validR x0 from by (first | (rw [← validR_y (by assumption) (by omega) (by assumption)]; symm; assumption) | exact validR_n (by first | (left; assumption) | (right; left; omega) | (right; right; left; assumption) | (right; right; right; assumption) | (right; right; right; exact ok_rec (by assumption))))))
        · replace h4 : ¬ (((i : Nat) : Int) < ((List.length x0.2.2.2.1 : Nat) : Int)) := of_decide_eq_false h4
          refine wp_exit ?_
          refine then_exit ?_
          have hs11 : (allN (recB x0) (List.length x0.2.2.2.1)) = true := by exact allN_eq (by omega) hok0.1 hok0.2
          refine then_exit ?_
          refine in_hit ?_
          refine then_normal ?_
          refine wp_seq ?_
          refine at_regq [] { ts := [2], os := [] } [] gamOK hT h (by kernel_rfl) trivial ?_
          intro a w h
          refine then_normal ?_
          refine wp_ret ?_
          exact at_return (S := S_impl_IsValidRecoder) (x := (x0, ())) (true, ()) [] h (by kernel_rfl) trivial (congrArg (fun z => (z, ())) (show (true) = validR x0 from by (first | (rw [← validR_y (by assumption) (by omega) (by assumption)]; symm; assumption) | exact validR_n (by first | (left; assumption) | (right; left; omega) | (right; right; left; assumption) | (right; right; right; assumption) | (right; right; right; exact ok_rec (by assumption))))))

def D_spec_Rank := (fun (m : List (List Int)) => ((List.length (rowRed m) : Nat) : Int))
def S_spec_Rank : Sum := { fid := 204, dom := [s80], cod := [(.int 3)], dp := true, fz := false, pre := fun x => (fun (x0 : (List (List Int))) => Sh.fit s80 x0) x.1, g := fun x => ((D_spec_Rank x.1), ()) }
def S_spec_Rank_tab : List (Nat × Sum) := [(245, S_spec_RowReduce)]
theorem S_spec_Rank_ok : FnOK Try.prog 204 S_spec_Rank := by
  refine at_enter 6 (fun x => ⟨[(0, aF s22 x.1)], []⟩) Try.func204 rfl (by kernel_rfl) (fun x => rfl) ?_
  rintro w0 Z0 ⟨x0, u⟩ a w
  revert x0
  intro (x0 : (List (List Int))) hpre hlens h
  replace h : At w0 Z0 [] 6 ⟨[(0, aF s22 x0)], []⟩ a w := h
  replace hpre : (fun (x0 : (List (List Int))) => Sh.fit s80 x0) x0 := hpre
  have hl1 : List.length x0 ≤ 9223372036854775807 := hlens.1.1
  have hT : TabOK Try.prog S_spec_Rank_tab := (.cons S_spec_RowReduce_ok .nil)
  have hf0 : Sh.fit s80 x0 := hpre
  have hn0_1 : List.length x0 ≤ 1073741824 := hf0.1
  refine wp_seq ?_
  refine at_regq [] { ts := [0, 2], os := [] } [] gamOK hT h (by kernel_rfl) trivial ?_
  intro a w h
  refine then_normal ?_
  refine wp_seq ?_
  refine at_regq [{}, { ids := [1] }] { ts := [2], os := [] } [(fun (x0 : (List (List Int))) => Sh.fit s80 x0) x0] gamOK hT h (by kernel_rfl) ⟨(by exact hf0), trivial⟩ ?_
  intro a w h
  refine then_normal ?_
  refine wp_ret ?_
  exact at_return (S := S_spec_Rank) (x := (x0, ())) (((List.length (rowRed x0) : Nat) : Int), ()) [] h (by kernel_rfl) trivial (congrArg (fun z => (z, ())) (show (((List.length (rowRed x0) : Nat) : Int)) = D_spec_Rank x0 from by unfold D_spec_Rank; rfl))

def S_spec_IsValidRecoder : Sum := { fid := 137, dom := [s122], cod := [(.bool 4)], dp := true, fz := false, pre := fun x => (fun (x0 : T122) => Sh.fit s122 x0) x.1, g := fun x => ((validR x.1), ()) }
def S_spec_IsValidRecoder_tab : List (Nat × Sum) := [(191, S_spec_l14Range), (138, S_spec_l1In), (176, S_spec_IsValidPacket), (204, S_spec_Rank)]
theorem S_spec_IsValidRecoder_ok : FnOK Try.prog 137 S_spec_IsValidRecoder := by
  refine at_enter 69 (fun x => ⟨[(0, aG [cI x.1.1, cI x.1.2.1, cI x.1.2.2.1, .ro s126 x.1.2.2.2.1, cI x.1.2.2.2.2])], []⟩) Try.func137 rfl (by kernel_rfl) (fun x => rfl) ?_
  rintro w0 Z0 ⟨x0, u⟩ a w
  revert x0
  intro (x0 : T122) hpre hlens h
  replace h : At w0 Z0 [] 69 ⟨[(0, aG [cI x0.1, cI x0.2.1, cI x0.2.2.1, .ro s126 x0.2.2.2.1, cI x0.2.2.2.2])], []⟩ a w := h
  replace hpre : (fun (x0 : T122) => Sh.fit s122 x0) x0 := hpre
  have hl1 : List.length x0.2.2.2.1 ≤ 9223372036854775807 := hlens.1.2.2.2.1.1
  have hT : TabOK Try.prog S_spec_IsValidRecoder_tab := (.cons S_spec_l14Range_ok (.cons S_spec_l1In_ok (.cons S_spec_IsValidPacket_ok (.cons S_spec_Rank_ok .nil))))
  have hf0 : Sh.fit s122 x0 := hpre
  have hn0_1 : List.length x0.2.2.2.1 ≤ 1073741824 := hf0.2.2.2.1.1
  refine wp_seq ?_
  refine at_regq [{ ids := [1] }] { ts := [1, 2], os := [1] } [] gamOK hT h (by kernel_rfl) trivial ?_
  intro a w h
  refine then_normal ?_
  refine wp_seq ?_
  refine wp_seq ?_
  rcases Bool.eq_false_or_eq_true (!(isFmt x0.1 x0.2.1 x0.2.2.1)) with h1 | h1
  · skip
    have hzh1 : (isFmt x0.1 x0.2.1 x0.2.2.1) = false := notT h1
    refine at_regq [{}, {}, {}, {}, {}, {}, {}, { hint := some (aB true) }] { ts := [1, 2, 24], os := [1] } [True, (AV.p (.c (.v (.bool (!(isFmt x0.1 x0.2.1 x0.2.2.1))))) = AV.p (.c (.v (.bool true))))] gamOK hT h (by kernel_rfl) ⟨trivial, hint_bool (h1), trivial⟩ ?_
    intro a w h
    refine then_normal ?_
    refine at_test true h (by kernel_rfl) (fun hh => ?_) (fun hh => nomatch hh)
    refine wp_seq ?_
    refine at_regq [] { ts := [1, 2], os := [1] } [] gamOK hT h (by kernel_rfl) trivial ?_
    intro a w h
    refine then_normal ?_
    refine wp_ret ?_
    refine then_ret ?_
    exact at_return (S := S_spec_IsValidRecoder) (x := (x0, ())) (false, ()) [] h (by kernel_rfl) trivial (congrArg (fun z => (z, ())) (show (false) = validR x0 from by (first | (rw [← validR_y (by assumption) (by omega) (by assumption)]; exact rank_cofs (by assumption) (by omega)) | exact validR_n (by first | (left; assumption) | (right; left; omega) | (right; right; left; assumption) | (right; right; right; assumption) | (right; right; right; exact ok_rec (by assumption))))))
  · skip
    have hzh1 : (isFmt x0.1 x0.2.1 x0.2.2.1) = true := notF h1
    have hvh1 := isFmt_t (notF h1)
    by_cases h2 : ((List.length x0.2.2.2.1 : Nat) : Int) > 8
    · skip
      refine at_regq [{}, {}, {}, {}, {}, {}, {}, { hint := some (aB false) }, {}, {}, {}, {}, { hint := some (aB true) }] { ts := [1, 2, 24], os := [1] } [True, (AV.p (.c (.v (.bool (!(isFmt x0.1 x0.2.1 x0.2.2.1))))) = AV.p (.c (.v (.bool false)))), (AV.p (.c (.v (.bool (decide (((List.length x0.2.2.2.1 : Nat) : Int) > 8))))) = AV.p (.c (.v (.bool true))))] gamOK hT h (by kernel_rfl) ⟨trivial, hint_bool (h1), hint_bool (decide_eq_true h2), trivial⟩ ?_
      intro a w h
      refine then_normal ?_
      refine at_test true h (by kernel_rfl) (fun hh => ?_) (fun hh => nomatch hh)
      refine wp_seq ?_
      refine at_regq [] { ts := [1, 2], os := [1] } [] gamOK hT h (by kernel_rfl) trivial ?_
      intro a w h
      refine then_normal ?_
      refine wp_ret ?_
      refine then_ret ?_
      exact at_return (S := S_spec_IsValidRecoder) (x := (x0, ())) (false, ()) [] h (by kernel_rfl) trivial (congrArg (fun z => (z, ())) (show (false) = validR x0 from by (first | (rw [← validR_y (by assumption) (by omega) (by assumption)]; exact rank_cofs (by assumption) (by omega)) | exact validR_n (by first | (left; assumption) | (right; left; omega) | (right; right; left; assumption) | (right; right; right; assumption) | (right; right; right; exact ok_rec (by assumption))))))
    · skip
      refine at_regq [{}, {}, {}, {}, {}, {}, {}, { hint := some (aB false) }, {}, {}, {}, {}, { hint := some (aB false) }] { ts := [1, 2, 24], os := [1] } [True, (AV.p (.c (.v (.bool (!(isFmt x0.1 x0.2.1 x0.2.2.1))))) = AV.p (.c (.v (.bool false)))), (AV.p (.c (.v (.bool (decide (((List.length x0.2.2.2.1 : Nat) : Int) > 8))))) = AV.p (.c (.v (.bool false)))), True] gamOK hT h (by kernel_rfl) ⟨trivial, hint_bool (h1), hint_bool (decide_eq_false h2), trivial, trivial⟩ ?_
      intro a w h
      refine then_normal ?_
      refine at_test (!(inR x0.2.2.2.2 0 1000000000000)) h (by kernel_rfl) (fun h3 => ?_) (fun h3 => ?_)
      · replace h3 : (inR x0.2.2.2.2 0 1000000000000) = false := notT h3
        have hvh3 := inR_f h3
        refine wp_seq ?_
        refine at_regq [] { ts := [1, 2], os := [1] } [] gamOK hT h (by kernel_rfl) trivial ?_
        intro a w h
        refine then_normal ?_
        refine wp_ret ?_
        refine then_ret ?_
        exact at_return (S := S_spec_IsValidRecoder) (x := (x0, ())) (false, ()) [] h (by kernel_rfl) trivial (congrArg (fun z => (z, ())) (show (false) = validR x0 from by (first | (rw [← validR_y (by assumption) (by omega) (by assumption)]; exact rank_cofs (by assumption) (by omega)) | exact validR_n (by first | (left; assumption) | (right; left; omega) | (right; right; left; assumption) | (right; right; right; assumption) | (right; right; right; exact ok_rec (by assumption))))))
      · replace h3 : (inR x0.2.2.2.2 0 1000000000000) = true := notF h3
        have hvh3 := inR_t h3
        refine wp_skip ?_
        refine then_normal ?_
        refine wp_seq ?_
        refine at_regq [{ ids := [2], dp := false }] { ts := [1, 2, 3], os := [1, 2] } [] gamOK hT h (by kernel_rfl) trivial ?_
        intro a w h
        refine then_normal ?_
        refine wp_seq ?_
        refine wp_seq ?_
        refine at_regq [] { ts := [1, 2, 3, 4], os := [1, 2] } [] gamOK hT h (by kernel_rfl) trivial ?_
        intro a w h
        refine then_normal ?_
        refine wp_block ?_
        replace h := at_out (σ' := ⟨[(1, aP 1 0), (2, aB false), (3, aS 2), (4, aI 0)], [(1, oX 122 [cI x0.1, cI x0.2.1, cI x0.2.2.1, .ro s126 x0.2.2.2.1, cI x0.2.2.2.2]), (2, oF s22 ([] : List (List Int)))]⟩) { ts := [1, 2, 3, 4], os := [1, 2] } h (by kernel_rfl)
        refine at_loop (fun i : Nat => (⟨[(1, aP 1 0), (2, aB false), (3, aS 2), (4, aI ((i : Nat) : Int))], [(1, oX 122 [cI x0.1, cI x0.2.1, cI x0.2.2.1, .ro s126 x0.2.2.2.1, cI x0.2.2.2.2]), (2, oF s22 (cofs (List.take i x0.2.2.2.1)))]⟩ : St)) (fun i => (i ≤ (List.length x0.2.2.2.1) ∧ allN (fun j => okPkt x0 (x0.2.2.2.1.getD j (0, ([], [])))) i = true)) (fun i => (List.length x0.2.2.2.1) - i) (0) h (st_congr2 (fun (d0 : List (List Int)) (d1 : Int) => (⟨[(1, aP 1 0), (2, aB false), (3, aS 2), (4, aI d1)], [(1, oX 122 [cI x0.1, cI x0.2.1, cI x0.2.2.1, .ro s126 x0.2.2.2.1, cI x0.2.2.2.2]), (2, oF s22 d0)]⟩ : St)) (show (([] : List (List Int)) : List (List Int)) = (cofs (List.take (0) x0.2.2.2.1)) from by first | with_reducible rfl | (rfl) | rfl) (show (0 : Int) = (((0) : Nat) : Int) from by first | with_reducible rfl | (rfl) | rfl)) (by exact ⟨Nat.zero_le _, rfl⟩) ?_
        intro i a w hok0 h
        have hcl := cofs_len (List.take i x0.2.2.2.1)
        have hlt := len_take_le (xs := x0.2.2.2.1) i
        refine wp_seq ?_
        refine wp_seq ?_
        refine at_regq [] { ts := [1, 2, 3, 4, 30], os := [1, 2] } [] gamOK hT h (by kernel_rfl) trivial ?_
        intro a w h
        refine then_normal ?_
        refine at_test (decide (((i : Nat) : Int) < ((List.length x0.2.2.2.1 : Nat) : Int))) h (by kernel_rfl) (fun h4 => ?_) (fun h4 => ?_)
        · replace h4 : ((i : Nat) : Int) < ((List.length x0.2.2.2.1 : Nat) : Int) := of_decide_eq_true h4
          refine wp_skip ?_
          refine then_normal ?_
          refine wp_seq ?_
          refine wp_block ?_
          refine wp_seq ?_
          refine wp_seq ?_
          rcases Bool.eq_false_or_eq_true (!(validP (x0.2.2.2.1.getD i (0, ([], []))) x0.2.1 x0.2.2.1)) with h5 | h5
          · skip
            have hzh5 : (validP (x0.2.2.2.1.getD i (0, ([], []))) x0.2.1 x0.2.2.1) = false := notT h5
            refine at_anyq [{}, {}, {}, {}, {}, {}, {}, {}, {}, {}, { hint := some (aB true) }, {}, {}, {}, {}, {}, {}, {}, {}, {}, {}, {}] { ts := [1, 2, 3, 4, 45, 46, 47, 48, 49, 50, 51, 52, 53, 54], os := [1, 2] } [(0 : Int) ≤ ((i : Nat) : Int) ∧ ((i : Nat) : Int) < ((List.length x0.2.2.2.1 : Nat) : Int), (fun (x0 : T126) (x1 : Int) (x2 : Int) => Sh.fit s126 x0) (x0.2.2.2.1.getD i (0, ([], []))) x0.2.1 x0.2.2.1, (AV.p (.c (.v (.bool (!(validP (x0.2.2.2.1.getD i (0, ([], []))) x0.2.1 x0.2.2.1))))) = AV.p (.c (.v (.bool true))))] gamOK hT mixed h (by kernel_rfl) ⟨(by refine ⟨?_, ?_⟩ <;> (first | omega | (simp only [lsA]; omega) | (simp; done) | (simp; omega) | done)), (by exact (Sh.fit_getD hf0.2.2.2.1 i)), hint_bool (h5), trivial⟩ ?_
            intro a w h
            refine then_normal ?_
            refine at_test true h (by kernel_rfl) (fun hh => ?_) (fun hh => nomatch hh)
            refine wp_seq ?_
            refine at_regq [] { ts := [1, 2, 3, 4, 45, 46, 47, 48, 49, 50, 51, 52, 53], os := [1, 2] } [] gamOK hT h (by kernel_rfl) trivial ?_
            intro a w h
            refine then_normal ?_
            refine wp_ret ?_
            refine then_ret ?_
            refine in_ret ?_
            refine then_ret ?_
            have hs6 : (allN (fun j => okPkt x0 (x0.2.2.2.1.getD j (0, ([], [])))) (List.length x0.2.2.2.1)) = false := by exact allN_at (i := i) (by omega) (by exact okPkt_f (by first | (left; assumption) | (right; omega)))
            refine then_ret ?_
            refine in_ret ?_
            refine then_ret ?_
            exact at_return (S := S_spec_IsValidRecoder) (x := (x0, ())) (false, ()) [] h (by kernel_rfl) trivial (congrArg (fun z => (z, ())) (show (false) = validR x0 from by (first | (rw [← validR_y (by assumption) (by omega) (by assumption)]; exact rank_cofs (by assumption) (by omega)) | exact validR_n (by first | (left; assumption) | (right; left; omega) | (right; right; left; assumption) | (right; right; right; assumption) | (right; right; right; exact ok_rec (by assumption))))))
          · skip
            have hzh5 : (validP (x0.2.2.2.1.getD i (0, ([], []))) x0.2.1 x0.2.2.1) = true := notF h5
            have hvh5 := validP_n (notF h5)
            refine at_anyq [{}, {}, {}, {}, {}, {}, {}, {}, {}, {}, { hint := some (aB false) }, {}, {}, {}, {}, {}, {}, {}, {}, {}, {}, {}] { ts := [1, 2, 3, 4, 45, 46, 47, 48, 49, 50, 51, 52, 53, 54], os := [1, 2] } [(0 : Int) ≤ ((i : Nat) : Int) ∧ ((i : Nat) : Int) < ((List.length x0.2.2.2.1 : Nat) : Int), (fun (x0 : T126) (x1 : Int) (x2 : Int) => Sh.fit s126 x0) (x0.2.2.2.1.getD i (0, ([], []))) x0.2.1 x0.2.2.1, (AV.p (.c (.v (.bool (!(validP (x0.2.2.2.1.getD i (0, ([], []))) x0.2.1 x0.2.2.1))))) = AV.p (.c (.v (.bool false)))), (0 : Int) ≤ ((i : Nat) : Int) ∧ ((i : Nat) : Int) < ((List.length x0.2.2.2.1 : Nat) : Int)] gamOK hT mixed h (by kernel_rfl) ⟨(by refine ⟨?_, ?_⟩ <;> (first | omega | (simp only [lsA]; omega) | (simp; done) | (simp; omega) | done)), (by exact (Sh.fit_getD hf0.2.2.2.1 i)), hint_bool (h5), (by refine ⟨?_, ?_⟩ <;> (first | omega | (simp only [lsA]; omega) | (simp; done) | (simp; omega) | done)), trivial⟩ ?_
            intro a w h
            refine then_normal ?_
            refine at_test (!decide ((x0.2.2.2.1.getD i (0, ([], []))).1 = x0.1)) h (by kernel_rfl) (fun h7 => ?_) (fun h7 => ?_)
            · replace h7 : ¬ ((x0.2.2.2.1.getD i (0, ([], []))).1 = x0.1) := of_decide_eq_false (notT h7)
              refine wp_seq ?_
              refine at_regq [] { ts := [1, 2, 3, 4, 45, 46, 47, 48, 49, 50, 51, 52, 53], os := [1, 2] } [] gamOK hT h (by kernel_rfl) trivial ?_
              intro a w h
              refine then_normal ?_
              refine wp_ret ?_
              refine then_ret ?_
              refine in_ret ?_
              refine then_ret ?_
              have hs8 : (allN (fun j => okPkt x0 (x0.2.2.2.1.getD j (0, ([], [])))) (List.length x0.2.2.2.1)) = false := by exact allN_at (i := i) (by omega) (by exact okPkt_f (by first | (left; assumption) | (right; omega)))
              refine then_ret ?_
              refine in_ret ?_
              refine then_ret ?_
              exact at_return (S := S_spec_IsValidRecoder) (x := (x0, ())) (false, ()) [] h (by kernel_rfl) trivial (congrArg (fun z => (z, ())) (show (false) = validR x0 from by (first | (rw [← validR_y (by assumption) (by omega) (by assumption)]; exact rank_cofs (by assumption) (by omega)) | exact validR_n (by first | (left; assumption) | (right; left; omega) | (right; right; left; assumption) | (right; right; right; assumption) | (right; right; right; exact ok_rec (by assumption))))))
            · replace h7 : (x0.2.2.2.1.getD i (0, ([], []))).1 = x0.1 := of_decide_eq_true (notF h7)
              refine wp_skip ?_
              refine then_normal ?_
              refine at_regq [{}, {}, {}, {}, {}, {}, {}, { ids := [3], dp := false }, { ids := [4] }] { ts := [1, 2, 3, 4, 45, 46, 47, 48, 49, 50, 51, 52, 53], os := [1, 4] } [(0 : Int) ≤ ((i : Nat) : Int) ∧ ((i : Nat) : Int) < ((List.length x0.2.2.2.1 : Nat) : Int), (List.length (cofs (List.take i x0.2.2.2.1)) + List.length ([(x0.2.2.2.1.getD i (0, ([], []))).2.1])) * 24 ≤ 140737488355328] gamOK hT h (by kernel_rfl) ⟨(by refine ⟨?_, ?_⟩ <;> (first | omega | (simp only [lsA]; omega) | (simp; done) | (simp; omega) | done)), (by first | omega | (simp only [lsA]; omega) | (simp; done) | (simp; omega) | done), trivial⟩ ?_
              intro a w h
              refine in_normal ?_
              refine then_normal ?_
              refine at_regq [{}, { nw := true }] { ts := [1, 2, 3, 4, 45, 46, 47, 48, 49, 50, 51, 52, 53], os := [1, 4] } [I64 (((i : Nat) : Int) + 1)] gamOK hT h (by kernel_rfl) ⟨⟨by first | omega | (simp only [lsA]; omega) | (simp; done) | (simp; omega) | done, by first | omega | (simp only [lsA]; omega) | (simp; done) | (simp; omega) | done⟩, trivial⟩ ?_
              intro a w h
              replace h := at_out (σ' := ⟨[(1, aP 1 0), (2, aB false), (3, aS 2), (4, aI (((i : Nat) : Int) + 1))], [(1, oX 122 [cI x0.1, cI x0.2.1, cI x0.2.2.1, .ro s126 x0.2.2.2.1, cI x0.2.2.2.2]), (2, oF s22 ((cofs (List.take i x0.2.2.2.1)) ++ ([(x0.2.2.2.1.getD i (0, ([], []))).2.1])))]⟩) { ts := [1, 2, 3, 4], os := [1, 4], rn := [(4, 2)] } h (by kernel_rfl)
              exact ⟨i + 1, at_eq h (st_congr2 (fun (d0 : List (List Int)) (d1 : Int) => (⟨[(1, aP 1 0), (2, aB false), (3, aS 2), (4, aI d1)], [(1, oX 122 [cI x0.1, cI x0.2.1, cI x0.2.2.1, .ro s126 x0.2.2.2.1, cI x0.2.2.2.2]), (2, oF s22 d0)]⟩ : St)) (show (((cofs (List.take i x0.2.2.2.1)) ++ ([(x0.2.2.2.1.getD i (0, ([], []))).2.1])) : List (List Int)) = (cofs (List.take (i + 1) x0.2.2.2.1)) from by first | with_reducible rfl | ((rw [take_snoc (z := (0, ([], []))) (by omega), cofs_snoc]; done)) | rfl) (show (((i : Nat) : Int) + 1 : Int) = (((i + 1) : Nat) : Int) from by first | with_reducible rfl | (omega) | rfl)), (by exact ⟨by omega, allN_succ hok0.2 (by exact okPkt_t (by assumption) (by omega))⟩), (by omega)⟩
        · replace h4 : ¬ (((i : Nat) : Int) < ((List.length x0.2.2.2.1 : Nat) : Int)) := of_decide_eq_false h4
          refine wp_exit ?_
          refine then_exit ?_
          have hs9 : (allN (fun j => okPkt x0 (x0.2.2.2.1.getD j (0, ([], [])))) (List.length x0.2.2.2.1)) = true := by exact allN_eq (by omega) hok0.1 hok0.2
          replace h := at_out (σ' := ⟨[(2, aB false), (3, aS 2)], [(2, oF s22 (cofs (List.take i x0.2.2.2.1)))]⟩) { ts := [2, 3], os := [2] } h (by kernel_rfl)
          replace h := at_eq (σ' := ⟨[(2, aB false), (3, aS 2)], [(2, oF s22 (cofs x0.2.2.2.1))]⟩) h (st_congr1 (fun (d0 : List (List Int)) => (⟨[(2, aB false), (3, aS 2)], [(2, oF s22 d0)]⟩ : St)) (show ((cofs (List.take i x0.2.2.2.1)) : List (List Int)) = (cofs x0.2.2.2.1) from by first | with_reducible rfl | (rw [take_all (by omega)]) | rfl))
          refine then_exit ?_
          refine in_hit ?_
          refine then_normal ?_
          refine wp_seq ?_
          refine at_regq [] { ts := [2], os := [] } [(fun (x0 : (List (List Int))) => Sh.fit s80 x0) (cofs x0.2.2.2.1)] gamOK hT h (by kernel_rfl) ⟨(by exact fit_cofs hf0.2.2.2.1), trivial⟩ ?_
          intro a w h
          refine then_normal ?_
          refine wp_ret ?_
          exact at_return (S := S_spec_IsValidRecoder) (x := (x0, ())) (decide ((D_spec_Rank (cofs x0.2.2.2.1)) = ((List.length (cofs x0.2.2.2.1) : Nat) : Int)), ()) [] h (by kernel_rfl) trivial (congrArg (fun z => (z, ())) (show (decide ((D_spec_Rank (cofs x0.2.2.2.1)) = ((List.length (cofs x0.2.2.2.1) : Nat) : Int))) = validR x0 from by (first | (rw [← validR_y (by assumption) (by omega) (by assumption)]; exact rank_cofs (by assumption) (by omega)) | exact validR_n (by first | (left; assumption) | (right; left; omega) | (right; right; left; assumption) | (right; right; right; assumption) | (right; right; right; exact ok_rec (by assumption))))))

def D_spec_RecoderRank (x0 : T122) : Int := (if (validR x0) = true then ((List.length x0.2.2.2.1 : Nat) : Int) else 0)
def S_spec_RecoderRank : Sum := { fid := 156, dom := [s122], cod := [(.int 3)], dp := true, fz := false, pre := fun x => (fun (x0 : T122) => Sh.fit s122 x0) x.1, g := fun x => ((D_spec_RecoderRank x.1), ()) }
def S_spec_RecoderRank_tab : List (Nat × Sum) := [(137, S_spec_IsValidRecoder)]
theorem S_spec_RecoderRank_ok : FnOK Try.prog 156 S_spec_RecoderRank := by
  refine at_enter 9 (fun x => ⟨[(0, aG [cI x.1.1, cI x.1.2.1, cI x.1.2.2.1, .ro s126 x.1.2.2.2.1, cI x.1.2.2.2.2])], []⟩) Try.func156 rfl (by kernel_rfl) (fun x => rfl) ?_
  rintro w0 Z0 ⟨x0, u⟩ a w
  revert x0
  intro (x0 : T122) hpre hlens h
  replace h : At w0 Z0 [] 9 ⟨[(0, aG [cI x0.1, cI x0.2.1, cI x0.2.2.1, .ro s126 x0.2.2.2.1, cI x0.2.2.2.2])], []⟩ a w := h
  replace hpre : (fun (x0 : T122) => Sh.fit s122 x0) x0 := hpre
  have hl1 : List.length x0.2.2.2.1 ≤ 9223372036854775807 := hlens.1.2.2.2.1.1
  have hT : TabOK Try.prog S_spec_RecoderRank_tab := (.cons S_spec_IsValidRecoder_ok .nil)
  have hf0 : Sh.fit s122 x0 := hpre
  have hn0_1 : List.length x0.2.2.2.1 ≤ 1073741824 := hf0.2.2.2.1.1
  refine wp_seq ?_
  refine at_regq [{ ids := [1] }] { ts := [1, 2], os := [1] } [] gamOK hT h (by kernel_rfl) trivial ?_
  intro a w h
  refine then_normal ?_
  refine wp_seq ?_
  refine wp_seq ?_
  refine at_regq [] { ts := [1, 2, 5], os := [1] } [(fun (x0 : T122) => Sh.fit s122 x0) x0] gamOK hT h (by kernel_rfl) ⟨(by exact hf0), trivial⟩ ?_
  intro a w h
  refine then_normal ?_
  refine at_test (!(validR x0)) h (by kernel_rfl) (fun h1 => ?_) (fun h1 => ?_)
  · replace h1 : (validR x0) = false := notT h1
    refine wp_seq ?_
    refine at_regq [] { ts := [1, 2], os := [1] } [] gamOK hT h (by kernel_rfl) trivial ?_
    intro a w h
    refine then_normal ?_
    refine wp_ret ?_
    refine then_ret ?_
    exact at_return (S := S_spec_RecoderRank) (x := (x0, ())) (0, ()) [] h (by kernel_rfl) trivial (congrArg (fun z => (z, ())) (show (0) = D_spec_RecoderRank x0 from by first | rfl | (unfold D_spec_RecoderRank; rw [if_neg (neT h1)])))
  · replace h1 : (validR x0) = true := notF h1
    have hvh1 := validR_t h1
    refine wp_skip ?_
    refine then_normal ?_
    refine wp_seq ?_
    refine at_regq [] { ts := [2], os := [] } [] gamOK hT h (by kernel_rfl) trivial ?_
    intro a w h
    refine then_normal ?_
    refine wp_ret ?_
    exact at_return (S := S_spec_RecoderRank) (x := (x0, ())) (((List.length x0.2.2.2.1 : Nat) : Int), ()) [] h (by kernel_rfl) trivial (congrArg (fun z => (z, ())) (show (((List.length x0.2.2.2.1 : Nat) : Int)) = D_spec_RecoderRank x0 from by first | rfl | (unfold D_spec_RecoderRank; rw [if_pos h1])))

def cmpI (a b : Int) : Int := if a < b then -1 else if b < a then 1 else 0
theorem cmpI_lt {a b : Int} : cmpI a b < 0 ↔ a < b := by
  unfold cmpI; split
  · rename_i h; exact ⟨fun _ => h, fun _ => by decide⟩
  · rename_i h; split
    · exact ⟨fun h1 => absurd h1 (by decide), fun h1 => absurd h1 h⟩
    · exact ⟨fun h1 => absurd h1 (by decide), fun h1 => absurd h1 h⟩
theorem cmpI_eq {a b : Int} : cmpI a b = 0 ↔ a = b := by
  unfold cmpI; split
  · exact ⟨fun h1 => absurd h1 (by decide), fun h1 => by omega⟩
  · split
    · exact ⟨fun h1 => absurd h1 (by decide), fun h1 => by omega⟩
    · exact ⟨fun _ => by omega, fun _ => rfl⟩
section
variable {α : Type}
def ltK (f : α → Int) (z : α) (xs : List α) (v : Int) (k : Nat) : Bool := decide (f (xs.getD k z) < v)
def srtK (f : α → Int) (z : α) (xs : List α) : Prop := ∀ a b, a < b → b < xs.length → f (xs.getD a z) < f (xs.getD b z)
/-- where v would stand -/
def bsK (f : α → Int) (z : α) (xs : List α) (v : Int) : Nat := bsF (ltK f z xs v) 0 xs.length
def fndK (f : α → Int) (z : α) (xs : List α) (v : Int) : Bool := decide (bsK f z xs v < xs.length ∧ f (xs.getD (bsK f z xs v) z) = v)
theorem bsK_le (f : α → Int) (z : α) (xs : List α) (v : Int) : bsK f z xs v ≤ xs.length := (bsF_bd _ xs.length 0 xs.length (by omega) (by omega)).2
theorem bsK_spec {f : α → Int} {z : α} {xs : List α} (hs : srtK f z xs) (v : Int) : (∀ a, a < bsK f z xs v → f (xs.getD a z) < v) ∧ ∀ a, bsK f z xs v ≤ a → a < xs.length → v ≤ f (xs.getD a z) := by
  have hm : ∀ a b, a ≤ b → b < xs.length → ltK f z xs v b = true → ltK f z xs v a = true := fun a b hab hb hp => by
    unfold ltK at hp ⊢
    rw [decide_eq_true_iff] at hp ⊢
    by_cases e : a = b
    · rw [e]; exact hp
    · have := hs a b (by omega) hb; omega
  obtain ⟨h1, h2⟩ := bsF_first hm xs.length 0 xs.length (by omega) (by omega) (Nat.le_refl _) (fun a ha => by omega) (fun a ha hn => by omega)
  exact ⟨fun a ha => of_decide_eq_true (h1 a ha), fun a ha hn => by have := of_decide_eq_false (h2 a ha hn); omega⟩
theorem bsK_at {f : α → Int} {z : α} {xs : List α} {v : Int} {i : Nat} (hs : srtK f z xs) (hi : i < xs.length) (he : f (xs.getD i z) = v) : bsK f z xs v = i := by
  obtain ⟨h1, h2⟩ := bsK_spec hs v
  rcases Nat.lt_trichotomy (bsK f z xs v) i with h | h | h
  · have := h2 _ (Nat.le_refl _) (by omega)
    have := hs _ _ h hi
    omega
  · exact h
  · have := h1 _ h; omega
theorem fndK_at {f : α → Int} {z : α} {xs : List α} {v : Int} {i : Nat} (hs : srtK f z xs) (hi : i < xs.length) (he : f (xs.getD i z) = v) : fndK f z xs v = true := by
  unfold fndK; rw [bsK_at hs hi he]; exact decide_eq_true ⟨hi, he⟩
theorem fnd_eq {f : α → Int} {z : α} {xs : List α} {v : Int} {q : Nat} (h : q < xs.length) : decide (cmpI (f (xs.getD q z)) v = 0) = decide (q < xs.length ∧ f (xs.getD q z) = v) := by rw [decide_eq_decide, cmpI_eq]; exact ⟨fun e => ⟨h, e⟩, fun e => e.2⟩
theorem fnd_no {f : α → Int} {z : α} {xs : List α} {v : Int} {q : Nat} (h : ¬ q < xs.length) : false = decide (q < xs.length ∧ f (xs.getD q z) = v) := (decide_eq_false fun e => h e.1).symm
theorem fndK_none {f : α → Int} {z : α} {xs : List α} {v : Int} (h : ∀ i, i < xs.length → f (xs.getD i z) ≠ v) : fndK f z xs v = false := decide_eq_false fun e => h _ e.1 e.2
theorem fndK_t {f : α → Int} {z : α} {xs : List α} {v : Int} (h : fndK f z xs v = true) : bsK f z xs v < xs.length ∧ f (xs.getD (bsK f z xs v) z) = v := of_decide_eq_true h
theorem srt_of {f : α → Int} {z : α} {xs : List α} (h : ∀ i, i + 1 < xs.length → f (xs.getD i z) < f (xs.getD (i + 1) z)) : srtK f z xs := by
  intro a b hab hb
  obtain ⟨d, rfl⟩ : ∃ d, b = a + 1 + d := ⟨b - a - 1, by omega⟩
  induction d with
  | zero => exact h a (by omega)
  | succ d ih => have h1 := ih (by omega) (by omega); have h2 := h (a + 1 + d) (by omega); have e : a + 1 + d + 1 = a + 1 + (d + 1) := (by omega); rw [e] at h2; omega
/-- p holds, and the key is above that of the one before -/
def ordB (f : α → Int) (z : α) (xs : List α) (i : Nat) : Bool := decide (i = 0) || decide (f (xs.getD (i - 1) z) < f (xs.getD i z))
theorem ordB_t {f : α → Int} {z : α} {xs : List α} {i : Nat} (h : i = 0 ∨ f (xs.getD (((i : Nat) : Int) - 1).toNat z) < f (xs.getD i z)) : ordB f z xs i = true := by
  have e : (((i : Nat) : Int) - 1).toNat = i - 1 := by omega
  rw [e] at h
  unfold ordB; rw [Bool.or_eq_true, decide_eq_true_iff, decide_eq_true_iff]; exact h
theorem ordB_f {f : α → Int} {z : α} {xs : List α} {i : Nat} (h : 0 < i ∧ f (xs.getD i z) ≤ f (xs.getD (((i : Nat) : Int) - 1).toNat z)) : ordB f z xs i = false := by
  have e : (((i : Nat) : Int) - 1).toNat = i - 1 := by omega
  rw [e] at h
  unfold ordB; rw [Bool.or_eq_false_iff, decide_eq_false_iff_not, decide_eq_false_iff_not]; omega
theorem srt_ord {f : α → Int} {z : α} {xs : List α} (h : ∀ i, i < xs.length → ordB f z xs i = true) : srtK f z xs := srt_of fun i hi => by
  have := h (i + 1) hi
  unfold ordB at this
  rw [Bool.or_eq_true, decide_eq_true_iff, decide_eq_true_iff] at this
  rcases this with h | h
  · omega
  · exact h
end
def relB (xs : List T122) (i : Nat) : Bool := validR (xs.getD i (0, (0, (0, ([], 0))))) && ordB (fun x => x.1) (0, (0, (0, ([], 0)))) xs i
theorem relB_t {xs : List T122} {i : Nat} (h : validR (xs.getD i (0, (0, (0, ([], 0))))) = true) (h2 : i = 0 ∨ (xs.getD (((i : Nat) : Int) - 1).toNat (0, (0, (0, ([], 0))))).1 < (xs.getD i (0, (0, (0, ([], 0))))).1) : relB xs i = true := by unfold relB; rw [h, ordB_t h2]; rfl
theorem relB_f1 {xs : List T122} {i : Nat} (h : validR (xs.getD i (0, (0, (0, ([], 0))))) = false) : relB xs i = false := by unfold relB; rw [h]; rfl
theorem relB_f2 {xs : List T122} {i : Nat} (h2 : 0 < i ∧ (xs.getD i (0, (0, (0, ([], 0))))).1 ≤ (xs.getD (((i : Nat) : Int) - 1).toNat (0, (0, (0, ([], 0))))).1) : relB xs i = false := by unfold relB; rw [ordB_f h2, Bool.and_false]
def validL (r : T97) : Bool := allN (relB r.2) (List.length r.2) && (inR r.1 0 7 && decide (List.length r.2 ≤ 4))
theorem validL_t {r : T97} (h : validL r = true) : (0 ≤ r.1 ∧ r.1 ≤ 7) ∧ List.length r.2 ≤ 4 ∧ srtK (fun x => x.1) (0, (0, (0, ([], 0)))) r.2 ∧ ∀ i, i < r.2.length → validR (r.2.getD i (0, (0, (0, ([], 0))))) = true := by
  unfold validL at h
  rw [Bool.and_eq_true, Bool.and_eq_true] at h
  have h1 := allN_iff.1 h.1
  refine ⟨inR_t h.2.1, of_decide_eq_true h.2.2, srt_ord fun i hi => ?_, fun i hi => ?_⟩
  · have := h1 i hi; unfold relB at this; rw [Bool.and_eq_true] at this; exact this.2
  · have := h1 i hi; unfold relB at this; rw [Bool.and_eq_true] at this; exact this.1

def rankL (r : T97) (g : Int) : Int := if validL r = true ∧ fndK (fun x => x.1) (0, (0, (0, ([], 0)))) r.2 g = true then ((List.length (r.2.getD (bsK (fun x => x.1) (0, (0, (0, ([], 0)))) r.2 g) (0, (0, (0, ([], 0))))).2.2.2.1 : Nat) : Int) else 0
theorem rankL_y {r : T97} {g : Int} (h : validL r = true) (hf : fndK (fun x => x.1) (0, (0, (0, ([], 0)))) r.2 g = true) : ((List.length (r.2.getD (bsK (fun x => x.1) (0, (0, (0, ([], 0)))) r.2 g) (0, (0, (0, ([], 0))))).2.2.2.1 : Nat) : Int) = rankL r g := by unfold rankL; rw [if_pos ⟨h, hf⟩]
theorem rankL_at {r : T97} {g : Int} {i : Nat} (h : validL r = true) (hi : i < r.2.length) (he : (r.2.getD i (0, (0, (0, ([], 0))))).1 = g) : D_spec_RecoderRank (r.2.getD i (0, (0, (0, ([], 0))))) = rankL r g := by
  have hv := validL_t h
  rw [← rankL_y h (fndK_at hv.2.2.1 hi he), bsK_at hv.2.2.1 hi he]
  exact if_pos (hv.2.2.2 i hi)
theorem rankL_no {r : T97} {g : Int} (h : validL r = false ∨ fndK (fun x => x.1) (0, (0, (0, ([], 0)))) r.2 g = false ∨ ∀ i, i < r.2.length → (r.2.getD i (0, (0, (0, ([], 0))))).1 ≠ g) : 0 = rankL r g := by
  unfold rankL; rw [if_neg]
  rintro ⟨h1, h2⟩
  rcases h with h | h | h
  · rw [h1] at h; cases h
  · rw [h2] at h; cases h
  · rw [fndK_none h] at h2; cases h2

def S_cmp_Compare_int_ : Sum := { fid := 225, dom := [(.int 3), (.int 3)], cod := [(.int 3)], dp := true, fz := false, pre := fun x => True, g := fun x => ((cmpI x.1 x.2.1), ()) }
def S_cmp_Compare_int__tab : List (Nat × Sum) := [(256, S_cmp_isNaN_int_)]
theorem S_cmp_Compare_int__ok : FnOK Try.prog 225 S_cmp_Compare_int_ := by
  refine at_enter 20 (fun x => ⟨[(0, aI x.1), (1, aI x.2.1)], []⟩) Try.func225 rfl (by kernel_rfl) (fun x => rfl) ?_
  rintro w0 Z0 ⟨x0, x1, u⟩ a w
  revert x0 x1
  intro (x0 : Int) (x1 : Int) hpre hlens h
  replace h : At w0 Z0 [] 20 ⟨[(0, aI x0), (1, aI x1)], []⟩ a w := h
  have hT : TabOK Try.prog S_cmp_Compare_int__tab := (.cons S_cmp_isNaN_int__ok .nil)
  refine wp_seq ?_
  refine at_regq [] { ts := [0, 1, 4], os := [] } [] gamOK hT h (by kernel_rfl) trivial ?_
  intro a w h
  refine then_normal ?_
  refine wp_seq ?_
  refine at_regq [] { ts := [0, 1, 4, 5], os := [] } [True] gamOK hT h (by kernel_rfl) ⟨trivial, trivial⟩ ?_
  intro a w h
  refine then_normal ?_
  refine wp_seq ?_
  refine at_regq [] { ts := [0, 1, 4, 5, 6], os := [] } [True] gamOK hT h (by kernel_rfl) ⟨trivial, trivial⟩ ?_
  intro a w h
  refine then_normal ?_
  refine wp_seq ?_
  refine wp_seq ?_
  refine at_regq [] { ts := [0, 1, 4, 6, 11], os := [] } [] gamOK hT h (by kernel_rfl) trivial ?_
  intro a w h
  refine then_normal ?_
  refine at_test ((D_cmp_isNaN_int_ x0)) h (by kernel_rfl) (fun h1 => ?_) (fun h1 => ?_)
  · refine wp_seq ?_
    refine wp_seq ?_
    refine at_regq [] { ts := [0, 1, 4, 6, 12], os := [] } [] gamOK hT h (by kernel_rfl) trivial ?_
    intro a w h
    refine then_normal ?_
    refine at_test ((D_cmp_isNaN_int_ x1)) h (by kernel_rfl) (fun h2 => ?_) (fun h2 => ?_)
    · refine wp_seq ?_
      refine at_regq [] { ts := [0, 1, 4, 6], os := [] } [] gamOK hT h (by kernel_rfl) trivial ?_
      intro a w h
      refine then_normal ?_
      refine wp_ret ?_
      refine then_ret ?_
      refine then_ret ?_
      exact at_return (S := S_cmp_Compare_int_) (x := (x0, x1, ())) (0, ()) [] h (by kernel_rfl) trivial (congrArg (fun z => (z, ())) (show (0) = cmpI x0 x1 from by (unfold cmpI; simp_all [D_cmp_isNaN_int_]; try omega)))
    · refine wp_skip ?_
      refine then_normal ?_
      refine wp_seq ?_
      refine at_regq [] { ts := [0, 1, 4, 6], os := [] } [] gamOK hT h (by kernel_rfl) trivial ?_
      intro a w h
      refine then_normal ?_
      refine wp_ret ?_
      refine then_ret ?_
      exact at_return (S := S_cmp_Compare_int_) (x := (x0, x1, ())) ((-1), ()) [] h (by kernel_rfl) trivial (congrArg (fun z => (z, ())) (show ((-1)) = cmpI x0 x1 from by (unfold cmpI; simp_all [D_cmp_isNaN_int_]; try omega)))
  · refine wp_skip ?_
    refine then_normal ?_
    refine wp_seq ?_
    refine wp_seq ?_
    refine at_regq [] { ts := [0, 1, 4, 13], os := [] } [] gamOK hT h (by kernel_rfl) trivial ?_
    intro a w h
    refine then_normal ?_
    refine at_test ((D_cmp_isNaN_int_ x1)) h (by kernel_rfl) (fun h3 => ?_) (fun h3 => ?_)
    · refine wp_seq ?_
      refine at_regq [] { ts := [0, 1, 4], os := [] } [] gamOK hT h (by kernel_rfl) trivial ?_
      intro a w h
      refine then_normal ?_
      refine wp_ret ?_
      refine then_ret ?_
      exact at_return (S := S_cmp_Compare_int_) (x := (x0, x1, ())) (1, ()) [] h (by kernel_rfl) trivial (congrArg (fun z => (z, ())) (show (1) = cmpI x0 x1 from by (unfold cmpI; simp_all [D_cmp_isNaN_int_]; try omega)))
    · refine wp_skip ?_
      refine then_normal ?_
      refine wp_seq ?_
      refine wp_seq ?_
      refine at_regq [] { ts := [0, 1, 4, 16], os := [] } [] gamOK hT h (by kernel_rfl) trivial ?_
      intro a w h
      refine then_normal ?_
      refine at_test (decide (x0 < x1)) h (by kernel_rfl) (fun h4 => ?_) (fun h4 => ?_)
      · replace h4 : x0 < x1 := of_decide_eq_true h4
        refine wp_seq ?_
        refine at_regq [] { ts := [0, 1, 4], os := [] } [] gamOK hT h (by kernel_rfl) trivial ?_
        intro a w h
        refine then_normal ?_
        refine wp_ret ?_
        refine then_ret ?_
        exact at_return (S := S_cmp_Compare_int_) (x := (x0, x1, ())) ((-1), ()) [] h (by kernel_rfl) trivial (congrArg (fun z => (z, ())) (show ((-1)) = cmpI x0 x1 from by (unfold cmpI; simp_all [D_cmp_isNaN_int_]; try omega)))
      · replace h4 : ¬ (x0 < x1) := of_decide_eq_false h4
        refine wp_skip ?_
        refine then_normal ?_
        refine wp_seq ?_
        refine wp_seq ?_
        refine at_regq [] { ts := [4, 19], os := [] } [] gamOK hT h (by kernel_rfl) trivial ?_
        intro a w h
        refine then_normal ?_
        refine at_test (decide (x0 > x1)) h (by kernel_rfl) (fun h5 => ?_) (fun h5 => ?_)
        · replace h5 : x0 > x1 := of_decide_eq_true h5
          refine wp_seq ?_
          refine at_regq [] { ts := [4], os := [] } [] gamOK hT h (by kernel_rfl) trivial ?_
          intro a w h
          refine then_normal ?_
          refine wp_ret ?_
          refine then_ret ?_
          exact at_return (S := S_cmp_Compare_int_) (x := (x0, x1, ())) (1, ()) [] h (by kernel_rfl) trivial (congrArg (fun z => (z, ())) (show (1) = cmpI x0 x1 from by (unfold cmpI; simp_all [D_cmp_isNaN_int_]; try omega)))
        · replace h5 : ¬ (x0 > x1) := of_decide_eq_false h5
          refine wp_skip ?_
          refine then_normal ?_
          refine wp_seq ?_
          refine at_regq [] { ts := [4], os := [] } [] gamOK hT h (by kernel_rfl) trivial ?_
          intro a w h
          refine then_normal ?_
          refine wp_ret ?_
          exact at_return (S := S_cmp_Compare_int_) (x := (x0, x1, ())) (0, ()) [] h (by kernel_rfl) trivial (congrArg (fun z => (z, ())) (show (0) = cmpI x0 x1 from by (unfold cmpI; simp_all [D_cmp_isNaN_int_]; try omega)))

def S_impl_IsValidRelay : Sum := { fid := 56, dom := [s97], cod := [(.bool 4)], dp := true, fz := false, pre := fun x => (fun (x0 : T97) => Sh.fit s97 x0) x.1, g := fun x => ((validL x.1), ()) }
def S_impl_IsValidRelay_tab : List (Nat × Sum) := [(139, S_impl_IsValidRecoder), (140, S_impl_InRange)]
theorem S_impl_IsValidRelay_ok : FnOK Try.prog 56 S_impl_IsValidRelay := by
  refine at_enter 42 (fun x => ⟨[(0, aG [cI x.1.1, .ro s122 x.1.2])], []⟩) Try.func56 rfl (by kernel_rfl) (fun x => rfl) ?_
  rintro w0 Z0 ⟨x0, u⟩ a w
  revert x0
  intro (x0 : T97) hpre hlens h
  replace h : At w0 Z0 [] 42 ⟨[(0, aG [cI x0.1, .ro s122 x0.2])], []⟩ a w := h
  replace hpre : (fun (x0 : T97) => Sh.fit s97 x0) x0 := hpre
  have hl1 : List.length x0.2 ≤ 9223372036854775807 := hlens.1.2.1
  have hT : TabOK Try.prog S_impl_IsValidRelay_tab := (.cons S_impl_IsValidRecoder_ok (.cons S_impl_InRange_ok .nil))
  have hf0 : Sh.fit s97 x0 := hpre
  have hn0_1 : List.length x0.2 ≤ 1073741824 := hf0.2.1
  refine wp_seq ?_
  refine at_regq [{ ids := [1] }] { ts := [1, 2], os := [1] } [] gamOK hT h (by kernel_rfl) trivial ?_
  intro a w h
  refine then_normal ?_
  refine wp_seq ?_
  refine wp_seq ?_
  refine at_regq [] { ts := [1, 2, 6, 7, 8], os := [1] } [] gamOK hT h (by kernel_rfl) trivial ?_
  intro a w h
  refine then_normal ?_
  refine wp_block ?_
  replace h := at_out (σ' := ⟨[(1, aP 1 0), (2, aB false), (6, aF s122 x0.2), (7, aI ((List.length x0.2 : Nat) : Int)), (8, aI 0)], [(1, oX 97 [cI x0.1, .ro s122 x0.2])]⟩) { ts := [1, 2, 6, 7, 8], os := [1] } h (by kernel_rfl)
  refine at_loop (fun i : Nat => (⟨[(1, aP 1 0), (2, aB false), (6, aF s122 x0.2), (7, aI ((List.length x0.2 : Nat) : Int)), (8, aI ((i : Nat) : Int))], [(1, oX 97 [cI x0.1, .ro s122 x0.2])]⟩ : St)) (fun i => (i ≤ (List.length x0.2) ∧ allN (relB x0.2) i = true)) (fun i => (List.length x0.2) - i) (0) h (st_congr1 (fun (d0 : Int) => (⟨[(1, aP 1 0), (2, aB false), (6, aF s122 x0.2), (7, aI ((List.length x0.2 : Nat) : Int)), (8, aI d0)], [(1, oX 97 [cI x0.1, .ro s122 x0.2])]⟩ : St)) (show (0 : Int) = (((0) : Nat) : Int) from by first | with_reducible rfl | (rfl) | rfl)) (by exact ⟨Nat.zero_le _, rfl⟩) ?_
  intro i a w hok0 h
  refine wp_seq ?_
  refine at_regq [] { ts := [1, 2, 6, 7, 8, 9], os := [1] } [] gamOK hT h (by kernel_rfl) trivial ?_
  intro a w h
  refine then_normal ?_
  refine wp_seq ?_
  refine at_test (decide (((i : Nat) : Int) < ((List.length x0.2 : Nat) : Int))) h (by kernel_rfl) (fun h1 => ?_) (fun h1 => ?_)
  · replace h1 : ((i : Nat) : Int) < ((List.length x0.2 : Nat) : Int) := of_decide_eq_true h1
    refine wp_skip ?_
    refine then_normal ?_
    refine wp_seq ?_
    refine wp_block ?_
    refine wp_seq ?_
    refine at_regq [{}, {}, {}, { ids := [2] }] { ts := [1, 2, 3, 4, 6, 7, 8], os := [1, 2] } [(0 : Int) ≤ ((i : Nat) : Int) ∧ ((i : Nat) : Int) < ((List.length x0.2 : Nat) : Int)] gamOK hT h (by kernel_rfl) ⟨(by refine ⟨?_, ?_⟩ <;> (first | omega | (simp only [lsA]; omega) | (simp; done) | (simp; omega) | done)), trivial⟩ ?_
    intro a w h
    refine then_normal ?_
    refine wp_seq ?_
    rcases Bool.eq_false_or_eq_true (!(validR (x0.2.getD i (0, (0, (0, ([], 0))))))) with h2 | h2
    · skip
      have hzh2 : (validR (x0.2.getD i (0, (0, (0, ([], 0)))))) = false := notT h2
      refine at_anyq [{}, {}, { hint := some (aB true) }, {}, {}, {}, {}, {}, {}, {}, {}, {}, {}, {}, {}, {}, {}, {}, {}] { ts := [1, 2, 6, 7, 8, 17, 18, 19, 20, 21, 22, 23, 24, 25, 26, 27, 28, 29, 30, 31], os := [1] } [(fun (x0 : T122) => Sh.fit s122 x0) (x0.2.getD i (0, (0, (0, ([], 0))))), (AV.p (.c (.v (.bool (!(validR (x0.2.getD i (0, (0, (0, ([], 0)))))))))) = AV.p (.c (.v (.bool true))))] gamOK hT mixed h (by kernel_rfl) ⟨(by exact (Sh.fit_getD hf0.2 i)), hint_bool (h2), trivial⟩ ?_
      intro a w h
      refine then_normal ?_
      refine at_test true h (by kernel_rfl) (fun hh => ?_) (fun hh => nomatch hh)
      refine wp_seq ?_
      refine at_regq [] { ts := [1, 2, 6, 7, 8, 17, 18, 19, 20, 21, 22, 23, 24, 25, 26, 27, 28, 29, 30], os := [1] } [] gamOK hT h (by kernel_rfl) trivial ?_
      intro a w h
      refine then_normal ?_
      refine wp_ret ?_
      refine in_ret ?_
      refine then_ret ?_
      have hs3 : (allN (relB x0.2) (List.length x0.2)) = false := by exact allN_at (i := i) (by omega) (by first | exact relB_f1 (by assumption) | exact relB_f2 (by omega))
      refine then_ret ?_
      refine in_ret ?_
      refine then_ret ?_
      exact at_return (S := S_impl_IsValidRelay) (x := (x0, ())) (false, ()) [] h (by kernel_rfl) trivial (congrArg (fun z => (z, ())) (show (false) = validL x0 from by (unfold validL; simp_all; try omega)))
    · skip
      have hzh2 : (validR (x0.2.getD i (0, (0, (0, ([], 0)))))) = true := notF h2
      have hvh2 := validR_t (notF h2)
      by_cases h4 : ((i : Nat) : Int) > 0
      · skip
        refine at_anyq [{}, {}, { hint := some (aB false) }, {}, {}, { hint := some (aB true) }, {}, {}, {}, {}, {}, {}, { nw := true }, {}, {}, {}, {}, {}, {}] { ts := [1, 2, 6, 7, 8, 17, 18, 19, 20, 21, 22, 23, 24, 25, 26, 27, 28, 29, 30, 31], os := [1, 2] } [(fun (x0 : T122) => Sh.fit s122 x0) (x0.2.getD i (0, (0, (0, ([], 0))))), (AV.p (.c (.v (.bool (!(validR (x0.2.getD i (0, (0, (0, ([], 0)))))))))) = AV.p (.c (.v (.bool false)))), (AV.p (.c (.v (.bool (decide (((i : Nat) : Int) > 0))))) = AV.p (.c (.v (.bool true)))), I64 (((i : Nat) : Int) - 1), (0 : Int) ≤ ((i : Nat) : Int) - 1 ∧ ((i : Nat) : Int) - 1 < ((List.length x0.2 : Nat) : Int)] gamOK hT mixed h (by kernel_rfl) ⟨(by exact (Sh.fit_getD hf0.2 i)), hint_bool (h2), hint_bool (decide_eq_true h4), ⟨by first | omega | (simp only [lsA]; omega) | (simp; done) | (simp; omega) | done, by first | omega | (simp only [lsA]; omega) | (simp; done) | (simp; omega) | done⟩, (by refine ⟨?_, ?_⟩ <;> (first | omega | (simp only [lsA]; omega) | (simp; done) | (simp; omega) | done)), trivial⟩ ?_
        intro a w h
        refine then_normal ?_
        refine at_test (decide ((x0.2.getD i (0, (0, (0, ([], 0))))).1 ≤ (x0.2.getD ((((i : Nat) : Int) - 1).toNat) (0, (0, (0, ([], 0))))).1)) h (by kernel_rfl) (fun h5 => ?_) (fun h5 => ?_)
        · replace h5 : (x0.2.getD i (0, (0, (0, ([], 0))))).1 ≤ (x0.2.getD ((((i : Nat) : Int) - 1).toNat) (0, (0, (0, ([], 0))))).1 := of_decide_eq_true h5
          refine wp_seq ?_
          refine at_regq [] { ts := [1, 2, 6, 7, 8, 17, 18, 19, 20, 21, 22, 23, 24, 25, 26, 27, 28, 29, 30], os := [1, 2] } [] gamOK hT h (by kernel_rfl) trivial ?_
          intro a w h
          refine then_normal ?_
          refine wp_ret ?_
          refine in_ret ?_
          refine then_ret ?_
          have hs6 : (allN (relB x0.2) (List.length x0.2)) = false := by exact allN_at (i := i) (by omega) (by first | exact relB_f1 (by assumption) | exact relB_f2 (by omega))
          refine then_ret ?_
          refine in_ret ?_
          refine then_ret ?_
          exact at_return (S := S_impl_IsValidRelay) (x := (x0, ())) (false, ()) [] h (by kernel_rfl) trivial (congrArg (fun z => (z, ())) (show (false) = validL x0 from by (unfold validL; simp_all; try omega)))
        · replace h5 : ¬ ((x0.2.getD i (0, (0, (0, ([], 0))))).1 ≤ (x0.2.getD ((((i : Nat) : Int) - 1).toNat) (0, (0, (0, ([], 0))))).1) := of_decide_eq_false h5
          refine wp_skip ?_
          refine in_normal ?_
          refine then_normal ?_
          refine at_regq [{ nw := true }] { ts := [1, 2, 6, 7, 8, 17, 18, 19, 20, 21, 22, 23, 24, 25, 26, 27, 28, 29, 30], os := [1, 2] } [I64 (((i : Nat) : Int) + 1)] gamOK hT h (by kernel_rfl) ⟨⟨by first | omega | (simp only [lsA]; omega) | (simp; done) | (simp; omega) | done, by first | omega | (simp only [lsA]; omega) | (simp; done) | (simp; omega) | done⟩, trivial⟩ ?_
          intro a w h
          replace h := at_out (σ' := ⟨[(1, aP 1 0), (2, aB false), (6, aF s122 x0.2), (7, aI ((List.length x0.2 : Nat) : Int)), (8, aI (((i : Nat) : Int) + 1))], [(1, oX 97 [cI x0.1, .ro s122 x0.2])]⟩) { ts := [1, 2, 6, 7, 8], os := [1] } h (by kernel_rfl)
          exact ⟨i + 1, at_eq h (st_congr1 (fun (d0 : Int) => (⟨[(1, aP 1 0), (2, aB false), (6, aF s122 x0.2), (7, aI ((List.length x0.2 : Nat) : Int)), (8, aI d0)], [(1, oX 97 [cI x0.1, .ro s122 x0.2])]⟩ : St)) (show (((i : Nat) : Int) + 1 : Int) = (((i + 1) : Nat) : Int) from by first | with_reducible rfl | (omega) | rfl)), (by exact ⟨by omega, allN_succ hok0.2 (by exact relB_t (by assumption) (by omega))⟩), (by omega)⟩
      · skip
        refine at_anyq [{}, {}, { hint := some (aB false) }, {}, {}, { hint := some (aB false) }, {}, {}, {}, {}, {}, {}, {}, {}, {}, {}, {}, {}, {}] { ts := [1, 2, 6, 7, 8, 17, 18, 19, 20, 21, 22, 23, 24, 25, 26, 27, 28, 29, 30, 31], os := [1] } [(fun (x0 : T122) => Sh.fit s122 x0) (x0.2.getD i (0, (0, (0, ([], 0))))), (AV.p (.c (.v (.bool (!(validR (x0.2.getD i (0, (0, (0, ([], 0)))))))))) = AV.p (.c (.v (.bool false)))), (AV.p (.c (.v (.bool (decide (((i : Nat) : Int) > 0))))) = AV.p (.c (.v (.bool false))))] gamOK hT mixed h (by kernel_rfl) ⟨(by exact (Sh.fit_getD hf0.2 i)), hint_bool (h2), hint_bool (decide_eq_false h4), trivial⟩ ?_
        intro a w h
        refine then_normal ?_
        refine at_test false h (by kernel_rfl) (fun hh => nomatch hh) (fun hh => ?_)
        refine wp_skip ?_
        refine in_normal ?_
        refine then_normal ?_
        refine at_regq [{ nw := true }] { ts := [1, 2, 6, 7, 8, 17, 18, 19, 20, 21, 22, 23, 24, 25, 26, 27, 28, 29, 30], os := [1] } [I64 (((i : Nat) : Int) + 1)] gamOK hT h (by kernel_rfl) ⟨⟨by first | omega | (simp only [lsA]; omega) | (simp; done) | (simp; omega) | done, by first | omega | (simp only [lsA]; omega) | (simp; done) | (simp; omega) | done⟩, trivial⟩ ?_
        intro a w h
        replace h := at_out (σ' := ⟨[(1, aP 1 0), (2, aB false), (6, aF s122 x0.2), (7, aI ((List.length x0.2 : Nat) : Int)), (8, aI (((i : Nat) : Int) + 1))], [(1, oX 97 [cI x0.1, .ro s122 x0.2])]⟩) { ts := [1, 2, 6, 7, 8], os := [1] } h (by kernel_rfl)
        exact ⟨i + 1, at_eq h (st_congr1 (fun (d0 : Int) => (⟨[(1, aP 1 0), (2, aB false), (6, aF s122 x0.2), (7, aI ((List.length x0.2 : Nat) : Int)), (8, aI d0)], [(1, oX 97 [cI x0.1, .ro s122 x0.2])]⟩ : St)) (show (((i : Nat) : Int) + 1 : Int) = (((i + 1) : Nat) : Int) from by first | with_reducible rfl | (omega) | rfl)), (by exact ⟨by omega, allN_succ hok0.2 (by exact relB_t (by assumption) (by omega))⟩), (by omega)⟩
  · replace h1 : ¬ (((i : Nat) : Int) < ((List.length x0.2 : Nat) : Int)) := of_decide_eq_false h1
    refine wp_exit ?_
    refine then_exit ?_
    have hs7 : (allN (relB x0.2) (List.length x0.2)) = true := by exact allN_eq (by omega) hok0.1 hok0.2
    refine then_exit ?_
    refine in_hit ?_
    refine then_normal ?_
    refine wp_seq ?_
    rcases Bool.eq_false_or_eq_true ((inR x0.1 0 7)) with h8 | h8
    · skip
      have hvh8 := inR_t h8
      refine at_regq [{}, {}, { hint := some (aB true) }] { ts := [2], os := [] } [True, (AV.p (.c (.v (.bool ((inR x0.1 0 7))))) = AV.p (.c (.v (.bool true))))] gamOK hT h (by kernel_rfl) ⟨trivial, hint_bool (h8), trivial⟩ ?_
      intro a w h
      refine then_normal ?_
      refine wp_ret ?_
      exact at_return (S := S_impl_IsValidRelay) (x := (x0, ())) (decide (((List.length x0.2 : Nat) : Int) ≤ 4), ()) [] h (by kernel_rfl) trivial (congrArg (fun z => (z, ())) (show (decide (((List.length x0.2 : Nat) : Int) ≤ 4)) = validL x0 from by (unfold validL; simp_all; try omega)))
    · skip
      have hvh8 := inR_f h8
      refine at_regq [{}, {}, { hint := some (aB false) }] { ts := [2], os := [] } [True, (AV.p (.c (.v (.bool ((inR x0.1 0 7))))) = AV.p (.c (.v (.bool false))))] gamOK hT h (by kernel_rfl) ⟨trivial, hint_bool (h8), trivial⟩ ?_
      intro a w h
      refine then_normal ?_
      refine wp_ret ?_
      exact at_return (S := S_impl_IsValidRelay) (x := (x0, ())) (false, ()) [] h (by kernel_rfl) trivial (congrArg (fun z => (z, ())) (show (false) = validL x0 from by (unfold validL; simp_all; try omega)))

def S_spec_IsValidRelay : Sum := { fid := 54, dom := [s97], cod := [(.bool 4)], dp := true, fz := false, pre := fun x => (fun (x0 : T97) => Sh.fit s97 x0) x.1, g := fun x => ((validL x.1), ()) }
def S_spec_IsValidRelay_tab : List (Nat × Sum) := [(137, S_spec_IsValidRecoder), (138, S_spec_l1In)]
theorem S_spec_IsValidRelay_ok : FnOK Try.prog 54 S_spec_IsValidRelay := by
  refine at_enter 47 (fun x => ⟨[(0, aG [cI x.1.1, .ro s122 x.1.2])], []⟩) Try.func54 rfl (by kernel_rfl) (fun x => rfl) ?_
  rintro w0 Z0 ⟨x0, u⟩ a w
  revert x0
  intro (x0 : T97) hpre hlens h
  replace h : At w0 Z0 [] 47 ⟨[(0, aG [cI x0.1, .ro s122 x0.2])], []⟩ a w := h
  replace hpre : (fun (x0 : T97) => Sh.fit s97 x0) x0 := hpre
  have hl1 : List.length x0.2 ≤ 9223372036854775807 := hlens.1.2.1
  have hT : TabOK Try.prog S_spec_IsValidRelay_tab := (.cons S_spec_IsValidRecoder_ok (.cons S_spec_l1In_ok .nil))
  have hf0 : Sh.fit s97 x0 := hpre
  have hn0_1 : List.length x0.2 ≤ 1073741824 := hf0.2.1
  refine wp_seq ?_
  refine at_regq [{ ids := [1] }] { ts := [1, 2], os := [1] } [] gamOK hT h (by kernel_rfl) trivial ?_
  intro a w h
  refine then_normal ?_
  refine wp_seq ?_
  refine wp_seq ?_
  refine at_regq [] { ts := [1, 2, 3], os := [1] } [] gamOK hT h (by kernel_rfl) trivial ?_
  intro a w h
  refine then_normal ?_
  refine wp_block ?_
  replace h := at_out (σ' := ⟨[(1, aP 1 0), (2, aB false), (3, aI 0)], [(1, oX 97 [cI x0.1, .ro s122 x0.2])]⟩) { ts := [1, 2, 3], os := [1] } h (by kernel_rfl)
  refine at_loop (fun i : Nat => (⟨[(1, aP 1 0), (2, aB false), (3, aI ((i : Nat) : Int))], [(1, oX 97 [cI x0.1, .ro s122 x0.2])]⟩ : St)) (fun i => (i ≤ (List.length x0.2) ∧ allN (relB x0.2) i = true)) (fun i => (List.length x0.2) - i) (0) h (st_congr1 (fun (d0 : Int) => (⟨[(1, aP 1 0), (2, aB false), (3, aI d0)], [(1, oX 97 [cI x0.1, .ro s122 x0.2])]⟩ : St)) (show (0 : Int) = (((0) : Nat) : Int) from by first | with_reducible rfl | (rfl) | rfl)) (by exact ⟨Nat.zero_le _, rfl⟩) ?_
  intro i a w hok0 h
  refine wp_seq ?_
  refine wp_seq ?_
  refine at_regq [] { ts := [1, 2, 3, 8], os := [1] } [] gamOK hT h (by kernel_rfl) trivial ?_
  intro a w h
  refine then_normal ?_
  refine at_test (decide (((i : Nat) : Int) < ((List.length x0.2 : Nat) : Int))) h (by kernel_rfl) (fun h1 => ?_) (fun h1 => ?_)
  · replace h1 : ((i : Nat) : Int) < ((List.length x0.2 : Nat) : Int) := of_decide_eq_true h1
    refine wp_skip ?_
    refine then_normal ?_
    refine wp_seq ?_
    refine wp_block ?_
    refine wp_seq ?_
    rcases Bool.eq_false_or_eq_true (!(validR (x0.2.getD i (0, (0, (0, ([], 0))))))) with h2 | h2
    · skip
      have hzh2 : (validR (x0.2.getD i (0, (0, (0, ([], 0)))))) = false := notT h2
      refine at_anyq [{}, {}, {}, {}, {}, {}, { hint := some (aB true) }, {}, {}, {}, {}, {}, {}, {}, {}, {}, {}, {}, {}, {}, {}, {}, {}, {}, {}, {}, {}] { ts := [1, 2, 3, 19, 20, 21, 22, 23, 24, 25, 26, 27, 28, 29, 30, 31, 32, 33, 34, 35, 36, 37], os := [1] } [(0 : Int) ≤ ((i : Nat) : Int) ∧ ((i : Nat) : Int) < ((List.length x0.2 : Nat) : Int), (fun (x0 : T122) => Sh.fit s122 x0) (x0.2.getD i (0, (0, (0, ([], 0))))), (AV.p (.c (.v (.bool (!(validR (x0.2.getD i (0, (0, (0, ([], 0)))))))))) = AV.p (.c (.v (.bool true))))] gamOK hT mixed h (by kernel_rfl) ⟨(by refine ⟨?_, ?_⟩ <;> (first | omega | (simp only [lsA]; omega) | (simp; done) | (simp; omega) | done)), (by exact (Sh.fit_getD hf0.2 i)), hint_bool (h2), trivial⟩ ?_
      intro a w h
      refine then_normal ?_
      refine at_test true h (by kernel_rfl) (fun hh => ?_) (fun hh => nomatch hh)
      refine wp_seq ?_
      refine at_regq [] { ts := [1, 2, 3, 19, 20, 21, 22, 23, 24, 25, 26, 27, 28, 29, 30, 31, 32, 33, 34, 35, 36], os := [1] } [] gamOK hT h (by kernel_rfl) trivial ?_
      intro a w h
      refine then_normal ?_
      refine wp_ret ?_
      refine in_ret ?_
      refine then_ret ?_
      have hs3 : (allN (relB x0.2) (List.length x0.2)) = false := by exact allN_at (i := i) (by omega) (by first | exact relB_f1 (by assumption) | exact relB_f2 (by omega))
      refine then_ret ?_
      refine in_ret ?_
      refine then_ret ?_
      exact at_return (S := S_spec_IsValidRelay) (x := (x0, ())) (false, ()) [] h (by kernel_rfl) trivial (congrArg (fun z => (z, ())) (show (false) = validL x0 from by (unfold validL; simp_all; try omega)))
    · skip
      have hzh2 : (validR (x0.2.getD i (0, (0, (0, ([], 0)))))) = true := notF h2
      have hvh2 := validR_t (notF h2)
      by_cases h4 : ((i : Nat) : Int) > 0
      · skip
        refine at_anyq [{}, {}, {}, {}, {}, {}, { hint := some (aB false) }, {}, {}, { hint := some (aB true) }, {}, {}, {}, {}, { nw := true }, {}, {}, {}, {}, {}, {}, {}, {}, {}, {}, {}, {}] { ts := [1, 2, 3, 19, 20, 21, 22, 23, 24, 25, 26, 27, 28, 29, 30, 31, 32, 33, 34, 35, 36, 37], os := [1] } [(0 : Int) ≤ ((i : Nat) : Int) ∧ ((i : Nat) : Int) < ((List.length x0.2 : Nat) : Int), (fun (x0 : T122) => Sh.fit s122 x0) (x0.2.getD i (0, (0, (0, ([], 0))))), (AV.p (.c (.v (.bool (!(validR (x0.2.getD i (0, (0, (0, ([], 0)))))))))) = AV.p (.c (.v (.bool false)))), (AV.p (.c (.v (.bool (decide (((i : Nat) : Int) > 0))))) = AV.p (.c (.v (.bool true)))), I64 (((i : Nat) : Int) - 1), (0 : Int) ≤ ((i : Nat) : Int) - 1 ∧ ((i : Nat) : Int) - 1 < ((List.length x0.2 : Nat) : Int), (0 : Int) ≤ ((i : Nat) : Int) ∧ ((i : Nat) : Int) < ((List.length x0.2 : Nat) : Int)] gamOK hT mixed h (by kernel_rfl) ⟨(by refine ⟨?_, ?_⟩ <;> (first | omega | (simp only [lsA]; omega) | (simp; done) | (simp; omega) | done)), (by exact (Sh.fit_getD hf0.2 i)), hint_bool (h2), hint_bool (decide_eq_true h4), ⟨by first | omega | (simp only [lsA]; omega) | (simp; done) | (simp; omega) | done, by first | omega | (simp only [lsA]; omega) | (simp; done) | (simp; omega) | done⟩, (by refine ⟨?_, ?_⟩ <;> (first | omega | (simp only [lsA]; omega) | (simp; done) | (simp; omega) | done)), (by refine ⟨?_, ?_⟩ <;> (first | omega | (simp only [lsA]; omega) | (simp; done) | (simp; omega) | done)), trivial⟩ ?_
        intro a w h
        refine then_normal ?_
        refine at_test (decide ((x0.2.getD ((((i : Nat) : Int) - 1).toNat) (0, (0, (0, ([], 0))))).1 ≥ (x0.2.getD i (0, (0, (0, ([], 0))))).1)) h (by kernel_rfl) (fun h5 => ?_) (fun h5 => ?_)
        · replace h5 : (x0.2.getD ((((i : Nat) : Int) - 1).toNat) (0, (0, (0, ([], 0))))).1 ≥ (x0.2.getD i (0, (0, (0, ([], 0))))).1 := of_decide_eq_true h5
          refine wp_seq ?_
          refine at_regq [] { ts := [1, 2, 3, 19, 20, 21, 22, 23, 24, 25, 26, 27, 28, 29, 30, 31, 32, 33, 34, 35, 36], os := [1] } [] gamOK hT h (by kernel_rfl) trivial ?_
          intro a w h
          refine then_normal ?_
          refine wp_ret ?_
          refine in_ret ?_
          refine then_ret ?_
          have hs6 : (allN (relB x0.2) (List.length x0.2)) = false := by exact allN_at (i := i) (by omega) (by first | exact relB_f1 (by assumption) | exact relB_f2 (by omega))
          refine then_ret ?_
          refine in_ret ?_
          refine then_ret ?_
          exact at_return (S := S_spec_IsValidRelay) (x := (x0, ())) (false, ()) [] h (by kernel_rfl) trivial (congrArg (fun z => (z, ())) (show (false) = validL x0 from by (unfold validL; simp_all; try omega)))
        · replace h5 : ¬ ((x0.2.getD ((((i : Nat) : Int) - 1).toNat) (0, (0, (0, ([], 0))))).1 ≥ (x0.2.getD i (0, (0, (0, ([], 0))))).1) := of_decide_eq_false h5
          refine wp_skip ?_
          refine in_normal ?_
          refine then_normal ?_
          refine at_regq [{}, { nw := true }] { ts := [1, 2, 3, 19, 20, 21, 22, 23, 24, 25, 26, 27, 28, 29, 30, 31, 32, 33, 34, 35, 36], os := [1] } [I64 (((i : Nat) : Int) + 1)] gamOK hT h (by kernel_rfl) ⟨⟨by first | omega | (simp only [lsA]; omega) | (simp; done) | (simp; omega) | done, by first | omega | (simp only [lsA]; omega) | (simp; done) | (simp; omega) | done⟩, trivial⟩ ?_
          intro a w h
          replace h := at_out (σ' := ⟨[(1, aP 1 0), (2, aB false), (3, aI (((i : Nat) : Int) + 1))], [(1, oX 97 [cI x0.1, .ro s122 x0.2])]⟩) { ts := [1, 2, 3], os := [1] } h (by kernel_rfl)
          exact ⟨i + 1, at_eq h (st_congr1 (fun (d0 : Int) => (⟨[(1, aP 1 0), (2, aB false), (3, aI d0)], [(1, oX 97 [cI x0.1, .ro s122 x0.2])]⟩ : St)) (show (((i : Nat) : Int) + 1 : Int) = (((i + 1) : Nat) : Int) from by first | with_reducible rfl | (omega) | rfl)), (by exact ⟨by omega, allN_succ hok0.2 (by exact relB_t (by assumption) (by omega))⟩), (by omega)⟩
      · skip
        refine at_anyq [{}, {}, {}, {}, {}, {}, { hint := some (aB false) }, {}, {}, { hint := some (aB false) }, {}, {}, {}, {}, {}, {}, {}, {}, {}, {}, {}, {}, {}, {}, {}, {}, {}] { ts := [1, 2, 3, 19, 20, 21, 22, 23, 24, 25, 26, 27, 28, 29, 30, 31, 32, 33, 34, 35, 36, 37], os := [1] } [(0 : Int) ≤ ((i : Nat) : Int) ∧ ((i : Nat) : Int) < ((List.length x0.2 : Nat) : Int), (fun (x0 : T122) => Sh.fit s122 x0) (x0.2.getD i (0, (0, (0, ([], 0))))), (AV.p (.c (.v (.bool (!(validR (x0.2.getD i (0, (0, (0, ([], 0)))))))))) = AV.p (.c (.v (.bool false)))), (AV.p (.c (.v (.bool (decide (((i : Nat) : Int) > 0))))) = AV.p (.c (.v (.bool false))))] gamOK hT mixed h (by kernel_rfl) ⟨(by refine ⟨?_, ?_⟩ <;> (first | omega | (simp only [lsA]; omega) | (simp; done) | (simp; omega) | done)), (by exact (Sh.fit_getD hf0.2 i)), hint_bool (h2), hint_bool (decide_eq_false h4), trivial⟩ ?_
        intro a w h
        refine then_normal ?_
        refine at_test false h (by kernel_rfl) (fun hh => nomatch hh) (fun hh => ?_)
        refine wp_skip ?_
        refine in_normal ?_
        refine then_normal ?_
        refine at_regq [{}, { nw := true }] { ts := [1, 2, 3, 19, 20, 21, 22, 23, 24, 25, 26, 27, 28, 29, 30, 31, 32, 33, 34, 35, 36], os := [1] } [I64 (((i : Nat) : Int) + 1)] gamOK hT h (by kernel_rfl) ⟨⟨by first | omega | (simp only [lsA]; omega) | (simp; done) | (simp; omega) | done, by first | omega | (simp only [lsA]; omega) | (simp; done) | (simp; omega) | done⟩, trivial⟩ ?_
        intro a w h
        replace h := at_out (σ' := ⟨[(1, aP 1 0), (2, aB false), (3, aI (((i : Nat) : Int) + 1))], [(1, oX 97 [cI x0.1, .ro s122 x0.2])]⟩) { ts := [1, 2, 3], os := [1] } h (by kernel_rfl)
        exact ⟨i + 1, at_eq h (st_congr1 (fun (d0 : Int) => (⟨[(1, aP 1 0), (2, aB false), (3, aI d0)], [(1, oX 97 [cI x0.1, .ro s122 x0.2])]⟩ : St)) (show (((i : Nat) : Int) + 1 : Int) = (((i + 1) : Nat) : Int) from by first | with_reducible rfl | (omega) | rfl)), (by exact ⟨by omega, allN_succ hok0.2 (by exact relB_t (by assumption) (by omega))⟩), (by omega)⟩
  · replace h1 : ¬ (((i : Nat) : Int) < ((List.length x0.2 : Nat) : Int)) := of_decide_eq_false h1
    refine wp_exit ?_
    refine then_exit ?_
    have hs7 : (allN (relB x0.2) (List.length x0.2)) = true := by exact allN_eq (by omega) hok0.1 hok0.2
    refine then_exit ?_
    refine in_hit ?_
    refine then_normal ?_
    refine wp_seq ?_
    rcases Bool.eq_false_or_eq_true ((inR x0.1 0 7)) with h8 | h8
    · skip
      have hvh8 := inR_t h8
      refine at_regq [{}, {}, { hint := some (aB true) }] { ts := [2], os := [] } [True, (AV.p (.c (.v (.bool ((inR x0.1 0 7))))) = AV.p (.c (.v (.bool true))))] gamOK hT h (by kernel_rfl) ⟨trivial, hint_bool (h8), trivial⟩ ?_
      intro a w h
      refine then_normal ?_
      refine wp_ret ?_
      exact at_return (S := S_spec_IsValidRelay) (x := (x0, ())) (decide (((List.length x0.2 : Nat) : Int) ≤ 4), ()) [] h (by kernel_rfl) trivial (congrArg (fun z => (z, ())) (show (decide (((List.length x0.2 : Nat) : Int) ≤ 4)) = validL x0 from by (unfold validL; simp_all; try omega)))
    · skip
      have hvh8 := inR_f h8
      refine at_regq [{}, {}, { hint := some (aB false) }] { ts := [2], os := [] } [True, (AV.p (.c (.v (.bool ((inR x0.1 0 7))))) = AV.p (.c (.v (.bool false))))] gamOK hT h (by kernel_rfl) ⟨trivial, hint_bool (h8), trivial⟩ ?_
      intro a w h
      refine then_normal ?_
      refine wp_ret ?_
      exact at_return (S := S_spec_IsValidRelay) (x := (x0, ())) (false, ()) [] h (by kernel_rfl) trivial (congrArg (fun z => (z, ())) (show (false) = validL x0 from by (unfold validL; simp_all; try omega)))

def D__impl_Relay_recoderAt_1 := (fun (x : T122) (g : Int) => cmpI x.1 g)
def S__impl_Relay_recoderAt_1 : Sum := { fid := 224, dom := [s122, (.int 3)], cod := [(.int 3)], dp := true, fz := false, pre := fun x => (fun (x0 : T122) (x1 : Int) => Sh.fit s122 x0) x.1 x.2.1, g := fun x => ((D__impl_Relay_recoderAt_1 x.1 x.2.1), ()) }
def S__impl_Relay_recoderAt_1_tab : List (Nat × Sum) := [(225, S_cmp_Compare_int_)]
theorem S__impl_Relay_recoderAt_1_ok : FnOK Try.prog 224 S__impl_Relay_recoderAt_1 := by
  refine at_enter 9 (fun x => ⟨[(0, aG [cI x.1.1, cI x.1.2.1, cI x.1.2.2.1, .ro s126 x.1.2.2.2.1, cI x.1.2.2.2.2]), (1, aI x.2.1)], []⟩) Try.func224 rfl (by kernel_rfl) (fun x => rfl) ?_
  rintro w0 Z0 ⟨x0, x1, u⟩ a w
  revert x0 x1
  intro (x0 : T122) (x1 : Int) hpre hlens h
  replace h : At w0 Z0 [] 9 ⟨[(0, aG [cI x0.1, cI x0.2.1, cI x0.2.2.1, .ro s126 x0.2.2.2.1, cI x0.2.2.2.2]), (1, aI x1)], []⟩ a w := h
  replace hpre : (fun (x0 : T122) (x1 : Int) => Sh.fit s122 x0) x0 x1 := hpre
  have hl1 : List.length x0.2.2.2.1 ≤ 9223372036854775807 := hlens.1.2.2.2.1.1
  have hT : TabOK Try.prog S__impl_Relay_recoderAt_1_tab := (.cons S_cmp_Compare_int__ok .nil)
  have hf0 : Sh.fit s122 x0 := hpre
  have hn0_1 : List.length x0.2.2.2.1 ≤ 1073741824 := hf0.2.2.2.1.1
  refine wp_seq ?_
  refine at_regq [{ ids := [1] }] { ts := [1, 2, 4], os := [1] } [] gamOK hT h (by kernel_rfl) trivial ?_
  intro a w h
  refine then_normal ?_
  refine wp_seq ?_
  refine at_regq [] { ts := [4], os := [] } [True] gamOK hT h (by kernel_rfl) ⟨trivial, trivial⟩ ?_
  intro a w h
  refine then_normal ?_
  refine wp_ret ?_
  exact at_return (S := S__impl_Relay_recoderAt_1) (x := (x0, x1, ())) ((cmpI x0.1 x1), ()) [] h (by kernel_rfl) trivial (congrArg (fun z => (z, ())) (show ((cmpI x0.1 x1)) = D__impl_Relay_recoderAt_1 x0 x1 from by unfold D__impl_Relay_recoderAt_1; rfl))

def D_slices_BinarySearchFunc_S_impl_Recoder_impl_Recoder_int__recoderAt_1 := (fun (xs : List T122) (v : Int) (_ : Unit) => (((bsK (fun x => x.1) (0, (0, (0, ([], 0)))) xs v : Nat) : Int), fndK (fun x => x.1) (0, (0, (0, ([], 0)))) xs v))
def S_slices_BinarySearchFunc_S_impl_Recoder_impl_Recoder_int__recoderAt_1 : Sum := { fid := 223, dom := [s68, (.int 3), (.fn0 224)], cod := [(.int 3), (.bool 4)], dp := true, fz := false, pre := fun x => (fun (x0 : (List T122)) (x1 : Int) (x2 : Unit) => Sh.fit s68 x0) x.1 x.2.1 x.2.2.1, g := fun x => ((D_slices_BinarySearchFunc_S_impl_Recoder_impl_Recoder_int__recoderAt_1 x.1 x.2.1 x.2.2.1).1, ((D_slices_BinarySearchFunc_S_impl_Recoder_impl_Recoder_int__recoderAt_1 x.1 x.2.1 x.2.2.1).2, ())) }
def S_slices_BinarySearchFunc_S_impl_Recoder_impl_Recoder_int__recoderAt_1_tab : List (Nat × Sum) := [(224, S__impl_Relay_recoderAt_1)]
theorem S_slices_BinarySearchFunc_S_impl_Recoder_impl_Recoder_int__recoderAt_1_ok : FnOK Try.prog 223 S_slices_BinarySearchFunc_S_impl_Recoder_impl_Recoder_int__recoderAt_1 := by
  refine at_enter 49 (fun x => ⟨[(0, aF s122 x.1), (1, aI x.2.1), (2, .p (.c (.cl 224 .cnil)))], []⟩) Try.func223 rfl (by kernel_rfl) (fun x => rfl) ?_
  rintro w0 Z0 ⟨x0, x1, x2, u⟩ a w
  revert x0 x1 x2
  intro (x0 : (List T122)) (x1 : Int) (x2 : Unit) hpre hlens h
  replace h : At w0 Z0 [] 49 ⟨[(0, aF s122 x0), (1, aI x1), (2, .p (.c (.cl 224 .cnil)))], []⟩ a w := h
  replace hpre : (fun (x0 : (List T122)) (x1 : Int) (x2 : Unit) => Sh.fit s68 x0) x0 x1 x2 := hpre
  have hl1 : List.length x0 ≤ 9223372036854775807 := hlens.1.1
  have hT : TabOK Try.prog S_slices_BinarySearchFunc_S_impl_Recoder_impl_Recoder_int__recoderAt_1_tab := (.cons S__impl_Relay_recoderAt_1_ok .nil)
  have hf0 : Sh.fit s68 x0 := hpre
  have hn0_1 : List.length x0 ≤ 1073741824 := hf0.1
  refine wp_seq ?_
  refine at_regq [] { ts := [0, 1, 2, 6, 7], os := [] } [] gamOK hT h (by kernel_rfl) trivial ?_
  intro a w h
  refine then_normal ?_
  refine wp_seq ?_
  refine at_regq [] { ts := [0, 1, 2, 6, 7, 8], os := [] } [] gamOK hT h (by kernel_rfl) trivial ?_
  intro a w h
  refine then_normal ?_
  refine wp_seq ?_
  refine at_regq [] { ts := [0, 1, 2, 6, 7, 8, 9, 10], os := [] } [] gamOK hT h (by kernel_rfl) trivial ?_
  intro a w h
  refine then_normal ?_
  refine wp_seq ?_
  refine wp_block ?_
  replace h := at_out (σ' := ⟨[(0, aF s122 x0), (1, aI x1), (2, .p (.c (.cl 224 .cnil))), (6, aI 0), (7, aB false), (8, aI ((List.length x0 : Nat) : Int)), (9, aI 0), (10, aI ((List.length x0 : Nat) : Int))], []⟩) { ts := [0, 1, 2, 6, 7, 8, 9, 10], os := [] } h (by kernel_rfl)
  refine at_loop (fun q : (Nat × Nat) => (⟨[(0, aF s122 x0), (1, aI x1), (2, .p (.c (.cl 224 .cnil))), (6, aI 0), (7, aB false), (8, aI ((List.length x0 : Nat) : Int)), (9, aI ((q.1 : Nat) : Int)), (10, aI ((q.2 : Nat) : Int))], []⟩ : St)) (fun q => (q.1 ≤ q.2 ∧ q.2 ≤ List.length x0 ∧ bsF (ltK (fun x => x.1) (0, (0, (0, ([], 0)))) x0 x1) q.1 q.2 = bsF (ltK (fun x => x.1) (0, (0, (0, ([], 0)))) x0 x1) 0 (List.length x0))) (fun q => q.2 - q.1) ((0, List.length x0)) h (st_congr2 (fun (d0 : Int) (d1 : Int) => (⟨[(0, aF s122 x0), (1, aI x1), (2, .p (.c (.cl 224 .cnil))), (6, aI 0), (7, aB false), (8, aI ((List.length x0 : Nat) : Int)), (9, aI d0), (10, aI d1)], []⟩ : St)) (show (0 : Int) = ((((0, List.length x0)).1 : Nat) : Int) from by first | with_reducible rfl | (rfl) | rfl) (show (((List.length x0 : Nat) : Int) : Int) = ((((0, List.length x0)).2 : Nat) : Int) from by first | with_reducible rfl | (rfl) | rfl)) (by exact ⟨Nat.zero_le _, Nat.le_refl _, rfl⟩) ?_
  intro q a w hok0 h
  refine wp_seq ?_
  refine wp_seq ?_
  refine at_regq [] { ts := [0, 1, 2, 6, 7, 8, 9, 10, 17], os := [] } [] gamOK hT h (by kernel_rfl) trivial ?_
  intro a w h
  refine then_normal ?_
  refine at_test (decide (((q.1 : Nat) : Int) < ((q.2 : Nat) : Int))) h (by kernel_rfl) (fun h1 => ?_) (fun h1 => ?_)
  · replace h1 : ((q.1 : Nat) : Int) < ((q.2 : Nat) : Int) := of_decide_eq_true h1
    refine wp_skip ?_
    refine then_normal ?_
    refine wp_block ?_
    refine wp_seq ?_
    refine at_regq [{}, {}, { nw := true }, {}, {}, { hint := some (aI (((q.1 + q.2) / 2 : Nat) : Int)) }] { ts := [0, 1, 2, 6, 7, 8, 9, 10, 11], os := [] } [I64 (((q.1 : Nat) : Int) + ((q.2 : Nat) : Int)), (0 : Int) ≤ 1, (AV.p (.c (.v (.int .i64 (IntKind.i64.wrap ((Int.fdiv (IntKind.u64.wrap (((q.1 : Nat) : Int) + ((q.2 : Nat) : Int))) (2 ^ (min (1 : Int).toNat (IntKind.u64).bits)))))))) = AV.p (.c (.v (.int .i64 ((((q.1 + q.2) / 2 : Nat) : Int))))))] gamOK hT h (by kernel_rfl) ⟨⟨by first | omega | (simp only [lsA]; omega) | (simp; done) | (simp; omega) | done, by first | omega | (simp only [lsA]; omega) | (simp; done) | (simp; omega) | done⟩, (by first | omega | (simp only [lsA]; omega) | (simp; done) | (simp; omega) | done), hint_int (by exact half_eq (by omega)), trivial⟩ ?_
    intro a w h
    refine then_normal ?_
    refine wp_seq ?_
    refine at_regq [] { ts := [0, 1, 2, 6, 7, 8, 9, 10, 11, 31], os := [] } [(0 : Int) ≤ (((q.1 + q.2) / 2 : Nat) : Int) ∧ (((q.1 + q.2) / 2 : Nat) : Int) < ((List.length x0 : Nat) : Int), (fun (x0 : T122) (x1 : Int) => Sh.fit s122 x0) (x0.getD ((q.1 + q.2) / 2) (0, (0, (0, ([], 0))))) x1] gamOK hT h (by kernel_rfl) ⟨(by refine ⟨?_, ?_⟩ <;> (first | omega | (simp only [lsA]; omega) | (simp; done) | (simp; omega) | done)), (by exact (Sh.fit_getD hf0 ((q.1 + q.2) / 2))), trivial⟩ ?_
    intro a w h
    refine then_normal ?_
    refine at_test (decide ((D__impl_Relay_recoderAt_1 (x0.getD ((q.1 + q.2) / 2) (0, (0, (0, ([], 0))))) x1) < 0)) h (by kernel_rfl) (fun h2 => ?_) (fun h2 => ?_)
    · replace h2 : (D__impl_Relay_recoderAt_1 (x0.getD ((q.1 + q.2) / 2) (0, (0, (0, ([], 0))))) x1) < 0 := of_decide_eq_true h2
      refine at_regq [{}, { nw := true }] { ts := [0, 1, 2, 6, 7, 8, 9, 10], os := [] } [I64 ((((q.1 + q.2) / 2 : Nat) : Int) + 1)] gamOK hT h (by kernel_rfl) ⟨⟨by first | omega | (simp only [lsA]; omega) | (simp; done) | (simp; omega) | done, by first | omega | (simp only [lsA]; omega) | (simp; done) | (simp; omega) | done⟩, trivial⟩ ?_
      intro a w h
      refine in_normal ?_
      replace h := at_out (σ' := ⟨[(0, aF s122 x0), (1, aI x1), (2, .p (.c (.cl 224 .cnil))), (6, aI 0), (7, aB false), (8, aI ((List.length x0 : Nat) : Int)), (9, aI ((((q.1 + q.2) / 2 : Nat) : Int) + 1)), (10, aI ((q.2 : Nat) : Int))], []⟩) { ts := [0, 1, 2, 6, 7, 8, 9, 10], os := [] } h (by kernel_rfl)
      exact ⟨((q.1 + q.2) / 2 + 1, q.2), at_eq h (st_congr2 (fun (d0 : Int) (d1 : Int) => (⟨[(0, aF s122 x0), (1, aI x1), (2, .p (.c (.cl 224 .cnil))), (6, aI 0), (7, aB false), (8, aI ((List.length x0 : Nat) : Int)), (9, aI d0), (10, aI d1)], []⟩ : St)) (show ((((q.1 + q.2) / 2 : Nat) : Int) + 1 : Int) = (((((q.1 + q.2) / 2 + 1, q.2)).1 : Nat) : Int) from by first | with_reducible rfl | (dsimp only; omega) | rfl) (show (((q.2 : Nat) : Int) : Int) = (((((q.1 + q.2) / 2 + 1, q.2)).2 : Nat) : Int) from by first | with_reducible rfl | (dsimp only; omega) | rfl)), (by dsimp only; first | (refine ⟨by omega, by omega, ?_⟩; exact (bsF_up (by omega) (show ltK (fun x => x.1) (0, (0, (0, ([], 0)))) x0 x1 _ = true from decide_eq_true (cmpI_lt.1 (by assumption)))).symm.trans hok0.2.2) | (refine ⟨by omega, by omega, ?_⟩; exact (bsF_down (by omega) (show ltK (fun x => x.1) (0, (0, (0, ([], 0)))) x0 x1 _ = false from decide_eq_false (fun e => absurd (cmpI_lt.2 e) (by assumption)))).symm.trans hok0.2.2)), (by dsimp only; omega)⟩
    · replace h2 : ¬ ((D__impl_Relay_recoderAt_1 (x0.getD ((q.1 + q.2) / 2) (0, (0, (0, ([], 0))))) x1) < 0) := of_decide_eq_false h2
      refine at_regq [] { ts := [0, 1, 2, 6, 7, 8, 9, 10], os := [] } [] gamOK hT h (by kernel_rfl) trivial ?_
      intro a w h
      refine in_normal ?_
      replace h := at_out (σ' := ⟨[(0, aF s122 x0), (1, aI x1), (2, .p (.c (.cl 224 .cnil))), (6, aI 0), (7, aB false), (8, aI ((List.length x0 : Nat) : Int)), (9, aI ((q.1 : Nat) : Int)), (10, aI (((q.1 + q.2) / 2 : Nat) : Int))], []⟩) { ts := [0, 1, 2, 6, 7, 8, 9, 10], os := [] } h (by kernel_rfl)
      exact ⟨(q.1, (q.1 + q.2) / 2), at_eq h (st_congr2 (fun (d0 : Int) (d1 : Int) => (⟨[(0, aF s122 x0), (1, aI x1), (2, .p (.c (.cl 224 .cnil))), (6, aI 0), (7, aB false), (8, aI ((List.length x0 : Nat) : Int)), (9, aI d0), (10, aI d1)], []⟩ : St)) (show (((q.1 : Nat) : Int) : Int) = ((((q.1, (q.1 + q.2) / 2)).1 : Nat) : Int) from by first | with_reducible rfl | (dsimp only; omega) | rfl) (show ((((q.1 + q.2) / 2 : Nat) : Int) : Int) = ((((q.1, (q.1 + q.2) / 2)).2 : Nat) : Int) from by first | with_reducible rfl | (dsimp only; omega) | rfl)), (by dsimp only; first | (refine ⟨by omega, by omega, ?_⟩; exact (bsF_up (by omega) (show ltK (fun x => x.1) (0, (0, (0, ([], 0)))) x0 x1 _ = true from decide_eq_true (cmpI_lt.1 (by assumption)))).symm.trans hok0.2.2) | (refine ⟨by omega, by omega, ?_⟩; exact (bsF_down (by omega) (show ltK (fun x => x.1) (0, (0, (0, ([], 0)))) x0 x1 _ = false from decide_eq_false (fun e => absurd (cmpI_lt.2 e) (by assumption)))).symm.trans hok0.2.2)), (by dsimp only; omega)⟩
  · replace h1 : ¬ (((q.1 : Nat) : Int) < ((q.2 : Nat) : Int)) := of_decide_eq_false h1
    refine wp_exit ?_
    refine then_exit ?_
    refine then_exit ?_
    refine in_hit ?_
    refine then_normal ?_
    refine wp_seq ?_
    by_cases h3 : ((q.1 : Nat) : Int) < ((List.length x0 : Nat) : Int)
    · skip
      refine at_regq [{}, {}, {}, { hint := some (aB true) }] { ts := [6, 7], os := [] } [(AV.p (.c (.v (.bool (decide (((q.1 : Nat) : Int) < ((List.length x0 : Nat) : Int)))))) = AV.p (.c (.v (.bool true)))), (0 : Int) ≤ ((q.1 : Nat) : Int) ∧ ((q.1 : Nat) : Int) < ((List.length x0 : Nat) : Int), (fun (x0 : T122) (x1 : Int) => Sh.fit s122 x0) (x0.getD q.1 (0, (0, (0, ([], 0))))) x1] gamOK hT h (by kernel_rfl) ⟨hint_bool (decide_eq_true h3), (by refine ⟨?_, ?_⟩ <;> (first | omega | (simp only [lsA]; omega) | (simp; done) | (simp; omega) | done)), (by exact (Sh.fit_getD hf0 q.1)), trivial⟩ ?_
      intro a w h
      refine then_normal ?_
      refine wp_ret ?_
      exact at_return (S := S_slices_BinarySearchFunc_S_impl_Recoder_impl_Recoder_int__recoderAt_1) (x := (x0, x1, x2, ())) (((q.1 : Nat) : Int), (decide ((D__impl_Relay_recoderAt_1 (x0.getD q.1 (0, (0, (0, ([], 0))))) x1) = 0), ())) [] h (by kernel_rfl) trivial (congrArg (fun z => (z.1, z.2, ())) (show ((((q.1 : Nat) : Int), decide ((D__impl_Relay_recoderAt_1 (x0.getD q.1 (0, (0, (0, ([], 0))))) x1) = 0))) = D_slices_BinarySearchFunc_S_impl_Recoder_impl_Recoder_int__recoderAt_1 x0 x1 x2 from by unfold D_slices_BinarySearchFunc_S_impl_Recoder_impl_Recoder_int__recoderAt_1; (have e := hok0.2.2; rw [bsF_end (by omega)] at e; have e1 : bsK (fun x => x.1) (0, (0, (0, ([], 0)))) x0 x1 = q.1 := e.symm; unfold fndK; rw [e1]; exact Prod.ext rfl (by first | exact fnd_no (f := (fun x => x.1)) (z := (0, (0, (0, ([], 0))))) (xs := x0) (v := x1) (q := q.1) (by omega) | exact fnd_eq (f := (fun x => x.1)) (z := (0, (0, (0, ([], 0))))) (xs := x0) (v := x1) (q := q.1) (by omega)))))
    · skip
      refine at_regq [{}, {}, {}, { hint := some (aB false) }] { ts := [6, 7], os := [] } [(AV.p (.c (.v (.bool (decide (((q.1 : Nat) : Int) < ((List.length x0 : Nat) : Int)))))) = AV.p (.c (.v (.bool false))))] gamOK hT h (by kernel_rfl) ⟨hint_bool (decide_eq_false h3), trivial⟩ ?_
      intro a w h
      refine then_normal ?_
      refine wp_ret ?_
      exact at_return (S := S_slices_BinarySearchFunc_S_impl_Recoder_impl_Recoder_int__recoderAt_1) (x := (x0, x1, x2, ())) (((q.1 : Nat) : Int), (false, ())) [] h (by kernel_rfl) trivial (congrArg (fun z => (z.1, z.2, ())) (show ((((q.1 : Nat) : Int), false)) = D_slices_BinarySearchFunc_S_impl_Recoder_impl_Recoder_int__recoderAt_1 x0 x1 x2 from by unfold D_slices_BinarySearchFunc_S_impl_Recoder_impl_Recoder_int__recoderAt_1; (have e := hok0.2.2; rw [bsF_end (by omega)] at e; have e1 : bsK (fun x => x.1) (0, (0, (0, ([], 0)))) x0 x1 = q.1 := e.symm; unfold fndK; rw [e1]; exact Prod.ext rfl (by first | exact fnd_no (f := (fun x => x.1)) (z := (0, (0, (0, ([], 0))))) (xs := x0) (v := x1) (q := q.1) (by omega) | exact fnd_eq (f := (fun x => x.1)) (z := (0, (0, (0, ([], 0))))) (xs := x0) (v := x1) (q := q.1) (by omega)))))

def D__impl_Relay_recoderAt (x0 : T97) (x1 : Int) : Int × Bool := ((D_slices_BinarySearchFunc_S_impl_Recoder_impl_Recoder_int__recoderAt_1 x0.2 x1 ()).1, (D_slices_BinarySearchFunc_S_impl_Recoder_impl_Recoder_int__recoderAt_1 x0.2 x1 ()).2)
def S__impl_Relay_recoderAt : Sum := { fid := 157, dom := [s97, (.int 3)], cod := [(.int 3), (.bool 4)], dp := true, fz := false, pre := fun x => (fun (x0 : T97) (x1 : Int) => Sh.fit s97 x0) x.1 x.2.1, g := fun x => ((D__impl_Relay_recoderAt x.1 x.2.1).1, ((D__impl_Relay_recoderAt x.1 x.2.1).2, ())) }
def S__impl_Relay_recoderAt_tab : List (Nat × Sum) := [(100013, S_slices_BinarySearchFunc_S_impl_Recoder_impl_Recoder_int__recoderAt_1)]
theorem S__impl_Relay_recoderAt_ok : FnOK Try.prog 157 S__impl_Relay_recoderAt := by
  refine at_enter 12 (fun x => ⟨[(0, aG [cI x.1.1, .ro s122 x.1.2]), (1, aI x.2.1)], []⟩) Try.func157 rfl (by kernel_rfl) (fun x => rfl) ?_
  rintro w0 Z0 ⟨x0, x1, u⟩ a w
  revert x0 x1
  intro (x0 : T97) (x1 : Int) hpre hlens h
  replace h : At w0 Z0 [] 12 ⟨[(0, aG [cI x0.1, .ro s122 x0.2]), (1, aI x1)], []⟩ a w := h
  replace hpre : (fun (x0 : T97) (x1 : Int) => Sh.fit s97 x0) x0 x1 := hpre
  have hl1 : List.length x0.2 ≤ 9223372036854775807 := hlens.1.2.1
  have hT : TabOK Try.prog S__impl_Relay_recoderAt_tab := (.cons S_slices_BinarySearchFunc_S_impl_Recoder_impl_Recoder_int__recoderAt_1_ok .nil)
  have hf0 : Sh.fit s97 x0 := hpre
  have hn0_1 : List.length x0.2 ≤ 1073741824 := hf0.2.1
  refine wp_seq ?_
  refine at_regq [{ ids := [1] }] { ts := [1, 2, 4, 5], os := [1] } [] gamOK hT h (by kernel_rfl) trivial ?_
  intro a w h
  refine then_normal ?_
  refine wp_seq ?_
  refine at_regq [{}, {}, {}, { key := some 100013 }] { ts := [4, 5], os := [] } [(fun (x0 : (List T122)) (x1 : Int) (x2 : Unit) => Sh.fit s68 x0) x0.2 x1 ()] gamOK hT h (by kernel_rfl) ⟨(by exact hf0.2), trivial⟩ ?_
  intro a w h
  refine then_normal ?_
  refine wp_ret ?_
  exact at_return (S := S__impl_Relay_recoderAt) (x := (x0, x1, ())) ((D_slices_BinarySearchFunc_S_impl_Recoder_impl_Recoder_int__recoderAt_1 x0.2 x1 ()).1, ((D_slices_BinarySearchFunc_S_impl_Recoder_impl_Recoder_int__recoderAt_1 x0.2 x1 ()).2, ())) [] h (by kernel_rfl) trivial (congrArg (fun z => (z.1, z.2, ())) (show (((D_slices_BinarySearchFunc_S_impl_Recoder_impl_Recoder_int__recoderAt_1 x0.2 x1 ()).1, (D_slices_BinarySearchFunc_S_impl_Recoder_impl_Recoder_int__recoderAt_1 x0.2 x1 ()).2)) = D__impl_Relay_recoderAt x0 x1 from by rfl))

def S_impl_RelayRank : Sum := { fid := 82, dom := [s97, (.int 3)], cod := [(.int 3)], dp := true, fz := false, pre := fun x => (fun (x0 : T97) (x1 : Int) => Sh.fit s97 x0) x.1 x.2.1, g := fun x => ((rankL x.1 x.2.1), ()) }
def S_impl_RelayRank_tab : List (Nat × Sum) := [(157, S__impl_Relay_recoderAt), (56, S_impl_IsValidRelay)]
theorem S_impl_RelayRank_ok : FnOK Try.prog 82 S_impl_RelayRank := by
  refine at_enter 27 (fun x => ⟨[(0, aG [cI x.1.1, .ro s122 x.1.2]), (1, aI x.2.1)], []⟩) Try.func82 rfl (by kernel_rfl) (fun x => rfl) ?_
  rintro w0 Z0 ⟨x0, x1, u⟩ a w
  revert x0 x1
  intro (x0 : T97) (x1 : Int) hpre hlens h
  replace h : At w0 Z0 [] 27 ⟨[(0, aG [cI x0.1, .ro s122 x0.2]), (1, aI x1)], []⟩ a w := h
  replace hpre : (fun (x0 : T97) (x1 : Int) => Sh.fit s97 x0) x0 x1 := hpre
  have hl1 : List.length x0.2 ≤ 9223372036854775807 := hlens.1.2.1
  have hT : TabOK Try.prog S_impl_RelayRank_tab := (.cons S__impl_Relay_recoderAt_ok (.cons S_impl_IsValidRelay_ok .nil))
  have hf0 : Sh.fit s97 x0 := hpre
  have hn0_1 : List.length x0.2 ≤ 1073741824 := hf0.2.1
  refine wp_seq ?_
  refine at_regq [{ ids := [1] }] { ts := [1, 2, 4], os := [1] } [] gamOK hT h (by kernel_rfl) trivial ?_
  intro a w h
  refine then_normal ?_
  refine wp_seq ?_
  refine at_regq [] { ts := [2, 4, 5, 6], os := [1] } [(fun (x0 : T97) (x1 : Int) => Sh.fit s97 x0) x0 x1] gamOK hT h (by kernel_rfl) ⟨(by exact hf0), trivial⟩ ?_
  intro a w h
  refine then_normal ?_
  refine wp_seq ?_
  refine wp_seq ?_
  rcases Bool.eq_false_or_eq_true (!(validL x0)) with h1 | h1
  · skip
    have hzh1 : (validL x0) = false := notT h1
    refine at_regq [{}, {}, { hint := some (aB true) }] { ts := [2, 4, 5, 19], os := [1] } [(fun (x0 : T97) => Sh.fit s97 x0) x0, (AV.p (.c (.v (.bool (!(validL x0))))) = AV.p (.c (.v (.bool true))))] gamOK hT h (by kernel_rfl) ⟨(by exact hf0), hint_bool (h1), trivial⟩ ?_
    intro a w h
    refine then_normal ?_
    refine at_test true h (by kernel_rfl) (fun hh => ?_) (fun hh => nomatch hh)
    refine wp_seq ?_
    refine at_regq [] { ts := [2, 4, 5], os := [1] } [] gamOK hT h (by kernel_rfl) trivial ?_
    intro a w h
    refine then_normal ?_
    refine wp_ret ?_
    refine then_ret ?_
    exact at_return (S := S_impl_RelayRank) (x := (x0, x1, ())) (0, ()) [] h (by kernel_rfl) trivial (congrArg (fun z => (z, ())) (show (0) = rankL x0 x1 from by first | exact rankL_no (by first | (left; assumption) | (right; left; assumption)) | exact rankL_y (by assumption) (by assumption)))
  · skip
    have hzh1 : (validL x0) = true := notF h1
    refine at_regq [{}, {}, { hint := some (aB false) }] { ts := [2, 4, 5, 19], os := [1] } [(fun (x0 : T97) => Sh.fit s97 x0) x0, (AV.p (.c (.v (.bool (!(validL x0))))) = AV.p (.c (.v (.bool false))))] gamOK hT h (by kernel_rfl) ⟨(by exact hf0), hint_bool (h1), trivial⟩ ?_
    intro a w h
    refine then_normal ?_
    refine at_test (!(D__impl_Relay_recoderAt x0 x1).2) h (by kernel_rfl) (fun h2 => ?_) (fun h2 => ?_)
    · replace h2 : (D__impl_Relay_recoderAt x0 x1).2 = false := notT h2
      refine wp_seq ?_
      refine at_regq [] { ts := [2, 4, 5], os := [1] } [] gamOK hT h (by kernel_rfl) trivial ?_
      intro a w h
      refine then_normal ?_
      refine wp_ret ?_
      refine then_ret ?_
      exact at_return (S := S_impl_RelayRank) (x := (x0, x1, ())) (0, ()) [] h (by kernel_rfl) trivial (congrArg (fun z => (z, ())) (show (0) = rankL x0 x1 from by first | exact rankL_no (by first | (left; assumption) | (right; left; assumption)) | exact rankL_y (by assumption) (by assumption)))
    · replace h2 : (D__impl_Relay_recoderAt x0 x1).2 = true := notF h2
      have hb1 : (D__impl_Relay_recoderAt x0 x1).1 = ((bsK (fun x => x.1) (0, (0, (0, ([], 0)))) x0.2 x1 : Nat) : Int) := rfl
      have hb2 := fndK_t (f := fun x => x.1) (z := (0, (0, (0, ([], 0))))) (xs := x0.2) (v := x1) (by first | exact h2 | exact notF h2)
      refine wp_skip ?_
      refine then_normal ?_
      refine wp_seq ?_
      refine at_regq [] { ts := [4], os := [] } [(0 : Int) ≤ (D__impl_Relay_recoderAt x0 x1).1 ∧ (D__impl_Relay_recoderAt x0 x1).1 < ((List.length x0.2 : Nat) : Int)] gamOK hT h (by kernel_rfl) ⟨(by refine ⟨?_, ?_⟩ <;> (first | omega | (simp only [lsA]; omega) | (simp; done) | (simp; omega) | done)), trivial⟩ ?_
      intro a w h
      refine then_normal ?_
      refine wp_ret ?_
      exact at_return (S := S_impl_RelayRank) (x := (x0, x1, ())) (((List.length (x0.2.getD (((D__impl_Relay_recoderAt x0 x1).1).toNat) (0, (0, (0, ([], 0))))).2.2.2.1 : Nat) : Int), ()) [] h (by kernel_rfl) trivial (congrArg (fun z => (z, ())) (show (((List.length (x0.2.getD (((D__impl_Relay_recoderAt x0 x1).1).toNat) (0, (0, (0, ([], 0))))).2.2.2.1 : Nat) : Int)) = rankL x0 x1 from by first | exact rankL_no (by first | (left; assumption) | (right; left; assumption)) | exact rankL_y (by assumption) (by assumption)))

def S_spec_RelayRank : Sum := { fid := 81, dom := [s97, (.int 3)], cod := [(.int 3)], dp := true, fz := false, pre := fun x => (fun (x0 : T97) (x1 : Int) => Sh.fit s97 x0) x.1 x.2.1, g := fun x => ((rankL x.1 x.2.1), ()) }
def S_spec_RelayRank_tab : List (Nat × Sum) := [(54, S_spec_IsValidRelay), (156, S_spec_RecoderRank)]
theorem S_spec_RelayRank_ok : FnOK Try.prog 81 S_spec_RelayRank := by
  refine at_enter 31 (fun x => ⟨[(0, aG [cI x.1.1, .ro s122 x.1.2]), (1, aI x.2.1)], []⟩) Try.func81 rfl (by kernel_rfl) (fun x => rfl) ?_
  rintro w0 Z0 ⟨x0, x1, u⟩ a w
  revert x0 x1
  intro (x0 : T97) (x1 : Int) hpre hlens h
  replace h : At w0 Z0 [] 31 ⟨[(0, aG [cI x0.1, .ro s122 x0.2]), (1, aI x1)], []⟩ a w := h
  replace hpre : (fun (x0 : T97) (x1 : Int) => Sh.fit s97 x0) x0 x1 := hpre
  have hl1 : List.length x0.2 ≤ 9223372036854775807 := hlens.1.2.1
  have hT : TabOK Try.prog S_spec_RelayRank_tab := (.cons S_spec_IsValidRelay_ok (.cons S_spec_RecoderRank_ok .nil))
  have hf0 : Sh.fit s97 x0 := hpre
  have hn0_1 : List.length x0.2 ≤ 1073741824 := hf0.2.1
  refine wp_seq ?_
  refine at_regq [{ ids := [1] }] { ts := [1, 2, 4], os := [1] } [] gamOK hT h (by kernel_rfl) trivial ?_
  intro a w h
  refine then_normal ?_
  refine wp_seq ?_
  refine wp_seq ?_
  refine at_regq [] { ts := [1, 2, 4, 5], os := [1] } [] gamOK hT h (by kernel_rfl) trivial ?_
  intro a w h
  refine then_normal ?_
  refine wp_block ?_
  replace h := at_out (σ' := ⟨[(1, aI x1), (2, aP 1 0), (4, aI 0), (5, aI 0)], [(1, oX 97 [cI x0.1, .ro s122 x0.2])]⟩) { ts := [1, 2, 4, 5], os := [1] } h (by kernel_rfl)
  refine at_loop (fun i : Nat => (⟨[(1, aI x1), (2, aP 1 0), (4, aI 0), (5, aI ((i : Nat) : Int))], [(1, oX 97 [cI x0.1, .ro s122 x0.2])]⟩ : St)) (fun i => (i ≤ List.length x0.2 ∧ ∀ j, j < i → (x0.2.getD j (0, (0, (0, ([], 0))))).1 ≠ x1)) (fun i => List.length x0.2 - i) (0) h (st_congr1 (fun (d0 : Int) => (⟨[(1, aI x1), (2, aP 1 0), (4, aI 0), (5, aI d0)], [(1, oX 97 [cI x0.1, .ro s122 x0.2])]⟩ : St)) (show (0 : Int) = (((0) : Nat) : Int) from by first | with_reducible rfl | (rfl) | rfl)) (by exact ⟨Nat.zero_le _, fun j h => absurd h (by omega)⟩) ?_
  intro i a w hok0 h
  refine wp_seq ?_
  refine wp_seq ?_
  by_cases h1 : ((i : Nat) : Int) < ((List.length x0.2 : Nat) : Int)
  · skip
    refine at_regq [{}, {}, {}, {}, { hint := some (aB true) }] { ts := [1, 2, 4, 5, 12, 13, 14], os := [1] } [(AV.p (.c (.v (.bool (decide (((i : Nat) : Int) < ((List.length x0.2 : Nat) : Int)))))) = AV.p (.c (.v (.bool true)))), (fun (x0 : T97) => Sh.fit s97 x0) x0] gamOK hT h (by kernel_rfl) ⟨hint_bool (decide_eq_true h1), (by exact hf0), trivial⟩ ?_
    intro a w h
    refine then_normal ?_
    refine at_test ((validL x0)) h (by kernel_rfl) (fun h2 => ?_) (fun h2 => ?_)
    · refine wp_skip ?_
      refine then_normal ?_
      refine wp_seq ?_
      refine wp_block ?_
      refine wp_seq ?_
      refine at_regq [] { ts := [1, 2, 4, 5, 12, 13, 24], os := [1] } [(0 : Int) ≤ ((i : Nat) : Int) ∧ ((i : Nat) : Int) < ((List.length x0.2 : Nat) : Int)] gamOK hT h (by kernel_rfl) ⟨(by refine ⟨?_, ?_⟩ <;> (first | omega | (simp only [lsA]; omega) | (simp; done) | (simp; omega) | done)), trivial⟩ ?_
      intro a w h
      refine then_normal ?_
      refine at_test (decide ((x0.2.getD i (0, (0, (0, ([], 0))))).1 = x1)) h (by kernel_rfl) (fun h3 => ?_) (fun h3 => ?_)
      · replace h3 : (x0.2.getD i (0, (0, (0, ([], 0))))).1 = x1 := of_decide_eq_true h3
        refine wp_seq ?_
        refine at_regq [] { ts := [1, 2, 4, 5, 12, 13], os := [1] } [(0 : Int) ≤ ((i : Nat) : Int) ∧ ((i : Nat) : Int) < ((List.length x0.2 : Nat) : Int), (fun (x0 : T122) => Sh.fit s122 x0) (x0.2.getD i (0, (0, (0, ([], 0)))))] gamOK hT h (by kernel_rfl) ⟨(by refine ⟨?_, ?_⟩ <;> (first | omega | (simp only [lsA]; omega) | (simp; done) | (simp; omega) | done)), (by exact (Sh.fit_getD hf0.2 i)), trivial⟩ ?_
        intro a w h
        refine then_normal ?_
        refine wp_ret ?_
        refine in_ret ?_
        refine then_ret ?_
        refine then_ret ?_
        refine in_ret ?_
        refine then_ret ?_
        exact at_return (S := S_spec_RelayRank) (x := (x0, x1, ())) ((D_spec_RecoderRank (x0.2.getD i (0, (0, (0, ([], 0)))))), ()) [] h (by kernel_rfl) trivial (congrArg (fun z => (z, ())) (show ((D_spec_RecoderRank (x0.2.getD i (0, (0, (0, ([], 0))))))) = rankL x0 x1 from by (first | exact rankL_at (by assumption) (by omega) (by assumption) | exact rankL_no (by first | (left; assumption) | (right; right; intro j hj; exact hok0.2 j (by omega))))))
      · replace h3 : ¬ ((x0.2.getD i (0, (0, (0, ([], 0))))).1 = x1) := of_decide_eq_false h3
        refine wp_skip ?_
        refine in_normal ?_
        refine then_normal ?_
        refine at_regq [{}, { nw := true }] { ts := [1, 2, 4, 5, 12, 13], os := [1] } [I64 (((i : Nat) : Int) + 1)] gamOK hT h (by kernel_rfl) ⟨⟨by first | omega | (simp only [lsA]; omega) | (simp; done) | (simp; omega) | done, by first | omega | (simp only [lsA]; omega) | (simp; done) | (simp; omega) | done⟩, trivial⟩ ?_
        intro a w h
        replace h := at_out (σ' := ⟨[(1, aI x1), (2, aP 1 0), (4, aI 0), (5, aI (((i : Nat) : Int) + 1))], [(1, oX 97 [cI x0.1, .ro s122 x0.2])]⟩) { ts := [1, 2, 4, 5], os := [1] } h (by kernel_rfl)
        exact ⟨i + 1, at_eq h (st_congr1 (fun (d0 : Int) => (⟨[(1, aI x1), (2, aP 1 0), (4, aI 0), (5, aI d0)], [(1, oX 97 [cI x0.1, .ro s122 x0.2])]⟩ : St)) (show (((i : Nat) : Int) + 1 : Int) = (((i + 1) : Nat) : Int) from by first | with_reducible rfl | (omega) | rfl)), (by exact ⟨by omega, fun j hj => by by_cases e : j = i; subst e; assumption; exact hok0.2 j (by omega)⟩), (by omega)⟩
    · refine wp_exit ?_
      refine then_exit ?_
      refine then_exit ?_
      refine in_hit ?_
      refine then_normal ?_
      refine wp_seq ?_
      refine at_regq [] { ts := [4], os := [] } [] gamOK hT h (by kernel_rfl) trivial ?_
      intro a w h
      refine then_normal ?_
      refine wp_ret ?_
      exact at_return (S := S_spec_RelayRank) (x := (x0, x1, ())) (0, ()) [] h (by kernel_rfl) trivial (congrArg (fun z => (z, ())) (show (0) = rankL x0 x1 from by (first | exact rankL_at (by assumption) (by omega) (by assumption) | exact rankL_no (by first | (left; assumption) | (right; right; intro j hj; exact hok0.2 j (by omega))))))
  · skip
    refine at_regq [{}, {}, {}, {}, { hint := some (aB false) }] { ts := [1, 2, 4, 5, 12, 13, 14], os := [1] } [(AV.p (.c (.v (.bool (decide (((i : Nat) : Int) < ((List.length x0.2 : Nat) : Int)))))) = AV.p (.c (.v (.bool false))))] gamOK hT h (by kernel_rfl) ⟨hint_bool (decide_eq_false h1), trivial⟩ ?_
    intro a w h
    refine then_normal ?_
    refine at_test false h (by kernel_rfl) (fun hh => nomatch hh) (fun hh => ?_)
    refine wp_exit ?_
    refine then_exit ?_
    refine then_exit ?_
    refine in_hit ?_
    refine then_normal ?_
    refine wp_seq ?_
    refine at_regq [] { ts := [4], os := [] } [] gamOK hT h (by kernel_rfl) trivial ?_
    intro a w h
    refine then_normal ?_
    refine wp_ret ?_
    exact at_return (S := S_spec_RelayRank) (x := (x0, x1, ())) (0, ()) [] h (by kernel_rfl) trivial (congrArg (fun z => (z, ())) (show (0) = rankL x0 x1 from by (first | exact rankL_at (by assumption) (by omega) (by assumption) | exact rankL_no (by first | (left; assumption) | (right; right; intro j hj; exact hok0.2 j (by omega))))))

def D_laws_FnExactRelayRank := (fun (_ : T93) (_ : Int) => true)
def S_laws_FnExactRelayRank : Sum := { fid := 13, dom := [s93, (.int 3)], cod := [(.bool 4)], dp := true, fz := false, pre := fun x => (fun (x0 : T93) (x1 : Int) => Sh.i64 s93 x0 ∧ Sh.i64 (.int 3) x1) x.1 x.2.1, g := fun x => ((D_laws_FnExactRelayRank x.1 x.2.1), ()) }
def S_laws_FnExactRelayRank_tab : List (Nat × Sum) := [(53, S_laws_szRelay), (55, S_laws_toRelay), (81, S_spec_RelayRank), (82, S_impl_RelayRank), (57, S_laws_eqRelay)]
theorem S_laws_FnExactRelayRank_ok : FnOK Try.prog 13 S_laws_FnExactRelayRank := by
  refine at_enter 31 (fun x => ⟨[(0, aG [cI x.1.1, .ro s116 x.1.2]), (1, aI x.2.1)], []⟩) Try.func13 rfl (by kernel_rfl) (fun x => rfl) ?_
  rintro w0 Z0 ⟨x0, x1, u⟩ a w
  revert x0 x1
  intro (x0 : T93) (x1 : Int) hpre hlens h
  replace h : At w0 Z0 [] 31 ⟨[(0, aG [cI x0.1, .ro s116 x0.2]), (1, aI x1)], []⟩ a w := h
  replace hpre : (fun (x0 : T93) (x1 : Int) => Sh.i64 s93 x0 ∧ Sh.i64 (.int 3) x1) x0 x1 := hpre
  have hl1 : List.length x0.2 ≤ 9223372036854775807 := hlens.1.2.1
  have hT : TabOK Try.prog S_laws_FnExactRelayRank_tab := (.cons S_laws_szRelay_ok (.cons S_laws_toRelay_ok (.cons S_spec_RelayRank_ok (.cons S_impl_RelayRank_ok (.cons S_laws_eqRelay_ok .nil)))))
  have hq0 : Sh.sz s97 x0 = Sh.sz s93 x0 := rfl
  have hb0 : Sh.ctT s97 x0 ≤ 8 * Sh.sz s97 x0 := Sh.ctT_le2 s97 x0
  have hz0 : Sh.ct s97 x0 ≤ 8 * (1 + Sh.sz s97 x0) := Sh.ct_le s97 x0
  have ht0 : Sh.sz s93 x0 = (0 + (Sh.sz s59 x0.2)) := rfl
  have hs0_1 : Sh.sz s59 x0.2 = List.length x0.2 + ctL (Sh.sz s116) x0.2 := rfl
  refine wp_seq ?_
  refine at_regq [{ ids := [1] }] { ts := [1, 2, 4], os := [1] } [] gamOK hT h (by kernel_rfl) trivial ?_
  intro a w h
  refine then_normal ?_
  refine wp_seq ?_
  refine at_regq [] { ts := [1, 2, 4, 5], os := [1] } [] gamOK hT h (by kernel_rfl) trivial ?_
  intro a w h
  refine then_normal ?_
  refine wp_seq ?_
  refine at_regq [] { ts := [1, 2, 4, 5], os := [1] } [(pSz s93) x0 1048576] gamOK hT h (by kernel_rfl) ⟨(by (show (0 : Int) ≤ _ ∧ _ ≤ (9223372036854775807 : Int); constructor <;> omega)), trivial⟩ ?_
  intro a w h
  refine then_normal ?_
  refine wp_seq ?_
  refine wp_seq ?_
  refine at_regq [] { ts := [1, 2, 4, 13], os := [1] } [] gamOK hT h (by kernel_rfl) trivial ?_
  intro a w h
  refine then_normal ?_
  refine at_test (decide (((szD s93) x0 1048576) < 0)) h (by kernel_rfl) (fun h1 => ?_) (fun h1 => ?_)
  · replace h1 : ((szD s93) x0 1048576) < 0 := of_decide_eq_true h1
    have hvh1 := szD_neg h1 (by omega)
    refine wp_seq ?_
    refine at_regq [] { ts := [1, 2, 4], os := [1] } [] gamOK hT h (by kernel_rfl) trivial ?_
    intro a w h
    refine then_normal ?_
    refine wp_ret ?_
    refine then_ret ?_
    exact at_return (S := S_laws_FnExactRelayRank) (x := (x0, x1, ())) (true, ()) [] h (by kernel_rfl) trivial (congrArg (fun z => (z, ())) (show (true) = D_laws_FnExactRelayRank x0 x1 from by unfold D_laws_FnExactRelayRank; rfl))
  · replace h1 : ¬ (((szD s93) x0 1048576) < 0) := of_decide_eq_false h1
    have hvh1 := szD_val h1 (by omega)
    refine wp_skip ?_
    refine then_normal ?_
    refine wp_seq ?_
    refine at_regq [{}, { ids := [2] }] { ts := [1, 2, 4, 6], os := [1] } [(pTo s93) x0, (fun (x0 : T97) (x1 : Int) => Sh.fit s97 x0) x0 x1] gamOK hT h (by kernel_rfl) ⟨(by (show Sh.sz _ _ ≤ 1048576; omega)), (by exact (Sh.fit_of_sz s97 rfl (x := x0) (by omega))), trivial⟩ ?_
    intro a w h
    refine then_normal ?_
    refine wp_seq ?_
    refine at_regq [{}, { ids := [3] }, { ids := [4] }] { ts := [1, 2, 4, 6, 7], os := [1, 3, 4] } [(pTo s93) x0] gamOK hT h (by kernel_rfl) ⟨(by (show Sh.sz _ _ ≤ 1048576; omega)), trivial⟩ ?_
    intro a w h
    refine then_normal ?_
    refine wp_seq ?_
    refine at_regq [] { ts := [2, 4, 6, 7, 8], os := [1, 3, 4] } [(fun (x0 : T97) (x1 : Int) => Sh.fit s97 x0) x0 x1] gamOK hT h (by kernel_rfl) ⟨(by exact (Sh.fit_of_sz s97 rfl (x := x0) (by omega))), trivial⟩ ?_
    intro a w h
    refine then_normal ?_
    refine wp_seq ?_
    refine wp_seq ?_
    refine at_regq [] { ts := [2, 4, 7, 25], os := [1, 3, 4] } [] gamOK hT h (by kernel_rfl) trivial ?_
    intro a w h
    refine then_normal ?_
    refine at_test (!decide ((rankL x0 x1) = (rankL x0 x1))) h (by kernel_rfl) (fun h2 => ?_) (fun h2 => ?_)
    · replace h2 : ¬ ((rankL x0 x1) = (rankL x0 x1)) := of_decide_eq_false (notT h2)
      refine wp_seq ?_
      refine at_reg [] { ts := [2, 4, 7], os := [1, 3, 4] } ⟨[(2, aP 1 0), (4, aB false), (7, aP 4 0)], [(1, oX 93 [cI x0.1, .ro s116 x0.2]), (3, oR s122 x0.2), (4, oX 97 [cI x0.1, .sl 3])]⟩ [] gamOK hT h (by kernel_rfl) trivial ?_
      intro a w h
      refine then_normal ?_
      refine wp_ret ?_
      refine then_ret ?_
      exact at_return (S := S_laws_FnExactRelayRank) (x := (x0, x1, ())) (false, ()) [] h (by kernel_rfl) trivial (congrArg (fun z => (z, ())) (show (false) = D_laws_FnExactRelayRank x0 x1 from by unfold D_laws_FnExactRelayRank; exact absurd (show _ from by first | rfl | (rfl)) h2))
    · replace h2 : (rankL x0 x1) = (rankL x0 x1) := of_decide_eq_true (notF h2)
      refine wp_skip ?_
      refine then_normal ?_
      refine wp_seq ?_
      refine wp_seq ?_
      refine at_any [{}, {}, { ids := [5] }, {}, {}] { ts := [4, 30], os := [] } ⟨[(4, aB false), (30, aB (!((Sh.eqB s97) x0 x0)))], []⟩ [(pTo s93) x0, True] gamOK hT mixed h (by kernel_rfl) ⟨(by (show Sh.sz _ _ ≤ 1048576; omega)), trivial, trivial⟩ ?_
      intro a w h
      refine then_normal ?_
      refine at_test (!((Sh.eqB s97) x0 x0)) h (by kernel_rfl) (fun h3 => ?_) (fun h3 => ?_)
      · replace h3 : ((Sh.eqB s97) x0 x0) = false := notT h3
        refine wp_seq ?_
        refine at_regq [] { ts := [4], os := [] } [] gamOK hT h (by kernel_rfl) trivial ?_
        intro a w h
        refine then_normal ?_
        refine wp_ret ?_
        refine then_ret ?_
        exact at_return (S := S_laws_FnExactRelayRank) (x := (x0, x1, ())) (false, ()) [] h (by kernel_rfl) trivial (congrArg (fun z => (z, ())) (show (false) = D_laws_FnExactRelayRank x0 x1 from by unfold D_laws_FnExactRelayRank; exact absurd ((Sh.eqB_iff _).2 (show _ = _ from by first | rfl | (rfl))) (neT h3)))
      · replace h3 : ((Sh.eqB s97) x0 x0) = true := notF h3
        refine wp_skip ?_
        refine then_normal ?_
        refine wp_seq ?_
        refine at_regq [] { ts := [4], os := [] } [] gamOK hT h (by kernel_rfl) trivial ?_
        intro a w h
        refine then_normal ?_
        refine wp_ret ?_
        exact at_return (S := S_laws_FnExactRelayRank) (x := (x0, x1, ())) (true, ()) [] h (by kernel_rfl) trivial (congrArg (fun z => (z, ())) (show (true) = D_laws_FnExactRelayRank x0 x1 from by unfold D_laws_FnExactRelayRank; rfl))

theorem opn3 : OpensS Try.prog 3 (.int 3) := opensS_int Try.underlying3
theorem co3 : Try.prog.cellsOf 3 = 1 := by kernel_rfl
theorem opn22 : OpensS Try.prog 22 s22 := opensS_slice (a := (.int 3)) Try.underlying22 co3 opn3
theorem co22 : Try.prog.cellsOf 22 = 1 := by kernel_rfl
theorem co118 : Try.prog.cellsOf 118 = 3 := by kernel_rfl
theorem opn118 : OpensS Try.prog 118 s118 := by
  intro H enc w base spare held fuel cs x h
  obtain ⟨xs, n, _, _, hl, hlen, hf⟩ := DataW.trod_struct Try.underlying118 h
  obtain ⟨a0, k0, i0⟩ := opensS_field (a := (.int 3)) (i := 0) 0 1 hf hlen rfl rfl rfl co3 opn3
  obtain ⟨a1, k1, i1⟩ := opensS_field (a := s22) (i := 1) 1 1 hf hlen rfl rfl rfl co22 opn22
  obtain ⟨a2, k2, i2⟩ := opensS_field (a := s22) (i := 2) 2 1 hf hlen rfl rfl rfl co22 opn22
  rw [co118] at hl
  exact ⟨(a0, (a1, a2)), (rdS_pair (off := 0) k0 (rdS_pair (off := 1) k1 (rdS_last (off := 2) k2 (by omega)))), ⟨i0, ⟨i1, i2⟩⟩⟩
theorem opn39 : OpensS Try.prog 39 s39 := opensS_slice (a := s118) Try.underlying39 co118 opn118
theorem co39 : Try.prog.cellsOf 39 = 1 := by kernel_rfl
theorem co116 : Try.prog.cellsOf 116 = 5 := by kernel_rfl
theorem opn116 : OpensS Try.prog 116 s116 := by
  intro H enc w base spare held fuel cs x h
  obtain ⟨xs, n, _, _, hl, hlen, hf⟩ := DataW.trod_struct Try.underlying116 h
  obtain ⟨a0, k0, i0⟩ := opensS_field (a := (.int 3)) (i := 0) 0 1 hf hlen rfl rfl rfl co3 opn3
  obtain ⟨a1, k1, i1⟩ := opensS_field (a := (.int 3)) (i := 1) 1 1 hf hlen rfl rfl rfl co3 opn3
  obtain ⟨a2, k2, i2⟩ := opensS_field (a := (.int 3)) (i := 2) 2 1 hf hlen rfl rfl rfl co3 opn3
  obtain ⟨a3, k3, i3⟩ := opensS_field (a := s39) (i := 3) 3 1 hf hlen rfl rfl rfl co39 opn39
  obtain ⟨a4, k4, i4⟩ := opensS_field (a := (.int 3)) (i := 4) 4 1 hf hlen rfl rfl rfl co3 opn3
  rw [co116] at hl
  exact ⟨(a0, (a1, (a2, (a3, a4)))), (rdS_pair (off := 0) k0 (rdS_pair (off := 1) k1 (rdS_pair (off := 2) k2 (rdS_pair (off := 3) k3 (rdS_last (off := 4) k4 (by omega)))))), ⟨i0, ⟨i1, ⟨i2, ⟨i3, i4⟩⟩⟩⟩⟩
theorem opn59 : OpensS Try.prog 59 s59 := opensS_slice (a := s116) Try.underlying59 co116 opn116
theorem co59 : Try.prog.cellsOf 59 = 1 := by kernel_rfl
theorem co93 : Try.prog.cellsOf 93 = 2 := by kernel_rfl
theorem opn93 : OpensS Try.prog 93 s93 := by
  intro H enc w base spare held fuel cs x h
  obtain ⟨xs, n, _, _, hl, hlen, hf⟩ := DataW.trod_struct Try.underlying93 h
  obtain ⟨a0, k0, i0⟩ := opensS_field (a := (.int 3)) (i := 0) 0 1 hf hlen rfl rfl rfl co3 opn3
  obtain ⟨a1, k1, i1⟩ := opensS_field (a := s59) (i := 1) 1 1 hf hlen rfl rfl rfl co59 opn59
  rw [co93] at hl
  exact ⟨(a0, a1), (rdS_pair (off := 0) k0 (rdS_last (off := 1) k1 (by omega))), ⟨i0, i1⟩⟩
namespace fnExactRelayRank
open Go.ChangeShapes Go.WideShapes Go.ChangeAt Go.RowKit
theorem own : ownKnob Try.prog.godebug = none := by kernel_rfl
theorem laidOut : laidOutB Try.prog = true := fxLaid
set_option maxRecDepth 100000 in
theorem lifted (os : Os) (started : os.Started) (H : Type) (enc : TypeId × Value → H) :
    ReturnsInHanded {} Try.checked os 13 .any (Rows.fnExactRelayRankSpec.pre6 enc Try.prog Try.f13 Rows.fnExactRelayRankRow.domain false) (Rows.fnExactRelayRankSpec.post enc Try.prog Try.f13 false true false false) := by
  refine returnsInHanded_of_change (C := Try.checked) own started (by kernel_rfl) Try.func13
    (ChangeSpec.witness6 (enc := enc) (C := Try.checked) false ⟨#[], #[.agg #[.int .i64 0, .slice none 0 0], .int .i64 0], []⟩ 8 (by kernel_rfl) (by kernel_rfl) (by kernel_rfl) (by kernel_rfl)) ?_
  intro W base args ds gs before hval0 hW hcnd _
  have hval : ∀ (j : Nat) t v, Try.f13.params[j]? = some t → args[j]? = some v → Value.okWide Try.prog W .any base t v := hval0
  have hW' := hW
  obtain ⟨p, q, hA0, hV, rfl, hfz, hnd⟩ := hW
  have hA : DataW.TrodAll enc Try.prog W 0 (fun _ => true) true Try.f13.params.toList args.toList ds p := hA0
  rw [Try.params13] at hA hval
  obtain ⟨v0, vs0, d0, ds0, p0, q0, hargs, rfl, rfl, h0, r0⟩ := trodAll_cons hA
  obtain ⟨v1, vs1, d1, ds1, p1, q1, rfl, rfl, rfl, h1, r1⟩ := trodAll_cons r0
  obtain ⟨rfl, rfl, rfl⟩ := trodAll_nil r1
  obtain rfl : args = #[v0, v1] := by cases args; simp_all
  obtain ⟨rfl, rfl⟩ := trodVars_none hV
  have k0 := h0
  have lt0 : ∀ x ∈ p0, x.block < W.heap.size := by obtain ⟨m, hm⟩ := k0; exact DataW.trod_lt m _ _ _ hm
  obtain ⟨cs0, rfl, _⟩ := okWide_struct Try.underlying93 (hval 0 93 v0 rfl rfl)
  obtain ⟨cs0⟩ := cs0
  obtain ⟨x0, hx0, i0⟩ : ∃ x : (s93).D, (s93).rd W (fun b => b < W.heap.size) cs0 x ∧ (s93).i64 x := by obtain ⟨fuel, hf⟩ := h0; exact opn93 hf
  have k1 := h1
  have lt1 : ∀ x ∈ p1, x.block < W.heap.size := by obtain ⟨m, hm⟩ := k1; exact DataW.trod_lt m _ _ _ hm
  obtain ⟨a1, rfl, rfl, rfl, w1⟩ := open_int Try.underlying3 (hval 1 3 v1 rfl rfl) h1
  clear hA0 hval0
  refine (calls_law S_laws_FnExactRelayRank_ok (by kernel_rfl) W (fun b => b < W.heap.size) [.agg cs0.toArray, .int .i64 a1] (x0, a1, ()) (fun _ h => h) ⟨argRd_st hx0, argRd_int a1, trivial⟩ ⟨i0, (show I64 a1 from by unfold I64; simpa [Lit.wf, IntKind.min, IntKind.max, IntKind.signed, IntKind.bits] using w1)⟩).mono fun e W' hr => ?_
  obtain ⟨he, bel⟩ := ret_bool hr
  subst he
  exact ⟨_, rfl, _, _, _, [], _, [], hW', trodAll_mk1 (shut_bool Try.underlying4 _), (trodAll_cons_mk (Below.trod laidOut (by kernel_rfl) (of_decide_eq_true (by kernel_rfl)) k0 bel lt0) (trodAll_cons_mk (Below.trod laidOut (by kernel_rfl) (of_decide_eq_true (by kernel_rfl)) k1 bel lt1) trodAll_mk0)), rfl, bel.frame _, fun h => by cases h⟩
theorem closed : joinedFacts Try.prog 13 Try.f13 (Rows.fnExactRelayRankSpec) Rows.fnExactRelayRankRow = true := by
  unfold joinedFacts
  exact (and2 (and2 (and2 (and2 (and2 (and2 (and2 (and2 (and2 (and2 (and2 (and2 (and2 (and2 (and2 (and2 (and2 (and2 (and2 (and2 (and2 (and2 (and2 (and2 (and2 (and2 (and2 (and2 (and2 (and2 (and2 (by kernel_rfl) fxLaid) fxMaps) (by kernel_rfl)) (by kernel_rfl)) (by kernel_rfl)) (by kernel_rfl)) (by kernel_rfl)) (by kernel_rfl)) (by kernel_rfl)) (by kernel_rfl)) (by kernel_rfl)) (by kernel_rfl)) (by kernel_rfl)) (by kernel_rfl)) (by kernel_rfl)) (by kernel_rfl)) (by kernel_rfl)) (by kernel_rfl)) (by kernel_rfl)) (by kernel_rfl)) (by kernel_rfl)) (by kernel_rfl)) (by kernel_rfl)) (by kernel_rfl)) fxEnter) (by rw [fxLifts]; kernel_rfl)) (by rw [fxMake]; kernel_rfl)) (by kernel_rfl)) (by kernel_rfl)) (by kernel_rfl)) (by kernel_rfl))
theorem over : Rows.fnExactRelayRankRow.holds Try.pinned (OpenSpec.ofChange Rows.fnExactRelayRankSpec) :=
  OpenClaim.holds_of_wide 13 Try.f13 rfl rfl rfl rfl rfl rfl rfl ⟨rfl, rfl, rfl, rfl, rfl⟩ rfl rfl rfl rfl rfl (by kernel_rfl) Try.func13 closed
    (of_decide_eq_true (by kernel_rfl)) (by unfold Func.isWrapper; first | (rw [if_pos (by decide +kernel)]; kernel_rfl) | (rw [if_neg (by decide +kernel)]; exact ⟨rfl, rfl⟩))
    (fun os started H enc _ => lifted os started H enc)
/-- the statement -/
theorem proved : Rows.FnExactRelayRankSaid := over
end fnExactRelayRank

end Go.Proofs.Ytkialoggpcdhkaa

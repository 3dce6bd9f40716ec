/- The law FnExactIsValidRelay returns true for every input and leaves its arguments as they were. No condition. -/
import Derived.Test.YtkialoggpcdhkaaIsValidRelay2
import Derived.Test.YtkialoggpcdhkaaLA
import Derived.Test.YtkialoggpcdhkaaProg
import Derived.Test.YtkialoggpcdhkaaRows
import Derived.Test.YtkialoggpcdhkaaFX
namespace Go.Proofs.Ytkialoggpcdhkaa
open Go.RowKit
set_option linter.unusedVariables false
set_option linter.unusedSimpArgs false
def S__P_impl_Basis_insert : Sum := { fid := 151, dom := [s105, s22], cod := [(.bool 4)], dp := true, fz := false, pre := fun x => (fun (x0 : T105) (x1 : (List Int)) => Sh.fit s105 x0 ∧ Sh.fit s22 x1 ∧ redP x0 x1) x.1 x.2.1, g := fun x => ((insD x.1 x.2.1), ()), kinds := [(.bx 105 0), .rd], upd := fun x => (insU x.1 x.2.1, (x.2.1, ())) }
def S__P_impl_Basis_insert_tab : List (Nat × Sum) := [(216, S__impl_Basis_reduce), (217, S_impl_LeadingIndex), (219, S_impl_InverseField), (218, S_impl_ScaleVector), (220, S_impl_addScaled), (221, S_slices_Insert_S_S_int_S_int_)]
theorem S__P_impl_Basis_insert_ok : FnOK Try.prog 151 S__P_impl_Basis_insert := by
  refine at_enterI 66 [1, 2] [3] (fun us x => ⟨[(0, aP 1 0), (1, aF (.int 3) x.2.1)], [(1, oX 105 [cI x.1.1, .sl 2]), (2, oR s22 x.1.2), (3, oP 1 (S__P_impl_Basis_insert.hd us 0))]⟩) Try.func151 rfl (by kernel_rfl) (fun us x => rfl) ?_
  rintro w0 Z0 us ⟨x0, x1, u⟩ L a w
  revert x0 x1
  intro (x0 : T105) (x1 : (List Int)) hio hpre hlens h
  replace h : At w0 Z0 L 66 ⟨[(0, aP 1 0), (1, aF (.int 3) x1)], [(1, oX 105 [cI x0.1, .sl 2]), (2, oR s22 x0.2), (3, oP 1 (S__P_impl_Basis_insert.hd us 0))]⟩ a w := h
  replace hpre : (fun (x0 : T105) (x1 : (List Int)) => Sh.fit s105 x0 ∧ Sh.fit s22 x1 ∧ redP x0 x1) x0 x1 := hpre
  have hl1 : List.length x0.2 ≤ 9223372036854775807 := hlens.1.2.1
  have hl2 : List.length x1 ≤ 9223372036854775807 := hlens.2.1.1
  have hT : TabOK Try.prog S__P_impl_Basis_insert_tab := (.cons S__impl_Basis_reduce_ok (.cons S_impl_LeadingIndex_ok (.cons S_impl_InverseField_ok (.cons S_impl_ScaleVector_ok (.cons S_impl_addScaled_ok (.cons S_slices_Insert_S_S_int_S_int__ok .nil))))))
  obtain ⟨hf0, hf1, hpx⟩ := hpre
  have hn0_1 : List.length x0.2 ≤ 1073741824 := hf0.2.1
  have hn1_2 : List.length x1 ≤ 1073741824 := hf1.1
  have hb0 := hpx.1.1
  have hbR := hpx.1.2
  have hbv := hpx.2
  have hrd := LA.redS_rng hbR hbv
  have hrdl := hrd.1
  have hrn := hbR.len
  refine wp_seq ?_
  refine at_regq (T := S__P_impl_Basis_insert_tab) [] { ts := [0, 1, 4], os := [1, 2, 3] } [] gamOK hT h (by kernel_rfl) trivial ?_
  intro a w h
  refine then_normal ?_
  refine wp_seq ?_
  refine at_regq (T := S__P_impl_Basis_insert_tab) [{}, {}, {}, {}, { ids := [4] }] { ts := [0, 4, 5], os := [1, 2, 3, 4] } [(fun (x0 : T105) (x1 : (List Int)) => Sh.fit s105 x0 ∧ Sh.fit s22 x1 ∧ redP x0 x1) x0 x1] gamOK hT h (by kernel_rfl) ⟨(by exact ⟨hf0, hf1, hpx⟩), trivial⟩ ?_
  intro a w h
  refine then_normal ?_
  refine wp_seq ?_
  refine at_regq (T := S__P_impl_Basis_insert_tab) [] { ts := [0, 4, 5, 6], os := [1, 2, 3, 4] } [(fun (x0 : (List Int)) => Sh.fit s22 x0) (LA.redS x0.2 x1)] gamOK hT h (by kernel_rfl) ⟨(by first | exact fitV hrd (by omega) | exact fitV hrk (by omega) | exact Sh.fit_len rfl (by rw [LA.addS_len (by omega)]; omega)), trivial⟩ ?_
  intro a w h
  refine then_normal ?_
  refine wp_seq ?_
  refine wp_seq ?_
  refine at_reg (T := S__P_impl_Basis_insert_tab) [] { ts := [0, 4, 5, 6, 19], os := [1, 2, 3, 4] } ⟨[(0, aP 1 0), (4, aB false), (5, aS 4), (6, aI (LA.leadS (LA.redS x0.2 x1))), (19, aB (decide ((LA.leadS (LA.redS x0.2 x1)) < 0)))], [(1, oX 105 [cI x0.1, .sl 2]), (2, oR s22 x0.2), (3, oP 1 (S__P_impl_Basis_insert.hd us 0)), (4, oR (.int 3) (LA.redS x0.2 x1))]⟩ [] gamOK hT h (by kernel_rfl) trivial ?_
  intro a w h
  refine then_normal ?_
  refine at_test (decide ((LA.leadS (LA.redS x0.2 x1)) < 0)) h (by kernel_rfl) (fun h1 => ?_) (fun h1 => ?_)
  · replace h1 : (LA.leadS (LA.redS x0.2 x1)) < 0 := of_decide_eq_true h1
    refine wp_seq ?_
    refine at_regq (T := S__P_impl_Basis_insert_tab) [] { ts := [0, 4, 5, 6], os := [1, 2, 3, 4] } [] gamOK hT h (by kernel_rfl) trivial ?_
    intro a w h
    refine then_normal ?_
    refine wp_ret ?_
    refine then_ret ?_
    exact at_returnI (S := S__P_impl_Basis_insert) (x := (x0, x1, ())) [1, 2] [3] (x0, (x1, ())) (some (false, ())) [S__P_impl_Basis_insert.hd us 0 = S__P_impl_Basis_insert.hd us 0] hio h (by kernel_rfl) ⟨rfl, trivial⟩ (by first | rfl | exact congrArg (fun (z : T105) => (z, (x1, ()))) (show (x0 : T105) = insU x0 x1 from by (unfold insU; first | (rw [LA.insS_no (by assumption)]; done) | (rw [LA.insS_yes (by assumption)]; rfl)))) (fun z e => (Option.some.inj e) ▸ (congrArg (fun z => (z, ())) (show (false) = insD x0 x1 from by (unfold insD; first | (rw [LA.insS_no (by assumption)]; done) | (rw [LA.insS_yes (by assumption)]; done)))))
  · replace h1 : ¬ ((LA.leadS (LA.redS x0.2 x1)) < 0) := of_decide_eq_false h1
    have hlp := LA.leadS_bd (LA.redS x0.2 x1)
    have hwk := LA.insW_ok hbR hbv (by omega)
    have hwl := hwk.1
    have hpz := (LA.leadS_pos (v := LA.redS x0.2 x1) (by omega)).1
    refine wp_skip ?_
    refine then_normal ?_
    refine wp_seq ?_
    refine at_regq (T := S__P_impl_Basis_insert_tab) [{}, {}, {}, {}, {}, {}, { ids := [5] }] { ts := [0, 4, 5, 6], os := [1, 2, 3, 5] } [(0 : Int) ≤ (LA.leadS (LA.redS x0.2 x1)) ∧ (LA.leadS (LA.redS x0.2 x1)) < ((List.length (LA.redS x0.2 x1) : Nat) : Int), ((LA.leadS (LA.redS x0.2 x1))).toNat < List.length (LA.redS x0.2 x1), True, (fun (x0 : (List Int)) (x1 : Int) => Sh.fit s22 x0) (LA.redS x0.2 x1) (invF ((LA.redS x0.2 x1).getD (((LA.leadS (LA.redS x0.2 x1))).toNat) 0))] gamOK hT h (by kernel_rfl) ⟨(by refine ⟨?_, ?_⟩ <;> (first | omega | (simp only [List.length_append, List.length_cons, List.length_nil, List.length_set, List.length_take, List.length_drop, List.length_replicate, List.length_map, Nat.min_def]; omega) | (simp; done) | (simp; omega) | done)), (by first | omega | (simp only [List.length_append, List.length_cons, List.length_nil, List.length_set, List.length_take, List.length_drop, List.length_replicate, List.length_map, Nat.min_def]; omega) | (simp; done) | (simp; omega) | done), trivial, (by exact fitV hrd (by omega)), trivial⟩ ?_
    intro a w h
    refine then_normal ?_
    refine wp_seq ?_
    refine at_regq (T := S__P_impl_Basis_insert_tab) [] { ts := [0, 4, 5, 6, 7], os := [1, 2, 3, 5] } [] gamOK hT h (by kernel_rfl) trivial ?_
    intro a w h
    refine then_normal ?_
    refine wp_seq ?_
    refine wp_seq ?_
    refine at_regq (T := S__P_impl_Basis_insert_tab) [] { ts := [0, 4, 5, 6, 7, 30, 31, 32], os := [1, 2, 3, 5] } [] gamOK hT h (by kernel_rfl) trivial ?_
    intro a w h
    refine then_normal ?_
    refine wp_block ?_
    replace h := at_out (σ' := ⟨[(0, aP 1 0), (4, aB false), (5, aS 5), (6, aI (LA.leadS (LA.redS x0.2 x1))), (7, aI 0), (30, aS 2), (31, aI ((List.length x0.2 : Nat) : Int)), (32, aI 0)], [(1, oX 105 [cI x0.1, .sl 2]), (2, oR s22 x0.2), (3, oP 1 (S__P_impl_Basis_insert.hd us 0)), (5, oR (.int 3) (scaleV (LA.redS x0.2 x1) (invF ((LA.redS x0.2 x1).getD (((LA.leadS (LA.redS x0.2 x1))).toNat) 0))))]⟩) { ts := [0, 4, 5, 6, 7, 30, 31, 32], os := [1, 2, 3, 5] } h (by kernel_rfl)
    refine at_loop (fun i : Nat => (⟨[(0, aP 1 0), (4, aB false), (5, aS 5), (6, aI (LA.leadS (LA.redS x0.2 x1))), (7, aI ((LA.atTo (LA.insE x0.2 x1) (LA.leadS (LA.redS x0.2 x1)) i : Nat) : Int)), (30, aS 2), (31, aI ((List.length x0.2 : Nat) : Int)), (32, aI ((i : Nat) : Int))], [(1, oX 105 [cI x0.1, .sl 2]), (2, oR s22 (LA.elTo x0.2 (LA.insW x0.2 x1) (LA.leadS (LA.redS x0.2 x1)).toNat i)), (3, oP 1 (S__P_impl_Basis_insert.hd us 0)), (5, oR (.int 3) (LA.insW x0.2 x1))]⟩ : St)) (fun i => i ≤ List.length x0.2) (fun i => List.length x0.2 - i) (0) h (st_congr4 (fun (d0 : List (List Int)) (d1 : List Int) (d2 : Int) (d3 : Int) => (⟨[(0, aP 1 0), (4, aB false), (5, aS 5), (6, aI (LA.leadS (LA.redS x0.2 x1))), (7, aI d2), (30, aS 2), (31, aI ((List.length x0.2 : Nat) : Int)), (32, aI d3)], [(1, oX 105 [cI x0.1, .sl 2]), (2, oR s22 d0), (3, oP 1 (S__P_impl_Basis_insert.hd us 0)), (5, oR (.int 3) d1)]⟩ : St)) (show (x0.2 : List (List Int)) = (LA.elTo x0.2 (LA.insW x0.2 x1) (LA.leadS (LA.redS x0.2 x1)).toNat (0)) from by first | with_reducible rfl | (first | rfl | exact ins_w hrd (by omega) (by omega)) | rfl) (show ((scaleV (LA.redS x0.2 x1) (invF ((LA.redS x0.2 x1).getD (((LA.leadS (LA.redS x0.2 x1))).toNat) 0))) : List Int) = (LA.insW x0.2 x1) from by first | with_reducible rfl | (first | rfl | exact ins_w hrd (by omega) (by omega)) | rfl) (show (0 : Int) = ((LA.atTo (LA.insE x0.2 x1) (LA.leadS (LA.redS x0.2 x1)) (0) : Nat) : Int) from by first | with_reducible rfl | (first | rfl | exact ins_w hrd (by omega) (by omega)) | rfl) (show (0 : Int) = (((0) : Nat) : Int) from by first | with_reducible rfl | (first | rfl | exact ins_w hrd (by omega) (by omega)) | rfl)) (by omega) ?_
    intro i a w hok0 h
    have hel := LA.elTo_len (rows := x0.2) (w := (LA.insW x0.2 x1)) (l := (LA.leadS (LA.redS x0.2 x1)).toNat) (i := i)
    refine wp_seq ?_
    refine at_reg (T := S__P_impl_Basis_insert_tab) [] { ts := [0, 4, 5, 6, 7, 30, 31, 32, 33], os := [1, 2, 3, 5] } ⟨[(0, aP 1 0), (4, aB false), (5, aS 5), (6, aI (LA.leadS (LA.redS x0.2 x1))), (7, aI ((LA.atTo (LA.insE x0.2 x1) (LA.leadS (LA.redS x0.2 x1)) i : Nat) : Int)), (30, aS 2), (31, aI ((List.length x0.2 : Nat) : Int)), (32, aI ((i : Nat) : Int)), (33, aB (decide (((i : Nat) : Int) < ((List.length x0.2 : Nat) : Int))))], [(1, oX 105 [cI x0.1, .sl 2]), (2, oR s22 (LA.elTo x0.2 (LA.insW x0.2 x1) (LA.leadS (LA.redS x0.2 x1)).toNat i)), (3, oP 1 (S__P_impl_Basis_insert.hd us 0)), (5, oR (.int 3) (LA.insW x0.2 x1))]⟩ [] gamOK hT h (by kernel_rfl) trivial ?_
    intro a w h
    refine then_normal ?_
    refine wp_seq ?_
    refine at_test (decide (((i : Nat) : Int) < ((List.length x0.2 : Nat) : Int))) h (by kernel_rfl) (fun h2 => ?_) (fun h2 => ?_)
    · replace h2 : ((i : Nat) : Int) < ((List.length x0.2 : Nat) : Int) := of_decide_eq_true h2
      have hrr := hbR.at_ (show i < List.length x0.2 by omega)
      have hge := LA.elTo_get (w := (LA.insW x0.2 x1)) (l := (LA.leadS (LA.redS x0.2 x1)).toNat) (show i < List.length x0.2 by omega)
      have hrk : LA.VokB x0.1.toNat ((LA.elTo x0.2 (LA.insW x0.2 x1) (LA.leadS (LA.redS x0.2 x1)).toNat i).getD i []) := by rw [hge]; exact hrr.1
      have hrkl := hrk.1
      have hrkr := hrk.rng (LA.leadS (LA.redS x0.2 x1)).toNat
      refine wp_skip ?_
      refine then_normal ?_
      refine wp_seq ?_
      refine wp_block ?_
      refine wp_seq ?_
      replace h := at_open (σ' := ⟨[(0, aP 1 0), (4, aB false), (5, aS 5), (6, aI (LA.leadS (LA.redS x0.2 x1))), (7, aI ((LA.atTo (LA.insE x0.2 x1) (LA.leadS (LA.redS x0.2 x1)) i : Nat) : Int)), (30, aS 2), (31, aI ((List.length x0.2 : Nat) : Int)), (32, aI ((i : Nat) : Int)), (33, aB (decide (((i : Nat) : Int) < ((List.length x0.2 : Nat) : Int))))], [(1, oX 105 [cI x0.1, .sl 2]), (2, some (.op s22 (LA.elTo x0.2 (LA.insW x0.2 x1) (LA.leadS (LA.redS x0.2 x1)).toNat i) i [.sl 6])), (3, oP 1 (S__P_impl_Basis_insert.hd us 0)), (5, oR (.int 3) (LA.insW x0.2 x1)), (6, oR (.int 3) ((LA.elTo x0.2 (LA.insW x0.2 x1) (LA.leadS (LA.redS x0.2 x1)).toNat i).getD i []))]⟩) (ps := [i < List.length (LA.elTo x0.2 (LA.insW x0.2 x1) (LA.leadS (LA.redS x0.2 x1)).toNat i)]) 2 i [6] { ts := [0, 4, 5, 6, 7, 30, 31, 32, 33], os := [1, 2, 3, 5, 6] } h (by kernel_rfl) ⟨(by first | omega | (simp only [List.length_append, List.length_cons, List.length_nil, List.length_set, List.length_take, List.length_drop, List.length_replicate, List.length_map, Nat.min_def]; omega) | (simp; done) | (simp; omega) | done), trivial⟩
      refine at_regq (T := S__P_impl_Basis_insert_tab) [] { ts := [0, 4, 5, 6, 7, 8, 9, 30, 31, 32], os := [1, 2, 3, 5, 6] } [(0 : Int) ≤ ((i : Nat) : Int) ∧ ((i : Nat) : Int) < ((List.length (LA.elTo x0.2 (LA.insW x0.2 x1) (LA.leadS (LA.redS x0.2 x1)).toNat i) : Nat) : Int), i = i] gamOK hT h (by kernel_rfl) ⟨(by refine ⟨?_, ?_⟩ <;> (first | omega | (simp only [List.length_append, List.length_cons, List.length_nil, List.length_set, List.length_take, List.length_drop, List.length_replicate, List.length_map, Nat.min_def]; omega) | (simp; done) | (simp; omega) | done)), rfl, trivial⟩ ?_
      intro a w h
      refine then_normal ?_
      refine wp_seq ?_
      refine wp_seq ?_
      refine at_regq (T := S__P_impl_Basis_insert_tab) [] { ts := [0, 4, 5, 6, 7, 8, 9, 10, 30, 31, 32], os := [1, 2, 3, 5, 6] } [(0 : Int) ≤ (LA.leadS (LA.redS x0.2 x1)) ∧ (LA.leadS (LA.redS x0.2 x1)) < ((List.length ((LA.elTo x0.2 (LA.insW x0.2 x1) (LA.leadS (LA.redS x0.2 x1)).toNat i).getD i []) : Nat) : Int), ((LA.leadS (LA.redS x0.2 x1))).toNat < List.length ((LA.elTo x0.2 (LA.insW x0.2 x1) (LA.leadS (LA.redS x0.2 x1)).toNat i).getD i [])] gamOK hT h (by kernel_rfl) ⟨(by refine ⟨?_, ?_⟩ <;> (first | omega | (simp only [List.length_append, List.length_cons, List.length_nil, List.length_set, List.length_take, List.length_drop, List.length_replicate, List.length_map, Nat.min_def]; omega) | (simp; done) | (simp; omega) | done)), (by first | omega | (simp only [List.length_append, List.length_cons, List.length_nil, List.length_set, List.length_take, List.length_drop, List.length_replicate, List.length_map, Nat.min_def]; omega) | (simp; done) | (simp; omega) | done), trivial⟩ ?_
      intro a w h
      refine then_normal ?_
      refine wp_seq ?_
      refine at_regq (T := S__P_impl_Basis_insert_tab) [] { ts := [0, 4, 5, 6, 7, 8, 9, 10, 30, 31, 32, 42], os := [1, 2, 3, 5, 6] } [] gamOK hT h (by kernel_rfl) trivial ?_
      intro a w h
      refine then_normal ?_
      refine at_test (!decide ((((LA.elTo x0.2 (LA.insW x0.2 x1) (LA.leadS (LA.redS x0.2 x1)).toNat i).getD i []).getD (((LA.leadS (LA.redS x0.2 x1))).toNat) 0) = 0)) h (by kernel_rfl) (fun h3 => ?_) (fun h3 => ?_)
      · replace h3 : ¬ ((((LA.elTo x0.2 (LA.insW x0.2 x1) (LA.leadS (LA.redS x0.2 x1)).toNat i).getD i []).getD (((LA.leadS (LA.redS x0.2 x1))).toNat) 0) = 0) := of_decide_eq_false (notT h3)
        refine at_reg (T := S__P_impl_Basis_insert_tab) [{}, {}, {}, { nw := true }] { ts := [0, 4, 5, 6, 7, 8, 9, 30, 31, 32], os := [1, 2, 3, 5, 6] } ⟨[(0, aP 1 0), (4, aB false), (5, aS 5), (6, aI (LA.leadS (LA.redS x0.2 x1))), (7, aI ((LA.atTo (LA.insE x0.2 x1) (LA.leadS (LA.redS x0.2 x1)) i : Nat) : Int)), (8, aI ((i : Nat) : Int)), (9, aS 6), (30, aS 2), (31, aI ((List.length x0.2 : Nat) : Int)), (32, aI ((i : Nat) : Int))], [(1, oX 105 [cI x0.1, .sl 2]), (2, some (.op s22 (LA.elTo x0.2 (LA.insW x0.2 x1) (LA.leadS (LA.redS x0.2 x1)).toNat i) i [.sl 6])), (3, oP 1 (S__P_impl_Basis_insert.hd us 0)), (5, oR (.int 3) (LA.insW x0.2 x1)), (6, oR (.int 3) (LA.addS ((LA.elTo x0.2 (LA.insW x0.2 x1) (LA.leadS (LA.redS x0.2 x1)).toNat i).getD i []) (LA.insW x0.2 x1) (1019 - (((LA.elTo x0.2 (LA.insW x0.2 x1) (LA.leadS (LA.redS x0.2 x1)).toNat i).getD i []).getD (((LA.leadS (LA.redS x0.2 x1))).toNat) 0))))]⟩ [I64 (1019 - (((LA.elTo x0.2 (LA.insW x0.2 x1) (LA.leadS (LA.redS x0.2 x1)).toNat i).getD i []).getD (((LA.leadS (LA.redS x0.2 x1))).toNat) 0)), (fun (x0 : (List Int)) (x1 : (List Int)) (x2 : Int) => Sh.fit s22 x0 ∧ Sh.fit s22 x1 ∧ addOK x0 x1 x2) ((LA.elTo x0.2 (LA.insW x0.2 x1) (LA.leadS (LA.redS x0.2 x1)).toNat i).getD i []) (LA.insW x0.2 x1) (1019 - (((LA.elTo x0.2 (LA.insW x0.2 x1) (LA.leadS (LA.redS x0.2 x1)).toNat i).getD i []).getD (((LA.leadS (LA.redS x0.2 x1))).toNat) 0))] gamOK hT h (by kernel_rfl) ⟨⟨by first | omega | (simp only [List.length_append, List.length_cons, List.length_nil, List.length_set, List.length_take, List.length_drop, List.length_replicate, List.length_map, Nat.min_def]; omega) | (simp; done) | (simp; omega) | done, by first | omega | (simp only [List.length_append, List.length_cons, List.length_nil, List.length_set, List.length_take, List.length_drop, List.length_replicate, List.length_map, Nat.min_def]; omega) | (simp; done) | (simp; omega) | done⟩, (by exact ⟨fitV hrk (by omega), fitV hwk (by omega), addOK_of hrk hwk (by omega)⟩), trivial⟩ ?_
        intro a w h
        refine then_normal ?_
        refine wp_seq ?_
        refine at_regq (T := S__P_impl_Basis_insert_tab) [] { ts := [0, 4, 5, 6, 7, 8, 30, 31, 32, 51], os := [1, 2, 3, 5, 6] } [(fun (x0 : (List Int)) => Sh.fit s22 x0) (LA.addS ((LA.elTo x0.2 (LA.insW x0.2 x1) (LA.leadS (LA.redS x0.2 x1)).toNat i).getD i []) (LA.insW x0.2 x1) (1019 - (((LA.elTo x0.2 (LA.insW x0.2 x1) (LA.leadS (LA.redS x0.2 x1)).toNat i).getD i []).getD (((LA.leadS (LA.redS x0.2 x1))).toNat) 0)))] gamOK hT h (by kernel_rfl) ⟨(by first | exact fitV hrd (by omega) | exact fitV hrk (by omega) | exact Sh.fit_len rfl (by rw [LA.addS_len (by omega)]; omega)), trivial⟩ ?_
        intro a w h
        refine then_normal ?_
        refine at_test (decide ((LA.leadS (LA.addS ((LA.elTo x0.2 (LA.insW x0.2 x1) (LA.leadS (LA.redS x0.2 x1)).toNat i).getD i []) (LA.insW x0.2 x1) (1019 - (((LA.elTo x0.2 (LA.insW x0.2 x1) (LA.leadS (LA.redS x0.2 x1)).toNat i).getD i []).getD (((LA.leadS (LA.redS x0.2 x1))).toNat) 0)))) < (LA.leadS (LA.redS x0.2 x1)))) h (by kernel_rfl) (fun h4 => ?_) (fun h4 => ?_)
        · replace h4 : (LA.leadS (LA.addS ((LA.elTo x0.2 (LA.insW x0.2 x1) (LA.leadS (LA.redS x0.2 x1)).toNat i).getD i []) (LA.insW x0.2 x1) (1019 - (((LA.elTo x0.2 (LA.insW x0.2 x1) (LA.leadS (LA.redS x0.2 x1)).toNat i).getD i []).getD (((LA.leadS (LA.redS x0.2 x1))).toNat) 0)))) < (LA.leadS (LA.redS x0.2 x1)) := of_decide_eq_true h4
          refine at_regq (T := S__P_impl_Basis_insert_tab) [{}, { nw := true }] { ts := [0, 4, 5, 6, 7, 30, 31, 32], os := [1, 2, 3, 5, 6] } [I64 (((i : Nat) : Int) + 1)] gamOK hT h (by kernel_rfl) ⟨⟨by first | omega | (simp only [List.length_append, List.length_cons, List.length_nil, List.length_set, List.length_take, List.length_drop, List.length_replicate, List.length_map, Nat.min_def]; omega) | (simp; done) | (simp; omega) | done, by first | omega | (simp only [List.length_append, List.length_cons, List.length_nil, List.length_set, List.length_take, List.length_drop, List.length_replicate, List.length_map, Nat.min_def]; omega) | (simp; done) | (simp; omega) | done⟩, trivial⟩ ?_
          intro a w h
          refine in_normal ?_
          refine then_normal ?_
          refine at_regq (T := S__P_impl_Basis_insert_tab) [{ nw := true }] { ts := [0, 4, 5, 6, 7, 30, 31, 32], os := [1, 2, 3, 5, 6] } [I64 (((i : Nat) : Int) + 1)] gamOK hT h (by kernel_rfl) ⟨⟨by first | omega | (simp only [List.length_append, List.length_cons, List.length_nil, List.length_set, List.length_take, List.length_drop, List.length_replicate, List.length_map, Nat.min_def]; omega) | (simp; done) | (simp; omega) | done, by first | omega | (simp only [List.length_append, List.length_cons, List.length_nil, List.length_set, List.length_take, List.length_drop, List.length_replicate, List.length_map, Nat.min_def]; omega) | (simp; done) | (simp; omega) | done⟩, trivial⟩ ?_
          intro a w h
          replace h := at_shut (σ' := ⟨[(0, aP 1 0), (4, aB false), (5, aS 5), (6, aI (LA.leadS (LA.redS x0.2 x1))), (7, aI (((i : Nat) : Int) + 1)), (30, aS 2), (31, aI ((List.length x0.2 : Nat) : Int)), (32, aI (((i : Nat) : Int) + 1))], [(1, oX 105 [cI x0.1, .sl 2]), (2, oR s22 (List.set (LA.elTo x0.2 (LA.insW x0.2 x1) (LA.leadS (LA.redS x0.2 x1)).toNat i) i (LA.addS ((LA.elTo x0.2 (LA.insW x0.2 x1) (LA.leadS (LA.redS x0.2 x1)).toNat i).getD i []) (LA.insW x0.2 x1) (1019 - (((LA.elTo x0.2 (LA.insW x0.2 x1) (LA.leadS (LA.redS x0.2 x1)).toNat i).getD i []).getD (((LA.leadS (LA.redS x0.2 x1))).toNat) 0))))), (3, oP 1 (S__P_impl_Basis_insert.hd us 0)), (5, oR (.int 3) (LA.insW x0.2 x1))]⟩) (ps := []) 2 { ts := [0, 4, 5, 6, 7, 30, 31, 32], os := [1, 2, 3, 5] } h (by kernel_rfl) trivial
          replace h := at_out (σ' := ⟨[(0, aP 1 0), (4, aB false), (5, aS 5), (6, aI (LA.leadS (LA.redS x0.2 x1))), (7, aI (((i : Nat) : Int) + 1)), (30, aS 2), (31, aI ((List.length x0.2 : Nat) : Int)), (32, aI (((i : Nat) : Int) + 1))], [(1, oX 105 [cI x0.1, .sl 2]), (2, oR s22 (List.set (LA.elTo x0.2 (LA.insW x0.2 x1) (LA.leadS (LA.redS x0.2 x1)).toNat i) i (LA.addS ((LA.elTo x0.2 (LA.insW x0.2 x1) (LA.leadS (LA.redS x0.2 x1)).toNat i).getD i []) (LA.insW x0.2 x1) (1019 - (((LA.elTo x0.2 (LA.insW x0.2 x1) (LA.leadS (LA.redS x0.2 x1)).toNat i).getD i []).getD (((LA.leadS (LA.redS x0.2 x1))).toNat) 0))))), (3, oP 1 (S__P_impl_Basis_insert.hd us 0)), (5, oR (.int 3) (LA.insW x0.2 x1))]⟩) { ts := [0, 4, 5, 6, 7, 30, 31, 32], os := [1, 2, 3, 5] } h (by kernel_rfl)
          exact ⟨i + 1, at_eq h (st_congr4 (fun (d0 : List (List Int)) (d1 : List Int) (d2 : Int) (d3 : Int) => (⟨[(0, aP 1 0), (4, aB false), (5, aS 5), (6, aI (LA.leadS (LA.redS x0.2 x1))), (7, aI d2), (30, aS 2), (31, aI ((List.length x0.2 : Nat) : Int)), (32, aI d3)], [(1, oX 105 [cI x0.1, .sl 2]), (2, oR s22 d0), (3, oP 1 (S__P_impl_Basis_insert.hd us 0)), (5, oR (.int 3) d1)]⟩ : St)) (show ((List.set (LA.elTo x0.2 (LA.insW x0.2 x1) (LA.leadS (LA.redS x0.2 x1)).toNat i) i (LA.addS ((LA.elTo x0.2 (LA.insW x0.2 x1) (LA.leadS (LA.redS x0.2 x1)).toNat i).getD i []) (LA.insW x0.2 x1) (1019 - (((LA.elTo x0.2 (LA.insW x0.2 x1) (LA.leadS (LA.redS x0.2 x1)).toNat i).getD i []).getD (((LA.leadS (LA.redS x0.2 x1))).toNat) 0)))) : List (List Int)) = (LA.elTo x0.2 (LA.insW x0.2 x1) (LA.leadS (LA.redS x0.2 x1)).toNat (i + 1)) from by first | with_reducible rfl | (first | exact LA.ins_b1 (by omega) (by assumption) | exact LA.ins_b0 (by omega) (by omega)) | rfl) (show ((LA.insW x0.2 x1) : List Int) = (LA.insW x0.2 x1) from by first | with_reducible rfl | (rfl) | rfl) (show (((i : Nat) : Int) + 1 : Int) = ((LA.atTo (LA.insE x0.2 x1) (LA.leadS (LA.redS x0.2 x1)) (i + 1) : Nat) : Int) from by first | with_reducible rfl | (first | (rw [LA.atTo_y (LA.at_b1 (by omega) (by assumption)) (by assumption)]; omega) | (rw [LA.atTo_y (LA.at_b0 (by omega) (by omega)) (by assumption)]; omega) | (rw [LA.atTo_n (LA.at_b1 (by omega) (by assumption)) (by assumption)]; done) | (rw [LA.atTo_n (LA.at_b0 (by omega) (by omega)) (by assumption)]; done)) | rfl) (show (((i : Nat) : Int) + 1 : Int) = (((i + 1) : Nat) : Int) from by first | with_reducible rfl | (omega) | rfl)), (by omega), (by omega)⟩
        · replace h4 : ¬ ((LA.leadS (LA.addS ((LA.elTo x0.2 (LA.insW x0.2 x1) (LA.leadS (LA.redS x0.2 x1)).toNat i).getD i []) (LA.insW x0.2 x1) (1019 - (((LA.elTo x0.2 (LA.insW x0.2 x1) (LA.leadS (LA.redS x0.2 x1)).toNat i).getD i []).getD (((LA.leadS (LA.redS x0.2 x1))).toNat) 0)))) < (LA.leadS (LA.redS x0.2 x1))) := of_decide_eq_false h4
          refine wp_skip ?_
          refine in_normal ?_
          refine then_normal ?_
          refine at_regq (T := S__P_impl_Basis_insert_tab) [{ nw := true }] { ts := [0, 4, 5, 6, 7, 30, 31, 32], os := [1, 2, 3, 5, 6] } [I64 (((i : Nat) : Int) + 1)] gamOK hT h (by kernel_rfl) ⟨⟨by first | omega | (simp only [List.length_append, List.length_cons, List.length_nil, List.length_set, List.length_take, List.length_drop, List.length_replicate, List.length_map, Nat.min_def]; omega) | (simp; done) | (simp; omega) | done, by first | omega | (simp only [List.length_append, List.length_cons, List.length_nil, List.length_set, List.length_take, List.length_drop, List.length_replicate, List.length_map, Nat.min_def]; omega) | (simp; done) | (simp; omega) | done⟩, trivial⟩ ?_
          intro a w h
          replace h := at_shut (σ' := ⟨[(0, aP 1 0), (4, aB false), (5, aS 5), (6, aI (LA.leadS (LA.redS x0.2 x1))), (7, aI ((LA.atTo (LA.insE x0.2 x1) (LA.leadS (LA.redS x0.2 x1)) i : Nat) : Int)), (30, aS 2), (31, aI ((List.length x0.2 : Nat) : Int)), (32, aI (((i : Nat) : Int) + 1))], [(1, oX 105 [cI x0.1, .sl 2]), (2, oR s22 (List.set (LA.elTo x0.2 (LA.insW x0.2 x1) (LA.leadS (LA.redS x0.2 x1)).toNat i) i (LA.addS ((LA.elTo x0.2 (LA.insW x0.2 x1) (LA.leadS (LA.redS x0.2 x1)).toNat i).getD i []) (LA.insW x0.2 x1) (1019 - (((LA.elTo x0.2 (LA.insW x0.2 x1) (LA.leadS (LA.redS x0.2 x1)).toNat i).getD i []).getD (((LA.leadS (LA.redS x0.2 x1))).toNat) 0))))), (3, oP 1 (S__P_impl_Basis_insert.hd us 0)), (5, oR (.int 3) (LA.insW x0.2 x1))]⟩) (ps := []) 2 { ts := [0, 4, 5, 6, 7, 30, 31, 32], os := [1, 2, 3, 5] } h (by kernel_rfl) trivial
          replace h := at_out (σ' := ⟨[(0, aP 1 0), (4, aB false), (5, aS 5), (6, aI (LA.leadS (LA.redS x0.2 x1))), (7, aI ((LA.atTo (LA.insE x0.2 x1) (LA.leadS (LA.redS x0.2 x1)) i : Nat) : Int)), (30, aS 2), (31, aI ((List.length x0.2 : Nat) : Int)), (32, aI (((i : Nat) : Int) + 1))], [(1, oX 105 [cI x0.1, .sl 2]), (2, oR s22 (List.set (LA.elTo x0.2 (LA.insW x0.2 x1) (LA.leadS (LA.redS x0.2 x1)).toNat i) i (LA.addS ((LA.elTo x0.2 (LA.insW x0.2 x1) (LA.leadS (LA.redS x0.2 x1)).toNat i).getD i []) (LA.insW x0.2 x1) (1019 - (((LA.elTo x0.2 (LA.insW x0.2 x1) (LA.leadS (LA.redS x0.2 x1)).toNat i).getD i []).getD (((LA.leadS (LA.redS x0.2 x1))).toNat) 0))))), (3, oP 1 (S__P_impl_Basis_insert.hd us 0)), (5, oR (.int 3) (LA.insW x0.2 x1))]⟩) { ts := [0, 4, 5, 6, 7, 30, 31, 32], os := [1, 2, 3, 5] } h (by kernel_rfl)
          exact ⟨i + 1, at_eq h (st_congr4 (fun (d0 : List (List Int)) (d1 : List Int) (d2 : Int) (d3 : Int) => (⟨[(0, aP 1 0), (4, aB false), (5, aS 5), (6, aI (LA.leadS (LA.redS x0.2 x1))), (7, aI d2), (30, aS 2), (31, aI ((List.length x0.2 : Nat) : Int)), (32, aI d3)], [(1, oX 105 [cI x0.1, .sl 2]), (2, oR s22 d0), (3, oP 1 (S__P_impl_Basis_insert.hd us 0)), (5, oR (.int 3) d1)]⟩ : St)) (show ((List.set (LA.elTo x0.2 (LA.insW x0.2 x1) (LA.leadS (LA.redS x0.2 x1)).toNat i) i (LA.addS ((LA.elTo x0.2 (LA.insW x0.2 x1) (LA.leadS (LA.redS x0.2 x1)).toNat i).getD i []) (LA.insW x0.2 x1) (1019 - (((LA.elTo x0.2 (LA.insW x0.2 x1) (LA.leadS (LA.redS x0.2 x1)).toNat i).getD i []).getD (((LA.leadS (LA.redS x0.2 x1))).toNat) 0)))) : List (List Int)) = (LA.elTo x0.2 (LA.insW x0.2 x1) (LA.leadS (LA.redS x0.2 x1)).toNat (i + 1)) from by first | with_reducible rfl | (first | exact LA.ins_b1 (by omega) (by assumption) | exact LA.ins_b0 (by omega) (by omega)) | rfl) (show ((LA.insW x0.2 x1) : List Int) = (LA.insW x0.2 x1) from by first | with_reducible rfl | (rfl) | rfl) (show (((LA.atTo (LA.insE x0.2 x1) (LA.leadS (LA.redS x0.2 x1)) i : Nat) : Int) : Int) = ((LA.atTo (LA.insE x0.2 x1) (LA.leadS (LA.redS x0.2 x1)) (i + 1) : Nat) : Int) from by first | with_reducible rfl | (first | (rw [LA.atTo_y (LA.at_b1 (by omega) (by assumption)) (by assumption)]; omega) | (rw [LA.atTo_y (LA.at_b0 (by omega) (by omega)) (by assumption)]; omega) | (rw [LA.atTo_n (LA.at_b1 (by omega) (by assumption)) (by assumption)]; done) | (rw [LA.atTo_n (LA.at_b0 (by omega) (by omega)) (by assumption)]; done)) | rfl) (show (((i : Nat) : Int) + 1 : Int) = (((i + 1) : Nat) : Int) from by first | with_reducible rfl | (omega) | rfl)), (by omega), (by omega)⟩
      · replace h3 : (((LA.elTo x0.2 (LA.insW x0.2 x1) (LA.leadS (LA.redS x0.2 x1)).toNat i).getD i []).getD (((LA.leadS (LA.redS x0.2 x1))).toNat) 0) = 0 := of_decide_eq_true (notF h3)
        refine wp_skip ?_
        refine then_normal ?_
        refine wp_seq ?_
        refine at_reg (T := S__P_impl_Basis_insert_tab) [] { ts := [0, 4, 5, 6, 7, 8, 30, 31, 32, 51], os := [1, 2, 3, 5, 6] } ⟨[(0, aP 1 0), (4, aB false), (5, aS 5), (6, aI (LA.leadS (LA.redS x0.2 x1))), (7, aI ((LA.atTo (LA.insE x0.2 x1) (LA.leadS (LA.redS x0.2 x1)) i : Nat) : Int)), (8, aI ((i : Nat) : Int)), (30, aS 2), (31, aI ((List.length x0.2 : Nat) : Int)), (32, aI ((i : Nat) : Int)), (51, aB (decide ((LA.leadS ((LA.elTo x0.2 (LA.insW x0.2 x1) (LA.leadS (LA.redS x0.2 x1)).toNat i).getD i [])) < (LA.leadS (LA.redS x0.2 x1)))))], [(1, oX 105 [cI x0.1, .sl 2]), (2, some (.op s22 (LA.elTo x0.2 (LA.insW x0.2 x1) (LA.leadS (LA.redS x0.2 x1)).toNat i) i [.sl 6])), (3, oP 1 (S__P_impl_Basis_insert.hd us 0)), (5, oR (.int 3) (LA.insW x0.2 x1)), (6, oR (.int 3) ((LA.elTo x0.2 (LA.insW x0.2 x1) (LA.leadS (LA.redS x0.2 x1)).toNat i).getD i []))]⟩ [(fun (x0 : (List Int)) => Sh.fit s22 x0) ((LA.elTo x0.2 (LA.insW x0.2 x1) (LA.leadS (LA.redS x0.2 x1)).toNat i).getD i [])] gamOK hT h (by kernel_rfl) ⟨(by first | exact fitV hrd (by omega) | exact fitV hrk (by omega) | exact Sh.fit_len rfl (by rw [LA.addS_len (by omega)]; omega)), trivial⟩ ?_
        intro a w h
        refine then_normal ?_
        refine at_test (decide ((LA.leadS ((LA.elTo x0.2 (LA.insW x0.2 x1) (LA.leadS (LA.redS x0.2 x1)).toNat i).getD i [])) < (LA.leadS (LA.redS x0.2 x1)))) h (by kernel_rfl) (fun h5 => ?_) (fun h5 => ?_)
        · replace h5 : (LA.leadS ((LA.elTo x0.2 (LA.insW x0.2 x1) (LA.leadS (LA.redS x0.2 x1)).toNat i).getD i [])) < (LA.leadS (LA.redS x0.2 x1)) := of_decide_eq_true h5
          refine at_regq (T := S__P_impl_Basis_insert_tab) [{}, { nw := true }] { ts := [0, 4, 5, 6, 7, 30, 31, 32], os := [1, 2, 3, 5, 6] } [I64 (((i : Nat) : Int) + 1)] gamOK hT h (by kernel_rfl) ⟨⟨by first | omega | (simp only [List.length_append, List.length_cons, List.length_nil, List.length_set, List.length_take, List.length_drop, List.length_replicate, List.length_map, Nat.min_def]; omega) | (simp; done) | (simp; omega) | done, by first | omega | (simp only [List.length_append, List.length_cons, List.length_nil, List.length_set, List.length_take, List.length_drop, List.length_replicate, List.length_map, Nat.min_def]; omega) | (simp; done) | (simp; omega) | done⟩, trivial⟩ ?_
          intro a w h
          refine in_normal ?_
          refine then_normal ?_
          refine at_regq (T := S__P_impl_Basis_insert_tab) [{ nw := true }] { ts := [0, 4, 5, 6, 7, 30, 31, 32], os := [1, 2, 3, 5, 6] } [I64 (((i : Nat) : Int) + 1)] gamOK hT h (by kernel_rfl) ⟨⟨by first | omega | (simp only [List.length_append, List.length_cons, List.length_nil, List.length_set, List.length_take, List.length_drop, List.length_replicate, List.length_map, Nat.min_def]; omega) | (simp; done) | (simp; omega) | done, by first | omega | (simp only [List.length_append, List.length_cons, List.length_nil, List.length_set, List.length_take, List.length_drop, List.length_replicate, List.length_map, Nat.min_def]; omega) | (simp; done) | (simp; omega) | done⟩, trivial⟩ ?_
          intro a w h
          replace h := at_shut (σ' := ⟨[(0, aP 1 0), (4, aB false), (5, aS 5), (6, aI (LA.leadS (LA.redS x0.2 x1))), (7, aI (((i : Nat) : Int) + 1)), (30, aS 2), (31, aI ((List.length x0.2 : Nat) : Int)), (32, aI (((i : Nat) : Int) + 1))], [(1, oX 105 [cI x0.1, .sl 2]), (2, oR s22 (List.set (LA.elTo x0.2 (LA.insW x0.2 x1) (LA.leadS (LA.redS x0.2 x1)).toNat i) i ((LA.elTo x0.2 (LA.insW x0.2 x1) (LA.leadS (LA.redS x0.2 x1)).toNat i).getD i []))), (3, oP 1 (S__P_impl_Basis_insert.hd us 0)), (5, oR (.int 3) (LA.insW x0.2 x1))]⟩) (ps := []) 2 { ts := [0, 4, 5, 6, 7, 30, 31, 32], os := [1, 2, 3, 5] } h (by kernel_rfl) trivial
          replace h := at_out (σ' := ⟨[(0, aP 1 0), (4, aB false), (5, aS 5), (6, aI (LA.leadS (LA.redS x0.2 x1))), (7, aI (((i : Nat) : Int) + 1)), (30, aS 2), (31, aI ((List.length x0.2 : Nat) : Int)), (32, aI (((i : Nat) : Int) + 1))], [(1, oX 105 [cI x0.1, .sl 2]), (2, oR s22 (List.set (LA.elTo x0.2 (LA.insW x0.2 x1) (LA.leadS (LA.redS x0.2 x1)).toNat i) i ((LA.elTo x0.2 (LA.insW x0.2 x1) (LA.leadS (LA.redS x0.2 x1)).toNat i).getD i []))), (3, oP 1 (S__P_impl_Basis_insert.hd us 0)), (5, oR (.int 3) (LA.insW x0.2 x1))]⟩) { ts := [0, 4, 5, 6, 7, 30, 31, 32], os := [1, 2, 3, 5] } h (by kernel_rfl)
          exact ⟨i + 1, at_eq h (st_congr4 (fun (d0 : List (List Int)) (d1 : List Int) (d2 : Int) (d3 : Int) => (⟨[(0, aP 1 0), (4, aB false), (5, aS 5), (6, aI (LA.leadS (LA.redS x0.2 x1))), (7, aI d2), (30, aS 2), (31, aI ((List.length x0.2 : Nat) : Int)), (32, aI d3)], [(1, oX 105 [cI x0.1, .sl 2]), (2, oR s22 d0), (3, oP 1 (S__P_impl_Basis_insert.hd us 0)), (5, oR (.int 3) d1)]⟩ : St)) (show ((List.set (LA.elTo x0.2 (LA.insW x0.2 x1) (LA.leadS (LA.redS x0.2 x1)).toNat i) i ((LA.elTo x0.2 (LA.insW x0.2 x1) (LA.leadS (LA.redS x0.2 x1)).toNat i).getD i [])) : List (List Int)) = (LA.elTo x0.2 (LA.insW x0.2 x1) (LA.leadS (LA.redS x0.2 x1)).toNat (i + 1)) from by first | with_reducible rfl | (first | exact LA.ins_b1 (by omega) (by assumption) | exact LA.ins_b0 (by omega) (by omega)) | rfl) (show ((LA.insW x0.2 x1) : List Int) = (LA.insW x0.2 x1) from by first | with_reducible rfl | (rfl) | rfl) (show (((i : Nat) : Int) + 1 : Int) = ((LA.atTo (LA.insE x0.2 x1) (LA.leadS (LA.redS x0.2 x1)) (i + 1) : Nat) : Int) from by first | with_reducible rfl | (first | (rw [LA.atTo_y (LA.at_b1 (by omega) (by assumption)) (by assumption)]; omega) | (rw [LA.atTo_y (LA.at_b0 (by omega) (by omega)) (by assumption)]; omega) | (rw [LA.atTo_n (LA.at_b1 (by omega) (by assumption)) (by assumption)]; done) | (rw [LA.atTo_n (LA.at_b0 (by omega) (by omega)) (by assumption)]; done)) | rfl) (show (((i : Nat) : Int) + 1 : Int) = (((i + 1) : Nat) : Int) from by first | with_reducible rfl | (omega) | rfl)), (by omega), (by omega)⟩
        · replace h5 : ¬ ((LA.leadS ((LA.elTo x0.2 (LA.insW x0.2 x1) (LA.leadS (LA.redS x0.2 x1)).toNat i).getD i [])) < (LA.leadS (LA.redS x0.2 x1))) := of_decide_eq_false h5
          refine wp_skip ?_
          refine in_normal ?_
          refine then_normal ?_
          refine at_regq (T := S__P_impl_Basis_insert_tab) [{ nw := true }] { ts := [0, 4, 5, 6, 7, 30, 31, 32], os := [1, 2, 3, 5, 6] } [I64 (((i : Nat) : Int) + 1)] gamOK hT h (by kernel_rfl) ⟨⟨by first | omega | (simp only [List.length_append, List.length_cons, List.length_nil, List.length_set, List.length_take, List.length_drop, List.length_replicate, List.length_map, Nat.min_def]; omega) | (simp; done) | (simp; omega) | done, by first | omega | (simp only [List.length_append, List.length_cons, List.length_nil, List.length_set, List.length_take, List.length_drop, List.length_replicate, List.length_map, Nat.min_def]; omega) | (simp; done) | (simp; omega) | done⟩, trivial⟩ ?_
          intro a w h
          replace h := at_shut (σ' := ⟨[(0, aP 1 0), (4, aB false), (5, aS 5), (6, aI (LA.leadS (LA.redS x0.2 x1))), (7, aI ((LA.atTo (LA.insE x0.2 x1) (LA.leadS (LA.redS x0.2 x1)) i : Nat) : Int)), (30, aS 2), (31, aI ((List.length x0.2 : Nat) : Int)), (32, aI (((i : Nat) : Int) + 1))], [(1, oX 105 [cI x0.1, .sl 2]), (2, oR s22 (List.set (LA.elTo x0.2 (LA.insW x0.2 x1) (LA.leadS (LA.redS x0.2 x1)).toNat i) i ((LA.elTo x0.2 (LA.insW x0.2 x1) (LA.leadS (LA.redS x0.2 x1)).toNat i).getD i []))), (3, oP 1 (S__P_impl_Basis_insert.hd us 0)), (5, oR (.int 3) (LA.insW x0.2 x1))]⟩) (ps := []) 2 { ts := [0, 4, 5, 6, 7, 30, 31, 32], os := [1, 2, 3, 5] } h (by kernel_rfl) trivial
          replace h := at_out (σ' := ⟨[(0, aP 1 0), (4, aB false), (5, aS 5), (6, aI (LA.leadS (LA.redS x0.2 x1))), (7, aI ((LA.atTo (LA.insE x0.2 x1) (LA.leadS (LA.redS x0.2 x1)) i : Nat) : Int)), (30, aS 2), (31, aI ((List.length x0.2 : Nat) : Int)), (32, aI (((i : Nat) : Int) + 1))], [(1, oX 105 [cI x0.1, .sl 2]), (2, oR s22 (List.set (LA.elTo x0.2 (LA.insW x0.2 x1) (LA.leadS (LA.redS x0.2 x1)).toNat i) i ((LA.elTo x0.2 (LA.insW x0.2 x1) (LA.leadS (LA.redS x0.2 x1)).toNat i).getD i []))), (3, oP 1 (S__P_impl_Basis_insert.hd us 0)), (5, oR (.int 3) (LA.insW x0.2 x1))]⟩) { ts := [0, 4, 5, 6, 7, 30, 31, 32], os := [1, 2, 3, 5] } h (by kernel_rfl)
          exact ⟨i + 1, at_eq h (st_congr4 (fun (d0 : List (List Int)) (d1 : List Int) (d2 : Int) (d3 : Int) => (⟨[(0, aP 1 0), (4, aB false), (5, aS 5), (6, aI (LA.leadS (LA.redS x0.2 x1))), (7, aI d2), (30, aS 2), (31, aI ((List.length x0.2 : Nat) : Int)), (32, aI d3)], [(1, oX 105 [cI x0.1, .sl 2]), (2, oR s22 d0), (3, oP 1 (S__P_impl_Basis_insert.hd us 0)), (5, oR (.int 3) d1)]⟩ : St)) (show ((List.set (LA.elTo x0.2 (LA.insW x0.2 x1) (LA.leadS (LA.redS x0.2 x1)).toNat i) i ((LA.elTo x0.2 (LA.insW x0.2 x1) (LA.leadS (LA.redS x0.2 x1)).toNat i).getD i [])) : List (List Int)) = (LA.elTo x0.2 (LA.insW x0.2 x1) (LA.leadS (LA.redS x0.2 x1)).toNat (i + 1)) from by first | with_reducible rfl | (first | exact LA.ins_b1 (by omega) (by assumption) | exact LA.ins_b0 (by omega) (by omega)) | rfl) (show ((LA.insW x0.2 x1) : List Int) = (LA.insW x0.2 x1) from by first | with_reducible rfl | (rfl) | rfl) (show (((LA.atTo (LA.insE x0.2 x1) (LA.leadS (LA.redS x0.2 x1)) i : Nat) : Int) : Int) = ((LA.atTo (LA.insE x0.2 x1) (LA.leadS (LA.redS x0.2 x1)) (i + 1) : Nat) : Int) from by first | with_reducible rfl | (first | (rw [LA.atTo_y (LA.at_b1 (by omega) (by assumption)) (by assumption)]; omega) | (rw [LA.atTo_y (LA.at_b0 (by omega) (by omega)) (by assumption)]; omega) | (rw [LA.atTo_n (LA.at_b1 (by omega) (by assumption)) (by assumption)]; done) | (rw [LA.atTo_n (LA.at_b0 (by omega) (by omega)) (by assumption)]; done)) | rfl) (show (((i : Nat) : Int) + 1 : Int) = (((i + 1) : Nat) : Int) from by first | with_reducible rfl | (omega) | rfl)), (by omega), (by omega)⟩
    · replace h2 : ¬ (((i : Nat) : Int) < ((List.length x0.2 : Nat) : Int)) := of_decide_eq_false h2
      refine wp_exit ?_
      refine then_exit ?_
      replace h := at_out (σ' := ⟨[(0, aP 1 0), (4, aB false), (5, aS 5), (7, aI ((LA.atTo (LA.insE x0.2 x1) (LA.leadS (LA.redS x0.2 x1)) i : Nat) : Int))], [(1, oX 105 [cI x0.1, .sl 2]), (2, oR s22 (LA.elTo x0.2 (LA.insW x0.2 x1) (LA.leadS (LA.redS x0.2 x1)).toNat i)), (3, oP 1 (S__P_impl_Basis_insert.hd us 0)), (5, oR (.int 3) (LA.insW x0.2 x1))]⟩) { ts := [0, 4, 5, 7], os := [1, 2, 3, 5] } h (by kernel_rfl)
      replace h := at_eq (σ' := ⟨[(0, aP 1 0), (4, aB false), (5, aS 5), (7, aI ((LA.atTo (LA.insE x0.2 x1) (LA.leadS (LA.redS x0.2 x1)) (List.length x0.2) : Nat) : Int))], [(1, oX 105 [cI x0.1, .sl 2]), (2, oR s22 (LA.insE x0.2 x1)), (3, oP 1 (S__P_impl_Basis_insert.hd us 0)), (5, oR (.int 3) (LA.insW x0.2 x1))]⟩) h (st_congr2 (fun (d0 : List (List Int)) (d1 : Int) => (⟨[(0, aP 1 0), (4, aB false), (5, aS 5), (7, aI d1)], [(1, oX 105 [cI x0.1, .sl 2]), (2, oR s22 d0), (3, oP 1 (S__P_impl_Basis_insert.hd us 0)), (5, oR (.int 3) (LA.insW x0.2 x1))]⟩ : St)) (show ((LA.elTo x0.2 (LA.insW x0.2 x1) (LA.leadS (LA.redS x0.2 x1)).toNat i) : List (List Int)) = (LA.insE x0.2 x1) from by first | with_reducible rfl | (exact LA.elTo_all (by omega)) | rfl) (show (((LA.atTo (LA.insE x0.2 x1) (LA.leadS (LA.redS x0.2 x1)) i : Nat) : Int) : Int) = ((LA.atTo (LA.insE x0.2 x1) (LA.leadS (LA.redS x0.2 x1)) (List.length x0.2) : Nat) : Int) from by first | with_reducible rfl | (rw [show i = List.length x0.2 by omega]) | rfl))
      have hal := LA.atTo_le (LA.insE x0.2 x1) (LA.leadS (LA.redS x0.2 x1)) (List.length x0.2)
      refine then_exit ?_
      refine in_hit ?_
      refine then_normal ?_
      refine wp_seq ?_
      refine at_regq (T := S__P_impl_Basis_insert_tab) [{}, {}, {}, {}, {}, {}, {}, { ids := [7] }, { ids := [8] }] { ts := [4], os := [1, 3, 8] } [(fun (x0 : List (List Int)) (x1 : Int) (x2 : List (List Int)) => (0 ≤ x1 ∧ x1 ≤ ((List.length x0 : Nat) : Int)) ∧ 0 < List.length x2 ∧ (List.length x0 + List.length x2) * 24 ≤ 140737488355328) (LA.insE x0.2 x1) ((LA.atTo (LA.insE x0.2 x1) (LA.leadS (LA.redS x0.2 x1)) (List.length x0.2) : Nat) : Int) ([(LA.insW x0.2 x1)])] gamOK hT h (by kernel_rfl) ⟨(by exact ⟨⟨by omega, by first | omega | (rw [show List.length (LA.insE x0.2 x1) = List.length x0.2 from by simp [LA.insE]]; omega)⟩, by simp, by simp [LA.insE]; omega⟩), trivial⟩ ?_
      intro a w h
      refine then_normal ?_
      refine wp_seq ?_
      refine at_regq (T := S__P_impl_Basis_insert_tab) [] { ts := [4], os := [1, 3, 8] } [] gamOK hT h (by kernel_rfl) trivial ?_
      intro a w h
      refine then_normal ?_
      refine wp_ret ?_
      exact at_returnI (S := S__P_impl_Basis_insert) (x := (x0, x1, ())) [1, 2] [3] ((x0.1, (D_slices_Insert_S_S_int_S_int_ (LA.insE x0.2 x1) ((LA.atTo (LA.insE x0.2 x1) (LA.leadS (LA.redS x0.2 x1)) (List.length x0.2) : Nat) : Int) ([(LA.insW x0.2 x1)]))), (x1, ())) (some (true, ())) [S__P_impl_Basis_insert.hd us 0 = S__P_impl_Basis_insert.hd us 0] hio h (by kernel_rfl) ⟨rfl, trivial⟩ (by first | rfl | exact congrArg (fun (z : T105) => (z, (x1, ()))) (show ((x0.1, (D_slices_Insert_S_S_int_S_int_ (LA.insE x0.2 x1) ((LA.atTo (LA.insE x0.2 x1) (LA.leadS (LA.redS x0.2 x1)) (List.length x0.2) : Nat) : Int) ([(LA.insW x0.2 x1)]))) : T105) = insU x0 x1 from by (unfold insU; first | (rw [LA.insS_no (by assumption)]; done) | (rw [LA.insS_yes (by assumption)]; rfl)))) (fun z e => (Option.some.inj e) ▸ (congrArg (fun z => (z, ())) (show (true) = insD x0 x1 from by (unfold insD; first | (rw [LA.insS_no (by assumption)]; done) | (rw [LA.insS_yes (by assumption)]; done)))))

theorem tmod_el {x : Int} (h : 0 ≤ x ∧ x ≤ 1018) : x.tmod 1019 = x := by
  rw [Int.tmod_eq_emod_of_nonneg h.1]; exact Int.emod_eq_of_lt h.1 (by omega)
theorem addS_k0 {n : Nat} {a b : List Int} (ha : LA.VokB n a) (hb : LA.VokB n b) : LA.addS a b 0 = a := by
  apply List.ext_getElem
  · exact LA.addS_len (by rw [ha.1, hb.1])
  · intro j h1 h2
    have e := LA.addS_at (k := 0) (show a.length = b.length by rw [ha.1, hb.1]) j
    rw [getD_of_lt h1, getD_of_lt h2] at e
    rw [e, Int.zero_mul, Int.add_zero]
    have := ha.rng j
    rw [getD_of_lt h2] at this
    exact tmod_el this
/-- insertions, one by one -/
def insR (rows : List (List Int)) (v : List Int) : List (List Int) := (LA.insS rows v).1
theorem insR_red {n : Nat} {rows : List (List Int)} (h : LA.RedL n rows) {vs : List (List Int)} (hv : ∀ v ∈ vs, LA.VokB n v) : ∀ i, i ≤ vs.length → LA.RedL n (foldTo insR rows vs i)
  | 0, _ => h
  | i + 1, hi => by rw [foldTo_succ [] (by omega)]; exact (LA.insS_ok (insR_red h hv i (by omega)) (hv _ (LA.getD_in (by omega)))).1
theorem redV_step {n : Nat} {out r : List Int} (ho : LA.VokB n out) (hr : LA.VokB n r) (hn : n ≤ 40) : addV out r (subF 0 (out.getD (LA.leadS r).toNat 0)) = LA.redStep out r := by
  have hx := ho.rng (LA.leadS r).toNat
  unfold LA.redStep
  generalize out.getD (LA.leadS r).toNat 0 = x at hx ⊢
  have hs : subF 0 x = if x = 0 then 0 else 1019 - x := by
    unfold subF D_spec_l4Both
    rw [if_pos (show isEl 0 = true from rfl), if_pos (show isEl x = true from inR_true hx)]
    have := tmod_f (0 - x + 1019) 1019 (by decide)
    split <;> omega
  rw [hs]
  by_cases h0 : x = 0
  · rw [if_pos h0, if_neg (by simp [h0]), addV_L ho hr hn (by omega), addS_k0 ho hr]
  · rw [if_neg h0, if_pos h0, addV_L ho hr hn (by omega)]
def D_spec_ReduceVector := (fun (b : T105) (v : List Int) => if takesB b v = true then LA.redS b.2 v else [])
def S_spec_ReduceVector : Sum := { fid := 210, dom := [s105, s22], cod := [s22], dp := true, fz := false, pre := fun x => (fun (x0 : T105) (x1 : (List Int)) => Sh.fit s105 x0 ∧ Sh.fit s22 x1) x.1 x.2.1, g := fun x => ((D_spec_ReduceVector x.1 x.2.1), ()) }
def S_spec_ReduceVector_tab : List (Nat × Sum) := [(144, S_spec_l8Fits), (209, S_spec_LeadingIndex), (249, S_spec_SubField), (213, S_spec_AddScaled)]
theorem S_spec_ReduceVector_ok : FnOK Try.prog 210 S_spec_ReduceVector := by
  refine at_enter 40 (fun x => ⟨[(0, aG [cI x.1.1, .ro s22 x.1.2]), (1, aF (.int 3) x.2.1)], []⟩) Try.func210 rfl (by kernel_rfl) (fun x => rfl) ?_
  rintro w0 Z0 ⟨x0, x1, u⟩ a w
  revert x0 x1
  intro (x0 : T105) (x1 : (List Int)) hpre hlens h
  replace h : At w0 Z0 [] 40 ⟨[(0, aG [cI x0.1, .ro s22 x0.2]), (1, aF (.int 3) x1)], []⟩ a w := h
  replace hpre : (fun (x0 : T105) (x1 : (List Int)) => Sh.fit s105 x0 ∧ Sh.fit s22 x1) x0 x1 := hpre
  have hl1 : List.length x0.2 ≤ 9223372036854775807 := hlens.1.2.1
  have hl2 : List.length x1 ≤ 9223372036854775807 := hlens.2.1.1
  have hT : TabOK Try.prog S_spec_ReduceVector_tab := (.cons S_spec_l8Fits_ok (.cons S_spec_LeadingIndex_ok (.cons S_spec_SubField_ok (.cons S_spec_AddScaled_ok .nil))))
  obtain ⟨hf0, hf1⟩ := hpre
  have hn0_1 : List.length x0.2 ≤ 1073741824 := hf0.2.1
  have hn1_2 : List.length x1 ≤ 1073741824 := hf1.1
  refine wp_seq ?_
  refine at_regq (T := S_spec_ReduceVector_tab) [{ ids := [1] }] { ts := [1, 2, 4], os := [1] } [] gamOK hT h (by kernel_rfl) trivial ?_
  intro a w h
  refine then_normal ?_
  refine wp_seq ?_
  refine wp_seq ?_
  refine at_regq (T := S_spec_ReduceVector_tab) [] { ts := [1, 2, 4, 10], os := [1] } [(fun (x0 : T105) (x1 : (List Int)) => Sh.fit s105 x0 ∧ Sh.fit s22 x1) x0 x1] gamOK hT h (by kernel_rfl) ⟨(by exact ⟨hf0, hf1⟩), trivial⟩ ?_
  intro a w h
  refine then_normal ?_
  refine at_test (!(takesB x0 x1)) h (by kernel_rfl) (fun h1 => ?_) (fun h1 => ?_)
  · replace h1 : (takesB x0 x1) = false := notT h1
    refine wp_seq ?_
    refine at_regq (T := S_spec_ReduceVector_tab) [{ ids := [2] }] { ts := [1, 2, 4], os := [1, 2] } [] gamOK hT h (by kernel_rfl) trivial ?_
    intro a w h
    refine then_normal ?_
    refine wp_ret ?_
    refine then_ret ?_
    exact at_return (S := S_spec_ReduceVector) (x := (x0, x1, ())) (([] : List Int), ()) [] h (by kernel_rfl) trivial (congrArg (fun z => (z, ())) (show (([] : List Int)) = D_spec_ReduceVector x0 x1 from by unfold D_spec_ReduceVector; (first | (rw [if_neg (by simp_all)]; done) | (rw [if_pos (by assumption), foldTo_all (by omega)]; rfl))))
  · replace h1 : (takesB x0 x1) = true := notF h1
    have hvh1 := takesB_t h1
    refine wp_skip ?_
    refine then_normal ?_
    refine wp_seq ?_
    refine at_regq (T := S_spec_ReduceVector_tab) [{ ids := [3] }, {}, { ids := [4] }] { ts := [2, 4, 5], os := [1, 4] } [(List.length ([] : List Int) + List.length x1) * 8 ≤ 140737488355328] gamOK hT h (by kernel_rfl) ⟨(by first | omega | (simp only [List.length_append, List.length_cons, List.length_nil, List.length_set, List.length_take, List.length_drop, List.length_replicate, List.length_map, Nat.min_def]; omega) | (simp; done) | (simp; omega) | done), trivial⟩ ?_
    intro a w h
    refine then_normal ?_
    refine wp_seq ?_
    refine wp_seq ?_
    refine at_reg (T := S_spec_ReduceVector_tab) [] { ts := [2, 4, 5, 6], os := [1, 4] } ⟨[(2, aP 1 0), (4, .p (.c (cN))), (5, aS 4), (6, aI 0)], [(1, oX 105 [cI x0.1, .ro s22 x0.2]), (4, oR (.int 3) (([] : List Int) ++ x1))]⟩ [] gamOK hT h (by kernel_rfl) trivial ?_
    intro a w h
    refine then_normal ?_
    refine wp_block ?_
    replace h := at_out (σ' := ⟨[(2, aP 1 0), (4, .p (.c (cN))), (5, aS 4), (6, aI 0)], [(1, oX 105 [cI x0.1, .ro s22 x0.2]), (4, oR (.int 3) (([] : List Int) ++ x1))]⟩) { ts := [2, 4, 5, 6], os := [1, 4] } h (by kernel_rfl)
    refine at_loop (fun i : Nat => (⟨[(2, aP 1 0), (4, .p (.c (cN))), (5, aS 4), (6, aI ((i : Nat) : Int))], [(1, oX 105 [cI x0.1, .ro s22 x0.2]), (4, oR (.int 3) (foldTo LA.redStep x1 x0.2 i))]⟩ : St)) (fun i => i ≤ List.length x0.2) (fun i => List.length x0.2 - i) (0) h (st_congr2 (fun (d0 : List Int) (d1 : Int) => (⟨[(2, aP 1 0), (4, .p (.c (cN))), (5, aS 4), (6, aI d1)], [(1, oX 105 [cI x0.1, .ro s22 x0.2]), (4, oR (.int 3) d0)]⟩ : St)) (show ((([] : List Int) ++ x1) : List Int) = (foldTo LA.redStep x1 x0.2 (0)) from by first | with_reducible rfl | (rfl) | rfl) (show (0 : Int) = (((0) : Nat) : Int) from by first | with_reducible rfl | (rfl) | rfl)) (by omega) ?_
    intro i a w hok0 h
    refine wp_seq ?_
    refine wp_seq ?_
    refine at_regq (T := S_spec_ReduceVector_tab) [] { ts := [2, 4, 5, 6, 19], os := [1, 4] } [] gamOK hT h (by kernel_rfl) trivial ?_
    intro a w h
    refine then_normal ?_
    refine at_test (decide (((i : Nat) : Int) < ((List.length x0.2 : Nat) : Int))) h (by kernel_rfl) (fun h2 => ?_) (fun h2 => ?_)
    · replace h2 : ((i : Nat) : Int) < ((List.length x0.2 : Nat) : Int) := of_decide_eq_true h2
      have hbP := takesB_t (b := x0) (v := x1) (by assumption)
      have hro : LA.VokB x0.1.toNat (foldTo LA.redStep x1 x0.2 i) := LA.redS_to hbP.1.2.ok hbP.2 i (by omega)
      have hrol := hro.1
      have hrr := hbP.1.2.at_ (show i < List.length x0.2 by omega)
      have hror := hro.rng (LA.leadS (x0.2.getD i [])).toNat
      have hb01 := hbP.1.1
      refine wp_skip ?_
      refine then_normal ?_
      refine wp_seq ?_
      refine wp_block ?_
      refine at_anyq (T := S_spec_ReduceVector_tab) [{}, {}, {}, {}, {}, {}, {}, {}, {}, {}, {}, {}, {}, {}, {}, {}, { ids := [5] }, {}] { ts := [2, 4, 5, 6], os := [1, 5] } [(0 : Int) ≤ ((i : Nat) : Int) ∧ ((i : Nat) : Int) < ((List.length x0.2 : Nat) : Int), (0 : Int) ≤ ((i : Nat) : Int) ∧ ((i : Nat) : Int) < ((List.length x0.2 : Nat) : Int), (fun (x0 : (List Int)) => Sh.fit s22 x0) (x0.2.getD i []), (0 : Int) ≤ (LA.leadS (x0.2.getD i [])) ∧ (LA.leadS (x0.2.getD i [])) < ((List.length (foldTo LA.redStep x1 x0.2 i) : Nat) : Int), ((LA.leadS (x0.2.getD i []))).toNat < List.length (foldTo LA.redStep x1 x0.2 i), True, (fun (x0 : (List Int)) (x1 : (List Int)) (x2 : Int) => Sh.fit s22 x0 ∧ Sh.fit s22 x1) (foldTo LA.redStep x1 x0.2 i) (x0.2.getD i []) (subF 0 ((foldTo LA.redStep x1 x0.2 i).getD (((LA.leadS (x0.2.getD i []))).toNat) 0))] gamOK hT mixed h (by kernel_rfl) ⟨(by refine ⟨?_, ?_⟩ <;> (first | omega | (simp only [List.length_append, List.length_cons, List.length_nil, List.length_set, List.length_take, List.length_drop, List.length_replicate, List.length_map, Nat.min_def]; omega) | (simp; done) | (simp; omega) | done)), (by refine ⟨?_, ?_⟩ <;> (first | omega | (simp only [List.length_append, List.length_cons, List.length_nil, List.length_set, List.length_take, List.length_drop, List.length_replicate, List.length_map, Nat.min_def]; omega) | (simp; done) | (simp; omega) | done)), (by exact fitV hrr.1 (by omega)), (by refine ⟨?_, ?_⟩ <;> (first | omega | (simp only [List.length_append, List.length_cons, List.length_nil, List.length_set, List.length_take, List.length_drop, List.length_replicate, List.length_map, Nat.min_def]; omega) | (simp; done) | (simp; omega) | done)), (by first | omega | (simp only [List.length_append, List.length_cons, List.length_nil, List.length_set, List.length_take, List.length_drop, List.length_replicate, List.length_map, Nat.min_def]; omega) | (simp; done) | (simp; omega) | done), trivial, (by exact ⟨fitV hro (by omega), fitV hrr.1 (by omega)⟩), trivial⟩ ?_
      intro a w h
      refine in_normal ?_
      refine then_normal ?_
      refine at_regq (T := S_spec_ReduceVector_tab) [{}, { nw := true }] { ts := [2, 4, 5, 6], os := [1, 5] } [I64 (((i : Nat) : Int) + 1)] gamOK hT h (by kernel_rfl) ⟨⟨by first | omega | (simp only [List.length_append, List.length_cons, List.length_nil, List.length_set, List.length_take, List.length_drop, List.length_replicate, List.length_map, Nat.min_def]; omega) | (simp; done) | (simp; omega) | done, by first | omega | (simp only [List.length_append, List.length_cons, List.length_nil, List.length_set, List.length_take, List.length_drop, List.length_replicate, List.length_map, Nat.min_def]; omega) | (simp; done) | (simp; omega) | done⟩, trivial⟩ ?_
      intro a w h
      replace h := at_out (σ' := ⟨[(2, aP 1 0), (4, .p (.c (cN))), (5, aS 4), (6, aI (((i : Nat) : Int) + 1))], [(1, oX 105 [cI x0.1, .ro s22 x0.2]), (4, oR (.int 3) (addV (foldTo LA.redStep x1 x0.2 i) (x0.2.getD i []) (subF 0 ((foldTo LA.redStep x1 x0.2 i).getD (((LA.leadS (x0.2.getD i []))).toNat) 0))))]⟩) { ts := [2, 4, 5, 6], os := [1, 5], rn := [(5, 4)] } h (by kernel_rfl)
      exact ⟨i + 1, at_eq h (st_congr2 (fun (d0 : List Int) (d1 : Int) => (⟨[(2, aP 1 0), (4, .p (.c (cN))), (5, aS 4), (6, aI d1)], [(1, oX 105 [cI x0.1, .ro s22 x0.2]), (4, oR (.int 3) d0)]⟩ : St)) (show ((addV (foldTo LA.redStep x1 x0.2 i) (x0.2.getD i []) (subF 0 ((foldTo LA.redStep x1 x0.2 i).getD (((LA.leadS (x0.2.getD i []))).toNat) 0))) : List Int) = (foldTo LA.redStep x1 x0.2 (i + 1)) from by first | with_reducible rfl | ((rw [foldTo_succ [] (by omega)]; exact redV_step hro hrr.1 (by omega))) | rfl) (show (((i : Nat) : Int) + 1 : Int) = (((i + 1) : Nat) : Int) from by first | with_reducible rfl | (omega) | rfl)), (by omega), (by omega)⟩
    · replace h2 : ¬ (((i : Nat) : Int) < ((List.length x0.2 : Nat) : Int)) := of_decide_eq_false h2
      refine wp_exit ?_
      refine then_exit ?_
      refine then_exit ?_
      refine in_hit ?_
      refine then_normal ?_
      refine wp_seq ?_
      refine at_regq (T := S_spec_ReduceVector_tab) [] { ts := [4], os := [4] } [] gamOK hT h (by kernel_rfl) trivial ?_
      intro a w h
      refine then_normal ?_
      refine wp_ret ?_
      exact at_return (S := S_spec_ReduceVector) (x := (x0, x1, ())) ((foldTo LA.redStep x1 x0.2 i), ()) [] h (by kernel_rfl) trivial (congrArg (fun z => (z, ())) (show ((foldTo LA.redStep x1 x0.2 i)) = D_spec_ReduceVector x0 x1 from by unfold D_spec_ReduceVector; (first | (rw [if_neg (by simp_all)]; done) | (rw [if_pos (by assumption), foldTo_all (by omega)]; rfl))))

def D_spec_ContainsVector := (fun (b : T105) (v : List Int) => takesB b v && decide (LA.leadS (LA.redS b.2 v) < 0))
def S_spec_ContainsVector : Sum := { fid := 145, dom := [s105, s22], cod := [(.bool 4)], dp := true, fz := false, pre := fun x => (fun (x0 : T105) (x1 : (List Int)) => Sh.fit s105 x0 ∧ Sh.fit s22 x1) x.1 x.2.1, g := fun x => ((D_spec_ContainsVector x.1 x.2.1), ()) }
def S_spec_ContainsVector_tab : List (Nat × Sum) := [(144, S_spec_l8Fits), (210, S_spec_ReduceVector), (209, S_spec_LeadingIndex)]
theorem S_spec_ContainsVector_ok : FnOK Try.prog 145 S_spec_ContainsVector := by
  refine at_enter 15 (fun x => ⟨[(0, aG [cI x.1.1, .ro s22 x.1.2]), (1, aF (.int 3) x.2.1)], []⟩) Try.func145 rfl (by kernel_rfl) (fun x => rfl) ?_
  rintro w0 Z0 ⟨x0, x1, u⟩ a w
  revert x0 x1
  intro (x0 : T105) (x1 : (List Int)) hpre hlens h
  replace h : At w0 Z0 [] 15 ⟨[(0, aG [cI x0.1, .ro s22 x0.2]), (1, aF (.int 3) x1)], []⟩ a w := h
  replace hpre : (fun (x0 : T105) (x1 : (List Int)) => Sh.fit s105 x0 ∧ Sh.fit s22 x1) x0 x1 := hpre
  have hl1 : List.length x0.2 ≤ 9223372036854775807 := hlens.1.2.1
  have hl2 : List.length x1 ≤ 9223372036854775807 := hlens.2.1.1
  have hT : TabOK Try.prog S_spec_ContainsVector_tab := (.cons S_spec_l8Fits_ok (.cons S_spec_ReduceVector_ok (.cons S_spec_LeadingIndex_ok .nil)))
  obtain ⟨hf0, hf1⟩ := hpre
  have hn0_1 : List.length x0.2 ≤ 1073741824 := hf0.2.1
  have hn1_2 : List.length x1 ≤ 1073741824 := hf1.1
  refine wp_seq ?_
  refine at_regq (T := S_spec_ContainsVector_tab) [{ ids := [1] }] { ts := [1, 2, 4], os := [1] } [] gamOK hT h (by kernel_rfl) trivial ?_
  intro a w h
  refine then_normal ?_
  refine wp_seq ?_
  rcases Bool.eq_false_or_eq_true ((takesB x0 x1)) with h1 | h1
  · skip
    have hvh1 := takesB_t h1
    refine at_regq (T := S_spec_ContainsVector_tab) [{}, {}, { hint := some (aB true) }, {}, {}, {}, { ids := [2] }] { ts := [4], os := [] } [(fun (x0 : T105) (x1 : (List Int)) => Sh.fit s105 x0 ∧ Sh.fit s22 x1) x0 x1, (AV.p (.c (.v (.bool ((takesB x0 x1))))) = AV.p (.c (.v (.bool true)))), (fun (x0 : T105) (x1 : (List Int)) => Sh.fit s105 x0 ∧ Sh.fit s22 x1) x0 x1, (fun (x0 : (List Int)) => Sh.fit s22 x0) (D_spec_ReduceVector x0 x1)] gamOK hT h (by kernel_rfl) ⟨(by exact ⟨hf0, hf1⟩), hint_bool (h1), (by exact ⟨hf0, hf1⟩), (by (unfold D_spec_ReduceVector; rw [if_pos (by assumption)]; exact fitV (LA.redS_rng (takesB_t (by assumption)).1.2 (takesB_t (by assumption)).2) (by have := (takesB_t (b := x0) (v := x1) (by assumption)).1.1; omega))), trivial⟩ ?_
    intro a w h
    refine then_normal ?_
    refine wp_ret ?_
    exact at_return (S := S_spec_ContainsVector) (x := (x0, x1, ())) (decide ((LA.leadS (D_spec_ReduceVector x0 x1)) < 0), ()) [] h (by kernel_rfl) trivial (congrArg (fun z => (z, ())) (show (decide ((LA.leadS (D_spec_ReduceVector x0 x1)) < 0)) = D_spec_ContainsVector x0 x1 from by unfold D_spec_ContainsVector; (first | (rw [show takesB x0 x1 = true from by assumption]; unfold D_spec_ReduceVector; rw [if_pos (by assumption)]; rfl) | (rw [show takesB x0 x1 = false from by first | assumption | (simp_all; done)]; rfl))))
  · skip
    refine at_regq (T := S_spec_ContainsVector_tab) [{}, {}, { hint := some (aB false) }] { ts := [4], os := [] } [(fun (x0 : T105) (x1 : (List Int)) => Sh.fit s105 x0 ∧ Sh.fit s22 x1) x0 x1, (AV.p (.c (.v (.bool ((takesB x0 x1))))) = AV.p (.c (.v (.bool false))))] gamOK hT h (by kernel_rfl) ⟨(by exact ⟨hf0, hf1⟩), hint_bool (h1), trivial⟩ ?_
    intro a w h
    refine then_normal ?_
    refine wp_ret ?_
    exact at_return (S := S_spec_ContainsVector) (x := (x0, x1, ())) (false, ()) [] h (by kernel_rfl) trivial (congrArg (fun z => (z, ())) (show (false) = D_spec_ContainsVector x0 x1 from by unfold D_spec_ContainsVector; (first | (rw [show takesB x0 x1 = true from by assumption]; unfold D_spec_ReduceVector; rw [if_pos (by assumption)]; rfl) | (rw [show takesB x0 x1 = false from by first | assumption | (simp_all; done)]; rfl))))
def insV (b : T105) (v : List Int) : T105 × Bool := if takesB b v = true then (insU b v, insD b v) else (b, false)
theorem insV_no {b : T105} {v : List Int} (ht : takesB b v = true) (hc : D_spec_ContainsVector b v = true) : (b, false) = insV b v := by
  unfold D_spec_ContainsVector at hc
  rw [ht, Bool.true_and] at hc
  have hl := of_decide_eq_true hc
  unfold insV insU insD
  rw [if_pos ht, LA.insS_no hl]
theorem insV_yes {b : T105} {v : List Int} (ht : takesB b v = true) (hc : D_spec_ContainsVector b v = false) : ((b.1, D_spec_l7Reduce (b.2 ++ [v]) b.1), true) = insV b v := by
  unfold D_spec_ContainsVector at hc
  rw [ht, Bool.true_and] at hc
  have hl := of_decide_eq_false hc
  have hr := takesB_t ht
  unfold insV insU insD D_spec_l7Reduce
  rw [if_pos ht, LA.insS_gj hr.1.2 hr.2, LA.insS_yes hl]

def sameW (x0 : T105) (x1 : T105) : Bool := (if (validB x0) = true then (if (validB x1) = true then decide (x0.1 = x1.1) else false) else false)
def S_impl_sameWidth : Sum := { fid := 143, dom := [s105, s105], cod := [(.bool 4)], dp := true, fz := false, pre := fun x => (fun (x0 : T105) (x1 : T105) => Sh.fit s105 x0 ∧ Sh.fit s105 x1) x.1 x.2.1, g := fun x => ((sameW x.1 x.2.1), ()) }
def S_impl_sameWidth_tab : List (Nat × Sum) := [(207, S_impl_IsValidBasis)]
theorem S_impl_sameWidth_ok : FnOK Try.prog 143 S_impl_sameWidth := by
  refine at_enter 18 (fun x => ⟨[(0, aG [cI x.1.1, .ro s22 x.1.2]), (1, aG [cI x.2.1.1, .ro s22 x.2.1.2])], []⟩) Try.func143 rfl (by kernel_rfl) (fun x => rfl) ?_
  rintro w0 Z0 ⟨x0, x1, u⟩ a w
  revert x0 x1
  intro (x0 : T105) (x1 : T105) hpre hlens h
  replace h : At w0 Z0 [] 18 ⟨[(0, aG [cI x0.1, .ro s22 x0.2]), (1, aG [cI x1.1, .ro s22 x1.2])], []⟩ a w := h
  replace hpre : (fun (x0 : T105) (x1 : T105) => Sh.fit s105 x0 ∧ Sh.fit s105 x1) x0 x1 := hpre
  have hl1 : List.length x0.2 ≤ 9223372036854775807 := hlens.1.2.1
  have hl2 : List.length x1.2 ≤ 9223372036854775807 := hlens.2.1.2.1
  have hT : TabOK Try.prog S_impl_sameWidth_tab := (.cons S_impl_IsValidBasis_ok .nil)
  obtain ⟨hf0, hf1⟩ := hpre
  have hn0_1 : List.length x0.2 ≤ 1073741824 := hf0.2.1
  have hn1_2 : List.length x1.2 ≤ 1073741824 := hf1.2.1
  refine wp_seq ?_
  refine at_regq (T := S_impl_sameWidth_tab) [{ ids := [1] }, { ids := [2] }] { ts := [2, 3, 4], os := [1, 2] } [] gamOK hT h (by kernel_rfl) trivial ?_
  intro a w h
  refine then_normal ?_
  refine wp_seq ?_
  rcases Bool.eq_false_or_eq_true ((validB x0)) with h1 | h1
  · skip
    have hvh1 := validB_t h1
    rcases Bool.eq_false_or_eq_true ((validB x1)) with h2 | h2
    · skip
      have hvh2 := validB_t h2
      refine at_regq (T := S_impl_sameWidth_tab) [{}, { hint := some (aB true) }, {}, {}, { hint := some (aB true) }] { ts := [4], os := [] } [(fun (x0 : T105) => Sh.fit s105 x0) x0, (AV.p (.c (.v (.bool ((validB x0))))) = AV.p (.c (.v (.bool true)))), (fun (x0 : T105) => Sh.fit s105 x0) x1, (AV.p (.c (.v (.bool ((validB x1))))) = AV.p (.c (.v (.bool true))))] gamOK hT h (by kernel_rfl) ⟨(by exact hf0), hint_bool (h1), (by exact hf1), hint_bool (h2), trivial⟩ ?_
      intro a w h
      refine then_normal ?_
      refine wp_ret ?_
      exact at_return (S := S_impl_sameWidth) (x := (x0, x1, ())) (decide (x0.1 = x1.1), ()) [] h (by kernel_rfl) trivial (congrArg (fun z => (z, ())) (show (decide (x0.1 = x1.1)) = sameW x0 x1 from by first | rfl | (unfold sameW; rw [if_pos h1, if_pos h2])))
    · skip
      refine at_regq (T := S_impl_sameWidth_tab) [{}, { hint := some (aB true) }, {}, {}, { hint := some (aB false) }] { ts := [4], os := [] } [(fun (x0 : T105) => Sh.fit s105 x0) x0, (AV.p (.c (.v (.bool ((validB x0))))) = AV.p (.c (.v (.bool true)))), (fun (x0 : T105) => Sh.fit s105 x0) x1, (AV.p (.c (.v (.bool ((validB x1))))) = AV.p (.c (.v (.bool false))))] gamOK hT h (by kernel_rfl) ⟨(by exact hf0), hint_bool (h1), (by exact hf1), hint_bool (h2), trivial⟩ ?_
      intro a w h
      refine then_normal ?_
      refine wp_ret ?_
      exact at_return (S := S_impl_sameWidth) (x := (x0, x1, ())) (false, ()) [] h (by kernel_rfl) trivial (congrArg (fun z => (z, ())) (show (false) = sameW x0 x1 from by first | rfl | (unfold sameW; rw [if_pos h1, if_neg (neT h2)])))
  · skip
    refine at_regq (T := S_impl_sameWidth_tab) [{}, { hint := some (aB false) }] { ts := [4], os := [] } [(fun (x0 : T105) => Sh.fit s105 x0) x0, (AV.p (.c (.v (.bool ((validB x0))))) = AV.p (.c (.v (.bool false))))] gamOK hT h (by kernel_rfl) ⟨(by exact hf0), hint_bool (h1), trivial⟩ ?_
    intro a w h
    refine then_normal ?_
    refine wp_ret ?_
    exact at_return (S := S_impl_sameWidth) (x := (x0, x1, ())) (false, ()) [] h (by kernel_rfl) trivial (congrArg (fun z => (z, ())) (show (false) = sameW x0 x1 from by first | rfl | (unfold sameW; rw [if_neg (neT h1)])))

theorem sameW_t {a b : T105} (h : sameW a b = true) : basP a ∧ basP b ∧ a.1 = b.1 := by
  unfold sameW at h
  split at h
  · split at h
    · exact ⟨validB_t (by assumption), validB_t (by assumption), of_decide_eq_true h⟩
    · cases h
  · cases h
def sumB (a b : T105) : T105 := if sameW a b = true then (a.1, foldTo insR a.2 b.2 (List.length b.2)) else a
theorem sumB_row {a b : T105} (h : sameW a b = true) {i : Nat} (hi : i < b.2.length) : LA.VokB a.1.toNat (b.2.getD i []) := by
  obtain ⟨h1, h2, h3⟩ := sameW_t h
  rw [h3]; exact h2.2.ok _ (LA.getD_in hi)
theorem sumB_at {a b : T105} (h : sameW a b = true) {i : Nat} (hi : i ≤ b.2.length) : LA.RedL a.1.toNat (foldTo insR a.2 b.2 i) := by
  obtain ⟨h1, h2, h3⟩ := sameW_t h
  exact insR_red h1.2 (fun v hv => by rw [h3]; exact h2.2.ok v hv) i hi
theorem sumB_P {a b : T105} (h : sameW a b = true) : basP (sumB a b) := by
  unfold sumB; rw [if_pos h]; exact ⟨(sameW_t h).1.1, sumB_at h (Nat.le_refl _)⟩
theorem basP_fit {a : T105} (h : basP a) : Sh.fit s105 a := ⟨trivial, fitM h.2.ok (by have := h.1; omega) (by have := h.2.len; have := h.1; omega)⟩
theorem sumB_fit {a b : T105} (h : Sh.fit s105 a) : Sh.fit s105 (sumB a b) := by
  by_cases hs : sameW a b = true
  · exact basP_fit (sumB_P hs)
  · unfold sumB; rw [if_neg hs]; exact h
theorem insV_at {b : T105} {v : List Int} (h : redP b v) : (insV b v).1 = (b.1, insR b.2 v) := by unfold insV; rw [if_pos (takesB_of h)]; rfl
theorem ctL_bd {α : Type} {c : α → Nat} {m : Nat} : ∀ {xs : List α}, (∀ x ∈ xs, c x ≤ m) → ctL c xs ≤ m * xs.length
  | [], _ => Nat.zero_le _
  | x :: l, h => by
    have h1 := h x (by simp)
    have h2 := ctL_bd (xs := l) (fun y hy => h y (by simp [hy]))
    simp only [ctL, List.length_cons, Nat.mul_add, Nat.mul_one]; omega
theorem basP_sz {a : T105} (h : basP a) : Sh.sz s105 a ≤ 2000 := by
  have h1 : Sh.sz s105 a = 0 + (List.length a.2 + ctL (Sh.sz s22) a.2) := rfl
  have h2 := ctL_bd (c := Sh.sz s22) (m := 40) (xs := a.2) (fun x hx => by rw [sz_flat (by rfl)]; have := (h.2.ok x hx).1; have := h.1; omega)
  have h3 := h.2.len; have h4 := h.1
  omega
theorem insV_sz (b : T105) (v : List Int) : Sh.sz s105 (insV b v).1 ≤ 2000 + Sh.sz s105 b := by
  by_cases ht : takesB b v = true
  · have hr := takesB_t ht
    have : basP (insV b v).1 := by rw [insV_at hr]; exact ⟨hr.1.1, (LA.insS_ok hr.1.2 hr.2).1⟩
    have := basP_sz this; omega
  · unfold insV; rw [if_neg ht]; exact Nat.le_add_left _ _
theorem sumB_sz (a b : T105) : Sh.sz s105 (sumB a b) ≤ 2000 + Sh.sz s105 a := by
  by_cases hs : sameW a b = true
  · have := basP_sz (sumB_P hs); omega
  · unfold sumB; rw [if_neg hs]; exact Nat.le_add_left _ _
theorem takes_sum {a b : T105} (h : sameW a b = true) {i : Nat} (hi : i < b.2.length) : redP (a.1, foldTo insR a.2 b.2 i) (b.2.getD i []) := ⟨⟨(sameW_t h).1.1, sumB_at h (Nat.le_of_lt hi)⟩, sumB_row h hi⟩


def isFmt (x0 : Int) (x1 : Int) (x2 : Int) : Bool := (if (inR x0 0 1000000000000) = true then (if (inR x1 1 8) = true then (inR x2 1 16) else false) else false)
def S_impl_isFormat : Sum := { fid := 196, dom := [(.int 3), (.int 3), (.int 3)], cod := [(.bool 4)], dp := true, fz := false, pre := fun x => True, g := fun x => ((isFmt x.1 x.2.1 x.2.2.1), ()) }
def S_impl_isFormat_tab : List (Nat × Sum) := [(140, S_impl_InRange)]
theorem S_impl_isFormat_ok : FnOK Try.prog 196 S_impl_isFormat := by
  refine at_enter 17 (fun x => ⟨[(0, aI x.1), (1, aI x.2.1), (2, aI x.2.2.1)], []⟩) Try.func196 rfl (by kernel_rfl) (fun x => rfl) ?_
  rintro w0 Z0 ⟨x0, x1, x2, u⟩ a w
  revert x0 x1 x2
  intro (x0 : Int) (x1 : Int) (x2 : Int) hpre hlens h
  replace h : At w0 Z0 [] 17 ⟨[(0, aI x0), (1, aI x1), (2, aI x2)], []⟩ a w := h
  have hT : TabOK Try.prog S_impl_isFormat_tab := (.cons S_impl_InRange_ok .nil)
  refine wp_seq ?_
  refine at_regq (T := S_impl_isFormat_tab) [] { ts := [0, 1, 2, 6], os := [] } [] gamOK hT h (by kernel_rfl) trivial ?_
  intro a w h
  refine then_normal ?_
  refine wp_seq ?_
  rcases Bool.eq_false_or_eq_true ((inR x0 0 1000000000000)) with h1 | h1
  · skip
    have hvh1 := inR_t h1
    rcases Bool.eq_false_or_eq_true ((inR x1 1 8)) with h2 | h2
    · skip
      have hvh2 := inR_t h2
      refine at_regq (T := S_impl_isFormat_tab) [{}, { hint := some (aB true) }, {}, {}, { hint := some (aB true) }] { ts := [6], os := [] } [True, (AV.p (.c (.v (.bool ((inR x0 0 1000000000000))))) = AV.p (.c (.v (.bool true)))), True, (AV.p (.c (.v (.bool ((inR x1 1 8))))) = AV.p (.c (.v (.bool true)))), True] gamOK hT h (by kernel_rfl) ⟨trivial, hint_bool (h1), trivial, hint_bool (h2), trivial, trivial⟩ ?_
      intro a w h
      refine then_normal ?_
      refine wp_ret ?_
      exact at_return (S := S_impl_isFormat) (x := (x0, x1, x2, ())) ((inR x2 1 16), ()) [] h (by kernel_rfl) trivial (congrArg (fun z => (z, ())) (show ((inR x2 1 16)) = isFmt x0 x1 x2 from by first | rfl | (unfold isFmt; rw [if_pos h1, if_pos h2])))
    · skip
      have hvh2 := inR_f h2
      refine at_regq (T := S_impl_isFormat_tab) [{}, { hint := some (aB true) }, {}, {}, { hint := some (aB false) }] { ts := [6], os := [] } [True, (AV.p (.c (.v (.bool ((inR x0 0 1000000000000))))) = AV.p (.c (.v (.bool true)))), True, (AV.p (.c (.v (.bool ((inR x1 1 8))))) = AV.p (.c (.v (.bool false))))] gamOK hT h (by kernel_rfl) ⟨trivial, hint_bool (h1), trivial, hint_bool (h2), trivial⟩ ?_
      intro a w h
      refine then_normal ?_
      refine wp_ret ?_
      exact at_return (S := S_impl_isFormat) (x := (x0, x1, x2, ())) (false, ()) [] h (by kernel_rfl) trivial (congrArg (fun z => (z, ())) (show (false) = isFmt x0 x1 x2 from by first | rfl | (unfold isFmt; rw [if_pos h1, if_neg (neT h2)])))
  · skip
    have hvh1 := inR_f h1
    refine at_regq (T := S_impl_isFormat_tab) [{}, { hint := some (aB false) }] { ts := [6], os := [] } [True, (AV.p (.c (.v (.bool ((inR x0 0 1000000000000))))) = AV.p (.c (.v (.bool false))))] gamOK hT h (by kernel_rfl) ⟨trivial, hint_bool (h1), trivial⟩ ?_
    intro a w h
    refine then_normal ?_
    refine wp_ret ?_
    exact at_return (S := S_impl_isFormat) (x := (x0, x1, x2, ())) (false, ()) [] h (by kernel_rfl) trivial (congrArg (fun z => (z, ())) (show (false) = isFmt x0 x1 x2 from by first | rfl | (unfold isFmt; rw [if_neg (neT h1)])))
theorem isFmt_t {g s w : Int} (h : isFmt g s w = true) : (0 ≤ g ∧ g ≤ 1000000000000) ∧ (1 ≤ s ∧ s ≤ 8) ∧ (1 ≤ w ∧ w ≤ 16) := by
  unfold isFmt at h
  split at h
  · split at h
    · exact ⟨inR_t (by assumption), inR_t (by assumption), inR_t h⟩
    · cases h
  · cases h

def S_spec_l14Range : Sum := { fid := 191, dom := [(.int 3), (.int 3), (.int 3)], cod := [(.bool 4)], dp := true, fz := false, pre := fun x => True, g := fun x => ((isFmt x.1 x.2.1 x.2.2.1), ()) }
def S_spec_l14Range_tab : List (Nat × Sum) := [(138, S_spec_l1In)]
theorem S_spec_l14Range_ok : FnOK Try.prog 191 S_spec_l14Range := by
  refine at_enter 17 (fun x => ⟨[(0, aI x.1), (1, aI x.2.1), (2, aI x.2.2.1)], []⟩) Try.func191 rfl (by kernel_rfl) (fun x => rfl) ?_
  rintro w0 Z0 ⟨x0, x1, x2, u⟩ a w
  revert x0 x1 x2
  intro (x0 : Int) (x1 : Int) (x2 : Int) hpre hlens h
  replace h : At w0 Z0 [] 17 ⟨[(0, aI x0), (1, aI x1), (2, aI x2)], []⟩ a w := h
  have hT : TabOK Try.prog S_spec_l14Range_tab := (.cons S_spec_l1In_ok .nil)
  refine wp_seq ?_
  refine at_regq (T := S_spec_l14Range_tab) [] { ts := [0, 1, 2, 6], os := [] } [] gamOK hT h (by kernel_rfl) trivial ?_
  intro a w h
  refine then_normal ?_
  refine wp_seq ?_
  rcases Bool.eq_false_or_eq_true ((inR x0 0 1000000000000)) with h1 | h1
  · skip
    have hvh1 := inR_t h1
    rcases Bool.eq_false_or_eq_true ((inR x1 1 8)) with h2 | h2
    · skip
      have hvh2 := inR_t h2
      refine at_regq (T := S_spec_l14Range_tab) [{}, { hint := some (aB true) }, {}, {}, { hint := some (aB true) }] { ts := [6], os := [] } [True, (AV.p (.c (.v (.bool ((inR x0 0 1000000000000))))) = AV.p (.c (.v (.bool true)))), True, (AV.p (.c (.v (.bool ((inR x1 1 8))))) = AV.p (.c (.v (.bool true)))), True] gamOK hT h (by kernel_rfl) ⟨trivial, hint_bool (h1), trivial, hint_bool (h2), trivial, trivial⟩ ?_
      intro a w h
      refine then_normal ?_
      refine wp_ret ?_
      exact at_return (S := S_spec_l14Range) (x := (x0, x1, x2, ())) ((inR x2 1 16), ()) [] h (by kernel_rfl) trivial (congrArg (fun z => (z, ())) (show ((inR x2 1 16)) = isFmt x0 x1 x2 from by first | rfl | (unfold isFmt; rw [if_pos h1, if_pos h2]; done) | (unfold isFmt; simp_all)))
    · skip
      have hvh2 := inR_f h2
      refine at_regq (T := S_spec_l14Range_tab) [{}, { hint := some (aB true) }, {}, {}, { hint := some (aB false) }] { ts := [6], os := [] } [True, (AV.p (.c (.v (.bool ((inR x0 0 1000000000000))))) = AV.p (.c (.v (.bool true)))), True, (AV.p (.c (.v (.bool ((inR x1 1 8))))) = AV.p (.c (.v (.bool false))))] gamOK hT h (by kernel_rfl) ⟨trivial, hint_bool (h1), trivial, hint_bool (h2), trivial⟩ ?_
      intro a w h
      refine then_normal ?_
      refine wp_ret ?_
      exact at_return (S := S_spec_l14Range) (x := (x0, x1, x2, ())) (false, ()) [] h (by kernel_rfl) trivial (congrArg (fun z => (z, ())) (show (false) = isFmt x0 x1 x2 from by first | rfl | (unfold isFmt; rw [if_pos h1, if_neg (neT h2)]; done) | (unfold isFmt; simp_all)))
  · skip
    have hvh1 := inR_f h1
    refine at_regq (T := S_spec_l14Range_tab) [{}, { hint := some (aB false) }] { ts := [6], os := [] } [True, (AV.p (.c (.v (.bool ((inR x0 0 1000000000000))))) = AV.p (.c (.v (.bool false))))] gamOK hT h (by kernel_rfl) ⟨trivial, hint_bool (h1), trivial⟩ ?_
    intro a w h
    refine then_normal ?_
    refine wp_ret ?_
    exact at_return (S := S_spec_l14Range) (x := (x0, x1, x2, ())) (false, ()) [] h (by kernel_rfl) trivial (congrArg (fun z => (z, ())) (show (false) = isFmt x0 x1 x2 from by first | rfl | (unfold isFmt; rw [if_neg (neT h1)]; done) | (unfold isFmt; simp_all)))

def validP (x0 : T126) (x1 : Int) (x2 : Int) : Bool := (if (isFmt x0.1 x1 x2) = true then (if ((List.length x0.2.1 : Nat) : Int) = x1 then (if ((List.length x0.2.2 : Nat) : Int) = x2 then (if (validV x0.2.1) = true then (validV x0.2.2) else false) else false) else false) else false)
def S_impl_IsValidPacket : Sum := { fid := 179, dom := [s126, (.int 3), (.int 3)], cod := [(.bool 4)], dp := true, fz := false, pre := fun x => (fun (x0 : T126) (x1 : Int) (x2 : Int) => Sh.fit s126 x0) x.1 x.2.1 x.2.2.1, g := fun x => ((validP x.1 x.2.1 x.2.2.1), ()) }
def S_impl_IsValidPacket_tab : List (Nat × Sum) := [(196, S_impl_isFormat), (215, S_impl_IsValidVector)]
theorem S_impl_IsValidPacket_ok : FnOK Try.prog 179 S_impl_IsValidPacket := by
  refine at_enter 36 (fun x => ⟨[(0, aG [cI x.1.1, .ro (.int 3) x.1.2.1, .ro (.int 3) x.1.2.2]), (1, aI x.2.1), (2, aI x.2.2.1)], []⟩) Try.func179 rfl (by kernel_rfl) (fun x => rfl) ?_
  rintro w0 Z0 ⟨x0, x1, x2, u⟩ a w
  revert x0 x1 x2
  intro (x0 : T126) (x1 : Int) (x2 : Int) hpre hlens h
  replace h : At w0 Z0 [] 36 ⟨[(0, aG [cI x0.1, .ro (.int 3) x0.2.1, .ro (.int 3) x0.2.2]), (1, aI x1), (2, aI x2)], []⟩ a w := h
  replace hpre : (fun (x0 : T126) (x1 : Int) (x2 : Int) => Sh.fit s126 x0) x0 x1 x2 := hpre
  have hl1 : List.length x0.2.1 ≤ 9223372036854775807 := hlens.1.2.1.1
  have hl2 : List.length x0.2.2 ≤ 9223372036854775807 := hlens.1.2.2.1
  have hT : TabOK Try.prog S_impl_IsValidPacket_tab := (.cons S_impl_isFormat_ok (.cons S_impl_IsValidVector_ok .nil))
  have hf0 : Sh.fit s126 x0 := hpre
  have hn0_1 : List.length x0.2.1 ≤ 1073741824 := hf0.2.1.1
  have hn0_2 : List.length x0.2.2 ≤ 1073741824 := hf0.2.2.1
  refine wp_seq ?_
  refine at_regq (T := S_impl_IsValidPacket_tab) [{ ids := [1] }] { ts := [1, 2, 3, 6], os := [1] } [] gamOK hT h (by kernel_rfl) trivial ?_
  intro a w h
  refine then_normal ?_
  refine wp_seq ?_
  rcases Bool.eq_false_or_eq_true ((isFmt x0.1 x1 x2)) with h1 | h1
  · skip
    have hvh1 := isFmt_t h1
    by_cases h2 : ((List.length x0.2.1 : Nat) : Int) = x1
    · skip
      by_cases h3 : ((List.length x0.2.2 : Nat) : Int) = x2
      · skip
        rcases Bool.eq_false_or_eq_true ((validV x0.2.1)) with h4 | h4
        · skip
          have hvh4 := validV_t h4
          refine at_regq (T := S_impl_IsValidPacket_tab) [{}, {}, {}, {}, { hint := some (aB true) }, {}, {}, {}, {}, {}, { hint := some (aB true) }, {}, {}, {}, {}, {}, {}, { hint := some (aB true) }, {}, {}, {}, {}, { hint := some (aB true) }] { ts := [6], os := [] } [True, (AV.p (.c (.v (.bool ((isFmt x0.1 x1 x2))))) = AV.p (.c (.v (.bool true)))), (AV.p (.c (.v (.bool (decide (((List.length x0.2.1 : Nat) : Int) = x1))))) = AV.p (.c (.v (.bool true)))), (AV.p (.c (.v (.bool (decide (((List.length x0.2.2 : Nat) : Int) = x2))))) = AV.p (.c (.v (.bool true)))), (fun (x0 : (List Int)) => Sh.fit s22 x0) x0.2.1, (AV.p (.c (.v (.bool ((validV x0.2.1))))) = AV.p (.c (.v (.bool true)))), (fun (x0 : (List Int)) => Sh.fit s22 x0) x0.2.2] gamOK hT h (by kernel_rfl) ⟨trivial, hint_bool (h1), hint_bool (decide_eq_true h2), hint_bool (decide_eq_true h3), (by exact hf0.2.1), hint_bool (h4), (by exact hf0.2.2), trivial⟩ ?_
          intro a w h
          refine then_normal ?_
          refine wp_ret ?_
          exact at_return (S := S_impl_IsValidPacket) (x := (x0, x1, x2, ())) ((validV x0.2.2), ()) [] h (by kernel_rfl) trivial (congrArg (fun z => (z, ())) (show ((validV x0.2.2)) = validP x0 x1 x2 from by first | rfl | (unfold validP; rw [if_pos h1, if_pos h2, if_pos h3, if_pos h4])))
        · skip
          refine at_regq (T := S_impl_IsValidPacket_tab) [{}, {}, {}, {}, { hint := some (aB true) }, {}, {}, {}, {}, {}, { hint := some (aB true) }, {}, {}, {}, {}, {}, {}, { hint := some (aB true) }, {}, {}, {}, {}, { hint := some (aB false) }] { ts := [6], os := [] } [True, (AV.p (.c (.v (.bool ((isFmt x0.1 x1 x2))))) = AV.p (.c (.v (.bool true)))), (AV.p (.c (.v (.bool (decide (((List.length x0.2.1 : Nat) : Int) = x1))))) = AV.p (.c (.v (.bool true)))), (AV.p (.c (.v (.bool (decide (((List.length x0.2.2 : Nat) : Int) = x2))))) = AV.p (.c (.v (.bool true)))), (fun (x0 : (List Int)) => Sh.fit s22 x0) x0.2.1, (AV.p (.c (.v (.bool ((validV x0.2.1))))) = AV.p (.c (.v (.bool false))))] gamOK hT h (by kernel_rfl) ⟨trivial, hint_bool (h1), hint_bool (decide_eq_true h2), hint_bool (decide_eq_true h3), (by exact hf0.2.1), hint_bool (h4), trivial⟩ ?_
          intro a w h
          refine then_normal ?_
          refine wp_ret ?_
          exact at_return (S := S_impl_IsValidPacket) (x := (x0, x1, x2, ())) (false, ()) [] h (by kernel_rfl) trivial (congrArg (fun z => (z, ())) (show (false) = validP x0 x1 x2 from by first | rfl | (unfold validP; rw [if_pos h1, if_pos h2, if_pos h3, if_neg (neT h4)])))
      · skip
        refine at_regq (T := S_impl_IsValidPacket_tab) [{}, {}, {}, {}, { hint := some (aB true) }, {}, {}, {}, {}, {}, { hint := some (aB true) }, {}, {}, {}, {}, {}, {}, { hint := some (aB false) }] { ts := [6], os := [] } [True, (AV.p (.c (.v (.bool ((isFmt x0.1 x1 x2))))) = AV.p (.c (.v (.bool true)))), (AV.p (.c (.v (.bool (decide (((List.length x0.2.1 : Nat) : Int) = x1))))) = AV.p (.c (.v (.bool true)))), (AV.p (.c (.v (.bool (decide (((List.length x0.2.2 : Nat) : Int) = x2))))) = AV.p (.c (.v (.bool false))))] gamOK hT h (by kernel_rfl) ⟨trivial, hint_bool (h1), hint_bool (decide_eq_true h2), hint_bool (decide_eq_false h3), trivial⟩ ?_
        intro a w h
        refine then_normal ?_
        refine wp_ret ?_
        exact at_return (S := S_impl_IsValidPacket) (x := (x0, x1, x2, ())) (false, ()) [] h (by kernel_rfl) trivial (congrArg (fun z => (z, ())) (show (false) = validP x0 x1 x2 from by first | rfl | (unfold validP; rw [if_pos h1, if_pos h2, if_neg h3])))
    · skip
      refine at_regq (T := S_impl_IsValidPacket_tab) [{}, {}, {}, {}, { hint := some (aB true) }, {}, {}, {}, {}, {}, { hint := some (aB false) }] { ts := [6], os := [] } [True, (AV.p (.c (.v (.bool ((isFmt x0.1 x1 x2))))) = AV.p (.c (.v (.bool true)))), (AV.p (.c (.v (.bool (decide (((List.length x0.2.1 : Nat) : Int) = x1))))) = AV.p (.c (.v (.bool false))))] gamOK hT h (by kernel_rfl) ⟨trivial, hint_bool (h1), hint_bool (decide_eq_false h2), trivial⟩ ?_
      intro a w h
      refine then_normal ?_
      refine wp_ret ?_
      exact at_return (S := S_impl_IsValidPacket) (x := (x0, x1, x2, ())) (false, ()) [] h (by kernel_rfl) trivial (congrArg (fun z => (z, ())) (show (false) = validP x0 x1 x2 from by first | rfl | (unfold validP; rw [if_pos h1, if_neg h2])))
  · skip
    refine at_regq (T := S_impl_IsValidPacket_tab) [{}, {}, {}, {}, { hint := some (aB false) }] { ts := [6], os := [] } [True, (AV.p (.c (.v (.bool ((isFmt x0.1 x1 x2))))) = AV.p (.c (.v (.bool false))))] gamOK hT h (by kernel_rfl) ⟨trivial, hint_bool (h1), trivial⟩ ?_
    intro a w h
    refine then_normal ?_
    refine wp_ret ?_
    exact at_return (S := S_impl_IsValidPacket) (x := (x0, x1, x2, ())) (false, ()) [] h (by kernel_rfl) trivial (congrArg (fun z => (z, ())) (show (false) = validP x0 x1 x2 from by first | rfl | (unfold validP; rw [if_neg (neT h1)])))
theorem validP_t {p : T126} {s w : Int} (h : validP p s w = true) : isFmt p.1 s w = true ∧ ((List.length p.2.1 : Nat) : Int) = s ∧ ((List.length p.2.2 : Nat) : Int) = w ∧ validV p.2.1 = true ∧ validV p.2.2 = true := by
  unfold validP at h
  split at h
  · split at h
    · split at h
      · split at h
        · exact ⟨by assumption, by assumption, by assumption, by assumption, h⟩
        · cases h
      · cases h
    · cases h
  · cases h
theorem validP_n {p : T126} {s w : Int} (h : validP p s w = true) : ((0 ≤ p.1 ∧ p.1 ≤ 1000000000000) ∧ (1 ≤ s ∧ s ≤ 8) ∧ (1 ≤ w ∧ w ≤ 16)) ∧ ((List.length p.2.1 : Nat) : Int) = s ∧ ((List.length p.2.2 : Nat) : Int) = w := ⟨isFmt_t (validP_t h).1, (validP_t h).2.1, (validP_t h).2.2.1⟩
theorem validP_of {p : T126} {s w : Int} (h : isFmt p.1 s w = true ∧ ((List.length p.2.1 : Nat) : Int) = s ∧ ((List.length p.2.2 : Nat) : Int) = w ∧ validV p.2.1 = true ∧ validV p.2.2 = true) : validP p s w = true := by
  unfold validP; rw [if_pos h.1, if_pos h.2.1, if_pos h.2.2.1, if_pos h.2.2.2.1]; exact h.2.2.2.2

def S_spec_IsValidPacket : Sum := { fid := 176, dom := [s126, (.int 3), (.int 3)], cod := [(.bool 4)], dp := true, fz := false, pre := fun x => (fun (x0 : T126) (x1 : Int) (x2 : Int) => Sh.fit s126 x0) x.1 x.2.1 x.2.2.1, g := fun x => ((validP x.1 x.2.1 x.2.2.1), ()) }
def S_spec_IsValidPacket_tab : List (Nat × Sum) := [(138, S_spec_l1In), (208, S_spec_IsValidVector)]
theorem S_spec_IsValidPacket_ok : FnOK Try.prog 176 S_spec_IsValidPacket := by
  refine at_enter 42 (fun x => ⟨[(0, aG [cI x.1.1, .ro (.int 3) x.1.2.1, .ro (.int 3) x.1.2.2]), (1, aI x.2.1), (2, aI x.2.2.1)], []⟩) Try.func176 rfl (by kernel_rfl) (fun x => rfl) ?_
  rintro w0 Z0 ⟨x0, x1, x2, u⟩ a w
  revert x0 x1 x2
  intro (x0 : T126) (x1 : Int) (x2 : Int) hpre hlens h
  replace h : At w0 Z0 [] 42 ⟨[(0, aG [cI x0.1, .ro (.int 3) x0.2.1, .ro (.int 3) x0.2.2]), (1, aI x1), (2, aI x2)], []⟩ a w := h
  replace hpre : (fun (x0 : T126) (x1 : Int) (x2 : Int) => Sh.fit s126 x0) x0 x1 x2 := hpre
  have hl1 : List.length x0.2.1 ≤ 9223372036854775807 := hlens.1.2.1.1
  have hl2 : List.length x0.2.2 ≤ 9223372036854775807 := hlens.1.2.2.1
  have hT : TabOK Try.prog S_spec_IsValidPacket_tab := (.cons S_spec_l1In_ok (.cons S_spec_IsValidVector_ok .nil))
  have hf0 : Sh.fit s126 x0 := hpre
  have hn0_1 : List.length x0.2.1 ≤ 1073741824 := hf0.2.1.1
  have hn0_2 : List.length x0.2.2 ≤ 1073741824 := hf0.2.2.1
  refine wp_seq ?_
  refine at_regq (T := S_spec_IsValidPacket_tab) [{ ids := [1] }] { ts := [1, 2, 3, 6], os := [1] } [] gamOK hT h (by kernel_rfl) trivial ?_
  intro a w h
  refine then_normal ?_
  refine wp_seq ?_
  rcases Bool.eq_false_or_eq_true ((inR x0.1 0 1000000000000)) with h1 | h1
  · skip
    have hvh1 := inR_t h1
    rcases Bool.eq_false_or_eq_true ((inR x1 1 8)) with h2 | h2
    · skip
      have hvh2 := inR_t h2
      rcases Bool.eq_false_or_eq_true ((inR x2 1 16)) with h3 | h3
      · skip
        have hvh3 := inR_t h3
        by_cases h4 : ((List.length x0.2.1 : Nat) : Int) = x1
        · skip
          by_cases h5 : ((List.length x0.2.2 : Nat) : Int) = x2
          · skip
            rcases Bool.eq_false_or_eq_true ((validV x0.2.1)) with h6 | h6
            · skip
              have hvh6 := validV_t h6
              refine at_regq (T := S_spec_IsValidPacket_tab) [{}, {}, { hint := some (aB true) }, {}, {}, { hint := some (aB true) }, {}, {}, {}, { hint := some (aB true) }, {}, {}, {}, {}, {}, {}, { hint := some (aB true) }, {}, {}, {}, {}, {}, {}, { hint := some (aB true) }, {}, {}, {}, {}, { hint := some (aB true) }] { ts := [6], os := [] } [True, (AV.p (.c (.v (.bool ((inR x0.1 0 1000000000000))))) = AV.p (.c (.v (.bool true)))), True, (AV.p (.c (.v (.bool ((inR x1 1 8))))) = AV.p (.c (.v (.bool true)))), True, (AV.p (.c (.v (.bool ((inR x2 1 16))))) = AV.p (.c (.v (.bool true)))), (AV.p (.c (.v (.bool (decide (((List.length x0.2.1 : Nat) : Int) = x1))))) = AV.p (.c (.v (.bool true)))), (AV.p (.c (.v (.bool (decide (((List.length x0.2.2 : Nat) : Int) = x2))))) = AV.p (.c (.v (.bool true)))), (fun (x0 : (List Int)) => Sh.fit s22 x0) x0.2.1, (AV.p (.c (.v (.bool ((validV x0.2.1))))) = AV.p (.c (.v (.bool true)))), (fun (x0 : (List Int)) => Sh.fit s22 x0) x0.2.2] gamOK hT h (by kernel_rfl) ⟨trivial, hint_bool (h1), trivial, hint_bool (h2), trivial, hint_bool (h3), hint_bool (decide_eq_true h4), hint_bool (decide_eq_true h5), (by exact hf0.2.1), hint_bool (h6), (by exact hf0.2.2), trivial⟩ ?_
              intro a w h
              refine then_normal ?_
              refine wp_ret ?_
              exact at_return (S := S_spec_IsValidPacket) (x := (x0, x1, x2, ())) ((validV x0.2.2), ()) [] h (by kernel_rfl) trivial (congrArg (fun z => (z, ())) (show ((validV x0.2.2)) = validP x0 x1 x2 from by first | rfl | (unfold validP; rw [if_pos h1, if_pos h2, if_pos h3, if_pos h4, if_pos h5, if_pos h6]; done) | (unfold validP; simp_all [isFmt])))
            · skip
              refine at_regq (T := S_spec_IsValidPacket_tab) [{}, {}, { hint := some (aB true) }, {}, {}, { hint := some (aB true) }, {}, {}, {}, { hint := some (aB true) }, {}, {}, {}, {}, {}, {}, { hint := some (aB true) }, {}, {}, {}, {}, {}, {}, { hint := some (aB true) }, {}, {}, {}, {}, { hint := some (aB false) }] { ts := [6], os := [] } [True, (AV.p (.c (.v (.bool ((inR x0.1 0 1000000000000))))) = AV.p (.c (.v (.bool true)))), True, (AV.p (.c (.v (.bool ((inR x1 1 8))))) = AV.p (.c (.v (.bool true)))), True, (AV.p (.c (.v (.bool ((inR x2 1 16))))) = AV.p (.c (.v (.bool true)))), (AV.p (.c (.v (.bool (decide (((List.length x0.2.1 : Nat) : Int) = x1))))) = AV.p (.c (.v (.bool true)))), (AV.p (.c (.v (.bool (decide (((List.length x0.2.2 : Nat) : Int) = x2))))) = AV.p (.c (.v (.bool true)))), (fun (x0 : (List Int)) => Sh.fit s22 x0) x0.2.1, (AV.p (.c (.v (.bool ((validV x0.2.1))))) = AV.p (.c (.v (.bool false))))] gamOK hT h (by kernel_rfl) ⟨trivial, hint_bool (h1), trivial, hint_bool (h2), trivial, hint_bool (h3), hint_bool (decide_eq_true h4), hint_bool (decide_eq_true h5), (by exact hf0.2.1), hint_bool (h6), trivial⟩ ?_
              intro a w h
              refine then_normal ?_
              refine wp_ret ?_
              exact at_return (S := S_spec_IsValidPacket) (x := (x0, x1, x2, ())) (false, ()) [] h (by kernel_rfl) trivial (congrArg (fun z => (z, ())) (show (false) = validP x0 x1 x2 from by first | rfl | (unfold validP; rw [if_pos h1, if_pos h2, if_pos h3, if_pos h4, if_pos h5, if_neg (neT h6)]; done) | (unfold validP; simp_all [isFmt])))
          · skip
            refine at_regq (T := S_spec_IsValidPacket_tab) [{}, {}, { hint := some (aB true) }, {}, {}, { hint := some (aB true) }, {}, {}, {}, { hint := some (aB true) }, {}, {}, {}, {}, {}, {}, { hint := some (aB true) }, {}, {}, {}, {}, {}, {}, { hint := some (aB false) }] { ts := [6], os := [] } [True, (AV.p (.c (.v (.bool ((inR x0.1 0 1000000000000))))) = AV.p (.c (.v (.bool true)))), True, (AV.p (.c (.v (.bool ((inR x1 1 8))))) = AV.p (.c (.v (.bool true)))), True, (AV.p (.c (.v (.bool ((inR x2 1 16))))) = AV.p (.c (.v (.bool true)))), (AV.p (.c (.v (.bool (decide (((List.length x0.2.1 : Nat) : Int) = x1))))) = AV.p (.c (.v (.bool true)))), (AV.p (.c (.v (.bool (decide (((List.length x0.2.2 : Nat) : Int) = x2))))) = AV.p (.c (.v (.bool false))))] gamOK hT h (by kernel_rfl) ⟨trivial, hint_bool (h1), trivial, hint_bool (h2), trivial, hint_bool (h3), hint_bool (decide_eq_true h4), hint_bool (decide_eq_false h5), trivial⟩ ?_
            intro a w h
            refine then_normal ?_
            refine wp_ret ?_
            exact at_return (S := S_spec_IsValidPacket) (x := (x0, x1, x2, ())) (false, ()) [] h (by kernel_rfl) trivial (congrArg (fun z => (z, ())) (show (false) = validP x0 x1 x2 from by first | rfl | (unfold validP; rw [if_pos h1, if_pos h2, if_pos h3, if_pos h4, if_neg h5]; done) | (unfold validP; simp_all [isFmt])))
        · skip
          refine at_regq (T := S_spec_IsValidPacket_tab) [{}, {}, { hint := some (aB true) }, {}, {}, { hint := some (aB true) }, {}, {}, {}, { hint := some (aB true) }, {}, {}, {}, {}, {}, {}, { hint := some (aB false) }] { ts := [6], os := [] } [True, (AV.p (.c (.v (.bool ((inR x0.1 0 1000000000000))))) = AV.p (.c (.v (.bool true)))), True, (AV.p (.c (.v (.bool ((inR x1 1 8))))) = AV.p (.c (.v (.bool true)))), True, (AV.p (.c (.v (.bool ((inR x2 1 16))))) = AV.p (.c (.v (.bool true)))), (AV.p (.c (.v (.bool (decide (((List.length x0.2.1 : Nat) : Int) = x1))))) = AV.p (.c (.v (.bool false))))] gamOK hT h (by kernel_rfl) ⟨trivial, hint_bool (h1), trivial, hint_bool (h2), trivial, hint_bool (h3), hint_bool (decide_eq_false h4), trivial⟩ ?_
          intro a w h
          refine then_normal ?_
          refine wp_ret ?_
          exact at_return (S := S_spec_IsValidPacket) (x := (x0, x1, x2, ())) (false, ()) [] h (by kernel_rfl) trivial (congrArg (fun z => (z, ())) (show (false) = validP x0 x1 x2 from by first | rfl | (unfold validP; rw [if_pos h1, if_pos h2, if_pos h3, if_neg h4]; done) | (unfold validP; simp_all [isFmt])))
      · skip
        have hvh3 := inR_f h3
        refine at_regq (T := S_spec_IsValidPacket_tab) [{}, {}, { hint := some (aB true) }, {}, {}, { hint := some (aB true) }, {}, {}, {}, { hint := some (aB false) }] { ts := [6], os := [] } [True, (AV.p (.c (.v (.bool ((inR x0.1 0 1000000000000))))) = AV.p (.c (.v (.bool true)))), True, (AV.p (.c (.v (.bool ((inR x1 1 8))))) = AV.p (.c (.v (.bool true)))), True, (AV.p (.c (.v (.bool ((inR x2 1 16))))) = AV.p (.c (.v (.bool false))))] gamOK hT h (by kernel_rfl) ⟨trivial, hint_bool (h1), trivial, hint_bool (h2), trivial, hint_bool (h3), trivial⟩ ?_
        intro a w h
        refine then_normal ?_
        refine wp_ret ?_
        exact at_return (S := S_spec_IsValidPacket) (x := (x0, x1, x2, ())) (false, ()) [] h (by kernel_rfl) trivial (congrArg (fun z => (z, ())) (show (false) = validP x0 x1 x2 from by first | rfl | (unfold validP; rw [if_pos h1, if_pos h2, if_neg (neT h3)]; done) | (unfold validP; simp_all [isFmt])))
    · skip
      have hvh2 := inR_f h2
      refine at_regq (T := S_spec_IsValidPacket_tab) [{}, {}, { hint := some (aB true) }, {}, {}, { hint := some (aB false) }] { ts := [6], os := [] } [True, (AV.p (.c (.v (.bool ((inR x0.1 0 1000000000000))))) = AV.p (.c (.v (.bool true)))), True, (AV.p (.c (.v (.bool ((inR x1 1 8))))) = AV.p (.c (.v (.bool false))))] gamOK hT h (by kernel_rfl) ⟨trivial, hint_bool (h1), trivial, hint_bool (h2), trivial⟩ ?_
      intro a w h
      refine then_normal ?_
      refine wp_ret ?_
      exact at_return (S := S_spec_IsValidPacket) (x := (x0, x1, x2, ())) (false, ()) [] h (by kernel_rfl) trivial (congrArg (fun z => (z, ())) (show (false) = validP x0 x1 x2 from by first | rfl | (unfold validP; rw [if_pos h1, if_neg (neT h2)]; done) | (unfold validP; simp_all [isFmt])))
  · skip
    have hvh1 := inR_f h1
    refine at_regq (T := S_spec_IsValidPacket_tab) [{}, {}, { hint := some (aB false) }] { ts := [6], os := [] } [True, (AV.p (.c (.v (.bool ((inR x0.1 0 1000000000000))))) = AV.p (.c (.v (.bool false))))] gamOK hT h (by kernel_rfl) ⟨trivial, hint_bool (h1), trivial⟩ ?_
    intro a w h
    refine then_normal ?_
    refine wp_ret ?_
    exact at_return (S := S_spec_IsValidPacket) (x := (x0, x1, x2, ())) (false, ()) [] h (by kernel_rfl) trivial (congrArg (fun z => (z, ())) (show (false) = validP x0 x1 x2 from by first | rfl | (unfold validP; rw [if_neg (neT h1)]; done) | (unfold validP; simp_all [isFmt])))

def cofs (ps : List T126) : List (List Int) := ps.map fun p => p.2.1
theorem cofs_at {ps : List T126} {i : Nat} (h : i < ps.length) : (cofs ps).getD i [] = (ps.getD i (0, ([], []))).2.1 := by
  unfold cofs; rw [getD_of_lt (by simpa using h), getD_of_lt h, List.getElem_map]
theorem cofs_len (ps : List T126) : (cofs ps).length = ps.length := by simp [cofs]
theorem cofs_snoc (ps : List T126) (p : T126) : cofs (ps ++ [p]) = cofs ps ++ [p.2.1] := by simp [cofs]
theorem insTo_app (vs us : List (List Int)) : ∀ i, i ≤ vs.length → LA.insTo (vs ++ us) i = LA.insTo vs i
  | 0, _ => rfl
  | i + 1, h => by
    simp only [LA.insTo]
    rw [insTo_app vs us i (by omega), show (vs ++ us).getD i [] = vs.getD i [] from by rw [List.getD_eq_getElem?_getD, List.getElem?_append_left (by omega), List.getD_eq_getElem?_getD]]
theorem insTo_take {vs : List (List Int)} {i : Nat} (h : i ≤ vs.length) : LA.insTo (vs.take i) i = LA.insTo vs i := by
  have := insTo_app (vs.take i) (vs.drop i) i (by simp; omega)
  rw [List.take_append_drop] at this; exact this.symm
def okPkt (r : T122) (p : T126) : Bool := validP p r.2.1 r.2.2.1 && decide (p.1 = r.1)
theorem okPkt_v {r : T122} {p : T126} (h : okPkt r p = true) : ((0 ≤ p.1 ∧ p.1 ≤ 1000000000000) ∧ (1 ≤ r.2.1 ∧ r.2.1 ≤ 8) ∧ (1 ≤ r.2.2.1 ∧ r.2.2.1 ≤ 16)) ∧ LA.VokB r.2.1.toNat p.2.1 := by
  unfold okPkt at h
  rw [Bool.and_eq_true] at h
  have h1 := validP_t h.1
  have h2 := isFmt_t h1.1
  exact ⟨h2, by have := h1.2.1; omega, (validV_t h1.2.2.2.1).2.1⟩
theorem okPkt_t {r : T122} {p : T126} (h1 : validP p r.2.1 r.2.2.1 = true) (h2 : p.1 = r.1) : okPkt r p = true := by unfold okPkt; rw [h1, decide_eq_true h2]; rfl
theorem okPkt_f {r : T122} {p : T126} (h : validP p r.2.1 r.2.2.1 = false ∨ ¬ p.1 = r.1) : okPkt r p = false := by
  unfold okPkt; rw [Bool.and_eq_false_iff]
  rcases h with h | h
  · exact .inl h
  · exact .inr (decide_eq_false h)
def recB (r : T122) (i : Nat) : Bool := okPkt r (r.2.2.2.1.getD i (0, ([], []))) && LA.insOk (cofs r.2.2.2.1) i
def validR (r : T122) : Bool := (isFmt r.1 r.2.1 r.2.2.1 && (decide (List.length r.2.2.2.1 ≤ 8) && inR r.2.2.2.2 0 1000000000000)) && allN (recB r) (List.length r.2.2.2.1)
theorem rec_vok {r : T122} {i : Nat} (hi : i ≤ r.2.2.2.1.length) (h : allN (recB r) i = true) : ∀ v ∈ (cofs r.2.2.2.1).take i, LA.VokB r.2.1.toNat v := fun v hv => by
  obtain ⟨j, hj, rfl⟩ := List.getElem_of_mem hv
  rw [List.length_take, cofs_len] at hj
  have h1 := allN_iff.1 h j (by omega)
  unfold recB at h1
  rw [Bool.and_eq_true] at h1
  have h2 := (okPkt_v h1.1).2
  rw [← cofs_at (by omega), getD_of_lt (by rw [cofs_len]; omega)] at h2
  rw [List.getElem_take]; exact h2
theorem red_to {n : Nat} {vs : List (List Int)} {i : Nat} (hi : i ≤ vs.length) (h : ∀ v ∈ vs.take i, LA.VokB n v) : LA.RedL n (LA.insTo vs i) := by
  have := (LA.insTo_ok h i (by simp; omega)).1
  rwa [insTo_take hi] at this
theorem rec_red {r : T122} {i : Nat} (hi : i ≤ r.2.2.2.1.length) (h : allN (recB r) i = true) : LA.RedL r.2.1.toNat (LA.insTo (cofs r.2.2.2.1) i) := red_to (by rw [cofs_len]; exact hi) (rec_vok hi h)
theorem insOk_at {ps : List T126} {s : Int} {i : Nat} (h : i < ps.length) : LA.insOk (cofs ps) i = insD (s, LA.insTo (cofs ps) i) (ps.getD i (0, ([], []))).2.1 := by unfold LA.insOk insD; rw [cofs_at h]
theorem insTo_next {ps : List T126} {s : Int} {i : Nat} (h : i < ps.length) : (insU (s, LA.insTo (cofs ps) i) (ps.getD i (0, ([], []))).2.1).2 = LA.insTo (cofs ps) (i + 1) := by show _ = (LA.insS _ _).1; rw [cofs_at h]; rfl
theorem recB_t {r : T122} {i : Nat} (hi : i < r.2.2.2.1.length) (h1 : validP (r.2.2.2.1.getD i (0, ([], []))) r.2.1 r.2.2.1 = true) (h2 : (r.2.2.2.1.getD i (0, ([], []))).1 = r.1) (h3 : insD (r.2.1, LA.insTo (cofs r.2.2.2.1) i) (r.2.2.2.1.getD i (0, ([], []))).2.1 = true) : recB r i = true := by
  unfold recB; rw [okPkt_t h1 h2, insOk_at hi, h3]; rfl
theorem recB_f {r : T122} {i : Nat} (hi : i < r.2.2.2.1.length) (h : validP (r.2.2.2.1.getD i (0, ([], []))) r.2.1 r.2.2.1 = false ∨ ¬ (r.2.2.2.1.getD i (0, ([], []))).1 = r.1 ∨ insD (r.2.1, LA.insTo (cofs r.2.2.2.1) i) (r.2.2.2.1.getD i (0, ([], []))).2.1 = false) : recB r i = false := by
  unfold recB; rw [Bool.and_eq_false_iff]
  rcases h with h | h | h
  · exact .inl (okPkt_f (.inl h))
  · exact .inl (okPkt_f (.inr h))
  · exact .inr (by rw [insOk_at hi, h])
theorem newBas_at {s : Int} (h : 0 ≤ s ∧ s ≤ 40) : newBas s = (s, []) := by unfold newBas; rw [if_pos (inR_true h)]
theorem validR_t {r : T122} (h : validR r = true) : ((0 ≤ r.1 ∧ r.1 ≤ 1000000000000) ∧ (1 ≤ r.2.1 ∧ r.2.1 ≤ 8) ∧ (1 ≤ r.2.2.1 ∧ r.2.2.1 ≤ 16)) ∧ List.length r.2.2.2.1 ≤ 8 ∧ (0 ≤ r.2.2.2.2 ∧ r.2.2.2.2 ≤ 1000000000000) ∧ allN (recB r) (List.length r.2.2.2.1) = true := by
  unfold validR at h
  rw [Bool.and_eq_true, Bool.and_eq_true, Bool.and_eq_true] at h
  exact ⟨isFmt_t h.1.1, of_decide_eq_true h.1.2.1, inR_t h.1.2.2, h.2⟩
theorem validR_y {r : T122} (h1 : isFmt r.1 r.2.1 r.2.2.1 = true) (h2 : List.length r.2.2.2.1 ≤ 8) (h3 : inR r.2.2.2.2 0 1000000000000 = true) : allN (recB r) (List.length r.2.2.2.1) = validR r := by unfold validR; rw [h1, decide_eq_true h2, h3]; rfl
theorem validR_n {r : T122} (h : isFmt r.1 r.2.1 r.2.2.1 = false ∨ ¬ List.length r.2.2.2.1 ≤ 8 ∨ inR r.2.2.2.2 0 1000000000000 = false ∨ allN (recB r) (List.length r.2.2.2.1) = false) : false = validR r := by
  unfold validR
  rcases h with h | h | h | h
  · rw [h]; rfl
  · rw [decide_eq_false h]; simp
  · rw [h]; simp
  · rw [h]; simp
theorem ok_rec {r : T122} (h : allN (fun j => okPkt r (r.2.2.2.1.getD j (0, ([], [])))) (List.length r.2.2.2.1) = false) : allN (recB r) (List.length r.2.2.2.1) = false := by
  rw [Bool.eq_false_iff] at *
  intro e; apply h
  rw [allN_iff] at *
  intro j hj
  have := e j hj
  unfold recB at this
  rw [Bool.and_eq_true] at this; exact this.1
theorem allN_congr {P Q : Nat → Bool} : ∀ {n : Nat}, (∀ j, j < n → P j = Q j) → allN P n = allN Q n
  | 0, _ => rfl
  | n + 1, h => by simp only [allN]; rw [allN_congr (n := n) fun j hj => h j (by omega), h n (by omega)]
theorem fit_cofs {ps : List T126} (h : Sh.fit s43 ps) : Sh.fit s80 (cofs ps) := ⟨by rw [cofs_len]; exact h.1, fun v hv => by
  obtain ⟨p, hp, rfl⟩ := List.mem_map.1 hv
  exact (h.2 p hp).2.1⟩
theorem rank_cofs {r : T122} (h : allN (fun j => okPkt r (r.2.2.2.1.getD j (0, ([], [])))) (List.length r.2.2.2.1) = true) (hl : List.length r.2.2.2.1 ≤ 8) : decide (((List.length (rowRed (cofs r.2.2.2.1)) : Nat) : Int) = ((List.length (cofs r.2.2.2.1) : Nat) : Int)) = allN (recB r) (List.length r.2.2.2.1) := by
  have hp := allN_iff.1 h
  have hv : ∀ v ∈ cofs r.2.2.2.1, LA.VokB r.2.1.toNat v := fun v hv => by
    obtain ⟨j, hj, rfl⟩ := List.getElem_of_mem hv
    rw [cofs_len] at hj
    have h2 := (okPkt_v (hp j hj)).2
    rw [← cofs_at hj, getD_of_lt (by rw [cofs_len]; exact hj)] at h2
    exact h2
  have e : allN (recB r) (List.length r.2.2.2.1) = allN (LA.insOk (cofs r.2.2.2.1)) (List.length r.2.2.2.1) := allN_congr fun j hj => by
    unfold recB; rw [hp j hj, Bool.true_and]
  rw [e, Bool.eq_iff_iff, decide_eq_true_iff, allN_iff]
  rcases Nat.eq_zero_or_pos (List.length r.2.2.2.1) with h0 | h0
  · rw [List.eq_nil_of_length_eq_zero h0]
    exact ⟨fun _ j hj => absurd hj (by simp), fun _ => rfl⟩
  · have hs := (okPkt_v (hp 0 h0)).1
    have hM : validM (cofs r.2.2.2.1) = true := by
      unfold validM
      rw [if_pos]
      · exact decide_eq_true (by rw [cofs_len]; omega)
      · rw [List.all_eq_true]; intro v hvm
        rw [Bool.and_eq_true]
        refine ⟨validV_of (hv v hvm) (by omega), decide_eq_true ?_⟩
        rw [(hv v hvm).1, (hv _ (LA.getD_in (i := 0) (by rw [cofs_len]; exact h0))).1]
    rw [rowRed_at hM, (hv _ (LA.getD_in (i := 0) (by rw [cofs_len]; exact h0))).1]
    have := LA.rank_full hv
    rw [cofs_len] at this ⊢
    rw [← this]; omega

def S_impl_IsValidRecoder : Sum := { fid := 139, dom := [s122], cod := [(.bool 4)], dp := true, fz := false, pre := fun x => (fun (x0 : T122) => Sh.fit s122 x0) x.1, g := fun x => ((validR x.1), ()) }
def S_impl_IsValidRecoder_tab : List (Nat × Sum) := [(196, S_impl_isFormat), (140, S_impl_InRange), (205, S_impl_NewBasis), (179, S_impl_IsValidPacket), (151, S__P_impl_Basis_insert)]
theorem S_impl_IsValidRecoder_ok : FnOK Try.prog 139 S_impl_IsValidRecoder := by
  refine at_enter 57 (fun x => ⟨[(0, aG [cI x.1.1, cI x.1.2.1, cI x.1.2.2.1, .ro s126 x.1.2.2.2.1, cI x.1.2.2.2.2])], []⟩) Try.func139 rfl (by kernel_rfl) (fun x => rfl) ?_
  rintro w0 Z0 ⟨x0, u⟩ a w
  revert x0
  intro (x0 : T122) hpre hlens h
  replace h : At w0 Z0 [] 57 ⟨[(0, aG [cI x0.1, cI x0.2.1, cI x0.2.2.1, .ro s126 x0.2.2.2.1, cI x0.2.2.2.2])], []⟩ a w := h
  replace hpre : (fun (x0 : T122) => Sh.fit s122 x0) x0 := hpre
  have hl1 : List.length x0.2.2.2.1 ≤ 9223372036854775807 := hlens.1.2.2.2.1.1
  have hT : TabOK Try.prog S_impl_IsValidRecoder_tab := (.cons S_impl_isFormat_ok (.cons S_impl_InRange_ok (.cons S_impl_NewBasis_ok (.cons S_impl_IsValidPacket_ok (.cons S__P_impl_Basis_insert_ok .nil)))))
  have hf0 : Sh.fit s122 x0 := hpre
  have hn0_1 : List.length x0.2.2.2.1 ≤ 1073741824 := hf0.2.2.2.1.1
  refine wp_seq ?_
  refine at_regq (T := S_impl_IsValidRecoder_tab) [{ ids := [1] }] { ts := [1, 2], os := [1] } [] gamOK hT h (by kernel_rfl) trivial ?_
  intro a w h
  refine then_normal ?_
  refine wp_seq ?_
  refine wp_seq ?_
  rcases Bool.eq_false_or_eq_true (!(isFmt x0.1 x0.2.1 x0.2.2.1)) with h1 | h1
  · skip
    have hzh1 : (isFmt x0.1 x0.2.1 x0.2.2.1) = false := notT h1
    refine at_regq (T := S_impl_IsValidRecoder_tab) [{}, {}, {}, {}, {}, {}, {}, { hint := some (aB true) }] { ts := [1, 2, 25], os := [1] } [True, (AV.p (.c (.v (.bool (!(isFmt x0.1 x0.2.1 x0.2.2.1))))) = AV.p (.c (.v (.bool true))))] gamOK hT h (by kernel_rfl) ⟨trivial, hint_bool (h1), trivial⟩ ?_
    intro a w h
    refine then_normal ?_
    refine at_test true h (by kernel_rfl) (fun hh => ?_) (fun hh => nomatch hh)
    refine wp_seq ?_
    refine at_regq (T := S_impl_IsValidRecoder_tab) [] { ts := [1, 2], os := [1] } [] gamOK hT h (by kernel_rfl) trivial ?_
    intro a w h
    refine then_normal ?_
    refine wp_ret ?_
    refine then_ret ?_
    exact at_return (S := S_impl_IsValidRecoder) (x := (x0, ())) (false, ()) [] h (by kernel_rfl) trivial (congrArg (fun z => (z, ())) (show (false) = validR x0 from by (first | (rw [← validR_y (by assumption) (by omega) (by assumption)]; symm; assumption) | exact validR_n (by first | (left; assumption) | (right; left; omega) | (right; right; left; assumption) | (right; right; right; assumption) | (right; right; right; exact ok_rec (by assumption))))))
  · skip
    have hzh1 : (isFmt x0.1 x0.2.1 x0.2.2.1) = true := notF h1
    have hvh1 := isFmt_t (notF h1)
    by_cases h2 : ((List.length x0.2.2.2.1 : Nat) : Int) > 8
    · skip
      refine at_regq (T := S_impl_IsValidRecoder_tab) [{}, {}, {}, {}, {}, {}, {}, { hint := some (aB false) }, {}, {}, {}, {}, { hint := some (aB true) }] { ts := [1, 2, 25], os := [1] } [True, (AV.p (.c (.v (.bool (!(isFmt x0.1 x0.2.1 x0.2.2.1))))) = AV.p (.c (.v (.bool false)))), (AV.p (.c (.v (.bool (decide (((List.length x0.2.2.2.1 : Nat) : Int) > 8))))) = AV.p (.c (.v (.bool true))))] gamOK hT h (by kernel_rfl) ⟨trivial, hint_bool (h1), hint_bool (decide_eq_true h2), trivial⟩ ?_
      intro a w h
      refine then_normal ?_
      refine at_test true h (by kernel_rfl) (fun hh => ?_) (fun hh => nomatch hh)
      refine wp_seq ?_
      refine at_regq (T := S_impl_IsValidRecoder_tab) [] { ts := [1, 2], os := [1] } [] gamOK hT h (by kernel_rfl) trivial ?_
      intro a w h
      refine then_normal ?_
      refine wp_ret ?_
      refine then_ret ?_
      exact at_return (S := S_impl_IsValidRecoder) (x := (x0, ())) (false, ()) [] h (by kernel_rfl) trivial (congrArg (fun z => (z, ())) (show (false) = validR x0 from by (first | (rw [← validR_y (by assumption) (by omega) (by assumption)]; symm; assumption) | exact validR_n (by first | (left; assumption) | (right; left; omega) | (right; right; left; assumption) | (right; right; right; assumption) | (right; right; right; exact ok_rec (by assumption))))))
    · skip
      refine at_regq (T := S_impl_IsValidRecoder_tab) [{}, {}, {}, {}, {}, {}, {}, { hint := some (aB false) }, {}, {}, {}, {}, { hint := some (aB false) }] { ts := [1, 2, 25], os := [1] } [True, (AV.p (.c (.v (.bool (!(isFmt x0.1 x0.2.1 x0.2.2.1))))) = AV.p (.c (.v (.bool false)))), (AV.p (.c (.v (.bool (decide (((List.length x0.2.2.2.1 : Nat) : Int) > 8))))) = AV.p (.c (.v (.bool false)))), True] gamOK hT h (by kernel_rfl) ⟨trivial, hint_bool (h1), hint_bool (decide_eq_false h2), trivial, trivial⟩ ?_
      intro a w h
      refine then_normal ?_
      refine at_test (!(inR x0.2.2.2.2 0 1000000000000)) h (by kernel_rfl) (fun h3 => ?_) (fun h3 => ?_)
      · replace h3 : (inR x0.2.2.2.2 0 1000000000000) = false := notT h3
        have hvh3 := inR_f h3
        refine wp_seq ?_
        refine at_regq (T := S_impl_IsValidRecoder_tab) [] { ts := [1, 2], os := [1] } [] gamOK hT h (by kernel_rfl) trivial ?_
        intro a w h
        refine then_normal ?_
        refine wp_ret ?_
        refine then_ret ?_
        exact at_return (S := S_impl_IsValidRecoder) (x := (x0, ())) (false, ()) [] h (by kernel_rfl) trivial (congrArg (fun z => (z, ())) (show (false) = validR x0 from by (first | (rw [← validR_y (by assumption) (by omega) (by assumption)]; symm; assumption) | exact validR_n (by first | (left; assumption) | (right; left; omega) | (right; right; left; assumption) | (right; right; right; assumption) | (right; right; right; exact ok_rec (by assumption))))))
      · replace h3 : (inR x0.2.2.2.2 0 1000000000000) = true := notF h3
        have hvh3 := inR_t h3
        refine wp_skip ?_
        refine then_normal ?_
        refine wp_seq ?_
        refine at_regq (T := S_impl_IsValidRecoder_tab) [{}, {}, { ids := [2] }, { ids := [3] }] { ts := [1, 2, 3], os := [1, 2, 3] } [True] gamOK hT h (by kernel_rfl) ⟨trivial, trivial⟩ ?_
        intro a w h
        refine then_normal ?_
        refine wp_seq ?_
        refine wp_seq ?_
        refine at_reg (T := S_impl_IsValidRecoder_tab) [] { ts := [1, 2, 3, 30, 31, 32], os := [1, 2, 3] } ⟨[(1, aP 1 0), (2, aB false), (3, aP 3 0), (30, aF s126 x0.2.2.2.1), (31, aI ((List.length x0.2.2.2.1 : Nat) : Int)), (32, aI 0)], [(1, oX 122 [cI x0.1, cI x0.2.1, cI x0.2.2.1, .ro s126 x0.2.2.2.1, cI x0.2.2.2.2]), (2, oR s22 (newBas x0.2.1).2), (3, oX 105 [cI (newBas x0.2.1).1, .sl 2])]⟩ [] gamOK hT h (by kernel_rfl) trivial ?_
        intro a w h
        refine then_normal ?_
        refine wp_block ?_
        replace h := at_out (σ' := ⟨[(1, aP 1 0), (2, aB false), (3, aP 3 0), (30, aF s126 x0.2.2.2.1), (31, aI ((List.length x0.2.2.2.1 : Nat) : Int)), (32, aI 0)], [(1, oX 122 [cI x0.1, cI x0.2.1, cI x0.2.2.1, .ro s126 x0.2.2.2.1, cI x0.2.2.2.2]), (2, oR s22 (newBas x0.2.1).2), (3, oX 105 [cI (newBas x0.2.1).1, .sl 2])]⟩) { ts := [1, 2, 3, 30, 31, 32], os := [1, 2, 3] } h (by kernel_rfl)
        refine at_loop (fun i : Nat => (⟨[(1, aP 1 0), (2, aB false), (3, aP 3 0), (30, aF s126 x0.2.2.2.1), (31, aI ((List.length x0.2.2.2.1 : Nat) : Int)), (32, aI ((i : Nat) : Int))], [(1, oX 122 [cI x0.1, cI x0.2.1, cI x0.2.2.1, .ro s126 x0.2.2.2.1, cI x0.2.2.2.2]), (2, oR s22 (LA.insTo (cofs x0.2.2.2.1) i)), (3, oX 105 [cI x0.2.1, .sl 2])]⟩ : St)) (fun i => (i ≤ (List.length x0.2.2.2.1) ∧ allN (recB x0) i = true)) (fun i => (List.length x0.2.2.2.1) - i) (0) h (st_congr3 (fun (d0 : Int) (d1 : List (List Int)) (d2 : Int) => (⟨[(1, aP 1 0), (2, aB false), (3, aP 3 0), (30, aF s126 x0.2.2.2.1), (31, aI ((List.length x0.2.2.2.1 : Nat) : Int)), (32, aI d2)], [(1, oX 122 [cI x0.1, cI x0.2.1, cI x0.2.2.1, .ro s126 x0.2.2.2.1, cI x0.2.2.2.2]), (2, oR s22 d1), (3, oX 105 [cI d0, .sl 2])]⟩ : St)) (show ((newBas x0.2.1).1 : Int) = x0.2.1 from by first | with_reducible rfl | (first | rfl | (rw [newBas_at (by omega)]; done) | (rw [newBas_at (by omega)]; rfl)) | rfl) (show ((newBas x0.2.1).2 : List (List Int)) = (LA.insTo (cofs x0.2.2.2.1) (0)) from by first | with_reducible rfl | (first | rfl | (rw [newBas_at (by omega)]; done) | (rw [newBas_at (by omega)]; rfl)) | rfl) (show (0 : Int) = (((0) : Nat) : Int) from by first | with_reducible rfl | (first | rfl | (rw [newBas_at (by omega)]; done) | (rw [newBas_at (by omega)]; rfl)) | rfl)) (by exact ⟨Nat.zero_le _, rfl⟩) ?_
        intro i a w hok0 h
        refine wp_seq ?_
        refine at_regq (T := S_impl_IsValidRecoder_tab) [] { ts := [1, 2, 3, 30, 31, 32, 33], os := [1, 2, 3] } [] gamOK hT h (by kernel_rfl) trivial ?_
        intro a w h
        refine then_normal ?_
        refine wp_seq ?_
        refine at_test (decide (((i : Nat) : Int) < ((List.length x0.2.2.2.1 : Nat) : Int))) h (by kernel_rfl) (fun h4 => ?_) (fun h4 => ?_)
        · replace h4 : ((i : Nat) : Int) < ((List.length x0.2.2.2.1 : Nat) : Int) := of_decide_eq_true h4
          have hred := rec_red (r := x0) hok0.1 hok0.2
          have hbP : basP (x0.2.1, (LA.insTo (cofs x0.2.2.2.1) i)) := ⟨by omega, hred⟩
          refine wp_skip ?_
          refine then_normal ?_
          refine wp_seq ?_
          refine wp_block ?_
          refine wp_seq ?_
          refine at_regq (T := S_impl_IsValidRecoder_tab) [{}, {}, { ids := [4] }] { ts := [1, 2, 3, 5, 30, 31, 32], os := [1, 2, 3, 4] } [(0 : Int) ≤ ((i : Nat) : Int) ∧ ((i : Nat) : Int) < ((List.length x0.2.2.2.1 : Nat) : Int)] gamOK hT h (by kernel_rfl) ⟨(by refine ⟨?_, ?_⟩ <;> (first | omega | (simp only [List.length_append, List.length_cons, List.length_nil, List.length_set, List.length_take, List.length_drop, List.length_replicate, List.length_map, Nat.min_def]; omega) | (simp; done) | (simp; omega) | done)), trivial⟩ ?_
          intro a w h
          refine then_normal ?_
          refine wp_seq ?_
          rcases Bool.eq_false_or_eq_true (!(validP (x0.2.2.2.1.getD i (0, ([], []))) x0.2.1 x0.2.2.1)) with h5 | h5
          · skip
            have hzh5 : (validP (x0.2.2.2.1.getD i (0, ([], []))) x0.2.1 x0.2.2.1) = false := notT h5
            refine at_regq (T := S_impl_IsValidRecoder_tab) [{}, {}, {}, {}, {}, {}, { hint := some (aB true) }] { ts := [1, 2, 3, 30, 31, 32, 44, 45, 46, 47, 48, 51, 52, 53, 54, 55], os := [1, 2, 3] } [(fun (x0 : T126) (x1 : Int) (x2 : Int) => Sh.fit s126 x0) (x0.2.2.2.1.getD i (0, ([], []))) x0.2.1 x0.2.2.1, (AV.p (.c (.v (.bool (!(validP (x0.2.2.2.1.getD i (0, ([], []))) x0.2.1 x0.2.2.1))))) = AV.p (.c (.v (.bool true))))] gamOK hT h (by kernel_rfl) ⟨(by exact (Sh.fit_getD hf0.2.2.2.1 i)), hint_bool (h5), trivial⟩ ?_
            intro a w h
            refine then_normal ?_
            refine at_test true h (by kernel_rfl) (fun hh => ?_) (fun hh => nomatch hh)
            refine wp_seq ?_
            refine at_reg (T := S_impl_IsValidRecoder_tab) [] { ts := [1, 2, 3, 30, 31, 32, 44, 45, 46, 47, 48, 51, 52, 53, 54], os := [1, 2, 3] } ⟨[(1, aP 1 0), (2, aB false), (3, aP 3 0), (30, aF s126 x0.2.2.2.1), (31, aI ((List.length x0.2.2.2.1 : Nat) : Int)), (32, aI ((i : Nat) : Int)), (44, .p (.c (.v undef))), (45, .p (.c (.v undef))), (46, .p (.c (.v undef))), (47, .p (.c (.v undef))), (48, .p (.c (.v undef))), (51, .p (.c (.v undef))), (52, .p (.c (.v undef))), (53, .p (.c (.v undef))), (54, .p (.c (.v undef)))], [(1, oX 122 [cI x0.1, cI x0.2.1, cI x0.2.2.1, .ro s126 x0.2.2.2.1, cI x0.2.2.2.2]), (2, oR s22 (LA.insTo (cofs x0.2.2.2.1) i)), (3, oX 105 [cI x0.2.1, .sl 2])]⟩ [] gamOK hT h (by kernel_rfl) trivial ?_
            intro a w h
            refine then_normal ?_
            refine wp_ret ?_
            refine in_ret ?_
            refine then_ret ?_
            have hs6 : (allN (recB x0) (List.length x0.2.2.2.1)) = false := by exact allN_at (i := i) (by omega) (by exact recB_f (by omega) (by first | (left; assumption) | (right; left; omega) | (right; right; assumption)))
            refine then_ret ?_
            refine in_ret ?_
            refine then_ret ?_
            exact at_return (S := S_impl_IsValidRecoder) (x := (x0, ())) (false, ()) [] h (by kernel_rfl) trivial (congrArg (fun z => (z, ())) (show (false) = validR x0 from by (first | (rw [← validR_y (by assumption) (by omega) (by assumption)]; symm; assumption) | exact validR_n (by first | (left; assumption) | (right; left; omega) | (right; right; left; assumption) | (right; right; right; assumption) | (right; right; right; exact ok_rec (by assumption))))))
          · skip
            have hzh5 : (validP (x0.2.2.2.1.getD i (0, ([], []))) x0.2.1 x0.2.2.1) = true := notF h5
            have hvh5 := validP_n (notF h5)
            by_cases h7 : (x0.2.2.2.1.getD i (0, ([], []))).1 = x0.1
            · skip
              refine at_regq (T := S_impl_IsValidRecoder_tab) [{}, {}, {}, {}, {}, {}, { hint := some (aB false) }, {}, {}, {}, {}, {}, { hint := some (aB false) }, {}, {}, {}, {}, { ids := [5] }] { ts := [1, 2, 3, 30, 31, 32, 44, 45, 46, 47, 48, 51, 52, 53, 54, 55], os := [1, 3, 4, 5] } [(fun (x0 : T126) (x1 : Int) (x2 : Int) => Sh.fit s126 x0) (x0.2.2.2.1.getD i (0, ([], []))) x0.2.1 x0.2.2.1, (AV.p (.c (.v (.bool (!(validP (x0.2.2.2.1.getD i (0, ([], []))) x0.2.1 x0.2.2.1))))) = AV.p (.c (.v (.bool false)))), (AV.p (.c (.v (.bool (!decide ((x0.2.2.2.1.getD i (0, ([], []))).1 = x0.1))))) = AV.p (.c (.v (.bool false)))), (fun (x0 : T105) (x1 : (List Int)) => Sh.fit s105 x0 ∧ Sh.fit s22 x1 ∧ redP x0 x1) (x0.2.1, (LA.insTo (cofs x0.2.2.2.1) i)) (x0.2.2.2.1.getD i (0, ([], []))).2.1] gamOK hT h (by kernel_rfl) ⟨(by exact (Sh.fit_getD hf0.2.2.2.1 i)), hint_bool (h5), hint_bool (ndT h7), (by (have hpv := validP_t (p := (x0.2.2.2.1.getD i (0, ([], [])))) (by assumption); have hrw : LA.VokB x0.2.1.toNat (x0.2.2.2.1.getD i (0, ([], []))).2.1 := ⟨by have := hpv.2.1; omega, (validV_t hpv.2.2.2.1).2.1⟩; exact ⟨basP_fit hbP, fitV hrw (by omega), hbP, hrw⟩)), trivial⟩ ?_
              intro a w h
              refine then_normal ?_
              refine at_test (!(insD (x0.2.1, (LA.insTo (cofs x0.2.2.2.1) i)) (x0.2.2.2.1.getD i (0, ([], []))).2.1)) h (by kernel_rfl) (fun h8 => ?_) (fun h8 => ?_)
              · replace h8 : (insD (x0.2.1, (LA.insTo (cofs x0.2.2.2.1) i)) (x0.2.2.2.1.getD i (0, ([], []))).2.1) = false := notT h8
                refine wp_seq ?_
                refine at_reg (T := S_impl_IsValidRecoder_tab) [] { ts := [1, 2, 3, 30, 31, 32, 44, 45, 46, 47, 48, 51, 52, 53, 54], os := [1, 3, 4, 5] } ⟨[(1, aP 1 0), (2, aB false), (3, aP 3 0), (30, aF s126 x0.2.2.2.1), (31, aI ((List.length x0.2.2.2.1 : Nat) : Int)), (32, aI ((i : Nat) : Int)), (44, aP 4 0), (45, aI (x0.2.2.2.1.getD i (0, ([], []))).1), (46, aP 1 0), (47, aI x0.1), (48, aB false), (51, aP 4 1), (52, aF (.int 3) (x0.2.2.2.1.getD i (0, ([], []))).2.1), (53, aB (insD (x0.2.1, (LA.insTo (cofs x0.2.2.2.1) i)) (x0.2.2.2.1.getD i (0, ([], []))).2.1)), (54, aB (!(insD (x0.2.1, (LA.insTo (cofs x0.2.2.2.1) i)) (x0.2.2.2.1.getD i (0, ([], []))).2.1)))], [(1, oX 122 [cI x0.1, cI x0.2.1, cI x0.2.2.1, .ro s126 x0.2.2.2.1, cI x0.2.2.2.2]), (3, oX 105 [cI (insU (x0.2.1, (LA.insTo (cofs x0.2.2.2.1) i)) (x0.2.2.2.1.getD i (0, ([], []))).2.1).1, .sl 5]), (4, oX 126 [cI (x0.2.2.2.1.getD i (0, ([], []))).1, .ro (.int 3) (x0.2.2.2.1.getD i (0, ([], []))).2.1, .ro (.int 3) (x0.2.2.2.1.getD i (0, ([], []))).2.2]), (5, oR s22 (insU (x0.2.1, (LA.insTo (cofs x0.2.2.2.1) i)) (x0.2.2.2.1.getD i (0, ([], []))).2.1).2)]⟩ [] gamOK hT h (by kernel_rfl) trivial ?_
                intro a w h
                refine then_normal ?_
                refine wp_ret ?_
                refine in_ret ?_
                refine then_ret ?_
                have hs9 : (allN (recB x0) (List.length x0.2.2.2.1)) = false := by exact allN_at (i := i) (by omega) (by exact recB_f (by omega) (by first | (left; assumption) | (right; left; omega) | (right; right; assumption)))
                refine then_ret ?_
                refine in_ret ?_
                refine then_ret ?_
                exact at_return (S := S_impl_IsValidRecoder) (x := (x0, ())) (false, ()) [] h (by kernel_rfl) trivial (congrArg (fun z => (z, ())) (show (false) = validR x0 from by (first | (rw [← validR_y (by assumption) (by omega) (by assumption)]; symm; assumption) | exact validR_n (by first | (left; assumption) | (right; left; omega) | (right; right; left; assumption) | (right; right; right; assumption) | (right; right; right; exact ok_rec (by assumption))))))
              · replace h8 : (insD (x0.2.1, (LA.insTo (cofs x0.2.2.2.1) i)) (x0.2.2.2.1.getD i (0, ([], []))).2.1) = true := notF h8
                refine wp_skip ?_
                refine in_normal ?_
                refine then_normal ?_
                refine at_reg (T := S_impl_IsValidRecoder_tab) [{ nw := true }] { ts := [1, 2, 3, 30, 31, 32, 44, 45, 46, 47, 48, 51, 52, 53, 54], os := [1, 3, 4, 5] } ⟨[(1, aP 1 0), (2, aB false), (3, aP 3 0), (30, aF s126 x0.2.2.2.1), (31, aI ((List.length x0.2.2.2.1 : Nat) : Int)), (32, aI (((i : Nat) : Int) + 1)), (44, aP 4 0), (45, aI (x0.2.2.2.1.getD i (0, ([], []))).1), (46, aP 1 0), (47, aI x0.1), (48, aB false), (51, aP 4 1), (52, aF (.int 3) (x0.2.2.2.1.getD i (0, ([], []))).2.1), (53, aB (insD (x0.2.1, (LA.insTo (cofs x0.2.2.2.1) i)) (x0.2.2.2.1.getD i (0, ([], []))).2.1)), (54, aB (!(insD (x0.2.1, (LA.insTo (cofs x0.2.2.2.1) i)) (x0.2.2.2.1.getD i (0, ([], []))).2.1)))], [(1, oX 122 [cI x0.1, cI x0.2.1, cI x0.2.2.1, .ro s126 x0.2.2.2.1, cI x0.2.2.2.2]), (3, oX 105 [cI (insU (x0.2.1, (LA.insTo (cofs x0.2.2.2.1) i)) (x0.2.2.2.1.getD i (0, ([], []))).2.1).1, .sl 5]), (4, oX 126 [cI (x0.2.2.2.1.getD i (0, ([], []))).1, .ro (.int 3) (x0.2.2.2.1.getD i (0, ([], []))).2.1, .ro (.int 3) (x0.2.2.2.1.getD i (0, ([], []))).2.2]), (5, oR s22 (insU (x0.2.1, (LA.insTo (cofs x0.2.2.2.1) i)) (x0.2.2.2.1.getD i (0, ([], []))).2.1).2)]⟩ [I64 (((i : Nat) : Int) + 1)] gamOK hT h (by kernel_rfl) ⟨⟨by first | omega | (simp only [List.length_append, List.length_cons, List.length_nil, List.length_set, List.length_take, List.length_drop, List.length_replicate, List.length_map, Nat.min_def]; omega) | (simp; done) | (simp; omega) | done, by first | omega | (simp only [List.length_append, List.length_cons, List.length_nil, List.length_set, List.length_take, List.length_drop, List.length_replicate, List.length_map, Nat.min_def]; omega) | (simp; done) | (simp; omega) | done⟩, trivial⟩ ?_
                intro a w h
                replace h := at_out (σ' := ⟨[(1, aP 1 0), (2, aB false), (3, aP 3 0), (30, aF s126 x0.2.2.2.1), (31, aI ((List.length x0.2.2.2.1 : Nat) : Int)), (32, aI (((i : Nat) : Int) + 1))], [(1, oX 122 [cI x0.1, cI x0.2.1, cI x0.2.2.1, .ro s126 x0.2.2.2.1, cI x0.2.2.2.2]), (2, oR s22 (insU (x0.2.1, (LA.insTo (cofs x0.2.2.2.1) i)) (x0.2.2.2.1.getD i (0, ([], []))).2.1).2), (3, oX 105 [cI (insU (x0.2.1, (LA.insTo (cofs x0.2.2.2.1) i)) (x0.2.2.2.1.getD i (0, ([], []))).2.1).1, .sl 2])]⟩) { ts := [1, 2, 3, 30, 31, 32], os := [1, 5, 3], rn := [(5, 2)] } h (by kernel_rfl)
                exact ⟨i + 1, at_eq h (st_congr3 (fun (d0 : Int) (d1 : List (List Int)) (d2 : Int) => (⟨[(1, aP 1 0), (2, aB false), (3, aP 3 0), (30, aF s126 x0.2.2.2.1), (31, aI ((List.length x0.2.2.2.1 : Nat) : Int)), (32, aI d2)], [(1, oX 122 [cI x0.1, cI x0.2.1, cI x0.2.2.1, .ro s126 x0.2.2.2.1, cI x0.2.2.2.2]), (2, oR s22 d1), (3, oX 105 [cI d0, .sl 2])]⟩ : St)) (show ((insU (x0.2.1, (LA.insTo (cofs x0.2.2.2.1) i)) (x0.2.2.2.1.getD i (0, ([], []))).2.1).1 : Int) = x0.2.1 from by first | with_reducible rfl | (rfl) | rfl) (show ((insU (x0.2.1, (LA.insTo (cofs x0.2.2.2.1) i)) (x0.2.2.2.1.getD i (0, ([], []))).2.1).2 : List (List Int)) = (LA.insTo (cofs x0.2.2.2.1) (i + 1)) from by first | with_reducible rfl | (exact insTo_next (by omega)) | rfl) (show (((i : Nat) : Int) + 1 : Int) = (((i + 1) : Nat) : Int) from by first | with_reducible rfl | (omega) | rfl)), (by exact ⟨by omega, allN_succ hok0.2 (by exact recB_t (by omega) (by assumption) (by omega) (by assumption))⟩), (by omega)⟩
            · skip
              refine at_regq (T := S_impl_IsValidRecoder_tab) [{}, {}, {}, {}, {}, {}, { hint := some (aB false) }, {}, {}, {}, {}, {}, { hint := some (aB true) }] { ts := [1, 2, 3, 30, 31, 32, 44, 45, 46, 47, 48, 51, 52, 53, 54, 55], os := [1, 2, 3, 4] } [(fun (x0 : T126) (x1 : Int) (x2 : Int) => Sh.fit s126 x0) (x0.2.2.2.1.getD i (0, ([], []))) x0.2.1 x0.2.2.1, (AV.p (.c (.v (.bool (!(validP (x0.2.2.2.1.getD i (0, ([], []))) x0.2.1 x0.2.2.1))))) = AV.p (.c (.v (.bool false)))), (AV.p (.c (.v (.bool (!decide ((x0.2.2.2.1.getD i (0, ([], []))).1 = x0.1))))) = AV.p (.c (.v (.bool true))))] gamOK hT h (by kernel_rfl) ⟨(by exact (Sh.fit_getD hf0.2.2.2.1 i)), hint_bool (h5), hint_bool (ndF h7), trivial⟩ ?_
              intro a w h
              refine then_normal ?_
              refine at_test true h (by kernel_rfl) (fun hh => ?_) (fun hh => nomatch hh)
              refine wp_seq ?_
              refine at_reg (T := S_impl_IsValidRecoder_tab) [] { ts := [1, 2, 3, 30, 31, 32, 44, 45, 46, 47, 48, 51, 52, 53, 54], os := [1, 2, 3, 4] } ⟨[(1, aP 1 0), (2, aB false), (3, aP 3 0), (30, aF s126 x0.2.2.2.1), (31, aI ((List.length x0.2.2.2.1 : Nat) : Int)), (32, aI ((i : Nat) : Int)), (44, aP 4 0), (45, aI (x0.2.2.2.1.getD i (0, ([], []))).1), (46, aP 1 0), (47, aI x0.1), (48, aB true), (51, .p (.c (.v undef))), (52, .p (.c (.v undef))), (53, .p (.c (.v undef))), (54, .p (.c (.v undef)))], [(1, oX 122 [cI x0.1, cI x0.2.1, cI x0.2.2.1, .ro s126 x0.2.2.2.1, cI x0.2.2.2.2]), (2, oR s22 (LA.insTo (cofs x0.2.2.2.1) i)), (3, oX 105 [cI x0.2.1, .sl 2]), (4, oX 126 [cI (x0.2.2.2.1.getD i (0, ([], []))).1, .ro (.int 3) (x0.2.2.2.1.getD i (0, ([], []))).2.1, .ro (.int 3) (x0.2.2.2.1.getD i (0, ([], []))).2.2])]⟩ [] gamOK hT h (by kernel_rfl) trivial ?_
              intro a w h
              refine then_normal ?_
              refine wp_ret ?_
              refine in_ret ?_
              refine then_ret ?_
              have hs10 : (allN (recB x0) (List.length x0.2.2.2.1)) = false := by exact allN_at (i := i) (by omega) (by exact recB_f (by omega) (by first | (left; assumption) | (right; left; omega) | (right; right; assumption)))
              refine then_ret ?_
              refine in_ret ?_
              refine then_ret ?_
              exact at_return (S := S_impl_IsValidRecoder) (x := (x0, ())) (false, ()) [] h (by kernel_rfl) trivial (congrArg (fun z => (z, ())) (show (false) = validR x0 from by (first | (rw [← validR_y (by assumption) (by omega) (by assumption)]; symm; assumption) | exact validR_n (by first | (left; assumption) | (right; left; omega) | (right; right; left; assumption) | (right; right; right; assumption) | (right; right; right; exact ok_rec (by assumption))))))
        · replace h4 : ¬ (((i : Nat) : Int) < ((List.length x0.2.2.2.1 : Nat) : Int)) := of_decide_eq_false h4
          refine wp_exit ?_
          refine then_exit ?_
          have hs11 : (allN (recB x0) (List.length x0.2.2.2.1)) = true := by exact allN_eq (by omega) hok0.1 hok0.2
          refine then_exit ?_
          refine in_hit ?_
          refine then_normal ?_
          refine wp_seq ?_
          refine at_regq (T := S_impl_IsValidRecoder_tab) [] { ts := [2], os := [] } [] gamOK hT h (by kernel_rfl) trivial ?_
          intro a w h
          refine then_normal ?_
          refine wp_ret ?_
          exact at_return (S := S_impl_IsValidRecoder) (x := (x0, ())) (true, ()) [] h (by kernel_rfl) trivial (congrArg (fun z => (z, ())) (show (true) = validR x0 from by (first | (rw [← validR_y (by assumption) (by omega) (by assumption)]; symm; assumption) | exact validR_n (by first | (left; assumption) | (right; left; omega) | (right; right; left; assumption) | (right; right; right; assumption) | (right; right; right; exact ok_rec (by assumption))))))

def D_spec_Rank := (fun (m : List (List Int)) => ((List.length (rowRed m) : Nat) : Int))
def S_spec_Rank : Sum := { fid := 204, dom := [s80], cod := [(.int 3)], dp := true, fz := false, pre := fun x => (fun (x0 : (List (List Int))) => Sh.fit s80 x0) x.1, g := fun x => ((D_spec_Rank x.1), ()) }
def S_spec_Rank_tab : List (Nat × Sum) := [(245, S_spec_RowReduce)]
theorem S_spec_Rank_ok : FnOK Try.prog 204 S_spec_Rank := by
  refine at_enter 6 (fun x => ⟨[(0, aF s22 x.1)], []⟩) Try.func204 rfl (by kernel_rfl) (fun x => rfl) ?_
  rintro w0 Z0 ⟨x0, u⟩ a w
  revert x0
  intro (x0 : (List (List Int))) hpre hlens h
  replace h : At w0 Z0 [] 6 ⟨[(0, aF s22 x0)], []⟩ a w := h
  replace hpre : (fun (x0 : (List (List Int))) => Sh.fit s80 x0) x0 := hpre
  have hl1 : List.length x0 ≤ 9223372036854775807 := hlens.1.1
  have hT : TabOK Try.prog S_spec_Rank_tab := (.cons S_spec_RowReduce_ok .nil)
  have hf0 : Sh.fit s80 x0 := hpre
  have hn0_1 : List.length x0 ≤ 1073741824 := hf0.1
  refine wp_seq ?_
  refine at_regq (T := S_spec_Rank_tab) [] { ts := [0, 2], os := [] } [] gamOK hT h (by kernel_rfl) trivial ?_
  intro a w h
  refine then_normal ?_
  refine wp_seq ?_
  refine at_regq (T := S_spec_Rank_tab) [{}, { ids := [1] }] { ts := [2], os := [] } [(fun (x0 : (List (List Int))) => Sh.fit s80 x0) x0] gamOK hT h (by kernel_rfl) ⟨(by exact hf0), trivial⟩ ?_
  intro a w h
  refine then_normal ?_
  refine wp_ret ?_
  exact at_return (S := S_spec_Rank) (x := (x0, ())) (((List.length (rowRed x0) : Nat) : Int), ()) [] h (by kernel_rfl) trivial (congrArg (fun z => (z, ())) (show (((List.length (rowRed x0) : Nat) : Int)) = D_spec_Rank x0 from by unfold D_spec_Rank; rfl))

def S_spec_IsValidRecoder : Sum := { fid := 137, dom := [s122], cod := [(.bool 4)], dp := true, fz := false, pre := fun x => (fun (x0 : T122) => Sh.fit s122 x0) x.1, g := fun x => ((validR x.1), ()) }
def S_spec_IsValidRecoder_tab : List (Nat × Sum) := [(191, S_spec_l14Range), (138, S_spec_l1In), (176, S_spec_IsValidPacket), (204, S_spec_Rank)]
theorem S_spec_IsValidRecoder_ok : FnOK Try.prog 137 S_spec_IsValidRecoder := by
  refine at_enter 69 (fun x => ⟨[(0, aG [cI x.1.1, cI x.1.2.1, cI x.1.2.2.1, .ro s126 x.1.2.2.2.1, cI x.1.2.2.2.2])], []⟩) Try.func137 rfl (by kernel_rfl) (fun x => rfl) ?_
  rintro w0 Z0 ⟨x0, u⟩ a w
  revert x0
  intro (x0 : T122) hpre hlens h
  replace h : At w0 Z0 [] 69 ⟨[(0, aG [cI x0.1, cI x0.2.1, cI x0.2.2.1, .ro s126 x0.2.2.2.1, cI x0.2.2.2.2])], []⟩ a w := h
  replace hpre : (fun (x0 : T122) => Sh.fit s122 x0) x0 := hpre
  have hl1 : List.length x0.2.2.2.1 ≤ 9223372036854775807 := hlens.1.2.2.2.1.1
  have hT : TabOK Try.prog S_spec_IsValidRecoder_tab := (.cons S_spec_l14Range_ok (.cons S_spec_l1In_ok (.cons S_spec_IsValidPacket_ok (.cons S_spec_Rank_ok .nil))))
  have hf0 : Sh.fit s122 x0 := hpre
  have hn0_1 : List.length x0.2.2.2.1 ≤ 1073741824 := hf0.2.2.2.1.1
  refine wp_seq ?_
  refine at_regq (T := S_spec_IsValidRecoder_tab) [{ ids := [1] }] { ts := [1, 2], os := [1] } [] gamOK hT h (by kernel_rfl) trivial ?_
  intro a w h
  refine then_normal ?_
  refine wp_seq ?_
  refine wp_seq ?_
  rcases Bool.eq_false_or_eq_true (!(isFmt x0.1 x0.2.1 x0.2.2.1)) with h1 | h1
  · skip
    have hzh1 : (isFmt x0.1 x0.2.1 x0.2.2.1) = false := notT h1
    refine at_regq (T := S_spec_IsValidRecoder_tab) [{}, {}, {}, {}, {}, {}, {}, { hint := some (aB true) }] { ts := [1, 2, 24], os := [1] } [True, (AV.p (.c (.v (.bool (!(isFmt x0.1 x0.2.1 x0.2.2.1))))) = AV.p (.c (.v (.bool true))))] gamOK hT h (by kernel_rfl) ⟨trivial, hint_bool (h1), trivial⟩ ?_
    intro a w h
    refine then_normal ?_
    refine at_test true h (by kernel_rfl) (fun hh => ?_) (fun hh => nomatch hh)
    refine wp_seq ?_
    refine at_regq (T := S_spec_IsValidRecoder_tab) [] { ts := [1, 2], os := [1] } [] gamOK hT h (by kernel_rfl) trivial ?_
    intro a w h
    refine then_normal ?_
    refine wp_ret ?_
    refine then_ret ?_
    exact at_return (S := S_spec_IsValidRecoder) (x := (x0, ())) (false, ()) [] h (by kernel_rfl) trivial (congrArg (fun z => (z, ())) (show (false) = validR x0 from by (first | (rw [← validR_y (by assumption) (by omega) (by assumption)]; exact rank_cofs (by assumption) (by omega)) | exact validR_n (by first | (left; assumption) | (right; left; omega) | (right; right; left; assumption) | (right; right; right; assumption) | (right; right; right; exact ok_rec (by assumption))))))
  · skip
    have hzh1 : (isFmt x0.1 x0.2.1 x0.2.2.1) = true := notF h1
    have hvh1 := isFmt_t (notF h1)
    by_cases h2 : ((List.length x0.2.2.2.1 : Nat) : Int) > 8
    · skip
      refine at_regq (T := S_spec_IsValidRecoder_tab) [{}, {}, {}, {}, {}, {}, {}, { hint := some (aB false) }, {}, {}, {}, {}, { hint := some (aB true) }] { ts := [1, 2, 24], os := [1] } [True, (AV.p (.c (.v (.bool (!(isFmt x0.1 x0.2.1 x0.2.2.1))))) = AV.p (.c (.v (.bool false)))), (AV.p (.c (.v (.bool (decide (((List.length x0.2.2.2.1 : Nat) : Int) > 8))))) = AV.p (.c (.v (.bool true))))] gamOK hT h (by kernel_rfl) ⟨trivial, hint_bool (h1), hint_bool (decide_eq_true h2), trivial⟩ ?_
      intro a w h
      refine then_normal ?_
      refine at_test true h (by kernel_rfl) (fun hh => ?_) (fun hh => nomatch hh)
      refine wp_seq ?_
      refine at_regq (T := S_spec_IsValidRecoder_tab) [] { ts := [1, 2], os := [1] } [] gamOK hT h (by kernel_rfl) trivial ?_
      intro a w h
      refine then_normal ?_
      refine wp_ret ?_
      refine then_ret ?_
      exact at_return (S := S_spec_IsValidRecoder) (x := (x0, ())) (false, ()) [] h (by kernel_rfl) trivial (congrArg (fun z => (z, ())) (show (false) = validR x0 from by (first | (rw [← validR_y (by assumption) (by omega) (by assumption)]; exact rank_cofs (by assumption) (by omega)) | exact validR_n (by first | (left; assumption) | (right; left; omega) | (right; right; left; assumption) | (right; right; right; assumption) | (right; right; right; exact ok_rec (by assumption))))))
    · skip
      refine at_regq (T := S_spec_IsValidRecoder_tab) [{}, {}, {}, {}, {}, {}, {}, { hint := some (aB false) }, {}, {}, {}, {}, { hint := some (aB false) }] { ts := [1, 2, 24], os := [1] } [True, (AV.p (.c (.v (.bool (!(isFmt x0.1 x0.2.1 x0.2.2.1))))) = AV.p (.c (.v (.bool false)))), (AV.p (.c (.v (.bool (decide (((List.length x0.2.2.2.1 : Nat) : Int) > 8))))) = AV.p (.c (.v (.bool false)))), True] gamOK hT h (by kernel_rfl) ⟨trivial, hint_bool (h1), hint_bool (decide_eq_false h2), trivial, trivial⟩ ?_
      intro a w h
      refine then_normal ?_
      refine at_test (!(inR x0.2.2.2.2 0 1000000000000)) h (by kernel_rfl) (fun h3 => ?_) (fun h3 => ?_)
      · replace h3 : (inR x0.2.2.2.2 0 1000000000000) = false := notT h3
        have hvh3 := inR_f h3
        refine wp_seq ?_
        refine at_regq (T := S_spec_IsValidRecoder_tab) [] { ts := [1, 2], os := [1] } [] gamOK hT h (by kernel_rfl) trivial ?_
        intro a w h
        refine then_normal ?_
        refine wp_ret ?_
        refine then_ret ?_
        exact at_return (S := S_spec_IsValidRecoder) (x := (x0, ())) (false, ()) [] h (by kernel_rfl) trivial (congrArg (fun z => (z, ())) (show (false) = validR x0 from by (first | (rw [← validR_y (by assumption) (by omega) (by assumption)]; exact rank_cofs (by assumption) (by omega)) | exact validR_n (by first | (left; assumption) | (right; left; omega) | (right; right; left; assumption) | (right; right; right; assumption) | (right; right; right; exact ok_rec (by assumption))))))
      · replace h3 : (inR x0.2.2.2.2 0 1000000000000) = true := notF h3
        have hvh3 := inR_t h3
        refine wp_skip ?_
        refine then_normal ?_
        refine wp_seq ?_
        refine at_regq (T := S_spec_IsValidRecoder_tab) [{ ids := [2], dp := false }] { ts := [1, 2, 3], os := [1, 2] } [] gamOK hT h (by kernel_rfl) trivial ?_
        intro a w h
        refine then_normal ?_
        refine wp_seq ?_
        refine wp_seq ?_
        refine at_reg (T := S_spec_IsValidRecoder_tab) [] { ts := [1, 2, 3, 4], os := [1, 2] } ⟨[(1, aP 1 0), (2, aB false), (3, aS 2), (4, aI 0)], [(1, oX 122 [cI x0.1, cI x0.2.1, cI x0.2.2.1, .ro s126 x0.2.2.2.1, cI x0.2.2.2.2]), (2, oF s22 ([] : List (List Int)))]⟩ [] gamOK hT h (by kernel_rfl) trivial ?_
        intro a w h
        refine then_normal ?_
        refine wp_block ?_
        replace h := at_out (σ' := ⟨[(1, aP 1 0), (2, aB false), (3, aS 2), (4, aI 0)], [(1, oX 122 [cI x0.1, cI x0.2.1, cI x0.2.2.1, .ro s126 x0.2.2.2.1, cI x0.2.2.2.2]), (2, oF s22 ([] : List (List Int)))]⟩) { ts := [1, 2, 3, 4], os := [1, 2] } h (by kernel_rfl)
        refine at_loop (fun i : Nat => (⟨[(1, aP 1 0), (2, aB false), (3, aS 2), (4, aI ((i : Nat) : Int))], [(1, oX 122 [cI x0.1, cI x0.2.1, cI x0.2.2.1, .ro s126 x0.2.2.2.1, cI x0.2.2.2.2]), (2, oF s22 (cofs (List.take i x0.2.2.2.1)))]⟩ : St)) (fun i => (i ≤ (List.length x0.2.2.2.1) ∧ allN (fun j => okPkt x0 (x0.2.2.2.1.getD j (0, ([], [])))) i = true)) (fun i => (List.length x0.2.2.2.1) - i) (0) h (st_congr2 (fun (d0 : List (List Int)) (d1 : Int) => (⟨[(1, aP 1 0), (2, aB false), (3, aS 2), (4, aI d1)], [(1, oX 122 [cI x0.1, cI x0.2.1, cI x0.2.2.1, .ro s126 x0.2.2.2.1, cI x0.2.2.2.2]), (2, oF s22 d0)]⟩ : St)) (show (([] : List (List Int)) : List (List Int)) = (cofs (List.take (0) x0.2.2.2.1)) from by first | with_reducible rfl | (rfl) | rfl) (show (0 : Int) = (((0) : Nat) : Int) from by first | with_reducible rfl | (rfl) | rfl)) (by exact ⟨Nat.zero_le _, rfl⟩) ?_
        intro i a w hok0 h
        have hcl := cofs_len (List.take i x0.2.2.2.1)
        have hlt := len_take_le (xs := x0.2.2.2.1) i
        refine wp_seq ?_
        refine wp_seq ?_
        refine at_regq (T := S_spec_IsValidRecoder_tab) [] { ts := [1, 2, 3, 4, 30], os := [1, 2] } [] gamOK hT h (by kernel_rfl) trivial ?_
        intro a w h
        refine then_normal ?_
        refine at_test (decide (((i : Nat) : Int) < ((List.length x0.2.2.2.1 : Nat) : Int))) h (by kernel_rfl) (fun h4 => ?_) (fun h4 => ?_)
        · replace h4 : ((i : Nat) : Int) < ((List.length x0.2.2.2.1 : Nat) : Int) := of_decide_eq_true h4
          refine wp_skip ?_
          refine then_normal ?_
          refine wp_seq ?_
          refine wp_block ?_
          refine wp_seq ?_
          refine wp_seq ?_
          rcases Bool.eq_false_or_eq_true (!(validP (x0.2.2.2.1.getD i (0, ([], []))) x0.2.1 x0.2.2.1)) with h5 | h5
          · skip
            have hzh5 : (validP (x0.2.2.2.1.getD i (0, ([], []))) x0.2.1 x0.2.2.1) = false := notT h5
            refine at_anyq (T := S_spec_IsValidRecoder_tab) [{}, {}, {}, {}, {}, {}, {}, {}, {}, {}, { hint := some (aB true) }, {}, {}, {}, {}, {}, {}, {}, {}, {}, {}, {}] { ts := [1, 2, 3, 4, 45, 46, 47, 48, 49, 50, 51, 52, 53, 54], os := [1, 2] } [(0 : Int) ≤ ((i : Nat) : Int) ∧ ((i : Nat) : Int) < ((List.length x0.2.2.2.1 : Nat) : Int), (fun (x0 : T126) (x1 : Int) (x2 : Int) => Sh.fit s126 x0) (x0.2.2.2.1.getD i (0, ([], []))) x0.2.1 x0.2.2.1, (AV.p (.c (.v (.bool (!(validP (x0.2.2.2.1.getD i (0, ([], []))) x0.2.1 x0.2.2.1))))) = AV.p (.c (.v (.bool true))))] gamOK hT mixed h (by kernel_rfl) ⟨(by refine ⟨?_, ?_⟩ <;> (first | omega | (simp only [List.length_append, List.length_cons, List.length_nil, List.length_set, List.length_take, List.length_drop, List.length_replicate, List.length_map, Nat.min_def]; omega) | (simp; done) | (simp; omega) | done)), (by exact (Sh.fit_getD hf0.2.2.2.1 i)), hint_bool (h5), trivial⟩ ?_
            intro a w h
            refine then_normal ?_
            refine at_test true h (by kernel_rfl) (fun hh => ?_) (fun hh => nomatch hh)
            refine wp_seq ?_
            refine at_regq (T := S_spec_IsValidRecoder_tab) [] { ts := [1, 2, 3, 4, 45, 46, 47, 48, 49, 50, 51, 52, 53], os := [1, 2] } [] gamOK hT h (by kernel_rfl) trivial ?_
            intro a w h
            refine then_normal ?_
            refine wp_ret ?_
            refine then_ret ?_
            refine in_ret ?_
            refine then_ret ?_
            have hs6 : (allN (fun j => okPkt x0 (x0.2.2.2.1.getD j (0, ([], [])))) (List.length x0.2.2.2.1)) = false := by exact allN_at (i := i) (by omega) (by exact okPkt_f (by first | (left; assumption) | (right; omega)))
            refine then_ret ?_
            refine in_ret ?_
            refine then_ret ?_
            exact at_return (S := S_spec_IsValidRecoder) (x := (x0, ())) (false, ()) [] h (by kernel_rfl) trivial (congrArg (fun z => (z, ())) (show (false) = validR x0 from by (first | (rw [← validR_y (by assumption) (by omega) (by assumption)]; exact rank_cofs (by assumption) (by omega)) | exact validR_n (by first | (left; assumption) | (right; left; omega) | (right; right; left; assumption) | (right; right; right; assumption) | (right; right; right; exact ok_rec (by assumption))))))
          · skip
            have hzh5 : (validP (x0.2.2.2.1.getD i (0, ([], []))) x0.2.1 x0.2.2.1) = true := notF h5
            have hvh5 := validP_n (notF h5)
            refine at_anyq (T := S_spec_IsValidRecoder_tab) [{}, {}, {}, {}, {}, {}, {}, {}, {}, {}, { hint := some (aB false) }, {}, {}, {}, {}, {}, {}, {}, {}, {}, {}, {}] { ts := [1, 2, 3, 4, 45, 46, 47, 48, 49, 50, 51, 52, 53, 54], os := [1, 2] } [(0 : Int) ≤ ((i : Nat) : Int) ∧ ((i : Nat) : Int) < ((List.length x0.2.2.2.1 : Nat) : Int), (fun (x0 : T126) (x1 : Int) (x2 : Int) => Sh.fit s126 x0) (x0.2.2.2.1.getD i (0, ([], []))) x0.2.1 x0.2.2.1, (AV.p (.c (.v (.bool (!(validP (x0.2.2.2.1.getD i (0, ([], []))) x0.2.1 x0.2.2.1))))) = AV.p (.c (.v (.bool false)))), (0 : Int) ≤ ((i : Nat) : Int) ∧ ((i : Nat) : Int) < ((List.length x0.2.2.2.1 : Nat) : Int)] gamOK hT mixed h (by kernel_rfl) ⟨(by refine ⟨?_, ?_⟩ <;> (first | omega | (simp only [List.length_append, List.length_cons, List.length_nil, List.length_set, List.length_take, List.length_drop, List.length_replicate, List.length_map, Nat.min_def]; omega) | (simp; done) | (simp; omega) | done)), (by exact (Sh.fit_getD hf0.2.2.2.1 i)), hint_bool (h5), (by refine ⟨?_, ?_⟩ <;> (first | omega | (simp only [List.length_append, List.length_cons, List.length_nil, List.length_set, List.length_take, List.length_drop, List.length_replicate, List.length_map, Nat.min_def]; omega) | (simp; done) | (simp; omega) | done)), trivial⟩ ?_
            intro a w h
            refine then_normal ?_
            refine at_test (!decide ((x0.2.2.2.1.getD i (0, ([], []))).1 = x0.1)) h (by kernel_rfl) (fun h7 => ?_) (fun h7 => ?_)
            · replace h7 : ¬ ((x0.2.2.2.1.getD i (0, ([], []))).1 = x0.1) := of_decide_eq_false (notT h7)
              refine wp_seq ?_
              refine at_regq (T := S_spec_IsValidRecoder_tab) [] { ts := [1, 2, 3, 4, 45, 46, 47, 48, 49, 50, 51, 52, 53], os := [1, 2] } [] gamOK hT h (by kernel_rfl) trivial ?_
              intro a w h
              refine then_normal ?_
              refine wp_ret ?_
              refine then_ret ?_
              refine in_ret ?_
              refine then_ret ?_
              have hs8 : (allN (fun j => okPkt x0 (x0.2.2.2.1.getD j (0, ([], [])))) (List.length x0.2.2.2.1)) = false := by exact allN_at (i := i) (by omega) (by exact okPkt_f (by first | (left; assumption) | (right; omega)))
              refine then_ret ?_
              refine in_ret ?_
              refine then_ret ?_
              exact at_return (S := S_spec_IsValidRecoder) (x := (x0, ())) (false, ()) [] h (by kernel_rfl) trivial (congrArg (fun z => (z, ())) (show (false) = validR x0 from by (first | (rw [← validR_y (by assumption) (by omega) (by assumption)]; exact rank_cofs (by assumption) (by omega)) | exact validR_n (by first | (left; assumption) | (right; left; omega) | (right; right; left; assumption) | (right; right; right; assumption) | (right; right; right; exact ok_rec (by assumption))))))
            · replace h7 : (x0.2.2.2.1.getD i (0, ([], []))).1 = x0.1 := of_decide_eq_true (notF h7)
              refine wp_skip ?_
              refine then_normal ?_
              refine at_regq (T := S_spec_IsValidRecoder_tab) [{}, {}, {}, {}, {}, {}, {}, { ids := [3], dp := false }, { ids := [4] }] { ts := [1, 2, 3, 4, 45, 46, 47, 48, 49, 50, 51, 52, 53], os := [1, 4] } [(0 : Int) ≤ ((i : Nat) : Int) ∧ ((i : Nat) : Int) < ((List.length x0.2.2.2.1 : Nat) : Int), (List.length (cofs (List.take i x0.2.2.2.1)) + List.length ([(x0.2.2.2.1.getD i (0, ([], []))).2.1])) * 24 ≤ 140737488355328] gamOK hT h (by kernel_rfl) ⟨(by refine ⟨?_, ?_⟩ <;> (first | omega | (simp only [List.length_append, List.length_cons, List.length_nil, List.length_set, List.length_take, List.length_drop, List.length_replicate, List.length_map, Nat.min_def]; omega) | (simp; done) | (simp; omega) | done)), (by first | omega | (simp only [List.length_append, List.length_cons, List.length_nil, List.length_set, List.length_take, List.length_drop, List.length_replicate, List.length_map, Nat.min_def]; omega) | (simp; done) | (simp; omega) | done), trivial⟩ ?_
              intro a w h
              refine in_normal ?_
              refine then_normal ?_
              refine at_reg (T := S_spec_IsValidRecoder_tab) [{}, { nw := true }] { ts := [1, 2, 3, 4, 45, 46, 47, 48, 49, 50, 51, 52, 53], os := [1, 4] } ⟨[(1, aP 1 0), (2, aB false), (3, aS 4), (4, aI (((i : Nat) : Int) + 1)), (45, aP 1 3), (46, aF s126 x0.2.2.2.1), (47, aI ((i : Nat) : Int)), (48, aR s126 (x0.2.2.2.1.getD i (0, ([], []))) 0), (49, aR s126 (x0.2.2.2.1.getD i (0, ([], []))) 0), (50, aI (x0.2.2.2.1.getD i (0, ([], []))).1), (51, aP 1 0), (52, aI x0.1), (53, aB (!decide ((x0.2.2.2.1.getD i (0, ([], []))).1 = x0.1)))], [(1, oX 122 [cI x0.1, cI x0.2.1, cI x0.2.2.1, .ro s126 x0.2.2.2.1, cI x0.2.2.2.2]), (4, oF s22 ((cofs (List.take i x0.2.2.2.1)) ++ ([(x0.2.2.2.1.getD i (0, ([], []))).2.1])))]⟩ [I64 (((i : Nat) : Int) + 1)] gamOK hT h (by kernel_rfl) ⟨⟨by first | omega | (simp only [List.length_append, List.length_cons, List.length_nil, List.length_set, List.length_take, List.length_drop, List.length_replicate, List.length_map, Nat.min_def]; omega) | (simp; done) | (simp; omega) | done, by first | omega | (simp only [List.length_append, List.length_cons, List.length_nil, List.length_set, List.length_take, List.length_drop, List.length_replicate, List.length_map, Nat.min_def]; omega) | (simp; done) | (simp; omega) | done⟩, trivial⟩ ?_
              intro a w h
              replace h := at_out (σ' := ⟨[(1, aP 1 0), (2, aB false), (3, aS 2), (4, aI (((i : Nat) : Int) + 1))], [(1, oX 122 [cI x0.1, cI x0.2.1, cI x0.2.2.1, .ro s126 x0.2.2.2.1, cI x0.2.2.2.2]), (2, oF s22 ((cofs (List.take i x0.2.2.2.1)) ++ ([(x0.2.2.2.1.getD i (0, ([], []))).2.1])))]⟩) { ts := [1, 2, 3, 4], os := [1, 4], rn := [(4, 2)] } h (by kernel_rfl)
              exact ⟨i + 1, at_eq h (st_congr2 (fun (d0 : List (List Int)) (d1 : Int) => (⟨[(1, aP 1 0), (2, aB false), (3, aS 2), (4, aI d1)], [(1, oX 122 [cI x0.1, cI x0.2.1, cI x0.2.2.1, .ro s126 x0.2.2.2.1, cI x0.2.2.2.2]), (2, oF s22 d0)]⟩ : St)) (show (((cofs (List.take i x0.2.2.2.1)) ++ ([(x0.2.2.2.1.getD i (0, ([], []))).2.1])) : List (List Int)) = (cofs (List.take (i + 1) x0.2.2.2.1)) from by first | with_reducible rfl | ((rw [take_snoc (z := (0, ([], []))) (by omega), cofs_snoc]; done)) | rfl) (show (((i : Nat) : Int) + 1 : Int) = (((i + 1) : Nat) : Int) from by first | with_reducible rfl | (omega) | rfl)), (by exact ⟨by omega, allN_succ hok0.2 (by exact okPkt_t (by assumption) (by omega))⟩), (by omega)⟩
        · replace h4 : ¬ (((i : Nat) : Int) < ((List.length x0.2.2.2.1 : Nat) : Int)) := of_decide_eq_false h4
          refine wp_exit ?_
          refine then_exit ?_
          have hs9 : (allN (fun j => okPkt x0 (x0.2.2.2.1.getD j (0, ([], [])))) (List.length x0.2.2.2.1)) = true := by exact allN_eq (by omega) hok0.1 hok0.2
          replace h := at_out (σ' := ⟨[(2, aB false), (3, aS 2)], [(2, oF s22 (cofs (List.take i x0.2.2.2.1)))]⟩) { ts := [2, 3], os := [2] } h (by kernel_rfl)
          replace h := at_eq (σ' := ⟨[(2, aB false), (3, aS 2)], [(2, oF s22 (cofs x0.2.2.2.1))]⟩) h (st_congr1 (fun (d0 : List (List Int)) => (⟨[(2, aB false), (3, aS 2)], [(2, oF s22 d0)]⟩ : St)) (show ((cofs (List.take i x0.2.2.2.1)) : List (List Int)) = (cofs x0.2.2.2.1) from by first | with_reducible rfl | (rw [take_all (by omega)]) | rfl))
          refine then_exit ?_
          refine in_hit ?_
          refine then_normal ?_
          refine wp_seq ?_
          refine at_regq (T := S_spec_IsValidRecoder_tab) [] { ts := [2], os := [] } [(fun (x0 : (List (List Int))) => Sh.fit s80 x0) (cofs x0.2.2.2.1)] gamOK hT h (by kernel_rfl) ⟨(by exact fit_cofs hf0.2.2.2.1), trivial⟩ ?_
          intro a w h
          refine then_normal ?_
          refine wp_ret ?_
          exact at_return (S := S_spec_IsValidRecoder) (x := (x0, ())) (decide ((D_spec_Rank (cofs x0.2.2.2.1)) = ((List.length (cofs x0.2.2.2.1) : Nat) : Int)), ()) [] h (by kernel_rfl) trivial (congrArg (fun z => (z, ())) (show (decide ((D_spec_Rank (cofs x0.2.2.2.1)) = ((List.length (cofs x0.2.2.2.1) : Nat) : Int))) = validR x0 from by (first | (rw [← validR_y (by assumption) (by omega) (by assumption)]; exact rank_cofs (by assumption) (by omega)) | exact validR_n (by first | (left; assumption) | (right; left; omega) | (right; right; left; assumption) | (right; right; right; assumption) | (right; right; right; exact ok_rec (by assumption))))))

def cmpI (a b : Int) : Int := if a < b then -1 else if b < a then 1 else 0
theorem cmpI_eq {a b : Int} : cmpI a b = 0 ↔ a = b := by
  unfold cmpI; split
  · exact ⟨fun h1 => absurd h1 (by decide), fun h1 => by omega⟩
  · split
    · exact ⟨fun h1 => absurd h1 (by decide), fun h1 => by omega⟩
    · exact ⟨fun _ => by omega, fun _ => rfl⟩
section
variable {α : Type}
def ltK (f : α → Int) (z : α) (xs : List α) (v : Int) (k : Nat) : Bool := decide (f (xs.getD k z) < v)
def srtK (f : α → Int) (z : α) (xs : List α) : Prop := ∀ a b, a < b → b < xs.length → f (xs.getD a z) < f (xs.getD b z)
/-- where v would stand -/
def bsK (f : α → Int) (z : α) (xs : List α) (v : Int) : Nat := bsF (ltK f z xs v) 0 xs.length
def fndK (f : α → Int) (z : α) (xs : List α) (v : Int) : Bool := decide (bsK f z xs v < xs.length ∧ f (xs.getD (bsK f z xs v) z) = v)
theorem bsK_le (f : α → Int) (z : α) (xs : List α) (v : Int) : bsK f z xs v ≤ xs.length := (bsF_bd _ xs.length 0 xs.length (by omega) (by omega)).2
theorem bsK_spec {f : α → Int} {z : α} {xs : List α} (hs : srtK f z xs) (v : Int) : (∀ a, a < bsK f z xs v → f (xs.getD a z) < v) ∧ ∀ a, bsK f z xs v ≤ a → a < xs.length → v ≤ f (xs.getD a z) := by
  have hm : ∀ a b, a ≤ b → b < xs.length → ltK f z xs v b = true → ltK f z xs v a = true := fun a b hab hb hp => by
    unfold ltK at hp ⊢
    rw [decide_eq_true_iff] at hp ⊢
    by_cases e : a = b
    · rw [e]; exact hp
    · have := hs a b (by omega) hb; omega
  obtain ⟨h1, h2⟩ := bsF_first hm xs.length 0 xs.length (by omega) (by omega) (Nat.le_refl _) (fun a ha => by omega) (fun a ha hn => by omega)
  exact ⟨fun a ha => of_decide_eq_true (h1 a ha), fun a ha hn => by have := of_decide_eq_false (h2 a ha hn); omega⟩
theorem bsK_at {f : α → Int} {z : α} {xs : List α} {v : Int} {i : Nat} (hs : srtK f z xs) (hi : i < xs.length) (he : f (xs.getD i z) = v) : bsK f z xs v = i := by
  obtain ⟨h1, h2⟩ := bsK_spec hs v
  rcases Nat.lt_trichotomy (bsK f z xs v) i with h | h | h
  · have := h2 _ (Nat.le_refl _) (by omega)
    have := hs _ _ h hi
    omega
  · exact h
  · have := h1 _ h; omega
theorem fndK_at {f : α → Int} {z : α} {xs : List α} {v : Int} {i : Nat} (hs : srtK f z xs) (hi : i < xs.length) (he : f (xs.getD i z) = v) : fndK f z xs v = true := by
  unfold fndK; rw [bsK_at hs hi he]; exact decide_eq_true ⟨hi, he⟩
theorem fnd_eq {f : α → Int} {z : α} {xs : List α} {v : Int} {q : Nat} (h : q < xs.length) : decide (cmpI (f (xs.getD q z)) v = 0) = decide (q < xs.length ∧ f (xs.getD q z) = v) := by rw [decide_eq_decide, cmpI_eq]; exact ⟨fun e => ⟨h, e⟩, fun e => e.2⟩
theorem fnd_no {f : α → Int} {z : α} {xs : List α} {v : Int} {q : Nat} (h : ¬ q < xs.length) : false = decide (q < xs.length ∧ f (xs.getD q z) = v) := (decide_eq_false fun e => h e.1).symm
theorem fndK_none {f : α → Int} {z : α} {xs : List α} {v : Int} (h : ∀ i, i < xs.length → f (xs.getD i z) ≠ v) : fndK f z xs v = false := decide_eq_false fun e => h _ e.1 e.2
theorem fndK_t {f : α → Int} {z : α} {xs : List α} {v : Int} (h : fndK f z xs v = true) : bsK f z xs v < xs.length ∧ f (xs.getD (bsK f z xs v) z) = v := of_decide_eq_true h
theorem srt_of {f : α → Int} {z : α} {xs : List α} (h : ∀ i, i + 1 < xs.length → f (xs.getD i z) < f (xs.getD (i + 1) z)) : srtK f z xs := by
  intro a b hab hb
  obtain ⟨d, rfl⟩ : ∃ d, b = a + 1 + d := ⟨b - a - 1, by omega⟩
  induction d with
  | zero => exact h a (by omega)
  | succ d ih => have h1 := ih (by omega) (by omega); have h2 := h (a + 1 + d) (by omega); have e : a + 1 + d + 1 = a + 1 + (d + 1) := (by omega); rw [e] at h2; omega
/-- p holds, and the key is above that of the one before -/
def ordB (f : α → Int) (z : α) (xs : List α) (i : Nat) : Bool := decide (i = 0) || decide (f (xs.getD (i - 1) z) < f (xs.getD i z))
theorem ordB_t {f : α → Int} {z : α} {xs : List α} {i : Nat} (h : i = 0 ∨ f (xs.getD (((i : Nat) : Int) - 1).toNat z) < f (xs.getD i z)) : ordB f z xs i = true := by
  have e : (((i : Nat) : Int) - 1).toNat = i - 1 := by omega
  rw [e] at h
  unfold ordB; rw [Bool.or_eq_true, decide_eq_true_iff, decide_eq_true_iff]; exact h
theorem ordB_f {f : α → Int} {z : α} {xs : List α} {i : Nat} (h : 0 < i ∧ f (xs.getD i z) ≤ f (xs.getD (((i : Nat) : Int) - 1).toNat z)) : ordB f z xs i = false := by
  have e : (((i : Nat) : Int) - 1).toNat = i - 1 := by omega
  rw [e] at h
  unfold ordB; rw [Bool.or_eq_false_iff, decide_eq_false_iff_not, decide_eq_false_iff_not]; omega
theorem srt_ord {f : α → Int} {z : α} {xs : List α} (h : ∀ i, i < xs.length → ordB f z xs i = true) : srtK f z xs := srt_of fun i hi => by
  have := h (i + 1) hi
  unfold ordB at this
  rw [Bool.or_eq_true, decide_eq_true_iff, decide_eq_true_iff] at this
  rcases this with h | h
  · omega
  · exact h
end
def relB (xs : List T122) (i : Nat) : Bool := validR (xs.getD i (0, (0, (0, ([], 0))))) && ordB (fun x => x.1) (0, (0, (0, ([], 0)))) xs i
theorem relB_t {xs : List T122} {i : Nat} (h : validR (xs.getD i (0, (0, (0, ([], 0))))) = true) (h2 : i = 0 ∨ (xs.getD (((i : Nat) : Int) - 1).toNat (0, (0, (0, ([], 0))))).1 < (xs.getD i (0, (0, (0, ([], 0))))).1) : relB xs i = true := by unfold relB; rw [h, ordB_t h2]; rfl
theorem relB_f1 {xs : List T122} {i : Nat} (h : validR (xs.getD i (0, (0, (0, ([], 0))))) = false) : relB xs i = false := by unfold relB; rw [h]; rfl
theorem relB_f2 {xs : List T122} {i : Nat} (h2 : 0 < i ∧ (xs.getD i (0, (0, (0, ([], 0))))).1 ≤ (xs.getD (((i : Nat) : Int) - 1).toNat (0, (0, (0, ([], 0))))).1) : relB xs i = false := by unfold relB; rw [ordB_f h2, Bool.and_false]
def validL (r : T97) : Bool := allN (relB r.2) (List.length r.2) && (inR r.1 0 7 && decide (List.length r.2 ≤ 4))
def S_impl_IsValidRelay : Sum := { fid := 56, dom := [s97], cod := [(.bool 4)], dp := true, fz := false, pre := fun x => (fun (x0 : T97) => Sh.fit s97 x0) x.1, g := fun x => ((validL x.1), ()) }
def S_impl_IsValidRelay_tab : List (Nat × Sum) := [(139, S_impl_IsValidRecoder), (140, S_impl_InRange)]
theorem S_impl_IsValidRelay_ok : FnOK Try.prog 56 S_impl_IsValidRelay := by
  refine at_enter 42 (fun x => ⟨[(0, aG [cI x.1.1, .ro s122 x.1.2])], []⟩) Try.func56 rfl (by kernel_rfl) (fun x => rfl) ?_
  rintro w0 Z0 ⟨x0, u⟩ a w
  revert x0
  intro (x0 : T97) hpre hlens h
  replace h : At w0 Z0 [] 42 ⟨[(0, aG [cI x0.1, .ro s122 x0.2])], []⟩ a w := h
  replace hpre : (fun (x0 : T97) => Sh.fit s97 x0) x0 := hpre
  have hl1 : List.length x0.2 ≤ 9223372036854775807 := hlens.1.2.1
  have hT : TabOK Try.prog S_impl_IsValidRelay_tab := (.cons S_impl_IsValidRecoder_ok (.cons S_impl_InRange_ok .nil))
  have hf0 : Sh.fit s97 x0 := hpre
  have hn0_1 : List.length x0.2 ≤ 1073741824 := hf0.2.1
  refine wp_seq ?_
  refine at_regq (T := S_impl_IsValidRelay_tab) [{ ids := [1] }] { ts := [1, 2], os := [1] } [] gamOK hT h (by kernel_rfl) trivial ?_
  intro a w h
  refine then_normal ?_
  refine wp_seq ?_
  refine wp_seq ?_
  refine at_regq (T := S_impl_IsValidRelay_tab) [] { ts := [1, 2, 6, 7, 8], os := [1] } [] gamOK hT h (by kernel_rfl) trivial ?_
  intro a w h
  refine then_normal ?_
  refine wp_block ?_
  replace h := at_out (σ' := ⟨[(1, aP 1 0), (2, aB false), (6, aF s122 x0.2), (7, aI ((List.length x0.2 : Nat) : Int)), (8, aI 0)], [(1, oX 97 [cI x0.1, .ro s122 x0.2])]⟩) { ts := [1, 2, 6, 7, 8], os := [1] } h (by kernel_rfl)
  refine at_loop (fun i : Nat => (⟨[(1, aP 1 0), (2, aB false), (6, aF s122 x0.2), (7, aI ((List.length x0.2 : Nat) : Int)), (8, aI ((i : Nat) : Int))], [(1, oX 97 [cI x0.1, .ro s122 x0.2])]⟩ : St)) (fun i => (i ≤ (List.length x0.2) ∧ allN (relB x0.2) i = true)) (fun i => (List.length x0.2) - i) (0) h (st_congr1 (fun (d0 : Int) => (⟨[(1, aP 1 0), (2, aB false), (6, aF s122 x0.2), (7, aI ((List.length x0.2 : Nat) : Int)), (8, aI d0)], [(1, oX 97 [cI x0.1, .ro s122 x0.2])]⟩ : St)) (show (0 : Int) = (((0) : Nat) : Int) from by first | with_reducible rfl | (rfl) | rfl)) (by exact ⟨Nat.zero_le _, rfl⟩) ?_
  intro i a w hok0 h
  refine wp_seq ?_
  refine at_regq (T := S_impl_IsValidRelay_tab) [] { ts := [1, 2, 6, 7, 8, 9], os := [1] } [] gamOK hT h (by kernel_rfl) trivial ?_
  intro a w h
  refine then_normal ?_
  refine wp_seq ?_
  refine at_test (decide (((i : Nat) : Int) < ((List.length x0.2 : Nat) : Int))) h (by kernel_rfl) (fun h1 => ?_) (fun h1 => ?_)
  · replace h1 : ((i : Nat) : Int) < ((List.length x0.2 : Nat) : Int) := of_decide_eq_true h1
    refine wp_skip ?_
    refine then_normal ?_
    refine wp_seq ?_
    refine wp_block ?_
    refine wp_seq ?_
    refine at_reg (T := S_impl_IsValidRelay_tab) [{}, {}, {}, { ids := [2] }] { ts := [1, 2, 3, 4, 6, 7, 8], os := [1, 2] } ⟨[(1, aP 1 0), (2, aB false), (3, aI ((i : Nat) : Int)), (4, aP 2 0), (6, aF s122 x0.2), (7, aI ((List.length x0.2 : Nat) : Int)), (8, aI ((i : Nat) : Int))], [(1, oX 97 [cI x0.1, .ro s122 x0.2]), (2, oX 122 [cI (x0.2.getD i (0, (0, (0, ([], 0))))).1, cI (x0.2.getD i (0, (0, (0, ([], 0))))).2.1, cI (x0.2.getD i (0, (0, (0, ([], 0))))).2.2.1, .ro s126 (x0.2.getD i (0, (0, (0, ([], 0))))).2.2.2.1, cI (x0.2.getD i (0, (0, (0, ([], 0))))).2.2.2.2])]⟩ [(0 : Int) ≤ ((i : Nat) : Int) ∧ ((i : Nat) : Int) < ((List.length x0.2 : Nat) : Int)] gamOK hT h (by kernel_rfl) ⟨(by refine ⟨?_, ?_⟩ <;> (first | omega | (simp only [List.length_append, List.length_cons, List.length_nil, List.length_set, List.length_take, List.length_drop, List.length_replicate, List.length_map, Nat.min_def]; omega) | (simp; done) | (simp; omega) | done)), trivial⟩ ?_
    intro a w h
    refine then_normal ?_
    refine wp_seq ?_
    rcases Bool.eq_false_or_eq_true (!(validR (x0.2.getD i (0, (0, (0, ([], 0))))))) with h2 | h2
    · skip
      have hzh2 : (validR (x0.2.getD i (0, (0, (0, ([], 0)))))) = false := notT h2
      refine at_anyq (T := S_impl_IsValidRelay_tab) [{}, {}, { hint := some (aB true) }, {}, {}, {}, {}, {}, {}, {}, {}, {}, {}, {}, {}, {}, {}, {}, {}] { ts := [1, 2, 6, 7, 8, 17, 18, 19, 20, 21, 22, 23, 24, 25, 26, 27, 28, 29, 30, 31], os := [1] } [(fun (x0 : T122) => Sh.fit s122 x0) (x0.2.getD i (0, (0, (0, ([], 0))))), (AV.p (.c (.v (.bool (!(validR (x0.2.getD i (0, (0, (0, ([], 0)))))))))) = AV.p (.c (.v (.bool true))))] gamOK hT mixed h (by kernel_rfl) ⟨(by exact (Sh.fit_getD hf0.2 i)), hint_bool (h2), trivial⟩ ?_
      intro a w h
      refine then_normal ?_
      refine at_test true h (by kernel_rfl) (fun hh => ?_) (fun hh => nomatch hh)
      refine wp_seq ?_
      refine at_regq (T := S_impl_IsValidRelay_tab) [] { ts := [1, 2, 6, 7, 8, 17, 18, 19, 20, 21, 22, 23, 24, 25, 26, 27, 28, 29, 30], os := [1] } [] gamOK hT h (by kernel_rfl) trivial ?_
      intro a w h
      refine then_normal ?_
      refine wp_ret ?_
      refine in_ret ?_
      refine then_ret ?_
      have hs3 : (allN (relB x0.2) (List.length x0.2)) = false := by exact allN_at (i := i) (by omega) (by first | exact relB_f1 (by assumption) | exact relB_f2 (by omega))
      refine then_ret ?_
      refine in_ret ?_
      refine then_ret ?_
      exact at_return (S := S_impl_IsValidRelay) (x := (x0, ())) (false, ()) [] h (by kernel_rfl) trivial (congrArg (fun z => (z, ())) (show (false) = validL x0 from by (unfold validL; simp_all; try omega)))
    · skip
      have hzh2 : (validR (x0.2.getD i (0, (0, (0, ([], 0)))))) = true := notF h2
      have hvh2 := validR_t (notF h2)
      by_cases h4 : ((i : Nat) : Int) > 0
      · skip
        refine at_anyq (T := S_impl_IsValidRelay_tab) [{}, {}, { hint := some (aB false) }, {}, {}, { hint := some (aB true) }, {}, {}, {}, {}, {}, {}, { nw := true }, {}, {}, {}, {}, {}, {}] { ts := [1, 2, 6, 7, 8, 17, 18, 19, 20, 21, 22, 23, 24, 25, 26, 27, 28, 29, 30, 31], os := [1, 2] } [(fun (x0 : T122) => Sh.fit s122 x0) (x0.2.getD i (0, (0, (0, ([], 0))))), (AV.p (.c (.v (.bool (!(validR (x0.2.getD i (0, (0, (0, ([], 0)))))))))) = AV.p (.c (.v (.bool false)))), (AV.p (.c (.v (.bool (decide (((i : Nat) : Int) > 0))))) = AV.p (.c (.v (.bool true)))), I64 (((i : Nat) : Int) - 1), (0 : Int) ≤ ((i : Nat) : Int) - 1 ∧ ((i : Nat) : Int) - 1 < ((List.length x0.2 : Nat) : Int)] gamOK hT mixed h (by kernel_rfl) ⟨(by exact (Sh.fit_getD hf0.2 i)), hint_bool (h2), hint_bool (decide_eq_true h4), ⟨by first | omega | (simp only [List.length_append, List.length_cons, List.length_nil, List.length_set, List.length_take, List.length_drop, List.length_replicate, List.length_map, Nat.min_def]; omega) | (simp; done) | (simp; omega) | done, by first | omega | (simp only [List.length_append, List.length_cons, List.length_nil, List.length_set, List.length_take, List.length_drop, List.length_replicate, List.length_map, Nat.min_def]; omega) | (simp; done) | (simp; omega) | done⟩, (by refine ⟨?_, ?_⟩ <;> (first | omega | (simp only [List.length_append, List.length_cons, List.length_nil, List.length_set, List.length_take, List.length_drop, List.length_replicate, List.length_map, Nat.min_def]; omega) | (simp; done) | (simp; omega) | done)), trivial⟩ ?_
        intro a w h
        refine then_normal ?_
        refine at_test (decide ((x0.2.getD i (0, (0, (0, ([], 0))))).1 ≤ (x0.2.getD ((((i : Nat) : Int) - 1).toNat) (0, (0, (0, ([], 0))))).1)) h (by kernel_rfl) (fun h5 => ?_) (fun h5 => ?_)
        · replace h5 : (x0.2.getD i (0, (0, (0, ([], 0))))).1 ≤ (x0.2.getD ((((i : Nat) : Int) - 1).toNat) (0, (0, (0, ([], 0))))).1 := of_decide_eq_true h5
          refine wp_seq ?_
          refine at_regq (T := S_impl_IsValidRelay_tab) [] { ts := [1, 2, 6, 7, 8, 17, 18, 19, 20, 21, 22, 23, 24, 25, 26, 27, 28, 29, 30], os := [1, 2] } [] gamOK hT h (by kernel_rfl) trivial ?_
          intro a w h
          refine then_normal ?_
          refine wp_ret ?_
          refine in_ret ?_
          refine then_ret ?_
          have hs6 : (allN (relB x0.2) (List.length x0.2)) = false := by exact allN_at (i := i) (by omega) (by first | exact relB_f1 (by assumption) | exact relB_f2 (by omega))
          refine then_ret ?_
          refine in_ret ?_
          refine then_ret ?_
          exact at_return (S := S_impl_IsValidRelay) (x := (x0, ())) (false, ()) [] h (by kernel_rfl) trivial (congrArg (fun z => (z, ())) (show (false) = validL x0 from by (unfold validL; simp_all; try omega)))
        · replace h5 : ¬ ((x0.2.getD i (0, (0, (0, ([], 0))))).1 ≤ (x0.2.getD ((((i : Nat) : Int) - 1).toNat) (0, (0, (0, ([], 0))))).1) := of_decide_eq_false h5
          refine wp_skip ?_
          refine in_normal ?_
          refine then_normal ?_
          refine at_regq (T := S_impl_IsValidRelay_tab) [{ nw := true }] { ts := [1, 2, 6, 7, 8, 17, 18, 19, 20, 21, 22, 23, 24, 25, 26, 27, 28, 29, 30], os := [1, 2] } [I64 (((i : Nat) : Int) + 1)] gamOK hT h (by kernel_rfl) ⟨⟨by first | omega | (simp only [List.length_append, List.length_cons, List.length_nil, List.length_set, List.length_take, List.length_drop, List.length_replicate, List.length_map, Nat.min_def]; omega) | (simp; done) | (simp; omega) | done, by first | omega | (simp only [List.length_append, List.length_cons, List.length_nil, List.length_set, List.length_take, List.length_drop, List.length_replicate, List.length_map, Nat.min_def]; omega) | (simp; done) | (simp; omega) | done⟩, trivial⟩ ?_
          intro a w h
          replace h := at_out (σ' := ⟨[(1, aP 1 0), (2, aB false), (6, aF s122 x0.2), (7, aI ((List.length x0.2 : Nat) : Int)), (8, aI (((i : Nat) : Int) + 1))], [(1, oX 97 [cI x0.1, .ro s122 x0.2])]⟩) { ts := [1, 2, 6, 7, 8], os := [1] } h (by kernel_rfl)
          exact ⟨i + 1, at_eq h (st_congr1 (fun (d0 : Int) => (⟨[(1, aP 1 0), (2, aB false), (6, aF s122 x0.2), (7, aI ((List.length x0.2 : Nat) : Int)), (8, aI d0)], [(1, oX 97 [cI x0.1, .ro s122 x0.2])]⟩ : St)) (show (((i : Nat) : Int) + 1 : Int) = (((i + 1) : Nat) : Int) from by first | with_reducible rfl | (omega) | rfl)), (by exact ⟨by omega, allN_succ hok0.2 (by exact relB_t (by assumption) (by omega))⟩), (by omega)⟩
      · skip
        refine at_anyq (T := S_impl_IsValidRelay_tab) [{}, {}, { hint := some (aB false) }, {}, {}, { hint := some (aB false) }, {}, {}, {}, {}, {}, {}, {}, {}, {}, {}, {}, {}, {}] { ts := [1, 2, 6, 7, 8, 17, 18, 19, 20, 21, 22, 23, 24, 25, 26, 27, 28, 29, 30, 31], os := [1] } [(fun (x0 : T122) => Sh.fit s122 x0) (x0.2.getD i (0, (0, (0, ([], 0))))), (AV.p (.c (.v (.bool (!(validR (x0.2.getD i (0, (0, (0, ([], 0)))))))))) = AV.p (.c (.v (.bool false)))), (AV.p (.c (.v (.bool (decide (((i : Nat) : Int) > 0))))) = AV.p (.c (.v (.bool false))))] gamOK hT mixed h (by kernel_rfl) ⟨(by exact (Sh.fit_getD hf0.2 i)), hint_bool (h2), hint_bool (decide_eq_false h4), trivial⟩ ?_
        intro a w h
        refine then_normal ?_
        refine at_test false h (by kernel_rfl) (fun hh => nomatch hh) (fun hh => ?_)
        refine wp_skip ?_
        refine in_normal ?_
        refine then_normal ?_
        refine at_regq (T := S_impl_IsValidRelay_tab) [{ nw := true }] { ts := [1, 2, 6, 7, 8, 17, 18, 19, 20, 21, 22, 23, 24, 25, 26, 27, 28, 29, 30], os := [1] } [I64 (((i : Nat) : Int) + 1)] gamOK hT h (by kernel_rfl) ⟨⟨by first | omega | (simp only [List.length_append, List.length_cons, List.length_nil, List.length_set, List.length_take, List.length_drop, List.length_replicate, List.length_map, Nat.min_def]; omega) | (simp; done) | (simp; omega) | done, by first | omega | (simp only [List.length_append, List.length_cons, List.length_nil, List.length_set, List.length_take, List.length_drop, List.length_replicate, List.length_map, Nat.min_def]; omega) | (simp; done) | (simp; omega) | done⟩, trivial⟩ ?_
        intro a w h
        replace h := at_out (σ' := ⟨[(1, aP 1 0), (2, aB false), (6, aF s122 x0.2), (7, aI ((List.length x0.2 : Nat) : Int)), (8, aI (((i : Nat) : Int) + 1))], [(1, oX 97 [cI x0.1, .ro s122 x0.2])]⟩) { ts := [1, 2, 6, 7, 8], os := [1] } h (by kernel_rfl)
        exact ⟨i + 1, at_eq h (st_congr1 (fun (d0 : Int) => (⟨[(1, aP 1 0), (2, aB false), (6, aF s122 x0.2), (7, aI ((List.length x0.2 : Nat) : Int)), (8, aI d0)], [(1, oX 97 [cI x0.1, .ro s122 x0.2])]⟩ : St)) (show (((i : Nat) : Int) + 1 : Int) = (((i + 1) : Nat) : Int) from by first | with_reducible rfl | (omega) | rfl)), (by exact ⟨by omega, allN_succ hok0.2 (by exact relB_t (by assumption) (by omega))⟩), (by omega)⟩
  · replace h1 : ¬ (((i : Nat) : Int) < ((List.length x0.2 : Nat) : Int)) := of_decide_eq_false h1
    refine wp_exit ?_
    refine then_exit ?_
    have hs7 : (allN (relB x0.2) (List.length x0.2)) = true := by exact allN_eq (by omega) hok0.1 hok0.2
    refine then_exit ?_
    refine in_hit ?_
    refine then_normal ?_
    refine wp_seq ?_
    rcases Bool.eq_false_or_eq_true ((inR x0.1 0 7)) with h8 | h8
    · skip
      have hvh8 := inR_t h8
      refine at_reg (T := S_impl_IsValidRelay_tab) [{}, {}, { hint := some (aB true) }] { ts := [2], os := [] } ⟨[(2, aB (decide (((List.length x0.2 : Nat) : Int) ≤ 4)))], []⟩ [True, (AV.p (.c (.v (.bool ((inR x0.1 0 7))))) = AV.p (.c (.v (.bool true))))] gamOK hT h (by kernel_rfl) ⟨trivial, hint_bool (h8), trivial⟩ ?_
      intro a w h
      refine then_normal ?_
      refine wp_ret ?_
      exact at_return (S := S_impl_IsValidRelay) (x := (x0, ())) (decide (((List.length x0.2 : Nat) : Int) ≤ 4), ()) [] h (by kernel_rfl) trivial (congrArg (fun z => (z, ())) (show (decide (((List.length x0.2 : Nat) : Int) ≤ 4)) = validL x0 from by (unfold validL; simp_all; try omega)))
    · skip
      have hvh8 := inR_f h8
      refine at_reg (T := S_impl_IsValidRelay_tab) [{}, {}, { hint := some (aB false) }] { ts := [2], os := [] } ⟨[(2, aB false)], []⟩ [True, (AV.p (.c (.v (.bool ((inR x0.1 0 7))))) = AV.p (.c (.v (.bool false))))] gamOK hT h (by kernel_rfl) ⟨trivial, hint_bool (h8), trivial⟩ ?_
      intro a w h
      refine then_normal ?_
      refine wp_ret ?_
      exact at_return (S := S_impl_IsValidRelay) (x := (x0, ())) (false, ()) [] h (by kernel_rfl) trivial (congrArg (fun z => (z, ())) (show (false) = validL x0 from by (unfold validL; simp_all; try omega)))

def S_spec_IsValidRelay : Sum := { fid := 54, dom := [s97], cod := [(.bool 4)], dp := true, fz := false, pre := fun x => (fun (x0 : T97) => Sh.fit s97 x0) x.1, g := fun x => ((validL x.1), ()) }
def S_spec_IsValidRelay_tab : List (Nat × Sum) := [(137, S_spec_IsValidRecoder), (138, S_spec_l1In)]
theorem S_spec_IsValidRelay_ok : FnOK Try.prog 54 S_spec_IsValidRelay := by
  refine at_enter 47 (fun x => ⟨[(0, aG [cI x.1.1, .ro s122 x.1.2])], []⟩) Try.func54 rfl (by kernel_rfl) (fun x => rfl) ?_
  rintro w0 Z0 ⟨x0, u⟩ a w
  revert x0
  intro (x0 : T97) hpre hlens h
  replace h : At w0 Z0 [] 47 ⟨[(0, aG [cI x0.1, .ro s122 x0.2])], []⟩ a w := h
  replace hpre : (fun (x0 : T97) => Sh.fit s97 x0) x0 := hpre
  have hl1 : List.length x0.2 ≤ 9223372036854775807 := hlens.1.2.1
  have hT : TabOK Try.prog S_spec_IsValidRelay_tab := (.cons S_spec_IsValidRecoder_ok (.cons S_spec_l1In_ok .nil))
  have hf0 : Sh.fit s97 x0 := hpre
  have hn0_1 : List.length x0.2 ≤ 1073741824 := hf0.2.1
  refine wp_seq ?_
  refine at_regq (T := S_spec_IsValidRelay_tab) [{ ids := [1] }] { ts := [1, 2], os := [1] } [] gamOK hT h (by kernel_rfl) trivial ?_
  intro a w h
  refine then_normal ?_
  refine wp_seq ?_
  refine wp_seq ?_
  refine at_regq (T := S_spec_IsValidRelay_tab) [] { ts := [1, 2, 3], os := [1] } [] gamOK hT h (by kernel_rfl) trivial ?_
  intro a w h
  refine then_normal ?_
  refine wp_block ?_
  replace h := at_out (σ' := ⟨[(1, aP 1 0), (2, aB false), (3, aI 0)], [(1, oX 97 [cI x0.1, .ro s122 x0.2])]⟩) { ts := [1, 2, 3], os := [1] } h (by kernel_rfl)
  refine at_loop (fun i : Nat => (⟨[(1, aP 1 0), (2, aB false), (3, aI ((i : Nat) : Int))], [(1, oX 97 [cI x0.1, .ro s122 x0.2])]⟩ : St)) (fun i => (i ≤ (List.length x0.2) ∧ allN (relB x0.2) i = true)) (fun i => (List.length x0.2) - i) (0) h (st_congr1 (fun (d0 : Int) => (⟨[(1, aP 1 0), (2, aB false), (3, aI d0)], [(1, oX 97 [cI x0.1, .ro s122 x0.2])]⟩ : St)) (show (0 : Int) = (((0) : Nat) : Int) from by first | with_reducible rfl | (rfl) | rfl)) (by exact ⟨Nat.zero_le _, rfl⟩) ?_
  intro i a w hok0 h
  refine wp_seq ?_
  refine wp_seq ?_
  refine at_regq (T := S_spec_IsValidRelay_tab) [] { ts := [1, 2, 3, 8], os := [1] } [] gamOK hT h (by kernel_rfl) trivial ?_
  intro a w h
  refine then_normal ?_
  refine at_test (decide (((i : Nat) : Int) < ((List.length x0.2 : Nat) : Int))) h (by kernel_rfl) (fun h1 => ?_) (fun h1 => ?_)
  · replace h1 : ((i : Nat) : Int) < ((List.length x0.2 : Nat) : Int) := of_decide_eq_true h1
    refine wp_skip ?_
    refine then_normal ?_
    refine wp_seq ?_
    refine wp_block ?_
    refine wp_seq ?_
    rcases Bool.eq_false_or_eq_true (!(validR (x0.2.getD i (0, (0, (0, ([], 0))))))) with h2 | h2
    · skip
      have hzh2 : (validR (x0.2.getD i (0, (0, (0, ([], 0)))))) = false := notT h2
      refine at_any (T := S_spec_IsValidRelay_tab) [{}, {}, {}, {}, {}, {}, { hint := some (aB true) }, {}, {}, {}, {}, {}, {}, {}, {}, {}, {}, {}, {}, {}, {}, {}, {}, {}, {}, {}, {}] { ts := [1, 2, 3, 19, 20, 21, 22, 23, 24, 25, 26, 27, 28, 29, 30, 31, 32, 33, 34, 35, 36, 37], os := [1] } ⟨[(1, aP 1 0), (2, aB false), (3, aI ((i : Nat) : Int)), (19, .p (.c (.v undef))), (20, .p (.c (.v undef))), (21, .p (.c (.v undef))), (22, .p (.c (.v undef))), (23, .p (.c (.v undef))), (24, .p (.c (.v undef))), (25, .p (.c (.v undef))), (26, .p (.c (.v undef))), (27, .p (.c (.v undef))), (28, .p (.c (.v undef))), (29, .p (.c (.v undef))), (30, .p (.c (.v undef))), (31, .p (.c (.v undef))), (32, .p (.c (.v undef))), (33, .p (.c (.v undef))), (34, .p (.c (.v undef))), (35, .p (.c (.v undef))), (36, .p (.c (.v undef))), (37, aB true)], [(1, oX 97 [cI x0.1, .ro s122 x0.2])]⟩ [(0 : Int) ≤ ((i : Nat) : Int) ∧ ((i : Nat) : Int) < ((List.length x0.2 : Nat) : Int), (fun (x0 : T122) => Sh.fit s122 x0) (x0.2.getD i (0, (0, (0, ([], 0))))), (AV.p (.c (.v (.bool (!(validR (x0.2.getD i (0, (0, (0, ([], 0)))))))))) = AV.p (.c (.v (.bool true))))] gamOK hT mixed h (by kernel_rfl) ⟨(by refine ⟨?_, ?_⟩ <;> (first | omega | (simp only [List.length_append, List.length_cons, List.length_nil, List.length_set, List.length_take, List.length_drop, List.length_replicate, List.length_map, Nat.min_def]; omega) | (simp; done) | (simp; omega) | done)), (by exact (Sh.fit_getD hf0.2 i)), hint_bool (h2), trivial⟩ ?_
      intro a w h
      refine then_normal ?_
      refine at_test true h (by kernel_rfl) (fun hh => ?_) (fun hh => nomatch hh)
      refine wp_seq ?_
      refine at_regq (T := S_spec_IsValidRelay_tab) [] { ts := [1, 2, 3, 19, 20, 21, 22, 23, 24, 25, 26, 27, 28, 29, 30, 31, 32, 33, 34, 35, 36], os := [1] } [] gamOK hT h (by kernel_rfl) trivial ?_
      intro a w h
      refine then_normal ?_
      refine wp_ret ?_
      refine in_ret ?_
      refine then_ret ?_
      have hs3 : (allN (relB x0.2) (List.length x0.2)) = false := by exact allN_at (i := i) (by omega) (by first | exact relB_f1 (by assumption) | exact relB_f2 (by omega))
      refine then_ret ?_
      refine in_ret ?_
      refine then_ret ?_
      exact at_return (S := S_spec_IsValidRelay) (x := (x0, ())) (false, ()) [] h (by kernel_rfl) trivial (congrArg (fun z => (z, ())) (show (false) = validL x0 from by (unfold validL; simp_all; try omega)))
    · skip
      have hzh2 : (validR (x0.2.getD i (0, (0, (0, ([], 0)))))) = true := notF h2
      have hvh2 := validR_t (notF h2)
      by_cases h4 : ((i : Nat) : Int) > 0
      · skip
        refine at_any (T := S_spec_IsValidRelay_tab) [{}, {}, {}, {}, {}, {}, { hint := some (aB false) }, {}, {}, { hint := some (aB true) }, {}, {}, {}, {}, { nw := true }, {}, {}, {}, {}, {}, {}, {}, {}, {}, {}, {}, {}] { ts := [1, 2, 3, 19, 20, 21, 22, 23, 24, 25, 26, 27, 28, 29, 30, 31, 32, 33, 34, 35, 36, 37], os := [1] } ⟨[(1, aP 1 0), (2, aB false), (3, aI ((i : Nat) : Int)), (19, aI ((i : Nat) : Int)), (20, aB true), (21, aB true), (22, aP 1 1), (23, aF s122 x0.2), (24, aI ((i : Nat) : Int)), (25, aI (((i : Nat) : Int) - 1)), (26, aR s122 (x0.2.getD ((((i : Nat) : Int) - 1).toNat) (0, (0, (0, ([], 0))))) 0), (27, aR s122 (x0.2.getD ((((i : Nat) : Int) - 1).toNat) (0, (0, (0, ([], 0))))) 0), (28, aI (x0.2.getD ((((i : Nat) : Int) - 1).toNat) (0, (0, (0, ([], 0))))).1), (29, aP 1 1), (30, aF s122 x0.2), (31, aI ((i : Nat) : Int)), (32, aR s122 (x0.2.getD i (0, (0, (0, ([], 0))))) 0), (33, aR s122 (x0.2.getD i (0, (0, (0, ([], 0))))) 0), (34, aI (x0.2.getD i (0, (0, (0, ([], 0))))).1), (35, aB (decide ((x0.2.getD ((((i : Nat) : Int) - 1).toNat) (0, (0, (0, ([], 0))))).1 ≥ (x0.2.getD i (0, (0, (0, ([], 0))))).1))), (36, aB (decide ((x0.2.getD ((((i : Nat) : Int) - 1).toNat) (0, (0, (0, ([], 0))))).1 ≥ (x0.2.getD i (0, (0, (0, ([], 0))))).1))), (37, aB (decide ((x0.2.getD ((((i : Nat) : Int) - 1).toNat) (0, (0, (0, ([], 0))))).1 ≥ (x0.2.getD i (0, (0, (0, ([], 0))))).1)))], [(1, oX 97 [cI x0.1, .ro s122 x0.2])]⟩ [(0 : Int) ≤ ((i : Nat) : Int) ∧ ((i : Nat) : Int) < ((List.length x0.2 : Nat) : Int), (fun (x0 : T122) => Sh.fit s122 x0) (x0.2.getD i (0, (0, (0, ([], 0))))), (AV.p (.c (.v (.bool (!(validR (x0.2.getD i (0, (0, (0, ([], 0)))))))))) = AV.p (.c (.v (.bool false)))), (AV.p (.c (.v (.bool (decide (((i : Nat) : Int) > 0))))) = AV.p (.c (.v (.bool true)))), I64 (((i : Nat) : Int) - 1), (0 : Int) ≤ ((i : Nat) : Int) - 1 ∧ ((i : Nat) : Int) - 1 < ((List.length x0.2 : Nat) : Int), (0 : Int) ≤ ((i : Nat) : Int) ∧ ((i : Nat) : Int) < ((List.length x0.2 : Nat) : Int)] gamOK hT mixed h (by kernel_rfl) ⟨(by refine ⟨?_, ?_⟩ <;> (first | omega | (simp only [List.length_append, List.length_cons, List.length_nil, List.length_set, List.length_take, List.length_drop, List.length_replicate, List.length_map, Nat.min_def]; omega) | (simp; done) | (simp; omega) | done)), (by exact (Sh.fit_getD hf0.2 i)), hint_bool (h2), hint_bool (decide_eq_true h4), ⟨by first | omega | (simp only [List.length_append, List.length_cons, List.length_nil, List.length_set, List.length_take, List.length_drop, List.length_replicate, List.length_map, Nat.min_def]; omega) | (simp; done) | (simp; omega) | done, by first | omega | (simp only [List.length_append, List.length_cons, List.length_nil, List.length_set, List.length_take, List.length_drop, List.length_replicate, List.length_map, Nat.min_def]; omega) | (simp; done) | (simp; omega) | done⟩, (by refine ⟨?_, ?_⟩ <;> (first | omega | (simp only [List.length_append, List.length_cons, List.length_nil, List.length_set, List.length_take, List.length_drop, List.length_replicate, List.length_map, Nat.min_def]; omega) | (simp; done) | (simp; omega) | done)), (by refine ⟨?_, ?_⟩ <;> (first | omega | (simp only [List.length_append, List.length_cons, List.length_nil, List.length_set, List.length_take, List.length_drop, List.length_replicate, List.length_map, Nat.min_def]; omega) | (simp; done) | (simp; omega) | done)), trivial⟩ ?_
        intro a w h
        refine then_normal ?_
        refine at_test (decide ((x0.2.getD ((((i : Nat) : Int) - 1).toNat) (0, (0, (0, ([], 0))))).1 ≥ (x0.2.getD i (0, (0, (0, ([], 0))))).1)) h (by kernel_rfl) (fun h5 => ?_) (fun h5 => ?_)
        · replace h5 : (x0.2.getD ((((i : Nat) : Int) - 1).toNat) (0, (0, (0, ([], 0))))).1 ≥ (x0.2.getD i (0, (0, (0, ([], 0))))).1 := of_decide_eq_true h5
          refine wp_seq ?_
          refine at_regq (T := S_spec_IsValidRelay_tab) [] { ts := [1, 2, 3, 19, 20, 21, 22, 23, 24, 25, 26, 27, 28, 29, 30, 31, 32, 33, 34, 35, 36], os := [1] } [] gamOK hT h (by kernel_rfl) trivial ?_
          intro a w h
          refine then_normal ?_
          refine wp_ret ?_
          refine in_ret ?_
          refine then_ret ?_
          have hs6 : (allN (relB x0.2) (List.length x0.2)) = false := by exact allN_at (i := i) (by omega) (by first | exact relB_f1 (by assumption) | exact relB_f2 (by omega))
          refine then_ret ?_
          refine in_ret ?_
          refine then_ret ?_
          exact at_return (S := S_spec_IsValidRelay) (x := (x0, ())) (false, ()) [] h (by kernel_rfl) trivial (congrArg (fun z => (z, ())) (show (false) = validL x0 from by (unfold validL; simp_all; try omega)))
        · replace h5 : ¬ ((x0.2.getD ((((i : Nat) : Int) - 1).toNat) (0, (0, (0, ([], 0))))).1 ≥ (x0.2.getD i (0, (0, (0, ([], 0))))).1) := of_decide_eq_false h5
          refine wp_skip ?_
          refine in_normal ?_
          refine then_normal ?_
          refine at_regq (T := S_spec_IsValidRelay_tab) [{}, { nw := true }] { ts := [1, 2, 3, 19, 20, 21, 22, 23, 24, 25, 26, 27, 28, 29, 30, 31, 32, 33, 34, 35, 36], os := [1] } [I64 (((i : Nat) : Int) + 1)] gamOK hT h (by kernel_rfl) ⟨⟨by first | omega | (simp only [List.length_append, List.length_cons, List.length_nil, List.length_set, List.length_take, List.length_drop, List.length_replicate, List.length_map, Nat.min_def]; omega) | (simp; done) | (simp; omega) | done, by first | omega | (simp only [List.length_append, List.length_cons, List.length_nil, List.length_set, List.length_take, List.length_drop, List.length_replicate, List.length_map, Nat.min_def]; omega) | (simp; done) | (simp; omega) | done⟩, trivial⟩ ?_
          intro a w h
          replace h := at_out (σ' := ⟨[(1, aP 1 0), (2, aB false), (3, aI (((i : Nat) : Int) + 1))], [(1, oX 97 [cI x0.1, .ro s122 x0.2])]⟩) { ts := [1, 2, 3], os := [1] } h (by kernel_rfl)
          exact ⟨i + 1, at_eq h (st_congr1 (fun (d0 : Int) => (⟨[(1, aP 1 0), (2, aB false), (3, aI d0)], [(1, oX 97 [cI x0.1, .ro s122 x0.2])]⟩ : St)) (show (((i : Nat) : Int) + 1 : Int) = (((i + 1) : Nat) : Int) from by first | with_reducible rfl | (omega) | rfl)), (by exact ⟨by omega, allN_succ hok0.2 (by exact relB_t (by assumption) (by omega))⟩), (by omega)⟩
      · skip
        refine at_any (T := S_spec_IsValidRelay_tab) [{}, {}, {}, {}, {}, {}, { hint := some (aB false) }, {}, {}, { hint := some (aB false) }, {}, {}, {}, {}, {}, {}, {}, {}, {}, {}, {}, {}, {}, {}, {}, {}, {}] { ts := [1, 2, 3, 19, 20, 21, 22, 23, 24, 25, 26, 27, 28, 29, 30, 31, 32, 33, 34, 35, 36, 37], os := [1] } ⟨[(1, aP 1 0), (2, aB false), (3, aI ((i : Nat) : Int)), (19, aI ((i : Nat) : Int)), (20, aB false), (21, aB false), (22, .p (.c (.v undef))), (23, .p (.c (.v undef))), (24, .p (.c (.v undef))), (25, .p (.c (.v undef))), (26, .p (.c (.v undef))), (27, .p (.c (.v undef))), (28, .p (.c (.v undef))), (29, .p (.c (.v undef))), (30, .p (.c (.v undef))), (31, .p (.c (.v undef))), (32, .p (.c (.v undef))), (33, .p (.c (.v undef))), (34, .p (.c (.v undef))), (35, .p (.c (.v undef))), (36, aB false), (37, aB false)], [(1, oX 97 [cI x0.1, .ro s122 x0.2])]⟩ [(0 : Int) ≤ ((i : Nat) : Int) ∧ ((i : Nat) : Int) < ((List.length x0.2 : Nat) : Int), (fun (x0 : T122) => Sh.fit s122 x0) (x0.2.getD i (0, (0, (0, ([], 0))))), (AV.p (.c (.v (.bool (!(validR (x0.2.getD i (0, (0, (0, ([], 0)))))))))) = AV.p (.c (.v (.bool false)))), (AV.p (.c (.v (.bool (decide (((i : Nat) : Int) > 0))))) = AV.p (.c (.v (.bool false))))] gamOK hT mixed h (by kernel_rfl) ⟨(by refine ⟨?_, ?_⟩ <;> (first | omega | (simp only [List.length_append, List.length_cons, List.length_nil, List.length_set, List.length_take, List.length_drop, List.length_replicate, List.length_map, Nat.min_def]; omega) | (simp; done) | (simp; omega) | done)), (by exact (Sh.fit_getD hf0.2 i)), hint_bool (h2), hint_bool (decide_eq_false h4), trivial⟩ ?_
        intro a w h
        refine then_normal ?_
        refine at_test false h (by kernel_rfl) (fun hh => nomatch hh) (fun hh => ?_)
        refine wp_skip ?_
        refine in_normal ?_
        refine then_normal ?_
        refine at_regq (T := S_spec_IsValidRelay_tab) [{}, { nw := true }] { ts := [1, 2, 3, 19, 20, 21, 22, 23, 24, 25, 26, 27, 28, 29, 30, 31, 32, 33, 34, 35, 36], os := [1] } [I64 (((i : Nat) : Int) + 1)] gamOK hT h (by kernel_rfl) ⟨⟨by first | omega | (simp only [List.length_append, List.length_cons, List.length_nil, List.length_set, List.length_take, List.length_drop, List.length_replicate, List.length_map, Nat.min_def]; omega) | (simp; done) | (simp; omega) | done, by first | omega | (simp only [List.length_append, List.length_cons, List.length_nil, List.length_set, List.length_take, List.length_drop, List.length_replicate, List.length_map, Nat.min_def]; omega) | (simp; done) | (simp; omega) | done⟩, trivial⟩ ?_
        intro a w h
        replace h := at_out (σ' := ⟨[(1, aP 1 0), (2, aB false), (3, aI (((i : Nat) : Int) + 1))], [(1, oX 97 [cI x0.1, .ro s122 x0.2])]⟩) { ts := [1, 2, 3], os := [1] } h (by kernel_rfl)
        exact ⟨i + 1, at_eq h (st_congr1 (fun (d0 : Int) => (⟨[(1, aP 1 0), (2, aB false), (3, aI d0)], [(1, oX 97 [cI x0.1, .ro s122 x0.2])]⟩ : St)) (show (((i : Nat) : Int) + 1 : Int) = (((i + 1) : Nat) : Int) from by first | with_reducible rfl | (omega) | rfl)), (by exact ⟨by omega, allN_succ hok0.2 (by exact relB_t (by assumption) (by omega))⟩), (by omega)⟩
  · replace h1 : ¬ (((i : Nat) : Int) < ((List.length x0.2 : Nat) : Int)) := of_decide_eq_false h1
    refine wp_exit ?_
    refine then_exit ?_
    have hs7 : (allN (relB x0.2) (List.length x0.2)) = true := by exact allN_eq (by omega) hok0.1 hok0.2
    refine then_exit ?_
    refine in_hit ?_
    refine then_normal ?_
    refine wp_seq ?_
    rcases Bool.eq_false_or_eq_true ((inR x0.1 0 7)) with h8 | h8
    · skip
      have hvh8 := inR_t h8
      refine at_reg (T := S_spec_IsValidRelay_tab) [{}, {}, { hint := some (aB true) }] { ts := [2], os := [] } ⟨[(2, aB (decide (((List.length x0.2 : Nat) : Int) ≤ 4)))], []⟩ [True, (AV.p (.c (.v (.bool ((inR x0.1 0 7))))) = AV.p (.c (.v (.bool true))))] gamOK hT h (by kernel_rfl) ⟨trivial, hint_bool (h8), trivial⟩ ?_
      intro a w h
      refine then_normal ?_
      refine wp_ret ?_
      exact at_return (S := S_spec_IsValidRelay) (x := (x0, ())) (decide (((List.length x0.2 : Nat) : Int) ≤ 4), ()) [] h (by kernel_rfl) trivial (congrArg (fun z => (z, ())) (show (decide (((List.length x0.2 : Nat) : Int) ≤ 4)) = validL x0 from by (unfold validL; simp_all; try omega)))
    · skip
      have hvh8 := inR_f h8
      refine at_reg (T := S_spec_IsValidRelay_tab) [{}, {}, { hint := some (aB false) }] { ts := [2], os := [] } ⟨[(2, aB false)], []⟩ [True, (AV.p (.c (.v (.bool ((inR x0.1 0 7))))) = AV.p (.c (.v (.bool false))))] gamOK hT h (by kernel_rfl) ⟨trivial, hint_bool (h8), trivial⟩ ?_
      intro a w h
      refine then_normal ?_
      refine wp_ret ?_
      exact at_return (S := S_spec_IsValidRelay) (x := (x0, ())) (false, ()) [] h (by kernel_rfl) trivial (congrArg (fun z => (z, ())) (show (false) = validL x0 from by (unfold validL; simp_all; try omega)))

def D_laws_FnExactIsValidRelay := (fun (_ : T93) => true)
def S_laws_FnExactIsValidRelay : Sum := { fid := 8, dom := [s93], cod := [(.bool 4)], dp := true, fz := false, pre := fun x => (fun (x0 : T93) => Sh.i64 s93 x0) x.1, g := fun x => ((D_laws_FnExactIsValidRelay x.1), ()) }
def S_laws_FnExactIsValidRelay_tab : List (Nat × Sum) := [(53, S_laws_szRelay), (55, S_laws_toRelay), (54, S_spec_IsValidRelay), (56, S_impl_IsValidRelay), (57, S_laws_eqRelay)]
theorem S_laws_FnExactIsValidRelay_ok : FnOK Try.prog 8 S_laws_FnExactIsValidRelay := by
  refine at_enter 27 (fun x => ⟨[(0, aG [cI x.1.1, .ro s116 x.1.2])], []⟩) Try.func8 rfl (by kernel_rfl) (fun x => rfl) ?_
  rintro w0 Z0 ⟨x0, u⟩ a w
  revert x0
  intro (x0 : T93) hpre hlens h
  replace h : At w0 Z0 [] 27 ⟨[(0, aG [cI x0.1, .ro s116 x0.2])], []⟩ a w := h
  replace hpre : (fun (x0 : T93) => Sh.i64 s93 x0) x0 := hpre
  have hl1 : List.length x0.2 ≤ 9223372036854775807 := hlens.1.2.1
  have hT : TabOK Try.prog S_laws_FnExactIsValidRelay_tab := (.cons S_laws_szRelay_ok (.cons S_laws_toRelay_ok (.cons S_spec_IsValidRelay_ok (.cons S_impl_IsValidRelay_ok (.cons S_laws_eqRelay_ok .nil)))))
  have hq0 : Sh.sz s97 x0 = Sh.sz s93 x0 := rfl
  have hb0 : Sh.ctT s97 x0 ≤ 8 * Sh.sz s97 x0 := Sh.ctT_le2 s97 x0
  have hz0 : Sh.ct s97 x0 ≤ 8 * (1 + Sh.sz s97 x0) := Sh.ct_le s97 x0
  have ht0 : Sh.sz s93 x0 = (0 + (Sh.sz s59 x0.2)) := rfl
  have hs0_1 : Sh.sz s59 x0.2 = List.length x0.2 + ctL (Sh.sz s116) x0.2 := rfl
  refine wp_seq ?_
  refine at_regq (T := S_laws_FnExactIsValidRelay_tab) [{ ids := [1] }] { ts := [1, 2], os := [1] } [] gamOK hT h (by kernel_rfl) trivial ?_
  intro a w h
  refine then_normal ?_
  refine wp_seq ?_
  refine at_regq (T := S_laws_FnExactIsValidRelay_tab) [] { ts := [1, 2, 3], os := [1] } [] gamOK hT h (by kernel_rfl) trivial ?_
  intro a w h
  refine then_normal ?_
  refine wp_seq ?_
  refine at_regq (T := S_laws_FnExactIsValidRelay_tab) [] { ts := [1, 2, 3], os := [1] } [(pSz s93) x0 1048576] gamOK hT h (by kernel_rfl) ⟨(by (show (0 : Int) ≤ _ ∧ _ ≤ (9223372036854775807 : Int); constructor <;> omega)), trivial⟩ ?_
  intro a w h
  refine then_normal ?_
  refine wp_seq ?_
  refine wp_seq ?_
  refine at_reg (T := S_laws_FnExactIsValidRelay_tab) [] { ts := [1, 2, 11], os := [1] } ⟨[(1, aP 1 0), (2, aB false), (11, aB (decide (((szD s93) x0 1048576) < 0)))], [(1, oX 93 [cI x0.1, .ro s116 x0.2])]⟩ [] gamOK hT h (by kernel_rfl) trivial ?_
  intro a w h
  refine then_normal ?_
  refine at_test (decide (((szD s93) x0 1048576) < 0)) h (by kernel_rfl) (fun h1 => ?_) (fun h1 => ?_)
  · replace h1 : ((szD s93) x0 1048576) < 0 := of_decide_eq_true h1
    have hvh1 := szD_neg h1 (by omega)
    refine wp_seq ?_
    refine at_regq (T := S_laws_FnExactIsValidRelay_tab) [] { ts := [1, 2], os := [1] } [] gamOK hT h (by kernel_rfl) trivial ?_
    intro a w h
    refine then_normal ?_
    refine wp_ret ?_
    refine then_ret ?_
    exact at_return (S := S_laws_FnExactIsValidRelay) (x := (x0, ())) (true, ()) [] h (by kernel_rfl) trivial (congrArg (fun z => (z, ())) (show (true) = D_laws_FnExactIsValidRelay x0 from by unfold D_laws_FnExactIsValidRelay; rfl))
  · replace h1 : ¬ (((szD s93) x0 1048576) < 0) := of_decide_eq_false h1
    have hvh1 := szD_val h1 (by omega)
    refine wp_skip ?_
    refine then_normal ?_
    refine wp_seq ?_
    refine at_regq (T := S_laws_FnExactIsValidRelay_tab) [{}, { ids := [2] }] { ts := [1, 2, 4], os := [1] } [(pTo s93) x0, (fun (x0 : T97) => Sh.fit s97 x0) x0] gamOK hT h (by kernel_rfl) ⟨(by (show Sh.sz _ _ ≤ 1048576; omega)), (by exact (Sh.fit_of_sz s97 rfl (x := x0) (by omega))), trivial⟩ ?_
    intro a w h
    refine then_normal ?_
    refine wp_seq ?_
    refine at_regq (T := S_laws_FnExactIsValidRelay_tab) [{}, { ids := [3] }, { ids := [4] }] { ts := [1, 2, 4, 5], os := [1, 3, 4] } [(pTo s93) x0] gamOK hT h (by kernel_rfl) ⟨(by (show Sh.sz _ _ ≤ 1048576; omega)), trivial⟩ ?_
    intro a w h
    refine then_normal ?_
    refine wp_seq ?_
    refine at_regq (T := S_laws_FnExactIsValidRelay_tab) [] { ts := [1, 2, 4, 5, 6], os := [1, 3, 4] } [(fun (x0 : T97) => Sh.fit s97 x0) x0] gamOK hT h (by kernel_rfl) ⟨(by exact (Sh.fit_of_sz s97 rfl (x := x0) (by omega))), trivial⟩ ?_
    intro a w h
    refine then_normal ?_
    refine wp_seq ?_
    refine wp_seq ?_
    refine at_reg (T := S_laws_FnExactIsValidRelay_tab) [] { ts := [1, 2, 5, 21], os := [1, 3, 4] } ⟨[(1, aP 1 0), (2, aB false), (5, aP 4 0), (21, aB (!((validL x0) == (validL x0))))], [(1, oX 93 [cI x0.1, .ro s116 x0.2]), (3, oR s122 x0.2), (4, oX 97 [cI x0.1, .sl 3])]⟩ [] gamOK hT h (by kernel_rfl) trivial ?_
    intro a w h
    refine then_normal ?_
    refine at_test (!((validL x0) == (validL x0))) h (by kernel_rfl) (fun h2 => ?_) (fun h2 => ?_)
    · replace h2 : ((validL x0) == (validL x0)) = false := notT h2
      refine wp_seq ?_
      refine at_regq (T := S_laws_FnExactIsValidRelay_tab) [] { ts := [1, 2, 5], os := [1, 3, 4] } [] gamOK hT h (by kernel_rfl) trivial ?_
      intro a w h
      refine then_normal ?_
      refine wp_ret ?_
      refine then_ret ?_
      exact at_return (S := S_laws_FnExactIsValidRelay) (x := (x0, ())) (false, ()) [] h (by kernel_rfl) trivial (congrArg (fun z => (z, ())) (show (false) = D_laws_FnExactIsValidRelay x0 from by unfold D_laws_FnExactIsValidRelay; exact absurd (beqT (show _ = _ from by first | rfl | (rfl))) (neT h2)))
    · replace h2 : ((validL x0) == (validL x0)) = true := notF h2
      refine wp_skip ?_
      refine then_normal ?_
      refine wp_seq ?_
      refine wp_seq ?_
      refine at_anyq (T := S_laws_FnExactIsValidRelay_tab) [{}, {}, { ids := [5] }, {}, {}] { ts := [2, 26], os := [] } [(pTo s93) x0, True] gamOK hT mixed h (by kernel_rfl) ⟨(by (show Sh.sz _ _ ≤ 1048576; omega)), trivial, trivial⟩ ?_
      intro a w h
      refine then_normal ?_
      refine at_test (!((Sh.eqB s97) x0 x0)) h (by kernel_rfl) (fun h3 => ?_) (fun h3 => ?_)
      · replace h3 : ((Sh.eqB s97) x0 x0) = false := notT h3
        refine wp_seq ?_
        refine at_regq (T := S_laws_FnExactIsValidRelay_tab) [] { ts := [2], os := [] } [] gamOK hT h (by kernel_rfl) trivial ?_
        intro a w h
        refine then_normal ?_
        refine wp_ret ?_
        refine then_ret ?_
        exact at_return (S := S_laws_FnExactIsValidRelay) (x := (x0, ())) (false, ()) [] h (by kernel_rfl) trivial (congrArg (fun z => (z, ())) (show (false) = D_laws_FnExactIsValidRelay x0 from by unfold D_laws_FnExactIsValidRelay; exact absurd ((Sh.eqB_iff _).2 (show _ = _ from by first | rfl | (rfl))) (neT h3)))
      · replace h3 : ((Sh.eqB s97) x0 x0) = true := notF h3
        refine wp_skip ?_
        refine then_normal ?_
        refine wp_seq ?_
        refine at_regq (T := S_laws_FnExactIsValidRelay_tab) [] { ts := [2], os := [] } [] gamOK hT h (by kernel_rfl) trivial ?_
        intro a w h
        refine then_normal ?_
        refine wp_ret ?_
        exact at_return (S := S_laws_FnExactIsValidRelay) (x := (x0, ())) (true, ()) [] h (by kernel_rfl) trivial (congrArg (fun z => (z, ())) (show (true) = D_laws_FnExactIsValidRelay x0 from by unfold D_laws_FnExactIsValidRelay; rfl))

theorem opn3 : OpensS Try.prog 3 (.int 3) := opensS_int Try.underlying3
theorem co3 : Try.prog.cellsOf 3 = 1 := by kernel_rfl
theorem opn22 : OpensS Try.prog 22 s22 := opensS_slice (a := (.int 3)) Try.underlying22 co3 opn3
theorem co22 : Try.prog.cellsOf 22 = 1 := by kernel_rfl
theorem co118 : Try.prog.cellsOf 118 = 3 := by kernel_rfl
theorem opn118 : OpensS Try.prog 118 s118 := by
  intro H enc w base spare held fuel cs x h
  obtain ⟨xs, n, _, _, hl, hlen, hf⟩ := DataW.trod_struct Try.underlying118 h
  obtain ⟨a0, k0, i0⟩ := opensS_field (a := (.int 3)) (i := 0) 0 1 hf hlen rfl rfl rfl co3 opn3
  obtain ⟨a1, k1, i1⟩ := opensS_field (a := s22) (i := 1) 1 1 hf hlen rfl rfl rfl co22 opn22
  obtain ⟨a2, k2, i2⟩ := opensS_field (a := s22) (i := 2) 2 1 hf hlen rfl rfl rfl co22 opn22
  rw [co118] at hl
  exact ⟨(a0, (a1, a2)), (rdS_pair (off := 0) k0 (rdS_pair (off := 1) k1 (rdS_last (off := 2) k2 (by omega)))), ⟨i0, ⟨i1, i2⟩⟩⟩
theorem opn39 : OpensS Try.prog 39 s39 := opensS_slice (a := s118) Try.underlying39 co118 opn118
theorem co39 : Try.prog.cellsOf 39 = 1 := by kernel_rfl
theorem co116 : Try.prog.cellsOf 116 = 5 := by kernel_rfl
theorem opn116 : OpensS Try.prog 116 s116 := by
  intro H enc w base spare held fuel cs x h
  obtain ⟨xs, n, _, _, hl, hlen, hf⟩ := DataW.trod_struct Try.underlying116 h
  obtain ⟨a0, k0, i0⟩ := opensS_field (a := (.int 3)) (i := 0) 0 1 hf hlen rfl rfl rfl co3 opn3
  obtain ⟨a1, k1, i1⟩ := opensS_field (a := (.int 3)) (i := 1) 1 1 hf hlen rfl rfl rfl co3 opn3
  obtain ⟨a2, k2, i2⟩ := opensS_field (a := (.int 3)) (i := 2) 2 1 hf hlen rfl rfl rfl co3 opn3
  obtain ⟨a3, k3, i3⟩ := opensS_field (a := s39) (i := 3) 3 1 hf hlen rfl rfl rfl co39 opn39
  obtain ⟨a4, k4, i4⟩ := opensS_field (a := (.int 3)) (i := 4) 4 1 hf hlen rfl rfl rfl co3 opn3
  rw [co116] at hl
  exact ⟨(a0, (a1, (a2, (a3, a4)))), (rdS_pair (off := 0) k0 (rdS_pair (off := 1) k1 (rdS_pair (off := 2) k2 (rdS_pair (off := 3) k3 (rdS_last (off := 4) k4 (by omega)))))), ⟨i0, ⟨i1, ⟨i2, ⟨i3, i4⟩⟩⟩⟩⟩
theorem opn59 : OpensS Try.prog 59 s59 := opensS_slice (a := s116) Try.underlying59 co116 opn116
theorem co59 : Try.prog.cellsOf 59 = 1 := by kernel_rfl
theorem co93 : Try.prog.cellsOf 93 = 2 := by kernel_rfl
theorem opn93 : OpensS Try.prog 93 s93 := by
  intro H enc w base spare held fuel cs x h
  obtain ⟨xs, n, _, _, hl, hlen, hf⟩ := DataW.trod_struct Try.underlying93 h
  obtain ⟨a0, k0, i0⟩ := opensS_field (a := (.int 3)) (i := 0) 0 1 hf hlen rfl rfl rfl co3 opn3
  obtain ⟨a1, k1, i1⟩ := opensS_field (a := s59) (i := 1) 1 1 hf hlen rfl rfl rfl co59 opn59
  rw [co93] at hl
  exact ⟨(a0, a1), (rdS_pair (off := 0) k0 (rdS_last (off := 1) k1 (by omega))), ⟨i0, i1⟩⟩
namespace fnExactIsValidRelay
open Go.ChangeShapes Go.WideShapes Go.ChangeAt Go.RowKit
theorem own : ownKnob Try.prog.godebug = none := by kernel_rfl
theorem laidOut : laidOutB Try.prog = true := fxLaid
set_option maxRecDepth 100000 in
theorem lifted (os : Os) (started : os.Started) (H : Type) (enc : TypeId × Value → H) :
    ReturnsInHanded {} Try.checked os 8 .any (Rows.fnExactIsValidRelaySpec.pre6 enc Try.prog Try.f8 Rows.fnExactIsValidRelayRow.domain false) (Rows.fnExactIsValidRelaySpec.post enc Try.prog Try.f8 false true false false) := by
  refine returnsInHanded_of_change (C := Try.checked) own started (by kernel_rfl) Try.func8
    (ChangeSpec.witness6 (enc := enc) (C := Try.checked) false ⟨#[], #[.agg #[.int .i64 0, .slice none 0 0]], []⟩ 8 (by kernel_rfl) (by kernel_rfl) (by kernel_rfl) (by kernel_rfl)) ?_
  intro W base args ds gs before hval0 hW hcnd _
  have hval : ∀ (j : Nat) t v, Try.f8.params[j]? = some t → args[j]? = some v → Value.okWide Try.prog W .any base t v := hval0
  have hW' := hW
  obtain ⟨p, q, hA0, hV, rfl, hfz, hnd⟩ := hW
  have hA : DataW.TrodAll enc Try.prog W 0 (fun _ => true) true Try.f8.params.toList args.toList ds p := hA0
  rw [Try.params8] at hA hval
  obtain ⟨v0, vs0, d0, ds0, p0, q0, hargs, rfl, rfl, h0, r0⟩ := trodAll_cons hA
  obtain ⟨rfl, rfl, rfl⟩ := trodAll_nil r0
  obtain rfl : args = #[v0] := by cases args; simp_all
  obtain ⟨rfl, rfl⟩ := trodVars_none hV
  have k0 := h0
  have lt0 : ∀ x ∈ p0, x.block < W.heap.size := by obtain ⟨m, hm⟩ := k0; exact DataW.trod_lt m _ _ _ hm
  obtain ⟨cs0, rfl, _⟩ := okWide_struct Try.underlying93 (hval 0 93 v0 rfl rfl)
  obtain ⟨cs0⟩ := cs0
  obtain ⟨x0, hx0, i0⟩ : ∃ x : (s93).D, (s93).rd W (fun b => b < W.heap.size) cs0 x ∧ (s93).i64 x := by obtain ⟨fuel, hf⟩ := h0; exact opn93 hf
  clear hA0 hval0
  refine (calls_law S_laws_FnExactIsValidRelay_ok (by kernel_rfl) W (fun b => b < W.heap.size) [.agg cs0.toArray] (x0, ()) (fun _ h => h) ⟨argRd_st hx0, trivial⟩ i0).mono fun e W' hr => ?_
  obtain ⟨he, bel⟩ := ret_bool hr
  subst he
  exact ⟨_, rfl, _, _, _, [], _, [], hW', trodAll_mk1 (shut_bool Try.underlying4 _), (trodAll_cons_mk (Below.trod laidOut (by kernel_rfl) (of_decide_eq_true (by kernel_rfl)) k0 bel lt0) trodAll_mk0), rfl, bel.frame _, fun h => by cases h⟩
theorem closed : joinedFacts Try.prog 8 Try.f8 (Rows.fnExactIsValidRelaySpec) Rows.fnExactIsValidRelayRow = true := by
  unfold joinedFacts
  exact (and2 (and2 (and2 (and2 (and2 (and2 (and2 (and2 (and2 (and2 (and2 (and2 (and2 (and2 (and2 (and2 (and2 (and2 (and2 (and2 (and2 (and2 (and2 (and2 (and2 (and2 (and2 (and2 (and2 (and2 (and2 (by kernel_rfl) fxLaid) fxMaps) (by kernel_rfl)) (by kernel_rfl)) (by kernel_rfl)) (by kernel_rfl)) (by kernel_rfl)) (by kernel_rfl)) (by kernel_rfl)) (by kernel_rfl)) (by kernel_rfl)) (by kernel_rfl)) (by kernel_rfl)) (by kernel_rfl)) (by kernel_rfl)) (by kernel_rfl)) (by kernel_rfl)) (by kernel_rfl)) (by kernel_rfl)) (by kernel_rfl)) (by kernel_rfl)) (by kernel_rfl)) (by kernel_rfl)) (by kernel_rfl)) fxEnter) (by rw [fxLifts]; kernel_rfl)) (by rw [fxMake]; kernel_rfl)) (by kernel_rfl)) (by kernel_rfl)) (by kernel_rfl)) (by kernel_rfl))
theorem over : Rows.fnExactIsValidRelayRow.holds Try.pinned (OpenSpec.ofChange Rows.fnExactIsValidRelaySpec) :=
  OpenClaim.holds_of_wide 8 Try.f8 rfl rfl rfl rfl rfl rfl rfl ⟨rfl, rfl, rfl, rfl, rfl⟩ rfl rfl rfl rfl rfl (by kernel_rfl) Try.func8 closed
    (of_decide_eq_true (by kernel_rfl)) (by unfold Func.isWrapper; first | (rw [if_pos (by decide +kernel)]; kernel_rfl) | (rw [if_neg (by decide +kernel)]; exact ⟨rfl, rfl⟩))
    (fun os started H enc _ => lifted os started H enc)
/-- the statement -/
theorem proved : Rows.FnExactIsValidRelaySaid := over
end fnExactIsValidRelay

end Go.Proofs.Ytkialoggpcdhkaa

/- The law FnExactSumOf returns true for every input and leaves its arguments as they were. No condition. -/
import Derived.Test.YtkialoggpcdhkaaSumOf2
import Derived.Test.YtkialoggpcdhkaaLA
import Derived.Test.YtkialoggpcdhkaaProg
import Derived.Test.YtkialoggpcdhkaaRows
import Derived.Test.YtkialoggpcdhkaaFX
namespace Go.Proofs.Ytkialoggpcdhkaa
open Go.RowKit
set_option linter.unusedVariables false
set_option linter.unusedSimpArgs false
def S__P_impl_Basis_insert : Sum := { fid := 151, dom := [s105, s22], cod := [(.bool 4)], dp := true, fz := false, pre := fun x => (fun (x0 : T105) (x1 : (List Int)) => Sh.fit s105 x0 ∧ Sh.fit s22 x1 ∧ redP x0 x1) x.1 x.2.1, g := fun x => ((insD x.1 x.2.1), ()), kinds := [(.bx 105 0), .rd], upd := fun x => (insU x.1 x.2.1, (x.2.1, ())) }
def S__P_impl_Basis_insert_tab : List (Nat × Sum) := [(216, S__impl_Basis_reduce), (217, S_impl_LeadingIndex), (219, S_impl_InverseField), (218, S_impl_ScaleVector), (220, S_impl_addScaled), (221, S_slices_Insert_S_S_int_S_int_)]
theorem S__P_impl_Basis_insert_ok : FnOK Try.prog 151 S__P_impl_Basis_insert := by
  refine at_enterI 66 [1, 2] [3] (fun us x => ⟨[(0, aP 1 0), (1, aF (.int 3) x.2.1)], [(1, oX 105 [cI x.1.1, .sl 2]), (2, oR s22 x.1.2), (3, oP 1 (S__P_impl_Basis_insert.hd us 0))]⟩) Try.func151 rfl (by kernel_rfl) (fun us x => rfl) ?_
  rintro w0 Z0 us ⟨x0, x1, u⟩ L a w
  revert x0 x1
  intro (x0 : T105) (x1 : (List Int)) hio hpre hlens h
  replace h : At w0 Z0 L 66 ⟨[(0, aP 1 0), (1, aF (.int 3) x1)], [(1, oX 105 [cI x0.1, .sl 2]), (2, oR s22 x0.2), (3, oP 1 (S__P_impl_Basis_insert.hd us 0))]⟩ a w := h
  replace hpre : (fun (x0 : T105) (x1 : (List Int)) => Sh.fit s105 x0 ∧ Sh.fit s22 x1 ∧ redP x0 x1) x0 x1 := hpre
  have hl1 : List.length x0.2 ≤ 9223372036854775807 := hlens.1.2.1
  have hl2 : List.length x1 ≤ 9223372036854775807 := hlens.2.1.1
  have hT : TabOK Try.prog S__P_impl_Basis_insert_tab := (.cons S__impl_Basis_reduce_ok (.cons S_impl_LeadingIndex_ok (.cons S_impl_InverseField_ok (.cons S_impl_ScaleVector_ok (.cons S_impl_addScaled_ok (.cons S_slices_Insert_S_S_int_S_int__ok .nil))))))
  obtain ⟨hf0, hf1, hpx⟩ := hpre
  have hn0_1 : List.length x0.2 ≤ 1073741824 := hf0.2.1
  have hn1_2 : List.length x1 ≤ 1073741824 := hf1.1
  have hb0 := hpx.1.1
  have hbR := hpx.1.2
  have hbv := hpx.2
  have hrd := LA.redS_rng hbR hbv
  have hrdl := hrd.1
  have hrn := hbR.len
  refine wp_seq ?_
  refine at_regq (T := S__P_impl_Basis_insert_tab) [] { ts := [0, 1, 4], os := [1, 2, 3] } [] gamOK hT h (by kernel_rfl) trivial ?_
  intro a w h
  refine then_normal ?_
  refine wp_seq ?_
  refine at_regq (T := S__P_impl_Basis_insert_tab) [{}, {}, {}, {}, { ids := [4] }] { ts := [0, 4, 5], os := [1, 2, 3, 4] } [(fun (x0 : T105) (x1 : (List Int)) => Sh.fit s105 x0 ∧ Sh.fit s22 x1 ∧ redP x0 x1) x0 x1] gamOK hT h (by kernel_rfl) ⟨(by exact ⟨hf0, hf1, hpx⟩), trivial⟩ ?_
  intro a w h
  refine then_normal ?_
  refine wp_seq ?_
  refine at_regq (T := S__P_impl_Basis_insert_tab) [] { ts := [0, 4, 5, 6], os := [1, 2, 3, 4] } [(fun (x0 : (List Int)) => Sh.fit s22 x0) (LA.redS x0.2 x1)] gamOK hT h (by kernel_rfl) ⟨(by first | exact fitV hrd (by omega) | exact fitV hrk (by omega) | exact Sh.fit_len rfl (by rw [LA.addS_len (by omega)]; omega)), trivial⟩ ?_
  intro a w h
  refine then_normal ?_
  refine wp_seq ?_
  refine wp_seq ?_
  refine at_reg (T := S__P_impl_Basis_insert_tab) [] { ts := [0, 4, 5, 6, 19], os := [1, 2, 3, 4] } ⟨[(0, aP 1 0), (4, aB false), (5, aS 4), (6, aI (LA.leadS (LA.redS x0.2 x1))), (19, aB (decide ((LA.leadS (LA.redS x0.2 x1)) < 0)))], [(1, oX 105 [cI x0.1, .sl 2]), (2, oR s22 x0.2), (3, oP 1 (S__P_impl_Basis_insert.hd us 0)), (4, oR (.int 3) (LA.redS x0.2 x1))]⟩ [] gamOK hT h (by kernel_rfl) trivial ?_
  intro a w h
  refine then_normal ?_
  refine at_test (decide ((LA.leadS (LA.redS x0.2 x1)) < 0)) h (by kernel_rfl) (fun h1 => ?_) (fun h1 => ?_)
  · replace h1 : (LA.leadS (LA.redS x0.2 x1)) < 0 := of_decide_eq_true h1
    refine wp_seq ?_
    refine at_regq (T := S__P_impl_Basis_insert_tab) [] { ts := [0, 4, 5, 6], os := [1, 2, 3, 4] } [] gamOK hT h (by kernel_rfl) trivial ?_
    intro a w h
    refine then_normal ?_
    refine wp_ret ?_
    refine then_ret ?_
    exact at_returnI (S := S__P_impl_Basis_insert) (x := (x0, x1, ())) [1, 2] [3] (x0, (x1, ())) (some (false, ())) [S__P_impl_Basis_insert.hd us 0 = S__P_impl_Basis_insert.hd us 0] hio h (by kernel_rfl) ⟨rfl, trivial⟩ (by first | rfl | exact congrArg (fun (z : T105) => (z, (x1, ()))) (show (x0 : T105) = insU x0 x1 from by (unfold insU; first | (rw [LA.insS_no (by assumption)]; done) | (rw [LA.insS_yes (by assumption)]; rfl)))) (fun z e => (Option.some.inj e) ▸ (congrArg (fun z => (z, ())) (show (false) = insD x0 x1 from by (unfold insD; first | (rw [LA.insS_no (by assumption)]; done) | (rw [LA.insS_yes (by assumption)]; done)))))
  · replace h1 : ¬ ((LA.leadS (LA.redS x0.2 x1)) < 0) := of_decide_eq_false h1
    have hlp := LA.leadS_bd (LA.redS x0.2 x1)
    have hwk := LA.insW_ok hbR hbv (by omega)
    have hwl := hwk.1
    have hpz := (LA.leadS_pos (v := LA.redS x0.2 x1) (by omega)).1
    refine wp_skip ?_
    refine then_normal ?_
    refine wp_seq ?_
    refine at_regq (T := S__P_impl_Basis_insert_tab) [{}, {}, {}, {}, {}, {}, { ids := [5] }] { ts := [0, 4, 5, 6], os := [1, 2, 3, 5] } [(0 : Int) ≤ (LA.leadS (LA.redS x0.2 x1)) ∧ (LA.leadS (LA.redS x0.2 x1)) < ((List.length (LA.redS x0.2 x1) : Nat) : Int), ((LA.leadS (LA.redS x0.2 x1))).toNat < List.length (LA.redS x0.2 x1), True, (fun (x0 : (List Int)) (x1 : Int) => Sh.fit s22 x0) (LA.redS x0.2 x1) (invF ((LA.redS x0.2 x1).getD (((LA.leadS (LA.redS x0.2 x1))).toNat) 0))] gamOK hT h (by kernel_rfl) ⟨(by refine ⟨?_, ?_⟩ <;> (first | omega | (simp only [List.length_append, List.length_cons, List.length_nil, List.length_set, List.length_take, List.length_drop, List.length_replicate, List.length_map, Nat.min_def]; omega) | (simp; done) | (simp; omega) | done)), (by first | omega | (simp only [List.length_append, List.length_cons, List.length_nil, List.length_set, List.length_take, List.length_drop, List.length_replicate, List.length_map, Nat.min_def]; omega) | (simp; done) | (simp; omega) | done), trivial, (by exact fitV hrd (by omega)), trivial⟩ ?_
    intro a w h
    refine then_normal ?_
    refine wp_seq ?_
    refine at_regq (T := S__P_impl_Basis_insert_tab) [] { ts := [0, 4, 5, 6, 7], os := [1, 2, 3, 5] } [] gamOK hT h (by kernel_rfl) trivial ?_
    intro a w h
    refine then_normal ?_
    refine wp_seq ?_
    refine wp_seq ?_
    refine at_regq (T := S__P_impl_Basis_insert_tab) [] { ts := [0, 4, 5, 6, 7, 30, 31, 32], os := [1, 2, 3, 5] } [] gamOK hT h (by kernel_rfl) trivial ?_
    intro a w h
    refine then_normal ?_
    refine wp_block ?_
    replace h := at_out (σ' := ⟨[(0, aP 1 0), (4, aB false), (5, aS 5), (6, aI (LA.leadS (LA.redS x0.2 x1))), (7, aI 0), (30, aS 2), (31, aI ((List.length x0.2 : Nat) : Int)), (32, aI 0)], [(1, oX 105 [cI x0.1, .sl 2]), (2, oR s22 x0.2), (3, oP 1 (S__P_impl_Basis_insert.hd us 0)), (5, oR (.int 3) (scaleV (LA.redS x0.2 x1) (invF ((LA.redS x0.2 x1).getD (((LA.leadS (LA.redS x0.2 x1))).toNat) 0))))]⟩) { ts := [0, 4, 5, 6, 7, 30, 31, 32], os := [1, 2, 3, 5] } h (by kernel_rfl)
    refine at_loop (fun i : Nat => (⟨[(0, aP 1 0), (4, aB false), (5, aS 5), (6, aI (LA.leadS (LA.redS x0.2 x1))), (7, aI ((LA.atTo (LA.insE x0.2 x1) (LA.leadS (LA.redS x0.2 x1)) i : Nat) : Int)), (30, aS 2), (31, aI ((List.length x0.2 : Nat) : Int)), (32, aI ((i : Nat) : Int))], [(1, oX 105 [cI x0.1, .sl 2]), (2, oR s22 (LA.elTo x0.2 (LA.insW x0.2 x1) (LA.leadS (LA.redS x0.2 x1)).toNat i)), (3, oP 1 (S__P_impl_Basis_insert.hd us 0)), (5, oR (.int 3) (LA.insW x0.2 x1))]⟩ : St)) (fun i => i ≤ List.length x0.2) (fun i => List.length x0.2 - i) (0) h (st_congr4 (fun (d0 : List (List Int)) (d1 : List Int) (d2 : Int) (d3 : Int) => (⟨[(0, aP 1 0), (4, aB false), (5, aS 5), (6, aI (LA.leadS (LA.redS x0.2 x1))), (7, aI d2), (30, aS 2), (31, aI ((List.length x0.2 : Nat) : Int)), (32, aI d3)], [(1, oX 105 [cI x0.1, .sl 2]), (2, oR s22 d0), (3, oP 1 (S__P_impl_Basis_insert.hd us 0)), (5, oR (.int 3) d1)]⟩ : St)) (show (x0.2 : List (List Int)) = (LA.elTo x0.2 (LA.insW x0.2 x1) (LA.leadS (LA.redS x0.2 x1)).toNat (0)) from by first | with_reducible rfl | (first | rfl | exact ins_w hrd (by omega) (by omega)) | rfl) (show ((scaleV (LA.redS x0.2 x1) (invF ((LA.redS x0.2 x1).getD (((LA.leadS (LA.redS x0.2 x1))).toNat) 0))) : List Int) = (LA.insW x0.2 x1) from by first | with_reducible rfl | (first | rfl | exact ins_w hrd (by omega) (by omega)) | rfl) (show (0 : Int) = ((LA.atTo (LA.insE x0.2 x1) (LA.leadS (LA.redS x0.2 x1)) (0) : Nat) : Int) from by first | with_reducible rfl | (first | rfl | exact ins_w hrd (by omega) (by omega)) | rfl) (show (0 : Int) = (((0) : Nat) : Int) from by first | with_reducible rfl | (first | rfl | exact ins_w hrd (by omega) (by omega)) | rfl)) (by omega) ?_
    intro i a w hok0 h
    have hel := LA.elTo_len (rows := x0.2) (w := (LA.insW x0.2 x1)) (l := (LA.leadS (LA.redS x0.2 x1)).toNat) (i := i)
    refine wp_seq ?_
    refine at_reg (T := S__P_impl_Basis_insert_tab) [] { ts := [0, 4, 5, 6, 7, 30, 31, 32, 33], os := [1, 2, 3, 5] } ⟨[(0, aP 1 0), (4, aB false), (5, aS 5), (6, aI (LA.leadS (LA.redS x0.2 x1))), (7, aI ((LA.atTo (LA.insE x0.2 x1) (LA.leadS (LA.redS x0.2 x1)) i : Nat) : Int)), (30, aS 2), (31, aI ((List.length x0.2 : Nat) : Int)), (32, aI ((i : Nat) : Int)), (33, aB (decide (((i : Nat) : Int) < ((List.length x0.2 : Nat) : Int))))], [(1, oX 105 [cI x0.1, .sl 2]), (2, oR s22 (LA.elTo x0.2 (LA.insW x0.2 x1) (LA.leadS (LA.redS x0.2 x1)).toNat i)), (3, oP 1 (S__P_impl_Basis_insert.hd us 0)), (5, oR (.int 3) (LA.insW x0.2 x1))]⟩ [] gamOK hT h (by kernel_rfl) trivial ?_
    intro a w h
    refine then_normal ?_
    refine wp_seq ?_
    refine at_test (decide (((i : Nat) : Int) < ((List.length x0.2 : Nat) : Int))) h (by kernel_rfl) (fun h2 => ?_) (fun h2 => ?_)
    · replace h2 : ((i : Nat) : Int) < ((List.length x0.2 : Nat) : Int) := of_decide_eq_true h2
      have hrr := hbR.at_ (show i < List.length x0.2 by omega)
      have hge := LA.elTo_get (w := (LA.insW x0.2 x1)) (l := (LA.leadS (LA.redS x0.2 x1)).toNat) (show i < List.length x0.2 by omega)
      have hrk : LA.VokB x0.1.toNat ((LA.elTo x0.2 (LA.insW x0.2 x1) (LA.leadS (LA.redS x0.2 x1)).toNat i).getD i []) := by rw [hge]; exact hrr.1
      have hrkl := hrk.1
      have hrkr := hrk.rng (LA.leadS (LA.redS x0.2 x1)).toNat
      refine wp_skip ?_
      refine then_normal ?_
      refine wp_seq ?_
      refine wp_block ?_
      refine wp_seq ?_
      replace h := at_open (σ' := ⟨[(0, aP 1 0), (4, aB false), (5, aS 5), (6, aI (LA.leadS (LA.redS x0.2 x1))), (7, aI ((LA.atTo (LA.insE x0.2 x1) (LA.leadS (LA.redS x0.2 x1)) i : Nat) : Int)), (30, aS 2), (31, aI ((List.length x0.2 : Nat) : Int)), (32, aI ((i : Nat) : Int)), (33, aB (decide (((i : Nat) : Int) < ((List.length x0.2 : Nat) : Int))))], [(1, oX 105 [cI x0.1, .sl 2]), (2, some (.op s22 (LA.elTo x0.2 (LA.insW x0.2 x1) (LA.leadS (LA.redS x0.2 x1)).toNat i) i [.sl 6])), (3, oP 1 (S__P_impl_Basis_insert.hd us 0)), (5, oR (.int 3) (LA.insW x0.2 x1)), (6, oR (.int 3) ((LA.elTo x0.2 (LA.insW x0.2 x1) (LA.leadS (LA.redS x0.2 x1)).toNat i).getD i []))]⟩) (ps := [i < List.length (LA.elTo x0.2 (LA.insW x0.2 x1) (LA.leadS (LA.redS x0.2 x1)).toNat i)]) 2 i [6] { ts := [0, 4, 5, 6, 7, 30, 31, 32, 33], os := [1, 2, 3, 5, 6] } h (by kernel_rfl) ⟨(by first | omega | (simp only [List.length_append, List.length_cons, List.length_nil, List.length_set, List.length_take, List.length_drop, List.length_replicate, List.length_map, Nat.min_def]; omega) | (simp; done) | (simp; omega) | done), trivial⟩
      refine at_regq (T := S__P_impl_Basis_insert_tab) [] { ts := [0, 4, 5, 6, 7, 8, 9, 30, 31, 32], os := [1, 2, 3, 5, 6] } [(0 : Int) ≤ ((i : Nat) : Int) ∧ ((i : Nat) : Int) < ((List.length (LA.elTo x0.2 (LA.insW x0.2 x1) (LA.leadS (LA.redS x0.2 x1)).toNat i) : Nat) : Int), i = i] gamOK hT h (by kernel_rfl) ⟨(by refine ⟨?_, ?_⟩ <;> (first | omega | (simp only [List.length_append, List.length_cons, List.length_nil, List.length_set, List.length_take, List.length_drop, List.length_replicate, List.length_map, Nat.min_def]; omega) | (simp; done) | (simp; omega) | done)), rfl, trivial⟩ ?_
      intro a w h
      refine then_normal ?_
      refine wp_seq ?_
      refine wp_seq ?_
      refine at_regq (T := S__P_impl_Basis_insert_tab) [] { ts := [0, 4, 5, 6, 7, 8, 9, 10, 30, 31, 32], os := [1, 2, 3, 5, 6] } [(0 : Int) ≤ (LA.leadS (LA.redS x0.2 x1)) ∧ (LA.leadS (LA.redS x0.2 x1)) < ((List.length ((LA.elTo x0.2 (LA.insW x0.2 x1) (LA.leadS (LA.redS x0.2 x1)).toNat i).getD i []) : Nat) : Int), ((LA.leadS (LA.redS x0.2 x1))).toNat < List.length ((LA.elTo x0.2 (LA.insW x0.2 x1) (LA.leadS (LA.redS x0.2 x1)).toNat i).getD i [])] gamOK hT h (by kernel_rfl) ⟨(by refine ⟨?_, ?_⟩ <;> (first | omega | (simp only [List.length_append, List.length_cons, List.length_nil, List.length_set, List.length_take, List.length_drop, List.length_replicate, List.length_map, Nat.min_def]; omega) | (simp; done) | (simp; omega) | done)), (by first | omega | (simp only [List.length_append, List.length_cons, List.length_nil, List.length_set, List.length_take, List.length_drop, List.length_replicate, List.length_map, Nat.min_def]; omega) | (simp; done) | (simp; omega) | done), trivial⟩ ?_
      intro a w h
      refine then_normal ?_
      refine wp_seq ?_
      refine at_regq (T := S__P_impl_Basis_insert_tab) [] { ts := [0, 4, 5, 6, 7, 8, 9, 10, 30, 31, 32, 42], os := [1, 2, 3, 5, 6] } [] gamOK hT h (by kernel_rfl) trivial ?_
      intro a w h
      refine then_normal ?_
      refine at_test (!decide ((((LA.elTo x0.2 (LA.insW x0.2 x1) (LA.leadS (LA.redS x0.2 x1)).toNat i).getD i []).getD (((LA.leadS (LA.redS x0.2 x1))).toNat) 0) = 0)) h (by kernel_rfl) (fun h3 => ?_) (fun h3 => ?_)
      · replace h3 : ¬ ((((LA.elTo x0.2 (LA.insW x0.2 x1) (LA.leadS (LA.redS x0.2 x1)).toNat i).getD i []).getD (((LA.leadS (LA.redS x0.2 x1))).toNat) 0) = 0) := of_decide_eq_false (notT h3)
        refine at_reg (T := S__P_impl_Basis_insert_tab) [{}, {}, {}, { nw := true }] { ts := [0, 4, 5, 6, 7, 8, 9, 30, 31, 32], os := [1, 2, 3, 5, 6] } ⟨[(0, aP 1 0), (4, aB false), (5, aS 5), (6, aI (LA.leadS (LA.redS x0.2 x1))), (7, aI ((LA.atTo (LA.insE x0.2 x1) (LA.leadS (LA.redS x0.2 x1)) i : Nat) : Int)), (8, aI ((i : Nat) : Int)), (9, aS 6), (30, aS 2), (31, aI ((List.length x0.2 : Nat) : Int)), (32, aI ((i : Nat) : Int))], [(1, oX 105 [cI x0.1, .sl 2]), (2, some (.op s22 (LA.elTo x0.2 (LA.insW x0.2 x1) (LA.leadS (LA.redS x0.2 x1)).toNat i) i [.sl 6])), (3, oP 1 (S__P_impl_Basis_insert.hd us 0)), (5, oR (.int 3) (LA.insW x0.2 x1)), (6, oR (.int 3) (LA.addS ((LA.elTo x0.2 (LA.insW x0.2 x1) (LA.leadS (LA.redS x0.2 x1)).toNat i).getD i []) (LA.insW x0.2 x1) (1019 - (((LA.elTo x0.2 (LA.insW x0.2 x1) (LA.leadS (LA.redS x0.2 x1)).toNat i).getD i []).getD (((LA.leadS (LA.redS x0.2 x1))).toNat) 0))))]⟩ [I64 (1019 - (((LA.elTo x0.2 (LA.insW x0.2 x1) (LA.leadS (LA.redS x0.2 x1)).toNat i).getD i []).getD (((LA.leadS (LA.redS x0.2 x1))).toNat) 0)), (fun (x0 : (List Int)) (x1 : (List Int)) (x2 : Int) => Sh.fit s22 x0 ∧ Sh.fit s22 x1 ∧ addOK x0 x1 x2) ((LA.elTo x0.2 (LA.insW x0.2 x1) (LA.leadS (LA.redS x0.2 x1)).toNat i).getD i []) (LA.insW x0.2 x1) (1019 - (((LA.elTo x0.2 (LA.insW x0.2 x1) (LA.leadS (LA.redS x0.2 x1)).toNat i).getD i []).getD (((LA.leadS (LA.redS x0.2 x1))).toNat) 0))] gamOK hT h (by kernel_rfl) ⟨⟨by first | omega | (simp only [List.length_append, List.length_cons, List.length_nil, List.length_set, List.length_take, List.length_drop, List.length_replicate, List.length_map, Nat.min_def]; omega) | (simp; done) | (simp; omega) | done, by first | omega | (simp only [List.length_append, List.length_cons, List.length_nil, List.length_set, List.length_take, List.length_drop, List.length_replicate, List.length_map, Nat.min_def]; omega) | (simp; done) | (simp; omega) | done⟩, (by exact ⟨fitV hrk (by omega), fitV hwk (by omega), addOK_of hrk hwk (by omega)⟩), trivial⟩ ?_
        intro a w h
        refine then_normal ?_
        refine wp_seq ?_
        refine at_regq (T := S__P_impl_Basis_insert_tab) [] { ts := [0, 4, 5, 6, 7, 8, 30, 31, 32, 51], os := [1, 2, 3, 5, 6] } [(fun (x0 : (List Int)) => Sh.fit s22 x0) (LA.addS ((LA.elTo x0.2 (LA.insW x0.2 x1) (LA.leadS (LA.redS x0.2 x1)).toNat i).getD i []) (LA.insW x0.2 x1) (1019 - (((LA.elTo x0.2 (LA.insW x0.2 x1) (LA.leadS (LA.redS x0.2 x1)).toNat i).getD i []).getD (((LA.leadS (LA.redS x0.2 x1))).toNat) 0)))] gamOK hT h (by kernel_rfl) ⟨(by first | exact fitV hrd (by omega) | exact fitV hrk (by omega) | exact Sh.fit_len rfl (by rw [LA.addS_len (by omega)]; omega)), trivial⟩ ?_
        intro a w h
        refine then_normal ?_
        refine at_test (decide ((LA.leadS (LA.addS ((LA.elTo x0.2 (LA.insW x0.2 x1) (LA.leadS (LA.redS x0.2 x1)).toNat i).getD i []) (LA.insW x0.2 x1) (1019 - (((LA.elTo x0.2 (LA.insW x0.2 x1) (LA.leadS (LA.redS x0.2 x1)).toNat i).getD i []).getD (((LA.leadS (LA.redS x0.2 x1))).toNat) 0)))) < (LA.leadS (LA.redS x0.2 x1)))) h (by kernel_rfl) (fun h4 => ?_) (fun h4 => ?_)
        · replace h4 : (LA.leadS (LA.addS ((LA.elTo x0.2 (LA.insW x0.2 x1) (LA.leadS (LA.redS x0.2 x1)).toNat i).getD i []) (LA.insW x0.2 x1) (1019 - (((LA.elTo x0.2 (LA.insW x0.2 x1) (LA.leadS (LA.redS x0.2 x1)).toNat i).getD i []).getD (((LA.leadS (LA.redS x0.2 x1))).toNat) 0)))) < (LA.leadS (LA.redS x0.2 x1)) := of_decide_eq_true h4
          refine at_regq (T := S__P_impl_Basis_insert_tab) [{}, { nw := true }] { ts := [0, 4, 5, 6, 7, 30, 31, 32], os := [1, 2, 3, 5, 6] } [I64 (((i : Nat) : Int) + 1)] gamOK hT h (by kernel_rfl) ⟨⟨by first | omega | (simp only [List.length_append, List.length_cons, List.length_nil, List.length_set, List.length_take, List.length_drop, List.length_replicate, List.length_map, Nat.min_def]; omega) | (simp; done) | (simp; omega) | done, by first | omega | (simp only [List.length_append, List.length_cons, List.length_nil, List.length_set, List.length_take, List.length_drop, List.length_replicate, List.length_map, Nat.min_def]; omega) | (simp; done) | (simp; omega) | done⟩, trivial⟩ ?_
          intro a w h
          refine in_normal ?_
          refine then_normal ?_
          refine at_regq (T := S__P_impl_Basis_insert_tab) [{ nw := true }] { ts := [0, 4, 5, 6, 7, 30, 31, 32], os := [1, 2, 3, 5, 6] } [I64 (((i : Nat) : Int) + 1)] gamOK hT h (by kernel_rfl) ⟨⟨by first | omega | (simp only [List.length_append, List.length_cons, List.length_nil, List.length_set, List.length_take, List.length_drop, List.length_replicate, List.length_map, Nat.min_def]; omega) | (simp; done) | (simp; omega) | done, by first | omega | (simp only [List.length_append, List.length_cons, List.length_nil, List.length_set, List.length_take, List.length_drop, List.length_replicate, List.length_map, Nat.min_def]; omega) | (simp; done) | (simp; omega) | done⟩, trivial⟩ ?_
          intro a w h
          replace h := at_shut (σ' := ⟨[(0, aP 1 0), (4, aB false), (5, aS 5), (6, aI (LA.leadS (LA.redS x0.2 x1))), (7, aI (((i : Nat) : Int) + 1)), (30, aS 2), (31, aI ((List.length x0.2 : Nat) : Int)), (32, aI (((i : Nat) : Int) + 1))], [(1, oX 105 [cI x0.1, .sl 2]), (2, oR s22 (List.set (LA.elTo x0.2 (LA.insW x0.2 x1) (LA.leadS (LA.redS x0.2 x1)).toNat i) i (LA.addS ((LA.elTo x0.2 (LA.insW x0.2 x1) (LA.leadS (LA.redS x0.2 x1)).toNat i).getD i []) (LA.insW x0.2 x1) (1019 - (((LA.elTo x0.2 (LA.insW x0.2 x1) (LA.leadS (LA.redS x0.2 x1)).toNat i).getD i []).getD (((LA.leadS (LA.redS x0.2 x1))).toNat) 0))))), (3, oP 1 (S__P_impl_Basis_insert.hd us 0)), (5, oR (.int 3) (LA.insW x0.2 x1))]⟩) (ps := []) 2 { ts := [0, 4, 5, 6, 7, 30, 31, 32], os := [1, 2, 3, 5] } h (by kernel_rfl) trivial
          replace h := at_out (σ' := ⟨[(0, aP 1 0), (4, aB false), (5, aS 5), (6, aI (LA.leadS (LA.redS x0.2 x1))), (7, aI (((i : Nat) : Int) + 1)), (30, aS 2), (31, aI ((List.length x0.2 : Nat) : Int)), (32, aI (((i : Nat) : Int) + 1))], [(1, oX 105 [cI x0.1, .sl 2]), (2, oR s22 (List.set (LA.elTo x0.2 (LA.insW x0.2 x1) (LA.leadS (LA.redS x0.2 x1)).toNat i) i (LA.addS ((LA.elTo x0.2 (LA.insW x0.2 x1) (LA.leadS (LA.redS x0.2 x1)).toNat i).getD i []) (LA.insW x0.2 x1) (1019 - (((LA.elTo x0.2 (LA.insW x0.2 x1) (LA.leadS (LA.redS x0.2 x1)).toNat i).getD i []).getD (((LA.leadS (LA.redS x0.2 x1))).toNat) 0))))), (3, oP 1 (S__P_impl_Basis_insert.hd us 0)), (5, oR (.int 3) (LA.insW x0.2 x1))]⟩) { ts := [0, 4, 5, 6, 7, 30, 31, 32], os := [1, 2, 3, 5] } h (by kernel_rfl)
          exact ⟨i + 1, at_eq h (st_congr4 (fun (d0 : List (List Int)) (d1 : List Int) (d2 : Int) (d3 : Int) => (⟨[(0, aP 1 0), (4, aB false), (5, aS 5), (6, aI (LA.leadS (LA.redS x0.2 x1))), (7, aI d2), (30, aS 2), (31, aI ((List.length x0.2 : Nat) : Int)), (32, aI d3)], [(1, oX 105 [cI x0.1, .sl 2]), (2, oR s22 d0), (3, oP 1 (S__P_impl_Basis_insert.hd us 0)), (5, oR (.int 3) d1)]⟩ : St)) (show ((List.set (LA.elTo x0.2 (LA.insW x0.2 x1) (LA.leadS (LA.redS x0.2 x1)).toNat i) i (LA.addS ((LA.elTo x0.2 (LA.insW x0.2 x1) (LA.leadS (LA.redS x0.2 x1)).toNat i).getD i []) (LA.insW x0.2 x1) (1019 - (((LA.elTo x0.2 (LA.insW x0.2 x1) (LA.leadS (LA.redS x0.2 x1)).toNat i).getD i []).getD (((LA.leadS (LA.redS x0.2 x1))).toNat) 0)))) : List (List Int)) = (LA.elTo x0.2 (LA.insW x0.2 x1) (LA.leadS (LA.redS x0.2 x1)).toNat (i + 1)) from by first | with_reducible rfl | (first | exact LA.ins_b1 (by omega) (by assumption) | exact LA.ins_b0 (by omega) (by omega)) | rfl) (show ((LA.insW x0.2 x1) : List Int) = (LA.insW x0.2 x1) from by first | with_reducible rfl | (rfl) | rfl) (show (((i : Nat) : Int) + 1 : Int) = ((LA.atTo (LA.insE x0.2 x1) (LA.leadS (LA.redS x0.2 x1)) (i + 1) : Nat) : Int) from by first | with_reducible rfl | (first | (rw [LA.atTo_y (LA.at_b1 (by omega) (by assumption)) (by assumption)]; omega) | (rw [LA.atTo_y (LA.at_b0 (by omega) (by omega)) (by assumption)]; omega) | (rw [LA.atTo_n (LA.at_b1 (by omega) (by assumption)) (by assumption)]; done) | (rw [LA.atTo_n (LA.at_b0 (by omega) (by omega)) (by assumption)]; done)) | rfl) (show (((i : Nat) : Int) + 1 : Int) = (((i + 1) : Nat) : Int) from by first | with_reducible rfl | (omega) | rfl)), (by omega), (by omega)⟩
        · replace h4 : ¬ ((LA.leadS (LA.addS ((LA.elTo x0.2 (LA.insW x0.2 x1) (LA.leadS (LA.redS x0.2 x1)).toNat i).getD i []) (LA.insW x0.2 x1) (1019 - (((LA.elTo x0.2 (LA.insW x0.2 x1) (LA.leadS (LA.redS x0.2 x1)).toNat i).getD i []).getD (((LA.leadS (LA.redS x0.2 x1))).toNat) 0)))) < (LA.leadS (LA.redS x0.2 x1))) := of_decide_eq_false h4
          refine wp_skip ?_
          refine in_normal ?_
          refine then_normal ?_
          refine at_regq (T := S__P_impl_Basis_insert_tab) [{ nw := true }] { ts := [0, 4, 5, 6, 7, 30, 31, 32], os := [1, 2, 3, 5, 6] } [I64 (((i : Nat) : Int) + 1)] gamOK hT h (by kernel_rfl) ⟨⟨by first | omega | (simp only [List.length_append, List.length_cons, List.length_nil, List.length_set, List.length_take, List.length_drop, List.length_replicate, List.length_map, Nat.min_def]; omega) | (simp; done) | (simp; omega) | done, by first | omega | (simp only [List.length_append, List.length_cons, List.length_nil, List.length_set, List.length_take, List.length_drop, List.length_replicate, List.length_map, Nat.min_def]; omega) | (simp; done) | (simp; omega) | done⟩, trivial⟩ ?_
          intro a w h
          replace h := at_shut (σ' := ⟨[(0, aP 1 0), (4, aB false), (5, aS 5), (6, aI (LA.leadS (LA.redS x0.2 x1))), (7, aI ((LA.atTo (LA.insE x0.2 x1) (LA.leadS (LA.redS x0.2 x1)) i : Nat) : Int)), (30, aS 2), (31, aI ((List.length x0.2 : Nat) : Int)), (32, aI (((i : Nat) : Int) + 1))], [(1, oX 105 [cI x0.1, .sl 2]), (2, oR s22 (List.set (LA.elTo x0.2 (LA.insW x0.2 x1) (LA.leadS (LA.redS x0.2 x1)).toNat i) i (LA.addS ((LA.elTo x0.2 (LA.insW x0.2 x1) (LA.leadS (LA.redS x0.2 x1)).toNat i).getD i []) (LA.insW x0.2 x1) (1019 - (((LA.elTo x0.2 (LA.insW x0.2 x1) (LA.leadS (LA.redS x0.2 x1)).toNat i).getD i []).getD (((LA.leadS (LA.redS x0.2 x1))).toNat) 0))))), (3, oP 1 (S__P_impl_Basis_insert.hd us 0)), (5, oR (.int 3) (LA.insW x0.2 x1))]⟩) (ps := []) 2 { ts := [0, 4, 5, 6, 7, 30, 31, 32], os := [1, 2, 3, 5] } h (by kernel_rfl) trivial
          replace h := at_out (σ' := ⟨[(0, aP 1 0), (4, aB false), (5, aS 5), (6, aI (LA.leadS (LA.redS x0.2 x1))), (7, aI ((LA.atTo (LA.insE x0.2 x1) (LA.leadS (LA.redS x0.2 x1)) i : Nat) : Int)), (30, aS 2), (31, aI ((List.length x0.2 : Nat) : Int)), (32, aI (((i : Nat) : Int) + 1))], [(1, oX 105 [cI x0.1, .sl 2]), (2, oR s22 (List.set (LA.elTo x0.2 (LA.insW x0.2 x1) (LA.leadS (LA.redS x0.2 x1)).toNat i) i (LA.addS ((LA.elTo x0.2 (LA.insW x0.2 x1) (LA.leadS (LA.redS x0.2 x1)).toNat i).getD i []) (LA.insW x0.2 x1) (1019 - (((LA.elTo x0.2 (LA.insW x0.2 x1) (LA.leadS (LA.redS x0.2 x1)).toNat i).getD i []).getD (((LA.leadS (LA.redS x0.2 x1))).toNat) 0))))), (3, oP 1 (S__P_impl_Basis_insert.hd us 0)), (5, oR (.int 3) (LA.insW x0.2 x1))]⟩) { ts := [0, 4, 5, 6, 7, 30, 31, 32], os := [1, 2, 3, 5] } h (by kernel_rfl)
          exact ⟨i + 1, at_eq h (st_congr4 (fun (d0 : List (List Int)) (d1 : List Int) (d2 : Int) (d3 : Int) => (⟨[(0, aP 1 0), (4, aB false), (5, aS 5), (6, aI (LA.leadS (LA.redS x0.2 x1))), (7, aI d2), (30, aS 2), (31, aI ((List.length x0.2 : Nat) : Int)), (32, aI d3)], [(1, oX 105 [cI x0.1, .sl 2]), (2, oR s22 d0), (3, oP 1 (S__P_impl_Basis_insert.hd us 0)), (5, oR (.int 3) d1)]⟩ : St)) (show ((List.set (LA.elTo x0.2 (LA.insW x0.2 x1) (LA.leadS (LA.redS x0.2 x1)).toNat i) i (LA.addS ((LA.elTo x0.2 (LA.insW x0.2 x1) (LA.leadS (LA.redS x0.2 x1)).toNat i).getD i []) (LA.insW x0.2 x1) (1019 - (((LA.elTo x0.2 (LA.insW x0.2 x1) (LA.leadS (LA.redS x0.2 x1)).toNat i).getD i []).getD (((LA.leadS (LA.redS x0.2 x1))).toNat) 0)))) : List (List Int)) = (LA.elTo x0.2 (LA.insW x0.2 x1) (LA.leadS (LA.redS x0.2 x1)).toNat (i + 1)) from by first | with_reducible rfl | (first | exact LA.ins_b1 (by omega) (by assumption) | exact LA.ins_b0 (by omega) (by omega)) | rfl) (show ((LA.insW x0.2 x1) : List Int) = (LA.insW x0.2 x1) from by first | with_reducible rfl | (rfl) | rfl) (show (((LA.atTo (LA.insE x0.2 x1) (LA.leadS (LA.redS x0.2 x1)) i : Nat) : Int) : Int) = ((LA.atTo (LA.insE x0.2 x1) (LA.leadS (LA.redS x0.2 x1)) (i + 1) : Nat) : Int) from by first | with_reducible rfl | (first | (rw [LA.atTo_y (LA.at_b1 (by omega) (by assumption)) (by assumption)]; omega) | (rw [LA.atTo_y (LA.at_b0 (by omega) (by omega)) (by assumption)]; omega) | (rw [LA.atTo_n (LA.at_b1 (by omega) (by assumption)) (by assumption)]; done) | (rw [LA.atTo_n (LA.at_b0 (by omega) (by omega)) (by assumption)]; done)) | rfl) (show (((i : Nat) : Int) + 1 : Int) = (((i + 1) : Nat) : Int) from by first | with_reducible rfl | (omega) | rfl)), (by omega), (by omega)⟩
      · replace h3 : (((LA.elTo x0.2 (LA.insW x0.2 x1) (LA.leadS (LA.redS x0.2 x1)).toNat i).getD i []).getD (((LA.leadS (LA.redS x0.2 x1))).toNat) 0) = 0 := of_decide_eq_true (notF h3)
        refine wp_skip ?_
        refine then_normal ?_
        refine wp_seq ?_
        refine at_reg (T := S__P_impl_Basis_insert_tab) [] { ts := [0, 4, 5, 6, 7, 8, 30, 31, 32, 51], os := [1, 2, 3, 5, 6] } ⟨[(0, aP 1 0), (4, aB false), (5, aS 5), (6, aI (LA.leadS (LA.redS x0.2 x1))), (7, aI ((LA.atTo (LA.insE x0.2 x1) (LA.leadS (LA.redS x0.2 x1)) i : Nat) : Int)), (8, aI ((i : Nat) : Int)), (30, aS 2), (31, aI ((List.length x0.2 : Nat) : Int)), (32, aI ((i : Nat) : Int)), (51, aB (decide ((LA.leadS ((LA.elTo x0.2 (LA.insW x0.2 x1) (LA.leadS (LA.redS x0.2 x1)).toNat i).getD i [])) < (LA.leadS (LA.redS x0.2 x1)))))], [(1, oX 105 [cI x0.1, .sl 2]), (2, some (.op s22 (LA.elTo x0.2 (LA.insW x0.2 x1) (LA.leadS (LA.redS x0.2 x1)).toNat i) i [.sl 6])), (3, oP 1 (S__P_impl_Basis_insert.hd us 0)), (5, oR (.int 3) (LA.insW x0.2 x1)), (6, oR (.int 3) ((LA.elTo x0.2 (LA.insW x0.2 x1) (LA.leadS (LA.redS x0.2 x1)).toNat i).getD i []))]⟩ [(fun (x0 : (List Int)) => Sh.fit s22 x0) ((LA.elTo x0.2 (LA.insW x0.2 x1) (LA.leadS (LA.redS x0.2 x1)).toNat i).getD i [])] gamOK hT h (by kernel_rfl) ⟨(by first | exact fitV hrd (by omega) | exact fitV hrk (by omega) | exact Sh.fit_len rfl (by rw [LA.addS_len (by omega)]; omega)), trivial⟩ ?_
        intro a w h
        refine then_normal ?_
        refine at_test (decide ((LA.leadS ((LA.elTo x0.2 (LA.insW x0.2 x1) (LA.leadS (LA.redS x0.2 x1)).toNat i).getD i [])) < (LA.leadS (LA.redS x0.2 x1)))) h (by kernel_rfl) (fun h5 => ?_) (fun h5 => ?_)
        · replace h5 : (LA.leadS ((LA.elTo x0.2 (LA.insW x0.2 x1) (LA.leadS (LA.redS x0.2 x1)).toNat i).getD i [])) < (LA.leadS (LA.redS x0.2 x1)) := of_decide_eq_true h5
          refine at_regq (T := S__P_impl_Basis_insert_tab) [{}, { nw := true }] { ts := [0, 4, 5, 6, 7, 30, 31, 32], os := [1, 2, 3, 5, 6] } [I64 (((i : Nat) : Int) + 1)] gamOK hT h (by kernel_rfl) ⟨⟨by first | omega | (simp only [List.length_append, List.length_cons, List.length_nil, List.length_set, List.length_take, List.length_drop, List.length_replicate, List.length_map, Nat.min_def]; omega) | (simp; done) | (simp; omega) | done, by first | omega | (simp only [List.length_append, List.length_cons, List.length_nil, List.length_set, List.length_take, List.length_drop, List.length_replicate, List.length_map, Nat.min_def]; omega) | (simp; done) | (simp; omega) | done⟩, trivial⟩ ?_
          intro a w h
          refine in_normal ?_
          refine then_normal ?_
          refine at_regq (T := S__P_impl_Basis_insert_tab) [{ nw := true }] { ts := [0, 4, 5, 6, 7, 30, 31, 32], os := [1, 2, 3, 5, 6] } [I64 (((i : Nat) : Int) + 1)] gamOK hT h (by kernel_rfl) ⟨⟨by first | omega | (simp only [List.length_append, List.length_cons, List.length_nil, List.length_set, List.length_take, List.length_drop, List.length_replicate, List.length_map, Nat.min_def]; omega) | (simp; done) | (simp; omega) | done, by first | omega | (simp only [List.length_append, List.length_cons, List.length_nil, List.length_set, List.length_take, List.length_drop, List.length_replicate, List.length_map, Nat.min_def]; omega) | (simp; done) | (simp; omega) | done⟩, trivial⟩ ?_
          intro a w h
          replace h := at_shut (σ' := ⟨[(0, aP 1 0), (4, aB false), (5, aS 5), (6, aI (LA.leadS (LA.redS x0.2 x1))), (7, aI (((i : Nat) : Int) + 1)), (30, aS 2), (31, aI ((List.length x0.2 : Nat) : Int)), (32, aI (((i : Nat) : Int) + 1))], [(1, oX 105 [cI x0.1, .sl 2]), (2, oR s22 (List.set (LA.elTo x0.2 (LA.insW x0.2 x1) (LA.leadS (LA.redS x0.2 x1)).toNat i) i ((LA.elTo x0.2 (LA.insW x0.2 x1) (LA.leadS (LA.redS x0.2 x1)).toNat i).getD i []))), (3, oP 1 (S__P_impl_Basis_insert.hd us 0)), (5, oR (.int 3) (LA.insW x0.2 x1))]⟩) (ps := []) 2 { ts := [0, 4, 5, 6, 7, 30, 31, 32], os := [1, 2, 3, 5] } h (by kernel_rfl) trivial
          replace h := at_out (σ' := ⟨[(0, aP 1 0), (4, aB false), (5, aS 5), (6, aI (LA.leadS (LA.redS x0.2 x1))), (7, aI (((i : Nat) : Int) + 1)), (30, aS 2), (31, aI ((List.length x0.2 : Nat) : Int)), (32, aI (((i : Nat) : Int) + 1))], [(1, oX 105 [cI x0.1, .sl 2]), (2, oR s22 (List.set (LA.elTo x0.2 (LA.insW x0.2 x1) (LA.leadS (LA.redS x0.2 x1)).toNat i) i ((LA.elTo x0.2 (LA.insW x0.2 x1) (LA.leadS (LA.redS x0.2 x1)).toNat i).getD i []))), (3, oP 1 (S__P_impl_Basis_insert.hd us 0)), (5, oR (.int 3) (LA.insW x0.2 x1))]⟩) { ts := [0, 4, 5, 6, 7, 30, 31, 32], os := [1, 2, 3, 5] } h (by kernel_rfl)
          exact ⟨i + 1, at_eq h (st_congr4 (fun (d0 : List (List Int)) (d1 : List Int) (d2 : Int) (d3 : Int) => (⟨[(0, aP 1 0), (4, aB false), (5, aS 5), (6, aI (LA.leadS (LA.redS x0.2 x1))), (7, aI d2), (30, aS 2), (31, aI ((List.length x0.2 : Nat) : Int)), (32, aI d3)], [(1, oX 105 [cI x0.1, .sl 2]), (2, oR s22 d0), (3, oP 1 (S__P_impl_Basis_insert.hd us 0)), (5, oR (.int 3) d1)]⟩ : St)) (show ((List.set (LA.elTo x0.2 (LA.insW x0.2 x1) (LA.leadS (LA.redS x0.2 x1)).toNat i) i ((LA.elTo x0.2 (LA.insW x0.2 x1) (LA.leadS (LA.redS x0.2 x1)).toNat i).getD i [])) : List (List Int)) = (LA.elTo x0.2 (LA.insW x0.2 x1) (LA.leadS (LA.redS x0.2 x1)).toNat (i + 1)) from by first | with_reducible rfl | (first | exact LA.ins_b1 (by omega) (by assumption) | exact LA.ins_b0 (by omega) (by omega)) | rfl) (show ((LA.insW x0.2 x1) : List Int) = (LA.insW x0.2 x1) from by first | with_reducible rfl | (rfl) | rfl) (show (((i : Nat) : Int) + 1 : Int) = ((LA.atTo (LA.insE x0.2 x1) (LA.leadS (LA.redS x0.2 x1)) (i + 1) : Nat) : Int) from by first | with_reducible rfl | (first | (rw [LA.atTo_y (LA.at_b1 (by omega) (by assumption)) (by assumption)]; omega) | (rw [LA.atTo_y (LA.at_b0 (by omega) (by omega)) (by assumption)]; omega) | (rw [LA.atTo_n (LA.at_b1 (by omega) (by assumption)) (by assumption)]; done) | (rw [LA.atTo_n (LA.at_b0 (by omega) (by omega)) (by assumption)]; done)) | rfl) (show (((i : Nat) : Int) + 1 : Int) = (((i + 1) : Nat) : Int) from by first | with_reducible rfl | (omega) | rfl)), (by omega), (by omega)⟩
        · replace h5 : ¬ ((LA.leadS ((LA.elTo x0.2 (LA.insW x0.2 x1) (LA.leadS (LA.redS x0.2 x1)).toNat i).getD i [])) < (LA.leadS (LA.redS x0.2 x1))) := of_decide_eq_false h5
          refine wp_skip ?_
          refine in_normal ?_
          refine then_normal ?_
          refine at_regq (T := S__P_impl_Basis_insert_tab) [{ nw := true }] { ts := [0, 4, 5, 6, 7, 30, 31, 32], os := [1, 2, 3, 5, 6] } [I64 (((i : Nat) : Int) + 1)] gamOK hT h (by kernel_rfl) ⟨⟨by first | omega | (simp only [List.length_append, List.length_cons, List.length_nil, List.length_set, List.length_take, List.length_drop, List.length_replicate, List.length_map, Nat.min_def]; omega) | (simp; done) | (simp; omega) | done, by first | omega | (simp only [List.length_append, List.length_cons, List.length_nil, List.length_set, List.length_take, List.length_drop, List.length_replicate, List.length_map, Nat.min_def]; omega) | (simp; done) | (simp; omega) | done⟩, trivial⟩ ?_
          intro a w h
          replace h := at_shut (σ' := ⟨[(0, aP 1 0), (4, aB false), (5, aS 5), (6, aI (LA.leadS (LA.redS x0.2 x1))), (7, aI ((LA.atTo (LA.insE x0.2 x1) (LA.leadS (LA.redS x0.2 x1)) i : Nat) : Int)), (30, aS 2), (31, aI ((List.length x0.2 : Nat) : Int)), (32, aI (((i : Nat) : Int) + 1))], [(1, oX 105 [cI x0.1, .sl 2]), (2, oR s22 (List.set (LA.elTo x0.2 (LA.insW x0.2 x1) (LA.leadS (LA.redS x0.2 x1)).toNat i) i ((LA.elTo x0.2 (LA.insW x0.2 x1) (LA.leadS (LA.redS x0.2 x1)).toNat i).getD i []))), (3, oP 1 (S__P_impl_Basis_insert.hd us 0)), (5, oR (.int 3) (LA.insW x0.2 x1))]⟩) (ps := []) 2 { ts := [0, 4, 5, 6, 7, 30, 31, 32], os := [1, 2, 3, 5] } h (by kernel_rfl) trivial
          replace h := at_out (σ' := ⟨[(0, aP 1 0), (4, aB false), (5, aS 5), (6, aI (LA.leadS (LA.redS x0.2 x1))), (7, aI ((LA.atTo (LA.insE x0.2 x1) (LA.leadS (LA.redS x0.2 x1)) i : Nat) : Int)), (30, aS 2), (31, aI ((List.length x0.2 : Nat) : Int)), (32, aI (((i : Nat) : Int) + 1))], [(1, oX 105 [cI x0.1, .sl 2]), (2, oR s22 (List.set (LA.elTo x0.2 (LA.insW x0.2 x1) (LA.leadS (LA.redS x0.2 x1)).toNat i) i ((LA.elTo x0.2 (LA.insW x0.2 x1) (LA.leadS (LA.redS x0.2 x1)).toNat i).getD i []))), (3, oP 1 (S__P_impl_Basis_insert.hd us 0)), (5, oR (.int 3) (LA.insW x0.2 x1))]⟩) { ts := [0, 4, 5, 6, 7, 30, 31, 32], os := [1, 2, 3, 5] } h (by kernel_rfl)
          exact ⟨i + 1, at_eq h (st_congr4 (fun (d0 : List (List Int)) (d1 : List Int) (d2 : Int) (d3 : Int) => (⟨[(0, aP 1 0), (4, aB false), (5, aS 5), (6, aI (LA.leadS (LA.redS x0.2 x1))), (7, aI d2), (30, aS 2), (31, aI ((List.length x0.2 : Nat) : Int)), (32, aI d3)], [(1, oX 105 [cI x0.1, .sl 2]), (2, oR s22 d0), (3, oP 1 (S__P_impl_Basis_insert.hd us 0)), (5, oR (.int 3) d1)]⟩ : St)) (show ((List.set (LA.elTo x0.2 (LA.insW x0.2 x1) (LA.leadS (LA.redS x0.2 x1)).toNat i) i ((LA.elTo x0.2 (LA.insW x0.2 x1) (LA.leadS (LA.redS x0.2 x1)).toNat i).getD i [])) : List (List Int)) = (LA.elTo x0.2 (LA.insW x0.2 x1) (LA.leadS (LA.redS x0.2 x1)).toNat (i + 1)) from by first | with_reducible rfl | (first | exact LA.ins_b1 (by omega) (by assumption) | exact LA.ins_b0 (by omega) (by omega)) | rfl) (show ((LA.insW x0.2 x1) : List Int) = (LA.insW x0.2 x1) from by first | with_reducible rfl | (rfl) | rfl) (show (((LA.atTo (LA.insE x0.2 x1) (LA.leadS (LA.redS x0.2 x1)) i : Nat) : Int) : Int) = ((LA.atTo (LA.insE x0.2 x1) (LA.leadS (LA.redS x0.2 x1)) (i + 1) : Nat) : Int) from by first | with_reducible rfl | (first | (rw [LA.atTo_y (LA.at_b1 (by omega) (by assumption)) (by assumption)]; omega) | (rw [LA.atTo_y (LA.at_b0 (by omega) (by omega)) (by assumption)]; omega) | (rw [LA.atTo_n (LA.at_b1 (by omega) (by assumption)) (by assumption)]; done) | (rw [LA.atTo_n (LA.at_b0 (by omega) (by omega)) (by assumption)]; done)) | rfl) (show (((i : Nat) : Int) + 1 : Int) = (((i + 1) : Nat) : Int) from by first | with_reducible rfl | (omega) | rfl)), (by omega), (by omega)⟩
    · replace h2 : ¬ (((i : Nat) : Int) < ((List.length x0.2 : Nat) : Int)) := of_decide_eq_false h2
      refine wp_exit ?_
      refine then_exit ?_
      replace h := at_out (σ' := ⟨[(0, aP 1 0), (4, aB false), (5, aS 5), (7, aI ((LA.atTo (LA.insE x0.2 x1) (LA.leadS (LA.redS x0.2 x1)) i : Nat) : Int))], [(1, oX 105 [cI x0.1, .sl 2]), (2, oR s22 (LA.elTo x0.2 (LA.insW x0.2 x1) (LA.leadS (LA.redS x0.2 x1)).toNat i)), (3, oP 1 (S__P_impl_Basis_insert.hd us 0)), (5, oR (.int 3) (LA.insW x0.2 x1))]⟩) { ts := [0, 4, 5, 7], os := [1, 2, 3, 5] } h (by kernel_rfl)
      replace h := at_eq (σ' := ⟨[(0, aP 1 0), (4, aB false), (5, aS 5), (7, aI ((LA.atTo (LA.insE x0.2 x1) (LA.leadS (LA.redS x0.2 x1)) (List.length x0.2) : Nat) : Int))], [(1, oX 105 [cI x0.1, .sl 2]), (2, oR s22 (LA.insE x0.2 x1)), (3, oP 1 (S__P_impl_Basis_insert.hd us 0)), (5, oR (.int 3) (LA.insW x0.2 x1))]⟩) h (st_congr2 (fun (d0 : List (List Int)) (d1 : Int) => (⟨[(0, aP 1 0), (4, aB false), (5, aS 5), (7, aI d1)], [(1, oX 105 [cI x0.1, .sl 2]), (2, oR s22 d0), (3, oP 1 (S__P_impl_Basis_insert.hd us 0)), (5, oR (.int 3) (LA.insW x0.2 x1))]⟩ : St)) (show ((LA.elTo x0.2 (LA.insW x0.2 x1) (LA.leadS (LA.redS x0.2 x1)).toNat i) : List (List Int)) = (LA.insE x0.2 x1) from by first | with_reducible rfl | (exact LA.elTo_all (by omega)) | rfl) (show (((LA.atTo (LA.insE x0.2 x1) (LA.leadS (LA.redS x0.2 x1)) i : Nat) : Int) : Int) = ((LA.atTo (LA.insE x0.2 x1) (LA.leadS (LA.redS x0.2 x1)) (List.length x0.2) : Nat) : Int) from by first | with_reducible rfl | (rw [show i = List.length x0.2 by omega]) | rfl))
      have hal := LA.atTo_le (LA.insE x0.2 x1) (LA.leadS (LA.redS x0.2 x1)) (List.length x0.2)
      refine then_exit ?_
      refine in_hit ?_
      refine then_normal ?_
      refine wp_seq ?_
      refine at_regq (T := S__P_impl_Basis_insert_tab) [{}, {}, {}, {}, {}, {}, {}, { ids := [7] }, { ids := [8] }] { ts := [4], os := [1, 3, 8] } [(fun (x0 : List (List Int)) (x1 : Int) (x2 : List (List Int)) => (0 ≤ x1 ∧ x1 ≤ ((List.length x0 : Nat) : Int)) ∧ 0 < List.length x2 ∧ (List.length x0 + List.length x2) * 24 ≤ 140737488355328) (LA.insE x0.2 x1) ((LA.atTo (LA.insE x0.2 x1) (LA.leadS (LA.redS x0.2 x1)) (List.length x0.2) : Nat) : Int) ([(LA.insW x0.2 x1)])] gamOK hT h (by kernel_rfl) ⟨(by exact ⟨⟨by omega, by first | omega | (rw [show List.length (LA.insE x0.2 x1) = List.length x0.2 from by simp [LA.insE]]; omega)⟩, by simp, by simp [LA.insE]; omega⟩), trivial⟩ ?_
      intro a w h
      refine then_normal ?_
      refine wp_seq ?_
      refine at_regq (T := S__P_impl_Basis_insert_tab) [] { ts := [4], os := [1, 3, 8] } [] gamOK hT h (by kernel_rfl) trivial ?_
      intro a w h
      refine then_normal ?_
      refine wp_ret ?_
      exact at_returnI (S := S__P_impl_Basis_insert) (x := (x0, x1, ())) [1, 2] [3] ((x0.1, (D_slices_Insert_S_S_int_S_int_ (LA.insE x0.2 x1) ((LA.atTo (LA.insE x0.2 x1) (LA.leadS (LA.redS x0.2 x1)) (List.length x0.2) : Nat) : Int) ([(LA.insW x0.2 x1)]))), (x1, ())) (some (true, ())) [S__P_impl_Basis_insert.hd us 0 = S__P_impl_Basis_insert.hd us 0] hio h (by kernel_rfl) ⟨rfl, trivial⟩ (by first | rfl | exact congrArg (fun (z : T105) => (z, (x1, ()))) (show ((x0.1, (D_slices_Insert_S_S_int_S_int_ (LA.insE x0.2 x1) ((LA.atTo (LA.insE x0.2 x1) (LA.leadS (LA.redS x0.2 x1)) (List.length x0.2) : Nat) : Int) ([(LA.insW x0.2 x1)]))) : T105) = insU x0 x1 from by (unfold insU; first | (rw [LA.insS_no (by assumption)]; done) | (rw [LA.insS_yes (by assumption)]; rfl)))) (fun z e => (Option.some.inj e) ▸ (congrArg (fun z => (z, ())) (show (true) = insD x0 x1 from by (unfold insD; first | (rw [LA.insS_no (by assumption)]; done) | (rw [LA.insS_yes (by assumption)]; done)))))

theorem tmod_el {x : Int} (h : 0 ≤ x ∧ x ≤ 1018) : x.tmod 1019 = x := by
  rw [Int.tmod_eq_emod_of_nonneg h.1]; exact Int.emod_eq_of_lt h.1 (by omega)
theorem addS_k0 {n : Nat} {a b : List Int} (ha : LA.VokB n a) (hb : LA.VokB n b) : LA.addS a b 0 = a := by
  apply List.ext_getElem
  · exact LA.addS_len (by rw [ha.1, hb.1])
  · intro j h1 h2
    have e := LA.addS_at (k := 0) (show a.length = b.length by rw [ha.1, hb.1]) j
    rw [getD_of_lt h1, getD_of_lt h2] at e
    rw [e, Int.zero_mul, Int.add_zero]
    have := ha.rng j
    rw [getD_of_lt h2] at this
    exact tmod_el this
/-- insertions, one by one -/
def insR (rows : List (List Int)) (v : List Int) : List (List Int) := (LA.insS rows v).1
theorem insR_red {n : Nat} {rows : List (List Int)} (h : LA.RedL n rows) {vs : List (List Int)} (hv : ∀ v ∈ vs, LA.VokB n v) : ∀ i, i ≤ vs.length → LA.RedL n (foldTo insR rows vs i)
  | 0, _ => h
  | i + 1, hi => by rw [foldTo_succ [] (by omega)]; exact (LA.insS_ok (insR_red h hv i (by omega)) (hv _ (LA.getD_in (by omega)))).1
theorem redV_step {n : Nat} {out r : List Int} (ho : LA.VokB n out) (hr : LA.VokB n r) (hn : n ≤ 40) : addV out r (subF 0 (out.getD (LA.leadS r).toNat 0)) = LA.redStep out r := by
  have hx := ho.rng (LA.leadS r).toNat
  unfold LA.redStep
  generalize out.getD (LA.leadS r).toNat 0 = x at hx ⊢
  have hs : subF 0 x = if x = 0 then 0 else 1019 - x := by
    unfold subF D_spec_l4Both
    rw [if_pos (show isEl 0 = true from rfl), if_pos (show isEl x = true from inR_true hx)]
    have := tmod_f (0 - x + 1019) 1019 (by decide)
    split <;> omega
  rw [hs]
  by_cases h0 : x = 0
  · rw [if_pos h0, if_neg (by simp [h0]), addV_L ho hr hn (by omega), addS_k0 ho hr]
  · rw [if_neg h0, if_pos h0, addV_L ho hr hn (by omega)]
theorem ins_rows {b : T105} {v : List Int} (h : redP b v) : ∀ r ∈ b.2 ++ [v], LA.VokB b.1.toNat r := fun r hr => by
  rcases List.mem_append.1 hr with hr | hr
  · exact h.1.2.ok r hr
  · rw [List.mem_singleton.1 hr]; exact h.2
theorem ins_l7 {b : T105} {v : List Int} (h : redP b v) : Sh.fit s80 (b.2 ++ [v]) ∧ l7P (b.2 ++ [v]) b.1 := by
  have hl := h.1.2.len
  have h0 := h.1.1
  exact ⟨fitM (ins_rows h) (by omega) (by simp; omega), b.1.toNat, ins_rows h, by omega, h0.1, by omega⟩

def D_spec_ReduceVector := (fun (b : T105) (v : List Int) => if takesB b v = true then LA.redS b.2 v else [])
def S_spec_ReduceVector : Sum := { fid := 210, dom := [s105, s22], cod := [s22], dp := true, fz := false, pre := fun x => (fun (x0 : T105) (x1 : (List Int)) => Sh.fit s105 x0 ∧ Sh.fit s22 x1) x.1 x.2.1, g := fun x => ((D_spec_ReduceVector x.1 x.2.1), ()) }
def S_spec_ReduceVector_tab : List (Nat × Sum) := [(144, S_spec_l8Fits), (209, S_spec_LeadingIndex), (249, S_spec_SubField), (213, S_spec_AddScaled)]
theorem S_spec_ReduceVector_ok : FnOK Try.prog 210 S_spec_ReduceVector := by
  refine at_enter 40 (fun x => ⟨[(0, aG [cI x.1.1, .ro s22 x.1.2]), (1, aF (.int 3) x.2.1)], []⟩) Try.func210 rfl (by kernel_rfl) (fun x => rfl) ?_
  rintro w0 Z0 ⟨x0, x1, u⟩ a w
  revert x0 x1
  intro (x0 : T105) (x1 : (List Int)) hpre hlens h
  replace h : At w0 Z0 [] 40 ⟨[(0, aG [cI x0.1, .ro s22 x0.2]), (1, aF (.int 3) x1)], []⟩ a w := h
  replace hpre : (fun (x0 : T105) (x1 : (List Int)) => Sh.fit s105 x0 ∧ Sh.fit s22 x1) x0 x1 := hpre
  have hl1 : List.length x0.2 ≤ 9223372036854775807 := hlens.1.2.1
  have hl2 : List.length x1 ≤ 9223372036854775807 := hlens.2.1.1
  have hT : TabOK Try.prog S_spec_ReduceVector_tab := (.cons S_spec_l8Fits_ok (.cons S_spec_LeadingIndex_ok (.cons S_spec_SubField_ok (.cons S_spec_AddScaled_ok .nil))))
  obtain ⟨hf0, hf1⟩ := hpre
  have hn0_1 : List.length x0.2 ≤ 1073741824 := hf0.2.1
  have hn1_2 : List.length x1 ≤ 1073741824 := hf1.1
  refine wp_seq ?_
  refine at_regq (T := S_spec_ReduceVector_tab) [{ ids := [1] }] { ts := [1, 2, 4], os := [1] } [] gamOK hT h (by kernel_rfl) trivial ?_
  intro a w h
  refine then_normal ?_
  refine wp_seq ?_
  refine wp_seq ?_
  refine at_regq (T := S_spec_ReduceVector_tab) [] { ts := [1, 2, 4, 10], os := [1] } [(fun (x0 : T105) (x1 : (List Int)) => Sh.fit s105 x0 ∧ Sh.fit s22 x1) x0 x1] gamOK hT h (by kernel_rfl) ⟨(by exact ⟨hf0, hf1⟩), trivial⟩ ?_
  intro a w h
  refine then_normal ?_
  refine at_test (!(takesB x0 x1)) h (by kernel_rfl) (fun h1 => ?_) (fun h1 => ?_)
  · replace h1 : (takesB x0 x1) = false := notT h1
    refine wp_seq ?_
    refine at_regq (T := S_spec_ReduceVector_tab) [{ ids := [2] }] { ts := [1, 2, 4], os := [1, 2] } [] gamOK hT h (by kernel_rfl) trivial ?_
    intro a w h
    refine then_normal ?_
    refine wp_ret ?_
    refine then_ret ?_
    exact at_return (S := S_spec_ReduceVector) (x := (x0, x1, ())) (([] : List Int), ()) [] h (by kernel_rfl) trivial (congrArg (fun z => (z, ())) (show (([] : List Int)) = D_spec_ReduceVector x0 x1 from by unfold D_spec_ReduceVector; (first | (rw [if_neg (by simp_all)]; done) | (rw [if_pos (by assumption), foldTo_all (by omega)]; rfl))))
  · replace h1 : (takesB x0 x1) = true := notF h1
    have hvh1 := takesB_t h1
    refine wp_skip ?_
    refine then_normal ?_
    refine wp_seq ?_
    refine at_regq (T := S_spec_ReduceVector_tab) [{ ids := [3] }, {}, { ids := [4] }] { ts := [2, 4, 5], os := [1, 4] } [(List.length ([] : List Int) + List.length x1) * 8 ≤ 140737488355328] gamOK hT h (by kernel_rfl) ⟨(by first | omega | (simp only [List.length_append, List.length_cons, List.length_nil, List.length_set, List.length_take, List.length_drop, List.length_replicate, List.length_map, Nat.min_def]; omega) | (simp; done) | (simp; omega) | done), trivial⟩ ?_
    intro a w h
    refine then_normal ?_
    refine wp_seq ?_
    refine wp_seq ?_
    refine at_reg (T := S_spec_ReduceVector_tab) [] { ts := [2, 4, 5, 6], os := [1, 4] } ⟨[(2, aP 1 0), (4, .p (.c (cN))), (5, aS 4), (6, aI 0)], [(1, oX 105 [cI x0.1, .ro s22 x0.2]), (4, oR (.int 3) (([] : List Int) ++ x1))]⟩ [] gamOK hT h (by kernel_rfl) trivial ?_
    intro a w h
    refine then_normal ?_
    refine wp_block ?_
    replace h := at_out (σ' := ⟨[(2, aP 1 0), (4, .p (.c (cN))), (5, aS 4), (6, aI 0)], [(1, oX 105 [cI x0.1, .ro s22 x0.2]), (4, oR (.int 3) (([] : List Int) ++ x1))]⟩) { ts := [2, 4, 5, 6], os := [1, 4] } h (by kernel_rfl)
    refine at_loop (fun i : Nat => (⟨[(2, aP 1 0), (4, .p (.c (cN))), (5, aS 4), (6, aI ((i : Nat) : Int))], [(1, oX 105 [cI x0.1, .ro s22 x0.2]), (4, oR (.int 3) (foldTo LA.redStep x1 x0.2 i))]⟩ : St)) (fun i => i ≤ List.length x0.2) (fun i => List.length x0.2 - i) (0) h (st_congr2 (fun (d0 : List Int) (d1 : Int) => (⟨[(2, aP 1 0), (4, .p (.c (cN))), (5, aS 4), (6, aI d1)], [(1, oX 105 [cI x0.1, .ro s22 x0.2]), (4, oR (.int 3) d0)]⟩ : St)) (show ((([] : List Int) ++ x1) : List Int) = (foldTo LA.redStep x1 x0.2 (0)) from by first | with_reducible rfl | (rfl) | rfl) (show (0 : Int) = (((0) : Nat) : Int) from by first | with_reducible rfl | (rfl) | rfl)) (by omega) ?_
    intro i a w hok0 h
    refine wp_seq ?_
    refine wp_seq ?_
    refine at_regq (T := S_spec_ReduceVector_tab) [] { ts := [2, 4, 5, 6, 19], os := [1, 4] } [] gamOK hT h (by kernel_rfl) trivial ?_
    intro a w h
    refine then_normal ?_
    refine at_test (decide (((i : Nat) : Int) < ((List.length x0.2 : Nat) : Int))) h (by kernel_rfl) (fun h2 => ?_) (fun h2 => ?_)
    · replace h2 : ((i : Nat) : Int) < ((List.length x0.2 : Nat) : Int) := of_decide_eq_true h2
      have hbP := takesB_t (b := x0) (v := x1) (by assumption)
      have hro : LA.VokB x0.1.toNat (foldTo LA.redStep x1 x0.2 i) := LA.redS_to hbP.1.2.ok hbP.2 i (by omega)
      have hrol := hro.1
      have hrr := hbP.1.2.at_ (show i < List.length x0.2 by omega)
      have hror := hro.rng (LA.leadS (x0.2.getD i [])).toNat
      have hb01 := hbP.1.1
      refine wp_skip ?_
      refine then_normal ?_
      refine wp_seq ?_
      refine wp_block ?_
      refine at_anyq (T := S_spec_ReduceVector_tab) [{}, {}, {}, {}, {}, {}, {}, {}, {}, {}, {}, {}, {}, {}, {}, {}, { ids := [5] }, {}] { ts := [2, 4, 5, 6], os := [1, 5] } [(0 : Int) ≤ ((i : Nat) : Int) ∧ ((i : Nat) : Int) < ((List.length x0.2 : Nat) : Int), (0 : Int) ≤ ((i : Nat) : Int) ∧ ((i : Nat) : Int) < ((List.length x0.2 : Nat) : Int), (fun (x0 : (List Int)) => Sh.fit s22 x0) (x0.2.getD i []), (0 : Int) ≤ (LA.leadS (x0.2.getD i [])) ∧ (LA.leadS (x0.2.getD i [])) < ((List.length (foldTo LA.redStep x1 x0.2 i) : Nat) : Int), ((LA.leadS (x0.2.getD i []))).toNat < List.length (foldTo LA.redStep x1 x0.2 i), True, (fun (x0 : (List Int)) (x1 : (List Int)) (x2 : Int) => Sh.fit s22 x0 ∧ Sh.fit s22 x1) (foldTo LA.redStep x1 x0.2 i) (x0.2.getD i []) (subF 0 ((foldTo LA.redStep x1 x0.2 i).getD (((LA.leadS (x0.2.getD i []))).toNat) 0))] gamOK hT mixed h (by kernel_rfl) ⟨(by refine ⟨?_, ?_⟩ <;> (first | omega | (simp only [List.length_append, List.length_cons, List.length_nil, List.length_set, List.length_take, List.length_drop, List.length_replicate, List.length_map, Nat.min_def]; omega) | (simp; done) | (simp; omega) | done)), (by refine ⟨?_, ?_⟩ <;> (first | omega | (simp only [List.length_append, List.length_cons, List.length_nil, List.length_set, List.length_take, List.length_drop, List.length_replicate, List.length_map, Nat.min_def]; omega) | (simp; done) | (simp; omega) | done)), (by exact fitV hrr.1 (by omega)), (by refine ⟨?_, ?_⟩ <;> (first | omega | (simp only [List.length_append, List.length_cons, List.length_nil, List.length_set, List.length_take, List.length_drop, List.length_replicate, List.length_map, Nat.min_def]; omega) | (simp; done) | (simp; omega) | done)), (by first | omega | (simp only [List.length_append, List.length_cons, List.length_nil, List.length_set, List.length_take, List.length_drop, List.length_replicate, List.length_map, Nat.min_def]; omega) | (simp; done) | (simp; omega) | done), trivial, (by exact ⟨fitV hro (by omega), fitV hrr.1 (by omega)⟩), trivial⟩ ?_
      intro a w h
      refine in_normal ?_
      refine then_normal ?_
      refine at_regq (T := S_spec_ReduceVector_tab) [{}, { nw := true }] { ts := [2, 4, 5, 6], os := [1, 5] } [I64 (((i : Nat) : Int) + 1)] gamOK hT h (by kernel_rfl) ⟨⟨by first | omega | (simp only [List.length_append, List.length_cons, List.length_nil, List.length_set, List.length_take, List.length_drop, List.length_replicate, List.length_map, Nat.min_def]; omega) | (simp; done) | (simp; omega) | done, by first | omega | (simp only [List.length_append, List.length_cons, List.length_nil, List.length_set, List.length_take, List.length_drop, List.length_replicate, List.length_map, Nat.min_def]; omega) | (simp; done) | (simp; omega) | done⟩, trivial⟩ ?_
      intro a w h
      replace h := at_out (σ' := ⟨[(2, aP 1 0), (4, .p (.c (cN))), (5, aS 4), (6, aI (((i : Nat) : Int) + 1))], [(1, oX 105 [cI x0.1, .ro s22 x0.2]), (4, oR (.int 3) (addV (foldTo LA.redStep x1 x0.2 i) (x0.2.getD i []) (subF 0 ((foldTo LA.redStep x1 x0.2 i).getD (((LA.leadS (x0.2.getD i []))).toNat) 0))))]⟩) { ts := [2, 4, 5, 6], os := [1, 5], rn := [(5, 4)] } h (by kernel_rfl)
      exact ⟨i + 1, at_eq h (st_congr2 (fun (d0 : List Int) (d1 : Int) => (⟨[(2, aP 1 0), (4, .p (.c (cN))), (5, aS 4), (6, aI d1)], [(1, oX 105 [cI x0.1, .ro s22 x0.2]), (4, oR (.int 3) d0)]⟩ : St)) (show ((addV (foldTo LA.redStep x1 x0.2 i) (x0.2.getD i []) (subF 0 ((foldTo LA.redStep x1 x0.2 i).getD (((LA.leadS (x0.2.getD i []))).toNat) 0))) : List Int) = (foldTo LA.redStep x1 x0.2 (i + 1)) from by first | with_reducible rfl | ((rw [foldTo_succ [] (by omega)]; exact redV_step hro hrr.1 (by omega))) | rfl) (show (((i : Nat) : Int) + 1 : Int) = (((i + 1) : Nat) : Int) from by first | with_reducible rfl | (omega) | rfl)), (by omega), (by omega)⟩
    · replace h2 : ¬ (((i : Nat) : Int) < ((List.length x0.2 : Nat) : Int)) := of_decide_eq_false h2
      refine wp_exit ?_
      refine then_exit ?_
      refine then_exit ?_
      refine in_hit ?_
      refine then_normal ?_
      refine wp_seq ?_
      refine at_regq (T := S_spec_ReduceVector_tab) [] { ts := [4], os := [4] } [] gamOK hT h (by kernel_rfl) trivial ?_
      intro a w h
      refine then_normal ?_
      refine wp_ret ?_
      exact at_return (S := S_spec_ReduceVector) (x := (x0, x1, ())) ((foldTo LA.redStep x1 x0.2 i), ()) [] h (by kernel_rfl) trivial (congrArg (fun z => (z, ())) (show ((foldTo LA.redStep x1 x0.2 i)) = D_spec_ReduceVector x0 x1 from by unfold D_spec_ReduceVector; (first | (rw [if_neg (by simp_all)]; done) | (rw [if_pos (by assumption), foldTo_all (by omega)]; rfl))))

def D_spec_ContainsVector := (fun (b : T105) (v : List Int) => takesB b v && decide (LA.leadS (LA.redS b.2 v) < 0))
def S_spec_ContainsVector : Sum := { fid := 145, dom := [s105, s22], cod := [(.bool 4)], dp := true, fz := false, pre := fun x => (fun (x0 : T105) (x1 : (List Int)) => Sh.fit s105 x0 ∧ Sh.fit s22 x1) x.1 x.2.1, g := fun x => ((D_spec_ContainsVector x.1 x.2.1), ()) }
def S_spec_ContainsVector_tab : List (Nat × Sum) := [(144, S_spec_l8Fits), (210, S_spec_ReduceVector), (209, S_spec_LeadingIndex)]
theorem S_spec_ContainsVector_ok : FnOK Try.prog 145 S_spec_ContainsVector := by
  refine at_enter 15 (fun x => ⟨[(0, aG [cI x.1.1, .ro s22 x.1.2]), (1, aF (.int 3) x.2.1)], []⟩) Try.func145 rfl (by kernel_rfl) (fun x => rfl) ?_
  rintro w0 Z0 ⟨x0, x1, u⟩ a w
  revert x0 x1
  intro (x0 : T105) (x1 : (List Int)) hpre hlens h
  replace h : At w0 Z0 [] 15 ⟨[(0, aG [cI x0.1, .ro s22 x0.2]), (1, aF (.int 3) x1)], []⟩ a w := h
  replace hpre : (fun (x0 : T105) (x1 : (List Int)) => Sh.fit s105 x0 ∧ Sh.fit s22 x1) x0 x1 := hpre
  have hl1 : List.length x0.2 ≤ 9223372036854775807 := hlens.1.2.1
  have hl2 : List.length x1 ≤ 9223372036854775807 := hlens.2.1.1
  have hT : TabOK Try.prog S_spec_ContainsVector_tab := (.cons S_spec_l8Fits_ok (.cons S_spec_ReduceVector_ok (.cons S_spec_LeadingIndex_ok .nil)))
  obtain ⟨hf0, hf1⟩ := hpre
  have hn0_1 : List.length x0.2 ≤ 1073741824 := hf0.2.1
  have hn1_2 : List.length x1 ≤ 1073741824 := hf1.1
  refine wp_seq ?_
  refine at_regq (T := S_spec_ContainsVector_tab) [{ ids := [1] }] { ts := [1, 2, 4], os := [1] } [] gamOK hT h (by kernel_rfl) trivial ?_
  intro a w h
  refine then_normal ?_
  refine wp_seq ?_
  rcases Bool.eq_false_or_eq_true ((takesB x0 x1)) with h1 | h1
  · skip
    have hvh1 := takesB_t h1
    refine at_regq (T := S_spec_ContainsVector_tab) [{}, {}, { hint := some (aB true) }, {}, {}, {}, { ids := [2] }] { ts := [4], os := [] } [(fun (x0 : T105) (x1 : (List Int)) => Sh.fit s105 x0 ∧ Sh.fit s22 x1) x0 x1, (AV.p (.c (.v (.bool ((takesB x0 x1))))) = AV.p (.c (.v (.bool true)))), (fun (x0 : T105) (x1 : (List Int)) => Sh.fit s105 x0 ∧ Sh.fit s22 x1) x0 x1, (fun (x0 : (List Int)) => Sh.fit s22 x0) (D_spec_ReduceVector x0 x1)] gamOK hT h (by kernel_rfl) ⟨(by exact ⟨hf0, hf1⟩), hint_bool (h1), (by exact ⟨hf0, hf1⟩), (by (unfold D_spec_ReduceVector; rw [if_pos (by assumption)]; exact fitV (LA.redS_rng (takesB_t (by assumption)).1.2 (takesB_t (by assumption)).2) (by have := (takesB_t (b := x0) (v := x1) (by assumption)).1.1; omega))), trivial⟩ ?_
    intro a w h
    refine then_normal ?_
    refine wp_ret ?_
    exact at_return (S := S_spec_ContainsVector) (x := (x0, x1, ())) (decide ((LA.leadS (D_spec_ReduceVector x0 x1)) < 0), ()) [] h (by kernel_rfl) trivial (congrArg (fun z => (z, ())) (show (decide ((LA.leadS (D_spec_ReduceVector x0 x1)) < 0)) = D_spec_ContainsVector x0 x1 from by unfold D_spec_ContainsVector; (first | (rw [show takesB x0 x1 = true from by assumption]; unfold D_spec_ReduceVector; rw [if_pos (by assumption)]; rfl) | (rw [show takesB x0 x1 = false from by first | assumption | (simp_all; done)]; rfl))))
  · skip
    refine at_regq (T := S_spec_ContainsVector_tab) [{}, {}, { hint := some (aB false) }] { ts := [4], os := [] } [(fun (x0 : T105) (x1 : (List Int)) => Sh.fit s105 x0 ∧ Sh.fit s22 x1) x0 x1, (AV.p (.c (.v (.bool ((takesB x0 x1))))) = AV.p (.c (.v (.bool false))))] gamOK hT h (by kernel_rfl) ⟨(by exact ⟨hf0, hf1⟩), hint_bool (h1), trivial⟩ ?_
    intro a w h
    refine then_normal ?_
    refine wp_ret ?_
    exact at_return (S := S_spec_ContainsVector) (x := (x0, x1, ())) (false, ()) [] h (by kernel_rfl) trivial (congrArg (fun z => (z, ())) (show (false) = D_spec_ContainsVector x0 x1 from by unfold D_spec_ContainsVector; (first | (rw [show takesB x0 x1 = true from by assumption]; unfold D_spec_ReduceVector; rw [if_pos (by assumption)]; rfl) | (rw [show takesB x0 x1 = false from by first | assumption | (simp_all; done)]; rfl))))
def insV (b : T105) (v : List Int) : T105 × Bool := if takesB b v = true then (insU b v, insD b v) else (b, false)
theorem insV_no {b : T105} {v : List Int} (ht : takesB b v = true) (hc : D_spec_ContainsVector b v = true) : (b, false) = insV b v := by
  unfold D_spec_ContainsVector at hc
  rw [ht, Bool.true_and] at hc
  have hl := of_decide_eq_true hc
  unfold insV insU insD
  rw [if_pos ht, LA.insS_no hl]
theorem insV_yes {b : T105} {v : List Int} (ht : takesB b v = true) (hc : D_spec_ContainsVector b v = false) : ((b.1, D_spec_l7Reduce (b.2 ++ [v]) b.1), true) = insV b v := by
  unfold D_spec_ContainsVector at hc
  rw [ht, Bool.true_and] at hc
  have hl := of_decide_eq_false hc
  have hr := takesB_t ht
  unfold insV insU insD D_spec_l7Reduce
  rw [if_pos ht, LA.insS_gj hr.1.2 hr.2, LA.insS_yes hl]

def S_spec_InsertVector : Sum := { fid := 63, dom := [s105, s22], cod := [s105, (.bool 4)], dp := false, fz := false, pre := fun x => (fun (x0 : T105) (x1 : (List Int)) => Sh.fit s105 x0 ∧ Sh.fit s22 x1) x.1 x.2.1, g := fun x => ((insV x.1 x.2.1).1, ((insV x.1 x.2.1).2, ())) }
def S_spec_InsertVector_tab : List (Nat × Sum) := [(144, S_spec_l8Fits), (146, S_spec_l8Copy), (145, S_spec_ContainsVector), (148, S_spec_l6Copy), (147, S_spec_l7Reduce)]
theorem S_spec_InsertVector_ok : FnOK Try.prog 63 S_spec_InsertVector := by
  refine at_enter 31 (fun x => ⟨[(0, aG [cI x.1.1, .ro s22 x.1.2]), (1, aF (.int 3) x.2.1)], []⟩) Try.func63 rfl (by kernel_rfl) (fun x => rfl) ?_
  rintro w0 Z0 ⟨x0, x1, u⟩ a w
  revert x0 x1
  intro (x0 : T105) (x1 : (List Int)) hpre hlens h
  replace h : At w0 Z0 [] 31 ⟨[(0, aG [cI x0.1, .ro s22 x0.2]), (1, aF (.int 3) x1)], []⟩ a w := h
  replace hpre : (fun (x0 : T105) (x1 : (List Int)) => Sh.fit s105 x0 ∧ Sh.fit s22 x1) x0 x1 := hpre
  have hl1 : List.length x0.2 ≤ 9223372036854775807 := hlens.1.2.1
  have hl2 : List.length x1 ≤ 9223372036854775807 := hlens.2.1.1
  have hT : TabOK Try.prog S_spec_InsertVector_tab := (.cons S_spec_l8Fits_ok (.cons S_spec_l8Copy_ok (.cons S_spec_ContainsVector_ok (.cons S_spec_l6Copy_ok (.cons S_spec_l7Reduce_ok .nil)))))
  obtain ⟨hf0, hf1⟩ := hpre
  have hn0_1 : List.length x0.2 ≤ 1073741824 := hf0.2.1
  have hn1_2 : List.length x1 ≤ 1073741824 := hf1.1
  refine wp_seq ?_
  refine at_regq (T := S_spec_InsertVector_tab) [{ ids := [1] }, { ids := [2] }] { ts := [1, 2, 4, 5], os := [1, 2] } [] gamOK hT h (by kernel_rfl) trivial ?_
  intro a w h
  refine then_normal ?_
  refine wp_seq ?_
  refine wp_seq ?_
  rcases Bool.eq_false_or_eq_true (!(takesB x0 x1)) with h1 | h1
  · skip
    have hzh1 : (takesB x0 x1) = false := notT h1
    refine at_regq (T := S_spec_InsertVector_tab) [{}, {}, {}, { hint := some (aB true) }] { ts := [1, 2, 4, 5, 14], os := [1, 2] } [(fun (x0 : T105) (x1 : (List Int)) => Sh.fit s105 x0 ∧ Sh.fit s22 x1) x0 x1, (AV.p (.c (.v (.bool (!(takesB x0 x1))))) = AV.p (.c (.v (.bool true))))] gamOK hT h (by kernel_rfl) ⟨(by exact ⟨hf0, hf1⟩), hint_bool (h1), trivial⟩ ?_
    intro a w h
    refine then_normal ?_
    refine at_test true h (by kernel_rfl) (fun hh => ?_) (fun hh => nomatch hh)
    refine wp_seq ?_
    refine at_regq (T := S_spec_InsertVector_tab) [{}, { ids := [3] }] { ts := [1, 2, 4, 5], os := [1, 2, 3] } [(fun (x0 : T105) => Sh.fit s105 x0) x0] gamOK hT h (by kernel_rfl) ⟨(by exact hf0), trivial⟩ ?_
    intro a w h
    refine then_normal ?_
    refine wp_ret ?_
    refine then_ret ?_
    exact at_return (S := S_spec_InsertVector) (x := (x0, x1, ())) (x0, (false, ())) [] h (by kernel_rfl) trivial (congrArg (fun z => (z.1, z.2, ())) (show ((x0, false)) = insV x0 x1 from by (first | exact insV_no (by assumption) (by assumption) | exact insV_yes (by assumption) (by assumption) | (unfold insV; rw [if_neg (by simp_all)]; done))))
  · skip
    have hzh1 : (takesB x0 x1) = true := notF h1
    have hvh1 := takesB_t (notF h1)
    refine at_regq (T := S_spec_InsertVector_tab) [{}, {}, {}, { hint := some (aB false) }] { ts := [1, 2, 4, 5, 14], os := [1, 2] } [(fun (x0 : T105) (x1 : (List Int)) => Sh.fit s105 x0 ∧ Sh.fit s22 x1) x0 x1, (AV.p (.c (.v (.bool (!(takesB x0 x1))))) = AV.p (.c (.v (.bool false)))), (fun (x0 : T105) (x1 : (List Int)) => Sh.fit s105 x0 ∧ Sh.fit s22 x1) x0 x1] gamOK hT h (by kernel_rfl) ⟨(by exact ⟨hf0, hf1⟩), hint_bool (h1), (by exact ⟨hf0, hf1⟩), trivial⟩ ?_
    intro a w h
    refine then_normal ?_
    refine at_test ((D_spec_ContainsVector x0 x1)) h (by kernel_rfl) (fun h2 => ?_) (fun h2 => ?_)
    · refine wp_seq ?_
      refine at_regq (T := S_spec_InsertVector_tab) [{}, { ids := [3] }] { ts := [1, 2, 4, 5], os := [1, 2, 3] } [(fun (x0 : T105) => Sh.fit s105 x0) x0] gamOK hT h (by kernel_rfl) ⟨(by exact hf0), trivial⟩ ?_
      intro a w h
      refine then_normal ?_
      refine wp_ret ?_
      refine then_ret ?_
      exact at_return (S := S_spec_InsertVector) (x := (x0, x1, ())) (x0, (false, ())) [] h (by kernel_rfl) trivial (congrArg (fun z => (z.1, z.2, ())) (show ((x0, false)) = insV x0 x1 from by (first | exact insV_no (by assumption) (by assumption) | exact insV_yes (by assumption) (by assumption) | (unfold insV; rw [if_neg (by simp_all)]; done))))
    · refine wp_skip ?_
      refine then_normal ?_
      refine wp_seq ?_
      refine at_anyq (T := S_spec_InsertVector_tab) [{}, {}, {}, {}, { ids := [4] }, { ids := [5], dp := false }, {}, { ids := [6], frz := true, dp := false }, { ids := [7], dp := false }, { ids := [8], frz := true, dp := false }, {}, {}, { ids := [9] }, {}, {}, {}] { ts := [4, 5], os := [2, 9] } [(fun (x0 : (List (List Int))) => Sh.fit s80 x0) x0.2, (List.length ([] : List Int) + List.length x1) * 8 ≤ 140737488355328, (List.length x0.2 + List.length ([(([] : List Int) ++ x1)])) * 24 ≤ 140737488355328, (fun (x0 : (List (List Int))) (x1 : Int) => Sh.fit s80 x0 ∧ l7P x0 x1) (x0.2 ++ ([(([] : List Int) ++ x1)])) x0.1] gamOK hT mixed h (by kernel_rfl) ⟨(by exact hf0.2), (by first | omega | (simp only [List.length_append, List.length_cons, List.length_nil, List.length_set, List.length_take, List.length_drop, List.length_replicate, List.length_map, Nat.min_def]; omega) | (simp; done) | (simp; omega) | done), (by first | omega | (simp only [List.length_append, List.length_cons, List.length_nil, List.length_set, List.length_take, List.length_drop, List.length_replicate, List.length_map, Nat.min_def]; omega) | (simp; done) | (simp; omega) | done), (by exact ins_l7 (takesB_t (by assumption))), trivial⟩ ?_
      intro a w h
      refine then_normal ?_
      refine wp_ret ?_
      exact at_return (S := S_spec_InsertVector) (x := (x0, x1, ())) ((x0.1, (D_spec_l7Reduce (x0.2 ++ ([(([] : List Int) ++ x1)])) x0.1)), (true, ())) [] h (by kernel_rfl) trivial (congrArg (fun z => (z.1, z.2, ())) (show (((x0.1, (D_spec_l7Reduce (x0.2 ++ ([(([] : List Int) ++ x1)])) x0.1)), true)) = insV x0 x1 from by (first | exact insV_no (by assumption) (by assumption) | exact insV_yes (by assumption) (by assumption) | (unfold insV; rw [if_neg (by simp_all)]; done))))

def sameW (x0 : T105) (x1 : T105) : Bool := (if (validB x0) = true then (if (validB x1) = true then decide (x0.1 = x1.1) else false) else false)
def S_impl_sameWidth : Sum := { fid := 143, dom := [s105, s105], cod := [(.bool 4)], dp := true, fz := false, pre := fun x => (fun (x0 : T105) (x1 : T105) => Sh.fit s105 x0 ∧ Sh.fit s105 x1) x.1 x.2.1, g := fun x => ((sameW x.1 x.2.1), ()) }
def S_impl_sameWidth_tab : List (Nat × Sum) := [(207, S_impl_IsValidBasis)]
theorem S_impl_sameWidth_ok : FnOK Try.prog 143 S_impl_sameWidth := by
  refine at_enter 18 (fun x => ⟨[(0, aG [cI x.1.1, .ro s22 x.1.2]), (1, aG [cI x.2.1.1, .ro s22 x.2.1.2])], []⟩) Try.func143 rfl (by kernel_rfl) (fun x => rfl) ?_
  rintro w0 Z0 ⟨x0, x1, u⟩ a w
  revert x0 x1
  intro (x0 : T105) (x1 : T105) hpre hlens h
  replace h : At w0 Z0 [] 18 ⟨[(0, aG [cI x0.1, .ro s22 x0.2]), (1, aG [cI x1.1, .ro s22 x1.2])], []⟩ a w := h
  replace hpre : (fun (x0 : T105) (x1 : T105) => Sh.fit s105 x0 ∧ Sh.fit s105 x1) x0 x1 := hpre
  have hl1 : List.length x0.2 ≤ 9223372036854775807 := hlens.1.2.1
  have hl2 : List.length x1.2 ≤ 9223372036854775807 := hlens.2.1.2.1
  have hT : TabOK Try.prog S_impl_sameWidth_tab := (.cons S_impl_IsValidBasis_ok .nil)
  obtain ⟨hf0, hf1⟩ := hpre
  have hn0_1 : List.length x0.2 ≤ 1073741824 := hf0.2.1
  have hn1_2 : List.length x1.2 ≤ 1073741824 := hf1.2.1
  refine wp_seq ?_
  refine at_regq (T := S_impl_sameWidth_tab) [{ ids := [1] }, { ids := [2] }] { ts := [2, 3, 4], os := [1, 2] } [] gamOK hT h (by kernel_rfl) trivial ?_
  intro a w h
  refine then_normal ?_
  refine wp_seq ?_
  rcases Bool.eq_false_or_eq_true ((validB x0)) with h1 | h1
  · skip
    have hvh1 := validB_t h1
    rcases Bool.eq_false_or_eq_true ((validB x1)) with h2 | h2
    · skip
      have hvh2 := validB_t h2
      refine at_regq (T := S_impl_sameWidth_tab) [{}, { hint := some (aB true) }, {}, {}, { hint := some (aB true) }] { ts := [4], os := [] } [(fun (x0 : T105) => Sh.fit s105 x0) x0, (AV.p (.c (.v (.bool ((validB x0))))) = AV.p (.c (.v (.bool true)))), (fun (x0 : T105) => Sh.fit s105 x0) x1, (AV.p (.c (.v (.bool ((validB x1))))) = AV.p (.c (.v (.bool true))))] gamOK hT h (by kernel_rfl) ⟨(by exact hf0), hint_bool (h1), (by exact hf1), hint_bool (h2), trivial⟩ ?_
      intro a w h
      refine then_normal ?_
      refine wp_ret ?_
      exact at_return (S := S_impl_sameWidth) (x := (x0, x1, ())) (decide (x0.1 = x1.1), ()) [] h (by kernel_rfl) trivial (congrArg (fun z => (z, ())) (show (decide (x0.1 = x1.1)) = sameW x0 x1 from by first | rfl | (unfold sameW; rw [if_pos h1, if_pos h2])))
    · skip
      refine at_regq (T := S_impl_sameWidth_tab) [{}, { hint := some (aB true) }, {}, {}, { hint := some (aB false) }] { ts := [4], os := [] } [(fun (x0 : T105) => Sh.fit s105 x0) x0, (AV.p (.c (.v (.bool ((validB x0))))) = AV.p (.c (.v (.bool true)))), (fun (x0 : T105) => Sh.fit s105 x0) x1, (AV.p (.c (.v (.bool ((validB x1))))) = AV.p (.c (.v (.bool false))))] gamOK hT h (by kernel_rfl) ⟨(by exact hf0), hint_bool (h1), (by exact hf1), hint_bool (h2), trivial⟩ ?_
      intro a w h
      refine then_normal ?_
      refine wp_ret ?_
      exact at_return (S := S_impl_sameWidth) (x := (x0, x1, ())) (false, ()) [] h (by kernel_rfl) trivial (congrArg (fun z => (z, ())) (show (false) = sameW x0 x1 from by first | rfl | (unfold sameW; rw [if_pos h1, if_neg (neT h2)])))
  · skip
    refine at_regq (T := S_impl_sameWidth_tab) [{}, { hint := some (aB false) }] { ts := [4], os := [] } [(fun (x0 : T105) => Sh.fit s105 x0) x0, (AV.p (.c (.v (.bool ((validB x0))))) = AV.p (.c (.v (.bool false))))] gamOK hT h (by kernel_rfl) ⟨(by exact hf0), hint_bool (h1), trivial⟩ ?_
    intro a w h
    refine then_normal ?_
    refine wp_ret ?_
    exact at_return (S := S_impl_sameWidth) (x := (x0, x1, ())) (false, ()) [] h (by kernel_rfl) trivial (congrArg (fun z => (z, ())) (show (false) = sameW x0 x1 from by first | rfl | (unfold sameW; rw [if_neg (neT h1)])))

theorem sameW_t {a b : T105} (h : sameW a b = true) : basP a ∧ basP b ∧ a.1 = b.1 := by
  unfold sameW at h
  split at h
  · split at h
    · exact ⟨validB_t (by assumption), validB_t (by assumption), of_decide_eq_true h⟩
    · cases h
  · cases h
def sumB (a b : T105) : T105 := if sameW a b = true then (a.1, foldTo insR a.2 b.2 (List.length b.2)) else a
theorem sumB_row {a b : T105} (h : sameW a b = true) {i : Nat} (hi : i < b.2.length) : LA.VokB a.1.toNat (b.2.getD i []) := by
  obtain ⟨h1, h2, h3⟩ := sameW_t h
  rw [h3]; exact h2.2.ok _ (LA.getD_in hi)
theorem sumB_at {a b : T105} (h : sameW a b = true) {i : Nat} (hi : i ≤ b.2.length) : LA.RedL a.1.toNat (foldTo insR a.2 b.2 i) := by
  obtain ⟨h1, h2, h3⟩ := sameW_t h
  exact insR_red h1.2 (fun v hv => by rw [h3]; exact h2.2.ok v hv) i hi
theorem sumB_P {a b : T105} (h : sameW a b = true) : basP (sumB a b) := by
  unfold sumB; rw [if_pos h]; exact ⟨(sameW_t h).1.1, sumB_at h (Nat.le_refl _)⟩
theorem basP_fit {a : T105} (h : basP a) : Sh.fit s105 a := ⟨trivial, fitM h.2.ok (by have := h.1; omega) (by have := h.2.len; have := h.1; omega)⟩
theorem sumB_fit {a b : T105} (h : Sh.fit s105 a) : Sh.fit s105 (sumB a b) := by
  by_cases hs : sameW a b = true
  · exact basP_fit (sumB_P hs)
  · unfold sumB; rw [if_neg hs]; exact h
theorem insV_at {b : T105} {v : List Int} (h : redP b v) : (insV b v).1 = (b.1, insR b.2 v) := by unfold insV; rw [if_pos (takesB_of h)]; rfl
theorem ctL_bd {α : Type} {c : α → Nat} {m : Nat} : ∀ {xs : List α}, (∀ x ∈ xs, c x ≤ m) → ctL c xs ≤ m * xs.length
  | [], _ => Nat.zero_le _
  | x :: l, h => by
    have h1 := h x (by simp)
    have h2 := ctL_bd (xs := l) (fun y hy => h y (by simp [hy]))
    simp only [ctL, List.length_cons, Nat.mul_add, Nat.mul_one]; omega
theorem basP_sz {a : T105} (h : basP a) : Sh.sz s105 a ≤ 2000 := by
  have h1 : Sh.sz s105 a = 0 + (List.length a.2 + ctL (Sh.sz s22) a.2) := rfl
  have h2 := ctL_bd (c := Sh.sz s22) (m := 40) (xs := a.2) (fun x hx => by rw [sz_flat (by rfl)]; have := (h.2.ok x hx).1; have := h.1; omega)
  have h3 := h.2.len; have h4 := h.1
  omega
theorem insV_sz (b : T105) (v : List Int) : Sh.sz s105 (insV b v).1 ≤ 2000 + Sh.sz s105 b := by
  by_cases ht : takesB b v = true
  · have hr := takesB_t ht
    have : basP (insV b v).1 := by rw [insV_at hr]; exact ⟨hr.1.1, (LA.insS_ok hr.1.2 hr.2).1⟩
    have := basP_sz this; omega
  · unfold insV; rw [if_neg ht]; exact Nat.le_add_left _ _
theorem sumB_sz (a b : T105) : Sh.sz s105 (sumB a b) ≤ 2000 + Sh.sz s105 a := by
  by_cases hs : sameW a b = true
  · have := basP_sz (sumB_P hs); omega
  · unfold sumB; rw [if_neg hs]; exact Nat.le_add_left _ _
theorem takes_sum {a b : T105} (h : sameW a b = true) {i : Nat} (hi : i < b.2.length) : redP (a.1, foldTo insR a.2 b.2 i) (b.2.getD i []) := ⟨⟨(sameW_t h).1.1, sumB_at h (Nat.le_of_lt hi)⟩, sumB_row h hi⟩


def S_spec_l9Pair : Sum := { fid := 141, dom := [s105, s105], cod := [(.bool 4)], dp := true, fz := false, pre := fun x => (fun (x0 : T105) (x1 : T105) => Sh.fit s105 x0 ∧ Sh.fit s105 x1) x.1 x.2.1, g := fun x => ((sameW x.1 x.2.1), ()) }
def S_spec_l9Pair_tab : List (Nat × Sum) := [(206, S_spec_IsValidBasis)]
theorem S_spec_l9Pair_ok : FnOK Try.prog 141 S_spec_l9Pair := by
  refine at_enter 18 (fun x => ⟨[(0, aG [cI x.1.1, .ro s22 x.1.2]), (1, aG [cI x.2.1.1, .ro s22 x.2.1.2])], []⟩) Try.func141 rfl (by kernel_rfl) (fun x => rfl) ?_
  rintro w0 Z0 ⟨x0, x1, u⟩ a w
  revert x0 x1
  intro (x0 : T105) (x1 : T105) hpre hlens h
  replace h : At w0 Z0 [] 18 ⟨[(0, aG [cI x0.1, .ro s22 x0.2]), (1, aG [cI x1.1, .ro s22 x1.2])], []⟩ a w := h
  replace hpre : (fun (x0 : T105) (x1 : T105) => Sh.fit s105 x0 ∧ Sh.fit s105 x1) x0 x1 := hpre
  have hl1 : List.length x0.2 ≤ 9223372036854775807 := hlens.1.2.1
  have hl2 : List.length x1.2 ≤ 9223372036854775807 := hlens.2.1.2.1
  have hT : TabOK Try.prog S_spec_l9Pair_tab := (.cons S_spec_IsValidBasis_ok .nil)
  obtain ⟨hf0, hf1⟩ := hpre
  have hn0_1 : List.length x0.2 ≤ 1073741824 := hf0.2.1
  have hn1_2 : List.length x1.2 ≤ 1073741824 := hf1.2.1
  refine wp_seq ?_
  refine at_regq (T := S_spec_l9Pair_tab) [{ ids := [1] }, { ids := [2] }] { ts := [2, 3, 4], os := [1, 2] } [] gamOK hT h (by kernel_rfl) trivial ?_
  intro a w h
  refine then_normal ?_
  refine wp_seq ?_
  rcases Bool.eq_false_or_eq_true ((validBS x0)) with h1 | h1
  · skip
    have hvh1 := validBS_t h1
    rcases Bool.eq_false_or_eq_true ((validBS x1)) with h2 | h2
    · skip
      have hvh2 := validBS_t h2
      refine at_regq (T := S_spec_l9Pair_tab) [{}, { hint := some (aB true) }, {}, {}, { hint := some (aB true) }] { ts := [4], os := [] } [(fun (x0 : T105) => Sh.fit s105 x0) x0, (AV.p (.c (.v (.bool ((validBS x0))))) = AV.p (.c (.v (.bool true)))), (fun (x0 : T105) => Sh.fit s105 x0) x1, (AV.p (.c (.v (.bool ((validBS x1))))) = AV.p (.c (.v (.bool true))))] gamOK hT h (by kernel_rfl) ⟨(by exact hf0), hint_bool (h1), (by exact hf1), hint_bool (h2), trivial⟩ ?_
      intro a w h
      refine then_normal ?_
      refine wp_ret ?_
      exact at_return (S := S_spec_l9Pair) (x := (x0, x1, ())) (decide (x0.1 = x1.1), ()) [] h (by kernel_rfl) trivial (congrArg (fun z => (z, ())) (show (decide (x0.1 = x1.1)) = sameW x0 x1 from by first | rfl | (unfold sameW; rw [if_pos h1, if_pos h2]; done) | (unfold sameW; simp_all [validBS_eq])))
    · skip
      refine at_regq (T := S_spec_l9Pair_tab) [{}, { hint := some (aB true) }, {}, {}, { hint := some (aB false) }] { ts := [4], os := [] } [(fun (x0 : T105) => Sh.fit s105 x0) x0, (AV.p (.c (.v (.bool ((validBS x0))))) = AV.p (.c (.v (.bool true)))), (fun (x0 : T105) => Sh.fit s105 x0) x1, (AV.p (.c (.v (.bool ((validBS x1))))) = AV.p (.c (.v (.bool false))))] gamOK hT h (by kernel_rfl) ⟨(by exact hf0), hint_bool (h1), (by exact hf1), hint_bool (h2), trivial⟩ ?_
      intro a w h
      refine then_normal ?_
      refine wp_ret ?_
      exact at_return (S := S_spec_l9Pair) (x := (x0, x1, ())) (false, ()) [] h (by kernel_rfl) trivial (congrArg (fun z => (z, ())) (show (false) = sameW x0 x1 from by first | rfl | (unfold sameW; rw [if_pos h1, if_neg (neT h2)]; done) | (unfold sameW; simp_all [validBS_eq])))
  · skip
    refine at_regq (T := S_spec_l9Pair_tab) [{}, { hint := some (aB false) }] { ts := [4], os := [] } [(fun (x0 : T105) => Sh.fit s105 x0) x0, (AV.p (.c (.v (.bool ((validBS x0))))) = AV.p (.c (.v (.bool false))))] gamOK hT h (by kernel_rfl) ⟨(by exact hf0), hint_bool (h1), trivial⟩ ?_
    intro a w h
    refine then_normal ?_
    refine wp_ret ?_
    exact at_return (S := S_spec_l9Pair) (x := (x0, x1, ())) (false, ()) [] h (by kernel_rfl) trivial (congrArg (fun z => (z, ())) (show (false) = sameW x0 x1 from by first | rfl | (unfold sameW; rw [if_neg (neT h1)]; done) | (unfold sameW; simp_all [validBS_eq])))

def S_impl_SumOf : Sum := { fid := 69, dom := [s105, s105], cod := [s105], dp := true, fz := false, pre := fun x => (fun (x0 : T105) (x1 : T105) => Sh.fit s105 x0 ∧ Sh.fit s105 x1) x.1 x.2.1, g := fun x => ((sumB x.1 x.2.1), ()) }
def S_impl_SumOf_tab : List (Nat × Sum) := [(149, S__impl_Basis_clone), (143, S_impl_sameWidth), (151, S__P_impl_Basis_insert)]
theorem S_impl_SumOf_ok : FnOK Try.prog 69 S_impl_SumOf := by
  refine at_enter 24 (fun x => ⟨[(0, aG [cI x.1.1, .ro s22 x.1.2]), (1, aG [cI x.2.1.1, .ro s22 x.2.1.2])], []⟩) Try.func69 rfl (by kernel_rfl) (fun x => rfl) ?_
  rintro w0 Z0 ⟨x0, x1, u⟩ a w
  revert x0 x1
  intro (x0 : T105) (x1 : T105) hpre hlens h
  replace h : At w0 Z0 [] 24 ⟨[(0, aG [cI x0.1, .ro s22 x0.2]), (1, aG [cI x1.1, .ro s22 x1.2])], []⟩ a w := h
  replace hpre : (fun (x0 : T105) (x1 : T105) => Sh.fit s105 x0 ∧ Sh.fit s105 x1) x0 x1 := hpre
  have hl1 : List.length x0.2 ≤ 9223372036854775807 := hlens.1.2.1
  have hl2 : List.length x1.2 ≤ 9223372036854775807 := hlens.2.1.2.1
  have hT : TabOK Try.prog S_impl_SumOf_tab := (.cons S__impl_Basis_clone_ok (.cons S_impl_sameWidth_ok (.cons S__P_impl_Basis_insert_ok .nil)))
  obtain ⟨hf0, hf1⟩ := hpre
  have hn0_1 : List.length x0.2 ≤ 1073741824 := hf0.2.1
  have hn1_2 : List.length x1.2 ≤ 1073741824 := hf1.2.1
  refine wp_seq ?_
  refine at_regq (T := S_impl_SumOf_tab) [{ ids := [1] }, { ids := [2] }, { ids := [3] }] { ts := [2, 3, 4], os := [1, 2, 3] } [] gamOK hT h (by kernel_rfl) trivial ?_
  intro a w h
  refine then_normal ?_
  refine wp_seq ?_
  refine at_regq (T := S_impl_SumOf_tab) [{}, { ids := [4] }, { ids := [5] }] { ts := [2, 3, 4, 5], os := [1, 2, 3, 4, 5] } [(fun (x0 : T105) => Sh.fit s105 x0) x0] gamOK hT h (by kernel_rfl) ⟨(by exact hf0), trivial⟩ ?_
  intro a w h
  refine then_normal ?_
  refine wp_seq ?_
  refine wp_seq ?_
  refine at_regq (T := S_impl_SumOf_tab) [] { ts := [3, 4, 5, 12], os := [2, 3, 4, 5] } [(fun (x0 : T105) (x1 : T105) => Sh.fit s105 x0 ∧ Sh.fit s105 x1) x0 x1] gamOK hT h (by kernel_rfl) ⟨(by exact ⟨hf0, hf1⟩), trivial⟩ ?_
  intro a w h
  refine then_normal ?_
  refine at_test ((sameW x0 x1)) h (by kernel_rfl) (fun h1 => ?_) (fun h1 => ?_)
  · refine wp_seq ?_
    refine at_reg (T := S_impl_SumOf_tab) [] { ts := [4, 5, 14, 15, 16], os := [3, 4, 5] } ⟨[(4, aP 3 0), (5, aP 5 0), (14, aF s22 x1.2), (15, aI ((List.length x1.2 : Nat) : Int)), (16, aI 0)], [(3, oX 105 [cI 0, cN]), (4, oR s22 x0.2), (5, oX 105 [cI x0.1, .sl 4])]⟩ [] gamOK hT h (by kernel_rfl) trivial ?_
    intro a w h
    refine then_normal ?_
    refine wp_block ?_
    replace h := at_out (σ' := ⟨[(4, aP 3 0), (5, aP 5 0), (14, aF s22 x1.2), (15, aI ((List.length x1.2 : Nat) : Int)), (16, aI 0)], [(3, oX 105 [cI 0, cN]), (4, oR s22 x0.2), (5, oX 105 [cI x0.1, .sl 4])]⟩) { ts := [4, 5, 14, 15, 16], os := [3, 4, 5] } h (by kernel_rfl)
    refine at_loop (fun i : Nat => (⟨[(4, aP 3 0), (5, aP 5 0), (14, aF s22 x1.2), (15, aI ((List.length x1.2 : Nat) : Int)), (16, aI ((i : Nat) : Int))], [(3, oX 105 [cI 0, cN]), (4, oR s22 (foldTo insR x0.2 x1.2 i)), (5, oX 105 [cI x0.1, .sl 4])]⟩ : St)) (fun i => i ≤ List.length x1.2) (fun i => List.length x1.2 - i) (0) h (st_congr3 (fun (d0 : Int) (d1 : List (List Int)) (d2 : Int) => (⟨[(4, aP 3 0), (5, aP 5 0), (14, aF s22 x1.2), (15, aI ((List.length x1.2 : Nat) : Int)), (16, aI d2)], [(3, oX 105 [cI 0, cN]), (4, oR s22 d1), (5, oX 105 [cI d0, .sl 4])]⟩ : St)) (show (x0.1 : Int) = x0.1 from by first | with_reducible rfl | (rfl) | rfl) (show (x0.2 : List (List Int)) = (foldTo insR x0.2 x1.2 (0)) from by first | with_reducible rfl | (rfl) | rfl) (show (0 : Int) = (((0) : Nat) : Int) from by first | with_reducible rfl | (rfl) | rfl)) (by omega) ?_
    intro i a w hok0 h
    refine wp_seq ?_
    refine at_regq (T := S_impl_SumOf_tab) [] { ts := [4, 5, 14, 15, 16, 17], os := [3, 4, 5] } [] gamOK hT h (by kernel_rfl) trivial ?_
    intro a w h
    refine then_normal ?_
    refine wp_seq ?_
    refine at_test (decide (((i : Nat) : Int) < ((List.length x1.2 : Nat) : Int))) h (by kernel_rfl) (fun h2 => ?_) (fun h2 => ?_)
    · replace h2 : ((i : Nat) : Int) < ((List.length x1.2 : Nat) : Int) := of_decide_eq_true h2
      have htk := takes_sum (a := x0) (b := x1) (i := i) (by assumption) (by omega)
      have hbf := basP_fit htk.1
      have hrw := htk.2
      have hb01 := htk.1.1
      have hrf := fitV hrw (by dsimp only at *; omega)
      refine wp_skip ?_
      refine then_normal ?_
      refine wp_seq ?_
      refine wp_block ?_
      refine wp_seq ?_
      refine at_regq (T := S_impl_SumOf_tab) [] { ts := [4, 5, 7, 14, 15, 16], os := [3, 4, 5] } [(0 : Int) ≤ ((i : Nat) : Int) ∧ ((i : Nat) : Int) < ((List.length x1.2 : Nat) : Int)] gamOK hT h (by kernel_rfl) ⟨(by refine ⟨?_, ?_⟩ <;> (first | omega | (simp only [List.length_append, List.length_cons, List.length_nil, List.length_set, List.length_take, List.length_drop, List.length_replicate, List.length_map, Nat.min_def]; omega) | (simp; done) | (simp; omega) | done)), trivial⟩ ?_
      intro a w h
      refine then_normal ?_
      refine at_regq (T := S_impl_SumOf_tab) [{}, { ids := [6] }] { ts := [4, 5, 14, 15, 16], os := [3, 5, 6] } [(fun (x0 : T105) (x1 : (List Int)) => Sh.fit s105 x0 ∧ Sh.fit s22 x1 ∧ redP x0 x1) (x0.1, (foldTo insR x0.2 x1.2 i)) (x1.2.getD i [])] gamOK hT h (by kernel_rfl) ⟨(by exact ⟨hbf, hrf, htk⟩), trivial⟩ ?_
      intro a w h
      refine in_normal ?_
      refine then_normal ?_
      refine at_reg (T := S_impl_SumOf_tab) [{ nw := true }] { ts := [4, 5, 14, 15, 16], os := [3, 5, 6] } ⟨[(4, aP 3 0), (5, aP 5 0), (14, aF s22 x1.2), (15, aI ((List.length x1.2 : Nat) : Int)), (16, aI (((i : Nat) : Int) + 1))], [(3, oX 105 [cI 0, cN]), (5, oX 105 [cI (insU (x0.1, (foldTo insR x0.2 x1.2 i)) (x1.2.getD i [])).1, .sl 6]), (6, oR s22 (insU (x0.1, (foldTo insR x0.2 x1.2 i)) (x1.2.getD i [])).2)]⟩ [I64 (((i : Nat) : Int) + 1)] gamOK hT h (by kernel_rfl) ⟨⟨by first | omega | (simp only [List.length_append, List.length_cons, List.length_nil, List.length_set, List.length_take, List.length_drop, List.length_replicate, List.length_map, Nat.min_def]; omega) | (simp; done) | (simp; omega) | done, by first | omega | (simp only [List.length_append, List.length_cons, List.length_nil, List.length_set, List.length_take, List.length_drop, List.length_replicate, List.length_map, Nat.min_def]; omega) | (simp; done) | (simp; omega) | done⟩, trivial⟩ ?_
      intro a w h
      replace h := at_out (σ' := ⟨[(4, aP 3 0), (5, aP 5 0), (14, aF s22 x1.2), (15, aI ((List.length x1.2 : Nat) : Int)), (16, aI (((i : Nat) : Int) + 1))], [(3, oX 105 [cI 0, cN]), (4, oR s22 (insU (x0.1, (foldTo insR x0.2 x1.2 i)) (x1.2.getD i [])).2), (5, oX 105 [cI (insU (x0.1, (foldTo insR x0.2 x1.2 i)) (x1.2.getD i [])).1, .sl 4])]⟩) { ts := [4, 5, 14, 15, 16], os := [3, 6, 5], rn := [(6, 4)] } h (by kernel_rfl)
      exact ⟨i + 1, at_eq h (st_congr3 (fun (d0 : Int) (d1 : List (List Int)) (d2 : Int) => (⟨[(4, aP 3 0), (5, aP 5 0), (14, aF s22 x1.2), (15, aI ((List.length x1.2 : Nat) : Int)), (16, aI d2)], [(3, oX 105 [cI 0, cN]), (4, oR s22 d1), (5, oX 105 [cI d0, .sl 4])]⟩ : St)) (show ((insU (x0.1, (foldTo insR x0.2 x1.2 i)) (x1.2.getD i [])).1 : Int) = x0.1 from by first | with_reducible rfl | (first | rfl | (rw [insV_at htk]; done)) | rfl) (show ((insU (x0.1, (foldTo insR x0.2 x1.2 i)) (x1.2.getD i [])).2 : List (List Int)) = (foldTo insR x0.2 x1.2 (i + 1)) from by first | with_reducible rfl | (first | (rw [foldTo_succ [] (by omega)]; rfl) | (rw [foldTo_succ [] (by omega), insV_at htk]; done)) | rfl) (show (((i : Nat) : Int) + 1 : Int) = (((i + 1) : Nat) : Int) from by first | with_reducible rfl | (omega) | rfl)), (by omega), (by omega)⟩
    · replace h2 : ¬ (((i : Nat) : Int) < ((List.length x1.2 : Nat) : Int)) := of_decide_eq_false h2
      refine wp_exit ?_
      refine then_exit ?_
      refine then_exit ?_
      refine in_hit ?_
      refine then_normal ?_
      refine wp_seq ?_
      refine at_regq (T := S_impl_SumOf_tab) [] { ts := [4], os := [3, 4] } [] gamOK hT h (by kernel_rfl) trivial ?_
      intro a w h
      refine then_normal ?_
      refine wp_ret ?_
      exact at_return (S := S_impl_SumOf) (x := (x0, x1, ())) ((x0.1, (foldTo insR x0.2 x1.2 i)), ()) [] h (by kernel_rfl) trivial (congrArg (fun z => (z, ())) (show ((x0.1, (foldTo insR x0.2 x1.2 i))) = sumB x0 x1 from by first | (unfold sumB; rw [if_pos (by assumption), show List.length x1.2 = i by omega]; done) | (unfold sumB; rw [if_neg (by simp_all)]; done)))
  · refine wp_skip ?_
    refine then_normal ?_
    refine wp_seq ?_
    refine at_reg (T := S_impl_SumOf_tab) [] { ts := [4], os := [3, 4] } ⟨[(4, aP 3 0)], [(3, oX 105 [cI x0.1, .sl 4]), (4, oR s22 x0.2)]⟩ [] gamOK hT h (by kernel_rfl) trivial ?_
    intro a w h
    refine then_normal ?_
    refine wp_ret ?_
    exact at_return (S := S_impl_SumOf) (x := (x0, x1, ())) (x0, ()) [] h (by kernel_rfl) trivial (congrArg (fun z => (z, ())) (show (x0) = sumB x0 x1 from by first | (unfold sumB; rw [if_pos (by assumption), show List.length x1.2 = i by omega]; done) | (unfold sumB; rw [if_neg (by simp_all)]; done)))

def S_spec_SumOf : Sum := { fid := 68, dom := [s105, s105], cod := [s105], dp := false, fz := false, pre := fun x => (fun (x0 : T105) (x1 : T105) => Sh.fit s105 x0 ∧ Sh.fit s105 x1) x.1 x.2.1, g := fun x => ((sumB x.1 x.2.1), ()) }
def S_spec_SumOf_tab : List (Nat × Sum) := [(146, S_spec_l8Copy), (141, S_spec_l9Pair), (63, S_spec_InsertVector)]
theorem S_spec_SumOf_ok : FnOK Try.prog 68 S_spec_SumOf := by
  refine at_enter 35 (fun x => ⟨[(0, aG [cI x.1.1, .ro s22 x.1.2]), (1, aG [cI x.2.1.1, .ro s22 x.2.1.2])], []⟩) Try.func68 rfl (by kernel_rfl) (fun x => rfl) ?_
  rintro w0 Z0 ⟨x0, x1, u⟩ a w
  revert x0 x1
  intro (x0 : T105) (x1 : T105) hpre hlens h
  replace h : At w0 Z0 [] 35 ⟨[(0, aG [cI x0.1, .ro s22 x0.2]), (1, aG [cI x1.1, .ro s22 x1.2])], []⟩ a w := h
  replace hpre : (fun (x0 : T105) (x1 : T105) => Sh.fit s105 x0 ∧ Sh.fit s105 x1) x0 x1 := hpre
  have hl1 : List.length x0.2 ≤ 9223372036854775807 := hlens.1.2.1
  have hl2 : List.length x1.2 ≤ 9223372036854775807 := hlens.2.1.2.1
  have hT : TabOK Try.prog S_spec_SumOf_tab := (.cons S_spec_l8Copy_ok (.cons S_spec_l9Pair_ok (.cons S_spec_InsertVector_ok .nil)))
  obtain ⟨hf0, hf1⟩ := hpre
  have hn0_1 : List.length x0.2 ≤ 1073741824 := hf0.2.1
  have hn1_2 : List.length x1.2 ≤ 1073741824 := hf1.2.1
  refine wp_seq ?_
  refine at_regq (T := S_spec_SumOf_tab) [{ ids := [1] }, { ids := [2] }, { ids := [3] }] { ts := [2, 3, 4], os := [1, 2, 3] } [] gamOK hT h (by kernel_rfl) trivial ?_
  intro a w h
  refine then_normal ?_
  refine wp_seq ?_
  refine at_regq (T := S_spec_SumOf_tab) [{}, { ids := [4] }, { ids := [5] }] { ts := [2, 3, 4, 5], os := [1, 2, 3, 4, 5] } [(fun (x0 : T105) => Sh.fit s105 x0) x0] gamOK hT h (by kernel_rfl) ⟨(by exact hf0), trivial⟩ ?_
  intro a w h
  refine then_normal ?_
  refine wp_seq ?_
  refine wp_seq ?_
  refine at_regq (T := S_spec_SumOf_tab) [] { ts := [3, 4, 5, 14], os := [2, 3, 4, 5] } [(fun (x0 : T105) (x1 : T105) => Sh.fit s105 x0 ∧ Sh.fit s105 x1) x0 x1] gamOK hT h (by kernel_rfl) ⟨(by exact ⟨hf0, hf1⟩), trivial⟩ ?_
  intro a w h
  refine then_normal ?_
  refine at_test (!(sameW x0 x1)) h (by kernel_rfl) (fun h1 => ?_) (fun h1 => ?_)
  · replace h1 : (sameW x0 x1) = false := notT h1
    refine wp_seq ?_
    refine at_reg (T := S_spec_SumOf_tab) [] { ts := [3, 4, 5], os := [2, 3, 4, 5] } ⟨[(3, aP 2 0), (4, aP 3 0), (5, aP 5 0)], [(2, oX 105 [cI x1.1, .ro s22 x1.2]), (3, oX 105 [cI x0.1, .sl 4]), (4, oF s22 x0.2), (5, oX 105 [cI x0.1, .sl 4])]⟩ [] gamOK hT h (by kernel_rfl) trivial ?_
    intro a w h
    refine then_normal ?_
    refine wp_ret ?_
    refine then_ret ?_
    exact at_return (S := S_spec_SumOf) (x := (x0, x1, ())) (x0, ()) [] h (by kernel_rfl) trivial (congrArg (fun z => (z, ())) (show (x0) = sumB x0 x1 from by first | (unfold sumB; rw [if_pos (by assumption), show List.length x1.2 = i by omega]; done) | (unfold sumB; rw [if_neg (by simp_all)]; done)))
  · replace h1 : (sameW x0 x1) = true := notF h1
    refine wp_skip ?_
    refine then_normal ?_
    refine wp_seq ?_
    refine wp_seq ?_
    refine at_reg (T := S_spec_SumOf_tab) [] { ts := [3, 4, 5, 6], os := [2, 3, 4, 5] } ⟨[(3, aP 2 0), (4, aP 3 0), (5, aP 5 0), (6, aI 0)], [(2, oX 105 [cI x1.1, .ro s22 x1.2]), (3, oX 105 [cI 0, cN]), (4, oF s22 x0.2), (5, oX 105 [cI x0.1, .sl 4])]⟩ [] gamOK hT h (by kernel_rfl) trivial ?_
    intro a w h
    refine then_normal ?_
    refine wp_block ?_
    replace h := at_out (σ' := ⟨[(3, aP 2 0), (4, aP 3 0), (5, aP 5 0), (6, aI 0)], [(2, oX 105 [cI x1.1, .ro s22 x1.2]), (3, oX 105 [cI 0, cN]), (4, oF s22 x0.2), (5, oX 105 [cI x0.1, .sl 4])]⟩) { ts := [3, 4, 5, 6], os := [2, 3, 4, 5] } h (by kernel_rfl)
    refine at_loop (fun i : Nat => (⟨[(3, aP 2 0), (4, aP 3 0), (5, aP 5 0), (6, aI ((i : Nat) : Int))], [(2, oX 105 [cI x1.1, .ro s22 x1.2]), (3, oX 105 [cI 0, cN]), (4, oF s22 (foldTo insR x0.2 x1.2 i)), (5, oX 105 [cI x0.1, .sl 4])]⟩ : St)) (fun i => i ≤ List.length x1.2) (fun i => List.length x1.2 - i) (0) h (st_congr3 (fun (d0 : Int) (d1 : List (List Int)) (d2 : Int) => (⟨[(3, aP 2 0), (4, aP 3 0), (5, aP 5 0), (6, aI d2)], [(2, oX 105 [cI x1.1, .ro s22 x1.2]), (3, oX 105 [cI 0, cN]), (4, oF s22 d1), (5, oX 105 [cI d0, .sl 4])]⟩ : St)) (show (x0.1 : Int) = x0.1 from by first | with_reducible rfl | (rfl) | rfl) (show (x0.2 : List (List Int)) = (foldTo insR x0.2 x1.2 (0)) from by first | with_reducible rfl | (rfl) | rfl) (show (0 : Int) = (((0) : Nat) : Int) from by first | with_reducible rfl | (rfl) | rfl)) (by omega) ?_
    intro i a w hok0 h
    refine wp_seq ?_
    refine wp_seq ?_
    refine at_regq (T := S_spec_SumOf_tab) [] { ts := [3, 4, 5, 6, 20], os := [2, 3, 4, 5] } [] gamOK hT h (by kernel_rfl) trivial ?_
    intro a w h
    refine then_normal ?_
    refine at_test (decide (((i : Nat) : Int) < ((List.length x1.2 : Nat) : Int))) h (by kernel_rfl) (fun h2 => ?_) (fun h2 => ?_)
    · replace h2 : ((i : Nat) : Int) < ((List.length x1.2 : Nat) : Int) := of_decide_eq_true h2
      have htk := takes_sum (a := x0) (b := x1) (i := i) (by assumption) (by omega)
      have hbf := basP_fit htk.1
      have hrw := htk.2
      have hb01 := htk.1.1
      have hrf := fitV hrw (by dsimp only at *; omega)
      refine wp_skip ?_
      refine then_normal ?_
      refine wp_seq ?_
      refine wp_block ?_
      refine wp_seq ?_
      replace h := at_out (σ' := ⟨[(3, aP 2 0), (4, aP 3 0), (5, aP 5 0), (6, aI ((i : Nat) : Int))], [(2, oX 105 [cI x1.1, .ro s22 x1.2]), (3, oX 105 [cI 0, cN]), (5, oX 105 [cI x0.1, .ro s22 (foldTo insR x0.2 x1.2 i)])]⟩) { fz := [4], ts := [3, 4, 5, 6], os := [2, 3, 5] } h (by kernel_rfl)
      refine at_anyq (T := S_spec_SumOf_tab) [{}, {}, {}, {}, {}, {}, { ids := [6] }, {}, {}, {}, { ids := [7] }, {}, {}] { ts := [3, 4, 5, 6, 7], os := [2, 3, 5, 6, 7] } [(0 : Int) ≤ ((i : Nat) : Int) ∧ ((i : Nat) : Int) < ((List.length x1.2 : Nat) : Int), (fun (x0 : T105) (x1 : (List Int)) => Sh.fit s105 x0 ∧ Sh.fit s22 x1) (x0.1, (foldTo insR x0.2 x1.2 i)) (x1.2.getD i [])] gamOK hT mixed h (by kernel_rfl) ⟨(by refine ⟨?_, ?_⟩ <;> (first | omega | (simp only [List.length_append, List.length_cons, List.length_nil, List.length_set, List.length_take, List.length_drop, List.length_replicate, List.length_map, Nat.min_def]; omega) | (simp; done) | (simp; omega) | done)), (by exact ⟨hbf, hrf⟩), trivial⟩ ?_
      intro a w h
      refine then_normal ?_
      refine at_regq (T := S_spec_SumOf_tab) [] { ts := [3, 4, 5, 6], os := [2, 3, 5, 6] } [] gamOK hT h (by kernel_rfl) trivial ?_
      intro a w h
      refine in_normal ?_
      refine then_normal ?_
      refine at_reg (T := S_spec_SumOf_tab) [{}, { nw := true }] { ts := [3, 4, 5, 6], os := [2, 3, 5, 6] } ⟨[(3, aP 2 0), (4, aP 3 0), (5, aP 5 0), (6, aI (((i : Nat) : Int) + 1))], [(2, oX 105 [cI x1.1, .ro s22 x1.2]), (3, oX 105 [cI 0, cN]), (5, oX 105 [cI (insV (x0.1, (foldTo insR x0.2 x1.2 i)) (x1.2.getD i [])).1.1, .sl 6]), (6, oF s22 (insV (x0.1, (foldTo insR x0.2 x1.2 i)) (x1.2.getD i [])).1.2)]⟩ [I64 (((i : Nat) : Int) + 1)] gamOK hT h (by kernel_rfl) ⟨⟨by first | omega | (simp only [List.length_append, List.length_cons, List.length_nil, List.length_set, List.length_take, List.length_drop, List.length_replicate, List.length_map, Nat.min_def]; omega) | (simp; done) | (simp; omega) | done, by first | omega | (simp only [List.length_append, List.length_cons, List.length_nil, List.length_set, List.length_take, List.length_drop, List.length_replicate, List.length_map, Nat.min_def]; omega) | (simp; done) | (simp; omega) | done⟩, trivial⟩ ?_
      intro a w h
      replace h := at_out (σ' := ⟨[(3, aP 2 0), (4, aP 3 0), (5, aP 5 0), (6, aI (((i : Nat) : Int) + 1))], [(2, oX 105 [cI x1.1, .ro s22 x1.2]), (3, oX 105 [cI 0, cN]), (4, oF s22 (insV (x0.1, (foldTo insR x0.2 x1.2 i)) (x1.2.getD i [])).1.2), (5, oX 105 [cI (insV (x0.1, (foldTo insR x0.2 x1.2 i)) (x1.2.getD i [])).1.1, .sl 4])]⟩) { ts := [3, 4, 5, 6], os := [2, 3, 6, 5], rn := [(6, 4)] } h (by kernel_rfl)
      exact ⟨i + 1, at_eq h (st_congr3 (fun (d0 : Int) (d1 : List (List Int)) (d2 : Int) => (⟨[(3, aP 2 0), (4, aP 3 0), (5, aP 5 0), (6, aI d2)], [(2, oX 105 [cI x1.1, .ro s22 x1.2]), (3, oX 105 [cI 0, cN]), (4, oF s22 d1), (5, oX 105 [cI d0, .sl 4])]⟩ : St)) (show ((insV (x0.1, (foldTo insR x0.2 x1.2 i)) (x1.2.getD i [])).1.1 : Int) = x0.1 from by first | with_reducible rfl | (first | rfl | (rw [insV_at htk]; done)) | rfl) (show ((insV (x0.1, (foldTo insR x0.2 x1.2 i)) (x1.2.getD i [])).1.2 : List (List Int)) = (foldTo insR x0.2 x1.2 (i + 1)) from by first | with_reducible rfl | (first | (rw [foldTo_succ [] (by omega)]; rfl) | (rw [foldTo_succ [] (by omega), insV_at htk]; done)) | rfl) (show (((i : Nat) : Int) + 1 : Int) = (((i + 1) : Nat) : Int) from by first | with_reducible rfl | (omega) | rfl)), (by omega), (by omega)⟩
    · replace h2 : ¬ (((i : Nat) : Int) < ((List.length x1.2 : Nat) : Int)) := of_decide_eq_false h2
      refine wp_exit ?_
      refine then_exit ?_
      refine then_exit ?_
      refine in_hit ?_
      refine then_normal ?_
      refine wp_seq ?_
      refine at_regq (T := S_spec_SumOf_tab) [] { ts := [4], os := [3, 4] } [] gamOK hT h (by kernel_rfl) trivial ?_
      intro a w h
      refine then_normal ?_
      refine wp_ret ?_
      exact at_return (S := S_spec_SumOf) (x := (x0, x1, ())) ((x0.1, (foldTo insR x0.2 x1.2 i)), ()) [] h (by kernel_rfl) trivial (congrArg (fun z => (z, ())) (show ((x0.1, (foldTo insR x0.2 x1.2 i))) = sumB x0 x1 from by first | (unfold sumB; rw [if_pos (by assumption), show List.length x1.2 = i by omega]; done) | (unfold sumB; rw [if_neg (by simp_all)]; done)))

def D_laws_FnExactSumOf := (fun (_ : T102) (_ : T102) => true)
def S_laws_FnExactSumOf : Sum := { fid := 11, dom := [s102, s102], cod := [(.bool 4)], dp := true, fz := false, pre := fun x => (fun (x0 : T102) (x1 : T102) => Sh.i64 s102 x0 ∧ Sh.i64 s102 x1) x.1 x.2.1, g := fun x => ((D_laws_FnExactSumOf x.1 x.2.1), ()) }
def S_laws_FnExactSumOf_tab : List (Nat × Sum) := [(58, S_laws_szBasis), (60, S_laws_toBasis), (68, S_spec_SumOf), (69, S_impl_SumOf), (62, S_laws_eqBasis), (66, S_laws_markBasis), (67, S_laws_heldBasis)]
theorem S_laws_FnExactSumOf_ok : FnOK Try.prog 11 S_laws_FnExactSumOf := by
  refine at_enter 92 (fun x => ⟨[(0, aG [cI x.1.1, .ro s22 x.1.2]), (1, aG [cI x.2.1.1, .ro s22 x.2.1.2])], []⟩) Try.func11 rfl (by kernel_rfl) (fun x => rfl) ?_
  rintro w0 Z0 ⟨x0, x1, u⟩ a w
  revert x0 x1
  intro (x0 : T102) (x1 : T102) hpre hlens h
  replace h : At w0 Z0 [] 92 ⟨[(0, aG [cI x0.1, .ro s22 x0.2]), (1, aG [cI x1.1, .ro s22 x1.2])], []⟩ a w := h
  replace hpre : (fun (x0 : T102) (x1 : T102) => Sh.i64 s102 x0 ∧ Sh.i64 s102 x1) x0 x1 := hpre
  have hl1 : List.length x0.2 ≤ 9223372036854775807 := hlens.1.2.1
  have hl2 : List.length x1.2 ≤ 9223372036854775807 := hlens.2.1.2.1
  have hT : TabOK Try.prog S_laws_FnExactSumOf_tab := (.cons S_laws_szBasis_ok (.cons S_laws_toBasis_ok (.cons S_spec_SumOf_ok (.cons S_impl_SumOf_ok (.cons S_laws_eqBasis_ok (.cons S_laws_markBasis_ok (.cons S_laws_heldBasis_ok .nil)))))))
  have hq0 : Sh.sz s105 x0 = Sh.sz s102 x0 := rfl
  have hb0 : Sh.ctT s105 x0 ≤ 2 * Sh.sz s105 x0 := Sh.ctT_le2 s105 x0
  have hz0 : Sh.ct s105 x0 ≤ 2 * (1 + Sh.sz s105 x0) := Sh.ct_le s105 x0
  have ht0 : Sh.sz s102 x0 = (0 + (Sh.sz s80 x0.2)) := rfl
  have hs0_1 : Sh.sz s80 x0.2 = List.length x0.2 + ctL (Sh.sz s22) x0.2 := rfl
  have hq1 : Sh.sz s105 x1 = Sh.sz s102 x1 := rfl
  have hb1 : Sh.ctT s105 x1 ≤ 2 * Sh.sz s105 x1 := Sh.ctT_le2 s105 x1
  have hz1 : Sh.ct s105 x1 ≤ 2 * (1 + Sh.sz s105 x1) := Sh.ct_le s105 x1
  have ht1 : Sh.sz s102 x1 = (0 + (Sh.sz s80 x1.2)) := rfl
  have hs1_1 : Sh.sz s80 x1.2 = List.length x1.2 + ctL (Sh.sz s22) x1.2 := rfl
  have hr1 : Sh.ctT s105 (sumB x0 x1) ≤ 2 * Sh.sz s105 (sumB x0 x1) := Sh.ctT_le2 s105 _
  have hr2 := sumB_sz x0 x1
  refine wp_seq ?_
  refine at_regq (T := S_laws_FnExactSumOf_tab) [{ ids := [1] }, { ids := [2] }] { ts := [2, 3, 4], os := [1, 2] } [] gamOK hT h (by kernel_rfl) trivial ?_
  intro a w h
  refine then_normal ?_
  refine wp_seq ?_
  refine at_regq (T := S_laws_FnExactSumOf_tab) [] { ts := [2, 3, 4, 5], os := [1, 2] } [] gamOK hT h (by kernel_rfl) trivial ?_
  intro a w h
  refine then_normal ?_
  refine wp_seq ?_
  refine at_regq (T := S_laws_FnExactSumOf_tab) [] { ts := [2, 3, 4, 5], os := [1, 2] } [(pSz s102) x0 1048576] gamOK hT h (by kernel_rfl) ⟨(by (show (0 : Int) ≤ _ ∧ _ ≤ (9223372036854775807 : Int); constructor <;> omega)), trivial⟩ ?_
  intro a w h
  refine then_normal ?_
  refine wp_seq ?_
  refine wp_seq ?_
  refine at_reg (T := S_laws_FnExactSumOf_tab) [] { ts := [2, 3, 4, 5, 18], os := [1, 2] } ⟨[(2, aP 1 0), (3, aP 2 0), (4, aB false), (5, aI ((szD s102) x0 1048576)), (18, aB (decide (((szD s102) x0 1048576) < 0)))], [(1, oX 102 [cI x0.1, .ro s22 x0.2]), (2, oX 102 [cI x1.1, .ro s22 x1.2])]⟩ [] gamOK hT h (by kernel_rfl) trivial ?_
  intro a w h
  refine then_normal ?_
  refine at_test (decide (((szD s102) x0 1048576) < 0)) h (by kernel_rfl) (fun h1 => ?_) (fun h1 => ?_)
  · replace h1 : ((szD s102) x0 1048576) < 0 := of_decide_eq_true h1
    have hvh1 := szD_neg h1 (by omega)
    refine wp_seq ?_
    refine at_regq (T := S_laws_FnExactSumOf_tab) [] { ts := [2, 3, 4, 5], os := [1, 2] } [] gamOK hT h (by kernel_rfl) trivial ?_
    intro a w h
    refine then_normal ?_
    refine wp_ret ?_
    refine then_ret ?_
    exact at_return (S := S_laws_FnExactSumOf) (x := (x0, x1, ())) (true, ()) [] h (by kernel_rfl) trivial (congrArg (fun z => (z, ())) (show (true) = D_laws_FnExactSumOf x0 x1 from by unfold D_laws_FnExactSumOf; rfl))
  · replace h1 : ¬ (((szD s102) x0 1048576) < 0) := of_decide_eq_false h1
    have hvh1 := szD_val h1 (by omega)
    refine wp_skip ?_
    refine then_normal ?_
    refine wp_seq ?_
    refine at_regq (T := S_laws_FnExactSumOf_tab) [] { ts := [2, 3, 4, 5], os := [1, 2] } [(pSz s102) x1 ((szD s102) x0 1048576)] gamOK hT h (by kernel_rfl) ⟨(by (show (0 : Int) ≤ _ ∧ _ ≤ (9223372036854775807 : Int); constructor <;> omega)), trivial⟩ ?_
    intro a w h
    refine then_normal ?_
    refine wp_seq ?_
    refine wp_seq ?_
    refine at_regq (T := S_laws_FnExactSumOf_tab) [] { ts := [2, 3, 4, 23], os := [1, 2] } [] gamOK hT h (by kernel_rfl) trivial ?_
    intro a w h
    refine then_normal ?_
    refine at_test (decide (((szD s102) x1 ((szD s102) x0 1048576)) < 0)) h (by kernel_rfl) (fun h2 => ?_) (fun h2 => ?_)
    · replace h2 : ((szD s102) x1 ((szD s102) x0 1048576)) < 0 := of_decide_eq_true h2
      have hvh2 := szD_neg h2 (by omega)
      refine wp_seq ?_
      refine at_regq (T := S_laws_FnExactSumOf_tab) [] { ts := [2, 3, 4], os := [1, 2] } [] gamOK hT h (by kernel_rfl) trivial ?_
      intro a w h
      refine then_normal ?_
      refine wp_ret ?_
      refine then_ret ?_
      exact at_return (S := S_laws_FnExactSumOf) (x := (x0, x1, ())) (true, ()) [] h (by kernel_rfl) trivial (congrArg (fun z => (z, ())) (show (true) = D_laws_FnExactSumOf x0 x1 from by unfold D_laws_FnExactSumOf; rfl))
    · replace h2 : ¬ (((szD s102) x1 ((szD s102) x0 1048576)) < 0) := of_decide_eq_false h2
      have hvh2 := szD_val h2 (by omega)
      refine wp_skip ?_
      refine then_normal ?_
      refine wp_seq ?_
      refine at_anyq (T := S_laws_FnExactSumOf_tab) [{}, { frz := true }, {}, { frz := true }, { ids := [3] }, { ids := [4] }, {}] { ts := [2, 3, 4, 6], os := [1, 2, 3, 4] } [(pTo s102) x0, (pTo s102) x1, (fun (x0 : T105) (x1 : T105) => Sh.fit s105 x0 ∧ Sh.fit s105 x1) x0 x1] gamOK hT mixed h (by kernel_rfl) ⟨(by (show Sh.sz _ _ ≤ 1048576; omega)), (by (show Sh.sz _ _ ≤ 1048576; omega)), (by exact ⟨(Sh.fit_of_sz s105 rfl (x := x0) (by omega)), (Sh.fit_of_sz s105 rfl (x := x1) (by omega))⟩), trivial⟩ ?_
      intro a w h
      refine then_normal ?_
      refine wp_seq ?_
      refine at_reg (T := S_laws_FnExactSumOf_tab) [{}, { ids := [5] }, { ids := [6] }] { ts := [2, 3, 4, 6, 7], os := [1, 2, 3, 4, 5, 6] } ⟨[(2, aP 1 0), (3, aP 2 0), (4, aB false), (6, aP 4 0), (7, aP 6 0)], [(1, oX 102 [cI x0.1, .ro s22 x0.2]), (2, oX 102 [cI x1.1, .ro s22 x1.2]), (3, oF s22 (sumB x0 x1).2), (4, oX 105 [cI (sumB x0 x1).1, .sl 3]), (5, oR s22 x0.2), (6, oX 105 [cI x0.1, .sl 5])]⟩ [(pTo s102) x0] gamOK hT h (by kernel_rfl) ⟨(by (show Sh.sz _ _ ≤ 1048576; omega)), trivial⟩ ?_
      intro a w h
      refine then_normal ?_
      refine wp_seq ?_
      refine at_regq (T := S_laws_FnExactSumOf_tab) [{}, { ids := [7] }, { ids := [8] }] { ts := [2, 3, 4, 6, 7, 8], os := [1, 2, 3, 4, 5, 6, 7, 8] } [(pTo s102) x1] gamOK hT h (by kernel_rfl) ⟨(by (show Sh.sz _ _ ≤ 1048576; omega)), trivial⟩ ?_
      intro a w h
      refine then_normal ?_
      refine wp_seq ?_
      refine at_regq (T := S_laws_FnExactSumOf_tab) [{}, {}, { ids := [9] }, { ids := [10] }] { ts := [2, 3, 4, 6, 7, 8, 9], os := [1, 2, 3, 4, 5, 6, 7, 8, 9, 10] } [(fun (x0 : T105) (x1 : T105) => Sh.fit s105 x0 ∧ Sh.fit s105 x1) x0 x1] gamOK hT h (by kernel_rfl) ⟨(by exact ⟨(Sh.fit_of_sz s105 rfl (x := x0) (by omega)), (Sh.fit_of_sz s105 rfl (x := x1) (by omega))⟩), trivial⟩ ?_
      intro a w h
      refine then_normal ?_
      refine wp_seq ?_
      refine wp_seq ?_
      refine at_regq (T := S_laws_FnExactSumOf_tab) [] { ts := [2, 3, 4, 6, 7, 8, 9, 39], os := [1, 2, 3, 4, 5, 6, 7, 8, 9, 10] } [True] gamOK hT h (by kernel_rfl) ⟨trivial, trivial⟩ ?_
      intro a w h
      refine then_normal ?_
      refine at_test (!((Sh.eqB s105) (sumB x0 x1) (sumB x0 x1))) h (by kernel_rfl) (fun h3 => ?_) (fun h3 => ?_)
      · replace h3 : ((Sh.eqB s105) (sumB x0 x1) (sumB x0 x1)) = false := notT h3
        refine wp_seq ?_
        refine at_reg (T := S_laws_FnExactSumOf_tab) [] { ts := [2, 3, 4, 6, 7, 8, 9], os := [1, 2, 3, 4, 5, 6, 7, 8, 9, 10] } ⟨[(2, aP 1 0), (3, aP 2 0), (4, aB false), (6, aP 4 0), (7, aP 6 0), (8, aP 8 0), (9, aP 10 0)], [(1, oX 102 [cI x0.1, .ro s22 x0.2]), (2, oX 102 [cI x1.1, .ro s22 x1.2]), (3, oF s22 (sumB x0 x1).2), (4, oX 105 [cI (sumB x0 x1).1, .sl 3]), (5, oR s22 x0.2), (6, oX 105 [cI x0.1, .sl 5]), (7, oR s22 x1.2), (8, oX 105 [cI x1.1, .sl 7]), (9, oR s22 (sumB x0 x1).2), (10, oX 105 [cI (sumB x0 x1).1, .sl 9])]⟩ [] gamOK hT h (by kernel_rfl) trivial ?_
        intro a w h
        refine then_normal ?_
        refine wp_ret ?_
        refine then_ret ?_
        exact at_return (S := S_laws_FnExactSumOf) (x := (x0, x1, ())) (false, ()) [] h (by kernel_rfl) trivial (congrArg (fun z => (z, ())) (show (false) = D_laws_FnExactSumOf x0 x1 from by unfold D_laws_FnExactSumOf; exact absurd ((Sh.eqB_iff _).2 (show _ = _ from by first | rfl | (rfl))) (neT h3)))
      · replace h3 : ((Sh.eqB s105) (sumB x0 x1) (sumB x0 x1)) = true := notF h3
        refine wp_skip ?_
        refine then_normal ?_
        refine wp_seq ?_
        refine wp_seq ?_
        refine at_any (T := S_laws_FnExactSumOf_tab) [{}, {}, { ids := [11] }, {}, {}] { ts := [2, 3, 4, 6, 7, 8, 9, 44], os := [1, 2, 3, 4, 5, 6, 7, 8, 9, 10] } ⟨[(2, aP 1 0), (3, aP 2 0), (4, aB false), (6, aP 4 0), (7, aP 6 0), (8, aP 8 0), (9, aP 10 0), (44, aB (!((Sh.eqB s105) x0 x0)))], [(1, oX 102 [cI x0.1, .ro s22 x0.2]), (2, oX 102 [cI x1.1, .ro s22 x1.2]), (3, oF s22 (sumB x0 x1).2), (4, oX 105 [cI (sumB x0 x1).1, .sl 3]), (5, oR s22 x0.2), (6, oX 105 [cI x0.1, .sl 5]), (7, oR s22 x1.2), (8, oX 105 [cI x1.1, .sl 7]), (9, oR s22 (sumB x0 x1).2), (10, oX 105 [cI (sumB x0 x1).1, .sl 9])]⟩ [(pTo s102) x0, True] gamOK hT mixed h (by kernel_rfl) ⟨(by (show Sh.sz _ _ ≤ 1048576; omega)), trivial, trivial⟩ ?_
        intro a w h
        refine then_normal ?_
        refine at_test (!((Sh.eqB s105) x0 x0)) h (by kernel_rfl) (fun h4 => ?_) (fun h4 => ?_)
        · replace h4 : ((Sh.eqB s105) x0 x0) = false := notT h4
          refine wp_seq ?_
          refine at_regq (T := S_laws_FnExactSumOf_tab) [] { ts := [2, 3, 4, 6, 7, 8, 9], os := [1, 2, 3, 4, 5, 6, 7, 8, 9, 10] } [] gamOK hT h (by kernel_rfl) trivial ?_
          intro a w h
          refine then_normal ?_
          refine wp_ret ?_
          refine then_ret ?_
          exact at_return (S := S_laws_FnExactSumOf) (x := (x0, x1, ())) (false, ()) [] h (by kernel_rfl) trivial (congrArg (fun z => (z, ())) (show (false) = D_laws_FnExactSumOf x0 x1 from by unfold D_laws_FnExactSumOf; exact absurd ((Sh.eqB_iff _).2 (show _ = _ from by first | rfl | (rfl))) (neT h4)))
        · replace h4 : ((Sh.eqB s105) x0 x0) = true := notF h4
          refine wp_skip ?_
          refine then_normal ?_
          refine wp_seq ?_
          refine wp_seq ?_
          refine at_anyq (T := S_laws_FnExactSumOf_tab) [{}, {}, { ids := [12] }, {}, {}] { ts := [2, 3, 4, 6, 7, 8, 9, 49], os := [1, 2, 3, 4, 5, 6, 7, 8, 9, 10] } [(pTo s102) x1, True] gamOK hT mixed h (by kernel_rfl) ⟨(by (show Sh.sz _ _ ≤ 1048576; omega)), trivial, trivial⟩ ?_
          intro a w h
          refine then_normal ?_
          refine at_test (!((Sh.eqB s105) x1 x1)) h (by kernel_rfl) (fun h5 => ?_) (fun h5 => ?_)
          · replace h5 : ((Sh.eqB s105) x1 x1) = false := notT h5
            refine wp_seq ?_
            refine at_regq (T := S_laws_FnExactSumOf_tab) [] { ts := [2, 3, 4, 6, 7, 8, 9], os := [1, 2, 3, 4, 5, 6, 7, 8, 9, 10] } [] gamOK hT h (by kernel_rfl) trivial ?_
            intro a w h
            refine then_normal ?_
            refine wp_ret ?_
            refine then_ret ?_
            exact at_return (S := S_laws_FnExactSumOf) (x := (x0, x1, ())) (false, ()) [] h (by kernel_rfl) trivial (congrArg (fun z => (z, ())) (show (false) = D_laws_FnExactSumOf x0 x1 from by unfold D_laws_FnExactSumOf; exact absurd ((Sh.eqB_iff _).2 (show _ = _ from by first | rfl | (rfl))) (neT h5)))
          · replace h5 : ((Sh.eqB s105) x1 x1) = true := notF h5
            refine wp_skip ?_
            refine then_normal ?_
            refine wp_seq ?_
            refine at_regq (T := S_laws_FnExactSumOf_tab) [] { ts := [2, 3, 4, 6, 7, 8, 9, 10], os := [1, 2, 3, 4, 5, 6, 7, 8, 9, 10] } [] gamOK hT h (by kernel_rfl) trivial ?_
            intro a w h
            refine then_normal ?_
            refine wp_seq ?_
            refine at_regq (T := S_laws_FnExactSumOf_tab) [] { ts := [2, 3, 4, 6, 8, 9, 10], os := [1, 2, 3, 4, 7, 8, 9, 10] } [(pMkT s105) x0 1] gamOK hT h (by kernel_rfl) ⟨(by (show (0 : Int) ≤ _ ∧ _ + ((Sh.ctT _ _ : Nat) : Int) ≤ (4611686018427387904 : Int); (try simp only [mkK, mkKT, Sh.ctT_mkT, Sh.ct_mk]); constructor <;> omega)), trivial⟩ ?_
            intro a w h
            refine then_normal ?_
            refine wp_seq ?_
            refine at_reg (T := S_laws_FnExactSumOf_tab) [] { ts := [2, 3, 4, 6, 9, 10], os := [1, 2, 3, 4, 9, 10] } ⟨[(2, aP 1 0), (3, aP 2 0), (4, aB false), (6, aP 4 0), (9, aP 10 0), (10, aI ((mkKT s105) x1 ((mkKT s105) x0 1)))], [(1, oX 102 [cI x0.1, .ro s22 x0.2]), (2, oX 102 [cI x1.1, .ro s22 x1.2]), (3, oF s22 (sumB x0 x1).2), (4, oX 105 [cI (sumB x0 x1).1, .sl 3]), (9, oR s22 (sumB x0 x1).2), (10, oX 105 [cI (sumB x0 x1).1, .sl 9])]⟩ [(pMkT s105) x1 ((mkKT s105) x0 1)] gamOK hT h (by kernel_rfl) ⟨(by (show (0 : Int) ≤ _ ∧ _ + ((Sh.ctT _ _ : Nat) : Int) ≤ (4611686018427387904 : Int); (try simp only [mkK, mkKT, Sh.ctT_mkT, Sh.ct_mk]); constructor <;> omega)), trivial⟩ ?_
            intro a w h
            refine then_normal ?_
            refine wp_seq ?_
            refine wp_seq ?_
            by_cases h6 : ((mkKT s105) x1 ((mkKT s105) x0 1)) < 0
            · skip
              refine at_regq (T := S_laws_FnExactSumOf_tab) [{}, { hint := some (aB true) }] { ts := [2, 3, 4, 6, 9, 63], os := [1, 2, 3, 4, 9, 10] } [(AV.p (.c (.v (.bool (decide (((mkKT s105) x1 ((mkKT s105) x0 1)) < 0))))) = AV.p (.c (.v (.bool true))))] gamOK hT h (by kernel_rfl) ⟨hint_bool (decide_eq_true h6), trivial⟩ ?_
              intro a w h
              refine then_normal ?_
              refine at_test true h (by kernel_rfl) (fun hh => ?_) (fun hh => nomatch hh)
              refine wp_seq ?_
              refine at_regq (T := S_laws_FnExactSumOf_tab) [] { ts := [2, 3, 4, 6, 9], os := [1, 2, 3, 4, 9, 10] } [] gamOK hT h (by kernel_rfl) trivial ?_
              intro a w h
              refine then_normal ?_
              refine wp_ret ?_
              refine then_ret ?_
              exact at_return (S := S_laws_FnExactSumOf) (x := (x0, x1, ())) (false, ()) [] h (by kernel_rfl) trivial (congrArg (fun z => (z, ())) (show (false) = D_laws_FnExactSumOf x0 x1 from by unfold D_laws_FnExactSumOf; (exfalso; simp only [mkK, mkKT, Sh.ctT_mkT, Sh.ct_mk] at h6; first | omega | exact h6 trivial | exact h6 rfl)))
            · skip
              refine at_regq (T := S_laws_FnExactSumOf_tab) [{}, { hint := some (aB false) }] { ts := [2, 3, 4, 6, 9, 63], os := [1, 2, 3, 4, 9, 10] } [(AV.p (.c (.v (.bool (decide (((mkKT s105) x1 ((mkKT s105) x0 1)) < 0))))) = AV.p (.c (.v (.bool false)))), True] gamOK hT h (by kernel_rfl) ⟨hint_bool (decide_eq_false h6), trivial, trivial⟩ ?_
              intro a w h
              refine then_normal ?_
              refine at_test (!((Sh.eqB s105) (sumB x0 x1) (sumB x0 x1))) h (by kernel_rfl) (fun h7 => ?_) (fun h7 => ?_)
              · replace h7 : ((Sh.eqB s105) (sumB x0 x1) (sumB x0 x1)) = false := notT h7
                refine wp_seq ?_
                refine at_regq (T := S_laws_FnExactSumOf_tab) [] { ts := [2, 3, 4, 6, 9], os := [1, 2, 3, 4, 9, 10] } [] gamOK hT h (by kernel_rfl) trivial ?_
                intro a w h
                refine then_normal ?_
                refine wp_ret ?_
                refine then_ret ?_
                exact at_return (S := S_laws_FnExactSumOf) (x := (x0, x1, ())) (false, ()) [] h (by kernel_rfl) trivial (congrArg (fun z => (z, ())) (show (false) = D_laws_FnExactSumOf x0 x1 from by unfold D_laws_FnExactSumOf; exact absurd ((Sh.eqB_iff _).2 (show _ = _ from by first | rfl | (rfl))) (neT h7)))
              · replace h7 : ((Sh.eqB s105) (sumB x0 x1) (sumB x0 x1)) = true := notF h7
                refine wp_skip ?_
                refine then_normal ?_
                refine wp_seq ?_
                refine at_regq (T := S_laws_FnExactSumOf_tab) [] { ts := [2, 3, 4, 6, 9, 11], os := [1, 2, 3, 4, 9, 10] } [] gamOK hT h (by kernel_rfl) trivial ?_
                intro a w h
                refine then_normal ?_
                refine wp_seq ?_
                refine at_regq (T := S_laws_FnExactSumOf_tab) [] { ts := [2, 3, 4, 6, 9, 11], os := [1, 2, 3, 4, 9, 10] } [(pMkT s105) (sumB x0 x1) 1] gamOK hT h (by kernel_rfl) ⟨(by (show (0 : Int) ≤ _ ∧ _ + ((Sh.ctT _ _ : Nat) : Int) ≤ (4611686018427387904 : Int); (try simp only [mkK, mkKT, Sh.ctT_mkT, Sh.ct_mk]); constructor <;> omega)), trivial⟩ ?_
                intro a w h
                refine then_normal ?_
                refine wp_seq ?_
                refine at_reg (T := S_laws_FnExactSumOf_tab) [] { ts := [2, 3, 4, 6, 9, 11, 12], os := [1, 2, 3, 4, 9, 10] } ⟨[(2, aP 1 0), (3, aP 2 0), (4, aB false), (6, aP 4 0), (9, aP 10 0), (11, aI ((mkKT s105) (sumB x0 x1) 1)), (12, aI 1)], [(1, oX 102 [cI x0.1, .ro s22 x0.2]), (2, oX 102 [cI x1.1, .ro s22 x1.2]), (3, oF s22 (sumB x0 x1).2), (4, oX 105 [cI (sumB x0 x1).1, .sl 3]), (9, oR s22 ((Sh.mkT s105) (sumB x0 x1) 1).2), (10, oX 105 [cI (sumB x0 x1).1, .sl 9])]⟩ [] gamOK hT h (by kernel_rfl) trivial ?_
                intro a w h
                refine then_normal ?_
                refine wp_seq ?_
                refine at_regq (T := S_laws_FnExactSumOf_tab) [] { ts := [2, 3, 4, 6, 9, 11, 12], os := [1, 2, 3, 4, 9, 10] } [(pMkT s105) ((Sh.mkT s105) (sumB x0 x1) 1) 1] gamOK hT h (by kernel_rfl) ⟨(by (show (0 : Int) ≤ _ ∧ _ + ((Sh.ctT _ _ : Nat) : Int) ≤ (4611686018427387904 : Int); (try simp only [mkK, mkKT, Sh.ctT_mkT, Sh.ct_mk]); constructor <;> omega)), trivial⟩ ?_
                intro a w h
                refine then_normal ?_
                refine wp_seq ?_
                refine wp_seq ?_
                refine at_regq (T := S_laws_FnExactSumOf_tab) [] { ts := [2, 3, 4, 6, 9, 11, 12, 71], os := [1, 2, 3, 4, 9, 10] } [] gamOK hT h (by kernel_rfl) trivial ?_
                intro a w h
                refine then_normal ?_
                refine at_test (decide (((heldDT s105) ((Sh.mkT s105) (sumB x0 x1) 1) 1) < 0)) h (by kernel_rfl) (fun h8 => ?_) (fun h8 => ?_)
                · replace h8 : ((heldDT s105) ((Sh.mkT s105) (sumB x0 x1) 1) 1) < 0 := of_decide_eq_true h8
                  refine wp_seq ?_
                  refine at_regq (T := S_laws_FnExactSumOf_tab) [] { ts := [2, 3, 4, 6, 9, 11, 12], os := [1, 2, 3, 4, 9, 10] } [] gamOK hT h (by kernel_rfl) trivial ?_
                  intro a w h
                  refine then_normal ?_
                  refine wp_ret ?_
                  refine then_ret ?_
                  exact at_return (S := S_laws_FnExactSumOf) (x := (x0, x1, ())) (false, ()) [] h (by kernel_rfl) trivial (congrArg (fun z => (z, ())) (show (false) = D_laws_FnExactSumOf x0 x1 from by unfold D_laws_FnExactSumOf; (exfalso; simp only [held_marked, held_markedT, mkK, mkKT, Sh.ctT_mkT, Sh.ct_mk] at h8; first | omega | exact h8 trivial | exact h8 rfl)))
                · replace h8 : ¬ (((heldDT s105) ((Sh.mkT s105) (sumB x0 x1) 1) 1) < 0) := of_decide_eq_false h8
                  refine wp_skip ?_
                  refine then_normal ?_
                  refine wp_seq ?_
                  refine wp_seq ?_
                  refine at_regq (T := S_laws_FnExactSumOf_tab) [] { ts := [2, 3, 4, 6, 9, 11, 74], os := [1, 2, 3, 4, 9, 10] } [] gamOK hT h (by kernel_rfl) trivial ?_
                  intro a w h
                  refine then_normal ?_
                  refine at_test (!decide (((heldDT s105) ((Sh.mkT s105) (sumB x0 x1) 1) 1) = ((mkKT s105) (sumB x0 x1) 1))) h (by kernel_rfl) (fun h9 => ?_) (fun h9 => ?_)
                  · replace h9 : ¬ (((heldDT s105) ((Sh.mkT s105) (sumB x0 x1) 1) 1) = ((mkKT s105) (sumB x0 x1) 1)) := of_decide_eq_false (notT h9)
                    refine wp_seq ?_
                    refine at_reg (T := S_laws_FnExactSumOf_tab) [] { ts := [2, 3, 4, 6, 9, 11], os := [1, 2, 3, 4, 9, 10] } ⟨[(2, aP 1 0), (3, aP 2 0), (4, aB false), (6, aP 4 0), (9, aP 10 0), (11, aI ((mkKT s105) (sumB x0 x1) 1))], [(1, oX 102 [cI x0.1, .ro s22 x0.2]), (2, oX 102 [cI x1.1, .ro s22 x1.2]), (3, oF s22 (sumB x0 x1).2), (4, oX 105 [cI (sumB x0 x1).1, .sl 3]), (9, oR s22 ((Sh.mkT s105) (sumB x0 x1) 1).2), (10, oX 105 [cI (sumB x0 x1).1, .sl 9])]⟩ [] gamOK hT h (by kernel_rfl) trivial ?_
                    intro a w h
                    refine then_normal ?_
                    refine wp_ret ?_
                    refine then_ret ?_
                    exact at_return (S := S_laws_FnExactSumOf) (x := (x0, x1, ())) (false, ()) [] h (by kernel_rfl) trivial (congrArg (fun z => (z, ())) (show (false) = D_laws_FnExactSumOf x0 x1 from by unfold D_laws_FnExactSumOf; (exfalso; simp only [held_marked, held_markedT, mkK, mkKT, Sh.ctT_mkT, Sh.ct_mk] at h9; first | omega | exact h9 trivial | exact h9 rfl)))
                  · replace h9 : ((heldDT s105) ((Sh.mkT s105) (sumB x0 x1) 1) 1) = ((mkKT s105) (sumB x0 x1) 1) := of_decide_eq_true (notF h9)
                    refine wp_skip ?_
                    refine then_normal ?_
                    refine wp_seq ?_
                    refine at_any (T := S_laws_FnExactSumOf_tab) [{}, { ids := [13] }, {}, { ids := [14] }, { ids := [15] }, { ids := [16] }, {}] { ts := [4, 6, 9, 11, 13], os := [3, 4, 9, 10, 15, 16] } ⟨[(4, aB false), (6, aP 4 0), (9, aP 10 0), (11, aI ((mkKT s105) (sumB x0 x1) 1)), (13, aP 16 0)], [(3, oF s22 (sumB x0 x1).2), (4, oX 105 [cI (sumB x0 x1).1, .sl 3]), (9, oR s22 ((Sh.mkT s105) (sumB x0 x1) 1).2), (10, oX 105 [cI (sumB x0 x1).1, .sl 9]), (15, oR s22 (sumB x0 x1).2), (16, oX 105 [cI (sumB x0 x1).1, .sl 15])]⟩ [(pTo s102) x0, (pTo s102) x1, (fun (x0 : T105) (x1 : T105) => Sh.fit s105 x0 ∧ Sh.fit s105 x1) x0 x1] gamOK hT mixed h (by kernel_rfl) ⟨(by (show Sh.sz _ _ ≤ 1048576; omega)), (by (show Sh.sz _ _ ≤ 1048576; omega)), (by exact ⟨(Sh.fit_of_sz s105 rfl (x := x0) (by omega)), (Sh.fit_of_sz s105 rfl (x := x1) (by omega))⟩), trivial⟩ ?_
                    intro a w h
                    refine then_normal ?_
                    refine wp_seq ?_
                    refine wp_seq ?_
                    refine at_regq (T := S_laws_FnExactSumOf_tab) [] { ts := [4, 9, 11, 83], os := [9, 10] } [True] gamOK hT h (by kernel_rfl) ⟨trivial, trivial⟩ ?_
                    intro a w h
                    refine then_normal ?_
                    refine at_test (!((Sh.eqB s105) (sumB x0 x1) (sumB x0 x1))) h (by kernel_rfl) (fun h10 => ?_) (fun h10 => ?_)
                    · replace h10 : ((Sh.eqB s105) (sumB x0 x1) (sumB x0 x1)) = false := notT h10
                      refine wp_seq ?_
                      refine at_regq (T := S_laws_FnExactSumOf_tab) [] { ts := [4, 9, 11], os := [9, 10] } [] gamOK hT h (by kernel_rfl) trivial ?_
                      intro a w h
                      refine then_normal ?_
                      refine wp_ret ?_
                      refine then_ret ?_
                      exact at_return (S := S_laws_FnExactSumOf) (x := (x0, x1, ())) (false, ()) [] h (by kernel_rfl) trivial (congrArg (fun z => (z, ())) (show (false) = D_laws_FnExactSumOf x0 x1 from by unfold D_laws_FnExactSumOf; exact absurd ((Sh.eqB_iff _).2 (show _ = _ from by first | rfl | (rfl))) (neT h10)))
                    · replace h10 : ((Sh.eqB s105) (sumB x0 x1) (sumB x0 x1)) = true := notF h10
                      refine wp_skip ?_
                      refine then_normal ?_
                      refine wp_seq ?_
                      refine at_regq (T := S_laws_FnExactSumOf_tab) [] { ts := [4, 9, 11, 12], os := [9, 10] } [] gamOK hT h (by kernel_rfl) trivial ?_
                      intro a w h
                      refine then_normal ?_
                      refine wp_seq ?_
                      refine at_regq (T := S_laws_FnExactSumOf_tab) [] { ts := [4, 11, 12], os := [] } [(pMkT s105) ((Sh.mkT s105) (sumB x0 x1) 1) 1] gamOK hT h (by kernel_rfl) ⟨(by (show (0 : Int) ≤ _ ∧ _ + ((Sh.ctT _ _ : Nat) : Int) ≤ (4611686018427387904 : Int); (try simp only [mkK, mkKT, Sh.ctT_mkT, Sh.ct_mk]); constructor <;> omega)), trivial⟩ ?_
                      intro a w h
                      refine then_normal ?_
                      refine wp_seq ?_
                      refine wp_seq ?_
                      refine at_reg (T := S_laws_FnExactSumOf_tab) [] { ts := [4, 11, 12, 88], os := [] } ⟨[(4, aB false), (11, aI ((mkKT s105) (sumB x0 x1) 1)), (12, aI ((heldDT s105) ((Sh.mkT s105) (sumB x0 x1) 1) 1)), (88, aB (decide (((heldDT s105) ((Sh.mkT s105) (sumB x0 x1) 1) 1) < 0)))], []⟩ [] gamOK hT h (by kernel_rfl) trivial ?_
                      intro a w h
                      refine then_normal ?_
                      refine at_test (decide (((heldDT s105) ((Sh.mkT s105) (sumB x0 x1) 1) 1) < 0)) h (by kernel_rfl) (fun h11 => ?_) (fun h11 => ?_)
                      · replace h11 : ((heldDT s105) ((Sh.mkT s105) (sumB x0 x1) 1) 1) < 0 := of_decide_eq_true h11
                        refine wp_seq ?_
                        refine at_regq (T := S_laws_FnExactSumOf_tab) [] { ts := [4, 11, 12], os := [] } [] gamOK hT h (by kernel_rfl) trivial ?_
                        intro a w h
                        refine then_normal ?_
                        refine wp_ret ?_
                        refine then_ret ?_
                        exact at_return (S := S_laws_FnExactSumOf) (x := (x0, x1, ())) (false, ()) [] h (by kernel_rfl) trivial (congrArg (fun z => (z, ())) (show (false) = D_laws_FnExactSumOf x0 x1 from by unfold D_laws_FnExactSumOf; (exfalso; simp only [held_marked, held_markedT, mkK, mkKT, Sh.ctT_mkT, Sh.ct_mk] at h11; first | omega | exact h11 trivial | exact h11 rfl)))
                      · replace h11 : ¬ (((heldDT s105) ((Sh.mkT s105) (sumB x0 x1) 1) 1) < 0) := of_decide_eq_false h11
                        refine wp_skip ?_
                        refine then_normal ?_
                        refine wp_seq ?_
                        refine wp_seq ?_
                        refine at_regq (T := S_laws_FnExactSumOf_tab) [] { ts := [4, 91], os := [] } [] gamOK hT h (by kernel_rfl) trivial ?_
                        intro a w h
                        refine then_normal ?_
                        refine at_test (!decide (((heldDT s105) ((Sh.mkT s105) (sumB x0 x1) 1) 1) = ((mkKT s105) (sumB x0 x1) 1))) h (by kernel_rfl) (fun h12 => ?_) (fun h12 => ?_)
                        · replace h12 : ¬ (((heldDT s105) ((Sh.mkT s105) (sumB x0 x1) 1) 1) = ((mkKT s105) (sumB x0 x1) 1)) := of_decide_eq_false (notT h12)
                          refine wp_seq ?_
                          refine at_regq (T := S_laws_FnExactSumOf_tab) [] { ts := [4], os := [] } [] gamOK hT h (by kernel_rfl) trivial ?_
                          intro a w h
                          refine then_normal ?_
                          refine wp_ret ?_
                          refine then_ret ?_
                          exact at_return (S := S_laws_FnExactSumOf) (x := (x0, x1, ())) (false, ()) [] h (by kernel_rfl) trivial (congrArg (fun z => (z, ())) (show (false) = D_laws_FnExactSumOf x0 x1 from by unfold D_laws_FnExactSumOf; (exfalso; simp only [held_marked, held_markedT, mkK, mkKT, Sh.ctT_mkT, Sh.ct_mk] at h12; first | omega | exact h12 trivial | exact h12 rfl)))
                        · replace h12 : ((heldDT s105) ((Sh.mkT s105) (sumB x0 x1) 1) 1) = ((mkKT s105) (sumB x0 x1) 1) := of_decide_eq_true (notF h12)
                          refine wp_skip ?_
                          refine then_normal ?_
                          refine wp_seq ?_
                          refine at_regq (T := S_laws_FnExactSumOf_tab) [] { ts := [4], os := [] } [] gamOK hT h (by kernel_rfl) trivial ?_
                          intro a w h
                          refine then_normal ?_
                          refine wp_ret ?_
                          exact at_return (S := S_laws_FnExactSumOf) (x := (x0, x1, ())) (true, ()) [] h (by kernel_rfl) trivial (congrArg (fun z => (z, ())) (show (true) = D_laws_FnExactSumOf x0 x1 from by unfold D_laws_FnExactSumOf; rfl))

theorem opn3 : OpensS Try.prog 3 (.int 3) := opensS_int Try.underlying3
theorem co3 : Try.prog.cellsOf 3 = 1 := by kernel_rfl
theorem opn22 : OpensS Try.prog 22 s22 := opensS_slice (a := (.int 3)) Try.underlying22 co3 opn3
theorem co22 : Try.prog.cellsOf 22 = 1 := by kernel_rfl
theorem opn80 : OpensS Try.prog 80 s80 := opensS_slice (a := s22) Try.underlying80 co22 opn22
theorem co80 : Try.prog.cellsOf 80 = 1 := by kernel_rfl
theorem co102 : Try.prog.cellsOf 102 = 2 := by kernel_rfl
theorem opn102 : OpensS Try.prog 102 s102 := by
  intro H enc w base spare held fuel cs x h
  obtain ⟨xs, n, _, _, hl, hlen, hf⟩ := DataW.trod_struct Try.underlying102 h
  obtain ⟨a0, k0, i0⟩ := opensS_field (a := (.int 3)) (i := 0) 0 1 hf hlen rfl rfl rfl co3 opn3
  obtain ⟨a1, k1, i1⟩ := opensS_field (a := s80) (i := 1) 1 1 hf hlen rfl rfl rfl co80 opn80
  rw [co102] at hl
  exact ⟨(a0, a1), (rdS_pair (off := 0) k0 (rdS_last (off := 1) k1 (by omega))), ⟨i0, i1⟩⟩
namespace fnExactSumOf
open Go.ChangeShapes Go.WideShapes Go.ChangeAt Go.RowKit
theorem own : ownKnob Try.prog.godebug = none := by kernel_rfl
theorem laidOut : laidOutB Try.prog = true := fxLaid
set_option maxRecDepth 100000 in
theorem lifted (os : Os) (started : os.Started) (H : Type) (enc : TypeId × Value → H) :
    ReturnsInHanded {} Try.checked os 11 .any (Rows.fnExactSumOfSpec.pre6 enc Try.prog Try.f11 Rows.fnExactSumOfRow.domain false) (Rows.fnExactSumOfSpec.post enc Try.prog Try.f11 false true false false) := by
  refine returnsInHanded_of_change (C := Try.checked) own started (by kernel_rfl) Try.func11
    (ChangeSpec.witness6 (enc := enc) (C := Try.checked) false ⟨#[], #[.agg #[.int .i64 0, .slice none 0 0], .agg #[.int .i64 0, .slice none 0 0]], []⟩ 8 (by kernel_rfl) (by kernel_rfl) (by kernel_rfl) (by kernel_rfl)) ?_
  intro W base args ds gs before hval0 hW hcnd _
  have hval : ∀ (j : Nat) t v, Try.f11.params[j]? = some t → args[j]? = some v → Value.okWide Try.prog W .any base t v := hval0
  have hW' := hW
  obtain ⟨p, q, hA0, hV, rfl, hfz, hnd⟩ := hW
  have hA : DataW.TrodAll enc Try.prog W 0 (fun _ => true) true Try.f11.params.toList args.toList ds p := hA0
  rw [Try.params11] at hA hval
  obtain ⟨v0, vs0, d0, ds0, p0, q0, hargs, rfl, rfl, h0, r0⟩ := trodAll_cons hA
  obtain ⟨v1, vs1, d1, ds1, p1, q1, rfl, rfl, rfl, h1, r1⟩ := trodAll_cons r0
  obtain ⟨rfl, rfl, rfl⟩ := trodAll_nil r1
  obtain rfl : args = #[v0, v1] := by cases args; simp_all
  obtain ⟨rfl, rfl⟩ := trodVars_none hV
  have k0 := h0
  have lt0 : ∀ x ∈ p0, x.block < W.heap.size := by obtain ⟨m, hm⟩ := k0; exact DataW.trod_lt m _ _ _ hm
  obtain ⟨cs0, rfl, _⟩ := okWide_struct Try.underlying102 (hval 0 102 v0 rfl rfl)
  obtain ⟨cs0⟩ := cs0
  obtain ⟨x0, hx0, i0⟩ : ∃ x : (s102).D, (s102).rd W (fun b => b < W.heap.size) cs0 x ∧ (s102).i64 x := by obtain ⟨fuel, hf⟩ := h0; exact opn102 hf
  have k1 := h1
  have lt1 : ∀ x ∈ p1, x.block < W.heap.size := by obtain ⟨m, hm⟩ := k1; exact DataW.trod_lt m _ _ _ hm
  obtain ⟨cs1, rfl, _⟩ := okWide_struct Try.underlying102 (hval 1 102 v1 rfl rfl)
  obtain ⟨cs1⟩ := cs1
  obtain ⟨x1, hx1, i1⟩ : ∃ x : (s102).D, (s102).rd W (fun b => b < W.heap.size) cs1 x ∧ (s102).i64 x := by obtain ⟨fuel, hf⟩ := h1; exact opn102 hf
  clear hA0 hval0
  refine (calls_law S_laws_FnExactSumOf_ok (by kernel_rfl) W (fun b => b < W.heap.size) [.agg cs0.toArray, .agg cs1.toArray] (x0, x1, ()) (fun _ h => h) ⟨argRd_st hx0, argRd_st hx1, trivial⟩ ⟨i0, i1⟩).mono fun e W' hr => ?_
  obtain ⟨he, bel⟩ := ret_bool hr
  subst he
  exact ⟨_, rfl, _, _, _, [], _, [], hW', trodAll_mk1 (shut_bool Try.underlying4 _), (trodAll_cons_mk (Below.trod laidOut (by kernel_rfl) (of_decide_eq_true (by kernel_rfl)) k0 bel lt0) (trodAll_cons_mk (Below.trod laidOut (by kernel_rfl) (of_decide_eq_true (by kernel_rfl)) k1 bel lt1) trodAll_mk0)), rfl, bel.frame _, fun h => by cases h⟩
theorem closed : joinedFacts Try.prog 11 Try.f11 (Rows.fnExactSumOfSpec) Rows.fnExactSumOfRow = true := by
  unfold joinedFacts
  exact (and2 (and2 (and2 (and2 (and2 (and2 (and2 (and2 (and2 (and2 (and2 (and2 (and2 (and2 (and2 (and2 (and2 (and2 (and2 (and2 (and2 (and2 (and2 (and2 (and2 (and2 (and2 (and2 (and2 (and2 (and2 (by kernel_rfl) fxLaid) fxMaps) (by kernel_rfl)) (by kernel_rfl)) (by kernel_rfl)) (by kernel_rfl)) (by kernel_rfl)) (by kernel_rfl)) (by kernel_rfl)) (by kernel_rfl)) (by kernel_rfl)) (by kernel_rfl)) (by kernel_rfl)) (by kernel_rfl)) (by kernel_rfl)) (by kernel_rfl)) (by kernel_rfl)) (by kernel_rfl)) (by kernel_rfl)) (by kernel_rfl)) (by kernel_rfl)) (by kernel_rfl)) (by kernel_rfl)) (by kernel_rfl)) fxEnter) (by rw [fxLifts]; kernel_rfl)) (by rw [fxMake]; kernel_rfl)) (by kernel_rfl)) (by kernel_rfl)) (by kernel_rfl)) (by kernel_rfl))
theorem over : Rows.fnExactSumOfRow.holds Try.pinned (OpenSpec.ofChange Rows.fnExactSumOfSpec) :=
  OpenClaim.holds_of_wide 11 Try.f11 rfl rfl rfl rfl rfl rfl rfl ⟨rfl, rfl, rfl, rfl, rfl⟩ rfl rfl rfl rfl rfl (by kernel_rfl) Try.func11 closed
    (of_decide_eq_true (by kernel_rfl)) (by unfold Func.isWrapper; first | (rw [if_pos (by decide +kernel)]; kernel_rfl) | (rw [if_neg (by decide +kernel)]; exact ⟨rfl, rfl⟩))
    (fun os started H enc _ => lifted os started H enc)
/-- the statement -/
theorem proved : Rows.FnExactSumOfSaid := over
end fnExactSumOf

end Go.Proofs.Ytkialoggpcdhkaa

/- The walks of the functions that the law reaches: each summary holds. No condition. -/
import Derived.Test.YtdmkjcnppgfeoaaIsValidSource2
import Derived.Test.YtdmkjcnppgfeoaaLA
import Derived.Test.YtdmkjcnppgfeoaaProg
namespace Go.Proofs.Ytdmkjcnppgfeoaa
open Go.RowKit
set_option linter.unusedVariables false
set_option linter.unusedSimpArgs false
abbrev Q__P_impl_Basis_insert := (fun (x0 : T101) (x1 : (List Int)) => Sh.fit s101 x0 ∧ Sh.fit s22 x1 ∧ redP x0 x1)
def S__P_impl_Basis_insert : Sum := { fid := 219, dom := [s101, s22], cod := [(.bool 4)], dp := true, fz := false, pre := fun x => Q__P_impl_Basis_insert x.1 x.2.1, g := fun x => ((insD x.1 x.2.1), ()), kinds := [(.bx 101 0), .rd], upd := fun x => (insU x.1 x.2.1, (x.2.1, ())) }
def S__P_impl_Basis_insert_tab : List (Nat × Sum) := [(231, S__impl_Basis_reduce), (229, S_impl_LeadingIndex), (285, S_impl_InverseField), (284, S_impl_ScaleVector), (286, S_impl_addScaled), (287, S_slices_Insert_S_S_int_S_int_)]
theorem S__P_impl_Basis_insert_ok : FnOK Try.prog 219 S__P_impl_Basis_insert := by
 refine at_enterI 66 [1, 2] [3] (fun us x => ⟨[(0, aP 1 0), (1, aF (.int 3) x.2.1)], [(1, oX 101 [cI x.1.1, .sl 2]), (2, oR s22 x.1.2), (3, oP 1 (S__P_impl_Basis_insert.hd us 0))]⟩) Try.func219 rfl (by kernel_rfl) (fun us x => rfl) ?_
 rintro w0 Z0 us ⟨x0, x1, u⟩ L a w
 revert x0 x1
 intro (x0 : T101) (x1 : (List Int)) hio hpre hlens h
 replace h : At w0 Z0 L 66 ⟨[(0, aP 1 0), (1, aF (.int 3) x1)], [(1, oX 101 [cI x0.1, .sl 2]), (2, oR s22 x0.2), (3, oP 1 (S__P_impl_Basis_insert.hd us 0))]⟩ a w := h
 replace hpre : Q__P_impl_Basis_insert x0 x1 := hpre
 have hl1 : List.length x0.2 ≤ 9223372036854775807 := hlens.1.2.1
 have hl2 : List.length x1 ≤ 9223372036854775807 := hlens.2.1.1
 have hT : TabOK Try.prog S__P_impl_Basis_insert_tab := (.cons S__impl_Basis_reduce_ok (.cons S_impl_LeadingIndex_ok (.cons S_impl_InverseField_ok (.cons S_impl_ScaleVector_ok (.cons S_impl_addScaled_ok (.cons S_slices_Insert_S_S_int_S_int__ok .nil))))))
 obtain ⟨hf0, hf1, hpx⟩ := hpre
 have hn0_1 : List.length x0.2 ≤ 1073741824 := hf0.2.1
 have hn1_2 : List.length x1 ≤ 1073741824 := hf1.1
 have hb0 := hpx.1.1
 have hbR := hpx.1.2
 have hbv := hpx.2
 have hrd := LA.redS_rng hbR hbv
 have hrdl := hrd.1
 have hrn := hbR.len
 refine wp_seq ?_
 refine at_regq [] { ts := [0, 1, 4], os := [1, 2, 3] } [] gamOK hT h (by kernel_rfl) trivial fun a w h => then_normal (wp_seq ?_)
 refine at_regq [{}, {}, {}, {}, { ids := [4] }] { ts := [0, 4, 5], os := [1, 2, 3, 4] } [Q__impl_Basis_reduce x0 x1] gamOK hT h (by kernel_rfl) ⟨(by exact ⟨hf0, hf1, hpx⟩), trivial⟩ fun a w h => then_normal (wp_seq ?_)
 refine at_regq [] { ts := [0, 4, 5, 6], os := [1, 2, 3, 4] } [Q_impl_LeadingIndex (LA.redS x0.2 x1)] gamOK hT h (by kernel_rfl) ⟨(by first | exact fitV hrd (by omega) | exact fitV hrk (by omega) | exact Sh.fit_len rfl (by rw [LA.addS_len (by omega)]; omega)), trivial⟩ fun a w h => then_normal (wp_seq (wp_seq ?_))
 refine at_regq [] { ts := [0, 4, 5, 6, 19], os := [1, 2, 3, 4] } [] gamOK hT h (by kernel_rfl) trivial fun a w h => then_normal ?_
 refine at_test (decide ((LA.leadS (LA.redS x0.2 x1)) < 0)) h (by kernel_rfl) (fun h1 => ?_) (fun h1 => ?_)
 ·replace h1 : (LA.leadS (LA.redS x0.2 x1)) < 0 := of_decide_eq_true h1
  refine wp_seq ?_
  refine at_regq [] { ts := [0, 4, 5, 6], os := [1, 2, 3, 4] } [] gamOK hT h (by kernel_rfl) trivial fun a w h => then_normal (wp_ret (then_ret ?_))
  exact at_returnI (S := S__P_impl_Basis_insert) (x := (x0, x1, ())) [1, 2] [3] (x0, (x1, ())) (some (false, ())) [S__P_impl_Basis_insert.hd us 0 = S__P_impl_Basis_insert.hd us 0] hio h (by kernel_rfl) ⟨rfl, trivial⟩ (by first | rfl | exact congrArg (fun (z : T101) => (z, (x1, ()))) (show (x0 : T101) = insU x0 x1 from by (unfold insU; first | (rw [LA.insS_no (by assumption)]; done) | (rw [LA.insS_yes (by assumption)]; rfl)))) (fun z e => (Option.some.inj e) ▸ (congrArg (fun z => (z, ())) (show (false) = insD x0 x1 from by (unfold insD; first | (rw [LA.insS_no (by assumption)]; done) | (rw [LA.insS_yes (by assumption)]; done)))))
 ·replace h1 : ¬ ((LA.leadS (LA.redS x0.2 x1)) < 0) := of_decide_eq_false h1
  have hlp := LA.leadS_bd (LA.redS x0.2 x1)
  have hwk := LA.insW_ok hbR hbv (by omega)
  have hwl := hwk.1
  have hpz := (LA.leadS_pos (v := LA.redS x0.2 x1) (by omega)).1
  refine wp_skip (then_normal (wp_seq ?_))
  refine at_regq [{}, {}, {}, {}, {}, {}, { ids := [5] }] { ts := [0, 4, 5, 6], os := [1, 2, 3, 5] } [(0 : Int) ≤ (LA.leadS (LA.redS x0.2 x1)) ∧ (LA.leadS (LA.redS x0.2 x1)) < ((List.length (LA.redS x0.2 x1) : Nat) : Int), ((LA.leadS (LA.redS x0.2 x1))).toNat < List.length (LA.redS x0.2 x1), True, Q_impl_ScaleVector (LA.redS x0.2 x1) (invF ((LA.redS x0.2 x1).getD (((LA.leadS (LA.redS x0.2 x1))).toNat) 0))] gamOK hT h (by kernel_rfl) ⟨(by refine ⟨?_, ?_⟩ <;> (first | omega | (simp only [lsA]; omega) | (simp <;> omega))), (by first | omega | (simp only [lsA]; omega) | (simp <;> omega)), trivial, (by exact fitV hrd (by omega)), trivial⟩ fun a w h => then_normal (wp_seq ?_)
  refine at_regq [] { ts := [0, 4, 5, 6, 7], os := [1, 2, 3, 5] } [] gamOK hT h (by kernel_rfl) trivial fun a w h => then_normal (wp_seq (wp_seq ?_))
  refine at_regq [] { ts := [0, 4, 5, 6, 7, 30, 31, 32], os := [1, 2, 3, 5] } [] gamOK hT h (by kernel_rfl) trivial fun a w h => then_normal (wp_block ?_)
  replace h := at_out (σ' := ⟨[(0, aP 1 0), (4, aB false), (5, aS 5), (6, aI (LA.leadS (LA.redS x0.2 x1))), (7, aI 0), (30, aS 2), (31, aI ((List.length x0.2 : Nat) : Int)), (32, aI 0)], [(1, oX 101 [cI x0.1, .sl 2]), (2, oR s22 x0.2), (3, oP 1 (S__P_impl_Basis_insert.hd us 0)), (5, oR (.int 3) (scaleV (LA.redS x0.2 x1) (invF ((LA.redS x0.2 x1).getD (((LA.leadS (LA.redS x0.2 x1))).toNat) 0))))]⟩) { ts := [0, 4, 5, 6, 7, 30, 31, 32], os := [1, 2, 3, 5] } h (by kernel_rfl)
  refine at_loop (fun i : Nat => (⟨[(0, aP 1 0), (4, aB false), (5, aS 5), (6, aI (LA.leadS (LA.redS x0.2 x1))), (7, aI ((LA.atTo (LA.insE x0.2 x1) (LA.leadS (LA.redS x0.2 x1)) i : Nat) : Int)), (30, aS 2), (31, aI ((List.length x0.2 : Nat) : Int)), (32, aI ((i : Nat) : Int))], [(1, oX 101 [cI x0.1, .sl 2]), (2, oR s22 (LA.elTo x0.2 (LA.insW x0.2 x1) (LA.leadS (LA.redS x0.2 x1)).toNat i)), (3, oP 1 (S__P_impl_Basis_insert.hd us 0)), (5, oR (.int 3) (LA.insW x0.2 x1))]⟩ : St)) (fun i => i ≤ List.length x0.2) (fun i => List.length x0.2 - i) (0) h (st_congr4 (fun (d0 : List (List Int)) (d1 : List Int) (d2 : Int) (d3 : Int) => (⟨[(0, aP 1 0), (4, aB false), (5, aS 5), (6, aI (LA.leadS (LA.redS x0.2 x1))), (7, aI d2), (30, aS 2), (31, aI ((List.length x0.2 : Nat) : Int)), (32, aI d3)], [(1, oX 101 [cI x0.1, .sl 2]), (2, oR s22 d0), (3, oP 1 (S__P_impl_Basis_insert.hd us 0)), (5, oR (.int 3) d1)]⟩ : St)) (show (x0.2 : List (List Int)) = (LA.elTo x0.2 (LA.insW x0.2 x1) (LA.leadS (LA.redS x0.2 x1)).toNat (0)) from by first | with_reducible rfl | (first | rfl | exact ins_w hrd (by omega) (by omega)) | rfl) (show ((scaleV (LA.redS x0.2 x1) (invF ((LA.redS x0.2 x1).getD (((LA.leadS (LA.redS x0.2 x1))).toNat) 0))) : List Int) = (LA.insW x0.2 x1) from by first | with_reducible rfl | (first | rfl | exact ins_w hrd (by omega) (by omega)) | rfl) (show (0 : Int) = ((LA.atTo (LA.insE x0.2 x1) (LA.leadS (LA.redS x0.2 x1)) (0) : Nat) : Int) from by first | with_reducible rfl | (first | rfl | exact ins_w hrd (by omega) (by omega)) | rfl) (show (0 : Int) = (((0) : Nat) : Int) from by first | with_reducible rfl | (first | rfl | exact ins_w hrd (by omega) (by omega)) | rfl)) (by omega) ?_
  intro i a w hok0 h
  have hel := LA.elTo_len (rows := x0.2) (w := (LA.insW x0.2 x1)) (l := (LA.leadS (LA.redS x0.2 x1)).toNat) (i := i)
  refine wp_seq ?_
  refine at_regq [] { ts := [0, 4, 5, 6, 7, 30, 31, 32, 33], os := [1, 2, 3, 5] } [] gamOK hT h (by kernel_rfl) trivial fun a w h => then_normal (wp_seq ?_)
  refine at_test (decide (((i : Nat) : Int) < ((List.length x0.2 : Nat) : Int))) h (by kernel_rfl) (fun h2 => ?_) (fun h2 => ?_)
  ·replace h2 : ((i : Nat) : Int) < ((List.length x0.2 : Nat) : Int) := of_decide_eq_true h2
   have hrr := hbR.at_ (show i < List.length x0.2 by omega)
   have hge := LA.elTo_get (w := (LA.insW x0.2 x1)) (l := (LA.leadS (LA.redS x0.2 x1)).toNat) (show i < List.length x0.2 by omega)
   have hrk : LA.VokB x0.1.toNat ((LA.elTo x0.2 (LA.insW x0.2 x1) (LA.leadS (LA.redS x0.2 x1)).toNat i).getD i []) := by rw [hge]; exact hrr.1
   have hrkl := hrk.1
   have hrkr := hrk.rng (LA.leadS (LA.redS x0.2 x1)).toNat
   refine wp_skip (then_normal (wp_seq (wp_block (wp_seq ?_))))
   replace h := at_open (σ' := ⟨[(0, aP 1 0), (4, aB false), (5, aS 5), (6, aI (LA.leadS (LA.redS x0.2 x1))), (7, aI ((LA.atTo (LA.insE x0.2 x1) (LA.leadS (LA.redS x0.2 x1)) i : Nat) : Int)), (30, aS 2), (31, aI ((List.length x0.2 : Nat) : Int)), (32, aI ((i : Nat) : Int)), (33, aB (decide (((i : Nat) : Int) < ((List.length x0.2 : Nat) : Int))))], [(1, oX 101 [cI x0.1, .sl 2]), (2, some (.op s22 (LA.elTo x0.2 (LA.insW x0.2 x1) (LA.leadS (LA.redS x0.2 x1)).toNat i) i [.sl 6])), (3, oP 1 (S__P_impl_Basis_insert.hd us 0)), (5, oR (.int 3) (LA.insW x0.2 x1)), (6, oR (.int 3) ((LA.elTo x0.2 (LA.insW x0.2 x1) (LA.leadS (LA.redS x0.2 x1)).toNat i).getD i []))]⟩) (ps := [i < List.length (LA.elTo x0.2 (LA.insW x0.2 x1) (LA.leadS (LA.redS x0.2 x1)).toNat i)]) 2 i [6] { ts := [0, 4, 5, 6, 7, 30, 31, 32, 33], os := [1, 2, 3, 5, 6] } h (by kernel_rfl) ⟨(by first | omega | (simp only [lsA]; omega) | (simp <;> omega)), trivial⟩
   refine at_reg [] { ts := [0, 4, 5, 6, 7, 8, 9, 30, 31, 32], os := [1, 2, 3, 5, 6] } ⟨[(0, aP 1 0), (4, aB false), (5, aS 5), (6, aI (LA.leadS (LA.redS x0.2 x1))), (7, aI ((LA.atTo (LA.insE x0.2 x1) (LA.leadS (LA.redS x0.2 x1)) i : Nat) : Int)), (8, aI ((i : Nat) : Int)), (9, aS 6), (30, aS 2), (31, aI ((List.length x0.2 : Nat) : Int)), (32, aI ((i : Nat) : Int))], [(1, oX 101 [cI x0.1, .sl 2]), (2, some (.op s22 (LA.elTo x0.2 (LA.insW x0.2 x1) (LA.leadS (LA.redS x0.2 x1)).toNat i) i [.sl 6])), (3, oP 1 (S__P_impl_Basis_insert.hd us 0)), (5, oR (.int 3) (LA.insW x0.2 x1)), (6, oR (.int 3) ((LA.elTo x0.2 (LA.insW x0.2 x1) (LA.leadS (LA.redS x0.2 x1)).toNat i).getD i []))]⟩ [(0 : Int) ≤ ((i : Nat) : Int) ∧ ((i : Nat) : Int) < ((List.length (LA.elTo x0.2 (LA.insW x0.2 x1) (LA.leadS (LA.redS x0.2 x1)).toNat i) : Nat) : Int), i = i] gamOK hT h (by kernel_rfl) ⟨(by refine ⟨?_, ?_⟩ <;> (first | omega | (simp only [lsA]; omega) | (simp <;> omega))), rfl, trivial⟩ fun a w h => then_normal (wp_seq (wp_seq ?_))
   refine at_regq [] { ts := [0, 4, 5, 6, 7, 8, 9, 10, 30, 31, 32], os := [1, 2, 3, 5, 6] } [(0 : Int) ≤ (LA.leadS (LA.redS x0.2 x1)) ∧ (LA.leadS (LA.redS x0.2 x1)) < ((List.length ((LA.elTo x0.2 (LA.insW x0.2 x1) (LA.leadS (LA.redS x0.2 x1)).toNat i).getD i []) : Nat) : Int), ((LA.leadS (LA.redS x0.2 x1))).toNat < List.length ((LA.elTo x0.2 (LA.insW x0.2 x1) (LA.leadS (LA.redS x0.2 x1)).toNat i).getD i [])] gamOK hT h (by kernel_rfl) ⟨(by refine ⟨?_, ?_⟩ <;> (first | omega | (simp only [lsA]; omega) | (simp <;> omega))), (by first | omega | (simp only [lsA]; omega) | (simp <;> omega)), trivial⟩ fun a w h => then_normal (wp_seq ?_)
   refine at_regq [] { ts := [0, 4, 5, 6, 7, 8, 9, 10, 30, 31, 32, 42], os := [1, 2, 3, 5, 6] } [] gamOK hT h (by kernel_rfl) trivial fun a w h => then_normal ?_
   refine at_test (!decide ((((LA.elTo x0.2 (LA.insW x0.2 x1) (LA.leadS (LA.redS x0.2 x1)).toNat i).getD i []).getD (((LA.leadS (LA.redS x0.2 x1))).toNat) 0) = 0)) h (by kernel_rfl) (fun h3 => ?_) (fun h3 => ?_)
   ·replace h3 : ¬ ((((LA.elTo x0.2 (LA.insW x0.2 x1) (LA.leadS (LA.redS x0.2 x1)).toNat i).getD i []).getD (((LA.leadS (LA.redS x0.2 x1))).toNat) 0) = 0) := of_decide_eq_false (notT h3)
    refine at_regq [{}, {}, {}, { nw := true }] { ts := [0, 4, 5, 6, 7, 8, 9, 30, 31, 32], os := [1, 2, 3, 5, 6] } [I64 (1019 - (((LA.elTo x0.2 (LA.insW x0.2 x1) (LA.leadS (LA.redS x0.2 x1)).toNat i).getD i []).getD (((LA.leadS (LA.redS x0.2 x1))).toNat) 0)), Q_impl_addScaled ((LA.elTo x0.2 (LA.insW x0.2 x1) (LA.leadS (LA.redS x0.2 x1)).toNat i).getD i []) (LA.insW x0.2 x1) (1019 - (((LA.elTo x0.2 (LA.insW x0.2 x1) (LA.leadS (LA.redS x0.2 x1)).toNat i).getD i []).getD (((LA.leadS (LA.redS x0.2 x1))).toNat) 0))] gamOK hT h (by kernel_rfl) ⟨⟨by first | omega | (simp only [lsA]; omega) | (simp <;> omega), by first | omega | (simp only [lsA]; omega) | (simp <;> omega)⟩, (by exact ⟨fitV hrk (by omega), fitV hwk (by omega), addOK_of hrk hwk (by omega)⟩), trivial⟩ fun a w h => then_normal (wp_seq ?_)
    refine at_regq [] { ts := [0, 4, 5, 6, 7, 8, 30, 31, 32, 51], os := [1, 2, 3, 5, 6] } [Q_impl_LeadingIndex (LA.addS ((LA.elTo x0.2 (LA.insW x0.2 x1) (LA.leadS (LA.redS x0.2 x1)).toNat i).getD i []) (LA.insW x0.2 x1) (1019 - (((LA.elTo x0.2 (LA.insW x0.2 x1) (LA.leadS (LA.redS x0.2 x1)).toNat i).getD i []).getD (((LA.leadS (LA.redS x0.2 x1))).toNat) 0)))] gamOK hT h (by kernel_rfl) ⟨(by first | exact fitV hrd (by omega) | exact fitV hrk (by omega) | exact Sh.fit_len rfl (by rw [LA.addS_len (by omega)]; omega)), trivial⟩ fun a w h => then_normal ?_
    refine at_test (decide ((LA.leadS (LA.addS ((LA.elTo x0.2 (LA.insW x0.2 x1) (LA.leadS (LA.redS x0.2 x1)).toNat i).getD i []) (LA.insW x0.2 x1) (1019 - (((LA.elTo x0.2 (LA.insW x0.2 x1) (LA.leadS (LA.redS x0.2 x1)).toNat i).getD i []).getD (((LA.leadS (LA.redS x0.2 x1))).toNat) 0)))) < (LA.leadS (LA.redS x0.2 x1)))) h (by kernel_rfl) (fun h4 => ?_) (fun h4 => ?_)
    ·replace h4 : (LA.leadS (LA.addS ((LA.elTo x0.2 (LA.insW x0.2 x1) (LA.leadS (LA.redS x0.2 x1)).toNat i).getD i []) (LA.insW x0.2 x1) (1019 - (((LA.elTo x0.2 (LA.insW x0.2 x1) (LA.leadS (LA.redS x0.2 x1)).toNat i).getD i []).getD (((LA.leadS (LA.redS x0.2 x1))).toNat) 0)))) < (LA.leadS (LA.redS x0.2 x1)) := of_decide_eq_true h4
     refine at_regq [{}, { nw := true }] { ts := [0, 4, 5, 6, 7, 30, 31, 32], os := [1, 2, 3, 5, 6] } [I64 (((i : Nat) : Int) + 1)] gamOK hT h (by kernel_rfl) ⟨⟨by first | omega | (simp only [lsA]; omega) | (simp <;> omega), by first | omega | (simp only [lsA]; omega) | (simp <;> omega)⟩, trivial⟩ fun a w h => in_normal (then_normal ?_)
     refine at_regq [{ nw := true }] { ts := [0, 4, 5, 6, 7, 30, 31, 32], os := [1, 2, 3, 5, 6] } [I64 (((i : Nat) : Int) + 1)] gamOK hT h (by kernel_rfl) ⟨⟨by first | omega | (simp only [lsA]; omega) | (simp <;> omega), by first | omega | (simp only [lsA]; omega) | (simp <;> omega)⟩, trivial⟩ fun a w h => ?_
     replace h := at_shut (σ' := ⟨[(0, aP 1 0), (4, aB false), (5, aS 5), (6, aI (LA.leadS (LA.redS x0.2 x1))), (7, aI (((i : Nat) : Int) + 1)), (30, aS 2), (31, aI ((List.length x0.2 : Nat) : Int)), (32, aI (((i : Nat) : Int) + 1))], [(1, oX 101 [cI x0.1, .sl 2]), (2, oR s22 (List.set (LA.elTo x0.2 (LA.insW x0.2 x1) (LA.leadS (LA.redS x0.2 x1)).toNat i) i (LA.addS ((LA.elTo x0.2 (LA.insW x0.2 x1) (LA.leadS (LA.redS x0.2 x1)).toNat i).getD i []) (LA.insW x0.2 x1) (1019 - (((LA.elTo x0.2 (LA.insW x0.2 x1) (LA.leadS (LA.redS x0.2 x1)).toNat i).getD i []).getD (((LA.leadS (LA.redS x0.2 x1))).toNat) 0))))), (3, oP 1 (S__P_impl_Basis_insert.hd us 0)), (5, oR (.int 3) (LA.insW x0.2 x1))]⟩) (ps := []) 2 { ts := [0, 4, 5, 6, 7, 30, 31, 32], os := [1, 2, 3, 5] } h (by kernel_rfl) trivial
     replace h := at_out (σ' := ⟨[(0, aP 1 0), (4, aB false), (5, aS 5), (6, aI (LA.leadS (LA.redS x0.2 x1))), (7, aI (((i : Nat) : Int) + 1)), (30, aS 2), (31, aI ((List.length x0.2 : Nat) : Int)), (32, aI (((i : Nat) : Int) + 1))], [(1, oX 101 [cI x0.1, .sl 2]), (2, oR s22 (List.set (LA.elTo x0.2 (LA.insW x0.2 x1) (LA.leadS (LA.redS x0.2 x1)).toNat i) i (LA.addS ((LA.elTo x0.2 (LA.insW x0.2 x1) (LA.leadS (LA.redS x0.2 x1)).toNat i).getD i []) (LA.insW x0.2 x1) (1019 - (((LA.elTo x0.2 (LA.insW x0.2 x1) (LA.leadS (LA.redS x0.2 x1)).toNat i).getD i []).getD (((LA.leadS (LA.redS x0.2 x1))).toNat) 0))))), (3, oP 1 (S__P_impl_Basis_insert.hd us 0)), (5, oR (.int 3) (LA.insW x0.2 x1))]⟩) { ts := [0, 4, 5, 6, 7, 30, 31, 32], os := [1, 2, 3, 5] } h (by kernel_rfl)
     exact ⟨i + 1, at_eq h (st_congr4 (fun (d0 : List (List Int)) (d1 : List Int) (d2 : Int) (d3 : Int) => (⟨[(0, aP 1 0), (4, aB false), (5, aS 5), (6, aI (LA.leadS (LA.redS x0.2 x1))), (7, aI d2), (30, aS 2), (31, aI ((List.length x0.2 : Nat) : Int)), (32, aI d3)], [(1, oX 101 [cI x0.1, .sl 2]), (2, oR s22 d0), (3, oP 1 (S__P_impl_Basis_insert.hd us 0)), (5, oR (.int 3) d1)]⟩ : St)) (show ((List.set (LA.elTo x0.2 (LA.insW x0.2 x1) (LA.leadS (LA.redS x0.2 x1)).toNat i) i (LA.addS ((LA.elTo x0.2 (LA.insW x0.2 x1) (LA.leadS (LA.redS x0.2 x1)).toNat i).getD i []) (LA.insW x0.2 x1) (1019 - (((LA.elTo x0.2 (LA.insW x0.2 x1) (LA.leadS (LA.redS x0.2 x1)).toNat i).getD i []).getD (((LA.leadS (LA.redS x0.2 x1))).toNat) 0)))) : List (List Int)) = (LA.elTo x0.2 (LA.insW x0.2 x1) (LA.leadS (LA.redS x0.2 x1)).toNat (i + 1)) from by first | with_reducible rfl | (first | exact LA.ins_b1 (by omega) (by assumption) | exact LA.ins_b0 (by omega) (by omega)) | rfl) (show ((LA.insW x0.2 x1) : List Int) = (LA.insW x0.2 x1) from by first | with_reducible rfl | (rfl) | rfl) (show (((i : Nat) : Int) + 1 : Int) = ((LA.atTo (LA.insE x0.2 x1) (LA.leadS (LA.redS x0.2 x1)) (i + 1) : Nat) : Int) from by first | with_reducible rfl | (first | (rw [LA.atTo_y (LA.at_b1 (by omega) (by assumption)) (by assumption)]; omega) | (rw [LA.atTo_y (LA.at_b0 (by omega) (by omega)) (by assumption)]; omega) | (rw [LA.atTo_n (LA.at_b1 (by omega) (by assumption)) (by assumption)]; done) | (rw [LA.atTo_n (LA.at_b0 (by omega) (by omega)) (by assumption)]; done)) | rfl) (show (((i : Nat) : Int) + 1 : Int) = (((i + 1) : Nat) : Int) from by first | with_reducible rfl | (omega) | rfl)), (by omega), (by omega)⟩
    ·replace h4 : ¬ ((LA.leadS (LA.addS ((LA.elTo x0.2 (LA.insW x0.2 x1) (LA.leadS (LA.redS x0.2 x1)).toNat i).getD i []) (LA.insW x0.2 x1) (1019 - (((LA.elTo x0.2 (LA.insW x0.2 x1) (LA.leadS (LA.redS x0.2 x1)).toNat i).getD i []).getD (((LA.leadS (LA.redS x0.2 x1))).toNat) 0)))) < (LA.leadS (LA.redS x0.2 x1))) := of_decide_eq_false h4
     refine wp_skip (in_normal (then_normal ?_))
     refine at_regq [{ nw := true }] { ts := [0, 4, 5, 6, 7, 30, 31, 32], os := [1, 2, 3, 5, 6] } [I64 (((i : Nat) : Int) + 1)] gamOK hT h (by kernel_rfl) ⟨⟨by first | omega | (simp only [lsA]; omega) | (simp <;> omega), by first | omega | (simp only [lsA]; omega) | (simp <;> omega)⟩, trivial⟩ fun a w h => ?_
     replace h := at_shut (σ' := ⟨[(0, aP 1 0), (4, aB false), (5, aS 5), (6, aI (LA.leadS (LA.redS x0.2 x1))), (7, aI ((LA.atTo (LA.insE x0.2 x1) (LA.leadS (LA.redS x0.2 x1)) i : Nat) : Int)), (30, aS 2), (31, aI ((List.length x0.2 : Nat) : Int)), (32, aI (((i : Nat) : Int) + 1))], [(1, oX 101 [cI x0.1, .sl 2]), (2, oR s22 (List.set (LA.elTo x0.2 (LA.insW x0.2 x1) (LA.leadS (LA.redS x0.2 x1)).toNat i) i (LA.addS ((LA.elTo x0.2 (LA.insW x0.2 x1) (LA.leadS (LA.redS x0.2 x1)).toNat i).getD i []) (LA.insW x0.2 x1) (1019 - (((LA.elTo x0.2 (LA.insW x0.2 x1) (LA.leadS (LA.redS x0.2 x1)).toNat i).getD i []).getD (((LA.leadS (LA.redS x0.2 x1))).toNat) 0))))), (3, oP 1 (S__P_impl_Basis_insert.hd us 0)), (5, oR (.int 3) (LA.insW x0.2 x1))]⟩) (ps := []) 2 { ts := [0, 4, 5, 6, 7, 30, 31, 32], os := [1, 2, 3, 5] } h (by kernel_rfl) trivial
     replace h := at_out (σ' := ⟨[(0, aP 1 0), (4, aB false), (5, aS 5), (6, aI (LA.leadS (LA.redS x0.2 x1))), (7, aI ((LA.atTo (LA.insE x0.2 x1) (LA.leadS (LA.redS x0.2 x1)) i : Nat) : Int)), (30, aS 2), (31, aI ((List.length x0.2 : Nat) : Int)), (32, aI (((i : Nat) : Int) + 1))], [(1, oX 101 [cI x0.1, .sl 2]), (2, oR s22 (List.set (LA.elTo x0.2 (LA.insW x0.2 x1) (LA.leadS (LA.redS x0.2 x1)).toNat i) i (LA.addS ((LA.elTo x0.2 (LA.insW x0.2 x1) (LA.leadS (LA.redS x0.2 x1)).toNat i).getD i []) (LA.insW x0.2 x1) (1019 - (((LA.elTo x0.2 (LA.insW x0.2 x1) (LA.leadS (LA.redS x0.2 x1)).toNat i).getD i []).getD (((LA.leadS (LA.redS x0.2 x1))).toNat) 0))))), (3, oP 1 (S__P_impl_Basis_insert.hd us 0)), (5, oR (.int 3) (LA.insW x0.2 x1))]⟩) { ts := [0, 4, 5, 6, 7, 30, 31, 32], os := [1, 2, 3, 5] } h (by kernel_rfl)
     exact ⟨i + 1, at_eq h (st_congr4 (fun (d0 : List (List Int)) (d1 : List Int) (d2 : Int) (d3 : Int) => (⟨[(0, aP 1 0), (4, aB false), (5, aS 5), (6, aI (LA.leadS (LA.redS x0.2 x1))), (7, aI d2), (30, aS 2), (31, aI ((List.length x0.2 : Nat) : Int)), (32, aI d3)], [(1, oX 101 [cI x0.1, .sl 2]), (2, oR s22 d0), (3, oP 1 (S__P_impl_Basis_insert.hd us 0)), (5, oR (.int 3) d1)]⟩ : St)) (show ((List.set (LA.elTo x0.2 (LA.insW x0.2 x1) (LA.leadS (LA.redS x0.2 x1)).toNat i) i (LA.addS ((LA.elTo x0.2 (LA.insW x0.2 x1) (LA.leadS (LA.redS x0.2 x1)).toNat i).getD i []) (LA.insW x0.2 x1) (1019 - (((LA.elTo x0.2 (LA.insW x0.2 x1) (LA.leadS (LA.redS x0.2 x1)).toNat i).getD i []).getD (((LA.leadS (LA.redS x0.2 x1))).toNat) 0)))) : List (List Int)) = (LA.elTo x0.2 (LA.insW x0.2 x1) (LA.leadS (LA.redS x0.2 x1)).toNat (i + 1)) from by first | with_reducible rfl | (first | exact LA.ins_b1 (by omega) (by assumption) | exact LA.ins_b0 (by omega) (by omega)) | rfl) (show ((LA.insW x0.2 x1) : List Int) = (LA.insW x0.2 x1) from by first | with_reducible rfl | (rfl) | rfl) (show (((LA.atTo (LA.insE x0.2 x1) (LA.leadS (LA.redS x0.2 x1)) i : Nat) : Int) : Int) = ((LA.atTo (LA.insE x0.2 x1) (LA.leadS (LA.redS x0.2 x1)) (i + 1) : Nat) : Int) from by first | with_reducible rfl | (first | (rw [LA.atTo_y (LA.at_b1 (by omega) (by assumption)) (by assumption)]; omega) | (rw [LA.atTo_y (LA.at_b0 (by omega) (by omega)) (by assumption)]; omega) | (rw [LA.atTo_n (LA.at_b1 (by omega) (by assumption)) (by assumption)]; done) | (rw [LA.atTo_n (LA.at_b0 (by omega) (by omega)) (by assumption)]; done)) | rfl) (show (((i : Nat) : Int) + 1 : Int) = (((i + 1) : Nat) : Int) from by first | with_reducible rfl | (omega) | rfl)), (by omega), (by omega)⟩
   ·replace h3 : (((LA.elTo x0.2 (LA.insW x0.2 x1) (LA.leadS (LA.redS x0.2 x1)).toNat i).getD i []).getD (((LA.leadS (LA.redS x0.2 x1))).toNat) 0) = 0 := of_decide_eq_true (notF h3)
    refine wp_skip (then_normal (wp_seq ?_))
    refine at_regq [] { ts := [0, 4, 5, 6, 7, 8, 30, 31, 32, 51], os := [1, 2, 3, 5, 6] } [Q_impl_LeadingIndex ((LA.elTo x0.2 (LA.insW x0.2 x1) (LA.leadS (LA.redS x0.2 x1)).toNat i).getD i [])] gamOK hT h (by kernel_rfl) ⟨(by first | exact fitV hrd (by omega) | exact fitV hrk (by omega) | exact Sh.fit_len rfl (by rw [LA.addS_len (by omega)]; omega)), trivial⟩ fun a w h => then_normal ?_
    refine at_test (decide ((LA.leadS ((LA.elTo x0.2 (LA.insW x0.2 x1) (LA.leadS (LA.redS x0.2 x1)).toNat i).getD i [])) < (LA.leadS (LA.redS x0.2 x1)))) h (by kernel_rfl) (fun h5 => ?_) (fun h5 => ?_)
    ·replace h5 : (LA.leadS ((LA.elTo x0.2 (LA.insW x0.2 x1) (LA.leadS (LA.redS x0.2 x1)).toNat i).getD i [])) < (LA.leadS (LA.redS x0.2 x1)) := of_decide_eq_true h5
     refine at_regq [{}, { nw := true }] { ts := [0, 4, 5, 6, 7, 30, 31, 32], os := [1, 2, 3, 5, 6] } [I64 (((i : Nat) : Int) + 1)] gamOK hT h (by kernel_rfl) ⟨⟨by first | omega | (simp only [lsA]; omega) | (simp <;> omega), by first | omega | (simp only [lsA]; omega) | (simp <;> omega)⟩, trivial⟩ fun a w h => in_normal (then_normal ?_)
     refine at_regq [{ nw := true }] { ts := [0, 4, 5, 6, 7, 30, 31, 32], os := [1, 2, 3, 5, 6] } [I64 (((i : Nat) : Int) + 1)] gamOK hT h (by kernel_rfl) ⟨⟨by first | omega | (simp only [lsA]; omega) | (simp <;> omega), by first | omega | (simp only [lsA]; omega) | (simp <;> omega)⟩, trivial⟩ fun a w h => ?_
     replace h := at_shut (σ' := ⟨[(0, aP 1 0), (4, aB false), (5, aS 5), (6, aI (LA.leadS (LA.redS x0.2 x1))), (7, aI (((i : Nat) : Int) + 1)), (30, aS 2), (31, aI ((List.length x0.2 : Nat) : Int)), (32, aI (((i : Nat) : Int) + 1))], [(1, oX 101 [cI x0.1, .sl 2]), (2, oR s22 (List.set (LA.elTo x0.2 (LA.insW x0.2 x1) (LA.leadS (LA.redS x0.2 x1)).toNat i) i ((LA.elTo x0.2 (LA.insW x0.2 x1) (LA.leadS (LA.redS x0.2 x1)).toNat i).getD i []))), (3, oP 1 (S__P_impl_Basis_insert.hd us 0)), (5, oR (.int 3) (LA.insW x0.2 x1))]⟩) (ps := []) 2 { ts := [0, 4, 5, 6, 7, 30, 31, 32], os := [1, 2, 3, 5] } h (by kernel_rfl) trivial
     replace h := at_out (σ' := ⟨[(0, aP 1 0), (4, aB false), (5, aS 5), (6, aI (LA.leadS (LA.redS x0.2 x1))), (7, aI (((i : Nat) : Int) + 1)), (30, aS 2), (31, aI ((List.length x0.2 : Nat) : Int)), (32, aI (((i : Nat) : Int) + 1))], [(1, oX 101 [cI x0.1, .sl 2]), (2, oR s22 (List.set (LA.elTo x0.2 (LA.insW x0.2 x1) (LA.leadS (LA.redS x0.2 x1)).toNat i) i ((LA.elTo x0.2 (LA.insW x0.2 x1) (LA.leadS (LA.redS x0.2 x1)).toNat i).getD i []))), (3, oP 1 (S__P_impl_Basis_insert.hd us 0)), (5, oR (.int 3) (LA.insW x0.2 x1))]⟩) { ts := [0, 4, 5, 6, 7, 30, 31, 32], os := [1, 2, 3, 5] } h (by kernel_rfl)
     exact ⟨i + 1, at_eq h (st_congr4 (fun (d0 : List (List Int)) (d1 : List Int) (d2 : Int) (d3 : Int) => (⟨[(0, aP 1 0), (4, aB false), (5, aS 5), (6, aI (LA.leadS (LA.redS x0.2 x1))), (7, aI d2), (30, aS 2), (31, aI ((List.length x0.2 : Nat) : Int)), (32, aI d3)], [(1, oX 101 [cI x0.1, .sl 2]), (2, oR s22 d0), (3, oP 1 (S__P_impl_Basis_insert.hd us 0)), (5, oR (.int 3) d1)]⟩ : St)) (show ((List.set (LA.elTo x0.2 (LA.insW x0.2 x1) (LA.leadS (LA.redS x0.2 x1)).toNat i) i ((LA.elTo x0.2 (LA.insW x0.2 x1) (LA.leadS (LA.redS x0.2 x1)).toNat i).getD i [])) : List (List Int)) = (LA.elTo x0.2 (LA.insW x0.2 x1) (LA.leadS (LA.redS x0.2 x1)).toNat (i + 1)) from by first | with_reducible rfl | (first | exact LA.ins_b1 (by omega) (by assumption) | exact LA.ins_b0 (by omega) (by omega)) | rfl) (show ((LA.insW x0.2 x1) : List Int) = (LA.insW x0.2 x1) from by first | with_reducible rfl | (rfl) | rfl) (show (((i : Nat) : Int) + 1 : Int) = ((LA.atTo (LA.insE x0.2 x1) (LA.leadS (LA.redS x0.2 x1)) (i + 1) : Nat) : Int) from by first | with_reducible rfl | (first | (rw [LA.atTo_y (LA.at_b1 (by omega) (by assumption)) (by assumption)]; omega) | (rw [LA.atTo_y (LA.at_b0 (by omega) (by omega)) (by assumption)]; omega) | (rw [LA.atTo_n (LA.at_b1 (by omega) (by assumption)) (by assumption)]; done) | (rw [LA.atTo_n (LA.at_b0 (by omega) (by omega)) (by assumption)]; done)) | rfl) (show (((i : Nat) : Int) + 1 : Int) = (((i + 1) : Nat) : Int) from by first | with_reducible rfl | (omega) | rfl)), (by omega), (by omega)⟩
    ·replace h5 : ¬ ((LA.leadS ((LA.elTo x0.2 (LA.insW x0.2 x1) (LA.leadS (LA.redS x0.2 x1)).toNat i).getD i [])) < (LA.leadS (LA.redS x0.2 x1))) := of_decide_eq_false h5
     refine wp_skip (in_normal (then_normal ?_))
     refine at_regq [{ nw := true }] { ts := [0, 4, 5, 6, 7, 30, 31, 32], os := [1, 2, 3, 5, 6] } [I64 (((i : Nat) : Int) + 1)] gamOK hT h (by kernel_rfl) ⟨⟨by first | omega | (simp only [lsA]; omega) | (simp <;> omega), by first | omega | (simp only [lsA]; omega) | (simp <;> omega)⟩, trivial⟩ fun a w h => ?_
     replace h := at_shut (σ' := ⟨[(0, aP 1 0), (4, aB false), (5, aS 5), (6, aI (LA.leadS (LA.redS x0.2 x1))), (7, aI ((LA.atTo (LA.insE x0.2 x1) (LA.leadS (LA.redS x0.2 x1)) i : Nat) : Int)), (30, aS 2), (31, aI ((List.length x0.2 : Nat) : Int)), (32, aI (((i : Nat) : Int) + 1))], [(1, oX 101 [cI x0.1, .sl 2]), (2, oR s22 (List.set (LA.elTo x0.2 (LA.insW x0.2 x1) (LA.leadS (LA.redS x0.2 x1)).toNat i) i ((LA.elTo x0.2 (LA.insW x0.2 x1) (LA.leadS (LA.redS x0.2 x1)).toNat i).getD i []))), (3, oP 1 (S__P_impl_Basis_insert.hd us 0)), (5, oR (.int 3) (LA.insW x0.2 x1))]⟩) (ps := []) 2 { ts := [0, 4, 5, 6, 7, 30, 31, 32], os := [1, 2, 3, 5] } h (by kernel_rfl) trivial
     replace h := at_out (σ' := ⟨[(0, aP 1 0), (4, aB false), (5, aS 5), (6, aI (LA.leadS (LA.redS x0.2 x1))), (7, aI ((LA.atTo (LA.insE x0.2 x1) (LA.leadS (LA.redS x0.2 x1)) i : Nat) : Int)), (30, aS 2), (31, aI ((List.length x0.2 : Nat) : Int)), (32, aI (((i : Nat) : Int) + 1))], [(1, oX 101 [cI x0.1, .sl 2]), (2, oR s22 (List.set (LA.elTo x0.2 (LA.insW x0.2 x1) (LA.leadS (LA.redS x0.2 x1)).toNat i) i ((LA.elTo x0.2 (LA.insW x0.2 x1) (LA.leadS (LA.redS x0.2 x1)).toNat i).getD i []))), (3, oP 1 (S__P_impl_Basis_insert.hd us 0)), (5, oR (.int 3) (LA.insW x0.2 x1))]⟩) { ts := [0, 4, 5, 6, 7, 30, 31, 32], os := [1, 2, 3, 5] } h (by kernel_rfl)
     exact ⟨i + 1, at_eq h (st_congr4 (fun (d0 : List (List Int)) (d1 : List Int) (d2 : Int) (d3 : Int) => (⟨[(0, aP 1 0), (4, aB false), (5, aS 5), (6, aI (LA.leadS (LA.redS x0.2 x1))), (7, aI d2), (30, aS 2), (31, aI ((List.length x0.2 : Nat) : Int)), (32, aI d3)], [(1, oX 101 [cI x0.1, .sl 2]), (2, oR s22 d0), (3, oP 1 (S__P_impl_Basis_insert.hd us 0)), (5, oR (.int 3) d1)]⟩ : St)) (show ((List.set (LA.elTo x0.2 (LA.insW x0.2 x1) (LA.leadS (LA.redS x0.2 x1)).toNat i) i ((LA.elTo x0.2 (LA.insW x0.2 x1) (LA.leadS (LA.redS x0.2 x1)).toNat i).getD i [])) : List (List Int)) = (LA.elTo x0.2 (LA.insW x0.2 x1) (LA.leadS (LA.redS x0.2 x1)).toNat (i + 1)) from by first | with_reducible rfl | (first | exact LA.ins_b1 (by omega) (by assumption) | exact LA.ins_b0 (by omega) (by omega)) | rfl) (show ((LA.insW x0.2 x1) : List Int) = (LA.insW x0.2 x1) from by first | with_reducible rfl | (rfl) | rfl) (show (((LA.atTo (LA.insE x0.2 x1) (LA.leadS (LA.redS x0.2 x1)) i : Nat) : Int) : Int) = ((LA.atTo (LA.insE x0.2 x1) (LA.leadS (LA.redS x0.2 x1)) (i + 1) : Nat) : Int) from by first | with_reducible rfl | (first | (rw [LA.atTo_y (LA.at_b1 (by omega) (by assumption)) (by assumption)]; omega) | (rw [LA.atTo_y (LA.at_b0 (by omega) (by omega)) (by assumption)]; omega) | (rw [LA.atTo_n (LA.at_b1 (by omega) (by assumption)) (by assumption)]; done) | (rw [LA.atTo_n (LA.at_b0 (by omega) (by omega)) (by assumption)]; done)) | rfl) (show (((i : Nat) : Int) + 1 : Int) = (((i + 1) : Nat) : Int) from by first | with_reducible rfl | (omega) | rfl)), (by omega), (by omega)⟩
  ·replace h2 : ¬ (((i : Nat) : Int) < ((List.length x0.2 : Nat) : Int)) := of_decide_eq_false h2
   refine wp_exit (then_exit ?_)
   replace h := at_out (σ' := ⟨[(0, aP 1 0), (4, aB false), (5, aS 5), (7, aI ((LA.atTo (LA.insE x0.2 x1) (LA.leadS (LA.redS x0.2 x1)) i : Nat) : Int))], [(1, oX 101 [cI x0.1, .sl 2]), (2, oR s22 (LA.elTo x0.2 (LA.insW x0.2 x1) (LA.leadS (LA.redS x0.2 x1)).toNat i)), (3, oP 1 (S__P_impl_Basis_insert.hd us 0)), (5, oR (.int 3) (LA.insW x0.2 x1))]⟩) { ts := [0, 4, 5, 7], os := [1, 2, 3, 5] } h (by kernel_rfl)
   replace h := at_eq (σ' := ⟨[(0, aP 1 0), (4, aB false), (5, aS 5), (7, aI ((LA.atTo (LA.insE x0.2 x1) (LA.leadS (LA.redS x0.2 x1)) (List.length x0.2) : Nat) : Int))], [(1, oX 101 [cI x0.1, .sl 2]), (2, oR s22 (LA.insE x0.2 x1)), (3, oP 1 (S__P_impl_Basis_insert.hd us 0)), (5, oR (.int 3) (LA.insW x0.2 x1))]⟩) h (st_congr2 (fun (d0 : List (List Int)) (d1 : Int) => (⟨[(0, aP 1 0), (4, aB false), (5, aS 5), (7, aI d1)], [(1, oX 101 [cI x0.1, .sl 2]), (2, oR s22 d0), (3, oP 1 (S__P_impl_Basis_insert.hd us 0)), (5, oR (.int 3) (LA.insW x0.2 x1))]⟩ : St)) (show ((LA.elTo x0.2 (LA.insW x0.2 x1) (LA.leadS (LA.redS x0.2 x1)).toNat i) : List (List Int)) = (LA.insE x0.2 x1) from by first | with_reducible rfl | (exact LA.elTo_all (by omega)) | rfl) (show (((LA.atTo (LA.insE x0.2 x1) (LA.leadS (LA.redS x0.2 x1)) i : Nat) : Int) : Int) = ((LA.atTo (LA.insE x0.2 x1) (LA.leadS (LA.redS x0.2 x1)) (List.length x0.2) : Nat) : Int) from by first | with_reducible rfl | (rw [show i = List.length x0.2 by omega]) | rfl))
   have hal := LA.atTo_le (LA.insE x0.2 x1) (LA.leadS (LA.redS x0.2 x1)) (List.length x0.2)
   refine then_exit (in_hit (then_normal (wp_seq ?_)))
   refine at_reg [{}, {}, {}, {}, {}, {}, {}, { ids := [7] }, { ids := [8] }] { ts := [4], os := [1, 3, 8] } ⟨[(4, aB false)], [(1, oX 101 [cI x0.1, .sl 8]), (3, oP 1 (S__P_impl_Basis_insert.hd us 0)), (8, oR s22 (D_slices_Insert_S_S_int_S_int_ (LA.insE x0.2 x1) ((LA.atTo (LA.insE x0.2 x1) (LA.leadS (LA.redS x0.2 x1)) (List.length x0.2) : Nat) : Int) ([(LA.insW x0.2 x1)])))]⟩ [(fun (x0 : List (List Int)) (x1 : Int) (x2 : List (List Int)) => (0 ≤ x1 ∧ x1 ≤ ((List.length x0 : Nat) : Int)) ∧ 0 < List.length x2 ∧ (List.length x0 + List.length x2) * 24 ≤ 140737488355328) (LA.insE x0.2 x1) ((LA.atTo (LA.insE x0.2 x1) (LA.leadS (LA.redS x0.2 x1)) (List.length x0.2) : Nat) : Int) ([(LA.insW x0.2 x1)])] gamOK hT h (by kernel_rfl) ⟨(by exact ⟨⟨by omega, by first | omega | (rw [show List.length (LA.insE x0.2 x1) = List.length x0.2 from by simp [LA.insE]]; omega)⟩, by simp, by simp [LA.insE]; omega⟩), trivial⟩ fun a w h => then_normal (wp_seq ?_)
   refine at_regq [] { ts := [4], os := [1, 3, 8] } [] gamOK hT h (by kernel_rfl) trivial fun a w h => then_normal (wp_ret ?_)
   exact at_returnI (S := S__P_impl_Basis_insert) (x := (x0, x1, ())) [1, 2] [3] ((x0.1, (D_slices_Insert_S_S_int_S_int_ (LA.insE x0.2 x1) ((LA.atTo (LA.insE x0.2 x1) (LA.leadS (LA.redS x0.2 x1)) (List.length x0.2) : Nat) : Int) ([(LA.insW x0.2 x1)]))), (x1, ())) (some (true, ())) [S__P_impl_Basis_insert.hd us 0 = S__P_impl_Basis_insert.hd us 0] hio h (by kernel_rfl) ⟨rfl, trivial⟩ (by first | rfl | exact congrArg (fun (z : T101) => (z, (x1, ()))) (show ((x0.1, (D_slices_Insert_S_S_int_S_int_ (LA.insE x0.2 x1) ((LA.atTo (LA.insE x0.2 x1) (LA.leadS (LA.redS x0.2 x1)) (List.length x0.2) : Nat) : Int) ([(LA.insW x0.2 x1)]))) : T101) = insU x0 x1 from by (unfold insU; first | (rw [LA.insS_no (by assumption)]; done) | (rw [LA.insS_yes (by assumption)]; rfl)))) (fun z e => (Option.some.inj e) ▸ (congrArg (fun z => (z, ())) (show (true) = insD x0 x1 from by (unfold insD; first | (rw [LA.insS_no (by assumption)]; done) | (rw [LA.insS_yes (by assumption)]; done)))))

def D_impl_SymbolWidth := (fun (g : T218) => colsOf g.2)
abbrev Q_impl_SymbolWidth := (fun (x0 : T218) => Sh.fit s218 x0)
def S_impl_SymbolWidth : Sum := { fid := 177, dom := [s218], cod := [(.int 3)], dp := true, fz := false, pre := fun x => Q_impl_SymbolWidth x.1, g := fun x => ((D_impl_SymbolWidth x.1), ()) }
def S_impl_SymbolWidth_tab : List (Nat × Sum) := [(254, S_impl_ColumnsOf)]
theorem S_impl_SymbolWidth_ok : FnOK Try.prog 177 S_impl_SymbolWidth := by
 refine at_enter 6 (fun x => ⟨[(0, aG [cI x.1.1, .ro s22 x.1.2])], []⟩) Try.func177 rfl (by kernel_rfl) (fun x => rfl) ?_
 rintro w0 Z0 ⟨x0, u⟩ a w
 revert x0
 intro (x0 : T218) hpre hlens h
 replace h : At w0 Z0 [] 6 ⟨[(0, aG [cI x0.1, .ro s22 x0.2])], []⟩ a w := h
 replace hpre : Q_impl_SymbolWidth x0 := hpre
 have hl1 : List.length x0.2 ≤ 9223372036854775807 := hlens.1.2.1
 have hT : TabOK Try.prog S_impl_SymbolWidth_tab := (.cons S_impl_ColumnsOf_ok .nil)
 have hf0 : Sh.fit s218 x0 := hpre
 have hn0_1 : List.length x0.2 ≤ 1073741824 := hf0.2.1
 refine wp_seq ?_
 refine at_regq [{ ids := [1] }] { ts := [1, 2], os := [1] } [] gamOK hT h (by kernel_rfl) trivial fun a w h => then_normal (wp_seq ?_)
 refine at_regq [] { ts := [2], os := [] } [Q_impl_ColumnsOf x0.2] gamOK hT h (by kernel_rfl) ⟨(by exact hf0.2), trivial⟩ fun a w h => then_normal (wp_ret ?_)
 exact at_return (S := S_impl_SymbolWidth) (x := (x0, ())) ((colsOf x0.2), ()) [] h (by kernel_rfl) trivial (congrArg (fun z => (z, ())) (show ((colsOf x0.2)) = D_impl_SymbolWidth x0 from by unfold D_impl_SymbolWidth; rfl))

def validG (x0 : T218) : Bool := (if (inR x0.1 0 1000000000000) = true then (if (inR ((List.length x0.2 : Nat) : Int) 1 8) = true then (if (validM x0.2) = true then (inR (colsOf x0.2) 1 16) else false) else false) else false)
abbrev Q_spec_IsValidGeneration := (fun (x0 : T218) => Sh.fit s218 x0)
def S_spec_IsValidGeneration : Sum := { fid := 172, dom := [s218], cod := [(.bool 4)], dp := true, fz := false, pre := fun x => Q_spec_IsValidGeneration x.1, g := fun x => ((validG x.1), ()) }
def S_spec_IsValidGeneration_tab : List (Nat × Sum) := [(103, S_spec_l1In), (250, S_spec_IsValidMatrix), (173, S_spec_ColumnsOf)]
theorem S_spec_IsValidGeneration_ok : FnOK Try.prog 172 S_spec_IsValidGeneration := by
 refine at_enter 23 (fun x => ⟨[(0, aG [cI x.1.1, .ro s22 x.1.2])], []⟩) Try.func172 rfl (by kernel_rfl) (fun x => rfl) ?_
 rintro w0 Z0 ⟨x0, u⟩ a w
 revert x0
 intro (x0 : T218) hpre hlens h
 replace h : At w0 Z0 [] 23 ⟨[(0, aG [cI x0.1, .ro s22 x0.2])], []⟩ a w := h
 replace hpre : Q_spec_IsValidGeneration x0 := hpre
 have hl1 : List.length x0.2 ≤ 9223372036854775807 := hlens.1.2.1
 have hT : TabOK Try.prog S_spec_IsValidGeneration_tab := (.cons S_spec_l1In_ok (.cons S_spec_IsValidMatrix_ok (.cons S_spec_ColumnsOf_ok .nil)))
 have hf0 : Sh.fit s218 x0 := hpre
 have hn0_1 : List.length x0.2 ≤ 1073741824 := hf0.2.1
 refine wp_seq ?_
 refine at_regq [{ ids := [1] }] { ts := [1, 2], os := [1] } [] gamOK hT h (by kernel_rfl) trivial fun a w h => then_normal (wp_seq ?_)
 rcases Bool.eq_false_or_eq_true ((inR x0.1 0 1000000000000)) with h1 | h1
 ·have hvh1 := inR_t h1
  rcases Bool.eq_false_or_eq_true ((inR ((List.length x0.2 : Nat) : Int) 1 8)) with h2 | h2
  ·have hvh2 := inR_t h2
   rcases Bool.eq_false_or_eq_true ((validM x0.2)) with h3 | h3
   ·have hvh3 := validM_t h3
    refine at_regq [{}, {}, { hint := some (aB true) }, {}, {}, {}, {}, { hint := some (aB true) }, {}, {}, {}, {}, { hint := some (aB true) }] { ts := [2], os := [] } [True, (AV.p (.c (.v (.bool ((inR x0.1 0 1000000000000))))) = AV.p (.c (.v (.bool true)))), True, (AV.p (.c (.v (.bool ((inR ((List.length x0.2 : Nat) : Int) 1 8))))) = AV.p (.c (.v (.bool true)))), Q_spec_IsValidMatrix x0.2, (AV.p (.c (.v (.bool ((validM x0.2))))) = AV.p (.c (.v (.bool true)))), Q_spec_ColumnsOf x0.2, True] gamOK hT h (by kernel_rfl) ⟨trivial, hint_bool (h1), trivial, hint_bool (h2), (by exact hf0.2), hint_bool (h3), (by exact hf0.2), trivial, trivial⟩ fun a w h => then_normal (wp_ret ?_)
    exact at_return (S := S_spec_IsValidGeneration) (x := (x0, ())) ((inR (colsOf x0.2) 1 16), ()) [] h (by kernel_rfl) trivial (congrArg (fun z => (z, ())) (show ((inR (colsOf x0.2) 1 16)) = validG x0 from by first | rfl | (unfold validG; rw [if_pos h1, if_pos h2, if_pos h3])))
   ·refine at_regq [{}, {}, { hint := some (aB true) }, {}, {}, {}, {}, { hint := some (aB true) }, {}, {}, {}, {}, { hint := some (aB false) }] { ts := [2], os := [] } [True, (AV.p (.c (.v (.bool ((inR x0.1 0 1000000000000))))) = AV.p (.c (.v (.bool true)))), True, (AV.p (.c (.v (.bool ((inR ((List.length x0.2 : Nat) : Int) 1 8))))) = AV.p (.c (.v (.bool true)))), Q_spec_IsValidMatrix x0.2, (AV.p (.c (.v (.bool ((validM x0.2))))) = AV.p (.c (.v (.bool false))))] gamOK hT h (by kernel_rfl) ⟨trivial, hint_bool (h1), trivial, hint_bool (h2), (by exact hf0.2), hint_bool (h3), trivial⟩ fun a w h => then_normal (wp_ret ?_)
    exact at_return (S := S_spec_IsValidGeneration) (x := (x0, ())) (false, ()) [] h (by kernel_rfl) trivial (congrArg (fun z => (z, ())) (show (false) = validG x0 from by first | rfl | (unfold validG; rw [if_pos h1, if_pos h2, if_neg (neT h3)])))
  ·have hvh2 := inR_f h2
   refine at_regq [{}, {}, { hint := some (aB true) }, {}, {}, {}, {}, { hint := some (aB false) }] { ts := [2], os := [] } [True, (AV.p (.c (.v (.bool ((inR x0.1 0 1000000000000))))) = AV.p (.c (.v (.bool true)))), True, (AV.p (.c (.v (.bool ((inR ((List.length x0.2 : Nat) : Int) 1 8))))) = AV.p (.c (.v (.bool false))))] gamOK hT h (by kernel_rfl) ⟨trivial, hint_bool (h1), trivial, hint_bool (h2), trivial⟩ fun a w h => then_normal (wp_ret ?_)
   exact at_return (S := S_spec_IsValidGeneration) (x := (x0, ())) (false, ()) [] h (by kernel_rfl) trivial (congrArg (fun z => (z, ())) (show (false) = validG x0 from by first | rfl | (unfold validG; rw [if_pos h1, if_neg (neT h2)])))
 ·have hvh1 := inR_f h1
  refine at_regq [{}, {}, { hint := some (aB false) }] { ts := [2], os := [] } [True, (AV.p (.c (.v (.bool ((inR x0.1 0 1000000000000))))) = AV.p (.c (.v (.bool false))))] gamOK hT h (by kernel_rfl) ⟨trivial, hint_bool (h1), trivial⟩ fun a w h => then_normal (wp_ret ?_)
  exact at_return (S := S_spec_IsValidGeneration) (x := (x0, ())) (false, ()) [] h (by kernel_rfl) trivial (congrArg (fun z => (z, ())) (show (false) = validG x0 from by first | rfl | (unfold validG; rw [if_neg (neT h1)])))
theorem validG_t {g : T218} (h : validG g = true) : (0 ≤ g.1 ∧ g.1 ≤ 1000000000000) ∧ (1 ≤ List.length g.2 ∧ List.length g.2 ≤ 8) ∧ validM g.2 = true ∧ (1 ≤ colsOf g.2 ∧ colsOf g.2 ≤ 16) := by
  unfold validG at h
  split at h
  · split at h
    · split at h
      · rename_i h1 h2 h3
        have a1 := inR_t h1; have a2 := inR_t h2; have a3 := inR_t h
        exact ⟨a1, by omega, h3, a3⟩
      · cases h
    · cases h
  · cases h
theorem colsOf_at {m : List (List Int)} (h : 1 ≤ List.length m) : colsOf m = ((List.length (m.getD 0 []) : Nat) : Int) := by unfold colsOf; rw [if_neg (by omega)]

abbrev Q_impl_IsValidGeneration := (fun (x0 : T218) => Sh.fit s218 x0)
def S_impl_IsValidGeneration : Sum := { fid := 176, dom := [s218], cod := [(.bool 4)], dp := true, fz := false, pre := fun x => Q_impl_IsValidGeneration x.1, g := fun x => ((validG x.1), ()) }
def S_impl_IsValidGeneration_tab : List (Nat × Sum) := [(107, S_impl_InRange), (253, S_impl_IsValidVector), (177, S_impl_SymbolWidth)]
theorem S_impl_IsValidGeneration_ok : FnOK Try.prog 176 S_impl_IsValidGeneration := by
 refine at_enter 40 (fun x => ⟨[(0, aG [cI x.1.1, .ro s22 x.1.2])], []⟩) Try.func176 rfl (by kernel_rfl) (fun x => rfl) ?_
 rintro w0 Z0 ⟨x0, u⟩ a w
 revert x0
 intro (x0 : T218) hpre hlens h
 replace h : At w0 Z0 [] 40 ⟨[(0, aG [cI x0.1, .ro s22 x0.2])], []⟩ a w := h
 replace hpre : Q_impl_IsValidGeneration x0 := hpre
 have hl1 : List.length x0.2 ≤ 9223372036854775807 := hlens.1.2.1
 have hT : TabOK Try.prog S_impl_IsValidGeneration_tab := (.cons S_impl_InRange_ok (.cons S_impl_IsValidVector_ok (.cons S_impl_SymbolWidth_ok .nil)))
 have hf0 : Sh.fit s218 x0 := hpre
 have hn0_1 : List.length x0.2 ≤ 1073741824 := hf0.2.1
 refine wp_seq ?_
 refine at_regq [{ ids := [1] }] { ts := [1, 2], os := [1] } [] gamOK hT h (by kernel_rfl) trivial fun a w h => then_normal (wp_seq (wp_seq ?_))
 rcases Bool.eq_false_or_eq_true (!(inR x0.1 0 1000000000000)) with h1 | h1
 ·have hzh1 : (inR x0.1 0 1000000000000) = false := notT h1
  have hvh1 := inR_f (notT h1)
  refine at_regq [{}, {}, {}, { hint := some (aB true) }] { ts := [1, 2, 15], os := [1] } [True, (AV.p (.c (.v (.bool (!(inR x0.1 0 1000000000000))))) = AV.p (.c (.v (.bool true))))] gamOK hT h (by kernel_rfl) ⟨trivial, hint_bool (h1), trivial⟩ fun a w h => then_normal ?_
  refine at_test true h (by kernel_rfl) (fun hh => ?_) (fun hh => nomatch hh)
  refine wp_seq ?_
  refine at_regq [] { ts := [1, 2], os := [1] } [] gamOK hT h (by kernel_rfl) trivial fun a w h => then_normal (wp_ret (then_ret ?_))
  exact at_return (S := S_impl_IsValidGeneration) (x := (x0, ())) (false, ()) [] h (by kernel_rfl) trivial (congrArg (fun z => (z, ())) (show (false) = validG x0 from by first | rfl | (unfold validG; rw [if_neg (neT (notT h1))]; done) | (unfold validG; (repeat (first | rfl | split)) <;> (first | rfl | omega | (simp_all [-List.all_eq_true, -List.any_eq_true, -List.all_eq_false, -List.any_eq_false, validM, D_impl_SymbolWidth]; done) | (simp_all [-List.all_eq_true, -List.any_eq_true, -List.all_eq_false, -List.any_eq_false, validM, D_impl_SymbolWidth]; omega) | (exfalso; simp_all [-List.all_eq_true, -List.any_eq_true, -List.all_eq_false, -List.any_eq_false, validM, D_impl_SymbolWidth]; omega)))))
 ·have hzh1 : (inR x0.1 0 1000000000000) = true := notF h1
  have hvh1 := inR_t (notF h1)
  refine at_regq [{}, {}, {}, { hint := some (aB false) }] { ts := [1, 2, 15], os := [1] } [True, (AV.p (.c (.v (.bool (!(inR x0.1 0 1000000000000))))) = AV.p (.c (.v (.bool false)))), True] gamOK hT h (by kernel_rfl) ⟨trivial, hint_bool (h1), trivial, trivial⟩ fun a w h => then_normal ?_
  refine at_test (!(inR ((List.length x0.2 : Nat) : Int) 1 8)) h (by kernel_rfl) (fun h2 => ?_) (fun h2 => ?_)
  ·replace h2 : (inR ((List.length x0.2 : Nat) : Int) 1 8) = false := notT h2
   have hvh2 := inR_f h2
   refine wp_seq ?_
   refine at_regq [] { ts := [1, 2], os := [1] } [] gamOK hT h (by kernel_rfl) trivial fun a w h => then_normal (wp_ret (then_ret ?_))
   exact at_return (S := S_impl_IsValidGeneration) (x := (x0, ())) (false, ()) [] h (by kernel_rfl) trivial (congrArg (fun z => (z, ())) (show (false) = validG x0 from by first | rfl | (unfold validG; rw [if_pos (notF h1), if_neg (neT h2)]; done) | (unfold validG; (repeat (first | rfl | split)) <;> (first | rfl | omega | (simp_all [-List.all_eq_true, -List.any_eq_true, -List.all_eq_false, -List.any_eq_false, validM, D_impl_SymbolWidth]; done) | (simp_all [-List.all_eq_true, -List.any_eq_true, -List.all_eq_false, -List.any_eq_false, validM, D_impl_SymbolWidth]; omega) | (exfalso; simp_all [-List.all_eq_true, -List.any_eq_true, -List.all_eq_false, -List.any_eq_false, validM, D_impl_SymbolWidth]; omega)))))
  ·replace h2 : (inR ((List.length x0.2 : Nat) : Int) 1 8) = true := notF h2
   have hvh2 := inR_t h2
   refine wp_skip (then_normal (wp_seq (wp_seq ?_)))
   refine at_regq [] { ts := [1, 2, 17, 18, 19], os := [1] } [] gamOK hT h (by kernel_rfl) trivial fun a w h => then_normal (wp_block ?_)
   replace h := at_out (σ' := ⟨[(1, aP 1 0), (2, aB false), (17, aF s22 x0.2), (18, aI ((List.length x0.2 : Nat) : Int)), (19, aI 0)], [(1, oX 218 [cI x0.1, .ro s22 x0.2])]⟩) { ts := [1, 2, 17, 18, 19], os := [1] } h (by kernel_rfl)
   refine at_loop (fun i : Nat => (⟨[(1, aP 1 0), (2, aB false), (17, aF s22 x0.2), (18, aI ((List.length x0.2 : Nat) : Int)), (19, aI ((i : Nat) : Int))], [(1, oX 218 [cI x0.1, .ro s22 x0.2])]⟩ : St)) (fun i => (i ≤ List.length x0.2 ∧ allTo1 (fun r => validV r && decide (List.length r = List.length (x0.2.getD 0 []))) x0.2 [] i)) (fun i => List.length x0.2 - i) (0) h (st_congr1 (fun (d0 : Int) => (⟨[(1, aP 1 0), (2, aB false), (17, aF s22 x0.2), (18, aI ((List.length x0.2 : Nat) : Int)), (19, aI d0)], [(1, oX 218 [cI x0.1, .ro s22 x0.2])]⟩ : St)) (show (0 : Int) = (((0) : Nat) : Int) from by first | with_reducible rfl | (rfl) | rfl)) (by exact ⟨Nat.zero_le _, allTo1_zero⟩) ?_
   intro i a w hok0 h
   refine wp_seq ?_
   refine at_regq [] { ts := [1, 2, 17, 18, 19, 20], os := [1] } [] gamOK hT h (by kernel_rfl) trivial fun a w h => then_normal (wp_seq ?_)
   refine at_test (decide (((i : Nat) : Int) < ((List.length x0.2 : Nat) : Int))) h (by kernel_rfl) (fun h3 => ?_) (fun h3 => ?_)
   ·replace h3 : ((i : Nat) : Int) < ((List.length x0.2 : Nat) : Int) := of_decide_eq_true h3
    refine wp_skip (then_normal (wp_seq (wp_block (wp_seq ?_))))
    refine at_regq [] { ts := [1, 2, 4, 17, 18, 19], os := [1] } [(0 : Int) ≤ ((i : Nat) : Int) ∧ ((i : Nat) : Int) < ((List.length x0.2 : Nat) : Int)] gamOK hT h (by kernel_rfl) ⟨(by refine ⟨?_, ?_⟩ <;> (first | omega | (simp only [lsA]; omega) | (simp <;> omega))), trivial⟩ fun a w h => then_normal (wp_seq ?_)
    rcases Bool.eq_false_or_eq_true (!(validV (x0.2.getD i []))) with h4 | h4
    ·have hzh4 : (validV (x0.2.getD i [])) = false := notT h4
     refine at_regq [{}, {}, { hint := some (aB true) }] { ts := [1, 2, 17, 18, 19, 27, 28, 29, 30, 31, 32, 33, 34, 35], os := [1] } [Q_impl_IsValidVector (x0.2.getD i []), (AV.p (.c (.v (.bool (!(validV (x0.2.getD i [])))))) = AV.p (.c (.v (.bool true))))] gamOK hT h (by kernel_rfl) ⟨(by exact (Sh.fit_getD hf0.2 i)), hint_bool (h4), trivial⟩ fun a w h => then_normal ?_
     refine at_test true h (by kernel_rfl) (fun hh => ?_) (fun hh => nomatch hh)
     refine wp_seq ?_
     refine at_regq [] { ts := [1, 2, 17, 18, 19, 27, 28, 29, 30, 31, 32, 33, 34], os := [1] } [] gamOK hT h (by kernel_rfl) trivial fun a w h => then_normal (wp_ret (in_ret (then_ret ?_)))
     have hs5 : (List.all x0.2 (fun r => validV r && decide (List.length r = List.length (x0.2.getD 0 [])))) = false := by exact all_at (z := []) (i := i) (by omega) (by (show ((validV _) && _) = false; rw [Bool.and_eq_false_iff]; first | (left; assumption) | (right; exact decide_eq_false (by omega))))
     refine then_ret (in_ret (then_ret ?_))
     exact at_return (S := S_impl_IsValidGeneration) (x := (x0, ())) (false, ()) [] h (by kernel_rfl) trivial (congrArg (fun z => (z, ())) (show (false) = validG x0 from by first | rfl | (unfold validG; rw [if_pos (notF h1), if_pos h2, if_neg (neT hs5)]; done) | (unfold validG; (repeat (first | rfl | split)) <;> (first | rfl | omega | (simp_all [-List.all_eq_true, -List.any_eq_true, -List.all_eq_false, -List.any_eq_false, validM, D_impl_SymbolWidth]; done) | (simp_all [-List.all_eq_true, -List.any_eq_true, -List.all_eq_false, -List.any_eq_false, validM, D_impl_SymbolWidth]; omega) | (exfalso; simp_all [-List.all_eq_true, -List.any_eq_true, -List.all_eq_false, -List.any_eq_false, validM, D_impl_SymbolWidth]; omega)))))
    ·have hzh4 : (validV (x0.2.getD i [])) = true := notF h4
     have hvh4 := validV_t (notF h4)
     refine at_regq [{}, {}, { hint := some (aB false) }] { ts := [1, 2, 17, 18, 19, 27, 28, 29, 30, 31, 32, 33, 34, 35], os := [1] } [Q_impl_IsValidVector (x0.2.getD i []), (AV.p (.c (.v (.bool (!(validV (x0.2.getD i [])))))) = AV.p (.c (.v (.bool false)))), (0 : Int) ≤ 0 ∧ 0 < ((List.length x0.2 : Nat) : Int)] gamOK hT h (by kernel_rfl) ⟨(by exact (Sh.fit_getD hf0.2 i)), hint_bool (h4), (by refine ⟨?_, ?_⟩ <;> (first | omega | (simp only [lsA]; omega) | (simp <;> omega))), trivial⟩ fun a w h => then_normal ?_
     refine at_test (!decide (((List.length (x0.2.getD i []) : Nat) : Int) = ((List.length (x0.2.getD 0 []) : Nat) : Int))) h (by kernel_rfl) (fun h6 => ?_) (fun h6 => ?_)
     ·replace h6 : ¬ (((List.length (x0.2.getD i []) : Nat) : Int) = ((List.length (x0.2.getD 0 []) : Nat) : Int)) := of_decide_eq_false (notT h6)
      refine wp_seq ?_
      refine at_regq [] { ts := [1, 2, 17, 18, 19, 27, 28, 29, 30, 31, 32, 33, 34], os := [1] } [] gamOK hT h (by kernel_rfl) trivial fun a w h => then_normal (wp_ret (in_ret (then_ret ?_)))
      have hs7 : (List.all x0.2 (fun r => validV r && decide (List.length r = List.length (x0.2.getD 0 [])))) = false := by exact all_at (z := []) (i := i) (by omega) (by (show ((validV _) && _) = false; rw [Bool.and_eq_false_iff]; first | (left; assumption) | (right; exact decide_eq_false (by omega))))
      refine then_ret (in_ret (then_ret ?_))
      exact at_return (S := S_impl_IsValidGeneration) (x := (x0, ())) (false, ()) [] h (by kernel_rfl) trivial (congrArg (fun z => (z, ())) (show (false) = validG x0 from by first | rfl | (unfold validG; rw [if_pos (notF h1), if_pos h2, if_neg (neT hs7)]; done) | (unfold validG; (repeat (first | rfl | split)) <;> (first | rfl | omega | (simp_all [-List.all_eq_true, -List.any_eq_true, -List.all_eq_false, -List.any_eq_false, validM, D_impl_SymbolWidth]; done) | (simp_all [-List.all_eq_true, -List.any_eq_true, -List.all_eq_false, -List.any_eq_false, validM, D_impl_SymbolWidth]; omega) | (exfalso; simp_all [-List.all_eq_true, -List.any_eq_true, -List.all_eq_false, -List.any_eq_false, validM, D_impl_SymbolWidth]; omega)))))
     ·replace h6 : ((List.length (x0.2.getD i []) : Nat) : Int) = ((List.length (x0.2.getD 0 []) : Nat) : Int) := of_decide_eq_true (notF h6)
      refine wp_skip (in_normal (then_normal ?_))
      refine at_regq [{ nw := true }] { ts := [1, 2, 17, 18, 19, 27, 28, 29, 30, 31, 32, 33, 34], os := [1] } [I64 (((i : Nat) : Int) + 1)] gamOK hT h (by kernel_rfl) ⟨⟨by first | omega | (simp only [lsA]; omega) | (simp <;> omega), by first | omega | (simp only [lsA]; omega) | (simp <;> omega)⟩, trivial⟩ fun a w h => ?_
      replace h := at_out (σ' := ⟨[(1, aP 1 0), (2, aB false), (17, aF s22 x0.2), (18, aI ((List.length x0.2 : Nat) : Int)), (19, aI (((i : Nat) : Int) + 1))], [(1, oX 218 [cI x0.1, .ro s22 x0.2])]⟩) { ts := [1, 2, 17, 18, 19], os := [1] } h (by kernel_rfl)
      exact ⟨i + 1, at_eq h (st_congr1 (fun (d0 : Int) => (⟨[(1, aP 1 0), (2, aB false), (17, aF s22 x0.2), (18, aI ((List.length x0.2 : Nat) : Int)), (19, aI d0)], [(1, oX 218 [cI x0.1, .ro s22 x0.2])]⟩ : St)) (show (((i : Nat) : Int) + 1 : Int) = (((i + 1) : Nat) : Int) from by first | with_reducible rfl | (omega) | rfl)), (by exact ⟨by omega, allTo1_succ hok0.2 (by (show ((validV _) && _) = true; rw [Bool.and_eq_true]; exact ⟨by assumption, decide_eq_true (by omega)⟩))⟩), (by omega)⟩
   ·replace h3 : ¬ (((i : Nat) : Int) < ((List.length x0.2 : Nat) : Int)) := of_decide_eq_false h3
    refine wp_exit (then_exit ?_)
    have hs8 : (List.all x0.2 (fun r => validV r && decide (List.length r = List.length (x0.2.getD 0 [])))) = true := by exact all_of (z := []) (i := i) (by omega) hok0.2
    refine then_exit (in_hit (then_normal (wp_seq ?_)))
    refine at_regq [] { ts := [2], os := [] } [Q_impl_SymbolWidth x0, True] gamOK hT h (by kernel_rfl) ⟨(by exact hf0), trivial, trivial⟩ fun a w h => then_normal (wp_ret ?_)
    exact at_return (S := S_impl_IsValidGeneration) (x := (x0, ())) ((inR (colsOf x0.2) 1 16), ()) [] h (by kernel_rfl) trivial (congrArg (fun z => (z, ())) (show ((inR (colsOf x0.2) 1 16)) = validG x0 from by first | rfl | (unfold validG; rw [if_pos (notF h1), if_pos h2, if_pos hs8]; done) | (unfold validG; (repeat (first | rfl | split)) <;> (first | rfl | omega | (simp_all [-List.all_eq_true, -List.any_eq_true, -List.all_eq_false, -List.any_eq_false, validM, D_impl_SymbolWidth]; done) | (simp_all [-List.all_eq_true, -List.any_eq_true, -List.all_eq_false, -List.any_eq_false, validM, D_impl_SymbolWidth]; omega) | (exfalso; simp_all [-List.all_eq_true, -List.any_eq_true, -List.all_eq_false, -List.any_eq_false, validM, D_impl_SymbolWidth]; omega)))))

def isFmt (x0 : Int) (x1 : Int) (x2 : Int) : Bool := (if (inR x0 0 1000000000000) = true then (if (inR x1 1 8) = true then (inR x2 1 16) else false) else false)
def S_impl_isFormat : Sum := { fid := 228, dom := [(.int 3), (.int 3), (.int 3)], cod := [(.bool 4)], dp := true, fz := false, pre := fun x => True, g := fun x => ((isFmt x.1 x.2.1 x.2.2.1), ()) }
def S_impl_isFormat_tab : List (Nat × Sum) := [(107, S_impl_InRange)]
theorem S_impl_isFormat_ok : FnOK Try.prog 228 S_impl_isFormat := by
 refine at_enter 17 (fun x => ⟨[(0, aI x.1), (1, aI x.2.1), (2, aI x.2.2.1)], []⟩) Try.func228 rfl (by kernel_rfl) (fun x => rfl) ?_
 rintro w0 Z0 ⟨x0, x1, x2, u⟩ a w
 revert x0 x1 x2
 intro (x0 : Int) (x1 : Int) (x2 : Int) hpre hlens h
 replace h : At w0 Z0 [] 17 ⟨[(0, aI x0), (1, aI x1), (2, aI x2)], []⟩ a w := h
 have hT : TabOK Try.prog S_impl_isFormat_tab := (.cons S_impl_InRange_ok .nil)
 refine wp_seq ?_
 refine at_regq [] { ts := [0, 1, 2, 6], os := [] } [] gamOK hT h (by kernel_rfl) trivial fun a w h => then_normal (wp_seq ?_)
 rcases Bool.eq_false_or_eq_true ((inR x0 0 1000000000000)) with h1 | h1
 ·have hvh1 := inR_t h1
  rcases Bool.eq_false_or_eq_true ((inR x1 1 8)) with h2 | h2
  ·have hvh2 := inR_t h2
   refine at_regq [{}, { hint := some (aB true) }, {}, {}, { hint := some (aB true) }] { ts := [6], os := [] } [True, (AV.p (.c (.v (.bool ((inR x0 0 1000000000000))))) = AV.p (.c (.v (.bool true)))), True, (AV.p (.c (.v (.bool ((inR x1 1 8))))) = AV.p (.c (.v (.bool true)))), True] gamOK hT h (by kernel_rfl) ⟨trivial, hint_bool (h1), trivial, hint_bool (h2), trivial, trivial⟩ fun a w h => then_normal (wp_ret ?_)
   exact at_return (S := S_impl_isFormat) (x := (x0, x1, x2, ())) ((inR x2 1 16), ()) [] h (by kernel_rfl) trivial (congrArg (fun z => (z, ())) (show ((inR x2 1 16)) = isFmt x0 x1 x2 from by first | rfl | (unfold isFmt; rw [if_pos h1, if_pos h2])))
  ·have hvh2 := inR_f h2
   refine at_regq [{}, { hint := some (aB true) }, {}, {}, { hint := some (aB false) }] { ts := [6], os := [] } [True, (AV.p (.c (.v (.bool ((inR x0 0 1000000000000))))) = AV.p (.c (.v (.bool true)))), True, (AV.p (.c (.v (.bool ((inR x1 1 8))))) = AV.p (.c (.v (.bool false))))] gamOK hT h (by kernel_rfl) ⟨trivial, hint_bool (h1), trivial, hint_bool (h2), trivial⟩ fun a w h => then_normal (wp_ret ?_)
   exact at_return (S := S_impl_isFormat) (x := (x0, x1, x2, ())) (false, ()) [] h (by kernel_rfl) trivial (congrArg (fun z => (z, ())) (show (false) = isFmt x0 x1 x2 from by first | rfl | (unfold isFmt; rw [if_pos h1, if_neg (neT h2)])))
 ·have hvh1 := inR_f h1
  refine at_regq [{}, { hint := some (aB false) }] { ts := [6], os := [] } [True, (AV.p (.c (.v (.bool ((inR x0 0 1000000000000))))) = AV.p (.c (.v (.bool false))))] gamOK hT h (by kernel_rfl) ⟨trivial, hint_bool (h1), trivial⟩ fun a w h => then_normal (wp_ret ?_)
  exact at_return (S := S_impl_isFormat) (x := (x0, x1, x2, ())) (false, ()) [] h (by kernel_rfl) trivial (congrArg (fun z => (z, ())) (show (false) = isFmt x0 x1 x2 from by first | rfl | (unfold isFmt; rw [if_neg (neT h1)])))
theorem isFmt_t {g s w : Int} (h : isFmt g s w = true) : (0 ≤ g ∧ g ≤ 1000000000000) ∧ (1 ≤ s ∧ s ≤ 8) ∧ (1 ≤ w ∧ w ≤ 16) := by
  unfold isFmt at h
  split at h
  · split at h
    · exact ⟨inR_t (by assumption), inR_t (by assumption), inR_t h⟩
    · cases h
  · cases h

def S_spec_l14Range : Sum := { fid := 220, dom := [(.int 3), (.int 3), (.int 3)], cod := [(.bool 4)], dp := true, fz := false, pre := fun x => True, g := fun x => ((isFmt x.1 x.2.1 x.2.2.1), ()) }
def S_spec_l14Range_tab : List (Nat × Sum) := [(103, S_spec_l1In)]
theorem S_spec_l14Range_ok : FnOK Try.prog 220 S_spec_l14Range := by
 refine at_enter 17 (fun x => ⟨[(0, aI x.1), (1, aI x.2.1), (2, aI x.2.2.1)], []⟩) Try.func220 rfl (by kernel_rfl) (fun x => rfl) ?_
 rintro w0 Z0 ⟨x0, x1, x2, u⟩ a w
 revert x0 x1 x2
 intro (x0 : Int) (x1 : Int) (x2 : Int) hpre hlens h
 replace h : At w0 Z0 [] 17 ⟨[(0, aI x0), (1, aI x1), (2, aI x2)], []⟩ a w := h
 have hT : TabOK Try.prog S_spec_l14Range_tab := (.cons S_spec_l1In_ok .nil)
 refine wp_seq ?_
 refine at_regq [] { ts := [0, 1, 2, 6], os := [] } [] gamOK hT h (by kernel_rfl) trivial fun a w h => then_normal (wp_seq ?_)
 rcases Bool.eq_false_or_eq_true ((inR x0 0 1000000000000)) with h1 | h1
 ·have hvh1 := inR_t h1
  rcases Bool.eq_false_or_eq_true ((inR x1 1 8)) with h2 | h2
  ·have hvh2 := inR_t h2
   refine at_regq [{}, { hint := some (aB true) }, {}, {}, { hint := some (aB true) }] { ts := [6], os := [] } [True, (AV.p (.c (.v (.bool ((inR x0 0 1000000000000))))) = AV.p (.c (.v (.bool true)))), True, (AV.p (.c (.v (.bool ((inR x1 1 8))))) = AV.p (.c (.v (.bool true)))), True] gamOK hT h (by kernel_rfl) ⟨trivial, hint_bool (h1), trivial, hint_bool (h2), trivial, trivial⟩ fun a w h => then_normal (wp_ret ?_)
   exact at_return (S := S_spec_l14Range) (x := (x0, x1, x2, ())) ((inR x2 1 16), ()) [] h (by kernel_rfl) trivial (congrArg (fun z => (z, ())) (show ((inR x2 1 16)) = isFmt x0 x1 x2 from by first | rfl | (unfold isFmt; rw [if_pos h1, if_pos h2]; done) | (unfold isFmt; simp_all)))
  ·have hvh2 := inR_f h2
   refine at_regq [{}, { hint := some (aB true) }, {}, {}, { hint := some (aB false) }] { ts := [6], os := [] } [True, (AV.p (.c (.v (.bool ((inR x0 0 1000000000000))))) = AV.p (.c (.v (.bool true)))), True, (AV.p (.c (.v (.bool ((inR x1 1 8))))) = AV.p (.c (.v (.bool false))))] gamOK hT h (by kernel_rfl) ⟨trivial, hint_bool (h1), trivial, hint_bool (h2), trivial⟩ fun a w h => then_normal (wp_ret ?_)
   exact at_return (S := S_spec_l14Range) (x := (x0, x1, x2, ())) (false, ()) [] h (by kernel_rfl) trivial (congrArg (fun z => (z, ())) (show (false) = isFmt x0 x1 x2 from by first | rfl | (unfold isFmt; rw [if_pos h1, if_neg (neT h2)]; done) | (unfold isFmt; simp_all)))
 ·have hvh1 := inR_f h1
  refine at_regq [{}, { hint := some (aB false) }] { ts := [6], os := [] } [True, (AV.p (.c (.v (.bool ((inR x0 0 1000000000000))))) = AV.p (.c (.v (.bool false))))] gamOK hT h (by kernel_rfl) ⟨trivial, hint_bool (h1), trivial⟩ fun a w h => then_normal (wp_ret ?_)
  exact at_return (S := S_spec_l14Range) (x := (x0, x1, x2, ())) (false, ()) [] h (by kernel_rfl) trivial (congrArg (fun z => (z, ())) (show (false) = isFmt x0 x1 x2 from by first | rfl | (unfold isFmt; rw [if_neg (neT h1)]; done) | (unfold isFmt; simp_all)))

def validP (x0 : T61) (x1 : Int) (x2 : Int) : Bool := (if (isFmt x0.1 x1 x2) = true then (if ((List.length x0.2.1 : Nat) : Int) = x1 then (if ((List.length x0.2.2 : Nat) : Int) = x2 then (if (validV x0.2.1) = true then (validV x0.2.2) else false) else false) else false) else false)
abbrev Q_impl_IsValidPacket := (fun (x0 : T61) (x1 : Int) (x2 : Int) => Sh.fit s61 x0)
def S_impl_IsValidPacket : Sum := { fid := 230, dom := [s61, (.int 3), (.int 3)], cod := [(.bool 4)], dp := true, fz := false, pre := fun x => Q_impl_IsValidPacket x.1 x.2.1 x.2.2.1, g := fun x => ((validP x.1 x.2.1 x.2.2.1), ()) }
def S_impl_IsValidPacket_tab : List (Nat × Sum) := [(228, S_impl_isFormat), (253, S_impl_IsValidVector)]
theorem S_impl_IsValidPacket_ok : FnOK Try.prog 230 S_impl_IsValidPacket := by
 refine at_enter 36 (fun x => ⟨[(0, aG [cI x.1.1, .ro (.int 3) x.1.2.1, .ro (.int 3) x.1.2.2]), (1, aI x.2.1), (2, aI x.2.2.1)], []⟩) Try.func230 rfl (by kernel_rfl) (fun x => rfl) ?_
 rintro w0 Z0 ⟨x0, x1, x2, u⟩ a w
 revert x0 x1 x2
 intro (x0 : T61) (x1 : Int) (x2 : Int) hpre hlens h
 replace h : At w0 Z0 [] 36 ⟨[(0, aG [cI x0.1, .ro (.int 3) x0.2.1, .ro (.int 3) x0.2.2]), (1, aI x1), (2, aI x2)], []⟩ a w := h
 replace hpre : Q_impl_IsValidPacket x0 x1 x2 := hpre
 have hl1 : List.length x0.2.1 ≤ 9223372036854775807 := hlens.1.2.1.1
 have hl2 : List.length x0.2.2 ≤ 9223372036854775807 := hlens.1.2.2.1
 have hT : TabOK Try.prog S_impl_IsValidPacket_tab := (.cons S_impl_isFormat_ok (.cons S_impl_IsValidVector_ok .nil))
 have hf0 : Sh.fit s61 x0 := hpre
 have hn0_1 : List.length x0.2.1 ≤ 1073741824 := hf0.2.1.1
 have hn0_2 : List.length x0.2.2 ≤ 1073741824 := hf0.2.2.1
 refine wp_seq ?_
 refine at_regq [{ ids := [1] }] { ts := [1, 2, 3, 6], os := [1] } [] gamOK hT h (by kernel_rfl) trivial fun a w h => then_normal (wp_seq ?_)
 rcases Bool.eq_false_or_eq_true ((isFmt x0.1 x1 x2)) with h1 | h1
 ·have hvh1 := isFmt_t h1
  by_cases h2 : ((List.length x0.2.1 : Nat) : Int) = x1
  ·by_cases h3 : ((List.length x0.2.2 : Nat) : Int) = x2
   ·rcases Bool.eq_false_or_eq_true ((validV x0.2.1)) with h4 | h4
    ·have hvh4 := validV_t h4
     refine at_regq [{}, {}, {}, {}, { hint := some (aB true) }, {}, {}, {}, {}, {}, { hint := some (aB true) }, {}, {}, {}, {}, {}, {}, { hint := some (aB true) }, {}, {}, {}, {}, { hint := some (aB true) }] { ts := [6], os := [] } [True, (AV.p (.c (.v (.bool ((isFmt x0.1 x1 x2))))) = AV.p (.c (.v (.bool true)))), (AV.p (.c (.v (.bool (decide (((List.length x0.2.1 : Nat) : Int) = x1))))) = AV.p (.c (.v (.bool true)))), (AV.p (.c (.v (.bool (decide (((List.length x0.2.2 : Nat) : Int) = x2))))) = AV.p (.c (.v (.bool true)))), Q_impl_IsValidVector x0.2.1, (AV.p (.c (.v (.bool ((validV x0.2.1))))) = AV.p (.c (.v (.bool true)))), Q_impl_IsValidVector x0.2.2] gamOK hT h (by kernel_rfl) ⟨trivial, hint_bool (h1), hint_bool (decide_eq_true h2), hint_bool (decide_eq_true h3), (by exact hf0.2.1), hint_bool (h4), (by exact hf0.2.2), trivial⟩ fun a w h => then_normal (wp_ret ?_)
     exact at_return (S := S_impl_IsValidPacket) (x := (x0, x1, x2, ())) ((validV x0.2.2), ()) [] h (by kernel_rfl) trivial (congrArg (fun z => (z, ())) (show ((validV x0.2.2)) = validP x0 x1 x2 from by first | rfl | (unfold validP; rw [if_pos h1, if_pos h2, if_pos h3, if_pos h4])))
    ·refine at_regq [{}, {}, {}, {}, { hint := some (aB true) }, {}, {}, {}, {}, {}, { hint := some (aB true) }, {}, {}, {}, {}, {}, {}, { hint := some (aB true) }, {}, {}, {}, {}, { hint := some (aB false) }] { ts := [6], os := [] } [True, (AV.p (.c (.v (.bool ((isFmt x0.1 x1 x2))))) = AV.p (.c (.v (.bool true)))), (AV.p (.c (.v (.bool (decide (((List.length x0.2.1 : Nat) : Int) = x1))))) = AV.p (.c (.v (.bool true)))), (AV.p (.c (.v (.bool (decide (((List.length x0.2.2 : Nat) : Int) = x2))))) = AV.p (.c (.v (.bool true)))), Q_impl_IsValidVector x0.2.1, (AV.p (.c (.v (.bool ((validV x0.2.1))))) = AV.p (.c (.v (.bool false))))] gamOK hT h (by kernel_rfl) ⟨trivial, hint_bool (h1), hint_bool (decide_eq_true h2), hint_bool (decide_eq_true h3), (by exact hf0.2.1), hint_bool (h4), trivial⟩ fun a w h => then_normal (wp_ret ?_)
     exact at_return (S := S_impl_IsValidPacket) (x := (x0, x1, x2, ())) (false, ()) [] h (by kernel_rfl) trivial (congrArg (fun z => (z, ())) (show (false) = validP x0 x1 x2 from by first | rfl | (unfold validP; rw [if_pos h1, if_pos h2, if_pos h3, if_neg (neT h4)])))
   ·refine at_regq [{}, {}, {}, {}, { hint := some (aB true) }, {}, {}, {}, {}, {}, { hint := some (aB true) }, {}, {}, {}, {}, {}, {}, { hint := some (aB false) }] { ts := [6], os := [] } [True, (AV.p (.c (.v (.bool ((isFmt x0.1 x1 x2))))) = AV.p (.c (.v (.bool true)))), (AV.p (.c (.v (.bool (decide (((List.length x0.2.1 : Nat) : Int) = x1))))) = AV.p (.c (.v (.bool true)))), (AV.p (.c (.v (.bool (decide (((List.length x0.2.2 : Nat) : Int) = x2))))) = AV.p (.c (.v (.bool false))))] gamOK hT h (by kernel_rfl) ⟨trivial, hint_bool (h1), hint_bool (decide_eq_true h2), hint_bool (decide_eq_false h3), trivial⟩ fun a w h => then_normal (wp_ret ?_)
    exact at_return (S := S_impl_IsValidPacket) (x := (x0, x1, x2, ())) (false, ()) [] h (by kernel_rfl) trivial (congrArg (fun z => (z, ())) (show (false) = validP x0 x1 x2 from by first | rfl | (unfold validP; rw [if_pos h1, if_pos h2, if_neg h3])))
  ·refine at_regq [{}, {}, {}, {}, { hint := some (aB true) }, {}, {}, {}, {}, {}, { hint := some (aB false) }] { ts := [6], os := [] } [True, (AV.p (.c (.v (.bool ((isFmt x0.1 x1 x2))))) = AV.p (.c (.v (.bool true)))), (AV.p (.c (.v (.bool (decide (((List.length x0.2.1 : Nat) : Int) = x1))))) = AV.p (.c (.v (.bool false))))] gamOK hT h (by kernel_rfl) ⟨trivial, hint_bool (h1), hint_bool (decide_eq_false h2), trivial⟩ fun a w h => then_normal (wp_ret ?_)
   exact at_return (S := S_impl_IsValidPacket) (x := (x0, x1, x2, ())) (false, ()) [] h (by kernel_rfl) trivial (congrArg (fun z => (z, ())) (show (false) = validP x0 x1 x2 from by first | rfl | (unfold validP; rw [if_pos h1, if_neg h2])))
 ·refine at_regq [{}, {}, {}, {}, { hint := some (aB false) }] { ts := [6], os := [] } [True, (AV.p (.c (.v (.bool ((isFmt x0.1 x1 x2))))) = AV.p (.c (.v (.bool false))))] gamOK hT h (by kernel_rfl) ⟨trivial, hint_bool (h1), trivial⟩ fun a w h => then_normal (wp_ret ?_)
  exact at_return (S := S_impl_IsValidPacket) (x := (x0, x1, x2, ())) (false, ()) [] h (by kernel_rfl) trivial (congrArg (fun z => (z, ())) (show (false) = validP x0 x1 x2 from by first | rfl | (unfold validP; rw [if_neg (neT h1)])))
theorem validP_t {p : T61} {s w : Int} (h : validP p s w = true) : isFmt p.1 s w = true ∧ ((List.length p.2.1 : Nat) : Int) = s ∧ ((List.length p.2.2 : Nat) : Int) = w ∧ validV p.2.1 = true ∧ validV p.2.2 = true := by
  unfold validP at h
  split at h
  · split at h
    · split at h
      · split at h
        · exact ⟨by assumption, by assumption, by assumption, by assumption, h⟩
        · cases h
      · cases h
    · cases h
  · cases h
theorem validP_n {p : T61} {s w : Int} (h : validP p s w = true) : ((0 ≤ p.1 ∧ p.1 ≤ 1000000000000) ∧ (1 ≤ s ∧ s ≤ 8) ∧ (1 ≤ w ∧ w ≤ 16)) ∧ ((List.length p.2.1 : Nat) : Int) = s ∧ ((List.length p.2.2 : Nat) : Int) = w := ⟨isFmt_t (validP_t h).1, (validP_t h).2.1, (validP_t h).2.2.1⟩
theorem validP_of {p : T61} {s w : Int} (h : isFmt p.1 s w = true ∧ ((List.length p.2.1 : Nat) : Int) = s ∧ ((List.length p.2.2 : Nat) : Int) = w ∧ validV p.2.1 = true ∧ validV p.2.2 = true) : validP p s w = true := by
  unfold validP; rw [if_pos h.1, if_pos h.2.1, if_pos h.2.2.1, if_pos h.2.2.2.1]; exact h.2.2.2.2

abbrev Q_spec_IsValidPacket := (fun (x0 : T61) (x1 : Int) (x2 : Int) => Sh.fit s61 x0)
def S_spec_IsValidPacket : Sum := { fid := 142, dom := [s61, (.int 3), (.int 3)], cod := [(.bool 4)], dp := true, fz := false, pre := fun x => Q_spec_IsValidPacket x.1 x.2.1 x.2.2.1, g := fun x => ((validP x.1 x.2.1 x.2.2.1), ()) }
def S_spec_IsValidPacket_tab : List (Nat × Sum) := [(103, S_spec_l1In), (221, S_spec_IsValidVector)]
theorem S_spec_IsValidPacket_ok : FnOK Try.prog 142 S_spec_IsValidPacket := by
 refine at_enter 42 (fun x => ⟨[(0, aG [cI x.1.1, .ro (.int 3) x.1.2.1, .ro (.int 3) x.1.2.2]), (1, aI x.2.1), (2, aI x.2.2.1)], []⟩) Try.func142 rfl (by kernel_rfl) (fun x => rfl) ?_
 rintro w0 Z0 ⟨x0, x1, x2, u⟩ a w
 revert x0 x1 x2
 intro (x0 : T61) (x1 : Int) (x2 : Int) hpre hlens h
 replace h : At w0 Z0 [] 42 ⟨[(0, aG [cI x0.1, .ro (.int 3) x0.2.1, .ro (.int 3) x0.2.2]), (1, aI x1), (2, aI x2)], []⟩ a w := h
 replace hpre : Q_spec_IsValidPacket x0 x1 x2 := hpre
 have hl1 : List.length x0.2.1 ≤ 9223372036854775807 := hlens.1.2.1.1
 have hl2 : List.length x0.2.2 ≤ 9223372036854775807 := hlens.1.2.2.1
 have hT : TabOK Try.prog S_spec_IsValidPacket_tab := (.cons S_spec_l1In_ok (.cons S_spec_IsValidVector_ok .nil))
 have hf0 : Sh.fit s61 x0 := hpre
 have hn0_1 : List.length x0.2.1 ≤ 1073741824 := hf0.2.1.1
 have hn0_2 : List.length x0.2.2 ≤ 1073741824 := hf0.2.2.1
 refine wp_seq ?_
 refine at_regq [{ ids := [1] }] { ts := [1, 2, 3, 6], os := [1] } [] gamOK hT h (by kernel_rfl) trivial fun a w h => then_normal (wp_seq ?_)
 rcases Bool.eq_false_or_eq_true ((inR x0.1 0 1000000000000)) with h1 | h1
 ·have hvh1 := inR_t h1
  rcases Bool.eq_false_or_eq_true ((inR x1 1 8)) with h2 | h2
  ·have hvh2 := inR_t h2
   rcases Bool.eq_false_or_eq_true ((inR x2 1 16)) with h3 | h3
   ·have hvh3 := inR_t h3
    by_cases h4 : ((List.length x0.2.1 : Nat) : Int) = x1
    ·by_cases h5 : ((List.length x0.2.2 : Nat) : Int) = x2
     ·rcases Bool.eq_false_or_eq_true ((validV x0.2.1)) with h6 | h6
      ·have hvh6 := validV_t h6
       refine at_regq [{}, {}, { hint := some (aB true) }, {}, {}, { hint := some (aB true) }, {}, {}, {}, { hint := some (aB true) }, {}, {}, {}, {}, {}, {}, { hint := some (aB true) }, {}, {}, {}, {}, {}, {}, { hint := some (aB true) }, {}, {}, {}, {}, { hint := some (aB true) }] { ts := [6], os := [] } [True, (AV.p (.c (.v (.bool ((inR x0.1 0 1000000000000))))) = AV.p (.c (.v (.bool true)))), True, (AV.p (.c (.v (.bool ((inR x1 1 8))))) = AV.p (.c (.v (.bool true)))), True, (AV.p (.c (.v (.bool ((inR x2 1 16))))) = AV.p (.c (.v (.bool true)))), (AV.p (.c (.v (.bool (decide (((List.length x0.2.1 : Nat) : Int) = x1))))) = AV.p (.c (.v (.bool true)))), (AV.p (.c (.v (.bool (decide (((List.length x0.2.2 : Nat) : Int) = x2))))) = AV.p (.c (.v (.bool true)))), Q_spec_IsValidVector x0.2.1, (AV.p (.c (.v (.bool ((validV x0.2.1))))) = AV.p (.c (.v (.bool true)))), Q_spec_IsValidVector x0.2.2] gamOK hT h (by kernel_rfl) ⟨trivial, hint_bool (h1), trivial, hint_bool (h2), trivial, hint_bool (h3), hint_bool (decide_eq_true h4), hint_bool (decide_eq_true h5), (by exact hf0.2.1), hint_bool (h6), (by exact hf0.2.2), trivial⟩ fun a w h => then_normal (wp_ret ?_)
       exact at_return (S := S_spec_IsValidPacket) (x := (x0, x1, x2, ())) ((validV x0.2.2), ()) [] h (by kernel_rfl) trivial (congrArg (fun z => (z, ())) (show ((validV x0.2.2)) = validP x0 x1 x2 from by first | rfl | (unfold validP; rw [if_pos h1, if_pos h2, if_pos h3, if_pos h4, if_pos h5, if_pos h6]; done) | (unfold validP; simp_all [isFmt])))
      ·refine at_regq [{}, {}, { hint := some (aB true) }, {}, {}, { hint := some (aB true) }, {}, {}, {}, { hint := some (aB true) }, {}, {}, {}, {}, {}, {}, { hint := some (aB true) }, {}, {}, {}, {}, {}, {}, { hint := some (aB true) }, {}, {}, {}, {}, { hint := some (aB false) }] { ts := [6], os := [] } [True, (AV.p (.c (.v (.bool ((inR x0.1 0 1000000000000))))) = AV.p (.c (.v (.bool true)))), True, (AV.p (.c (.v (.bool ((inR x1 1 8))))) = AV.p (.c (.v (.bool true)))), True, (AV.p (.c (.v (.bool ((inR x2 1 16))))) = AV.p (.c (.v (.bool true)))), (AV.p (.c (.v (.bool (decide (((List.length x0.2.1 : Nat) : Int) = x1))))) = AV.p (.c (.v (.bool true)))), (AV.p (.c (.v (.bool (decide (((List.length x0.2.2 : Nat) : Int) = x2))))) = AV.p (.c (.v (.bool true)))), Q_spec_IsValidVector x0.2.1, (AV.p (.c (.v (.bool ((validV x0.2.1))))) = AV.p (.c (.v (.bool false))))] gamOK hT h (by kernel_rfl) ⟨trivial, hint_bool (h1), trivial, hint_bool (h2), trivial, hint_bool (h3), hint_bool (decide_eq_true h4), hint_bool (decide_eq_true h5), (by exact hf0.2.1), hint_bool (h6), trivial⟩ fun a w h => then_normal (wp_ret ?_)
       exact at_return (S := S_spec_IsValidPacket) (x := (x0, x1, x2, ())) (false, ()) [] h (by kernel_rfl) trivial (congrArg (fun z => (z, ())) (show (false) = validP x0 x1 x2 from by first | rfl | (unfold validP; rw [if_pos h1, if_pos h2, if_pos h3, if_pos h4, if_pos h5, if_neg (neT h6)]; done) | (unfold validP; simp_all [isFmt])))
     ·refine at_regq [{}, {}, { hint := some (aB true) }, {}, {}, { hint := some (aB true) }, {}, {}, {}, { hint := some (aB true) }, {}, {}, {}, {}, {}, {}, { hint := some (aB true) }, {}, {}, {}, {}, {}, {}, { hint := some (aB false) }] { ts := [6], os := [] } [True, (AV.p (.c (.v (.bool ((inR x0.1 0 1000000000000))))) = AV.p (.c (.v (.bool true)))), True, (AV.p (.c (.v (.bool ((inR x1 1 8))))) = AV.p (.c (.v (.bool true)))), True, (AV.p (.c (.v (.bool ((inR x2 1 16))))) = AV.p (.c (.v (.bool true)))), (AV.p (.c (.v (.bool (decide (((List.length x0.2.1 : Nat) : Int) = x1))))) = AV.p (.c (.v (.bool true)))), (AV.p (.c (.v (.bool (decide (((List.length x0.2.2 : Nat) : Int) = x2))))) = AV.p (.c (.v (.bool false))))] gamOK hT h (by kernel_rfl) ⟨trivial, hint_bool (h1), trivial, hint_bool (h2), trivial, hint_bool (h3), hint_bool (decide_eq_true h4), hint_bool (decide_eq_false h5), trivial⟩ fun a w h => then_normal (wp_ret ?_)
      exact at_return (S := S_spec_IsValidPacket) (x := (x0, x1, x2, ())) (false, ()) [] h (by kernel_rfl) trivial (congrArg (fun z => (z, ())) (show (false) = validP x0 x1 x2 from by first | rfl | (unfold validP; rw [if_pos h1, if_pos h2, if_pos h3, if_pos h4, if_neg h5]; done) | (unfold validP; simp_all [isFmt])))
    ·refine at_regq [{}, {}, { hint := some (aB true) }, {}, {}, { hint := some (aB true) }, {}, {}, {}, { hint := some (aB true) }, {}, {}, {}, {}, {}, {}, { hint := some (aB false) }] { ts := [6], os := [] } [True, (AV.p (.c (.v (.bool ((inR x0.1 0 1000000000000))))) = AV.p (.c (.v (.bool true)))), True, (AV.p (.c (.v (.bool ((inR x1 1 8))))) = AV.p (.c (.v (.bool true)))), True, (AV.p (.c (.v (.bool ((inR x2 1 16))))) = AV.p (.c (.v (.bool true)))), (AV.p (.c (.v (.bool (decide (((List.length x0.2.1 : Nat) : Int) = x1))))) = AV.p (.c (.v (.bool false))))] gamOK hT h (by kernel_rfl) ⟨trivial, hint_bool (h1), trivial, hint_bool (h2), trivial, hint_bool (h3), hint_bool (decide_eq_false h4), trivial⟩ fun a w h => then_normal (wp_ret ?_)
     exact at_return (S := S_spec_IsValidPacket) (x := (x0, x1, x2, ())) (false, ()) [] h (by kernel_rfl) trivial (congrArg (fun z => (z, ())) (show (false) = validP x0 x1 x2 from by first | rfl | (unfold validP; rw [if_pos h1, if_pos h2, if_pos h3, if_neg h4]; done) | (unfold validP; simp_all [isFmt])))
   ·have hvh3 := inR_f h3
    refine at_regq [{}, {}, { hint := some (aB true) }, {}, {}, { hint := some (aB true) }, {}, {}, {}, { hint := some (aB false) }] { ts := [6], os := [] } [True, (AV.p (.c (.v (.bool ((inR x0.1 0 1000000000000))))) = AV.p (.c (.v (.bool true)))), True, (AV.p (.c (.v (.bool ((inR x1 1 8))))) = AV.p (.c (.v (.bool true)))), True, (AV.p (.c (.v (.bool ((inR x2 1 16))))) = AV.p (.c (.v (.bool false))))] gamOK hT h (by kernel_rfl) ⟨trivial, hint_bool (h1), trivial, hint_bool (h2), trivial, hint_bool (h3), trivial⟩ fun a w h => then_normal (wp_ret ?_)
    exact at_return (S := S_spec_IsValidPacket) (x := (x0, x1, x2, ())) (false, ()) [] h (by kernel_rfl) trivial (congrArg (fun z => (z, ())) (show (false) = validP x0 x1 x2 from by first | rfl | (unfold validP; rw [if_pos h1, if_pos h2, if_neg (neT h3)]; done) | (unfold validP; simp_all [isFmt])))
  ·have hvh2 := inR_f h2
   refine at_regq [{}, {}, { hint := some (aB true) }, {}, {}, { hint := some (aB false) }] { ts := [6], os := [] } [True, (AV.p (.c (.v (.bool ((inR x0.1 0 1000000000000))))) = AV.p (.c (.v (.bool true)))), True, (AV.p (.c (.v (.bool ((inR x1 1 8))))) = AV.p (.c (.v (.bool false))))] gamOK hT h (by kernel_rfl) ⟨trivial, hint_bool (h1), trivial, hint_bool (h2), trivial⟩ fun a w h => then_normal (wp_ret ?_)
   exact at_return (S := S_spec_IsValidPacket) (x := (x0, x1, x2, ())) (false, ()) [] h (by kernel_rfl) trivial (congrArg (fun z => (z, ())) (show (false) = validP x0 x1 x2 from by first | rfl | (unfold validP; rw [if_pos h1, if_neg (neT h2)]; done) | (unfold validP; simp_all [isFmt])))
 ·have hvh1 := inR_f h1
  refine at_regq [{}, {}, { hint := some (aB false) }] { ts := [6], os := [] } [True, (AV.p (.c (.v (.bool ((inR x0.1 0 1000000000000))))) = AV.p (.c (.v (.bool false))))] gamOK hT h (by kernel_rfl) ⟨trivial, hint_bool (h1), trivial⟩ fun a w h => then_normal (wp_ret ?_)
  exact at_return (S := S_spec_IsValidPacket) (x := (x0, x1, x2, ())) (false, ()) [] h (by kernel_rfl) trivial (congrArg (fun z => (z, ())) (show (false) = validP x0 x1 x2 from by first | rfl | (unfold validP; rw [if_neg (neT h1)]; done) | (unfold validP; simp_all [isFmt])))

def cofs (ps : List T61) : List (List Int) := ps.map fun p => p.2.1
theorem cofs_at {ps : List T61} {i : Nat} (h : i < ps.length) : (cofs ps).getD i [] = (ps.getD i (0, ([], []))).2.1 := by
  unfold cofs; rw [getD_of_lt (by simpa using h), getD_of_lt h, List.getElem_map]
theorem cofs_len (ps : List T61) : (cofs ps).length = ps.length := by simp [cofs]
theorem cofs_snoc (ps : List T61) (p : T61) : cofs (ps ++ [p]) = cofs ps ++ [p.2.1] := by simp [cofs]
theorem insTo_app (vs us : List (List Int)) : ∀ i, i ≤ vs.length → LA.insTo (vs ++ us) i = LA.insTo vs i
  | 0, _ => rfl
  | i + 1, h => by
    simp only [LA.insTo]
    rw [insTo_app vs us i (by omega), show (vs ++ us).getD i [] = vs.getD i [] from by rw [List.getD_eq_getElem?_getD, List.getElem?_append_left (by omega), List.getD_eq_getElem?_getD]]
theorem insTo_take {vs : List (List Int)} {i : Nat} (h : i ≤ vs.length) : LA.insTo (vs.take i) i = LA.insTo vs i := by
  have := insTo_app (vs.take i) (vs.drop i) i (by simp; omega)
  rw [List.take_append_drop] at this; exact this.symm
def okPkt (r : T128) (p : T61) : Bool := validP p r.2.1 r.2.2.1 && decide (p.1 = r.1)
theorem okPkt_v {r : T128} {p : T61} (h : okPkt r p = true) : ((0 ≤ p.1 ∧ p.1 ≤ 1000000000000) ∧ (1 ≤ r.2.1 ∧ r.2.1 ≤ 8) ∧ (1 ≤ r.2.2.1 ∧ r.2.2.1 ≤ 16)) ∧ LA.VokB r.2.1.toNat p.2.1 := by
  unfold okPkt at h
  rw [Bool.and_eq_true] at h
  have h1 := validP_t h.1
  have h2 := isFmt_t h1.1
  exact ⟨h2, by have := h1.2.1; omega, (validV_t h1.2.2.2.1).2.1⟩
theorem okPkt_t {r : T128} {p : T61} (h1 : validP p r.2.1 r.2.2.1 = true) (h2 : p.1 = r.1) : okPkt r p = true := by unfold okPkt; rw [h1, decide_eq_true h2]; rfl
theorem okPkt_f {r : T128} {p : T61} (h : validP p r.2.1 r.2.2.1 = false ∨ ¬ p.1 = r.1) : okPkt r p = false := by
  unfold okPkt; rw [Bool.and_eq_false_iff]
  rcases h with h | h
  · exact .inl h
  · exact .inr (decide_eq_false h)
def recB (r : T128) (i : Nat) : Bool := okPkt r (r.2.2.2.1.getD i (0, ([], []))) && LA.insOk (cofs r.2.2.2.1) i
def validR (r : T128) : Bool := (isFmt r.1 r.2.1 r.2.2.1 && (decide (List.length r.2.2.2.1 ≤ 8) && inR r.2.2.2.2 0 1000000000000)) && allN (recB r) (List.length r.2.2.2.1)
theorem rec_vok {r : T128} {i : Nat} (hi : i ≤ r.2.2.2.1.length) (h : allN (recB r) i = true) : ∀ v ∈ (cofs r.2.2.2.1).take i, LA.VokB r.2.1.toNat v := fun v hv => by
  obtain ⟨j, hj, rfl⟩ := List.getElem_of_mem hv
  rw [List.length_take, cofs_len] at hj
  have h1 := allN_iff.1 h j (by omega)
  unfold recB at h1
  rw [Bool.and_eq_true] at h1
  have h2 := (okPkt_v h1.1).2
  rw [← cofs_at (by omega), getD_of_lt (by rw [cofs_len]; omega)] at h2
  rw [List.getElem_take]; exact h2
theorem red_to {n : Nat} {vs : List (List Int)} {i : Nat} (hi : i ≤ vs.length) (h : ∀ v ∈ vs.take i, LA.VokB n v) : LA.RedL n (LA.insTo vs i) := by
  have := (LA.insTo_ok h i (by simp; omega)).1
  rwa [insTo_take hi] at this
theorem rec_red {r : T128} {i : Nat} (hi : i ≤ r.2.2.2.1.length) (h : allN (recB r) i = true) : LA.RedL r.2.1.toNat (LA.insTo (cofs r.2.2.2.1) i) := red_to (by rw [cofs_len]; exact hi) (rec_vok hi h)
theorem insOk_at {ps : List T61} {s : Int} {i : Nat} (h : i < ps.length) : LA.insOk (cofs ps) i = insD (s, LA.insTo (cofs ps) i) (ps.getD i (0, ([], []))).2.1 := by unfold LA.insOk insD; rw [cofs_at h]
theorem insTo_next {ps : List T61} {s : Int} {i : Nat} (h : i < ps.length) : (insU (s, LA.insTo (cofs ps) i) (ps.getD i (0, ([], []))).2.1).2 = LA.insTo (cofs ps) (i + 1) := by show _ = (LA.insS _ _).1; rw [cofs_at h]; rfl
theorem recB_t {r : T128} {i : Nat} (hi : i < r.2.2.2.1.length) (h1 : validP (r.2.2.2.1.getD i (0, ([], []))) r.2.1 r.2.2.1 = true) (h2 : (r.2.2.2.1.getD i (0, ([], []))).1 = r.1) (h3 : insD (r.2.1, LA.insTo (cofs r.2.2.2.1) i) (r.2.2.2.1.getD i (0, ([], []))).2.1 = true) : recB r i = true := by
  unfold recB; rw [okPkt_t h1 h2, insOk_at hi, h3]; rfl
theorem recB_f {r : T128} {i : Nat} (hi : i < r.2.2.2.1.length) (h : validP (r.2.2.2.1.getD i (0, ([], []))) r.2.1 r.2.2.1 = false ∨ ¬ (r.2.2.2.1.getD i (0, ([], []))).1 = r.1 ∨ insD (r.2.1, LA.insTo (cofs r.2.2.2.1) i) (r.2.2.2.1.getD i (0, ([], []))).2.1 = false) : recB r i = false := by
  unfold recB; rw [Bool.and_eq_false_iff]
  rcases h with h | h | h
  · exact .inl (okPkt_f (.inl h))
  · exact .inl (okPkt_f (.inr h))
  · exact .inr (by rw [insOk_at hi, h])
theorem newBas_at {s : Int} (h : 0 ≤ s ∧ s ≤ 40) : newBas s = (s, []) := by unfold newBas; rw [if_pos (inR_true h)]
theorem validR_t {r : T128} (h : validR r = true) : ((0 ≤ r.1 ∧ r.1 ≤ 1000000000000) ∧ (1 ≤ r.2.1 ∧ r.2.1 ≤ 8) ∧ (1 ≤ r.2.2.1 ∧ r.2.2.1 ≤ 16)) ∧ List.length r.2.2.2.1 ≤ 8 ∧ (0 ≤ r.2.2.2.2 ∧ r.2.2.2.2 ≤ 1000000000000) ∧ allN (recB r) (List.length r.2.2.2.1) = true := by
  unfold validR at h
  rw [Bool.and_eq_true, Bool.and_eq_true, Bool.and_eq_true] at h
  exact ⟨isFmt_t h.1.1, of_decide_eq_true h.1.2.1, inR_t h.1.2.2, h.2⟩
theorem validR_y {r : T128} (h1 : isFmt r.1 r.2.1 r.2.2.1 = true) (h2 : List.length r.2.2.2.1 ≤ 8) (h3 : inR r.2.2.2.2 0 1000000000000 = true) : allN (recB r) (List.length r.2.2.2.1) = validR r := by unfold validR; rw [h1, decide_eq_true h2, h3]; rfl
theorem validR_n {r : T128} (h : isFmt r.1 r.2.1 r.2.2.1 = false ∨ ¬ List.length r.2.2.2.1 ≤ 8 ∨ inR r.2.2.2.2 0 1000000000000 = false ∨ allN (recB r) (List.length r.2.2.2.1) = false) : false = validR r := by
  unfold validR
  rcases h with h | h | h | h
  · rw [h]; rfl
  · rw [decide_eq_false h]; simp
  · rw [h]; simp
  · rw [h]; simp
theorem ok_rec {r : T128} (h : allN (fun j => okPkt r (r.2.2.2.1.getD j (0, ([], [])))) (List.length r.2.2.2.1) = false) : allN (recB r) (List.length r.2.2.2.1) = false := by
  rw [Bool.eq_false_iff] at *
  intro e; apply h
  rw [allN_iff] at *
  intro j hj
  have := e j hj
  unfold recB at this
  rw [Bool.and_eq_true] at this; exact this.1
theorem allN_congr {P Q : Nat → Bool} : ∀ {n : Nat}, (∀ j, j < n → P j = Q j) → allN P n = allN Q n
  | 0, _ => rfl
  | n + 1, h => by simp only [allN]; rw [allN_congr (n := n) fun j hj => h j (by omega), h n (by omega)]
theorem fit_cofs {ps : List T61} (h : Sh.fit s126 ps) : Sh.fit s97 (cofs ps) := ⟨by rw [cofs_len]; exact h.1, fun v hv => by
  obtain ⟨p, hp, rfl⟩ := List.mem_map.1 hv
  exact (h.2 p hp).2.1⟩
theorem rank_cofs {r : T128} (h : allN (fun j => okPkt r (r.2.2.2.1.getD j (0, ([], [])))) (List.length r.2.2.2.1) = true) (hl : List.length r.2.2.2.1 ≤ 8) : decide (((List.length (rowRed (cofs r.2.2.2.1)) : Nat) : Int) = ((List.length (cofs r.2.2.2.1) : Nat) : Int)) = allN (recB r) (List.length r.2.2.2.1) := by
  have hp := allN_iff.1 h
  have hv : ∀ v ∈ cofs r.2.2.2.1, LA.VokB r.2.1.toNat v := fun v hv => by
    obtain ⟨j, hj, rfl⟩ := List.getElem_of_mem hv
    rw [cofs_len] at hj
    have h2 := (okPkt_v (hp j hj)).2
    rw [← cofs_at hj, getD_of_lt (by rw [cofs_len]; exact hj)] at h2
    exact h2
  have e : allN (recB r) (List.length r.2.2.2.1) = allN (LA.insOk (cofs r.2.2.2.1)) (List.length r.2.2.2.1) := allN_congr fun j hj => by
    unfold recB; rw [hp j hj, Bool.true_and]
  rw [e, Bool.eq_iff_iff, decide_eq_true_iff, allN_iff]
  rcases Nat.eq_zero_or_pos (List.length r.2.2.2.1) with h0 | h0
  · rw [List.eq_nil_of_length_eq_zero h0]
    exact ⟨fun _ j hj => absurd hj (by simp), fun _ => rfl⟩
  · have hs := (okPkt_v (hp 0 h0)).1
    have hM : validM (cofs r.2.2.2.1) = true := by
      unfold validM
      rw [if_pos]
      · exact decide_eq_true (by rw [cofs_len]; omega)
      · rw [List.all_eq_true]; intro v hvm
        rw [Bool.and_eq_true]
        refine ⟨validV_of (hv v hvm) (by omega), decide_eq_true ?_⟩
        rw [(hv v hvm).1, (hv _ (LA.getD_in (i := 0) (by rw [cofs_len]; exact h0))).1]
    rw [rowRed_at hM, (hv _ (LA.getD_in (i := 0) (by rw [cofs_len]; exact h0))).1]
    have := LA.rank_full hv
    rw [cofs_len] at this ⊢
    rw [← this]; omega

abbrev Q_impl_IsValidRecoder := (fun (x0 : T128) => Sh.fit s128 x0)
def S_impl_IsValidRecoder : Sum := { fid := 157, dom := [s128], cod := [(.bool 4)], dp := true, fz := false, pre := fun x => Q_impl_IsValidRecoder x.1, g := fun x => ((validR x.1), ()) }
def S_impl_IsValidRecoder_tab : List (Nat × Sum) := [(228, S_impl_isFormat), (107, S_impl_InRange), (134, S_impl_NewBasis), (230, S_impl_IsValidPacket), (219, S__P_impl_Basis_insert)]
theorem S_impl_IsValidRecoder_ok : FnOK Try.prog 157 S_impl_IsValidRecoder := by
 refine at_enter 57 (fun x => ⟨[(0, aG [cI x.1.1, cI x.1.2.1, cI x.1.2.2.1, .ro s61 x.1.2.2.2.1, cI x.1.2.2.2.2])], []⟩) Try.func157 rfl (by kernel_rfl) (fun x => rfl) ?_
 rintro w0 Z0 ⟨x0, u⟩ a w
 revert x0
 intro (x0 : T128) hpre hlens h
 replace h : At w0 Z0 [] 57 ⟨[(0, aG [cI x0.1, cI x0.2.1, cI x0.2.2.1, .ro s61 x0.2.2.2.1, cI x0.2.2.2.2])], []⟩ a w := h
 replace hpre : Q_impl_IsValidRecoder x0 := hpre
 have hl1 : List.length x0.2.2.2.1 ≤ 9223372036854775807 := hlens.1.2.2.2.1.1
 have hT : TabOK Try.prog S_impl_IsValidRecoder_tab := (.cons S_impl_isFormat_ok (.cons S_impl_InRange_ok (.cons S_impl_NewBasis_ok (.cons S_impl_IsValidPacket_ok (.cons S__P_impl_Basis_insert_ok .nil)))))
 have hf0 : Sh.fit s128 x0 := hpre
 have hn0_1 : List.length x0.2.2.2.1 ≤ 1073741824 := hf0.2.2.2.1.1
 refine wp_seq ?_
 refine at_regq [{ ids := [1] }] { ts := [1, 2], os := [1] } [] gamOK hT h (by kernel_rfl) trivial fun a w h => then_normal (wp_seq (wp_seq ?_))
 rcases Bool.eq_false_or_eq_true (!(isFmt x0.1 x0.2.1 x0.2.2.1)) with h1 | h1
 ·have hzh1 : (isFmt x0.1 x0.2.1 x0.2.2.1) = false := notT h1
  refine at_regq [{}, {}, {}, {}, {}, {}, {}, { hint := some (aB true) }] { ts := [1, 2, 25], os := [1] } [True, (AV.p (.c (.v (.bool (!(isFmt x0.1 x0.2.1 x0.2.2.1))))) = AV.p (.c (.v (.bool true))))] gamOK hT h (by kernel_rfl) ⟨trivial, hint_bool (h1), trivial⟩ fun a w h => then_normal ?_
  refine at_test true h (by kernel_rfl) (fun hh => ?_) (fun hh => nomatch hh)
  refine wp_seq ?_
  refine at_regq [] { ts := [1, 2], os := [1] } [] gamOK hT h (by kernel_rfl) trivial fun a w h => then_normal (wp_ret (then_ret ?_))
  exact at_return (S := S_impl_IsValidRecoder) (x := (x0, ())) (false, ()) [] h (by kernel_rfl) trivial (congrArg (fun z => (z, ())) (show (false) = validR x0 from by (first | (rw [← validR_y (by assumption) (by omega) (by assumption)]; symm; assumption) | exact validR_n (by first | (left; assumption) | (right; left; omega) | (right; right; left; assumption) | (right; right; right; assumption) | (right; right; right; exact ok_rec (by assumption))))))
 ·have hzh1 : (isFmt x0.1 x0.2.1 x0.2.2.1) = true := notF h1
  have hvh1 := isFmt_t (notF h1)
  by_cases h2 : ((List.length x0.2.2.2.1 : Nat) : Int) > 8
  ·refine at_regq [{}, {}, {}, {}, {}, {}, {}, { hint := some (aB false) }, {}, {}, {}, {}, { hint := some (aB true) }] { ts := [1, 2, 25], os := [1] } [True, (AV.p (.c (.v (.bool (!(isFmt x0.1 x0.2.1 x0.2.2.1))))) = AV.p (.c (.v (.bool false)))), (AV.p (.c (.v (.bool (decide (((List.length x0.2.2.2.1 : Nat) : Int) > 8))))) = AV.p (.c (.v (.bool true))))] gamOK hT h (by kernel_rfl) ⟨trivial, hint_bool (h1), hint_bool (decide_eq_true h2), trivial⟩ fun a w h => then_normal ?_
   refine at_test true h (by kernel_rfl) (fun hh => ?_) (fun hh => nomatch hh)
   refine wp_seq ?_
   refine at_regq [] { ts := [1, 2], os := [1] } [] gamOK hT h (by kernel_rfl) trivial fun a w h => then_normal (wp_ret (then_ret ?_))
   exact at_return (S := S_impl_IsValidRecoder) (x := (x0, ())) (false, ()) [] h (by kernel_rfl) trivial (congrArg (fun z => (z, ())) (show (false) = validR x0 from by (first | (rw [← validR_y (by assumption) (by omega) (by assumption)]; symm; assumption) | exact validR_n (by first | (left; assumption) | (right; left; omega) | (right; right; left; assumption) | (right; right; right; assumption) | (right; right; right; exact ok_rec (by assumption))))))
  ·refine at_regq [{}, {}, {}, {}, {}, {}, {}, { hint := some (aB false) }, {}, {}, {}, {}, { hint := some (aB false) }] { ts := [1, 2, 25], os := [1] } [True, (AV.p (.c (.v (.bool (!(isFmt x0.1 x0.2.1 x0.2.2.1))))) = AV.p (.c (.v (.bool false)))), (AV.p (.c (.v (.bool (decide (((List.length x0.2.2.2.1 : Nat) : Int) > 8))))) = AV.p (.c (.v (.bool false)))), True] gamOK hT h (by kernel_rfl) ⟨trivial, hint_bool (h1), hint_bool (decide_eq_false h2), trivial, trivial⟩ fun a w h => then_normal ?_
   refine at_test (!(inR x0.2.2.2.2 0 1000000000000)) h (by kernel_rfl) (fun h3 => ?_) (fun h3 => ?_)
   ·replace h3 : (inR x0.2.2.2.2 0 1000000000000) = false := notT h3
    have hvh3 := inR_f h3
    refine wp_seq ?_
    refine at_regq [] { ts := [1, 2], os := [1] } [] gamOK hT h (by kernel_rfl) trivial fun a w h => then_normal (wp_ret (then_ret ?_))
    exact at_return (S := S_impl_IsValidRecoder) (x := (x0, ())) (false, ()) [] h (by kernel_rfl) trivial (congrArg (fun z => (z, ())) (show (false) = validR x0 from by (first | (rw [← validR_y (by assumption) (by omega) (by assumption)]; symm; assumption) | exact validR_n (by first | (left; assumption) | (right; left; omega) | (right; right; left; assumption) | (right; right; right; assumption) | (right; right; right; exact ok_rec (by assumption))))))
   ·replace h3 : (inR x0.2.2.2.2 0 1000000000000) = true := notF h3
    have hvh3 := inR_t h3
    refine wp_skip (then_normal (wp_seq ?_))
    refine at_regq [{}, {}, { ids := [2] }, { ids := [3] }] { ts := [1, 2, 3], os := [1, 2, 3] } [True] gamOK hT h (by kernel_rfl) ⟨trivial, trivial⟩ fun a w h => then_normal (wp_seq (wp_seq ?_))
    refine at_regq [] { ts := [1, 2, 3, 30, 31, 32], os := [1, 2, 3] } [] gamOK hT h (by kernel_rfl) trivial fun a w h => then_normal (wp_block ?_)
    replace h := at_out (σ' := ⟨[(1, aP 1 0), (2, aB false), (3, aP 3 0), (30, aF s61 x0.2.2.2.1), (31, aI ((List.length x0.2.2.2.1 : Nat) : Int)), (32, aI 0)], [(1, oX 128 [cI x0.1, cI x0.2.1, cI x0.2.2.1, .ro s61 x0.2.2.2.1, cI x0.2.2.2.2]), (2, oR s22 (newBas x0.2.1).2), (3, oX 101 [cI (newBas x0.2.1).1, .sl 2])]⟩) { ts := [1, 2, 3, 30, 31, 32], os := [1, 2, 3] } h (by kernel_rfl)
    refine at_loop (fun i : Nat => (⟨[(1, aP 1 0), (2, aB false), (3, aP 3 0), (30, aF s61 x0.2.2.2.1), (31, aI ((List.length x0.2.2.2.1 : Nat) : Int)), (32, aI ((i : Nat) : Int))], [(1, oX 128 [cI x0.1, cI x0.2.1, cI x0.2.2.1, .ro s61 x0.2.2.2.1, cI x0.2.2.2.2]), (2, oR s22 (LA.insTo (cofs x0.2.2.2.1) i)), (3, oX 101 [cI x0.2.1, .sl 2])]⟩ : St)) (fun i => (i ≤ (List.length x0.2.2.2.1) ∧ allN (recB x0) i = true)) (fun i => (List.length x0.2.2.2.1) - i) (0) h (st_congr3 (fun (d0 : Int) (d1 : List (List Int)) (d2 : Int) => (⟨[(1, aP 1 0), (2, aB false), (3, aP 3 0), (30, aF s61 x0.2.2.2.1), (31, aI ((List.length x0.2.2.2.1 : Nat) : Int)), (32, aI d2)], [(1, oX 128 [cI x0.1, cI x0.2.1, cI x0.2.2.1, .ro s61 x0.2.2.2.1, cI x0.2.2.2.2]), (2, oR s22 d1), (3, oX 101 [cI d0, .sl 2])]⟩ : St)) (show ((newBas x0.2.1).1 : Int) = x0.2.1 from by first | with_reducible rfl | (first | rfl | (rw [newBas_at (by omega)]; done) | (rw [newBas_at (by omega)]; rfl)) | rfl) (show ((newBas x0.2.1).2 : List (List Int)) = (LA.insTo (cofs x0.2.2.2.1) (0)) from by first | with_reducible rfl | (first | rfl | (rw [newBas_at (by omega)]; done) | (rw [newBas_at (by omega)]; rfl)) | rfl) (show (0 : Int) = (((0) : Nat) : Int) from by first | with_reducible rfl | (first | rfl | (rw [newBas_at (by omega)]; done) | (rw [newBas_at (by omega)]; rfl)) | rfl)) (by exact ⟨Nat.zero_le _, rfl⟩) ?_
    intro i a w hok0 h
    refine wp_seq ?_
    refine at_regq [] { ts := [1, 2, 3, 30, 31, 32, 33], os := [1, 2, 3] } [] gamOK hT h (by kernel_rfl) trivial fun a w h => then_normal (wp_seq ?_)
    refine at_test (decide (((i : Nat) : Int) < ((List.length x0.2.2.2.1 : Nat) : Int))) h (by kernel_rfl) (fun h4 => ?_) (fun h4 => ?_)
    ·replace h4 : ((i : Nat) : Int) < ((List.length x0.2.2.2.1 : Nat) : Int) := of_decide_eq_true h4
     have hred := rec_red (r := x0) hok0.1 hok0.2
     have hbP : basP (x0.2.1, (LA.insTo (cofs x0.2.2.2.1) i)) := ⟨by omega, hred⟩
     refine wp_skip (then_normal (wp_seq (wp_block (wp_seq ?_))))
     refine at_regq [{}, {}, { ids := [4] }] { ts := [1, 2, 3, 5, 30, 31, 32], os := [1, 2, 3, 4] } [(0 : Int) ≤ ((i : Nat) : Int) ∧ ((i : Nat) : Int) < ((List.length x0.2.2.2.1 : Nat) : Int)] gamOK hT h (by kernel_rfl) ⟨(by refine ⟨?_, ?_⟩ <;> (first | omega | (simp only [lsA]; omega) | (simp <;> omega))), trivial⟩ fun a w h => then_normal (wp_seq ?_)
     rcases Bool.eq_false_or_eq_true (!(validP (x0.2.2.2.1.getD i (0, ([], []))) x0.2.1 x0.2.2.1)) with h5 | h5
     ·have hzh5 : (validP (x0.2.2.2.1.getD i (0, ([], []))) x0.2.1 x0.2.2.1) = false := notT h5
      refine at_regq [{}, {}, {}, {}, {}, {}, { hint := some (aB true) }] { ts := [1, 2, 3, 30, 31, 32, 44, 45, 46, 47, 48, 51, 52, 53, 54, 55], os := [1, 2, 3] } [Q_impl_IsValidPacket (x0.2.2.2.1.getD i (0, ([], []))) x0.2.1 x0.2.2.1, (AV.p (.c (.v (.bool (!(validP (x0.2.2.2.1.getD i (0, ([], []))) x0.2.1 x0.2.2.1))))) = AV.p (.c (.v (.bool true))))] gamOK hT h (by kernel_rfl) ⟨(by exact (Sh.fit_getD hf0.2.2.2.1 i)), hint_bool (h5), trivial⟩ fun a w h => then_normal ?_
      refine at_test true h (by kernel_rfl) (fun hh => ?_) (fun hh => nomatch hh)
      refine wp_seq ?_
      refine at_regq [] { ts := [1, 2, 3, 30, 31, 32, 44, 45, 46, 47, 48, 51, 52, 53, 54], os := [1, 2, 3] } [] gamOK hT h (by kernel_rfl) trivial fun a w h => then_normal (wp_ret (in_ret (then_ret ?_)))
      have hs6 : (allN (recB x0) (List.length x0.2.2.2.1)) = false := by exact allN_at (i := i) (by omega) (by exact recB_f (by omega) (by first | (left; assumption) | (right; left; omega) | (right; right; assumption)))
      refine then_ret (in_ret (then_ret ?_))
      exact at_return (S := S_impl_IsValidRecoder) (x := (x0, ())) (false, ()) [] h (by kernel_rfl) trivial (congrArg (fun z => (z, ())) (show (false) = validR x0 from by (first | (rw [← validR_y (by assumption) (by omega) (by assumption)]; symm; assumption) | exact validR_n (by first | (left; assumption) | (right; left; omega) | (right; right; left; assumption) | (right; right; right; assumption) | (right; right; right; exact ok_rec (by assumption))))))
     ·have hzh5 : (validP (x0.2.2.2.1.getD i (0, ([], []))) x0.2.1 x0.2.2.1) = true := notF h5
      have hvh5 := validP_n (notF h5)
      by_cases h7 : (x0.2.2.2.1.getD i (0, ([], []))).1 = x0.1
      ·refine at_regq [{}, {}, {}, {}, {}, {}, { hint := some (aB false) }, {}, {}, {}, {}, {}, { hint := some (aB false) }, {}, {}, {}, {}, { ids := [5] }] { ts := [1, 2, 3, 30, 31, 32, 44, 45, 46, 47, 48, 51, 52, 53, 54, 55], os := [1, 3, 4, 5] } [Q_impl_IsValidPacket (x0.2.2.2.1.getD i (0, ([], []))) x0.2.1 x0.2.2.1, (AV.p (.c (.v (.bool (!(validP (x0.2.2.2.1.getD i (0, ([], []))) x0.2.1 x0.2.2.1))))) = AV.p (.c (.v (.bool false)))), (AV.p (.c (.v (.bool (!decide ((x0.2.2.2.1.getD i (0, ([], []))).1 = x0.1))))) = AV.p (.c (.v (.bool false)))), Q__P_impl_Basis_insert (x0.2.1, (LA.insTo (cofs x0.2.2.2.1) i)) (x0.2.2.2.1.getD i (0, ([], []))).2.1] gamOK hT h (by kernel_rfl) ⟨(by exact (Sh.fit_getD hf0.2.2.2.1 i)), hint_bool (h5), hint_bool (ndT h7), (by (have hpv := validP_t (p := (x0.2.2.2.1.getD i (0, ([], [])))) (by assumption); have hrw : LA.VokB x0.2.1.toNat (x0.2.2.2.1.getD i (0, ([], []))).2.1 := ⟨by have := hpv.2.1; omega, (validV_t hpv.2.2.2.1).2.1⟩; exact ⟨basP_fit hbP, fitV hrw (by omega), hbP, hrw⟩)), trivial⟩ fun a w h => then_normal ?_
       refine at_test (!(insD (x0.2.1, (LA.insTo (cofs x0.2.2.2.1) i)) (x0.2.2.2.1.getD i (0, ([], []))).2.1)) h (by kernel_rfl) (fun h8 => ?_) (fun h8 => ?_)
       ·replace h8 : (insD (x0.2.1, (LA.insTo (cofs x0.2.2.2.1) i)) (x0.2.2.2.1.getD i (0, ([], []))).2.1) = false := notT h8
        refine wp_seq ?_
        refine at_regq [] { ts := [1, 2, 3, 30, 31, 32, 44, 45, 46, 47, 48, 51, 52, 53, 54], os := [1, 3, 4, 5] } [] gamOK hT h (by kernel_rfl) trivial fun a w h => then_normal (wp_ret (in_ret (then_ret ?_)))
        have hs9 : (allN (recB x0) (List.length x0.2.2.2.1)) = false := by exact allN_at (i := i) (by omega) (by exact recB_f (by omega) (by first | (left; assumption) | (right; left; omega) | (right; right; assumption)))
        refine then_ret (in_ret (then_ret ?_))
        exact at_return (S := S_impl_IsValidRecoder) (x := (x0, ())) (false, ()) [] h (by kernel_rfl) trivial (congrArg (fun z => (z, ())) (show (false) = validR x0 from by (first | (rw [← validR_y (by assumption) (by omega) (by assumption)]; symm; assumption) | exact validR_n (by first | (left; assumption) | (right; left; omega) | (right; right; left; assumption) | (right; right; right; assumption) | (right; right; right; exact ok_rec (by assumption))))))
       ·replace h8 : (insD (x0.2.1, (LA.insTo (cofs x0.2.2.2.1) i)) (x0.2.2.2.1.getD i (0, ([], []))).2.1) = true := notF h8
        refine wp_skip (in_normal (then_normal ?_))
        refine at_regq [{ nw := true }] { ts := [1, 2, 3, 30, 31, 32, 44, 45, 46, 47, 48, 51, 52, 53, 54], os := [1, 3, 4, 5] } [I64 (((i : Nat) : Int) + 1)] gamOK hT h (by kernel_rfl) ⟨⟨by first | omega | (simp only [lsA]; omega) | (simp <;> omega), by first | omega | (simp only [lsA]; omega) | (simp <;> omega)⟩, trivial⟩ fun a w h => ?_
        replace h := at_out (σ' := ⟨[(1, aP 1 0), (2, aB false), (3, aP 3 0), (30, aF s61 x0.2.2.2.1), (31, aI ((List.length x0.2.2.2.1 : Nat) : Int)), (32, aI (((i : Nat) : Int) + 1))], [(1, oX 128 [cI x0.1, cI x0.2.1, cI x0.2.2.1, .ro s61 x0.2.2.2.1, cI x0.2.2.2.2]), (2, oR s22 (insU (x0.2.1, (LA.insTo (cofs x0.2.2.2.1) i)) (x0.2.2.2.1.getD i (0, ([], []))).2.1).2), (3, oX 101 [cI (insU (x0.2.1, (LA.insTo (cofs x0.2.2.2.1) i)) (x0.2.2.2.1.getD i (0, ([], []))).2.1).1, .sl 2])]⟩) { ts := [1, 2, 3, 30, 31, 32], os := [1, 5, 3], rn := [(5, 2)] } h (by kernel_rfl)
        exact ⟨i + 1, at_eq h (st_congr3 (fun (d0 : Int) (d1 : List (List Int)) (d2 : Int) => (⟨[(1, aP 1 0), (2, aB false), (3, aP 3 0), (30, aF s61 x0.2.2.2.1), (31, aI ((List.length x0.2.2.2.1 : Nat) : Int)), (32, aI d2)], [(1, oX 128 [cI x0.1, cI x0.2.1, cI x0.2.2.1, .ro s61 x0.2.2.2.1, cI x0.2.2.2.2]), (2, oR s22 d1), (3, oX 101 [cI d0, .sl 2])]⟩ : St)) (show ((insU (x0.2.1, (LA.insTo (cofs x0.2.2.2.1) i)) (x0.2.2.2.1.getD i (0, ([], []))).2.1).1 : Int) = x0.2.1 from by first | with_reducible rfl | (rfl) | rfl) (show ((insU (x0.2.1, (LA.insTo (cofs x0.2.2.2.1) i)) (x0.2.2.2.1.getD i (0, ([], []))).2.1).2 : List (List Int)) = (LA.insTo (cofs x0.2.2.2.1) (i + 1)) from by first | with_reducible rfl | (exact insTo_next (by omega)) | rfl) (show (((i : Nat) : Int) + 1 : Int) = (((i + 1) : Nat) : Int) from by first | with_reducible rfl | (omega) | rfl)), (by exact ⟨by omega, allN_succ hok0.2 (by exact recB_t (by omega) (by assumption) (by omega) (by assumption))⟩), (by omega)⟩
      ·refine at_regq [{}, {}, {}, {}, {}, {}, { hint := some (aB false) }, {}, {}, {}, {}, {}, { hint := some (aB true) }] { ts := [1, 2, 3, 30, 31, 32, 44, 45, 46, 47, 48, 51, 52, 53, 54, 55], os := [1, 2, 3, 4] } [Q_impl_IsValidPacket (x0.2.2.2.1.getD i (0, ([], []))) x0.2.1 x0.2.2.1, (AV.p (.c (.v (.bool (!(validP (x0.2.2.2.1.getD i (0, ([], []))) x0.2.1 x0.2.2.1))))) = AV.p (.c (.v (.bool false)))), (AV.p (.c (.v (.bool (!decide ((x0.2.2.2.1.getD i (0, ([], []))).1 = x0.1))))) = AV.p (.c (.v (.bool true))))] gamOK hT h (by kernel_rfl) ⟨(by exact (Sh.fit_getD hf0.2.2.2.1 i)), hint_bool (h5), hint_bool (ndF h7), trivial⟩ fun a w h => then_normal ?_
       refine at_test true h (by kernel_rfl) (fun hh => ?_) (fun hh => nomatch hh)
       refine wp_seq ?_
       refine at_regq [] { ts := [1, 2, 3, 30, 31, 32, 44, 45, 46, 47, 48, 51, 52, 53, 54], os := [1, 2, 3, 4] } [] gamOK hT h (by kernel_rfl) trivial fun a w h => then_normal (wp_ret (in_ret (then_ret ?_)))
       have hs10 : (allN (recB x0) (List.length x0.2.2.2.1)) = false := by exact allN_at (i := i) (by omega) (by exact recB_f (by omega) (by first | (left; assumption) | (right; left; omega) | (right; right; assumption)))
       refine then_ret (in_ret (then_ret ?_))
       exact at_return (S := S_impl_IsValidRecoder) (x := (x0, ())) (false, ()) [] h (by kernel_rfl) trivial (congrArg (fun z => (z, ())) (show (false) = validR x0 from by (first | (rw [← validR_y (by assumption) (by omega) (by assumption)]; symm; assumption) | exact validR_n (by first | (left; assumption) | (right; left; omega) | (right; right; left; assumption) | (right; right; right; assumption) | (right; right; right; exact ok_rec (by assumption))))))
    ·replace h4 : ¬ (((i : Nat) : Int) < ((List.length x0.2.2.2.1 : Nat) : Int)) := of_decide_eq_false h4
     refine wp_exit (then_exit ?_)
     have hs11 : (allN (recB x0) (List.length x0.2.2.2.1)) = true := by exact allN_eq (by omega) hok0.1 hok0.2
     refine then_exit (in_hit (then_normal (wp_seq ?_)))
     refine at_regq [] { ts := [2], os := [] } [] gamOK hT h (by kernel_rfl) trivial fun a w h => then_normal (wp_ret ?_)
     exact at_return (S := S_impl_IsValidRecoder) (x := (x0, ())) (true, ()) [] h (by kernel_rfl) trivial (congrArg (fun z => (z, ())) (show (true) = validR x0 from by (first | (rw [← validR_y (by assumption) (by omega) (by assumption)]; symm; assumption) | exact validR_n (by first | (left; assumption) | (right; left; omega) | (right; right; left; assumption) | (right; right; right; assumption) | (right; right; right; exact ok_rec (by assumption))))))

def D_spec_Rank := (fun (m : List (List Int)) => ((List.length (rowRed m) : Nat) : Int))
abbrev Q_spec_Rank := (fun (x0 : (List (List Int))) => Sh.fit s97 x0)
def S_spec_Rank : Sum := { fid := 234, dom := [s97], cod := [(.int 3)], dp := true, fz := false, pre := fun x => Q_spec_Rank x.1, g := fun x => ((D_spec_Rank x.1), ()) }
def S_spec_Rank_tab : List (Nat × Sum) := [(280, S_spec_RowReduce)]
theorem S_spec_Rank_ok : FnOK Try.prog 234 S_spec_Rank := by
 refine at_enter 6 (fun x => ⟨[(0, aF s22 x.1)], []⟩) Try.func234 rfl (by kernel_rfl) (fun x => rfl) ?_
 rintro w0 Z0 ⟨x0, u⟩ a w
 revert x0
 intro (x0 : (List (List Int))) hpre hlens h
 replace h : At w0 Z0 [] 6 ⟨[(0, aF s22 x0)], []⟩ a w := h
 replace hpre : Q_spec_Rank x0 := hpre
 have hl1 : List.length x0 ≤ 9223372036854775807 := hlens.1.1
 have hT : TabOK Try.prog S_spec_Rank_tab := (.cons S_spec_RowReduce_ok .nil)
 have hf0 : Sh.fit s97 x0 := hpre
 have hn0_1 : List.length x0 ≤ 1073741824 := hf0.1
 refine wp_seq ?_
 refine at_regq [] { ts := [0, 2], os := [] } [] gamOK hT h (by kernel_rfl) trivial fun a w h => then_normal (wp_seq ?_)
 refine at_regq [{}, { ids := [1] }] { ts := [2], os := [] } [Q_spec_RowReduce x0] gamOK hT h (by kernel_rfl) ⟨(by exact hf0), trivial⟩ fun a w h => then_normal (wp_ret ?_)
 exact at_return (S := S_spec_Rank) (x := (x0, ())) (((List.length (rowRed x0) : Nat) : Int), ()) [] h (by kernel_rfl) trivial (congrArg (fun z => (z, ())) (show (((List.length (rowRed x0) : Nat) : Int)) = D_spec_Rank x0 from by unfold D_spec_Rank; rfl))

abbrev Q_spec_IsValidRecoder := (fun (x0 : T128) => Sh.fit s128 x0)
def S_spec_IsValidRecoder : Sum := { fid := 151, dom := [s128], cod := [(.bool 4)], dp := true, fz := false, pre := fun x => Q_spec_IsValidRecoder x.1, g := fun x => ((validR x.1), ()) }
def S_spec_IsValidRecoder_tab : List (Nat × Sum) := [(220, S_spec_l14Range), (103, S_spec_l1In), (142, S_spec_IsValidPacket), (234, S_spec_Rank)]
theorem S_spec_IsValidRecoder_ok : FnOK Try.prog 151 S_spec_IsValidRecoder := by
 refine at_enter 69 (fun x => ⟨[(0, aG [cI x.1.1, cI x.1.2.1, cI x.1.2.2.1, .ro s61 x.1.2.2.2.1, cI x.1.2.2.2.2])], []⟩) Try.func151 rfl (by kernel_rfl) (fun x => rfl) ?_
 rintro w0 Z0 ⟨x0, u⟩ a w
 revert x0
 intro (x0 : T128) hpre hlens h
 replace h : At w0 Z0 [] 69 ⟨[(0, aG [cI x0.1, cI x0.2.1, cI x0.2.2.1, .ro s61 x0.2.2.2.1, cI x0.2.2.2.2])], []⟩ a w := h
 replace hpre : Q_spec_IsValidRecoder x0 := hpre
 have hl1 : List.length x0.2.2.2.1 ≤ 9223372036854775807 := hlens.1.2.2.2.1.1
 have hT : TabOK Try.prog S_spec_IsValidRecoder_tab := (.cons S_spec_l14Range_ok (.cons S_spec_l1In_ok (.cons S_spec_IsValidPacket_ok (.cons S_spec_Rank_ok .nil))))
 have hf0 : Sh.fit s128 x0 := hpre
 have hn0_1 : List.length x0.2.2.2.1 ≤ 1073741824 := hf0.2.2.2.1.1
 refine wp_seq ?_
 refine at_regq [{ ids := [1] }] { ts := [1, 2], os := [1] } [] gamOK hT h (by kernel_rfl) trivial fun a w h => then_normal (wp_seq (wp_seq ?_))
 rcases Bool.eq_false_or_eq_true (!(isFmt x0.1 x0.2.1 x0.2.2.1)) with h1 | h1
 ·have hzh1 : (isFmt x0.1 x0.2.1 x0.2.2.1) = false := notT h1
  refine at_regq [{}, {}, {}, {}, {}, {}, {}, { hint := some (aB true) }] { ts := [1, 2, 24], os := [1] } [True, (AV.p (.c (.v (.bool (!(isFmt x0.1 x0.2.1 x0.2.2.1))))) = AV.p (.c (.v (.bool true))))] gamOK hT h (by kernel_rfl) ⟨trivial, hint_bool (h1), trivial⟩ fun a w h => then_normal ?_
  refine at_test true h (by kernel_rfl) (fun hh => ?_) (fun hh => nomatch hh)
  refine wp_seq ?_
  refine at_regq [] { ts := [1, 2], os := [1] } [] gamOK hT h (by kernel_rfl) trivial fun a w h => then_normal (wp_ret (then_ret ?_))
  exact at_return (S := S_spec_IsValidRecoder) (x := (x0, ())) (false, ()) [] h (by kernel_rfl) trivial (congrArg (fun z => (z, ())) (show (false) = validR x0 from by (first | (rw [← validR_y (by assumption) (by omega) (by assumption)]; exact rank_cofs (by assumption) (by omega)) | exact validR_n (by first | (left; assumption) | (right; left; omega) | (right; right; left; assumption) | (right; right; right; assumption) | (right; right; right; exact ok_rec (by assumption))))))
 ·have hzh1 : (isFmt x0.1 x0.2.1 x0.2.2.1) = true := notF h1
  have hvh1 := isFmt_t (notF h1)
  by_cases h2 : ((List.length x0.2.2.2.1 : Nat) : Int) > 8
  ·refine at_regq [{}, {}, {}, {}, {}, {}, {}, { hint := some (aB false) }, {}, {}, {}, {}, { hint := some (aB true) }] { ts := [1, 2, 24], os := [1] } [True, (AV.p (.c (.v (.bool (!(isFmt x0.1 x0.2.1 x0.2.2.1))))) = AV.p (.c (.v (.bool false)))), (AV.p (.c (.v (.bool (decide (((List.length x0.2.2.2.1 : Nat) : Int) > 8))))) = AV.p (.c (.v (.bool true))))] gamOK hT h (by kernel_rfl) ⟨trivial, hint_bool (h1), hint_bool (decide_eq_true h2), trivial⟩ fun a w h => then_normal ?_
   refine at_test true h (by kernel_rfl) (fun hh => ?_) (fun hh => nomatch hh)
   refine wp_seq ?_
   refine at_regq [] { ts := [1, 2], os := [1] } [] gamOK hT h (by kernel_rfl) trivial fun a w h => then_normal (wp_ret (then_ret ?_))
   exact at_return (S := S_spec_IsValidRecoder) (x := (x0, ())) (false, ()) [] h (by kernel_rfl) trivial (congrArg (fun z => (z, ())) (show (false) = validR x0 from by (first | (rw [← validR_y (by assumption) (by omega) (by assumption)]; exact rank_cofs (by assumption) (by omega)) | exact validR_n (by first | (left; assumption) | (right; left; omega) | (right; right; left; assumption) | (right; right; right; assumption) | (right; right; right; exact ok_rec (by assumption))))))
  ·refine at_regq [{}, {}, {}, {}, {}, {}, {}, { hint := some (aB false) }, {}, {}, {}, {}, { hint := some (aB false) }] { ts := [1, 2, 24], os := [1] } [True, (AV.p (.c (.v (.bool (!(isFmt x0.1 x0.2.1 x0.2.2.1))))) = AV.p (.c (.v (.bool false)))), (AV.p (.c (.v (.bool (decide (((List.length x0.2.2.2.1 : Nat) : Int) > 8))))) = AV.p (.c (.v (.bool false)))), True] gamOK hT h (by kernel_rfl) ⟨trivial, hint_bool (h1), hint_bool (decide_eq_false h2), trivial, trivial⟩ fun a w h => then_normal ?_
   refine at_test (!(inR x0.2.2.2.2 0 1000000000000)) h (by kernel_rfl) (fun h3 => ?_) (fun h3 => ?_)
   ·replace h3 : (inR x0.2.2.2.2 0 1000000000000) = false := notT h3
    have hvh3 := inR_f h3
    refine wp_seq ?_
    refine at_regq [] { ts := [1, 2], os := [1] } [] gamOK hT h (by kernel_rfl) trivial fun a w h => then_normal (wp_ret (then_ret ?_))
    exact at_return (S := S_spec_IsValidRecoder) (x := (x0, ())) (false, ()) [] h (by kernel_rfl) trivial (congrArg (fun z => (z, ())) (show (false) = validR x0 from by (first | (rw [← validR_y (by assumption) (by omega) (by assumption)]; exact rank_cofs (by assumption) (by omega)) | exact validR_n (by first | (left; assumption) | (right; left; omega) | (right; right; left; assumption) | (right; right; right; assumption) | (right; right; right; exact ok_rec (by assumption))))))
   ·replace h3 : (inR x0.2.2.2.2 0 1000000000000) = true := notF h3
    have hvh3 := inR_t h3
    refine wp_skip (then_normal (wp_seq ?_))
    refine at_regq [{ ids := [2], dp := false }] { ts := [1, 2, 3], os := [1, 2] } [] gamOK hT h (by kernel_rfl) trivial fun a w h => then_normal (wp_seq (wp_seq ?_))
    refine at_regq [] { ts := [1, 2, 3, 4], os := [1, 2] } [] gamOK hT h (by kernel_rfl) trivial fun a w h => then_normal (wp_block ?_)
    replace h := at_out (σ' := ⟨[(1, aP 1 0), (2, aB false), (3, aS 2), (4, aI 0)], [(1, oX 128 [cI x0.1, cI x0.2.1, cI x0.2.2.1, .ro s61 x0.2.2.2.1, cI x0.2.2.2.2]), (2, oF s22 ([] : List (List Int)))]⟩) { ts := [1, 2, 3, 4], os := [1, 2] } h (by kernel_rfl)
    refine at_loop (fun i : Nat => (⟨[(1, aP 1 0), (2, aB false), (3, aS 2), (4, aI ((i : Nat) : Int))], [(1, oX 128 [cI x0.1, cI x0.2.1, cI x0.2.2.1, .ro s61 x0.2.2.2.1, cI x0.2.2.2.2]), (2, oF s22 (cofs (List.take i x0.2.2.2.1)))]⟩ : St)) (fun i => (i ≤ (List.length x0.2.2.2.1) ∧ allN (fun j => okPkt x0 (x0.2.2.2.1.getD j (0, ([], [])))) i = true)) (fun i => (List.length x0.2.2.2.1) - i) (0) h (st_congr2 (fun (d0 : List (List Int)) (d1 : Int) => (⟨[(1, aP 1 0), (2, aB false), (3, aS 2), (4, aI d1)], [(1, oX 128 [cI x0.1, cI x0.2.1, cI x0.2.2.1, .ro s61 x0.2.2.2.1, cI x0.2.2.2.2]), (2, oF s22 d0)]⟩ : St)) (show (([] : List (List Int)) : List (List Int)) = (cofs (List.take (0) x0.2.2.2.1)) from by first | with_reducible rfl | (rfl) | rfl) (show (0 : Int) = (((0) : Nat) : Int) from by first | with_reducible rfl | (rfl) | rfl)) (by exact ⟨Nat.zero_le _, rfl⟩) ?_
    intro i a w hok0 h
    have hcl := cofs_len (List.take i x0.2.2.2.1)
    have hlt := len_take_le (xs := x0.2.2.2.1) i
    refine wp_seq (wp_seq ?_)
    refine at_regq [] { ts := [1, 2, 3, 4, 30], os := [1, 2] } [] gamOK hT h (by kernel_rfl) trivial fun a w h => then_normal ?_
    refine at_test (decide (((i : Nat) : Int) < ((List.length x0.2.2.2.1 : Nat) : Int))) h (by kernel_rfl) (fun h4 => ?_) (fun h4 => ?_)
    ·replace h4 : ((i : Nat) : Int) < ((List.length x0.2.2.2.1 : Nat) : Int) := of_decide_eq_true h4
     refine wp_skip (then_normal (wp_seq (wp_block (wp_seq (wp_seq ?_)))))
     rcases Bool.eq_false_or_eq_true (!(validP (x0.2.2.2.1.getD i (0, ([], []))) x0.2.1 x0.2.2.1)) with h5 | h5
     ·have hzh5 : (validP (x0.2.2.2.1.getD i (0, ([], []))) x0.2.1 x0.2.2.1) = false := notT h5
      refine at_anyq [{}, {}, {}, {}, {}, {}, {}, {}, {}, {}, { hint := some (aB true) }, {}, {}, {}, {}, {}, {}, {}, {}, {}, {}, {}] { ts := [1, 2, 3, 4, 45, 46, 47, 48, 49, 50, 51, 52, 53, 54], os := [1, 2] } [(0 : Int) ≤ ((i : Nat) : Int) ∧ ((i : Nat) : Int) < ((List.length x0.2.2.2.1 : Nat) : Int), Q_spec_IsValidPacket (x0.2.2.2.1.getD i (0, ([], []))) x0.2.1 x0.2.2.1, (AV.p (.c (.v (.bool (!(validP (x0.2.2.2.1.getD i (0, ([], []))) x0.2.1 x0.2.2.1))))) = AV.p (.c (.v (.bool true))))] gamOK hT mixed h (by kernel_rfl) ⟨(by refine ⟨?_, ?_⟩ <;> (first | omega | (simp only [lsA]; omega) | (simp <;> omega))), (by exact (Sh.fit_getD hf0.2.2.2.1 i)), hint_bool (h5), trivial⟩ fun a w h => then_normal ?_
      refine at_test true h (by kernel_rfl) (fun hh => ?_) (fun hh => nomatch hh)
      refine wp_seq ?_
      refine at_regq [] { ts := [1, 2, 3, 4, 45, 46, 47, 48, 49, 50, 51, 52, 53], os := [1, 2] } [] gamOK hT h (by kernel_rfl) trivial fun a w h => then_normal (wp_ret (then_ret (in_ret (then_ret ?_))))
      have hs6 : (allN (fun j => okPkt x0 (x0.2.2.2.1.getD j (0, ([], [])))) (List.length x0.2.2.2.1)) = false := by exact allN_at (i := i) (by omega) (by exact okPkt_f (by first | (left; assumption) | (right; omega)))
      refine then_ret (in_ret (then_ret ?_))
      exact at_return (S := S_spec_IsValidRecoder) (x := (x0, ())) (false, ()) [] h (by kernel_rfl) trivial (congrArg (fun z => (z, ())) (show (false) = validR x0 from by (first | (rw [← validR_y (by assumption) (by omega) (by assumption)]; exact rank_cofs (by assumption) (by omega)) | exact validR_n (by first | (left; assumption) | (right; left; omega) | (right; right; left; assumption) | (right; right; right; assumption) | (right; right; right; exact ok_rec (by assumption))))))
     ·have hzh5 : (validP (x0.2.2.2.1.getD i (0, ([], []))) x0.2.1 x0.2.2.1) = true := notF h5
      have hvh5 := validP_n (notF h5)
      refine at_anyq [{}, {}, {}, {}, {}, {}, {}, {}, {}, {}, { hint := some (aB false) }, {}, {}, {}, {}, {}, {}, {}, {}, {}, {}, {}] { ts := [1, 2, 3, 4, 45, 46, 47, 48, 49, 50, 51, 52, 53, 54], os := [1, 2] } [(0 : Int) ≤ ((i : Nat) : Int) ∧ ((i : Nat) : Int) < ((List.length x0.2.2.2.1 : Nat) : Int), Q_spec_IsValidPacket (x0.2.2.2.1.getD i (0, ([], []))) x0.2.1 x0.2.2.1, (AV.p (.c (.v (.bool (!(validP (x0.2.2.2.1.getD i (0, ([], []))) x0.2.1 x0.2.2.1))))) = AV.p (.c (.v (.bool false)))), (0 : Int) ≤ ((i : Nat) : Int) ∧ ((i : Nat) : Int) < ((List.length x0.2.2.2.1 : Nat) : Int)] gamOK hT mixed h (by kernel_rfl) ⟨(by refine ⟨?_, ?_⟩ <;> (first | omega | (simp only [lsA]; omega) | (simp <;> omega))), (by exact (Sh.fit_getD hf0.2.2.2.1 i)), hint_bool (h5), (by refine ⟨?_, ?_⟩ <;> (first | omega | (simp only [lsA]; omega) | (simp <;> omega))), trivial⟩ fun a w h => then_normal ?_
      refine at_test (!decide ((x0.2.2.2.1.getD i (0, ([], []))).1 = x0.1)) h (by kernel_rfl) (fun h7 => ?_) (fun h7 => ?_)
      ·replace h7 : ¬ ((x0.2.2.2.1.getD i (0, ([], []))).1 = x0.1) := of_decide_eq_false (notT h7)
       refine wp_seq ?_
       refine at_regq [] { ts := [1, 2, 3, 4, 45, 46, 47, 48, 49, 50, 51, 52, 53], os := [1, 2] } [] gamOK hT h (by kernel_rfl) trivial fun a w h => then_normal (wp_ret (then_ret (in_ret (then_ret ?_))))
       have hs8 : (allN (fun j => okPkt x0 (x0.2.2.2.1.getD j (0, ([], [])))) (List.length x0.2.2.2.1)) = false := by exact allN_at (i := i) (by omega) (by exact okPkt_f (by first | (left; assumption) | (right; omega)))
       refine then_ret (in_ret (then_ret ?_))
       exact at_return (S := S_spec_IsValidRecoder) (x := (x0, ())) (false, ()) [] h (by kernel_rfl) trivial (congrArg (fun z => (z, ())) (show (false) = validR x0 from by (first | (rw [← validR_y (by assumption) (by omega) (by assumption)]; exact rank_cofs (by assumption) (by omega)) | exact validR_n (by first | (left; assumption) | (right; left; omega) | (right; right; left; assumption) | (right; right; right; assumption) | (right; right; right; exact ok_rec (by assumption))))))
      ·replace h7 : (x0.2.2.2.1.getD i (0, ([], []))).1 = x0.1 := of_decide_eq_true (notF h7)
       refine wp_skip (then_normal ?_)
       refine at_regq [{}, {}, {}, {}, {}, {}, {}, { ids := [3], dp := false }, { ids := [4] }] { ts := [1, 2, 3, 4, 45, 46, 47, 48, 49, 50, 51, 52, 53], os := [1, 4] } [(0 : Int) ≤ ((i : Nat) : Int) ∧ ((i : Nat) : Int) < ((List.length x0.2.2.2.1 : Nat) : Int), (List.length (cofs (List.take i x0.2.2.2.1)) + List.length ([(x0.2.2.2.1.getD i (0, ([], []))).2.1])) * 24 ≤ 140737488355328] gamOK hT h (by kernel_rfl) ⟨(by refine ⟨?_, ?_⟩ <;> (first | omega | (simp only [lsA]; omega) | (simp <;> omega))), (by first | omega | (simp only [lsA]; omega) | (simp <;> omega)), trivial⟩ fun a w h => in_normal (then_normal ?_)
       refine at_regq [{}, { nw := true }] { ts := [1, 2, 3, 4, 45, 46, 47, 48, 49, 50, 51, 52, 53], os := [1, 4] } [I64 (((i : Nat) : Int) + 1)] gamOK hT h (by kernel_rfl) ⟨⟨by first | omega | (simp only [lsA]; omega) | (simp <;> omega), by first | omega | (simp only [lsA]; omega) | (simp <;> omega)⟩, trivial⟩ fun a w h => ?_
       replace h := at_out (σ' := ⟨[(1, aP 1 0), (2, aB false), (3, aS 2), (4, aI (((i : Nat) : Int) + 1))], [(1, oX 128 [cI x0.1, cI x0.2.1, cI x0.2.2.1, .ro s61 x0.2.2.2.1, cI x0.2.2.2.2]), (2, oF s22 ((cofs (List.take i x0.2.2.2.1)) ++ ([(x0.2.2.2.1.getD i (0, ([], []))).2.1])))]⟩) { ts := [1, 2, 3, 4], os := [1, 4], rn := [(4, 2)] } h (by kernel_rfl)
       exact ⟨i + 1, at_eq h (st_congr2 (fun (d0 : List (List Int)) (d1 : Int) => (⟨[(1, aP 1 0), (2, aB false), (3, aS 2), (4, aI d1)], [(1, oX 128 [cI x0.1, cI x0.2.1, cI x0.2.2.1, .ro s61 x0.2.2.2.1, cI x0.2.2.2.2]), (2, oF s22 d0)]⟩ : St)) (show (((cofs (List.take i x0.2.2.2.1)) ++ ([(x0.2.2.2.1.getD i (0, ([], []))).2.1])) : List (List Int)) = (cofs (List.take (i + 1) x0.2.2.2.1)) from by first | with_reducible rfl | ((rw [take_snoc (z := (0, ([], []))) (by omega), cofs_snoc]; done)) | rfl) (show (((i : Nat) : Int) + 1 : Int) = (((i + 1) : Nat) : Int) from by first | with_reducible rfl | (omega) | rfl)), (by exact ⟨by omega, allN_succ hok0.2 (by exact okPkt_t (by assumption) (by omega))⟩), (by omega)⟩
    ·replace h4 : ¬ (((i : Nat) : Int) < ((List.length x0.2.2.2.1 : Nat) : Int)) := of_decide_eq_false h4
     refine wp_exit (then_exit ?_)
     have hs9 : (allN (fun j => okPkt x0 (x0.2.2.2.1.getD j (0, ([], [])))) (List.length x0.2.2.2.1)) = true := by exact allN_eq (by omega) hok0.1 hok0.2
     replace h := at_out (σ' := ⟨[(2, aB false), (3, aS 2)], [(2, oF s22 (cofs (List.take i x0.2.2.2.1)))]⟩) { ts := [2, 3], os := [2] } h (by kernel_rfl)
     replace h := at_eq (σ' := ⟨[(2, aB false), (3, aS 2)], [(2, oF s22 (cofs x0.2.2.2.1))]⟩) h (st_congr1 (fun (d0 : List (List Int)) => (⟨[(2, aB false), (3, aS 2)], [(2, oF s22 d0)]⟩ : St)) (show ((cofs (List.take i x0.2.2.2.1)) : List (List Int)) = (cofs x0.2.2.2.1) from by first | with_reducible rfl | (rw [take_all (by omega)]) | rfl))
     refine then_exit (in_hit (then_normal (wp_seq ?_)))
     refine at_regq [] { ts := [2], os := [] } [Q_spec_Rank (cofs x0.2.2.2.1)] gamOK hT h (by kernel_rfl) ⟨(by exact fit_cofs hf0.2.2.2.1), trivial⟩ fun a w h => then_normal (wp_ret ?_)
     exact at_return (S := S_spec_IsValidRecoder) (x := (x0, ())) (decide ((D_spec_Rank (cofs x0.2.2.2.1)) = ((List.length (cofs x0.2.2.2.1) : Nat) : Int)), ()) [] h (by kernel_rfl) trivial (congrArg (fun z => (z, ())) (show (decide ((D_spec_Rank (cofs x0.2.2.2.1)) = ((List.length (cofs x0.2.2.2.1) : Nat) : Int))) = validR x0 from by (first | (rw [← validR_y (by assumption) (by omega) (by assumption)]; exact rank_cofs (by assumption) (by omega)) | exact validR_n (by first | (left; assumption) | (right; left; omega) | (right; right; left; assumption) | (right; right; right; assumption) | (right; right; right; exact ok_rec (by assumption))))))

def cmpI (a b : Int) : Int := if a < b then -1 else if b < a then 1 else 0
theorem cmpI_lt {a b : Int} : cmpI a b < 0 ↔ a < b := by
  unfold cmpI; split
  · rename_i h; exact ⟨fun _ => h, fun _ => by decide⟩
  · rename_i h; split
    · exact ⟨fun h1 => absurd h1 (by decide), fun h1 => absurd h1 h⟩
    · exact ⟨fun h1 => absurd h1 (by decide), fun h1 => absurd h1 h⟩
theorem cmpI_eq {a b : Int} : cmpI a b = 0 ↔ a = b := by
  unfold cmpI; split
  · exact ⟨fun h1 => absurd h1 (by decide), fun h1 => by omega⟩
  · split
    · exact ⟨fun h1 => absurd h1 (by decide), fun h1 => by omega⟩
    · exact ⟨fun _ => by omega, fun _ => rfl⟩
def S_cmp_Compare_int_ : Sum := { fid := 260, dom := [(.int 3), (.int 3)], cod := [(.int 3)], dp := true, fz := false, pre := fun x => True, g := fun x => ((cmpI x.1 x.2.1), ()) }
def S_cmp_Compare_int__tab : List (Nat × Sum) := [(306, S_cmp_isNaN_int_)]
theorem S_cmp_Compare_int__ok : FnOK Try.prog 260 S_cmp_Compare_int_ := by
 refine at_enter 20 (fun x => ⟨[(0, aI x.1), (1, aI x.2.1)], []⟩) Try.func260 rfl (by kernel_rfl) (fun x => rfl) ?_
 rintro w0 Z0 ⟨x0, x1, u⟩ a w
 revert x0 x1
 intro (x0 : Int) (x1 : Int) hpre hlens h
 replace h : At w0 Z0 [] 20 ⟨[(0, aI x0), (1, aI x1)], []⟩ a w := h
 have hT : TabOK Try.prog S_cmp_Compare_int__tab := (.cons S_cmp_isNaN_int__ok .nil)
 refine wp_seq ?_
 refine at_regq [] { ts := [0, 1, 4], os := [] } [] gamOK hT h (by kernel_rfl) trivial fun a w h => then_normal (wp_seq ?_)
 refine at_regq [] { ts := [0, 1, 4, 5], os := [] } [True] gamOK hT h (by kernel_rfl) ⟨trivial, trivial⟩ fun a w h => then_normal (wp_seq ?_)
 refine at_regq [] { ts := [0, 1, 4, 5, 6], os := [] } [True] gamOK hT h (by kernel_rfl) ⟨trivial, trivial⟩ fun a w h => then_normal (wp_seq (wp_seq ?_))
 refine at_regq [] { ts := [0, 1, 4, 6, 11], os := [] } [] gamOK hT h (by kernel_rfl) trivial fun a w h => then_normal ?_
 refine at_test ((D_cmp_isNaN_int_ x0)) h (by kernel_rfl) (fun h1 => ?_) (fun h1 => ?_)
 ·refine wp_seq (wp_seq ?_)
  refine at_regq [] { ts := [0, 1, 4, 6, 12], os := [] } [] gamOK hT h (by kernel_rfl) trivial fun a w h => then_normal ?_
  refine at_test ((D_cmp_isNaN_int_ x1)) h (by kernel_rfl) (fun h2 => ?_) (fun h2 => ?_)
  ·refine wp_seq ?_
   refine at_regq [] { ts := [0, 1, 4, 6], os := [] } [] gamOK hT h (by kernel_rfl) trivial fun a w h => then_normal (wp_ret (then_ret (then_ret ?_)))
   exact at_return (S := S_cmp_Compare_int_) (x := (x0, x1, ())) (0, ()) [] h (by kernel_rfl) trivial (congrArg (fun z => (z, ())) (show (0) = cmpI x0 x1 from by (unfold cmpI; simp_all [D_cmp_isNaN_int_]; try omega)))
  ·refine wp_skip (then_normal (wp_seq ?_))
   refine at_regq [] { ts := [0, 1, 4, 6], os := [] } [] gamOK hT h (by kernel_rfl) trivial fun a w h => then_normal (wp_ret (then_ret ?_))
   exact at_return (S := S_cmp_Compare_int_) (x := (x0, x1, ())) ((-1), ()) [] h (by kernel_rfl) trivial (congrArg (fun z => (z, ())) (show ((-1)) = cmpI x0 x1 from by (unfold cmpI; simp_all [D_cmp_isNaN_int_]; try omega)))
 ·refine wp_skip (then_normal (wp_seq (wp_seq ?_)))
  refine at_regq [] { ts := [0, 1, 4, 13], os := [] } [] gamOK hT h (by kernel_rfl) trivial fun a w h => then_normal ?_
  refine at_test ((D_cmp_isNaN_int_ x1)) h (by kernel_rfl) (fun h3 => ?_) (fun h3 => ?_)
  ·refine wp_seq ?_
   refine at_regq [] { ts := [0, 1, 4], os := [] } [] gamOK hT h (by kernel_rfl) trivial fun a w h => then_normal (wp_ret (then_ret ?_))
   exact at_return (S := S_cmp_Compare_int_) (x := (x0, x1, ())) (1, ()) [] h (by kernel_rfl) trivial (congrArg (fun z => (z, ())) (show (1) = cmpI x0 x1 from by (unfold cmpI; simp_all [D_cmp_isNaN_int_]; try omega)))
  ·refine wp_skip (then_normal (wp_seq (wp_seq ?_)))
   refine at_regq [] { ts := [0, 1, 4, 16], os := [] } [] gamOK hT h (by kernel_rfl) trivial fun a w h => then_normal ?_
   refine at_test (decide (x0 < x1)) h (by kernel_rfl) (fun h4 => ?_) (fun h4 => ?_)
   ·replace h4 : x0 < x1 := of_decide_eq_true h4
    refine wp_seq ?_
    refine at_regq [] { ts := [0, 1, 4], os := [] } [] gamOK hT h (by kernel_rfl) trivial fun a w h => then_normal (wp_ret (then_ret ?_))
    exact at_return (S := S_cmp_Compare_int_) (x := (x0, x1, ())) ((-1), ()) [] h (by kernel_rfl) trivial (congrArg (fun z => (z, ())) (show ((-1)) = cmpI x0 x1 from by (unfold cmpI; simp_all [D_cmp_isNaN_int_]; try omega)))
   ·replace h4 : ¬ (x0 < x1) := of_decide_eq_false h4
    refine wp_skip (then_normal (wp_seq (wp_seq ?_)))
    refine at_regq [] { ts := [4, 19], os := [] } [] gamOK hT h (by kernel_rfl) trivial fun a w h => then_normal ?_
    refine at_test (decide (x0 > x1)) h (by kernel_rfl) (fun h5 => ?_) (fun h5 => ?_)
    ·replace h5 : x0 > x1 := of_decide_eq_true h5
     refine wp_seq ?_
     refine at_regq [] { ts := [4], os := [] } [] gamOK hT h (by kernel_rfl) trivial fun a w h => then_normal (wp_ret (then_ret ?_))
     exact at_return (S := S_cmp_Compare_int_) (x := (x0, x1, ())) (1, ()) [] h (by kernel_rfl) trivial (congrArg (fun z => (z, ())) (show (1) = cmpI x0 x1 from by (unfold cmpI; simp_all [D_cmp_isNaN_int_]; try omega)))
    ·replace h5 : ¬ (x0 > x1) := of_decide_eq_false h5
     refine wp_skip (then_normal (wp_seq ?_))
     refine at_regq [] { ts := [4], os := [] } [] gamOK hT h (by kernel_rfl) trivial fun a w h => then_normal (wp_ret ?_)
     exact at_return (S := S_cmp_Compare_int_) (x := (x0, x1, ())) (0, ()) [] h (by kernel_rfl) trivial (congrArg (fun z => (z, ())) (show (0) = cmpI x0 x1 from by (unfold cmpI; simp_all [D_cmp_isNaN_int_]; try omega)))

def validW (x0 : T85) : Bool := (if (inR x0.2.2.2 0 60) = true then (if (inR x0.1 0 x0.2.1) = true then (if x0.2.1 > x0.2.2.2 then false else (if x0.2.1 - x0.1 > 4 then false else (if (inR x0.2.2.1 0 (IntKind.i64.wrap ((IntKind.i64.wrap (1 * 2 ^ (min (x0.2.1 - x0.1 : Int).toNat (IntKind.i64).bits))) - 1))) = true then decide (IntKind.i64.wrap ((BitVec.ofInt (IntKind.i64).bits x0.2.2.1 &&& BitVec.ofInt (IntKind.i64).bits 1).toNat : Int) = 0) else false))) else false) else false)
def S_impl_IsValidWindow : Sum := { fid := 174, dom := [s85], cod := [(.bool 4)], dp := true, fz := false, pre := fun x => True, g := fun x => ((validW x.1), ()) }
def S_impl_IsValidWindow_tab : List (Nat × Sum) := [(107, S_impl_InRange)]
theorem S_impl_IsValidWindow_ok : FnOK Try.prog 174 S_impl_IsValidWindow := by
 refine at_enter 46 (fun x => ⟨[(0, aG [cI x.1.1, cI x.1.2.1, cI x.1.2.2.1, cI x.1.2.2.2])], []⟩) Try.func174 rfl (by kernel_rfl) (fun x => rfl) ?_
 rintro w0 Z0 ⟨x0, u⟩ a w
 revert x0
 intro (x0 : T85) hpre hlens h
 replace h : At w0 Z0 [] 46 ⟨[(0, aG [cI x0.1, cI x0.2.1, cI x0.2.2.1, cI x0.2.2.2])], []⟩ a w := h
 have hT : TabOK Try.prog S_impl_IsValidWindow_tab := (.cons S_impl_InRange_ok .nil)
 refine wp_seq ?_
 refine at_regq [{ ids := [1] }] { ts := [1, 2], os := [1] } [] gamOK hT h (by kernel_rfl) trivial fun a w h => then_normal (wp_seq (wp_seq ?_))
 rcases Bool.eq_false_or_eq_true (!(inR x0.2.2.2 0 60)) with h1 | h1
 ·have hzh1 : (inR x0.2.2.2 0 60) = false := notT h1
  have hvh1 := inR_f (notT h1)
  refine at_regq [{}, {}, {}, { hint := some (aB true) }] { ts := [1, 2, 29], os := [1] } [True, (AV.p (.c (.v (.bool (!(inR x0.2.2.2 0 60))))) = AV.p (.c (.v (.bool true))))] gamOK hT h (by kernel_rfl) ⟨trivial, hint_bool (h1), trivial⟩ fun a w h => then_normal ?_
  refine at_test true h (by kernel_rfl) (fun hh => ?_) (fun hh => nomatch hh)
  refine wp_seq ?_
  refine at_regq [] { ts := [1, 2], os := [1] } [] gamOK hT h (by kernel_rfl) trivial fun a w h => then_normal (wp_ret (then_ret ?_))
  exact at_return (S := S_impl_IsValidWindow) (x := (x0, ())) (false, ()) [] h (by kernel_rfl) trivial (congrArg (fun z => (z, ())) (show (false) = validW x0 from by first | rfl | (unfold validW; rw [if_neg (neT (notT h1))])))
 ·have hzh1 : (inR x0.2.2.2 0 60) = true := notF h1
  have hvh1 := inR_t (notF h1)
  rcases Bool.eq_false_or_eq_true (!(inR x0.1 0 x0.2.1)) with h2 | h2
  ·have hzh2 : (inR x0.1 0 x0.2.1) = false := notT h2
   have hvh2 := inR_f (notT h2)
   refine at_regq [{}, {}, {}, { hint := some (aB false) }, {}, {}, {}, {}, {}, {}, { hint := some (aB true) }] { ts := [1, 2, 29], os := [1] } [True, (AV.p (.c (.v (.bool (!(inR x0.2.2.2 0 60))))) = AV.p (.c (.v (.bool false)))), True, (AV.p (.c (.v (.bool (!(inR x0.1 0 x0.2.1))))) = AV.p (.c (.v (.bool true))))] gamOK hT h (by kernel_rfl) ⟨trivial, hint_bool (h1), trivial, hint_bool (h2), trivial⟩ fun a w h => then_normal ?_
   refine at_test true h (by kernel_rfl) (fun hh => ?_) (fun hh => nomatch hh)
   refine wp_seq ?_
   refine at_regq [] { ts := [1, 2], os := [1] } [] gamOK hT h (by kernel_rfl) trivial fun a w h => then_normal (wp_ret (then_ret ?_))
   exact at_return (S := S_impl_IsValidWindow) (x := (x0, ())) (false, ()) [] h (by kernel_rfl) trivial (congrArg (fun z => (z, ())) (show (false) = validW x0 from by first | rfl | (unfold validW; rw [if_pos (notF h1), if_neg (neT (notT h2))])))
  ·have hzh2 : (inR x0.1 0 x0.2.1) = true := notF h2
   have hvh2 := inR_t (notF h2)
   by_cases h3 : x0.2.1 > x0.2.2.2
   ·refine at_regq [{}, {}, {}, { hint := some (aB false) }, {}, {}, {}, {}, {}, {}, { hint := some (aB false) }, {}, {}, {}, {}, {}, {}, { hint := some (aB true) }] { ts := [1, 2, 29], os := [1] } [True, (AV.p (.c (.v (.bool (!(inR x0.2.2.2 0 60))))) = AV.p (.c (.v (.bool false)))), True, (AV.p (.c (.v (.bool (!(inR x0.1 0 x0.2.1))))) = AV.p (.c (.v (.bool false)))), (AV.p (.c (.v (.bool (decide (x0.2.1 > x0.2.2.2))))) = AV.p (.c (.v (.bool true))))] gamOK hT h (by kernel_rfl) ⟨trivial, hint_bool (h1), trivial, hint_bool (h2), hint_bool (decide_eq_true h3), trivial⟩ fun a w h => then_normal ?_
    refine at_test true h (by kernel_rfl) (fun hh => ?_) (fun hh => nomatch hh)
    refine wp_seq ?_
    refine at_regq [] { ts := [1, 2], os := [1] } [] gamOK hT h (by kernel_rfl) trivial fun a w h => then_normal (wp_ret (then_ret ?_))
    exact at_return (S := S_impl_IsValidWindow) (x := (x0, ())) (false, ()) [] h (by kernel_rfl) trivial (congrArg (fun z => (z, ())) (show (false) = validW x0 from by first | rfl | (unfold validW; rw [if_pos (notF h1), if_pos (notF h2), if_pos h3])))
   ·refine at_regq [{}, {}, {}, { hint := some (aB false) }, {}, {}, {}, {}, {}, {}, { hint := some (aB false) }, {}, {}, {}, {}, {}, {}, { hint := some (aB false) }, {}, {}, {}, {}, {}, {}, { nw := true }] { ts := [1, 2, 29], os := [1] } [True, (AV.p (.c (.v (.bool (!(inR x0.2.2.2 0 60))))) = AV.p (.c (.v (.bool false)))), True, (AV.p (.c (.v (.bool (!(inR x0.1 0 x0.2.1))))) = AV.p (.c (.v (.bool false)))), (AV.p (.c (.v (.bool (decide (x0.2.1 > x0.2.2.2))))) = AV.p (.c (.v (.bool false)))), I64 (x0.2.1 - x0.1)] gamOK hT h (by kernel_rfl) ⟨trivial, hint_bool (h1), trivial, hint_bool (h2), hint_bool (decide_eq_false h3), ⟨by first | omega | (simp only [lsA]; omega) | (simp <;> omega), by first | omega | (simp only [lsA]; omega) | (simp <;> omega)⟩, trivial⟩ fun a w h => then_normal ?_
    refine at_test (decide (x0.2.1 - x0.1 > 4)) h (by kernel_rfl) (fun h4 => ?_) (fun h4 => ?_)
    ·replace h4 : x0.2.1 - x0.1 > 4 := of_decide_eq_true h4
     refine wp_seq ?_
     refine at_regq [] { ts := [1, 2], os := [1] } [] gamOK hT h (by kernel_rfl) trivial fun a w h => then_normal (wp_ret (then_ret ?_))
     exact at_return (S := S_impl_IsValidWindow) (x := (x0, ())) (false, ()) [] h (by kernel_rfl) trivial (congrArg (fun z => (z, ())) (show (false) = validW x0 from by first | rfl | (unfold validW; rw [if_pos (notF h1), if_pos (notF h2), if_neg h3, if_pos h4])))
    ·replace h4 : ¬ (x0.2.1 - x0.1 > 4) := of_decide_eq_false h4
     refine wp_skip (then_normal (wp_seq ?_))
     rcases Bool.eq_false_or_eq_true ((inR x0.2.2.1 0 (IntKind.i64.wrap ((IntKind.i64.wrap (1 * 2 ^ (min (x0.2.1 - x0.1 : Int).toNat (IntKind.i64).bits))) - 1)))) with h5 | h5
     ·have hvh5 := inR_t h5
      refine at_anyq [{}, {}, {}, {}, {}, {}, { nw := true }, {}, {}, { hint := some (aB true) }, {}, {}, {}, {}, {}, {}, {}] { ts := [2], os := [] } [I64 (x0.2.1 - x0.1), (0 : Int) ≤ (x0.2.1 - x0.1), True, (AV.p (.c (.v (.bool ((inR x0.2.2.1 0 (IntKind.i64.wrap ((IntKind.i64.wrap (1 * 2 ^ (min (x0.2.1 - x0.1 : Int).toNat (IntKind.i64).bits))) - 1))))))) = AV.p (.c (.v (.bool true))))] gamOK hT mixed h (by kernel_rfl) ⟨⟨by first | omega | (simp only [lsA]; omega) | (simp <;> omega), by first | omega | (simp only [lsA]; omega) | (simp <;> omega)⟩, (by first | omega | (simp only [lsA]; omega) | (simp <;> omega)), trivial, hint_bool (h5), trivial⟩ fun a w h => then_normal (wp_ret ?_)
      exact at_return (S := S_impl_IsValidWindow) (x := (x0, ())) (decide (IntKind.i64.wrap ((BitVec.ofInt (IntKind.i64).bits x0.2.2.1 &&& BitVec.ofInt (IntKind.i64).bits 1).toNat : Int) = 0), ()) [] h (by kernel_rfl) trivial (congrArg (fun z => (z, ())) (show (decide (IntKind.i64.wrap ((BitVec.ofInt (IntKind.i64).bits x0.2.2.1 &&& BitVec.ofInt (IntKind.i64).bits 1).toNat : Int) = 0)) = validW x0 from by first | rfl | (unfold validW; rw [if_pos (notF h1), if_pos (notF h2), if_neg h3, if_neg h4, if_pos h5])))
     ·have hvh5 := inR_f h5
      refine at_anyq [{}, {}, {}, {}, {}, {}, { nw := true }, {}, {}, { hint := some (aB false) }, {}, {}, {}, {}, {}, {}, {}] { ts := [2], os := [] } [I64 (x0.2.1 - x0.1), (0 : Int) ≤ (x0.2.1 - x0.1), True, (AV.p (.c (.v (.bool ((inR x0.2.2.1 0 (IntKind.i64.wrap ((IntKind.i64.wrap (1 * 2 ^ (min (x0.2.1 - x0.1 : Int).toNat (IntKind.i64).bits))) - 1))))))) = AV.p (.c (.v (.bool false))))] gamOK hT mixed h (by kernel_rfl) ⟨⟨by first | omega | (simp only [lsA]; omega) | (simp <;> omega), by first | omega | (simp only [lsA]; omega) | (simp <;> omega)⟩, (by first | omega | (simp only [lsA]; omega) | (simp <;> omega)), trivial, hint_bool (h5), trivial⟩ fun a w h => then_normal (wp_ret ?_)
      exact at_return (S := S_impl_IsValidWindow) (x := (x0, ())) (false, ()) [] h (by kernel_rfl) trivial (congrArg (fun z => (z, ())) (show (false) = validW x0 from by first | rfl | (unfold validW; rw [if_pos (notF h1), if_pos (notF h2), if_neg h3, if_neg h4, if_neg (neT h5)])))
theorem validW_t {w : T85} (h : validW w = true) : (0 ≤ w.1 ∧ w.1 ≤ w.2.1) ∧ w.2.1 ≤ w.2.2.2 ∧ w.2.2.2 ≤ 60 := by
  unfold validW at h
  split at h
  · rename_i h1
    split at h
    · rename_i h2
      split at h
      · first | (cases h; done) | (have := inR_t h1; have := inR_t h2; omega)
      · first | (have := inR_t h1; have := inR_t h2; omega) | (cases h; done)
    · cases h
  · cases h

def startW (w : T85) : T85 × Int × Bool := if validW w = true ∧ ¬ w.2.1 = w.2.2.2 ∧ ¬ w.2.1 - w.1 = 4 then ((w.1, w.2.1 + 1, w.2.2.1, w.2.2.2), w.2.1, true) else (w, 0, false)
theorem startW_y {w : T85} (h : validW w = true) (h1 : ¬ w.2.1 = w.2.2.2) (h2 : ¬ w.2.1 - w.1 = 4) : ((w.1, w.2.1 + 1, w.2.2.1, w.2.2.2), w.2.1, true) = startW w := (if_pos ⟨h, h1, h2⟩).symm
theorem startW_n {w : T85} (h : validW w = false ∨ w.2.1 = w.2.2.2 ∨ w.2.1 - w.1 = 4) : (w, 0, false) = startW w := by
  unfold startW; rw [if_neg]
  rintro ⟨h1, h2, h3⟩
  rcases h with h | h | h
  · rw [h1] at h; cases h
  · exact h2 h
  · exact h3 h
theorem startW_t {w : T85} (h : (startW w).2.2 = true) : (0 ≤ w.2.1 ∧ w.2.1 < 60) ∧ (startW w).1.2.1 = w.2.1 + 1 := by
  unfold startW at h ⊢
  split at h
  · rename_i hc
    have := validW_t hc.1
    rw [if_pos hc]
    exact ⟨by have := hc.2.1; omega, rfl⟩
  · cases h
theorem startW_f {w : T85} (h : (startW w).2.2 = false) : (startW w).1 = w := by
  unfold startW at h ⊢
  split at h
  · cases h
  · rename_i hc; rw [if_neg hc]
def fillN (w : T85) : Nat → T85
  | 0 => w
  | i + 1 => (startW (fillN w i)).1
def fillB (w : T85) : Nat → Bool
  | 0 => true
  | i + 1 => (startW (fillN w i)).2.2
def fillOK (w : T85) (i : Nat) : Prop := i ≤ 62 ∧ (i = 0 ∨ fillB w i = false ∨ ((i : Int) ≤ (fillN w i).2.1 ∧ (fillN w i).2.1 ≤ 60))
theorem fillOK_s {w : T85} {i : Nat} (h : fillOK w i) (hb : fillB w i = true) : fillOK w (i + 1) := by
  obtain ⟨h1, h2⟩ := h
  refine ⟨by rcases h2 with h2 | h2 | h2; omega; (rw [h2] at hb; cases hb); omega, ?_⟩
  cases hc : fillB w (i + 1) with
  | false => right; left; rfl
  | true =>
    have h3 := startW_t (w := fillN w i) hc
    right; right
    show ((i + 1 : Nat) : Int) ≤ (startW (fillN w i)).1.2.1 ∧ (startW (fillN w i)).1.2.1 ≤ 60
    rcases h2 with h2 | h2 | h2
    · omega
    · rw [h2] at hb; cases hb
    · omega
theorem fillN_st {w : T85} {i : Nat} (h : (startW (fillN w i)).2.2 = false) : ∀ d, fillN w (i + d) = fillN w i
  | 0 => rfl
  | d + 1 => by
    have ih := fillN_st h d
    show (startW (fillN w (i + d))).1 = _
    rw [ih]; exact startW_f h
theorem fillN_end {w : T85} {i : Nat} (h1 : i ≤ 62) (h : (startW (fillN w i)).2.2 = false) : fillN w i = fillN w 62 := by
  have := fillN_st h (62 - i)
  rw [show i + (62 - i) = 62 by omega] at this; exact this.symm
theorem fillN_end2 {w : T85} {i : Nat} (h1 : fillOK w i) (h : fillB w i = false) : fillN w i = fillN w 62 := by
  cases i with
  | zero => cases h
  | succ i =>
    have h2 := fillN_end (w := w) (i := i) (by have := h1.1; omega) h
    rw [← h2]; exact startW_f h


def S_spec_IsValidWindow : Sum := { fid := 170, dom := [s85], cod := [(.bool 4)], dp := true, fz := false, pre := fun x => True, g := fun x => ((validW x.1), ()) }
def S_spec_IsValidWindow_tab : List (Nat × Sum) := [(103, S_spec_l1In)]
theorem S_spec_IsValidWindow_ok : FnOK Try.prog 170 S_spec_IsValidWindow := by
 refine at_enter 46 (fun x => ⟨[(0, aG [cI x.1.1, cI x.1.2.1, cI x.1.2.2.1, cI x.1.2.2.2])], []⟩) Try.func170 rfl (by kernel_rfl) (fun x => rfl) ?_
 rintro w0 Z0 ⟨x0, u⟩ a w
 revert x0
 intro (x0 : T85) hpre hlens h
 replace h : At w0 Z0 [] 46 ⟨[(0, aG [cI x0.1, cI x0.2.1, cI x0.2.2.1, cI x0.2.2.2])], []⟩ a w := h
 have hT : TabOK Try.prog S_spec_IsValidWindow_tab := (.cons S_spec_l1In_ok .nil)
 refine wp_seq ?_
 refine at_regq [{ ids := [1] }] { ts := [1, 2], os := [1] } [] gamOK hT h (by kernel_rfl) trivial fun a w h => then_normal (wp_seq ?_)
 rcases Bool.eq_false_or_eq_true ((inR x0.2.2.2 0 60)) with h1 | h1
 ·have hvh1 := inR_t h1
  rcases Bool.eq_false_or_eq_true ((inR x0.2.1 0 x0.2.2.2)) with h2 | h2
  ·have hvh2 := inR_t h2
   rcases Bool.eq_false_or_eq_true ((inR x0.1 0 x0.2.1)) with h3 | h3
   ·have hvh3 := inR_t h3
    by_cases h4 : x0.2.1 - x0.1 ≤ 4
    ·rcases Bool.eq_false_or_eq_true ((inR x0.2.2.1 0 (IntKind.i64.wrap ((IntKind.i64.wrap (1 * 2 ^ (min (x0.2.1 - x0.1 : Int).toNat (IntKind.i64).bits))) - 1)))) with h5 | h5
     ·have hvh5 := inR_t h5
      refine at_anyq [{}, {}, { hint := some (aB true) }, {}, {}, {}, {}, {}, { hint := some (aB true) }, {}, {}, {}, {}, {}, {}, { hint := some (aB true) }, {}, {}, {}, {}, {}, {}, { nw := true }, { hint := some (aB true) }, {}, {}, {}, {}, {}, {}, {}, {}, { nw := true }, {}, {}, { hint := some (aB true) }, {}, {}, {}, {}, {}, {}, {}, {}] { ts := [2], os := [] } [True, (AV.p (.c (.v (.bool ((inR x0.2.2.2 0 60))))) = AV.p (.c (.v (.bool true)))), True, (AV.p (.c (.v (.bool ((inR x0.2.1 0 x0.2.2.2))))) = AV.p (.c (.v (.bool true)))), True, (AV.p (.c (.v (.bool ((inR x0.1 0 x0.2.1))))) = AV.p (.c (.v (.bool true)))), I64 (x0.2.1 - x0.1), (AV.p (.c (.v (.bool (decide (x0.2.1 - x0.1 ≤ 4))))) = AV.p (.c (.v (.bool true)))), I64 (x0.2.1 - x0.1), (0 : Int) ≤ (x0.2.1 - x0.1), True, (AV.p (.c (.v (.bool ((inR x0.2.2.1 0 (IntKind.i64.wrap ((IntKind.i64.wrap (1 * 2 ^ (min (x0.2.1 - x0.1 : Int).toNat (IntKind.i64).bits))) - 1))))))) = AV.p (.c (.v (.bool true))))] gamOK hT mixed h (by kernel_rfl) ⟨trivial, hint_bool (h1), trivial, hint_bool (h2), trivial, hint_bool (h3), ⟨by first | omega | (simp only [lsA]; omega) | (simp <;> omega), by first | omega | (simp only [lsA]; omega) | (simp <;> omega)⟩, hint_bool (decide_eq_true h4), ⟨by first | omega | (simp only [lsA]; omega) | (simp <;> omega), by first | omega | (simp only [lsA]; omega) | (simp <;> omega)⟩, (by first | omega | (simp only [lsA]; omega) | (simp <;> omega)), trivial, hint_bool (h5), trivial⟩ fun a w h => then_normal (wp_ret ?_)
      exact at_return (S := S_spec_IsValidWindow) (x := (x0, ())) (decide (IntKind.i64.wrap ((BitVec.ofInt (IntKind.i64).bits x0.2.2.1 &&& BitVec.ofInt (IntKind.i64).bits 1).toNat : Int) = 0), ()) [] h (by kernel_rfl) trivial (congrArg (fun z => (z, ())) (show (decide (IntKind.i64.wrap ((BitVec.ofInt (IntKind.i64).bits x0.2.2.1 &&& BitVec.ofInt (IntKind.i64).bits 1).toNat : Int) = 0)) = validW x0 from by (unfold validW; simp_all [inR]; try first | omega | (rw [show decide (x0.2.2.2 < x0.2.1) = false from decide_eq_false (by omega), show decide (4 < x0.2.1 - x0.1) = false from decide_eq_false (by omega)]; rfl))))
     ·have hvh5 := inR_f h5
      refine at_anyq [{}, {}, { hint := some (aB true) }, {}, {}, {}, {}, {}, { hint := some (aB true) }, {}, {}, {}, {}, {}, {}, { hint := some (aB true) }, {}, {}, {}, {}, {}, {}, { nw := true }, { hint := some (aB true) }, {}, {}, {}, {}, {}, {}, {}, {}, { nw := true }, {}, {}, { hint := some (aB false) }, {}, {}, {}, {}, {}, {}, {}, {}] { ts := [2], os := [] } [True, (AV.p (.c (.v (.bool ((inR x0.2.2.2 0 60))))) = AV.p (.c (.v (.bool true)))), True, (AV.p (.c (.v (.bool ((inR x0.2.1 0 x0.2.2.2))))) = AV.p (.c (.v (.bool true)))), True, (AV.p (.c (.v (.bool ((inR x0.1 0 x0.2.1))))) = AV.p (.c (.v (.bool true)))), I64 (x0.2.1 - x0.1), (AV.p (.c (.v (.bool (decide (x0.2.1 - x0.1 ≤ 4))))) = AV.p (.c (.v (.bool true)))), I64 (x0.2.1 - x0.1), (0 : Int) ≤ (x0.2.1 - x0.1), True, (AV.p (.c (.v (.bool ((inR x0.2.2.1 0 (IntKind.i64.wrap ((IntKind.i64.wrap (1 * 2 ^ (min (x0.2.1 - x0.1 : Int).toNat (IntKind.i64).bits))) - 1))))))) = AV.p (.c (.v (.bool false))))] gamOK hT mixed h (by kernel_rfl) ⟨trivial, hint_bool (h1), trivial, hint_bool (h2), trivial, hint_bool (h3), ⟨by first | omega | (simp only [lsA]; omega) | (simp <;> omega), by first | omega | (simp only [lsA]; omega) | (simp <;> omega)⟩, hint_bool (decide_eq_true h4), ⟨by first | omega | (simp only [lsA]; omega) | (simp <;> omega), by first | omega | (simp only [lsA]; omega) | (simp <;> omega)⟩, (by first | omega | (simp only [lsA]; omega) | (simp <;> omega)), trivial, hint_bool (h5), trivial⟩ fun a w h => then_normal (wp_ret ?_)
      exact at_return (S := S_spec_IsValidWindow) (x := (x0, ())) (false, ()) [] h (by kernel_rfl) trivial (congrArg (fun z => (z, ())) (show (false) = validW x0 from by (unfold validW; simp_all [inR]; try first | omega | (rw [show decide (x0.2.2.2 < x0.2.1) = false from decide_eq_false (by omega), show decide (4 < x0.2.1 - x0.1) = false from decide_eq_false (by omega)]; rfl))))
    ·refine at_anyq [{}, {}, { hint := some (aB true) }, {}, {}, {}, {}, {}, { hint := some (aB true) }, {}, {}, {}, {}, {}, {}, { hint := some (aB true) }, {}, {}, {}, {}, {}, {}, { nw := true }, { hint := some (aB false) }, {}, {}, {}, {}, {}, {}, {}, {}, {}, {}, {}, {}, {}, {}, {}, {}, {}, {}, {}, {}] { ts := [2], os := [] } [True, (AV.p (.c (.v (.bool ((inR x0.2.2.2 0 60))))) = AV.p (.c (.v (.bool true)))), True, (AV.p (.c (.v (.bool ((inR x0.2.1 0 x0.2.2.2))))) = AV.p (.c (.v (.bool true)))), True, (AV.p (.c (.v (.bool ((inR x0.1 0 x0.2.1))))) = AV.p (.c (.v (.bool true)))), I64 (x0.2.1 - x0.1), (AV.p (.c (.v (.bool (decide (x0.2.1 - x0.1 ≤ 4))))) = AV.p (.c (.v (.bool false))))] gamOK hT mixed h (by kernel_rfl) ⟨trivial, hint_bool (h1), trivial, hint_bool (h2), trivial, hint_bool (h3), ⟨by first | omega | (simp only [lsA]; omega) | (simp <;> omega), by first | omega | (simp only [lsA]; omega) | (simp <;> omega)⟩, hint_bool (decide_eq_false h4), trivial⟩ fun a w h => then_normal (wp_ret ?_)
     exact at_return (S := S_spec_IsValidWindow) (x := (x0, ())) (false, ()) [] h (by kernel_rfl) trivial (congrArg (fun z => (z, ())) (show (false) = validW x0 from by (unfold validW; simp_all [inR]; try first | omega | (rw [show decide (x0.2.2.2 < x0.2.1) = false from decide_eq_false (by omega), show decide (4 < x0.2.1 - x0.1) = false from decide_eq_false (by omega)]; rfl))))
   ·have hvh3 := inR_f h3
    refine at_anyq [{}, {}, { hint := some (aB true) }, {}, {}, {}, {}, {}, { hint := some (aB true) }, {}, {}, {}, {}, {}, {}, { hint := some (aB false) }, {}, {}, {}, {}, {}, {}, {}, {}, {}, {}, {}, {}, {}, {}, {}, {}, {}, {}, {}, {}, {}, {}, {}, {}, {}, {}, {}, {}] { ts := [2], os := [] } [True, (AV.p (.c (.v (.bool ((inR x0.2.2.2 0 60))))) = AV.p (.c (.v (.bool true)))), True, (AV.p (.c (.v (.bool ((inR x0.2.1 0 x0.2.2.2))))) = AV.p (.c (.v (.bool true)))), True, (AV.p (.c (.v (.bool ((inR x0.1 0 x0.2.1))))) = AV.p (.c (.v (.bool false))))] gamOK hT mixed h (by kernel_rfl) ⟨trivial, hint_bool (h1), trivial, hint_bool (h2), trivial, hint_bool (h3), trivial⟩ fun a w h => then_normal (wp_ret ?_)
    exact at_return (S := S_spec_IsValidWindow) (x := (x0, ())) (false, ()) [] h (by kernel_rfl) trivial (congrArg (fun z => (z, ())) (show (false) = validW x0 from by (unfold validW; simp_all [inR]; try first | omega | (rw [show decide (x0.2.2.2 < x0.2.1) = false from decide_eq_false (by omega), show decide (4 < x0.2.1 - x0.1) = false from decide_eq_false (by omega)]; rfl))))
  ·have hvh2 := inR_f h2
   refine at_anyq [{}, {}, { hint := some (aB true) }, {}, {}, {}, {}, {}, { hint := some (aB false) }, {}, {}, {}, {}, {}, {}, {}, {}, {}, {}, {}, {}, {}, {}, {}, {}, {}, {}, {}, {}, {}, {}, {}, {}, {}, {}, {}, {}, {}, {}, {}, {}, {}, {}, {}] { ts := [2], os := [] } [True, (AV.p (.c (.v (.bool ((inR x0.2.2.2 0 60))))) = AV.p (.c (.v (.bool true)))), True, (AV.p (.c (.v (.bool ((inR x0.2.1 0 x0.2.2.2))))) = AV.p (.c (.v (.bool false))))] gamOK hT mixed h (by kernel_rfl) ⟨trivial, hint_bool (h1), trivial, hint_bool (h2), trivial⟩ fun a w h => then_normal (wp_ret ?_)
   exact at_return (S := S_spec_IsValidWindow) (x := (x0, ())) (false, ()) [] h (by kernel_rfl) trivial (congrArg (fun z => (z, ())) (show (false) = validW x0 from by (unfold validW; simp_all [inR]; try first | omega | (rw [show decide (x0.2.2.2 < x0.2.1) = false from decide_eq_false (by omega), show decide (4 < x0.2.1 - x0.1) = false from decide_eq_false (by omega)]; rfl))))
 ·have hvh1 := inR_f h1
  refine at_anyq [{}, {}, { hint := some (aB false) }, {}, {}, {}, {}, {}, {}, {}, {}, {}, {}, {}, {}, {}, {}, {}, {}, {}, {}, {}, {}, {}, {}, {}, {}, {}, {}, {}, {}, {}, {}, {}, {}, {}, {}, {}, {}, {}, {}, {}, {}, {}] { ts := [2], os := [] } [True, (AV.p (.c (.v (.bool ((inR x0.2.2.2 0 60))))) = AV.p (.c (.v (.bool false))))] gamOK hT mixed h (by kernel_rfl) ⟨trivial, hint_bool (h1), trivial⟩ fun a w h => then_normal (wp_ret ?_)
  exact at_return (S := S_spec_IsValidWindow) (x := (x0, ())) (false, ()) [] h (by kernel_rfl) trivial (congrArg (fun z => (z, ())) (show (false) = validW x0 from by (unfold validW; simp_all [inR]; try first | omega | (rw [show decide (x0.2.2.2 < x0.2.1) = false from decide_eq_false (by omega), show decide (4 < x0.2.1 - x0.1) = false from decide_eq_false (by omega)]; rfl))))

def validF (x0 : T247) : Bool := (if (inR x0.1 0 7) = true then (if (inR x0.2.1 0 1000000000000) = true then (inR x0.2.2 0 8) else false) else false)
def S_impl_IsValidFeedback : Sum := { fid := 251, dom := [s247], cod := [(.bool 4)], dp := true, fz := false, pre := fun x => True, g := fun x => ((validF x.1), ()) }
def S_impl_IsValidFeedback_tab : List (Nat × Sum) := [(107, S_impl_InRange)]
theorem S_impl_IsValidFeedback_ok : FnOK Try.prog 251 S_impl_IsValidFeedback := by
 refine at_enter 16 (fun x => ⟨[(0, aG [cI x.1.1, cI x.1.2.1, cI x.1.2.2])], []⟩) Try.func251 rfl (by kernel_rfl) (fun x => rfl) ?_
 rintro w0 Z0 ⟨x0, u⟩ a w
 revert x0
 intro (x0 : T247) hpre hlens h
 replace h : At w0 Z0 [] 16 ⟨[(0, aG [cI x0.1, cI x0.2.1, cI x0.2.2])], []⟩ a w := h
 have hT : TabOK Try.prog S_impl_IsValidFeedback_tab := (.cons S_impl_InRange_ok .nil)
 refine wp_seq ?_
 refine at_regq [{ ids := [1] }] { ts := [1, 2], os := [1] } [] gamOK hT h (by kernel_rfl) trivial fun a w h => then_normal (wp_seq ?_)
 rcases Bool.eq_false_or_eq_true ((inR x0.1 0 7)) with h1 | h1
 ·have hvh1 := inR_t h1
  rcases Bool.eq_false_or_eq_true ((inR x0.2.1 0 1000000000000)) with h2 | h2
  ·have hvh2 := inR_t h2
   refine at_regq [{}, {}, { hint := some (aB true) }, {}, {}, {}, { hint := some (aB true) }] { ts := [2], os := [] } [True, (AV.p (.c (.v (.bool ((inR x0.1 0 7))))) = AV.p (.c (.v (.bool true)))), True, (AV.p (.c (.v (.bool ((inR x0.2.1 0 1000000000000))))) = AV.p (.c (.v (.bool true)))), True] gamOK hT h (by kernel_rfl) ⟨trivial, hint_bool (h1), trivial, hint_bool (h2), trivial, trivial⟩ fun a w h => then_normal (wp_ret ?_)
   exact at_return (S := S_impl_IsValidFeedback) (x := (x0, ())) ((inR x0.2.2 0 8), ()) [] h (by kernel_rfl) trivial (congrArg (fun z => (z, ())) (show ((inR x0.2.2 0 8)) = validF x0 from by first | rfl | (unfold validF; rw [if_pos h1, if_pos h2])))
  ·have hvh2 := inR_f h2
   refine at_regq [{}, {}, { hint := some (aB true) }, {}, {}, {}, { hint := some (aB false) }] { ts := [2], os := [] } [True, (AV.p (.c (.v (.bool ((inR x0.1 0 7))))) = AV.p (.c (.v (.bool true)))), True, (AV.p (.c (.v (.bool ((inR x0.2.1 0 1000000000000))))) = AV.p (.c (.v (.bool false))))] gamOK hT h (by kernel_rfl) ⟨trivial, hint_bool (h1), trivial, hint_bool (h2), trivial⟩ fun a w h => then_normal (wp_ret ?_)
   exact at_return (S := S_impl_IsValidFeedback) (x := (x0, ())) (false, ()) [] h (by kernel_rfl) trivial (congrArg (fun z => (z, ())) (show (false) = validF x0 from by first | rfl | (unfold validF; rw [if_pos h1, if_neg (neT h2)])))
 ·have hvh1 := inR_f h1
  refine at_regq [{}, {}, { hint := some (aB false) }] { ts := [2], os := [] } [True, (AV.p (.c (.v (.bool ((inR x0.1 0 7))))) = AV.p (.c (.v (.bool false))))] gamOK hT h (by kernel_rfl) ⟨trivial, hint_bool (h1), trivial⟩ fun a w h => then_normal (wp_ret ?_)
  exact at_return (S := S_impl_IsValidFeedback) (x := (x0, ())) (false, ()) [] h (by kernel_rfl) trivial (congrArg (fun z => (z, ())) (show (false) = validF x0 from by first | rfl | (unfold validF; rw [if_neg (neT h1)])))

def orI : List Int → Int
  | [] => 0
  | x :: l => if x = 0 then orI l else x
theorem orI_at : ∀ {xs : List Int} {i : Nat}, i < xs.length → (∀ j, j < i → xs.getD j 0 = 0) → ¬ xs.getD i 0 = 0 → orI xs = xs.getD i 0
  | [], _, h, _, _ => by simp at h
  | x :: l, 0, _, _, h => by
    have h : ¬ x = 0 := h
    simp [orI, h]
  | x :: l, i + 1, h, hz, hn => by
    have h0 : x = 0 := hz 0 (by omega)
    have := orI_at (xs := l) (i := i) (by simpa using h) (fun j hj => by have := hz (j + 1) (by omega); simpa using this) (by simpa using hn)
    simp only [orI, h0, if_true, this]; simp
theorem orI_none : ∀ {xs : List Int}, (∀ j, j < xs.length → xs.getD j 0 = 0) → orI xs = 0
  | [], _ => rfl
  | x :: l, h => by
    have h0 : x = 0 := h 0 (by simp)
    have := orI_none (xs := l) (fun j hj => by have := h (j + 1) (by simpa using hj); simpa using this)
    simp only [orI, h0, if_true, this]
def cmpF (a b : T247) : Int := orI ([cmpI a.2.1 b.2.1, cmpI a.1 b.1])


def S_spec_IsValidFeedback : Sum := { fid := 248, dom := [s247], cod := [(.bool 4)], dp := true, fz := false, pre := fun x => True, g := fun x => ((validF x.1), ()) }
def S_spec_IsValidFeedback_tab : List (Nat × Sum) := [(103, S_spec_l1In)]
theorem S_spec_IsValidFeedback_ok : FnOK Try.prog 248 S_spec_IsValidFeedback := by
 refine at_enter 16 (fun x => ⟨[(0, aG [cI x.1.1, cI x.1.2.1, cI x.1.2.2])], []⟩) Try.func248 rfl (by kernel_rfl) (fun x => rfl) ?_
 rintro w0 Z0 ⟨x0, u⟩ a w
 revert x0
 intro (x0 : T247) hpre hlens h
 replace h : At w0 Z0 [] 16 ⟨[(0, aG [cI x0.1, cI x0.2.1, cI x0.2.2])], []⟩ a w := h
 have hT : TabOK Try.prog S_spec_IsValidFeedback_tab := (.cons S_spec_l1In_ok .nil)
 refine wp_seq ?_
 refine at_regq [{ ids := [1] }] { ts := [1, 2], os := [1] } [] gamOK hT h (by kernel_rfl) trivial fun a w h => then_normal (wp_seq ?_)
 rcases Bool.eq_false_or_eq_true ((inR x0.1 0 7)) with h1 | h1
 ·have hvh1 := inR_t h1
  rcases Bool.eq_false_or_eq_true ((inR x0.2.1 0 1000000000000)) with h2 | h2
  ·have hvh2 := inR_t h2
   refine at_regq [{}, {}, { hint := some (aB true) }, {}, {}, {}, { hint := some (aB true) }] { ts := [2], os := [] } [True, (AV.p (.c (.v (.bool ((inR x0.1 0 7))))) = AV.p (.c (.v (.bool true)))), True, (AV.p (.c (.v (.bool ((inR x0.2.1 0 1000000000000))))) = AV.p (.c (.v (.bool true)))), True] gamOK hT h (by kernel_rfl) ⟨trivial, hint_bool (h1), trivial, hint_bool (h2), trivial, trivial⟩ fun a w h => then_normal (wp_ret ?_)
   exact at_return (S := S_spec_IsValidFeedback) (x := (x0, ())) ((inR x0.2.2 0 8), ()) [] h (by kernel_rfl) trivial (congrArg (fun z => (z, ())) (show ((inR x0.2.2 0 8)) = validF x0 from by first | rfl | (unfold validF; rw [if_pos h1, if_pos h2]; done) | (unfold validF; simp_all)))
  ·have hvh2 := inR_f h2
   refine at_regq [{}, {}, { hint := some (aB true) }, {}, {}, {}, { hint := some (aB false) }] { ts := [2], os := [] } [True, (AV.p (.c (.v (.bool ((inR x0.1 0 7))))) = AV.p (.c (.v (.bool true)))), True, (AV.p (.c (.v (.bool ((inR x0.2.1 0 1000000000000))))) = AV.p (.c (.v (.bool false))))] gamOK hT h (by kernel_rfl) ⟨trivial, hint_bool (h1), trivial, hint_bool (h2), trivial⟩ fun a w h => then_normal (wp_ret ?_)
   exact at_return (S := S_spec_IsValidFeedback) (x := (x0, ())) (false, ()) [] h (by kernel_rfl) trivial (congrArg (fun z => (z, ())) (show (false) = validF x0 from by first | rfl | (unfold validF; rw [if_pos h1, if_neg (neT h2)]; done) | (unfold validF; simp_all)))
 ·have hvh1 := inR_f h1
  refine at_regq [{}, {}, { hint := some (aB false) }] { ts := [2], os := [] } [True, (AV.p (.c (.v (.bool ((inR x0.1 0 7))))) = AV.p (.c (.v (.bool false))))] gamOK hT h (by kernel_rfl) ⟨trivial, hint_bool (h1), trivial⟩ fun a w h => then_normal (wp_ret ?_)
  exact at_return (S := S_spec_IsValidFeedback) (x := (x0, ())) (false, ()) [] h (by kernel_rfl) trivial (congrArg (fun z => (z, ())) (show (false) = validF x0 from by first | rfl | (unfold validF; rw [if_neg (neT h1)]; done) | (unfold validF; simp_all)))

def S_cmp_Or_int_ : Sum := { fid := 304, dom := [s22], cod := [(.int 3)], dp := true, fz := false, pre := fun x => True, g := fun x => ((orI x.1), ()) }
def S_cmp_Or_int__tab : List (Nat × Sum) := []
theorem S_cmp_Or_int__ok : FnOK Try.prog 304 S_cmp_Or_int_ := by
 refine at_enter 18 (fun x => ⟨[(0, aF (.int 3) x.1)], []⟩) Try.func304 rfl (by kernel_rfl) (fun x => rfl) ?_
 rintro w0 Z0 ⟨x0, u⟩ a w
 revert x0
 intro (x0 : (List Int)) hpre hlens h
 replace h : At w0 Z0 [] 18 ⟨[(0, aF (.int 3) x0)], []⟩ a w := h
 have hl1 : List.length x0 ≤ 9223372036854775807 := hlens.1.1
 have hT : TabOK Try.prog S_cmp_Or_int__tab := .nil
 refine wp_seq ?_
 refine at_regq [] { ts := [0, 2], os := [] } [] gamOK hT h (by kernel_rfl) trivial fun a w h => then_normal (wp_seq ?_)
 refine at_regq [] { ts := [0, 2, 3], os := [] } [] gamOK hT h (by kernel_rfl) trivial fun a w h => then_normal (wp_seq (wp_seq ?_))
 refine at_regq [] { ts := [2, 3, 6, 7, 8], os := [] } [] gamOK hT h (by kernel_rfl) trivial fun a w h => then_normal (wp_block ?_)
 replace h := at_out (σ' := ⟨[(2, aI 0), (3, aI 0), (6, aF (.int 3) x0), (7, aI ((List.length x0 : Nat) : Int)), (8, aI 0)], []⟩) { ts := [2, 3, 6, 7, 8], os := [] } h (by kernel_rfl)
 refine at_loop (fun i : Nat => (⟨[(2, aI 0), (3, aI 0), (6, aF (.int 3) x0), (7, aI ((List.length x0 : Nat) : Int)), (8, aI ((i : Nat) : Int))], []⟩ : St)) (fun i => (i ≤ List.length x0 ∧ ∀ j, j < i → x0.getD j 0 = 0)) (fun i => List.length x0 - i) (0) h (st_congr1 (fun (d0 : Int) => (⟨[(2, aI 0), (3, aI 0), (6, aF (.int 3) x0), (7, aI ((List.length x0 : Nat) : Int)), (8, aI d0)], []⟩ : St)) (show (0 : Int) = (((0) : Nat) : Int) from by first | with_reducible rfl | (rfl) | rfl)) (by exact ⟨Nat.zero_le _, fun j h => absurd h (by omega)⟩) ?_
 intro i a w hok0 h
 refine wp_seq ?_
 refine at_regq [] { ts := [2, 3, 6, 7, 8, 9], os := [] } [] gamOK hT h (by kernel_rfl) trivial fun a w h => then_normal (wp_seq ?_)
 refine at_test (decide (((i : Nat) : Int) < ((List.length x0 : Nat) : Int))) h (by kernel_rfl) (fun h1 => ?_) (fun h1 => ?_)
 ·replace h1 : ((i : Nat) : Int) < ((List.length x0 : Nat) : Int) := of_decide_eq_true h1
  refine wp_skip (then_normal (wp_seq (wp_block (wp_seq ?_))))
  refine at_regq [] { ts := [2, 3, 5, 6, 7, 8], os := [] } [(0 : Int) ≤ ((i : Nat) : Int) ∧ ((i : Nat) : Int) < ((List.length x0 : Nat) : Int)] gamOK hT h (by kernel_rfl) ⟨(by refine ⟨?_, ?_⟩ <;> (first | omega | (simp only [lsA]; omega) | (simp <;> omega))), trivial⟩ fun a w h => then_normal (wp_seq ?_)
  refine at_regq [] { ts := [2, 3, 5, 6, 7, 8, 14], os := [] } [] gamOK hT h (by kernel_rfl) trivial fun a w h => then_normal ?_
  refine at_test (!decide ((x0.getD i 0) = 0)) h (by kernel_rfl) (fun h2 => ?_) (fun h2 => ?_)
  ·replace h2 : ¬ ((x0.getD i 0) = 0) := of_decide_eq_false (notT h2)
   refine wp_seq ?_
   refine at_regq [] { ts := [2, 3, 6, 7, 8], os := [] } [] gamOK hT h (by kernel_rfl) trivial fun a w h => then_normal (wp_ret (in_ret (then_ret (then_ret (in_ret (then_ret ?_))))))
   exact at_return (S := S_cmp_Or_int_) (x := (x0, ())) ((x0.getD i 0), ()) [] h (by kernel_rfl) trivial (congrArg (fun z => (z, ())) (show ((x0.getD i 0)) = orI x0 from by first | exact (orI_at (by omega) hok0.2 (by omega)).symm | exact (orI_none (fun j hj => hok0.2 j (by omega))).symm))
  ·replace h2 : (x0.getD i 0) = 0 := of_decide_eq_true (notF h2)
   refine wp_skip (in_normal (then_normal ?_))
   refine at_regq [{ nw := true }] { ts := [2, 3, 6, 7, 8], os := [] } [I64 (((i : Nat) : Int) + 1)] gamOK hT h (by kernel_rfl) ⟨⟨by first | omega | (simp only [lsA]; omega) | (simp <;> omega), by first | omega | (simp only [lsA]; omega) | (simp <;> omega)⟩, trivial⟩ fun a w h => ?_
   replace h := at_out (σ' := ⟨[(2, aI 0), (3, aI 0), (6, aF (.int 3) x0), (7, aI ((List.length x0 : Nat) : Int)), (8, aI (((i : Nat) : Int) + 1))], []⟩) { ts := [2, 3, 6, 7, 8], os := [] } h (by kernel_rfl)
   exact ⟨i + 1, at_eq h (st_congr1 (fun (d0 : Int) => (⟨[(2, aI 0), (3, aI 0), (6, aF (.int 3) x0), (7, aI ((List.length x0 : Nat) : Int)), (8, aI d0)], []⟩ : St)) (show (((i : Nat) : Int) + 1 : Int) = (((i + 1) : Nat) : Int) from by first | with_reducible rfl | (omega) | rfl)), (by exact ⟨by omega, fun j hj => by by_cases e : j = i; subst e; omega; exact hok0.2 j (by omega)⟩), (by omega)⟩
 ·replace h1 : ¬ (((i : Nat) : Int) < ((List.length x0 : Nat) : Int)) := of_decide_eq_false h1
  refine wp_exit (then_exit (then_exit (in_hit (then_normal (wp_seq ?_)))))
  refine at_regq [] { ts := [2], os := [] } [] gamOK hT h (by kernel_rfl) trivial fun a w h => then_normal (wp_ret ?_)
  exact at_return (S := S_cmp_Or_int_) (x := (x0, ())) (0, ()) [] h (by kernel_rfl) trivial (congrArg (fun z => (z, ())) (show (0) = orI x0 from by first | exact (orI_at (by omega) hok0.2 (by omega)).symm | exact (orI_none (fun j hj => hok0.2 j (by omega))).symm))

def S_impl_compareFeedback : Sum := { fid := 252, dom := [s247, s247], cod := [(.int 3)], dp := true, fz := false, pre := fun x => True, g := fun x => ((cmpF x.1 x.2.1), ()) }
def S_impl_compareFeedback_tab : List (Nat × Sum) := [(260, S_cmp_Compare_int_), (304, S_cmp_Or_int_)]
theorem S_impl_compareFeedback_ok : FnOK Try.prog 252 S_impl_compareFeedback := by
 refine at_enter 17 (fun x => ⟨[(0, aG [cI x.1.1, cI x.1.2.1, cI x.1.2.2]), (1, aG [cI x.2.1.1, cI x.2.1.2.1, cI x.2.1.2.2])], []⟩) Try.func252 rfl (by kernel_rfl) (fun x => rfl) ?_
 rintro w0 Z0 ⟨x0, x1, u⟩ a w
 revert x0 x1
 intro (x0 : T247) (x1 : T247) hpre hlens h
 replace h : At w0 Z0 [] 17 ⟨[(0, aG [cI x0.1, cI x0.2.1, cI x0.2.2]), (1, aG [cI x1.1, cI x1.2.1, cI x1.2.2])], []⟩ a w := h
 have hT : TabOK Try.prog S_impl_compareFeedback_tab := (.cons S_cmp_Compare_int__ok (.cons S_cmp_Or_int__ok .nil))
 refine wp_seq ?_
 refine at_regq [{ ids := [1] }, { ids := [2] }] { ts := [2, 3, 4], os := [1, 2] } [] gamOK hT h (by kernel_rfl) trivial fun a w h => then_normal (wp_seq ?_)
 refine at_anyq [{}, {}, {}, {}, {}, {}, {}, {}, {}, {}, { ids := [3] }, {}, {}] { ts := [4], os := [] } [True, True, True] gamOK hT mixed h (by kernel_rfl) ⟨trivial, trivial, trivial, trivial⟩ fun a w h => then_normal (wp_ret ?_)
 exact at_return (S := S_impl_compareFeedback) (x := (x0, x1, ())) ((orI ([(cmpI x0.2.1 x1.2.1), (cmpI x0.1 x1.1)])), ()) [] h (by kernel_rfl) trivial (congrArg (fun z => (z, ())) (show ((orI ([(cmpI x0.2.1 x1.2.1), (cmpI x0.1 x1.1)]))) = cmpF x0 x1 from by rfl))

def lessF (x0 : T247) (x1 : T247) : Bool := (if x0.2.1 < x1.2.1 then true else (if x0.2.1 = x1.2.1 then decide (x0.1 < x1.1) else false))
def S_spec_l17Less : Sum := { fid := 249, dom := [s247, s247], cod := [(.bool 4)], dp := true, fz := false, pre := fun x => True, g := fun x => ((lessF x.1 x.2.1), ()) }
def S_spec_l17Less_tab : List (Nat × Sum) := []
theorem S_spec_l17Less_ok : FnOK Try.prog 249 S_spec_l17Less := by
 refine at_enter 24 (fun x => ⟨[(0, aG [cI x.1.1, cI x.1.2.1, cI x.1.2.2]), (1, aG [cI x.2.1.1, cI x.2.1.2.1, cI x.2.1.2.2])], []⟩) Try.func249 rfl (by kernel_rfl) (fun x => rfl) ?_
 rintro w0 Z0 ⟨x0, x1, u⟩ a w
 revert x0 x1
 intro (x0 : T247) (x1 : T247) hpre hlens h
 replace h : At w0 Z0 [] 24 ⟨[(0, aG [cI x0.1, cI x0.2.1, cI x0.2.2]), (1, aG [cI x1.1, cI x1.2.1, cI x1.2.2])], []⟩ a w := h
 have hT : TabOK Try.prog S_spec_l17Less_tab := .nil
 refine wp_seq ?_
 refine at_regq [{ ids := [1] }, { ids := [2] }] { ts := [2, 3, 4], os := [1, 2] } [] gamOK hT h (by kernel_rfl) trivial fun a w h => then_normal (wp_seq ?_)
 by_cases h1 : x0.2.1 < x1.2.1
 ·refine at_regq [{}, {}, {}, {}, { hint := some (aB true) }] { ts := [4], os := [] } [(AV.p (.c (.v (.bool (decide (x0.2.1 < x1.2.1))))) = AV.p (.c (.v (.bool true))))] gamOK hT h (by kernel_rfl) ⟨hint_bool (decide_eq_true h1), trivial⟩ fun a w h => then_normal (wp_ret ?_)
  exact at_return (S := S_spec_l17Less) (x := (x0, x1, ())) (true, ()) [] h (by kernel_rfl) trivial (congrArg (fun z => (z, ())) (show (true) = lessF x0 x1 from by first | rfl | (unfold lessF; rw [if_pos h1])))
 ·by_cases h2 : x0.2.1 = x1.2.1
  ·refine at_regq [{}, {}, {}, {}, { hint := some (aB false) }, {}, {}, {}, {}, {}, { hint := some (aB true) }] { ts := [4], os := [] } [(AV.p (.c (.v (.bool (decide (x0.2.1 < x1.2.1))))) = AV.p (.c (.v (.bool false)))), (AV.p (.c (.v (.bool (decide (x0.2.1 = x1.2.1))))) = AV.p (.c (.v (.bool true))))] gamOK hT h (by kernel_rfl) ⟨hint_bool (decide_eq_false h1), hint_bool (decide_eq_true h2), trivial⟩ fun a w h => then_normal (wp_ret ?_)
   exact at_return (S := S_spec_l17Less) (x := (x0, x1, ())) (decide (x0.1 < x1.1), ()) [] h (by kernel_rfl) trivial (congrArg (fun z => (z, ())) (show (decide (x0.1 < x1.1)) = lessF x0 x1 from by first | rfl | (unfold lessF; rw [if_neg h1, if_pos h2])))
  ·refine at_regq [{}, {}, {}, {}, { hint := some (aB false) }, {}, {}, {}, {}, {}, { hint := some (aB false) }] { ts := [4], os := [] } [(AV.p (.c (.v (.bool (decide (x0.2.1 < x1.2.1))))) = AV.p (.c (.v (.bool false)))), (AV.p (.c (.v (.bool (decide (x0.2.1 = x1.2.1))))) = AV.p (.c (.v (.bool false))))] gamOK hT h (by kernel_rfl) ⟨hint_bool (decide_eq_false h1), hint_bool (decide_eq_false h2), trivial⟩ fun a w h => then_normal (wp_ret ?_)
   exact at_return (S := S_spec_l17Less) (x := (x0, x1, ())) (false, ()) [] h (by kernel_rfl) trivial (congrArg (fun z => (z, ())) (show (false) = lessF x0 x1 from by first | rfl | (unfold lessF; rw [if_neg h1, if_neg h2])))

theorem orI2 (a b : Int) : orI [a, b] = if a = 0 then (if b = 0 then 0 else b) else a := rfl
theorem cmpF_less (a b : T247) : lessF a b = decide (cmpF a b < 0) := by
  have h1 := cmpI_lt (a := a.2.1) (b := b.2.1); have h2 := cmpI_eq (a := a.2.1) (b := b.2.1)
  have h3 := cmpI_lt (a := a.1) (b := b.1); have h4 := cmpI_eq (a := a.1) (b := b.1)
  rw [Bool.eq_iff_iff, decide_eq_true_iff]
  unfold lessF cmpF
  rw [orI2]
  by_cases e : cmpI a.2.1 b.2.1 = 0
  · have e' := h2.1 e
    rw [if_pos e, if_neg (by omega), if_pos e', decide_eq_true_iff]
    by_cases f : cmpI a.1 b.1 = 0
    · have f' := h4.1 f
      rw [if_pos f]; omega
    · rw [if_neg f]; exact h3.symm
  · rw [if_neg e]
    by_cases g : a.2.1 < b.2.1
    · rw [if_pos g]; exact ⟨fun _ => h1.2 g, fun _ => rfl⟩
    · rw [if_neg g, if_neg (fun e' => e (h2.2 e'))]; exact ⟨fun h => (by cases h), fun h => absurd (h1.1 h) g⟩
def fbB (xs : List T247) (i : Nat) : Bool := validF (xs.getD i (0, (0, 0))) && (decide (i = 0) || lessF (xs.getD (i - 1) (0, (0, 0))) (xs.getD i (0, (0, 0))))
theorem fbB_t {xs : List T247} {i : Nat} (h : validF (xs.getD i (0, (0, 0))) = true) (h2 : i = 0 ∨ lessF (xs.getD (((i : Nat) : Int) - 1).toNat (0, (0, 0))) (xs.getD i (0, (0, 0))) = true) : fbB xs i = true := by
  have e : (((i : Nat) : Int) - 1).toNat = i - 1 := by omega
  rw [e] at h2
  unfold fbB; rw [h, Bool.true_and, Bool.or_eq_true, decide_eq_true_iff]; exact h2
theorem fbB_f {xs : List T247} {i : Nat} (h : validF (xs.getD i (0, (0, 0))) = false ∨ (0 < i ∧ lessF (xs.getD (((i : Nat) : Int) - 1).toNat (0, (0, 0))) (xs.getD i (0, (0, 0))) = false)) : fbB xs i = false := by
  have e : (((i : Nat) : Int) - 1).toNat = i - 1 := by omega
  rw [e] at h
  unfold fbB
  rcases h with h | h
  · rw [h]; rfl
  · rw [h.2, decide_eq_false (by omega), Bool.or_false, Bool.and_false]
theorem cmpF_t {a b : T247} (h : ¬ cmpF a b ≥ 0) : lessF a b = true := by rw [cmpF_less]; exact decide_eq_true (by omega)
theorem cmpF_f {a b : T247} (h : cmpF a b ≥ 0) : lessF a b = false := by rw [cmpF_less]; exact decide_eq_false (by omega)


def validFT (x0 : (List T247)) : Bool := (if (allN (fbB x0) (List.length x0)) = true then true else false)
abbrev Q_impl_IsValidFeedbackTable := (fun (x0 : (List T247)) => Sh.fit s89 x0)
def S_impl_IsValidFeedbackTable : Sum := { fid := 175, dom := [s89], cod := [(.bool 4)], dp := true, fz := false, pre := fun x => Q_impl_IsValidFeedbackTable x.1, g := fun x => ((validFT x.1), ()) }
def S_impl_IsValidFeedbackTable_tab : List (Nat × Sum) := [(251, S_impl_IsValidFeedback), (252, S_impl_compareFeedback)]
theorem S_impl_IsValidFeedbackTable_ok : FnOK Try.prog 175 S_impl_IsValidFeedbackTable := by
 refine at_enter 32 (fun x => ⟨[(0, aG [.ro s247 x.1])], []⟩) Try.func175 rfl (by kernel_rfl) (fun x => rfl) ?_
 rintro w0 Z0 ⟨x0, u⟩ a w
 revert x0
 intro (x0 : (List T247)) hpre hlens h
 replace h : At w0 Z0 [] 32 ⟨[(0, aG [.ro s247 x0])], []⟩ a w := h
 replace hpre : Q_impl_IsValidFeedbackTable x0 := hpre
 have hl1 : List.length x0 ≤ 9223372036854775807 := hlens.1.1
 have hT : TabOK Try.prog S_impl_IsValidFeedbackTable_tab := (.cons S_impl_IsValidFeedback_ok (.cons S_impl_compareFeedback_ok .nil))
 have hf0 : Sh.fit s89 x0 := hpre
 have hn0_1 : List.length x0 ≤ 1073741824 := hf0.1
 refine wp_seq ?_
 refine at_regq [{ ids := [1] }] { ts := [1, 2], os := [1] } [] gamOK hT h (by kernel_rfl) trivial fun a w h => then_normal (wp_seq (wp_seq ?_))
 refine at_regq [] { ts := [1, 2, 6, 7, 8], os := [1] } [] gamOK hT h (by kernel_rfl) trivial fun a w h => then_normal (wp_block ?_)
 replace h := at_out (σ' := ⟨[(1, aP 1 0), (2, aB false), (6, aF s247 x0), (7, aI ((List.length x0 : Nat) : Int)), (8, aI 0)], [(1, oX 89 [.ro s247 x0])]⟩) { ts := [1, 2, 6, 7, 8], os := [1] } h (by kernel_rfl)
 refine at_loop (fun i : Nat => (⟨[(1, aP 1 0), (2, aB false), (6, aF s247 x0), (7, aI ((List.length x0 : Nat) : Int)), (8, aI ((i : Nat) : Int))], [(1, oX 89 [.ro s247 x0])]⟩ : St)) (fun i => (i ≤ (List.length x0) ∧ allN (fbB x0) i = true)) (fun i => (List.length x0) - i) (0) h (st_congr1 (fun (d0 : Int) => (⟨[(1, aP 1 0), (2, aB false), (6, aF s247 x0), (7, aI ((List.length x0 : Nat) : Int)), (8, aI d0)], [(1, oX 89 [.ro s247 x0])]⟩ : St)) (show (0 : Int) = (((0) : Nat) : Int) from by first | with_reducible rfl | (rfl) | rfl)) (by exact ⟨Nat.zero_le _, rfl⟩) ?_
 intro i a w hok0 h
 refine wp_seq ?_
 refine at_regq [] { ts := [1, 2, 6, 7, 8, 9], os := [1] } [] gamOK hT h (by kernel_rfl) trivial fun a w h => then_normal (wp_seq ?_)
 refine at_test (decide (((i : Nat) : Int) < ((List.length x0 : Nat) : Int))) h (by kernel_rfl) (fun h1 => ?_) (fun h1 => ?_)
 ·replace h1 : ((i : Nat) : Int) < ((List.length x0 : Nat) : Int) := of_decide_eq_true h1
  refine wp_skip (then_normal (wp_seq (wp_block (wp_seq ?_))))
  refine at_regq [{}, {}, {}, { ids := [2] }] { ts := [1, 2, 3, 4, 6, 7, 8], os := [1, 2] } [(0 : Int) ≤ ((i : Nat) : Int) ∧ ((i : Nat) : Int) < ((List.length x0 : Nat) : Int)] gamOK hT h (by kernel_rfl) ⟨(by refine ⟨?_, ?_⟩ <;> (first | omega | (simp only [lsA]; omega) | (simp <;> omega))), trivial⟩ fun a w h => then_normal (wp_seq ?_)
  rcases Bool.eq_false_or_eq_true (!(validF (x0.getD i (0, (0, 0))))) with h2 | h2
  ·have hzh2 : (validF (x0.getD i (0, (0, 0)))) = false := notT h2
   refine at_anyq [{}, {}, { hint := some (aB true) }, {}, {}, {}, {}, {}, {}, {}, {}, {}, {}, {}, {}, {}, {}, {}] { ts := [1, 2, 6, 7, 8, 17, 18, 19, 20, 21, 22, 23, 24, 25, 26, 27, 28, 29, 30], os := [1] } [True, (AV.p (.c (.v (.bool (!(validF (x0.getD i (0, (0, 0)))))))) = AV.p (.c (.v (.bool true))))] gamOK hT mixed h (by kernel_rfl) ⟨trivial, hint_bool (h2), trivial⟩ fun a w h => then_normal ?_
   refine at_test true h (by kernel_rfl) (fun hh => ?_) (fun hh => nomatch hh)
   refine wp_seq ?_
   refine at_regq [] { ts := [1, 2, 6, 7, 8, 17, 18, 19, 20, 21, 22, 23, 24, 25, 26, 27, 28, 29], os := [1] } [] gamOK hT h (by kernel_rfl) trivial fun a w h => then_normal (wp_ret (in_ret (then_ret ?_)))
   have hs3 : (allN (fbB x0) (List.length x0)) = false := by exact allN_at (i := i) (by omega) (by exact fbB_f (by first | (left; assumption) | (right; exact ⟨by omega, cmpF_f (by assumption)⟩) | (right; exact ⟨by omega, by assumption⟩)))
   refine then_ret (in_ret (then_ret ?_))
   exact at_return (S := S_impl_IsValidFeedbackTable) (x := (x0, ())) (false, ()) [] h (by kernel_rfl) trivial (congrArg (fun z => (z, ())) (show (false) = validFT x0 from by first | rfl | (unfold validFT; rw [if_neg (neT hs3)])))
  ·have hzh2 : (validF (x0.getD i (0, (0, 0)))) = true := notF h2
   by_cases h4 : ((i : Nat) : Int) > 0
   ·refine at_anyq [{}, {}, { hint := some (aB false) }, {}, {}, { hint := some (aB true) }, {}, {}, {}, {}, { nw := true }, {}, {}, {}, {}, {}, {}, {}] { ts := [1, 2, 6, 7, 8, 17, 18, 19, 20, 21, 22, 23, 24, 25, 26, 27, 28, 29, 30], os := [1] } [True, (AV.p (.c (.v (.bool (!(validF (x0.getD i (0, (0, 0)))))))) = AV.p (.c (.v (.bool false)))), (AV.p (.c (.v (.bool (decide (((i : Nat) : Int) > 0))))) = AV.p (.c (.v (.bool true)))), I64 (((i : Nat) : Int) - 1), (0 : Int) ≤ ((i : Nat) : Int) - 1 ∧ ((i : Nat) : Int) - 1 < ((List.length x0 : Nat) : Int), True] gamOK hT mixed h (by kernel_rfl) ⟨trivial, hint_bool (h2), hint_bool (decide_eq_true h4), ⟨by first | omega | (simp only [lsA]; omega) | (simp <;> omega), by first | omega | (simp only [lsA]; omega) | (simp <;> omega)⟩, (by refine ⟨?_, ?_⟩ <;> (first | omega | (simp only [lsA]; omega) | (simp <;> omega))), trivial, trivial⟩ fun a w h => then_normal ?_
    refine at_test (decide ((cmpF (x0.getD ((((i : Nat) : Int) - 1).toNat) (0, (0, 0))) (x0.getD i (0, (0, 0)))) ≥ 0)) h (by kernel_rfl) (fun h5 => ?_) (fun h5 => ?_)
    ·replace h5 : (cmpF (x0.getD ((((i : Nat) : Int) - 1).toNat) (0, (0, 0))) (x0.getD i (0, (0, 0)))) ≥ 0 := of_decide_eq_true h5
     refine wp_seq ?_
     refine at_regq [] { ts := [1, 2, 6, 7, 8, 17, 18, 19, 20, 21, 22, 23, 24, 25, 26, 27, 28, 29], os := [1] } [] gamOK hT h (by kernel_rfl) trivial fun a w h => then_normal (wp_ret (in_ret (then_ret ?_)))
     have hs6 : (allN (fbB x0) (List.length x0)) = false := by exact allN_at (i := i) (by omega) (by exact fbB_f (by first | (left; assumption) | (right; exact ⟨by omega, cmpF_f (by assumption)⟩) | (right; exact ⟨by omega, by assumption⟩)))
     refine then_ret (in_ret (then_ret ?_))
     exact at_return (S := S_impl_IsValidFeedbackTable) (x := (x0, ())) (false, ()) [] h (by kernel_rfl) trivial (congrArg (fun z => (z, ())) (show (false) = validFT x0 from by first | rfl | (unfold validFT; rw [if_neg (neT hs6)])))
    ·replace h5 : ¬ ((cmpF (x0.getD ((((i : Nat) : Int) - 1).toNat) (0, (0, 0))) (x0.getD i (0, (0, 0)))) ≥ 0) := of_decide_eq_false h5
     refine wp_skip (in_normal (then_normal ?_))
     refine at_regq [{ nw := true }] { ts := [1, 2, 6, 7, 8, 17, 18, 19, 20, 21, 22, 23, 24, 25, 26, 27, 28, 29], os := [1] } [I64 (((i : Nat) : Int) + 1)] gamOK hT h (by kernel_rfl) ⟨⟨by first | omega | (simp only [lsA]; omega) | (simp <;> omega), by first | omega | (simp only [lsA]; omega) | (simp <;> omega)⟩, trivial⟩ fun a w h => ?_
     replace h := at_out (σ' := ⟨[(1, aP 1 0), (2, aB false), (6, aF s247 x0), (7, aI ((List.length x0 : Nat) : Int)), (8, aI (((i : Nat) : Int) + 1))], [(1, oX 89 [.ro s247 x0])]⟩) { ts := [1, 2, 6, 7, 8], os := [1] } h (by kernel_rfl)
     exact ⟨i + 1, at_eq h (st_congr1 (fun (d0 : Int) => (⟨[(1, aP 1 0), (2, aB false), (6, aF s247 x0), (7, aI ((List.length x0 : Nat) : Int)), (8, aI d0)], [(1, oX 89 [.ro s247 x0])]⟩ : St)) (show (((i : Nat) : Int) + 1 : Int) = (((i + 1) : Nat) : Int) from by first | with_reducible rfl | (omega) | rfl)), (by exact ⟨by omega, allN_succ hok0.2 (by exact fbB_t (by assumption) (by first | (left; omega) | (right; exact cmpF_t (by assumption)) | (right; assumption)))⟩), (by omega)⟩
   ·refine at_anyq [{}, {}, { hint := some (aB false) }, {}, {}, { hint := some (aB false) }, {}, {}, {}, {}, {}, {}, {}, {}, {}, {}, {}, {}] { ts := [1, 2, 6, 7, 8, 17, 18, 19, 20, 21, 22, 23, 24, 25, 26, 27, 28, 29, 30], os := [1] } [True, (AV.p (.c (.v (.bool (!(validF (x0.getD i (0, (0, 0)))))))) = AV.p (.c (.v (.bool false)))), (AV.p (.c (.v (.bool (decide (((i : Nat) : Int) > 0))))) = AV.p (.c (.v (.bool false))))] gamOK hT mixed h (by kernel_rfl) ⟨trivial, hint_bool (h2), hint_bool (decide_eq_false h4), trivial⟩ fun a w h => then_normal ?_
    refine at_test false h (by kernel_rfl) (fun hh => nomatch hh) (fun hh => ?_)
    refine wp_skip (in_normal (then_normal ?_))
    refine at_regq [{ nw := true }] { ts := [1, 2, 6, 7, 8, 17, 18, 19, 20, 21, 22, 23, 24, 25, 26, 27, 28, 29], os := [1] } [I64 (((i : Nat) : Int) + 1)] gamOK hT h (by kernel_rfl) ⟨⟨by first | omega | (simp only [lsA]; omega) | (simp <;> omega), by first | omega | (simp only [lsA]; omega) | (simp <;> omega)⟩, trivial⟩ fun a w h => ?_
    replace h := at_out (σ' := ⟨[(1, aP 1 0), (2, aB false), (6, aF s247 x0), (7, aI ((List.length x0 : Nat) : Int)), (8, aI (((i : Nat) : Int) + 1))], [(1, oX 89 [.ro s247 x0])]⟩) { ts := [1, 2, 6, 7, 8], os := [1] } h (by kernel_rfl)
    exact ⟨i + 1, at_eq h (st_congr1 (fun (d0 : Int) => (⟨[(1, aP 1 0), (2, aB false), (6, aF s247 x0), (7, aI ((List.length x0 : Nat) : Int)), (8, aI d0)], [(1, oX 89 [.ro s247 x0])]⟩ : St)) (show (((i : Nat) : Int) + 1 : Int) = (((i + 1) : Nat) : Int) from by first | with_reducible rfl | (omega) | rfl)), (by exact ⟨by omega, allN_succ hok0.2 (by exact fbB_t (by assumption) (by first | (left; omega) | (right; exact cmpF_t (by assumption)) | (right; assumption)))⟩), (by omega)⟩
 ·replace h1 : ¬ (((i : Nat) : Int) < ((List.length x0 : Nat) : Int)) := of_decide_eq_false h1
  refine wp_exit (then_exit ?_)
  have hs7 : (allN (fbB x0) (List.length x0)) = true := by exact allN_eq (by omega) hok0.1 hok0.2
  refine then_exit (in_hit (then_normal (wp_seq ?_)))
  refine at_regq [] { ts := [2], os := [] } [] gamOK hT h (by kernel_rfl) trivial fun a w h => then_normal (wp_ret ?_)
  exact at_return (S := S_impl_IsValidFeedbackTable) (x := (x0, ())) (true, ()) [] h (by kernel_rfl) trivial (congrArg (fun z => (z, ())) (show (true) = validFT x0 from by first | rfl | (unfold validFT; rw [if_pos hs7])))

abbrev Q_spec_IsValidFeedbackTable := (fun (x0 : (List T247)) => Sh.fit s89 x0)
def S_spec_IsValidFeedbackTable : Sum := { fid := 171, dom := [s89], cod := [(.bool 4)], dp := true, fz := false, pre := fun x => Q_spec_IsValidFeedbackTable x.1, g := fun x => ((validFT x.1), ()) }
def S_spec_IsValidFeedbackTable_tab : List (Nat × Sum) := [(248, S_spec_IsValidFeedback), (249, S_spec_l17Less)]
theorem S_spec_IsValidFeedbackTable_ok : FnOK Try.prog 171 S_spec_IsValidFeedbackTable := by
 refine at_enter 37 (fun x => ⟨[(0, aG [.ro s247 x.1])], []⟩) Try.func171 rfl (by kernel_rfl) (fun x => rfl) ?_
 rintro w0 Z0 ⟨x0, u⟩ a w
 revert x0
 intro (x0 : (List T247)) hpre hlens h
 replace h : At w0 Z0 [] 37 ⟨[(0, aG [.ro s247 x0])], []⟩ a w := h
 replace hpre : Q_spec_IsValidFeedbackTable x0 := hpre
 have hl1 : List.length x0 ≤ 9223372036854775807 := hlens.1.1
 have hT : TabOK Try.prog S_spec_IsValidFeedbackTable_tab := (.cons S_spec_IsValidFeedback_ok (.cons S_spec_l17Less_ok .nil))
 have hf0 : Sh.fit s89 x0 := hpre
 have hn0_1 : List.length x0 ≤ 1073741824 := hf0.1
 refine wp_seq ?_
 refine at_regq [{ ids := [1] }] { ts := [1, 2], os := [1] } [] gamOK hT h (by kernel_rfl) trivial fun a w h => then_normal (wp_seq (wp_seq ?_))
 refine at_regq [] { ts := [1, 2, 3], os := [1] } [] gamOK hT h (by kernel_rfl) trivial fun a w h => then_normal (wp_block ?_)
 replace h := at_out (σ' := ⟨[(1, aP 1 0), (2, aB false), (3, aI 0)], [(1, oX 89 [.ro s247 x0])]⟩) { ts := [1, 2, 3], os := [1] } h (by kernel_rfl)
 refine at_loop (fun i : Nat => (⟨[(1, aP 1 0), (2, aB false), (3, aI ((i : Nat) : Int))], [(1, oX 89 [.ro s247 x0])]⟩ : St)) (fun i => (i ≤ (List.length x0) ∧ allN (fbB x0) i = true)) (fun i => (List.length x0) - i) (0) h (st_congr1 (fun (d0 : Int) => (⟨[(1, aP 1 0), (2, aB false), (3, aI d0)], [(1, oX 89 [.ro s247 x0])]⟩ : St)) (show (0 : Int) = (((0) : Nat) : Int) from by first | with_reducible rfl | (rfl) | rfl)) (by exact ⟨Nat.zero_le _, rfl⟩) ?_
 intro i a w hok0 h
 refine wp_seq (wp_seq ?_)
 refine at_regq [] { ts := [1, 2, 3, 8], os := [1] } [] gamOK hT h (by kernel_rfl) trivial fun a w h => then_normal ?_
 refine at_test (decide (((i : Nat) : Int) < ((List.length x0 : Nat) : Int))) h (by kernel_rfl) (fun h1 => ?_) (fun h1 => ?_)
 ·replace h1 : ((i : Nat) : Int) < ((List.length x0 : Nat) : Int) := of_decide_eq_true h1
  refine wp_skip (then_normal (wp_seq (wp_block (wp_seq ?_))))
  rcases Bool.eq_false_or_eq_true (!(validF (x0.getD i (0, (0, 0))))) with h2 | h2
  ·have hzh2 : (validF (x0.getD i (0, (0, 0)))) = false := notT h2
   refine at_anyq [{}, {}, {}, {}, {}, {}, { hint := some (aB true) }, {}, {}, {}, {}, {}, {}, {}, {}, {}, {}, {}, {}, {}, {}, {}, {}, {}, {}, {}] { ts := [1, 2, 3, 19, 20, 21, 22, 23, 24, 25, 26, 27, 28, 29, 30, 31, 32, 33, 34, 35, 36], os := [1] } [(0 : Int) ≤ ((i : Nat) : Int) ∧ ((i : Nat) : Int) < ((List.length x0 : Nat) : Int), True, (AV.p (.c (.v (.bool (!(validF (x0.getD i (0, (0, 0)))))))) = AV.p (.c (.v (.bool true))))] gamOK hT mixed h (by kernel_rfl) ⟨(by refine ⟨?_, ?_⟩ <;> (first | omega | (simp only [lsA]; omega) | (simp <;> omega))), trivial, hint_bool (h2), trivial⟩ fun a w h => then_normal ?_
   refine at_test true h (by kernel_rfl) (fun hh => ?_) (fun hh => nomatch hh)
   refine wp_seq ?_
   refine at_regq [] { ts := [1, 2, 3, 19, 20, 21, 22, 23, 24, 25, 26, 27, 28, 29, 30, 31, 32, 33, 34, 35], os := [1] } [] gamOK hT h (by kernel_rfl) trivial fun a w h => then_normal (wp_ret (in_ret (then_ret ?_)))
   have hs3 : (allN (fbB x0) (List.length x0)) = false := by exact allN_at (i := i) (by omega) (by exact fbB_f (by first | (left; assumption) | (right; exact ⟨by omega, cmpF_f (by assumption)⟩) | (right; exact ⟨by omega, by assumption⟩)))
   refine then_ret (in_ret (then_ret ?_))
   exact at_return (S := S_spec_IsValidFeedbackTable) (x := (x0, ())) (false, ()) [] h (by kernel_rfl) trivial (congrArg (fun z => (z, ())) (show (false) = validFT x0 from by first | rfl | (unfold validFT; rw [if_neg (neT hs3)]; done) | (unfold validFT; simp_all)))
  ·have hzh2 : (validF (x0.getD i (0, (0, 0)))) = true := notF h2
   by_cases h4 : ((i : Nat) : Int) > 0
   ·refine at_anyq [{}, {}, {}, {}, {}, {}, { hint := some (aB false) }, {}, {}, { hint := some (aB true) }, {}, {}, {}, {}, { nw := true }, {}, {}, {}, {}, {}, {}, {}, {}, {}, {}, {}] { ts := [1, 2, 3, 19, 20, 21, 22, 23, 24, 25, 26, 27, 28, 29, 30, 31, 32, 33, 34, 35, 36], os := [1] } [(0 : Int) ≤ ((i : Nat) : Int) ∧ ((i : Nat) : Int) < ((List.length x0 : Nat) : Int), True, (AV.p (.c (.v (.bool (!(validF (x0.getD i (0, (0, 0)))))))) = AV.p (.c (.v (.bool false)))), (AV.p (.c (.v (.bool (decide (((i : Nat) : Int) > 0))))) = AV.p (.c (.v (.bool true)))), I64 (((i : Nat) : Int) - 1), (0 : Int) ≤ ((i : Nat) : Int) - 1 ∧ ((i : Nat) : Int) - 1 < ((List.length x0 : Nat) : Int), (0 : Int) ≤ ((i : Nat) : Int) ∧ ((i : Nat) : Int) < ((List.length x0 : Nat) : Int), True] gamOK hT mixed h (by kernel_rfl) ⟨(by refine ⟨?_, ?_⟩ <;> (first | omega | (simp only [lsA]; omega) | (simp <;> omega))), trivial, hint_bool (h2), hint_bool (decide_eq_true h4), ⟨by first | omega | (simp only [lsA]; omega) | (simp <;> omega), by first | omega | (simp only [lsA]; omega) | (simp <;> omega)⟩, (by refine ⟨?_, ?_⟩ <;> (first | omega | (simp only [lsA]; omega) | (simp <;> omega))), (by refine ⟨?_, ?_⟩ <;> (first | omega | (simp only [lsA]; omega) | (simp <;> omega))), trivial, trivial⟩ fun a w h => then_normal ?_
    refine at_test (!(lessF (x0.getD ((((i : Nat) : Int) - 1).toNat) (0, (0, 0))) (x0.getD i (0, (0, 0))))) h (by kernel_rfl) (fun h5 => ?_) (fun h5 => ?_)
    ·replace h5 : (lessF (x0.getD ((((i : Nat) : Int) - 1).toNat) (0, (0, 0))) (x0.getD i (0, (0, 0)))) = false := notT h5
     refine wp_seq ?_
     refine at_regq [] { ts := [1, 2, 3, 19, 20, 21, 22, 23, 24, 25, 26, 27, 28, 29, 30, 31, 32, 33, 34, 35], os := [1] } [] gamOK hT h (by kernel_rfl) trivial fun a w h => then_normal (wp_ret (in_ret (then_ret ?_)))
     have hs6 : (allN (fbB x0) (List.length x0)) = false := by exact allN_at (i := i) (by omega) (by exact fbB_f (by first | (left; assumption) | (right; exact ⟨by omega, cmpF_f (by assumption)⟩) | (right; exact ⟨by omega, by assumption⟩)))
     refine then_ret (in_ret (then_ret ?_))
     exact at_return (S := S_spec_IsValidFeedbackTable) (x := (x0, ())) (false, ()) [] h (by kernel_rfl) trivial (congrArg (fun z => (z, ())) (show (false) = validFT x0 from by first | rfl | (unfold validFT; rw [if_neg (neT hs6)]; done) | (unfold validFT; simp_all)))
    ·replace h5 : (lessF (x0.getD ((((i : Nat) : Int) - 1).toNat) (0, (0, 0))) (x0.getD i (0, (0, 0)))) = true := notF h5
     refine wp_skip (in_normal (then_normal ?_))
     refine at_regq [{}, { nw := true }] { ts := [1, 2, 3, 19, 20, 21, 22, 23, 24, 25, 26, 27, 28, 29, 30, 31, 32, 33, 34, 35], os := [1] } [I64 (((i : Nat) : Int) + 1)] gamOK hT h (by kernel_rfl) ⟨⟨by first | omega | (simp only [lsA]; omega) | (simp <;> omega), by first | omega | (simp only [lsA]; omega) | (simp <;> omega)⟩, trivial⟩ fun a w h => ?_
     replace h := at_out (σ' := ⟨[(1, aP 1 0), (2, aB false), (3, aI (((i : Nat) : Int) + 1))], [(1, oX 89 [.ro s247 x0])]⟩) { ts := [1, 2, 3], os := [1] } h (by kernel_rfl)
     exact ⟨i + 1, at_eq h (st_congr1 (fun (d0 : Int) => (⟨[(1, aP 1 0), (2, aB false), (3, aI d0)], [(1, oX 89 [.ro s247 x0])]⟩ : St)) (show (((i : Nat) : Int) + 1 : Int) = (((i + 1) : Nat) : Int) from by first | with_reducible rfl | (omega) | rfl)), (by exact ⟨by omega, allN_succ hok0.2 (by exact fbB_t (by assumption) (by first | (left; omega) | (right; exact cmpF_t (by assumption)) | (right; assumption)))⟩), (by omega)⟩
   ·refine at_anyq [{}, {}, {}, {}, {}, {}, { hint := some (aB false) }, {}, {}, { hint := some (aB false) }, {}, {}, {}, {}, {}, {}, {}, {}, {}, {}, {}, {}, {}, {}, {}, {}] { ts := [1, 2, 3, 19, 20, 21, 22, 23, 24, 25, 26, 27, 28, 29, 30, 31, 32, 33, 34, 35, 36], os := [1] } [(0 : Int) ≤ ((i : Nat) : Int) ∧ ((i : Nat) : Int) < ((List.length x0 : Nat) : Int), True, (AV.p (.c (.v (.bool (!(validF (x0.getD i (0, (0, 0)))))))) = AV.p (.c (.v (.bool false)))), (AV.p (.c (.v (.bool (decide (((i : Nat) : Int) > 0))))) = AV.p (.c (.v (.bool false))))] gamOK hT mixed h (by kernel_rfl) ⟨(by refine ⟨?_, ?_⟩ <;> (first | omega | (simp only [lsA]; omega) | (simp <;> omega))), trivial, hint_bool (h2), hint_bool (decide_eq_false h4), trivial⟩ fun a w h => then_normal ?_
    refine at_test false h (by kernel_rfl) (fun hh => nomatch hh) (fun hh => ?_)
    refine wp_skip (in_normal (then_normal ?_))
    refine at_regq [{}, { nw := true }] { ts := [1, 2, 3, 19, 20, 21, 22, 23, 24, 25, 26, 27, 28, 29, 30, 31, 32, 33, 34, 35], os := [1] } [I64 (((i : Nat) : Int) + 1)] gamOK hT h (by kernel_rfl) ⟨⟨by first | omega | (simp only [lsA]; omega) | (simp <;> omega), by first | omega | (simp only [lsA]; omega) | (simp <;> omega)⟩, trivial⟩ fun a w h => ?_
    replace h := at_out (σ' := ⟨[(1, aP 1 0), (2, aB false), (3, aI (((i : Nat) : Int) + 1))], [(1, oX 89 [.ro s247 x0])]⟩) { ts := [1, 2, 3], os := [1] } h (by kernel_rfl)
    exact ⟨i + 1, at_eq h (st_congr1 (fun (d0 : Int) => (⟨[(1, aP 1 0), (2, aB false), (3, aI d0)], [(1, oX 89 [.ro s247 x0])]⟩ : St)) (show (((i : Nat) : Int) + 1 : Int) = (((i + 1) : Nat) : Int) from by first | with_reducible rfl | (omega) | rfl)), (by exact ⟨by omega, allN_succ hok0.2 (by exact fbB_t (by assumption) (by first | (left; omega) | (right; exact cmpF_t (by assumption)) | (right; assumption)))⟩), (by omega)⟩
 ·replace h1 : ¬ (((i : Nat) : Int) < ((List.length x0 : Nat) : Int)) := of_decide_eq_false h1
  refine wp_exit (then_exit ?_)
  have hs7 : (allN (fbB x0) (List.length x0)) = true := by exact allN_eq (by omega) hok0.1 hok0.2
  refine then_exit (in_hit (then_normal (wp_seq ?_)))
  refine at_regq [] { ts := [2], os := [] } [] gamOK hT h (by kernel_rfl) trivial fun a w h => then_normal (wp_ret ?_)
  exact at_return (S := S_spec_IsValidFeedbackTable) (x := (x0, ())) (true, ()) [] h (by kernel_rfl) trivial (congrArg (fun z => (z, ())) (show (true) = validFT x0 from by first | rfl | (unfold validFT; rw [if_pos hs7]; done) | (unfold validFT; simp_all)))

def srcB (s : T91) (i : Nat) : Bool := (validG (s.1.getD i (0, [])) && decide ((s.1.getD i (0, [])).1 = (i : Int))) && ((validR (s.2.2.1.getD i (0, (0, (0, ([], 0))))) && decide (List.length (s.2.2.1.getD i (0, (0, (0, ([], 0))))).2.2.2.1 = 0)) && (decide ((s.2.2.1.getD i (0, (0, (0, ([], 0))))).1 = (i : Int)) && (decide ((s.2.2.1.getD i (0, (0, (0, ([], 0))))).2.1 = ((List.length (s.1.getD i (0, [])).2 : Nat) : Int)) && decide ((s.2.2.1.getD i (0, (0, (0, ([], 0))))).2.2.1 = colsOf (s.1.getD i (0, [])).2))))
theorem srcB_t {s : T91} {i : Nat} (h1 : validG (s.1.getD i (0, [])) = true) (h2 : (s.1.getD i (0, [])).1 = (i : Int)) (h3 : validR (s.2.2.1.getD i (0, (0, (0, ([], 0))))) = true) (h4 : List.length (s.2.2.1.getD i (0, (0, (0, ([], 0))))).2.2.2.1 = 0) (h5 : (s.2.2.1.getD i (0, (0, (0, ([], 0))))).1 = (i : Int)) (h6 : (s.2.2.1.getD i (0, (0, (0, ([], 0))))).2.1 = ((List.length (s.1.getD i (0, [])).2 : Nat) : Int)) (h7 : (s.2.2.1.getD i (0, (0, (0, ([], 0))))).2.2.1 = colsOf (s.1.getD i (0, [])).2) : srcB s i = true := by
  unfold srcB; rw [h1, decide_eq_true h2, h3, decide_eq_true h4, decide_eq_true h5, decide_eq_true h6, decide_eq_true h7]; rfl
theorem srcB_f {s : T91} {i : Nat} (h : validG (s.1.getD i (0, [])) = false ∨ ¬ (s.1.getD i (0, [])).1 = (i : Int) ∨ validR (s.2.2.1.getD i (0, (0, (0, ([], 0))))) = false ∨ ¬ List.length (s.2.2.1.getD i (0, (0, (0, ([], 0))))).2.2.2.1 = 0 ∨ ¬ (s.2.2.1.getD i (0, (0, (0, ([], 0))))).1 = (i : Int) ∨ ¬ (s.2.2.1.getD i (0, (0, (0, ([], 0))))).2.1 = ((List.length (s.1.getD i (0, [])).2 : Nat) : Int) ∨ ¬ (s.2.2.1.getD i (0, (0, (0, ([], 0))))).2.2.1 = colsOf (s.1.getD i (0, [])).2) : srcB s i = false := by
  unfold srcB
  rcases h with h | h | h | h | h | h | h
  · rw [h]; rfl
  · rw [decide_eq_false h]; simp
  · rw [h]; simp
  · rw [decide_eq_false h]; simp
  · rw [decide_eq_false h]; simp
  · rw [decide_eq_false h]; simp
  · rw [decide_eq_false h]; simp


def validSo (x0 : T91) : Bool := (if (inR ((List.length x0.1 : Nat) : Int) 1 60) = true then (if (validW x0.2.1) = true then (if x0.2.1.2.2.2 = ((List.length x0.1 : Nat) : Int) then (if ((List.length x0.2.2.1 : Nat) : Int) = ((List.length x0.1 : Nat) : Int) then (if (validFT x0.2.2.2.1) = true then (if (allN (srcB x0) (List.length x0.1)) = true then true else false) else false) else false) else false) else false) else false)
abbrev Q_impl_IsValidSource := (fun (x0 : T91) => Sh.fit s91 x0)
def S_impl_IsValidSource : Sum := { fid := 79, dom := [s91], cod := [(.bool 4)], dp := true, fz := false, pre := fun x => Q_impl_IsValidSource x.1, g := fun x => ((validSo x.1), ()) }
def S_impl_IsValidSource_tab : List (Nat × Sum) := [(107, S_impl_InRange), (174, S_impl_IsValidWindow), (175, S_impl_IsValidFeedbackTable), (176, S_impl_IsValidGeneration), (157, S_impl_IsValidRecoder), (177, S_impl_SymbolWidth)]
theorem S_impl_IsValidSource_ok : FnOK Try.prog 79 S_impl_IsValidSource := by
 refine at_enter 94 (fun x => ⟨[(0, aG [.ro s218 x.1.1, cI x.1.2.1.1, cI x.1.2.1.2.1, cI x.1.2.1.2.2.1, cI x.1.2.1.2.2.2, .ro s128 x.1.2.2.1, .ro s247 x.1.2.2.2.1, cI x.1.2.2.2.2])], []⟩) Try.func79 rfl (by kernel_rfl) (fun x => rfl) ?_
 rintro w0 Z0 ⟨x0, u⟩ a w
 revert x0
 intro (x0 : T91) hpre hlens h
 replace h : At w0 Z0 [] 94 ⟨[(0, aG [.ro s218 x0.1, cI x0.2.1.1, cI x0.2.1.2.1, cI x0.2.1.2.2.1, cI x0.2.1.2.2.2, .ro s128 x0.2.2.1, .ro s247 x0.2.2.2.1, cI x0.2.2.2.2])], []⟩ a w := h
 replace hpre : Q_impl_IsValidSource x0 := hpre
 have hl1 : List.length x0.1 ≤ 9223372036854775807 := hlens.1.1.1
 have hl2 : List.length x0.2.2.1 ≤ 9223372036854775807 := hlens.1.2.2.1.1
 have hl3 : List.length x0.2.2.2.1 ≤ 9223372036854775807 := hlens.1.2.2.2.1.1
 have hT : TabOK Try.prog S_impl_IsValidSource_tab := (.cons S_impl_InRange_ok (.cons S_impl_IsValidWindow_ok (.cons S_impl_IsValidFeedbackTable_ok (.cons S_impl_IsValidGeneration_ok (.cons S_impl_IsValidRecoder_ok (.cons S_impl_SymbolWidth_ok .nil))))))
 have hf0 : Sh.fit s91 x0 := hpre
 have hn0_1 : List.length x0.1 ≤ 1073741824 := hf0.1.1
 have hn0_2 : List.length x0.2.2.1 ≤ 1073741824 := hf0.2.2.1.1
 have hn0_3 : List.length x0.2.2.2.1 ≤ 1073741824 := hf0.2.2.2.1.1
 refine wp_seq ?_
 refine at_regq [{ ids := [1] }] { ts := [1, 2], os := [1] } [] gamOK hT h (by kernel_rfl) trivial fun a w h => then_normal (wp_seq ?_)
 refine at_regq [] { ts := [1, 2, 3], os := [1] } [] gamOK hT h (by kernel_rfl) trivial fun a w h => then_normal (wp_seq (wp_seq ?_))
 rcases Bool.eq_false_or_eq_true (!(inR ((List.length x0.1 : Nat) : Int) 1 60)) with h1 | h1
 ·have hzh1 : (inR ((List.length x0.1 : Nat) : Int) 1 60) = false := notT h1
  have hvh1 := inR_f (notT h1)
  refine at_regq [{}, {}, { hint := some (aB true) }] { ts := [1, 2, 38], os := [1] } [True, (AV.p (.c (.v (.bool (!(inR ((List.length x0.1 : Nat) : Int) 1 60))))) = AV.p (.c (.v (.bool true))))] gamOK hT h (by kernel_rfl) ⟨trivial, hint_bool (h1), trivial⟩ fun a w h => then_normal ?_
  refine at_test true h (by kernel_rfl) (fun hh => ?_) (fun hh => nomatch hh)
  refine wp_seq ?_
  refine at_regq [] { ts := [1, 2], os := [1] } [] gamOK hT h (by kernel_rfl) trivial fun a w h => then_normal (wp_ret (then_ret ?_))
  exact at_return (S := S_impl_IsValidSource) (x := (x0, ())) (false, ()) [] h (by kernel_rfl) trivial (congrArg (fun z => (z, ())) (show (false) = validSo x0 from by first | rfl | (unfold validSo; rw [if_neg (neT (notT h1))])))
 ·have hzh1 : (inR ((List.length x0.1 : Nat) : Int) 1 60) = true := notF h1
  have hvh1 := inR_t (notF h1)
  rcases Bool.eq_false_or_eq_true (!(validW x0.2.1)) with h2 | h2
  ·have hzh2 : (validW x0.2.1) = false := notT h2
   refine at_regq [{}, {}, { hint := some (aB false) }, {}, {}, {}, {}, { hint := some (aB true) }] { ts := [1, 2, 38], os := [1] } [True, (AV.p (.c (.v (.bool (!(inR ((List.length x0.1 : Nat) : Int) 1 60))))) = AV.p (.c (.v (.bool false)))), True, (AV.p (.c (.v (.bool (!(validW x0.2.1))))) = AV.p (.c (.v (.bool true))))] gamOK hT h (by kernel_rfl) ⟨trivial, hint_bool (h1), trivial, hint_bool (h2), trivial⟩ fun a w h => then_normal ?_
   refine at_test true h (by kernel_rfl) (fun hh => ?_) (fun hh => nomatch hh)
   refine wp_seq ?_
   refine at_regq [] { ts := [1, 2], os := [1] } [] gamOK hT h (by kernel_rfl) trivial fun a w h => then_normal (wp_ret (then_ret ?_))
   exact at_return (S := S_impl_IsValidSource) (x := (x0, ())) (false, ()) [] h (by kernel_rfl) trivial (congrArg (fun z => (z, ())) (show (false) = validSo x0 from by first | rfl | (unfold validSo; rw [if_pos (notF h1), if_neg (neT (notT h2))])))
  ·have hzh2 : (validW x0.2.1) = true := notF h2
   have hvh2 := validW_t (notF h2)
   by_cases h3 : x0.2.1.2.2.2 = ((List.length x0.1 : Nat) : Int)
   ·by_cases h4 : ((List.length x0.2.2.1 : Nat) : Int) = ((List.length x0.1 : Nat) : Int)
    ·refine at_regq [{}, {}, { hint := some (aB false) }, {}, {}, {}, {}, { hint := some (aB false) }, {}, {}, {}, {}, {}, {}, { hint := some (aB false) }, {}, {}, {}, {}, {}, {}, { hint := some (aB false) }] { ts := [1, 2, 38], os := [1] } [True, (AV.p (.c (.v (.bool (!(inR ((List.length x0.1 : Nat) : Int) 1 60))))) = AV.p (.c (.v (.bool false)))), True, (AV.p (.c (.v (.bool (!(validW x0.2.1))))) = AV.p (.c (.v (.bool false)))), (AV.p (.c (.v (.bool (!decide (x0.2.1.2.2.2 = ((List.length x0.1 : Nat) : Int)))))) = AV.p (.c (.v (.bool false)))), (AV.p (.c (.v (.bool (!decide (((List.length x0.2.2.1 : Nat) : Int) = ((List.length x0.1 : Nat) : Int)))))) = AV.p (.c (.v (.bool false)))), Q_impl_IsValidFeedbackTable x0.2.2.2.1] gamOK hT h (by kernel_rfl) ⟨trivial, hint_bool (h1), trivial, hint_bool (h2), hint_bool (ndT h3), hint_bool (ndT h4), (by exact hf0.2.2.2.1), trivial⟩ fun a w h => then_normal ?_
     refine at_test (!(validFT x0.2.2.2.1)) h (by kernel_rfl) (fun h5 => ?_) (fun h5 => ?_)
     ·replace h5 : (validFT x0.2.2.2.1) = false := notT h5
      refine wp_seq ?_
      refine at_regq [] { ts := [1, 2], os := [1] } [] gamOK hT h (by kernel_rfl) trivial fun a w h => then_normal (wp_ret (then_ret ?_))
      exact at_return (S := S_impl_IsValidSource) (x := (x0, ())) (false, ()) [] h (by kernel_rfl) trivial (congrArg (fun z => (z, ())) (show (false) = validSo x0 from by first | rfl | (unfold validSo; rw [if_pos (notF h1), if_pos (notF h2), if_pos h3, if_pos h4, if_neg (neT h5)])))
     ·replace h5 : (validFT x0.2.2.2.1) = true := notF h5
      refine wp_skip (then_normal (wp_seq (wp_seq ?_)))
      refine at_regq [] { ts := [1, 2, 40, 41, 42], os := [1] } [] gamOK hT h (by kernel_rfl) trivial fun a w h => then_normal (wp_block ?_)
      replace h := at_out (σ' := ⟨[(1, aP 1 0), (2, aB false), (40, aF s218 x0.1), (41, aI ((List.length x0.1 : Nat) : Int)), (42, aI 0)], [(1, oX 91 [.ro s218 x0.1, cI x0.2.1.1, cI x0.2.1.2.1, cI x0.2.1.2.2.1, cI x0.2.1.2.2.2, .ro s128 x0.2.2.1, .ro s247 x0.2.2.2.1, cI x0.2.2.2.2])]⟩) { ts := [1, 2, 40, 41, 42], os := [1] } h (by kernel_rfl)
      refine at_loop (fun i : Nat => (⟨[(1, aP 1 0), (2, aB false), (40, aF s218 x0.1), (41, aI ((List.length x0.1 : Nat) : Int)), (42, aI ((i : Nat) : Int))], [(1, oX 91 [.ro s218 x0.1, cI x0.2.1.1, cI x0.2.1.2.1, cI x0.2.1.2.2.1, cI x0.2.1.2.2.2, .ro s128 x0.2.2.1, .ro s247 x0.2.2.2.1, cI x0.2.2.2.2])]⟩ : St)) (fun i => (i ≤ (List.length x0.1) ∧ allN (srcB x0) i = true)) (fun i => (List.length x0.1) - i) (0) h (st_congr1 (fun (d0 : Int) => (⟨[(1, aP 1 0), (2, aB false), (40, aF s218 x0.1), (41, aI ((List.length x0.1 : Nat) : Int)), (42, aI d0)], [(1, oX 91 [.ro s218 x0.1, cI x0.2.1.1, cI x0.2.1.2.1, cI x0.2.1.2.2.1, cI x0.2.1.2.2.2, .ro s128 x0.2.2.1, .ro s247 x0.2.2.2.1, cI x0.2.2.2.2])]⟩ : St)) (show (0 : Int) = (((0) : Nat) : Int) from by first | with_reducible rfl | (rfl) | rfl)) (by exact ⟨Nat.zero_le _, rfl⟩) ?_
      intro i a w hok0 h
      refine wp_seq ?_
      refine at_regq [] { ts := [1, 2, 40, 41, 42, 43], os := [1] } [] gamOK hT h (by kernel_rfl) trivial fun a w h => then_normal (wp_seq ?_)
      refine at_test (decide (((i : Nat) : Int) < ((List.length x0.1 : Nat) : Int))) h (by kernel_rfl) (fun h6 => ?_) (fun h6 => ?_)
      ·replace h6 : ((i : Nat) : Int) < ((List.length x0.1 : Nat) : Int) := of_decide_eq_true h6
       refine wp_skip (then_normal (wp_seq (wp_block (wp_seq ?_))))
       refine at_regq [{}, {}, {}, { ids := [2] }] { ts := [1, 2, 4, 5, 40, 41, 42], os := [1, 2] } [(0 : Int) ≤ ((i : Nat) : Int) ∧ ((i : Nat) : Int) < ((List.length x0.1 : Nat) : Int)] gamOK hT h (by kernel_rfl) ⟨(by refine ⟨?_, ?_⟩ <;> (first | omega | (simp only [lsA]; omega) | (simp <;> omega))), trivial⟩ fun a w h => then_normal (wp_seq ?_)
       refine at_regq [{}, {}, {}, {}, {}, { ids := [3] }] { ts := [1, 2, 4, 5, 6, 40, 41, 42], os := [1, 2, 3] } [(0 : Int) ≤ ((i : Nat) : Int) ∧ ((i : Nat) : Int) < ((List.length x0.2.2.1 : Nat) : Int)] gamOK hT h (by kernel_rfl) ⟨(by refine ⟨?_, ?_⟩ <;> (first | omega | (simp only [lsA]; omega) | (simp <;> omega))), trivial⟩ fun a w h => then_normal (wp_seq ?_)
       rcases Bool.eq_false_or_eq_true (!(validG (x0.1.getD i (0, [])))) with h7 | h7
       ·have hzh7 : (validG (x0.1.getD i (0, []))) = false := notT h7
        refine at_anyq [{}, {}, { hint := some (aB true) }, {}, {}, {}, {}, {}, {}, {}, {}, {}, {}, {}, {}, {}, {}, {}, {}, {}, {}, {}, {}, {}, {}, {}, {}, {}, {}, {}, {}, {}, {}, {}, {}, {}, {}, {}, {}, {}, {}] { ts := [1, 2, 40, 41, 42, 56, 57, 58, 59, 62, 63, 64, 67, 68, 69, 70, 73, 74, 75, 76, 79, 80, 81, 82, 83, 84, 87, 88, 89, 90, 91, 92], os := [1] } [Q_impl_IsValidGeneration (x0.1.getD i (0, [])), (AV.p (.c (.v (.bool (!(validG (x0.1.getD i (0, []))))))) = AV.p (.c (.v (.bool true))))] gamOK hT mixed h (by kernel_rfl) ⟨(by exact (Sh.fit_getD hf0.1 i)), hint_bool (h7), trivial⟩ fun a w h => then_normal ?_
        refine at_test true h (by kernel_rfl) (fun hh => ?_) (fun hh => nomatch hh)
        refine wp_seq ?_
        refine at_reg [] { ts := [1, 2, 40, 41, 42, 56, 57, 58, 59, 62, 63, 64, 67, 68, 69, 70, 73, 74, 75, 76, 79, 80, 81, 82, 83, 84, 87, 88, 89, 90, 91], os := [1] } ⟨[(1, aP 1 0), (2, aB false), (40, aF s218 x0.1), (41, aI ((List.length x0.1 : Nat) : Int)), (42, aI ((i : Nat) : Int)), (56, .p (.c (.v undef))), (57, .p (.c (.v undef))), (58, .p (.c (.v undef))), (59, .p (.c (.v undef))), (62, .p (.c (.v undef))), (63, .p (.c (.v undef))), (64, .p (.c (.v undef))), (67, .p (.c (.v undef))), (68, .p (.c (.v undef))), (69, .p (.c (.v undef))), (70, .p (.c (.v undef))), (73, .p (.c (.v undef))), (74, .p (.c (.v undef))), (75, .p (.c (.v undef))), (76, .p (.c (.v undef))), (79, .p (.c (.v undef))), (80, .p (.c (.v undef))), (81, .p (.c (.v undef))), (82, .p (.c (.v undef))), (83, .p (.c (.v undef))), (84, .p (.c (.v undef))), (87, .p (.c (.v undef))), (88, .p (.c (.v undef))), (89, .p (.c (.v undef))), (90, .p (.c (.v undef))), (91, .p (.c (.v undef)))], [(1, oX 91 [.ro s218 x0.1, cI x0.2.1.1, cI x0.2.1.2.1, cI x0.2.1.2.2.1, cI x0.2.1.2.2.2, .ro s128 x0.2.2.1, .ro s247 x0.2.2.2.1, cI x0.2.2.2.2])]⟩ [] gamOK hT h (by kernel_rfl) trivial fun a w h => then_normal (wp_ret (in_ret (then_ret ?_)))
        have hs8 : (allN (srcB x0) (List.length x0.1)) = false := by exact allN_at (i := i) (by omega) (by exact srcB_f (by first | (left; assumption) | (right; right; left; assumption) | (right; left; omega) | (right; right; right; left; omega) | (right; right; right; right; left; omega) | (right; right; right; right; right; left; omega) | (right; right; right; right; right; right; omega)))
        refine then_ret (in_ret (then_ret ?_))
        exact at_return (S := S_impl_IsValidSource) (x := (x0, ())) (false, ()) [] h (by kernel_rfl) trivial (congrArg (fun z => (z, ())) (show (false) = validSo x0 from by first | rfl | (unfold validSo; rw [if_pos (notF h1), if_pos (notF h2), if_pos h3, if_pos h4, if_pos h5, if_neg (neT hs8)])))
       ·have hzh7 : (validG (x0.1.getD i (0, []))) = true := notF h7
        have hvh7 := validG_t (notF h7)
        by_cases h9 : (x0.1.getD i (0, [])).1 = ((i : Nat) : Int)
        ·rcases Bool.eq_false_or_eq_true (!(validR (x0.2.2.1.getD i (0, (0, (0, ([], 0))))))) with h10 | h10
         ·have hzh10 : (validR (x0.2.2.1.getD i (0, (0, (0, ([], 0)))))) = false := notT h10
          refine at_anyq [{}, {}, { hint := some (aB false) }, {}, {}, {}, {}, { hint := some (aB false) }, {}, {}, {}, {}, { hint := some (aB true) }, {}, {}, {}, {}, {}, {}, {}, {}, {}, {}, {}, {}, {}, {}, {}, {}, {}, {}, {}, {}, {}, {}, {}, {}, {}, {}, {}, {}] { ts := [1, 2, 40, 41, 42, 56, 57, 58, 59, 62, 63, 64, 67, 68, 69, 70, 73, 74, 75, 76, 79, 80, 81, 82, 83, 84, 87, 88, 89, 90, 91, 92], os := [1, 2] } [Q_impl_IsValidGeneration (x0.1.getD i (0, [])), (AV.p (.c (.v (.bool (!(validG (x0.1.getD i (0, []))))))) = AV.p (.c (.v (.bool false)))), (AV.p (.c (.v (.bool (!decide ((x0.1.getD i (0, [])).1 = ((i : Nat) : Int)))))) = AV.p (.c (.v (.bool false)))), Q_impl_IsValidRecoder (x0.2.2.1.getD i (0, (0, (0, ([], 0))))), (AV.p (.c (.v (.bool (!(validR (x0.2.2.1.getD i (0, (0, (0, ([], 0)))))))))) = AV.p (.c (.v (.bool true))))] gamOK hT mixed h (by kernel_rfl) ⟨(by exact (Sh.fit_getD hf0.1 i)), hint_bool (h7), hint_bool (ndT h9), (by exact (Sh.fit_getD hf0.2.2.1 i)), hint_bool (h10), trivial⟩ fun a w h => then_normal ?_
          refine at_test true h (by kernel_rfl) (fun hh => ?_) (fun hh => nomatch hh)
          refine wp_seq ?_
          refine at_reg [] { ts := [1, 2, 40, 41, 42, 56, 57, 58, 59, 62, 63, 64, 67, 68, 69, 70, 73, 74, 75, 76, 79, 80, 81, 82, 83, 84, 87, 88, 89, 90, 91], os := [1, 2] } ⟨[(1, aP 1 0), (2, aB false), (40, aF s218 x0.1), (41, aI ((List.length x0.1 : Nat) : Int)), (42, aI ((i : Nat) : Int)), (56, aP 2 0), (57, aI (x0.1.getD i (0, [])).1), (58, aI ((i : Nat) : Int)), (59, aB false), (62, aG [cI (x0.2.2.1.getD i (0, (0, (0, ([], 0))))).1, cI (x0.2.2.1.getD i (0, (0, (0, ([], 0))))).2.1, cI (x0.2.2.1.getD i (0, (0, (0, ([], 0))))).2.2.1, .ro s61 (x0.2.2.1.getD i (0, (0, (0, ([], 0))))).2.2.2.1, cI (x0.2.2.1.getD i (0, (0, (0, ([], 0))))).2.2.2.2]), (63, aB (validR (x0.2.2.1.getD i (0, (0, (0, ([], 0))))))), (64, aB true), (67, .p (.c (.v undef))), (68, .p (.c (.v undef))), (69, .p (.c (.v undef))), (70, .p (.c (.v undef))), (73, .p (.c (.v undef))), (74, .p (.c (.v undef))), (75, .p (.c (.v undef))), (76, .p (.c (.v undef))), (79, .p (.c (.v undef))), (80, .p (.c (.v undef))), (81, .p (.c (.v undef))), (82, .p (.c (.v undef))), (83, .p (.c (.v undef))), (84, .p (.c (.v undef))), (87, .p (.c (.v undef))), (88, .p (.c (.v undef))), (89, .p (.c (.v undef))), (90, .p (.c (.v undef))), (91, .p (.c (.v undef)))], [(1, oX 91 [.ro s218 x0.1, cI x0.2.1.1, cI x0.2.1.2.1, cI x0.2.1.2.2.1, cI x0.2.1.2.2.2, .ro s128 x0.2.2.1, .ro s247 x0.2.2.2.1, cI x0.2.2.2.2]), (2, oX 218 [cI (x0.1.getD i (0, [])).1, .ro s22 (x0.1.getD i (0, [])).2])]⟩ [] gamOK hT h (by kernel_rfl) trivial fun a w h => then_normal (wp_ret (in_ret (then_ret ?_)))
          have hs11 : (allN (srcB x0) (List.length x0.1)) = false := by exact allN_at (i := i) (by omega) (by exact srcB_f (by first | (left; assumption) | (right; right; left; assumption) | (right; left; omega) | (right; right; right; left; omega) | (right; right; right; right; left; omega) | (right; right; right; right; right; left; omega) | (right; right; right; right; right; right; omega)))
          refine then_ret (in_ret (then_ret ?_))
          exact at_return (S := S_impl_IsValidSource) (x := (x0, ())) (false, ()) [] h (by kernel_rfl) trivial (congrArg (fun z => (z, ())) (show (false) = validSo x0 from by first | rfl | (unfold validSo; rw [if_pos (notF h1), if_pos (notF h2), if_pos h3, if_pos h4, if_pos h5, if_neg (neT hs11)])))
         ·have hzh10 : (validR (x0.2.2.1.getD i (0, (0, (0, ([], 0)))))) = true := notF h10
          have hvh10 := validR_t (notF h10)
          by_cases h12 : ((List.length (x0.2.2.1.getD i (0, (0, (0, ([], 0))))).2.2.2.1 : Nat) : Int) > 0
          ·refine at_anyq [{}, {}, { hint := some (aB false) }, {}, {}, {}, {}, { hint := some (aB false) }, {}, {}, {}, {}, { hint := some (aB false) }, {}, {}, {}, {}, {}, { hint := some (aB true) }, {}, {}, {}, {}, {}, {}, {}, {}, {}, {}, {}, {}, {}, {}, {}, {}, {}, {}, {}, {}, {}, {}] { ts := [1, 2, 40, 41, 42, 56, 57, 58, 59, 62, 63, 64, 67, 68, 69, 70, 73, 74, 75, 76, 79, 80, 81, 82, 83, 84, 87, 88, 89, 90, 91, 92], os := [1, 2, 3] } [Q_impl_IsValidGeneration (x0.1.getD i (0, [])), (AV.p (.c (.v (.bool (!(validG (x0.1.getD i (0, []))))))) = AV.p (.c (.v (.bool false)))), (AV.p (.c (.v (.bool (!decide ((x0.1.getD i (0, [])).1 = ((i : Nat) : Int)))))) = AV.p (.c (.v (.bool false)))), Q_impl_IsValidRecoder (x0.2.2.1.getD i (0, (0, (0, ([], 0))))), (AV.p (.c (.v (.bool (!(validR (x0.2.2.1.getD i (0, (0, (0, ([], 0)))))))))) = AV.p (.c (.v (.bool false)))), (AV.p (.c (.v (.bool (decide (((List.length (x0.2.2.1.getD i (0, (0, (0, ([], 0))))).2.2.2.1 : Nat) : Int) > 0))))) = AV.p (.c (.v (.bool true))))] gamOK hT mixed h (by kernel_rfl) ⟨(by exact (Sh.fit_getD hf0.1 i)), hint_bool (h7), hint_bool (ndT h9), (by exact (Sh.fit_getD hf0.2.2.1 i)), hint_bool (h10), hint_bool (decide_eq_true h12), trivial⟩ fun a w h => then_normal ?_
           refine at_test true h (by kernel_rfl) (fun hh => ?_) (fun hh => nomatch hh)
           refine wp_seq ?_
           refine at_reg [] { ts := [1, 2, 40, 41, 42, 56, 57, 58, 59, 62, 63, 64, 67, 68, 69, 70, 73, 74, 75, 76, 79, 80, 81, 82, 83, 84, 87, 88, 89, 90, 91], os := [1, 2, 3] } ⟨[(1, aP 1 0), (2, aB false), (40, aF s218 x0.1), (41, aI ((List.length x0.1 : Nat) : Int)), (42, aI ((i : Nat) : Int)), (56, aP 2 0), (57, aI (x0.1.getD i (0, [])).1), (58, aI ((i : Nat) : Int)), (59, aB false), (62, aG [cI (x0.2.2.1.getD i (0, (0, (0, ([], 0))))).1, cI (x0.2.2.1.getD i (0, (0, (0, ([], 0))))).2.1, cI (x0.2.2.1.getD i (0, (0, (0, ([], 0))))).2.2.1, .ro s61 (x0.2.2.1.getD i (0, (0, (0, ([], 0))))).2.2.2.1, cI (x0.2.2.1.getD i (0, (0, (0, ([], 0))))).2.2.2.2]), (63, aB (validR (x0.2.2.1.getD i (0, (0, (0, ([], 0))))))), (64, aB false), (67, aP 3 3), (68, aF s61 (x0.2.2.1.getD i (0, (0, (0, ([], 0))))).2.2.2.1), (69, aI ((List.length (x0.2.2.1.getD i (0, (0, (0, ([], 0))))).2.2.2.1 : Nat) : Int)), (70, aB true), (73, .p (.c (.v undef))), (74, .p (.c (.v undef))), (75, .p (.c (.v undef))), (76, .p (.c (.v undef))), (79, .p (.c (.v undef))), (80, .p (.c (.v undef))), (81, .p (.c (.v undef))), (82, .p (.c (.v undef))), (83, .p (.c (.v undef))), (84, .p (.c (.v undef))), (87, .p (.c (.v undef))), (88, .p (.c (.v undef))), (89, .p (.c (.v undef))), (90, .p (.c (.v undef))), (91, .p (.c (.v undef)))], [(1, oX 91 [.ro s218 x0.1, cI x0.2.1.1, cI x0.2.1.2.1, cI x0.2.1.2.2.1, cI x0.2.1.2.2.2, .ro s128 x0.2.2.1, .ro s247 x0.2.2.2.1, cI x0.2.2.2.2]), (2, oX 218 [cI (x0.1.getD i (0, [])).1, .ro s22 (x0.1.getD i (0, [])).2]), (3, oX 128 [cI (x0.2.2.1.getD i (0, (0, (0, ([], 0))))).1, cI (x0.2.2.1.getD i (0, (0, (0, ([], 0))))).2.1, cI (x0.2.2.1.getD i (0, (0, (0, ([], 0))))).2.2.1, .ro s61 (x0.2.2.1.getD i (0, (0, (0, ([], 0))))).2.2.2.1, cI (x0.2.2.1.getD i (0, (0, (0, ([], 0))))).2.2.2.2])]⟩ [] gamOK hT h (by kernel_rfl) trivial fun a w h => then_normal (wp_ret (in_ret (then_ret ?_)))
           have hs13 : (allN (srcB x0) (List.length x0.1)) = false := by exact allN_at (i := i) (by omega) (by exact srcB_f (by first | (left; assumption) | (right; right; left; assumption) | (right; left; omega) | (right; right; right; left; omega) | (right; right; right; right; left; omega) | (right; right; right; right; right; left; omega) | (right; right; right; right; right; right; omega)))
           refine then_ret (in_ret (then_ret ?_))
           exact at_return (S := S_impl_IsValidSource) (x := (x0, ())) (false, ()) [] h (by kernel_rfl) trivial (congrArg (fun z => (z, ())) (show (false) = validSo x0 from by first | rfl | (unfold validSo; rw [if_pos (notF h1), if_pos (notF h2), if_pos h3, if_pos h4, if_pos h5, if_neg (neT hs13)])))
          ·by_cases h14 : (x0.2.2.1.getD i (0, (0, (0, ([], 0))))).1 = ((i : Nat) : Int)
           ·by_cases h15 : (x0.2.2.1.getD i (0, (0, (0, ([], 0))))).2.1 = ((List.length (x0.1.getD i (0, [])).2 : Nat) : Int)
            ·refine at_anyq [{}, {}, { hint := some (aB false) }, {}, {}, {}, {}, { hint := some (aB false) }, {}, {}, {}, {}, { hint := some (aB false) }, {}, {}, {}, {}, {}, { hint := some (aB false) }, {}, {}, {}, {}, {}, { hint := some (aB false) }, {}, {}, {}, {}, {}, {}, {}, { hint := some (aB false) }, {}, {}, {}, {}, {}, {}, {}, {}] { ts := [1, 2, 40, 41, 42, 56, 57, 58, 59, 62, 63, 64, 67, 68, 69, 70, 73, 74, 75, 76, 79, 80, 81, 82, 83, 84, 87, 88, 89, 90, 91, 92], os := [1, 2, 3] } [Q_impl_IsValidGeneration (x0.1.getD i (0, [])), (AV.p (.c (.v (.bool (!(validG (x0.1.getD i (0, []))))))) = AV.p (.c (.v (.bool false)))), (AV.p (.c (.v (.bool (!decide ((x0.1.getD i (0, [])).1 = ((i : Nat) : Int)))))) = AV.p (.c (.v (.bool false)))), Q_impl_IsValidRecoder (x0.2.2.1.getD i (0, (0, (0, ([], 0))))), (AV.p (.c (.v (.bool (!(validR (x0.2.2.1.getD i (0, (0, (0, ([], 0)))))))))) = AV.p (.c (.v (.bool false)))), (AV.p (.c (.v (.bool (decide (((List.length (x0.2.2.1.getD i (0, (0, (0, ([], 0))))).2.2.2.1 : Nat) : Int) > 0))))) = AV.p (.c (.v (.bool false)))), (AV.p (.c (.v (.bool (!decide ((x0.2.2.1.getD i (0, (0, (0, ([], 0))))).1 = ((i : Nat) : Int)))))) = AV.p (.c (.v (.bool false)))), (AV.p (.c (.v (.bool (!decide ((x0.2.2.1.getD i (0, (0, (0, ([], 0))))).2.1 = ((List.length (x0.1.getD i (0, [])).2 : Nat) : Int)))))) = AV.p (.c (.v (.bool false)))), Q_impl_SymbolWidth (x0.1.getD i (0, []))] gamOK hT mixed h (by kernel_rfl) ⟨(by exact (Sh.fit_getD hf0.1 i)), hint_bool (h7), hint_bool (ndT h9), (by exact (Sh.fit_getD hf0.2.2.1 i)), hint_bool (h10), hint_bool (decide_eq_false h12), hint_bool (ndT h14), hint_bool (ndT h15), (by exact (Sh.fit_getD hf0.1 i)), trivial⟩ fun a w h => then_normal ?_
             refine at_test (!decide ((x0.2.2.1.getD i (0, (0, (0, ([], 0))))).2.2.1 = (colsOf (x0.1.getD i (0, [])).2))) h (by kernel_rfl) (fun h16 => ?_) (fun h16 => ?_)
             ·replace h16 : ¬ ((x0.2.2.1.getD i (0, (0, (0, ([], 0))))).2.2.1 = (colsOf (x0.1.getD i (0, [])).2)) := of_decide_eq_false (notT h16)
              refine wp_seq ?_
              refine at_reg [] { ts := [1, 2, 40, 41, 42, 56, 57, 58, 59, 62, 63, 64, 67, 68, 69, 70, 73, 74, 75, 76, 79, 80, 81, 82, 83, 84, 87, 88, 89, 90, 91], os := [1, 2, 3] } ⟨[(1, aP 1 0), (2, aB false), (40, aF s218 x0.1), (41, aI ((List.length x0.1 : Nat) : Int)), (42, aI ((i : Nat) : Int)), (56, aP 2 0), (57, aI (x0.1.getD i (0, [])).1), (58, aI ((i : Nat) : Int)), (59, aB false), (62, aG [cI (x0.2.2.1.getD i (0, (0, (0, ([], 0))))).1, cI (x0.2.2.1.getD i (0, (0, (0, ([], 0))))).2.1, cI (x0.2.2.1.getD i (0, (0, (0, ([], 0))))).2.2.1, .ro s61 (x0.2.2.1.getD i (0, (0, (0, ([], 0))))).2.2.2.1, cI (x0.2.2.1.getD i (0, (0, (0, ([], 0))))).2.2.2.2]), (63, aB (validR (x0.2.2.1.getD i (0, (0, (0, ([], 0))))))), (64, aB false), (67, aP 3 3), (68, aF s61 (x0.2.2.1.getD i (0, (0, (0, ([], 0))))).2.2.2.1), (69, aI ((List.length (x0.2.2.1.getD i (0, (0, (0, ([], 0))))).2.2.2.1 : Nat) : Int)), (70, aB false), (73, aP 3 0), (74, aI (x0.2.2.1.getD i (0, (0, (0, ([], 0))))).1), (75, aI ((i : Nat) : Int)), (76, aB false), (79, aP 3 1), (80, aI (x0.2.2.1.getD i (0, (0, (0, ([], 0))))).2.1), (81, aP 2 1), (82, aF s22 (x0.1.getD i (0, [])).2), (83, aI ((List.length (x0.1.getD i (0, [])).2 : Nat) : Int)), (84, aB false), (87, aP 3 2), (88, aI (x0.2.2.1.getD i (0, (0, (0, ([], 0))))).2.2.1), (89, aG [cI (x0.1.getD i (0, [])).1, .ro s22 (x0.1.getD i (0, [])).2]), (90, aI (colsOf (x0.1.getD i (0, [])).2)), (91, aB (!decide ((x0.2.2.1.getD i (0, (0, (0, ([], 0))))).2.2.1 = (colsOf (x0.1.getD i (0, [])).2))))], [(1, oX 91 [.ro s218 x0.1, cI x0.2.1.1, cI x0.2.1.2.1, cI x0.2.1.2.2.1, cI x0.2.1.2.2.2, .ro s128 x0.2.2.1, .ro s247 x0.2.2.2.1, cI x0.2.2.2.2]), (2, oX 218 [cI (x0.1.getD i (0, [])).1, .ro s22 (x0.1.getD i (0, [])).2]), (3, oX 128 [cI (x0.2.2.1.getD i (0, (0, (0, ([], 0))))).1, cI (x0.2.2.1.getD i (0, (0, (0, ([], 0))))).2.1, cI (x0.2.2.1.getD i (0, (0, (0, ([], 0))))).2.2.1, .ro s61 (x0.2.2.1.getD i (0, (0, (0, ([], 0))))).2.2.2.1, cI (x0.2.2.1.getD i (0, (0, (0, ([], 0))))).2.2.2.2])]⟩ [] gamOK hT h (by kernel_rfl) trivial fun a w h => then_normal (wp_ret (in_ret (then_ret ?_)))
              have hs17 : (allN (srcB x0) (List.length x0.1)) = false := by exact allN_at (i := i) (by omega) (by exact srcB_f (by first | (left; assumption) | (right; right; left; assumption) | (right; left; omega) | (right; right; right; left; omega) | (right; right; right; right; left; omega) | (right; right; right; right; right; left; omega) | (right; right; right; right; right; right; omega)))
              refine then_ret (in_ret (then_ret ?_))
              exact at_return (S := S_impl_IsValidSource) (x := (x0, ())) (false, ()) [] h (by kernel_rfl) trivial (congrArg (fun z => (z, ())) (show (false) = validSo x0 from by first | rfl | (unfold validSo; rw [if_pos (notF h1), if_pos (notF h2), if_pos h3, if_pos h4, if_pos h5, if_neg (neT hs17)])))
             ·replace h16 : (x0.2.2.1.getD i (0, (0, (0, ([], 0))))).2.2.1 = (colsOf (x0.1.getD i (0, [])).2) := of_decide_eq_true (notF h16)
              refine wp_skip (in_normal (then_normal ?_))
              refine at_reg [{ nw := true }] { ts := [1, 2, 40, 41, 42, 56, 57, 58, 59, 62, 63, 64, 67, 68, 69, 70, 73, 74, 75, 76, 79, 80, 81, 82, 83, 84, 87, 88, 89, 90, 91], os := [1, 2, 3] } ⟨[(1, aP 1 0), (2, aB false), (40, aF s218 x0.1), (41, aI ((List.length x0.1 : Nat) : Int)), (42, aI (((i : Nat) : Int) + 1)), (56, aP 2 0), (57, aI (x0.1.getD i (0, [])).1), (58, aI ((i : Nat) : Int)), (59, aB false), (62, aG [cI (x0.2.2.1.getD i (0, (0, (0, ([], 0))))).1, cI (x0.2.2.1.getD i (0, (0, (0, ([], 0))))).2.1, cI (x0.2.2.1.getD i (0, (0, (0, ([], 0))))).2.2.1, .ro s61 (x0.2.2.1.getD i (0, (0, (0, ([], 0))))).2.2.2.1, cI (x0.2.2.1.getD i (0, (0, (0, ([], 0))))).2.2.2.2]), (63, aB (validR (x0.2.2.1.getD i (0, (0, (0, ([], 0))))))), (64, aB false), (67, aP 3 3), (68, aF s61 (x0.2.2.1.getD i (0, (0, (0, ([], 0))))).2.2.2.1), (69, aI ((List.length (x0.2.2.1.getD i (0, (0, (0, ([], 0))))).2.2.2.1 : Nat) : Int)), (70, aB false), (73, aP 3 0), (74, aI (x0.2.2.1.getD i (0, (0, (0, ([], 0))))).1), (75, aI ((i : Nat) : Int)), (76, aB false), (79, aP 3 1), (80, aI (x0.2.2.1.getD i (0, (0, (0, ([], 0))))).2.1), (81, aP 2 1), (82, aF s22 (x0.1.getD i (0, [])).2), (83, aI ((List.length (x0.1.getD i (0, [])).2 : Nat) : Int)), (84, aB false), (87, aP 3 2), (88, aI (x0.2.2.1.getD i (0, (0, (0, ([], 0))))).2.2.1), (89, aG [cI (x0.1.getD i (0, [])).1, .ro s22 (x0.1.getD i (0, [])).2]), (90, aI (colsOf (x0.1.getD i (0, [])).2)), (91, aB (!decide ((x0.2.2.1.getD i (0, (0, (0, ([], 0))))).2.2.1 = (colsOf (x0.1.getD i (0, [])).2))))], [(1, oX 91 [.ro s218 x0.1, cI x0.2.1.1, cI x0.2.1.2.1, cI x0.2.1.2.2.1, cI x0.2.1.2.2.2, .ro s128 x0.2.2.1, .ro s247 x0.2.2.2.1, cI x0.2.2.2.2]), (2, oX 218 [cI (x0.1.getD i (0, [])).1, .ro s22 (x0.1.getD i (0, [])).2]), (3, oX 128 [cI (x0.2.2.1.getD i (0, (0, (0, ([], 0))))).1, cI (x0.2.2.1.getD i (0, (0, (0, ([], 0))))).2.1, cI (x0.2.2.1.getD i (0, (0, (0, ([], 0))))).2.2.1, .ro s61 (x0.2.2.1.getD i (0, (0, (0, ([], 0))))).2.2.2.1, cI (x0.2.2.1.getD i (0, (0, (0, ([], 0))))).2.2.2.2])]⟩ [I64 (((i : Nat) : Int) + 1)] gamOK hT h (by kernel_rfl) ⟨⟨by first | omega | (simp only [lsA]; omega) | (simp <;> omega), by first | omega | (simp only [lsA]; omega) | (simp <;> omega)⟩, trivial⟩ fun a w h => ?_
              replace h := at_out (σ' := ⟨[(1, aP 1 0), (2, aB false), (40, aF s218 x0.1), (41, aI ((List.length x0.1 : Nat) : Int)), (42, aI (((i : Nat) : Int) + 1))], [(1, oX 91 [.ro s218 x0.1, cI x0.2.1.1, cI x0.2.1.2.1, cI x0.2.1.2.2.1, cI x0.2.1.2.2.2, .ro s128 x0.2.2.1, .ro s247 x0.2.2.2.1, cI x0.2.2.2.2])]⟩) { ts := [1, 2, 40, 41, 42], os := [1] } h (by kernel_rfl)
              exact ⟨i + 1, at_eq h (st_congr1 (fun (d0 : Int) => (⟨[(1, aP 1 0), (2, aB false), (40, aF s218 x0.1), (41, aI ((List.length x0.1 : Nat) : Int)), (42, aI d0)], [(1, oX 91 [.ro s218 x0.1, cI x0.2.1.1, cI x0.2.1.2.1, cI x0.2.1.2.2.1, cI x0.2.1.2.2.2, .ro s128 x0.2.2.1, .ro s247 x0.2.2.2.1, cI x0.2.2.2.2])]⟩ : St)) (show (((i : Nat) : Int) + 1 : Int) = (((i + 1) : Nat) : Int) from by first | with_reducible rfl | (omega) | rfl)), (by exact ⟨by omega, allN_succ hok0.2 (by exact srcB_t (by assumption) (by omega) (by assumption) (by omega) (by omega) (by omega) (by omega))⟩), (by omega)⟩
            ·refine at_anyq [{}, {}, { hint := some (aB false) }, {}, {}, {}, {}, { hint := some (aB false) }, {}, {}, {}, {}, { hint := some (aB false) }, {}, {}, {}, {}, {}, { hint := some (aB false) }, {}, {}, {}, {}, {}, { hint := some (aB false) }, {}, {}, {}, {}, {}, {}, {}, { hint := some (aB true) }, {}, {}, {}, {}, {}, {}, {}, {}] { ts := [1, 2, 40, 41, 42, 56, 57, 58, 59, 62, 63, 64, 67, 68, 69, 70, 73, 74, 75, 76, 79, 80, 81, 82, 83, 84, 87, 88, 89, 90, 91, 92], os := [1, 2, 3] } [Q_impl_IsValidGeneration (x0.1.getD i (0, [])), (AV.p (.c (.v (.bool (!(validG (x0.1.getD i (0, []))))))) = AV.p (.c (.v (.bool false)))), (AV.p (.c (.v (.bool (!decide ((x0.1.getD i (0, [])).1 = ((i : Nat) : Int)))))) = AV.p (.c (.v (.bool false)))), Q_impl_IsValidRecoder (x0.2.2.1.getD i (0, (0, (0, ([], 0))))), (AV.p (.c (.v (.bool (!(validR (x0.2.2.1.getD i (0, (0, (0, ([], 0)))))))))) = AV.p (.c (.v (.bool false)))), (AV.p (.c (.v (.bool (decide (((List.length (x0.2.2.1.getD i (0, (0, (0, ([], 0))))).2.2.2.1 : Nat) : Int) > 0))))) = AV.p (.c (.v (.bool false)))), (AV.p (.c (.v (.bool (!decide ((x0.2.2.1.getD i (0, (0, (0, ([], 0))))).1 = ((i : Nat) : Int)))))) = AV.p (.c (.v (.bool false)))), (AV.p (.c (.v (.bool (!decide ((x0.2.2.1.getD i (0, (0, (0, ([], 0))))).2.1 = ((List.length (x0.1.getD i (0, [])).2 : Nat) : Int)))))) = AV.p (.c (.v (.bool true))))] gamOK hT mixed h (by kernel_rfl) ⟨(by exact (Sh.fit_getD hf0.1 i)), hint_bool (h7), hint_bool (ndT h9), (by exact (Sh.fit_getD hf0.2.2.1 i)), hint_bool (h10), hint_bool (decide_eq_false h12), hint_bool (ndT h14), hint_bool (ndF h15), trivial⟩ fun a w h => then_normal ?_
             refine at_test true h (by kernel_rfl) (fun hh => ?_) (fun hh => nomatch hh)
             refine wp_seq ?_
             refine at_reg [] { ts := [1, 2, 40, 41, 42, 56, 57, 58, 59, 62, 63, 64, 67, 68, 69, 70, 73, 74, 75, 76, 79, 80, 81, 82, 83, 84, 87, 88, 89, 90, 91], os := [1, 2, 3] } ⟨[(1, aP 1 0), (2, aB false), (40, aF s218 x0.1), (41, aI ((List.length x0.1 : Nat) : Int)), (42, aI ((i : Nat) : Int)), (56, aP 2 0), (57, aI (x0.1.getD i (0, [])).1), (58, aI ((i : Nat) : Int)), (59, aB false), (62, aG [cI (x0.2.2.1.getD i (0, (0, (0, ([], 0))))).1, cI (x0.2.2.1.getD i (0, (0, (0, ([], 0))))).2.1, cI (x0.2.2.1.getD i (0, (0, (0, ([], 0))))).2.2.1, .ro s61 (x0.2.2.1.getD i (0, (0, (0, ([], 0))))).2.2.2.1, cI (x0.2.2.1.getD i (0, (0, (0, ([], 0))))).2.2.2.2]), (63, aB (validR (x0.2.2.1.getD i (0, (0, (0, ([], 0))))))), (64, aB false), (67, aP 3 3), (68, aF s61 (x0.2.2.1.getD i (0, (0, (0, ([], 0))))).2.2.2.1), (69, aI ((List.length (x0.2.2.1.getD i (0, (0, (0, ([], 0))))).2.2.2.1 : Nat) : Int)), (70, aB false), (73, aP 3 0), (74, aI (x0.2.2.1.getD i (0, (0, (0, ([], 0))))).1), (75, aI ((i : Nat) : Int)), (76, aB false), (79, aP 3 1), (80, aI (x0.2.2.1.getD i (0, (0, (0, ([], 0))))).2.1), (81, aP 2 1), (82, aF s22 (x0.1.getD i (0, [])).2), (83, aI ((List.length (x0.1.getD i (0, [])).2 : Nat) : Int)), (84, aB true), (87, .p (.c (.v undef))), (88, .p (.c (.v undef))), (89, .p (.c (.v undef))), (90, .p (.c (.v undef))), (91, .p (.c (.v undef)))], [(1, oX 91 [.ro s218 x0.1, cI x0.2.1.1, cI x0.2.1.2.1, cI x0.2.1.2.2.1, cI x0.2.1.2.2.2, .ro s128 x0.2.2.1, .ro s247 x0.2.2.2.1, cI x0.2.2.2.2]), (2, oX 218 [cI (x0.1.getD i (0, [])).1, .ro s22 (x0.1.getD i (0, [])).2]), (3, oX 128 [cI (x0.2.2.1.getD i (0, (0, (0, ([], 0))))).1, cI (x0.2.2.1.getD i (0, (0, (0, ([], 0))))).2.1, cI (x0.2.2.1.getD i (0, (0, (0, ([], 0))))).2.2.1, .ro s61 (x0.2.2.1.getD i (0, (0, (0, ([], 0))))).2.2.2.1, cI (x0.2.2.1.getD i (0, (0, (0, ([], 0))))).2.2.2.2])]⟩ [] gamOK hT h (by kernel_rfl) trivial fun a w h => then_normal (wp_ret (in_ret (then_ret ?_)))
             have hs18 : (allN (srcB x0) (List.length x0.1)) = false := by exact allN_at (i := i) (by omega) (by exact srcB_f (by first | (left; assumption) | (right; right; left; assumption) | (right; left; omega) | (right; right; right; left; omega) | (right; right; right; right; left; omega) | (right; right; right; right; right; left; omega) | (right; right; right; right; right; right; omega)))
             refine then_ret (in_ret (then_ret ?_))
             exact at_return (S := S_impl_IsValidSource) (x := (x0, ())) (false, ()) [] h (by kernel_rfl) trivial (congrArg (fun z => (z, ())) (show (false) = validSo x0 from by first | rfl | (unfold validSo; rw [if_pos (notF h1), if_pos (notF h2), if_pos h3, if_pos h4, if_pos h5, if_neg (neT hs18)])))
           ·refine at_anyq [{}, {}, { hint := some (aB false) }, {}, {}, {}, {}, { hint := some (aB false) }, {}, {}, {}, {}, { hint := some (aB false) }, {}, {}, {}, {}, {}, { hint := some (aB false) }, {}, {}, {}, {}, {}, { hint := some (aB true) }, {}, {}, {}, {}, {}, {}, {}, {}, {}, {}, {}, {}, {}, {}, {}, {}] { ts := [1, 2, 40, 41, 42, 56, 57, 58, 59, 62, 63, 64, 67, 68, 69, 70, 73, 74, 75, 76, 79, 80, 81, 82, 83, 84, 87, 88, 89, 90, 91, 92], os := [1, 2, 3] } [Q_impl_IsValidGeneration (x0.1.getD i (0, [])), (AV.p (.c (.v (.bool (!(validG (x0.1.getD i (0, []))))))) = AV.p (.c (.v (.bool false)))), (AV.p (.c (.v (.bool (!decide ((x0.1.getD i (0, [])).1 = ((i : Nat) : Int)))))) = AV.p (.c (.v (.bool false)))), Q_impl_IsValidRecoder (x0.2.2.1.getD i (0, (0, (0, ([], 0))))), (AV.p (.c (.v (.bool (!(validR (x0.2.2.1.getD i (0, (0, (0, ([], 0)))))))))) = AV.p (.c (.v (.bool false)))), (AV.p (.c (.v (.bool (decide (((List.length (x0.2.2.1.getD i (0, (0, (0, ([], 0))))).2.2.2.1 : Nat) : Int) > 0))))) = AV.p (.c (.v (.bool false)))), (AV.p (.c (.v (.bool (!decide ((x0.2.2.1.getD i (0, (0, (0, ([], 0))))).1 = ((i : Nat) : Int)))))) = AV.p (.c (.v (.bool true))))] gamOK hT mixed h (by kernel_rfl) ⟨(by exact (Sh.fit_getD hf0.1 i)), hint_bool (h7), hint_bool (ndT h9), (by exact (Sh.fit_getD hf0.2.2.1 i)), hint_bool (h10), hint_bool (decide_eq_false h12), hint_bool (ndF h14), trivial⟩ fun a w h => then_normal ?_
            refine at_test true h (by kernel_rfl) (fun hh => ?_) (fun hh => nomatch hh)
            refine wp_seq ?_
            refine at_reg [] { ts := [1, 2, 40, 41, 42, 56, 57, 58, 59, 62, 63, 64, 67, 68, 69, 70, 73, 74, 75, 76, 79, 80, 81, 82, 83, 84, 87, 88, 89, 90, 91], os := [1, 2, 3] } ⟨[(1, aP 1 0), (2, aB false), (40, aF s218 x0.1), (41, aI ((List.length x0.1 : Nat) : Int)), (42, aI ((i : Nat) : Int)), (56, aP 2 0), (57, aI (x0.1.getD i (0, [])).1), (58, aI ((i : Nat) : Int)), (59, aB false), (62, aG [cI (x0.2.2.1.getD i (0, (0, (0, ([], 0))))).1, cI (x0.2.2.1.getD i (0, (0, (0, ([], 0))))).2.1, cI (x0.2.2.1.getD i (0, (0, (0, ([], 0))))).2.2.1, .ro s61 (x0.2.2.1.getD i (0, (0, (0, ([], 0))))).2.2.2.1, cI (x0.2.2.1.getD i (0, (0, (0, ([], 0))))).2.2.2.2]), (63, aB (validR (x0.2.2.1.getD i (0, (0, (0, ([], 0))))))), (64, aB false), (67, aP 3 3), (68, aF s61 (x0.2.2.1.getD i (0, (0, (0, ([], 0))))).2.2.2.1), (69, aI ((List.length (x0.2.2.1.getD i (0, (0, (0, ([], 0))))).2.2.2.1 : Nat) : Int)), (70, aB false), (73, aP 3 0), (74, aI (x0.2.2.1.getD i (0, (0, (0, ([], 0))))).1), (75, aI ((i : Nat) : Int)), (76, aB true), (79, .p (.c (.v undef))), (80, .p (.c (.v undef))), (81, .p (.c (.v undef))), (82, .p (.c (.v undef))), (83, .p (.c (.v undef))), (84, .p (.c (.v undef))), (87, .p (.c (.v undef))), (88, .p (.c (.v undef))), (89, .p (.c (.v undef))), (90, .p (.c (.v undef))), (91, .p (.c (.v undef)))], [(1, oX 91 [.ro s218 x0.1, cI x0.2.1.1, cI x0.2.1.2.1, cI x0.2.1.2.2.1, cI x0.2.1.2.2.2, .ro s128 x0.2.2.1, .ro s247 x0.2.2.2.1, cI x0.2.2.2.2]), (2, oX 218 [cI (x0.1.getD i (0, [])).1, .ro s22 (x0.1.getD i (0, [])).2]), (3, oX 128 [cI (x0.2.2.1.getD i (0, (0, (0, ([], 0))))).1, cI (x0.2.2.1.getD i (0, (0, (0, ([], 0))))).2.1, cI (x0.2.2.1.getD i (0, (0, (0, ([], 0))))).2.2.1, .ro s61 (x0.2.2.1.getD i (0, (0, (0, ([], 0))))).2.2.2.1, cI (x0.2.2.1.getD i (0, (0, (0, ([], 0))))).2.2.2.2])]⟩ [] gamOK hT h (by kernel_rfl) trivial fun a w h => then_normal (wp_ret (in_ret (then_ret ?_)))
            have hs19 : (allN (srcB x0) (List.length x0.1)) = false := by exact allN_at (i := i) (by omega) (by exact srcB_f (by first | (left; assumption) | (right; right; left; assumption) | (right; left; omega) | (right; right; right; left; omega) | (right; right; right; right; left; omega) | (right; right; right; right; right; left; omega) | (right; right; right; right; right; right; omega)))
            refine then_ret (in_ret (then_ret ?_))
            exact at_return (S := S_impl_IsValidSource) (x := (x0, ())) (false, ()) [] h (by kernel_rfl) trivial (congrArg (fun z => (z, ())) (show (false) = validSo x0 from by first | rfl | (unfold validSo; rw [if_pos (notF h1), if_pos (notF h2), if_pos h3, if_pos h4, if_pos h5, if_neg (neT hs19)])))
        ·refine at_anyq [{}, {}, { hint := some (aB false) }, {}, {}, {}, {}, { hint := some (aB true) }, {}, {}, {}, {}, {}, {}, {}, {}, {}, {}, {}, {}, {}, {}, {}, {}, {}, {}, {}, {}, {}, {}, {}, {}, {}, {}, {}, {}, {}, {}, {}, {}, {}] { ts := [1, 2, 40, 41, 42, 56, 57, 58, 59, 62, 63, 64, 67, 68, 69, 70, 73, 74, 75, 76, 79, 80, 81, 82, 83, 84, 87, 88, 89, 90, 91, 92], os := [1, 2] } [Q_impl_IsValidGeneration (x0.1.getD i (0, [])), (AV.p (.c (.v (.bool (!(validG (x0.1.getD i (0, []))))))) = AV.p (.c (.v (.bool false)))), (AV.p (.c (.v (.bool (!decide ((x0.1.getD i (0, [])).1 = ((i : Nat) : Int)))))) = AV.p (.c (.v (.bool true))))] gamOK hT mixed h (by kernel_rfl) ⟨(by exact (Sh.fit_getD hf0.1 i)), hint_bool (h7), hint_bool (ndF h9), trivial⟩ fun a w h => then_normal ?_
         refine at_test true h (by kernel_rfl) (fun hh => ?_) (fun hh => nomatch hh)
         refine wp_seq ?_
         refine at_reg [] { ts := [1, 2, 40, 41, 42, 56, 57, 58, 59, 62, 63, 64, 67, 68, 69, 70, 73, 74, 75, 76, 79, 80, 81, 82, 83, 84, 87, 88, 89, 90, 91], os := [1, 2] } ⟨[(1, aP 1 0), (2, aB false), (40, aF s218 x0.1), (41, aI ((List.length x0.1 : Nat) : Int)), (42, aI ((i : Nat) : Int)), (56, aP 2 0), (57, aI (x0.1.getD i (0, [])).1), (58, aI ((i : Nat) : Int)), (59, aB true), (62, .p (.c (.v undef))), (63, .p (.c (.v undef))), (64, .p (.c (.v undef))), (67, .p (.c (.v undef))), (68, .p (.c (.v undef))), (69, .p (.c (.v undef))), (70, .p (.c (.v undef))), (73, .p (.c (.v undef))), (74, .p (.c (.v undef))), (75, .p (.c (.v undef))), (76, .p (.c (.v undef))), (79, .p (.c (.v undef))), (80, .p (.c (.v undef))), (81, .p (.c (.v undef))), (82, .p (.c (.v undef))), (83, .p (.c (.v undef))), (84, .p (.c (.v undef))), (87, .p (.c (.v undef))), (88, .p (.c (.v undef))), (89, .p (.c (.v undef))), (90, .p (.c (.v undef))), (91, .p (.c (.v undef)))], [(1, oX 91 [.ro s218 x0.1, cI x0.2.1.1, cI x0.2.1.2.1, cI x0.2.1.2.2.1, cI x0.2.1.2.2.2, .ro s128 x0.2.2.1, .ro s247 x0.2.2.2.1, cI x0.2.2.2.2]), (2, oX 218 [cI (x0.1.getD i (0, [])).1, .ro s22 (x0.1.getD i (0, [])).2])]⟩ [] gamOK hT h (by kernel_rfl) trivial fun a w h => then_normal (wp_ret (in_ret (then_ret ?_)))
         have hs20 : (allN (srcB x0) (List.length x0.1)) = false := by exact allN_at (i := i) (by omega) (by exact srcB_f (by first | (left; assumption) | (right; right; left; assumption) | (right; left; omega) | (right; right; right; left; omega) | (right; right; right; right; left; omega) | (right; right; right; right; right; left; omega) | (right; right; right; right; right; right; omega)))
         refine then_ret (in_ret (then_ret ?_))
         exact at_return (S := S_impl_IsValidSource) (x := (x0, ())) (false, ()) [] h (by kernel_rfl) trivial (congrArg (fun z => (z, ())) (show (false) = validSo x0 from by first | rfl | (unfold validSo; rw [if_pos (notF h1), if_pos (notF h2), if_pos h3, if_pos h4, if_pos h5, if_neg (neT hs20)])))
      ·replace h6 : ¬ (((i : Nat) : Int) < ((List.length x0.1 : Nat) : Int)) := of_decide_eq_false h6
       refine wp_exit (then_exit ?_)
       have hs21 : (allN (srcB x0) (List.length x0.1)) = true := by exact allN_eq (by omega) hok0.1 hok0.2
       refine then_exit (in_hit (then_normal (wp_seq ?_)))
       refine at_regq [] { ts := [2], os := [] } [] gamOK hT h (by kernel_rfl) trivial fun a w h => then_normal (wp_ret ?_)
       exact at_return (S := S_impl_IsValidSource) (x := (x0, ())) (true, ()) [] h (by kernel_rfl) trivial (congrArg (fun z => (z, ())) (show (true) = validSo x0 from by first | rfl | (unfold validSo; rw [if_pos (notF h1), if_pos (notF h2), if_pos h3, if_pos h4, if_pos h5, if_pos hs21])))
    ·refine at_regq [{}, {}, { hint := some (aB false) }, {}, {}, {}, {}, { hint := some (aB false) }, {}, {}, {}, {}, {}, {}, { hint := some (aB false) }, {}, {}, {}, {}, {}, {}, { hint := some (aB true) }] { ts := [1, 2, 38], os := [1] } [True, (AV.p (.c (.v (.bool (!(inR ((List.length x0.1 : Nat) : Int) 1 60))))) = AV.p (.c (.v (.bool false)))), True, (AV.p (.c (.v (.bool (!(validW x0.2.1))))) = AV.p (.c (.v (.bool false)))), (AV.p (.c (.v (.bool (!decide (x0.2.1.2.2.2 = ((List.length x0.1 : Nat) : Int)))))) = AV.p (.c (.v (.bool false)))), (AV.p (.c (.v (.bool (!decide (((List.length x0.2.2.1 : Nat) : Int) = ((List.length x0.1 : Nat) : Int)))))) = AV.p (.c (.v (.bool true))))] gamOK hT h (by kernel_rfl) ⟨trivial, hint_bool (h1), trivial, hint_bool (h2), hint_bool (ndT h3), hint_bool (ndF h4), trivial⟩ fun a w h => then_normal ?_
     refine at_test true h (by kernel_rfl) (fun hh => ?_) (fun hh => nomatch hh)
     refine wp_seq ?_
     refine at_regq [] { ts := [1, 2], os := [1] } [] gamOK hT h (by kernel_rfl) trivial fun a w h => then_normal (wp_ret (then_ret ?_))
     exact at_return (S := S_impl_IsValidSource) (x := (x0, ())) (false, ()) [] h (by kernel_rfl) trivial (congrArg (fun z => (z, ())) (show (false) = validSo x0 from by first | rfl | (unfold validSo; rw [if_pos (notF h1), if_pos (notF h2), if_pos h3, if_neg h4])))
   ·refine at_regq [{}, {}, { hint := some (aB false) }, {}, {}, {}, {}, { hint := some (aB false) }, {}, {}, {}, {}, {}, {}, { hint := some (aB true) }] { ts := [1, 2, 38], os := [1] } [True, (AV.p (.c (.v (.bool (!(inR ((List.length x0.1 : Nat) : Int) 1 60))))) = AV.p (.c (.v (.bool false)))), True, (AV.p (.c (.v (.bool (!(validW x0.2.1))))) = AV.p (.c (.v (.bool false)))), (AV.p (.c (.v (.bool (!decide (x0.2.1.2.2.2 = ((List.length x0.1 : Nat) : Int)))))) = AV.p (.c (.v (.bool true))))] gamOK hT h (by kernel_rfl) ⟨trivial, hint_bool (h1), trivial, hint_bool (h2), hint_bool (ndF h3), trivial⟩ fun a w h => then_normal ?_
    refine at_test true h (by kernel_rfl) (fun hh => ?_) (fun hh => nomatch hh)
    refine wp_seq ?_
    refine at_regq [] { ts := [1, 2], os := [1] } [] gamOK hT h (by kernel_rfl) trivial fun a w h => then_normal (wp_ret (then_ret ?_))
    exact at_return (S := S_impl_IsValidSource) (x := (x0, ())) (false, ()) [] h (by kernel_rfl) trivial (congrArg (fun z => (z, ())) (show (false) = validSo x0 from by first | rfl | (unfold validSo; rw [if_pos (notF h1), if_pos (notF h2), if_neg h3])))

end Go.Proofs.Ytdmkjcnppgfeoaa

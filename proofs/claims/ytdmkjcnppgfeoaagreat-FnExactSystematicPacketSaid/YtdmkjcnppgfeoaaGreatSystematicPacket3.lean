/- The walks of the functions that the law reaches: each summary holds. No condition. -/
import Derived.Test.YtdmkjcnppgfeoaaGreatSystematicPacket2
import Derived.Test.YtdmkjcnppgfeoaaGreatLA
import Derived.Test.YtdmkjcnppgfeoaaGreatProg
namespace Go.Proofs.YtdmkjcnppgfeoaaGreat
open Go.RowKit
set_option linter.unusedVariables false
set_option linter.unusedSimpArgs false
abbrev Q__P_impl_Basis_insert := (fun (x0 : T127) (x1 : (List Int)) => Sh.fit s127 x0 ∧ Sh.fit s22 x1 ∧ redP x0 x1)
def S__P_impl_Basis_insert : Sum := { fid := 126, dom := [s127, s22], cod := [(.bool 4)], dp := true, fz := false, pre := fun x => Q__P_impl_Basis_insert x.1 x.2.1, g := fun x => ((insD x.1 x.2.1), ()), kinds := [(.bx 127 0), .rd], upd := fun x => (insU x.1 x.2.1, (x.2.1, ())) }
def S__P_impl_Basis_insert_tab : List (Nat × Sum) := [(161, S__impl_Basis_reduce), (150, S_impl_LeadingIndex), (163, S_impl_InverseField), (162, S_impl_ScaleVector), (164, S_impl_addScaled), (165, S_slices_Insert_S_S_int_S_int_)]
theorem S__P_impl_Basis_insert_ok : FnOK Tryz.prog 126 S__P_impl_Basis_insert := by
 refine at_enterI 66 [1, 2] [3] (fun us x => ⟨[(0, aP 1 0), (1, aF (.int 3) x.2.1)], [(1, oX 127 [cI x.1.1, .sl 2]), (2, oR s22 x.1.2), (3, oP 1 (S__P_impl_Basis_insert.hd us 0))]⟩) Tryz.func126 rfl (by kernel_rfl) (fun us x => rfl) ?_
 rintro w0 Z0 us ⟨x0, x1, u⟩ L a w
 revert x0 x1
 intro (x0 : T127) (x1 : (List Int)) hio hpre hlens h
 replace h : At w0 Z0 L 66 ⟨[(0, aP 1 0), (1, aF (.int 3) x1)], [(1, oX 127 [cI x0.1, .sl 2]), (2, oR s22 x0.2), (3, oP 1 (S__P_impl_Basis_insert.hd us 0))]⟩ a w := h
 replace hpre : Q__P_impl_Basis_insert x0 x1 := hpre
 have hT : TabOK Tryz.prog S__P_impl_Basis_insert_tab := (.cons S__impl_Basis_reduce_ok (.cons S_impl_LeadingIndex_ok (.cons S_impl_InverseField_ok (.cons S_impl_ScaleVector_ok (.cons S_impl_addScaled_ok (.cons S_slices_Insert_S_S_int_S_int__ok .nil))))))
 obtain ⟨hf0, hf1, hpx⟩ := hpre
 have hn0_1 : List.length x0.2 ≤ 1073741824 := hf0.2.1
 have hn1_2 : List.length x1 ≤ 1073741824 := hf1.1
 have hb0 := hpx.1.1
 have hbR := hpx.1.2
 have hbv := hpx.2
 have hrd := LA.redS_rng hbR hbv
 have hrdl := hrd.1
 have hrn := hbR.len
 refine wp_seq ?_
 refine at_regq [] { ts := [0, 1, 4], os := [1, 2, 3] } [] gamOK hT h (by kernel_rfl) trivial fun a w h => then_normal (wp_seq ?_)
 refine at_regq [{}, {}, {}, {}, { ids := [4] }] { ts := [0, 4, 5], os := [1, 2, 3, 4] } [Q__impl_Basis_reduce x0 x1] gamOK hT h (by kernel_rfl) ⟨(by exact ⟨hf0, hf1, hpx⟩), trivial⟩ fun a w h => then_normal (wp_seq ?_)
 refine at_regq [] { ts := [0, 4, 5, 6], os := [1, 2, 3, 4] } [Q_impl_LeadingIndex (LA.redS x0.2 x1)] gamOK hT h (by kernel_rfl) ⟨(by first | exact fitV hrd (by omega) | exact fitV hrk (by omega) | exact Sh.fit_len rfl (by rw [LA.addS_len (by omega)]; omega)), trivial⟩ fun a w h => then_normal (wp_seq (wp_seq ?_))
 refine at_regq [] { ts := [0, 4, 5, 6, 19], os := [1, 2, 3, 4] } [] gamOK hT h (by kernel_rfl) trivial fun a w h => then_normal ?_
 refine at_test (decide ((LA.leadS (LA.redS x0.2 x1)) < 0)) h (by kernel_rfl) (fun h1 => ?_) (fun h1 => ?_)
 ·replace h1 : (LA.leadS (LA.redS x0.2 x1)) < 0 := of_decide_eq_true h1
  refine wp_seq ?_
  refine at_regq [] { ts := [0, 4, 5, 6], os := [1, 2, 3, 4] } [] gamOK hT h (by kernel_rfl) trivial fun a w h => then_normal (wp_ret (then_ret ?_))
  exact at_returnI (S := S__P_impl_Basis_insert) (x := (x0, x1, ())) [1, 2] [3] (x0, (x1, ())) (some (false, ())) [S__P_impl_Basis_insert.hd us 0 = S__P_impl_Basis_insert.hd us 0] hio h (by kernel_rfl) ⟨rfl, trivial⟩ (by first | rfl | exact congrArg (fun (z : T127) => (z, (x1, ()))) (show (x0 : T127) = insU x0 x1 from by (unfold insU; first | (rw [LA.insS_no (by assumption)]; done) | (rw [LA.insS_yes (by assumption)]; rfl)))) (fun z e => (Option.some.inj e) ▸ (congrArg (fun z => (z, ())) (show (false) = insD x0 x1 from by (unfold insD; first | (rw [LA.insS_no (by assumption)]; done) | (rw [LA.insS_yes (by assumption)]; done)))))
 ·replace h1 : ¬ ((LA.leadS (LA.redS x0.2 x1)) < 0) := of_decide_eq_false h1
  have hlp := LA.leadS_bd (LA.redS x0.2 x1)
  have hwk := LA.insW_ok hbR hbv (by omega)
  have hwl := hwk.1
  have hpz := (LA.leadS_pos (v := LA.redS x0.2 x1) (by omega)).1
  refine wp_skip (then_normal (wp_seq ?_))
  refine at_regq [{}, {}, {}, {}, {}, {}, { ids := [5] }] { ts := [0, 4, 5, 6], os := [1, 2, 3, 5] } [(0 : Int) ≤ (LA.leadS (LA.redS x0.2 x1)) ∧ (LA.leadS (LA.redS x0.2 x1)) < ((List.length (LA.redS x0.2 x1) : Nat) : Int), ((LA.leadS (LA.redS x0.2 x1))).toNat < List.length (LA.redS x0.2 x1), True, Q_impl_ScaleVector (LA.redS x0.2 x1) (invF ((LA.redS x0.2 x1).getD (((LA.leadS (LA.redS x0.2 x1))).toNat) 0))] gamOK hT h (by kernel_rfl) ⟨(by refine ⟨?_, ?_⟩ <;> (first | omega | (simp only [lsA]; omega) | (simp <;> omega))), (by first | omega | (simp only [lsA]; omega) | (simp <;> omega)), trivial, (by exact fitV hrd (by omega)), trivial⟩ fun a w h => then_normal (wp_seq ?_)
  refine at_regq [] { ts := [0, 4, 5, 6, 7], os := [1, 2, 3, 5] } [] gamOK hT h (by kernel_rfl) trivial fun a w h => then_normal (wp_seq (wp_seq ?_))
  refine at_regq [] { ts := [0, 4, 5, 6, 7, 30, 31, 32], os := [1, 2, 3, 5] } [] gamOK hT h (by kernel_rfl) trivial fun a w h => then_normal (wp_block ?_)
  replace h := at_out (σ' := ⟨[(0, aP 1 0), (4, aB false), (5, aS 5), (6, aI (LA.leadS (LA.redS x0.2 x1))), (7, aI 0), (30, aS 2), (31, aI ((List.length x0.2 : Nat) : Int)), (32, aI 0)], [(1, oX 127 [cI x0.1, .sl 2]), (2, oR s22 x0.2), (3, oP 1 (S__P_impl_Basis_insert.hd us 0)), (5, oR (.int 3) (scaleV (LA.redS x0.2 x1) (invF ((LA.redS x0.2 x1).getD (((LA.leadS (LA.redS x0.2 x1))).toNat) 0))))]⟩) { ts := [0, 4, 5, 6, 7, 30, 31, 32], os := [1, 2, 3, 5] } h (by kernel_rfl)
  refine at_loop (fun i : Nat => (⟨[(0, aP 1 0), (4, aB false), (5, aS 5), (6, aI (LA.leadS (LA.redS x0.2 x1))), (7, aI ((LA.atTo (LA.insE x0.2 x1) (LA.leadS (LA.redS x0.2 x1)) i : Nat) : Int)), (30, aS 2), (31, aI ((List.length x0.2 : Nat) : Int)), (32, aI ((i : Nat) : Int))], [(1, oX 127 [cI x0.1, .sl 2]), (2, oR s22 (LA.elTo x0.2 (LA.insW x0.2 x1) (LA.leadS (LA.redS x0.2 x1)).toNat i)), (3, oP 1 (S__P_impl_Basis_insert.hd us 0)), (5, oR (.int 3) (LA.insW x0.2 x1))]⟩ : St)) (fun i => i ≤ List.length x0.2) (fun i => List.length x0.2 - i) (0) h (st_congr4 (fun (d0 : List (List Int)) (d1 : List Int) (d2 : Int) (d3 : Int) => (⟨[(0, aP 1 0), (4, aB false), (5, aS 5), (6, aI (LA.leadS (LA.redS x0.2 x1))), (7, aI d2), (30, aS 2), (31, aI ((List.length x0.2 : Nat) : Int)), (32, aI d3)], [(1, oX 127 [cI x0.1, .sl 2]), (2, oR s22 d0), (3, oP 1 (S__P_impl_Basis_insert.hd us 0)), (5, oR (.int 3) d1)]⟩ : St)) (show (x0.2 : List (List Int)) = (LA.elTo x0.2 (LA.insW x0.2 x1) (LA.leadS (LA.redS x0.2 x1)).toNat (0)) from by first | with_reducible rfl | (first | rfl | exact ins_w hrd (by omega) (by omega)) | rfl) (show ((scaleV (LA.redS x0.2 x1) (invF ((LA.redS x0.2 x1).getD (((LA.leadS (LA.redS x0.2 x1))).toNat) 0))) : List Int) = (LA.insW x0.2 x1) from by first | with_reducible rfl | (first | rfl | exact ins_w hrd (by omega) (by omega)) | rfl) (show (0 : Int) = ((LA.atTo (LA.insE x0.2 x1) (LA.leadS (LA.redS x0.2 x1)) (0) : Nat) : Int) from by first | with_reducible rfl | (first | rfl | exact ins_w hrd (by omega) (by omega)) | rfl) (show (0 : Int) = (((0) : Nat) : Int) from by first | with_reducible rfl | (first | rfl | exact ins_w hrd (by omega) (by omega)) | rfl)) (by omega) ?_
  intro i a w hok0 h
  have hel := LA.elTo_len (rows := x0.2) (w := (LA.insW x0.2 x1)) (l := (LA.leadS (LA.redS x0.2 x1)).toNat) (i := i)
  refine wp_seq ?_
  refine at_regq [] { ts := [0, 4, 5, 6, 7, 30, 31, 32, 33], os := [1, 2, 3, 5] } [] gamOK hT h (by kernel_rfl) trivial fun a w h => then_normal (wp_seq ?_)
  refine at_test (decide (((i : Nat) : Int) < ((List.length x0.2 : Nat) : Int))) h (by kernel_rfl) (fun h2 => ?_) (fun h2 => ?_)
  ·replace h2 : ((i : Nat) : Int) < ((List.length x0.2 : Nat) : Int) := of_decide_eq_true h2
   have hrr := hbR.at_ (show i < List.length x0.2 by omega)
   have hge := LA.elTo_get (w := (LA.insW x0.2 x1)) (l := (LA.leadS (LA.redS x0.2 x1)).toNat) (show i < List.length x0.2 by omega)
   have hrk : LA.VokB x0.1.toNat ((LA.elTo x0.2 (LA.insW x0.2 x1) (LA.leadS (LA.redS x0.2 x1)).toNat i).getD i []) := by rw [hge]; exact hrr.1
   have hrkl := hrk.1
   have hrkr := hrk.rng (LA.leadS (LA.redS x0.2 x1)).toNat
   refine wp_skip (then_normal (wp_seq (wp_block (wp_seq ?_))))
   replace h := at_open (σ' := ⟨[(0, aP 1 0), (4, aB false), (5, aS 5), (6, aI (LA.leadS (LA.redS x0.2 x1))), (7, aI ((LA.atTo (LA.insE x0.2 x1) (LA.leadS (LA.redS x0.2 x1)) i : Nat) : Int)), (30, aS 2), (31, aI ((List.length x0.2 : Nat) : Int)), (32, aI ((i : Nat) : Int)), (33, aB (decide (((i : Nat) : Int) < ((List.length x0.2 : Nat) : Int))))], [(1, oX 127 [cI x0.1, .sl 2]), (2, some (.op s22 (LA.elTo x0.2 (LA.insW x0.2 x1) (LA.leadS (LA.redS x0.2 x1)).toNat i) i [.sl 6])), (3, oP 1 (S__P_impl_Basis_insert.hd us 0)), (5, oR (.int 3) (LA.insW x0.2 x1)), (6, oR (.int 3) ((LA.elTo x0.2 (LA.insW x0.2 x1) (LA.leadS (LA.redS x0.2 x1)).toNat i).getD i []))]⟩) (ps := [i < List.length (LA.elTo x0.2 (LA.insW x0.2 x1) (LA.leadS (LA.redS x0.2 x1)).toNat i)]) 2 i [6] { ts := [0, 4, 5, 6, 7, 30, 31, 32, 33], os := [1, 2, 3, 5, 6] } h (by kernel_rfl) ⟨(by first | omega | (simp only [lsA]; omega) | (simp <;> omega)), trivial⟩
   refine at_regq [] { ts := [0, 4, 5, 6, 7, 8, 9, 30, 31, 32], os := [1, 2, 3, 5, 6] } [(0 : Int) ≤ ((i : Nat) : Int) ∧ ((i : Nat) : Int) < ((List.length (LA.elTo x0.2 (LA.insW x0.2 x1) (LA.leadS (LA.redS x0.2 x1)).toNat i) : Nat) : Int), i = i] gamOK hT h (by kernel_rfl) ⟨(by refine ⟨?_, ?_⟩ <;> (first | omega | (simp only [lsA]; omega) | (simp <;> omega))), rfl, trivial⟩ fun a w h => then_normal (wp_seq (wp_seq ?_))
   refine at_regq [] { ts := [0, 4, 5, 6, 7, 8, 9, 10, 30, 31, 32], os := [1, 2, 3, 5, 6] } [(0 : Int) ≤ (LA.leadS (LA.redS x0.2 x1)) ∧ (LA.leadS (LA.redS x0.2 x1)) < ((List.length ((LA.elTo x0.2 (LA.insW x0.2 x1) (LA.leadS (LA.redS x0.2 x1)).toNat i).getD i []) : Nat) : Int), ((LA.leadS (LA.redS x0.2 x1))).toNat < List.length ((LA.elTo x0.2 (LA.insW x0.2 x1) (LA.leadS (LA.redS x0.2 x1)).toNat i).getD i [])] gamOK hT h (by kernel_rfl) ⟨(by refine ⟨?_, ?_⟩ <;> (first | omega | (simp only [lsA]; omega) | (simp <;> omega))), (by first | omega | (simp only [lsA]; omega) | (simp <;> omega)), trivial⟩ fun a w h => then_normal (wp_seq ?_)
   refine at_regq [] { ts := [0, 4, 5, 6, 7, 8, 9, 10, 30, 31, 32, 42], os := [1, 2, 3, 5, 6] } [] gamOK hT h (by kernel_rfl) trivial fun a w h => then_normal ?_
   refine at_test (!decide ((((LA.elTo x0.2 (LA.insW x0.2 x1) (LA.leadS (LA.redS x0.2 x1)).toNat i).getD i []).getD (((LA.leadS (LA.redS x0.2 x1))).toNat) 0) = 0)) h (by kernel_rfl) (fun h3 => ?_) (fun h3 => ?_)
   ·replace h3 : ¬ ((((LA.elTo x0.2 (LA.insW x0.2 x1) (LA.leadS (LA.redS x0.2 x1)).toNat i).getD i []).getD (((LA.leadS (LA.redS x0.2 x1))).toNat) 0) = 0) := of_decide_eq_false (notT h3)
    refine at_regq [{}, {}, {}, { nw := true }] { ts := [0, 4, 5, 6, 7, 8, 9, 30, 31, 32], os := [1, 2, 3, 5, 6] } [I64 (1019 - (((LA.elTo x0.2 (LA.insW x0.2 x1) (LA.leadS (LA.redS x0.2 x1)).toNat i).getD i []).getD (((LA.leadS (LA.redS x0.2 x1))).toNat) 0)), Q_impl_addScaled ((LA.elTo x0.2 (LA.insW x0.2 x1) (LA.leadS (LA.redS x0.2 x1)).toNat i).getD i []) (LA.insW x0.2 x1) (1019 - (((LA.elTo x0.2 (LA.insW x0.2 x1) (LA.leadS (LA.redS x0.2 x1)).toNat i).getD i []).getD (((LA.leadS (LA.redS x0.2 x1))).toNat) 0))] gamOK hT h (by kernel_rfl) ⟨⟨by first | omega | (simp only [lsA]; omega) | (simp <;> omega), by first | omega | (simp only [lsA]; omega) | (simp <;> omega)⟩, (by exact ⟨fitV hrk (by omega), fitV hwk (by omega), addOK_of hrk hwk (by omega)⟩), trivial⟩ fun a w h => then_normal (wp_seq ?_)
    refine at_regq [] { ts := [0, 4, 5, 6, 7, 8, 30, 31, 32, 51], os := [1, 2, 3, 5, 6] } [Q_impl_LeadingIndex (LA.addS ((LA.elTo x0.2 (LA.insW x0.2 x1) (LA.leadS (LA.redS x0.2 x1)).toNat i).getD i []) (LA.insW x0.2 x1) (1019 - (((LA.elTo x0.2 (LA.insW x0.2 x1) (LA.leadS (LA.redS x0.2 x1)).toNat i).getD i []).getD (((LA.leadS (LA.redS x0.2 x1))).toNat) 0)))] gamOK hT h (by kernel_rfl) ⟨(by first | exact fitV hrd (by omega) | exact fitV hrk (by omega) | exact Sh.fit_len rfl (by rw [LA.addS_len (by omega)]; omega)), trivial⟩ fun a w h => then_normal ?_
    refine at_test (decide ((LA.leadS (LA.addS ((LA.elTo x0.2 (LA.insW x0.2 x1) (LA.leadS (LA.redS x0.2 x1)).toNat i).getD i []) (LA.insW x0.2 x1) (1019 - (((LA.elTo x0.2 (LA.insW x0.2 x1) (LA.leadS (LA.redS x0.2 x1)).toNat i).getD i []).getD (((LA.leadS (LA.redS x0.2 x1))).toNat) 0)))) < (LA.leadS (LA.redS x0.2 x1)))) h (by kernel_rfl) (fun h4 => ?_) (fun h4 => ?_)
    ·replace h4 : (LA.leadS (LA.addS ((LA.elTo x0.2 (LA.insW x0.2 x1) (LA.leadS (LA.redS x0.2 x1)).toNat i).getD i []) (LA.insW x0.2 x1) (1019 - (((LA.elTo x0.2 (LA.insW x0.2 x1) (LA.leadS (LA.redS x0.2 x1)).toNat i).getD i []).getD (((LA.leadS (LA.redS x0.2 x1))).toNat) 0)))) < (LA.leadS (LA.redS x0.2 x1)) := of_decide_eq_true h4
     refine at_regq [{}, { nw := true }] { ts := [0, 4, 5, 6, 7, 30, 31, 32], os := [1, 2, 3, 5, 6] } [I64 (((i : Nat) : Int) + 1)] gamOK hT h (by kernel_rfl) ⟨⟨by first | omega | (simp only [lsA]; omega) | (simp <;> omega), by first | omega | (simp only [lsA]; omega) | (simp <;> omega)⟩, trivial⟩ fun a w h => in_normal (then_normal ?_)
     refine at_regq [{ nw := true }] { ts := [0, 4, 5, 6, 7, 30, 31, 32], os := [1, 2, 3, 5, 6] } [I64 (((i : Nat) : Int) + 1)] gamOK hT h (by kernel_rfl) ⟨⟨by first | omega | (simp only [lsA]; omega) | (simp <;> omega), by first | omega | (simp only [lsA]; omega) | (simp <;> omega)⟩, trivial⟩ fun a w h => ?_
     replace h := at_shut (σ' := ⟨[(0, aP 1 0), (4, aB false), (5, aS 5), (6, aI (LA.leadS (LA.redS x0.2 x1))), (7, aI (((i : Nat) : Int) + 1)), (30, aS 2), (31, aI ((List.length x0.2 : Nat) : Int)), (32, aI (((i : Nat) : Int) + 1))], [(1, oX 127 [cI x0.1, .sl 2]), (2, oR s22 (List.set (LA.elTo x0.2 (LA.insW x0.2 x1) (LA.leadS (LA.redS x0.2 x1)).toNat i) i (LA.addS ((LA.elTo x0.2 (LA.insW x0.2 x1) (LA.leadS (LA.redS x0.2 x1)).toNat i).getD i []) (LA.insW x0.2 x1) (1019 - (((LA.elTo x0.2 (LA.insW x0.2 x1) (LA.leadS (LA.redS x0.2 x1)).toNat i).getD i []).getD (((LA.leadS (LA.redS x0.2 x1))).toNat) 0))))), (3, oP 1 (S__P_impl_Basis_insert.hd us 0)), (5, oR (.int 3) (LA.insW x0.2 x1))]⟩) (ps := []) 2 { ts := [0, 4, 5, 6, 7, 30, 31, 32], os := [1, 2, 3, 5] } h (by kernel_rfl) trivial
     replace h := at_out (σ' := ⟨[(0, aP 1 0), (4, aB false), (5, aS 5), (6, aI (LA.leadS (LA.redS x0.2 x1))), (7, aI (((i : Nat) : Int) + 1)), (30, aS 2), (31, aI ((List.length x0.2 : Nat) : Int)), (32, aI (((i : Nat) : Int) + 1))], [(1, oX 127 [cI x0.1, .sl 2]), (2, oR s22 (List.set (LA.elTo x0.2 (LA.insW x0.2 x1) (LA.leadS (LA.redS x0.2 x1)).toNat i) i (LA.addS ((LA.elTo x0.2 (LA.insW x0.2 x1) (LA.leadS (LA.redS x0.2 x1)).toNat i).getD i []) (LA.insW x0.2 x1) (1019 - (((LA.elTo x0.2 (LA.insW x0.2 x1) (LA.leadS (LA.redS x0.2 x1)).toNat i).getD i []).getD (((LA.leadS (LA.redS x0.2 x1))).toNat) 0))))), (3, oP 1 (S__P_impl_Basis_insert.hd us 0)), (5, oR (.int 3) (LA.insW x0.2 x1))]⟩) { ts := [0, 4, 5, 6, 7, 30, 31, 32], os := [1, 2, 3, 5] } h (by kernel_rfl)
     exact ⟨i + 1, at_eq h (st_congr4 (fun (d0 : List (List Int)) (d1 : List Int) (d2 : Int) (d3 : Int) => (⟨[(0, aP 1 0), (4, aB false), (5, aS 5), (6, aI (LA.leadS (LA.redS x0.2 x1))), (7, aI d2), (30, aS 2), (31, aI ((List.length x0.2 : Nat) : Int)), (32, aI d3)], [(1, oX 127 [cI x0.1, .sl 2]), (2, oR s22 d0), (3, oP 1 (S__P_impl_Basis_insert.hd us 0)), (5, oR (.int 3) d1)]⟩ : St)) (show ((List.set (LA.elTo x0.2 (LA.insW x0.2 x1) (LA.leadS (LA.redS x0.2 x1)).toNat i) i (LA.addS ((LA.elTo x0.2 (LA.insW x0.2 x1) (LA.leadS (LA.redS x0.2 x1)).toNat i).getD i []) (LA.insW x0.2 x1) (1019 - (((LA.elTo x0.2 (LA.insW x0.2 x1) (LA.leadS (LA.redS x0.2 x1)).toNat i).getD i []).getD (((LA.leadS (LA.redS x0.2 x1))).toNat) 0)))) : List (List Int)) = (LA.elTo x0.2 (LA.insW x0.2 x1) (LA.leadS (LA.redS x0.2 x1)).toNat (i + 1)) from by first | with_reducible rfl | (first | exact LA.ins_b1 (by omega) (by assumption) | exact LA.ins_b0 (by omega) (by omega)) | rfl) (show ((LA.insW x0.2 x1) : List Int) = (LA.insW x0.2 x1) from by first | with_reducible rfl | (rfl) | rfl) (show (((i : Nat) : Int) + 1 : Int) = ((LA.atTo (LA.insE x0.2 x1) (LA.leadS (LA.redS x0.2 x1)) (i + 1) : Nat) : Int) from by first | with_reducible rfl | (first | (rw [LA.atTo_y (LA.at_b1 (by omega) (by assumption)) (by assumption)]; omega) | (rw [LA.atTo_y (LA.at_b0 (by omega) (by omega)) (by assumption)]; omega) | (rw [LA.atTo_n (LA.at_b1 (by omega) (by assumption)) (by assumption)]; done) | (rw [LA.atTo_n (LA.at_b0 (by omega) (by omega)) (by assumption)]; done)) | rfl) (show (((i : Nat) : Int) + 1 : Int) = (((i + 1) : Nat) : Int) from by first | with_reducible rfl | (omega) | rfl)), (by omega), (by omega)⟩
    ·replace h4 : ¬ ((LA.leadS (LA.addS ((LA.elTo x0.2 (LA.insW x0.2 x1) (LA.leadS (LA.redS x0.2 x1)).toNat i).getD i []) (LA.insW x0.2 x1) (1019 - (((LA.elTo x0.2 (LA.insW x0.2 x1) (LA.leadS (LA.redS x0.2 x1)).toNat i).getD i []).getD (((LA.leadS (LA.redS x0.2 x1))).toNat) 0)))) < (LA.leadS (LA.redS x0.2 x1))) := of_decide_eq_false h4
     refine wp_skip (in_normal (then_normal ?_))
     refine at_regq [{ nw := true }] { ts := [0, 4, 5, 6, 7, 30, 31, 32], os := [1, 2, 3, 5, 6] } [I64 (((i : Nat) : Int) + 1)] gamOK hT h (by kernel_rfl) ⟨⟨by first | omega | (simp only [lsA]; omega) | (simp <;> omega), by first | omega | (simp only [lsA]; omega) | (simp <;> omega)⟩, trivial⟩ fun a w h => ?_
     replace h := at_shut (σ' := ⟨[(0, aP 1 0), (4, aB false), (5, aS 5), (6, aI (LA.leadS (LA.redS x0.2 x1))), (7, aI ((LA.atTo (LA.insE x0.2 x1) (LA.leadS (LA.redS x0.2 x1)) i : Nat) : Int)), (30, aS 2), (31, aI ((List.length x0.2 : Nat) : Int)), (32, aI (((i : Nat) : Int) + 1))], [(1, oX 127 [cI x0.1, .sl 2]), (2, oR s22 (List.set (LA.elTo x0.2 (LA.insW x0.2 x1) (LA.leadS (LA.redS x0.2 x1)).toNat i) i (LA.addS ((LA.elTo x0.2 (LA.insW x0.2 x1) (LA.leadS (LA.redS x0.2 x1)).toNat i).getD i []) (LA.insW x0.2 x1) (1019 - (((LA.elTo x0.2 (LA.insW x0.2 x1) (LA.leadS (LA.redS x0.2 x1)).toNat i).getD i []).getD (((LA.leadS (LA.redS x0.2 x1))).toNat) 0))))), (3, oP 1 (S__P_impl_Basis_insert.hd us 0)), (5, oR (.int 3) (LA.insW x0.2 x1))]⟩) (ps := []) 2 { ts := [0, 4, 5, 6, 7, 30, 31, 32], os := [1, 2, 3, 5] } h (by kernel_rfl) trivial
     replace h := at_out (σ' := ⟨[(0, aP 1 0), (4, aB false), (5, aS 5), (6, aI (LA.leadS (LA.redS x0.2 x1))), (7, aI ((LA.atTo (LA.insE x0.2 x1) (LA.leadS (LA.redS x0.2 x1)) i : Nat) : Int)), (30, aS 2), (31, aI ((List.length x0.2 : Nat) : Int)), (32, aI (((i : Nat) : Int) + 1))], [(1, oX 127 [cI x0.1, .sl 2]), (2, oR s22 (List.set (LA.elTo x0.2 (LA.insW x0.2 x1) (LA.leadS (LA.redS x0.2 x1)).toNat i) i (LA.addS ((LA.elTo x0.2 (LA.insW x0.2 x1) (LA.leadS (LA.redS x0.2 x1)).toNat i).getD i []) (LA.insW x0.2 x1) (1019 - (((LA.elTo x0.2 (LA.insW x0.2 x1) (LA.leadS (LA.redS x0.2 x1)).toNat i).getD i []).getD (((LA.leadS (LA.redS x0.2 x1))).toNat) 0))))), (3, oP 1 (S__P_impl_Basis_insert.hd us 0)), (5, oR (.int 3) (LA.insW x0.2 x1))]⟩) { ts := [0, 4, 5, 6, 7, 30, 31, 32], os := [1, 2, 3, 5] } h (by kernel_rfl)
     exact ⟨i + 1, at_eq h (st_congr4 (fun (d0 : List (List Int)) (d1 : List Int) (d2 : Int) (d3 : Int) => (⟨[(0, aP 1 0), (4, aB false), (5, aS 5), (6, aI (LA.leadS (LA.redS x0.2 x1))), (7, aI d2), (30, aS 2), (31, aI ((List.length x0.2 : Nat) : Int)), (32, aI d3)], [(1, oX 127 [cI x0.1, .sl 2]), (2, oR s22 d0), (3, oP 1 (S__P_impl_Basis_insert.hd us 0)), (5, oR (.int 3) d1)]⟩ : St)) (show ((List.set (LA.elTo x0.2 (LA.insW x0.2 x1) (LA.leadS (LA.redS x0.2 x1)).toNat i) i (LA.addS ((LA.elTo x0.2 (LA.insW x0.2 x1) (LA.leadS (LA.redS x0.2 x1)).toNat i).getD i []) (LA.insW x0.2 x1) (1019 - (((LA.elTo x0.2 (LA.insW x0.2 x1) (LA.leadS (LA.redS x0.2 x1)).toNat i).getD i []).getD (((LA.leadS (LA.redS x0.2 x1))).toNat) 0)))) : List (List Int)) = (LA.elTo x0.2 (LA.insW x0.2 x1) (LA.leadS (LA.redS x0.2 x1)).toNat (i + 1)) from by first | with_reducible rfl | (first | exact LA.ins_b1 (by omega) (by assumption) | exact LA.ins_b0 (by omega) (by omega)) | rfl) (show ((LA.insW x0.2 x1) : List Int) = (LA.insW x0.2 x1) from by first | with_reducible rfl | (rfl) | rfl) (show (((LA.atTo (LA.insE x0.2 x1) (LA.leadS (LA.redS x0.2 x1)) i : Nat) : Int) : Int) = ((LA.atTo (LA.insE x0.2 x1) (LA.leadS (LA.redS x0.2 x1)) (i + 1) : Nat) : Int) from by first | with_reducible rfl | (first | (rw [LA.atTo_y (LA.at_b1 (by omega) (by assumption)) (by assumption)]; omega) | (rw [LA.atTo_y (LA.at_b0 (by omega) (by omega)) (by assumption)]; omega) | (rw [LA.atTo_n (LA.at_b1 (by omega) (by assumption)) (by assumption)]; done) | (rw [LA.atTo_n (LA.at_b0 (by omega) (by omega)) (by assumption)]; done)) | rfl) (show (((i : Nat) : Int) + 1 : Int) = (((i + 1) : Nat) : Int) from by first | with_reducible rfl | (omega) | rfl)), (by omega), (by omega)⟩
   ·replace h3 : (((LA.elTo x0.2 (LA.insW x0.2 x1) (LA.leadS (LA.redS x0.2 x1)).toNat i).getD i []).getD (((LA.leadS (LA.redS x0.2 x1))).toNat) 0) = 0 := of_decide_eq_true (notF h3)
    refine wp_skip (then_normal (wp_seq ?_))
    refine at_regq [] { ts := [0, 4, 5, 6, 7, 8, 30, 31, 32, 51], os := [1, 2, 3, 5, 6] } [Q_impl_LeadingIndex ((LA.elTo x0.2 (LA.insW x0.2 x1) (LA.leadS (LA.redS x0.2 x1)).toNat i).getD i [])] gamOK hT h (by kernel_rfl) ⟨(by first | exact fitV hrd (by omega) | exact fitV hrk (by omega) | exact Sh.fit_len rfl (by rw [LA.addS_len (by omega)]; omega)), trivial⟩ fun a w h => then_normal ?_
    refine at_test (decide ((LA.leadS ((LA.elTo x0.2 (LA.insW x0.2 x1) (LA.leadS (LA.redS x0.2 x1)).toNat i).getD i [])) < (LA.leadS (LA.redS x0.2 x1)))) h (by kernel_rfl) (fun h5 => ?_) (fun h5 => ?_)
    ·replace h5 : (LA.leadS ((LA.elTo x0.2 (LA.insW x0.2 x1) (LA.leadS (LA.redS x0.2 x1)).toNat i).getD i [])) < (LA.leadS (LA.redS x0.2 x1)) := of_decide_eq_true h5
     refine at_regq [{}, { nw := true }] { ts := [0, 4, 5, 6, 7, 30, 31, 32], os := [1, 2, 3, 5, 6] } [I64 (((i : Nat) : Int) + 1)] gamOK hT h (by kernel_rfl) ⟨⟨by first | omega | (simp only [lsA]; omega) | (simp <;> omega), by first | omega | (simp only [lsA]; omega) | (simp <;> omega)⟩, trivial⟩ fun a w h => in_normal (then_normal ?_)
     refine at_regq [{ nw := true }] { ts := [0, 4, 5, 6, 7, 30, 31, 32], os := [1, 2, 3, 5, 6] } [I64 (((i : Nat) : Int) + 1)] gamOK hT h (by kernel_rfl) ⟨⟨by first | omega | (simp only [lsA]; omega) | (simp <;> omega), by first | omega | (simp only [lsA]; omega) | (simp <;> omega)⟩, trivial⟩ fun a w h => ?_
     replace h := at_shut (σ' := ⟨[(0, aP 1 0), (4, aB false), (5, aS 5), (6, aI (LA.leadS (LA.redS x0.2 x1))), (7, aI (((i : Nat) : Int) + 1)), (30, aS 2), (31, aI ((List.length x0.2 : Nat) : Int)), (32, aI (((i : Nat) : Int) + 1))], [(1, oX 127 [cI x0.1, .sl 2]), (2, oR s22 (List.set (LA.elTo x0.2 (LA.insW x0.2 x1) (LA.leadS (LA.redS x0.2 x1)).toNat i) i ((LA.elTo x0.2 (LA.insW x0.2 x1) (LA.leadS (LA.redS x0.2 x1)).toNat i).getD i []))), (3, oP 1 (S__P_impl_Basis_insert.hd us 0)), (5, oR (.int 3) (LA.insW x0.2 x1))]⟩) (ps := []) 2 { ts := [0, 4, 5, 6, 7, 30, 31, 32], os := [1, 2, 3, 5] } h (by kernel_rfl) trivial
     replace h := at_out (σ' := ⟨[(0, aP 1 0), (4, aB false), (5, aS 5), (6, aI (LA.leadS (LA.redS x0.2 x1))), (7, aI (((i : Nat) : Int) + 1)), (30, aS 2), (31, aI ((List.length x0.2 : Nat) : Int)), (32, aI (((i : Nat) : Int) + 1))], [(1, oX 127 [cI x0.1, .sl 2]), (2, oR s22 (List.set (LA.elTo x0.2 (LA.insW x0.2 x1) (LA.leadS (LA.redS x0.2 x1)).toNat i) i ((LA.elTo x0.2 (LA.insW x0.2 x1) (LA.leadS (LA.redS x0.2 x1)).toNat i).getD i []))), (3, oP 1 (S__P_impl_Basis_insert.hd us 0)), (5, oR (.int 3) (LA.insW x0.2 x1))]⟩) { ts := [0, 4, 5, 6, 7, 30, 31, 32], os := [1, 2, 3, 5] } h (by kernel_rfl)
     exact ⟨i + 1, at_eq h (st_congr4 (fun (d0 : List (List Int)) (d1 : List Int) (d2 : Int) (d3 : Int) => (⟨[(0, aP 1 0), (4, aB false), (5, aS 5), (6, aI (LA.leadS (LA.redS x0.2 x1))), (7, aI d2), (30, aS 2), (31, aI ((List.length x0.2 : Nat) : Int)), (32, aI d3)], [(1, oX 127 [cI x0.1, .sl 2]), (2, oR s22 d0), (3, oP 1 (S__P_impl_Basis_insert.hd us 0)), (5, oR (.int 3) d1)]⟩ : St)) (show ((List.set (LA.elTo x0.2 (LA.insW x0.2 x1) (LA.leadS (LA.redS x0.2 x1)).toNat i) i ((LA.elTo x0.2 (LA.insW x0.2 x1) (LA.leadS (LA.redS x0.2 x1)).toNat i).getD i [])) : List (List Int)) = (LA.elTo x0.2 (LA.insW x0.2 x1) (LA.leadS (LA.redS x0.2 x1)).toNat (i + 1)) from by first | with_reducible rfl | (first | exact LA.ins_b1 (by omega) (by assumption) | exact LA.ins_b0 (by omega) (by omega)) | rfl) (show ((LA.insW x0.2 x1) : List Int) = (LA.insW x0.2 x1) from by first | with_reducible rfl | (rfl) | rfl) (show (((i : Nat) : Int) + 1 : Int) = ((LA.atTo (LA.insE x0.2 x1) (LA.leadS (LA.redS x0.2 x1)) (i + 1) : Nat) : Int) from by first | with_reducible rfl | (first | (rw [LA.atTo_y (LA.at_b1 (by omega) (by assumption)) (by assumption)]; omega) | (rw [LA.atTo_y (LA.at_b0 (by omega) (by omega)) (by assumption)]; omega) | (rw [LA.atTo_n (LA.at_b1 (by omega) (by assumption)) (by assumption)]; done) | (rw [LA.atTo_n (LA.at_b0 (by omega) (by omega)) (by assumption)]; done)) | rfl) (show (((i : Nat) : Int) + 1 : Int) = (((i + 1) : Nat) : Int) from by first | with_reducible rfl | (omega) | rfl)), (by omega), (by omega)⟩
    ·replace h5 : ¬ ((LA.leadS ((LA.elTo x0.2 (LA.insW x0.2 x1) (LA.leadS (LA.redS x0.2 x1)).toNat i).getD i [])) < (LA.leadS (LA.redS x0.2 x1))) := of_decide_eq_false h5
     refine wp_skip (in_normal (then_normal ?_))
     refine at_regq [{ nw := true }] { ts := [0, 4, 5, 6, 7, 30, 31, 32], os := [1, 2, 3, 5, 6] } [I64 (((i : Nat) : Int) + 1)] gamOK hT h (by kernel_rfl) ⟨⟨by first | omega | (simp only [lsA]; omega) | (simp <;> omega), by first | omega | (simp only [lsA]; omega) | (simp <;> omega)⟩, trivial⟩ fun a w h => ?_
     replace h := at_shut (σ' := ⟨[(0, aP 1 0), (4, aB false), (5, aS 5), (6, aI (LA.leadS (LA.redS x0.2 x1))), (7, aI ((LA.atTo (LA.insE x0.2 x1) (LA.leadS (LA.redS x0.2 x1)) i : Nat) : Int)), (30, aS 2), (31, aI ((List.length x0.2 : Nat) : Int)), (32, aI (((i : Nat) : Int) + 1))], [(1, oX 127 [cI x0.1, .sl 2]), (2, oR s22 (List.set (LA.elTo x0.2 (LA.insW x0.2 x1) (LA.leadS (LA.redS x0.2 x1)).toNat i) i ((LA.elTo x0.2 (LA.insW x0.2 x1) (LA.leadS (LA.redS x0.2 x1)).toNat i).getD i []))), (3, oP 1 (S__P_impl_Basis_insert.hd us 0)), (5, oR (.int 3) (LA.insW x0.2 x1))]⟩) (ps := []) 2 { ts := [0, 4, 5, 6, 7, 30, 31, 32], os := [1, 2, 3, 5] } h (by kernel_rfl) trivial
     replace h := at_out (σ' := ⟨[(0, aP 1 0), (4, aB false), (5, aS 5), (6, aI (LA.leadS (LA.redS x0.2 x1))), (7, aI ((LA.atTo (LA.insE x0.2 x1) (LA.leadS (LA.redS x0.2 x1)) i : Nat) : Int)), (30, aS 2), (31, aI ((List.length x0.2 : Nat) : Int)), (32, aI (((i : Nat) : Int) + 1))], [(1, oX 127 [cI x0.1, .sl 2]), (2, oR s22 (List.set (LA.elTo x0.2 (LA.insW x0.2 x1) (LA.leadS (LA.redS x0.2 x1)).toNat i) i ((LA.elTo x0.2 (LA.insW x0.2 x1) (LA.leadS (LA.redS x0.2 x1)).toNat i).getD i []))), (3, oP 1 (S__P_impl_Basis_insert.hd us 0)), (5, oR (.int 3) (LA.insW x0.2 x1))]⟩) { ts := [0, 4, 5, 6, 7, 30, 31, 32], os := [1, 2, 3, 5] } h (by kernel_rfl)
     exact ⟨i + 1, at_eq h (st_congr4 (fun (d0 : List (List Int)) (d1 : List Int) (d2 : Int) (d3 : Int) => (⟨[(0, aP 1 0), (4, aB false), (5, aS 5), (6, aI (LA.leadS (LA.redS x0.2 x1))), (7, aI d2), (30, aS 2), (31, aI ((List.length x0.2 : Nat) : Int)), (32, aI d3)], [(1, oX 127 [cI x0.1, .sl 2]), (2, oR s22 d0), (3, oP 1 (S__P_impl_Basis_insert.hd us 0)), (5, oR (.int 3) d1)]⟩ : St)) (show ((List.set (LA.elTo x0.2 (LA.insW x0.2 x1) (LA.leadS (LA.redS x0.2 x1)).toNat i) i ((LA.elTo x0.2 (LA.insW x0.2 x1) (LA.leadS (LA.redS x0.2 x1)).toNat i).getD i [])) : List (List Int)) = (LA.elTo x0.2 (LA.insW x0.2 x1) (LA.leadS (LA.redS x0.2 x1)).toNat (i + 1)) from by first | with_reducible rfl | (first | exact LA.ins_b1 (by omega) (by assumption) | exact LA.ins_b0 (by omega) (by omega)) | rfl) (show ((LA.insW x0.2 x1) : List Int) = (LA.insW x0.2 x1) from by first | with_reducible rfl | (rfl) | rfl) (show (((LA.atTo (LA.insE x0.2 x1) (LA.leadS (LA.redS x0.2 x1)) i : Nat) : Int) : Int) = ((LA.atTo (LA.insE x0.2 x1) (LA.leadS (LA.redS x0.2 x1)) (i + 1) : Nat) : Int) from by first | with_reducible rfl | (first | (rw [LA.atTo_y (LA.at_b1 (by omega) (by assumption)) (by assumption)]; omega) | (rw [LA.atTo_y (LA.at_b0 (by omega) (by omega)) (by assumption)]; omega) | (rw [LA.atTo_n (LA.at_b1 (by omega) (by assumption)) (by assumption)]; done) | (rw [LA.atTo_n (LA.at_b0 (by omega) (by omega)) (by assumption)]; done)) | rfl) (show (((i : Nat) : Int) + 1 : Int) = (((i + 1) : Nat) : Int) from by first | with_reducible rfl | (omega) | rfl)), (by omega), (by omega)⟩
  ·replace h2 : ¬ (((i : Nat) : Int) < ((List.length x0.2 : Nat) : Int)) := of_decide_eq_false h2
   refine wp_exit (then_exit ?_)
   replace h := at_out (σ' := ⟨[(0, aP 1 0), (4, aB false), (5, aS 5), (7, aI ((LA.atTo (LA.insE x0.2 x1) (LA.leadS (LA.redS x0.2 x1)) i : Nat) : Int))], [(1, oX 127 [cI x0.1, .sl 2]), (2, oR s22 (LA.elTo x0.2 (LA.insW x0.2 x1) (LA.leadS (LA.redS x0.2 x1)).toNat i)), (3, oP 1 (S__P_impl_Basis_insert.hd us 0)), (5, oR (.int 3) (LA.insW x0.2 x1))]⟩) { ts := [0, 4, 5, 7], os := [1, 2, 3, 5] } h (by kernel_rfl)
   replace h := at_eq (σ' := ⟨[(0, aP 1 0), (4, aB false), (5, aS 5), (7, aI ((LA.atTo (LA.insE x0.2 x1) (LA.leadS (LA.redS x0.2 x1)) (List.length x0.2) : Nat) : Int))], [(1, oX 127 [cI x0.1, .sl 2]), (2, oR s22 (LA.insE x0.2 x1)), (3, oP 1 (S__P_impl_Basis_insert.hd us 0)), (5, oR (.int 3) (LA.insW x0.2 x1))]⟩) h (st_congr2 (fun (d0 : List (List Int)) (d1 : Int) => (⟨[(0, aP 1 0), (4, aB false), (5, aS 5), (7, aI d1)], [(1, oX 127 [cI x0.1, .sl 2]), (2, oR s22 d0), (3, oP 1 (S__P_impl_Basis_insert.hd us 0)), (5, oR (.int 3) (LA.insW x0.2 x1))]⟩ : St)) (show ((LA.elTo x0.2 (LA.insW x0.2 x1) (LA.leadS (LA.redS x0.2 x1)).toNat i) : List (List Int)) = (LA.insE x0.2 x1) from by first | with_reducible rfl | (exact LA.elTo_all (by omega)) | rfl) (show (((LA.atTo (LA.insE x0.2 x1) (LA.leadS (LA.redS x0.2 x1)) i : Nat) : Int) : Int) = ((LA.atTo (LA.insE x0.2 x1) (LA.leadS (LA.redS x0.2 x1)) (List.length x0.2) : Nat) : Int) from by first | with_reducible rfl | (rw [show i = List.length x0.2 by omega]) | rfl))
   have hal := LA.atTo_le (LA.insE x0.2 x1) (LA.leadS (LA.redS x0.2 x1)) (List.length x0.2)
   refine then_exit (in_hit (then_normal (wp_seq ?_)))
   refine at_regq [{}, {}, {}, {}, {}, {}, {}, { ids := [7] }, { ids := [8] }] { ts := [4], os := [1, 3, 8] } [(fun (x0 : List (List Int)) (x1 : Int) (x2 : List (List Int)) => (0 ≤ x1 ∧ x1 ≤ ((List.length x0 : Nat) : Int)) ∧ 0 < List.length x2 ∧ (List.length x0 + List.length x2) * 24 ≤ 140737488355328) (LA.insE x0.2 x1) ((LA.atTo (LA.insE x0.2 x1) (LA.leadS (LA.redS x0.2 x1)) (List.length x0.2) : Nat) : Int) ([(LA.insW x0.2 x1)])] gamOK hT h (by kernel_rfl) ⟨(by exact ⟨⟨by omega, by first | omega | (rw [show List.length (LA.insE x0.2 x1) = List.length x0.2 from by simp [LA.insE]]; omega)⟩, by simp, by simp [LA.insE]; omega⟩), trivial⟩ fun a w h => then_normal (wp_seq ?_)
   refine at_regq [] { ts := [4], os := [1, 3, 8] } [] gamOK hT h (by kernel_rfl) trivial fun a w h => then_normal (wp_ret ?_)
   exact at_returnI (S := S__P_impl_Basis_insert) (x := (x0, x1, ())) [1, 2] [3] ((x0.1, (D_slices_Insert_S_S_int_S_int_ (LA.insE x0.2 x1) ((LA.atTo (LA.insE x0.2 x1) (LA.leadS (LA.redS x0.2 x1)) (List.length x0.2) : Nat) : Int) ([(LA.insW x0.2 x1)]))), (x1, ())) (some (true, ())) [S__P_impl_Basis_insert.hd us 0 = S__P_impl_Basis_insert.hd us 0] hio h (by kernel_rfl) ⟨rfl, trivial⟩ (by first | rfl | exact congrArg (fun (z : T127) => (z, (x1, ()))) (show ((x0.1, (D_slices_Insert_S_S_int_S_int_ (LA.insE x0.2 x1) ((LA.atTo (LA.insE x0.2 x1) (LA.leadS (LA.redS x0.2 x1)) (List.length x0.2) : Nat) : Int) ([(LA.insW x0.2 x1)]))) : T127) = insU x0 x1 from by (unfold insU; first | (rw [LA.insS_no (by assumption)]; done) | (rw [LA.insS_yes (by assumption)]; rfl)))) (fun z e => (Option.some.inj e) ▸ (congrArg (fun z => (z, ())) (show (true) = insD x0 x1 from by (unfold insD; first | (rw [LA.insS_no (by assumption)]; done) | (rw [LA.insS_yes (by assumption)]; done)))))

def D_impl_SymbolWidth := (fun (g : T52) => colsOf g.2)
abbrev Q_impl_SymbolWidth := (fun (x0 : T52) => Sh.fit s52 x0)
def S_impl_SymbolWidth : Sum := { fid := 68, dom := [s52], cod := [(.int 3)], dp := true, fz := false, pre := fun x => Q_impl_SymbolWidth x.1, g := fun x => ((D_impl_SymbolWidth x.1), ()) }
def S_impl_SymbolWidth_tab : List (Nat × Sum) := [(127, S_impl_ColumnsOf)]
theorem S_impl_SymbolWidth_ok : FnOK Tryz.prog 68 S_impl_SymbolWidth := by
 refine at_enter 6 (fun x => ⟨[(0, aG [cI x.1.1, .ro s22 x.1.2])], []⟩) Tryz.func68 rfl (by kernel_rfl) (fun x => rfl) ?_
 rintro w0 Z0 ⟨x0, u⟩ a w
 revert x0
 intro (x0 : T52) hpre hlens h
 replace hpre : Q_impl_SymbolWidth x0 := hpre
 have hT : TabOK Tryz.prog S_impl_SymbolWidth_tab := (.cons S_impl_ColumnsOf_ok .nil)
 have hf0 : Sh.fit s52 x0 := hpre
 have hn0_1 : List.length x0.2 ≤ 1073741824 := hf0.2.1
 refine wp_seq ?_
 refine at_regq [{ ids := [1] }] { ts := [1, 2], os := [1] } [] gamOK hT h (by kernel_rfl) trivial fun a w h => then_normal (wp_seq ?_)
 refine at_regq [] { ts := [2], os := [] } [Q_impl_ColumnsOf x0.2] gamOK hT h (by kernel_rfl) ⟨(by exact hf0.2), trivial⟩ fun a w h => then_normal (wp_ret ?_)
 exact at_return ((colsOf x0.2), ()) [] h (by kernel_rfl) trivial (congrArg (fun z => (z, ())) (show ((colsOf x0.2)) = D_impl_SymbolWidth x0 from by unfold D_impl_SymbolWidth; rfl))

def validG (x0 : T52) : Bool := (if (inR x0.1 0 1000000000000) = true then (if (inR ((List.length x0.2 : Nat) : Int) 1 8) = true then (if (validM x0.2) = true then (inR (colsOf x0.2) 1 16) else false) else false) else false)
abbrev Q_spec_IsValidGeneration := (fun (x0 : T52) => Sh.fit s52 x0)
def S_spec_IsValidGeneration : Sum := { fid := 56, dom := [s52], cod := [(.bool 4)], dp := true, fz := false, pre := fun x => Q_spec_IsValidGeneration x.1, g := fun x => ((validG x.1), ()) }
def S_spec_IsValidGeneration_tab : List (Nat × Sum) := [(90, S_spec_l1In), (110, S_spec_IsValidMatrix), (58, S_spec_ColumnsOf)]
theorem S_spec_IsValidGeneration_ok : FnOK Tryz.prog 56 S_spec_IsValidGeneration := by
 refine at_enter 23 (fun x => ⟨[(0, aG [cI x.1.1, .ro s22 x.1.2])], []⟩) Tryz.func56 rfl (by kernel_rfl) (fun x => rfl) ?_
 rintro w0 Z0 ⟨x0, u⟩ a w
 revert x0
 intro (x0 : T52) hpre hlens h
 replace hpre : Q_spec_IsValidGeneration x0 := hpre
 have hT : TabOK Tryz.prog S_spec_IsValidGeneration_tab := (.cons S_spec_l1In_ok (.cons S_spec_IsValidMatrix_ok (.cons S_spec_ColumnsOf_ok .nil)))
 have hf0 : Sh.fit s52 x0 := hpre
 have hn0_1 : List.length x0.2 ≤ 1073741824 := hf0.2.1
 refine wp_seq ?_
 refine at_regq [{ ids := [1] }] { ts := [1, 2], os := [1] } [] gamOK hT h (by kernel_rfl) trivial fun a w h => then_normal (wp_seq ?_)
 rcases Bool.eq_false_or_eq_true ((inR x0.1 0 1000000000000)) with h1 | h1
 ·have hvh1 := inR_t h1
  rcases Bool.eq_false_or_eq_true ((inR ((List.length x0.2 : Nat) : Int) 1 8)) with h2 | h2
  ·have hvh2 := inR_t h2
   rcases Bool.eq_false_or_eq_true ((validM x0.2)) with h3 | h3
   ·have hvh3 := validM_t h3
    refine at_regq [{}, {}, { hint := some (aB true) }, {}, {}, {}, {}, { hint := some (aB true) }, {}, {}, {}, {}, { hint := some (aB true) }] { ts := [2], os := [] } [True, (AV.p (.c (.v (.bool ((inR x0.1 0 1000000000000))))) = AV.p (.c (.v (.bool true)))), True, (AV.p (.c (.v (.bool ((inR ((List.length x0.2 : Nat) : Int) 1 8))))) = AV.p (.c (.v (.bool true)))), Q_spec_IsValidMatrix x0.2, (AV.p (.c (.v (.bool ((validM x0.2))))) = AV.p (.c (.v (.bool true)))), Q_spec_ColumnsOf x0.2, True] gamOK hT h (by kernel_rfl) ⟨trivial, hint_bool (h1), trivial, hint_bool (h2), (by exact hf0.2), hint_bool (h3), (by exact hf0.2), trivial, trivial⟩ fun a w h => then_normal (wp_ret ?_)
    exact at_return ((inR (colsOf x0.2) 1 16), ()) [] h (by kernel_rfl) trivial (congrArg (fun z => (z, ())) (show ((inR (colsOf x0.2) 1 16)) = validG x0 from by first | rfl | (unfold validG; rw [if_pos h1, if_pos h2, if_pos h3])))
   ·refine at_regq [{}, {}, { hint := some (aB true) }, {}, {}, {}, {}, { hint := some (aB true) }, {}, {}, {}, {}, { hint := some (aB false) }] { ts := [2], os := [] } [True, (AV.p (.c (.v (.bool ((inR x0.1 0 1000000000000))))) = AV.p (.c (.v (.bool true)))), True, (AV.p (.c (.v (.bool ((inR ((List.length x0.2 : Nat) : Int) 1 8))))) = AV.p (.c (.v (.bool true)))), Q_spec_IsValidMatrix x0.2, (AV.p (.c (.v (.bool ((validM x0.2))))) = AV.p (.c (.v (.bool false))))] gamOK hT h (by kernel_rfl) ⟨trivial, hint_bool (h1), trivial, hint_bool (h2), (by exact hf0.2), hint_bool (h3), trivial⟩ fun a w h => then_normal (wp_ret ?_)
    exact at_return (false, ()) [] h (by kernel_rfl) trivial (congrArg (fun z => (z, ())) (show (false) = validG x0 from by first | rfl | (unfold validG; rw [if_pos h1, if_pos h2, if_neg (neT h3)])))
  ·have hvh2 := inR_f h2
   refine at_regq [{}, {}, { hint := some (aB true) }, {}, {}, {}, {}, { hint := some (aB false) }] { ts := [2], os := [] } [True, (AV.p (.c (.v (.bool ((inR x0.1 0 1000000000000))))) = AV.p (.c (.v (.bool true)))), True, (AV.p (.c (.v (.bool ((inR ((List.length x0.2 : Nat) : Int) 1 8))))) = AV.p (.c (.v (.bool false))))] gamOK hT h (by kernel_rfl) ⟨trivial, hint_bool (h1), trivial, hint_bool (h2), trivial⟩ fun a w h => then_normal (wp_ret ?_)
   exact at_return (false, ()) [] h (by kernel_rfl) trivial (congrArg (fun z => (z, ())) (show (false) = validG x0 from by first | rfl | (unfold validG; rw [if_pos h1, if_neg (neT h2)])))
 ·have hvh1 := inR_f h1
  refine at_regq [{}, {}, { hint := some (aB false) }] { ts := [2], os := [] } [True, (AV.p (.c (.v (.bool ((inR x0.1 0 1000000000000))))) = AV.p (.c (.v (.bool false))))] gamOK hT h (by kernel_rfl) ⟨trivial, hint_bool (h1), trivial⟩ fun a w h => then_normal (wp_ret ?_)
  exact at_return (false, ()) [] h (by kernel_rfl) trivial (congrArg (fun z => (z, ())) (show (false) = validG x0 from by first | rfl | (unfold validG; rw [if_neg (neT h1)])))
theorem validG_t {g : T52} (h : validG g = true) : (0 ≤ g.1 ∧ g.1 ≤ 1000000000000) ∧ (1 ≤ List.length g.2 ∧ List.length g.2 ≤ 8) ∧ validM g.2 = true ∧ (1 ≤ colsOf g.2 ∧ colsOf g.2 ≤ 16) := by
 unfold validG at h
 split at h
 ·split at h
  ·split at h
   ·rename_i h1 h2 h3
    have a1 := inR_t h1; have a2 := inR_t h2; have a3 := inR_t h
    exact ⟨a1, by omega, h3, a3⟩
   ·cases h
  ·cases h
 ·cases h
theorem colsOf_at {m : List (List Int)} (h : 1 ≤ List.length m) : colsOf m = ((List.length (m.getD 0 []) : Nat) : Int) := by unfold colsOf; rw [if_neg (by omega)]

abbrev Q_impl_IsValidGeneration := (fun (x0 : T52) => Sh.fit s52 x0)
def S_impl_IsValidGeneration : Sum := { fid := 66, dom := [s52], cod := [(.bool 4)], dp := true, fz := false, pre := fun x => Q_impl_IsValidGeneration x.1, g := fun x => ((validG x.1), ()) }
def S_impl_IsValidGeneration_tab : List (Nat × Sum) := [(101, S_impl_InRange), (122, S_impl_IsValidVector), (68, S_impl_SymbolWidth)]
theorem S_impl_IsValidGeneration_ok : FnOK Tryz.prog 66 S_impl_IsValidGeneration := by
 refine at_enter 40 (fun x => ⟨[(0, aG [cI x.1.1, .ro s22 x.1.2])], []⟩) Tryz.func66 rfl (by kernel_rfl) (fun x => rfl) ?_
 rintro w0 Z0 ⟨x0, u⟩ a w
 revert x0
 intro (x0 : T52) hpre hlens h
 replace hpre : Q_impl_IsValidGeneration x0 := hpre
 have hT : TabOK Tryz.prog S_impl_IsValidGeneration_tab := (.cons S_impl_InRange_ok (.cons S_impl_IsValidVector_ok (.cons S_impl_SymbolWidth_ok .nil)))
 have hf0 : Sh.fit s52 x0 := hpre
 have hn0_1 : List.length x0.2 ≤ 1073741824 := hf0.2.1
 refine wp_seq ?_
 refine at_regq [{ ids := [1] }] { ts := [1, 2], os := [1] } [] gamOK hT h (by kernel_rfl) trivial fun a w h => then_normal (wp_seq (wp_seq ?_))
 rcases Bool.eq_false_or_eq_true (!(inR x0.1 0 1000000000000)) with h1 | h1
 ·have hzh1 : (inR x0.1 0 1000000000000) = false := notT h1
  have hvh1 := inR_f (notT h1)
  refine at_regq [{}, {}, {}, { hint := some (aB true) }] { ts := [1, 2, 15], os := [1] } [True, (AV.p (.c (.v (.bool (!(inR x0.1 0 1000000000000))))) = AV.p (.c (.v (.bool true))))] gamOK hT h (by kernel_rfl) ⟨trivial, hint_bool (h1), trivial⟩ fun a w h => then_normal ?_
  refine at_test true h (by kernel_rfl) (fun hh => ?_) (fun hh => nomatch hh)
  refine wp_seq ?_
  refine at_regq [] { ts := [1, 2], os := [1] } [] gamOK hT h (by kernel_rfl) trivial fun a w h => then_normal (wp_ret (then_ret ?_))
  exact at_return (false, ()) [] h (by kernel_rfl) trivial (congrArg (fun z => (z, ())) (show (false) = validG x0 from by first | rfl | (unfold validG; rw [if_neg (neT (notT h1))]; done) | (unfold validG; (repeat (first | rfl | split)) <;> (first | rfl | omega | (simp_all [-List.all_eq_true, -List.any_eq_true, -List.all_eq_false, -List.any_eq_false, validM, D_impl_SymbolWidth]; done) | (simp_all [-List.all_eq_true, -List.any_eq_true, -List.all_eq_false, -List.any_eq_false, validM, D_impl_SymbolWidth]; omega) | (exfalso; simp_all [-List.all_eq_true, -List.any_eq_true, -List.all_eq_false, -List.any_eq_false, validM, D_impl_SymbolWidth]; omega)))))
 ·have hzh1 : (inR x0.1 0 1000000000000) = true := notF h1
  have hvh1 := inR_t (notF h1)
  refine at_regq [{}, {}, {}, { hint := some (aB false) }] { ts := [1, 2, 15], os := [1] } [True, (AV.p (.c (.v (.bool (!(inR x0.1 0 1000000000000))))) = AV.p (.c (.v (.bool false)))), True] gamOK hT h (by kernel_rfl) ⟨trivial, hint_bool (h1), trivial, trivial⟩ fun a w h => then_normal ?_
  refine at_test (!(inR ((List.length x0.2 : Nat) : Int) 1 8)) h (by kernel_rfl) (fun h2 => ?_) (fun h2 => ?_)
  ·replace h2 : (inR ((List.length x0.2 : Nat) : Int) 1 8) = false := notT h2
   have hvh2 := inR_f h2
   refine wp_seq ?_
   refine at_regq [] { ts := [1, 2], os := [1] } [] gamOK hT h (by kernel_rfl) trivial fun a w h => then_normal (wp_ret (then_ret ?_))
   exact at_return (false, ()) [] h (by kernel_rfl) trivial (congrArg (fun z => (z, ())) (show (false) = validG x0 from by first | rfl | (unfold validG; rw [if_pos (notF h1), if_neg (neT h2)]; done) | (unfold validG; (repeat (first | rfl | split)) <;> (first | rfl | omega | (simp_all [-List.all_eq_true, -List.any_eq_true, -List.all_eq_false, -List.any_eq_false, validM, D_impl_SymbolWidth]; done) | (simp_all [-List.all_eq_true, -List.any_eq_true, -List.all_eq_false, -List.any_eq_false, validM, D_impl_SymbolWidth]; omega) | (exfalso; simp_all [-List.all_eq_true, -List.any_eq_true, -List.all_eq_false, -List.any_eq_false, validM, D_impl_SymbolWidth]; omega)))))
  ·replace h2 : (inR ((List.length x0.2 : Nat) : Int) 1 8) = true := notF h2
   have hvh2 := inR_t h2
   refine wp_skip (then_normal (wp_seq (wp_seq ?_)))
   refine at_regq [] { ts := [1, 2, 17, 18, 19], os := [1] } [] gamOK hT h (by kernel_rfl) trivial fun a w h => then_normal (wp_block ?_)
   replace h := at_out (σ' := ⟨[(1, aP 1 0), (2, aB false), (17, aF s22 x0.2), (18, aI ((List.length x0.2 : Nat) : Int)), (19, aI 0)], [(1, oX 52 [cI x0.1, .ro s22 x0.2])]⟩) { ts := [1, 2, 17, 18, 19], os := [1] } h (by kernel_rfl)
   refine at_loop (fun i : Nat => (⟨[(1, aP 1 0), (2, aB false), (17, aF s22 x0.2), (18, aI ((List.length x0.2 : Nat) : Int)), (19, aI ((i : Nat) : Int))], [(1, oX 52 [cI x0.1, .ro s22 x0.2])]⟩ : St)) (fun i => (i ≤ List.length x0.2 ∧ allTo1 (fun r => validV r && decide (List.length r = List.length (x0.2.getD 0 []))) x0.2 [] i)) (fun i => List.length x0.2 - i) (0) h (st_congr1 (fun (d0 : Int) => (⟨[(1, aP 1 0), (2, aB false), (17, aF s22 x0.2), (18, aI ((List.length x0.2 : Nat) : Int)), (19, aI d0)], [(1, oX 52 [cI x0.1, .ro s22 x0.2])]⟩ : St)) (show (0 : Int) = (((0) : Nat) : Int) from by first | with_reducible rfl | (rfl) | rfl)) (by exact ⟨Nat.zero_le _, allTo1_zero⟩) ?_
   intro i a w hok0 h
   refine wp_seq ?_
   refine at_regq [] { ts := [1, 2, 17, 18, 19, 20], os := [1] } [] gamOK hT h (by kernel_rfl) trivial fun a w h => then_normal (wp_seq ?_)
   refine at_test (decide (((i : Nat) : Int) < ((List.length x0.2 : Nat) : Int))) h (by kernel_rfl) (fun h3 => ?_) (fun h3 => ?_)
   ·replace h3 : ((i : Nat) : Int) < ((List.length x0.2 : Nat) : Int) := of_decide_eq_true h3
    refine wp_skip (then_normal (wp_seq (wp_block (wp_seq ?_))))
    refine at_regq [] { ts := [1, 2, 4, 17, 18, 19], os := [1] } [(0 : Int) ≤ ((i : Nat) : Int) ∧ ((i : Nat) : Int) < ((List.length x0.2 : Nat) : Int)] gamOK hT h (by kernel_rfl) ⟨(by refine ⟨?_, ?_⟩ <;> (first | omega | (simp only [lsA]; omega) | (simp <;> omega))), trivial⟩ fun a w h => then_normal (wp_seq ?_)
    rcases Bool.eq_false_or_eq_true (!(validV (x0.2.getD i []))) with h4 | h4
    ·have hzh4 : (validV (x0.2.getD i [])) = false := notT h4
     refine at_regq [{}, {}, { hint := some (aB true) }] { ts := [1, 2, 17, 18, 19, 27, 28, 29, 30, 31, 32, 33, 34, 35], os := [1] } [Q_impl_IsValidVector (x0.2.getD i []), (AV.p (.c (.v (.bool (!(validV (x0.2.getD i [])))))) = AV.p (.c (.v (.bool true))))] gamOK hT h (by kernel_rfl) ⟨(by exact (Sh.fit_getD hf0.2 i)), hint_bool (h4), trivial⟩ fun a w h => then_normal ?_
     refine at_test true h (by kernel_rfl) (fun hh => ?_) (fun hh => nomatch hh)
     refine wp_seq ?_
     refine at_regq [] { ts := [1, 2, 17, 18, 19, 27, 28, 29, 30, 31, 32, 33, 34], os := [1] } [] gamOK hT h (by kernel_rfl) trivial fun a w h => then_normal (wp_ret (in_ret (then_ret ?_)))
     have hs5 : (List.all x0.2 (fun r => validV r && decide (List.length r = List.length (x0.2.getD 0 [])))) = false := by exact all_at (z := []) (i := i) (by omega) (by (show ((validV _) && _) = false; rw [Bool.and_eq_false_iff]; first | (left; assumption) | (right; exact decide_eq_false (by omega))))
     refine then_ret (in_ret (then_ret ?_))
     exact at_return (false, ()) [] h (by kernel_rfl) trivial (congrArg (fun z => (z, ())) (show (false) = validG x0 from by first | rfl | (unfold validG; rw [if_pos (notF h1), if_pos h2, if_neg (neT hs5)]; done) | (unfold validG; (repeat (first | rfl | split)) <;> (first | rfl | omega | (simp_all [-List.all_eq_true, -List.any_eq_true, -List.all_eq_false, -List.any_eq_false, validM, D_impl_SymbolWidth]; done) | (simp_all [-List.all_eq_true, -List.any_eq_true, -List.all_eq_false, -List.any_eq_false, validM, D_impl_SymbolWidth]; omega) | (exfalso; simp_all [-List.all_eq_true, -List.any_eq_true, -List.all_eq_false, -List.any_eq_false, validM, D_impl_SymbolWidth]; omega)))))
    ·have hzh4 : (validV (x0.2.getD i [])) = true := notF h4
     have hvh4 := validV_t (notF h4)
     refine at_regq [{}, {}, { hint := some (aB false) }] { ts := [1, 2, 17, 18, 19, 27, 28, 29, 30, 31, 32, 33, 34, 35], os := [1] } [Q_impl_IsValidVector (x0.2.getD i []), (AV.p (.c (.v (.bool (!(validV (x0.2.getD i [])))))) = AV.p (.c (.v (.bool false)))), (0 : Int) ≤ 0 ∧ 0 < ((List.length x0.2 : Nat) : Int)] gamOK hT h (by kernel_rfl) ⟨(by exact (Sh.fit_getD hf0.2 i)), hint_bool (h4), (by refine ⟨?_, ?_⟩ <;> (first | omega | (simp only [lsA]; omega) | (simp <;> omega))), trivial⟩ fun a w h => then_normal ?_
     refine at_test (!decide (((List.length (x0.2.getD i []) : Nat) : Int) = ((List.length (x0.2.getD 0 []) : Nat) : Int))) h (by kernel_rfl) (fun h6 => ?_) (fun h6 => ?_)
     ·replace h6 : ¬ (((List.length (x0.2.getD i []) : Nat) : Int) = ((List.length (x0.2.getD 0 []) : Nat) : Int)) := of_decide_eq_false (notT h6)
      refine wp_seq ?_
      refine at_regq [] { ts := [1, 2, 17, 18, 19, 27, 28, 29, 30, 31, 32, 33, 34], os := [1] } [] gamOK hT h (by kernel_rfl) trivial fun a w h => then_normal (wp_ret (in_ret (then_ret ?_)))
      have hs7 : (List.all x0.2 (fun r => validV r && decide (List.length r = List.length (x0.2.getD 0 [])))) = false := by exact all_at (z := []) (i := i) (by omega) (by (show ((validV _) && _) = false; rw [Bool.and_eq_false_iff]; first | (left; assumption) | (right; exact decide_eq_false (by omega))))
      refine then_ret (in_ret (then_ret ?_))
      exact at_return (false, ()) [] h (by kernel_rfl) trivial (congrArg (fun z => (z, ())) (show (false) = validG x0 from by first | rfl | (unfold validG; rw [if_pos (notF h1), if_pos h2, if_neg (neT hs7)]; done) | (unfold validG; (repeat (first | rfl | split)) <;> (first | rfl | omega | (simp_all [-List.all_eq_true, -List.any_eq_true, -List.all_eq_false, -List.any_eq_false, validM, D_impl_SymbolWidth]; done) | (simp_all [-List.all_eq_true, -List.any_eq_true, -List.all_eq_false, -List.any_eq_false, validM, D_impl_SymbolWidth]; omega) | (exfalso; simp_all [-List.all_eq_true, -List.any_eq_true, -List.all_eq_false, -List.any_eq_false, validM, D_impl_SymbolWidth]; omega)))))
     ·replace h6 : ((List.length (x0.2.getD i []) : Nat) : Int) = ((List.length (x0.2.getD 0 []) : Nat) : Int) := of_decide_eq_true (notF h6)
      refine wp_skip (in_normal (then_normal ?_))
      refine at_regq [{ nw := true }] { ts := [1, 2, 17, 18, 19, 27, 28, 29, 30, 31, 32, 33, 34], os := [1] } [I64 (((i : Nat) : Int) + 1)] gamOK hT h (by kernel_rfl) ⟨⟨by first | omega | (simp only [lsA]; omega) | (simp <;> omega), by first | omega | (simp only [lsA]; omega) | (simp <;> omega)⟩, trivial⟩ fun a w h => ?_
      replace h := at_out (σ' := ⟨[(1, aP 1 0), (2, aB false), (17, aF s22 x0.2), (18, aI ((List.length x0.2 : Nat) : Int)), (19, aI (((i : Nat) : Int) + 1))], [(1, oX 52 [cI x0.1, .ro s22 x0.2])]⟩) { ts := [1, 2, 17, 18, 19], os := [1] } h (by kernel_rfl)
      exact ⟨i + 1, at_eq h (st_congr1 (fun (d0 : Int) => (⟨[(1, aP 1 0), (2, aB false), (17, aF s22 x0.2), (18, aI ((List.length x0.2 : Nat) : Int)), (19, aI d0)], [(1, oX 52 [cI x0.1, .ro s22 x0.2])]⟩ : St)) (show (((i : Nat) : Int) + 1 : Int) = (((i + 1) : Nat) : Int) from by first | with_reducible rfl | (omega) | rfl)), (by exact ⟨by omega, allTo1_succ hok0.2 (by (show ((validV _) && _) = true; rw [Bool.and_eq_true]; exact ⟨by assumption, decide_eq_true (by omega)⟩))⟩), (by omega)⟩
   ·replace h3 : ¬ (((i : Nat) : Int) < ((List.length x0.2 : Nat) : Int)) := of_decide_eq_false h3
    refine wp_exit (then_exit ?_)
    have hs8 : (List.all x0.2 (fun r => validV r && decide (List.length r = List.length (x0.2.getD 0 [])))) = true := by exact all_of (z := []) (i := i) (by omega) hok0.2
    refine then_exit (in_hit (then_normal (wp_seq ?_)))
    refine at_regq [] { ts := [2], os := [] } [Q_impl_SymbolWidth x0, True] gamOK hT h (by kernel_rfl) ⟨(by exact hf0), trivial, trivial⟩ fun a w h => then_normal (wp_ret ?_)
    exact at_return ((inR (colsOf x0.2) 1 16), ()) [] h (by kernel_rfl) trivial (congrArg (fun z => (z, ())) (show ((inR (colsOf x0.2) 1 16)) = validG x0 from by first | rfl | (unfold validG; rw [if_pos (notF h1), if_pos h2, if_pos hs8]; done) | (unfold validG; (repeat (first | rfl | split)) <;> (first | rfl | omega | (simp_all [-List.all_eq_true, -List.any_eq_true, -List.all_eq_false, -List.any_eq_false, validM, D_impl_SymbolWidth]; done) | (simp_all [-List.all_eq_true, -List.any_eq_true, -List.all_eq_false, -List.any_eq_false, validM, D_impl_SymbolWidth]; omega) | (exfalso; simp_all [-List.all_eq_true, -List.any_eq_true, -List.all_eq_false, -List.any_eq_false, validM, D_impl_SymbolWidth]; omega)))))

def isFmt (x0 : Int) (x1 : Int) (x2 : Int) : Bool := (if (inR x0 0 1000000000000) = true then (if (inR x1 1 8) = true then (inR x2 1 16) else false) else false)
def S_impl_isFormat : Sum := { fid := 123, dom := [(.int 3), (.int 3), (.int 3)], cod := [(.bool 4)], dp := true, fz := false, pre := fun x => True, g := fun x => ((isFmt x.1 x.2.1 x.2.2.1), ()) }
def S_impl_isFormat_tab : List (Nat × Sum) := [(101, S_impl_InRange)]
theorem S_impl_isFormat_ok : FnOK Tryz.prog 123 S_impl_isFormat := by
 refine at_enter 17 (fun x => ⟨[(0, aI x.1), (1, aI x.2.1), (2, aI x.2.2.1)], []⟩) Tryz.func123 rfl (by kernel_rfl) (fun x => rfl) ?_
 rintro w0 Z0 ⟨x0, x1, x2, u⟩ a w
 revert x0 x1 x2
 intro (x0 : Int) (x1 : Int) (x2 : Int) hpre hlens h
 have hT : TabOK Tryz.prog S_impl_isFormat_tab := (.cons S_impl_InRange_ok .nil)
 refine wp_seq ?_
 refine at_regq [] { ts := [0, 1, 2, 6], os := [] } [] gamOK hT h (by kernel_rfl) trivial fun a w h => then_normal (wp_seq ?_)
 rcases Bool.eq_false_or_eq_true ((inR x0 0 1000000000000)) with h1 | h1
 ·have hvh1 := inR_t h1
  rcases Bool.eq_false_or_eq_true ((inR x1 1 8)) with h2 | h2
  ·have hvh2 := inR_t h2
   refine at_regq [{}, { hint := some (aB true) }, {}, {}, { hint := some (aB true) }] { ts := [6], os := [] } [True, (AV.p (.c (.v (.bool ((inR x0 0 1000000000000))))) = AV.p (.c (.v (.bool true)))), True, (AV.p (.c (.v (.bool ((inR x1 1 8))))) = AV.p (.c (.v (.bool true)))), True] gamOK hT h (by kernel_rfl) ⟨trivial, hint_bool (h1), trivial, hint_bool (h2), trivial, trivial⟩ fun a w h => then_normal (wp_ret ?_)
   exact at_return ((inR x2 1 16), ()) [] h (by kernel_rfl) trivial (congrArg (fun z => (z, ())) (show ((inR x2 1 16)) = isFmt x0 x1 x2 from by first | rfl | (unfold isFmt; rw [if_pos h1, if_pos h2])))
  ·have hvh2 := inR_f h2
   refine at_regq [{}, { hint := some (aB true) }, {}, {}, { hint := some (aB false) }] { ts := [6], os := [] } [True, (AV.p (.c (.v (.bool ((inR x0 0 1000000000000))))) = AV.p (.c (.v (.bool true)))), True, (AV.p (.c (.v (.bool ((inR x1 1 8))))) = AV.p (.c (.v (.bool false))))] gamOK hT h (by kernel_rfl) ⟨trivial, hint_bool (h1), trivial, hint_bool (h2), trivial⟩ fun a w h => then_normal (wp_ret ?_)
   exact at_return (false, ()) [] h (by kernel_rfl) trivial (congrArg (fun z => (z, ())) (show (false) = isFmt x0 x1 x2 from by first | rfl | (unfold isFmt; rw [if_pos h1, if_neg (neT h2)])))
 ·have hvh1 := inR_f h1
  refine at_regq [{}, { hint := some (aB false) }] { ts := [6], os := [] } [True, (AV.p (.c (.v (.bool ((inR x0 0 1000000000000))))) = AV.p (.c (.v (.bool false))))] gamOK hT h (by kernel_rfl) ⟨trivial, hint_bool (h1), trivial⟩ fun a w h => then_normal (wp_ret ?_)
  exact at_return (false, ()) [] h (by kernel_rfl) trivial (congrArg (fun z => (z, ())) (show (false) = isFmt x0 x1 x2 from by first | rfl | (unfold isFmt; rw [if_neg (neT h1)])))
theorem isFmt_t {g s w : Int} (h : isFmt g s w = true) : (0 ≤ g ∧ g ≤ 1000000000000) ∧ (1 ≤ s ∧ s ≤ 8) ∧ (1 ≤ w ∧ w ≤ 16) := by
 unfold isFmt at h
 split at h
 ·split at h
  ·exact ⟨inR_t (by assumption), inR_t (by assumption), inR_t h⟩
  ·cases h
 ·cases h

def S_spec_l14Range : Sum := { fid := 111, dom := [(.int 3), (.int 3), (.int 3)], cod := [(.bool 4)], dp := true, fz := false, pre := fun x => True, g := fun x => ((isFmt x.1 x.2.1 x.2.2.1), ()) }
def S_spec_l14Range_tab : List (Nat × Sum) := [(90, S_spec_l1In)]
theorem S_spec_l14Range_ok : FnOK Tryz.prog 111 S_spec_l14Range := by
 refine at_enter 17 (fun x => ⟨[(0, aI x.1), (1, aI x.2.1), (2, aI x.2.2.1)], []⟩) Tryz.func111 rfl (by kernel_rfl) (fun x => rfl) ?_
 rintro w0 Z0 ⟨x0, x1, x2, u⟩ a w
 revert x0 x1 x2
 intro (x0 : Int) (x1 : Int) (x2 : Int) hpre hlens h
 have hT : TabOK Tryz.prog S_spec_l14Range_tab := (.cons S_spec_l1In_ok .nil)
 refine wp_seq ?_
 refine at_regq [] { ts := [0, 1, 2, 6], os := [] } [] gamOK hT h (by kernel_rfl) trivial fun a w h => then_normal (wp_seq ?_)
 rcases Bool.eq_false_or_eq_true ((inR x0 0 1000000000000)) with h1 | h1
 ·have hvh1 := inR_t h1
  rcases Bool.eq_false_or_eq_true ((inR x1 1 8)) with h2 | h2
  ·have hvh2 := inR_t h2
   refine at_regq [{}, { hint := some (aB true) }, {}, {}, { hint := some (aB true) }] { ts := [6], os := [] } [True, (AV.p (.c (.v (.bool ((inR x0 0 1000000000000))))) = AV.p (.c (.v (.bool true)))), True, (AV.p (.c (.v (.bool ((inR x1 1 8))))) = AV.p (.c (.v (.bool true)))), True] gamOK hT h (by kernel_rfl) ⟨trivial, hint_bool (h1), trivial, hint_bool (h2), trivial, trivial⟩ fun a w h => then_normal (wp_ret ?_)
   exact at_return ((inR x2 1 16), ()) [] h (by kernel_rfl) trivial (congrArg (fun z => (z, ())) (show ((inR x2 1 16)) = isFmt x0 x1 x2 from by first | rfl | (unfold isFmt; rw [if_pos h1, if_pos h2]; done) | (unfold isFmt; simp_all)))
  ·have hvh2 := inR_f h2
   refine at_regq [{}, { hint := some (aB true) }, {}, {}, { hint := some (aB false) }] { ts := [6], os := [] } [True, (AV.p (.c (.v (.bool ((inR x0 0 1000000000000))))) = AV.p (.c (.v (.bool true)))), True, (AV.p (.c (.v (.bool ((inR x1 1 8))))) = AV.p (.c (.v (.bool false))))] gamOK hT h (by kernel_rfl) ⟨trivial, hint_bool (h1), trivial, hint_bool (h2), trivial⟩ fun a w h => then_normal (wp_ret ?_)
   exact at_return (false, ()) [] h (by kernel_rfl) trivial (congrArg (fun z => (z, ())) (show (false) = isFmt x0 x1 x2 from by first | rfl | (unfold isFmt; rw [if_pos h1, if_neg (neT h2)]; done) | (unfold isFmt; simp_all)))
 ·have hvh1 := inR_f h1
  refine at_regq [{}, { hint := some (aB false) }] { ts := [6], os := [] } [True, (AV.p (.c (.v (.bool ((inR x0 0 1000000000000))))) = AV.p (.c (.v (.bool false))))] gamOK hT h (by kernel_rfl) ⟨trivial, hint_bool (h1), trivial⟩ fun a w h => then_normal (wp_ret ?_)
  exact at_return (false, ()) [] h (by kernel_rfl) trivial (congrArg (fun z => (z, ())) (show (false) = isFmt x0 x1 x2 from by first | rfl | (unfold isFmt; rw [if_neg (neT h1)]; done) | (unfold isFmt; simp_all)))

def validP (x0 : T49) (x1 : Int) (x2 : Int) : Bool := (if (isFmt x0.1 x1 x2) = true then (if ((List.length x0.2.1 : Nat) : Int) = x1 then (if ((List.length x0.2.2 : Nat) : Int) = x2 then (if (validV x0.2.1) = true then (validV x0.2.2) else false) else false) else false) else false)
abbrev Q_impl_IsValidPacket := (fun (x0 : T49) (x1 : Int) (x2 : Int) => Sh.fit s49 x0)
def S_impl_IsValidPacket : Sum := { fid := 125, dom := [s49, (.int 3), (.int 3)], cod := [(.bool 4)], dp := true, fz := false, pre := fun x => Q_impl_IsValidPacket x.1 x.2.1 x.2.2.1, g := fun x => ((validP x.1 x.2.1 x.2.2.1), ()) }
def S_impl_IsValidPacket_tab : List (Nat × Sum) := [(123, S_impl_isFormat), (122, S_impl_IsValidVector)]
theorem S_impl_IsValidPacket_ok : FnOK Tryz.prog 125 S_impl_IsValidPacket := by
 refine at_enter 36 (fun x => ⟨[(0, aG [cI x.1.1, .ro (.int 3) x.1.2.1, .ro (.int 3) x.1.2.2]), (1, aI x.2.1), (2, aI x.2.2.1)], []⟩) Tryz.func125 rfl (by kernel_rfl) (fun x => rfl) ?_
 rintro w0 Z0 ⟨x0, x1, x2, u⟩ a w
 revert x0 x1 x2
 intro (x0 : T49) (x1 : Int) (x2 : Int) hpre hlens h
 replace hpre : Q_impl_IsValidPacket x0 x1 x2 := hpre
 have hT : TabOK Tryz.prog S_impl_IsValidPacket_tab := (.cons S_impl_isFormat_ok (.cons S_impl_IsValidVector_ok .nil))
 have hf0 : Sh.fit s49 x0 := hpre
 have hn0_1 : List.length x0.2.1 ≤ 1073741824 := hf0.2.1.1
 have hn0_2 : List.length x0.2.2 ≤ 1073741824 := hf0.2.2.1
 refine wp_seq ?_
 refine at_regq [{ ids := [1] }] { ts := [1, 2, 3, 6], os := [1] } [] gamOK hT h (by kernel_rfl) trivial fun a w h => then_normal (wp_seq ?_)
 rcases Bool.eq_false_or_eq_true ((isFmt x0.1 x1 x2)) with h1 | h1
 ·have hvh1 := isFmt_t h1
  by_cases h2 : ((List.length x0.2.1 : Nat) : Int) = x1
  ·by_cases h3 : ((List.length x0.2.2 : Nat) : Int) = x2
   ·rcases Bool.eq_false_or_eq_true ((validV x0.2.1)) with h4 | h4
    ·have hvh4 := validV_t h4
     refine at_regq [{}, {}, {}, {}, { hint := some (aB true) }, {}, {}, {}, {}, {}, { hint := some (aB true) }, {}, {}, {}, {}, {}, {}, { hint := some (aB true) }, {}, {}, {}, {}, { hint := some (aB true) }] { ts := [6], os := [] } [True, (AV.p (.c (.v (.bool ((isFmt x0.1 x1 x2))))) = AV.p (.c (.v (.bool true)))), (AV.p (.c (.v (.bool (decide (((List.length x0.2.1 : Nat) : Int) = x1))))) = AV.p (.c (.v (.bool true)))), (AV.p (.c (.v (.bool (decide (((List.length x0.2.2 : Nat) : Int) = x2))))) = AV.p (.c (.v (.bool true)))), Q_impl_IsValidVector x0.2.1, (AV.p (.c (.v (.bool ((validV x0.2.1))))) = AV.p (.c (.v (.bool true)))), Q_impl_IsValidVector x0.2.2] gamOK hT h (by kernel_rfl) ⟨trivial, hint_bool (h1), hint_bool (decide_eq_true h2), hint_bool (decide_eq_true h3), (by exact hf0.2.1), hint_bool (h4), (by exact hf0.2.2), trivial⟩ fun a w h => then_normal (wp_ret ?_)
     exact at_return ((validV x0.2.2), ()) [] h (by kernel_rfl) trivial (congrArg (fun z => (z, ())) (show ((validV x0.2.2)) = validP x0 x1 x2 from by first | rfl | (unfold validP; rw [if_pos h1, if_pos h2, if_pos h3, if_pos h4])))
    ·refine at_regq [{}, {}, {}, {}, { hint := some (aB true) }, {}, {}, {}, {}, {}, { hint := some (aB true) }, {}, {}, {}, {}, {}, {}, { hint := some (aB true) }, {}, {}, {}, {}, { hint := some (aB false) }] { ts := [6], os := [] } [True, (AV.p (.c (.v (.bool ((isFmt x0.1 x1 x2))))) = AV.p (.c (.v (.bool true)))), (AV.p (.c (.v (.bool (decide (((List.length x0.2.1 : Nat) : Int) = x1))))) = AV.p (.c (.v (.bool true)))), (AV.p (.c (.v (.bool (decide (((List.length x0.2.2 : Nat) : Int) = x2))))) = AV.p (.c (.v (.bool true)))), Q_impl_IsValidVector x0.2.1, (AV.p (.c (.v (.bool ((validV x0.2.1))))) = AV.p (.c (.v (.bool false))))] gamOK hT h (by kernel_rfl) ⟨trivial, hint_bool (h1), hint_bool (decide_eq_true h2), hint_bool (decide_eq_true h3), (by exact hf0.2.1), hint_bool (h4), trivial⟩ fun a w h => then_normal (wp_ret ?_)
     exact at_return (false, ()) [] h (by kernel_rfl) trivial (congrArg (fun z => (z, ())) (show (false) = validP x0 x1 x2 from by first | rfl | (unfold validP; rw [if_pos h1, if_pos h2, if_pos h3, if_neg (neT h4)])))
   ·refine at_regq [{}, {}, {}, {}, { hint := some (aB true) }, {}, {}, {}, {}, {}, { hint := some (aB true) }, {}, {}, {}, {}, {}, {}, { hint := some (aB false) }] { ts := [6], os := [] } [True, (AV.p (.c (.v (.bool ((isFmt x0.1 x1 x2))))) = AV.p (.c (.v (.bool true)))), (AV.p (.c (.v (.bool (decide (((List.length x0.2.1 : Nat) : Int) = x1))))) = AV.p (.c (.v (.bool true)))), (AV.p (.c (.v (.bool (decide (((List.length x0.2.2 : Nat) : Int) = x2))))) = AV.p (.c (.v (.bool false))))] gamOK hT h (by kernel_rfl) ⟨trivial, hint_bool (h1), hint_bool (decide_eq_true h2), hint_bool (decide_eq_false h3), trivial⟩ fun a w h => then_normal (wp_ret ?_)
    exact at_return (false, ()) [] h (by kernel_rfl) trivial (congrArg (fun z => (z, ())) (show (false) = validP x0 x1 x2 from by first | rfl | (unfold validP; rw [if_pos h1, if_pos h2, if_neg h3])))
  ·refine at_regq [{}, {}, {}, {}, { hint := some (aB true) }, {}, {}, {}, {}, {}, { hint := some (aB false) }] { ts := [6], os := [] } [True, (AV.p (.c (.v (.bool ((isFmt x0.1 x1 x2))))) = AV.p (.c (.v (.bool true)))), (AV.p (.c (.v (.bool (decide (((List.length x0.2.1 : Nat) : Int) = x1))))) = AV.p (.c (.v (.bool false))))] gamOK hT h (by kernel_rfl) ⟨trivial, hint_bool (h1), hint_bool (decide_eq_false h2), trivial⟩ fun a w h => then_normal (wp_ret ?_)
   exact at_return (false, ()) [] h (by kernel_rfl) trivial (congrArg (fun z => (z, ())) (show (false) = validP x0 x1 x2 from by first | rfl | (unfold validP; rw [if_pos h1, if_neg h2])))
 ·refine at_regq [{}, {}, {}, {}, { hint := some (aB false) }] { ts := [6], os := [] } [True, (AV.p (.c (.v (.bool ((isFmt x0.1 x1 x2))))) = AV.p (.c (.v (.bool false))))] gamOK hT h (by kernel_rfl) ⟨trivial, hint_bool (h1), trivial⟩ fun a w h => then_normal (wp_ret ?_)
  exact at_return (false, ()) [] h (by kernel_rfl) trivial (congrArg (fun z => (z, ())) (show (false) = validP x0 x1 x2 from by first | rfl | (unfold validP; rw [if_neg (neT h1)])))
theorem validP_t {p : T49} {s w : Int} (h : validP p s w = true) : isFmt p.1 s w = true ∧ ((List.length p.2.1 : Nat) : Int) = s ∧ ((List.length p.2.2 : Nat) : Int) = w ∧ validV p.2.1 = true ∧ validV p.2.2 = true := by
 unfold validP at h
 split at h
 ·split at h
  ·split at h
   ·split at h
    ·exact ⟨by assumption, by assumption, by assumption, by assumption, h⟩
    ·cases h
   ·cases h
  ·cases h
 ·cases h
theorem validP_n {p : T49} {s w : Int} (h : validP p s w = true) : ((0 ≤ p.1 ∧ p.1 ≤ 1000000000000) ∧ (1 ≤ s ∧ s ≤ 8) ∧ (1 ≤ w ∧ w ≤ 16)) ∧ ((List.length p.2.1 : Nat) : Int) = s ∧ ((List.length p.2.2 : Nat) : Int) = w := ⟨isFmt_t (validP_t h).1, (validP_t h).2.1, (validP_t h).2.2.1⟩
theorem validP_of {p : T49} {s w : Int} (h : isFmt p.1 s w = true ∧ ((List.length p.2.1 : Nat) : Int) = s ∧ ((List.length p.2.2 : Nat) : Int) = w ∧ validV p.2.1 = true ∧ validV p.2.2 = true) : validP p s w = true := by
 unfold validP; rw [if_pos h.1, if_pos h.2.1, if_pos h.2.2.1, if_pos h.2.2.2.1]; exact h.2.2.2.2

abbrev Q_spec_IsValidPacket := (fun (x0 : T49) (x1 : Int) (x2 : Int) => Sh.fit s49 x0)
def S_spec_IsValidPacket : Sum := { fid := 112, dom := [s49, (.int 3), (.int 3)], cod := [(.bool 4)], dp := true, fz := false, pre := fun x => Q_spec_IsValidPacket x.1 x.2.1 x.2.2.1, g := fun x => ((validP x.1 x.2.1 x.2.2.1), ()) }
def S_spec_IsValidPacket_tab : List (Nat × Sum) := [(90, S_spec_l1In), (115, S_spec_IsValidVector)]
theorem S_spec_IsValidPacket_ok : FnOK Tryz.prog 112 S_spec_IsValidPacket := by
 refine at_enter 42 (fun x => ⟨[(0, aG [cI x.1.1, .ro (.int 3) x.1.2.1, .ro (.int 3) x.1.2.2]), (1, aI x.2.1), (2, aI x.2.2.1)], []⟩) Tryz.func112 rfl (by kernel_rfl) (fun x => rfl) ?_
 rintro w0 Z0 ⟨x0, x1, x2, u⟩ a w
 revert x0 x1 x2
 intro (x0 : T49) (x1 : Int) (x2 : Int) hpre hlens h
 replace hpre : Q_spec_IsValidPacket x0 x1 x2 := hpre
 have hT : TabOK Tryz.prog S_spec_IsValidPacket_tab := (.cons S_spec_l1In_ok (.cons S_spec_IsValidVector_ok .nil))
 have hf0 : Sh.fit s49 x0 := hpre
 have hn0_1 : List.length x0.2.1 ≤ 1073741824 := hf0.2.1.1
 have hn0_2 : List.length x0.2.2 ≤ 1073741824 := hf0.2.2.1
 refine wp_seq ?_
 refine at_regq [{ ids := [1] }] { ts := [1, 2, 3, 6], os := [1] } [] gamOK hT h (by kernel_rfl) trivial fun a w h => then_normal (wp_seq ?_)
 rcases Bool.eq_false_or_eq_true ((inR x0.1 0 1000000000000)) with h1 | h1
 ·have hvh1 := inR_t h1
  rcases Bool.eq_false_or_eq_true ((inR x1 1 8)) with h2 | h2
  ·have hvh2 := inR_t h2
   rcases Bool.eq_false_or_eq_true ((inR x2 1 16)) with h3 | h3
   ·have hvh3 := inR_t h3
    by_cases h4 : ((List.length x0.2.1 : Nat) : Int) = x1
    ·by_cases h5 : ((List.length x0.2.2 : Nat) : Int) = x2
     ·rcases Bool.eq_false_or_eq_true ((validV x0.2.1)) with h6 | h6
      ·have hvh6 := validV_t h6
       refine at_regq [{}, {}, { hint := some (aB true) }, {}, {}, { hint := some (aB true) }, {}, {}, {}, { hint := some (aB true) }, {}, {}, {}, {}, {}, {}, { hint := some (aB true) }, {}, {}, {}, {}, {}, {}, { hint := some (aB true) }, {}, {}, {}, {}, { hint := some (aB true) }] { ts := [6], os := [] } [True, (AV.p (.c (.v (.bool ((inR x0.1 0 1000000000000))))) = AV.p (.c (.v (.bool true)))), True, (AV.p (.c (.v (.bool ((inR x1 1 8))))) = AV.p (.c (.v (.bool true)))), True, (AV.p (.c (.v (.bool ((inR x2 1 16))))) = AV.p (.c (.v (.bool true)))), (AV.p (.c (.v (.bool (decide (((List.length x0.2.1 : Nat) : Int) = x1))))) = AV.p (.c (.v (.bool true)))), (AV.p (.c (.v (.bool (decide (((List.length x0.2.2 : Nat) : Int) = x2))))) = AV.p (.c (.v (.bool true)))), Q_spec_IsValidVector x0.2.1, (AV.p (.c (.v (.bool ((validV x0.2.1))))) = AV.p (.c (.v (.bool true)))), Q_spec_IsValidVector x0.2.2] gamOK hT h (by kernel_rfl) ⟨trivial, hint_bool (h1), trivial, hint_bool (h2), trivial, hint_bool (h3), hint_bool (decide_eq_true h4), hint_bool (decide_eq_true h5), (by exact hf0.2.1), hint_bool (h6), (by exact hf0.2.2), trivial⟩ fun a w h => then_normal (wp_ret ?_)
       exact at_return ((validV x0.2.2), ()) [] h (by kernel_rfl) trivial (congrArg (fun z => (z, ())) (show ((validV x0.2.2)) = validP x0 x1 x2 from by first | rfl | (unfold validP; rw [if_pos h1, if_pos h2, if_pos h3, if_pos h4, if_pos h5, if_pos h6]; done) | (unfold validP; simp_all [isFmt])))
      ·refine at_regq [{}, {}, { hint := some (aB true) }, {}, {}, { hint := some (aB true) }, {}, {}, {}, { hint := some (aB true) }, {}, {}, {}, {}, {}, {}, { hint := some (aB true) }, {}, {}, {}, {}, {}, {}, { hint := some (aB true) }, {}, {}, {}, {}, { hint := some (aB false) }] { ts := [6], os := [] } [True, (AV.p (.c (.v (.bool ((inR x0.1 0 1000000000000))))) = AV.p (.c (.v (.bool true)))), True, (AV.p (.c (.v (.bool ((inR x1 1 8))))) = AV.p (.c (.v (.bool true)))), True, (AV.p (.c (.v (.bool ((inR x2 1 16))))) = AV.p (.c (.v (.bool true)))), (AV.p (.c (.v (.bool (decide (((List.length x0.2.1 : Nat) : Int) = x1))))) = AV.p (.c (.v (.bool true)))), (AV.p (.c (.v (.bool (decide (((List.length x0.2.2 : Nat) : Int) = x2))))) = AV.p (.c (.v (.bool true)))), Q_spec_IsValidVector x0.2.1, (AV.p (.c (.v (.bool ((validV x0.2.1))))) = AV.p (.c (.v (.bool false))))] gamOK hT h (by kernel_rfl) ⟨trivial, hint_bool (h1), trivial, hint_bool (h2), trivial, hint_bool (h3), hint_bool (decide_eq_true h4), hint_bool (decide_eq_true h5), (by exact hf0.2.1), hint_bool (h6), trivial⟩ fun a w h => then_normal (wp_ret ?_)
       exact at_return (false, ()) [] h (by kernel_rfl) trivial (congrArg (fun z => (z, ())) (show (false) = validP x0 x1 x2 from by first | rfl | (unfold validP; rw [if_pos h1, if_pos h2, if_pos h3, if_pos h4, if_pos h5, if_neg (neT h6)]; done) | (unfold validP; simp_all [isFmt])))
     ·refine at_regq [{}, {}, { hint := some (aB true) }, {}, {}, { hint := some (aB true) }, {}, {}, {}, { hint := some (aB true) }, {}, {}, {}, {}, {}, {}, { hint := some (aB true) }, {}, {}, {}, {}, {}, {}, { hint := some (aB false) }] { ts := [6], os := [] } [True, (AV.p (.c (.v (.bool ((inR x0.1 0 1000000000000))))) = AV.p (.c (.v (.bool true)))), True, (AV.p (.c (.v (.bool ((inR x1 1 8))))) = AV.p (.c (.v (.bool true)))), True, (AV.p (.c (.v (.bool ((inR x2 1 16))))) = AV.p (.c (.v (.bool true)))), (AV.p (.c (.v (.bool (decide (((List.length x0.2.1 : Nat) : Int) = x1))))) = AV.p (.c (.v (.bool true)))), (AV.p (.c (.v (.bool (decide (((List.length x0.2.2 : Nat) : Int) = x2))))) = AV.p (.c (.v (.bool false))))] gamOK hT h (by kernel_rfl) ⟨trivial, hint_bool (h1), trivial, hint_bool (h2), trivial, hint_bool (h3), hint_bool (decide_eq_true h4), hint_bool (decide_eq_false h5), trivial⟩ fun a w h => then_normal (wp_ret ?_)
      exact at_return (false, ()) [] h (by kernel_rfl) trivial (congrArg (fun z => (z, ())) (show (false) = validP x0 x1 x2 from by first | rfl | (unfold validP; rw [if_pos h1, if_pos h2, if_pos h3, if_pos h4, if_neg h5]; done) | (unfold validP; simp_all [isFmt])))
    ·refine at_regq [{}, {}, { hint := some (aB true) }, {}, {}, { hint := some (aB true) }, {}, {}, {}, { hint := some (aB true) }, {}, {}, {}, {}, {}, {}, { hint := some (aB false) }] { ts := [6], os := [] } [True, (AV.p (.c (.v (.bool ((inR x0.1 0 1000000000000))))) = AV.p (.c (.v (.bool true)))), True, (AV.p (.c (.v (.bool ((inR x1 1 8))))) = AV.p (.c (.v (.bool true)))), True, (AV.p (.c (.v (.bool ((inR x2 1 16))))) = AV.p (.c (.v (.bool true)))), (AV.p (.c (.v (.bool (decide (((List.length x0.2.1 : Nat) : Int) = x1))))) = AV.p (.c (.v (.bool false))))] gamOK hT h (by kernel_rfl) ⟨trivial, hint_bool (h1), trivial, hint_bool (h2), trivial, hint_bool (h3), hint_bool (decide_eq_false h4), trivial⟩ fun a w h => then_normal (wp_ret ?_)
     exact at_return (false, ()) [] h (by kernel_rfl) trivial (congrArg (fun z => (z, ())) (show (false) = validP x0 x1 x2 from by first | rfl | (unfold validP; rw [if_pos h1, if_pos h2, if_pos h3, if_neg h4]; done) | (unfold validP; simp_all [isFmt])))
   ·have hvh3 := inR_f h3
    refine at_regq [{}, {}, { hint := some (aB true) }, {}, {}, { hint := some (aB true) }, {}, {}, {}, { hint := some (aB false) }] { ts := [6], os := [] } [True, (AV.p (.c (.v (.bool ((inR x0.1 0 1000000000000))))) = AV.p (.c (.v (.bool true)))), True, (AV.p (.c (.v (.bool ((inR x1 1 8))))) = AV.p (.c (.v (.bool true)))), True, (AV.p (.c (.v (.bool ((inR x2 1 16))))) = AV.p (.c (.v (.bool false))))] gamOK hT h (by kernel_rfl) ⟨trivial, hint_bool (h1), trivial, hint_bool (h2), trivial, hint_bool (h3), trivial⟩ fun a w h => then_normal (wp_ret ?_)
    exact at_return (false, ()) [] h (by kernel_rfl) trivial (congrArg (fun z => (z, ())) (show (false) = validP x0 x1 x2 from by first | rfl | (unfold validP; rw [if_pos h1, if_pos h2, if_neg (neT h3)]; done) | (unfold validP; simp_all [isFmt])))
  ·have hvh2 := inR_f h2
   refine at_regq [{}, {}, { hint := some (aB true) }, {}, {}, { hint := some (aB false) }] { ts := [6], os := [] } [True, (AV.p (.c (.v (.bool ((inR x0.1 0 1000000000000))))) = AV.p (.c (.v (.bool true)))), True, (AV.p (.c (.v (.bool ((inR x1 1 8))))) = AV.p (.c (.v (.bool false))))] gamOK hT h (by kernel_rfl) ⟨trivial, hint_bool (h1), trivial, hint_bool (h2), trivial⟩ fun a w h => then_normal (wp_ret ?_)
   exact at_return (false, ()) [] h (by kernel_rfl) trivial (congrArg (fun z => (z, ())) (show (false) = validP x0 x1 x2 from by first | rfl | (unfold validP; rw [if_pos h1, if_neg (neT h2)]; done) | (unfold validP; simp_all [isFmt])))
 ·have hvh1 := inR_f h1
  refine at_regq [{}, {}, { hint := some (aB false) }] { ts := [6], os := [] } [True, (AV.p (.c (.v (.bool ((inR x0.1 0 1000000000000))))) = AV.p (.c (.v (.bool false))))] gamOK hT h (by kernel_rfl) ⟨trivial, hint_bool (h1), trivial⟩ fun a w h => then_normal (wp_ret ?_)
  exact at_return (false, ()) [] h (by kernel_rfl) trivial (congrArg (fun z => (z, ())) (show (false) = validP x0 x1 x2 from by first | rfl | (unfold validP; rw [if_neg (neT h1)]; done) | (unfold validP; simp_all [isFmt])))

def cofs (ps : List T49) : List (List Int) := ps.map fun p => p.2.1
theorem cofs_at {ps : List T49} {i : Nat} (h : i < ps.length) : (cofs ps).getD i [] = (ps.getD i (0, ([], []))).2.1 := by
 unfold cofs; rw [getD_of_lt (by simpa using h), getD_of_lt h, List.getElem_map]
theorem cofs_len (ps : List T49) : (cofs ps).length = ps.length := by simp [cofs]
theorem cofs_snoc (ps : List T49) (p : T49) : cofs (ps ++ [p]) = cofs ps ++ [p.2.1] := by simp [cofs]
theorem insTo_app (vs us : List (List Int)) : ∀ i, i ≤ vs.length → LA.insTo (vs ++ us) i = LA.insTo vs i
 | 0, _ => rfl
 | i + 1, h => by
  simp only [LA.insTo]
  rw [insTo_app vs us i (by omega), show (vs ++ us).getD i [] = vs.getD i [] from by rw [List.getD_eq_getElem?_getD, List.getElem?_append_left (by omega), List.getD_eq_getElem?_getD]]
theorem insTo_take {vs : List (List Int)} {i : Nat} (h : i ≤ vs.length) : LA.insTo (vs.take i) i = LA.insTo vs i := by
 have := insTo_app (vs.take i) (vs.drop i) i (by simp; omega)
 rw [List.take_append_drop] at this; exact this.symm
def okPkt (r : T47) (p : T49) : Bool := validP p r.2.1 r.2.2.1 && decide (p.1 = r.1)
theorem okPkt_v {r : T47} {p : T49} (h : okPkt r p = true) : ((0 ≤ p.1 ∧ p.1 ≤ 1000000000000) ∧ (1 ≤ r.2.1 ∧ r.2.1 ≤ 8) ∧ (1 ≤ r.2.2.1 ∧ r.2.2.1 ≤ 16)) ∧ LA.VokB r.2.1.toNat p.2.1 := by
 unfold okPkt at h
 rw [Bool.and_eq_true] at h
 have h1 := validP_t h.1
 have h2 := isFmt_t h1.1
 exact ⟨h2, by have := h1.2.1; omega, (validV_t h1.2.2.2.1).2.1⟩
theorem okPkt_t {r : T47} {p : T49} (h1 : validP p r.2.1 r.2.2.1 = true) (h2 : p.1 = r.1) : okPkt r p = true := by unfold okPkt; rw [h1, decide_eq_true h2]; rfl
theorem okPkt_f {r : T47} {p : T49} (h : validP p r.2.1 r.2.2.1 = false ∨ ¬ p.1 = r.1) : okPkt r p = false := by
 unfold okPkt; rw [Bool.and_eq_false_iff]
 rcases h with h | h
 ·exact .inl h
 ·exact .inr (decide_eq_false h)
def recB (r : T47) (i : Nat) : Bool := okPkt r (r.2.2.2.1.getD i (0, ([], []))) && LA.insOk (cofs r.2.2.2.1) i
def validR (r : T47) : Bool := (isFmt r.1 r.2.1 r.2.2.1 && (decide (List.length r.2.2.2.1 ≤ 8) && inR r.2.2.2.2 0 1000000000000)) && allN (recB r) (List.length r.2.2.2.1)
theorem rec_vok {r : T47} {i : Nat} (hi : i ≤ r.2.2.2.1.length) (h : allN (recB r) i = true) : ∀ v ∈ (cofs r.2.2.2.1).take i, LA.VokB r.2.1.toNat v := fun v hv => by
 obtain ⟨j, hj, rfl⟩ := List.getElem_of_mem hv
 rw [List.length_take, cofs_len] at hj
 have h1 := allN_iff.1 h j (by omega)
 unfold recB at h1
 rw [Bool.and_eq_true] at h1
 have h2 := (okPkt_v h1.1).2
 rw [← cofs_at (by omega), getD_of_lt (by rw [cofs_len]; omega)] at h2
 rw [List.getElem_take]; exact h2
theorem red_to {n : Nat} {vs : List (List Int)} {i : Nat} (hi : i ≤ vs.length) (h : ∀ v ∈ vs.take i, LA.VokB n v) : LA.RedL n (LA.insTo vs i) := by
 have := (LA.insTo_ok h i (by simp; omega)).1
 rwa [insTo_take hi] at this
theorem rec_red {r : T47} {i : Nat} (hi : i ≤ r.2.2.2.1.length) (h : allN (recB r) i = true) : LA.RedL r.2.1.toNat (LA.insTo (cofs r.2.2.2.1) i) := red_to (by rw [cofs_len]; exact hi) (rec_vok hi h)
theorem insOk_at {ps : List T49} {s : Int} {i : Nat} (h : i < ps.length) : LA.insOk (cofs ps) i = insD (s, LA.insTo (cofs ps) i) (ps.getD i (0, ([], []))).2.1 := by unfold LA.insOk insD; rw [cofs_at h]
theorem insTo_next {ps : List T49} {s : Int} {i : Nat} (h : i < ps.length) : (insU (s, LA.insTo (cofs ps) i) (ps.getD i (0, ([], []))).2.1).2 = LA.insTo (cofs ps) (i + 1) := by show _ = (LA.insS _ _).1; rw [cofs_at h]; rfl
theorem recB_t {r : T47} {i : Nat} (hi : i < r.2.2.2.1.length) (h1 : validP (r.2.2.2.1.getD i (0, ([], []))) r.2.1 r.2.2.1 = true) (h2 : (r.2.2.2.1.getD i (0, ([], []))).1 = r.1) (h3 : insD (r.2.1, LA.insTo (cofs r.2.2.2.1) i) (r.2.2.2.1.getD i (0, ([], []))).2.1 = true) : recB r i = true := by
 unfold recB; rw [okPkt_t h1 h2, insOk_at hi, h3]; rfl
theorem recB_f {r : T47} {i : Nat} (hi : i < r.2.2.2.1.length) (h : validP (r.2.2.2.1.getD i (0, ([], []))) r.2.1 r.2.2.1 = false ∨ ¬ (r.2.2.2.1.getD i (0, ([], []))).1 = r.1 ∨ insD (r.2.1, LA.insTo (cofs r.2.2.2.1) i) (r.2.2.2.1.getD i (0, ([], []))).2.1 = false) : recB r i = false := by
 unfold recB; rw [Bool.and_eq_false_iff]
 rcases h with h | h | h
 ·exact .inl (okPkt_f (.inl h))
 ·exact .inl (okPkt_f (.inr h))
 ·exact .inr (by rw [insOk_at hi, h])
theorem newBas_at {s : Int} (h : 0 ≤ s ∧ s ≤ 40) : newBas s = (s, []) := by unfold newBas; rw [if_pos (inR_true h)]
theorem validR_t {r : T47} (h : validR r = true) : ((0 ≤ r.1 ∧ r.1 ≤ 1000000000000) ∧ (1 ≤ r.2.1 ∧ r.2.1 ≤ 8) ∧ (1 ≤ r.2.2.1 ∧ r.2.2.1 ≤ 16)) ∧ List.length r.2.2.2.1 ≤ 8 ∧ (0 ≤ r.2.2.2.2 ∧ r.2.2.2.2 ≤ 1000000000000) ∧ allN (recB r) (List.length r.2.2.2.1) = true := by
 unfold validR at h
 rw [Bool.and_eq_true, Bool.and_eq_true, Bool.and_eq_true] at h
 exact ⟨isFmt_t h.1.1, of_decide_eq_true h.1.2.1, inR_t h.1.2.2, h.2⟩
theorem validR_y {r : T47} (h1 : isFmt r.1 r.2.1 r.2.2.1 = true) (h2 : List.length r.2.2.2.1 ≤ 8) (h3 : inR r.2.2.2.2 0 1000000000000 = true) : allN (recB r) (List.length r.2.2.2.1) = validR r := by unfold validR; rw [h1, decide_eq_true h2, h3]; rfl
theorem validR_n {r : T47} (h : isFmt r.1 r.2.1 r.2.2.1 = false ∨ ¬ List.length r.2.2.2.1 ≤ 8 ∨ inR r.2.2.2.2 0 1000000000000 = false ∨ allN (recB r) (List.length r.2.2.2.1) = false) : false = validR r := by
 unfold validR
 rcases h with h | h | h | h
 ·rw [h]; rfl
 ·rw [decide_eq_false h]; simp
 ·rw [h]; simp
 ·rw [h]; simp
theorem ok_rec {r : T47} (h : allN (fun j => okPkt r (r.2.2.2.1.getD j (0, ([], [])))) (List.length r.2.2.2.1) = false) : allN (recB r) (List.length r.2.2.2.1) = false := by
 rw [Bool.eq_false_iff] at *
 intro e; apply h
 rw [allN_iff] at *
 intro j hj
 have := e j hj
 unfold recB at this
 rw [Bool.and_eq_true] at this; exact this.1
theorem allN_congr {P Q : Nat → Bool} : ∀ {n : Nat}, (∀ j, j < n → P j = Q j) → allN P n = allN Q n
 | 0, _ => rfl
 | n + 1, h => by simp only [allN]; rw [allN_congr (n := n) fun j hj => h j (by omega), h n (by omega)]
theorem fit_cofs {ps : List T49} (h : Sh.fit s45 ps) : Sh.fit s37 (cofs ps) := ⟨by rw [cofs_len]; exact h.1, fun v hv => by
 obtain ⟨p, hp, rfl⟩ := List.mem_map.1 hv
 exact (h.2 p hp).2.1⟩
theorem rank_cofs {r : T47} (h : allN (fun j => okPkt r (r.2.2.2.1.getD j (0, ([], [])))) (List.length r.2.2.2.1) = true) (hl : List.length r.2.2.2.1 ≤ 8) : decide (((List.length (rowRed (cofs r.2.2.2.1)) : Nat) : Int) = ((List.length (cofs r.2.2.2.1) : Nat) : Int)) = allN (recB r) (List.length r.2.2.2.1) := by
 have hp := allN_iff.1 h
 have hv : ∀ v ∈ cofs r.2.2.2.1, LA.VokB r.2.1.toNat v := fun v hv => by
  obtain ⟨j, hj, rfl⟩ := List.getElem_of_mem hv
  rw [cofs_len] at hj
  have h2 := (okPkt_v (hp j hj)).2
  rw [← cofs_at hj, getD_of_lt (by rw [cofs_len]; exact hj)] at h2
  exact h2
 have e : allN (recB r) (List.length r.2.2.2.1) = allN (LA.insOk (cofs r.2.2.2.1)) (List.length r.2.2.2.1) := allN_congr fun j hj => by
  unfold recB; rw [hp j hj, Bool.true_and]
 rw [e, Bool.eq_iff_iff, decide_eq_true_iff, allN_iff]
 rcases Nat.eq_zero_or_pos (List.length r.2.2.2.1) with h0 | h0
 ·rw [List.eq_nil_of_length_eq_zero h0]
  exact ⟨fun _ j hj => absurd hj (by simp), fun _ => rfl⟩
 ·have hs := (okPkt_v (hp 0 h0)).1
  have hM : validM (cofs r.2.2.2.1) = true := by
   unfold validM
   rw [if_pos]
   ·exact decide_eq_true (by rw [cofs_len]; omega)
   ·rw [List.all_eq_true]; intro v hvm
    rw [Bool.and_eq_true]
    refine ⟨validV_of (hv v hvm) (by omega), decide_eq_true ?_⟩
    rw [(hv v hvm).1, (hv _ (LA.getD_in (i := 0) (by rw [cofs_len]; exact h0))).1]
  rw [rowRed_at hM, (hv _ (LA.getD_in (i := 0) (by rw [cofs_len]; exact h0))).1]
  have := LA.rank_full hv
  rw [cofs_len] at this ⊢
  rw [← this]; omega
abbrev Q_impl_IsValidRecoder := (fun (x0 : T47) => Sh.fit s47 x0)
def S_impl_IsValidRecoder : Sum := { fid := 67, dom := [s47], cod := [(.bool 4)], dp := true, fz := false, pre := fun x => Q_impl_IsValidRecoder x.1, g := fun x => ((validR x.1), ()) }
def S_impl_IsValidRecoder_tab : List (Nat × Sum) := [(123, S_impl_isFormat), (101, S_impl_InRange), (124, S_impl_NewBasis), (125, S_impl_IsValidPacket), (126, S__P_impl_Basis_insert)]
theorem S_impl_IsValidRecoder_ok : FnOK Tryz.prog 67 S_impl_IsValidRecoder := by
 refine at_enter 57 (fun x => ⟨[(0, aG [cI x.1.1, cI x.1.2.1, cI x.1.2.2.1, .ro s49 x.1.2.2.2.1, cI x.1.2.2.2.2])], []⟩) Tryz.func67 rfl (by kernel_rfl) (fun x => rfl) ?_
 rintro w0 Z0 ⟨x0, u⟩ a w
 revert x0
 intro (x0 : T47) hpre hlens h
 replace hpre : Q_impl_IsValidRecoder x0 := hpre
 have hT : TabOK Tryz.prog S_impl_IsValidRecoder_tab := (.cons S_impl_isFormat_ok (.cons S_impl_InRange_ok (.cons S_impl_NewBasis_ok (.cons S_impl_IsValidPacket_ok (.cons S__P_impl_Basis_insert_ok .nil)))))
 have hf0 : Sh.fit s47 x0 := hpre
 have hn0_1 : List.length x0.2.2.2.1 ≤ 1073741824 := hf0.2.2.2.1.1
 refine wp_seq ?_
 refine at_regq [{ ids := [1] }] { ts := [1, 2], os := [1] } [] gamOK hT h (by kernel_rfl) trivial fun a w h => then_normal (wp_seq (wp_seq ?_))
 rcases Bool.eq_false_or_eq_true (!(isFmt x0.1 x0.2.1 x0.2.2.1)) with h1 | h1
 ·have hzh1 : (isFmt x0.1 x0.2.1 x0.2.2.1) = false := notT h1
  refine at_regq [{}, {}, {}, {}, {}, {}, {}, { hint := some (aB true) }] { ts := [1, 2, 25], os := [1] } [True, (AV.p (.c (.v (.bool (!(isFmt x0.1 x0.2.1 x0.2.2.1))))) = AV.p (.c (.v (.bool true))))] gamOK hT h (by kernel_rfl) ⟨trivial, hint_bool (h1), trivial⟩ fun a w h => then_normal ?_
  refine at_test true h (by kernel_rfl) (fun hh => ?_) (fun hh => nomatch hh)
  refine wp_seq ?_
  refine at_regq [] { ts := [1, 2], os := [1] } [] gamOK hT h (by kernel_rfl) trivial fun a w h => then_normal (wp_ret (then_ret ?_))
  exact at_return (false, ()) [] h (by kernel_rfl) trivial (congrArg (fun z => (z, ())) (show (false) = validR x0 from by (first | (rw [← validR_y (by assumption) (by omega) (by assumption)]; symm; assumption) | exact validR_n (by first | (left; assumption) | (right; left; omega) | (right; right; left; assumption) | (right; right; right; assumption) | (right; right; right; exact ok_rec (by assumption))))))
 ·have hzh1 : (isFmt x0.1 x0.2.1 x0.2.2.1) = true := notF h1
  have hvh1 := isFmt_t (notF h1)
  by_cases h2 : ((List.length x0.2.2.2.1 : Nat) : Int) > 8
  ·refine at_regq [{}, {}, {}, {}, {}, {}, {}, { hint := some (aB false) }, {}, {}, {}, {}, { hint := some (aB true) }] { ts := [1, 2, 25], os := [1] } [True, (AV.p (.c (.v (.bool (!(isFmt x0.1 x0.2.1 x0.2.2.1))))) = AV.p (.c (.v (.bool false)))), (AV.p (.c (.v (.bool (decide (((List.length x0.2.2.2.1 : Nat) : Int) > 8))))) = AV.p (.c (.v (.bool true))))] gamOK hT h (by kernel_rfl) ⟨trivial, hint_bool (h1), hint_bool (decide_eq_true h2), trivial⟩ fun a w h => then_normal ?_
   refine at_test true h (by kernel_rfl) (fun hh => ?_) (fun hh => nomatch hh)
   refine wp_seq ?_
   refine at_regq [] { ts := [1, 2], os := [1] } [] gamOK hT h (by kernel_rfl) trivial fun a w h => then_normal (wp_ret (then_ret ?_))
   exact at_return (false, ()) [] h (by kernel_rfl) trivial (congrArg (fun z => (z, ())) (show (false) = validR x0 from by (first | (rw [← validR_y (by assumption) (by omega) (by assumption)]; symm; assumption) | exact validR_n (by first | (left; assumption) | (right; left; omega) | (right; right; left; assumption) | (right; right; right; assumption) | (right; right; right; exact ok_rec (by assumption))))))
  ·refine at_regq [{}, {}, {}, {}, {}, {}, {}, { hint := some (aB false) }, {}, {}, {}, {}, { hint := some (aB false) }] { ts := [1, 2, 25], os := [1] } [True, (AV.p (.c (.v (.bool (!(isFmt x0.1 x0.2.1 x0.2.2.1))))) = AV.p (.c (.v (.bool false)))), (AV.p (.c (.v (.bool (decide (((List.length x0.2.2.2.1 : Nat) : Int) > 8))))) = AV.p (.c (.v (.bool false)))), True] gamOK hT h (by kernel_rfl) ⟨trivial, hint_bool (h1), hint_bool (decide_eq_false h2), trivial, trivial⟩ fun a w h => then_normal ?_
   refine at_test (!(inR x0.2.2.2.2 0 1000000000000)) h (by kernel_rfl) (fun h3 => ?_) (fun h3 => ?_)
   ·replace h3 : (inR x0.2.2.2.2 0 1000000000000) = false := notT h3
    have hvh3 := inR_f h3
    refine wp_seq ?_
    refine at_regq [] { ts := [1, 2], os := [1] } [] gamOK hT h (by kernel_rfl) trivial fun a w h => then_normal (wp_ret (then_ret ?_))
    exact at_return (false, ()) [] h (by kernel_rfl) trivial (congrArg (fun z => (z, ())) (show (false) = validR x0 from by (first | (rw [← validR_y (by assumption) (by omega) (by assumption)]; symm; assumption) | exact validR_n (by first | (left; assumption) | (right; left; omega) | (right; right; left; assumption) | (right; right; right; assumption) | (right; right; right; exact ok_rec (by assumption))))))
   ·replace h3 : (inR x0.2.2.2.2 0 1000000000000) = true := notF h3
    have hvh3 := inR_t h3
    refine wp_skip (then_normal (wp_seq ?_))
    refine at_regq [{}, {}, { ids := [2] }, { ids := [3] }] { ts := [1, 2, 3], os := [1, 2, 3] } [True] gamOK hT h (by kernel_rfl) ⟨trivial, trivial⟩ fun a w h => then_normal (wp_seq (wp_seq ?_))
    refine at_regq [] { ts := [1, 2, 3, 30, 31, 32], os := [1, 2, 3] } [] gamOK hT h (by kernel_rfl) trivial fun a w h => then_normal (wp_block ?_)
    replace h := at_out (σ' := ⟨[(1, aP 1 0), (2, aB false), (3, aP 3 0), (30, aF s49 x0.2.2.2.1), (31, aI ((List.length x0.2.2.2.1 : Nat) : Int)), (32, aI 0)], [(1, oX 47 [cI x0.1, cI x0.2.1, cI x0.2.2.1, .ro s49 x0.2.2.2.1, cI x0.2.2.2.2]), (2, oR s22 (newBas x0.2.1).2), (3, oX 127 [cI (newBas x0.2.1).1, .sl 2])]⟩) { ts := [1, 2, 3, 30, 31, 32], os := [1, 2, 3] } h (by kernel_rfl)
    refine at_loop (fun i : Nat => (⟨[(1, aP 1 0), (2, aB false), (3, aP 3 0), (30, aF s49 x0.2.2.2.1), (31, aI ((List.length x0.2.2.2.1 : Nat) : Int)), (32, aI ((i : Nat) : Int))], [(1, oX 47 [cI x0.1, cI x0.2.1, cI x0.2.2.1, .ro s49 x0.2.2.2.1, cI x0.2.2.2.2]), (2, oR s22 (LA.insTo (cofs x0.2.2.2.1) i)), (3, oX 127 [cI x0.2.1, .sl 2])]⟩ : St)) (fun i => (i ≤ (List.length x0.2.2.2.1) ∧ allN (recB x0) i = true)) (fun i => (List.length x0.2.2.2.1) - i) (0) h (st_congr3 (fun (d0 : Int) (d1 : List (List Int)) (d2 : Int) => (⟨[(1, aP 1 0), (2, aB false), (3, aP 3 0), (30, aF s49 x0.2.2.2.1), (31, aI ((List.length x0.2.2.2.1 : Nat) : Int)), (32, aI d2)], [(1, oX 47 [cI x0.1, cI x0.2.1, cI x0.2.2.1, .ro s49 x0.2.2.2.1, cI x0.2.2.2.2]), (2, oR s22 d1), (3, oX 127 [cI d0, .sl 2])]⟩ : St)) (show ((newBas x0.2.1).1 : Int) = x0.2.1 from by first | with_reducible rfl | (first | rfl | (rw [newBas_at (by omega)]; done) | (rw [newBas_at (by omega)]; rfl)) | rfl) (show ((newBas x0.2.1).2 : List (List Int)) = (LA.insTo (cofs x0.2.2.2.1) (0)) from by first | with_reducible rfl | (first | rfl | (rw [newBas_at (by omega)]; done) | (rw [newBas_at (by omega)]; rfl)) | rfl) (show (0 : Int) = (((0) : Nat) : Int) from by first | with_reducible rfl | (first | rfl | (rw [newBas_at (by omega)]; done) | (rw [newBas_at (by omega)]; rfl)) | rfl)) (by exact ⟨Nat.zero_le _, rfl⟩) ?_
    intro i a w hok0 h
    refine wp_seq ?_
    refine at_regq [] { ts := [1, 2, 3, 30, 31, 32, 33], os := [1, 2, 3] } [] gamOK hT h (by kernel_rfl) trivial fun a w h => then_normal (wp_seq ?_)
    refine at_test (decide (((i : Nat) : Int) < ((List.length x0.2.2.2.1 : Nat) : Int))) h (by kernel_rfl) (fun h4 => ?_) (fun h4 => ?_)
    ·replace h4 : ((i : Nat) : Int) < ((List.length x0.2.2.2.1 : Nat) : Int) := of_decide_eq_true h4
     have hred := rec_red (r := x0) hok0.1 hok0.2
     have hbP : basP (x0.2.1, (LA.insTo (cofs x0.2.2.2.1) i)) := ⟨by omega, hred⟩
     refine wp_skip (then_normal (wp_seq (wp_block (wp_seq ?_))))
     refine at_regq [{}, {}, { ids := [4] }] { ts := [1, 2, 3, 5, 30, 31, 32], os := [1, 2, 3, 4] } [(0 : Int) ≤ ((i : Nat) : Int) ∧ ((i : Nat) : Int) < ((List.length x0.2.2.2.1 : Nat) : Int)] gamOK hT h (by kernel_rfl) ⟨(by refine ⟨?_, ?_⟩ <;> (first | omega | (simp only [lsA]; omega) | (simp <;> omega))), trivial⟩ fun a w h => then_normal (wp_seq ?_)
     rcases Bool.eq_false_or_eq_true (!(validP (x0.2.2.2.1.getD i (0, ([], []))) x0.2.1 x0.2.2.1)) with h5 | h5
     ·have hzh5 : (validP (x0.2.2.2.1.getD i (0, ([], []))) x0.2.1 x0.2.2.1) = false := notT h5
      refine at_regq [{}, {}, {}, {}, {}, {}, { hint := some (aB true) }] { ts := [1, 2, 3, 30, 31, 32, 44, 45, 46, 47, 48, 51, 52, 53, 54, 55], os := [1, 2, 3] } [Q_impl_IsValidPacket (x0.2.2.2.1.getD i (0, ([], []))) x0.2.1 x0.2.2.1, (AV.p (.c (.v (.bool (!(validP (x0.2.2.2.1.getD i (0, ([], []))) x0.2.1 x0.2.2.1))))) = AV.p (.c (.v (.bool true))))] gamOK hT h (by kernel_rfl) ⟨(by exact (Sh.fit_getD hf0.2.2.2.1 i)), hint_bool (h5), trivial⟩ fun a w h => then_normal ?_
      refine at_test true h (by kernel_rfl) (fun hh => ?_) (fun hh => nomatch hh)
      refine wp_seq ?_
      refine at_regq [] { ts := [1, 2, 3, 30, 31, 32, 44, 45, 46, 47, 48, 51, 52, 53, 54], os := [1, 2, 3] } [] gamOK hT h (by kernel_rfl) trivial fun a w h => then_normal (wp_ret (in_ret (then_ret ?_)))
      have hs6 : (allN (recB x0) (List.length x0.2.2.2.1)) = false := by exact allN_at (i := i) (by omega) (by exact recB_f (by omega) (by first | (left; assumption) | (right; left; omega) | (right; right; assumption)))
      refine then_ret (in_ret (then_ret ?_))
      exact at_return (false, ()) [] h (by kernel_rfl) trivial (congrArg (fun z => (z, ())) (show (false) = validR x0 from by (first | (rw [← validR_y (by assumption) (by omega) (by assumption)]; symm; assumption) | exact validR_n (by first | (left; assumption) | (right; left; omega) | (right; right; left; assumption) | (right; right; right; assumption) | (right; right; right; exact ok_rec (by assumption))))))
     ·have hzh5 : (validP (x0.2.2.2.1.getD i (0, ([], []))) x0.2.1 x0.2.2.1) = true := notF h5
      have hvh5 := validP_n (notF h5)
      by_cases h7 : (x0.2.2.2.1.getD i (0, ([], []))).1 = x0.1
      ·refine at_regq [{}, {}, {}, {}, {}, {}, { hint := some (aB false) }, {}, {}, {}, {}, {}, { hint := some (aB false) }, {}, {}, {}, {}, { ids := [5] }] { ts := [1, 2, 3, 30, 31, 32, 44, 45, 46, 47, 48, 51, 52, 53, 54, 55], os := [1, 3, 4, 5] } [Q_impl_IsValidPacket (x0.2.2.2.1.getD i (0, ([], []))) x0.2.1 x0.2.2.1, (AV.p (.c (.v (.bool (!(validP (x0.2.2.2.1.getD i (0, ([], []))) x0.2.1 x0.2.2.1))))) = AV.p (.c (.v (.bool false)))), (AV.p (.c (.v (.bool (!decide ((x0.2.2.2.1.getD i (0, ([], []))).1 = x0.1))))) = AV.p (.c (.v (.bool false)))), Q__P_impl_Basis_insert (x0.2.1, (LA.insTo (cofs x0.2.2.2.1) i)) (x0.2.2.2.1.getD i (0, ([], []))).2.1] gamOK hT h (by kernel_rfl) ⟨(by exact (Sh.fit_getD hf0.2.2.2.1 i)), hint_bool (h5), hint_bool (ndT h7), (by (have hpv := validP_t (p := (x0.2.2.2.1.getD i (0, ([], [])))) (by assumption); have hrw : LA.VokB x0.2.1.toNat (x0.2.2.2.1.getD i (0, ([], []))).2.1 := ⟨by have := hpv.2.1; omega, (validV_t hpv.2.2.2.1).2.1⟩; exact ⟨basP_fit hbP, fitV hrw (by omega), hbP, hrw⟩)), trivial⟩ fun a w h => then_normal ?_
       refine at_test (!(insD (x0.2.1, (LA.insTo (cofs x0.2.2.2.1) i)) (x0.2.2.2.1.getD i (0, ([], []))).2.1)) h (by kernel_rfl) (fun h8 => ?_) (fun h8 => ?_)
       ·replace h8 : (insD (x0.2.1, (LA.insTo (cofs x0.2.2.2.1) i)) (x0.2.2.2.1.getD i (0, ([], []))).2.1) = false := notT h8
        refine wp_seq ?_
        refine at_regq [] { ts := [1, 2, 3, 30, 31, 32, 44, 45, 46, 47, 48, 51, 52, 53, 54], os := [1, 3, 4, 5] } [] gamOK hT h (by kernel_rfl) trivial fun a w h => then_normal (wp_ret (in_ret (then_ret ?_)))
        have hs9 : (allN (recB x0) (List.length x0.2.2.2.1)) = false := by exact allN_at (i := i) (by omega) (by exact recB_f (by omega) (by first | (left; assumption) | (right; left; omega) | (right; right; assumption)))
        refine then_ret (in_ret (then_ret ?_))
        exact at_return (false, ()) [] h (by kernel_rfl) trivial (congrArg (fun z => (z, ())) (show (false) = validR x0 from by (first | (rw [← validR_y (by assumption) (by omega) (by assumption)]; symm; assumption) | exact validR_n (by first | (left; assumption) | (right; left; omega) | (right; right; left; assumption) | (right; right; right; assumption) | (right; right; right; exact ok_rec (by assumption))))))
       ·replace h8 : (insD (x0.2.1, (LA.insTo (cofs x0.2.2.2.1) i)) (x0.2.2.2.1.getD i (0, ([], []))).2.1) = true := notF h8
        refine wp_skip (in_normal (then_normal ?_))
        refine at_regq [{ nw := true }] { ts := [1, 2, 3, 30, 31, 32, 44, 45, 46, 47, 48, 51, 52, 53, 54], os := [1, 3, 4, 5] } [I64 (((i : Nat) : Int) + 1)] gamOK hT h (by kernel_rfl) ⟨⟨by first | omega | (simp only [lsA]; omega) | (simp <;> omega), by first | omega | (simp only [lsA]; omega) | (simp <;> omega)⟩, trivial⟩ fun a w h => ?_
        replace h := at_out (σ' := ⟨[(1, aP 1 0), (2, aB false), (3, aP 3 0), (30, aF s49 x0.2.2.2.1), (31, aI ((List.length x0.2.2.2.1 : Nat) : Int)), (32, aI (((i : Nat) : Int) + 1))], [(1, oX 47 [cI x0.1, cI x0.2.1, cI x0.2.2.1, .ro s49 x0.2.2.2.1, cI x0.2.2.2.2]), (2, oR s22 (insU (x0.2.1, (LA.insTo (cofs x0.2.2.2.1) i)) (x0.2.2.2.1.getD i (0, ([], []))).2.1).2), (3, oX 127 [cI (insU (x0.2.1, (LA.insTo (cofs x0.2.2.2.1) i)) (x0.2.2.2.1.getD i (0, ([], []))).2.1).1, .sl 2])]⟩) { ts := [1, 2, 3, 30, 31, 32], os := [1, 5, 3], rn := [(5, 2)] } h (by kernel_rfl)
        exact ⟨i + 1, at_eq h (st_congr3 (fun (d0 : Int) (d1 : List (List Int)) (d2 : Int) => (⟨[(1, aP 1 0), (2, aB false), (3, aP 3 0), (30, aF s49 x0.2.2.2.1), (31, aI ((List.length x0.2.2.2.1 : Nat) : Int)), (32, aI d2)], [(1, oX 47 [cI x0.1, cI x0.2.1, cI x0.2.2.1, .ro s49 x0.2.2.2.1, cI x0.2.2.2.2]), (2, oR s22 d1), (3, oX 127 [cI d0, .sl 2])]⟩ : St)) (show ((insU (x0.2.1, (LA.insTo (cofs x0.2.2.2.1) i)) (x0.2.2.2.1.getD i (0, ([], []))).2.1).1 : Int) = x0.2.1 from by first | with_reducible rfl | (rfl) | rfl) (show ((insU (x0.2.1, (LA.insTo (cofs x0.2.2.2.1) i)) (x0.2.2.2.1.getD i (0, ([], []))).2.1).2 : List (List Int)) = (LA.insTo (cofs x0.2.2.2.1) (i + 1)) from by first | with_reducible rfl | (exact insTo_next (by omega)) | rfl) (show (((i : Nat) : Int) + 1 : Int) = (((i + 1) : Nat) : Int) from by first | with_reducible rfl | (omega) | rfl)), (by exact ⟨by omega, allN_succ hok0.2 (by exact recB_t (by omega) (by assumption) (by omega) (by assumption))⟩), (by omega)⟩
      ·refine at_regq [{}, {}, {}, {}, {}, {}, { hint := some (aB false) }, {}, {}, {}, {}, {}, { hint := some (aB true) }] { ts := [1, 2, 3, 30, 31, 32, 44, 45, 46, 47, 48, 51, 52, 53, 54, 55], os := [1, 2, 3, 4] } [Q_impl_IsValidPacket (x0.2.2.2.1.getD i (0, ([], []))) x0.2.1 x0.2.2.1, (AV.p (.c (.v (.bool (!(validP (x0.2.2.2.1.getD i (0, ([], []))) x0.2.1 x0.2.2.1))))) = AV.p (.c (.v (.bool false)))), (AV.p (.c (.v (.bool (!decide ((x0.2.2.2.1.getD i (0, ([], []))).1 = x0.1))))) = AV.p (.c (.v (.bool true))))] gamOK hT h (by kernel_rfl) ⟨(by exact (Sh.fit_getD hf0.2.2.2.1 i)), hint_bool (h5), hint_bool (ndF h7), trivial⟩ fun a w h => then_normal ?_
       refine at_test true h (by kernel_rfl) (fun hh => ?_) (fun hh => nomatch hh)
       refine wp_seq ?_
       refine at_regq [] { ts := [1, 2, 3, 30, 31, 32, 44, 45, 46, 47, 48, 51, 52, 53, 54], os := [1, 2, 3, 4] } [] gamOK hT h (by kernel_rfl) trivial fun a w h => then_normal (wp_ret (in_ret (then_ret ?_)))
       have hs10 : (allN (recB x0) (List.length x0.2.2.2.1)) = false := by exact allN_at (i := i) (by omega) (by exact recB_f (by omega) (by first | (left; assumption) | (right; left; omega) | (right; right; assumption)))
       refine then_ret (in_ret (then_ret ?_))
       exact at_return (false, ()) [] h (by kernel_rfl) trivial (congrArg (fun z => (z, ())) (show (false) = validR x0 from by (first | (rw [← validR_y (by assumption) (by omega) (by assumption)]; symm; assumption) | exact validR_n (by first | (left; assumption) | (right; left; omega) | (right; right; left; assumption) | (right; right; right; assumption) | (right; right; right; exact ok_rec (by assumption))))))
    ·replace h4 : ¬ (((i : Nat) : Int) < ((List.length x0.2.2.2.1 : Nat) : Int)) := of_decide_eq_false h4
     refine wp_exit (then_exit ?_)
     have hs11 : (allN (recB x0) (List.length x0.2.2.2.1)) = true := by exact allN_eq (by omega) hok0.1 hok0.2
     refine then_exit (in_hit (then_normal (wp_seq ?_)))
     refine at_regq [] { ts := [2], os := [] } [] gamOK hT h (by kernel_rfl) trivial fun a w h => then_normal (wp_ret ?_)
     exact at_return (true, ()) [] h (by kernel_rfl) trivial (congrArg (fun z => (z, ())) (show (true) = validR x0 from by (first | (rw [← validR_y (by assumption) (by omega) (by assumption)]; symm; assumption) | exact validR_n (by first | (left; assumption) | (right; left; omega) | (right; right; left; assumption) | (right; right; right; assumption) | (right; right; right; exact ok_rec (by assumption))))))

def D_spec_Rank := (fun (m : List (List Int)) => ((List.length (rowRed m) : Nat) : Int))
abbrev Q_spec_Rank := (fun (x0 : (List (List Int))) => Sh.fit s37 x0)
def S_spec_Rank : Sum := { fid := 113, dom := [s37], cod := [(.int 3)], dp := true, fz := false, pre := fun x => Q_spec_Rank x.1, g := fun x => ((D_spec_Rank x.1), ()) }
def S_spec_Rank_tab : List (Nat × Sum) := [(156, S_spec_RowReduce)]
theorem S_spec_Rank_ok : FnOK Tryz.prog 113 S_spec_Rank := by
 refine at_enter 6 (fun x => ⟨[(0, aF s22 x.1)], []⟩) Tryz.func113 rfl (by kernel_rfl) (fun x => rfl) ?_
 rintro w0 Z0 ⟨x0, u⟩ a w
 revert x0
 intro (x0 : (List (List Int))) hpre hlens h
 replace hpre : Q_spec_Rank x0 := hpre
 have hT : TabOK Tryz.prog S_spec_Rank_tab := (.cons S_spec_RowReduce_ok .nil)
 have hf0 : Sh.fit s37 x0 := hpre
 have hn0_1 : List.length x0 ≤ 1073741824 := hf0.1
 refine wp_seq ?_
 refine at_regq [] { ts := [0, 2], os := [] } [] gamOK hT h (by kernel_rfl) trivial fun a w h => then_normal (wp_seq ?_)
 refine at_regq [{}, { ids := [1] }] { ts := [2], os := [] } [Q_spec_RowReduce x0] gamOK hT h (by kernel_rfl) ⟨(by exact hf0), trivial⟩ fun a w h => then_normal (wp_ret ?_)
 exact at_return (((List.length (rowRed x0) : Nat) : Int), ()) [] h (by kernel_rfl) trivial (congrArg (fun z => (z, ())) (show (((List.length (rowRed x0) : Nat) : Int)) = D_spec_Rank x0 from by unfold D_spec_Rank; rfl))

abbrev Q_spec_IsValidRecoder := (fun (x0 : T47) => Sh.fit s47 x0)
def S_spec_IsValidRecoder : Sum := { fid := 57, dom := [s47], cod := [(.bool 4)], dp := true, fz := false, pre := fun x => Q_spec_IsValidRecoder x.1, g := fun x => ((validR x.1), ()) }
def S_spec_IsValidRecoder_tab : List (Nat × Sum) := [(111, S_spec_l14Range), (90, S_spec_l1In), (112, S_spec_IsValidPacket), (113, S_spec_Rank)]
theorem S_spec_IsValidRecoder_ok : FnOK Tryz.prog 57 S_spec_IsValidRecoder := by
 refine at_enter 69 (fun x => ⟨[(0, aG [cI x.1.1, cI x.1.2.1, cI x.1.2.2.1, .ro s49 x.1.2.2.2.1, cI x.1.2.2.2.2])], []⟩) Tryz.func57 rfl (by kernel_rfl) (fun x => rfl) ?_
 rintro w0 Z0 ⟨x0, u⟩ a w
 revert x0
 intro (x0 : T47) hpre hlens h
 replace hpre : Q_spec_IsValidRecoder x0 := hpre
 have hT : TabOK Tryz.prog S_spec_IsValidRecoder_tab := (.cons S_spec_l14Range_ok (.cons S_spec_l1In_ok (.cons S_spec_IsValidPacket_ok (.cons S_spec_Rank_ok .nil))))
 have hf0 : Sh.fit s47 x0 := hpre
 have hn0_1 : List.length x0.2.2.2.1 ≤ 1073741824 := hf0.2.2.2.1.1
 refine wp_seq ?_
 refine at_regq [{ ids := [1] }] { ts := [1, 2], os := [1] } [] gamOK hT h (by kernel_rfl) trivial fun a w h => then_normal (wp_seq (wp_seq ?_))
 rcases Bool.eq_false_or_eq_true (!(isFmt x0.1 x0.2.1 x0.2.2.1)) with h1 | h1
 ·have hzh1 : (isFmt x0.1 x0.2.1 x0.2.2.1) = false := notT h1
  refine at_regq [{}, {}, {}, {}, {}, {}, {}, { hint := some (aB true) }] { ts := [1, 2, 24], os := [1] } [True, (AV.p (.c (.v (.bool (!(isFmt x0.1 x0.2.1 x0.2.2.1))))) = AV.p (.c (.v (.bool true))))] gamOK hT h (by kernel_rfl) ⟨trivial, hint_bool (h1), trivial⟩ fun a w h => then_normal ?_
  refine at_test true h (by kernel_rfl) (fun hh => ?_) (fun hh => nomatch hh)
  refine wp_seq ?_
  refine at_regq [] { ts := [1, 2], os := [1] } [] gamOK hT h (by kernel_rfl) trivial fun a w h => then_normal (wp_ret (then_ret ?_))
  exact at_return (false, ()) [] h (by kernel_rfl) trivial (congrArg (fun z => (z, ())) (show (false) = validR x0 from by (first | (rw [← validR_y (by assumption) (by omega) (by assumption)]; exact rank_cofs (by assumption) (by omega)) | exact validR_n (by first | (left; assumption) | (right; left; omega) | (right; right; left; assumption) | (right; right; right; assumption) | (right; right; right; exact ok_rec (by assumption))))))
 ·have hzh1 : (isFmt x0.1 x0.2.1 x0.2.2.1) = true := notF h1
  have hvh1 := isFmt_t (notF h1)
  by_cases h2 : ((List.length x0.2.2.2.1 : Nat) : Int) > 8
  ·refine at_regq [{}, {}, {}, {}, {}, {}, {}, { hint := some (aB false) }, {}, {}, {}, {}, { hint := some (aB true) }] { ts := [1, 2, 24], os := [1] } [True, (AV.p (.c (.v (.bool (!(isFmt x0.1 x0.2.1 x0.2.2.1))))) = AV.p (.c (.v (.bool false)))), (AV.p (.c (.v (.bool (decide (((List.length x0.2.2.2.1 : Nat) : Int) > 8))))) = AV.p (.c (.v (.bool true))))] gamOK hT h (by kernel_rfl) ⟨trivial, hint_bool (h1), hint_bool (decide_eq_true h2), trivial⟩ fun a w h => then_normal ?_
   refine at_test true h (by kernel_rfl) (fun hh => ?_) (fun hh => nomatch hh)
   refine wp_seq ?_
   refine at_regq [] { ts := [1, 2], os := [1] } [] gamOK hT h (by kernel_rfl) trivial fun a w h => then_normal (wp_ret (then_ret ?_))
   exact at_return (false, ()) [] h (by kernel_rfl) trivial (congrArg (fun z => (z, ())) (show (false) = validR x0 from by (first | (rw [← validR_y (by assumption) (by omega) (by assumption)]; exact rank_cofs (by assumption) (by omega)) | exact validR_n (by first | (left; assumption) | (right; left; omega) | (right; right; left; assumption) | (right; right; right; assumption) | (right; right; right; exact ok_rec (by assumption))))))
  ·refine at_regq [{}, {}, {}, {}, {}, {}, {}, { hint := some (aB false) }, {}, {}, {}, {}, { hint := some (aB false) }] { ts := [1, 2, 24], os := [1] } [True, (AV.p (.c (.v (.bool (!(isFmt x0.1 x0.2.1 x0.2.2.1))))) = AV.p (.c (.v (.bool false)))), (AV.p (.c (.v (.bool (decide (((List.length x0.2.2.2.1 : Nat) : Int) > 8))))) = AV.p (.c (.v (.bool false)))), True] gamOK hT h (by kernel_rfl) ⟨trivial, hint_bool (h1), hint_bool (decide_eq_false h2), trivial, trivial⟩ fun a w h => then_normal ?_
   refine at_test (!(inR x0.2.2.2.2 0 1000000000000)) h (by kernel_rfl) (fun h3 => ?_) (fun h3 => ?_)
   ·replace h3 : (inR x0.2.2.2.2 0 1000000000000) = false := notT h3
    have hvh3 := inR_f h3
    refine wp_seq ?_
    refine at_regq [] { ts := [1, 2], os := [1] } [] gamOK hT h (by kernel_rfl) trivial fun a w h => then_normal (wp_ret (then_ret ?_))
    exact at_return (false, ()) [] h (by kernel_rfl) trivial (congrArg (fun z => (z, ())) (show (false) = validR x0 from by (first | (rw [← validR_y (by assumption) (by omega) (by assumption)]; exact rank_cofs (by assumption) (by omega)) | exact validR_n (by first | (left; assumption) | (right; left; omega) | (right; right; left; assumption) | (right; right; right; assumption) | (right; right; right; exact ok_rec (by assumption))))))
   ·replace h3 : (inR x0.2.2.2.2 0 1000000000000) = true := notF h3
    have hvh3 := inR_t h3
    refine wp_skip (then_normal (wp_seq ?_))
    refine at_regq [{ ids := [2], dp := false }] { ts := [1, 2, 3], os := [1, 2] } [] gamOK hT h (by kernel_rfl) trivial fun a w h => then_normal (wp_seq (wp_seq ?_))
    refine at_regq [] { ts := [1, 2, 3, 4], os := [1, 2] } [] gamOK hT h (by kernel_rfl) trivial fun a w h => then_normal (wp_block ?_)
    replace h := at_out (σ' := ⟨[(1, aP 1 0), (2, aB false), (3, aS 2), (4, aI 0)], [(1, oX 47 [cI x0.1, cI x0.2.1, cI x0.2.2.1, .ro s49 x0.2.2.2.1, cI x0.2.2.2.2]), (2, oF s22 ([] : List (List Int)))]⟩) { ts := [1, 2, 3, 4], os := [1, 2] } h (by kernel_rfl)
    refine at_loop (fun i : Nat => (⟨[(1, aP 1 0), (2, aB false), (3, aS 2), (4, aI ((i : Nat) : Int))], [(1, oX 47 [cI x0.1, cI x0.2.1, cI x0.2.2.1, .ro s49 x0.2.2.2.1, cI x0.2.2.2.2]), (2, oF s22 (cofs (List.take i x0.2.2.2.1)))]⟩ : St)) (fun i => (i ≤ (List.length x0.2.2.2.1) ∧ allN (fun j => okPkt x0 (x0.2.2.2.1.getD j (0, ([], [])))) i = true)) (fun i => (List.length x0.2.2.2.1) - i) (0) h (st_congr2 (fun (d0 : List (List Int)) (d1 : Int) => (⟨[(1, aP 1 0), (2, aB false), (3, aS 2), (4, aI d1)], [(1, oX 47 [cI x0.1, cI x0.2.1, cI x0.2.2.1, .ro s49 x0.2.2.2.1, cI x0.2.2.2.2]), (2, oF s22 d0)]⟩ : St)) (show (([] : List (List Int)) : List (List Int)) = (cofs (List.take (0) x0.2.2.2.1)) from by first | with_reducible rfl | (rfl) | rfl) (show (0 : Int) = (((0) : Nat) : Int) from by first | with_reducible rfl | (rfl) | rfl)) (by exact ⟨Nat.zero_le _, rfl⟩) ?_
    intro i a w hok0 h
    have hcl := cofs_len (List.take i x0.2.2.2.1)
    have hlt := len_take_le (xs := x0.2.2.2.1) i
    refine wp_seq (wp_seq ?_)
    refine at_regq [] { ts := [1, 2, 3, 4, 30], os := [1, 2] } [] gamOK hT h (by kernel_rfl) trivial fun a w h => then_normal ?_
    refine at_test (decide (((i : Nat) : Int) < ((List.length x0.2.2.2.1 : Nat) : Int))) h (by kernel_rfl) (fun h4 => ?_) (fun h4 => ?_)
    ·replace h4 : ((i : Nat) : Int) < ((List.length x0.2.2.2.1 : Nat) : Int) := of_decide_eq_true h4
     refine wp_skip (then_normal (wp_seq (wp_block (wp_seq (wp_seq ?_)))))
     rcases Bool.eq_false_or_eq_true (!(validP (x0.2.2.2.1.getD i (0, ([], []))) x0.2.1 x0.2.2.1)) with h5 | h5
     ·have hzh5 : (validP (x0.2.2.2.1.getD i (0, ([], []))) x0.2.1 x0.2.2.1) = false := notT h5
      refine at_anyq [{}, {}, {}, {}, {}, {}, {}, {}, {}, {}, { hint := some (aB true) }, {}, {}, {}, {}, {}, {}, {}, {}, {}, {}, {}] { ts := [1, 2, 3, 4, 45, 46, 47, 48, 49, 50, 51, 52, 53, 54], os := [1, 2] } [(0 : Int) ≤ ((i : Nat) : Int) ∧ ((i : Nat) : Int) < ((List.length x0.2.2.2.1 : Nat) : Int), Q_spec_IsValidPacket (x0.2.2.2.1.getD i (0, ([], []))) x0.2.1 x0.2.2.1, (AV.p (.c (.v (.bool (!(validP (x0.2.2.2.1.getD i (0, ([], []))) x0.2.1 x0.2.2.1))))) = AV.p (.c (.v (.bool true))))] gamOK hT mixed h (by kernel_rfl) ⟨(by refine ⟨?_, ?_⟩ <;> (first | omega | (simp only [lsA]; omega) | (simp <;> omega))), (by exact (Sh.fit_getD hf0.2.2.2.1 i)), hint_bool (h5), trivial⟩ fun a w h => then_normal ?_
      refine at_test true h (by kernel_rfl) (fun hh => ?_) (fun hh => nomatch hh)
      refine wp_seq ?_
      refine at_regq [] { ts := [1, 2, 3, 4, 45, 46, 47, 48, 49, 50, 51, 52, 53], os := [1, 2] } [] gamOK hT h (by kernel_rfl) trivial fun a w h => then_normal (wp_ret (then_ret (in_ret (then_ret ?_))))
      have hs6 : (allN (fun j => okPkt x0 (x0.2.2.2.1.getD j (0, ([], [])))) (List.length x0.2.2.2.1)) = false := by exact allN_at (i := i) (by omega) (by exact okPkt_f (by first | (left; assumption) | (right; omega)))
      refine then_ret (in_ret (then_ret ?_))
      exact at_return (false, ()) [] h (by kernel_rfl) trivial (congrArg (fun z => (z, ())) (show (false) = validR x0 from by (first | (rw [← validR_y (by assumption) (by omega) (by assumption)]; exact rank_cofs (by assumption) (by omega)) | exact validR_n (by first | (left; assumption) | (right; left; omega) | (right; right; left; assumption) | (right; right; right; assumption) | (right; right; right; exact ok_rec (by assumption))))))
     ·have hzh5 : (validP (x0.2.2.2.1.getD i (0, ([], []))) x0.2.1 x0.2.2.1) = true := notF h5
      have hvh5 := validP_n (notF h5)
      refine at_anyq [{}, {}, {}, {}, {}, {}, {}, {}, {}, {}, { hint := some (aB false) }, {}, {}, {}, {}, {}, {}, {}, {}, {}, {}, {}] { ts := [1, 2, 3, 4, 45, 46, 47, 48, 49, 50, 51, 52, 53, 54], os := [1, 2] } [(0 : Int) ≤ ((i : Nat) : Int) ∧ ((i : Nat) : Int) < ((List.length x0.2.2.2.1 : Nat) : Int), Q_spec_IsValidPacket (x0.2.2.2.1.getD i (0, ([], []))) x0.2.1 x0.2.2.1, (AV.p (.c (.v (.bool (!(validP (x0.2.2.2.1.getD i (0, ([], []))) x0.2.1 x0.2.2.1))))) = AV.p (.c (.v (.bool false)))), (0 : Int) ≤ ((i : Nat) : Int) ∧ ((i : Nat) : Int) < ((List.length x0.2.2.2.1 : Nat) : Int)] gamOK hT mixed h (by kernel_rfl) ⟨(by refine ⟨?_, ?_⟩ <;> (first | omega | (simp only [lsA]; omega) | (simp <;> omega))), (by exact (Sh.fit_getD hf0.2.2.2.1 i)), hint_bool (h5), (by refine ⟨?_, ?_⟩ <;> (first | omega | (simp only [lsA]; omega) | (simp <;> omega))), trivial⟩ fun a w h => then_normal ?_
      refine at_test (!decide ((x0.2.2.2.1.getD i (0, ([], []))).1 = x0.1)) h (by kernel_rfl) (fun h7 => ?_) (fun h7 => ?_)
      ·replace h7 : ¬ ((x0.2.2.2.1.getD i (0, ([], []))).1 = x0.1) := of_decide_eq_false (notT h7)
       refine wp_seq ?_
       refine at_regq [] { ts := [1, 2, 3, 4, 45, 46, 47, 48, 49, 50, 51, 52, 53], os := [1, 2] } [] gamOK hT h (by kernel_rfl) trivial fun a w h => then_normal (wp_ret (then_ret (in_ret (then_ret ?_))))
       have hs8 : (allN (fun j => okPkt x0 (x0.2.2.2.1.getD j (0, ([], [])))) (List.length x0.2.2.2.1)) = false := by exact allN_at (i := i) (by omega) (by exact okPkt_f (by first | (left; assumption) | (right; omega)))
       refine then_ret (in_ret (then_ret ?_))
       exact at_return (false, ()) [] h (by kernel_rfl) trivial (congrArg (fun z => (z, ())) (show (false) = validR x0 from by (first | (rw [← validR_y (by assumption) (by omega) (by assumption)]; exact rank_cofs (by assumption) (by omega)) | exact validR_n (by first | (left; assumption) | (right; left; omega) | (right; right; left; assumption) | (right; right; right; assumption) | (right; right; right; exact ok_rec (by assumption))))))
      ·replace h7 : (x0.2.2.2.1.getD i (0, ([], []))).1 = x0.1 := of_decide_eq_true (notF h7)
       refine wp_skip (then_normal ?_)
       refine at_regq [{}, {}, {}, {}, {}, {}, {}, { ids := [3], dp := false }, { ids := [4] }] { ts := [1, 2, 3, 4, 45, 46, 47, 48, 49, 50, 51, 52, 53], os := [1, 4] } [(0 : Int) ≤ ((i : Nat) : Int) ∧ ((i : Nat) : Int) < ((List.length x0.2.2.2.1 : Nat) : Int), (List.length (cofs (List.take i x0.2.2.2.1)) + List.length ([(x0.2.2.2.1.getD i (0, ([], []))).2.1])) * 24 ≤ 140737488355328] gamOK hT h (by kernel_rfl) ⟨(by refine ⟨?_, ?_⟩ <;> (first | omega | (simp only [lsA]; omega) | (simp <;> omega))), (by first | omega | (simp only [lsA]; omega) | (simp <;> omega)), trivial⟩ fun a w h => in_normal (then_normal ?_)
       refine at_regq [{}, { nw := true }] { ts := [1, 2, 3, 4, 45, 46, 47, 48, 49, 50, 51, 52, 53], os := [1, 4] } [I64 (((i : Nat) : Int) + 1)] gamOK hT h (by kernel_rfl) ⟨⟨by first | omega | (simp only [lsA]; omega) | (simp <;> omega), by first | omega | (simp only [lsA]; omega) | (simp <;> omega)⟩, trivial⟩ fun a w h => ?_
       replace h := at_out (σ' := ⟨[(1, aP 1 0), (2, aB false), (3, aS 2), (4, aI (((i : Nat) : Int) + 1))], [(1, oX 47 [cI x0.1, cI x0.2.1, cI x0.2.2.1, .ro s49 x0.2.2.2.1, cI x0.2.2.2.2]), (2, oF s22 ((cofs (List.take i x0.2.2.2.1)) ++ ([(x0.2.2.2.1.getD i (0, ([], []))).2.1])))]⟩) { ts := [1, 2, 3, 4], os := [1, 4], rn := [(4, 2)] } h (by kernel_rfl)
       exact ⟨i + 1, at_eq h (st_congr2 (fun (d0 : List (List Int)) (d1 : Int) => (⟨[(1, aP 1 0), (2, aB false), (3, aS 2), (4, aI d1)], [(1, oX 47 [cI x0.1, cI x0.2.1, cI x0.2.2.1, .ro s49 x0.2.2.2.1, cI x0.2.2.2.2]), (2, oF s22 d0)]⟩ : St)) (show (((cofs (List.take i x0.2.2.2.1)) ++ ([(x0.2.2.2.1.getD i (0, ([], []))).2.1])) : List (List Int)) = (cofs (List.take (i + 1) x0.2.2.2.1)) from by first | with_reducible rfl | ((rw [take_snoc (z := (0, ([], []))) (by omega), cofs_snoc]; done)) | rfl) (show (((i : Nat) : Int) + 1 : Int) = (((i + 1) : Nat) : Int) from by first | with_reducible rfl | (omega) | rfl)), (by exact ⟨by omega, allN_succ hok0.2 (by exact okPkt_t (by assumption) (by omega))⟩), (by omega)⟩
    ·replace h4 : ¬ (((i : Nat) : Int) < ((List.length x0.2.2.2.1 : Nat) : Int)) := of_decide_eq_false h4
     refine wp_exit (then_exit ?_)
     have hs9 : (allN (fun j => okPkt x0 (x0.2.2.2.1.getD j (0, ([], [])))) (List.length x0.2.2.2.1)) = true := by exact allN_eq (by omega) hok0.1 hok0.2
     replace h := at_out (σ' := ⟨[(2, aB false), (3, aS 2)], [(2, oF s22 (cofs (List.take i x0.2.2.2.1)))]⟩) { ts := [2, 3], os := [2] } h (by kernel_rfl)
     replace h := at_eq (σ' := ⟨[(2, aB false), (3, aS 2)], [(2, oF s22 (cofs x0.2.2.2.1))]⟩) h (st_congr1 (fun (d0 : List (List Int)) => (⟨[(2, aB false), (3, aS 2)], [(2, oF s22 d0)]⟩ : St)) (show ((cofs (List.take i x0.2.2.2.1)) : List (List Int)) = (cofs x0.2.2.2.1) from by first | with_reducible rfl | (rw [take_all (by omega)]) | rfl))
     refine then_exit (in_hit (then_normal (wp_seq ?_)))
     refine at_regq [] { ts := [2], os := [] } [Q_spec_Rank (cofs x0.2.2.2.1)] gamOK hT h (by kernel_rfl) ⟨(by exact fit_cofs hf0.2.2.2.1), trivial⟩ fun a w h => then_normal (wp_ret ?_)
     exact at_return (decide ((D_spec_Rank (cofs x0.2.2.2.1)) = ((List.length (cofs x0.2.2.2.1) : Nat) : Int)), ()) [] h (by kernel_rfl) trivial (congrArg (fun z => (z, ())) (show (decide ((D_spec_Rank (cofs x0.2.2.2.1)) = ((List.length (cofs x0.2.2.2.1) : Nat) : Int))) = validR x0 from by (first | (rw [← validR_y (by assumption) (by omega) (by assumption)]; exact rank_cofs (by assumption) (by omega)) | exact validR_n (by first | (left; assumption) | (right; left; omega) | (right; right; left; assumption) | (right; right; right; assumption) | (right; right; right; exact ok_rec (by assumption))))))

def rndN (x0 : Int) (x1 : Int) (x2 : Int) : Int := (if (inR x2 1 1000000000000) = true then (Int.tmod (Int.tmod ((keyed x0 ([x1, 71])) * (keyed x0 ([x1, 71]))) 2147483647) x2) else 0)
def S_impl_RandomNumber : Sum := { fid := 166, dom := [(.int 3), (.int 3), (.int 3)], cod := [(.int 3)], dp := true, fz := false, pre := fun x => True, g := fun x => ((rndN x.1 x.2.1 x.2.2.1), ()) }
def S_impl_RandomNumber_tab : List (Nat × Sum) := [(101, S_impl_InRange), (167, S_impl_KeyedHash)]
theorem S_impl_RandomNumber_ok : FnOK Tryz.prog 166 S_impl_RandomNumber := by
 refine at_enter 21 (fun x => ⟨[(0, aI x.1), (1, aI x.2.1), (2, aI x.2.2.1)], []⟩) Tryz.func166 rfl (by kernel_rfl) (fun x => rfl) ?_
 rintro w0 Z0 ⟨x0, x1, x2, u⟩ a w
 revert x0 x1 x2
 intro (x0 : Int) (x1 : Int) (x2 : Int) hpre hlens h
 have hT : TabOK Tryz.prog S_impl_RandomNumber_tab := (.cons S_impl_InRange_ok (.cons S_impl_KeyedHash_ok .nil))
 have hkb := keyed_bd x0 ([x1, 71])
 refine wp_seq ?_
 refine at_regq [] { ts := [0, 1, 2, 6], os := [] } [] gamOK hT h (by kernel_rfl) trivial fun a w h => then_normal (wp_seq (wp_seq ?_))
 refine at_regq [] { ts := [0, 1, 2, 6, 10], os := [] } [True] gamOK hT h (by kernel_rfl) ⟨trivial, trivial⟩ fun a w h => then_normal ?_
 refine at_test (!(inR x2 1 1000000000000)) h (by kernel_rfl) (fun h1 => ?_) (fun h1 => ?_)
 ·replace h1 : (inR x2 1 1000000000000) = false := notT h1
  have hvh1 := inR_f h1
  refine wp_seq ?_
  refine at_regq [] { ts := [0, 1, 2, 6], os := [] } [] gamOK hT h (by kernel_rfl) trivial fun a w h => then_normal (wp_ret (then_ret ?_))
  exact at_return (0, ()) [] h (by kernel_rfl) trivial (congrArg (fun z => (z, ())) (show (0) = rndN x0 x1 x2 from by first | rfl | (unfold rndN; rw [if_neg (neT h1)])))
 ·replace h1 : (inR x2 1 1000000000000) = true := notF h1
  have hvh1 := inR_t h1
  refine wp_skip (then_normal (wp_seq ?_))
  refine at_regq [{}, {}, { ids := [1] }] { ts := [2, 6, 7], os := [] } [pKey x0 ([x1, 71])] gamOK hT h (by kernel_rfl) ⟨(by (show _ ≤ _; simp)), trivial⟩ fun a w h => then_normal (wp_seq ?_)
  refine at_regq [{}, {}, { nw := true }] { ts := [6], os := [] } [I64 ((keyed x0 ([x1, 71])) * (keyed x0 ([x1, 71]))), (2147483647 : Int) ≠ 0, (x2 : Int) ≠ 0] gamOK hT h (by kernel_rfl) ⟨⟨by (have hA0 := mul_f (keyed x0 ([x1, 71])) (keyed x0 ([x1, 71])); first | omega | (simp only [lsA]; omega) | (simp <;> omega)), by (have hA0 := mul_f (keyed x0 ([x1, 71])) (keyed x0 ([x1, 71])); first | omega | (simp only [lsA]; omega) | (simp <;> omega))⟩, (by first | omega | (simp only [lsA]; omega) | (simp <;> omega)), (by first | omega | (simp only [lsA]; omega) | (simp <;> omega)), trivial⟩ fun a w h => then_normal (wp_ret ?_)
  exact at_return ((Int.tmod (Int.tmod ((keyed x0 ([x1, 71])) * (keyed x0 ([x1, 71]))) 2147483647) x2), ()) [] h (by kernel_rfl) trivial (congrArg (fun z => (z, ())) (show ((Int.tmod (Int.tmod ((keyed x0 ([x1, 71])) * (keyed x0 ([x1, 71]))) 2147483647) x2)) = rndN x0 x1 x2 from by first | rfl | (unfold rndN; rw [if_pos h1])))
theorem rndN_el (s i : Int) : LA.El (rndN s i 1019) := by
 have hkb := keyed_bd s ([i, 71])
 have hm := mul_f (keyed s ([i, 71])) (keyed s ([i, 71]))
 have h1 := tmod_f (keyed s ([i, 71]) * keyed s ([i, 71])) 2147483647 (by decide)
 have h2 := tmod_f ((keyed s ([i, 71]) * keyed s ([i, 71])).tmod 2147483647) 1019 (by decide)
 unfold rndN LA.El
 rw [if_pos (show inR 1019 1 1000000000000 = true from rfl)]
 omega
def unitL (n : Nat) (k : Int) : List Int := (List.range n).map fun (j : Nat) => if (j : Int) = k then 1 else 0
theorem unitL_snoc (n : Nat) (k : Int) : unitL (n + 1) k = unitL n k ++ [if (n : Int) = k then 1 else 0] := by unfold unitL; rw [List.range_succ, List.map_append]; rfl
theorem unitL_len (n : Nat) (k : Int) : (unitL n k).length = n := by simp [unitL]
theorem unitL_set {n : Nat} {k : Int} (h0 : 0 ≤ k) (h : k < n) : List.set (List.replicate n (0 : Int)) k.toNat 1 = unitL n k := by
 apply List.ext_getElem
 ·simp [unitL]
 ·intro i h1 h2
  rw [List.getElem_set]
  simp only [unitL, List.getElem_map, List.getElem_range, List.getElem_replicate]
  by_cases e : k.toNat = i
  ·rw [if_pos e, if_pos (by omega)]
  ·rw [if_neg e, if_neg (by omega)]
def unitV (w i : Int) : List Int := if inR w 0 40 = true ∧ inR i 0 (w - 1) = true then unitL w.toNat i else []
theorem unitV_y {w i : Int} (h : inR w 0 40 = true) (h2 : inR i 0 (w - 1) = true) : unitL w.toNat i = unitV w i := (if_pos ⟨h, h2⟩).symm
theorem unitV_n {w i : Int} (h : inR w 0 40 = false ∨ inR i 0 (w - 1) = false) : [] = unitV w i := by
 unfold unitV; rw [if_neg]
 rintro ⟨h1, h2⟩
 rcases h with h | h
 ·rw [h1] at h; cases h
 ·rw [h2] at h; cases h
theorem unitV_len (w i : Int) : (unitV w i).length ≤ 40 := by
 unfold unitV; split
 ·rename_i h; rw [unitL_len]; have := inR_t h.1; omega
 ·exact Nat.zero_le _
theorem unitL_ok (n : Nat) (k : Int) : LA.VokB n (unitL n k) := ⟨unitL_len n k, fun x hx => by
 obtain ⟨j, _, rfl⟩ := List.mem_map.1 hx
 unfold LA.El; split <;> omega⟩
def rndL (s : Int) (n : Nat) : List Int := (List.range n).map fun (j : Nat) => rndN s (j : Int) 1019
theorem rndL_snoc (s : Int) (n : Nat) : rndL s (n + 1) = rndL s n ++ [rndN s (n : Int) 1019] := by unfold rndL; rw [List.range_succ, List.map_append]; rfl
theorem rndL_len (s : Int) (n : Nat) : (rndL s n).length = n := by simp [rndL]
theorem rndL_at {s : Int} {n i : Nat} (h : i < n) : (rndL s n).getD i 0 = rndN s (i : Int) 1019 := by rw [getD_of_lt (by rw [rndL_len]; exact h)]; simp [rndL]
theorem rndL_zero (s : Int) (n : Nat) : List.replicate n (0 : Int) = copyTo 0 (rndL s n) 0 := by
 have e := copyTo_zero (z := (0 : Int)) (xs := rndL s n)
 rw [rndL_len] at e; exact e
theorem rndL_set {s : Int} {n i : Nat} (h : i < n) : (copyTo 0 (rndL s n) i).set i (rndN s (i : Int) 1019) = copyTo 0 (rndL s n) (i + 1) := by
 rw [← rndL_at h]; exact copyTo_set (by rw [rndL_len]; exact h)
def rndS (s w : Int) : List Int := if inR w 1 40 = true then rndL s w.toNat else []
theorem rndS_len (s w : Int) : (rndS s w).length ≤ 40 := by
 unfold rndS; split
 ·rename_i h; rw [rndL_len]; have := inR_t h; omega
 ·exact Nat.zero_le _
theorem rndS_eq {s w : Int} {i : Nat} (h : i = 0 ∨ ((i : Int) ≤ w ∧ inR w 1 40 = true)) (he : ¬ (i : Int) < w ∨ inR w 1 40 = false) : rndL s i = rndS s w := by
 unfold rndS
 cases hi : inR w 1 40 with
 | true =>
  rw [if_pos rfl]
  have hw := inR_t hi
  rcases he with he | he
  ·congr 1; omega
  ·rw [hi] at he; cases he
 | false =>
  rw [if_neg (by decide)]
  rcases h with h | h
  ·subst h; rfl
  ·rw [hi] at h; cases h.2
def rndV (s w : Int) : List Int := if 0 < (rndS s w).length ∧ LA.leadS (rndS s w) < 0 then (rndS s w).set 0 1 else rndS s w
theorem rndV_1 {s w : Int} (h : inR w 1 40 = true) (h2 : LA.leadS (rndL s w.toNat) < 0) : (rndL s w.toNat).set 0 1 = rndV s w := by
 unfold rndV rndS; rw [if_pos h, if_pos ⟨by rw [rndL_len]; have := inR_t h; omega, h2⟩]
theorem rndV_2 {s w : Int} (h : inR w 1 40 = true) (h2 : ¬ LA.leadS (rndL s w.toNat) < 0) : rndL s w.toNat = rndV s w := by
 unfold rndV rndS; rw [if_pos h, if_neg (fun e => h2 e.2)]
theorem rndV_0 {s w : Int} (h : inR w 1 40 = false) : [] = rndV s w := by
 unfold rndV rndS; rw [h]; simp
theorem rndV_len (s w : Int) : (rndV s w).length ≤ 40 := by
 have := rndS_len s w
 unfold rndV; split
 ·rw [List.length_set]; exact this
 ·exact this
theorem rndV_at {s w : Int} (h : 1 ≤ w ∧ w ≤ 40) : (rndV s w).length = w.toNat := by
 have e : rndS s w = rndL s w.toNat := if_pos (inR_true h)
 unfold rndV; rw [e]; split
 ·rw [List.length_set, rndL_len]
 ·rw [rndL_len]
theorem rndV_ok {s w : Int} (h : 1 ≤ w ∧ w ≤ 40) : LA.VokB w.toNat (rndV s w) := by
 refine ⟨rndV_at h, fun x hx => ?_⟩
 have e : rndS s w = rndL s w.toNat := if_pos (inR_true h)
 have hl : ∀ y ∈ rndL s w.toNat, LA.El y := fun y hy => by
  obtain ⟨j, _, rfl⟩ := List.mem_map.1 hy
  exact rndN_el _ _
 unfold rndV at hx; rw [e] at hx
 split at hx
 ·rcases List.mem_or_eq_of_mem_set hx with hx | hx
  ·exact hl x hx
  ·rw [hx]; unfold LA.El; omega
 ·exact hl x hx
def combTo (vs : List (List Int)) (cs : List Int) : Nat → List Int
 | 0 => List.replicate (vs.getD 0 []).length 0
 | i + 1 => LA.addS (combTo vs cs i) (vs.getD i []) (cs.getD i 0)
def combS (vs : List (List Int)) (cs : List Int) : List Int := combTo vs cs vs.length
abbrev cvB (vs : List (List Int)) (v : List Int) : Bool := validV v && decide (v.length = (vs.getD 0 []).length)
theorem cvB_ok {vs : List (List Int)} {v : List Int} (h : cvB vs v = true) : LA.VokB (vs.getD 0 []).length v := by
 unfold cvB at h; rw [Bool.and_eq_true] at h
 exact ⟨of_decide_eq_true h.2, (validV_t h.1).2.1⟩
theorem cvB_40 {vs : List (List Int)} {v : List Int} (h : cvB vs v = true) : (vs.getD 0 []).length ≤ 40 := by
 unfold cvB at h; rw [Bool.and_eq_true] at h
 have h1 := of_decide_eq_true h.2
 have := (validV_t h.1).1; omega
theorem combTo_ok {n : Nat} {vs : List (List Int)} {cs : List Int} (hn : (vs.getD 0 []).length = n) (hc : ∀ j, 0 ≤ cs.getD j 0 ∧ cs.getD j 0 ≤ 1018) : ∀ i, (∀ j, j < i → LA.VokB n (vs.getD j [])) → LA.VokB n (combTo vs cs i)
 | 0, _ => by
  refine ⟨by simp only [combTo]; rw [List.length_replicate, hn], fun x hx => ?_⟩
  simp only [combTo] at hx
  rw [(List.mem_replicate.1 hx).2]; unfold LA.El; omega
 | i + 1, h => (LA.addS_ok (combTo_ok hn hc i (fun j hj => h j (by omega))) (h i (by omega)) (hc i)).1
def combV (vs : List (List Int)) (cs : List Int) : List Int := if (¬ vs.length = 0 ∧ vs.length = cs.length) ∧ validV cs = true ∧ vs.all (cvB vs) = true then combS vs cs else []
theorem combV_y {vs : List (List Int)} {cs : List Int} (h1 : ¬ vs.length = 0) (h2 : vs.length = cs.length) (h3 : validV cs = true) (h4 : vs.all (cvB vs) = true) : combS vs cs = combV vs cs := (if_pos ⟨⟨h1, h2⟩, h3, h4⟩).symm
theorem combV_n {vs : List (List Int)} {cs : List Int} (h : vs.length = 0 ∨ ¬ vs.length = cs.length ∨ validV cs = false ∨ vs.all (cvB vs) = false) : [] = combV vs cs := by
 unfold combV; rw [if_neg]
 rintro ⟨⟨h1, h2⟩, h3, h4⟩
 rcases h with h | h | h | h
 ·exact h1 h
 ·exact h h2
 ·rw [h3] at h; cases h
 ·rw [h4] at h; cases h
theorem combV_len (vs : List (List Int)) (cs : List Int) : (combV vs cs).length ≤ 40 := by
 unfold combV; split
 ·rename_i h
  have hp := List.all_eq_true.1 h.2.2
  have h0 := hp _ (getD_mem (z := []) (show 0 < vs.length by have := h.1.1; omega))
  have := (combTo_ok (n := (vs.getD 0 []).length) (cs := cs) rfl (validV_t h.2.1).2.2 vs.length (fun j hj => cvB_ok (hp _ (getD_mem hj)))).1
  have := cvB_40 h0
  unfold combS; omega
 ·exact Nat.zero_le _
theorem combV_pos {vs : List (List Int)} {cs : List Int} (h : ¬ (combV vs cs).length = 0) : 0 < vs.length := by
 rcases Nat.eq_zero_or_pos vs.length with h0 | h0
 ·rw [← combV_n (.inl h0)] at h; exact absurd rfl h
 ·exact h0
def combP (vs : List (List Int)) (cs : List Int) : Prop := (0 < vs.length ∧ vs.length ≤ cs.length ∧ (vs.getD 0 []).length ≤ 40) ∧ (∀ j, j < vs.length → LA.VokB (vs.getD 0 []).length (vs.getD j [])) ∧ ∀ j, 0 ≤ cs.getD j 0 ∧ cs.getD j 0 ≤ 1018
def pays (ps : List T49) : List (List Int) := ps.map fun p => p.2.2
theorem pays_len (ps : List T49) : (pays ps).length = ps.length := by simp [pays]
theorem pays_snoc (ps : List T49) (p : T49) : pays (ps ++ [p]) = pays ps ++ [p.2.2] := by simp [pays]
theorem fit_pays {ps : List T49} (h : Sh.fit s45 ps) : Sh.fit s37 (pays ps) := ⟨by rw [pays_len]; exact h.1, fun v hv => by
 obtain ⟨p, hp, rfl⟩ := List.mem_map.1 hv
 exact (h.2 p hp).2.2⟩
def genB0 (ps : List T49) (p : T49) : Bool := decide (p.1 = (ps.getD 0 (0, ([], []))).1)
def comP (ps : List T49) (cs : List Int) : T49 × Bool := if ps.all (fun p => decide (p.1 = (ps.getD 0 (0, ([], []))).1)) = true ∧ ¬ (combV (cofs ps) cs).length = 0 ∧ ¬ (combV (pays ps) cs).length = 0 then (((ps.getD 0 (0, ([], []))).1, combV (cofs ps) cs, combV (pays ps) cs), true) else ((0, [], []), false)
theorem comP_y {ps : List T49} {cs : List Int} (h1 : ps.all (fun p => decide (p.1 = (ps.getD 0 (0, ([], []))).1)) = true) (h2 : ¬ (combV (cofs ps) cs).length = 0) (h3 : ¬ (combV (pays ps) cs).length = 0) : (((ps.getD 0 (0, ([], []))).1, combV (cofs ps) cs, combV (pays ps) cs), true) = comP ps cs := (if_pos ⟨h1, h2, h3⟩).symm
theorem comP_n {ps : List T49} {cs : List Int} (h : ps.all (fun p => decide (p.1 = (ps.getD 0 (0, ([], []))).1)) = false ∨ (combV (cofs ps) cs).length = 0 ∨ (combV (pays ps) cs).length = 0) : ((0, [], []), false) = comP ps cs := by
 unfold comP; rw [if_neg]
 rintro ⟨h1, h2, h3⟩
 rcases h with h | h | h
 ·rw [h1] at h; cases h
 ·exact h2 h
 ·exact h3 h
theorem comP_sz (ps : List T49) (cs : List Int) : Sh.sz s49 (comP ps cs).1 ≤ 80 := by
 unfold comP; split
 ·show 0 + (Sh.sz s22 _ + Sh.sz s22 _) ≤ 80
  rw [sz_flat (by rfl), sz_flat (by rfl)]
  have := combV_len (cofs ps) cs; have := combV_len (pays ps) cs
  dsimp only; omega
 ·exact Nat.zero_le _
def recNo (r : T47) : Bool := decide (List.length r.2.2.2.1 = 0) || decide (r.2.2.2.2 = 1000000000000)
def recD (r : T47) (s : Int) : T49 × Bool := if recNo r = true then ((0, [], []), false) else comP r.2.2.2.1 (rndV (keyed s ([r.1, r.2.2.2.2])) ((List.length r.2.2.2.1 : Nat) : Int))
def recU (r : T47) (s : Int) : T47 := if recNo r = true then r else (r.1, r.2.1, r.2.2.1, r.2.2.2.1, r.2.2.2.2 + 1)
def recodeR (r : T47) (s : Int) : T47 × T49 × Bool := if validR r = true then (recU r s, recD r s) else (r, (0, [], []), false)
theorem recNo_t {r : T47} (h : List.length r.2.2.2.1 = 0 ∨ r.2.2.2.2 = 1000000000000) : recNo r = true := by unfold recNo; rw [Bool.or_eq_true, decide_eq_true_iff, decide_eq_true_iff]; exact h
theorem recNo_f {r : T47} (h1 : ¬ List.length r.2.2.2.1 = 0) (h2 : ¬ r.2.2.2.2 = 1000000000000) : recNo r = false := by unfold recNo; rw [decide_eq_false h1, decide_eq_false h2]; rfl
theorem recU_y {r : T47} {s : Int} (h : recNo r = true) : r = recU r s := (if_pos h).symm
theorem recU_n {r : T47} {s : Int} (h : recNo r = false) : (r.1, r.2.1, r.2.2.1, r.2.2.2.1, r.2.2.2.2 + 1) = recU r s := (if_neg (by rw [h]; decide)).symm
theorem recD_y {r : T47} {s : Int} (h : recNo r = true) : ((0, [], []), false) = recD r s := (if_pos h).symm
theorem recD_n {r : T47} {s : Int} (h : recNo r = false) : comP r.2.2.2.1 (rndV (keyed s ([r.1, r.2.2.2.2])) ((List.length r.2.2.2.1 : Nat) : Int)) = recD r s := (if_neg (by rw [h]; decide)).symm
theorem recodeR_y {r : T47} {s : Int} (h : validR r = true) : (recU r s, recD r s) = recodeR r s := (if_pos h).symm
theorem recodeR_n {r : T47} {s : Int} (h : validR r = false) : (r, (0, [], []), false) = recodeR r s := (if_neg (by rw [h]; decide)).symm
theorem recU_sz (r : T47) (s : Int) : Sh.sz s47 (recU r s) = Sh.sz s47 r := by unfold recU; split <;> rfl
theorem recodeR_sz (r : T47) (s : Int) : Sh.sz s47 (recodeR r s).1 = Sh.sz s47 r ∧ Sh.sz s49 (recodeR r s).2.1 ≤ 80 := by
 unfold recodeR; split
 ·refine ⟨recU_sz r s, ?_⟩
  show Sh.sz s49 (recD r s).1 ≤ 80
  unfold recD; split
  ·exact Nat.zero_le _
  ·exact comP_sz _ _
 ·exact ⟨rfl, Nat.zero_le _⟩

def S_spec_RandomNumber : Sum := { fid := 117, dom := [(.int 3), (.int 3), (.int 3)], cod := [(.int 3)], dp := true, fz := false, pre := fun x => True, g := fun x => ((rndN x.1 x.2.1 x.2.2.1), ()) }
def S_spec_RandomNumber_tab : List (Nat × Sum) := [(90, S_spec_l1In), (119, S_spec_KeyedHash)]
theorem S_spec_RandomNumber_ok : FnOK Tryz.prog 117 S_spec_RandomNumber := by
 refine at_enter 21 (fun x => ⟨[(0, aI x.1), (1, aI x.2.1), (2, aI x.2.2.1)], []⟩) Tryz.func117 rfl (by kernel_rfl) (fun x => rfl) ?_
 rintro w0 Z0 ⟨x0, x1, x2, u⟩ a w
 revert x0 x1 x2
 intro (x0 : Int) (x1 : Int) (x2 : Int) hpre hlens h
 have hT : TabOK Tryz.prog S_spec_RandomNumber_tab := (.cons S_spec_l1In_ok (.cons S_spec_KeyedHash_ok .nil))
 have hkb := keyed_bd x0 ([x1, 71])
 refine wp_seq ?_
 refine at_regq [] { ts := [0, 1, 2, 6], os := [] } [] gamOK hT h (by kernel_rfl) trivial fun a w h => then_normal (wp_seq (wp_seq ?_))
 refine at_regq [] { ts := [0, 1, 2, 6, 10], os := [] } [True] gamOK hT h (by kernel_rfl) ⟨trivial, trivial⟩ fun a w h => then_normal ?_
 refine at_test (!(inR x2 1 1000000000000)) h (by kernel_rfl) (fun h1 => ?_) (fun h1 => ?_)
 ·replace h1 : (inR x2 1 1000000000000) = false := notT h1
  have hvh1 := inR_f h1
  refine wp_seq ?_
  refine at_regq [] { ts := [0, 1, 2, 6], os := [] } [] gamOK hT h (by kernel_rfl) trivial fun a w h => then_normal (wp_ret (then_ret ?_))
  exact at_return (0, ()) [] h (by kernel_rfl) trivial (congrArg (fun z => (z, ())) (show (0) = rndN x0 x1 x2 from by first | rfl | (unfold rndN; rw [if_neg (neT h1)]; done) | (unfold rndN; simp_all)))
 ·replace h1 : (inR x2 1 1000000000000) = true := notF h1
  have hvh1 := inR_t h1
  refine wp_skip (then_normal (wp_seq ?_))
  refine at_regq [{}, {}, { ids := [1] }] { ts := [2, 6, 7], os := [] } [pKey x0 ([x1, 71])] gamOK hT h (by kernel_rfl) ⟨(by (show _ ≤ _; simp)), trivial⟩ fun a w h => then_normal (wp_seq ?_)
  refine at_regq [{}, {}, { nw := true }] { ts := [6], os := [] } [I64 ((keyed x0 ([x1, 71])) * (keyed x0 ([x1, 71]))), (2147483647 : Int) ≠ 0, (x2 : Int) ≠ 0] gamOK hT h (by kernel_rfl) ⟨⟨by (have hA0 := mul_f (keyed x0 ([x1, 71])) (keyed x0 ([x1, 71])); first | omega | (simp only [lsA]; omega) | (simp <;> omega)), by (have hA0 := mul_f (keyed x0 ([x1, 71])) (keyed x0 ([x1, 71])); first | omega | (simp only [lsA]; omega) | (simp <;> omega))⟩, (by first | omega | (simp only [lsA]; omega) | (simp <;> omega)), (by first | omega | (simp only [lsA]; omega) | (simp <;> omega)), trivial⟩ fun a w h => then_normal (wp_ret ?_)
  exact at_return ((Int.tmod (Int.tmod ((keyed x0 ([x1, 71])) * (keyed x0 ([x1, 71]))) 2147483647) x2), ()) [] h (by kernel_rfl) trivial (congrArg (fun z => (z, ())) (show ((Int.tmod (Int.tmod ((keyed x0 ([x1, 71])) * (keyed x0 ([x1, 71]))) 2147483647) x2)) = rndN x0 x1 x2 from by first | rfl | (unfold rndN; rw [if_pos h1]; done) | (unfold rndN; simp_all)))

def S_impl_UnitVector : Sum := { fid := 128, dom := [(.int 3), (.int 3)], cod := [s22], dp := true, fz := false, pre := fun x => True, g := fun x => ((unitV x.1 x.2.1), ()) }
def S_impl_UnitVector_tab : List (Nat × Sum) := [(101, S_impl_InRange)]
theorem S_impl_UnitVector_ok : FnOK Tryz.prog 128 S_impl_UnitVector := by
 refine at_enter 22 (fun x => ⟨[(0, aI x.1), (1, aI x.2.1)], []⟩) Tryz.func128 rfl (by kernel_rfl) (fun x => rfl) ?_
 rintro w0 Z0 ⟨x0, x1, u⟩ a w
 revert x0 x1
 intro (x0 : Int) (x1 : Int) hpre hlens h
 have hT : TabOK Tryz.prog S_impl_UnitVector_tab := (.cons S_impl_InRange_ok .nil)
 refine wp_seq ?_
 refine at_regq [] { ts := [0, 1, 4], os := [] } [] gamOK hT h (by kernel_rfl) trivial fun a w h => then_normal (wp_seq (wp_seq ?_))
 rcases Bool.eq_false_or_eq_true (!(inR x0 0 40)) with h1 | h1
 ·have hzh1 : (inR x0 0 40) = false := notT h1
  have hvh1 := inR_f (notT h1)
  refine at_regq [{}, {}, { hint := some (aB true) }] { ts := [0, 1, 4, 15], os := [] } [True, (AV.p (.c (.v (.bool (!(inR x0 0 40))))) = AV.p (.c (.v (.bool true))))] gamOK hT h (by kernel_rfl) ⟨trivial, hint_bool (h1), trivial⟩ fun a w h => then_normal ?_
  refine at_test true h (by kernel_rfl) (fun hh => ?_) (fun hh => nomatch hh)
  refine wp_seq ?_
  refine at_regq [] { ts := [0, 1, 4], os := [] } [] gamOK hT h (by kernel_rfl) trivial fun a w h => then_normal (wp_ret (then_ret ?_))
  exact at_return (([] : List Int), ()) [] h (by kernel_rfl) trivial (congrArg (fun z => (z, ())) (show (([] : List Int)) = unitV x0 x1 from by first | exact unitV_n (by first | (left; assumption) | (right; assumption)) | (rw [← unitV_y (by assumption) (by assumption)]; exact unitL_set (by omega) (by omega))))
 ·have hzh1 : (inR x0 0 40) = true := notF h1
  have hvh1 := inR_t (notF h1)
  refine at_regq [{}, {}, { hint := some (aB false) }, {}, {}, {}, { nw := true }] { ts := [0, 1, 4, 15], os := [] } [True, (AV.p (.c (.v (.bool (!(inR x0 0 40))))) = AV.p (.c (.v (.bool false)))), I64 (x0 - 1), True] gamOK hT h (by kernel_rfl) ⟨trivial, hint_bool (h1), ⟨by first | omega | (simp only [lsA]; omega) | (simp <;> omega), by first | omega | (simp only [lsA]; omega) | (simp <;> omega)⟩, trivial, trivial⟩ fun a w h => then_normal ?_
  refine at_test (!(inR x1 0 (x0 - 1))) h (by kernel_rfl) (fun h2 => ?_) (fun h2 => ?_)
  ·replace h2 : (inR x1 0 (x0 - 1)) = false := notT h2
   have hvh2 := inR_f h2
   refine wp_seq ?_
   refine at_regq [] { ts := [0, 1, 4], os := [] } [] gamOK hT h (by kernel_rfl) trivial fun a w h => then_normal (wp_ret (then_ret ?_))
   exact at_return (([] : List Int), ()) [] h (by kernel_rfl) trivial (congrArg (fun z => (z, ())) (show (([] : List Int)) = unitV x0 x1 from by first | exact unitV_n (by first | (left; assumption) | (right; assumption)) | (rw [← unitV_y (by assumption) (by assumption)]; exact unitL_set (by omega) (by omega))))
  ·replace h2 : (inR x1 0 (x0 - 1)) = true := notF h2
   have hvh2 := inR_t h2
   refine wp_skip (then_normal (wp_seq ?_))
   refine at_regq [{}, { ids := [1] }] { ts := [1, 4, 5], os := [1] } [(0 : Int) ≤ x0 ∧ x0 = x0 ∧ x0 * (8 : Nat) ≤ (140737488355328 : Int)] gamOK hT h (by kernel_rfl) ⟨(by refine ⟨?_, ?_, ?_⟩ <;> ((have hA0 := mul_f x0 (8 : Nat); first | omega | (simp only [lsA]; omega) | (simp <;> omega)))), trivial⟩ fun a w h => then_normal (wp_seq ?_)
   refine at_regq [] { ts := [4, 5], os := [1] } [(0 : Int) ≤ x1 ∧ x1 < ((List.length (List.replicate ((x0).toNat) (0 : Int)) : Nat) : Int), (x1).toNat < List.length (List.replicate ((x0).toNat) (0 : Int))] gamOK hT h (by kernel_rfl) ⟨(by refine ⟨?_, ?_⟩ <;> (first | omega | (simp only [lsA]; omega) | (simp <;> omega))), (by first | omega | (simp only [lsA]; omega) | (simp <;> omega)), trivial⟩ fun a w h => then_normal (wp_seq ?_)
   refine at_regq [] { ts := [4], os := [1] } [] gamOK hT h (by kernel_rfl) trivial fun a w h => then_normal (wp_ret ?_)
   exact at_return ((List.set (List.replicate ((x0).toNat) (0 : Int)) ((x1).toNat) 1), ()) [] h (by kernel_rfl) trivial (congrArg (fun z => (z, ())) (show ((List.set (List.replicate ((x0).toNat) (0 : Int)) ((x1).toNat) 1)) = unitV x0 x1 from by first | exact unitV_n (by first | (left; assumption) | (right; assumption)) | (rw [← unitV_y (by assumption) (by assumption)]; exact unitL_set (by omega) (by omega))))

def S_spec_UnitVector : Sum := { fid := 114, dom := [(.int 3), (.int 3)], cod := [s22], dp := true, fz := false, pre := fun x => True, g := fun x => ((unitV x.1 x.2.1), ()) }
def S_spec_UnitVector_tab : List (Nat × Sum) := [(90, S_spec_l1In)]
theorem S_spec_UnitVector_ok : FnOK Tryz.prog 114 S_spec_UnitVector := by
 refine at_enter 34 (fun x => ⟨[(0, aI x.1), (1, aI x.2.1)], []⟩) Tryz.func114 rfl (by kernel_rfl) (fun x => rfl) ?_
 rintro w0 Z0 ⟨x0, x1, u⟩ a w
 revert x0 x1
 intro (x0 : Int) (x1 : Int) hpre hlens h
 have hT : TabOK Tryz.prog S_spec_UnitVector_tab := (.cons S_spec_l1In_ok .nil)
 refine wp_seq ?_
 refine at_regq [] { ts := [0, 1, 4], os := [] } [] gamOK hT h (by kernel_rfl) trivial fun a w h => then_normal (wp_seq ?_)
 refine at_regq [{ ids := [1] }] { ts := [0, 1, 4, 5], os := [1] } [] gamOK hT h (by kernel_rfl) trivial fun a w h => then_normal (wp_seq (wp_seq ?_))
 rcases Bool.eq_false_or_eq_true (!(inR x0 0 40)) with h1 | h1
 ·have hzh1 : (inR x0 0 40) = false := notT h1
  have hvh1 := inR_f (notT h1)
  refine at_regq [{}, {}, { hint := some (aB true) }] { ts := [0, 1, 4, 5, 17], os := [1] } [True, (AV.p (.c (.v (.bool (!(inR x0 0 40))))) = AV.p (.c (.v (.bool true))))] gamOK hT h (by kernel_rfl) ⟨trivial, hint_bool (h1), trivial⟩ fun a w h => then_normal ?_
  refine at_test true h (by kernel_rfl) (fun hh => ?_) (fun hh => nomatch hh)
  refine wp_seq ?_
  refine at_regq [] { ts := [0, 1, 4, 5], os := [1] } [] gamOK hT h (by kernel_rfl) trivial fun a w h => then_normal (wp_ret (then_ret ?_))
  exact at_return (([] : List Int), ()) [] h (by kernel_rfl) trivial (congrArg (fun z => (z, ())) (show (([] : List Int)) = unitV x0 x1 from by first | exact unitV_n (by first | (left; assumption) | (right; assumption)) | exact unitV_y (by assumption) (by assumption)))
 ·have hzh1 : (inR x0 0 40) = true := notF h1
  have hvh1 := inR_t (notF h1)
  refine at_regq [{}, {}, { hint := some (aB false) }, {}, {}, {}, { nw := true }] { ts := [0, 1, 4, 5, 17], os := [1] } [True, (AV.p (.c (.v (.bool (!(inR x0 0 40))))) = AV.p (.c (.v (.bool false)))), I64 (x0 - 1), True] gamOK hT h (by kernel_rfl) ⟨trivial, hint_bool (h1), ⟨by first | omega | (simp only [lsA]; omega) | (simp <;> omega), by first | omega | (simp only [lsA]; omega) | (simp <;> omega)⟩, trivial, trivial⟩ fun a w h => then_normal ?_
  refine at_test (!(inR x1 0 (x0 - 1))) h (by kernel_rfl) (fun h2 => ?_) (fun h2 => ?_)
  ·replace h2 : (inR x1 0 (x0 - 1)) = false := notT h2
   have hvh2 := inR_f h2
   refine wp_seq ?_
   refine at_regq [] { ts := [0, 1, 4, 5], os := [1] } [] gamOK hT h (by kernel_rfl) trivial fun a w h => then_normal (wp_ret (then_ret ?_))
   exact at_return (([] : List Int), ()) [] h (by kernel_rfl) trivial (congrArg (fun z => (z, ())) (show (([] : List Int)) = unitV x0 x1 from by first | exact unitV_n (by first | (left; assumption) | (right; assumption)) | exact unitV_y (by assumption) (by assumption)))
  ·replace h2 : (inR x1 0 (x0 - 1)) = true := notF h2
   have hvh2 := inR_t h2
   refine wp_skip (then_normal (wp_seq (wp_seq ?_)))
   refine at_regq [] { ts := [0, 1, 4, 5, 6], os := [1] } [] gamOK hT h (by kernel_rfl) trivial fun a w h => then_normal (wp_block ?_)
   replace h := at_out (σ' := ⟨[(0, aI x0), (1, aI x1), (4, .p (.c (cN))), (5, aS 1), (6, aI 0)], [(1, oR (.int 3) ([] : List Int))]⟩) { ts := [0, 1, 4, 5, 6], os := [1] } h (by kernel_rfl)
   refine at_loop (fun i : Nat => (⟨[(0, aI x0), (1, aI x1), (4, .p (.c (cN))), (5, aS 1), (6, aI ((i : Nat) : Int))], [(1, oR (.int 3) (unitL i x1))]⟩ : St)) (fun i => i ≤ x0.toNat) (fun i => x0.toNat - i) (0) h (st_congr2 (fun (d0 : List Int) (d1 : Int) => (⟨[(0, aI x0), (1, aI x1), (4, .p (.c (cN))), (5, aS 1), (6, aI d1)], [(1, oR (.int 3) d0)]⟩ : St)) (show (([] : List Int) : List Int) = (unitL (0) x1) from by first | with_reducible rfl | (rfl) | rfl) (show (0 : Int) = (((0) : Nat) : Int) from by first | with_reducible rfl | (rfl) | rfl)) (by omega) ?_
   intro i a w hok0 h
   have hul := unitL_len i x1
   refine wp_seq (wp_seq ?_)
   refine at_regq [] { ts := [0, 1, 4, 5, 6, 21], os := [1] } [] gamOK hT h (by kernel_rfl) trivial fun a w h => then_normal ?_
   refine at_test (decide (((i : Nat) : Int) < x0)) h (by kernel_rfl) (fun h3 => ?_) (fun h3 => ?_)
   ·replace h3 : ((i : Nat) : Int) < x0 := of_decide_eq_true h3
    refine wp_skip (then_normal (wp_seq (wp_block (wp_seq ?_))))
    refine at_regq [] { ts := [0, 1, 4, 5, 6, 26], os := [1] } [] gamOK hT h (by kernel_rfl) trivial fun a w h => then_normal ?_
    refine at_test (decide (((i : Nat) : Int) = x1)) h (by kernel_rfl) (fun h4 => ?_) (fun h4 => ?_)
    ·replace h4 : ((i : Nat) : Int) = x1 := of_decide_eq_true h4
     refine at_regq [{}, { ids := [2] }, { ids := [3] }] { ts := [0, 1, 4, 5, 6], os := [3] } [(List.length (unitL i x1) + List.length ([1])) * 8 ≤ 140737488355328] gamOK hT h (by kernel_rfl) ⟨(by first | omega | (simp only [lsA]; omega) | (simp <;> omega)), trivial⟩ fun a w h => in_normal (then_normal ?_)
     refine at_regq [{}, { nw := true }] { ts := [0, 1, 4, 5, 6], os := [3] } [I64 (((i : Nat) : Int) + 1)] gamOK hT h (by kernel_rfl) ⟨⟨by first | omega | (simp only [lsA]; omega) | (simp <;> omega), by first | omega | (simp only [lsA]; omega) | (simp <;> omega)⟩, trivial⟩ fun a w h => ?_
     replace h := at_out (σ' := ⟨[(0, aI x0), (1, aI x1), (4, .p (.c (cN))), (5, aS 1), (6, aI (((i : Nat) : Int) + 1))], [(1, oR (.int 3) ((unitL i x1) ++ ([1])))]⟩) { ts := [0, 1, 4, 5, 6], os := [3], rn := [(3, 1)] } h (by kernel_rfl)
     exact ⟨i + 1, at_eq h (st_congr2 (fun (d0 : List Int) (d1 : Int) => (⟨[(0, aI x0), (1, aI x1), (4, .p (.c (cN))), (5, aS 1), (6, aI d1)], [(1, oR (.int 3) d0)]⟩ : St)) (show (((unitL i x1) ++ ([1])) : List Int) = (unitL (i + 1) x1) from by first | with_reducible rfl | (first | (rw [unitL_snoc, if_pos (by omega)]; done) | (rw [unitL_snoc, if_neg (by omega)]; done)) | rfl) (show (((i : Nat) : Int) + 1 : Int) = (((i + 1) : Nat) : Int) from by first | with_reducible rfl | (omega) | rfl)), (by omega), (by omega)⟩
    ·replace h4 : ¬ (((i : Nat) : Int) = x1) := of_decide_eq_false h4
     refine at_regq [{}, { ids := [4] }, { ids := [5] }] { ts := [0, 1, 4, 5, 6], os := [5] } [(List.length (unitL i x1) + List.length ([0])) * 8 ≤ 140737488355328] gamOK hT h (by kernel_rfl) ⟨(by first | omega | (simp only [lsA]; omega) | (simp <;> omega)), trivial⟩ fun a w h => in_normal (then_normal ?_)
     refine at_regq [{}, { nw := true }] { ts := [0, 1, 4, 5, 6], os := [5] } [I64 (((i : Nat) : Int) + 1)] gamOK hT h (by kernel_rfl) ⟨⟨by first | omega | (simp only [lsA]; omega) | (simp <;> omega), by first | omega | (simp only [lsA]; omega) | (simp <;> omega)⟩, trivial⟩ fun a w h => ?_
     replace h := at_out (σ' := ⟨[(0, aI x0), (1, aI x1), (4, .p (.c (cN))), (5, aS 1), (6, aI (((i : Nat) : Int) + 1))], [(1, oR (.int 3) ((unitL i x1) ++ ([0])))]⟩) { ts := [0, 1, 4, 5, 6], os := [5], rn := [(5, 1)] } h (by kernel_rfl)
     exact ⟨i + 1, at_eq h (st_congr2 (fun (d0 : List Int) (d1 : Int) => (⟨[(0, aI x0), (1, aI x1), (4, .p (.c (cN))), (5, aS 1), (6, aI d1)], [(1, oR (.int 3) d0)]⟩ : St)) (show (((unitL i x1) ++ ([0])) : List Int) = (unitL (i + 1) x1) from by first | with_reducible rfl | (first | (rw [unitL_snoc, if_pos (by omega)]; done) | (rw [unitL_snoc, if_neg (by omega)]; done)) | rfl) (show (((i : Nat) : Int) + 1 : Int) = (((i + 1) : Nat) : Int) from by first | with_reducible rfl | (omega) | rfl)), (by omega), (by omega)⟩
   ·replace h3 : ¬ (((i : Nat) : Int) < x0) := of_decide_eq_false h3
    refine wp_exit (then_exit ?_)
    replace h := at_out (σ' := ⟨[(4, .p (.c (cN))), (5, aS 1)], [(1, oR (.int 3) (unitL i x1))]⟩) { ts := [4, 5], os := [1] } h (by kernel_rfl)
    replace h := at_eq (σ' := ⟨[(4, .p (.c (cN))), (5, aS 1)], [(1, oR (.int 3) (unitL x0.toNat x1))]⟩) h (st_congr1 (fun (d0 : List Int) => (⟨[(4, .p (.c (cN))), (5, aS 1)], [(1, oR (.int 3) d0)]⟩ : St)) (show ((unitL i x1) : List Int) = (unitL x0.toNat x1) from by first | with_reducible rfl | (rw [show x0.toNat = i by omega]) | rfl))
    refine then_exit (in_hit (then_normal (wp_seq ?_)))
    refine at_regq [] { ts := [4], os := [1] } [] gamOK hT h (by kernel_rfl) trivial fun a w h => then_normal (wp_ret ?_)
    exact at_return ((unitL x0.toNat x1), ()) [] h (by kernel_rfl) trivial (congrArg (fun z => (z, ())) (show ((unitL x0.toNat x1)) = unitV x0 x1 from by first | exact unitV_n (by first | (left; assumption) | (right; assumption)) | exact unitV_y (by assumption) (by assumption)))

def S_impl_RandomVector : Sum := { fid := 129, dom := [(.int 3), (.int 3)], cod := [s22], dp := true, fz := false, pre := fun x => True, g := fun x => ((rndV x.1 x.2.1), ()) }
def S_impl_RandomVector_tab : List (Nat × Sum) := [(101, S_impl_InRange), (166, S_impl_RandomNumber), (150, S_impl_LeadingIndex)]
theorem S_impl_RandomVector_ok : FnOK Tryz.prog 129 S_impl_RandomVector := by
 refine at_enter 30 (fun x => ⟨[(0, aI x.1), (1, aI x.2.1)], []⟩) Tryz.func129 rfl (by kernel_rfl) (fun x => rfl) ?_
 rintro w0 Z0 ⟨x0, x1, u⟩ a w
 revert x0 x1
 intro (x0 : Int) (x1 : Int) hpre hlens h
 have hT : TabOK Tryz.prog S_impl_RandomVector_tab := (.cons S_impl_InRange_ok (.cons S_impl_RandomNumber_ok (.cons S_impl_LeadingIndex_ok .nil)))
 have hrl := rndL_len x0 x1.toNat
 refine wp_seq ?_
 refine at_regq [] { ts := [0, 1, 4], os := [] } [] gamOK hT h (by kernel_rfl) trivial fun a w h => then_normal (wp_seq (wp_seq ?_))
 refine at_regq [] { ts := [0, 1, 4, 9], os := [] } [True] gamOK hT h (by kernel_rfl) ⟨trivial, trivial⟩ fun a w h => then_normal ?_
 refine at_test (!(inR x1 1 40)) h (by kernel_rfl) (fun h1 => ?_) (fun h1 => ?_)
 ·replace h1 : (inR x1 1 40) = false := notT h1
  have hvh1 := inR_f h1
  refine wp_seq ?_
  refine at_regq [] { ts := [0, 1, 4], os := [] } [] gamOK hT h (by kernel_rfl) trivial fun a w h => then_normal (wp_ret (then_ret ?_))
  exact at_return (([] : List Int), ()) [] h (by kernel_rfl) trivial (congrArg (fun z => (z, ())) (show (([] : List Int)) = rndV x0 x1 from by first | exact rndV_0 (by assumption) | exact rndV_1 (by assumption) (by assumption) | exact rndV_2 (by assumption) (by assumption)))
 ·replace h1 : (inR x1 1 40) = true := notF h1
  have hvh1 := inR_t h1
  refine wp_skip (then_normal (wp_seq ?_))
  refine at_regq [{}, { ids := [1] }] { ts := [0, 4, 5], os := [1] } [(0 : Int) ≤ x1 ∧ x1 = x1 ∧ x1 * (8 : Nat) ≤ (140737488355328 : Int)] gamOK hT h (by kernel_rfl) ⟨(by refine ⟨?_, ?_, ?_⟩ <;> ((have hA0 := mul_f x1 (8 : Nat); first | omega | (simp only [lsA, copyTo_len (show i ≤ List.length (rndL x0 x1.toNat) by rw [rndL_len]; omega)]; omega) | (simp <;> omega)))), trivial⟩ fun a w h => then_normal (wp_seq (wp_seq ?_))
  refine at_regq [] { ts := [0, 4, 5, 13, 14], os := [1] } [] gamOK hT h (by kernel_rfl) trivial fun a w h => then_normal (wp_block ?_)
  replace h := at_out (σ' := ⟨[(0, aI x0), (4, .p (.c (cN))), (5, aS 1), (13, aI ((List.length (List.replicate ((x1).toNat) (0 : Int)) : Nat) : Int)), (14, aI 0)], [(1, oR (.int 3) (List.replicate ((x1).toNat) (0 : Int)))]⟩) { ts := [0, 4, 5, 13, 14], os := [1] } h (by kernel_rfl)
  refine at_loop (fun i : Nat => (⟨[(0, aI x0), (4, .p (.c (cN))), (5, aS 1), (13, aI ((List.length (List.replicate ((x1).toNat) (0 : Int)) : Nat) : Int)), (14, aI ((i : Nat) : Int))], [(1, oR (.int 3) (copyTo 0 (rndL x0 x1.toNat) i))]⟩ : St)) (fun i => i ≤ x1.toNat) (fun i => x1.toNat - i) (0) h (st_congr2 (fun (d0 : List Int) (d1 : Int) => (⟨[(0, aI x0), (4, .p (.c (cN))), (5, aS 1), (13, aI ((List.length (List.replicate ((x1).toNat) (0 : Int)) : Nat) : Int)), (14, aI d1)], [(1, oR (.int 3) d0)]⟩ : St)) (show ((List.replicate ((x1).toNat) (0 : Int)) : List Int) = (copyTo 0 (rndL x0 x1.toNat) (0)) from by first | with_reducible rfl | (exact rndL_zero _ _) | rfl) (show (0 : Int) = (((0) : Nat) : Int) from by first | with_reducible rfl | (exact rndL_zero _ _) | rfl)) (by omega) ?_
  intro i a w hok0 h
  have hcl := copyTo_len (z := (0 : Int)) (show i ≤ List.length (rndL x0 x1.toNat) by omega)
  have hrp : List.length (List.replicate x1.toNat (0 : Int)) = x1.toNat := List.length_replicate
  refine wp_seq ?_
  refine at_regq [] { ts := [0, 4, 5, 13, 14, 15], os := [1] } [] gamOK hT h (by kernel_rfl) trivial fun a w h => then_normal (wp_seq ?_)
  refine at_test (decide (((i : Nat) : Int) < ((List.length (List.replicate ((x1).toNat) (0 : Int)) : Nat) : Int))) h (by kernel_rfl) (fun h2 => ?_) (fun h2 => ?_)
  ·replace h2 : ((i : Nat) : Int) < ((List.length (List.replicate ((x1).toNat) (0 : Int)) : Nat) : Int) := of_decide_eq_true h2
   refine wp_skip (then_normal (wp_seq (wp_block (wp_seq ?_))))
   refine at_regq [] { ts := [0, 4, 5, 6, 13, 14], os := [1] } [] gamOK hT h (by kernel_rfl) trivial fun a w h => then_normal ?_
   refine at_regq [] { ts := [0, 4, 5, 13, 14], os := [1] } [True, (0 : Int) ≤ ((i : Nat) : Int) ∧ ((i : Nat) : Int) < ((List.length (copyTo 0 (rndL x0 x1.toNat) i) : Nat) : Int), i < List.length (copyTo 0 (rndL x0 x1.toNat) i)] gamOK hT h (by kernel_rfl) ⟨trivial, (by refine ⟨?_, ?_⟩ <;> (first | omega | (simp only [lsA, copyTo_len (show i ≤ List.length (rndL x0 x1.toNat) by rw [rndL_len]; omega)]; omega) | (simp <;> omega))), (by first | omega | (simp only [lsA, copyTo_len (show i ≤ List.length (rndL x0 x1.toNat) by rw [rndL_len]; omega)]; omega) | (simp <;> omega)), trivial⟩ fun a w h => in_normal (then_normal ?_)
   refine at_regq [{ nw := true }] { ts := [0, 4, 5, 13, 14], os := [1] } [I64 (((i : Nat) : Int) + 1)] gamOK hT h (by kernel_rfl) ⟨⟨by first | omega | (simp only [lsA, copyTo_len (show i ≤ List.length (rndL x0 x1.toNat) by rw [rndL_len]; omega)]; omega) | (simp <;> omega), by first | omega | (simp only [lsA, copyTo_len (show i ≤ List.length (rndL x0 x1.toNat) by rw [rndL_len]; omega)]; omega) | (simp <;> omega)⟩, trivial⟩ fun a w h => ?_
   replace h := at_out (σ' := ⟨[(0, aI x0), (4, .p (.c (cN))), (5, aS 1), (13, aI ((List.length (List.replicate ((x1).toNat) (0 : Int)) : Nat) : Int)), (14, aI (((i : Nat) : Int) + 1))], [(1, oR (.int 3) (List.set (copyTo 0 (rndL x0 x1.toNat) i) i (rndN x0 ((i : Nat) : Int) 1019)))]⟩) { ts := [0, 4, 5, 13, 14], os := [1] } h (by kernel_rfl)
   exact ⟨i + 1, at_eq h (st_congr2 (fun (d0 : List Int) (d1 : Int) => (⟨[(0, aI x0), (4, .p (.c (cN))), (5, aS 1), (13, aI ((List.length (List.replicate ((x1).toNat) (0 : Int)) : Nat) : Int)), (14, aI d1)], [(1, oR (.int 3) d0)]⟩ : St)) (show ((List.set (copyTo 0 (rndL x0 x1.toNat) i) i (rndN x0 ((i : Nat) : Int) 1019)) : List Int) = (copyTo 0 (rndL x0 x1.toNat) (i + 1)) from by first | with_reducible rfl | (exact rndL_set (by omega)) | rfl) (show (((i : Nat) : Int) + 1 : Int) = (((i + 1) : Nat) : Int) from by first | with_reducible rfl | (omega) | rfl)), (by omega), (by omega)⟩
  ·replace h2 : ¬ (((i : Nat) : Int) < ((List.length (List.replicate ((x1).toNat) (0 : Int)) : Nat) : Int)) := of_decide_eq_false h2
   refine wp_exit (then_exit ?_)
   replace h := at_out (σ' := ⟨[(4, .p (.c (cN))), (5, aS 1)], [(1, oR (.int 3) (copyTo 0 (rndL x0 x1.toNat) i))]⟩) { ts := [4, 5], os := [1] } h (by kernel_rfl)
   replace h := at_eq (σ' := ⟨[(4, .p (.c (cN))), (5, aS 1)], [(1, oR (.int 3) (rndL x0 x1.toNat))]⟩) h (st_congr1 (fun (d0 : List Int) => (⟨[(4, .p (.c (cN))), (5, aS 1)], [(1, oR (.int 3) d0)]⟩ : St)) (show ((copyTo 0 (rndL x0 x1.toNat) i) : List Int) = (rndL x0 x1.toNat) from by first | with_reducible rfl | (rw [copyTo_all (by omega)]) | rfl))
   refine then_exit (in_hit (then_normal (wp_seq (wp_seq ?_))))
   refine at_regq [] { ts := [4, 5, 26], os := [1] } [Q_impl_LeadingIndex (rndL x0 x1.toNat)] gamOK hT h (by kernel_rfl) ⟨(by exact Sh.fit_len rfl (by rw [rndL_len]; omega)), trivial⟩ fun a w h => then_normal ?_
   refine at_test (decide ((LA.leadS (rndL x0 x1.toNat)) < 0)) h (by kernel_rfl) (fun h3 => ?_) (fun h3 => ?_)
   ·replace h3 : (LA.leadS (rndL x0 x1.toNat)) < 0 := of_decide_eq_true h3
    refine at_regq [] { ts := [4, 5], os := [1] } [(0 : Int) ≤ 0 ∧ 0 < ((List.length (rndL x0 x1.toNat) : Nat) : Int), 0 < List.length (rndL x0 x1.toNat)] gamOK hT h (by kernel_rfl) ⟨(by refine ⟨?_, ?_⟩ <;> (first | omega | (simp only [lsA, copyTo_len (show i ≤ List.length (rndL x0 x1.toNat) by rw [rndL_len]; omega)]; omega) | (simp <;> omega))), (by first | omega | (simp only [lsA, copyTo_len (show i ≤ List.length (rndL x0 x1.toNat) by rw [rndL_len]; omega)]; omega) | (simp <;> omega)), trivial⟩ fun a w h => then_normal (wp_seq ?_)
    refine at_regq [] { ts := [4], os := [1] } [] gamOK hT h (by kernel_rfl) trivial fun a w h => then_normal (wp_ret ?_)
    exact at_return ((List.set (rndL x0 x1.toNat) 0 1), ()) [] h (by kernel_rfl) trivial (congrArg (fun z => (z, ())) (show ((List.set (rndL x0 x1.toNat) 0 1)) = rndV x0 x1 from by first | exact rndV_0 (by assumption) | exact rndV_1 (by assumption) (by assumption) | exact rndV_2 (by assumption) (by assumption)))
   ·replace h3 : ¬ ((LA.leadS (rndL x0 x1.toNat)) < 0) := of_decide_eq_false h3
    refine wp_skip (then_normal (wp_seq ?_))
    refine at_regq [] { ts := [4], os := [1] } [] gamOK hT h (by kernel_rfl) trivial fun a w h => then_normal (wp_ret ?_)
    exact at_return ((rndL x0 x1.toNat), ()) [] h (by kernel_rfl) trivial (congrArg (fun z => (z, ())) (show ((rndL x0 x1.toNat)) = rndV x0 x1 from by first | exact rndV_0 (by assumption) | exact rndV_1 (by assumption) (by assumption) | exact rndV_2 (by assumption) (by assumption)))

def S_spec_RandomVector : Sum := { fid := 61, dom := [(.int 3), (.int 3)], cod := [s22], dp := true, fz := false, pre := fun x => True, g := fun x => ((rndV x.1 x.2.1), ()) }
def S_spec_RandomVector_tab : List (Nat × Sum) := [(90, S_spec_l1In), (117, S_spec_RandomNumber), (118, S_spec_LeadingIndex)]
theorem S_spec_RandomVector_ok : FnOK Tryz.prog 61 S_spec_RandomVector := by
 refine at_enter 34 (fun x => ⟨[(0, aI x.1), (1, aI x.2.1)], []⟩) Tryz.func61 rfl (by kernel_rfl) (fun x => rfl) ?_
 rintro w0 Z0 ⟨x0, x1, u⟩ a w
 revert x0 x1
 intro (x0 : Int) (x1 : Int) hpre hlens h
 have hT : TabOK Tryz.prog S_spec_RandomVector_tab := (.cons S_spec_l1In_ok (.cons S_spec_RandomNumber_ok (.cons S_spec_LeadingIndex_ok .nil)))
 have hrl := rndS_len x0 x1
 refine wp_seq ?_
 refine at_regq [] { ts := [0, 1, 4], os := [] } [] gamOK hT h (by kernel_rfl) trivial fun a w h => then_normal (wp_seq ?_)
 refine at_regq [{ ids := [1] }] { ts := [0, 1, 4, 5], os := [1] } [] gamOK hT h (by kernel_rfl) trivial fun a w h => then_normal (wp_seq (wp_seq ?_))
 refine at_regq [] { ts := [0, 1, 4, 5, 6], os := [1] } [] gamOK hT h (by kernel_rfl) trivial fun a w h => then_normal (wp_block ?_)
 replace h := at_out (σ' := ⟨[(0, aI x0), (1, aI x1), (4, .p (.c (cN))), (5, aS 1), (6, aI 0)], [(1, oR (.int 3) ([] : List Int))]⟩) { ts := [0, 1, 4, 5, 6], os := [1] } h (by kernel_rfl)
 refine at_loop (fun i : Nat => (⟨[(0, aI x0), (1, aI x1), (4, .p (.c (cN))), (5, aS 1), (6, aI ((i : Nat) : Int))], [(1, oR (.int 3) (rndL x0 i))]⟩ : St)) (fun i => (i = 0 ∨ ((i : Int) ≤ x1 ∧ inR x1 1 40 = true))) (fun i => x1.toNat - i) (0) h (st_congr2 (fun (d0 : List Int) (d1 : Int) => (⟨[(0, aI x0), (1, aI x1), (4, .p (.c (cN))), (5, aS 1), (6, aI d1)], [(1, oR (.int 3) d0)]⟩ : St)) (show (([] : List Int) : List Int) = (rndL x0 (0)) from by first | with_reducible rfl | (rfl) | rfl) (show (0 : Int) = (((0) : Nat) : Int) from by first | with_reducible rfl | (rfl) | rfl)) (by exact Or.inl rfl) ?_
 intro i a w hok0 h
 have hul := rndL_len x0 i
 have hi40 : i ≤ 40 := by rcases hok0 with h | h; omega; have := inR_t h.2; omega
 refine wp_seq (wp_seq ?_)
 by_cases h1 : ((i : Nat) : Int) < x1
 ·refine at_regq [{}, {}, { hint := some (aB true) }] { ts := [0, 1, 4, 5, 6, 12, 13, 14], os := [1] } [(AV.p (.c (.v (.bool (decide (((i : Nat) : Int) < x1))))) = AV.p (.c (.v (.bool true)))), True] gamOK hT h (by kernel_rfl) ⟨hint_bool (decide_eq_true h1), trivial, trivial⟩ fun a w h => then_normal ?_
  refine at_test ((inR x1 1 40)) h (by kernel_rfl) (fun h2 => ?_) (fun h2 => ?_)
  ·have hvh2 := inR_t h2
   refine wp_skip (then_normal (wp_seq (wp_block ?_)))
   refine at_regq [{}, {}, {}, {}, { ids := [2] }, { ids := [3] }] { ts := [0, 1, 4, 5, 6, 12, 13], os := [3] } [True, (List.length (rndL x0 i) + List.length ([(rndN x0 ((i : Nat) : Int) 1019)])) * 8 ≤ 140737488355328] gamOK hT h (by kernel_rfl) ⟨trivial, (by first | omega | (simp only [lsA]; omega) | (simp <;> omega)), trivial⟩ fun a w h => in_normal (then_normal ?_)
   refine at_regq [{}, { nw := true }] { ts := [0, 1, 4, 5, 6, 12, 13], os := [3] } [I64 (((i : Nat) : Int) + 1)] gamOK hT h (by kernel_rfl) ⟨⟨by first | omega | (simp only [lsA]; omega) | (simp <;> omega), by first | omega | (simp only [lsA]; omega) | (simp <;> omega)⟩, trivial⟩ fun a w h => ?_
   replace h := at_out (σ' := ⟨[(0, aI x0), (1, aI x1), (4, .p (.c (cN))), (5, aS 1), (6, aI (((i : Nat) : Int) + 1))], [(1, oR (.int 3) ((rndL x0 i) ++ ([(rndN x0 ((i : Nat) : Int) 1019)])))]⟩) { ts := [0, 1, 4, 5, 6], os := [3], rn := [(3, 1)] } h (by kernel_rfl)
   exact ⟨i + 1, at_eq h (st_congr2 (fun (d0 : List Int) (d1 : Int) => (⟨[(0, aI x0), (1, aI x1), (4, .p (.c (cN))), (5, aS 1), (6, aI d1)], [(1, oR (.int 3) d0)]⟩ : St)) (show (((rndL x0 i) ++ ([(rndN x0 ((i : Nat) : Int) 1019)])) : List Int) = (rndL x0 (i + 1)) from by first | with_reducible rfl | ((rw [rndL_snoc]; done)) | rfl) (show (((i : Nat) : Int) + 1 : Int) = (((i + 1) : Nat) : Int) from by first | with_reducible rfl | (omega) | rfl)), (by exact Or.inr ⟨by omega, by assumption⟩), (by omega)⟩
  ·have hvh2 := inR_f h2
   refine wp_exit (then_exit ?_)
   replace h := at_out (σ' := ⟨[(4, .p (.c (cN))), (5, aS 1)], [(1, oR (.int 3) (rndL x0 i))]⟩) { ts := [4, 5], os := [1] } h (by kernel_rfl)
   replace h := at_eq (σ' := ⟨[(4, .p (.c (cN))), (5, aS 1)], [(1, oR (.int 3) (rndS x0 x1))]⟩) h (st_congr1 (fun (d0 : List Int) => (⟨[(4, .p (.c (cN))), (5, aS 1)], [(1, oR (.int 3) d0)]⟩ : St)) (show ((rndL x0 i) : List Int) = (rndS x0 x1) from by first | with_reducible rfl | (exact rndS_eq hok0 (by first | (left; omega) | (right; assumption))) | rfl))
   refine then_exit (in_hit (then_normal (wp_seq (wp_seq ?_))))
   by_cases h3 : ((List.length (rndS x0 x1) : Nat) : Int) > 0
   ·refine at_regq [{}, {}, { hint := some (aB true) }] { ts := [4, 5, 30], os := [1] } [(AV.p (.c (.v (.bool (decide (((List.length (rndS x0 x1) : Nat) : Int) > 0))))) = AV.p (.c (.v (.bool true)))), Q_spec_LeadingIndex (rndS x0 x1)] gamOK hT h (by kernel_rfl) ⟨hint_bool (decide_eq_true h3), (by exact Sh.fit_len rfl (by omega)), trivial⟩ fun a w h => then_normal ?_
    refine at_test (decide ((LA.leadS (rndS x0 x1)) < 0)) h (by kernel_rfl) (fun h4 => ?_) (fun h4 => ?_)
    ·replace h4 : (LA.leadS (rndS x0 x1)) < 0 := of_decide_eq_true h4
     refine at_regq [] { ts := [4, 5], os := [1] } [(0 : Int) ≤ 0 ∧ 0 < ((List.length (rndS x0 x1) : Nat) : Int), 0 < List.length (rndS x0 x1)] gamOK hT h (by kernel_rfl) ⟨(by refine ⟨?_, ?_⟩ <;> (first | omega | (simp only [lsA]; omega) | (simp <;> omega))), (by first | omega | (simp only [lsA]; omega) | (simp <;> omega)), trivial⟩ fun a w h => then_normal (wp_seq ?_)
     refine at_regq [] { ts := [4], os := [1] } [] gamOK hT h (by kernel_rfl) trivial fun a w h => then_normal (wp_ret ?_)
     exact at_return ((List.set (rndS x0 x1) 0 1), ()) [] h (by kernel_rfl) trivial (congrArg (fun z => (z, ())) (show ((List.set (rndS x0 x1) 0 1)) = rndV x0 x1 from by (unfold rndV; first | (rw [if_pos ⟨by omega, by assumption⟩]; done) | (rw [if_neg (fun e => by have e1 := e.1; have e2 := e.2; first | omega | contradiction)]; done))))
    ·replace h4 : ¬ ((LA.leadS (rndS x0 x1)) < 0) := of_decide_eq_false h4
     refine wp_skip (then_normal (wp_seq ?_))
     refine at_regq [] { ts := [4], os := [1] } [] gamOK hT h (by kernel_rfl) trivial fun a w h => then_normal (wp_ret ?_)
     exact at_return ((rndS x0 x1), ()) [] h (by kernel_rfl) trivial (congrArg (fun z => (z, ())) (show ((rndS x0 x1)) = rndV x0 x1 from by (unfold rndV; first | (rw [if_pos ⟨by omega, by assumption⟩]; done) | (rw [if_neg (fun e => by have e1 := e.1; have e2 := e.2; first | omega | contradiction)]; done))))
   ·refine at_regq [{}, {}, { hint := some (aB false) }] { ts := [4, 5, 30], os := [1] } [(AV.p (.c (.v (.bool (decide (((List.length (rndS x0 x1) : Nat) : Int) > 0))))) = AV.p (.c (.v (.bool false))))] gamOK hT h (by kernel_rfl) ⟨hint_bool (decide_eq_false h3), trivial⟩ fun a w h => then_normal ?_
    refine at_test false h (by kernel_rfl) (fun hh => nomatch hh) (fun hh => ?_)
    refine wp_skip (then_normal (wp_seq ?_))
    refine at_regq [] { ts := [4], os := [1] } [] gamOK hT h (by kernel_rfl) trivial fun a w h => then_normal (wp_ret ?_)
    exact at_return ((rndS x0 x1), ()) [] h (by kernel_rfl) trivial (congrArg (fun z => (z, ())) (show ((rndS x0 x1)) = rndV x0 x1 from by (unfold rndV; first | (rw [if_pos ⟨by omega, by assumption⟩]; done) | (rw [if_neg (fun e => by have e1 := e.1; have e2 := e.2; first | omega | contradiction)]; done))))
 ·refine at_regq [{}, {}, { hint := some (aB false) }] { ts := [0, 1, 4, 5, 6, 12, 13, 14], os := [1] } [(AV.p (.c (.v (.bool (decide (((i : Nat) : Int) < x1))))) = AV.p (.c (.v (.bool false))))] gamOK hT h (by kernel_rfl) ⟨hint_bool (decide_eq_false h1), trivial⟩ fun a w h => then_normal ?_
  refine at_test false h (by kernel_rfl) (fun hh => nomatch hh) (fun hh => ?_)
  refine wp_exit (then_exit ?_)
  replace h := at_out (σ' := ⟨[(4, .p (.c (cN))), (5, aS 1)], [(1, oR (.int 3) (rndL x0 i))]⟩) { ts := [4, 5], os := [1] } h (by kernel_rfl)
  replace h := at_eq (σ' := ⟨[(4, .p (.c (cN))), (5, aS 1)], [(1, oR (.int 3) (rndS x0 x1))]⟩) h (st_congr1 (fun (d0 : List Int) => (⟨[(4, .p (.c (cN))), (5, aS 1)], [(1, oR (.int 3) d0)]⟩ : St)) (show ((rndL x0 i) : List Int) = (rndS x0 x1) from by first | with_reducible rfl | (exact rndS_eq hok0 (by first | (left; omega) | (right; assumption))) | rfl))
  refine then_exit (in_hit (then_normal (wp_seq (wp_seq ?_))))
  by_cases h5 : ((List.length (rndS x0 x1) : Nat) : Int) > 0
  ·refine at_regq [{}, {}, { hint := some (aB true) }] { ts := [4, 5, 30], os := [1] } [(AV.p (.c (.v (.bool (decide (((List.length (rndS x0 x1) : Nat) : Int) > 0))))) = AV.p (.c (.v (.bool true)))), Q_spec_LeadingIndex (rndS x0 x1)] gamOK hT h (by kernel_rfl) ⟨hint_bool (decide_eq_true h5), (by exact Sh.fit_len rfl (by omega)), trivial⟩ fun a w h => then_normal ?_
   refine at_test (decide ((LA.leadS (rndS x0 x1)) < 0)) h (by kernel_rfl) (fun h6 => ?_) (fun h6 => ?_)
   ·replace h6 : (LA.leadS (rndS x0 x1)) < 0 := of_decide_eq_true h6
    refine at_regq [] { ts := [4, 5], os := [1] } [(0 : Int) ≤ 0 ∧ 0 < ((List.length (rndS x0 x1) : Nat) : Int), 0 < List.length (rndS x0 x1)] gamOK hT h (by kernel_rfl) ⟨(by refine ⟨?_, ?_⟩ <;> (first | omega | (simp only [lsA]; omega) | (simp <;> omega))), (by first | omega | (simp only [lsA]; omega) | (simp <;> omega)), trivial⟩ fun a w h => then_normal (wp_seq ?_)
    refine at_regq [] { ts := [4], os := [1] } [] gamOK hT h (by kernel_rfl) trivial fun a w h => then_normal (wp_ret ?_)
    exact at_return ((List.set (rndS x0 x1) 0 1), ()) [] h (by kernel_rfl) trivial (congrArg (fun z => (z, ())) (show ((List.set (rndS x0 x1) 0 1)) = rndV x0 x1 from by (unfold rndV; first | (rw [if_pos ⟨by omega, by assumption⟩]; done) | (rw [if_neg (fun e => by have e1 := e.1; have e2 := e.2; first | omega | contradiction)]; done))))
   ·replace h6 : ¬ ((LA.leadS (rndS x0 x1)) < 0) := of_decide_eq_false h6
    refine wp_skip (then_normal (wp_seq ?_))
    refine at_regq [] { ts := [4], os := [1] } [] gamOK hT h (by kernel_rfl) trivial fun a w h => then_normal (wp_ret ?_)
    exact at_return ((rndS x0 x1), ()) [] h (by kernel_rfl) trivial (congrArg (fun z => (z, ())) (show ((rndS x0 x1)) = rndV x0 x1 from by (unfold rndV; first | (rw [if_pos ⟨by omega, by assumption⟩]; done) | (rw [if_neg (fun e => by have e1 := e.1; have e2 := e.2; first | omega | contradiction)]; done))))
  ·refine at_regq [{}, {}, { hint := some (aB false) }] { ts := [4, 5, 30], os := [1] } [(AV.p (.c (.v (.bool (decide (((List.length (rndS x0 x1) : Nat) : Int) > 0))))) = AV.p (.c (.v (.bool false))))] gamOK hT h (by kernel_rfl) ⟨hint_bool (decide_eq_false h5), trivial⟩ fun a w h => then_normal ?_
   refine at_test false h (by kernel_rfl) (fun hh => nomatch hh) (fun hh => ?_)
   refine wp_skip (then_normal (wp_seq ?_))
   refine at_regq [] { ts := [4], os := [1] } [] gamOK hT h (by kernel_rfl) trivial fun a w h => then_normal (wp_ret ?_)
   exact at_return ((rndS x0 x1), ()) [] h (by kernel_rfl) trivial (congrArg (fun z => (z, ())) (show ((rndS x0 x1)) = rndV x0 x1 from by (unfold rndV; first | (rw [if_pos ⟨by omega, by assumption⟩]; done) | (rw [if_neg (fun e => by have e1 := e.1; have e2 := e.2; first | omega | contradiction)]; done))))

abbrev Q_impl_combine := (fun (x0 : (List (List Int))) (x1 : (List Int)) => Sh.fit s37 x0 ∧ Sh.fit s22 x1 ∧ combP x0 x1)
def S_impl_combine : Sum := { fid := 168, dom := [s37, s22], cod := [s22], dp := true, fz := false, pre := fun x => Q_impl_combine x.1 x.2.1, g := fun x => ((combS x.1 x.2.1), ()) }
def S_impl_combine_tab : List (Nat × Sum) := [(164, S_impl_addScaled)]
theorem S_impl_combine_ok : FnOK Tryz.prog 168 S_impl_combine := by
 refine at_enter 29 (fun x => ⟨[(0, aF s22 x.1), (1, aF (.int 3) x.2.1)], []⟩) Tryz.func168 rfl (by kernel_rfl) (fun x => rfl) ?_
 rintro w0 Z0 ⟨x0, x1, u⟩ a w
 revert x0 x1
 intro (x0 : (List (List Int))) (x1 : (List Int)) hpre hlens h
 replace hpre : Q_impl_combine x0 x1 := hpre
 have hT : TabOK Tryz.prog S_impl_combine_tab := (.cons S_impl_addScaled_ok .nil)
 obtain ⟨hf0, hf1, hpx⟩ := hpre
 have hn0_1 : List.length x0 ≤ 1073741824 := hf0.1
 have hn1_2 : List.length x1 ≤ 1073741824 := hf1.1
 have hp1 := hpx.1
 refine wp_seq ?_
 refine at_regq [] { ts := [0, 1, 4], os := [] } [] gamOK hT h (by kernel_rfl) trivial fun a w h => then_normal (wp_seq ?_)
 refine at_regq [{}, {}, {}, {}, { ids := [1] }] { ts := [0, 1, 4, 5], os := [1] } [(0 : Int) ≤ 0 ∧ 0 < ((List.length x0 : Nat) : Int), (0 : Int) ≤ ((List.length (x0.getD 0 []) : Nat) : Int) ∧ ((List.length (x0.getD 0 []) : Nat) : Int) = ((List.length (x0.getD 0 []) : Nat) : Int) ∧ ((List.length (x0.getD 0 []) : Nat) : Int) * (8 : Nat) ≤ (140737488355328 : Int)] gamOK hT h (by kernel_rfl) ⟨(by refine ⟨?_, ?_⟩ <;> (first | omega | (simp only [lsA]; omega) | (simp <;> omega))), (by refine ⟨?_, ?_, ?_⟩ <;> ((have hA0 := mul_f ((List.length (x0.getD 0 []) : Nat) : Int) (8 : Nat); have hL1 := (show List.length (x0.getD 0 []) ≤ 1073741824 from ((Sh.fit_getD hf0 0)).1); first | omega | (simp only [lsA]; omega) | (simp <;> omega)))), trivial⟩ fun a w h => then_normal (wp_seq (wp_seq ?_))
 refine at_regq [] { ts := [1, 4, 5, 13, 14, 15], os := [1] } [] gamOK hT h (by kernel_rfl) trivial fun a w h => then_normal (wp_block ?_)
 replace h := at_out (σ' := ⟨[(1, aF (.int 3) x1), (4, .p (.c (cN))), (5, aS 1), (13, aF s22 x0), (14, aI ((List.length x0 : Nat) : Int)), (15, aI 0)], [(1, oR (.int 3) (List.replicate (List.length (x0.getD 0 [])) (0 : Int)))]⟩) { ts := [1, 4, 5, 13, 14, 15], os := [1] } h (by kernel_rfl)
 refine at_loop (fun i : Nat => (⟨[(1, aF (.int 3) x1), (4, .p (.c (cN))), (5, aS 1), (13, aF s22 x0), (14, aI ((List.length x0 : Nat) : Int)), (15, aI ((i : Nat) : Int))], [(1, oR (.int 3) (combTo x0 x1 i))]⟩ : St)) (fun i => i ≤ List.length x0) (fun i => List.length x0 - i) (0) h (st_congr2 (fun (d0 : List Int) (d1 : Int) => (⟨[(1, aF (.int 3) x1), (4, .p (.c (cN))), (5, aS 1), (13, aF s22 x0), (14, aI ((List.length x0 : Nat) : Int)), (15, aI d1)], [(1, oR (.int 3) d0)]⟩ : St)) (show ((List.replicate (List.length (x0.getD 0 [])) (0 : Int)) : List Int) = (combTo x0 x1 (0)) from by first | with_reducible rfl | (rfl) | rfl) (show (0 : Int) = (((0) : Nat) : Int) from by first | with_reducible rfl | (rfl) | rfl)) (by omega) ?_
 intro i a w hok0 h
 refine wp_seq ?_
 refine at_regq [] { ts := [1, 4, 5, 13, 14, 15, 16], os := [1] } [] gamOK hT h (by kernel_rfl) trivial fun a w h => then_normal (wp_seq ?_)
 refine at_test (decide (((i : Nat) : Int) < ((List.length x0 : Nat) : Int))) h (by kernel_rfl) (fun h1 => ?_) (fun h1 => ?_)
 ·replace h1 : ((i : Nat) : Int) < ((List.length x0 : Nat) : Int) := of_decide_eq_true h1
  have hcv := hpx.2.1 i (by omega)
  have hco := combTo_ok (n := List.length (x0.getD 0 [])) (vs := x0) (cs := x1) rfl hpx.2.2 i (fun j hj => hpx.2.1 j (by omega))
  have hck := hpx.2.2 i
  refine wp_skip (then_normal (wp_seq (wp_block (wp_seq ?_))))
  refine at_regq [] { ts := [1, 4, 5, 6, 7, 13, 14, 15], os := [1] } [(0 : Int) ≤ ((i : Nat) : Int) ∧ ((i : Nat) : Int) < ((List.length x0 : Nat) : Int)] gamOK hT h (by kernel_rfl) ⟨(by refine ⟨?_, ?_⟩ <;> (first | omega | (simp only [lsA]; omega) | (simp <;> omega))), trivial⟩ fun a w h => then_normal ?_
  refine at_regq [] { ts := [1, 4, 5, 13, 14, 15], os := [1] } [(0 : Int) ≤ ((i : Nat) : Int) ∧ ((i : Nat) : Int) < ((List.length x1 : Nat) : Int), Q_impl_addScaled (combTo x0 x1 i) (x0.getD i []) (x1.getD i 0)] gamOK hT h (by kernel_rfl) ⟨(by refine ⟨?_, ?_⟩ <;> (first | omega | (simp only [lsA]; omega) | (simp <;> omega))), (by exact ⟨fitV hco (by omega), fitV hcv (by omega), addOK_of hco hcv (by omega)⟩), trivial⟩ fun a w h => in_normal (then_normal ?_)
  refine at_regq [{ nw := true }] { ts := [1, 4, 5, 13, 14, 15], os := [1] } [I64 (((i : Nat) : Int) + 1)] gamOK hT h (by kernel_rfl) ⟨⟨by first | omega | (simp only [lsA]; omega) | (simp <;> omega), by first | omega | (simp only [lsA]; omega) | (simp <;> omega)⟩, trivial⟩ fun a w h => ?_
  replace h := at_out (σ' := ⟨[(1, aF (.int 3) x1), (4, .p (.c (cN))), (5, aS 1), (13, aF s22 x0), (14, aI ((List.length x0 : Nat) : Int)), (15, aI (((i : Nat) : Int) + 1))], [(1, oR (.int 3) (LA.addS (combTo x0 x1 i) (x0.getD i []) (x1.getD i 0)))]⟩) { ts := [1, 4, 5, 13, 14, 15], os := [1] } h (by kernel_rfl)
  exact ⟨i + 1, at_eq h (st_congr2 (fun (d0 : List Int) (d1 : Int) => (⟨[(1, aF (.int 3) x1), (4, .p (.c (cN))), (5, aS 1), (13, aF s22 x0), (14, aI ((List.length x0 : Nat) : Int)), (15, aI d1)], [(1, oR (.int 3) d0)]⟩ : St)) (show ((LA.addS (combTo x0 x1 i) (x0.getD i []) (x1.getD i 0)) : List Int) = (combTo x0 x1 (i + 1)) from by first | with_reducible rfl | (rfl) | rfl) (show (((i : Nat) : Int) + 1 : Int) = (((i + 1) : Nat) : Int) from by first | with_reducible rfl | (omega) | rfl)), (by omega), (by omega)⟩
 ·replace h1 : ¬ (((i : Nat) : Int) < ((List.length x0 : Nat) : Int)) := of_decide_eq_false h1
  refine wp_exit (then_exit (then_exit (in_hit (then_normal (wp_seq ?_)))))
  refine at_regq [] { ts := [4], os := [1] } [] gamOK hT h (by kernel_rfl) trivial fun a w h => then_normal (wp_ret ?_)
  exact at_return ((combTo x0 x1 i), ()) [] h (by kernel_rfl) trivial (congrArg (fun z => (z, ())) (show ((combTo x0 x1 i)) = combS x0 x1 from by (show _ = combTo x0 x1 (List.length x0); rw [show List.length x0 = i by omega])))

abbrev Q_spec_Combine := (fun (x0 : (List (List Int))) (x1 : (List Int)) => Sh.fit s37 x0 ∧ Sh.fit s22 x1)
def S_spec_Combine : Sum := { fid := 116, dom := [s37, s22], cod := [s22], dp := true, fz := false, pre := fun x => Q_spec_Combine x.1 x.2.1, g := fun x => ((combV x.1 x.2.1), ()) }
def S_spec_Combine_tab : List (Nat × Sum) := [(115, S_spec_IsValidVector), (158, S_spec_AddScaled)]
theorem S_spec_Combine_ok : FnOK Tryz.prog 116 S_spec_Combine := by
 refine at_enter 64 (fun x => ⟨[(0, aF s22 x.1), (1, aF (.int 3) x.2.1)], []⟩) Tryz.func116 rfl (by kernel_rfl) (fun x => rfl) ?_
 rintro w0 Z0 ⟨x0, x1, u⟩ a w
 revert x0 x1
 intro (x0 : (List (List Int))) (x1 : (List Int)) hpre hlens h
 replace hpre : Q_spec_Combine x0 x1 := hpre
 have hT : TabOK Tryz.prog S_spec_Combine_tab := (.cons S_spec_IsValidVector_ok (.cons S_spec_AddScaled_ok .nil))
 obtain ⟨hf0, hf1⟩ := hpre
 have hn0_1 : List.length x0 ≤ 1073741824 := hf0.1
 have hn1_2 : List.length x1 ≤ 1073741824 := hf1.1
 refine wp_seq ?_
 refine at_regq [] { ts := [0, 1, 4], os := [] } [] gamOK hT h (by kernel_rfl) trivial fun a w h => then_normal (wp_seq (wp_seq ?_))
 by_cases h1 : ((List.length x0 : Nat) : Int) = 0
 ·refine at_regq [{}, {}, { hint := some (aB true) }] { ts := [0, 1, 4, 21], os := [] } [(AV.p (.c (.v (.bool (decide (((List.length x0 : Nat) : Int) = 0))))) = AV.p (.c (.v (.bool true))))] gamOK hT h (by kernel_rfl) ⟨hint_bool (decide_eq_true h1), trivial⟩ fun a w h => then_normal ?_
  refine at_test true h (by kernel_rfl) (fun hh => ?_) (fun hh => nomatch hh)
  refine wp_seq ?_
  refine at_regq [{ ids := [1] }] { ts := [0, 1, 4], os := [1] } [] gamOK hT h (by kernel_rfl) trivial fun a w h => then_normal (wp_ret (then_ret ?_))
  exact at_return (([] : List Int), ()) [] h (by kernel_rfl) trivial (congrArg (fun z => (z, ())) (show (([] : List Int)) = combV x0 x1 from by first | exact combV_n (by first | (left; omega) | (right; left; omega) | (right; right; left; assumption) | (right; right; right; assumption)) | (rw [← combV_y (by omega) (by omega) (by assumption) (all_of (z := []) (i := i) (by omega) hok0.2)]; show _ = combTo x0 x1 (List.length x0); rw [show List.length x0 = i by omega]; done) | exact combV_n (Or.inr (Or.inr (Or.inr (all_at (z := []) (i := i) (by omega) (by (show ((validV _) && _) = false; rw [Bool.and_eq_false_iff]; first | (left; assumption) | (right; exact decide_eq_false (by omega))))))))))
 ·by_cases h2 : ((List.length x0 : Nat) : Int) = ((List.length x1 : Nat) : Int)
  ·refine at_regq [{}, {}, { hint := some (aB false) }, {}, {}, {}, {}, {}, { hint := some (aB false) }] { ts := [0, 1, 4, 21], os := [] } [(AV.p (.c (.v (.bool (decide (((List.length x0 : Nat) : Int) = 0))))) = AV.p (.c (.v (.bool false)))), (AV.p (.c (.v (.bool (!decide (((List.length x0 : Nat) : Int) = ((List.length x1 : Nat) : Int)))))) = AV.p (.c (.v (.bool false)))), Q_spec_IsValidVector x1] gamOK hT h (by kernel_rfl) ⟨hint_bool (decide_eq_false h1), hint_bool (ndT h2), (by exact hf1), trivial⟩ fun a w h => then_normal ?_
   refine at_test (!(validV x1)) h (by kernel_rfl) (fun h3 => ?_) (fun h3 => ?_)
   ·replace h3 : (validV x1) = false := notT h3
    refine wp_seq ?_
    refine at_regq [{ ids := [1] }] { ts := [0, 1, 4], os := [1] } [] gamOK hT h (by kernel_rfl) trivial fun a w h => then_normal (wp_ret (then_ret ?_))
    exact at_return (([] : List Int), ()) [] h (by kernel_rfl) trivial (congrArg (fun z => (z, ())) (show (([] : List Int)) = combV x0 x1 from by first | exact combV_n (by first | (left; omega) | (right; left; omega) | (right; right; left; assumption) | (right; right; right; assumption)) | (rw [← combV_y (by omega) (by omega) (by assumption) (all_of (z := []) (i := i) (by omega) hok0.2)]; show _ = combTo x0 x1 (List.length x0); rw [show List.length x0 = i by omega]; done) | exact combV_n (Or.inr (Or.inr (Or.inr (all_at (z := []) (i := i) (by omega) (by (show ((validV _) && _) = false; rw [Bool.and_eq_false_iff]; first | (left; assumption) | (right; exact decide_eq_false (by omega))))))))))
   ·replace h3 : (validV x1) = true := notF h3
    have hvh3 := validV_t h3
    refine wp_skip (then_normal (wp_seq ?_))
    refine at_regq [{}, {}, {}, {}, { ids := [2] }] { ts := [0, 1, 4, 5], os := [2] } [(0 : Int) ≤ 0 ∧ 0 < ((List.length x0 : Nat) : Int), (0 : Int) ≤ ((List.length (x0.getD 0 []) : Nat) : Int) ∧ ((List.length (x0.getD 0 []) : Nat) : Int) = ((List.length (x0.getD 0 []) : Nat) : Int) ∧ ((List.length (x0.getD 0 []) : Nat) : Int) * (8 : Nat) ≤ (140737488355328 : Int)] gamOK hT h (by kernel_rfl) ⟨(by refine ⟨?_, ?_⟩ <;> (first | omega | (simp only [lsA]; omega) | (simp <;> omega))), (by refine ⟨?_, ?_, ?_⟩ <;> ((have hA0 := mul_f ((List.length (x0.getD 0 []) : Nat) : Int) (8 : Nat); have hL1 := (show List.length (x0.getD 0 []) ≤ 1073741824 from ((Sh.fit_getD hf0 0)).1); first | omega | (simp only [lsA]; omega) | (simp <;> omega)))), trivial⟩ fun a w h => then_normal (wp_seq (wp_seq ?_))
    refine at_regq [] { ts := [0, 1, 4, 5, 6], os := [2] } [] gamOK hT h (by kernel_rfl) trivial fun a w h => then_normal (wp_block ?_)
    replace h := at_out (σ' := ⟨[(0, aF s22 x0), (1, aF (.int 3) x1), (4, .p (.c (cN))), (5, aS 2), (6, aI 0)], [(2, oR (.int 3) (List.replicate (List.length (x0.getD 0 [])) (0 : Int)))]⟩) { ts := [0, 1, 4, 5, 6], os := [2] } h (by kernel_rfl)
    refine at_loop (fun i : Nat => (⟨[(0, aF s22 x0), (1, aF (.int 3) x1), (4, .p (.c (cN))), (5, aS 2), (6, aI ((i : Nat) : Int))], [(2, oR (.int 3) (combTo x0 x1 i))]⟩ : St)) (fun i => (i ≤ List.length x0 ∧ allTo1 (cvB x0) x0 [] i)) (fun i => List.length x0 - i) (0) h (st_congr2 (fun (d0 : List Int) (d1 : Int) => (⟨[(0, aF s22 x0), (1, aF (.int 3) x1), (4, .p (.c (cN))), (5, aS 2), (6, aI d1)], [(2, oR (.int 3) d0)]⟩ : St)) (show ((List.replicate (List.length (x0.getD 0 [])) (0 : Int)) : List Int) = (combTo x0 x1 (0)) from by first | with_reducible rfl | (rfl) | rfl) (show (0 : Int) = (((0) : Nat) : Int) from by first | with_reducible rfl | (rfl) | rfl)) (by exact ⟨Nat.zero_le _, allTo1_zero⟩) ?_
    intro i a w hok0 h
    refine wp_seq (wp_seq ?_)
    refine at_regq [] { ts := [0, 1, 4, 5, 6, 31], os := [2] } [] gamOK hT h (by kernel_rfl) trivial fun a w h => then_normal ?_
    refine at_test (decide (((i : Nat) : Int) < ((List.length x0 : Nat) : Int))) h (by kernel_rfl) (fun h4 => ?_) (fun h4 => ?_)
    ·replace h4 : ((i : Nat) : Int) < ((List.length x0 : Nat) : Int) := of_decide_eq_true h4
     have hvr := (validV_t (v := x1) (by assumption)).2.2
     have hck := hvr i
     refine wp_skip (then_normal (wp_seq (wp_block (wp_seq (wp_seq ?_)))))
     rcases Bool.eq_false_or_eq_true (!(validV (x0.getD i []))) with h5 | h5
     ·have hzh5 : (validV (x0.getD i [])) = false := notT h5
      refine at_anyq [{}, {}, {}, {}, {}, { hint := some (aB true) }, {}, {}, {}, {}, {}, {}, {}, {}, {}, {}, {}, {}] { ts := [0, 1, 4, 5, 6, 41, 42, 43, 44, 45, 46, 47, 48, 49, 50, 51], os := [2] } [(0 : Int) ≤ ((i : Nat) : Int) ∧ ((i : Nat) : Int) < ((List.length x0 : Nat) : Int), Q_spec_IsValidVector (x0.getD i []), (AV.p (.c (.v (.bool (!(validV (x0.getD i [])))))) = AV.p (.c (.v (.bool true))))] gamOK hT mixed h (by kernel_rfl) ⟨(by refine ⟨?_, ?_⟩ <;> (first | omega | (simp only [lsA]; omega) | (simp <;> omega))), (by exact (Sh.fit_getD hf0 i)), hint_bool (h5), trivial⟩ fun a w h => then_normal ?_
      refine at_test true h (by kernel_rfl) (fun hh => ?_) (fun hh => nomatch hh)
      refine wp_seq ?_
      refine at_regq [{ ids := [3] }] { ts := [0, 1, 4, 5, 6, 41, 42, 43, 44, 45, 46, 47, 48, 49, 50], os := [2, 3] } [] gamOK hT h (by kernel_rfl) trivial fun a w h => then_normal (wp_ret (then_ret (in_ret (then_ret (then_ret (in_ret (then_ret ?_)))))))
      exact at_return (([] : List Int), ()) [] h (by kernel_rfl) trivial (congrArg (fun z => (z, ())) (show (([] : List Int)) = combV x0 x1 from by first | exact combV_n (by first | (left; omega) | (right; left; omega) | (right; right; left; assumption) | (right; right; right; assumption)) | (rw [← combV_y (by omega) (by omega) (by assumption) (all_of (z := []) (i := i) (by omega) hok0.2)]; show _ = combTo x0 x1 (List.length x0); rw [show List.length x0 = i by omega]; done) | exact combV_n (Or.inr (Or.inr (Or.inr (all_at (z := []) (i := i) (by omega) (by (show ((validV _) && _) = false; rw [Bool.and_eq_false_iff]; first | (left; assumption) | (right; exact decide_eq_false (by omega))))))))))
     ·have hzh5 : (validV (x0.getD i [])) = true := notF h5
      have hvh5 := validV_t (notF h5)
      refine at_anyq [{}, {}, {}, {}, {}, { hint := some (aB false) }, {}, {}, {}, {}, {}, {}, {}, {}, {}, {}, {}, {}] { ts := [0, 1, 4, 5, 6, 41, 42, 43, 44, 45, 46, 47, 48, 49, 50, 51], os := [2] } [(0 : Int) ≤ ((i : Nat) : Int) ∧ ((i : Nat) : Int) < ((List.length x0 : Nat) : Int), Q_spec_IsValidVector (x0.getD i []), (AV.p (.c (.v (.bool (!(validV (x0.getD i [])))))) = AV.p (.c (.v (.bool false)))), (0 : Int) ≤ ((i : Nat) : Int) ∧ ((i : Nat) : Int) < ((List.length x0 : Nat) : Int), (0 : Int) ≤ 0 ∧ 0 < ((List.length x0 : Nat) : Int)] gamOK hT mixed h (by kernel_rfl) ⟨(by refine ⟨?_, ?_⟩ <;> (first | omega | (simp only [lsA]; omega) | (simp <;> omega))), (by exact (Sh.fit_getD hf0 i)), hint_bool (h5), (by refine ⟨?_, ?_⟩ <;> (first | omega | (simp only [lsA]; omega) | (simp <;> omega))), (by refine ⟨?_, ?_⟩ <;> (first | omega | (simp only [lsA]; omega) | (simp <;> omega))), trivial⟩ fun a w h => then_normal ?_
      refine at_test (!decide (((List.length (x0.getD i []) : Nat) : Int) = ((List.length (x0.getD 0 []) : Nat) : Int))) h (by kernel_rfl) (fun h6 => ?_) (fun h6 => ?_)
      ·replace h6 : ¬ (((List.length (x0.getD i []) : Nat) : Int) = ((List.length (x0.getD 0 []) : Nat) : Int)) := of_decide_eq_false (notT h6)
       refine wp_seq ?_
       refine at_regq [{ ids := [3] }] { ts := [0, 1, 4, 5, 6, 41, 42, 43, 44, 45, 46, 47, 48, 49, 50], os := [2, 3] } [] gamOK hT h (by kernel_rfl) trivial fun a w h => then_normal (wp_ret (then_ret (in_ret (then_ret (then_ret (in_ret (then_ret ?_)))))))
       exact at_return (([] : List Int), ()) [] h (by kernel_rfl) trivial (congrArg (fun z => (z, ())) (show (([] : List Int)) = combV x0 x1 from by first | exact combV_n (by first | (left; omega) | (right; left; omega) | (right; right; left; assumption) | (right; right; right; assumption)) | (rw [← combV_y (by omega) (by omega) (by assumption) (all_of (z := []) (i := i) (by omega) hok0.2)]; show _ = combTo x0 x1 (List.length x0); rw [show List.length x0 = i by omega]; done) | exact combV_n (Or.inr (Or.inr (Or.inr (all_at (z := []) (i := i) (by omega) (by (show ((validV _) && _) = false; rw [Bool.and_eq_false_iff]; first | (left; assumption) | (right; exact decide_eq_false (by omega))))))))))
      ·replace h6 : ((List.length (x0.getD i []) : Nat) : Int) = ((List.length (x0.getD 0 []) : Nat) : Int) := of_decide_eq_true (notF h6)
       refine wp_skip (then_normal ?_)
       refine at_anyq [{}, {}, {}, {}, {}, {}, {}, {}, {}, { ids := [4] }, {}] { ts := [0, 1, 4, 5, 6, 41, 42, 43, 44, 45, 46, 47, 48, 49, 50], os := [4] } [(0 : Int) ≤ ((i : Nat) : Int) ∧ ((i : Nat) : Int) < ((List.length x0 : Nat) : Int), (0 : Int) ≤ ((i : Nat) : Int) ∧ ((i : Nat) : Int) < ((List.length x1 : Nat) : Int), Q_spec_AddScaled (combTo x0 x1 i) (x0.getD i []) (x1.getD i 0)] gamOK hT mixed h (by kernel_rfl) ⟨(by refine ⟨?_, ?_⟩ <;> (first | omega | (simp only [lsA]; omega) | (simp <;> omega))), (by refine ⟨?_, ?_⟩ <;> (first | omega | (simp only [lsA]; omega) | (simp <;> omega))), (by (have hci : cvB x0 (x0.getD i []) = true := (by (show ((validV _) && _) = true; rw [Bool.and_eq_true]; exact ⟨by assumption, decide_eq_true (by omega)⟩)); have hcv := cvB_ok hci; have hco := combTo_ok (n := List.length (x0.getD 0 [])) (vs := x0) (cs := x1) rfl hvr i (fun j hj => cvB_ok (hok0.2 j hj)); exact ⟨fitV hco (cvB_40 hci), fitV hcv (cvB_40 hci)⟩)), trivial⟩ fun a w h => in_normal (then_normal ?_)
       refine at_regq [{}, { nw := true }] { ts := [0, 1, 4, 5, 6, 41, 42, 43, 44, 45, 46, 47, 48, 49, 50], os := [4] } [I64 (((i : Nat) : Int) + 1)] gamOK hT h (by kernel_rfl) ⟨⟨by first | omega | (simp only [lsA]; omega) | (simp <;> omega), by first | omega | (simp only [lsA]; omega) | (simp <;> omega)⟩, trivial⟩ fun a w h => ?_
       replace h := at_out (σ' := ⟨[(0, aF s22 x0), (1, aF (.int 3) x1), (4, .p (.c (cN))), (5, aS 2), (6, aI (((i : Nat) : Int) + 1))], [(2, oR (.int 3) (addV (combTo x0 x1 i) (x0.getD i []) (x1.getD i 0)))]⟩) { ts := [0, 1, 4, 5, 6], os := [4], rn := [(4, 2)] } h (by kernel_rfl)
       exact ⟨i + 1, at_eq h (st_congr2 (fun (d0 : List Int) (d1 : Int) => (⟨[(0, aF s22 x0), (1, aF (.int 3) x1), (4, .p (.c (cN))), (5, aS 2), (6, aI d1)], [(2, oR (.int 3) d0)]⟩ : St)) (show ((addV (combTo x0 x1 i) (x0.getD i []) (x1.getD i 0)) : List Int) = (combTo x0 x1 (i + 1)) from by first | with_reducible rfl | ((have hci : cvB x0 (x0.getD i []) = true := (by (show ((validV _) && _) = true; rw [Bool.and_eq_true]; exact ⟨by assumption, decide_eq_true (by omega)⟩)); have hcv := cvB_ok hci; have hco := combTo_ok (n := List.length (x0.getD 0 [])) (vs := x0) (cs := x1) rfl hvr i (fun j hj => cvB_ok (hok0.2 j hj)); rw [addV_L hco hcv (cvB_40 hci) (by omega)]; rfl)) | rfl) (show (((i : Nat) : Int) + 1 : Int) = (((i + 1) : Nat) : Int) from by first | with_reducible rfl | (omega) | rfl)), (by exact ⟨by omega, allTo1_succ hok0.2 (by (show ((validV _) && _) = true; rw [Bool.and_eq_true]; exact ⟨by assumption, decide_eq_true (by omega)⟩))⟩), (by omega)⟩
    ·replace h4 : ¬ (((i : Nat) : Int) < ((List.length x0 : Nat) : Int)) := of_decide_eq_false h4
     refine wp_exit (then_exit (then_exit (in_hit (then_normal (wp_seq ?_)))))
     refine at_regq [] { ts := [4], os := [2] } [] gamOK hT h (by kernel_rfl) trivial fun a w h => then_normal (wp_ret ?_)
     exact at_return ((combTo x0 x1 i), ()) [] h (by kernel_rfl) trivial (congrArg (fun z => (z, ())) (show ((combTo x0 x1 i)) = combV x0 x1 from by first | exact combV_n (by first | (left; omega) | (right; left; omega) | (right; right; left; assumption) | (right; right; right; assumption)) | (rw [← combV_y (by omega) (by omega) (by assumption) (all_of (z := []) (i := i) (by omega) hok0.2)]; show _ = combTo x0 x1 (List.length x0); rw [show List.length x0 = i by omega]; done) | exact combV_n (Or.inr (Or.inr (Or.inr (all_at (z := []) (i := i) (by omega) (by (show ((validV _) && _) = false; rw [Bool.and_eq_false_iff]; first | (left; assumption) | (right; exact decide_eq_false (by omega))))))))))
  ·refine at_regq [{}, {}, { hint := some (aB false) }, {}, {}, {}, {}, {}, { hint := some (aB true) }] { ts := [0, 1, 4, 21], os := [] } [(AV.p (.c (.v (.bool (decide (((List.length x0 : Nat) : Int) = 0))))) = AV.p (.c (.v (.bool false)))), (AV.p (.c (.v (.bool (!decide (((List.length x0 : Nat) : Int) = ((List.length x1 : Nat) : Int)))))) = AV.p (.c (.v (.bool true))))] gamOK hT h (by kernel_rfl) ⟨hint_bool (decide_eq_false h1), hint_bool (ndF h2), trivial⟩ fun a w h => then_normal ?_
   refine at_test true h (by kernel_rfl) (fun hh => ?_) (fun hh => nomatch hh)
   refine wp_seq ?_
   refine at_regq [{ ids := [1] }] { ts := [0, 1, 4], os := [1] } [] gamOK hT h (by kernel_rfl) trivial fun a w h => then_normal (wp_ret (then_ret ?_))
   exact at_return (([] : List Int), ()) [] h (by kernel_rfl) trivial (congrArg (fun z => (z, ())) (show (([] : List Int)) = combV x0 x1 from by first | exact combV_n (by first | (left; omega) | (right; left; omega) | (right; right; left; assumption) | (right; right; right; assumption)) | (rw [← combV_y (by omega) (by omega) (by assumption) (all_of (z := []) (i := i) (by omega) hok0.2)]; show _ = combTo x0 x1 (List.length x0); rw [show List.length x0 = i by omega]; done) | exact combV_n (Or.inr (Or.inr (Or.inr (all_at (z := []) (i := i) (by omega) (by (show ((validV _) && _) = false; rw [Bool.and_eq_false_iff]; first | (left; assumption) | (right; exact decide_eq_false (by omega))))))))))

def D__impl_Recoder_seed := (fun (r : T47) (s : Int) => keyed s ([r.1, r.2.2.2.2]))
abbrev Q__impl_Recoder_seed := (fun (x0 : T47) (x1 : Int) => Sh.fit s47 x0)
def S__impl_Recoder_seed : Sum := { fid := 130, dom := [s47, (.int 3)], cod := [(.int 3)], dp := true, fz := false, pre := fun x => Q__impl_Recoder_seed x.1 x.2.1, g := fun x => ((D__impl_Recoder_seed x.1 x.2.1), ()) }
def S__impl_Recoder_seed_tab : List (Nat × Sum) := [(167, S_impl_KeyedHash)]
theorem S__impl_Recoder_seed_ok : FnOK Tryz.prog 130 S__impl_Recoder_seed := by
 refine at_enter 12 (fun x => ⟨[(0, aG [cI x.1.1, cI x.1.2.1, cI x.1.2.2.1, .ro s49 x.1.2.2.2.1, cI x.1.2.2.2.2]), (1, aI x.2.1)], []⟩) Tryz.func130 rfl (by kernel_rfl) (fun x => rfl) ?_
 rintro w0 Z0 ⟨x0, x1, u⟩ a w
 revert x0 x1
 intro (x0 : T47) (x1 : Int) hpre hlens h
 replace hpre : Q__impl_Recoder_seed x0 x1 := hpre
 have hT : TabOK Tryz.prog S__impl_Recoder_seed_tab := (.cons S_impl_KeyedHash_ok .nil)
 have hf0 : Sh.fit s47 x0 := hpre
 have hn0_1 : List.length x0.2.2.2.1 ≤ 1073741824 := hf0.2.2.2.1.1
 refine wp_seq ?_
 refine at_regq [{ ids := [1] }] { ts := [1, 2, 4], os := [1] } [] gamOK hT h (by kernel_rfl) trivial fun a w h => then_normal (wp_seq ?_)
 refine at_regq [{}, {}, {}, {}, {}, { ids := [2] }] { ts := [4], os := [] } [pKey x1 ([x0.1, x0.2.2.2.2])] gamOK hT h (by kernel_rfl) ⟨(by (show _ ≤ _; simp)), trivial⟩ fun a w h => then_normal (wp_ret ?_)
 exact at_return ((keyed x1 ([x0.1, x0.2.2.2.2])), ()) [] h (by kernel_rfl) trivial (congrArg (fun z => (z, ())) (show ((keyed x1 ([x0.1, x0.2.2.2.2]))) = D__impl_Recoder_seed x0 x1 from by unfold D__impl_Recoder_seed; rfl))

def D_spec_l15Seed := (fun (r : T47) (s : Int) => keyed s ([r.1, r.2.2.2.2]))
abbrev Q_spec_l15Seed := (fun (x0 : T47) (x1 : Int) => Sh.fit s47 x0)
def S_spec_l15Seed : Sum := { fid := 62, dom := [s47, (.int 3)], cod := [(.int 3)], dp := true, fz := false, pre := fun x => Q_spec_l15Seed x.1 x.2.1, g := fun x => ((D_spec_l15Seed x.1 x.2.1), ()) }
def S_spec_l15Seed_tab : List (Nat × Sum) := [(119, S_spec_KeyedHash)]
theorem S_spec_l15Seed_ok : FnOK Tryz.prog 62 S_spec_l15Seed := by
 refine at_enter 12 (fun x => ⟨[(0, aG [cI x.1.1, cI x.1.2.1, cI x.1.2.2.1, .ro s49 x.1.2.2.2.1, cI x.1.2.2.2.2]), (1, aI x.2.1)], []⟩) Tryz.func62 rfl (by kernel_rfl) (fun x => rfl) ?_
 rintro w0 Z0 ⟨x0, x1, u⟩ a w
 revert x0 x1
 intro (x0 : T47) (x1 : Int) hpre hlens h
 replace hpre : Q_spec_l15Seed x0 x1 := hpre
 have hT : TabOK Tryz.prog S_spec_l15Seed_tab := (.cons S_spec_KeyedHash_ok .nil)
 have hf0 : Sh.fit s47 x0 := hpre
 have hn0_1 : List.length x0.2.2.2.1 ≤ 1073741824 := hf0.2.2.2.1.1
 refine wp_seq ?_
 refine at_regq [{ ids := [1] }] { ts := [1, 2, 4], os := [1] } [] gamOK hT h (by kernel_rfl) trivial fun a w h => then_normal (wp_seq ?_)
 refine at_regq [{}, {}, {}, {}, {}, { ids := [2] }] { ts := [4], os := [] } [pKey x1 ([x0.1, x0.2.2.2.2])] gamOK hT h (by kernel_rfl) ⟨(by (show _ ≤ _; simp)), trivial⟩ fun a w h => then_normal (wp_ret ?_)
 exact at_return ((keyed x1 ([x0.1, x0.2.2.2.2])), ()) [] h (by kernel_rfl) trivial (congrArg (fun z => (z, ())) (show ((keyed x1 ([x0.1, x0.2.2.2.2]))) = D_spec_l15Seed x0 x1 from by unfold D_spec_l15Seed; rfl))

def codePk (g : T52) (cs : List Int) : T49 × Bool := if validG g = true ∧ validV cs = true ∧ cs.length = g.2.length then ((g.1, cs, combV g.2 cs), true) else ((0, [], []), false)
theorem codePk_y {g : T52} {cs : List Int} (h1 : validG g = true) (h2 : validV cs = true) (h3 : cs.length = g.2.length) : ((g.1, cs, combV g.2 cs), true) = codePk g cs := (if_pos ⟨h1, h2, h3⟩).symm
theorem codePk_n {g : T52} {cs : List Int} (h : validG g = false ∨ validV cs = false ∨ ¬ cs.length = g.2.length) : ((0, [], []), false) = codePk g cs := by
 unfold codePk; rw [if_neg]
 rintro ⟨h1, h2, h3⟩
 rcases h with h | h | h
 ·rw [h1] at h; cases h
 ·rw [h2] at h; cases h
 ·exact h h3
theorem genP {g : T52} (h : validG g = true) {cs : List Int} (hc : LA.VokB g.2.length cs) : combP g.2 cs := by
 have h1 := validG_t h
 have hm := validM_t h1.2.2.1
 have hk := validM_ok h1.2.2.1
 have h0 := (validV_t (hm.2 _ (getD_mem (z := []) (show 0 < g.2.length by omega))).1).1
 exact ⟨⟨by omega, by have := hc.1; omega, h0⟩, fun j hj => hk _ (LA.getD_in hj), fun j => hc.rng j⟩
theorem genC {g : T52} (h : validG g = true) {cs : List Int} (hc : LA.VokB g.2.length cs) : combV g.2 cs = combS g.2 cs := by
 have h1 := validG_t h
 have hm := validM_t h1.2.2.1
 refine (combV_y (by omega) hc.1.symm (validV_of hc (by omega)) ?_).symm
 rw [List.all_eq_true]; intro v hv
 have h2 := hm.2 v hv
 unfold cvB
 rw [Bool.and_eq_true]; exact ⟨h2.1, decide_eq_true h2.2⟩
def sysC (r : T47) (s : Int) : List Int := if r.2.2.2.2 ≥ r.2.1 then rndV (keyed s ([r.1, r.2.2.2.2])) r.2.1 else unitV r.2.1 r.2.2.2.2
def sysD (r : T47) (g : T52) (s : Int) : T49 × Bool := if r.2.2.2.2 = 1000000000000 then ((0, [], []), false) else ((g.1, sysC r s, combS g.2 (sysC r s)), true)
def sysU (r : T47) (_ : T52) (_ : Int) : T47 := if r.2.2.2.2 = 1000000000000 then r else (r.1, r.2.1, r.2.2.1, r.2.2.2.1, r.2.2.2.2 + 1)
def sysOK (g : T52) (r : T47) : Bool := (validG g && validR r) && (decide (g.1 = r.1) && (decide (((List.length g.2 : Nat) : Int) = r.2.1) && decide (colsOf g.2 = r.2.2.1)))
def sysP (g : T52) (r : T47) (s : Int) : T47 × T49 × Bool := if sysOK g r = true then (sysU r g s, sysD r g s) else (r, (0, [], []), false)
theorem sysOK_t {g : T52} {r : T47} (h1 : validG g = true) (h2 : validR r = true) (h3 : g.1 = r.1) (h4 : ((List.length g.2 : Nat) : Int) = r.2.1) (h5 : colsOf g.2 = r.2.2.1) : sysOK g r = true := by
 unfold sysOK; rw [h1, h2, decide_eq_true h3, decide_eq_true h4, decide_eq_true h5]; rfl
theorem sysOK_f {g : T52} {r : T47} (h : validG g = false ∨ validR r = false ∨ ¬ g.1 = r.1 ∨ ¬ ((List.length g.2 : Nat) : Int) = r.2.1 ∨ ¬ colsOf g.2 = r.2.2.1) : sysOK g r = false := by
 unfold sysOK
 rcases h with h | h | h | h | h
 ·rw [h]; rfl
 ·rw [h]; simp
 ·rw [decide_eq_false h]; simp
 ·rw [decide_eq_false h]; simp
 ·rw [decide_eq_false h]; simp
theorem sysP_y {g : T52} {r : T47} {s : Int} (h : sysOK g r = true) : (sysU r g s, sysD r g s) = sysP g r s := (if_pos h).symm
theorem sysP_n {g : T52} {r : T47} {s : Int} (h : sysOK g r = false) : (r, (0, [], []), false) = sysP g r s := (if_neg (by rw [h]; decide)).symm
theorem sysC_ok {g : T52} {r : T47} {s : Int} (hr : validR r = true) (h : ((List.length g.2 : Nat) : Int) = r.2.1) : LA.VokB g.2.length (sysC r s) := by
 have h1 := validR_t hr
 unfold sysC
 split
 ·have := rndV_ok (s := keyed s ([r.1, r.2.2.2.2])) (w := r.2.1) (by omega)
  rwa [show r.2.1.toNat = g.2.length by omega] at this
 ·have := unitL_ok r.2.1.toNat r.2.2.2.2
  rw [unitV_y (inR_true (by omega)) (inR_true (by omega)), show r.2.1.toNat = g.2.length by omega] at this
  exact this
theorem sysC_1 {r : T47} {s : Int} (h : r.2.2.2.2 ≥ r.2.1) : sysC r s = rndV (keyed s ([r.1, r.2.2.2.2])) r.2.1 := if_pos h
theorem sysC_2 {r : T47} {s : Int} (h : ¬ r.2.2.2.2 ≥ r.2.1) : sysC r s = unitV r.2.1 r.2.2.2.2 := if_neg h
theorem sysD_y {r : T47} {g : T52} {s : Int} (h : r.2.2.2.2 = 1000000000000) : ((0, [], []), false) = sysD r g s := (if_pos h).symm
theorem sysD_n {r : T47} {g : T52} {s : Int} (h : ¬ r.2.2.2.2 = 1000000000000) {cs : List Int} (hc : sysC r s = cs) : ((g.1, cs, combS g.2 cs), true) = sysD r g s := by unfold sysD; rw [if_neg h, hc]
theorem sysU_y {r : T47} {g : T52} {s : Int} (h : r.2.2.2.2 = 1000000000000) : r = sysU r g s := (if_pos h).symm
theorem sysU_n {r : T47} {g : T52} {s : Int} (h : ¬ r.2.2.2.2 = 1000000000000) : (r.1, r.2.1, r.2.2.1, r.2.2.2.1, r.2.2.2.2 + 1) = sysU r g s := (if_neg h).symm
theorem codePk_sys {r : T47} {g : T52} {s : Int} (hg : validG g = true) (hr : validR r = true) (hl : ((List.length g.2 : Nat) : Int) = r.2.1) (hs : ¬ r.2.2.2.2 = 1000000000000) : codePk g (sysC r s) = sysD r g s := by
 have hc := sysC_ok (s := s) hr hl
 have h1 := validG_t hg
 rw [← codePk_y hg (validV_of hc (by omega)) hc.1, genC hg hc]
 exact sysD_n hs rfl
theorem sysP_sz (g : T52) (r : T47) (s : Int) : Sh.sz s47 (sysP g r s).1 = Sh.sz s47 r ∧ Sh.sz s49 (sysP g r s).2.1 ≤ 80 := by
 unfold sysP; split
 ·rename_i h
  refine ⟨by show Sh.sz s47 (sysU r g s) = _; unfold sysU; split <;> rfl, ?_⟩
  show Sh.sz s49 (sysD r g s).1 ≤ 80
  unfold sysD; split
  ·exact Nat.zero_le _
  ·show 0 + (Sh.sz s22 _ + Sh.sz s22 _) ≤ 80
   rw [sz_flat (by rfl), sz_flat (by rfl)]
   unfold sysOK at h
   rw [Bool.and_eq_true, Bool.and_eq_true, Bool.and_eq_true, Bool.and_eq_true] at h
   have hc := sysC_ok (g := g) (s := s) h.1.2 (of_decide_eq_true h.2.2.1)
   have h1 := combV_len g.2 (sysC r s)
   have h2 := validG_t h.1.1
   rw [genC h.1.1 hc] at h1
   have := hc.1
   dsimp only; omega
 ·exact ⟨rfl, Nat.zero_le _⟩
def D_impl_codePacket := (fun (g : T52) (cs : List Int) => (g.1, cs, combS g.2 cs))
abbrev Q_impl_codePacket := (fun (x0 : T52) (x1 : (List Int)) => Sh.fit s52 x0 ∧ Sh.fit s22 x1 ∧ combP x0.2 x1)
def S_impl_codePacket : Sum := { fid := 131, dom := [s52, s22], cod := [s49], dp := true, fz := false, pre := fun x => Q_impl_codePacket x.1 x.2.1, g := fun x => ((D_impl_codePacket x.1 x.2.1), ()), kinds := [.rd, .tk], upd := fun x => (x.1, (x.2.1, ())) }
def S_impl_codePacket_tab : List (Nat × Sum) := [(168, S_impl_combine)]
theorem S_impl_codePacket_ok : FnOK Tryz.prog 131 S_impl_codePacket := by
 refine at_enterI 13 [1] [] (fun us x => ⟨[(0, aG [cI x.1.1, .ro s22 x.1.2]), (1, aS 1)], [(1, oR (.int 3) x.2.1)]⟩) Tryz.func131 rfl (by kernel_rfl) (fun us x => rfl) ?_
 rintro w0 Z0 us ⟨x0, x1, u⟩ L a w
 revert x0 x1
 intro (x0 : T52) (x1 : (List Int)) hio hpre hlens h
 replace h : At w0 Z0 L 13 ⟨[(0, aG [cI x0.1, .ro s22 x0.2]), (1, aS 1)], [(1, oR (.int 3) x1)]⟩ a w := h
 replace hpre : Q_impl_codePacket x0 x1 := hpre
 have hT : TabOK Tryz.prog S_impl_codePacket_tab := (.cons S_impl_combine_ok .nil)
 obtain ⟨hf0, hf1, hpx⟩ := hpre
 have hn0_1 : List.length x0.2 ≤ 1073741824 := hf0.2.1
 have hn1_2 : List.length x1 ≤ 1073741824 := hf1.1
 refine wp_seq ?_
 refine at_regq [{ ids := [2] }, { ids := [3] }] { ts := [1, 2, 4], os := [1, 2, 3] } [] gamOK hT h (by kernel_rfl) trivial fun a w h => then_normal (wp_seq ?_)
 refine at_anyq [{}, {}, {}, {}, {}, {}, { ids := [4] }, {}, {}] { ts := [4], os := [1, 3, 4] } [Q_impl_combine x0.2 x1] gamOK hT mixed h (by kernel_rfl) ⟨(by exact ⟨hf0.2, hf1, hpx⟩), trivial⟩ fun a w h => then_normal (wp_ret ?_)
 exact at_returnI (S := S_impl_codePacket) (x := (x0, x1, ())) [1] [] (x0, (x1, ())) (some ((x0.1, (x1, (combS x0.2 x1))), ())) [] hio h (by kernel_rfl) trivial (by first | rfl | (show (x0, (x1, ())) = (x0, (x1, ())))) (fun z e => (Option.some.inj e) ▸ (congrArg (fun z => (z, ())) (show ((x0.1, (x1, (combS x0.2 x1)))) = D_impl_codePacket x0 x1 from by unfold D_impl_codePacket; rfl)))

abbrev Q__P_impl_Recoder_systematic := (fun (x0 : T47) (x1 : T52) (x2 : Int) => Sh.fit s47 x0 ∧ Sh.fit s52 x1 ∧ (validG x1 = true ∧ validR x0 = true ∧ ((List.length x1.2 : Nat) : Int) = x0.2.1))
def S__P_impl_Recoder_systematic : Sum := { fid := 69, dom := [s47, s52, (.int 3)], cod := [s49, (.bool 4)], dp := true, fz := false, pre := fun x => Q__P_impl_Recoder_systematic x.1 x.2.1 x.2.2.1, g := fun x => ((sysD x.1 x.2.1 x.2.2.1).1, ((sysD x.1 x.2.1 x.2.2.1).2, ())), kinds := [(.bx 47 0), .rd, .rd], upd := fun x => (sysU x.1 x.2.1 x.2.2.1, (x.2.1, (x.2.2.1, ()))) }
def S__P_impl_Recoder_systematic_tab : List (Nat × Sum) := [(128, S_impl_UnitVector), (130, S__impl_Recoder_seed), (129, S_impl_RandomVector), (131, S_impl_codePacket)]
theorem S__P_impl_Recoder_systematic_ok : FnOK Tryz.prog 69 S__P_impl_Recoder_systematic := by
 refine at_enterI 53 [1, 2] [3] (fun us x => ⟨[(0, aP 1 0), (1, aG [cI x.2.1.1, .ro s22 x.2.1.2]), (2, aI x.2.2.1)], [(1, oX 47 [cI x.1.1, cI x.1.2.1, cI x.1.2.2.1, .sl 2, cI x.1.2.2.2.2]), (2, oR s49 x.1.2.2.2.1), (3, oP 1 (S__P_impl_Recoder_systematic.hd us 0))]⟩) Tryz.func69 rfl (by kernel_rfl) (fun us x => rfl) ?_
 rintro w0 Z0 us ⟨x0, x1, x2, u⟩ L a w
 revert x0 x1 x2
 intro (x0 : T47) (x1 : T52) (x2 : Int) hio hpre hlens h
 replace h : At w0 Z0 L 53 ⟨[(0, aP 1 0), (1, aG [cI x1.1, .ro s22 x1.2]), (2, aI x2)], [(1, oX 47 [cI x0.1, cI x0.2.1, cI x0.2.2.1, .sl 2, cI x0.2.2.2.2]), (2, oR s49 x0.2.2.2.1), (3, oP 1 (S__P_impl_Recoder_systematic.hd us 0))]⟩ a w := h
 replace hpre : Q__P_impl_Recoder_systematic x0 x1 x2 := hpre
 have hT : TabOK Tryz.prog S__P_impl_Recoder_systematic_tab := (.cons S_impl_UnitVector_ok (.cons S__impl_Recoder_seed_ok (.cons S_impl_RandomVector_ok (.cons S_impl_codePacket_ok .nil))))
 obtain ⟨hf0, hf1, hpx⟩ := hpre
 have hn0_1 : List.length x0.2.2.2.1 ≤ 1073741824 := hf0.2.2.2.1.1
 have hn1_2 : List.length x1.2 ≤ 1073741824 := hf1.2.1
 have hvr := validR_t hpx.2.1
 have hvg := validG_t hpx.1
 have hc := sysC_ok (s := x2) hpx.2.1 hpx.2.2
 refine wp_seq ?_
 refine at_regq [{ ids := [4] }, { ids := [5] }] { ts := [0, 2, 4, 6, 7], os := [1, 2, 3, 4, 5] } [] gamOK hT h (by kernel_rfl) trivial fun a w h => then_normal (wp_seq (wp_seq ?_))
 refine at_regq [] { ts := [0, 2, 4, 6, 7, 13], os := [1, 2, 3, 4, 5] } [] gamOK hT h (by kernel_rfl) trivial fun a w h => then_normal ?_
 refine at_test (decide (x0.2.2.2.2 = 1000000000000)) h (by kernel_rfl) (fun h1 => ?_) (fun h1 => ?_)
 ·replace h1 : x0.2.2.2.2 = 1000000000000 := of_decide_eq_true h1
  refine wp_seq ?_
  refine at_regq [] { ts := [0, 2, 4, 6, 7], os := [1, 2, 3, 4, 5] } [] gamOK hT h (by kernel_rfl) trivial fun a w h => then_normal (wp_ret (then_ret ?_))
  exact at_returnI (S := S__P_impl_Recoder_systematic) (x := (x0, x1, x2, ())) [1, 2] [3] (x0, (x1, (x2, ()))) (some ((0, (([] : List Int), ([] : List Int))), (false, ()))) [S__P_impl_Recoder_systematic.hd us 0 = S__P_impl_Recoder_systematic.hd us 0] hio h (by kernel_rfl) ⟨rfl, trivial⟩ (by first | rfl | exact congrArg (fun (z : T47) => (z, (x1, (x2, ())))) (show (x0 : T47) = sysU x0 x1 x2 from by (first | exact sysU_y (by omega) | exact sysU_n (by omega)))) (fun z e => (Option.some.inj e) ▸ (congrArg (fun z => (z.1, z.2, ())) (show (((0, (([] : List Int), ([] : List Int))), false)) = sysD x0 x1 x2 from by (first | exact sysD_y (by omega) | exact sysD_n (by omega) (sysC_1 (by omega)) | exact sysD_n (by omega) (sysC_2 (by omega))))))
 ·replace h1 : ¬ (x0.2.2.2.2 = 1000000000000) := of_decide_eq_false h1
  refine wp_skip (then_normal (wp_seq ?_))
  refine at_anyq [{}, {}, {}, {}, {}, {}, {}, {}, { ids := [6] }, {}] { ts := [0, 2, 4, 6, 7, 8], os := [1, 2, 3, 4, 5, 6] } [True] gamOK hT mixed h (by kernel_rfl) ⟨trivial, trivial⟩ fun a w h => then_normal (wp_seq (wp_seq ?_))
  refine at_anyq [{}, {}, {}, {}, {}, {}, {}, {}, {}] { ts := [0, 2, 4, 6, 7, 8, 32], os := [1, 2, 3, 4, 5, 6] } [] gamOK hT mixed h (by kernel_rfl) trivial fun a w h => then_normal ?_
  refine at_test (decide (x0.2.2.2.2 ≥ x0.2.1)) h (by kernel_rfl) (fun h2 => ?_) (fun h2 => ?_)
  ·replace h2 : x0.2.2.2.2 ≥ x0.2.1 := of_decide_eq_true h2
   refine at_anyq [{}, {}, {}, {}, {}, {}, {}, {}, {}, { ids := [7] }, {}] { ts := [0, 4, 6, 7, 8], os := [1, 2, 3, 4, 5, 7] } [Q__impl_Recoder_seed x0 x2, True] gamOK hT mixed h (by kernel_rfl) ⟨(by exact hf0), trivial, trivial⟩ fun a w h => then_normal (wp_seq ?_)
   refine at_regq [{}, {}, {}, {}, { nw := true }] { ts := [4, 6, 7, 8], os := [1, 2, 3, 4, 5, 7] } [I64 (x0.2.2.2.2 + 1)] gamOK hT h (by kernel_rfl) ⟨⟨by first | omega | (simp only [lsA]; omega) | (simp <;> omega), by first | omega | (simp only [lsA]; omega) | (simp <;> omega)⟩, trivial⟩ fun a w h => then_normal (wp_seq ?_)
   refine at_regq [{}, {}, { ids := [8, 9] }] { ts := [6, 7], os := [1, 2, 3, 5, 8, 9] } [Q_impl_codePacket x1 (rndV (keyed x2 ([x0.1, x0.2.2.2.2])) x0.2.1)] gamOK hT h (by kernel_rfl) ⟨(by first | (rw [sysC_1 (by omega)] at hc; exact ⟨hf1, (Sh.fit_len (t := 22) (s := .int 3) rfl (by have := hc.1; omega)), genP hpx.1 hc⟩) | (rw [sysC_2 (by omega)] at hc; exact ⟨hf1, (Sh.fit_len (t := 22) (s := .int 3) rfl (by have := hc.1; omega)), genP hpx.1 hc⟩)), trivial⟩ fun a w h => then_normal (wp_ret ?_)
   exact at_returnI (S := S__P_impl_Recoder_systematic) (x := (x0, x1, x2, ())) [1, 2] [3] ((x0.1, (x0.2.1, (x0.2.2.1, (x0.2.2.2.1, x0.2.2.2.2 + 1)))), (x1, (x2, ()))) (some ((D_impl_codePacket x1 (rndV (keyed x2 ([x0.1, x0.2.2.2.2])) x0.2.1)), (true, ()))) [S__P_impl_Recoder_systematic.hd us 0 = S__P_impl_Recoder_systematic.hd us 0] hio h (by kernel_rfl) ⟨rfl, trivial⟩ (by first | rfl | exact congrArg (fun (z : T47) => (z, (x1, (x2, ())))) (show ((x0.1, (x0.2.1, (x0.2.2.1, (x0.2.2.2.1, x0.2.2.2.2 + 1)))) : T47) = sysU x0 x1 x2 from by (first | exact sysU_y (by omega) | exact sysU_n (by omega)))) (fun z e => (Option.some.inj e) ▸ (congrArg (fun z => (z.1, z.2, ())) (show (((D_impl_codePacket x1 (rndV (keyed x2 ([x0.1, x0.2.2.2.2])) x0.2.1)), true)) = sysD x0 x1 x2 from by (first | exact sysD_y (by omega) | exact sysD_n (by omega) (sysC_1 (by omega)) | exact sysD_n (by omega) (sysC_2 (by omega))))))
  ·replace h2 : ¬ (x0.2.2.2.2 ≥ x0.2.1) := of_decide_eq_false h2
   refine wp_skip (then_normal (wp_seq ?_))
   refine at_regq [{}, {}, {}, {}, { nw := true }] { ts := [4, 6, 7, 8], os := [1, 2, 3, 4, 5, 6] } [I64 (x0.2.2.2.2 + 1)] gamOK hT h (by kernel_rfl) ⟨⟨by first | omega | (simp only [lsA]; omega) | (simp <;> omega), by first | omega | (simp only [lsA]; omega) | (simp <;> omega)⟩, trivial⟩ fun a w h => then_normal (wp_seq ?_)
   refine at_regq [{}, {}, { ids := [10, 11] }] { ts := [6, 7], os := [1, 2, 3, 5, 10, 11] } [Q_impl_codePacket x1 (unitV x0.2.1 x0.2.2.2.2)] gamOK hT h (by kernel_rfl) ⟨(by first | (rw [sysC_1 (by omega)] at hc; exact ⟨hf1, (Sh.fit_len (t := 22) (s := .int 3) rfl (by have := hc.1; omega)), genP hpx.1 hc⟩) | (rw [sysC_2 (by omega)] at hc; exact ⟨hf1, (Sh.fit_len (t := 22) (s := .int 3) rfl (by have := hc.1; omega)), genP hpx.1 hc⟩)), trivial⟩ fun a w h => then_normal (wp_ret ?_)
   exact at_returnI (S := S__P_impl_Recoder_systematic) (x := (x0, x1, x2, ())) [1, 2] [3] ((x0.1, (x0.2.1, (x0.2.2.1, (x0.2.2.2.1, x0.2.2.2.2 + 1)))), (x1, (x2, ()))) (some ((D_impl_codePacket x1 (unitV x0.2.1 x0.2.2.2.2)), (true, ()))) [S__P_impl_Recoder_systematic.hd us 0 = S__P_impl_Recoder_systematic.hd us 0] hio h (by kernel_rfl) ⟨rfl, trivial⟩ (by first | rfl | exact congrArg (fun (z : T47) => (z, (x1, (x2, ())))) (show ((x0.1, (x0.2.1, (x0.2.2.1, (x0.2.2.2.1, x0.2.2.2.2 + 1)))) : T47) = sysU x0 x1 x2 from by (first | exact sysU_y (by omega) | exact sysU_n (by omega)))) (fun z e => (Option.some.inj e) ▸ (congrArg (fun z => (z.1, z.2, ())) (show (((D_impl_codePacket x1 (unitV x0.2.1 x0.2.2.2.2)), true)) = sysD x0 x1 x2 from by (first | exact sysD_y (by omega) | exact sysD_n (by omega) (sysC_1 (by omega)) | exact sysD_n (by omega) (sysC_2 (by omega))))))

abbrev Q_impl_SystematicPacket := (fun (x0 : T52) (x1 : T47) (x2 : Int) => Sh.fit s52 x0 ∧ Sh.fit s47 x1)
def S_impl_SystematicPacket : Sum := { fid := 18, dom := [s52, s47, (.int 3)], cod := [s47, s49, (.bool 4)], dp := true, fz := false, pre := fun x => Q_impl_SystematicPacket x.1 x.2.1 x.2.2.1, g := fun x => ((sysP x.1 x.2.1 x.2.2.1).1, ((sysP x.1 x.2.1 x.2.2.1).2.1, ((sysP x.1 x.2.1 x.2.2.1).2.2, ()))) }
def S_impl_SystematicPacket_tab : List (Nat × Sum) := [(65, S__impl_Recoder_clone), (66, S_impl_IsValidGeneration), (67, S_impl_IsValidRecoder), (68, S_impl_SymbolWidth), (69, S__P_impl_Recoder_systematic)]
theorem S_impl_SystematicPacket_ok : FnOK Tryz.prog 18 S_impl_SystematicPacket := by
 refine at_enter 55 (fun x => ⟨[(0, aG [cI x.1.1, .ro s22 x.1.2]), (1, aG [cI x.2.1.1, cI x.2.1.2.1, cI x.2.1.2.2.1, .ro s49 x.2.1.2.2.2.1, cI x.2.1.2.2.2.2]), (2, aI x.2.2.1)], []⟩) Tryz.func18 rfl (by kernel_rfl) (fun x => rfl) ?_
 rintro w0 Z0 ⟨x0, x1, x2, u⟩ a w
 revert x0 x1 x2
 intro (x0 : T52) (x1 : T47) (x2 : Int) hpre hlens h
 replace hpre : Q_impl_SystematicPacket x0 x1 x2 := hpre
 have hT : TabOK Tryz.prog S_impl_SystematicPacket_tab := (.cons S__impl_Recoder_clone_ok (.cons S_impl_IsValidGeneration_ok (.cons S_impl_IsValidRecoder_ok (.cons S_impl_SymbolWidth_ok (.cons S__P_impl_Recoder_systematic_ok .nil)))))
 obtain ⟨hf0, hf1⟩ := hpre
 have hn0_1 : List.length x0.2 ≤ 1073741824 := hf0.2.1
 have hn1_2 : List.length x1.2.2.2.1 ≤ 1073741824 := hf1.2.2.2.1.1
 refine wp_seq ?_
 refine at_regq [{ ids := [1] }, { ids := [2] }, { ids := [3] }, { ids := [4] }] { ts := [2, 3, 4, 6, 7, 8], os := [1, 2, 3, 4] } [] gamOK hT h (by kernel_rfl) trivial fun a w h => then_normal (wp_seq ?_)
 refine at_regq [{}, { ids := [5] }, { ids := [6] }] { ts := [2, 3, 4, 6, 7, 8, 9], os := [1, 2, 3, 4, 5, 6] } [Q__impl_Recoder_clone x1] gamOK hT h (by kernel_rfl) ⟨(by exact hf1), trivial⟩ fun a w h => then_normal (wp_seq (wp_seq ?_))
 rcases Bool.eq_false_or_eq_true (!(validG x0)) with h1 | h1
 ·have hzh1 : (validG x0) = false := notT h1
  refine at_anyq [{}, {}, { hint := some (aB true) }, {}, {}, {}, {}, {}, {}, {}, {}, {}, {}, {}, {}, {}, {}, {}, {}, {}, {}, {}, {}, {}, {}, {}, {}, {}, {}, {}] { ts := [2, 3, 6, 7, 8, 9, 43], os := [1, 3, 4, 5, 6] } [Q_impl_IsValidGeneration x0, (AV.p (.c (.v (.bool (!(validG x0))))) = AV.p (.c (.v (.bool true))))] gamOK hT mixed h (by kernel_rfl) ⟨(by exact hf0), hint_bool (h1), trivial⟩ fun a w h => then_normal ?_
  refine at_test true h (by kernel_rfl) (fun hh => ?_) (fun hh => nomatch hh)
  refine wp_seq ?_
  refine at_regq [] { ts := [2, 3, 6, 7, 8, 9], os := [1, 3, 4, 5, 6] } [] gamOK hT h (by kernel_rfl) trivial fun a w h => then_normal (wp_ret (then_ret ?_))
  exact at_return (x1, ((0, (([] : List Int), ([] : List Int))), (false, ()))) [] h (by kernel_rfl) trivial (congrArg (fun z => (z.1, z.2.1, z.2.2, ())) (show ((x1, (0, (([] : List Int), ([] : List Int))), false)) = sysP x0 x1 x2 from by first | exact sysP_n (sysOK_f (by first | (left; assumption) | (right; left; assumption) | (right; right; left; omega) | (right; right; right; left; omega) | (right; right; right; right; omega))) | exact sysP_y (sysOK_t (by assumption) (by assumption) (by omega) (by omega) (by omega))))
 ·have hzh1 : (validG x0) = true := notF h1
  have hvh1 := validG_t (notF h1)
  rcases Bool.eq_false_or_eq_true (!(validR x1)) with h2 | h2
  ·have hzh2 : (validR x1) = false := notT h2
   refine at_anyq [{}, {}, { hint := some (aB false) }, {}, {}, {}, { hint := some (aB true) }, {}, {}, {}, {}, {}, {}, {}, {}, {}, {}, {}, {}, {}, {}, {}, {}, {}, {}, {}, {}, {}, {}, {}] { ts := [2, 3, 6, 7, 8, 9, 43], os := [1, 3, 4, 5, 6] } [Q_impl_IsValidGeneration x0, (AV.p (.c (.v (.bool (!(validG x0))))) = AV.p (.c (.v (.bool false)))), Q_impl_IsValidRecoder x1, (AV.p (.c (.v (.bool (!(validR x1))))) = AV.p (.c (.v (.bool true))))] gamOK hT mixed h (by kernel_rfl) ⟨(by exact hf0), hint_bool (h1), (by exact hf1), hint_bool (h2), trivial⟩ fun a w h => then_normal ?_
   refine at_test true h (by kernel_rfl) (fun hh => ?_) (fun hh => nomatch hh)
   refine wp_seq ?_
   refine at_regq [] { ts := [2, 3, 6, 7, 8, 9], os := [1, 3, 4, 5, 6] } [] gamOK hT h (by kernel_rfl) trivial fun a w h => then_normal (wp_ret (then_ret ?_))
   exact at_return (x1, ((0, (([] : List Int), ([] : List Int))), (false, ()))) [] h (by kernel_rfl) trivial (congrArg (fun z => (z.1, z.2.1, z.2.2, ())) (show ((x1, (0, (([] : List Int), ([] : List Int))), false)) = sysP x0 x1 x2 from by first | exact sysP_n (sysOK_f (by first | (left; assumption) | (right; left; assumption) | (right; right; left; omega) | (right; right; right; left; omega) | (right; right; right; right; omega))) | exact sysP_y (sysOK_t (by assumption) (by assumption) (by omega) (by omega) (by omega))))
  ·have hzh2 : (validR x1) = true := notF h2
   have hvh2 := validR_t (notF h2)
   by_cases h3 : x0.1 = x1.1
   ·by_cases h4 : ((List.length x0.2 : Nat) : Int) = x1.2.1
    ·refine at_anyq [{}, {}, { hint := some (aB false) }, {}, {}, {}, { hint := some (aB false) }, {}, {}, {}, {}, {}, {}, { hint := some (aB false) }, {}, {}, {}, {}, {}, {}, {}, { hint := some (aB false) }, {}, {}, {}, {}, {}, {}, {}, {}] { ts := [2, 3, 6, 7, 8, 9, 43], os := [1, 3, 4, 5, 6] } [Q_impl_IsValidGeneration x0, (AV.p (.c (.v (.bool (!(validG x0))))) = AV.p (.c (.v (.bool false)))), Q_impl_IsValidRecoder x1, (AV.p (.c (.v (.bool (!(validR x1))))) = AV.p (.c (.v (.bool false)))), (AV.p (.c (.v (.bool (!decide (x0.1 = x1.1))))) = AV.p (.c (.v (.bool false)))), (AV.p (.c (.v (.bool (!decide (((List.length x0.2 : Nat) : Int) = x1.2.1))))) = AV.p (.c (.v (.bool false)))), Q_impl_SymbolWidth x0] gamOK hT mixed h (by kernel_rfl) ⟨(by exact hf0), hint_bool (h1), (by exact hf1), hint_bool (h2), hint_bool (ndT h3), hint_bool (ndT h4), (by exact hf0), trivial⟩ fun a w h => then_normal ?_
     refine at_test (!decide ((colsOf x0.2) = x1.2.2.1)) h (by kernel_rfl) (fun h5 => ?_) (fun h5 => ?_)
     ·replace h5 : ¬ ((colsOf x0.2) = x1.2.2.1) := of_decide_eq_false (notT h5)
      refine wp_seq ?_
      refine at_regq [] { ts := [2, 3, 6, 7, 8, 9], os := [1, 3, 4, 5, 6] } [] gamOK hT h (by kernel_rfl) trivial fun a w h => then_normal (wp_ret (then_ret ?_))
      exact at_return (x1, ((0, (([] : List Int), ([] : List Int))), (false, ()))) [] h (by kernel_rfl) trivial (congrArg (fun z => (z.1, z.2.1, z.2.2, ())) (show ((x1, (0, (([] : List Int), ([] : List Int))), false)) = sysP x0 x1 x2 from by first | exact sysP_n (sysOK_f (by first | (left; assumption) | (right; left; assumption) | (right; right; left; omega) | (right; right; right; left; omega) | (right; right; right; right; omega))) | exact sysP_y (sysOK_t (by assumption) (by assumption) (by omega) (by omega) (by omega))))
     ·replace h5 : (colsOf x0.2) = x1.2.2.1 := of_decide_eq_true (notF h5)
      refine wp_skip (then_normal (wp_seq ?_))
      refine at_regq [{}, {}, { ids := [7, 8, 9] }, {}, {}, {}, { ids := [10] }] { ts := [6, 7, 8, 9, 10, 11], os := [3, 4, 6, 7, 8, 9, 10] } [Q__P_impl_Recoder_systematic x1 x0 x2] gamOK hT h (by kernel_rfl) ⟨(by exact ⟨hf1, hf0, by assumption, by assumption, by omega⟩), trivial⟩ fun a w h => then_normal (wp_seq ?_)
      refine at_anyq [{}, {}, {}, {}, {}, {}] { ts := [6, 7, 8], os := [3, 4, 7, 8, 9] } [] gamOK hT mixed h (by kernel_rfl) trivial fun a w h => then_normal (wp_ret ?_)
      exact at_return ((sysU x1 x0 x2), ((sysD x1 x0 x2).1, ((sysD x1 x0 x2).2, ()))) [] h (by kernel_rfl) trivial (congrArg (fun z => (z.1, z.2.1, z.2.2, ())) (show (((sysU x1 x0 x2), (sysD x1 x0 x2).1, (sysD x1 x0 x2).2)) = sysP x0 x1 x2 from by first | exact sysP_n (sysOK_f (by first | (left; assumption) | (right; left; assumption) | (right; right; left; omega) | (right; right; right; left; omega) | (right; right; right; right; omega))) | exact sysP_y (sysOK_t (by assumption) (by assumption) (by omega) (by omega) (by omega))))
    ·refine at_anyq [{}, {}, { hint := some (aB false) }, {}, {}, {}, { hint := some (aB false) }, {}, {}, {}, {}, {}, {}, { hint := some (aB false) }, {}, {}, {}, {}, {}, {}, {}, { hint := some (aB true) }, {}, {}, {}, {}, {}, {}, {}, {}] { ts := [2, 3, 6, 7, 8, 9, 43], os := [1, 3, 4, 5, 6] } [Q_impl_IsValidGeneration x0, (AV.p (.c (.v (.bool (!(validG x0))))) = AV.p (.c (.v (.bool false)))), Q_impl_IsValidRecoder x1, (AV.p (.c (.v (.bool (!(validR x1))))) = AV.p (.c (.v (.bool false)))), (AV.p (.c (.v (.bool (!decide (x0.1 = x1.1))))) = AV.p (.c (.v (.bool false)))), (AV.p (.c (.v (.bool (!decide (((List.length x0.2 : Nat) : Int) = x1.2.1))))) = AV.p (.c (.v (.bool true))))] gamOK hT mixed h (by kernel_rfl) ⟨(by exact hf0), hint_bool (h1), (by exact hf1), hint_bool (h2), hint_bool (ndT h3), hint_bool (ndF h4), trivial⟩ fun a w h => then_normal ?_
     refine at_test true h (by kernel_rfl) (fun hh => ?_) (fun hh => nomatch hh)
     refine wp_seq ?_
     refine at_regq [] { ts := [2, 3, 6, 7, 8, 9], os := [1, 3, 4, 5, 6] } [] gamOK hT h (by kernel_rfl) trivial fun a w h => then_normal (wp_ret (then_ret ?_))
     exact at_return (x1, ((0, (([] : List Int), ([] : List Int))), (false, ()))) [] h (by kernel_rfl) trivial (congrArg (fun z => (z.1, z.2.1, z.2.2, ())) (show ((x1, (0, (([] : List Int), ([] : List Int))), false)) = sysP x0 x1 x2 from by first | exact sysP_n (sysOK_f (by first | (left; assumption) | (right; left; assumption) | (right; right; left; omega) | (right; right; right; left; omega) | (right; right; right; right; omega))) | exact sysP_y (sysOK_t (by assumption) (by assumption) (by omega) (by omega) (by omega))))
   ·refine at_anyq [{}, {}, { hint := some (aB false) }, {}, {}, {}, { hint := some (aB false) }, {}, {}, {}, {}, {}, {}, { hint := some (aB true) }, {}, {}, {}, {}, {}, {}, {}, {}, {}, {}, {}, {}, {}, {}, {}, {}] { ts := [2, 3, 6, 7, 8, 9, 43], os := [1, 3, 4, 5, 6] } [Q_impl_IsValidGeneration x0, (AV.p (.c (.v (.bool (!(validG x0))))) = AV.p (.c (.v (.bool false)))), Q_impl_IsValidRecoder x1, (AV.p (.c (.v (.bool (!(validR x1))))) = AV.p (.c (.v (.bool false)))), (AV.p (.c (.v (.bool (!decide (x0.1 = x1.1))))) = AV.p (.c (.v (.bool true))))] gamOK hT mixed h (by kernel_rfl) ⟨(by exact hf0), hint_bool (h1), (by exact hf1), hint_bool (h2), hint_bool (ndF h3), trivial⟩ fun a w h => then_normal ?_
    refine at_test true h (by kernel_rfl) (fun hh => ?_) (fun hh => nomatch hh)
    refine wp_seq ?_
    refine at_regq [] { ts := [2, 3, 6, 7, 8, 9], os := [1, 3, 4, 5, 6] } [] gamOK hT h (by kernel_rfl) trivial fun a w h => then_normal (wp_ret (then_ret ?_))
    exact at_return (x1, ((0, (([] : List Int), ([] : List Int))), (false, ()))) [] h (by kernel_rfl) trivial (congrArg (fun z => (z.1, z.2.1, z.2.2, ())) (show ((x1, (0, (([] : List Int), ([] : List Int))), false)) = sysP x0 x1 x2 from by first | exact sysP_n (sysOK_f (by first | (left; assumption) | (right; left; assumption) | (right; right; left; omega) | (right; right; right; left; omega) | (right; right; right; right; omega))) | exact sysP_y (sysOK_t (by assumption) (by assumption) (by omega) (by omega) (by omega))))

abbrev Q_spec_CodePacket := (fun (x0 : T52) (x1 : (List Int)) => Sh.fit s52 x0 ∧ Sh.fit s22 x1)
def S_spec_CodePacket : Sum := { fid := 60, dom := [s52, s22], cod := [s49, (.bool 4)], dp := true, fz := false, pre := fun x => Q_spec_CodePacket x.1 x.2.1, g := fun x => ((codePk x.1 x.2.1).1, ((codePk x.1 x.2.1).2, ())) }
def S_spec_CodePacket_tab : List (Nat × Sum) := [(56, S_spec_IsValidGeneration), (115, S_spec_IsValidVector), (116, S_spec_Combine)]
theorem S_spec_CodePacket_ok : FnOK Tryz.prog 60 S_spec_CodePacket := by
 refine at_enter 33 (fun x => ⟨[(0, aG [cI x.1.1, .ro s22 x.1.2]), (1, aF (.int 3) x.2.1)], []⟩) Tryz.func60 rfl (by kernel_rfl) (fun x => rfl) ?_
 rintro w0 Z0 ⟨x0, x1, u⟩ a w
 revert x0 x1
 intro (x0 : T52) (x1 : (List Int)) hpre hlens h
 replace hpre : Q_spec_CodePacket x0 x1 := hpre
 have hT : TabOK Tryz.prog S_spec_CodePacket_tab := (.cons S_spec_IsValidGeneration_ok (.cons S_spec_IsValidVector_ok (.cons S_spec_Combine_ok .nil)))
 obtain ⟨hf0, hf1⟩ := hpre
 have hn0_1 : List.length x0.2 ≤ 1073741824 := hf0.2.1
 have hn1_2 : List.length x1 ≤ 1073741824 := hf1.1
 refine wp_seq ?_
 refine at_regq [{ ids := [1] }, { ids := [2] }] { ts := [1, 2, 4, 5], os := [1, 2] } [] gamOK hT h (by kernel_rfl) trivial fun a w h => then_normal (wp_seq (wp_seq ?_))
 rcases Bool.eq_false_or_eq_true (!(validG x0)) with h1 | h1
 ·have hzh1 : (validG x0) = false := notT h1
  refine at_regq [{}, {}, { hint := some (aB true) }] { ts := [1, 2, 4, 5, 21], os := [1, 2] } [Q_spec_IsValidGeneration x0, (AV.p (.c (.v (.bool (!(validG x0))))) = AV.p (.c (.v (.bool true))))] gamOK hT h (by kernel_rfl) ⟨(by exact hf0), hint_bool (h1), trivial⟩ fun a w h => then_normal ?_
  refine at_test true h (by kernel_rfl) (fun hh => ?_) (fun hh => nomatch hh)
  refine wp_seq ?_
  refine at_regq [] { ts := [1, 2, 4, 5], os := [1, 2] } [] gamOK hT h (by kernel_rfl) trivial fun a w h => then_normal (wp_ret (then_ret ?_))
  exact at_return ((0, (([] : List Int), ([] : List Int))), (false, ())) [] h (by kernel_rfl) trivial (congrArg (fun z => (z.1, z.2, ())) (show (((0, (([] : List Int), ([] : List Int))), false)) = codePk x0 x1 from by first | exact codePk_n (by first | (left; assumption) | (right; left; assumption) | (right; right; omega)) | exact codePk_y (cs := x1) (by assumption) (by assumption) (by omega)))
 ·have hzh1 : (validG x0) = true := notF h1
  have hvh1 := validG_t (notF h1)
  rcases Bool.eq_false_or_eq_true (!(validV x1)) with h2 | h2
  ·have hzh2 : (validV x1) = false := notT h2
   refine at_regq [{}, {}, { hint := some (aB false) }, {}, {}, {}, { hint := some (aB true) }] { ts := [1, 2, 4, 5, 21], os := [1, 2] } [Q_spec_IsValidGeneration x0, (AV.p (.c (.v (.bool (!(validG x0))))) = AV.p (.c (.v (.bool false)))), Q_spec_IsValidVector x1, (AV.p (.c (.v (.bool (!(validV x1))))) = AV.p (.c (.v (.bool true))))] gamOK hT h (by kernel_rfl) ⟨(by exact hf0), hint_bool (h1), (by exact hf1), hint_bool (h2), trivial⟩ fun a w h => then_normal ?_
   refine at_test true h (by kernel_rfl) (fun hh => ?_) (fun hh => nomatch hh)
   refine wp_seq ?_
   refine at_regq [] { ts := [1, 2, 4, 5], os := [1, 2] } [] gamOK hT h (by kernel_rfl) trivial fun a w h => then_normal (wp_ret (then_ret ?_))
   exact at_return ((0, (([] : List Int), ([] : List Int))), (false, ())) [] h (by kernel_rfl) trivial (congrArg (fun z => (z.1, z.2, ())) (show (((0, (([] : List Int), ([] : List Int))), false)) = codePk x0 x1 from by first | exact codePk_n (by first | (left; assumption) | (right; left; assumption) | (right; right; omega)) | exact codePk_y (cs := x1) (by assumption) (by assumption) (by omega)))
  ·have hzh2 : (validV x1) = true := notF h2
   have hvh2 := validV_t (notF h2)
   refine at_regq [{}, {}, { hint := some (aB false) }, {}, {}, {}, { hint := some (aB false) }] { ts := [1, 2, 4, 5, 21], os := [1, 2] } [Q_spec_IsValidGeneration x0, (AV.p (.c (.v (.bool (!(validG x0))))) = AV.p (.c (.v (.bool false)))), Q_spec_IsValidVector x1, (AV.p (.c (.v (.bool (!(validV x1))))) = AV.p (.c (.v (.bool false))))] gamOK hT h (by kernel_rfl) ⟨(by exact hf0), hint_bool (h1), (by exact hf1), hint_bool (h2), trivial⟩ fun a w h => then_normal ?_
   refine at_test (!decide (((List.length x1 : Nat) : Int) = ((List.length x0.2 : Nat) : Int))) h (by kernel_rfl) (fun h3 => ?_) (fun h3 => ?_)
   ·replace h3 : ¬ (((List.length x1 : Nat) : Int) = ((List.length x0.2 : Nat) : Int)) := of_decide_eq_false (notT h3)
    refine wp_seq ?_
    refine at_regq [] { ts := [1, 2, 4, 5], os := [1, 2] } [] gamOK hT h (by kernel_rfl) trivial fun a w h => then_normal (wp_ret (then_ret ?_))
    exact at_return ((0, (([] : List Int), ([] : List Int))), (false, ())) [] h (by kernel_rfl) trivial (congrArg (fun z => (z.1, z.2, ())) (show (((0, (([] : List Int), ([] : List Int))), false)) = codePk x0 x1 from by first | exact codePk_n (by first | (left; assumption) | (right; left; assumption) | (right; right; omega)) | exact codePk_y (cs := x1) (by assumption) (by assumption) (by omega)))
   ·replace h3 : ((List.length x1 : Nat) : Int) = ((List.length x0.2 : Nat) : Int) := of_decide_eq_true (notF h3)
    refine wp_skip (then_normal (wp_seq ?_))
    refine at_anyq [{}, {}, { ids := [3] }, {}, { ids := [4] }, {}, {}, {}, { ids := [5] }, {}, {}, {}] { ts := [4, 5], os := [2, 4, 5] } [(List.length ([] : List Int) + List.length x1) * 8 ≤ 140737488355328, Q_spec_Combine x0.2 x1] gamOK hT mixed h (by kernel_rfl) ⟨(by first | omega | (simp only [lsA]; omega) | (simp <;> omega)), (by exact ⟨hf0.2, hf1⟩), trivial⟩ fun a w h => then_normal (wp_ret ?_)
    exact at_return ((x0.1, ((([] : List Int) ++ x1), (combV x0.2 x1))), (true, ())) [] h (by kernel_rfl) trivial (congrArg (fun z => (z.1, z.2, ())) (show (((x0.1, ((([] : List Int) ++ x1), (combV x0.2 x1))), true)) = codePk x0 x1 from by first | exact codePk_n (by first | (left; assumption) | (right; left; assumption) | (right; right; omega)) | exact codePk_y (cs := x1) (by assumption) (by assumption) (by omega)))

def D_spec_SourcePacket := (fun (g : T52) (i : Int) => if validG g = true ∧ inR i 0 (((List.length g.2 : Nat) : Int) - 1) = true then codePk g (unitV ((List.length g.2 : Nat) : Int) i) else ((0, [], []), false))
abbrev Q_spec_SourcePacket := (fun (x0 : T52) (x1 : Int) => Sh.fit s52 x0)
def S_spec_SourcePacket : Sum := { fid := 59, dom := [s52, (.int 3)], cod := [s49, (.bool 4)], dp := true, fz := false, pre := fun x => Q_spec_SourcePacket x.1 x.2.1, g := fun x => ((D_spec_SourcePacket x.1 x.2.1).1, ((D_spec_SourcePacket x.1 x.2.1).2, ())) }
def S_spec_SourcePacket_tab : List (Nat × Sum) := [(56, S_spec_IsValidGeneration), (90, S_spec_l1In), (114, S_spec_UnitVector), (60, S_spec_CodePacket)]
theorem S_spec_SourcePacket_ok : FnOK Tryz.prog 59 S_spec_SourcePacket := by
 refine at_enter 28 (fun x => ⟨[(0, aG [cI x.1.1, .ro s22 x.1.2]), (1, aI x.2.1)], []⟩) Tryz.func59 rfl (by kernel_rfl) (fun x => rfl) ?_
 rintro w0 Z0 ⟨x0, x1, u⟩ a w
 revert x0 x1
 intro (x0 : T52) (x1 : Int) hpre hlens h
 replace hpre : Q_spec_SourcePacket x0 x1 := hpre
 have hT : TabOK Tryz.prog S_spec_SourcePacket_tab := (.cons S_spec_IsValidGeneration_ok (.cons S_spec_l1In_ok (.cons S_spec_UnitVector_ok (.cons S_spec_CodePacket_ok .nil))))
 have hf0 : Sh.fit s52 x0 := hpre
 have hn0_1 : List.length x0.2 ≤ 1073741824 := hf0.2.1
 refine wp_seq ?_
 refine at_regq [{ ids := [1] }, { ids := [2] }] { ts := [1, 2, 4, 5], os := [1, 2] } [] gamOK hT h (by kernel_rfl) trivial fun a w h => then_normal (wp_seq (wp_seq ?_))
 rcases Bool.eq_false_or_eq_true (!(validG x0)) with h1 | h1
 ·have hzh1 : (validG x0) = false := notT h1
  refine at_regq [{}, {}, { hint := some (aB true) }] { ts := [1, 2, 4, 5, 17], os := [1, 2] } [Q_spec_IsValidGeneration x0, (AV.p (.c (.v (.bool (!(validG x0))))) = AV.p (.c (.v (.bool true))))] gamOK hT h (by kernel_rfl) ⟨(by exact hf0), hint_bool (h1), trivial⟩ fun a w h => then_normal ?_
  refine at_test true h (by kernel_rfl) (fun hh => ?_) (fun hh => nomatch hh)
  refine wp_seq ?_
  refine at_regq [] { ts := [1, 2, 4, 5], os := [1, 2] } [] gamOK hT h (by kernel_rfl) trivial fun a w h => then_normal (wp_ret (then_ret ?_))
  exact at_return ((0, (([] : List Int), ([] : List Int))), (false, ())) [] h (by kernel_rfl) trivial (congrArg (fun z => (z.1, z.2, ())) (show (((0, (([] : List Int), ([] : List Int))), false)) = D_spec_SourcePacket x0 x1 from by unfold D_spec_SourcePacket; first | (rw [if_pos ⟨by assumption, by assumption⟩]; done) | (rw [if_neg (by simp_all)]; done)))
 ·have hzh1 : (validG x0) = true := notF h1
  have hvh1 := validG_t (notF h1)
  refine at_regq [{}, {}, { hint := some (aB false) }, {}, {}, {}, {}, {}, { nw := true }] { ts := [1, 2, 4, 5, 17], os := [1, 2] } [Q_spec_IsValidGeneration x0, (AV.p (.c (.v (.bool (!(validG x0))))) = AV.p (.c (.v (.bool false)))), I64 (((List.length x0.2 : Nat) : Int) - 1), True] gamOK hT h (by kernel_rfl) ⟨(by exact hf0), hint_bool (h1), ⟨by first | omega | (simp only [lsA]; omega) | (simp <;> omega), by first | omega | (simp only [lsA]; omega) | (simp <;> omega)⟩, trivial, trivial⟩ fun a w h => then_normal ?_
  refine at_test (!(inR x1 0 (((List.length x0.2 : Nat) : Int) - 1))) h (by kernel_rfl) (fun h2 => ?_) (fun h2 => ?_)
  ·replace h2 : (inR x1 0 (((List.length x0.2 : Nat) : Int) - 1)) = false := notT h2
   have hvh2 := inR_f h2
   refine wp_seq ?_
   refine at_regq [] { ts := [1, 2, 4, 5], os := [1, 2] } [] gamOK hT h (by kernel_rfl) trivial fun a w h => then_normal (wp_ret (then_ret ?_))
   exact at_return ((0, (([] : List Int), ([] : List Int))), (false, ())) [] h (by kernel_rfl) trivial (congrArg (fun z => (z.1, z.2, ())) (show (((0, (([] : List Int), ([] : List Int))), false)) = D_spec_SourcePacket x0 x1 from by unfold D_spec_SourcePacket; first | (rw [if_pos ⟨by assumption, by assumption⟩]; done) | (rw [if_neg (by simp_all)]; done)))
  ·replace h2 : (inR x1 0 (((List.length x0.2 : Nat) : Int) - 1)) = true := notF h2
   have hvh2 := inR_t h2
   refine wp_skip (then_normal (wp_seq ?_))
   refine at_anyq [{}, {}, {}, {}, {}, { ids := [3] }, { ids := [4, 5] }, {}, {}, {}, {}] { ts := [4, 5], os := [2, 4, 5] } [True, Q_spec_CodePacket x0 (unitV ((List.length x0.2 : Nat) : Int) x1)] gamOK hT mixed h (by kernel_rfl) ⟨trivial, (by exact ⟨hf0, (Sh.fit_len (t := 22) (s := .int 3) rfl (Nat.le_trans (unitV_len _ _) (by decide)))⟩), trivial⟩ fun a w h => then_normal (wp_ret ?_)
   exact at_return ((codePk x0 (unitV ((List.length x0.2 : Nat) : Int) x1)).1, ((codePk x0 (unitV ((List.length x0.2 : Nat) : Int) x1)).2, ())) [] h (by kernel_rfl) trivial (congrArg (fun z => (z.1, z.2, ())) (show (((codePk x0 (unitV ((List.length x0.2 : Nat) : Int) x1)).1, (codePk x0 (unitV ((List.length x0.2 : Nat) : Int) x1)).2)) = D_spec_SourcePacket x0 x1 from by unfold D_spec_SourcePacket; first | (rw [if_pos ⟨by assumption, by assumption⟩]; done) | (rw [if_neg (by simp_all)]; done)))

end Go.Proofs.YtdmkjcnppgfeoaaGreat

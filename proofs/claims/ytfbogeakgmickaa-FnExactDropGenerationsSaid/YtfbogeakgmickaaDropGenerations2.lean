/- The law FnExactDropGenerations returns true for every input and leaves its arguments as they were. No condition. -/
import Derived.Test.YtfbogeakgmickaaDropGenerations1
import Derived.Test.YtfbogeakgmickaaProg
import Derived.Test.YtfbogeakgmickaaRows
namespace Go.Proofs.Ytfbogeakgmickaa
open Go.RowKit
set_option linter.unusedVariables false
set_option linter.unusedSimpArgs false
def S__impl_Recoder_clone : Sum := { fid := 147, dom := [s148], cod := [s148], dp := true, fz := false, pre := fun x => (fun (x : T148) => Sh.sz s148 x ≤ 1073741824) x.1, g := fun x => (((idD s148) x.1), ()) }
def S__impl_Recoder_clone_tab : List (Nat × Sum) := [(93, S__impl_CodedPacket_clone)]
theorem S__impl_Recoder_clone_ok : FnOK Try.prog 147 S__impl_Recoder_clone := by
  refine at_enter 24 (fun x => ⟨[(0, aG [cI x.1.1, cI x.1.2.1, cI x.1.2.2.1, .ro s38 x.1.2.2.2.1, cI x.1.2.2.2.2])], []⟩) Try.func147 rfl (by kernel_rfl) (fun x => rfl) ?_
  rintro w0 Z0 ⟨x0, u⟩ a w
  revert x0
  intro (x0 : T148) hpre hlens h
  replace h : At w0 Z0 [] 24 ⟨[(0, aG [cI x0.1, cI x0.2.1, cI x0.2.2.1, .ro s38 x0.2.2.2.1, cI x0.2.2.2.2])], []⟩ a w := h
  replace hpre : (fun (x : T148) => Sh.sz s148 x ≤ 1073741824) x0 := hpre
  have hl1 : List.length x0.2.2.2.1 ≤ 9223372036854775807 := hlens.1.2.2.2.1.1
  have hT : TabOK Try.prog S__impl_Recoder_clone_tab := (.cons S__impl_CodedPacket_clone_ok .nil)
  have hp : Sh.sz s148 x0 ≤ 1073741824 := hpre
  have hsr : Sh.sz s148 x0 = (0 + (0 + (0 + ((Sh.sz s146 x0.2.2.2.1) + 0)))) := rfl
  have hsz : Sh.sz s146 x0.2.2.2.1 = List.length x0.2.2.2.1 + ctL (Sh.sz s38) x0.2.2.2.1 := rfl
  refine wp_seq ?_
  refine at_regq (T := S__impl_Recoder_clone_tab) [{ ids := [1] }, { ids := [2] }] { ts := [1, 2], os := [1, 2] } [] gamOK hT h (by kernel_rfl) trivial ?_
  intro a w h
  refine then_normal ?_
  refine wp_seq ?_
  refine at_regq (T := S__impl_Recoder_clone_tab) [] { ts := [1, 2, 3], os := [1, 2] } [] gamOK hT h (by kernel_rfl) trivial ?_
  intro a w h
  refine then_normal ?_
  refine wp_seq ?_
  refine at_regq (T := S__impl_Recoder_clone_tab) [] { ts := [1, 2, 3], os := [1, 2] } [] gamOK hT h (by kernel_rfl) trivial ?_
  intro a w h
  refine then_normal ?_
  refine wp_seq ?_
  refine wp_seq ?_
  refine at_reg (T := S__impl_Recoder_clone_tab) [] { ts := [1, 2, 9, 10, 11], os := [1, 2] } ⟨[(1, aP 1 0), (2, aP 2 0), (9, aF s38 x0.2.2.2.1), (10, aI ((List.length x0.2.2.2.1 : Nat) : Int)), (11, aI 0)], [(1, oX 148 [cI x0.1, cI x0.2.1, cI x0.2.2.1, cN, cI x0.2.2.2.2]), (2, oX 148 [cI 0, cI 0, cI 0, cN, cI 0])]⟩ [] gamOK hT h (by kernel_rfl) trivial ?_
  intro a w h
  refine then_normal ?_
  refine wp_block ?_
  replace h := at_out (σ' := ⟨[(1, aP 1 0), (2, aP 2 0), (9, aF s38 x0.2.2.2.1), (10, aI ((List.length x0.2.2.2.1 : Nat) : Int)), (11, aI 0)], [(1, oX 148 [cI x0.1, cI x0.2.1, cI x0.2.2.1, .sl 3, cI x0.2.2.2.2]), (2, oX 148 [cI 0, cI 0, cI 0, cN, cI 0]), (3, oR s38 ([] : List T38))]⟩) { mt := [⟨some 1, 3, 3, true, s38⟩], ts := [1, 2, 9, 10, 11], os := [1, 2, 3] } h (by kernel_rfl)
  refine at_loop (fun i : Nat => (⟨[(1, aP 1 0), (2, aP 2 0), (9, aF s38 x0.2.2.2.1), (10, aI ((List.length x0.2.2.2.1 : Nat) : Int)), (11, aI ((i : Nat) : Int))], [(1, oX 148 [cI x0.1, cI x0.2.1, cI x0.2.2.1, .sl 3, cI x0.2.2.2.2]), (2, oX 148 [cI 0, cI 0, cI 0, cN, cI 0]), (3, oR s38 (List.take i x0.2.2.2.1))]⟩ : St)) (fun i => i ≤ List.length x0.2.2.2.1) (fun i => List.length x0.2.2.2.1 - i) (0) h (st_congr2 (fun (d0 : List T38) (d1 : Int) => (⟨[(1, aP 1 0), (2, aP 2 0), (9, aF s38 x0.2.2.2.1), (10, aI ((List.length x0.2.2.2.1 : Nat) : Int)), (11, aI d1)], [(1, oX 148 [cI x0.1, cI x0.2.1, cI x0.2.2.1, .sl 3, cI x0.2.2.2.2]), (2, oX 148 [cI 0, cI 0, cI 0, cN, cI 0]), (3, oR s38 d0)]⟩ : St)) (show (([] : List T38) : List T38) = (List.take (0) x0.2.2.2.1) from by first | rfl | (rfl)) (show (0 : Int) = (((0) : Nat) : Int) from by first | rfl | (rfl))) (by first | omega | simp | (refine ⟨?_, ?_⟩ <;> first | omega | simp)) ?_
  intro i a w hok0 h
  have hlt := len_take_le (xs := x0.2.2.2.1) i
  refine wp_seq ?_
  refine at_regq (T := S__impl_Recoder_clone_tab) [] { ts := [1, 2, 9, 10, 11, 12], os := [1, 2, 3] } [] gamOK hT h (by kernel_rfl) trivial ?_
  intro a w h
  refine then_normal ?_
  refine wp_seq ?_
  refine at_test (decide (((i : Nat) : Int) < ((List.length x0.2.2.2.1 : Nat) : Int))) h (by kernel_rfl) (fun h1 => ?_) (fun h1 => ?_)
  · replace h1 : ((i : Nat) : Int) < ((List.length x0.2.2.2.1 : Nat) : Int) := of_decide_eq_true h1
    have hat := ctL_at_le (c := Sh.sz s38) (xs := x0.2.2.2.1) (z := (0, ([], []))) (i := i) (by omega)
    have hse : Sh.sz s38 (x0.2.2.2.1.getD i (0, ([], []))) = (0 + (Sh.sz s34 (x0.2.2.2.1.getD i (0, ([], []))).2.1 + Sh.sz s34 (x0.2.2.2.1.getD i (0, ([], []))).2.2)) := rfl
    have hs1 : Sh.sz s34 (x0.2.2.2.1.getD i (0, ([], []))).2.1 = List.length (x0.2.2.2.1.getD i (0, ([], []))).2.1 := sz_flat (by rfl) _
    have hs2 : Sh.sz s34 (x0.2.2.2.1.getD i (0, ([], []))).2.2 = List.length (x0.2.2.2.1.getD i (0, ([], []))).2.2 := sz_flat (by rfl) _
    refine wp_skip ?_
    refine then_normal ?_
    refine wp_seq ?_
    refine wp_block ?_
    refine wp_seq ?_
    refine at_regq (T := S__impl_Recoder_clone_tab) [{}, {}, { ids := [4] }] { ts := [1, 2, 5, 9, 10, 11], os := [1, 2, 3, 4] } [(0 : Int) ≤ ((i : Nat) : Int) ∧ ((i : Nat) : Int) < ((List.length x0.2.2.2.1 : Nat) : Int)] gamOK hT h (by kernel_rfl) ⟨(by refine ⟨?_, ?_⟩ <;> (first | omega | (simp only [List.length_append, List.length_cons, List.length_nil, List.length_set, List.length_take, List.length_drop, List.length_replicate, List.length_map, Nat.min_def]; omega) | (simp; done) | (simp; omega) | done)), trivial⟩ ?_
    intro a w h
    refine then_normal ?_
    refine at_anyq (T := S__impl_Recoder_clone_tab) [{}, {}, {}, { ids := [5, 6] }, { ids := [7] }, { ids := [8] }, {}, {}] { ts := [1, 2, 9, 10, 11], os := [1, 2, 8] } [(fun (x : T38) => x.2.1.length ≤ 1073741824 ∧ x.2.2.length ≤ 1073741824) (x0.2.2.2.1.getD i (0, ([], []))), (List.length (List.take i x0.2.2.2.1) + List.length ([(x0.2.2.2.1.getD i (0, ([], [])))])) * 56 ≤ 140737488355328] gamOK hT mixed h (by kernel_rfl) ⟨(by (show _ ∧ _; constructor <;> (show _ ≤ _; omega))), (by first | omega | (simp only [List.length_append, List.length_cons, List.length_nil, List.length_set, List.length_take, List.length_drop, List.length_replicate, List.length_map, Nat.min_def]; omega) | (simp; done) | (simp; omega) | done), trivial⟩ ?_
    intro a w h
    refine in_normal ?_
    refine then_normal ?_
    refine at_reg (T := S__impl_Recoder_clone_tab) [{ nw := true }] { ts := [1, 2, 9, 10, 11], os := [1, 2, 8] } ⟨[(1, aP 1 0), (2, aP 2 0), (9, aF s38 x0.2.2.2.1), (10, aI ((List.length x0.2.2.2.1 : Nat) : Int)), (11, aI (((i : Nat) : Int) + 1))], [(1, oX 148 [cI x0.1, cI x0.2.1, cI x0.2.2.1, .sl 8, cI x0.2.2.2.2]), (2, oX 148 [cI 0, cI 0, cI 0, cN, cI 0]), (8, oR s38 ((List.take i x0.2.2.2.1) ++ ([(x0.2.2.2.1.getD i (0, ([], [])))])))]⟩ [I64 (((i : Nat) : Int) + 1)] gamOK hT h (by kernel_rfl) ⟨⟨by first | omega | (simp only [List.length_append, List.length_cons, List.length_nil, List.length_set, List.length_take, List.length_drop, List.length_replicate, List.length_map, Nat.min_def]; omega) | (simp; done) | (simp; omega) | done, by first | omega | (simp only [List.length_append, List.length_cons, List.length_nil, List.length_set, List.length_take, List.length_drop, List.length_replicate, List.length_map, Nat.min_def]; omega) | (simp; done) | (simp; omega) | done⟩, trivial⟩ ?_
    intro a w h
    replace h := at_out (σ' := ⟨[(1, aP 1 0), (2, aP 2 0), (9, aF s38 x0.2.2.2.1), (10, aI ((List.length x0.2.2.2.1 : Nat) : Int)), (11, aI (((i : Nat) : Int) + 1))], [(1, oX 148 [cI x0.1, cI x0.2.1, cI x0.2.2.1, .sl 3, cI x0.2.2.2.2]), (2, oX 148 [cI 0, cI 0, cI 0, cN, cI 0]), (3, oR s38 ((List.take i x0.2.2.2.1) ++ ([(x0.2.2.2.1.getD i (0, ([], [])))])))]⟩) { ts := [1, 2, 9, 10, 11], os := [1, 2, 8], rn := [(8, 3)] } h (by kernel_rfl)
    exact ⟨i + 1, at_eq h (st_congr2 (fun (d0 : List T38) (d1 : Int) => (⟨[(1, aP 1 0), (2, aP 2 0), (9, aF s38 x0.2.2.2.1), (10, aI ((List.length x0.2.2.2.1 : Nat) : Int)), (11, aI d1)], [(1, oX 148 [cI x0.1, cI x0.2.1, cI x0.2.2.1, .sl 3, cI x0.2.2.2.2]), (2, oX 148 [cI 0, cI 0, cI 0, cN, cI 0]), (3, oR s38 d0)]⟩ : St)) (show (((List.take i x0.2.2.2.1) ++ ([(x0.2.2.2.1.getD i (0, ([], [])))])) : List T38) = (List.take (i + 1) x0.2.2.2.1) from by first | rfl | (rw [take_snoc (z := (0, ([], []))) (by omega)])) (show (((i : Nat) : Int) + 1 : Int) = (((i + 1) : Nat) : Int) from by first | rfl | (omega))), (by first | omega | (refine ⟨?_, ?_⟩ <;> omega)), (by omega)⟩
  · replace h1 : ¬ (((i : Nat) : Int) < ((List.length x0.2.2.2.1 : Nat) : Int)) := of_decide_eq_false h1
    refine wp_exit ?_
    refine then_exit ?_
    refine then_exit ?_
    refine in_hit ?_
    refine then_normal ?_
    refine wp_seq ?_
    refine at_regq (T := S__impl_Recoder_clone_tab) [] { ts := [2], os := [2, 3] } [] gamOK hT h (by kernel_rfl) trivial ?_
    intro a w h
    refine then_normal ?_
    refine wp_ret ?_
    exact at_return (S := S__impl_Recoder_clone) (x := (x0, ())) ((x0.1, (x0.2.1, (x0.2.2.1, ((List.take i x0.2.2.2.1), x0.2.2.2.2)))), ()) [] h (by kernel_rfl) trivial (congrArg (fun z => (z, ())) (show ((x0.1, (x0.2.1, (x0.2.2.1, ((List.take i x0.2.2.2.1), x0.2.2.2.2))))) = (idD s148) x0 from by (rw [take_all (by omega)]; rfl)))

def S_spec_l15Copy : Sum := { fid := 146, dom := [s148], cod := [s148], dp := true, fz := false, pre := fun x => (fun (x : T148) => Sh.sz s148 x ≤ 1073741824) x.1, g := fun x => (((idD s148) x.1), ()) }
def S_spec_l15Copy_tab : List (Nat × Sum) := [(182, S_spec_l11All)]
theorem S_spec_l15Copy_ok : FnOK Try.prog 146 S_spec_l15Copy := by
  refine at_enter 10 (fun x => ⟨[(0, aG [cI x.1.1, cI x.1.2.1, cI x.1.2.2.1, .ro s38 x.1.2.2.2.1, cI x.1.2.2.2.2])], []⟩) Try.func146 rfl (by kernel_rfl) (fun x => rfl) ?_
  rintro w0 Z0 ⟨x0, u⟩ a w
  revert x0
  intro (x0 : T148) hpre hlens h
  replace h : At w0 Z0 [] 10 ⟨[(0, aG [cI x0.1, cI x0.2.1, cI x0.2.2.1, .ro s38 x0.2.2.2.1, cI x0.2.2.2.2])], []⟩ a w := h
  replace hpre : (fun (x : T148) => Sh.sz s148 x ≤ 1073741824) x0 := hpre
  have hl1 : List.length x0.2.2.2.1 ≤ 9223372036854775807 := hlens.1.2.2.2.1.1
  have hT : TabOK Try.prog S_spec_l15Copy_tab := (.cons S_spec_l11All_ok .nil)
  have hp : Sh.sz s148 x0 ≤ 1073741824 := hpre
  have hsr : Sh.sz s148 x0 = (0 + (0 + (0 + ((Sh.sz s146 x0.2.2.2.1) + 0)))) := rfl
  have hsz : Sh.sz s146 x0.2.2.2.1 = List.length x0.2.2.2.1 + ctL (Sh.sz s38) x0.2.2.2.1 := rfl
  refine wp_seq ?_
  refine at_regq (T := S_spec_l15Copy_tab) [{ ids := [1] }, { ids := [2] }] { ts := [1, 2], os := [1, 2] } [] gamOK hT h (by kernel_rfl) trivial ?_
  intro a w h
  refine then_normal ?_
  refine wp_seq ?_
  refine at_regq (T := S_spec_l15Copy_tab) [{}, { ids := [3] }] { ts := [1, 2, 3], os := [1, 2, 3] } [] gamOK hT h (by kernel_rfl) trivial ?_
  intro a w h
  refine then_normal ?_
  refine wp_seq ?_
  refine at_regq (T := S_spec_l15Copy_tab) [{}, {}, { ids := [4] }] { ts := [2, 3], os := [2, 3, 4] } [(fun (x : List T38) => Sh.sz s146 x ≤ 1073741824) x0.2.2.2.1] gamOK hT h (by kernel_rfl) ⟨(by (show _ ≤ _; omega)), trivial⟩ ?_
  intro a w h
  refine then_normal ?_
  refine wp_seq ?_
  refine at_reg (T := S_spec_l15Copy_tab) [] { ts := [2], os := [2, 4] } ⟨[(2, aP 2 0)], [(2, oX 148 [cI x0.1, cI x0.2.1, cI x0.2.2.1, .sl 4, cI x0.2.2.2.2]), (4, oR s38 x0.2.2.2.1)]⟩ [] gamOK hT h (by kernel_rfl) trivial ?_
  intro a w h
  refine then_normal ?_
  refine wp_ret ?_
  exact at_return (S := S_spec_l15Copy) (x := (x0, ())) (x0, ()) [] h (by kernel_rfl) trivial (congrArg (fun z => (z, ())) (show (x0) = (idD s148) x0 from by rfl))



def relGens (x : T92) : List Int := x.2.map fun y => y.1
def dropGens (x : T92) (n : Int) : T92 := (x.1, x.2.filter fun y => decide (y.1 ≥ n))

def S_impl_DropGenerations : Sum := { fid := 77, dom := [s92, (.int 3)], cod := [s92], dp := true, fz := false, pre := fun x => (fun (x : T92) (n : Int) => Sh.sz s92 x ≤ 1073741824) x.1 x.2.1, g := fun x => ((dropGens x.1 x.2.1), ()) }
def S_impl_DropGenerations_tab : List (Nat × Sum) := [(147, S__impl_Recoder_clone)]
theorem S_impl_DropGenerations_ok : FnOK Try.prog 77 S_impl_DropGenerations := by
  refine at_enter 31 (fun x => ⟨[(0, aG [cI x.1.1, .ro s148 x.1.2]), (1, aI x.2.1)], []⟩) Try.func77 rfl (by kernel_rfl) (fun x => rfl) ?_
  rintro w0 Z0 ⟨x0, x1, u⟩ a w
  revert x0 x1
  intro (x0 : T92) (x1 : Int) hpre hlens h
  replace h : At w0 Z0 [] 31 ⟨[(0, aG [cI x0.1, .ro s148 x0.2]), (1, aI x1)], []⟩ a w := h
  replace hpre : (fun (x : T92) (n : Int) => Sh.sz s92 x ≤ 1073741824) x0 x1 := hpre
  have hl1 : List.length x0.2 ≤ 9223372036854775807 := hlens.1.2.1
  have hT : TabOK Try.prog S_impl_DropGenerations_tab := (.cons S__impl_Recoder_clone_ok .nil)
  have hp : Sh.sz s92 x0 ≤ 1073741824 := hpre
  have hsr : Sh.sz s92 x0 = (0 + (Sh.sz s90 x0.2)) := rfl
  have hsz : Sh.sz s90 x0.2 = List.length x0.2 + ctL (Sh.sz s148) x0.2 := rfl
  refine wp_seq ?_
  refine at_regq (T := S_impl_DropGenerations_tab) [{ ids := [1] }, { ids := [2] }] { ts := [1, 2, 4], os := [1, 2] } [] gamOK hT h (by kernel_rfl) trivial ?_
  intro a w h
  refine then_normal ?_
  refine wp_seq ?_
  refine at_regq (T := S_impl_DropGenerations_tab) [{}, {}, {}, { ids := [3] }] { ts := [1, 2, 4, 5], os := [1, 2, 3] } [] gamOK hT h (by kernel_rfl) trivial ?_
  intro a w h
  refine then_normal ?_
  refine wp_seq ?_
  refine wp_seq ?_
  refine at_regq (T := S_impl_DropGenerations_tab) [] { ts := [1, 4, 5, 12, 13, 14], os := [2, 3] } [] gamOK hT h (by kernel_rfl) trivial ?_
  intro a w h
  refine then_normal ?_
  refine wp_block ?_
  replace h := at_out (σ' := ⟨[(1, aI x1), (4, aP 2 0), (5, aP 3 0), (12, aF s148 x0.2), (13, aI ((List.length x0.2 : Nat) : Int)), (14, aI 0)], [(2, oX 92 [cI 0, cN]), (3, oX 92 [cI x0.1, .sl 4]), (4, oR s148 ([] : List T148))]⟩) { mt := [⟨some 3, 1, 4, true, s148⟩], ts := [1, 4, 5, 12, 13, 14], os := [2, 3, 4] } h (by kernel_rfl)
  refine at_loop (fun i : Nat => (⟨[(1, aI x1), (4, aP 2 0), (5, aP 3 0), (12, aF s148 x0.2), (13, aI ((List.length x0.2 : Nat) : Int)), (14, aI ((i : Nat) : Int))], [(2, oX 92 [cI 0, cN]), (3, oX 92 [cI x0.1, .sl 4]), (4, oR s148 (List.filter (fun y => decide (y.1 ≥ x1)) (List.take i x0.2)))]⟩ : St)) (fun i => i ≤ List.length x0.2) (fun i => List.length x0.2 - i) (0) h (st_congr2 (fun (d0 : List T148) (d1 : Int) => (⟨[(1, aI x1), (4, aP 2 0), (5, aP 3 0), (12, aF s148 x0.2), (13, aI ((List.length x0.2 : Nat) : Int)), (14, aI d1)], [(2, oX 92 [cI 0, cN]), (3, oX 92 [cI x0.1, .sl 4]), (4, oR s148 d0)]⟩ : St)) (show (([] : List T148) : List T148) = (List.filter (fun y => decide (y.1 ≥ x1)) (List.take (0) x0.2)) from by first | rfl | (rfl)) (show (0 : Int) = (((0) : Nat) : Int) from by first | rfl | (rfl))) (by first | omega | simp | (refine ⟨?_, ?_⟩ <;> first | omega | simp)) ?_
  intro i a w hok0 h
  have hlt := len_filter_take (p := fun y : T148 => decide (y.1 ≥ x1)) (xs := x0.2) i
  refine wp_seq ?_
  refine at_reg (T := S_impl_DropGenerations_tab) [] { ts := [1, 4, 5, 12, 13, 14, 15], os := [2, 3, 4] } ⟨[(1, aI x1), (4, aP 2 0), (5, aP 3 0), (12, aF s148 x0.2), (13, aI ((List.length x0.2 : Nat) : Int)), (14, aI ((i : Nat) : Int)), (15, aB (decide (((i : Nat) : Int) < ((List.length x0.2 : Nat) : Int))))], [(2, oX 92 [cI 0, cN]), (3, oX 92 [cI x0.1, .sl 4]), (4, oR s148 (List.filter (fun y => decide (y.1 ≥ x1)) (List.take i x0.2)))]⟩ [] gamOK hT h (by kernel_rfl) trivial ?_
  intro a w h
  refine then_normal ?_
  refine wp_seq ?_
  refine at_test (decide (((i : Nat) : Int) < ((List.length x0.2 : Nat) : Int))) h (by kernel_rfl) (fun h1 => ?_) (fun h1 => ?_)
  · replace h1 : ((i : Nat) : Int) < ((List.length x0.2 : Nat) : Int) := of_decide_eq_true h1
    have hat := ctL_at_le (c := Sh.sz s148) (xs := x0.2) (z := (0, (0, (0, ([], 0))))) (i := i) (by omega)
    refine wp_skip ?_
    refine then_normal ?_
    refine wp_seq ?_
    refine wp_block ?_
    refine wp_seq ?_
    refine at_regq (T := S_impl_DropGenerations_tab) [{}, {}, { ids := [5] }] { ts := [1, 4, 5, 7, 12, 13, 14], os := [2, 3, 4, 5] } [(0 : Int) ≤ ((i : Nat) : Int) ∧ ((i : Nat) : Int) < ((List.length x0.2 : Nat) : Int)] gamOK hT h (by kernel_rfl) ⟨(by refine ⟨?_, ?_⟩ <;> (first | omega | (simp only [List.length_append, List.length_cons, List.length_nil, List.length_set, List.length_take, List.length_drop, List.length_replicate, List.length_map, Nat.min_def]; omega) | (simp; done) | (simp; omega) | done)), trivial⟩ ?_
    intro a w h
    refine then_normal ?_
    refine wp_seq ?_
    refine at_regq (T := S_impl_DropGenerations_tab) [] { ts := [1, 4, 5, 7, 12, 13, 14, 21], os := [2, 3, 4, 5] } [] gamOK hT h (by kernel_rfl) trivial ?_
    intro a w h
    refine then_normal ?_
    refine at_test (decide ((x0.2.getD i (0, (0, (0, ([], 0))))).1 ≥ x1)) h (by kernel_rfl) (fun h2 => ?_) (fun h2 => ?_)
    · replace h2 : (x0.2.getD i (0, (0, (0, ([], 0))))).1 ≥ x1 := of_decide_eq_true h2
      refine at_anyq (T := S_impl_DropGenerations_tab) [{}, {}, {}, { ids := [6] }, { ids := [7] }, { ids := [8] }, {}, {}] { ts := [1, 4, 5, 12, 13, 14], os := [2, 3, 8] } [(fun (x : T148) => Sh.sz s148 x ≤ 1073741824) (x0.2.getD i (0, (0, (0, ([], 0))))), (List.length (List.filter (fun y => decide (y.1 ≥ x1)) (List.take i x0.2)) + List.length ([(x0.2.getD i (0, (0, (0, ([], 0)))))])) * 56 ≤ 140737488355328] gamOK hT mixed h (by kernel_rfl) ⟨(by (show _ ≤ _; omega)), (by first | omega | (simp only [List.length_append, List.length_cons, List.length_nil, List.length_set, List.length_take, List.length_drop, List.length_replicate, List.length_map, Nat.min_def]; omega) | (simp; done) | (simp; omega) | done), trivial⟩ ?_
      intro a w h
      refine in_normal ?_
      refine then_normal ?_
      refine at_reg (T := S_impl_DropGenerations_tab) [{ nw := true }] { ts := [1, 4, 5, 12, 13, 14], os := [2, 3, 8] } ⟨[(1, aI x1), (4, aP 2 0), (5, aP 3 0), (12, aF s148 x0.2), (13, aI ((List.length x0.2 : Nat) : Int)), (14, aI (((i : Nat) : Int) + 1))], [(2, oX 92 [cI 0, cN]), (3, oX 92 [cI x0.1, .sl 8]), (8, oR s148 ((List.filter (fun y => decide (y.1 ≥ x1)) (List.take i x0.2)) ++ ([(x0.2.getD i (0, (0, (0, ([], 0)))))])))]⟩ [I64 (((i : Nat) : Int) + 1)] gamOK hT h (by kernel_rfl) ⟨⟨by first | omega | (simp only [List.length_append, List.length_cons, List.length_nil, List.length_set, List.length_take, List.length_drop, List.length_replicate, List.length_map, Nat.min_def]; omega) | (simp; done) | (simp; omega) | done, by first | omega | (simp only [List.length_append, List.length_cons, List.length_nil, List.length_set, List.length_take, List.length_drop, List.length_replicate, List.length_map, Nat.min_def]; omega) | (simp; done) | (simp; omega) | done⟩, trivial⟩ ?_
      intro a w h
      replace h := at_out (σ' := ⟨[(1, aI x1), (4, aP 2 0), (5, aP 3 0), (12, aF s148 x0.2), (13, aI ((List.length x0.2 : Nat) : Int)), (14, aI (((i : Nat) : Int) + 1))], [(2, oX 92 [cI 0, cN]), (3, oX 92 [cI x0.1, .sl 4]), (4, oR s148 ((List.filter (fun y => decide (y.1 ≥ x1)) (List.take i x0.2)) ++ ([(x0.2.getD i (0, (0, (0, ([], 0)))))])))]⟩) { ts := [1, 4, 5, 12, 13, 14], os := [2, 3, 8], rn := [(8, 4)] } h (by kernel_rfl)
      exact ⟨i + 1, at_eq h (st_congr2 (fun (d0 : List T148) (d1 : Int) => (⟨[(1, aI x1), (4, aP 2 0), (5, aP 3 0), (12, aF s148 x0.2), (13, aI ((List.length x0.2 : Nat) : Int)), (14, aI d1)], [(2, oX 92 [cI 0, cN]), (3, oX 92 [cI x0.1, .sl 4]), (4, oR s148 d0)]⟩ : St)) (show (((List.filter (fun y => decide (y.1 ≥ x1)) (List.take i x0.2)) ++ ([(x0.2.getD i (0, (0, (0, ([], 0)))))])) : List T148) = (List.filter (fun y => decide (y.1 ≥ x1)) (List.take (i + 1) x0.2)) from by first | rfl | (first | (rw [filter_snoc_t (z := (0, (0, (0, ([], 0))))) (by omega) (decide_eq_true (by assumption))]; done) | (rw [filter_snoc_f (z := (0, (0, (0, ([], 0))))) (by omega) (decide_eq_false (by assumption))]; done))) (show (((i : Nat) : Int) + 1 : Int) = (((i + 1) : Nat) : Int) from by first | rfl | (omega))), (by first | omega | (refine ⟨?_, ?_⟩ <;> omega)), (by omega)⟩
    · replace h2 : ¬ ((x0.2.getD i (0, (0, (0, ([], 0))))).1 ≥ x1) := of_decide_eq_false h2
      refine wp_skip ?_
      refine in_normal ?_
      refine then_normal ?_
      refine at_regq (T := S_impl_DropGenerations_tab) [{ nw := true }] { ts := [1, 4, 5, 12, 13, 14], os := [2, 3, 4] } [I64 (((i : Nat) : Int) + 1)] gamOK hT h (by kernel_rfl) ⟨⟨by first | omega | (simp only [List.length_append, List.length_cons, List.length_nil, List.length_set, List.length_take, List.length_drop, List.length_replicate, List.length_map, Nat.min_def]; omega) | (simp; done) | (simp; omega) | done, by first | omega | (simp only [List.length_append, List.length_cons, List.length_nil, List.length_set, List.length_take, List.length_drop, List.length_replicate, List.length_map, Nat.min_def]; omega) | (simp; done) | (simp; omega) | done⟩, trivial⟩ ?_
      intro a w h
      replace h := at_out (σ' := ⟨[(1, aI x1), (4, aP 2 0), (5, aP 3 0), (12, aF s148 x0.2), (13, aI ((List.length x0.2 : Nat) : Int)), (14, aI (((i : Nat) : Int) + 1))], [(2, oX 92 [cI 0, cN]), (3, oX 92 [cI x0.1, .sl 4]), (4, oR s148 (List.filter (fun y => decide (y.1 ≥ x1)) (List.take i x0.2)))]⟩) { ts := [1, 4, 5, 12, 13, 14], os := [2, 3, 4] } h (by kernel_rfl)
      exact ⟨i + 1, at_eq h (st_congr2 (fun (d0 : List T148) (d1 : Int) => (⟨[(1, aI x1), (4, aP 2 0), (5, aP 3 0), (12, aF s148 x0.2), (13, aI ((List.length x0.2 : Nat) : Int)), (14, aI d1)], [(2, oX 92 [cI 0, cN]), (3, oX 92 [cI x0.1, .sl 4]), (4, oR s148 d0)]⟩ : St)) (show ((List.filter (fun y => decide (y.1 ≥ x1)) (List.take i x0.2)) : List T148) = (List.filter (fun y => decide (y.1 ≥ x1)) (List.take (i + 1) x0.2)) from by first | rfl | (first | (rw [filter_snoc_t (z := (0, (0, (0, ([], 0))))) (by omega) (decide_eq_true (by assumption))]; done) | (rw [filter_snoc_f (z := (0, (0, (0, ([], 0))))) (by omega) (decide_eq_false (by assumption))]; done))) (show (((i : Nat) : Int) + 1 : Int) = (((i + 1) : Nat) : Int) from by first | rfl | (omega))), (by first | omega | (refine ⟨?_, ?_⟩ <;> omega)), (by omega)⟩
  · replace h1 : ¬ (((i : Nat) : Int) < ((List.length x0.2 : Nat) : Int)) := of_decide_eq_false h1
    refine wp_exit ?_
    refine then_exit ?_
    refine then_exit ?_
    refine in_hit ?_
    refine then_normal ?_
    refine wp_seq ?_
    refine at_regq (T := S_impl_DropGenerations_tab) [] { ts := [4], os := [2, 4] } [] gamOK hT h (by kernel_rfl) trivial ?_
    intro a w h
    refine then_normal ?_
    refine wp_ret ?_
    exact at_return (S := S_impl_DropGenerations) (x := (x0, x1, ())) ((x0.1, (List.filter (fun y => decide (y.1 ≥ x1)) (List.take i x0.2))), ()) [] h (by kernel_rfl) trivial (congrArg (fun z => (z, ())) (show ((x0.1, (List.filter (fun y => decide (y.1 ≥ x1)) (List.take i x0.2)))) = dropGens x0 x1 from by (unfold dropGens; rw [take_all (by omega)])))

def S_spec_DropGenerations : Sum := { fid := 76, dom := [s92, (.int 3)], cod := [s92], dp := true, fz := false, pre := fun x => (fun (x : T92) (n : Int) => Sh.sz s92 x ≤ 1073741824) x.1 x.2.1, g := fun x => ((dropGens x.1 x.2.1), ()) }
def S_spec_DropGenerations_tab : List (Nat × Sum) := [(146, S_spec_l15Copy)]
theorem S_spec_DropGenerations_ok : FnOK Try.prog 76 S_spec_DropGenerations := by
  refine at_enter 37 (fun x => ⟨[(0, aG [cI x.1.1, .ro s148 x.1.2]), (1, aI x.2.1)], []⟩) Try.func76 rfl (by kernel_rfl) (fun x => rfl) ?_
  rintro w0 Z0 ⟨x0, x1, u⟩ a w
  revert x0 x1
  intro (x0 : T92) (x1 : Int) hpre hlens h
  replace h : At w0 Z0 [] 37 ⟨[(0, aG [cI x0.1, .ro s148 x0.2]), (1, aI x1)], []⟩ a w := h
  replace hpre : (fun (x : T92) (n : Int) => Sh.sz s92 x ≤ 1073741824) x0 x1 := hpre
  have hl1 : List.length x0.2 ≤ 9223372036854775807 := hlens.1.2.1
  have hT : TabOK Try.prog S_spec_DropGenerations_tab := (.cons S_spec_l15Copy_ok .nil)
  have hp : Sh.sz s92 x0 ≤ 1073741824 := hpre
  have hsr : Sh.sz s92 x0 = (0 + (Sh.sz s90 x0.2)) := rfl
  have hsz : Sh.sz s90 x0.2 = List.length x0.2 + ctL (Sh.sz s148) x0.2 := rfl
  refine wp_seq ?_
  refine at_regq (T := S_spec_DropGenerations_tab) [{ ids := [1] }, { ids := [2] }] { ts := [1, 2, 4], os := [1, 2] } [] gamOK hT h (by kernel_rfl) trivial ?_
  intro a w h
  refine then_normal ?_
  refine wp_seq ?_
  refine at_regq (T := S_spec_DropGenerations_tab) [{}, {}, {}, { ids := [3] }] { ts := [1, 2, 4, 5], os := [1, 2, 3] } [] gamOK hT h (by kernel_rfl) trivial ?_
  intro a w h
  refine then_normal ?_
  refine wp_seq ?_
  refine wp_seq ?_
  refine at_regq (T := S_spec_DropGenerations_tab) [] { ts := [1, 2, 4, 5, 6], os := [1, 2, 3] } [] gamOK hT h (by kernel_rfl) trivial ?_
  intro a w h
  refine then_normal ?_
  refine wp_block ?_
  replace h := at_out (σ' := ⟨[(1, aI x1), (2, aP 1 0), (4, aP 2 0), (5, aP 3 0), (6, aI 0)], [(1, oX 92 [cI x0.1, .ro s148 x0.2]), (2, oX 92 [cI 0, cN]), (3, oX 92 [cI x0.1, .sl 4]), (4, oR s148 ([] : List T148))]⟩) { mt := [⟨some 3, 1, 4, true, s148⟩], ts := [1, 2, 4, 5, 6], os := [1, 2, 3, 4] } h (by kernel_rfl)
  refine at_loop (fun i : Nat => (⟨[(1, aI x1), (2, aP 1 0), (4, aP 2 0), (5, aP 3 0), (6, aI ((i : Nat) : Int))], [(1, oX 92 [cI x0.1, .ro s148 x0.2]), (2, oX 92 [cI 0, cN]), (3, oX 92 [cI x0.1, .sl 4]), (4, oR s148 (List.filter (fun y => decide (y.1 ≥ x1)) (List.take i x0.2)))]⟩ : St)) (fun i => i ≤ List.length x0.2) (fun i => List.length x0.2 - i) (0) h (st_congr2 (fun (d0 : List T148) (d1 : Int) => (⟨[(1, aI x1), (2, aP 1 0), (4, aP 2 0), (5, aP 3 0), (6, aI d1)], [(1, oX 92 [cI x0.1, .ro s148 x0.2]), (2, oX 92 [cI 0, cN]), (3, oX 92 [cI x0.1, .sl 4]), (4, oR s148 d0)]⟩ : St)) (show (([] : List T148) : List T148) = (List.filter (fun y => decide (y.1 ≥ x1)) (List.take (0) x0.2)) from by first | rfl | (rfl)) (show (0 : Int) = (((0) : Nat) : Int) from by first | rfl | (rfl))) (by first | omega | simp | (refine ⟨?_, ?_⟩ <;> first | omega | simp)) ?_
  intro i a w hok0 h
  have hlt := len_filter_take (p := fun y : T148 => decide (y.1 ≥ x1)) (xs := x0.2) i
  refine wp_seq ?_
  refine wp_seq ?_
  refine at_reg (T := S_spec_DropGenerations_tab) [] { ts := [1, 2, 4, 5, 6, 14], os := [1, 2, 3, 4] } ⟨[(1, aI x1), (2, aP 1 0), (4, aP 2 0), (5, aP 3 0), (6, aI ((i : Nat) : Int)), (14, aB (decide (((i : Nat) : Int) < ((List.length x0.2 : Nat) : Int))))], [(1, oX 92 [cI x0.1, .ro s148 x0.2]), (2, oX 92 [cI 0, cN]), (3, oX 92 [cI x0.1, .sl 4]), (4, oR s148 (List.filter (fun y => decide (y.1 ≥ x1)) (List.take i x0.2)))]⟩ [] gamOK hT h (by kernel_rfl) trivial ?_
  intro a w h
  refine then_normal ?_
  refine at_test (decide (((i : Nat) : Int) < ((List.length x0.2 : Nat) : Int))) h (by kernel_rfl) (fun h1 => ?_) (fun h1 => ?_)
  · replace h1 : ((i : Nat) : Int) < ((List.length x0.2 : Nat) : Int) := of_decide_eq_true h1
    have hat := ctL_at_le (c := Sh.sz s148) (xs := x0.2) (z := (0, (0, (0, ([], 0))))) (i := i) (by omega)
    refine wp_skip ?_
    refine then_normal ?_
    refine wp_seq ?_
    refine wp_block ?_
    refine wp_seq ?_
    refine at_regq (T := S_spec_DropGenerations_tab) [] { ts := [1, 2, 4, 5, 6, 24], os := [1, 2, 3, 4] } [(0 : Int) ≤ ((i : Nat) : Int) ∧ ((i : Nat) : Int) < ((List.length x0.2 : Nat) : Int)] gamOK hT h (by kernel_rfl) ⟨(by refine ⟨?_, ?_⟩ <;> (first | omega | (simp only [List.length_append, List.length_cons, List.length_nil, List.length_set, List.length_take, List.length_drop, List.length_replicate, List.length_map, Nat.min_def]; omega) | (simp; done) | (simp; omega) | done)), trivial⟩ ?_
    intro a w h
    refine then_normal ?_
    refine at_test (decide ((x0.2.getD i (0, (0, (0, ([], 0))))).1 ≥ x1)) h (by kernel_rfl) (fun h2 => ?_) (fun h2 => ?_)
    · replace h2 : (x0.2.getD i (0, (0, (0, ([], 0))))).1 ≥ x1 := of_decide_eq_true h2
      refine at_anyq (T := S_spec_DropGenerations_tab) [{}, {}, {}, {}, {}, {}, {}, { ids := [5] }, { ids := [6] }, { ids := [7] }, {}, {}] { ts := [1, 2, 4, 5, 6], os := [1, 2, 3, 7] } [(0 : Int) ≤ ((i : Nat) : Int) ∧ ((i : Nat) : Int) < ((List.length x0.2 : Nat) : Int), (fun (x : T148) => Sh.sz s148 x ≤ 1073741824) (x0.2.getD i (0, (0, (0, ([], 0))))), (List.length (List.filter (fun y => decide (y.1 ≥ x1)) (List.take i x0.2)) + List.length ([(x0.2.getD i (0, (0, (0, ([], 0)))))])) * 56 ≤ 140737488355328] gamOK hT mixed h (by kernel_rfl) ⟨(by refine ⟨?_, ?_⟩ <;> (first | omega | (simp only [List.length_append, List.length_cons, List.length_nil, List.length_set, List.length_take, List.length_drop, List.length_replicate, List.length_map, Nat.min_def]; omega) | (simp; done) | (simp; omega) | done)), (by (show _ ≤ _; omega)), (by first | omega | (simp only [List.length_append, List.length_cons, List.length_nil, List.length_set, List.length_take, List.length_drop, List.length_replicate, List.length_map, Nat.min_def]; omega) | (simp; done) | (simp; omega) | done), trivial⟩ ?_
      intro a w h
      refine in_normal ?_
      refine then_normal ?_
      refine at_regq (T := S_spec_DropGenerations_tab) [{}, { nw := true }] { ts := [1, 2, 4, 5, 6], os := [1, 2, 3, 7] } [I64 (((i : Nat) : Int) + 1)] gamOK hT h (by kernel_rfl) ⟨⟨by first | omega | (simp only [List.length_append, List.length_cons, List.length_nil, List.length_set, List.length_take, List.length_drop, List.length_replicate, List.length_map, Nat.min_def]; omega) | (simp; done) | (simp; omega) | done, by first | omega | (simp only [List.length_append, List.length_cons, List.length_nil, List.length_set, List.length_take, List.length_drop, List.length_replicate, List.length_map, Nat.min_def]; omega) | (simp; done) | (simp; omega) | done⟩, trivial⟩ ?_
      intro a w h
      replace h := at_out (σ' := ⟨[(1, aI x1), (2, aP 1 0), (4, aP 2 0), (5, aP 3 0), (6, aI (((i : Nat) : Int) + 1))], [(1, oX 92 [cI x0.1, .ro s148 x0.2]), (2, oX 92 [cI 0, cN]), (3, oX 92 [cI x0.1, .sl 4]), (4, oR s148 ((List.filter (fun y => decide (y.1 ≥ x1)) (List.take i x0.2)) ++ ([(x0.2.getD i (0, (0, (0, ([], 0)))))])))]⟩) { ts := [1, 2, 4, 5, 6], os := [1, 2, 3, 7], rn := [(7, 4)] } h (by kernel_rfl)
      exact ⟨i + 1, at_eq h (st_congr2 (fun (d0 : List T148) (d1 : Int) => (⟨[(1, aI x1), (2, aP 1 0), (4, aP 2 0), (5, aP 3 0), (6, aI d1)], [(1, oX 92 [cI x0.1, .ro s148 x0.2]), (2, oX 92 [cI 0, cN]), (3, oX 92 [cI x0.1, .sl 4]), (4, oR s148 d0)]⟩ : St)) (show (((List.filter (fun y => decide (y.1 ≥ x1)) (List.take i x0.2)) ++ ([(x0.2.getD i (0, (0, (0, ([], 0)))))])) : List T148) = (List.filter (fun y => decide (y.1 ≥ x1)) (List.take (i + 1) x0.2)) from by first | rfl | (first | (rw [filter_snoc_t (z := (0, (0, (0, ([], 0))))) (by omega) (decide_eq_true (by assumption))]; done) | (rw [filter_snoc_f (z := (0, (0, (0, ([], 0))))) (by omega) (decide_eq_false (by assumption))]; done))) (show (((i : Nat) : Int) + 1 : Int) = (((i + 1) : Nat) : Int) from by first | rfl | (omega))), (by first | omega | (refine ⟨?_, ?_⟩ <;> omega)), (by omega)⟩
    · replace h2 : ¬ ((x0.2.getD i (0, (0, (0, ([], 0))))).1 ≥ x1) := of_decide_eq_false h2
      refine wp_skip ?_
      refine in_normal ?_
      refine then_normal ?_
      refine at_regq (T := S_spec_DropGenerations_tab) [{}, { nw := true }] { ts := [1, 2, 4, 5, 6], os := [1, 2, 3, 4] } [I64 (((i : Nat) : Int) + 1)] gamOK hT h (by kernel_rfl) ⟨⟨by first | omega | (simp only [List.length_append, List.length_cons, List.length_nil, List.length_set, List.length_take, List.length_drop, List.length_replicate, List.length_map, Nat.min_def]; omega) | (simp; done) | (simp; omega) | done, by first | omega | (simp only [List.length_append, List.length_cons, List.length_nil, List.length_set, List.length_take, List.length_drop, List.length_replicate, List.length_map, Nat.min_def]; omega) | (simp; done) | (simp; omega) | done⟩, trivial⟩ ?_
      intro a w h
      replace h := at_out (σ' := ⟨[(1, aI x1), (2, aP 1 0), (4, aP 2 0), (5, aP 3 0), (6, aI (((i : Nat) : Int) + 1))], [(1, oX 92 [cI x0.1, .ro s148 x0.2]), (2, oX 92 [cI 0, cN]), (3, oX 92 [cI x0.1, .sl 4]), (4, oR s148 (List.filter (fun y => decide (y.1 ≥ x1)) (List.take i x0.2)))]⟩) { ts := [1, 2, 4, 5, 6], os := [1, 2, 3, 4] } h (by kernel_rfl)
      exact ⟨i + 1, at_eq h (st_congr2 (fun (d0 : List T148) (d1 : Int) => (⟨[(1, aI x1), (2, aP 1 0), (4, aP 2 0), (5, aP 3 0), (6, aI d1)], [(1, oX 92 [cI x0.1, .ro s148 x0.2]), (2, oX 92 [cI 0, cN]), (3, oX 92 [cI x0.1, .sl 4]), (4, oR s148 d0)]⟩ : St)) (show ((List.filter (fun y => decide (y.1 ≥ x1)) (List.take i x0.2)) : List T148) = (List.filter (fun y => decide (y.1 ≥ x1)) (List.take (i + 1) x0.2)) from by first | rfl | (first | (rw [filter_snoc_t (z := (0, (0, (0, ([], 0))))) (by omega) (decide_eq_true (by assumption))]; done) | (rw [filter_snoc_f (z := (0, (0, (0, ([], 0))))) (by omega) (decide_eq_false (by assumption))]; done))) (show (((i : Nat) : Int) + 1 : Int) = (((i + 1) : Nat) : Int) from by first | rfl | (omega))), (by first | omega | (refine ⟨?_, ?_⟩ <;> omega)), (by omega)⟩
  · replace h1 : ¬ (((i : Nat) : Int) < ((List.length x0.2 : Nat) : Int)) := of_decide_eq_false h1
    refine wp_exit ?_
    refine then_exit ?_
    refine then_exit ?_
    refine in_hit ?_
    refine then_normal ?_
    refine wp_seq ?_
    refine at_regq (T := S_spec_DropGenerations_tab) [] { ts := [4], os := [2, 4] } [] gamOK hT h (by kernel_rfl) trivial ?_
    intro a w h
    refine then_normal ?_
    refine wp_ret ?_
    exact at_return (S := S_spec_DropGenerations) (x := (x0, x1, ())) ((x0.1, (List.filter (fun y => decide (y.1 ≥ x1)) (List.take i x0.2))), ()) [] h (by kernel_rfl) trivial (congrArg (fun z => (z, ())) (show ((x0.1, (List.filter (fun y => decide (y.1 ≥ x1)) (List.take i x0.2)))) = dropGens x0 x1 from by (unfold dropGens; rw [take_all (by omega)])))




def D_laws_FnExactDropGenerations := (fun (_ : T87) (_ : Int) => true)
def S_laws_FnExactDropGenerations : Sum := { fid := 14, dom := [s87, (.int 3)], cod := [(.bool 4)], dp := true, fz := false, pre := fun x => (fun (x0 : T87) (x1 : Int) => Sh.i64 s87 x0 ∧ Sh.i64 (.int 3) x1) x.1 x.2.1, g := fun x => ((D_laws_FnExactDropGenerations x.1 x.2.1), ()) }
def S_laws_FnExactDropGenerations_tab : List (Nat × Sum) := [(58, S_laws_szRelay), (60, S_laws_toRelay), (76, S_spec_DropGenerations), (77, S_impl_DropGenerations), (62, S_laws_eqRelay), (63, S_laws_markRelay), (78, S_laws_heldRelay)]
theorem S_laws_FnExactDropGenerations_ok : FnOK Try.prog 14 S_laws_FnExactDropGenerations := by
  refine at_enter 74 (fun x => ⟨[(0, aG [cI x.1.1, .ro s180 x.1.2]), (1, aI x.2.1)], []⟩) Try.func14 rfl (by kernel_rfl) (fun x => rfl) ?_
  rintro w0 Z0 ⟨x0, x1, u⟩ a w
  revert x0 x1
  intro (x0 : T87) (x1 : Int) hpre hlens h
  replace h : At w0 Z0 [] 74 ⟨[(0, aG [cI x0.1, .ro s180 x0.2]), (1, aI x1)], []⟩ a w := h
  replace hpre : (fun (x0 : T87) (x1 : Int) => Sh.i64 s87 x0 ∧ Sh.i64 (.int 3) x1) x0 x1 := hpre
  have hl1 : List.length x0.2 ≤ 9223372036854775807 := hlens.1.2.1
  have hT : TabOK Try.prog S_laws_FnExactDropGenerations_tab := (.cons S_laws_szRelay_ok (.cons S_laws_toRelay_ok (.cons S_spec_DropGenerations_ok (.cons S_impl_DropGenerations_ok (.cons S_laws_eqRelay_ok (.cons S_laws_markRelay_ok (.cons S_laws_heldRelay_ok .nil)))))))
  have hq0 : Sh.sz s92 x0 = Sh.sz s87 x0 := rfl
  have hb0 : Sh.ctT s92 x0 ≤ 8 * Sh.sz s92 x0 := Sh.ctT_le2 s92 x0
  have hz0 : Sh.ct s92 x0 ≤ 8 * (1 + Sh.sz s92 x0) := Sh.ct_le s92 x0
  have ht0 : Sh.sz s87 x0 = (0 + (Sh.sz s85 x0.2)) := rfl
  have hs0_1 : Sh.sz s85 x0.2 = List.length x0.2 + ctL (Sh.sz s180) x0.2 := rfl
  have hr1 : Sh.ctT s92 (dropGens x0 x1) ≤ 8 * Sh.sz s92 (dropGens x0 x1) := Sh.ctT_le2 s92 _
  have hr2 : Sh.sz s92 (dropGens x0 x1) ≤ Sh.sz s92 x0 := by
    have h1 : Sh.sz s92 (dropGens x0 x1) = 0 + (List.length (dropGens x0 x1).2 + ctL (Sh.sz s148) (dropGens x0 x1).2) := rfl
    have h2 : Sh.sz s92 x0 = 0 + (List.length x0.2 + ctL (Sh.sz s148) x0.2) := rfl
    have h3 : List.length (dropGens x0 x1).2 ≤ List.length x0.2 := List.length_filter_le _ _
    have h4 : ctL (Sh.sz s148) (dropGens x0 x1).2 ≤ ctL (Sh.sz s148) x0.2 := ctL_filter _ _ _
    omega
  refine wp_seq ?_
  refine at_regq (T := S_laws_FnExactDropGenerations_tab) [{ ids := [1] }] { ts := [1, 2, 4], os := [1] } [] gamOK hT h (by kernel_rfl) trivial ?_
  intro a w h
  refine then_normal ?_
  refine wp_seq ?_
  refine at_regq (T := S_laws_FnExactDropGenerations_tab) [] { ts := [1, 2, 4, 5], os := [1] } [] gamOK hT h (by kernel_rfl) trivial ?_
  intro a w h
  refine then_normal ?_
  refine wp_seq ?_
  refine at_regq (T := S_laws_FnExactDropGenerations_tab) [] { ts := [1, 2, 4, 5], os := [1] } [(pSz s87) x0 1048576] gamOK hT h (by kernel_rfl) ⟨(by (show (0 : Int) ≤ _ ∧ _ ≤ (9223372036854775807 : Int); constructor <;> omega)), trivial⟩ ?_
  intro a w h
  refine then_normal ?_
  refine wp_seq ?_
  refine wp_seq ?_
  refine at_reg (T := S_laws_FnExactDropGenerations_tab) [] { ts := [1, 2, 4, 17], os := [1] } ⟨[(1, aI x1), (2, aP 1 0), (4, aB false), (17, aB (decide (((szD s87) x0 1048576) < 0)))], [(1, oX 87 [cI x0.1, .ro s180 x0.2])]⟩ [] gamOK hT h (by kernel_rfl) trivial ?_
  intro a w h
  refine then_normal ?_
  refine at_test (decide (((szD s87) x0 1048576) < 0)) h (by kernel_rfl) (fun h1 => ?_) (fun h1 => ?_)
  · replace h1 : ((szD s87) x0 1048576) < 0 := of_decide_eq_true h1
    have hvh1 := szD_neg h1 (by omega)
    refine wp_seq ?_
    refine at_regq (T := S_laws_FnExactDropGenerations_tab) [] { ts := [1, 2, 4], os := [1] } [] gamOK hT h (by kernel_rfl) trivial ?_
    intro a w h
    refine then_normal ?_
    refine wp_ret ?_
    refine then_ret ?_
    exact at_return (S := S_laws_FnExactDropGenerations) (x := (x0, x1, ())) (true, ()) [] h (by kernel_rfl) trivial (congrArg (fun z => (z, ())) (show (true) = D_laws_FnExactDropGenerations x0 x1 from by unfold D_laws_FnExactDropGenerations; rfl))
  · replace h1 : ¬ (((szD s87) x0 1048576) < 0) := of_decide_eq_false h1
    have hvh1 := szD_val h1 (by omega)
    refine wp_skip ?_
    refine then_normal ?_
    refine wp_seq ?_
    refine at_regq (T := S_laws_FnExactDropGenerations_tab) [{}, { ids := [2] }, {}, { ids := [3] }, { ids := [4] }] { ts := [1, 2, 4, 6], os := [1, 3, 4] } [(pTo s87) x0, (fun (x : T92) (n : Int) => Sh.sz s92 x ≤ 1073741824) x0 x1] gamOK hT h (by kernel_rfl) ⟨(by (show Sh.sz _ _ ≤ 1048576; omega)), (by first | trivial | assumption | (show _ ≤ _; omega) | (show _ ∧ _; constructor <;> (show _ ≤ _; omega))), trivial⟩ ?_
    intro a w h
    refine then_normal ?_
    refine wp_seq ?_
    refine at_regq (T := S_laws_FnExactDropGenerations_tab) [{}, { ids := [5] }, { ids := [6] }] { ts := [1, 2, 4, 6, 7], os := [1, 3, 4, 5, 6] } [(pTo s87) x0] gamOK hT h (by kernel_rfl) ⟨(by (show Sh.sz _ _ ≤ 1048576; omega)), trivial⟩ ?_
    intro a w h
    refine then_normal ?_
    refine wp_seq ?_
    refine at_regq (T := S_laws_FnExactDropGenerations_tab) [{}, {}, { ids := [7] }, { ids := [8] }] { ts := [1, 2, 4, 6, 7, 8], os := [1, 3, 4, 5, 6, 7, 8] } [(fun (x : T92) (n : Int) => Sh.sz s92 x ≤ 1073741824) x0 x1] gamOK hT h (by kernel_rfl) ⟨(by first | trivial | assumption | (show _ ≤ _; omega) | (show _ ∧ _; constructor <;> (show _ ≤ _; omega))), trivial⟩ ?_
    intro a w h
    refine then_normal ?_
    refine wp_seq ?_
    refine wp_seq ?_
    refine at_reg (T := S_laws_FnExactDropGenerations_tab) [] { ts := [1, 2, 4, 6, 7, 8, 30], os := [1, 3, 4, 5, 6, 7, 8] } ⟨[(1, aI x1), (2, aP 1 0), (4, aB false), (6, aP 4 0), (7, aP 6 0), (8, aP 8 0), (30, aB (!((Sh.eqB s92) (dropGens x0 x1) (dropGens x0 x1))))], [(1, oX 87 [cI x0.1, .ro s180 x0.2]), (3, oR s148 (dropGens x0 x1).2), (4, oX 92 [cI (dropGens x0 x1).1, .sl 3]), (5, oR s148 x0.2), (6, oX 92 [cI x0.1, .sl 5]), (7, oR s148 (dropGens x0 x1).2), (8, oX 92 [cI (dropGens x0 x1).1, .sl 7])]⟩ [True] gamOK hT h (by kernel_rfl) ⟨trivial, trivial⟩ ?_
    intro a w h
    refine then_normal ?_
    refine at_test (!((Sh.eqB s92) (dropGens x0 x1) (dropGens x0 x1))) h (by kernel_rfl) (fun h2 => ?_) (fun h2 => ?_)
    · replace h2 : ((Sh.eqB s92) (dropGens x0 x1) (dropGens x0 x1)) = false := notT h2
      refine wp_seq ?_
      refine at_regq (T := S_laws_FnExactDropGenerations_tab) [] { ts := [1, 2, 4, 6, 7, 8], os := [1, 3, 4, 5, 6, 7, 8] } [] gamOK hT h (by kernel_rfl) trivial ?_
      intro a w h
      refine then_normal ?_
      refine wp_ret ?_
      refine then_ret ?_
      exact at_return (S := S_laws_FnExactDropGenerations) (x := (x0, x1, ())) (false, ()) [] h (by kernel_rfl) trivial (congrArg (fun z => (z, ())) (show (false) = D_laws_FnExactDropGenerations x0 x1 from by unfold D_laws_FnExactDropGenerations; exact absurd ((Sh.eqB_iff _).2 (show _ = _ from by first | rfl | (rfl))) (neT h2)))
    · replace h2 : ((Sh.eqB s92) (dropGens x0 x1) (dropGens x0 x1)) = true := notF h2
      refine wp_skip ?_
      refine then_normal ?_
      refine wp_seq ?_
      refine wp_seq ?_
      refine at_anyq (T := S_laws_FnExactDropGenerations_tab) [{}, {}, { ids := [9] }, {}, {}] { ts := [1, 2, 4, 6, 7, 8, 35], os := [1, 3, 4, 5, 6, 7, 8] } [(pTo s87) x0, True] gamOK hT mixed h (by kernel_rfl) ⟨(by (show Sh.sz _ _ ≤ 1048576; omega)), trivial, trivial⟩ ?_
      intro a w h
      refine then_normal ?_
      refine at_test (!((Sh.eqB s92) x0 x0)) h (by kernel_rfl) (fun h3 => ?_) (fun h3 => ?_)
      · replace h3 : ((Sh.eqB s92) x0 x0) = false := notT h3
        refine wp_seq ?_
        refine at_regq (T := S_laws_FnExactDropGenerations_tab) [] { ts := [1, 2, 4, 6, 7, 8], os := [1, 3, 4, 5, 6, 7, 8] } [] gamOK hT h (by kernel_rfl) trivial ?_
        intro a w h
        refine then_normal ?_
        refine wp_ret ?_
        refine then_ret ?_
        exact at_return (S := S_laws_FnExactDropGenerations) (x := (x0, x1, ())) (false, ()) [] h (by kernel_rfl) trivial (congrArg (fun z => (z, ())) (show (false) = D_laws_FnExactDropGenerations x0 x1 from by unfold D_laws_FnExactDropGenerations; exact absurd ((Sh.eqB_iff _).2 (show _ = _ from by first | rfl | (rfl))) (neT h3)))
      · replace h3 : ((Sh.eqB s92) x0 x0) = true := notF h3
        refine wp_skip ?_
        refine then_normal ?_
        refine wp_seq ?_
        refine at_regq (T := S_laws_FnExactDropGenerations_tab) [] { ts := [1, 2, 4, 6, 7, 8, 9], os := [1, 3, 4, 5, 6, 7, 8] } [] gamOK hT h (by kernel_rfl) trivial ?_
        intro a w h
        refine then_normal ?_
        refine wp_seq ?_
        refine at_regq (T := S_laws_FnExactDropGenerations_tab) [] { ts := [1, 2, 4, 6, 8, 9], os := [1, 3, 4, 7, 8] } [(pMkT s92) x0 1] gamOK hT h (by kernel_rfl) ⟨(by (show (0 : Int) ≤ _ ∧ _ + ((Sh.ctT _ _ : Nat) : Int) ≤ (4611686018427387904 : Int); (try simp only [mkK, mkKT, Sh.ctT_mkT, Sh.ct_mk]); constructor <;> omega)), trivial⟩ ?_
        intro a w h
        refine then_normal ?_
        refine wp_seq ?_
        refine wp_seq ?_
        by_cases h4 : ((mkKT s92) x0 1) < 0
        · skip
          refine at_reg (T := S_laws_FnExactDropGenerations_tab) [{}, { hint := some (aB true) }] { ts := [1, 2, 4, 6, 8, 46], os := [1, 3, 4, 7, 8] } ⟨[(1, aI x1), (2, aP 1 0), (4, aB false), (6, aP 4 0), (8, aP 8 0), (46, aB true)], [(1, oX 87 [cI x0.1, .ro s180 x0.2]), (3, oR s148 (dropGens x0 x1).2), (4, oX 92 [cI (dropGens x0 x1).1, .sl 3]), (7, oR s148 (dropGens x0 x1).2), (8, oX 92 [cI (dropGens x0 x1).1, .sl 7])]⟩ [(AV.p (.c (.v (.bool (decide (((mkKT s92) x0 1) < 0))))) = AV.p (.c (.v (.bool true))))] gamOK hT h (by kernel_rfl) ⟨hint_bool (decide_eq_true h4), trivial⟩ ?_
          intro a w h
          refine then_normal ?_
          refine at_test true h (by kernel_rfl) (fun hh => ?_) (fun hh => nomatch hh)
          refine wp_seq ?_
          refine at_regq (T := S_laws_FnExactDropGenerations_tab) [] { ts := [1, 2, 4, 6, 8], os := [1, 3, 4, 7, 8] } [] gamOK hT h (by kernel_rfl) trivial ?_
          intro a w h
          refine then_normal ?_
          refine wp_ret ?_
          refine then_ret ?_
          exact at_return (S := S_laws_FnExactDropGenerations) (x := (x0, x1, ())) (false, ()) [] h (by kernel_rfl) trivial (congrArg (fun z => (z, ())) (show (false) = D_laws_FnExactDropGenerations x0 x1 from by unfold D_laws_FnExactDropGenerations; (exfalso; simp only [mkK, mkKT, Sh.ctT_mkT, Sh.ct_mk] at h4; first | omega | exact h4 trivial | exact h4 rfl)))
        · skip
          refine at_reg (T := S_laws_FnExactDropGenerations_tab) [{}, { hint := some (aB false) }] { ts := [1, 2, 4, 6, 8, 46], os := [1, 3, 4, 7, 8] } ⟨[(1, aI x1), (2, aP 1 0), (4, aB false), (6, aP 4 0), (8, aP 8 0), (46, aB (!((Sh.eqB s92) (dropGens x0 x1) (dropGens x0 x1))))], [(1, oX 87 [cI x0.1, .ro s180 x0.2]), (3, oR s148 (dropGens x0 x1).2), (4, oX 92 [cI (dropGens x0 x1).1, .sl 3]), (7, oR s148 (dropGens x0 x1).2), (8, oX 92 [cI (dropGens x0 x1).1, .sl 7])]⟩ [(AV.p (.c (.v (.bool (decide (((mkKT s92) x0 1) < 0))))) = AV.p (.c (.v (.bool false)))), True] gamOK hT h (by kernel_rfl) ⟨hint_bool (decide_eq_false h4), trivial, trivial⟩ ?_
          intro a w h
          refine then_normal ?_
          refine at_test (!((Sh.eqB s92) (dropGens x0 x1) (dropGens x0 x1))) h (by kernel_rfl) (fun h5 => ?_) (fun h5 => ?_)
          · replace h5 : ((Sh.eqB s92) (dropGens x0 x1) (dropGens x0 x1)) = false := notT h5
            refine wp_seq ?_
            refine at_regq (T := S_laws_FnExactDropGenerations_tab) [] { ts := [1, 2, 4, 6, 8], os := [1, 3, 4, 7, 8] } [] gamOK hT h (by kernel_rfl) trivial ?_
            intro a w h
            refine then_normal ?_
            refine wp_ret ?_
            refine then_ret ?_
            exact at_return (S := S_laws_FnExactDropGenerations) (x := (x0, x1, ())) (false, ()) [] h (by kernel_rfl) trivial (congrArg (fun z => (z, ())) (show (false) = D_laws_FnExactDropGenerations x0 x1 from by unfold D_laws_FnExactDropGenerations; exact absurd ((Sh.eqB_iff _).2 (show _ = _ from by first | rfl | (rfl))) (neT h5)))
          · replace h5 : ((Sh.eqB s92) (dropGens x0 x1) (dropGens x0 x1)) = true := notF h5
            refine wp_skip ?_
            refine then_normal ?_
            refine wp_seq ?_
            refine at_regq (T := S_laws_FnExactDropGenerations_tab) [] { ts := [1, 2, 4, 6, 8, 10], os := [1, 3, 4, 7, 8] } [] gamOK hT h (by kernel_rfl) trivial ?_
            intro a w h
            refine then_normal ?_
            refine wp_seq ?_
            refine at_regq (T := S_laws_FnExactDropGenerations_tab) [] { ts := [1, 2, 4, 6, 8, 10], os := [1, 3, 4, 7, 8] } [(pMkT s92) (dropGens x0 x1) 1] gamOK hT h (by kernel_rfl) ⟨(by (show (0 : Int) ≤ _ ∧ _ + ((Sh.ctT _ _ : Nat) : Int) ≤ (4611686018427387904 : Int); (try simp only [mkK, mkKT, Sh.ctT_mkT, Sh.ct_mk]); constructor <;> omega)), trivial⟩ ?_
            intro a w h
            refine then_normal ?_
            refine wp_seq ?_
            refine at_regq (T := S_laws_FnExactDropGenerations_tab) [] { ts := [1, 2, 4, 6, 8, 10, 11], os := [1, 3, 4, 7, 8] } [] gamOK hT h (by kernel_rfl) trivial ?_
            intro a w h
            refine then_normal ?_
            refine wp_seq ?_
            refine at_reg (T := S_laws_FnExactDropGenerations_tab) [] { ts := [1, 2, 4, 6, 8, 10, 11], os := [1, 3, 4, 7, 8] } ⟨[(1, aI x1), (2, aP 1 0), (4, aB false), (6, aP 4 0), (8, aP 8 0), (10, aI ((mkKT s92) (dropGens x0 x1) 1)), (11, aI ((heldDT s92) ((Sh.mkT s92) (dropGens x0 x1) 1) 1))], [(1, oX 87 [cI x0.1, .ro s180 x0.2]), (3, oR s148 (dropGens x0 x1).2), (4, oX 92 [cI (dropGens x0 x1).1, .sl 3]), (7, oR s148 ((Sh.mkT s92) (dropGens x0 x1) 1).2), (8, oX 92 [cI (dropGens x0 x1).1, .sl 7])]⟩ [(pMkT s92) ((Sh.mkT s92) (dropGens x0 x1) 1) 1] gamOK hT h (by kernel_rfl) ⟨(by (show (0 : Int) ≤ _ ∧ _ + ((Sh.ctT _ _ : Nat) : Int) ≤ (4611686018427387904 : Int); (try simp only [mkK, mkKT, Sh.ctT_mkT, Sh.ct_mk]); constructor <;> omega)), trivial⟩ ?_
            intro a w h
            refine then_normal ?_
            refine wp_seq ?_
            refine wp_seq ?_
            refine at_regq (T := S_laws_FnExactDropGenerations_tab) [] { ts := [1, 2, 4, 6, 8, 10, 11, 54], os := [1, 3, 4, 7, 8] } [] gamOK hT h (by kernel_rfl) trivial ?_
            intro a w h
            refine then_normal ?_
            refine at_test (decide (((heldDT s92) ((Sh.mkT s92) (dropGens x0 x1) 1) 1) < 0)) h (by kernel_rfl) (fun h6 => ?_) (fun h6 => ?_)
            · replace h6 : ((heldDT s92) ((Sh.mkT s92) (dropGens x0 x1) 1) 1) < 0 := of_decide_eq_true h6
              refine wp_seq ?_
              refine at_regq (T := S_laws_FnExactDropGenerations_tab) [] { ts := [1, 2, 4, 6, 8, 10, 11], os := [1, 3, 4, 7, 8] } [] gamOK hT h (by kernel_rfl) trivial ?_
              intro a w h
              refine then_normal ?_
              refine wp_ret ?_
              refine then_ret ?_
              exact at_return (S := S_laws_FnExactDropGenerations) (x := (x0, x1, ())) (false, ()) [] h (by kernel_rfl) trivial (congrArg (fun z => (z, ())) (show (false) = D_laws_FnExactDropGenerations x0 x1 from by unfold D_laws_FnExactDropGenerations; (exfalso; simp only [held_marked, held_markedT, mkK, mkKT, Sh.ctT_mkT, Sh.ct_mk] at h6; first | omega | exact h6 trivial | exact h6 rfl)))
            · replace h6 : ¬ (((heldDT s92) ((Sh.mkT s92) (dropGens x0 x1) 1) 1) < 0) := of_decide_eq_false h6
              refine wp_skip ?_
              refine then_normal ?_
              refine wp_seq ?_
              refine wp_seq ?_
              refine at_regq (T := S_laws_FnExactDropGenerations_tab) [] { ts := [1, 2, 4, 6, 8, 10, 57], os := [1, 3, 4, 7, 8] } [] gamOK hT h (by kernel_rfl) trivial ?_
              intro a w h
              refine then_normal ?_
              refine at_test (!decide (((heldDT s92) ((Sh.mkT s92) (dropGens x0 x1) 1) 1) = ((mkKT s92) (dropGens x0 x1) 1))) h (by kernel_rfl) (fun h7 => ?_) (fun h7 => ?_)
              · replace h7 : ¬ (((heldDT s92) ((Sh.mkT s92) (dropGens x0 x1) 1) 1) = ((mkKT s92) (dropGens x0 x1) 1)) := by simpa using h7
                refine wp_seq ?_
                refine at_regq (T := S_laws_FnExactDropGenerations_tab) [] { ts := [1, 2, 4, 6, 8, 10], os := [1, 3, 4, 7, 8] } [] gamOK hT h (by kernel_rfl) trivial ?_
                intro a w h
                refine then_normal ?_
                refine wp_ret ?_
                refine then_ret ?_
                exact at_return (S := S_laws_FnExactDropGenerations) (x := (x0, x1, ())) (false, ()) [] h (by kernel_rfl) trivial (congrArg (fun z => (z, ())) (show (false) = D_laws_FnExactDropGenerations x0 x1 from by unfold D_laws_FnExactDropGenerations; (exfalso; simp only [held_marked, held_markedT, mkK, mkKT, Sh.ctT_mkT, Sh.ct_mk] at h7; first | omega | exact h7 trivial | exact h7 rfl)))
              · replace h7 : ((heldDT s92) ((Sh.mkT s92) (dropGens x0 x1) 1) 1) = ((mkKT s92) (dropGens x0 x1) 1) := by simpa using h7
                refine wp_skip ?_
                refine then_normal ?_
                refine wp_seq ?_
                refine at_regq (T := S_laws_FnExactDropGenerations_tab) [{}, { ids := [10] }, {}, { ids := [11] }, { ids := [12] }] { ts := [4, 6, 8, 10, 12], os := [3, 4, 7, 8, 11, 12] } [(pTo s87) x0, (fun (x : T92) (n : Int) => Sh.sz s92 x ≤ 1073741824) x0 x1] gamOK hT h (by kernel_rfl) ⟨(by (show Sh.sz _ _ ≤ 1048576; omega)), (by first | trivial | assumption | (show _ ≤ _; omega) | (show _ ∧ _; constructor <;> (show _ ≤ _; omega))), trivial⟩ ?_
                intro a w h
                refine then_normal ?_
                refine wp_seq ?_
                refine wp_seq ?_
                refine at_reg (T := S_laws_FnExactDropGenerations_tab) [] { ts := [4, 8, 10, 65], os := [7, 8] } ⟨[(4, aB false), (8, aP 8 0), (10, aI ((mkKT s92) (dropGens x0 x1) 1)), (65, aB (!((Sh.eqB s92) (dropGens x0 x1) (dropGens x0 x1))))], [(7, oR s148 ((Sh.mkT s92) (dropGens x0 x1) 1).2), (8, oX 92 [cI (dropGens x0 x1).1, .sl 7])]⟩ [True] gamOK hT h (by kernel_rfl) ⟨trivial, trivial⟩ ?_
                intro a w h
                refine then_normal ?_
                refine at_test (!((Sh.eqB s92) (dropGens x0 x1) (dropGens x0 x1))) h (by kernel_rfl) (fun h8 => ?_) (fun h8 => ?_)
                · replace h8 : ((Sh.eqB s92) (dropGens x0 x1) (dropGens x0 x1)) = false := notT h8
                  refine wp_seq ?_
                  refine at_regq (T := S_laws_FnExactDropGenerations_tab) [] { ts := [4, 8, 10], os := [7, 8] } [] gamOK hT h (by kernel_rfl) trivial ?_
                  intro a w h
                  refine then_normal ?_
                  refine wp_ret ?_
                  refine then_ret ?_
                  exact at_return (S := S_laws_FnExactDropGenerations) (x := (x0, x1, ())) (false, ()) [] h (by kernel_rfl) trivial (congrArg (fun z => (z, ())) (show (false) = D_laws_FnExactDropGenerations x0 x1 from by unfold D_laws_FnExactDropGenerations; exact absurd ((Sh.eqB_iff _).2 (show _ = _ from by first | rfl | (rfl))) (neT h8)))
                · replace h8 : ((Sh.eqB s92) (dropGens x0 x1) (dropGens x0 x1)) = true := notF h8
                  refine wp_skip ?_
                  refine then_normal ?_
                  refine wp_seq ?_
                  refine at_regq (T := S_laws_FnExactDropGenerations_tab) [] { ts := [4, 8, 10, 11], os := [7, 8] } [] gamOK hT h (by kernel_rfl) trivial ?_
                  intro a w h
                  refine then_normal ?_
                  refine wp_seq ?_
                  refine at_regq (T := S_laws_FnExactDropGenerations_tab) [] { ts := [4, 10, 11], os := [] } [(pMkT s92) ((Sh.mkT s92) (dropGens x0 x1) 1) 1] gamOK hT h (by kernel_rfl) ⟨(by (show (0 : Int) ≤ _ ∧ _ + ((Sh.ctT _ _ : Nat) : Int) ≤ (4611686018427387904 : Int); (try simp only [mkK, mkKT, Sh.ctT_mkT, Sh.ct_mk]); constructor <;> omega)), trivial⟩ ?_
                  intro a w h
                  refine then_normal ?_
                  refine wp_seq ?_
                  refine wp_seq ?_
                  refine at_regq (T := S_laws_FnExactDropGenerations_tab) [] { ts := [4, 10, 11, 70], os := [] } [] gamOK hT h (by kernel_rfl) trivial ?_
                  intro a w h
                  refine then_normal ?_
                  refine at_test (decide (((heldDT s92) ((Sh.mkT s92) (dropGens x0 x1) 1) 1) < 0)) h (by kernel_rfl) (fun h9 => ?_) (fun h9 => ?_)
                  · replace h9 : ((heldDT s92) ((Sh.mkT s92) (dropGens x0 x1) 1) 1) < 0 := of_decide_eq_true h9
                    refine wp_seq ?_
                    refine at_reg (T := S_laws_FnExactDropGenerations_tab) [] { ts := [4, 10, 11], os := [] } ⟨[(4, aB false), (10, aI ((mkKT s92) (dropGens x0 x1) 1)), (11, aI ((heldDT s92) ((Sh.mkT s92) (dropGens x0 x1) 1) 1))], []⟩ [] gamOK hT h (by kernel_rfl) trivial ?_
                    intro a w h
                    refine then_normal ?_
                    refine wp_ret ?_
                    refine then_ret ?_
                    exact at_return (S := S_laws_FnExactDropGenerations) (x := (x0, x1, ())) (false, ()) [] h (by kernel_rfl) trivial (congrArg (fun z => (z, ())) (show (false) = D_laws_FnExactDropGenerations x0 x1 from by unfold D_laws_FnExactDropGenerations; (exfalso; simp only [held_marked, held_markedT, mkK, mkKT, Sh.ctT_mkT, Sh.ct_mk] at h9; first | omega | exact h9 trivial | exact h9 rfl)))
                  · replace h9 : ¬ (((heldDT s92) ((Sh.mkT s92) (dropGens x0 x1) 1) 1) < 0) := of_decide_eq_false h9
                    refine wp_skip ?_
                    refine then_normal ?_
                    refine wp_seq ?_
                    refine wp_seq ?_
                    refine at_reg (T := S_laws_FnExactDropGenerations_tab) [] { ts := [4, 73], os := [] } ⟨[(4, aB false), (73, aB (!decide (((heldDT s92) ((Sh.mkT s92) (dropGens x0 x1) 1) 1) = ((mkKT s92) (dropGens x0 x1) 1))))], []⟩ [] gamOK hT h (by kernel_rfl) trivial ?_
                    intro a w h
                    refine then_normal ?_
                    refine at_test (!decide (((heldDT s92) ((Sh.mkT s92) (dropGens x0 x1) 1) 1) = ((mkKT s92) (dropGens x0 x1) 1))) h (by kernel_rfl) (fun h10 => ?_) (fun h10 => ?_)
                    · replace h10 : ¬ (((heldDT s92) ((Sh.mkT s92) (dropGens x0 x1) 1) 1) = ((mkKT s92) (dropGens x0 x1) 1)) := by simpa using h10
                      refine wp_seq ?_
                      refine at_regq (T := S_laws_FnExactDropGenerations_tab) [] { ts := [4], os := [] } [] gamOK hT h (by kernel_rfl) trivial ?_
                      intro a w h
                      refine then_normal ?_
                      refine wp_ret ?_
                      refine then_ret ?_
                      exact at_return (S := S_laws_FnExactDropGenerations) (x := (x0, x1, ())) (false, ()) [] h (by kernel_rfl) trivial (congrArg (fun z => (z, ())) (show (false) = D_laws_FnExactDropGenerations x0 x1 from by unfold D_laws_FnExactDropGenerations; (exfalso; simp only [held_marked, held_markedT, mkK, mkKT, Sh.ctT_mkT, Sh.ct_mk] at h10; first | omega | exact h10 trivial | exact h10 rfl)))
                    · replace h10 : ((heldDT s92) ((Sh.mkT s92) (dropGens x0 x1) 1) 1) = ((mkKT s92) (dropGens x0 x1) 1) := by simpa using h10
                      refine wp_skip ?_
                      refine then_normal ?_
                      refine wp_seq ?_
                      refine at_regq (T := S_laws_FnExactDropGenerations_tab) [] { ts := [4], os := [] } [] gamOK hT h (by kernel_rfl) trivial ?_
                      intro a w h
                      refine then_normal ?_
                      refine wp_ret ?_
                      exact at_return (S := S_laws_FnExactDropGenerations) (x := (x0, x1, ())) (true, ()) [] h (by kernel_rfl) trivial (congrArg (fun z => (z, ())) (show (true) = D_laws_FnExactDropGenerations x0 x1 from by unfold D_laws_FnExactDropGenerations; rfl))

theorem opn3 : OpensS Try.prog 3 (.int 3) := opensS_int Try.underlying3
theorem co3 : Try.prog.cellsOf 3 = 1 := by kernel_rfl
theorem opn34 : OpensS Try.prog 34 s34 := opensS_slice (a := (.int 3)) Try.underlying34 co3 opn3
theorem co34 : Try.prog.cellsOf 34 = 1 := by kernel_rfl
theorem co36 : Try.prog.cellsOf 36 = 3 := by kernel_rfl
theorem opn36 : OpensS Try.prog 36 s36 := by
  intro H enc w base spare held fuel cs x h
  obtain ⟨xs, n, _, _, hl, hlen, hf⟩ := DataW.trod_struct Try.underlying36 h
  obtain ⟨a0, k0, i0⟩ := opensS_field (a := (.int 3)) (i := 0) 0 1 hf hlen rfl rfl rfl co3 opn3
  obtain ⟨a1, k1, i1⟩ := opensS_field (a := s34) (i := 1) 1 1 hf hlen rfl rfl rfl co34 opn34
  obtain ⟨a2, k2, i2⟩ := opensS_field (a := s34) (i := 2) 2 1 hf hlen rfl rfl rfl co34 opn34
  rw [co36] at hl
  exact ⟨(a0, (a1, a2)), (rdS_pair (off := 0) k0 (rdS_pair (off := 1) k1 (rdS_last (off := 2) k2 (by omega)))), ⟨i0, ⟨i1, i2⟩⟩⟩
theorem opn178 : OpensS Try.prog 178 s178 := opensS_slice (a := s36) Try.underlying178 co36 opn36
theorem co178 : Try.prog.cellsOf 178 = 1 := by kernel_rfl
theorem co180 : Try.prog.cellsOf 180 = 5 := by kernel_rfl
theorem opn180 : OpensS Try.prog 180 s180 := by
  intro H enc w base spare held fuel cs x h
  obtain ⟨xs, n, _, _, hl, hlen, hf⟩ := DataW.trod_struct Try.underlying180 h
  obtain ⟨a0, k0, i0⟩ := opensS_field (a := (.int 3)) (i := 0) 0 1 hf hlen rfl rfl rfl co3 opn3
  obtain ⟨a1, k1, i1⟩ := opensS_field (a := (.int 3)) (i := 1) 1 1 hf hlen rfl rfl rfl co3 opn3
  obtain ⟨a2, k2, i2⟩ := opensS_field (a := (.int 3)) (i := 2) 2 1 hf hlen rfl rfl rfl co3 opn3
  obtain ⟨a3, k3, i3⟩ := opensS_field (a := s178) (i := 3) 3 1 hf hlen rfl rfl rfl co178 opn178
  obtain ⟨a4, k4, i4⟩ := opensS_field (a := (.int 3)) (i := 4) 4 1 hf hlen rfl rfl rfl co3 opn3
  rw [co180] at hl
  exact ⟨(a0, (a1, (a2, (a3, a4)))), (rdS_pair (off := 0) k0 (rdS_pair (off := 1) k1 (rdS_pair (off := 2) k2 (rdS_pair (off := 3) k3 (rdS_last (off := 4) k4 (by omega)))))), ⟨i0, ⟨i1, ⟨i2, ⟨i3, i4⟩⟩⟩⟩⟩
theorem opn85 : OpensS Try.prog 85 s85 := opensS_slice (a := s180) Try.underlying85 co180 opn180
theorem co85 : Try.prog.cellsOf 85 = 1 := by kernel_rfl
theorem co87 : Try.prog.cellsOf 87 = 2 := by kernel_rfl
theorem opn87 : OpensS Try.prog 87 s87 := by
  intro H enc w base spare held fuel cs x h
  obtain ⟨xs, n, _, _, hl, hlen, hf⟩ := DataW.trod_struct Try.underlying87 h
  obtain ⟨a0, k0, i0⟩ := opensS_field (a := (.int 3)) (i := 0) 0 1 hf hlen rfl rfl rfl co3 opn3
  obtain ⟨a1, k1, i1⟩ := opensS_field (a := s85) (i := 1) 1 1 hf hlen rfl rfl rfl co85 opn85
  rw [co87] at hl
  exact ⟨(a0, a1), (rdS_pair (off := 0) k0 (rdS_last (off := 1) k1 (by omega))), ⟨i0, i1⟩⟩
namespace fnExactDropGenerations
open Go.ChangeShapes Go.WideShapes Go.ChangeAt Go.RowKit
theorem own : ownKnob Try.prog.godebug = none := by kernel_rfl
theorem laidOut : laidOutB Try.prog = true := by kernel_rfl
set_option maxRecDepth 100000 in
theorem lifted (os : Os) (started : os.Started) (H : Type) (enc : TypeId × Value → H) :
    ReturnsInHanded {} Try.checked os 14 .any (Rows.fnExactDropGenerationsSpec.pre6 enc Try.prog Try.f14 Rows.fnExactDropGenerationsRow.domain false) (Rows.fnExactDropGenerationsSpec.post enc Try.prog Try.f14 false true false false) := by
  refine returnsInHanded_of_change (C := Try.checked) own started (by kernel_rfl) Try.func14
    (ChangeSpec.witness6 (enc := enc) (C := Try.checked) false ⟨#[], #[.agg #[.int .i64 0, .slice none 0 0], .int .i64 0], []⟩ 8 (by kernel_rfl) (by kernel_rfl) (by kernel_rfl) (by kernel_rfl)) ?_
  intro W base args ds gs before hval0 hW hcnd _
  have hval : ∀ (j : Nat) t v, Try.f14.params[j]? = some t → args[j]? = some v → Value.okWide Try.prog W .any base t v := hval0
  have hW' := hW
  obtain ⟨p, q, hA0, hV, rfl, hfz, hnd⟩ := hW
  have hA : DataW.TrodAll enc Try.prog W 0 (fun _ => true) true Try.f14.params.toList args.toList ds p := hA0
  rw [Try.params14] at hA hval
  obtain ⟨v0, vs0, d0, ds0, p0, q0, hargs, rfl, rfl, h0, r0⟩ := trodAll_cons hA
  obtain ⟨v1, vs1, d1, ds1, p1, q1, rfl, rfl, rfl, h1, r1⟩ := trodAll_cons r0
  obtain ⟨rfl, rfl, rfl⟩ := trodAll_nil r1
  obtain rfl : args = #[v0, v1] := by cases args; simp_all
  obtain ⟨rfl, rfl⟩ := trodVars_none hV
  have k0 := h0
  have lt0 : ∀ x ∈ p0, x.block < W.heap.size := by obtain ⟨m, hm⟩ := k0; exact DataW.trod_lt m _ _ _ hm
  obtain ⟨cs0, rfl, _⟩ := okWide_struct Try.underlying87 (hval 0 87 v0 rfl rfl)
  obtain ⟨cs0⟩ := cs0
  obtain ⟨x0, hx0, i0⟩ : ∃ x : (s87).D, (s87).rd W (fun b => b < W.heap.size) cs0 x ∧ (s87).i64 x := by obtain ⟨fuel, hf⟩ := h0; exact opn87 hf
  have k1 := h1
  have lt1 : ∀ x ∈ p1, x.block < W.heap.size := by obtain ⟨m, hm⟩ := k1; exact DataW.trod_lt m _ _ _ hm
  obtain ⟨a1, rfl, rfl, rfl, w1⟩ := open_int Try.underlying3 (hval 1 3 v1 rfl rfl) h1
  clear hA0 hval0
  refine (calls_law S_laws_FnExactDropGenerations_ok (by kernel_rfl) W (fun b => b < W.heap.size) [.agg cs0.toArray, .int .i64 a1] (x0, a1, ()) (fun _ h => h) ⟨argRd_st hx0, argRd_int a1, trivial⟩ ⟨i0, (show I64 a1 from by unfold I64; simpa [Lit.wf, IntKind.min, IntKind.max, IntKind.signed, IntKind.bits] using w1)⟩).mono fun e W' hr => ?_
  obtain ⟨he, bel⟩ := ret_bool hr
  subst he
  exact ⟨_, rfl, _, _, _, [], _, [], hW', trodAll_mk1 (shut_bool Try.underlying4 _), (trodAll_cons_mk (Below.trod laidOut (by kernel_rfl) (of_decide_eq_true (by kernel_rfl)) k0 bel lt0) (trodAll_cons_mk (Below.trod laidOut (by kernel_rfl) (of_decide_eq_true (by kernel_rfl)) k1 bel lt1) trodAll_mk0)), rfl, bel.frame _, fun h => by cases h⟩
theorem over : Rows.fnExactDropGenerationsRow.holds Try.pinned (OpenSpec.ofChange Rows.fnExactDropGenerationsSpec) :=
  OpenClaim.holds_of_wide 14 Try.f14 rfl rfl rfl rfl rfl rfl rfl ⟨rfl, rfl, rfl, rfl, rfl⟩ rfl rfl rfl rfl rfl (by kernel_rfl) Try.func14 (by kernel_rfl)
    (of_decide_eq_true (by kernel_rfl)) (by unfold Func.isWrapper; first | (rw [if_pos (by decide +kernel)]; kernel_rfl) | (rw [if_neg (by decide +kernel)]; exact ⟨rfl, rfl⟩))
    (fun os started H enc _ => lifted os started H enc)
/-- the statement -/
theorem proved : Rows.FnExactDropGenerationsSaid := over
end fnExactDropGenerations

end Go.Proofs.Ytfbogeakgmickaa

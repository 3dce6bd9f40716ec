/- The walks of the functions that the law reaches: each summary holds. No condition. -/
import Derived.Test.YtdmkjcnppgfeoaaRecordProof1
import Derived.Test.YtdmkjcnppgfeoaaLA
import Derived.Test.YtdmkjcnppgfeoaaProg
namespace Go.Proofs.Ytdmkjcnppgfeoaa
open Go.RowKit
set_option linter.unusedVariables false
set_option linter.unusedSimpArgs false
def S_spec_Hash : Sum := { fid := 296, dom := [s22], cod := [(.int 3)], dp := true, fz := false, pre := fun x => True, g := fun x => ((hashF x.1), ()) }
def S_spec_Hash_tab : List (Nat × Sum) := [(323, S_spec_Mod)]
theorem S_spec_Hash_ok : FnOK Try.prog 296 S_spec_Hash := by
  refine at_enter 22 (fun x => ⟨[(0, aF (.int 3) x.1)], []⟩) Try.func296 rfl (by kernel_rfl) (fun x => rfl) ?_
  rintro w0 Z0 ⟨x0, u⟩ a w
  revert x0
  intro (x0 : (List Int)) hpre hlens h
  replace h : At w0 Z0 [] 22 ⟨[(0, aF (.int 3) x0)], []⟩ a w := h
  have hl1 : List.length x0 ≤ 9223372036854775807 := hlens.1.1
  have hT : TabOK Try.prog S_spec_Hash_tab := (.cons S_spec_Mod_ok .nil)
  refine wp_seq ?_
  refine at_regq (T := S_spec_Hash_tab) [] { ts := [0, 2], os := [] } [] gamOK hT h (by kernel_rfl) trivial ?_
  intro a w h
  refine then_normal ?_
  refine wp_seq ?_
  refine at_regq (T := S_spec_Hash_tab) [] { ts := [0, 2, 3], os := [] } [] gamOK hT h (by kernel_rfl) trivial ?_
  intro a w h
  refine then_normal ?_
  refine wp_seq ?_
  refine wp_seq ?_
  refine at_regq (T := S_spec_Hash_tab) [] { ts := [0, 2, 3, 4], os := [] } [] gamOK hT h (by kernel_rfl) trivial ?_
  intro a w h
  refine then_normal ?_
  refine wp_block ?_
  replace h := at_out (σ' := ⟨[(0, aF (.int 3) x0), (2, aI 0), (3, aI 11), (4, aI 0)], []⟩) { ts := [0, 2, 3, 4], os := [] } h (by kernel_rfl)
  refine at_loop (fun i : Nat => (⟨[(0, aF (.int 3) x0), (2, aI 0), (3, aI (foldTo hashS 11 x0 i)), (4, aI ((i : Nat) : Int))], []⟩ : St)) (fun i => i ≤ List.length x0) (fun i => List.length x0 - i) (0) h (st_congr2 (fun (d0 : Int) (d1 : Int) => (⟨[(0, aF (.int 3) x0), (2, aI 0), (3, aI d0), (4, aI d1)], []⟩ : St)) (show (11 : Int) = (foldTo hashS 11 x0 (0)) from by first | with_reducible rfl | (first | rfl | simp) | rfl) (show (0 : Int) = (((0) : Nat) : Int) from by first | with_reducible rfl | (first | rfl | simp) | rfl)) (by omega) ?_
  intro i a w hok0 h
  have hbd := hash_bd x0 i
  refine wp_seq ?_
  refine wp_seq ?_
  refine at_reg (T := S_spec_Hash_tab) [] { ts := [0, 2, 3, 4, 8], os := [] } ⟨[(0, aF (.int 3) x0), (2, aI 0), (3, aI (foldTo hashS 11 x0 i)), (4, aI ((i : Nat) : Int)), (8, aB (decide (((i : Nat) : Int) < ((List.length x0 : Nat) : Int))))], []⟩ [] gamOK hT h (by kernel_rfl) trivial ?_
  intro a w h
  refine then_normal ?_
  refine at_test (decide (((i : Nat) : Int) < ((List.length x0 : Nat) : Int))) h (by kernel_rfl) (fun h1 => ?_) (fun h1 => ?_)
  · replace h1 : ((i : Nat) : Int) < ((List.length x0 : Nat) : Int) := of_decide_eq_true h1
    have hmb := modF_bd (x0.getD i 0)
    refine wp_skip ?_
    refine then_normal ?_
    refine wp_seq ?_
    refine wp_block ?_
    refine at_regq (T := S_spec_Hash_tab) [{}, { nw := true }, {}, {}, {}, {}, {}, { nw := true }, { nw := true }] { ts := [0, 2, 3, 4], os := [] } [I64 ((foldTo hashS 11 x0 i) * 1000003), (0 : Int) ≤ ((i : Nat) : Int) ∧ ((i : Nat) : Int) < ((List.length x0 : Nat) : Int), True, I64 (((foldTo hashS 11 x0 i) * 1000003) + (modF (x0.getD i 0) 2147483647)), I64 ((((foldTo hashS 11 x0 i) * 1000003) + (modF (x0.getD i 0) 2147483647)) + 13), (2147483647 : Int) ≠ 0] gamOK hT h (by kernel_rfl) ⟨⟨by first | omega | (simp only [List.length_append, List.length_cons, List.length_nil, List.length_set, List.length_take, List.length_drop, List.length_replicate, List.length_map, Nat.min_def]; omega) | (simp; done) | (simp; omega) | done, by first | omega | (simp only [List.length_append, List.length_cons, List.length_nil, List.length_set, List.length_take, List.length_drop, List.length_replicate, List.length_map, Nat.min_def]; omega) | (simp; done) | (simp; omega) | done⟩, (by refine ⟨?_, ?_⟩ <;> (first | omega | (simp only [List.length_append, List.length_cons, List.length_nil, List.length_set, List.length_take, List.length_drop, List.length_replicate, List.length_map, Nat.min_def]; omega) | (simp; done) | (simp; omega) | done)), trivial, ⟨by first | omega | (simp only [List.length_append, List.length_cons, List.length_nil, List.length_set, List.length_take, List.length_drop, List.length_replicate, List.length_map, Nat.min_def]; omega) | (simp; done) | (simp; omega) | done, by first | omega | (simp only [List.length_append, List.length_cons, List.length_nil, List.length_set, List.length_take, List.length_drop, List.length_replicate, List.length_map, Nat.min_def]; omega) | (simp; done) | (simp; omega) | done⟩, ⟨by first | omega | (simp only [List.length_append, List.length_cons, List.length_nil, List.length_set, List.length_take, List.length_drop, List.length_replicate, List.length_map, Nat.min_def]; omega) | (simp; done) | (simp; omega) | done, by first | omega | (simp only [List.length_append, List.length_cons, List.length_nil, List.length_set, List.length_take, List.length_drop, List.length_replicate, List.length_map, Nat.min_def]; omega) | (simp; done) | (simp; omega) | done⟩, (by first | omega | (simp only [List.length_append, List.length_cons, List.length_nil, List.length_set, List.length_take, List.length_drop, List.length_replicate, List.length_map, Nat.min_def]; omega) | (simp; done) | (simp; omega) | done), trivial⟩ ?_
    intro a w h
    refine in_normal ?_
    refine then_normal ?_
    refine at_regq (T := S_spec_Hash_tab) [{}, { nw := true }] { ts := [0, 2, 3, 4], os := [] } [I64 (((i : Nat) : Int) + 1)] gamOK hT h (by kernel_rfl) ⟨⟨by first | omega | (simp only [List.length_append, List.length_cons, List.length_nil, List.length_set, List.length_take, List.length_drop, List.length_replicate, List.length_map, Nat.min_def]; omega) | (simp; done) | (simp; omega) | done, by first | omega | (simp only [List.length_append, List.length_cons, List.length_nil, List.length_set, List.length_take, List.length_drop, List.length_replicate, List.length_map, Nat.min_def]; omega) | (simp; done) | (simp; omega) | done⟩, trivial⟩ ?_
    intro a w h
    replace h := at_out (σ' := ⟨[(0, aF (.int 3) x0), (2, aI 0), (3, aI (Int.tmod ((((foldTo hashS 11 x0 i) * 1000003) + (modF (x0.getD i 0) 2147483647)) + 13) 2147483647)), (4, aI (((i : Nat) : Int) + 1))], []⟩) { ts := [0, 2, 3, 4], os := [] } h (by kernel_rfl)
    exact ⟨i + 1, at_eq h (st_congr2 (fun (d0 : Int) (d1 : Int) => (⟨[(0, aF (.int 3) x0), (2, aI 0), (3, aI d0), (4, aI d1)], []⟩ : St)) (show ((Int.tmod ((((foldTo hashS 11 x0 i) * 1000003) + (modF (x0.getD i 0) 2147483647)) + 13) 2147483647) : Int) = (foldTo hashS 11 x0 (i + 1)) from by first | with_reducible rfl | (rw [foldTo_succ 0 (by omega)]; first | rfl | (simp_all; done)) | rfl) (show (((i : Nat) : Int) + 1 : Int) = (((i + 1) : Nat) : Int) from by first | with_reducible rfl | (omega) | rfl)), (by omega), (by omega)⟩
  · replace h1 : ¬ (((i : Nat) : Int) < ((List.length x0 : Nat) : Int)) := of_decide_eq_false h1
    refine wp_exit ?_
    refine then_exit ?_
    replace h := at_out (σ' := ⟨[(2, aI 0), (3, aI (foldTo hashS 11 x0 i))], []⟩) { ts := [2, 3], os := [] } h (by kernel_rfl)
    replace h := at_eq (σ' := ⟨[(2, aI 0), (3, aI (List.foldl hashS 11 x0))], []⟩) h (st_congr1 (fun (d0 : Int) => (⟨[(2, aI 0), (3, aI d0)], []⟩ : St)) (show ((foldTo hashS 11 x0 i) : Int) = (List.foldl hashS 11 x0) from by first | with_reducible rfl | (rw [foldTo_all (by omega)]) | rfl))
    refine then_exit ?_
    refine in_hit ?_
    refine then_normal ?_
    refine wp_seq ?_
    refine at_regq (T := S_spec_Hash_tab) [] { ts := [2], os := [] } [] gamOK hT h (by kernel_rfl) trivial ?_
    intro a w h
    refine then_normal ?_
    refine wp_ret ?_
    exact at_return (S := S_spec_Hash) (x := (x0, ())) ((List.foldl hashS 11 x0), ()) [] h (by kernel_rfl) trivial (congrArg (fun z => (z, ())) (show ((List.foldl hashS 11 x0)) = hashF x0 from by rfl))

def S_impl_KeyedHash : Sum := { fid := 299, dom := [(.int 3), s22], cod := [(.int 3)], dp := true, fz := false, pre := fun x => pKey x.1 x.2.1, g := fun x => ((keyed x.1 x.2.1), ()) }
def S_impl_KeyedHash_tab : List (Nat × Sum) := [(295, S_slices_Concat_S_int_int_), (325, S_impl_Hash)]
theorem S_impl_KeyedHash_ok : FnOK Try.prog 299 S_impl_KeyedHash := by
  refine at_enter 13 (fun x => ⟨[(0, aI x.1), (1, aF (.int 3) x.2.1)], []⟩) Try.func299 rfl (by kernel_rfl) (fun x => rfl) ?_
  rintro w0 Z0 ⟨x0, x1, u⟩ a w
  revert x0 x1
  intro (x0 : Int) (x1 : (List Int)) hpre hlens h
  replace h : At w0 Z0 [] 13 ⟨[(0, aI x0), (1, aF (.int 3) x1)], []⟩ a w := h
  replace hpre : pKey x0 x1 := hpre
  have hl1 : List.length x1 ≤ 9223372036854775807 := hlens.2.1.1
  have hT : TabOK Try.prog S_impl_KeyedHash_tab := (.cons S_slices_Concat_S_int_int__ok (.cons S_impl_Hash_ok .nil))
  have hp : List.length x1 ≤ 4294967296 := hpre
  refine wp_seq ?_
  refine at_regq (T := S_impl_KeyedHash_tab) [] { ts := [0, 1, 4], os := [] } [] gamOK hT h (by kernel_rfl) trivial ?_
  intro a w h
  refine then_normal ?_
  refine wp_seq ?_
  refine at_regq (T := S_impl_KeyedHash_tab) [{}, { ids := [1], frz := true }, {}, {}, { ids := [2], frz := true }, { ids := [3], dp := false }, { ids := [4] }] { ts := [4], os := [] } [pCat ([[x0], x1, [x0]]), True] gamOK hT h (by kernel_rfl) ⟨(by (show _ ∧ _; refine ⟨by simp, ?_⟩; simp; omega)), trivial, trivial⟩ ?_
  intro a w h
  refine then_normal ?_
  refine wp_ret ?_
  exact at_return (S := S_impl_KeyedHash) (x := (x0, x1, ())) ((hashF (D_slices_Concat_S_int_int_ ([[x0], x1, [x0]]))), ()) [] h (by kernel_rfl) trivial (congrArg (fun z => (z, ())) (show ((hashF (D_slices_Concat_S_int_int_ ([[x0], x1, [x0]])))) = keyed x0 x1 from by (unfold keyed; simp [D_slices_Concat_S_int_int_])))

def S_spec_KeyedHash : Sum := { fid := 237, dom := [(.int 3), s22], cod := [(.int 3)], dp := true, fz := false, pre := fun x => pKey x.1 x.2.1, g := fun x => ((keyed x.1 x.2.1), ()) }
def S_spec_KeyedHash_tab : List (Nat × Sum) := [(296, S_spec_Hash)]
theorem S_spec_KeyedHash_ok : FnOK Try.prog 237 S_spec_KeyedHash := by
  refine at_enter 13 (fun x => ⟨[(0, aI x.1), (1, aF (.int 3) x.2.1)], []⟩) Try.func237 rfl (by kernel_rfl) (fun x => rfl) ?_
  rintro w0 Z0 ⟨x0, x1, u⟩ a w
  revert x0 x1
  intro (x0 : Int) (x1 : (List Int)) hpre hlens h
  replace h : At w0 Z0 [] 13 ⟨[(0, aI x0), (1, aF (.int 3) x1)], []⟩ a w := h
  replace hpre : pKey x0 x1 := hpre
  have hl1 : List.length x1 ≤ 9223372036854775807 := hlens.2.1.1
  have hT : TabOK Try.prog S_spec_KeyedHash_tab := (.cons S_spec_Hash_ok .nil)
  have hp : List.length x1 ≤ 4294967296 := hpre
  refine wp_seq ?_
  refine at_regq (T := S_spec_KeyedHash_tab) [] { ts := [0, 1, 4], os := [] } [] gamOK hT h (by kernel_rfl) trivial ?_
  intro a w h
  refine then_normal ?_
  refine wp_seq ?_
  refine at_regq (T := S_spec_KeyedHash_tab) [{}, { ids := [1] }, {}, { ids := [2] }, {}, { ids := [3] }, { ids := [4] }] { ts := [4], os := [] } [(List.length ([x0]) + List.length x1) * 8 ≤ 140737488355328, (List.length (([x0]) ++ x1) + List.length ([x0])) * 8 ≤ 140737488355328, True] gamOK hT h (by kernel_rfl) ⟨(by first | omega | (simp only [List.length_append, List.length_cons, List.length_nil, List.length_set, List.length_take, List.length_drop, List.length_replicate, List.length_map, Nat.min_def]; omega) | (simp; done) | (simp; omega) | done), (by first | omega | (simp only [List.length_append, List.length_cons, List.length_nil, List.length_set, List.length_take, List.length_drop, List.length_replicate, List.length_map, Nat.min_def]; omega) | (simp; done) | (simp; omega) | done), trivial, trivial⟩ ?_
  intro a w h
  refine then_normal ?_
  refine wp_ret ?_
  exact at_return (S := S_spec_KeyedHash) (x := (x0, x1, ())) ((hashF ((([x0]) ++ x1) ++ ([x0]))), ()) [] h (by kernel_rfl) trivial (congrArg (fun z => (z, ())) (show ((hashF ((([x0]) ++ x1) ++ ([x0])))) = keyed x0 x1 from by rfl))

def D_impl_orOne (x0 : Int) : Int := if x0 < 1 then 1 else x0
def S_impl_orOne : Sum := { fid := 311, dom := [(.int 3)], cod := [(.int 3)], dp := true, fz := false, pre := fun x => True, g := fun x => ((D_impl_orOne x.1), ()) }
def S_impl_orOne_tab : List (Nat × Sum) := []
theorem S_impl_orOne_ok : FnOK Try.prog 311 S_impl_orOne := by
  refine at_enter 5 (fun x => ⟨[(0, aI x.1)], []⟩) Try.func311 rfl (by kernel_rfl) (fun x => rfl) ?_
  rintro w0 Z0 ⟨x0, u⟩ a w
  revert x0
  intro (x0 : Int) hpre hlens h
  replace h : At w0 Z0 [] 5 ⟨[(0, aI x0)], []⟩ a w := h
  have hT : TabOK Try.prog S_impl_orOne_tab := .nil
  refine wp_seq ?_
  refine at_regq (T := S_impl_orOne_tab) [] { ts := [0, 2], os := [] } [] gamOK hT h (by kernel_rfl) trivial ?_
  intro a w h
  refine then_normal ?_
  refine wp_seq ?_
  refine at_regq (T := S_impl_orOne_tab) [] { ts := [2], os := [] } [] gamOK hT h (by kernel_rfl) trivial ?_
  intro a w h
  refine then_normal ?_
  refine wp_ret ?_
  exact at_return (S := S_impl_orOne) (x := (x0, ())) (if x0 < 1 then 1 else x0, ()) [] h (by kernel_rfl) trivial (congrArg (fun z => (z, ())) (show (if x0 < 1 then 1 else x0) = D_impl_orOne x0 from by rfl))

def D_spec_Max (x0 : Int) (x1 : Int) : Int := (if x1 > x0 then x1 else x0)
def S_spec_Max : Sum := { fid := 307, dom := [(.int 3), (.int 3)], cod := [(.int 3)], dp := true, fz := false, pre := fun x => True, g := fun x => ((D_spec_Max x.1 x.2.1), ()) }
def S_spec_Max_tab : List (Nat × Sum) := []
theorem S_spec_Max_ok : FnOK Try.prog 307 S_spec_Max := by
  refine at_enter 10 (fun x => ⟨[(0, aI x.1), (1, aI x.2.1)], []⟩) Try.func307 rfl (by kernel_rfl) (fun x => rfl) ?_
  rintro w0 Z0 ⟨x0, x1, u⟩ a w
  revert x0 x1
  intro (x0 : Int) (x1 : Int) hpre hlens h
  replace h : At w0 Z0 [] 10 ⟨[(0, aI x0), (1, aI x1)], []⟩ a w := h
  have hT : TabOK Try.prog S_spec_Max_tab := .nil
  refine wp_seq ?_
  refine at_regq (T := S_spec_Max_tab) [] { ts := [0, 1, 4], os := [] } [] gamOK hT h (by kernel_rfl) trivial ?_
  intro a w h
  refine then_normal ?_
  refine wp_seq ?_
  refine wp_seq ?_
  refine at_regq (T := S_spec_Max_tab) [] { ts := [0, 1, 4, 7], os := [] } [] gamOK hT h (by kernel_rfl) trivial ?_
  intro a w h
  refine then_normal ?_
  refine at_test (decide (x1 > x0)) h (by kernel_rfl) (fun h1 => ?_) (fun h1 => ?_)
  · replace h1 : x1 > x0 := of_decide_eq_true h1
    refine wp_seq ?_
    refine at_regq (T := S_spec_Max_tab) [] { ts := [0, 4], os := [] } [] gamOK hT h (by kernel_rfl) trivial ?_
    intro a w h
    refine then_normal ?_
    refine wp_ret ?_
    refine then_ret ?_
    exact at_return (S := S_spec_Max) (x := (x0, x1, ())) (x1, ()) [] h (by kernel_rfl) trivial (congrArg (fun z => (z, ())) (show (x1) = D_spec_Max x0 x1 from by first | rfl | (unfold D_spec_Max; rw [if_pos h1])))
  · replace h1 : ¬ (x1 > x0) := of_decide_eq_false h1
    refine wp_skip ?_
    refine then_normal ?_
    refine wp_seq ?_
    refine at_regq (T := S_spec_Max_tab) [] { ts := [4], os := [] } [] gamOK hT h (by kernel_rfl) trivial ?_
    intro a w h
    refine then_normal ?_
    refine wp_ret ?_
    exact at_return (S := S_spec_Max) (x := (x0, x1, ())) (x0, ()) [] h (by kernel_rfl) trivial (congrArg (fun z => (z, ())) (show (x0) = D_spec_Max x0 x1 from by first | rfl | (unfold D_spec_Max; rw [if_neg h1])))

def nodeKey (x0 : Int) (x1 : Int) : Int := (D_impl_orOne (keyed x0 ([101, x1])))
def S_impl_NodeKey : Sum := { fid := 267, dom := [(.int 3), (.int 3)], cod := [(.int 3)], dp := true, fz := false, pre := fun x => True, g := fun x => ((nodeKey x.1 x.2.1), ()) }
def S_impl_NodeKey_tab : List (Nat × Sum) := [(299, S_impl_KeyedHash), (311, S_impl_orOne)]
theorem S_impl_NodeKey_ok : FnOK Try.prog 267 S_impl_NodeKey := by
  refine at_enter 10 (fun x => ⟨[(0, aI x.1), (1, aI x.2.1)], []⟩) Try.func267 rfl (by kernel_rfl) (fun x => rfl) ?_
  rintro w0 Z0 ⟨x0, x1, u⟩ a w
  revert x0 x1
  intro (x0 : Int) (x1 : Int) hpre hlens h
  replace h : At w0 Z0 [] 10 ⟨[(0, aI x0), (1, aI x1)], []⟩ a w := h
  have hT : TabOK Try.prog S_impl_NodeKey_tab := (.cons S_impl_KeyedHash_ok (.cons S_impl_orOne_ok .nil))
  refine wp_seq ?_
  refine at_regq (T := S_impl_NodeKey_tab) [] { ts := [0, 1, 4], os := [] } [] gamOK hT h (by kernel_rfl) trivial ?_
  intro a w h
  refine then_normal ?_
  refine wp_seq ?_
  refine at_regq (T := S_impl_NodeKey_tab) [{}, {}, { ids := [1] }] { ts := [4], os := [] } [pKey x0 ([101, x1]), True] gamOK hT h (by kernel_rfl) ⟨(by (show _ ≤ _; (try unfold D_slices_Concat_S_int_int_); simp; try omega)), trivial, trivial⟩ ?_
  intro a w h
  refine then_normal ?_
  refine wp_ret ?_
  exact at_return (S := S_impl_NodeKey) (x := (x0, x1, ())) ((D_impl_orOne (keyed x0 ([101, x1]))), ()) [] h (by kernel_rfl) trivial (congrArg (fun z => (z, ())) (show ((D_impl_orOne (keyed x0 ([101, x1])))) = nodeKey x0 x1 from by rfl))

def S_spec_NodeKey : Sum := { fid := 262, dom := [(.int 3), (.int 3)], cod := [(.int 3)], dp := true, fz := false, pre := fun x => True, g := fun x => ((nodeKey x.1 x.2.1), ()) }
def S_spec_NodeKey_tab : List (Nat × Sum) := [(237, S_spec_KeyedHash), (307, S_spec_Max)]
theorem S_spec_NodeKey_ok : FnOK Try.prog 262 S_spec_NodeKey := by
  refine at_enter 10 (fun x => ⟨[(0, aI x.1), (1, aI x.2.1)], []⟩) Try.func262 rfl (by kernel_rfl) (fun x => rfl) ?_
  rintro w0 Z0 ⟨x0, x1, u⟩ a w
  revert x0 x1
  intro (x0 : Int) (x1 : Int) hpre hlens h
  replace h : At w0 Z0 [] 10 ⟨[(0, aI x0), (1, aI x1)], []⟩ a w := h
  have hT : TabOK Try.prog S_spec_NodeKey_tab := (.cons S_spec_KeyedHash_ok (.cons S_spec_Max_ok .nil))
  refine wp_seq ?_
  refine at_regq (T := S_spec_NodeKey_tab) [] { ts := [0, 1, 4], os := [] } [] gamOK hT h (by kernel_rfl) trivial ?_
  intro a w h
  refine then_normal ?_
  refine wp_seq ?_
  refine at_regq (T := S_spec_NodeKey_tab) [{}, {}, { ids := [1] }] { ts := [4], os := [] } [pKey x0 ([101, x1]), True] gamOK hT h (by kernel_rfl) ⟨(by (show _ ≤ _; (try unfold D_slices_Concat_S_int_int_); simp; try omega)), trivial, trivial⟩ ?_
  intro a w h
  refine then_normal ?_
  refine wp_ret ?_
  exact at_return (S := S_spec_NodeKey) (x := (x0, x1, ())) ((D_spec_Max 1 (keyed x0 ([101, x1]))), ()) [] h (by kernel_rfl) trivial (congrArg (fun z => (z, ())) (show ((D_spec_Max 1 (keyed x0 ([101, x1])))) = nodeKey x0 x1 from by first | rfl | (unfold nodeKey; rfl; done) | (unfold nodeKey; (unfold D_impl_orOne D_spec_Max; (repeat' split) <;> omega))))

def S_impl_LinkMAC : Sum := { fid := 266, dom := [(.int 3), s63], cod := [(.int 3)], dp := true, fz := false, pre := fun x => (fun (x0 : Int) (x1 : T63) => Sh.fit s63 x1) x.1 x.2.1, g := fun x => ((linkMAC x.1 x.2.1), ()) }
def S_impl_LinkMAC_tab : List (Nat × Sum) := [(295, S_slices_Concat_S_int_int_), (299, S_impl_KeyedHash)]
theorem S_impl_LinkMAC_ok : FnOK Try.prog 266 S_impl_LinkMAC := by
  refine at_enter 31 (fun x => ⟨[(0, aI x.1), (1, aG [cI x.2.1.1, cI x.2.1.2.1, cI x.2.1.2.2.1, cI x.2.1.2.2.2.1.1, .ro (.int 3) x.2.1.2.2.2.1.2.1, .ro (.int 3) x.2.1.2.2.2.1.2.2, cI x.2.1.2.2.2.2])], []⟩) Try.func266 rfl (by kernel_rfl) (fun x => rfl) ?_
  rintro w0 Z0 ⟨x0, x1, u⟩ a w
  revert x0 x1
  intro (x0 : Int) (x1 : T63) hpre hlens h
  replace h : At w0 Z0 [] 31 ⟨[(0, aI x0), (1, aG [cI x1.1, cI x1.2.1, cI x1.2.2.1, cI x1.2.2.2.1.1, .ro (.int 3) x1.2.2.2.1.2.1, .ro (.int 3) x1.2.2.2.1.2.2, cI x1.2.2.2.2])], []⟩ a w := h
  replace hpre : (fun (x0 : Int) (x1 : T63) => Sh.fit s63 x1) x0 x1 := hpre
  have hl1 : List.length x1.2.2.2.1.2.1 ≤ 9223372036854775807 := hlens.2.1.2.2.2.1.2.1.1
  have hl2 : List.length x1.2.2.2.1.2.2 ≤ 9223372036854775807 := hlens.2.1.2.2.2.1.2.2.1
  have hT : TabOK Try.prog S_impl_LinkMAC_tab := (.cons S_slices_Concat_S_int_int__ok (.cons S_impl_KeyedHash_ok .nil))
  have hf1 : Sh.fit s63 x1 := hpre
  have hn1_1 : List.length x1.2.2.2.1.2.1 ≤ 1073741824 := hf1.2.2.2.1.2.1.1
  have hn1_2 : List.length x1.2.2.2.1.2.2 ≤ 1073741824 := hf1.2.2.2.1.2.2.1
  refine wp_seq ?_
  refine at_regq (T := S_impl_LinkMAC_tab) [{ ids := [1] }] { ts := [0, 3, 4], os := [1] } [] gamOK hT h (by kernel_rfl) trivial ?_
  intro a w h
  refine then_normal ?_
  refine wp_seq ?_
  refine at_regq (T := S_impl_LinkMAC_tab) [{}, {}, {}, {}, {}, {}, {}, {}, {}, {}, {}, {}, {}, { ids := [2] }] { ts := [0, 3, 4, 5], os := [1, 2] } [] gamOK hT h (by kernel_rfl) trivial ?_
  intro a w h
  refine then_normal ?_
  refine wp_seq ?_
  replace h := at_out (σ' := ⟨[(0, aI x0), (3, aP 1 0), (4, aI 0), (5, aF (.int 3) ([103, x1.1, x1.2.1, x1.2.2.1, x1.2.2.2.1.1, ((List.length x1.2.2.2.1.2.1 : Nat) : Int)]))], [(1, oX 63 [cI x1.1, cI x1.2.1, cI x1.2.2.1, cI x1.2.2.2.1.1, .ro (.int 3) x1.2.2.2.1.2.1, .ro (.int 3) x1.2.2.2.1.2.2, cI x1.2.2.2.2])]⟩) { fz := [2], ts := [0, 3, 4, 5], os := [1] } h (by kernel_rfl)
  refine at_regq (T := S_impl_LinkMAC_tab) [{}, {}, {}, {}, {}, {}, {}, {}, { ids := [3], dp := false }, { ids := [4] }] { ts := [4], os := [] } [pCat ([[103, x1.1, x1.2.1, x1.2.2.1, x1.2.2.2.1.1, ((List.length x1.2.2.2.1.2.1 : Nat) : Int)], x1.2.2.2.1.2.1, x1.2.2.2.1.2.2]), pKey x0 (D_slices_Concat_S_int_int_ ([[103, x1.1, x1.2.1, x1.2.2.1, x1.2.2.2.1.1, ((List.length x1.2.2.2.1.2.1 : Nat) : Int)], x1.2.2.2.1.2.1, x1.2.2.2.1.2.2]))] gamOK hT h (by kernel_rfl) ⟨(by (show _ ∧ _; refine ⟨by simp, ?_⟩; simp; omega)), (by (show _ ≤ _; (try unfold D_slices_Concat_S_int_int_); simp; try omega)), trivial⟩ ?_
  intro a w h
  refine then_normal ?_
  refine wp_ret ?_
  exact at_return (S := S_impl_LinkMAC) (x := (x0, x1, ())) ((keyed x0 (D_slices_Concat_S_int_int_ ([[103, x1.1, x1.2.1, x1.2.2.1, x1.2.2.2.1.1, ((List.length x1.2.2.2.1.2.1 : Nat) : Int)], x1.2.2.2.1.2.1, x1.2.2.2.1.2.2]))), ()) [] h (by kernel_rfl) trivial (congrArg (fun z => (z, ())) (show ((keyed x0 (D_slices_Concat_S_int_int_ ([[103, x1.1, x1.2.1, x1.2.2.1, x1.2.2.2.1.1, ((List.length x1.2.2.2.1.2.1 : Nat) : Int)], x1.2.2.2.1.2.1, x1.2.2.2.1.2.2])))) = linkMAC x0 x1 from by (unfold linkMAC; simp [D_slices_Concat_S_int_int_])))

def S_spec_LinkMAC : Sum := { fid := 261, dom := [(.int 3), s63], cod := [(.int 3)], dp := true, fz := false, pre := fun x => (fun (x0 : Int) (x1 : T63) => Sh.fit s63 x1) x.1 x.2.1, g := fun x => ((linkMAC x.1 x.2.1), ()) }
def S_spec_LinkMAC_tab : List (Nat × Sum) := [(237, S_spec_KeyedHash)]
theorem S_spec_LinkMAC_ok : FnOK Try.prog 261 S_spec_LinkMAC := by
  refine at_enter 31 (fun x => ⟨[(0, aI x.1), (1, aG [cI x.2.1.1, cI x.2.1.2.1, cI x.2.1.2.2.1, cI x.2.1.2.2.2.1.1, .ro (.int 3) x.2.1.2.2.2.1.2.1, .ro (.int 3) x.2.1.2.2.2.1.2.2, cI x.2.1.2.2.2.2])], []⟩) Try.func261 rfl (by kernel_rfl) (fun x => rfl) ?_
  rintro w0 Z0 ⟨x0, x1, u⟩ a w
  revert x0 x1
  intro (x0 : Int) (x1 : T63) hpre hlens h
  replace h : At w0 Z0 [] 31 ⟨[(0, aI x0), (1, aG [cI x1.1, cI x1.2.1, cI x1.2.2.1, cI x1.2.2.2.1.1, .ro (.int 3) x1.2.2.2.1.2.1, .ro (.int 3) x1.2.2.2.1.2.2, cI x1.2.2.2.2])], []⟩ a w := h
  replace hpre : (fun (x0 : Int) (x1 : T63) => Sh.fit s63 x1) x0 x1 := hpre
  have hl1 : List.length x1.2.2.2.1.2.1 ≤ 9223372036854775807 := hlens.2.1.2.2.2.1.2.1.1
  have hl2 : List.length x1.2.2.2.1.2.2 ≤ 9223372036854775807 := hlens.2.1.2.2.2.1.2.2.1
  have hT : TabOK Try.prog S_spec_LinkMAC_tab := (.cons S_spec_KeyedHash_ok .nil)
  have hf1 : Sh.fit s63 x1 := hpre
  have hn1_1 : List.length x1.2.2.2.1.2.1 ≤ 1073741824 := hf1.2.2.2.1.2.1.1
  have hn1_2 : List.length x1.2.2.2.1.2.2 ≤ 1073741824 := hf1.2.2.2.1.2.2.1
  refine wp_seq ?_
  refine at_regq (T := S_spec_LinkMAC_tab) [{ ids := [1] }] { ts := [0, 3, 4], os := [1] } [] gamOK hT h (by kernel_rfl) trivial ?_
  intro a w h
  refine then_normal ?_
  refine wp_seq ?_
  refine at_regq (T := S_spec_LinkMAC_tab) [{}, {}, {}, {}, {}, {}, {}, {}, {}, {}, {}, {}, {}, { ids := [2] }, {}, {}, {}, { ids := [3] }] { ts := [0, 3, 4, 5], os := [1, 3] } [(List.length ([103, x1.1, x1.2.1, x1.2.2.1, x1.2.2.2.1.1, ((List.length x1.2.2.2.1.2.1 : Nat) : Int)]) + List.length x1.2.2.2.1.2.1) * 8 ≤ 140737488355328] gamOK hT h (by kernel_rfl) ⟨(by first | omega | (simp only [List.length_append, List.length_cons, List.length_nil, List.length_set, List.length_take, List.length_drop, List.length_replicate, List.length_map, Nat.min_def]; omega) | (simp; done) | (simp; omega) | done), trivial⟩ ?_
  intro a w h
  refine then_normal ?_
  refine wp_seq ?_
  refine at_regq (T := S_spec_LinkMAC_tab) [{}, {}, {}, {}, {}, { ids := [4] }] { ts := [4], os := [] } [(List.length (([103, x1.1, x1.2.1, x1.2.2.1, x1.2.2.2.1.1, ((List.length x1.2.2.2.1.2.1 : Nat) : Int)]) ++ x1.2.2.2.1.2.1) + List.length x1.2.2.2.1.2.2) * 8 ≤ 140737488355328, pKey x0 ((([103, x1.1, x1.2.1, x1.2.2.1, x1.2.2.2.1.1, ((List.length x1.2.2.2.1.2.1 : Nat) : Int)]) ++ x1.2.2.2.1.2.1) ++ x1.2.2.2.1.2.2)] gamOK hT h (by kernel_rfl) ⟨(by first | omega | (simp only [List.length_append, List.length_cons, List.length_nil, List.length_set, List.length_take, List.length_drop, List.length_replicate, List.length_map, Nat.min_def]; omega) | (simp; done) | (simp; omega) | done), (by (show _ ≤ _; (try unfold D_slices_Concat_S_int_int_); simp; try omega)), trivial⟩ ?_
  intro a w h
  refine then_normal ?_
  refine wp_ret ?_
  exact at_return (S := S_spec_LinkMAC) (x := (x0, x1, ())) ((keyed x0 ((([103, x1.1, x1.2.1, x1.2.2.1, x1.2.2.2.1.1, ((List.length x1.2.2.2.1.2.1 : Nat) : Int)]) ++ x1.2.2.2.1.2.1) ++ x1.2.2.2.1.2.2)), ()) [] h (by kernel_rfl) trivial (congrArg (fun z => (z, ())) (show ((keyed x0 ((([103, x1.1, x1.2.1, x1.2.2.1, x1.2.2.2.1.1, ((List.length x1.2.2.2.1.2.1 : Nat) : Int)]) ++ x1.2.2.2.1.2.1) ++ x1.2.2.2.1.2.2))) = linkMAC x0 x1 from by (unfold linkMAC; simp [D_slices_Concat_S_int_int_])))

theorem shr1 {n : Nat} : Int.fdiv (n : Int) (2 ^ (min (1 : Int).toNat (IntKind.i64).bits)) = ((n / 2 : Nat) : Int) := by
  have e2 : (2 : Int) ^ (min (1 : Int).toNat (IntKind.i64).bits) = 2 := by decide
  rw [e2, Int.fdiv_eq_ediv_of_nonneg _ (by omega)]; omega
theorem and1 {n : Nat} (h : n ≤ 4611686018427387904) : IntKind.i64.wrap ((BitVec.ofInt (IntKind.i64).bits (n : Int) &&& BitVec.ofInt (IntKind.i64).bits 1).toNat : Int) = ((n % 2 : Nat) : Int) := by
  have e : (BitVec.ofInt (IntKind.i64).bits (n : Int) &&& BitVec.ofInt (IntKind.i64).bits 1).toNat = n % 2 := by
    rw [BitVec.toNat_and]
    have h1 : (BitVec.ofInt (IntKind.i64).bits (n : Int)).toNat = n := by
      rw [BitVec.toNat_ofInt]
      simp [IntKind.bits]
      omega
    have h2 : (BitVec.ofInt (IntKind.i64).bits 1).toNat = 1 := by decide
    rw [h1, h2, Nat.and_one_is_mod]
  rw [e, IntKind.wrap_i64]; omega
def powP (a n m : Int) : Prop := (0 ≤ a ∧ a < m) ∧ (0 ≤ n ∧ n ≤ 4611686018427387904) ∧ 1 < m ∧ m ≤ 1048576
def powD (a n m : Int) : Int := LA.pmL m 1 a n.toNat
theorem powD_bd {a n m : Int} (h : powP a n m) : 0 ≤ powD a n m ∧ powD a n m < m := LA.pmL_bd (by have := h.2.2.1; omega) 63 _ _ _ (by have := h.2.1; omega) (by omega) (by have := h.2.2.1; omega) h.1.1
def powOK (x0 x1 x2 : Int) (q : Int × Int × Nat) : Prop := LA.pmL x2 q.1 q.2.1 q.2.2 = powD x0 x1 x2 ∧ (0 ≤ q.1 ∧ q.1 < x2) ∧ (0 ≤ q.2.1 ∧ q.2.1 < x2) ∧ q.2.2 ≤ 4611686018427387904
theorem powOK_odd {x0 x1 x2 : Int} {q : Int × Int × Nat} (h : powOK x0 x1 x2 q) (hm : 1 < x2) (h2 : q.2.2 % 2 = 1) : powOK x0 x1 x2 ((q.1 * q.2.1).tmod x2, (q.2.1 * q.2.1).tmod x2, q.2.2 / 2) := by
  obtain ⟨h0, ⟨h3, h4⟩, ⟨h5, h6⟩, h7⟩ := h
  exact ⟨by rw [← h0]; exact (LA.pmL_odd h2).symm, LA.tmod_lt (Int.mul_nonneg h3 h5) (by omega), LA.tmod_lt (Int.mul_nonneg h5 h5) (by omega), by dsimp only; omega⟩
theorem powOK_even {x0 x1 x2 : Int} {q : Int × Int × Nat} (h : powOK x0 x1 x2 q) (hm : 1 < x2) (h1 : q.2.2 ≠ 0) (h2 : q.2.2 % 2 = 0) : powOK x0 x1 x2 (q.1, (q.2.1 * q.2.1).tmod x2, q.2.2 / 2) := by
  obtain ⟨h0, ⟨h3, h4⟩, ⟨h5, h6⟩, h7⟩ := h
  exact ⟨by rw [← h0]; exact (LA.pmL_even h1 h2).symm, ⟨h3, h4⟩, LA.tmod_lt (Int.mul_nonneg h5 h5) (by omega), by dsimp only; omega⟩
theorem elB {v : List Int} (h : ∀ x ∈ v, LA.El x) (j : Nat) : 0 ≤ v.getD j 0 ∧ v.getD j 0 ≤ 1018 := LA.VokB.at_ (n := v.length) ⟨rfl, h⟩ j
theorem validV_el {v : List Int} (h : List.all v isEl = true) : ∀ x ∈ v, LA.El x := fun x hx => isEl_t (List.all_eq_true.1 h x hx)
def S_impl_powMod : Sum := { fid := 312, dom := [(.int 3), (.int 3), (.int 3)], cod := [(.int 3)], dp := true, fz := false, pre := fun x => powP x.1 x.2.1 x.2.2.1, g := fun x => ((powD x.1 x.2.1 x.2.2.1), ()) }
def S_impl_powMod_tab : List (Nat × Sum) := []
theorem S_impl_powMod_ok : FnOK Try.prog 312 S_impl_powMod := by
  refine at_enter 26 (fun x => ⟨[(0, aI x.1), (1, aI x.2.1), (2, aI x.2.2.1)], []⟩) Try.func312 rfl (by kernel_rfl) (fun x => rfl) ?_
  rintro w0 Z0 ⟨x0, x1, x2, u⟩ a w
  revert x0 x1 x2
  intro (x0 : Int) (x1 : Int) (x2 : Int) hpre hlens h
  replace h : At w0 Z0 [] 26 ⟨[(0, aI x0), (1, aI x1), (2, aI x2)], []⟩ a w := h
  replace hpre : powP x0 x1 x2 := hpre
  have hT : TabOK Try.prog S_impl_powMod_tab := .nil
  have hp : (0 ≤ x0 ∧ x0 < x2) ∧ (0 ≤ x1 ∧ x1 ≤ 4611686018427387904) ∧ 1 < x2 ∧ x2 ≤ 1048576 := hpre
  refine wp_seq ?_
  refine at_regq (T := S_impl_powMod_tab) [] { ts := [0, 1, 2, 6], os := [] } [] gamOK hT h (by kernel_rfl) trivial ?_
  intro a w h
  refine then_normal ?_
  refine wp_seq ?_
  refine at_regq (T := S_impl_powMod_tab) [] { ts := [0, 1, 2, 6, 7], os := [] } [] gamOK hT h (by kernel_rfl) trivial ?_
  intro a w h
  refine then_normal ?_
  refine wp_seq ?_
  refine wp_block ?_
  replace h := at_out (σ' := ⟨[(0, aI x0), (1, aI x1), (2, aI x2), (6, aI 0), (7, aI 1)], []⟩) { ts := [0, 1, 2, 6, 7], os := [] } h (by kernel_rfl)
  refine at_loop (fun q : (Int × Int × Nat) => (⟨[(0, aI q.2.1), (1, aI ((q.2.2 : Nat) : Int)), (2, aI x2), (6, aI 0), (7, aI q.1)], []⟩ : St)) (fun q => powOK x0 x1 x2 q) (fun q => q.2.2) ((1, x0, x1.toNat)) h (st_congr3 (fun (d0 : Int) (d1 : Int) (d2 : Int) => (⟨[(0, aI d1), (1, aI d2), (2, aI x2), (6, aI 0), (7, aI d0)], []⟩ : St)) (show (1 : Int) = ((1, x0, x1.toNat)).1 from by first | with_reducible rfl | (show x1 = ((x1.toNat : Nat) : Int); omega) | rfl) (show (x0 : Int) = ((1, x0, x1.toNat)).2.1 from by first | with_reducible rfl | (show x1 = ((x1.toNat : Nat) : Int); omega) | rfl) (show (x1 : Int) = ((((1, x0, x1.toNat)).2.2 : Nat) : Int) from by first | with_reducible rfl | (show x1 = ((x1.toNat : Nat) : Int); omega) | rfl)) (by exact ⟨rfl, ⟨(show (0 : Int) ≤ 1 by decide), by dsimp only; omega⟩, ⟨by dsimp only; omega, by dsimp only; omega⟩, by dsimp only; omega⟩) ?_
  intro q a w hok0 h
  have hq := hok0.2
  refine wp_seq ?_
  refine wp_seq ?_
  refine at_regq (T := S_impl_powMod_tab) [] { ts := [0, 1, 2, 6, 7, 9], os := [] } [] gamOK hT h (by kernel_rfl) trivial ?_
  intro a w h
  refine then_normal ?_
  refine at_test (decide (((q.2.2 : Nat) : Int) > 0)) h (by kernel_rfl) (fun h1 => ?_) (fun h1 => ?_)
  · replace h1 : ((q.2.2 : Nat) : Int) > 0 := of_decide_eq_true h1
    refine wp_skip ?_
    refine then_normal ?_
    refine wp_seq ?_
    refine wp_block ?_
    refine wp_seq ?_
    refine wp_seq ?_
    refine at_reg (T := S_impl_powMod_tab) [{}, { hint := some (aI ((q.2.2 % 2 : Nat) : Int)) }] { ts := [0, 1, 2, 6, 7, 14], os := [] } ⟨[(0, aI q.2.1), (1, aI ((q.2.2 : Nat) : Int)), (2, aI x2), (6, aI 0), (7, aI q.1), (14, aB (decide (((q.2.2 % 2 : Nat) : Int) = 1)))], []⟩ [(AV.p (.c (.v (.int .i64 (IntKind.i64.wrap ((BitVec.ofInt (IntKind.i64).bits ((q.2.2 : Nat) : Int) &&& BitVec.ofInt (IntKind.i64).bits 1).toNat : Int))))) = AV.p (.c (.v (.int .i64 (((q.2.2 % 2 : Nat) : Int))))))] gamOK hT h (by kernel_rfl) ⟨hint_int (by exact and1 (by omega)), trivial⟩ ?_
    intro a w h
    refine then_normal ?_
    refine at_test (decide (((q.2.2 % 2 : Nat) : Int) = 1)) h (by kernel_rfl) (fun h2 => ?_) (fun h2 => ?_)
    · replace h2 : ((q.2.2 % 2 : Nat) : Int) = 1 := of_decide_eq_true h2
      refine at_regq (T := S_impl_powMod_tab) [{}, {}, { nw := true }] { ts := [0, 1, 2, 6, 7], os := [] } [I64 (q.1 * q.2.1), (x2 : Int) ≠ 0] gamOK hT h (by kernel_rfl) ⟨⟨by (have hA0 := mul_f q.1 q.2.1; first | omega | (simp only [List.length_append, List.length_cons, List.length_nil, List.length_set, List.length_take, List.length_drop, List.length_replicate, List.length_map, Nat.min_def]; omega) | (simp; done) | (simp; omega) | done), by (have hA0 := mul_f q.1 q.2.1; first | omega | (simp only [List.length_append, List.length_cons, List.length_nil, List.length_set, List.length_take, List.length_drop, List.length_replicate, List.length_map, Nat.min_def]; omega) | (simp; done) | (simp; omega) | done)⟩, (by first | omega | (simp only [List.length_append, List.length_cons, List.length_nil, List.length_set, List.length_take, List.length_drop, List.length_replicate, List.length_map, Nat.min_def]; omega) | (simp; done) | (simp; omega) | done), trivial⟩ ?_
      intro a w h
      refine then_normal ?_
      refine at_regq (T := S_impl_powMod_tab) [{}, {}, { nw := true }] { ts := [0, 1, 2, 6, 7], os := [] } [I64 (q.2.1 * q.2.1), (x2 : Int) ≠ 0] gamOK hT h (by kernel_rfl) ⟨⟨by (have hA0 := mul_f q.2.1 q.2.1; first | omega | (simp only [List.length_append, List.length_cons, List.length_nil, List.length_set, List.length_take, List.length_drop, List.length_replicate, List.length_map, Nat.min_def]; omega) | (simp; done) | (simp; omega) | done), by (have hA0 := mul_f q.2.1 q.2.1; first | omega | (simp only [List.length_append, List.length_cons, List.length_nil, List.length_set, List.length_take, List.length_drop, List.length_replicate, List.length_map, Nat.min_def]; omega) | (simp; done) | (simp; omega) | done)⟩, (by first | omega | (simp only [List.length_append, List.length_cons, List.length_nil, List.length_set, List.length_take, List.length_drop, List.length_replicate, List.length_map, Nat.min_def]; omega) | (simp; done) | (simp; omega) | done), trivial⟩ ?_
      intro a w h
      refine in_normal ?_
      refine then_normal ?_
      refine at_regq (T := S_impl_powMod_tab) [{}, { hint := some (aI ((q.2.2 / 2 : Nat) : Int)) }] { ts := [0, 1, 2, 6, 7], os := [] } [(0 : Int) ≤ 1, (AV.p (.c (.v (.int .i64 ((Int.fdiv ((q.2.2 : Nat) : Int) (2 ^ (min (1 : Int).toNat (IntKind.i64).bits))))))) = AV.p (.c (.v (.int .i64 (((q.2.2 / 2 : Nat) : Int))))))] gamOK hT h (by kernel_rfl) ⟨(by first | omega | (simp only [List.length_append, List.length_cons, List.length_nil, List.length_set, List.length_take, List.length_drop, List.length_replicate, List.length_map, Nat.min_def]; omega) | (simp; done) | (simp; omega) | done), hint_int (by exact shr1), trivial⟩ ?_
      intro a w h
      replace h := at_out (σ' := ⟨[(0, aI (Int.tmod (q.2.1 * q.2.1) x2)), (1, aI ((q.2.2 / 2 : Nat) : Int)), (2, aI x2), (6, aI 0), (7, aI (Int.tmod (q.1 * q.2.1) x2))], []⟩) { ts := [0, 1, 2, 6, 7], os := [] } h (by kernel_rfl)
      exact ⟨((q.1 * q.2.1).tmod x2, (q.2.1 * q.2.1).tmod x2, q.2.2 / 2), at_eq h (st_congr3 (fun (d0 : Int) (d1 : Int) (d2 : Int) => (⟨[(0, aI d1), (1, aI d2), (2, aI x2), (6, aI 0), (7, aI d0)], []⟩ : St)) (show ((Int.tmod (q.1 * q.2.1) x2) : Int) = (((q.1 * q.2.1).tmod x2, (q.2.1 * q.2.1).tmod x2, q.2.2 / 2)).1 from by first | with_reducible rfl | (rfl) | rfl) (show ((Int.tmod (q.2.1 * q.2.1) x2) : Int) = (((q.1 * q.2.1).tmod x2, (q.2.1 * q.2.1).tmod x2, q.2.2 / 2)).2.1 from by first | with_reducible rfl | (rfl) | rfl) (show (((q.2.2 / 2 : Nat) : Int) : Int) = (((((q.1 * q.2.1).tmod x2, (q.2.1 * q.2.1).tmod x2, q.2.2 / 2)).2.2 : Nat) : Int) from by first | with_reducible rfl | (rfl) | rfl)), (by first | exact powOK_odd hok0 (by omega) (by omega) | exact powOK_even hok0 (by omega) (by omega) (by omega)), (by dsimp only; omega)⟩
    · replace h2 : ¬ (((q.2.2 % 2 : Nat) : Int) = 1) := of_decide_eq_false h2
      refine wp_skip ?_
      refine then_normal ?_
      refine at_regq (T := S_impl_powMod_tab) [{}, {}, { nw := true }] { ts := [0, 1, 2, 6, 7], os := [] } [I64 (q.2.1 * q.2.1), (x2 : Int) ≠ 0] gamOK hT h (by kernel_rfl) ⟨⟨by (have hA0 := mul_f q.2.1 q.2.1; first | omega | (simp only [List.length_append, List.length_cons, List.length_nil, List.length_set, List.length_take, List.length_drop, List.length_replicate, List.length_map, Nat.min_def]; omega) | (simp; done) | (simp; omega) | done), by (have hA0 := mul_f q.2.1 q.2.1; first | omega | (simp only [List.length_append, List.length_cons, List.length_nil, List.length_set, List.length_take, List.length_drop, List.length_replicate, List.length_map, Nat.min_def]; omega) | (simp; done) | (simp; omega) | done)⟩, (by first | omega | (simp only [List.length_append, List.length_cons, List.length_nil, List.length_set, List.length_take, List.length_drop, List.length_replicate, List.length_map, Nat.min_def]; omega) | (simp; done) | (simp; omega) | done), trivial⟩ ?_
      intro a w h
      refine in_normal ?_
      refine then_normal ?_
      refine at_regq (T := S_impl_powMod_tab) [{}, { hint := some (aI ((q.2.2 / 2 : Nat) : Int)) }] { ts := [0, 1, 2, 6, 7], os := [] } [(0 : Int) ≤ 1, (AV.p (.c (.v (.int .i64 ((Int.fdiv ((q.2.2 : Nat) : Int) (2 ^ (min (1 : Int).toNat (IntKind.i64).bits))))))) = AV.p (.c (.v (.int .i64 (((q.2.2 / 2 : Nat) : Int))))))] gamOK hT h (by kernel_rfl) ⟨(by first | omega | (simp only [List.length_append, List.length_cons, List.length_nil, List.length_set, List.length_take, List.length_drop, List.length_replicate, List.length_map, Nat.min_def]; omega) | (simp; done) | (simp; omega) | done), hint_int (by exact shr1), trivial⟩ ?_
      intro a w h
      replace h := at_out (σ' := ⟨[(0, aI (Int.tmod (q.2.1 * q.2.1) x2)), (1, aI ((q.2.2 / 2 : Nat) : Int)), (2, aI x2), (6, aI 0), (7, aI q.1)], []⟩) { ts := [0, 1, 2, 6, 7], os := [] } h (by kernel_rfl)
      exact ⟨(q.1, (q.2.1 * q.2.1).tmod x2, q.2.2 / 2), at_eq h (st_congr3 (fun (d0 : Int) (d1 : Int) (d2 : Int) => (⟨[(0, aI d1), (1, aI d2), (2, aI x2), (6, aI 0), (7, aI d0)], []⟩ : St)) (show (q.1 : Int) = ((q.1, (q.2.1 * q.2.1).tmod x2, q.2.2 / 2)).1 from by first | with_reducible rfl | (rfl) | rfl) (show ((Int.tmod (q.2.1 * q.2.1) x2) : Int) = ((q.1, (q.2.1 * q.2.1).tmod x2, q.2.2 / 2)).2.1 from by first | with_reducible rfl | (rfl) | rfl) (show (((q.2.2 / 2 : Nat) : Int) : Int) = ((((q.1, (q.2.1 * q.2.1).tmod x2, q.2.2 / 2)).2.2 : Nat) : Int) from by first | with_reducible rfl | (rfl) | rfl)), (by first | exact powOK_odd hok0 (by omega) (by omega) | exact powOK_even hok0 (by omega) (by omega) (by omega)), (by dsimp only; omega)⟩
  · replace h1 : ¬ (((q.2.2 : Nat) : Int) > 0) := of_decide_eq_false h1
    refine wp_exit ?_
    refine then_exit ?_
    refine then_exit ?_
    refine in_hit ?_
    refine then_normal ?_
    refine wp_seq ?_
    refine at_reg (T := S_impl_powMod_tab) [] { ts := [6], os := [] } ⟨[(6, aI q.1)], []⟩ [] gamOK hT h (by kernel_rfl) trivial ?_
    intro a w h
    refine then_normal ?_
    refine wp_ret ?_
    exact at_return (S := S_impl_powMod) (x := (x0, x1, x2, ())) (q.1, ()) [] h (by kernel_rfl) trivial (congrArg (fun z => (z, ())) (show (q.1) = powD x0 x1 x2 from by (have e := hok0.1; rw [show q.2.2 = 0 by omega, LA.pmL_zero] at e; exact e)))

def S_spec_l4Pow : Sum := { fid := 308, dom := [(.int 3), (.int 3), (.int 3)], cod := [(.int 3)], dp := true, fz := false, pre := fun x => powP x.1 x.2.1 x.2.2.1, g := fun x => ((powD x.1 x.2.1 x.2.2.1), ()) }
def S_spec_l4Pow_tab : List (Nat × Sum) := []
theorem S_spec_l4Pow_ok : FnOK Try.prog 308 S_spec_l4Pow := by
  refine at_enter 26 (fun x => ⟨[(0, aI x.1), (1, aI x.2.1), (2, aI x.2.2.1)], []⟩) Try.func308 rfl (by kernel_rfl) (fun x => rfl) ?_
  rintro w0 Z0 ⟨x0, x1, x2, u⟩ a w
  revert x0 x1 x2
  intro (x0 : Int) (x1 : Int) (x2 : Int) hpre hlens h
  replace h : At w0 Z0 [] 26 ⟨[(0, aI x0), (1, aI x1), (2, aI x2)], []⟩ a w := h
  replace hpre : powP x0 x1 x2 := hpre
  have hT : TabOK Try.prog S_spec_l4Pow_tab := .nil
  have hp : (0 ≤ x0 ∧ x0 < x2) ∧ (0 ≤ x1 ∧ x1 ≤ 4611686018427387904) ∧ 1 < x2 ∧ x2 ≤ 1048576 := hpre
  refine wp_seq ?_
  refine at_regq (T := S_spec_l4Pow_tab) [] { ts := [0, 1, 2, 6], os := [] } [] gamOK hT h (by kernel_rfl) trivial ?_
  intro a w h
  refine then_normal ?_
  refine wp_seq ?_
  refine at_regq (T := S_spec_l4Pow_tab) [] { ts := [0, 1, 2, 6, 7], os := [] } [] gamOK hT h (by kernel_rfl) trivial ?_
  intro a w h
  refine then_normal ?_
  refine wp_seq ?_
  refine wp_block ?_
  replace h := at_out (σ' := ⟨[(0, aI x0), (1, aI x1), (2, aI x2), (6, aI 0), (7, aI 1)], []⟩) { ts := [0, 1, 2, 6, 7], os := [] } h (by kernel_rfl)
  refine at_loop (fun q : (Int × Int × Nat) => (⟨[(0, aI q.2.1), (1, aI ((q.2.2 : Nat) : Int)), (2, aI x2), (6, aI 0), (7, aI q.1)], []⟩ : St)) (fun q => powOK x0 x1 x2 q) (fun q => q.2.2) ((1, x0, x1.toNat)) h (st_congr3 (fun (d0 : Int) (d1 : Int) (d2 : Int) => (⟨[(0, aI d1), (1, aI d2), (2, aI x2), (6, aI 0), (7, aI d0)], []⟩ : St)) (show (1 : Int) = ((1, x0, x1.toNat)).1 from by first | with_reducible rfl | (show x1 = ((x1.toNat : Nat) : Int); omega) | rfl) (show (x0 : Int) = ((1, x0, x1.toNat)).2.1 from by first | with_reducible rfl | (show x1 = ((x1.toNat : Nat) : Int); omega) | rfl) (show (x1 : Int) = ((((1, x0, x1.toNat)).2.2 : Nat) : Int) from by first | with_reducible rfl | (show x1 = ((x1.toNat : Nat) : Int); omega) | rfl)) (by exact ⟨rfl, ⟨(show (0 : Int) ≤ 1 by decide), by dsimp only; omega⟩, ⟨by dsimp only; omega, by dsimp only; omega⟩, by dsimp only; omega⟩) ?_
  intro q a w hok0 h
  have hq := hok0.2
  refine wp_seq ?_
  refine wp_seq ?_
  refine at_regq (T := S_spec_l4Pow_tab) [] { ts := [0, 1, 2, 6, 7, 9], os := [] } [] gamOK hT h (by kernel_rfl) trivial ?_
  intro a w h
  refine then_normal ?_
  refine at_test (decide (((q.2.2 : Nat) : Int) > 0)) h (by kernel_rfl) (fun h1 => ?_) (fun h1 => ?_)
  · replace h1 : ((q.2.2 : Nat) : Int) > 0 := of_decide_eq_true h1
    refine wp_skip ?_
    refine then_normal ?_
    refine wp_block ?_
    refine wp_seq ?_
    refine wp_seq ?_
    refine at_reg (T := S_spec_l4Pow_tab) [{}, { hint := some (aI ((q.2.2 % 2 : Nat) : Int)) }] { ts := [0, 1, 2, 6, 7, 12], os := [] } ⟨[(0, aI q.2.1), (1, aI ((q.2.2 : Nat) : Int)), (2, aI x2), (6, aI 0), (7, aI q.1), (12, aB (decide (((q.2.2 % 2 : Nat) : Int) = 1)))], []⟩ [(AV.p (.c (.v (.int .i64 (IntKind.i64.wrap ((BitVec.ofInt (IntKind.i64).bits ((q.2.2 : Nat) : Int) &&& BitVec.ofInt (IntKind.i64).bits 1).toNat : Int))))) = AV.p (.c (.v (.int .i64 (((q.2.2 % 2 : Nat) : Int))))))] gamOK hT h (by kernel_rfl) ⟨hint_int (by exact and1 (by omega)), trivial⟩ ?_
    intro a w h
    refine then_normal ?_
    refine at_test (decide (((q.2.2 % 2 : Nat) : Int) = 1)) h (by kernel_rfl) (fun h2 => ?_) (fun h2 => ?_)
    · replace h2 : ((q.2.2 % 2 : Nat) : Int) = 1 := of_decide_eq_true h2
      refine at_regq (T := S_spec_l4Pow_tab) [{}, {}, { nw := true }] { ts := [0, 1, 2, 6, 7], os := [] } [I64 (q.1 * q.2.1), (x2 : Int) ≠ 0] gamOK hT h (by kernel_rfl) ⟨⟨by (have hA0 := mul_f q.1 q.2.1; first | omega | (simp only [List.length_append, List.length_cons, List.length_nil, List.length_set, List.length_take, List.length_drop, List.length_replicate, List.length_map, Nat.min_def]; omega) | (simp; done) | (simp; omega) | done), by (have hA0 := mul_f q.1 q.2.1; first | omega | (simp only [List.length_append, List.length_cons, List.length_nil, List.length_set, List.length_take, List.length_drop, List.length_replicate, List.length_map, Nat.min_def]; omega) | (simp; done) | (simp; omega) | done)⟩, (by first | omega | (simp only [List.length_append, List.length_cons, List.length_nil, List.length_set, List.length_take, List.length_drop, List.length_replicate, List.length_map, Nat.min_def]; omega) | (simp; done) | (simp; omega) | done), trivial⟩ ?_
      intro a w h
      refine then_normal ?_
      refine wp_seq ?_
      refine at_regq (T := S_spec_l4Pow_tab) [{}, {}, { nw := true }] { ts := [0, 1, 2, 6, 7], os := [] } [I64 (q.2.1 * q.2.1), (x2 : Int) ≠ 0] gamOK hT h (by kernel_rfl) ⟨⟨by (have hA0 := mul_f q.2.1 q.2.1; first | omega | (simp only [List.length_append, List.length_cons, List.length_nil, List.length_set, List.length_take, List.length_drop, List.length_replicate, List.length_map, Nat.min_def]; omega) | (simp; done) | (simp; omega) | done), by (have hA0 := mul_f q.2.1 q.2.1; first | omega | (simp only [List.length_append, List.length_cons, List.length_nil, List.length_set, List.length_take, List.length_drop, List.length_replicate, List.length_map, Nat.min_def]; omega) | (simp; done) | (simp; omega) | done)⟩, (by first | omega | (simp only [List.length_append, List.length_cons, List.length_nil, List.length_set, List.length_take, List.length_drop, List.length_replicate, List.length_map, Nat.min_def]; omega) | (simp; done) | (simp; omega) | done), trivial⟩ ?_
      intro a w h
      refine then_normal ?_
      refine at_regq (T := S_spec_l4Pow_tab) [{}, { hint := some (aI ((q.2.2 / 2 : Nat) : Int)) }] { ts := [0, 1, 2, 6, 7], os := [] } [(0 : Int) ≤ 1, (AV.p (.c (.v (.int .i64 ((Int.fdiv ((q.2.2 : Nat) : Int) (2 ^ (min (1 : Int).toNat (IntKind.i64).bits))))))) = AV.p (.c (.v (.int .i64 (((q.2.2 / 2 : Nat) : Int))))))] gamOK hT h (by kernel_rfl) ⟨(by first | omega | (simp only [List.length_append, List.length_cons, List.length_nil, List.length_set, List.length_take, List.length_drop, List.length_replicate, List.length_map, Nat.min_def]; omega) | (simp; done) | (simp; omega) | done), hint_int (by exact shr1), trivial⟩ ?_
      intro a w h
      refine in_normal ?_
      replace h := at_out (σ' := ⟨[(0, aI (Int.tmod (q.2.1 * q.2.1) x2)), (1, aI ((q.2.2 / 2 : Nat) : Int)), (2, aI x2), (6, aI 0), (7, aI (Int.tmod (q.1 * q.2.1) x2))], []⟩) { ts := [0, 1, 2, 6, 7], os := [] } h (by kernel_rfl)
      exact ⟨((q.1 * q.2.1).tmod x2, (q.2.1 * q.2.1).tmod x2, q.2.2 / 2), at_eq h (st_congr3 (fun (d0 : Int) (d1 : Int) (d2 : Int) => (⟨[(0, aI d1), (1, aI d2), (2, aI x2), (6, aI 0), (7, aI d0)], []⟩ : St)) (show ((Int.tmod (q.1 * q.2.1) x2) : Int) = (((q.1 * q.2.1).tmod x2, (q.2.1 * q.2.1).tmod x2, q.2.2 / 2)).1 from by first | with_reducible rfl | (rfl) | rfl) (show ((Int.tmod (q.2.1 * q.2.1) x2) : Int) = (((q.1 * q.2.1).tmod x2, (q.2.1 * q.2.1).tmod x2, q.2.2 / 2)).2.1 from by first | with_reducible rfl | (rfl) | rfl) (show (((q.2.2 / 2 : Nat) : Int) : Int) = (((((q.1 * q.2.1).tmod x2, (q.2.1 * q.2.1).tmod x2, q.2.2 / 2)).2.2 : Nat) : Int) from by first | with_reducible rfl | (rfl) | rfl)), (by first | exact powOK_odd hok0 (by omega) (by omega) | exact powOK_even hok0 (by omega) (by omega) (by omega)), (by dsimp only; omega)⟩
    · replace h2 : ¬ (((q.2.2 % 2 : Nat) : Int) = 1) := of_decide_eq_false h2
      refine wp_skip ?_
      refine then_normal ?_
      refine wp_seq ?_
      refine at_regq (T := S_spec_l4Pow_tab) [{}, {}, { nw := true }] { ts := [0, 1, 2, 6, 7], os := [] } [I64 (q.2.1 * q.2.1), (x2 : Int) ≠ 0] gamOK hT h (by kernel_rfl) ⟨⟨by (have hA0 := mul_f q.2.1 q.2.1; first | omega | (simp only [List.length_append, List.length_cons, List.length_nil, List.length_set, List.length_take, List.length_drop, List.length_replicate, List.length_map, Nat.min_def]; omega) | (simp; done) | (simp; omega) | done), by (have hA0 := mul_f q.2.1 q.2.1; first | omega | (simp only [List.length_append, List.length_cons, List.length_nil, List.length_set, List.length_take, List.length_drop, List.length_replicate, List.length_map, Nat.min_def]; omega) | (simp; done) | (simp; omega) | done)⟩, (by first | omega | (simp only [List.length_append, List.length_cons, List.length_nil, List.length_set, List.length_take, List.length_drop, List.length_replicate, List.length_map, Nat.min_def]; omega) | (simp; done) | (simp; omega) | done), trivial⟩ ?_
      intro a w h
      refine then_normal ?_
      refine at_regq (T := S_spec_l4Pow_tab) [{}, { hint := some (aI ((q.2.2 / 2 : Nat) : Int)) }] { ts := [0, 1, 2, 6, 7], os := [] } [(0 : Int) ≤ 1, (AV.p (.c (.v (.int .i64 ((Int.fdiv ((q.2.2 : Nat) : Int) (2 ^ (min (1 : Int).toNat (IntKind.i64).bits))))))) = AV.p (.c (.v (.int .i64 (((q.2.2 / 2 : Nat) : Int))))))] gamOK hT h (by kernel_rfl) ⟨(by first | omega | (simp only [List.length_append, List.length_cons, List.length_nil, List.length_set, List.length_take, List.length_drop, List.length_replicate, List.length_map, Nat.min_def]; omega) | (simp; done) | (simp; omega) | done), hint_int (by exact shr1), trivial⟩ ?_
      intro a w h
      refine in_normal ?_
      replace h := at_out (σ' := ⟨[(0, aI (Int.tmod (q.2.1 * q.2.1) x2)), (1, aI ((q.2.2 / 2 : Nat) : Int)), (2, aI x2), (6, aI 0), (7, aI q.1)], []⟩) { ts := [0, 1, 2, 6, 7], os := [] } h (by kernel_rfl)
      exact ⟨(q.1, (q.2.1 * q.2.1).tmod x2, q.2.2 / 2), at_eq h (st_congr3 (fun (d0 : Int) (d1 : Int) (d2 : Int) => (⟨[(0, aI d1), (1, aI d2), (2, aI x2), (6, aI 0), (7, aI d0)], []⟩ : St)) (show (q.1 : Int) = ((q.1, (q.2.1 * q.2.1).tmod x2, q.2.2 / 2)).1 from by first | with_reducible rfl | (rfl) | rfl) (show ((Int.tmod (q.2.1 * q.2.1) x2) : Int) = ((q.1, (q.2.1 * q.2.1).tmod x2, q.2.2 / 2)).2.1 from by first | with_reducible rfl | (rfl) | rfl) (show (((q.2.2 / 2 : Nat) : Int) : Int) = ((((q.1, (q.2.1 * q.2.1).tmod x2, q.2.2 / 2)).2.2 : Nat) : Int) from by first | with_reducible rfl | (rfl) | rfl)), (by first | exact powOK_odd hok0 (by omega) (by omega) | exact powOK_even hok0 (by omega) (by omega) (by omega)), (by dsimp only; omega)⟩
  · replace h1 : ¬ (((q.2.2 : Nat) : Int) > 0) := of_decide_eq_false h1
    refine wp_exit ?_
    refine then_exit ?_
    refine then_exit ?_
    refine in_hit ?_
    refine then_normal ?_
    refine wp_seq ?_
    refine at_reg (T := S_spec_l4Pow_tab) [] { ts := [6], os := [] } ⟨[(6, aI q.1)], []⟩ [] gamOK hT h (by kernel_rfl) trivial ?_
    intro a w h
    refine then_normal ?_
    refine wp_ret ?_
    exact at_return (S := S_spec_l4Pow) (x := (x0, x1, x2, ())) (q.1, ()) [] h (by kernel_rfl) trivial (congrArg (fun z => (z, ())) (show (q.1) = powD x0 x1 x2 from by (have e := hok0.1; rw [show q.2.2 = 0 by omega, LA.pmL_zero] at e; exact e)))

def validV (x0 : (List Int)) : Bool := (if (List.all x0 isEl) = true then decide (((List.length x0 : Nat) : Int) ≤ 40) else false)
def S_impl_IsValidVector : Sum := { fid := 253, dom := [s22], cod := [(.bool 4)], dp := true, fz := false, pre := fun x => (fun (x0 : (List Int)) => Sh.fit s22 x0) x.1, g := fun x => ((validV x.1), ()) }
def S_impl_IsValidVector_tab : List (Nat × Sum) := [(305, S_impl_IsElement)]
theorem S_impl_IsValidVector_ok : FnOK Try.prog 253 S_impl_IsValidVector := by
  refine at_enter 18 (fun x => ⟨[(0, aF (.int 3) x.1)], []⟩) Try.func253 rfl (by kernel_rfl) (fun x => rfl) ?_
  rintro w0 Z0 ⟨x0, u⟩ a w
  revert x0
  intro (x0 : (List Int)) hpre hlens h
  replace h : At w0 Z0 [] 18 ⟨[(0, aF (.int 3) x0)], []⟩ a w := h
  replace hpre : (fun (x0 : (List Int)) => Sh.fit s22 x0) x0 := hpre
  have hl1 : List.length x0 ≤ 9223372036854775807 := hlens.1.1
  have hT : TabOK Try.prog S_impl_IsValidVector_tab := (.cons S_impl_IsElement_ok .nil)
  have hf0 : Sh.fit s22 x0 := hpre
  have hn0_1 : List.length x0 ≤ 1073741824 := hf0.1
  refine wp_seq ?_
  refine at_regq (T := S_impl_IsValidVector_tab) [] { ts := [0, 2], os := [] } [] gamOK hT h (by kernel_rfl) trivial ?_
  intro a w h
  refine then_normal ?_
  refine wp_seq ?_
  refine wp_seq ?_
  refine at_regq (T := S_impl_IsValidVector_tab) [] { ts := [0, 2, 5, 6, 7], os := [] } [] gamOK hT h (by kernel_rfl) trivial ?_
  intro a w h
  refine then_normal ?_
  refine wp_block ?_
  replace h := at_out (σ' := ⟨[(0, aF (.int 3) x0), (2, aB false), (5, aF (.int 3) x0), (6, aI ((List.length x0 : Nat) : Int)), (7, aI 0)], []⟩) { ts := [0, 2, 5, 6, 7], os := [] } h (by kernel_rfl)
  refine at_loop (fun i : Nat => (⟨[(0, aF (.int 3) x0), (2, aB false), (5, aF (.int 3) x0), (6, aI ((List.length x0 : Nat) : Int)), (7, aI ((i : Nat) : Int))], []⟩ : St)) (fun i => (i ≤ List.length x0 ∧ allTo1 isEl x0 0 i)) (fun i => List.length x0 - i) (0) h (st_congr1 (fun (d0 : Int) => (⟨[(0, aF (.int 3) x0), (2, aB false), (5, aF (.int 3) x0), (6, aI ((List.length x0 : Nat) : Int)), (7, aI d0)], []⟩ : St)) (show (0 : Int) = (((0) : Nat) : Int) from by first | with_reducible rfl | (rfl) | rfl)) (by exact ⟨Nat.zero_le _, allTo1_zero⟩) ?_
  intro i a w hok0 h
  refine wp_seq ?_
  refine at_regq (T := S_impl_IsValidVector_tab) [] { ts := [0, 2, 5, 6, 7, 8], os := [] } [] gamOK hT h (by kernel_rfl) trivial ?_
  intro a w h
  refine then_normal ?_
  refine wp_seq ?_
  refine at_test (decide (((i : Nat) : Int) < ((List.length x0 : Nat) : Int))) h (by kernel_rfl) (fun h1 => ?_) (fun h1 => ?_)
  · replace h1 : ((i : Nat) : Int) < ((List.length x0 : Nat) : Int) := of_decide_eq_true h1
    refine wp_skip ?_
    refine then_normal ?_
    refine wp_seq ?_
    refine wp_block ?_
    refine wp_seq ?_
    refine at_reg (T := S_impl_IsValidVector_tab) [] { ts := [0, 2, 4, 5, 6, 7], os := [] } ⟨[(0, aF (.int 3) x0), (2, aB false), (4, aI (x0.getD i 0)), (5, aF (.int 3) x0), (6, aI ((List.length x0 : Nat) : Int)), (7, aI ((i : Nat) : Int))], []⟩ [(0 : Int) ≤ ((i : Nat) : Int) ∧ ((i : Nat) : Int) < ((List.length x0 : Nat) : Int)] gamOK hT h (by kernel_rfl) ⟨(by refine ⟨?_, ?_⟩ <;> (first | omega | (simp only [List.length_append, List.length_cons, List.length_nil, List.length_set, List.length_take, List.length_drop, List.length_replicate, List.length_map, Nat.min_def]; omega) | (simp; done) | (simp; omega) | done)), trivial⟩ ?_
    intro a w h
    refine then_normal ?_
    refine wp_seq ?_
    refine at_regq (T := S_impl_IsValidVector_tab) [] { ts := [0, 2, 5, 6, 7, 13], os := [] } [True] gamOK hT h (by kernel_rfl) ⟨trivial, trivial⟩ ?_
    intro a w h
    refine then_normal ?_
    refine at_test (!(isEl (x0.getD i 0))) h (by kernel_rfl) (fun h2 => ?_) (fun h2 => ?_)
    · replace h2 : (isEl (x0.getD i 0)) = false := notT h2
      refine wp_seq ?_
      refine at_regq (T := S_impl_IsValidVector_tab) [] { ts := [0, 2, 5, 6, 7], os := [] } [] gamOK hT h (by kernel_rfl) trivial ?_
      intro a w h
      refine then_normal ?_
      refine wp_ret ?_
      refine in_ret ?_
      refine then_ret ?_
      have hs3 : (List.all x0 isEl) = false := by exact all_at (z := 0) (i := i) (by omega) (by first | assumption | (simp_all; done))
      refine then_ret ?_
      refine in_ret ?_
      refine then_ret ?_
      exact at_return (S := S_impl_IsValidVector) (x := (x0, ())) (false, ()) [] h (by kernel_rfl) trivial (congrArg (fun z => (z, ())) (show (false) = validV x0 from by first | rfl | (unfold validV; rw [if_neg (neT hs3)])))
    · replace h2 : (isEl (x0.getD i 0)) = true := notF h2
      have hvh2 := isEl_t h2
      refine wp_skip ?_
      refine in_normal ?_
      refine then_normal ?_
      refine at_regq (T := S_impl_IsValidVector_tab) [{ nw := true }] { ts := [0, 2, 5, 6, 7], os := [] } [I64 (((i : Nat) : Int) + 1)] gamOK hT h (by kernel_rfl) ⟨⟨by first | omega | (simp only [List.length_append, List.length_cons, List.length_nil, List.length_set, List.length_take, List.length_drop, List.length_replicate, List.length_map, Nat.min_def]; omega) | (simp; done) | (simp; omega) | done, by first | omega | (simp only [List.length_append, List.length_cons, List.length_nil, List.length_set, List.length_take, List.length_drop, List.length_replicate, List.length_map, Nat.min_def]; omega) | (simp; done) | (simp; omega) | done⟩, trivial⟩ ?_
      intro a w h
      replace h := at_out (σ' := ⟨[(0, aF (.int 3) x0), (2, aB false), (5, aF (.int 3) x0), (6, aI ((List.length x0 : Nat) : Int)), (7, aI (((i : Nat) : Int) + 1))], []⟩) { ts := [0, 2, 5, 6, 7], os := [] } h (by kernel_rfl)
      exact ⟨i + 1, at_eq h (st_congr1 (fun (d0 : Int) => (⟨[(0, aF (.int 3) x0), (2, aB false), (5, aF (.int 3) x0), (6, aI ((List.length x0 : Nat) : Int)), (7, aI d0)], []⟩ : St)) (show (((i : Nat) : Int) + 1 : Int) = (((i + 1) : Nat) : Int) from by first | with_reducible rfl | (omega) | rfl)), (by exact ⟨by omega, allTo1_succ hok0.2 (by first | assumption | (simp_all; done))⟩), (by omega)⟩
  · replace h1 : ¬ (((i : Nat) : Int) < ((List.length x0 : Nat) : Int)) := of_decide_eq_false h1
    refine wp_exit ?_
    refine then_exit ?_
    have hs4 : (List.all x0 isEl) = true := by exact all_of (z := 0) (i := i) (by omega) hok0.2
    refine then_exit ?_
    refine in_hit ?_
    refine then_normal ?_
    refine wp_seq ?_
    refine at_reg (T := S_impl_IsValidVector_tab) [] { ts := [2], os := [] } ⟨[(2, aB (decide (((List.length x0 : Nat) : Int) ≤ 40)))], []⟩ [] gamOK hT h (by kernel_rfl) trivial ?_
    intro a w h
    refine then_normal ?_
    refine wp_ret ?_
    exact at_return (S := S_impl_IsValidVector) (x := (x0, ())) (decide (((List.length x0 : Nat) : Int) ≤ 40), ()) [] h (by kernel_rfl) trivial (congrArg (fun z => (z, ())) (show (decide (((List.length x0 : Nat) : Int) ≤ 40)) = validV x0 from by first | rfl | (unfold validV; rw [if_pos hs4])))
theorem validV_t {v : List Int} (h : validV v = true) : List.length v ≤ 40 ∧ (∀ x ∈ v, LA.El x) ∧ (∀ j, 0 ≤ v.getD j 0 ∧ v.getD j 0 ≤ 1018) := by
  unfold validV at h
  split at h
  · rename_i ha
    have := of_decide_eq_true h
    exact ⟨by omega, validV_el ha, elB (validV_el ha)⟩
  · cases h
def scaleV (v : List Int) (k : Int) : List Int := if validV v = true ∧ isEl k = true then LA.scaleS v k else []
def addV (a b : List Int) (k : Int) : List Int := if (validV a = true ∧ validV b = true ∧ List.length a = List.length b) ∧ isEl k = true then LA.addS a b k else []

def S_spec_IsValidVector : Sum := { fid := 221, dom := [s22], cod := [(.bool 4)], dp := true, fz := false, pre := fun x => (fun (x0 : (List Int)) => Sh.fit s22 x0) x.1, g := fun x => ((validV x.1), ()) }
def S_spec_IsValidVector_tab : List (Nat × Sum) := [(288, S_spec_IsElement)]
theorem S_spec_IsValidVector_ok : FnOK Try.prog 221 S_spec_IsValidVector := by
  refine at_enter 19 (fun x => ⟨[(0, aF (.int 3) x.1)], []⟩) Try.func221 rfl (by kernel_rfl) (fun x => rfl) ?_
  rintro w0 Z0 ⟨x0, u⟩ a w
  revert x0
  intro (x0 : (List Int)) hpre hlens h
  replace h : At w0 Z0 [] 19 ⟨[(0, aF (.int 3) x0)], []⟩ a w := h
  replace hpre : (fun (x0 : (List Int)) => Sh.fit s22 x0) x0 := hpre
  have hl1 : List.length x0 ≤ 9223372036854775807 := hlens.1.1
  have hT : TabOK Try.prog S_spec_IsValidVector_tab := (.cons S_spec_IsElement_ok .nil)
  have hf0 : Sh.fit s22 x0 := hpre
  have hn0_1 : List.length x0 ≤ 1073741824 := hf0.1
  refine wp_seq ?_
  refine at_regq (T := S_spec_IsValidVector_tab) [] { ts := [0, 2], os := [] } [] gamOK hT h (by kernel_rfl) trivial ?_
  intro a w h
  refine then_normal ?_
  refine wp_seq ?_
  refine wp_seq ?_
  refine at_regq (T := S_spec_IsValidVector_tab) [] { ts := [0, 2, 3], os := [] } [] gamOK hT h (by kernel_rfl) trivial ?_
  intro a w h
  refine then_normal ?_
  refine wp_block ?_
  replace h := at_out (σ' := ⟨[(0, aF (.int 3) x0), (2, aB false), (3, aI 0)], []⟩) { ts := [0, 2, 3], os := [] } h (by kernel_rfl)
  refine at_loop (fun i : Nat => (⟨[(0, aF (.int 3) x0), (2, aB false), (3, aI ((i : Nat) : Int))], []⟩ : St)) (fun i => (i ≤ List.length x0 ∧ allTo1 isEl x0 0 i)) (fun i => List.length x0 - i) (0) h (st_congr1 (fun (d0 : Int) => (⟨[(0, aF (.int 3) x0), (2, aB false), (3, aI d0)], []⟩ : St)) (show (0 : Int) = (((0) : Nat) : Int) from by first | with_reducible rfl | (rfl) | rfl)) (by exact ⟨Nat.zero_le _, allTo1_zero⟩) ?_
  intro i a w hok0 h
  refine wp_seq ?_
  refine wp_seq ?_
  refine at_regq (T := S_spec_IsValidVector_tab) [] { ts := [0, 2, 3, 7], os := [] } [] gamOK hT h (by kernel_rfl) trivial ?_
  intro a w h
  refine then_normal ?_
  refine at_test (decide (((i : Nat) : Int) < ((List.length x0 : Nat) : Int))) h (by kernel_rfl) (fun h1 => ?_) (fun h1 => ?_)
  · replace h1 : ((i : Nat) : Int) < ((List.length x0 : Nat) : Int) := of_decide_eq_true h1
    refine wp_skip ?_
    refine then_normal ?_
    refine wp_seq ?_
    refine wp_block ?_
    refine wp_seq ?_
    refine at_reg (T := S_spec_IsValidVector_tab) [] { ts := [0, 2, 3, 15], os := [] } ⟨[(0, aF (.int 3) x0), (2, aB false), (3, aI ((i : Nat) : Int)), (15, aB (!(isEl (x0.getD i 0))))], []⟩ [(0 : Int) ≤ ((i : Nat) : Int) ∧ ((i : Nat) : Int) < ((List.length x0 : Nat) : Int), True] gamOK hT h (by kernel_rfl) ⟨(by refine ⟨?_, ?_⟩ <;> (first | omega | (simp only [List.length_append, List.length_cons, List.length_nil, List.length_set, List.length_take, List.length_drop, List.length_replicate, List.length_map, Nat.min_def]; omega) | (simp; done) | (simp; omega) | done)), trivial, trivial⟩ ?_
    intro a w h
    refine then_normal ?_
    refine at_test (!(isEl (x0.getD i 0))) h (by kernel_rfl) (fun h2 => ?_) (fun h2 => ?_)
    · replace h2 : (isEl (x0.getD i 0)) = false := notT h2
      refine wp_seq ?_
      refine at_regq (T := S_spec_IsValidVector_tab) [] { ts := [0, 2, 3], os := [] } [] gamOK hT h (by kernel_rfl) trivial ?_
      intro a w h
      refine then_normal ?_
      refine wp_ret ?_
      refine in_ret ?_
      refine then_ret ?_
      have hs3 : (List.all x0 isEl) = false := by exact all_at (z := 0) (i := i) (by omega) (by first | assumption | (simp_all; done))
      refine then_ret ?_
      refine in_ret ?_
      refine then_ret ?_
      exact at_return (S := S_spec_IsValidVector) (x := (x0, ())) (false, ()) [] h (by kernel_rfl) trivial (congrArg (fun z => (z, ())) (show (false) = validV x0 from by first | rfl | (unfold validV; rw [if_neg (neT hs3)]; done) | (unfold validV; simp_all)))
    · replace h2 : (isEl (x0.getD i 0)) = true := notF h2
      have hvh2 := isEl_t h2
      refine wp_skip ?_
      refine in_normal ?_
      refine then_normal ?_
      refine at_regq (T := S_spec_IsValidVector_tab) [{}, { nw := true }] { ts := [0, 2, 3], os := [] } [I64 (((i : Nat) : Int) + 1)] gamOK hT h (by kernel_rfl) ⟨⟨by first | omega | (simp only [List.length_append, List.length_cons, List.length_nil, List.length_set, List.length_take, List.length_drop, List.length_replicate, List.length_map, Nat.min_def]; omega) | (simp; done) | (simp; omega) | done, by first | omega | (simp only [List.length_append, List.length_cons, List.length_nil, List.length_set, List.length_take, List.length_drop, List.length_replicate, List.length_map, Nat.min_def]; omega) | (simp; done) | (simp; omega) | done⟩, trivial⟩ ?_
      intro a w h
      replace h := at_out (σ' := ⟨[(0, aF (.int 3) x0), (2, aB false), (3, aI (((i : Nat) : Int) + 1))], []⟩) { ts := [0, 2, 3], os := [] } h (by kernel_rfl)
      exact ⟨i + 1, at_eq h (st_congr1 (fun (d0 : Int) => (⟨[(0, aF (.int 3) x0), (2, aB false), (3, aI d0)], []⟩ : St)) (show (((i : Nat) : Int) + 1 : Int) = (((i + 1) : Nat) : Int) from by first | with_reducible rfl | (omega) | rfl)), (by exact ⟨by omega, allTo1_succ hok0.2 (by first | assumption | (simp_all; done))⟩), (by omega)⟩
  · replace h1 : ¬ (((i : Nat) : Int) < ((List.length x0 : Nat) : Int)) := of_decide_eq_false h1
    refine wp_exit ?_
    refine then_exit ?_
    have hs4 : (List.all x0 isEl) = true := by exact all_of (z := 0) (i := i) (by omega) hok0.2
    refine then_exit ?_
    refine in_hit ?_
    refine then_normal ?_
    refine wp_seq ?_
    refine at_reg (T := S_spec_IsValidVector_tab) [] { ts := [2], os := [] } ⟨[(2, aB (decide (((List.length x0 : Nat) : Int) ≤ 40)))], []⟩ [] gamOK hT h (by kernel_rfl) trivial ?_
    intro a w h
    refine then_normal ?_
    refine wp_ret ?_
    exact at_return (S := S_spec_IsValidVector) (x := (x0, ())) (decide (((List.length x0 : Nat) : Int) ≤ 40), ()) [] h (by kernel_rfl) trivial (congrArg (fun z => (z, ())) (show (decide (((List.length x0 : Nat) : Int) ≤ 40)) = validV x0 from by first | rfl | (unfold validV; rw [if_pos hs4]; done) | (unfold validV; simp_all)))

def validM (x0 : (List (List Int))) : Bool := (if (List.all x0 (fun r => validV r && decide (List.length r = List.length (x0.getD 0 [])))) = true then decide (((List.length x0 : Nat) : Int) ≤ 40) else false)
def S_impl_IsValidMatrix : Sum := { fid := 316, dom := [s97], cod := [(.bool 4)], dp := true, fz := false, pre := fun x => (fun (x0 : (List (List Int))) => Sh.fit s97 x0) x.1, g := fun x => ((validM x.1), ()) }
def S_impl_IsValidMatrix_tab : List (Nat × Sum) := [(253, S_impl_IsValidVector)]
theorem S_impl_IsValidMatrix_ok : FnOK Try.prog 316 S_impl_IsValidMatrix := by
  refine at_enter 27 (fun x => ⟨[(0, aF s22 x.1)], []⟩) Try.func316 rfl (by kernel_rfl) (fun x => rfl) ?_
  rintro w0 Z0 ⟨x0, u⟩ a w
  revert x0
  intro (x0 : (List (List Int))) hpre hlens h
  replace h : At w0 Z0 [] 27 ⟨[(0, aF s22 x0)], []⟩ a w := h
  replace hpre : (fun (x0 : (List (List Int))) => Sh.fit s97 x0) x0 := hpre
  have hl1 : List.length x0 ≤ 9223372036854775807 := hlens.1.1
  have hT : TabOK Try.prog S_impl_IsValidMatrix_tab := (.cons S_impl_IsValidVector_ok .nil)
  have hf0 : Sh.fit s97 x0 := hpre
  have hn0_1 : List.length x0 ≤ 1073741824 := hf0.1
  refine wp_seq ?_
  refine at_regq (T := S_impl_IsValidMatrix_tab) [] { ts := [0, 2], os := [] } [] gamOK hT h (by kernel_rfl) trivial ?_
  intro a w h
  refine then_normal ?_
  refine wp_seq ?_
  refine wp_seq ?_
  refine at_regq (T := S_impl_IsValidMatrix_tab) [] { ts := [0, 2, 5, 6, 7], os := [] } [] gamOK hT h (by kernel_rfl) trivial ?_
  intro a w h
  refine then_normal ?_
  refine wp_block ?_
  replace h := at_out (σ' := ⟨[(0, aF s22 x0), (2, aB false), (5, aF s22 x0), (6, aI ((List.length x0 : Nat) : Int)), (7, aI 0)], []⟩) { ts := [0, 2, 5, 6, 7], os := [] } h (by kernel_rfl)
  refine at_loop (fun i : Nat => (⟨[(0, aF s22 x0), (2, aB false), (5, aF s22 x0), (6, aI ((List.length x0 : Nat) : Int)), (7, aI ((i : Nat) : Int))], []⟩ : St)) (fun i => (i ≤ List.length x0 ∧ allTo1 (fun r => validV r && decide (List.length r = List.length (x0.getD 0 []))) x0 [] i)) (fun i => List.length x0 - i) (0) h (st_congr1 (fun (d0 : Int) => (⟨[(0, aF s22 x0), (2, aB false), (5, aF s22 x0), (6, aI ((List.length x0 : Nat) : Int)), (7, aI d0)], []⟩ : St)) (show (0 : Int) = (((0) : Nat) : Int) from by first | with_reducible rfl | (rfl) | rfl)) (by exact ⟨Nat.zero_le _, allTo1_zero⟩) ?_
  intro i a w hok0 h
  refine wp_seq ?_
  refine at_regq (T := S_impl_IsValidMatrix_tab) [] { ts := [0, 2, 5, 6, 7, 8], os := [] } [] gamOK hT h (by kernel_rfl) trivial ?_
  intro a w h
  refine then_normal ?_
  refine wp_seq ?_
  refine at_test (decide (((i : Nat) : Int) < ((List.length x0 : Nat) : Int))) h (by kernel_rfl) (fun h1 => ?_) (fun h1 => ?_)
  · replace h1 : ((i : Nat) : Int) < ((List.length x0 : Nat) : Int) := of_decide_eq_true h1
    refine wp_skip ?_
    refine then_normal ?_
    refine wp_seq ?_
    refine wp_block ?_
    refine wp_seq ?_
    refine at_reg (T := S_impl_IsValidMatrix_tab) [] { ts := [0, 2, 4, 5, 6, 7], os := [] } ⟨[(0, aF s22 x0), (2, aB false), (4, aF (.int 3) (x0.getD i [])), (5, aF s22 x0), (6, aI ((List.length x0 : Nat) : Int)), (7, aI ((i : Nat) : Int))], []⟩ [(0 : Int) ≤ ((i : Nat) : Int) ∧ ((i : Nat) : Int) < ((List.length x0 : Nat) : Int)] gamOK hT h (by kernel_rfl) ⟨(by refine ⟨?_, ?_⟩ <;> (first | omega | (simp only [List.length_append, List.length_cons, List.length_nil, List.length_set, List.length_take, List.length_drop, List.length_replicate, List.length_map, Nat.min_def]; omega) | (simp; done) | (simp; omega) | done)), trivial⟩ ?_
    intro a w h
    refine then_normal ?_
    refine wp_seq ?_
    rcases Bool.eq_false_or_eq_true (!(validV (x0.getD i []))) with h2 | h2
    · skip
      have hzh2 : (validV (x0.getD i [])) = false := notT h2
      refine at_regq (T := S_impl_IsValidMatrix_tab) [{}, {}, { hint := some (aB true) }] { ts := [0, 2, 5, 6, 7, 15, 16, 17, 18, 19, 20, 21, 22], os := [] } [(fun (x0 : (List Int)) => Sh.fit s22 x0) (x0.getD i []), (AV.p (.c (.v (.bool (!(validV (x0.getD i [])))))) = AV.p (.c (.v (.bool true))))] gamOK hT h (by kernel_rfl) ⟨(by exact (Sh.fit_getD hf0 i)), hint_bool (h2), trivial⟩ ?_
      intro a w h
      refine then_normal ?_
      refine at_test true h (by kernel_rfl) (fun hh => ?_) (fun hh => nomatch hh)
      refine wp_seq ?_
      refine at_regq (T := S_impl_IsValidMatrix_tab) [] { ts := [0, 2, 5, 6, 7, 15, 16, 17, 18, 19, 20, 21], os := [] } [] gamOK hT h (by kernel_rfl) trivial ?_
      intro a w h
      refine then_normal ?_
      refine wp_ret ?_
      refine in_ret ?_
      refine then_ret ?_
      have hs3 : (List.all x0 (fun r => validV r && decide (List.length r = List.length (x0.getD 0 [])))) = false := by exact all_at (z := []) (i := i) (by omega) (by (show ((validV _) && _) = false; rw [Bool.and_eq_false_iff]; first | (left; assumption) | (right; exact decide_eq_false (by omega))))
      refine then_ret ?_
      refine in_ret ?_
      refine then_ret ?_
      exact at_return (S := S_impl_IsValidMatrix) (x := (x0, ())) (false, ()) [] h (by kernel_rfl) trivial (congrArg (fun z => (z, ())) (show (false) = validM x0 from by first | rfl | (unfold validM; rw [if_neg (neT hs3)])))
    · skip
      have hzh2 : (validV (x0.getD i [])) = true := notF h2
      have hvh2 := validV_t (notF h2)
      refine at_regq (T := S_impl_IsValidMatrix_tab) [{}, {}, { hint := some (aB false) }] { ts := [0, 2, 5, 6, 7, 15, 16, 17, 18, 19, 20, 21, 22], os := [] } [(fun (x0 : (List Int)) => Sh.fit s22 x0) (x0.getD i []), (AV.p (.c (.v (.bool (!(validV (x0.getD i [])))))) = AV.p (.c (.v (.bool false)))), (0 : Int) ≤ 0 ∧ 0 < ((List.length x0 : Nat) : Int)] gamOK hT h (by kernel_rfl) ⟨(by exact (Sh.fit_getD hf0 i)), hint_bool (h2), (by refine ⟨?_, ?_⟩ <;> (first | omega | (simp only [List.length_append, List.length_cons, List.length_nil, List.length_set, List.length_take, List.length_drop, List.length_replicate, List.length_map, Nat.min_def]; omega) | (simp; done) | (simp; omega) | done)), trivial⟩ ?_
      intro a w h
      refine then_normal ?_
      refine at_test (!decide (((List.length (x0.getD i []) : Nat) : Int) = ((List.length (x0.getD 0 []) : Nat) : Int))) h (by kernel_rfl) (fun h4 => ?_) (fun h4 => ?_)
      · replace h4 : ¬ (((List.length (x0.getD i []) : Nat) : Int) = ((List.length (x0.getD 0 []) : Nat) : Int)) := of_decide_eq_false (notT h4)
        refine wp_seq ?_
        refine at_regq (T := S_impl_IsValidMatrix_tab) [] { ts := [0, 2, 5, 6, 7, 15, 16, 17, 18, 19, 20, 21], os := [] } [] gamOK hT h (by kernel_rfl) trivial ?_
        intro a w h
        refine then_normal ?_
        refine wp_ret ?_
        refine in_ret ?_
        refine then_ret ?_
        have hs5 : (List.all x0 (fun r => validV r && decide (List.length r = List.length (x0.getD 0 [])))) = false := by exact all_at (z := []) (i := i) (by omega) (by (show ((validV _) && _) = false; rw [Bool.and_eq_false_iff]; first | (left; assumption) | (right; exact decide_eq_false (by omega))))
        refine then_ret ?_
        refine in_ret ?_
        refine then_ret ?_
        exact at_return (S := S_impl_IsValidMatrix) (x := (x0, ())) (false, ()) [] h (by kernel_rfl) trivial (congrArg (fun z => (z, ())) (show (false) = validM x0 from by first | rfl | (unfold validM; rw [if_neg (neT hs5)])))
      · replace h4 : ((List.length (x0.getD i []) : Nat) : Int) = ((List.length (x0.getD 0 []) : Nat) : Int) := of_decide_eq_true (notF h4)
        refine wp_skip ?_
        refine in_normal ?_
        refine then_normal ?_
        refine at_regq (T := S_impl_IsValidMatrix_tab) [{ nw := true }] { ts := [0, 2, 5, 6, 7, 15, 16, 17, 18, 19, 20, 21], os := [] } [I64 (((i : Nat) : Int) + 1)] gamOK hT h (by kernel_rfl) ⟨⟨by first | omega | (simp only [List.length_append, List.length_cons, List.length_nil, List.length_set, List.length_take, List.length_drop, List.length_replicate, List.length_map, Nat.min_def]; omega) | (simp; done) | (simp; omega) | done, by first | omega | (simp only [List.length_append, List.length_cons, List.length_nil, List.length_set, List.length_take, List.length_drop, List.length_replicate, List.length_map, Nat.min_def]; omega) | (simp; done) | (simp; omega) | done⟩, trivial⟩ ?_
        intro a w h
        replace h := at_out (σ' := ⟨[(0, aF s22 x0), (2, aB false), (5, aF s22 x0), (6, aI ((List.length x0 : Nat) : Int)), (7, aI (((i : Nat) : Int) + 1))], []⟩) { ts := [0, 2, 5, 6, 7], os := [] } h (by kernel_rfl)
        exact ⟨i + 1, at_eq h (st_congr1 (fun (d0 : Int) => (⟨[(0, aF s22 x0), (2, aB false), (5, aF s22 x0), (6, aI ((List.length x0 : Nat) : Int)), (7, aI d0)], []⟩ : St)) (show (((i : Nat) : Int) + 1 : Int) = (((i + 1) : Nat) : Int) from by first | with_reducible rfl | (omega) | rfl)), (by exact ⟨by omega, allTo1_succ hok0.2 (by (show ((validV _) && _) = true; rw [Bool.and_eq_true]; exact ⟨by assumption, decide_eq_true (by omega)⟩))⟩), (by omega)⟩
  · replace h1 : ¬ (((i : Nat) : Int) < ((List.length x0 : Nat) : Int)) := of_decide_eq_false h1
    refine wp_exit ?_
    refine then_exit ?_
    have hs6 : (List.all x0 (fun r => validV r && decide (List.length r = List.length (x0.getD 0 [])))) = true := by exact all_of (z := []) (i := i) (by omega) hok0.2
    refine then_exit ?_
    refine in_hit ?_
    refine then_normal ?_
    refine wp_seq ?_
    refine at_reg (T := S_impl_IsValidMatrix_tab) [] { ts := [2], os := [] } ⟨[(2, aB (decide (((List.length x0 : Nat) : Int) ≤ 40)))], []⟩ [] gamOK hT h (by kernel_rfl) trivial ?_
    intro a w h
    refine then_normal ?_
    refine wp_ret ?_
    exact at_return (S := S_impl_IsValidMatrix) (x := (x0, ())) (decide (((List.length x0 : Nat) : Int) ≤ 40), ()) [] h (by kernel_rfl) trivial (congrArg (fun z => (z, ())) (show (decide (((List.length x0 : Nat) : Int) ≤ 40)) = validM x0 from by first | rfl | (unfold validM; rw [if_pos hs6])))
theorem validM_t {m : List (List Int)} (h : validM m = true) : List.length m ≤ 40 ∧ (∀ r ∈ m, validV r = true ∧ List.length r = List.length (m.getD 0 [])) := by
  unfold validM at h
  split at h
  · rename_i ha
    have := of_decide_eq_true h
    refine ⟨by omega, fun r hr => ?_⟩
    have := List.all_eq_true.1 ha r hr
    rw [Bool.and_eq_true] at this
    exact ⟨this.1, of_decide_eq_true this.2⟩
  · cases h
theorem validM_ok {m : List (List Int)} (h : validM m = true) : ∀ r ∈ m, LA.VokB (List.length (m.getD 0 [])) r := fun r hr => ⟨((validM_t h).2 r hr).2, (validV_t ((validM_t h).2 r hr).1).2.1⟩
theorem validM_at {m : List (List Int)} (h : validM m = true) (j : Nat) (hj : j < m.length) : List.length (m.getD j []) = List.length (m.getD 0 []) := ((validM_t h).2 _ (getD_mem hj)).2

def S_spec_IsValidMatrix : Sum := { fid := 250, dom := [s97], cod := [(.bool 4)], dp := true, fz := false, pre := fun x => (fun (x0 : (List (List Int))) => Sh.fit s97 x0) x.1, g := fun x => ((validM x.1), ()) }
def S_spec_IsValidMatrix_tab : List (Nat × Sum) := [(221, S_spec_IsValidVector)]
theorem S_spec_IsValidMatrix_ok : FnOK Try.prog 250 S_spec_IsValidMatrix := by
  refine at_enter 31 (fun x => ⟨[(0, aF s22 x.1)], []⟩) Try.func250 rfl (by kernel_rfl) (fun x => rfl) ?_
  rintro w0 Z0 ⟨x0, u⟩ a w
  revert x0
  intro (x0 : (List (List Int))) hpre hlens h
  replace h : At w0 Z0 [] 31 ⟨[(0, aF s22 x0)], []⟩ a w := h
  replace hpre : (fun (x0 : (List (List Int))) => Sh.fit s97 x0) x0 := hpre
  have hl1 : List.length x0 ≤ 9223372036854775807 := hlens.1.1
  have hT : TabOK Try.prog S_spec_IsValidMatrix_tab := (.cons S_spec_IsValidVector_ok .nil)
  have hf0 : Sh.fit s97 x0 := hpre
  have hn0_1 : List.length x0 ≤ 1073741824 := hf0.1
  refine wp_seq ?_
  refine at_regq (T := S_spec_IsValidMatrix_tab) [] { ts := [0, 2], os := [] } [] gamOK hT h (by kernel_rfl) trivial ?_
  intro a w h
  refine then_normal ?_
  refine wp_seq ?_
  refine wp_seq ?_
  refine at_regq (T := S_spec_IsValidMatrix_tab) [] { ts := [0, 2, 3], os := [] } [] gamOK hT h (by kernel_rfl) trivial ?_
  intro a w h
  refine then_normal ?_
  refine wp_block ?_
  replace h := at_out (σ' := ⟨[(0, aF s22 x0), (2, aB false), (3, aI 0)], []⟩) { ts := [0, 2, 3], os := [] } h (by kernel_rfl)
  refine at_loop (fun i : Nat => (⟨[(0, aF s22 x0), (2, aB false), (3, aI ((i : Nat) : Int))], []⟩ : St)) (fun i => (i ≤ List.length x0 ∧ allTo1 (fun r => validV r && decide (List.length r = List.length (x0.getD 0 []))) x0 [] i)) (fun i => List.length x0 - i) (0) h (st_congr1 (fun (d0 : Int) => (⟨[(0, aF s22 x0), (2, aB false), (3, aI d0)], []⟩ : St)) (show (0 : Int) = (((0) : Nat) : Int) from by first | with_reducible rfl | (rfl) | rfl)) (by exact ⟨Nat.zero_le _, allTo1_zero⟩) ?_
  intro i a w hok0 h
  refine wp_seq ?_
  refine wp_seq ?_
  refine at_regq (T := S_spec_IsValidMatrix_tab) [] { ts := [0, 2, 3, 7], os := [] } [] gamOK hT h (by kernel_rfl) trivial ?_
  intro a w h
  refine then_normal ?_
  refine at_test (decide (((i : Nat) : Int) < ((List.length x0 : Nat) : Int))) h (by kernel_rfl) (fun h1 => ?_) (fun h1 => ?_)
  · replace h1 : ((i : Nat) : Int) < ((List.length x0 : Nat) : Int) := of_decide_eq_true h1
    refine wp_skip ?_
    refine then_normal ?_
    refine wp_seq ?_
    refine wp_block ?_
    refine wp_seq ?_
    rcases Bool.eq_false_or_eq_true (!(validV (x0.getD i []))) with h2 | h2
    · skip
      have hzh2 : (validV (x0.getD i [])) = false := notT h2
      refine at_any (T := S_spec_IsValidMatrix_tab) [{}, {}, {}, {}, {}, { hint := some (aB true) }, {}, {}, {}, {}, {}, {}, {}, {}, {}, {}, {}, {}] { ts := [0, 2, 3, 17, 18, 19, 20, 21, 22, 23, 24, 25, 26, 27], os := [] } ⟨[(0, aF s22 x0), (2, aB false), (3, aI ((i : Nat) : Int)), (17, .p (.c (.v undef))), (18, .p (.c (.v undef))), (19, .p (.c (.v undef))), (20, .p (.c (.v undef))), (21, .p (.c (.v undef))), (22, .p (.c (.v undef))), (23, .p (.c (.v undef))), (24, .p (.c (.v undef))), (25, .p (.c (.v undef))), (26, .p (.c (.v undef))), (27, aB true)], []⟩ [(0 : Int) ≤ ((i : Nat) : Int) ∧ ((i : Nat) : Int) < ((List.length x0 : Nat) : Int), (fun (x0 : (List Int)) => Sh.fit s22 x0) (x0.getD i []), (AV.p (.c (.v (.bool (!(validV (x0.getD i [])))))) = AV.p (.c (.v (.bool true))))] gamOK hT mixed h (by kernel_rfl) ⟨(by refine ⟨?_, ?_⟩ <;> (first | omega | (simp only [List.length_append, List.length_cons, List.length_nil, List.length_set, List.length_take, List.length_drop, List.length_replicate, List.length_map, Nat.min_def]; omega) | (simp; done) | (simp; omega) | done)), (by exact (Sh.fit_getD hf0 i)), hint_bool (h2), trivial⟩ ?_
      intro a w h
      refine then_normal ?_
      refine at_test true h (by kernel_rfl) (fun hh => ?_) (fun hh => nomatch hh)
      refine wp_seq ?_
      refine at_regq (T := S_spec_IsValidMatrix_tab) [] { ts := [0, 2, 3, 17, 18, 19, 20, 21, 22, 23, 24, 25, 26], os := [] } [] gamOK hT h (by kernel_rfl) trivial ?_
      intro a w h
      refine then_normal ?_
      refine wp_ret ?_
      refine in_ret ?_
      refine then_ret ?_
      have hs3 : (List.all x0 (fun r => validV r && decide (List.length r = List.length (x0.getD 0 [])))) = false := by exact all_at (z := []) (i := i) (by omega) (by (show ((validV _) && _) = false; rw [Bool.and_eq_false_iff]; first | (left; assumption) | (right; exact decide_eq_false (by omega))))
      refine then_ret ?_
      refine in_ret ?_
      refine then_ret ?_
      exact at_return (S := S_spec_IsValidMatrix) (x := (x0, ())) (false, ()) [] h (by kernel_rfl) trivial (congrArg (fun z => (z, ())) (show (false) = validM x0 from by first | rfl | (unfold validM; rw [if_neg (neT hs3)]; done) | (unfold validM; simp_all)))
    · skip
      have hzh2 : (validV (x0.getD i [])) = true := notF h2
      have hvh2 := validV_t (notF h2)
      refine at_any (T := S_spec_IsValidMatrix_tab) [{}, {}, {}, {}, {}, { hint := some (aB false) }, {}, {}, {}, {}, {}, {}, {}, {}, {}, {}, {}, {}] { ts := [0, 2, 3, 17, 18, 19, 20, 21, 22, 23, 24, 25, 26, 27], os := [] } ⟨[(0, aF s22 x0), (2, aB false), (3, aI ((i : Nat) : Int)), (17, aF s22 x0), (18, aI ((i : Nat) : Int)), (19, aR s22 (x0.getD i []) 0), (20, aF (.int 3) (x0.getD i [])), (21, aI ((List.length (x0.getD i []) : Nat) : Int)), (22, aF s22 x0), (23, aR s22 (x0.getD 0 []) 0), (24, aF (.int 3) (x0.getD 0 [])), (25, aI ((List.length (x0.getD 0 []) : Nat) : Int)), (26, aB (!decide (((List.length (x0.getD i []) : Nat) : Int) = ((List.length (x0.getD 0 []) : Nat) : Int)))), (27, aB (!decide (((List.length (x0.getD i []) : Nat) : Int) = ((List.length (x0.getD 0 []) : Nat) : Int))))], []⟩ [(0 : Int) ≤ ((i : Nat) : Int) ∧ ((i : Nat) : Int) < ((List.length x0 : Nat) : Int), (fun (x0 : (List Int)) => Sh.fit s22 x0) (x0.getD i []), (AV.p (.c (.v (.bool (!(validV (x0.getD i [])))))) = AV.p (.c (.v (.bool false)))), (0 : Int) ≤ ((i : Nat) : Int) ∧ ((i : Nat) : Int) < ((List.length x0 : Nat) : Int), (0 : Int) ≤ 0 ∧ 0 < ((List.length x0 : Nat) : Int)] gamOK hT mixed h (by kernel_rfl) ⟨(by refine ⟨?_, ?_⟩ <;> (first | omega | (simp only [List.length_append, List.length_cons, List.length_nil, List.length_set, List.length_take, List.length_drop, List.length_replicate, List.length_map, Nat.min_def]; omega) | (simp; done) | (simp; omega) | done)), (by exact (Sh.fit_getD hf0 i)), hint_bool (h2), (by refine ⟨?_, ?_⟩ <;> (first | omega | (simp only [List.length_append, List.length_cons, List.length_nil, List.length_set, List.length_take, List.length_drop, List.length_replicate, List.length_map, Nat.min_def]; omega) | (simp; done) | (simp; omega) | done)), (by refine ⟨?_, ?_⟩ <;> (first | omega | (simp only [List.length_append, List.length_cons, List.length_nil, List.length_set, List.length_take, List.length_drop, List.length_replicate, List.length_map, Nat.min_def]; omega) | (simp; done) | (simp; omega) | done)), trivial⟩ ?_
      intro a w h
      refine then_normal ?_
      refine at_test (!decide (((List.length (x0.getD i []) : Nat) : Int) = ((List.length (x0.getD 0 []) : Nat) : Int))) h (by kernel_rfl) (fun h4 => ?_) (fun h4 => ?_)
      · replace h4 : ¬ (((List.length (x0.getD i []) : Nat) : Int) = ((List.length (x0.getD 0 []) : Nat) : Int)) := of_decide_eq_false (notT h4)
        refine wp_seq ?_
        refine at_regq (T := S_spec_IsValidMatrix_tab) [] { ts := [0, 2, 3, 17, 18, 19, 20, 21, 22, 23, 24, 25, 26], os := [] } [] gamOK hT h (by kernel_rfl) trivial ?_
        intro a w h
        refine then_normal ?_
        refine wp_ret ?_
        refine in_ret ?_
        refine then_ret ?_
        have hs5 : (List.all x0 (fun r => validV r && decide (List.length r = List.length (x0.getD 0 [])))) = false := by exact all_at (z := []) (i := i) (by omega) (by (show ((validV _) && _) = false; rw [Bool.and_eq_false_iff]; first | (left; assumption) | (right; exact decide_eq_false (by omega))))
        refine then_ret ?_
        refine in_ret ?_
        refine then_ret ?_
        exact at_return (S := S_spec_IsValidMatrix) (x := (x0, ())) (false, ()) [] h (by kernel_rfl) trivial (congrArg (fun z => (z, ())) (show (false) = validM x0 from by first | rfl | (unfold validM; rw [if_neg (neT hs5)]; done) | (unfold validM; simp_all)))
      · replace h4 : ((List.length (x0.getD i []) : Nat) : Int) = ((List.length (x0.getD 0 []) : Nat) : Int) := of_decide_eq_true (notF h4)
        refine wp_skip ?_
        refine in_normal ?_
        refine then_normal ?_
        refine at_regq (T := S_spec_IsValidMatrix_tab) [{}, { nw := true }] { ts := [0, 2, 3, 17, 18, 19, 20, 21, 22, 23, 24, 25, 26], os := [] } [I64 (((i : Nat) : Int) + 1)] gamOK hT h (by kernel_rfl) ⟨⟨by first | omega | (simp only [List.length_append, List.length_cons, List.length_nil, List.length_set, List.length_take, List.length_drop, List.length_replicate, List.length_map, Nat.min_def]; omega) | (simp; done) | (simp; omega) | done, by first | omega | (simp only [List.length_append, List.length_cons, List.length_nil, List.length_set, List.length_take, List.length_drop, List.length_replicate, List.length_map, Nat.min_def]; omega) | (simp; done) | (simp; omega) | done⟩, trivial⟩ ?_
        intro a w h
        replace h := at_out (σ' := ⟨[(0, aF s22 x0), (2, aB false), (3, aI (((i : Nat) : Int) + 1))], []⟩) { ts := [0, 2, 3], os := [] } h (by kernel_rfl)
        exact ⟨i + 1, at_eq h (st_congr1 (fun (d0 : Int) => (⟨[(0, aF s22 x0), (2, aB false), (3, aI d0)], []⟩ : St)) (show (((i : Nat) : Int) + 1 : Int) = (((i + 1) : Nat) : Int) from by first | with_reducible rfl | (omega) | rfl)), (by exact ⟨by omega, allTo1_succ hok0.2 (by (show ((validV _) && _) = true; rw [Bool.and_eq_true]; exact ⟨by assumption, decide_eq_true (by omega)⟩))⟩), (by omega)⟩
  · replace h1 : ¬ (((i : Nat) : Int) < ((List.length x0 : Nat) : Int)) := of_decide_eq_false h1
    refine wp_exit ?_
    refine then_exit ?_
    have hs6 : (List.all x0 (fun r => validV r && decide (List.length r = List.length (x0.getD 0 [])))) = true := by exact all_of (z := []) (i := i) (by omega) hok0.2
    refine then_exit ?_
    refine in_hit ?_
    refine then_normal ?_
    refine wp_seq ?_
    refine at_reg (T := S_spec_IsValidMatrix_tab) [] { ts := [2], os := [] } ⟨[(2, aB (decide (((List.length x0 : Nat) : Int) ≤ 40)))], []⟩ [] gamOK hT h (by kernel_rfl) trivial ?_
    intro a w h
    refine then_normal ?_
    refine wp_ret ?_
    exact at_return (S := S_spec_IsValidMatrix) (x := (x0, ())) (decide (((List.length x0 : Nat) : Int) ≤ 40), ()) [] h (by kernel_rfl) trivial (congrArg (fun z => (z, ())) (show (decide (((List.length x0 : Nat) : Int) ≤ 40)) = validM x0 from by first | rfl | (unfold validM; rw [if_pos hs6]; done) | (unfold validM; simp_all)))

def colsOf (x0 : (List (List Int))) : Int := (if ((List.length x0 : Nat) : Int) = 0 then 0 else ((List.length (x0.getD 0 []) : Nat) : Int))
def S_impl_ColumnsOf : Sum := { fid := 254, dom := [s97], cod := [(.int 3)], dp := true, fz := false, pre := fun x => (fun (x0 : (List (List Int))) => Sh.fit s97 x0) x.1, g := fun x => ((colsOf x.1), ()) }
def S_impl_ColumnsOf_tab : List (Nat × Sum) := []
theorem S_impl_ColumnsOf_ok : FnOK Try.prog 254 S_impl_ColumnsOf := by
  refine at_enter 10 (fun x => ⟨[(0, aF s22 x.1)], []⟩) Try.func254 rfl (by kernel_rfl) (fun x => rfl) ?_
  rintro w0 Z0 ⟨x0, u⟩ a w
  revert x0
  intro (x0 : (List (List Int))) hpre hlens h
  replace h : At w0 Z0 [] 10 ⟨[(0, aF s22 x0)], []⟩ a w := h
  replace hpre : (fun (x0 : (List (List Int))) => Sh.fit s97 x0) x0 := hpre
  have hl1 : List.length x0 ≤ 9223372036854775807 := hlens.1.1
  have hT : TabOK Try.prog S_impl_ColumnsOf_tab := .nil
  have hf0 : Sh.fit s97 x0 := hpre
  have hn0_1 : List.length x0 ≤ 1073741824 := hf0.1
  refine wp_seq ?_
  refine at_regq (T := S_impl_ColumnsOf_tab) [] { ts := [0, 2], os := [] } [] gamOK hT h (by kernel_rfl) trivial ?_
  intro a w h
  refine then_normal ?_
  refine wp_seq ?_
  refine wp_seq ?_
  refine at_regq (T := S_impl_ColumnsOf_tab) [] { ts := [0, 2, 5], os := [] } [] gamOK hT h (by kernel_rfl) trivial ?_
  intro a w h
  refine then_normal ?_
  refine at_test (decide (((List.length x0 : Nat) : Int) = 0)) h (by kernel_rfl) (fun h1 => ?_) (fun h1 => ?_)
  · replace h1 : ((List.length x0 : Nat) : Int) = 0 := of_decide_eq_true h1
    refine wp_seq ?_
    refine at_regq (T := S_impl_ColumnsOf_tab) [] { ts := [0, 2], os := [] } [] gamOK hT h (by kernel_rfl) trivial ?_
    intro a w h
    refine then_normal ?_
    refine wp_ret ?_
    refine then_ret ?_
    exact at_return (S := S_impl_ColumnsOf) (x := (x0, ())) (0, ()) [] h (by kernel_rfl) trivial (congrArg (fun z => (z, ())) (show (0) = colsOf x0 from by first | rfl | (unfold colsOf; rw [if_pos h1])))
  · replace h1 : ¬ (((List.length x0 : Nat) : Int) = 0) := of_decide_eq_false h1
    refine wp_skip ?_
    refine then_normal ?_
    refine wp_seq ?_
    refine at_regq (T := S_impl_ColumnsOf_tab) [] { ts := [2], os := [] } [(0 : Int) ≤ 0 ∧ 0 < ((List.length x0 : Nat) : Int)] gamOK hT h (by kernel_rfl) ⟨(by refine ⟨?_, ?_⟩ <;> (first | omega | (simp only [List.length_append, List.length_cons, List.length_nil, List.length_set, List.length_take, List.length_drop, List.length_replicate, List.length_map, Nat.min_def]; omega) | (simp; done) | (simp; omega) | done)), trivial⟩ ?_
    intro a w h
    refine then_normal ?_
    refine wp_ret ?_
    exact at_return (S := S_impl_ColumnsOf) (x := (x0, ())) (((List.length (x0.getD 0 []) : Nat) : Int), ()) [] h (by kernel_rfl) trivial (congrArg (fun z => (z, ())) (show (((List.length (x0.getD 0 []) : Nat) : Int)) = colsOf x0 from by first | rfl | (unfold colsOf; rw [if_neg h1])))

def S_spec_ColumnsOf : Sum := { fid := 173, dom := [s97], cod := [(.int 3)], dp := true, fz := false, pre := fun x => (fun (x0 : (List (List Int))) => Sh.fit s97 x0) x.1, g := fun x => ((colsOf x.1), ()) }
def S_spec_ColumnsOf_tab : List (Nat × Sum) := []
theorem S_spec_ColumnsOf_ok : FnOK Try.prog 173 S_spec_ColumnsOf := by
  refine at_enter 10 (fun x => ⟨[(0, aF s22 x.1)], []⟩) Try.func173 rfl (by kernel_rfl) (fun x => rfl) ?_
  rintro w0 Z0 ⟨x0, u⟩ a w
  revert x0
  intro (x0 : (List (List Int))) hpre hlens h
  replace h : At w0 Z0 [] 10 ⟨[(0, aF s22 x0)], []⟩ a w := h
  replace hpre : (fun (x0 : (List (List Int))) => Sh.fit s97 x0) x0 := hpre
  have hl1 : List.length x0 ≤ 9223372036854775807 := hlens.1.1
  have hT : TabOK Try.prog S_spec_ColumnsOf_tab := .nil
  have hf0 : Sh.fit s97 x0 := hpre
  have hn0_1 : List.length x0 ≤ 1073741824 := hf0.1
  refine wp_seq ?_
  refine at_regq (T := S_spec_ColumnsOf_tab) [] { ts := [0, 2], os := [] } [] gamOK hT h (by kernel_rfl) trivial ?_
  intro a w h
  refine then_normal ?_
  refine wp_seq ?_
  refine wp_seq ?_
  refine at_regq (T := S_spec_ColumnsOf_tab) [] { ts := [0, 2, 5], os := [] } [] gamOK hT h (by kernel_rfl) trivial ?_
  intro a w h
  refine then_normal ?_
  refine at_test (decide (((List.length x0 : Nat) : Int) = 0)) h (by kernel_rfl) (fun h1 => ?_) (fun h1 => ?_)
  · replace h1 : ((List.length x0 : Nat) : Int) = 0 := of_decide_eq_true h1
    refine wp_seq ?_
    refine at_regq (T := S_spec_ColumnsOf_tab) [] { ts := [0, 2], os := [] } [] gamOK hT h (by kernel_rfl) trivial ?_
    intro a w h
    refine then_normal ?_
    refine wp_ret ?_
    refine then_ret ?_
    exact at_return (S := S_spec_ColumnsOf) (x := (x0, ())) (0, ()) [] h (by kernel_rfl) trivial (congrArg (fun z => (z, ())) (show (0) = colsOf x0 from by first | rfl | (unfold colsOf; rw [if_pos h1]; done) | (unfold colsOf; simp_all)))
  · replace h1 : ¬ (((List.length x0 : Nat) : Int) = 0) := of_decide_eq_false h1
    refine wp_skip ?_
    refine then_normal ?_
    refine wp_seq ?_
    refine at_regq (T := S_spec_ColumnsOf_tab) [] { ts := [2], os := [] } [(0 : Int) ≤ 0 ∧ 0 < ((List.length x0 : Nat) : Int)] gamOK hT h (by kernel_rfl) ⟨(by refine ⟨?_, ?_⟩ <;> (first | omega | (simp only [List.length_append, List.length_cons, List.length_nil, List.length_set, List.length_take, List.length_drop, List.length_replicate, List.length_map, Nat.min_def]; omega) | (simp; done) | (simp; omega) | done)), trivial⟩ ?_
    intro a w h
    refine then_normal ?_
    refine wp_ret ?_
    exact at_return (S := S_spec_ColumnsOf) (x := (x0, ())) (((List.length (x0.getD 0 []) : Nat) : Int), ()) [] h (by kernel_rfl) trivial (congrArg (fun z => (z, ())) (show (((List.length (x0.getD 0 []) : Nat) : Int)) = colsOf x0 from by first | rfl | (unfold colsOf; rw [if_neg h1]; done) | (unfold colsOf; simp_all)))

abbrev GF := Fin 2039
def gc (x : Int) : GF := Fin.ofNat 2039 x.toNat
theorem gc_val (x : Int) : (gc x).val = x.toNat % 2039 := rfl
theorem gc_inj {x y : Int} (hx : 0 ≤ x ∧ x < 2039) (hy : 0 ≤ y ∧ y < 2039) (h : gc x = gc y) : x = y := by
  have := congrArg Fin.val h
  rw [gc_val, gc_val, Nat.mod_eq_of_lt (by omega), Nat.mod_eq_of_lt (by omega)] at this
  omega
theorem gc_mul {x y : Int} (hx : 0 ≤ x) (hy : 0 ≤ y) : gc (x * y) = gc x * gc y := by
  apply Fin.ext
  rw [Fin.val_mul, gc_val, gc_val, gc_val, Int.toNat_mul hx hy, ← Nat.mul_mod]
theorem gc_mod {x : Int} (hx : 0 ≤ x) : gc (x.tmod 2039) = gc x := by
  apply Fin.ext
  rw [gc_val, gc_val, Int.tmod_eq_emod_of_nonneg hx]
  omega
def gpw : Nat → GF → Nat → GF
  | 0, _, _ => 1
  | f + 1, x, n => bif n.beq 0 then 1 else (bif (n % 2).beq 1 then x else 1) * gpw f (x * x) (n / 2)
theorem gpmL_c : ∀ (f n : Nat) (out a : Int), n < 2 ^ f → 0 ≤ out → 0 ≤ a → gc (LA.pmL 2039 out a n) = gc out * gpw f (gc a) n
  | 0, n, out, a, h, h1, h3 => by
    have : n = 0 := by simpa using h
    rw [this, LA.pmL_zero]; simp only [gpw]; grind
  | f + 1, n, out, a, h, h1, h3 => by
    by_cases h0 : n = 0
    · rw [h0, LA.pmL_zero]; simp only [gpw]
      show gc out = gc out * 1
      grind
    · have hn : n / 2 < 2 ^ f := by rw [Nat.pow_succ] at h; omega
      have ha := (LA.tmod_lt (m := 2039) (Int.mul_nonneg h3 h3) (by decide)).1
      have e0 : n.beq 0 = false := by cases n with | zero => exact absurd rfl h0 | succ n => rfl
      by_cases ho : n % 2 = 1
      · rw [LA.pmL_odd ho, gpmL_c f _ _ _ hn (LA.tmod_lt (Int.mul_nonneg h1 h3) (by decide)).1 ha, gc_mod (Int.mul_nonneg h1 h3), gc_mod (Int.mul_nonneg h3 h3), gc_mul h1 h3, gc_mul h3 h3]
        simp only [gpw, e0, ho, cond_false]
        show _ = gc out * (gc a * _)
        grind
      · have ho' : n % 2 = 0 := by omega
        rw [LA.pmL_even h0 ho', gpmL_c f _ _ _ hn h1 ha, gc_mod (Int.mul_nonneg h3 h3), gc_mul h3 h3]
        simp only [gpw, e0, ho', cond_false]
        show _ = gc out * (1 * _)
        grind
theorem gpw_mul : ∀ (f n : Nat) (x y : GF), gpw f (x * y) n = gpw f x n * gpw f y n
  | 0, _, _, _ => by simp only [gpw]; decide
  | f + 1, n, x, y => by
    have ih := gpw_mul f (n / 2) (x * x) (y * y)
    simp only [gpw]
    rw [show x * y * (x * y) = (x * x) * (y * y) by grind, ih]
    cases n.beq 0 with
    | true => show (1 : GF) = 1 * 1; decide
    | false =>
      simp only [cond_false]
      cases (n % 2).beq 1 with
      | true => show x * y * _ = (x * _) * (y * _); grind
      | false => show 1 * _ = (1 * _) * (1 * _); grind
theorem gpw_one : ∀ (f n : Nat), gpw f 1 n = 1
  | 0, _ => rfl
  | f + 1, n => by
    have ih := gpw_one f (n / 2)
    simp only [gpw]
    rw [show (1 : GF) * 1 = 1 by decide, ih]
    cases n.beq 0 with
    | true => rfl
    | false => cases (n % 2).beq 1 <;> decide
theorem gpw_pw (f n : Nat) : ∀ (g k : Nat) (x : GF), gpw f (gpw g x k) n = gpw g (gpw f x n) k
  | 0, _, _ => gpw_one f n
  | g + 1, k, x => by
    have ih := gpw_pw f n g (k / 2) (x * x)
    rw [gpw_mul f n x x] at ih
    rw [gpw.eq_2, gpw.eq_2]
    cases k.beq 0 with
    | true => exact gpw_one f n
    | false =>
      simp only [cond_false]
      rw [gpw_mul, ih]
      cases (k % 2).beq 1 with
      | true => rfl
      | false => show gpw f 1 n * _ = 1 * _; rw [gpw_one]
def isGrp (x : Int) : Bool := inR x 1 2038 && decide (powD x 1019 2039 = 1)
theorem pow_bd {a n : Int} (ha : 0 ≤ a ∧ a < 2039) (hn : 0 ≤ n ∧ n ≤ 1019) : 0 ≤ powD a n 2039 ∧ powD a n 2039 < 2039 := powD_bd ⟨ha, ⟨hn.1, by omega⟩, by decide, by decide⟩
theorem pow_gc {a n : Int} (ha : 0 ≤ a ∧ a < 2039) (hn : 0 ≤ n ∧ n ≤ 1019) : gc (powD a n 2039) = gpw 10 (gc a) n.toNat := by
  unfold powD
  rw [gpmL_c 10 _ _ _ (by omega) (by decide) ha.1]
  show (1 : GF) * _ = _
  grind
theorem gpw_zero : gpw 10 0 1019 = 0 := by decide +kernel
theorem isGrp_iff {x : Int} : isGrp x = true ↔ (0 ≤ x ∧ x < 2039) ∧ gpw 10 (gc x) 1019 = 1 := by
  unfold isGrp
  rw [Bool.and_eq_true, decide_eq_true_iff]
  constructor
  · rintro ⟨h1, h2⟩
    have h1 := inR_t h1
    have h3 := pow_gc (a := x) (n := 1019) (by omega) (by decide)
    rw [h2] at h3
    exact ⟨by omega, h3.symm⟩
  · rintro ⟨h1, h2⟩
    have h3 := pow_gc (a := x) (n := 1019) h1 (by decide)
    have h4 := pow_bd (a := x) (n := 1019) h1 (by decide)
    have h5 : x ≠ 0 := fun e => by rw [e] at h2; have := gpw_zero; rw [show gc 0 = 0 from rfl, this] at h2; exact absurd h2 (by decide)
    refine ⟨inR_true (by omega), gc_inj h4 (by decide) ?_⟩
    rw [h3]; exact h2
theorem isGrp_t {x : Int} (h : isGrp x = true) : 1 ≤ x ∧ x ≤ 2038 := by
  unfold isGrp at h
  rw [Bool.and_eq_true] at h
  exact inR_t h.1
theorem isGrp_mul {a b : Int} (ha : isGrp a = true) (hb : isGrp b = true) : isGrp ((a * b).tmod 2039) = true := by
  rw [isGrp_iff] at *
  obtain ⟨⟨a1, a2⟩, a3⟩ := ha
  obtain ⟨⟨b1, b2⟩, b3⟩ := hb
  have h := Int.mul_nonneg a1 b1
  refine ⟨LA.tmod_lt h (by decide), ?_⟩
  rw [gc_mod h, gc_mul a1 b1, gpw_mul, a3, b3]; decide
theorem isGrp_pow {a n : Int} (ha : isGrp a = true) (hn : 0 ≤ n ∧ n ≤ 1019) : isGrp (powD a n 2039) = true := by
  rw [isGrp_iff] at *
  refine ⟨pow_bd ha.1 hn, ?_⟩
  rw [pow_gc ha.1 hn, gpw_pw, ha.2, gpw_one]
theorem isGrp_one : isGrp 1 = true := by decide +kernel
/-- product of powers -/
def hpw (es xs : List Int) : Nat → Int
  | 0 => 1
  | i + 1 => (hpw es xs i * powD (es.getD i 0) (xs.getD i 0) 2039).tmod 2039
def powsL (es xs : List Int) : Int := hpw es xs es.length
def powsP (es xs : List Int) : Prop := es.length ≤ xs.length ∧ (∀ j, 0 ≤ es.getD j 0 ∧ es.getD j 0 < 2039) ∧ ∀ j, 0 ≤ xs.getD j 0 ∧ xs.getD j 0 ≤ 1018
theorem hpw_bd {es xs : List Int} (h : powsP es xs) : ∀ i, 0 ≤ hpw es xs i ∧ hpw es xs i < 2039
  | 0 => by simp [hpw]
  | i + 1 => by
    have h1 := hpw_bd h i
    have h2 := pow_bd (h.2.1 i) (n := xs.getD i 0) (by have := h.2.2 i; omega)
    exact LA.tmod_lt (Int.mul_nonneg h1.1 h2.1) (by decide)
theorem grp_at {es : List Int} (h : ∀ g ∈ es, isGrp g = true) (j : Nat) : 0 ≤ es.getD j 0 ∧ es.getD j 0 < 2039 := by
  by_cases hj : j < es.length
  · have := isGrp_t (h _ (getD_mem (z := 0) hj)); omega
  · rw [List.getD_eq_getElem?_getD, List.getElem?_eq_none (by omega)]; decide
theorem hpw_grp {es xs : List Int} (h : ∀ g ∈ es, isGrp g = true) (hx : ∀ j, 0 ≤ xs.getD j 0 ∧ xs.getD j 0 ≤ 1018) : ∀ i, i ≤ es.length → isGrp (hpw es xs i) = true
  | 0, _ => isGrp_one
  | i + 1, hi => isGrp_mul (hpw_grp h hx i (by omega)) (isGrp_pow (h _ (getD_mem hi)) (by have := hx i; omega))
theorem hpw_take {es xs : List Int} {n : Nat} : ∀ i, i ≤ n → hpw (es.take n) xs i = hpw es xs i
  | 0, _ => rfl
  | i + 1, hi => by
    have ih := hpw_take (es := es) (xs := xs) (n := n) i (by omega)
    simp only [hpw, ih]
    rw [show (es.take n).getD i 0 = es.getD i 0 from by simp only [List.getD_eq_getElem?_getD, List.getElem?_take]; rw [if_pos (by omega)]]
theorem all1_mem {p : Int → Bool} {xs : List Int} {i : Nat} (h : allTo1 p xs 0 i) : ∀ g ∈ xs.take i, p g = true := fun g hg => by
  obtain ⟨j, hj, rfl⟩ := List.getElem_of_mem hg
  rw [List.length_take] at hj
  have := h j (by omega)
  rw [getD_of_lt (by omega)] at this
  rw [List.getElem_take]; exact this
theorem hpw_grpTo {es xs : List Int} {i : Nat} (h : allTo1 isGrp es 0 i) (hx : ∀ j, 0 ≤ xs.getD j 0 ∧ xs.getD j 0 ≤ 1018) (hi : i ≤ es.length) : isGrp (hpw es xs i) = true := by
  have := hpw_grp (es := es.take i) (xs := xs) (all1_mem h) hx i (by simp; omega)
  rwa [hpw_take i (Nat.le_refl _)] at this

def validG (x0 : T218) : Bool := (if (inR x0.1 0 1000000000000) = true then (if (inR ((List.length x0.2 : Nat) : Int) 1 8) = true then (if (validM x0.2) = true then (inR (colsOf x0.2) 1 16) else false) else false) else false)
def S_spec_IsValidGeneration : Sum := { fid := 172, dom := [s218], cod := [(.bool 4)], dp := true, fz := false, pre := fun x => (fun (x0 : T218) => Sh.fit s218 x0) x.1, g := fun x => ((validG x.1), ()) }
def S_spec_IsValidGeneration_tab : List (Nat × Sum) := [(103, S_spec_l1In), (250, S_spec_IsValidMatrix), (173, S_spec_ColumnsOf)]
theorem S_spec_IsValidGeneration_ok : FnOK Try.prog 172 S_spec_IsValidGeneration := by
  refine at_enter 23 (fun x => ⟨[(0, aG [cI x.1.1, .ro s22 x.1.2])], []⟩) Try.func172 rfl (by kernel_rfl) (fun x => rfl) ?_
  rintro w0 Z0 ⟨x0, u⟩ a w
  revert x0
  intro (x0 : T218) hpre hlens h
  replace h : At w0 Z0 [] 23 ⟨[(0, aG [cI x0.1, .ro s22 x0.2])], []⟩ a w := h
  replace hpre : (fun (x0 : T218) => Sh.fit s218 x0) x0 := hpre
  have hl1 : List.length x0.2 ≤ 9223372036854775807 := hlens.1.2.1
  have hT : TabOK Try.prog S_spec_IsValidGeneration_tab := (.cons S_spec_l1In_ok (.cons S_spec_IsValidMatrix_ok (.cons S_spec_ColumnsOf_ok .nil)))
  have hf0 : Sh.fit s218 x0 := hpre
  have hn0_1 : List.length x0.2 ≤ 1073741824 := hf0.2.1
  refine wp_seq ?_
  refine at_regq (T := S_spec_IsValidGeneration_tab) [{ ids := [1] }] { ts := [1, 2], os := [1] } [] gamOK hT h (by kernel_rfl) trivial ?_
  intro a w h
  refine then_normal ?_
  refine wp_seq ?_
  rcases Bool.eq_false_or_eq_true ((inR x0.1 0 1000000000000)) with h1 | h1
  · skip
    have hvh1 := inR_t h1
    rcases Bool.eq_false_or_eq_true ((inR ((List.length x0.2 : Nat) : Int) 1 8)) with h2 | h2
    · skip
      have hvh2 := inR_t h2
      rcases Bool.eq_false_or_eq_true ((validM x0.2)) with h3 | h3
      · skip
        have hvh3 := validM_t h3
        refine at_regq (T := S_spec_IsValidGeneration_tab) [{}, {}, { hint := some (aB true) }, {}, {}, {}, {}, { hint := some (aB true) }, {}, {}, {}, {}, { hint := some (aB true) }] { ts := [2], os := [] } [True, (AV.p (.c (.v (.bool ((inR x0.1 0 1000000000000))))) = AV.p (.c (.v (.bool true)))), True, (AV.p (.c (.v (.bool ((inR ((List.length x0.2 : Nat) : Int) 1 8))))) = AV.p (.c (.v (.bool true)))), (fun (x0 : (List (List Int))) => Sh.fit s97 x0) x0.2, (AV.p (.c (.v (.bool ((validM x0.2))))) = AV.p (.c (.v (.bool true)))), (fun (x0 : (List (List Int))) => Sh.fit s97 x0) x0.2, True] gamOK hT h (by kernel_rfl) ⟨trivial, hint_bool (h1), trivial, hint_bool (h2), (by exact hf0.2), hint_bool (h3), (by exact hf0.2), trivial, trivial⟩ ?_
        intro a w h
        refine then_normal ?_
        refine wp_ret ?_
        exact at_return (S := S_spec_IsValidGeneration) (x := (x0, ())) ((inR (colsOf x0.2) 1 16), ()) [] h (by kernel_rfl) trivial (congrArg (fun z => (z, ())) (show ((inR (colsOf x0.2) 1 16)) = validG x0 from by first | rfl | (unfold validG; rw [if_pos h1, if_pos h2, if_pos h3])))
      · skip
        refine at_regq (T := S_spec_IsValidGeneration_tab) [{}, {}, { hint := some (aB true) }, {}, {}, {}, {}, { hint := some (aB true) }, {}, {}, {}, {}, { hint := some (aB false) }] { ts := [2], os := [] } [True, (AV.p (.c (.v (.bool ((inR x0.1 0 1000000000000))))) = AV.p (.c (.v (.bool true)))), True, (AV.p (.c (.v (.bool ((inR ((List.length x0.2 : Nat) : Int) 1 8))))) = AV.p (.c (.v (.bool true)))), (fun (x0 : (List (List Int))) => Sh.fit s97 x0) x0.2, (AV.p (.c (.v (.bool ((validM x0.2))))) = AV.p (.c (.v (.bool false))))] gamOK hT h (by kernel_rfl) ⟨trivial, hint_bool (h1), trivial, hint_bool (h2), (by exact hf0.2), hint_bool (h3), trivial⟩ ?_
        intro a w h
        refine then_normal ?_
        refine wp_ret ?_
        exact at_return (S := S_spec_IsValidGeneration) (x := (x0, ())) (false, ()) [] h (by kernel_rfl) trivial (congrArg (fun z => (z, ())) (show (false) = validG x0 from by first | rfl | (unfold validG; rw [if_pos h1, if_pos h2, if_neg (neT h3)])))
    · skip
      have hvh2 := inR_f h2
      refine at_regq (T := S_spec_IsValidGeneration_tab) [{}, {}, { hint := some (aB true) }, {}, {}, {}, {}, { hint := some (aB false) }] { ts := [2], os := [] } [True, (AV.p (.c (.v (.bool ((inR x0.1 0 1000000000000))))) = AV.p (.c (.v (.bool true)))), True, (AV.p (.c (.v (.bool ((inR ((List.length x0.2 : Nat) : Int) 1 8))))) = AV.p (.c (.v (.bool false))))] gamOK hT h (by kernel_rfl) ⟨trivial, hint_bool (h1), trivial, hint_bool (h2), trivial⟩ ?_
      intro a w h
      refine then_normal ?_
      refine wp_ret ?_
      exact at_return (S := S_spec_IsValidGeneration) (x := (x0, ())) (false, ()) [] h (by kernel_rfl) trivial (congrArg (fun z => (z, ())) (show (false) = validG x0 from by first | rfl | (unfold validG; rw [if_pos h1, if_neg (neT h2)])))
  · skip
    have hvh1 := inR_f h1
    refine at_regq (T := S_spec_IsValidGeneration_tab) [{}, {}, { hint := some (aB false) }] { ts := [2], os := [] } [True, (AV.p (.c (.v (.bool ((inR x0.1 0 1000000000000))))) = AV.p (.c (.v (.bool false))))] gamOK hT h (by kernel_rfl) ⟨trivial, hint_bool (h1), trivial⟩ ?_
    intro a w h
    refine then_normal ?_
    refine wp_ret ?_
    exact at_return (S := S_spec_IsValidGeneration) (x := (x0, ())) (false, ()) [] h (by kernel_rfl) trivial (congrArg (fun z => (z, ())) (show (false) = validG x0 from by first | rfl | (unfold validG; rw [if_neg (neT h1)])))
theorem validG_t {g : T218} (h : validG g = true) : (0 ≤ g.1 ∧ g.1 ≤ 1000000000000) ∧ (1 ≤ List.length g.2 ∧ List.length g.2 ≤ 8) ∧ validM g.2 = true ∧ (1 ≤ colsOf g.2 ∧ colsOf g.2 ≤ 16) := by
  unfold validG at h
  split at h
  · split at h
    · split at h
      · rename_i h1 h2 h3
        have a1 := inR_t h1; have a2 := inR_t h2; have a3 := inR_t h
        exact ⟨a1, by omega, h3, a3⟩
      · cases h
    · cases h
  · cases h
theorem colsOf_at {m : List (List Int)} (h : 1 ≤ List.length m) : colsOf m = ((List.length (m.getD 0 []) : Nat) : Int) := by unfold colsOf; rw [if_neg (by omega)]

def S_impl_IsGroupElement : Sum := { fid := 269, dom := [(.int 3)], cod := [(.bool 4)], dp := true, fz := false, pre := fun x => True, g := fun x => ((isGrp x.1), ()) }
def S_impl_IsGroupElement_tab : List (Nat × Sum) := [(107, S_impl_InRange), (312, S_impl_powMod)]
theorem S_impl_IsGroupElement_ok : FnOK Try.prog 269 S_impl_IsGroupElement := by
  refine at_enter 10 (fun x => ⟨[(0, aI x.1)], []⟩) Try.func269 rfl (by kernel_rfl) (fun x => rfl) ?_
  rintro w0 Z0 ⟨x0, u⟩ a w
  revert x0
  intro (x0 : Int) hpre hlens h
  replace h : At w0 Z0 [] 10 ⟨[(0, aI x0)], []⟩ a w := h
  have hT : TabOK Try.prog S_impl_IsGroupElement_tab := (.cons S_impl_InRange_ok (.cons S_impl_powMod_ok .nil))
  refine wp_seq ?_
  refine at_regq (T := S_impl_IsGroupElement_tab) [] { ts := [0, 2], os := [] } [] gamOK hT h (by kernel_rfl) trivial ?_
  intro a w h
  refine then_normal ?_
  refine wp_seq ?_
  rcases Bool.eq_false_or_eq_true ((inR x0 1 2038)) with h1 | h1
  · skip
    have hvh1 := inR_t h1
    refine at_regq (T := S_impl_IsGroupElement_tab) [{}, { hint := some (aB true) }] { ts := [2], os := [] } [True, (AV.p (.c (.v (.bool ((inR x0 1 2038))))) = AV.p (.c (.v (.bool true)))), powP x0 1019 2039] gamOK hT h (by kernel_rfl) ⟨trivial, hint_bool (h1), (by (show _ ∧ _; refine ⟨⟨?_, ?_⟩, ⟨?_, ?_⟩, ?_, ?_⟩ <;> omega)), trivial⟩ ?_
    intro a w h
    refine then_normal ?_
    refine wp_ret ?_
    exact at_return (S := S_impl_IsGroupElement) (x := (x0, ())) (decide ((powD x0 1019 2039) = 1), ()) [] h (by kernel_rfl) trivial (congrArg (fun z => (z, ())) (show (decide ((powD x0 1019 2039) = 1)) = isGrp x0 from by (unfold isGrp; simp_all)))
  · skip
    have hvh1 := inR_f h1
    refine at_regq (T := S_impl_IsGroupElement_tab) [{}, { hint := some (aB false) }] { ts := [2], os := [] } [True, (AV.p (.c (.v (.bool ((inR x0 1 2038))))) = AV.p (.c (.v (.bool false))))] gamOK hT h (by kernel_rfl) ⟨trivial, hint_bool (h1), trivial⟩ ?_
    intro a w h
    refine then_normal ?_
    refine wp_ret ?_
    exact at_return (S := S_impl_IsGroupElement) (x := (x0, ())) (false, ()) [] h (by kernel_rfl) trivial (congrArg (fun z => (z, ())) (show (false) = isGrp x0 from by (unfold isGrp; simp_all)))

def S_spec_IsGroupElement : Sum := { fid := 263, dom := [(.int 3)], cod := [(.bool 4)], dp := true, fz := false, pre := fun x => True, g := fun x => ((isGrp x.1), ()) }
def S_spec_IsGroupElement_tab : List (Nat × Sum) := [(103, S_spec_l1In), (308, S_spec_l4Pow)]
theorem S_spec_IsGroupElement_ok : FnOK Try.prog 263 S_spec_IsGroupElement := by
  refine at_enter 10 (fun x => ⟨[(0, aI x.1)], []⟩) Try.func263 rfl (by kernel_rfl) (fun x => rfl) ?_
  rintro w0 Z0 ⟨x0, u⟩ a w
  revert x0
  intro (x0 : Int) hpre hlens h
  replace h : At w0 Z0 [] 10 ⟨[(0, aI x0)], []⟩ a w := h
  have hT : TabOK Try.prog S_spec_IsGroupElement_tab := (.cons S_spec_l1In_ok (.cons S_spec_l4Pow_ok .nil))
  refine wp_seq ?_
  refine at_regq (T := S_spec_IsGroupElement_tab) [] { ts := [0, 2], os := [] } [] gamOK hT h (by kernel_rfl) trivial ?_
  intro a w h
  refine then_normal ?_
  refine wp_seq ?_
  rcases Bool.eq_false_or_eq_true ((inR x0 1 2038)) with h1 | h1
  · skip
    have hvh1 := inR_t h1
    refine at_regq (T := S_spec_IsGroupElement_tab) [{}, { hint := some (aB true) }] { ts := [2], os := [] } [True, (AV.p (.c (.v (.bool ((inR x0 1 2038))))) = AV.p (.c (.v (.bool true)))), powP x0 1019 2039] gamOK hT h (by kernel_rfl) ⟨trivial, hint_bool (h1), (by (show _ ∧ _; refine ⟨⟨?_, ?_⟩, ⟨?_, ?_⟩, ?_, ?_⟩ <;> omega)), trivial⟩ ?_
    intro a w h
    refine then_normal ?_
    refine wp_ret ?_
    exact at_return (S := S_spec_IsGroupElement) (x := (x0, ())) (decide ((powD x0 1019 2039) = 1), ()) [] h (by kernel_rfl) trivial (congrArg (fun z => (z, ())) (show (decide ((powD x0 1019 2039) = 1)) = isGrp x0 from by (unfold isGrp; simp_all)))
  · skip
    have hvh1 := inR_f h1
    refine at_regq (T := S_spec_IsGroupElement_tab) [{}, { hint := some (aB false) }] { ts := [2], os := [] } [True, (AV.p (.c (.v (.bool ((inR x0 1 2038))))) = AV.p (.c (.v (.bool false))))] gamOK hT h (by kernel_rfl) ⟨trivial, hint_bool (h1), trivial⟩ ?_
    intro a w h
    refine then_normal ?_
    refine wp_ret ?_
    exact at_return (S := S_spec_IsGroupElement) (x := (x0, ())) (false, ()) [] h (by kernel_rfl) trivial (congrArg (fun z => (z, ())) (show (false) = isGrp x0 from by (unfold isGrp; simp_all)))

def powG (x0 : Int) (x1 : Int) : Int := (if (isGrp x0) = true then (if (isEl x1) = true then (powD x0 x1 2039) else 0) else 0)
def S_spec_PowGroup : Sum := { fid := 328, dom := [(.int 3), (.int 3)], cod := [(.int 3)], dp := true, fz := false, pre := fun x => True, g := fun x => ((powG x.1 x.2.1), ()) }
def S_spec_PowGroup_tab : List (Nat × Sum) := [(263, S_spec_IsGroupElement), (288, S_spec_IsElement), (308, S_spec_l4Pow)]
theorem S_spec_PowGroup_ok : FnOK Try.prog 328 S_spec_PowGroup := by
  refine at_enter 16 (fun x => ⟨[(0, aI x.1), (1, aI x.2.1)], []⟩) Try.func328 rfl (by kernel_rfl) (fun x => rfl) ?_
  rintro w0 Z0 ⟨x0, x1, u⟩ a w
  revert x0 x1
  intro (x0 : Int) (x1 : Int) hpre hlens h
  replace h : At w0 Z0 [] 16 ⟨[(0, aI x0), (1, aI x1)], []⟩ a w := h
  have hT : TabOK Try.prog S_spec_PowGroup_tab := (.cons S_spec_IsGroupElement_ok (.cons S_spec_IsElement_ok (.cons S_spec_l4Pow_ok .nil)))
  refine wp_seq ?_
  refine at_regq (T := S_spec_PowGroup_tab) [] { ts := [0, 1, 4], os := [] } [] gamOK hT h (by kernel_rfl) trivial ?_
  intro a w h
  refine then_normal ?_
  refine wp_seq ?_
  refine wp_seq ?_
  rcases Bool.eq_false_or_eq_true (!(isGrp x0)) with h1 | h1
  · skip
    have hzh1 : (isGrp x0) = false := notT h1
    refine at_regq (T := S_spec_PowGroup_tab) [{}, {}, { hint := some (aB true) }] { ts := [0, 1, 4, 12], os := [] } [True, (AV.p (.c (.v (.bool (!(isGrp x0))))) = AV.p (.c (.v (.bool true))))] gamOK hT h (by kernel_rfl) ⟨trivial, hint_bool (h1), trivial⟩ ?_
    intro a w h
    refine then_normal ?_
    refine at_test true h (by kernel_rfl) (fun hh => ?_) (fun hh => nomatch hh)
    refine wp_seq ?_
    refine at_regq (T := S_spec_PowGroup_tab) [] { ts := [0, 1, 4], os := [] } [] gamOK hT h (by kernel_rfl) trivial ?_
    intro a w h
    refine then_normal ?_
    refine wp_ret ?_
    refine then_ret ?_
    exact at_return (S := S_spec_PowGroup) (x := (x0, x1, ())) (0, ()) [] h (by kernel_rfl) trivial (congrArg (fun z => (z, ())) (show (0) = powG x0 x1 from by first | rfl | (unfold powG; rw [if_neg (neT (notT h1))])))
  · skip
    have hzh1 : (isGrp x0) = true := notF h1
    have hvh1 := isGrp_t (notF h1)
    refine at_regq (T := S_spec_PowGroup_tab) [{}, {}, { hint := some (aB false) }] { ts := [0, 1, 4, 12], os := [] } [True, (AV.p (.c (.v (.bool (!(isGrp x0))))) = AV.p (.c (.v (.bool false)))), True] gamOK hT h (by kernel_rfl) ⟨trivial, hint_bool (h1), trivial, trivial⟩ ?_
    intro a w h
    refine then_normal ?_
    refine at_test (!(isEl x1)) h (by kernel_rfl) (fun h2 => ?_) (fun h2 => ?_)
    · replace h2 : (isEl x1) = false := notT h2
      refine wp_seq ?_
      refine at_regq (T := S_spec_PowGroup_tab) [] { ts := [0, 1, 4], os := [] } [] gamOK hT h (by kernel_rfl) trivial ?_
      intro a w h
      refine then_normal ?_
      refine wp_ret ?_
      refine then_ret ?_
      exact at_return (S := S_spec_PowGroup) (x := (x0, x1, ())) (0, ()) [] h (by kernel_rfl) trivial (congrArg (fun z => (z, ())) (show (0) = powG x0 x1 from by first | rfl | (unfold powG; rw [if_pos (notF h1), if_neg (neT h2)])))
    · replace h2 : (isEl x1) = true := notF h2
      have hvh2 := isEl_t h2
      refine wp_skip ?_
      refine then_normal ?_
      refine wp_seq ?_
      refine at_regq (T := S_spec_PowGroup_tab) [] { ts := [4], os := [] } [powP x0 x1 2039] gamOK hT h (by kernel_rfl) ⟨(by (show _ ∧ _; refine ⟨⟨?_, ?_⟩, ⟨?_, ?_⟩, ?_, ?_⟩ <;> omega)), trivial⟩ ?_
      intro a w h
      refine then_normal ?_
      refine wp_ret ?_
      exact at_return (S := S_spec_PowGroup) (x := (x0, x1, ())) ((powD x0 x1 2039), ()) [] h (by kernel_rfl) trivial (congrArg (fun z => (z, ())) (show ((powD x0 x1 2039)) = powG x0 x1 from by first | rfl | (unfold powG; rw [if_pos (notF h1), if_pos h2])))

def mulG (x0 : Int) (x1 : Int) : Int := (if (isGrp x0) = true then (if (isGrp x1) = true then (Int.tmod (x0 * x1) 2039) else 0) else 0)
def S_spec_MulGroup : Sum := { fid := 327, dom := [(.int 3), (.int 3)], cod := [(.int 3)], dp := true, fz := false, pre := fun x => True, g := fun x => ((mulG x.1 x.2.1), ()) }
def S_spec_MulGroup_tab : List (Nat × Sum) := [(263, S_spec_IsGroupElement)]
theorem S_spec_MulGroup_ok : FnOK Try.prog 327 S_spec_MulGroup := by
  refine at_enter 17 (fun x => ⟨[(0, aI x.1), (1, aI x.2.1)], []⟩) Try.func327 rfl (by kernel_rfl) (fun x => rfl) ?_
  rintro w0 Z0 ⟨x0, x1, u⟩ a w
  revert x0 x1
  intro (x0 : Int) (x1 : Int) hpre hlens h
  replace h : At w0 Z0 [] 17 ⟨[(0, aI x0), (1, aI x1)], []⟩ a w := h
  have hT : TabOK Try.prog S_spec_MulGroup_tab := (.cons S_spec_IsGroupElement_ok .nil)
  refine wp_seq ?_
  refine at_regq (T := S_spec_MulGroup_tab) [] { ts := [0, 1, 4], os := [] } [] gamOK hT h (by kernel_rfl) trivial ?_
  intro a w h
  refine then_normal ?_
  refine wp_seq ?_
  refine wp_seq ?_
  rcases Bool.eq_false_or_eq_true (!(isGrp x0)) with h1 | h1
  · skip
    have hzh1 : (isGrp x0) = false := notT h1
    refine at_regq (T := S_spec_MulGroup_tab) [{}, {}, { hint := some (aB true) }] { ts := [0, 1, 4, 12], os := [] } [True, (AV.p (.c (.v (.bool (!(isGrp x0))))) = AV.p (.c (.v (.bool true))))] gamOK hT h (by kernel_rfl) ⟨trivial, hint_bool (h1), trivial⟩ ?_
    intro a w h
    refine then_normal ?_
    refine at_test true h (by kernel_rfl) (fun hh => ?_) (fun hh => nomatch hh)
    refine wp_seq ?_
    refine at_regq (T := S_spec_MulGroup_tab) [] { ts := [0, 1, 4], os := [] } [] gamOK hT h (by kernel_rfl) trivial ?_
    intro a w h
    refine then_normal ?_
    refine wp_ret ?_
    refine then_ret ?_
    exact at_return (S := S_spec_MulGroup) (x := (x0, x1, ())) (0, ()) [] h (by kernel_rfl) trivial (congrArg (fun z => (z, ())) (show (0) = mulG x0 x1 from by first | rfl | (unfold mulG; rw [if_neg (neT (notT h1))])))
  · skip
    have hzh1 : (isGrp x0) = true := notF h1
    have hvh1 := isGrp_t (notF h1)
    refine at_regq (T := S_spec_MulGroup_tab) [{}, {}, { hint := some (aB false) }] { ts := [0, 1, 4, 12], os := [] } [True, (AV.p (.c (.v (.bool (!(isGrp x0))))) = AV.p (.c (.v (.bool false)))), True] gamOK hT h (by kernel_rfl) ⟨trivial, hint_bool (h1), trivial, trivial⟩ ?_
    intro a w h
    refine then_normal ?_
    refine at_test (!(isGrp x1)) h (by kernel_rfl) (fun h2 => ?_) (fun h2 => ?_)
    · replace h2 : (isGrp x1) = false := notT h2
      refine wp_seq ?_
      refine at_regq (T := S_spec_MulGroup_tab) [] { ts := [0, 1, 4], os := [] } [] gamOK hT h (by kernel_rfl) trivial ?_
      intro a w h
      refine then_normal ?_
      refine wp_ret ?_
      refine then_ret ?_
      exact at_return (S := S_spec_MulGroup) (x := (x0, x1, ())) (0, ()) [] h (by kernel_rfl) trivial (congrArg (fun z => (z, ())) (show (0) = mulG x0 x1 from by first | rfl | (unfold mulG; rw [if_pos (notF h1), if_neg (neT h2)])))
    · replace h2 : (isGrp x1) = true := notF h2
      have hvh2 := isGrp_t h2
      refine wp_skip ?_
      refine then_normal ?_
      refine wp_seq ?_
      refine at_regq (T := S_spec_MulGroup_tab) [{}, {}, { nw := true }] { ts := [4], os := [] } [I64 (x0 * x1), (2039 : Int) ≠ 0] gamOK hT h (by kernel_rfl) ⟨⟨by (have hA0 := mul_f x0 x1; first | omega | (simp only [List.length_append, List.length_cons, List.length_nil, List.length_set, List.length_take, List.length_drop, List.length_replicate, List.length_map, Nat.min_def]; omega) | (simp; done) | (simp; omega) | done), by (have hA0 := mul_f x0 x1; first | omega | (simp only [List.length_append, List.length_cons, List.length_nil, List.length_set, List.length_take, List.length_drop, List.length_replicate, List.length_map, Nat.min_def]; omega) | (simp; done) | (simp; omega) | done)⟩, (by first | omega | (simp only [List.length_append, List.length_cons, List.length_nil, List.length_set, List.length_take, List.length_drop, List.length_replicate, List.length_map, Nat.min_def]; omega) | (simp; done) | (simp; omega) | done), trivial⟩ ?_
      intro a w h
      refine then_normal ?_
      refine wp_ret ?_
      exact at_return (S := S_spec_MulGroup) (x := (x0, x1, ())) ((Int.tmod (x0 * x1) 2039), ()) [] h (by kernel_rfl) trivial (congrArg (fun z => (z, ())) (show ((Int.tmod (x0 * x1) 2039)) = mulG x0 x1 from by first | rfl | (unfold mulG; rw [if_pos (notF h1), if_pos h2])))

theorem powG_at {g n : Int} (hg : isGrp g = true) (hn : 0 ≤ n ∧ n ≤ 1018) : powG g n = powD g n 2039 := by unfold powG; rw [if_pos hg, if_pos (show isEl n = true from inR_true hn)]
theorem mulG_at {a b : Int} (ha : isGrp a = true) (hb : isGrp b = true) : mulG a b = (a * b).tmod 2039 := by unfold mulG; rw [if_pos ha, if_pos hb]
theorem hpw_step {es xs : List Int} {i : Nat} (h : isGrp (hpw es xs i) = true) (he : isGrp (es.getD i 0) = true) (hx : 0 ≤ xs.getD i 0 ∧ xs.getD i 0 ≤ 1018) : mulG (hpw es xs i) (powG (es.getD i 0) (xs.getD i 0)) = hpw es xs (i + 1) := by
  rw [powG_at he hx, mulG_at h (isGrp_pow he (by omega))]; rfl


def S_impl_powers : Sum := { fid := 329, dom := [s22, s22], cod := [(.int 3)], dp := true, fz := false, pre := fun x => (fun (x0 : (List Int)) (x1 : (List Int)) => Sh.fit s22 x0 ∧ Sh.fit s22 x1 ∧ powsP x0 x1) x.1 x.2.1, g := fun x => ((powsL x.1 x.2.1), ()) }
def S_impl_powers_tab : List (Nat × Sum) := [(312, S_impl_powMod)]
theorem S_impl_powers_ok : FnOK Try.prog 329 S_impl_powers := by
  refine at_enter 26 (fun x => ⟨[(0, aF (.int 3) x.1), (1, aF (.int 3) x.2.1)], []⟩) Try.func329 rfl (by kernel_rfl) (fun x => rfl) ?_
  rintro w0 Z0 ⟨x0, x1, u⟩ a w
  revert x0 x1
  intro (x0 : (List Int)) (x1 : (List Int)) hpre hlens h
  replace h : At w0 Z0 [] 26 ⟨[(0, aF (.int 3) x0), (1, aF (.int 3) x1)], []⟩ a w := h
  replace hpre : (fun (x0 : (List Int)) (x1 : (List Int)) => Sh.fit s22 x0 ∧ Sh.fit s22 x1 ∧ powsP x0 x1) x0 x1 := hpre
  have hl1 : List.length x0 ≤ 9223372036854775807 := hlens.1.1
  have hl2 : List.length x1 ≤ 9223372036854775807 := hlens.2.1.1
  have hT : TabOK Try.prog S_impl_powers_tab := (.cons S_impl_powMod_ok .nil)
  obtain ⟨hf0, hf1, hpx⟩ := hpre
  have hn0_1 : List.length x0 ≤ 1073741824 := hf0.1
  have hn1_2 : List.length x1 ≤ 1073741824 := hf1.1
  have hlp := hpx.1
  refine wp_seq ?_
  refine at_regq (T := S_impl_powers_tab) [] { ts := [0, 1, 4], os := [] } [] gamOK hT h (by kernel_rfl) trivial ?_
  intro a w h
  refine then_normal ?_
  refine wp_seq ?_
  refine at_regq (T := S_impl_powers_tab) [] { ts := [0, 1, 4, 5], os := [] } [] gamOK hT h (by kernel_rfl) trivial ?_
  intro a w h
  refine then_normal ?_
  refine wp_seq ?_
  refine wp_seq ?_
  refine at_regq (T := S_impl_powers_tab) [] { ts := [1, 4, 5, 8, 9, 10], os := [] } [] gamOK hT h (by kernel_rfl) trivial ?_
  intro a w h
  refine then_normal ?_
  refine wp_block ?_
  replace h := at_out (σ' := ⟨[(1, aF (.int 3) x1), (4, aI 0), (5, aI 1), (8, aF (.int 3) x0), (9, aI ((List.length x0 : Nat) : Int)), (10, aI 0)], []⟩) { ts := [1, 4, 5, 8, 9, 10], os := [] } h (by kernel_rfl)
  refine at_loop (fun i : Nat => (⟨[(1, aF (.int 3) x1), (4, aI 0), (5, aI (hpw x0 x1 i)), (8, aF (.int 3) x0), (9, aI ((List.length x0 : Nat) : Int)), (10, aI ((i : Nat) : Int))], []⟩ : St)) (fun i => i ≤ List.length x0) (fun i => List.length x0 - i) (0) h (st_congr2 (fun (d0 : Int) (d1 : Int) => (⟨[(1, aF (.int 3) x1), (4, aI 0), (5, aI d0), (8, aF (.int 3) x0), (9, aI ((List.length x0 : Nat) : Int)), (10, aI d1)], []⟩ : St)) (show (1 : Int) = (hpw x0 x1 (0)) from by first | with_reducible rfl | (rfl) | rfl) (show (0 : Int) = (((0) : Nat) : Int) from by first | with_reducible rfl | (rfl) | rfl)) (by omega) ?_
  intro i a w hok0 h
  have hbd := hpw_bd hpx i
  refine wp_seq ?_
  refine at_reg (T := S_impl_powers_tab) [] { ts := [1, 4, 5, 8, 9, 10, 11], os := [] } ⟨[(1, aF (.int 3) x1), (4, aI 0), (5, aI (hpw x0 x1 i)), (8, aF (.int 3) x0), (9, aI ((List.length x0 : Nat) : Int)), (10, aI ((i : Nat) : Int)), (11, aB (decide (((i : Nat) : Int) < ((List.length x0 : Nat) : Int))))], []⟩ [] gamOK hT h (by kernel_rfl) trivial ?_
  intro a w h
  refine then_normal ?_
  refine wp_seq ?_
  refine at_test (decide (((i : Nat) : Int) < ((List.length x0 : Nat) : Int))) h (by kernel_rfl) (fun h1 => ?_) (fun h1 => ?_)
  · replace h1 : ((i : Nat) : Int) < ((List.length x0 : Nat) : Int) := of_decide_eq_true h1
    have hex := hpx.2.1 i
    have hxx := hpx.2.2 i
    have hpb := pow_bd hex (n := x1.getD i 0) (by omega)
    have hmb := mul_f (hpw x0 x1 i) (powD (x0.getD i 0) (x1.getD i 0) 2039)
    refine wp_skip ?_
    refine then_normal ?_
    refine wp_seq ?_
    refine wp_block ?_
    refine wp_seq ?_
    refine at_regq (T := S_impl_powers_tab) [] { ts := [1, 4, 5, 6, 7, 8, 9, 10], os := [] } [(0 : Int) ≤ ((i : Nat) : Int) ∧ ((i : Nat) : Int) < ((List.length x0 : Nat) : Int)] gamOK hT h (by kernel_rfl) ⟨(by refine ⟨?_, ?_⟩ <;> (first | omega | (simp only [List.length_append, List.length_cons, List.length_nil, List.length_set, List.length_take, List.length_drop, List.length_replicate, List.length_map, Nat.min_def]; omega) | (simp; done) | (simp; omega) | done)), trivial⟩ ?_
    intro a w h
    refine then_normal ?_
    refine at_regq (T := S_impl_powers_tab) [{}, {}, {}, {}, {}, {}, {}, { nw := true }] { ts := [1, 4, 5, 8, 9, 10], os := [] } [(0 : Int) ≤ ((i : Nat) : Int) ∧ ((i : Nat) : Int) < ((List.length x1 : Nat) : Int), powP (x0.getD i 0) (x1.getD i 0) 2039, I64 ((hpw x0 x1 i) * (powD (x0.getD i 0) (x1.getD i 0) 2039)), (2039 : Int) ≠ 0] gamOK hT h (by kernel_rfl) ⟨(by refine ⟨?_, ?_⟩ <;> (first | omega | (simp only [List.length_append, List.length_cons, List.length_nil, List.length_set, List.length_take, List.length_drop, List.length_replicate, List.length_map, Nat.min_def]; omega) | (simp; done) | (simp; omega) | done)), (by (show _ ∧ _; refine ⟨⟨?_, ?_⟩, ⟨?_, ?_⟩, ?_, ?_⟩ <;> omega)), ⟨by (have hA0 := mul_f (hpw x0 x1 i) (powD (x0.getD i 0) (x1.getD i 0) 2039); first | omega | (simp only [List.length_append, List.length_cons, List.length_nil, List.length_set, List.length_take, List.length_drop, List.length_replicate, List.length_map, Nat.min_def]; omega) | (simp; done) | (simp; omega) | done), by (have hA0 := mul_f (hpw x0 x1 i) (powD (x0.getD i 0) (x1.getD i 0) 2039); first | omega | (simp only [List.length_append, List.length_cons, List.length_nil, List.length_set, List.length_take, List.length_drop, List.length_replicate, List.length_map, Nat.min_def]; omega) | (simp; done) | (simp; omega) | done)⟩, (by first | omega | (simp only [List.length_append, List.length_cons, List.length_nil, List.length_set, List.length_take, List.length_drop, List.length_replicate, List.length_map, Nat.min_def]; omega) | (simp; done) | (simp; omega) | done), trivial⟩ ?_
    intro a w h
    refine in_normal ?_
    refine then_normal ?_
    refine at_regq (T := S_impl_powers_tab) [{ nw := true }] { ts := [1, 4, 5, 8, 9, 10], os := [] } [I64 (((i : Nat) : Int) + 1)] gamOK hT h (by kernel_rfl) ⟨⟨by first | omega | (simp only [List.length_append, List.length_cons, List.length_nil, List.length_set, List.length_take, List.length_drop, List.length_replicate, List.length_map, Nat.min_def]; omega) | (simp; done) | (simp; omega) | done, by first | omega | (simp only [List.length_append, List.length_cons, List.length_nil, List.length_set, List.length_take, List.length_drop, List.length_replicate, List.length_map, Nat.min_def]; omega) | (simp; done) | (simp; omega) | done⟩, trivial⟩ ?_
    intro a w h
    replace h := at_out (σ' := ⟨[(1, aF (.int 3) x1), (4, aI 0), (5, aI (Int.tmod ((hpw x0 x1 i) * (powD (x0.getD i 0) (x1.getD i 0) 2039)) 2039)), (8, aF (.int 3) x0), (9, aI ((List.length x0 : Nat) : Int)), (10, aI (((i : Nat) : Int) + 1))], []⟩) { ts := [1, 4, 5, 8, 9, 10], os := [] } h (by kernel_rfl)
    exact ⟨i + 1, at_eq h (st_congr2 (fun (d0 : Int) (d1 : Int) => (⟨[(1, aF (.int 3) x1), (4, aI 0), (5, aI d0), (8, aF (.int 3) x0), (9, aI ((List.length x0 : Nat) : Int)), (10, aI d1)], []⟩ : St)) (show ((Int.tmod ((hpw x0 x1 i) * (powD (x0.getD i 0) (x1.getD i 0) 2039)) 2039) : Int) = (hpw x0 x1 (i + 1)) from by first | with_reducible rfl | (rfl) | rfl) (show (((i : Nat) : Int) + 1 : Int) = (((i + 1) : Nat) : Int) from by first | with_reducible rfl | (omega) | rfl)), (by omega), (by omega)⟩
  · replace h1 : ¬ (((i : Nat) : Int) < ((List.length x0 : Nat) : Int)) := of_decide_eq_false h1
    refine wp_exit ?_
    refine then_exit ?_
    refine then_exit ?_
    refine in_hit ?_
    refine then_normal ?_
    refine wp_seq ?_
    refine at_regq (T := S_impl_powers_tab) [] { ts := [4], os := [] } [] gamOK hT h (by kernel_rfl) trivial ?_
    intro a w h
    refine then_normal ?_
    refine wp_ret ?_
    exact at_return (S := S_impl_powers) (x := (x0, x1, ())) ((hpw x0 x1 i), ()) [] h (by kernel_rfl) trivial (congrArg (fun z => (z, ())) (show ((hpw x0 x1 i)) = powsL x0 x1 from by (show _ = hpw x0 x1 (List.length x0); rw [show List.length x0 = i by omega])))

def validK (x0 : (List Int)) : Bool := (if (List.all x0 (fun g => !decide (g = 1) && isGrp g)) = true then (inR ((List.length x0 : Nat) : Int) 1 16) else false)
def S_impl_IsValidHashKey : Sum := { fid := 270, dom := [s57], cod := [(.bool 4)], dp := true, fz := false, pre := fun x => (fun (x0 : (List Int)) => Sh.fit s57 x0) x.1, g := fun x => ((validK x.1), ()) }
def S_impl_IsValidHashKey_tab : List (Nat × Sum) := [(269, S_impl_IsGroupElement), (107, S_impl_InRange)]
theorem S_impl_IsValidHashKey_ok : FnOK Try.prog 270 S_impl_IsValidHashKey := by
  refine at_enter 24 (fun x => ⟨[(0, aG [.ro (.int 3) x.1])], []⟩) Try.func270 rfl (by kernel_rfl) (fun x => rfl) ?_
  rintro w0 Z0 ⟨x0, u⟩ a w
  revert x0
  intro (x0 : (List Int)) hpre hlens h
  replace h : At w0 Z0 [] 24 ⟨[(0, aG [.ro (.int 3) x0])], []⟩ a w := h
  replace hpre : (fun (x0 : (List Int)) => Sh.fit s57 x0) x0 := hpre
  have hl1 : List.length x0 ≤ 9223372036854775807 := hlens.1.1
  have hT : TabOK Try.prog S_impl_IsValidHashKey_tab := (.cons S_impl_IsGroupElement_ok (.cons S_impl_InRange_ok .nil))
  have hf0 : Sh.fit s57 x0 := hpre
  have hn0_1 : List.length x0 ≤ 1073741824 := hf0.1
  refine wp_seq ?_
  refine at_regq (T := S_impl_IsValidHashKey_tab) [{ ids := [1] }] { ts := [1, 2], os := [1] } [] gamOK hT h (by kernel_rfl) trivial ?_
  intro a w h
  refine then_normal ?_
  refine wp_seq ?_
  refine wp_seq ?_
  refine at_regq (T := S_impl_IsValidHashKey_tab) [] { ts := [1, 2, 6, 7, 8], os := [1] } [] gamOK hT h (by kernel_rfl) trivial ?_
  intro a w h
  refine then_normal ?_
  refine wp_block ?_
  replace h := at_out (σ' := ⟨[(1, aP 1 0), (2, aB false), (6, aF (.int 3) x0), (7, aI ((List.length x0 : Nat) : Int)), (8, aI 0)], [(1, oX 57 [.ro (.int 3) x0])]⟩) { ts := [1, 2, 6, 7, 8], os := [1] } h (by kernel_rfl)
  refine at_loop (fun i : Nat => (⟨[(1, aP 1 0), (2, aB false), (6, aF (.int 3) x0), (7, aI ((List.length x0 : Nat) : Int)), (8, aI ((i : Nat) : Int))], [(1, oX 57 [.ro (.int 3) x0])]⟩ : St)) (fun i => (i ≤ List.length x0 ∧ allTo1 (fun g => !decide (g = 1) && isGrp g) x0 0 i)) (fun i => List.length x0 - i) (0) h (st_congr1 (fun (d0 : Int) => (⟨[(1, aP 1 0), (2, aB false), (6, aF (.int 3) x0), (7, aI ((List.length x0 : Nat) : Int)), (8, aI d0)], [(1, oX 57 [.ro (.int 3) x0])]⟩ : St)) (show (0 : Int) = (((0) : Nat) : Int) from by first | with_reducible rfl | (rfl) | rfl)) (by exact ⟨Nat.zero_le _, allTo1_zero⟩) ?_
  intro i a w hok0 h
  refine wp_seq ?_
  refine at_regq (T := S_impl_IsValidHashKey_tab) [] { ts := [1, 2, 6, 7, 8, 9], os := [1] } [] gamOK hT h (by kernel_rfl) trivial ?_
  intro a w h
  refine then_normal ?_
  refine wp_seq ?_
  refine at_test (decide (((i : Nat) : Int) < ((List.length x0 : Nat) : Int))) h (by kernel_rfl) (fun h1 => ?_) (fun h1 => ?_)
  · replace h1 : ((i : Nat) : Int) < ((List.length x0 : Nat) : Int) := of_decide_eq_true h1
    refine wp_skip ?_
    refine then_normal ?_
    refine wp_seq ?_
    refine wp_block ?_
    refine wp_seq ?_
    refine at_reg (T := S_impl_IsValidHashKey_tab) [] { ts := [1, 2, 4, 6, 7, 8], os := [1] } ⟨[(1, aP 1 0), (2, aB false), (4, aI (x0.getD i 0)), (6, aF (.int 3) x0), (7, aI ((List.length x0 : Nat) : Int)), (8, aI ((i : Nat) : Int))], [(1, oX 57 [.ro (.int 3) x0])]⟩ [(0 : Int) ≤ ((i : Nat) : Int) ∧ ((i : Nat) : Int) < ((List.length x0 : Nat) : Int)] gamOK hT h (by kernel_rfl) ⟨(by refine ⟨?_, ?_⟩ <;> (first | omega | (simp only [List.length_append, List.length_cons, List.length_nil, List.length_set, List.length_take, List.length_drop, List.length_replicate, List.length_map, Nat.min_def]; omega) | (simp; done) | (simp; omega) | done)), trivial⟩ ?_
    intro a w h
    refine then_normal ?_
    refine wp_seq ?_
    by_cases h2 : (x0.getD i 0) = 1
    · skip
      refine at_regq (T := S_impl_IsValidHashKey_tab) [{}, { hint := some (aB true) }] { ts := [1, 2, 6, 7, 8, 15, 16, 17, 18], os := [1] } [(AV.p (.c (.v (.bool (decide ((x0.getD i 0) = 1))))) = AV.p (.c (.v (.bool true))))] gamOK hT h (by kernel_rfl) ⟨hint_bool (decide_eq_true h2), trivial⟩ ?_
      intro a w h
      refine then_normal ?_
      refine at_test true h (by kernel_rfl) (fun hh => ?_) (fun hh => nomatch hh)
      refine wp_seq ?_
      refine at_regq (T := S_impl_IsValidHashKey_tab) [] { ts := [1, 2, 6, 7, 8, 15, 16, 17], os := [1] } [] gamOK hT h (by kernel_rfl) trivial ?_
      intro a w h
      refine then_normal ?_
      refine wp_ret ?_
      refine in_ret ?_
      refine then_ret ?_
      have hs3 : (List.all x0 (fun g => !decide (g = 1) && isGrp g)) = false := by exact all_at (z := 0) (i := i) (by omega) (by first | assumption | (simp_all; done))
      refine then_ret ?_
      refine in_ret ?_
      refine then_ret ?_
      exact at_return (S := S_impl_IsValidHashKey) (x := (x0, ())) (false, ()) [] h (by kernel_rfl) trivial (congrArg (fun z => (z, ())) (show (false) = validK x0 from by first | rfl | (unfold validK; rw [if_neg (neT hs3)])))
    · skip
      refine at_regq (T := S_impl_IsValidHashKey_tab) [{}, { hint := some (aB false) }] { ts := [1, 2, 6, 7, 8, 15, 16, 17, 18], os := [1] } [(AV.p (.c (.v (.bool (decide ((x0.getD i 0) = 1))))) = AV.p (.c (.v (.bool false)))), True] gamOK hT h (by kernel_rfl) ⟨hint_bool (decide_eq_false h2), trivial, trivial⟩ ?_
      intro a w h
      refine then_normal ?_
      refine at_test (!(isGrp (x0.getD i 0))) h (by kernel_rfl) (fun h4 => ?_) (fun h4 => ?_)
      · replace h4 : (isGrp (x0.getD i 0)) = false := notT h4
        refine wp_seq ?_
        refine at_regq (T := S_impl_IsValidHashKey_tab) [] { ts := [1, 2, 6, 7, 8, 15, 16, 17], os := [1] } [] gamOK hT h (by kernel_rfl) trivial ?_
        intro a w h
        refine then_normal ?_
        refine wp_ret ?_
        refine in_ret ?_
        refine then_ret ?_
        have hs5 : (List.all x0 (fun g => !decide (g = 1) && isGrp g)) = false := by exact all_at (z := 0) (i := i) (by omega) (by first | assumption | (simp_all; done))
        refine then_ret ?_
        refine in_ret ?_
        refine then_ret ?_
        exact at_return (S := S_impl_IsValidHashKey) (x := (x0, ())) (false, ()) [] h (by kernel_rfl) trivial (congrArg (fun z => (z, ())) (show (false) = validK x0 from by first | rfl | (unfold validK; rw [if_neg (neT hs5)])))
      · replace h4 : (isGrp (x0.getD i 0)) = true := notF h4
        have hvh4 := isGrp_t h4
        refine wp_skip ?_
        refine in_normal ?_
        refine then_normal ?_
        refine at_regq (T := S_impl_IsValidHashKey_tab) [{ nw := true }] { ts := [1, 2, 6, 7, 8, 15, 16, 17], os := [1] } [I64 (((i : Nat) : Int) + 1)] gamOK hT h (by kernel_rfl) ⟨⟨by first | omega | (simp only [List.length_append, List.length_cons, List.length_nil, List.length_set, List.length_take, List.length_drop, List.length_replicate, List.length_map, Nat.min_def]; omega) | (simp; done) | (simp; omega) | done, by first | omega | (simp only [List.length_append, List.length_cons, List.length_nil, List.length_set, List.length_take, List.length_drop, List.length_replicate, List.length_map, Nat.min_def]; omega) | (simp; done) | (simp; omega) | done⟩, trivial⟩ ?_
        intro a w h
        replace h := at_out (σ' := ⟨[(1, aP 1 0), (2, aB false), (6, aF (.int 3) x0), (7, aI ((List.length x0 : Nat) : Int)), (8, aI (((i : Nat) : Int) + 1))], [(1, oX 57 [.ro (.int 3) x0])]⟩) { ts := [1, 2, 6, 7, 8], os := [1] } h (by kernel_rfl)
        exact ⟨i + 1, at_eq h (st_congr1 (fun (d0 : Int) => (⟨[(1, aP 1 0), (2, aB false), (6, aF (.int 3) x0), (7, aI ((List.length x0 : Nat) : Int)), (8, aI d0)], [(1, oX 57 [.ro (.int 3) x0])]⟩ : St)) (show (((i : Nat) : Int) + 1 : Int) = (((i + 1) : Nat) : Int) from by first | with_reducible rfl | (omega) | rfl)), (by exact ⟨by omega, allTo1_succ hok0.2 (by first | assumption | (simp_all; done))⟩), (by omega)⟩
  · replace h1 : ¬ (((i : Nat) : Int) < ((List.length x0 : Nat) : Int)) := of_decide_eq_false h1
    refine wp_exit ?_
    refine then_exit ?_
    have hs6 : (List.all x0 (fun g => !decide (g = 1) && isGrp g)) = true := by exact all_of (z := 0) (i := i) (by omega) hok0.2
    refine then_exit ?_
    refine in_hit ?_
    refine then_normal ?_
    refine wp_seq ?_
    refine at_reg (T := S_impl_IsValidHashKey_tab) [] { ts := [2], os := [] } ⟨[(2, aB (inR ((List.length x0 : Nat) : Int) 1 16))], []⟩ [True] gamOK hT h (by kernel_rfl) ⟨trivial, trivial⟩ ?_
    intro a w h
    refine then_normal ?_
    refine wp_ret ?_
    exact at_return (S := S_impl_IsValidHashKey) (x := (x0, ())) ((inR ((List.length x0 : Nat) : Int) 1 16), ()) [] h (by kernel_rfl) trivial (congrArg (fun z => (z, ())) (show ((inR ((List.length x0 : Nat) : Int) 1 16)) = validK x0 from by first | rfl | (unfold validK; rw [if_pos hs6])))
theorem validK_t {k : List Int} (h : validK k = true) : (1 ≤ List.length k ∧ List.length k ≤ 16) ∧ ∀ g ∈ k, isGrp g = true := by
  unfold validK at h
  split at h
  · rename_i ha
    have := inR_t h
    refine ⟨by omega, fun g hg => ?_⟩
    have := List.all_eq_true.1 ha g hg
    rw [Bool.and_eq_true] at this
    exact this.2
  · cases h

def S_spec_IsValidHashKey : Sum := { fid := 264, dom := [s57], cod := [(.bool 4)], dp := true, fz := false, pre := fun x => (fun (x0 : (List Int)) => Sh.fit s57 x0) x.1, g := fun x => ((validK x.1), ()) }
def S_spec_IsValidHashKey_tab : List (Nat × Sum) := [(263, S_spec_IsGroupElement), (103, S_spec_l1In)]
theorem S_spec_IsValidHashKey_ok : FnOK Try.prog 264 S_spec_IsValidHashKey := by
  refine at_enter 30 (fun x => ⟨[(0, aG [.ro (.int 3) x.1])], []⟩) Try.func264 rfl (by kernel_rfl) (fun x => rfl) ?_
  rintro w0 Z0 ⟨x0, u⟩ a w
  revert x0
  intro (x0 : (List Int)) hpre hlens h
  replace h : At w0 Z0 [] 30 ⟨[(0, aG [.ro (.int 3) x0])], []⟩ a w := h
  replace hpre : (fun (x0 : (List Int)) => Sh.fit s57 x0) x0 := hpre
  have hl1 : List.length x0 ≤ 9223372036854775807 := hlens.1.1
  have hT : TabOK Try.prog S_spec_IsValidHashKey_tab := (.cons S_spec_IsGroupElement_ok (.cons S_spec_l1In_ok .nil))
  have hf0 : Sh.fit s57 x0 := hpre
  have hn0_1 : List.length x0 ≤ 1073741824 := hf0.1
  refine wp_seq ?_
  refine at_regq (T := S_spec_IsValidHashKey_tab) [{ ids := [1] }] { ts := [1, 2], os := [1] } [] gamOK hT h (by kernel_rfl) trivial ?_
  intro a w h
  refine then_normal ?_
  refine wp_seq ?_
  refine wp_seq ?_
  refine at_regq (T := S_spec_IsValidHashKey_tab) [] { ts := [1, 2, 3], os := [1] } [] gamOK hT h (by kernel_rfl) trivial ?_
  intro a w h
  refine then_normal ?_
  refine wp_block ?_
  replace h := at_out (σ' := ⟨[(1, aP 1 0), (2, aB false), (3, aI 0)], [(1, oX 57 [.ro (.int 3) x0])]⟩) { ts := [1, 2, 3], os := [1] } h (by kernel_rfl)
  refine at_loop (fun i : Nat => (⟨[(1, aP 1 0), (2, aB false), (3, aI ((i : Nat) : Int))], [(1, oX 57 [.ro (.int 3) x0])]⟩ : St)) (fun i => (i ≤ List.length x0 ∧ allTo1 (fun g => !decide (g = 1) && isGrp g) x0 0 i)) (fun i => List.length x0 - i) (0) h (st_congr1 (fun (d0 : Int) => (⟨[(1, aP 1 0), (2, aB false), (3, aI d0)], [(1, oX 57 [.ro (.int 3) x0])]⟩ : St)) (show (0 : Int) = (((0) : Nat) : Int) from by first | with_reducible rfl | (rfl) | rfl)) (by exact ⟨Nat.zero_le _, allTo1_zero⟩) ?_
  intro i a w hok0 h
  refine wp_seq ?_
  refine wp_seq ?_
  refine at_regq (T := S_spec_IsValidHashKey_tab) [] { ts := [1, 2, 3, 8], os := [1] } [] gamOK hT h (by kernel_rfl) trivial ?_
  intro a w h
  refine then_normal ?_
  refine at_test (decide (((i : Nat) : Int) < ((List.length x0 : Nat) : Int))) h (by kernel_rfl) (fun h1 => ?_) (fun h1 => ?_)
  · replace h1 : ((i : Nat) : Int) < ((List.length x0 : Nat) : Int) := of_decide_eq_true h1
    refine wp_skip ?_
    refine then_normal ?_
    refine wp_seq ?_
    refine wp_block ?_
    refine wp_seq ?_
    rcases Bool.eq_false_or_eq_true (!(isGrp (x0.getD i 0))) with h2 | h2
    · skip
      have hzh2 : (isGrp (x0.getD i 0)) = false := notT h2
      refine at_reg (T := S_spec_IsValidHashKey_tab) [{}, {}, {}, {}, {}, {}, { hint := some (aB true) }] { ts := [1, 2, 3, 19, 20, 21, 22, 23, 24, 25], os := [1] } ⟨[(1, aP 1 0), (2, aB false), (3, aI ((i : Nat) : Int)), (19, .p (.c (.v undef))), (20, .p (.c (.v undef))), (21, .p (.c (.v undef))), (22, .p (.c (.v undef))), (23, .p (.c (.v undef))), (24, .p (.c (.v undef))), (25, aB true)], [(1, oX 57 [.ro (.int 3) x0])]⟩ [(0 : Int) ≤ ((i : Nat) : Int) ∧ ((i : Nat) : Int) < ((List.length x0 : Nat) : Int), True, (AV.p (.c (.v (.bool (!(isGrp (x0.getD i 0)))))) = AV.p (.c (.v (.bool true))))] gamOK hT h (by kernel_rfl) ⟨(by refine ⟨?_, ?_⟩ <;> (first | omega | (simp only [List.length_append, List.length_cons, List.length_nil, List.length_set, List.length_take, List.length_drop, List.length_replicate, List.length_map, Nat.min_def]; omega) | (simp; done) | (simp; omega) | done)), trivial, hint_bool (h2), trivial⟩ ?_
      intro a w h
      refine then_normal ?_
      refine at_test true h (by kernel_rfl) (fun hh => ?_) (fun hh => nomatch hh)
      refine wp_seq ?_
      refine at_regq (T := S_spec_IsValidHashKey_tab) [] { ts := [1, 2, 3, 19, 20, 21, 22, 23, 24], os := [1] } [] gamOK hT h (by kernel_rfl) trivial ?_
      intro a w h
      refine then_normal ?_
      refine wp_ret ?_
      refine in_ret ?_
      refine then_ret ?_
      have hs3 : (List.all x0 (fun g => !decide (g = 1) && isGrp g)) = false := by exact all_at (z := 0) (i := i) (by omega) (by first | assumption | (simp_all; done))
      refine then_ret ?_
      refine in_ret ?_
      refine then_ret ?_
      exact at_return (S := S_spec_IsValidHashKey) (x := (x0, ())) (false, ()) [] h (by kernel_rfl) trivial (congrArg (fun z => (z, ())) (show (false) = validK x0 from by first | rfl | (unfold validK; rw [if_neg (neT hs3)]; done) | (unfold validK; simp_all)))
    · skip
      have hzh2 : (isGrp (x0.getD i 0)) = true := notF h2
      have hvh2 := isGrp_t (notF h2)
      refine at_reg (T := S_spec_IsValidHashKey_tab) [{}, {}, {}, {}, {}, {}, { hint := some (aB false) }] { ts := [1, 2, 3, 19, 20, 21, 22, 23, 24, 25], os := [1] } ⟨[(1, aP 1 0), (2, aB false), (3, aI ((i : Nat) : Int)), (19, aP 1 0), (20, aF (.int 3) x0), (21, aI ((i : Nat) : Int)), (22, aR (.int 3) (x0.getD i 0) 0), (23, aI (x0.getD i 0)), (24, aB (decide ((x0.getD i 0) = 1))), (25, aB (decide ((x0.getD i 0) = 1)))], [(1, oX 57 [.ro (.int 3) x0])]⟩ [(0 : Int) ≤ ((i : Nat) : Int) ∧ ((i : Nat) : Int) < ((List.length x0 : Nat) : Int), True, (AV.p (.c (.v (.bool (!(isGrp (x0.getD i 0)))))) = AV.p (.c (.v (.bool false)))), (0 : Int) ≤ ((i : Nat) : Int) ∧ ((i : Nat) : Int) < ((List.length x0 : Nat) : Int)] gamOK hT h (by kernel_rfl) ⟨(by refine ⟨?_, ?_⟩ <;> (first | omega | (simp only [List.length_append, List.length_cons, List.length_nil, List.length_set, List.length_take, List.length_drop, List.length_replicate, List.length_map, Nat.min_def]; omega) | (simp; done) | (simp; omega) | done)), trivial, hint_bool (h2), (by refine ⟨?_, ?_⟩ <;> (first | omega | (simp only [List.length_append, List.length_cons, List.length_nil, List.length_set, List.length_take, List.length_drop, List.length_replicate, List.length_map, Nat.min_def]; omega) | (simp; done) | (simp; omega) | done)), trivial⟩ ?_
      intro a w h
      refine then_normal ?_
      refine at_test (decide ((x0.getD i 0) = 1)) h (by kernel_rfl) (fun h4 => ?_) (fun h4 => ?_)
      · replace h4 : (x0.getD i 0) = 1 := of_decide_eq_true h4
        refine wp_seq ?_
        refine at_regq (T := S_spec_IsValidHashKey_tab) [] { ts := [1, 2, 3, 19, 20, 21, 22, 23, 24], os := [1] } [] gamOK hT h (by kernel_rfl) trivial ?_
        intro a w h
        refine then_normal ?_
        refine wp_ret ?_
        refine in_ret ?_
        refine then_ret ?_
        have hs5 : (List.all x0 (fun g => !decide (g = 1) && isGrp g)) = false := by exact all_at (z := 0) (i := i) (by omega) (by first | assumption | (simp_all; done))
        refine then_ret ?_
        refine in_ret ?_
        refine then_ret ?_
        exact at_return (S := S_spec_IsValidHashKey) (x := (x0, ())) (false, ()) [] h (by kernel_rfl) trivial (congrArg (fun z => (z, ())) (show (false) = validK x0 from by first | rfl | (unfold validK; rw [if_neg (neT hs5)]; done) | (unfold validK; simp_all)))
      · replace h4 : ¬ ((x0.getD i 0) = 1) := of_decide_eq_false h4
        refine wp_skip ?_
        refine in_normal ?_
        refine then_normal ?_
        refine at_regq (T := S_spec_IsValidHashKey_tab) [{}, { nw := true }] { ts := [1, 2, 3, 19, 20, 21, 22, 23, 24], os := [1] } [I64 (((i : Nat) : Int) + 1)] gamOK hT h (by kernel_rfl) ⟨⟨by first | omega | (simp only [List.length_append, List.length_cons, List.length_nil, List.length_set, List.length_take, List.length_drop, List.length_replicate, List.length_map, Nat.min_def]; omega) | (simp; done) | (simp; omega) | done, by first | omega | (simp only [List.length_append, List.length_cons, List.length_nil, List.length_set, List.length_take, List.length_drop, List.length_replicate, List.length_map, Nat.min_def]; omega) | (simp; done) | (simp; omega) | done⟩, trivial⟩ ?_
        intro a w h
        replace h := at_out (σ' := ⟨[(1, aP 1 0), (2, aB false), (3, aI (((i : Nat) : Int) + 1))], [(1, oX 57 [.ro (.int 3) x0])]⟩) { ts := [1, 2, 3], os := [1] } h (by kernel_rfl)
        exact ⟨i + 1, at_eq h (st_congr1 (fun (d0 : Int) => (⟨[(1, aP 1 0), (2, aB false), (3, aI d0)], [(1, oX 57 [.ro (.int 3) x0])]⟩ : St)) (show (((i : Nat) : Int) + 1 : Int) = (((i + 1) : Nat) : Int) from by first | with_reducible rfl | (omega) | rfl)), (by exact ⟨by omega, allTo1_succ hok0.2 (by first | assumption | (simp_all; done))⟩), (by omega)⟩
  · replace h1 : ¬ (((i : Nat) : Int) < ((List.length x0 : Nat) : Int)) := of_decide_eq_false h1
    refine wp_exit ?_
    refine then_exit ?_
    have hs6 : (List.all x0 (fun g => !decide (g = 1) && isGrp g)) = true := by exact all_of (z := 0) (i := i) (by omega) hok0.2
    refine then_exit ?_
    refine in_hit ?_
    refine then_normal ?_
    refine wp_seq ?_
    refine at_reg (T := S_spec_IsValidHashKey_tab) [] { ts := [2], os := [] } ⟨[(2, aB (inR ((List.length x0 : Nat) : Int) 1 16))], []⟩ [True] gamOK hT h (by kernel_rfl) ⟨trivial, trivial⟩ ?_
    intro a w h
    refine then_normal ?_
    refine wp_ret ?_
    exact at_return (S := S_spec_IsValidHashKey) (x := (x0, ())) ((inR ((List.length x0 : Nat) : Int) 1 16), ()) [] h (by kernel_rfl) trivial (congrArg (fun z => (z, ())) (show ((inR ((List.length x0 : Nat) : Int) 1 16)) = validK x0 from by first | rfl | (unfold validK; rw [if_pos hs6]; done) | (unfold validK; simp_all)))

def hashV (x0 : (List Int)) (x1 : (List Int)) : Int := (if (validK x0) = true then (if (validV x1) = true then (if ((List.length x1 : Nat) : Int) = ((List.length x0 : Nat) : Int) then (powsL x0 x1) else 0) else 0) else 0)
def S_impl_HashVector : Sum := { fid := 313, dom := [s57, s22], cod := [(.int 3)], dp := true, fz := false, pre := fun x => (fun (x0 : (List Int)) (x1 : (List Int)) => Sh.fit s57 x0 ∧ Sh.fit s22 x1) x.1 x.2.1, g := fun x => ((hashV x.1 x.2.1), ()) }
def S_impl_HashVector_tab : List (Nat × Sum) := [(270, S_impl_IsValidHashKey), (253, S_impl_IsValidVector), (329, S_impl_powers)]
theorem S_impl_HashVector_ok : FnOK Try.prog 313 S_impl_HashVector := by
  refine at_enter 25 (fun x => ⟨[(0, aG [.ro (.int 3) x.1]), (1, aF (.int 3) x.2.1)], []⟩) Try.func313 rfl (by kernel_rfl) (fun x => rfl) ?_
  rintro w0 Z0 ⟨x0, x1, u⟩ a w
  revert x0 x1
  intro (x0 : (List Int)) (x1 : (List Int)) hpre hlens h
  replace h : At w0 Z0 [] 25 ⟨[(0, aG [.ro (.int 3) x0]), (1, aF (.int 3) x1)], []⟩ a w := h
  replace hpre : (fun (x0 : (List Int)) (x1 : (List Int)) => Sh.fit s57 x0 ∧ Sh.fit s22 x1) x0 x1 := hpre
  have hl1 : List.length x0 ≤ 9223372036854775807 := hlens.1.1
  have hl2 : List.length x1 ≤ 9223372036854775807 := hlens.2.1.1
  have hT : TabOK Try.prog S_impl_HashVector_tab := (.cons S_impl_IsValidHashKey_ok (.cons S_impl_IsValidVector_ok (.cons S_impl_powers_ok .nil)))
  obtain ⟨hf0, hf1⟩ := hpre
  have hn0_1 : List.length x0 ≤ 1073741824 := hf0.1
  have hn1_2 : List.length x1 ≤ 1073741824 := hf1.1
  refine wp_seq ?_
  refine at_regq (T := S_impl_HashVector_tab) [{ ids := [1] }] { ts := [1, 2, 4], os := [1] } [] gamOK hT h (by kernel_rfl) trivial ?_
  intro a w h
  refine then_normal ?_
  refine wp_seq ?_
  refine wp_seq ?_
  rcases Bool.eq_false_or_eq_true (!(validK x0)) with h1 | h1
  · skip
    have hzh1 : (validK x0) = false := notT h1
    refine at_regq (T := S_impl_HashVector_tab) [{}, {}, { hint := some (aB true) }] { ts := [1, 2, 4, 20], os := [1] } [(fun (x0 : (List Int)) => Sh.fit s57 x0) x0, (AV.p (.c (.v (.bool (!(validK x0))))) = AV.p (.c (.v (.bool true))))] gamOK hT h (by kernel_rfl) ⟨(by exact hf0), hint_bool (h1), trivial⟩ ?_
    intro a w h
    refine then_normal ?_
    refine at_test true h (by kernel_rfl) (fun hh => ?_) (fun hh => nomatch hh)
    refine wp_seq ?_
    refine at_regq (T := S_impl_HashVector_tab) [] { ts := [1, 2, 4], os := [1] } [] gamOK hT h (by kernel_rfl) trivial ?_
    intro a w h
    refine then_normal ?_
    refine wp_ret ?_
    refine then_ret ?_
    exact at_return (S := S_impl_HashVector) (x := (x0, x1, ())) (0, ()) [] h (by kernel_rfl) trivial (congrArg (fun z => (z, ())) (show (0) = hashV x0 x1 from by first | rfl | (unfold hashV; rw [if_neg (neT (notT h1))])))
  · skip
    have hzh1 : (validK x0) = true := notF h1
    have hvh1 := validK_t (notF h1)
    rcases Bool.eq_false_or_eq_true (!(validV x1)) with h2 | h2
    · skip
      have hzh2 : (validV x1) = false := notT h2
      refine at_regq (T := S_impl_HashVector_tab) [{}, {}, { hint := some (aB false) }, {}, {}, {}, { hint := some (aB true) }] { ts := [1, 2, 4, 20], os := [1] } [(fun (x0 : (List Int)) => Sh.fit s57 x0) x0, (AV.p (.c (.v (.bool (!(validK x0))))) = AV.p (.c (.v (.bool false)))), (fun (x0 : (List Int)) => Sh.fit s22 x0) x1, (AV.p (.c (.v (.bool (!(validV x1))))) = AV.p (.c (.v (.bool true))))] gamOK hT h (by kernel_rfl) ⟨(by exact hf0), hint_bool (h1), (by exact hf1), hint_bool (h2), trivial⟩ ?_
      intro a w h
      refine then_normal ?_
      refine at_test true h (by kernel_rfl) (fun hh => ?_) (fun hh => nomatch hh)
      refine wp_seq ?_
      refine at_regq (T := S_impl_HashVector_tab) [] { ts := [1, 2, 4], os := [1] } [] gamOK hT h (by kernel_rfl) trivial ?_
      intro a w h
      refine then_normal ?_
      refine wp_ret ?_
      refine then_ret ?_
      exact at_return (S := S_impl_HashVector) (x := (x0, x1, ())) (0, ()) [] h (by kernel_rfl) trivial (congrArg (fun z => (z, ())) (show (0) = hashV x0 x1 from by first | rfl | (unfold hashV; rw [if_pos (notF h1), if_neg (neT (notT h2))])))
    · skip
      have hzh2 : (validV x1) = true := notF h2
      have hvh2 := validV_t (notF h2)
      refine at_regq (T := S_impl_HashVector_tab) [{}, {}, { hint := some (aB false) }, {}, {}, {}, { hint := some (aB false) }] { ts := [1, 2, 4, 20], os := [1] } [(fun (x0 : (List Int)) => Sh.fit s57 x0) x0, (AV.p (.c (.v (.bool (!(validK x0))))) = AV.p (.c (.v (.bool false)))), (fun (x0 : (List Int)) => Sh.fit s22 x0) x1, (AV.p (.c (.v (.bool (!(validV x1))))) = AV.p (.c (.v (.bool false))))] gamOK hT h (by kernel_rfl) ⟨(by exact hf0), hint_bool (h1), (by exact hf1), hint_bool (h2), trivial⟩ ?_
      intro a w h
      refine then_normal ?_
      refine at_test (!decide (((List.length x1 : Nat) : Int) = ((List.length x0 : Nat) : Int))) h (by kernel_rfl) (fun h3 => ?_) (fun h3 => ?_)
      · replace h3 : ¬ (((List.length x1 : Nat) : Int) = ((List.length x0 : Nat) : Int)) := of_decide_eq_false (notT h3)
        refine wp_seq ?_
        refine at_regq (T := S_impl_HashVector_tab) [] { ts := [1, 2, 4], os := [1] } [] gamOK hT h (by kernel_rfl) trivial ?_
        intro a w h
        refine then_normal ?_
        refine wp_ret ?_
        refine then_ret ?_
        exact at_return (S := S_impl_HashVector) (x := (x0, x1, ())) (0, ()) [] h (by kernel_rfl) trivial (congrArg (fun z => (z, ())) (show (0) = hashV x0 x1 from by first | rfl | (unfold hashV; rw [if_pos (notF h1), if_pos (notF h2), if_neg h3])))
      · replace h3 : ((List.length x1 : Nat) : Int) = ((List.length x0 : Nat) : Int) := of_decide_eq_true (notF h3)
        refine wp_skip ?_
        refine then_normal ?_
        refine wp_seq ?_
        refine at_regq (T := S_impl_HashVector_tab) [] { ts := [4], os := [] } [(fun (x0 : (List Int)) (x1 : (List Int)) => Sh.fit s22 x0 ∧ Sh.fit s22 x1 ∧ powsP x0 x1) x0 x1] gamOK hT h (by kernel_rfl) ⟨(by exact ⟨hf0, hf1, by omega, grp_at (validK_t (by assumption)).2, (validV_t (by assumption)).2.2⟩), trivial⟩ ?_
        intro a w h
        refine then_normal ?_
        refine wp_ret ?_
        exact at_return (S := S_impl_HashVector) (x := (x0, x1, ())) ((powsL x0 x1), ()) [] h (by kernel_rfl) trivial (congrArg (fun z => (z, ())) (show ((powsL x0 x1)) = hashV x0 x1 from by first | rfl | (unfold hashV; rw [if_pos (notF h1), if_pos (notF h2), if_pos h3])))

def S_spec_HashVector : Sum := { fid := 309, dom := [s57, s22], cod := [(.int 3)], dp := true, fz := false, pre := fun x => (fun (x0 : (List Int)) (x1 : (List Int)) => Sh.fit s57 x0 ∧ Sh.fit s22 x1) x.1 x.2.1, g := fun x => ((hashV x.1 x.2.1), ()) }
def S_spec_HashVector_tab : List (Nat × Sum) := [(264, S_spec_IsValidHashKey), (221, S_spec_IsValidVector), (328, S_spec_PowGroup), (327, S_spec_MulGroup)]
theorem S_spec_HashVector_ok : FnOK Try.prog 309 S_spec_HashVector := by
  refine at_enter 42 (fun x => ⟨[(0, aG [.ro (.int 3) x.1]), (1, aF (.int 3) x.2.1)], []⟩) Try.func309 rfl (by kernel_rfl) (fun x => rfl) ?_
  rintro w0 Z0 ⟨x0, x1, u⟩ a w
  revert x0 x1
  intro (x0 : (List Int)) (x1 : (List Int)) hpre hlens h
  replace h : At w0 Z0 [] 42 ⟨[(0, aG [.ro (.int 3) x0]), (1, aF (.int 3) x1)], []⟩ a w := h
  replace hpre : (fun (x0 : (List Int)) (x1 : (List Int)) => Sh.fit s57 x0 ∧ Sh.fit s22 x1) x0 x1 := hpre
  have hl1 : List.length x0 ≤ 9223372036854775807 := hlens.1.1
  have hl2 : List.length x1 ≤ 9223372036854775807 := hlens.2.1.1
  have hT : TabOK Try.prog S_spec_HashVector_tab := (.cons S_spec_IsValidHashKey_ok (.cons S_spec_IsValidVector_ok (.cons S_spec_PowGroup_ok (.cons S_spec_MulGroup_ok .nil))))
  obtain ⟨hf0, hf1⟩ := hpre
  have hn0_1 : List.length x0 ≤ 1073741824 := hf0.1
  have hn1_2 : List.length x1 ≤ 1073741824 := hf1.1
  refine wp_seq ?_
  refine at_regq (T := S_spec_HashVector_tab) [{ ids := [1] }] { ts := [1, 2, 4], os := [1] } [] gamOK hT h (by kernel_rfl) trivial ?_
  intro a w h
  refine then_normal ?_
  refine wp_seq ?_
  refine wp_seq ?_
  rcases Bool.eq_false_or_eq_true (!(validK x0)) with h1 | h1
  · skip
    have hzh1 : (validK x0) = false := notT h1
    refine at_regq (T := S_spec_HashVector_tab) [{}, {}, { hint := some (aB true) }] { ts := [1, 2, 4, 22], os := [1] } [(fun (x0 : (List Int)) => Sh.fit s57 x0) x0, (AV.p (.c (.v (.bool (!(validK x0))))) = AV.p (.c (.v (.bool true))))] gamOK hT h (by kernel_rfl) ⟨(by exact hf0), hint_bool (h1), trivial⟩ ?_
    intro a w h
    refine then_normal ?_
    refine at_test true h (by kernel_rfl) (fun hh => ?_) (fun hh => nomatch hh)
    refine wp_seq ?_
    refine at_regq (T := S_spec_HashVector_tab) [] { ts := [1, 2, 4], os := [1] } [] gamOK hT h (by kernel_rfl) trivial ?_
    intro a w h
    refine then_normal ?_
    refine wp_ret ?_
    refine then_ret ?_
    exact at_return (S := S_spec_HashVector) (x := (x0, x1, ())) (0, ()) [] h (by kernel_rfl) trivial (congrArg (fun z => (z, ())) (show (0) = hashV x0 x1 from by first | rfl | (unfold hashV; rw [if_neg (neT (notT h1))]; done) | (unfold hashV; simp_all)))
  · skip
    have hzh1 : (validK x0) = true := notF h1
    have hvh1 := validK_t (notF h1)
    rcases Bool.eq_false_or_eq_true (!(validV x1)) with h2 | h2
    · skip
      have hzh2 : (validV x1) = false := notT h2
      refine at_regq (T := S_spec_HashVector_tab) [{}, {}, { hint := some (aB false) }, {}, {}, {}, { hint := some (aB true) }] { ts := [1, 2, 4, 22], os := [1] } [(fun (x0 : (List Int)) => Sh.fit s57 x0) x0, (AV.p (.c (.v (.bool (!(validK x0))))) = AV.p (.c (.v (.bool false)))), (fun (x0 : (List Int)) => Sh.fit s22 x0) x1, (AV.p (.c (.v (.bool (!(validV x1))))) = AV.p (.c (.v (.bool true))))] gamOK hT h (by kernel_rfl) ⟨(by exact hf0), hint_bool (h1), (by exact hf1), hint_bool (h2), trivial⟩ ?_
      intro a w h
      refine then_normal ?_
      refine at_test true h (by kernel_rfl) (fun hh => ?_) (fun hh => nomatch hh)
      refine wp_seq ?_
      refine at_regq (T := S_spec_HashVector_tab) [] { ts := [1, 2, 4], os := [1] } [] gamOK hT h (by kernel_rfl) trivial ?_
      intro a w h
      refine then_normal ?_
      refine wp_ret ?_
      refine then_ret ?_
      exact at_return (S := S_spec_HashVector) (x := (x0, x1, ())) (0, ()) [] h (by kernel_rfl) trivial (congrArg (fun z => (z, ())) (show (0) = hashV x0 x1 from by first | rfl | (unfold hashV; rw [if_pos (notF h1), if_neg (neT (notT h2))]; done) | (unfold hashV; simp_all)))
    · skip
      have hzh2 : (validV x1) = true := notF h2
      have hvh2 := validV_t (notF h2)
      refine at_regq (T := S_spec_HashVector_tab) [{}, {}, { hint := some (aB false) }, {}, {}, {}, { hint := some (aB false) }] { ts := [1, 2, 4, 22], os := [1] } [(fun (x0 : (List Int)) => Sh.fit s57 x0) x0, (AV.p (.c (.v (.bool (!(validK x0))))) = AV.p (.c (.v (.bool false)))), (fun (x0 : (List Int)) => Sh.fit s22 x0) x1, (AV.p (.c (.v (.bool (!(validV x1))))) = AV.p (.c (.v (.bool false))))] gamOK hT h (by kernel_rfl) ⟨(by exact hf0), hint_bool (h1), (by exact hf1), hint_bool (h2), trivial⟩ ?_
      intro a w h
      refine then_normal ?_
      refine at_test (!decide (((List.length x1 : Nat) : Int) = ((List.length x0 : Nat) : Int))) h (by kernel_rfl) (fun h3 => ?_) (fun h3 => ?_)
      · replace h3 : ¬ (((List.length x1 : Nat) : Int) = ((List.length x0 : Nat) : Int)) := of_decide_eq_false (notT h3)
        refine wp_seq ?_
        refine at_regq (T := S_spec_HashVector_tab) [] { ts := [1, 2, 4], os := [1] } [] gamOK hT h (by kernel_rfl) trivial ?_
        intro a w h
        refine then_normal ?_
        refine wp_ret ?_
        refine then_ret ?_
        exact at_return (S := S_spec_HashVector) (x := (x0, x1, ())) (0, ()) [] h (by kernel_rfl) trivial (congrArg (fun z => (z, ())) (show (0) = hashV x0 x1 from by first | rfl | (unfold hashV; rw [if_pos (notF h1), if_pos (notF h2), if_neg h3]; done) | (unfold hashV; simp_all)))
      · replace h3 : ((List.length x1 : Nat) : Int) = ((List.length x0 : Nat) : Int) := of_decide_eq_true (notF h3)
        refine wp_skip ?_
        refine then_normal ?_
        refine wp_seq ?_
        refine at_regq (T := S_spec_HashVector_tab) [] { ts := [1, 2, 4, 5], os := [1] } [] gamOK hT h (by kernel_rfl) trivial ?_
        intro a w h
        refine then_normal ?_
        refine wp_seq ?_
        refine wp_seq ?_
        refine at_reg (T := S_spec_HashVector_tab) [] { ts := [1, 2, 4, 5, 6], os := [1] } ⟨[(1, aF (.int 3) x1), (2, aP 1 0), (4, aI 0), (5, aI 1), (6, aI 0)], [(1, oX 57 [.ro (.int 3) x0])]⟩ [] gamOK hT h (by kernel_rfl) trivial ?_
        intro a w h
        refine then_normal ?_
        refine wp_block ?_
        replace h := at_out (σ' := ⟨[(1, aF (.int 3) x1), (2, aP 1 0), (4, aI 0), (5, aI 1), (6, aI 0)], [(1, oX 57 [.ro (.int 3) x0])]⟩) { ts := [1, 2, 4, 5, 6], os := [1] } h (by kernel_rfl)
        refine at_loop (fun i : Nat => (⟨[(1, aF (.int 3) x1), (2, aP 1 0), (4, aI 0), (5, aI (hpw x0 x1 i)), (6, aI ((i : Nat) : Int))], [(1, oX 57 [.ro (.int 3) x0])]⟩ : St)) (fun i => i ≤ List.length x1) (fun i => List.length x1 - i) (0) h (st_congr2 (fun (d0 : Int) (d1 : Int) => (⟨[(1, aF (.int 3) x1), (2, aP 1 0), (4, aI 0), (5, aI d0), (6, aI d1)], [(1, oX 57 [.ro (.int 3) x0])]⟩ : St)) (show (1 : Int) = (hpw x0 x1 (0)) from by first | with_reducible rfl | (rfl) | rfl) (show (0 : Int) = (((0) : Nat) : Int) from by first | with_reducible rfl | (rfl) | rfl)) (by omega) ?_
        intro i a w hok0 h
        refine wp_seq ?_
        refine wp_seq ?_
        refine at_regq (T := S_spec_HashVector_tab) [] { ts := [1, 2, 4, 5, 6, 26], os := [1] } [] gamOK hT h (by kernel_rfl) trivial ?_
        intro a w h
        refine then_normal ?_
        refine at_test (decide (((i : Nat) : Int) < ((List.length x1 : Nat) : Int))) h (by kernel_rfl) (fun h4 => ?_) (fun h4 => ?_)
        · replace h4 : ((i : Nat) : Int) < ((List.length x1 : Nat) : Int) := of_decide_eq_true h4
          have hkg := (validK_t (k := x0) (by assumption)).2
          have hvr := (validV_t (v := x1) (by assumption)).2.2
          have hke := hkg _ (getD_mem (z := 0) (show i < List.length x0 by omega))
          have hhg := hpw_grp hkg hvr i (by omega)
          refine wp_skip ?_
          refine then_normal ?_
          refine wp_seq ?_
          refine wp_block ?_
          refine at_anyq (T := S_spec_HashVector_tab) [{}, {}, {}, {}, {}, {}, {}, {}, {}, {}, {}, {}, {}] { ts := [1, 2, 4, 5, 6], os := [1] } [(0 : Int) ≤ ((i : Nat) : Int) ∧ ((i : Nat) : Int) < ((List.length x0 : Nat) : Int), (0 : Int) ≤ ((i : Nat) : Int) ∧ ((i : Nat) : Int) < ((List.length x1 : Nat) : Int), True, True] gamOK hT mixed h (by kernel_rfl) ⟨(by refine ⟨?_, ?_⟩ <;> (first | omega | (simp only [List.length_append, List.length_cons, List.length_nil, List.length_set, List.length_take, List.length_drop, List.length_replicate, List.length_map, Nat.min_def]; omega) | (simp; done) | (simp; omega) | done)), (by refine ⟨?_, ?_⟩ <;> (first | omega | (simp only [List.length_append, List.length_cons, List.length_nil, List.length_set, List.length_take, List.length_drop, List.length_replicate, List.length_map, Nat.min_def]; omega) | (simp; done) | (simp; omega) | done)), trivial, trivial, trivial⟩ ?_
          intro a w h
          refine in_normal ?_
          refine then_normal ?_
          refine at_regq (T := S_spec_HashVector_tab) [{}, { nw := true }] { ts := [1, 2, 4, 5, 6], os := [1] } [I64 (((i : Nat) : Int) + 1)] gamOK hT h (by kernel_rfl) ⟨⟨by first | omega | (simp only [List.length_append, List.length_cons, List.length_nil, List.length_set, List.length_take, List.length_drop, List.length_replicate, List.length_map, Nat.min_def]; omega) | (simp; done) | (simp; omega) | done, by first | omega | (simp only [List.length_append, List.length_cons, List.length_nil, List.length_set, List.length_take, List.length_drop, List.length_replicate, List.length_map, Nat.min_def]; omega) | (simp; done) | (simp; omega) | done⟩, trivial⟩ ?_
          intro a w h
          replace h := at_out (σ' := ⟨[(1, aF (.int 3) x1), (2, aP 1 0), (4, aI 0), (5, aI (mulG (hpw x0 x1 i) (powG (x0.getD i 0) (x1.getD i 0)))), (6, aI (((i : Nat) : Int) + 1))], [(1, oX 57 [.ro (.int 3) x0])]⟩) { ts := [1, 2, 4, 5, 6], os := [1] } h (by kernel_rfl)
          exact ⟨i + 1, at_eq h (st_congr2 (fun (d0 : Int) (d1 : Int) => (⟨[(1, aF (.int 3) x1), (2, aP 1 0), (4, aI 0), (5, aI d0), (6, aI d1)], [(1, oX 57 [.ro (.int 3) x0])]⟩ : St)) (show ((mulG (hpw x0 x1 i) (powG (x0.getD i 0) (x1.getD i 0))) : Int) = (hpw x0 x1 (i + 1)) from by first | with_reducible rfl | (exact hpw_step hhg hke (hvr i)) | rfl) (show (((i : Nat) : Int) + 1 : Int) = (((i + 1) : Nat) : Int) from by first | with_reducible rfl | (omega) | rfl)), (by omega), (by omega)⟩
        · replace h4 : ¬ (((i : Nat) : Int) < ((List.length x1 : Nat) : Int)) := of_decide_eq_false h4
          refine wp_exit ?_
          refine then_exit ?_
          replace h := at_out (σ' := ⟨[(4, aI 0), (5, aI (hpw x0 x1 i))], []⟩) { ts := [4, 5], os := [] } h (by kernel_rfl)
          replace h := at_eq (σ' := ⟨[(4, aI 0), (5, aI (powsL x0 x1))], []⟩) h (st_congr1 (fun (d0 : Int) => (⟨[(4, aI 0), (5, aI d0)], []⟩ : St)) (show ((hpw x0 x1 i) : Int) = (powsL x0 x1) from by first | with_reducible rfl | (unfold powsL; rw [show List.length x0 = i by omega]) | rfl))
          refine then_exit ?_
          refine in_hit ?_
          refine then_normal ?_
          refine wp_seq ?_
          refine at_regq (T := S_spec_HashVector_tab) [] { ts := [4], os := [] } [] gamOK hT h (by kernel_rfl) trivial ?_
          intro a w h
          refine then_normal ?_
          refine wp_ret ?_
          exact at_return (S := S_spec_HashVector) (x := (x0, x1, ())) ((powsL x0 x1), ()) [] h (by kernel_rfl) trivial (congrArg (fun z => (z, ())) (show ((powsL x0 x1)) = hashV x0 x1 from by first | rfl | (unfold hashV; rw [if_pos (notF h1), if_pos (notF h2), if_pos h3]; done) | (unfold hashV; simp_all)))
def hsOK (k : List Int) (g : T218) : Prop := validK k = true ∧ validG g = true ∧ colsOf g.2 = ((List.length k : Nat) : Int)
instance (k : List Int) (g : T218) : Decidable (hsOK k g) := by unfold hsOK; exact inferInstance
def hashSyms (k : List Int) (g : T218) : List Int := if hsOK k g then g.2.map (fun s => powsL k s) else []
theorem hashSyms_y {k : List Int} {g : T218} (h : hsOK k g) : g.2.map (fun s => powsL k s) = hashSyms k g := (if_pos h).symm
theorem hashSyms_n {k : List Int} {g : T218} (h : ¬ hsOK k g) : [] = hashSyms k g := (if_neg h).symm
theorem hashSyms_len {k : List Int} {g : T218} : List.length (hashSyms k g) ≤ List.length g.2 := by
  unfold hashSyms; split
  · simp
  · exact Nat.zero_le _
theorem hashSyms_nil {k : List Int} {g : T218} (h : List.length (hashSyms k g) = 0) : ¬ hsOK k g := fun e => by
  unfold hashSyms at h; rw [if_pos e, List.length_map] at h
  have := (validG_t e.2.1).2.1; omega
theorem hashV_sym {k : List Int} {g : T218} {i : Nat} (h : hsOK k g) (hi : i < List.length g.2) : hashV k (g.2.getD i []) = powsL k (g.2.getD i []) := by
  have hgm := (validG_t h.2.1).2.2.1
  have hgc := colsOf_at (m := g.2) (by omega)
  have hga := validM_at hgm i hi
  have hgv := (validM_t hgm).2 _ (getD_mem (z := []) hi)
  have h3 := h.2.2
  unfold hashV
  rw [if_pos h.1, if_pos hgv.1]
  first | rw [if_pos (by omega)] | rw [if_neg (by omega)]
theorem hashSyms_end {k : List Int} {g : T218} {i : Nat} (hi : i ≤ List.length g.2) (h : i = 0 ∨ hsOK k g) (he : List.length g.2 ≤ i ∨ ¬ hsOK k g) : List.map (fun s => powsL k s) (List.take i g.2) = hashSyms k g := by
  unfold hashSyms
  by_cases hs : hsOK k g
  · rw [if_pos hs, take_all (by rcases he with he | he; exact he; exact absurd hs he)]
  · rw [if_neg hs]
    rcases h with h | h
    · rw [h]; rfl
    · exact absurd h hs
def combH (hs cs : List Int) : Int := if validV cs = true ∧ List.length hs = List.length cs ∧ List.all hs isGrp = true then powsL hs cs else 0


def S_impl_CombineHashes : Sum := { fid := 314, dom := [s22, s22], cod := [(.int 3)], dp := true, fz := false, pre := fun x => (fun (x0 : (List Int)) (x1 : (List Int)) => Sh.fit s22 x0 ∧ Sh.fit s22 x1) x.1 x.2.1, g := fun x => ((combH x.1 x.2.1), ()) }
def S_impl_CombineHashes_tab : List (Nat × Sum) := [(253, S_impl_IsValidVector), (269, S_impl_IsGroupElement), (329, S_impl_powers)]
theorem S_impl_CombineHashes_ok : FnOK Try.prog 314 S_impl_CombineHashes := by
  refine at_enter 30 (fun x => ⟨[(0, aF (.int 3) x.1), (1, aF (.int 3) x.2.1)], []⟩) Try.func314 rfl (by kernel_rfl) (fun x => rfl) ?_
  rintro w0 Z0 ⟨x0, x1, u⟩ a w
  revert x0 x1
  intro (x0 : (List Int)) (x1 : (List Int)) hpre hlens h
  replace h : At w0 Z0 [] 30 ⟨[(0, aF (.int 3) x0), (1, aF (.int 3) x1)], []⟩ a w := h
  replace hpre : (fun (x0 : (List Int)) (x1 : (List Int)) => Sh.fit s22 x0 ∧ Sh.fit s22 x1) x0 x1 := hpre
  have hl1 : List.length x0 ≤ 9223372036854775807 := hlens.1.1
  have hl2 : List.length x1 ≤ 9223372036854775807 := hlens.2.1.1
  have hT : TabOK Try.prog S_impl_CombineHashes_tab := (.cons S_impl_IsValidVector_ok (.cons S_impl_IsGroupElement_ok (.cons S_impl_powers_ok .nil)))
  obtain ⟨hf0, hf1⟩ := hpre
  have hn0_1 : List.length x0 ≤ 1073741824 := hf0.1
  have hn1_2 : List.length x1 ≤ 1073741824 := hf1.1
  refine wp_seq ?_
  refine at_regq (T := S_impl_CombineHashes_tab) [] { ts := [0, 1, 4], os := [] } [] gamOK hT h (by kernel_rfl) trivial ?_
  intro a w h
  refine then_normal ?_
  refine wp_seq ?_
  refine wp_seq ?_
  rcases Bool.eq_false_or_eq_true (!(validV x1)) with h1 | h1
  · skip
    have hzh1 : (validV x1) = false := notT h1
    refine at_regq (T := S_impl_CombineHashes_tab) [{}, {}, { hint := some (aB true) }] { ts := [0, 1, 4, 16], os := [] } [(fun (x0 : (List Int)) => Sh.fit s22 x0) x1, (AV.p (.c (.v (.bool (!(validV x1))))) = AV.p (.c (.v (.bool true))))] gamOK hT h (by kernel_rfl) ⟨(by exact hf1), hint_bool (h1), trivial⟩ ?_
    intro a w h
    refine then_normal ?_
    refine at_test true h (by kernel_rfl) (fun hh => ?_) (fun hh => nomatch hh)
    refine wp_seq ?_
    refine at_regq (T := S_impl_CombineHashes_tab) [] { ts := [0, 1, 4], os := [] } [] gamOK hT h (by kernel_rfl) trivial ?_
    intro a w h
    refine then_normal ?_
    refine wp_ret ?_
    refine then_ret ?_
    exact at_return (S := S_impl_CombineHashes) (x := (x0, x1, ())) (0, ()) [] h (by kernel_rfl) trivial (congrArg (fun z => (z, ())) (show (0) = combH x0 x1 from by (unfold combH; first | (rw [if_pos ⟨by assumption, by omega, by assumption⟩]; done) | (rw [if_neg (fun e => by have e1 := e.1; have e2 := e.2.1; have e3 := e.2.2; first | omega | (simp_all; done))]; done))))
  · skip
    have hzh1 : (validV x1) = true := notF h1
    have hvh1 := validV_t (notF h1)
    refine at_regq (T := S_impl_CombineHashes_tab) [{}, {}, { hint := some (aB false) }] { ts := [0, 1, 4, 16], os := [] } [(fun (x0 : (List Int)) => Sh.fit s22 x0) x1, (AV.p (.c (.v (.bool (!(validV x1))))) = AV.p (.c (.v (.bool false))))] gamOK hT h (by kernel_rfl) ⟨(by exact hf1), hint_bool (h1), trivial⟩ ?_
    intro a w h
    refine then_normal ?_
    refine at_test (!decide (((List.length x0 : Nat) : Int) = ((List.length x1 : Nat) : Int))) h (by kernel_rfl) (fun h2 => ?_) (fun h2 => ?_)
    · replace h2 : ¬ (((List.length x0 : Nat) : Int) = ((List.length x1 : Nat) : Int)) := of_decide_eq_false (notT h2)
      refine wp_seq ?_
      refine at_regq (T := S_impl_CombineHashes_tab) [] { ts := [0, 1, 4], os := [] } [] gamOK hT h (by kernel_rfl) trivial ?_
      intro a w h
      refine then_normal ?_
      refine wp_ret ?_
      refine then_ret ?_
      exact at_return (S := S_impl_CombineHashes) (x := (x0, x1, ())) (0, ()) [] h (by kernel_rfl) trivial (congrArg (fun z => (z, ())) (show (0) = combH x0 x1 from by (unfold combH; first | (rw [if_pos ⟨by assumption, by omega, by assumption⟩]; done) | (rw [if_neg (fun e => by have e1 := e.1; have e2 := e.2.1; have e3 := e.2.2; first | omega | (simp_all; done))]; done))))
    · replace h2 : ((List.length x0 : Nat) : Int) = ((List.length x1 : Nat) : Int) := of_decide_eq_true (notF h2)
      refine wp_skip ?_
      refine then_normal ?_
      refine wp_seq ?_
      refine wp_seq ?_
      refine at_regq (T := S_impl_CombineHashes_tab) [] { ts := [0, 1, 4, 17, 18, 19], os := [] } [] gamOK hT h (by kernel_rfl) trivial ?_
      intro a w h
      refine then_normal ?_
      refine wp_block ?_
      replace h := at_out (σ' := ⟨[(0, aF (.int 3) x0), (1, aF (.int 3) x1), (4, aI 0), (17, aF (.int 3) x0), (18, aI ((List.length x0 : Nat) : Int)), (19, aI 0)], []⟩) { ts := [0, 1, 4, 17, 18, 19], os := [] } h (by kernel_rfl)
      refine at_loop (fun i : Nat => (⟨[(0, aF (.int 3) x0), (1, aF (.int 3) x1), (4, aI 0), (17, aF (.int 3) x0), (18, aI ((List.length x0 : Nat) : Int)), (19, aI ((i : Nat) : Int))], []⟩ : St)) (fun i => (i ≤ List.length x0 ∧ allTo1 isGrp x0 0 i)) (fun i => List.length x0 - i) (0) h (st_congr1 (fun (d0 : Int) => (⟨[(0, aF (.int 3) x0), (1, aF (.int 3) x1), (4, aI 0), (17, aF (.int 3) x0), (18, aI ((List.length x0 : Nat) : Int)), (19, aI d0)], []⟩ : St)) (show (0 : Int) = (((0) : Nat) : Int) from by first | with_reducible rfl | (rfl) | rfl)) (by exact ⟨Nat.zero_le _, allTo1_zero⟩) ?_
      intro i a w hok0 h
      refine wp_seq ?_
      refine at_reg (T := S_impl_CombineHashes_tab) [] { ts := [0, 1, 4, 17, 18, 19, 20], os := [] } ⟨[(0, aF (.int 3) x0), (1, aF (.int 3) x1), (4, aI 0), (17, aF (.int 3) x0), (18, aI ((List.length x0 : Nat) : Int)), (19, aI ((i : Nat) : Int)), (20, aB (decide (((i : Nat) : Int) < ((List.length x0 : Nat) : Int))))], []⟩ [] gamOK hT h (by kernel_rfl) trivial ?_
      intro a w h
      refine then_normal ?_
      refine wp_seq ?_
      refine at_test (decide (((i : Nat) : Int) < ((List.length x0 : Nat) : Int))) h (by kernel_rfl) (fun h3 => ?_) (fun h3 => ?_)
      · replace h3 : ((i : Nat) : Int) < ((List.length x0 : Nat) : Int) := of_decide_eq_true h3
        refine wp_skip ?_
        refine then_normal ?_
        refine wp_seq ?_
        refine wp_block ?_
        refine wp_seq ?_
        refine at_regq (T := S_impl_CombineHashes_tab) [] { ts := [0, 1, 4, 6, 17, 18, 19], os := [] } [(0 : Int) ≤ ((i : Nat) : Int) ∧ ((i : Nat) : Int) < ((List.length x0 : Nat) : Int)] gamOK hT h (by kernel_rfl) ⟨(by refine ⟨?_, ?_⟩ <;> (first | omega | (simp only [List.length_append, List.length_cons, List.length_nil, List.length_set, List.length_take, List.length_drop, List.length_replicate, List.length_map, Nat.min_def]; omega) | (simp; done) | (simp; omega) | done)), trivial⟩ ?_
        intro a w h
        refine then_normal ?_
        refine wp_seq ?_
        refine at_regq (T := S_impl_CombineHashes_tab) [] { ts := [0, 1, 4, 17, 18, 19, 25], os := [] } [True] gamOK hT h (by kernel_rfl) ⟨trivial, trivial⟩ ?_
        intro a w h
        refine then_normal ?_
        refine at_test (!(isGrp (x0.getD i 0))) h (by kernel_rfl) (fun h4 => ?_) (fun h4 => ?_)
        · replace h4 : (isGrp (x0.getD i 0)) = false := notT h4
          refine wp_seq ?_
          refine at_regq (T := S_impl_CombineHashes_tab) [] { ts := [0, 1, 4, 17, 18, 19], os := [] } [] gamOK hT h (by kernel_rfl) trivial ?_
          intro a w h
          refine then_normal ?_
          refine wp_ret ?_
          refine in_ret ?_
          refine then_ret ?_
          have hs5 : (List.all x0 isGrp) = false := by exact all_at (z := 0) (i := i) (by omega) (by first | assumption | (simp_all; done))
          refine then_ret ?_
          refine in_ret ?_
          refine then_ret ?_
          exact at_return (S := S_impl_CombineHashes) (x := (x0, x1, ())) (0, ()) [] h (by kernel_rfl) trivial (congrArg (fun z => (z, ())) (show (0) = combH x0 x1 from by (unfold combH; first | (rw [if_pos ⟨by assumption, by omega, by assumption⟩]; done) | (rw [if_neg (fun e => by have e1 := e.1; have e2 := e.2.1; have e3 := e.2.2; first | omega | (simp_all; done))]; done))))
        · replace h4 : (isGrp (x0.getD i 0)) = true := notF h4
          have hvh4 := isGrp_t h4
          refine wp_skip ?_
          refine in_normal ?_
          refine then_normal ?_
          refine at_regq (T := S_impl_CombineHashes_tab) [{ nw := true }] { ts := [0, 1, 4, 17, 18, 19], os := [] } [I64 (((i : Nat) : Int) + 1)] gamOK hT h (by kernel_rfl) ⟨⟨by first | omega | (simp only [List.length_append, List.length_cons, List.length_nil, List.length_set, List.length_take, List.length_drop, List.length_replicate, List.length_map, Nat.min_def]; omega) | (simp; done) | (simp; omega) | done, by first | omega | (simp only [List.length_append, List.length_cons, List.length_nil, List.length_set, List.length_take, List.length_drop, List.length_replicate, List.length_map, Nat.min_def]; omega) | (simp; done) | (simp; omega) | done⟩, trivial⟩ ?_
          intro a w h
          replace h := at_out (σ' := ⟨[(0, aF (.int 3) x0), (1, aF (.int 3) x1), (4, aI 0), (17, aF (.int 3) x0), (18, aI ((List.length x0 : Nat) : Int)), (19, aI (((i : Nat) : Int) + 1))], []⟩) { ts := [0, 1, 4, 17, 18, 19], os := [] } h (by kernel_rfl)
          exact ⟨i + 1, at_eq h (st_congr1 (fun (d0 : Int) => (⟨[(0, aF (.int 3) x0), (1, aF (.int 3) x1), (4, aI 0), (17, aF (.int 3) x0), (18, aI ((List.length x0 : Nat) : Int)), (19, aI d0)], []⟩ : St)) (show (((i : Nat) : Int) + 1 : Int) = (((i + 1) : Nat) : Int) from by first | with_reducible rfl | (omega) | rfl)), (by exact ⟨by omega, allTo1_succ hok0.2 (by first | assumption | (simp_all; done))⟩), (by omega)⟩
      · replace h3 : ¬ (((i : Nat) : Int) < ((List.length x0 : Nat) : Int)) := of_decide_eq_false h3
        refine wp_exit ?_
        refine then_exit ?_
        have hs6 : (List.all x0 isGrp) = true := by exact all_of (z := 0) (i := i) (by omega) hok0.2
        refine then_exit ?_
        refine in_hit ?_
        refine then_normal ?_
        refine wp_seq ?_
        refine at_regq (T := S_impl_CombineHashes_tab) [] { ts := [4], os := [] } [(fun (x0 : (List Int)) (x1 : (List Int)) => Sh.fit s22 x0 ∧ Sh.fit s22 x1 ∧ powsP x0 x1) x0 x1] gamOK hT h (by kernel_rfl) ⟨(by exact ⟨hf0, hf1, by omega, grp_at (List.all_eq_true.1 (by assumption)), (validV_t (by assumption)).2.2⟩), trivial⟩ ?_
        intro a w h
        refine then_normal ?_
        refine wp_ret ?_
        exact at_return (S := S_impl_CombineHashes) (x := (x0, x1, ())) ((powsL x0 x1), ()) [] h (by kernel_rfl) trivial (congrArg (fun z => (z, ())) (show ((powsL x0 x1)) = combH x0 x1 from by (unfold combH; first | (rw [if_pos ⟨by assumption, by omega, by assumption⟩]; done) | (rw [if_neg (fun e => by have e1 := e.1; have e2 := e.2.1; have e3 := e.2.2; first | omega | (simp_all; done))]; done))))

def S_spec_CombineHashes : Sum := { fid := 310, dom := [s22, s22], cod := [(.int 3)], dp := true, fz := false, pre := fun x => (fun (x0 : (List Int)) (x1 : (List Int)) => Sh.fit s22 x0 ∧ Sh.fit s22 x1) x.1 x.2.1, g := fun x => ((combH x.1 x.2.1), ()) }
def S_spec_CombineHashes_tab : List (Nat × Sum) := [(221, S_spec_IsValidVector), (263, S_spec_IsGroupElement), (328, S_spec_PowGroup), (327, S_spec_MulGroup)]
theorem S_spec_CombineHashes_ok : FnOK Try.prog 310 S_spec_CombineHashes := by
  refine at_enter 41 (fun x => ⟨[(0, aF (.int 3) x.1), (1, aF (.int 3) x.2.1)], []⟩) Try.func310 rfl (by kernel_rfl) (fun x => rfl) ?_
  rintro w0 Z0 ⟨x0, x1, u⟩ a w
  revert x0 x1
  intro (x0 : (List Int)) (x1 : (List Int)) hpre hlens h
  replace h : At w0 Z0 [] 41 ⟨[(0, aF (.int 3) x0), (1, aF (.int 3) x1)], []⟩ a w := h
  replace hpre : (fun (x0 : (List Int)) (x1 : (List Int)) => Sh.fit s22 x0 ∧ Sh.fit s22 x1) x0 x1 := hpre
  have hl1 : List.length x0 ≤ 9223372036854775807 := hlens.1.1
  have hl2 : List.length x1 ≤ 9223372036854775807 := hlens.2.1.1
  have hT : TabOK Try.prog S_spec_CombineHashes_tab := (.cons S_spec_IsValidVector_ok (.cons S_spec_IsGroupElement_ok (.cons S_spec_PowGroup_ok (.cons S_spec_MulGroup_ok .nil))))
  obtain ⟨hf0, hf1⟩ := hpre
  have hn0_1 : List.length x0 ≤ 1073741824 := hf0.1
  have hn1_2 : List.length x1 ≤ 1073741824 := hf1.1
  refine wp_seq ?_
  refine at_regq (T := S_spec_CombineHashes_tab) [] { ts := [0, 1, 4], os := [] } [] gamOK hT h (by kernel_rfl) trivial ?_
  intro a w h
  refine then_normal ?_
  refine wp_seq ?_
  refine wp_seq ?_
  rcases Bool.eq_false_or_eq_true (!(validV x1)) with h1 | h1
  · skip
    have hzh1 : (validV x1) = false := notT h1
    refine at_regq (T := S_spec_CombineHashes_tab) [{}, {}, { hint := some (aB true) }] { ts := [0, 1, 4, 16], os := [] } [(fun (x0 : (List Int)) => Sh.fit s22 x0) x1, (AV.p (.c (.v (.bool (!(validV x1))))) = AV.p (.c (.v (.bool true))))] gamOK hT h (by kernel_rfl) ⟨(by exact hf1), hint_bool (h1), trivial⟩ ?_
    intro a w h
    refine then_normal ?_
    refine at_test true h (by kernel_rfl) (fun hh => ?_) (fun hh => nomatch hh)
    refine wp_seq ?_
    refine at_regq (T := S_spec_CombineHashes_tab) [] { ts := [0, 1, 4], os := [] } [] gamOK hT h (by kernel_rfl) trivial ?_
    intro a w h
    refine then_normal ?_
    refine wp_ret ?_
    refine then_ret ?_
    exact at_return (S := S_spec_CombineHashes) (x := (x0, x1, ())) (0, ()) [] h (by kernel_rfl) trivial (congrArg (fun z => (z, ())) (show (0) = combH x0 x1 from by (unfold combH; first | (rw [if_pos ⟨by assumption, by omega, all_of (z := 0) (i := i) (by omega) hok0.2⟩, show powsL x0 x1 = hpw x0 x1 (List.length x0) from rfl, show List.length x0 = i by omega]; done) | (rw [if_neg (fun e => by have e1 := e.1; have e2 := e.2.1; have e3 := e.2.2; first | omega | (simp_all; done) | (rw [all_at (z := 0) (i := i) (by omega) (by first | assumption | (simp_all; done))] at e3; cases e3))]; done))))
  · skip
    have hzh1 : (validV x1) = true := notF h1
    have hvh1 := validV_t (notF h1)
    refine at_regq (T := S_spec_CombineHashes_tab) [{}, {}, { hint := some (aB false) }] { ts := [0, 1, 4, 16], os := [] } [(fun (x0 : (List Int)) => Sh.fit s22 x0) x1, (AV.p (.c (.v (.bool (!(validV x1))))) = AV.p (.c (.v (.bool false))))] gamOK hT h (by kernel_rfl) ⟨(by exact hf1), hint_bool (h1), trivial⟩ ?_
    intro a w h
    refine then_normal ?_
    refine at_test (!decide (((List.length x0 : Nat) : Int) = ((List.length x1 : Nat) : Int))) h (by kernel_rfl) (fun h2 => ?_) (fun h2 => ?_)
    · replace h2 : ¬ (((List.length x0 : Nat) : Int) = ((List.length x1 : Nat) : Int)) := of_decide_eq_false (notT h2)
      refine wp_seq ?_
      refine at_regq (T := S_spec_CombineHashes_tab) [] { ts := [0, 1, 4], os := [] } [] gamOK hT h (by kernel_rfl) trivial ?_
      intro a w h
      refine then_normal ?_
      refine wp_ret ?_
      refine then_ret ?_
      exact at_return (S := S_spec_CombineHashes) (x := (x0, x1, ())) (0, ()) [] h (by kernel_rfl) trivial (congrArg (fun z => (z, ())) (show (0) = combH x0 x1 from by (unfold combH; first | (rw [if_pos ⟨by assumption, by omega, all_of (z := 0) (i := i) (by omega) hok0.2⟩, show powsL x0 x1 = hpw x0 x1 (List.length x0) from rfl, show List.length x0 = i by omega]; done) | (rw [if_neg (fun e => by have e1 := e.1; have e2 := e.2.1; have e3 := e.2.2; first | omega | (simp_all; done) | (rw [all_at (z := 0) (i := i) (by omega) (by first | assumption | (simp_all; done))] at e3; cases e3))]; done))))
    · replace h2 : ((List.length x0 : Nat) : Int) = ((List.length x1 : Nat) : Int) := of_decide_eq_true (notF h2)
      refine wp_skip ?_
      refine then_normal ?_
      refine wp_seq ?_
      refine at_regq (T := S_spec_CombineHashes_tab) [] { ts := [0, 1, 4, 5], os := [] } [] gamOK hT h (by kernel_rfl) trivial ?_
      intro a w h
      refine then_normal ?_
      refine wp_seq ?_
      refine wp_seq ?_
      refine at_reg (T := S_spec_CombineHashes_tab) [] { ts := [0, 1, 4, 5, 6], os := [] } ⟨[(0, aF (.int 3) x0), (1, aF (.int 3) x1), (4, aI 0), (5, aI 1), (6, aI 0)], []⟩ [] gamOK hT h (by kernel_rfl) trivial ?_
      intro a w h
      refine then_normal ?_
      refine wp_block ?_
      replace h := at_out (σ' := ⟨[(0, aF (.int 3) x0), (1, aF (.int 3) x1), (4, aI 0), (5, aI 1), (6, aI 0)], []⟩) { ts := [0, 1, 4, 5, 6], os := [] } h (by kernel_rfl)
      refine at_loop (fun i : Nat => (⟨[(0, aF (.int 3) x0), (1, aF (.int 3) x1), (4, aI 0), (5, aI (hpw x0 x1 i)), (6, aI ((i : Nat) : Int))], []⟩ : St)) (fun i => (i ≤ List.length x0 ∧ allTo1 isGrp x0 0 i)) (fun i => List.length x0 - i) (0) h (st_congr2 (fun (d0 : Int) (d1 : Int) => (⟨[(0, aF (.int 3) x0), (1, aF (.int 3) x1), (4, aI 0), (5, aI d0), (6, aI d1)], []⟩ : St)) (show (1 : Int) = (hpw x0 x1 (0)) from by first | with_reducible rfl | (rfl) | rfl) (show (0 : Int) = (((0) : Nat) : Int) from by first | with_reducible rfl | (rfl) | rfl)) (by exact ⟨Nat.zero_le _, allTo1_zero⟩) ?_
      intro i a w hok0 h
      refine wp_seq ?_
      refine wp_seq ?_
      refine at_regq (T := S_spec_CombineHashes_tab) [] { ts := [0, 1, 4, 5, 6, 20], os := [] } [] gamOK hT h (by kernel_rfl) trivial ?_
      intro a w h
      refine then_normal ?_
      refine at_test (decide (((i : Nat) : Int) < ((List.length x0 : Nat) : Int))) h (by kernel_rfl) (fun h3 => ?_) (fun h3 => ?_)
      · replace h3 : ((i : Nat) : Int) < ((List.length x0 : Nat) : Int) := of_decide_eq_true h3
        have hvr := (validV_t (v := x1) (by assumption)).2.2
        refine wp_skip ?_
        refine then_normal ?_
        refine wp_seq ?_
        refine wp_block ?_
        refine wp_seq ?_
        refine wp_seq ?_
        refine at_regq (T := S_spec_CombineHashes_tab) [] { ts := [0, 1, 4, 5, 6, 28], os := [] } [(0 : Int) ≤ ((i : Nat) : Int) ∧ ((i : Nat) : Int) < ((List.length x0 : Nat) : Int), True] gamOK hT h (by kernel_rfl) ⟨(by refine ⟨?_, ?_⟩ <;> (first | omega | (simp only [List.length_append, List.length_cons, List.length_nil, List.length_set, List.length_take, List.length_drop, List.length_replicate, List.length_map, Nat.min_def]; omega) | (simp; done) | (simp; omega) | done)), trivial, trivial⟩ ?_
        intro a w h
        refine then_normal ?_
        refine at_test (!(isGrp (x0.getD i 0))) h (by kernel_rfl) (fun h4 => ?_) (fun h4 => ?_)
        · replace h4 : (isGrp (x0.getD i 0)) = false := notT h4
          refine wp_seq ?_
          refine at_regq (T := S_spec_CombineHashes_tab) [] { ts := [0, 1, 4, 5, 6], os := [] } [] gamOK hT h (by kernel_rfl) trivial ?_
          intro a w h
          refine then_normal ?_
          refine wp_ret ?_
          refine then_ret ?_
          refine in_ret ?_
          refine then_ret ?_
          refine then_ret ?_
          refine in_ret ?_
          refine then_ret ?_
          exact at_return (S := S_spec_CombineHashes) (x := (x0, x1, ())) (0, ()) [] h (by kernel_rfl) trivial (congrArg (fun z => (z, ())) (show (0) = combH x0 x1 from by (unfold combH; first | (rw [if_pos ⟨by assumption, by omega, all_of (z := 0) (i := i) (by omega) hok0.2⟩, show powsL x0 x1 = hpw x0 x1 (List.length x0) from rfl, show List.length x0 = i by omega]; done) | (rw [if_neg (fun e => by have e1 := e.1; have e2 := e.2.1; have e3 := e.2.2; first | omega | (simp_all; done) | (rw [all_at (z := 0) (i := i) (by omega) (by first | assumption | (simp_all; done))] at e3; cases e3))]; done))))
        · replace h4 : (isGrp (x0.getD i 0)) = true := notF h4
          have hvh4 := isGrp_t h4
          refine wp_skip ?_
          refine then_normal ?_
          refine at_anyq (T := S_spec_CombineHashes_tab) [{}, {}, {}, {}, {}, {}, {}, {}, {}, {}, {}, {}] { ts := [0, 1, 4, 5, 6], os := [] } [(0 : Int) ≤ ((i : Nat) : Int) ∧ ((i : Nat) : Int) < ((List.length x0 : Nat) : Int), (0 : Int) ≤ ((i : Nat) : Int) ∧ ((i : Nat) : Int) < ((List.length x1 : Nat) : Int), True, True] gamOK hT mixed h (by kernel_rfl) ⟨(by refine ⟨?_, ?_⟩ <;> (first | omega | (simp only [List.length_append, List.length_cons, List.length_nil, List.length_set, List.length_take, List.length_drop, List.length_replicate, List.length_map, Nat.min_def]; omega) | (simp; done) | (simp; omega) | done)), (by refine ⟨?_, ?_⟩ <;> (first | omega | (simp only [List.length_append, List.length_cons, List.length_nil, List.length_set, List.length_take, List.length_drop, List.length_replicate, List.length_map, Nat.min_def]; omega) | (simp; done) | (simp; omega) | done)), trivial, trivial, trivial⟩ ?_
          intro a w h
          refine in_normal ?_
          refine then_normal ?_
          refine at_reg (T := S_spec_CombineHashes_tab) [{}, { nw := true }] { ts := [0, 1, 4, 5, 6], os := [] } ⟨[(0, aF (.int 3) x0), (1, aF (.int 3) x1), (4, aI 0), (5, aI (mulG (hpw x0 x1 i) (powG (x0.getD i 0) (x1.getD i 0)))), (6, aI (((i : Nat) : Int) + 1))], []⟩ [I64 (((i : Nat) : Int) + 1)] gamOK hT h (by kernel_rfl) ⟨⟨by first | omega | (simp only [List.length_append, List.length_cons, List.length_nil, List.length_set, List.length_take, List.length_drop, List.length_replicate, List.length_map, Nat.min_def]; omega) | (simp; done) | (simp; omega) | done, by first | omega | (simp only [List.length_append, List.length_cons, List.length_nil, List.length_set, List.length_take, List.length_drop, List.length_replicate, List.length_map, Nat.min_def]; omega) | (simp; done) | (simp; omega) | done⟩, trivial⟩ ?_
          intro a w h
          replace h := at_out (σ' := ⟨[(0, aF (.int 3) x0), (1, aF (.int 3) x1), (4, aI 0), (5, aI (mulG (hpw x0 x1 i) (powG (x0.getD i 0) (x1.getD i 0)))), (6, aI (((i : Nat) : Int) + 1))], []⟩) { ts := [0, 1, 4, 5, 6], os := [] } h (by kernel_rfl)
          exact ⟨i + 1, at_eq h (st_congr2 (fun (d0 : Int) (d1 : Int) => (⟨[(0, aF (.int 3) x0), (1, aF (.int 3) x1), (4, aI 0), (5, aI d0), (6, aI d1)], []⟩ : St)) (show ((mulG (hpw x0 x1 i) (powG (x0.getD i 0) (x1.getD i 0))) : Int) = (hpw x0 x1 (i + 1)) from by first | with_reducible rfl | (exact hpw_step (hpw_grpTo hok0.2 hvr (by omega)) (by first | assumption | (simp_all; done)) (hvr i)) | rfl) (show (((i : Nat) : Int) + 1 : Int) = (((i + 1) : Nat) : Int) from by first | with_reducible rfl | (omega) | rfl)), (by exact ⟨by omega, allTo1_succ hok0.2 (by first | assumption | (simp_all; done))⟩), (by omega)⟩
      · replace h3 : ¬ (((i : Nat) : Int) < ((List.length x0 : Nat) : Int)) := of_decide_eq_false h3
        refine wp_exit ?_
        refine then_exit ?_
        refine then_exit ?_
        refine in_hit ?_
        refine then_normal ?_
        refine wp_seq ?_
        refine at_regq (T := S_spec_CombineHashes_tab) [] { ts := [4], os := [] } [] gamOK hT h (by kernel_rfl) trivial ?_
        intro a w h
        refine then_normal ?_
        refine wp_ret ?_
        exact at_return (S := S_spec_CombineHashes) (x := (x0, x1, ())) ((hpw x0 x1 i), ()) [] h (by kernel_rfl) trivial (congrArg (fun z => (z, ())) (show ((hpw x0 x1 i)) = combH x0 x1 from by (unfold combH; first | (rw [if_pos ⟨by assumption, by omega, all_of (z := 0) (i := i) (by omega) hok0.2⟩, show powsL x0 x1 = hpw x0 x1 (List.length x0) from rfl, show List.length x0 = i by omega]; done) | (rw [if_neg (fun e => by have e1 := e.1; have e2 := e.2.1; have e3 := e.2.2; first | omega | (simp_all; done) | (rw [all_at (z := 0) (i := i) (by omega) (by first | assumption | (simp_all; done))] at e3; cases e3))]; done))))

def verH (x0 : (List Int)) (x1 : (List Int)) (x2 : T61) : Bool := (if (hashV x0 x2.2.2) = 0 then false else decide ((hashV x0 x2.2.2) = (combH x1 x2.2.1)))
def S_impl_VerifyHash : Sum := { fid := 271, dom := [s57, s22, s61], cod := [(.bool 4)], dp := true, fz := false, pre := fun x => (fun (x0 : (List Int)) (x1 : (List Int)) (x2 : T61) => Sh.fit s57 x0 ∧ Sh.fit s22 x1 ∧ Sh.fit s61 x2) x.1 x.2.1 x.2.2.1, g := fun x => ((verH x.1 x.2.1 x.2.2.1), ()) }
def S_impl_VerifyHash_tab : List (Nat × Sum) := [(313, S_impl_HashVector), (314, S_impl_CombineHashes)]
theorem S_impl_VerifyHash_ok : FnOK Try.prog 271 S_impl_VerifyHash := by
  refine at_enter 22 (fun x => ⟨[(0, aG [.ro (.int 3) x.1]), (1, aF (.int 3) x.2.1), (2, aG [cI x.2.2.1.1, .ro (.int 3) x.2.2.1.2.1, .ro (.int 3) x.2.2.1.2.2])], []⟩) Try.func271 rfl (by kernel_rfl) (fun x => rfl) ?_
  rintro w0 Z0 ⟨x0, x1, x2, u⟩ a w
  revert x0 x1 x2
  intro (x0 : (List Int)) (x1 : (List Int)) (x2 : T61) hpre hlens h
  replace h : At w0 Z0 [] 22 ⟨[(0, aG [.ro (.int 3) x0]), (1, aF (.int 3) x1), (2, aG [cI x2.1, .ro (.int 3) x2.2.1, .ro (.int 3) x2.2.2])], []⟩ a w := h
  replace hpre : (fun (x0 : (List Int)) (x1 : (List Int)) (x2 : T61) => Sh.fit s57 x0 ∧ Sh.fit s22 x1 ∧ Sh.fit s61 x2) x0 x1 x2 := hpre
  have hl1 : List.length x0 ≤ 9223372036854775807 := hlens.1.1
  have hl2 : List.length x1 ≤ 9223372036854775807 := hlens.2.1.1
  have hl3 : List.length x2.2.1 ≤ 9223372036854775807 := hlens.2.2.1.2.1.1
  have hl4 : List.length x2.2.2 ≤ 9223372036854775807 := hlens.2.2.1.2.2.1
  have hT : TabOK Try.prog S_impl_VerifyHash_tab := (.cons S_impl_HashVector_ok (.cons S_impl_CombineHashes_ok .nil))
  obtain ⟨hf0, hf1, hf2⟩ := hpre
  have hn0_1 : List.length x0 ≤ 1073741824 := hf0.1
  have hn1_2 : List.length x1 ≤ 1073741824 := hf1.1
  have hn2_3 : List.length x2.2.1 ≤ 1073741824 := hf2.2.1.1
  have hn2_4 : List.length x2.2.2 ≤ 1073741824 := hf2.2.2.1
  refine wp_seq ?_
  refine at_regq (T := S_impl_VerifyHash_tab) [{ ids := [1] }, { ids := [2] }] { ts := [1, 3, 5, 6], os := [1, 2] } [] gamOK hT h (by kernel_rfl) trivial ?_
  intro a w h
  refine then_normal ?_
  refine wp_seq ?_
  refine at_regq (T := S_impl_VerifyHash_tab) [] { ts := [1, 5, 6, 7], os := [2] } [(fun (x0 : (List Int)) (x1 : (List Int)) => Sh.fit s57 x0 ∧ Sh.fit s22 x1) x0 x2.2.2] gamOK hT h (by kernel_rfl) ⟨(by exact ⟨hf0, hf2.2.2⟩), trivial⟩ ?_
  intro a w h
  refine then_normal ?_
  refine wp_seq ?_
  by_cases h1 : (hashV x0 x2.2.2) = 0
  · skip
    refine at_regq (T := S_impl_VerifyHash_tab) [{}, { hint := some (aB false) }] { ts := [6], os := [] } [(AV.p (.c (.v (.bool (!decide ((hashV x0 x2.2.2) = 0))))) = AV.p (.c (.v (.bool false))))] gamOK hT h (by kernel_rfl) ⟨hint_bool (ndT h1), trivial⟩ ?_
    intro a w h
    refine then_normal ?_
    refine wp_ret ?_
    exact at_return (S := S_impl_VerifyHash) (x := (x0, x1, x2, ())) (false, ()) [] h (by kernel_rfl) trivial (congrArg (fun z => (z, ())) (show (false) = verH x0 x1 x2 from by first | rfl | (unfold verH; rw [if_pos h1])))
  · skip
    refine at_regq (T := S_impl_VerifyHash_tab) [{}, { hint := some (aB true) }] { ts := [6], os := [] } [(AV.p (.c (.v (.bool (!decide ((hashV x0 x2.2.2) = 0))))) = AV.p (.c (.v (.bool true)))), (fun (x0 : (List Int)) (x1 : (List Int)) => Sh.fit s22 x0 ∧ Sh.fit s22 x1) x1 x2.2.1] gamOK hT h (by kernel_rfl) ⟨hint_bool (ndF h1), (by exact ⟨hf1, hf2.2.1⟩), trivial⟩ ?_
    intro a w h
    refine then_normal ?_
    refine wp_ret ?_
    exact at_return (S := S_impl_VerifyHash) (x := (x0, x1, x2, ())) (decide ((hashV x0 x2.2.2) = (combH x1 x2.2.1)), ()) [] h (by kernel_rfl) trivial (congrArg (fun z => (z, ())) (show (decide ((hashV x0 x2.2.2) = (combH x1 x2.2.1))) = verH x0 x1 x2 from by first | rfl | (unfold verH; rw [if_neg h1])))

def S_spec_VerifyHash : Sum := { fid := 265, dom := [s57, s22, s61], cod := [(.bool 4)], dp := true, fz := false, pre := fun x => (fun (x0 : (List Int)) (x1 : (List Int)) (x2 : T61) => Sh.fit s57 x0 ∧ Sh.fit s22 x1 ∧ Sh.fit s61 x2) x.1 x.2.1 x.2.2.1, g := fun x => ((verH x.1 x.2.1 x.2.2.1), ()) }
def S_spec_VerifyHash_tab : List (Nat × Sum) := [(309, S_spec_HashVector), (310, S_spec_CombineHashes)]
theorem S_spec_VerifyHash_ok : FnOK Try.prog 265 S_spec_VerifyHash := by
  refine at_enter 22 (fun x => ⟨[(0, aG [.ro (.int 3) x.1]), (1, aF (.int 3) x.2.1), (2, aG [cI x.2.2.1.1, .ro (.int 3) x.2.2.1.2.1, .ro (.int 3) x.2.2.1.2.2])], []⟩) Try.func265 rfl (by kernel_rfl) (fun x => rfl) ?_
  rintro w0 Z0 ⟨x0, x1, x2, u⟩ a w
  revert x0 x1 x2
  intro (x0 : (List Int)) (x1 : (List Int)) (x2 : T61) hpre hlens h
  replace h : At w0 Z0 [] 22 ⟨[(0, aG [.ro (.int 3) x0]), (1, aF (.int 3) x1), (2, aG [cI x2.1, .ro (.int 3) x2.2.1, .ro (.int 3) x2.2.2])], []⟩ a w := h
  replace hpre : (fun (x0 : (List Int)) (x1 : (List Int)) (x2 : T61) => Sh.fit s57 x0 ∧ Sh.fit s22 x1 ∧ Sh.fit s61 x2) x0 x1 x2 := hpre
  have hl1 : List.length x0 ≤ 9223372036854775807 := hlens.1.1
  have hl2 : List.length x1 ≤ 9223372036854775807 := hlens.2.1.1
  have hl3 : List.length x2.2.1 ≤ 9223372036854775807 := hlens.2.2.1.2.1.1
  have hl4 : List.length x2.2.2 ≤ 9223372036854775807 := hlens.2.2.1.2.2.1
  have hT : TabOK Try.prog S_spec_VerifyHash_tab := (.cons S_spec_HashVector_ok (.cons S_spec_CombineHashes_ok .nil))
  obtain ⟨hf0, hf1, hf2⟩ := hpre
  have hn0_1 : List.length x0 ≤ 1073741824 := hf0.1
  have hn1_2 : List.length x1 ≤ 1073741824 := hf1.1
  have hn2_3 : List.length x2.2.1 ≤ 1073741824 := hf2.2.1.1
  have hn2_4 : List.length x2.2.2 ≤ 1073741824 := hf2.2.2.1
  refine wp_seq ?_
  refine at_regq (T := S_spec_VerifyHash_tab) [{ ids := [1] }, { ids := [2] }] { ts := [1, 3, 5, 6], os := [1, 2] } [] gamOK hT h (by kernel_rfl) trivial ?_
  intro a w h
  refine then_normal ?_
  refine wp_seq ?_
  refine at_regq (T := S_spec_VerifyHash_tab) [] { ts := [1, 5, 6, 7], os := [2] } [(fun (x0 : (List Int)) (x1 : (List Int)) => Sh.fit s57 x0 ∧ Sh.fit s22 x1) x0 x2.2.2] gamOK hT h (by kernel_rfl) ⟨(by exact ⟨hf0, hf2.2.2⟩), trivial⟩ ?_
  intro a w h
  refine then_normal ?_
  refine wp_seq ?_
  by_cases h1 : (hashV x0 x2.2.2) = 0
  · skip
    refine at_regq (T := S_spec_VerifyHash_tab) [{}, { hint := some (aB false) }] { ts := [6], os := [] } [(AV.p (.c (.v (.bool (!decide ((hashV x0 x2.2.2) = 0))))) = AV.p (.c (.v (.bool false))))] gamOK hT h (by kernel_rfl) ⟨hint_bool (ndT h1), trivial⟩ ?_
    intro a w h
    refine then_normal ?_
    refine wp_ret ?_
    exact at_return (S := S_spec_VerifyHash) (x := (x0, x1, x2, ())) (false, ()) [] h (by kernel_rfl) trivial (congrArg (fun z => (z, ())) (show (false) = verH x0 x1 x2 from by first | rfl | (unfold verH; rw [if_pos h1]; done) | (unfold verH; simp_all)))
  · skip
    refine at_regq (T := S_spec_VerifyHash_tab) [{}, { hint := some (aB true) }] { ts := [6], os := [] } [(AV.p (.c (.v (.bool (!decide ((hashV x0 x2.2.2) = 0))))) = AV.p (.c (.v (.bool true)))), (fun (x0 : (List Int)) (x1 : (List Int)) => Sh.fit s22 x0 ∧ Sh.fit s22 x1) x1 x2.2.1] gamOK hT h (by kernel_rfl) ⟨hint_bool (ndF h1), (by exact ⟨hf1, hf2.2.1⟩), trivial⟩ ?_
    intro a w h
    refine then_normal ?_
    refine wp_ret ?_
    exact at_return (S := S_spec_VerifyHash) (x := (x0, x1, x2, ())) (decide ((hashV x0 x2.2.2) = (combH x1 x2.2.1)), ()) [] h (by kernel_rfl) trivial (congrArg (fun z => (z, ())) (show (decide ((hashV x0 x2.2.2) = (combH x1 x2.2.1))) = verH x0 x1 x2 from by first | rfl | (unfold verH; rw [if_neg h1]; done) | (unfold verH; simp_all)))

def isFmt (x0 : Int) (x1 : Int) (x2 : Int) : Bool := (if (inR x0 0 1000000000000) = true then (if (inR x1 1 8) = true then (inR x2 1 16) else false) else false)
def S_impl_isFormat : Sum := { fid := 228, dom := [(.int 3), (.int 3), (.int 3)], cod := [(.bool 4)], dp := true, fz := false, pre := fun x => True, g := fun x => ((isFmt x.1 x.2.1 x.2.2.1), ()) }
def S_impl_isFormat_tab : List (Nat × Sum) := [(107, S_impl_InRange)]
theorem S_impl_isFormat_ok : FnOK Try.prog 228 S_impl_isFormat := by
  refine at_enter 17 (fun x => ⟨[(0, aI x.1), (1, aI x.2.1), (2, aI x.2.2.1)], []⟩) Try.func228 rfl (by kernel_rfl) (fun x => rfl) ?_
  rintro w0 Z0 ⟨x0, x1, x2, u⟩ a w
  revert x0 x1 x2
  intro (x0 : Int) (x1 : Int) (x2 : Int) hpre hlens h
  replace h : At w0 Z0 [] 17 ⟨[(0, aI x0), (1, aI x1), (2, aI x2)], []⟩ a w := h
  have hT : TabOK Try.prog S_impl_isFormat_tab := (.cons S_impl_InRange_ok .nil)
  refine wp_seq ?_
  refine at_regq (T := S_impl_isFormat_tab) [] { ts := [0, 1, 2, 6], os := [] } [] gamOK hT h (by kernel_rfl) trivial ?_
  intro a w h
  refine then_normal ?_
  refine wp_seq ?_
  rcases Bool.eq_false_or_eq_true ((inR x0 0 1000000000000)) with h1 | h1
  · skip
    have hvh1 := inR_t h1
    rcases Bool.eq_false_or_eq_true ((inR x1 1 8)) with h2 | h2
    · skip
      have hvh2 := inR_t h2
      refine at_regq (T := S_impl_isFormat_tab) [{}, { hint := some (aB true) }, {}, {}, { hint := some (aB true) }] { ts := [6], os := [] } [True, (AV.p (.c (.v (.bool ((inR x0 0 1000000000000))))) = AV.p (.c (.v (.bool true)))), True, (AV.p (.c (.v (.bool ((inR x1 1 8))))) = AV.p (.c (.v (.bool true)))), True] gamOK hT h (by kernel_rfl) ⟨trivial, hint_bool (h1), trivial, hint_bool (h2), trivial, trivial⟩ ?_
      intro a w h
      refine then_normal ?_
      refine wp_ret ?_
      exact at_return (S := S_impl_isFormat) (x := (x0, x1, x2, ())) ((inR x2 1 16), ()) [] h (by kernel_rfl) trivial (congrArg (fun z => (z, ())) (show ((inR x2 1 16)) = isFmt x0 x1 x2 from by first | rfl | (unfold isFmt; rw [if_pos h1, if_pos h2])))
    · skip
      have hvh2 := inR_f h2
      refine at_regq (T := S_impl_isFormat_tab) [{}, { hint := some (aB true) }, {}, {}, { hint := some (aB false) }] { ts := [6], os := [] } [True, (AV.p (.c (.v (.bool ((inR x0 0 1000000000000))))) = AV.p (.c (.v (.bool true)))), True, (AV.p (.c (.v (.bool ((inR x1 1 8))))) = AV.p (.c (.v (.bool false))))] gamOK hT h (by kernel_rfl) ⟨trivial, hint_bool (h1), trivial, hint_bool (h2), trivial⟩ ?_
      intro a w h
      refine then_normal ?_
      refine wp_ret ?_
      exact at_return (S := S_impl_isFormat) (x := (x0, x1, x2, ())) (false, ()) [] h (by kernel_rfl) trivial (congrArg (fun z => (z, ())) (show (false) = isFmt x0 x1 x2 from by first | rfl | (unfold isFmt; rw [if_pos h1, if_neg (neT h2)])))
  · skip
    have hvh1 := inR_f h1
    refine at_regq (T := S_impl_isFormat_tab) [{}, { hint := some (aB false) }] { ts := [6], os := [] } [True, (AV.p (.c (.v (.bool ((inR x0 0 1000000000000))))) = AV.p (.c (.v (.bool false))))] gamOK hT h (by kernel_rfl) ⟨trivial, hint_bool (h1), trivial⟩ ?_
    intro a w h
    refine then_normal ?_
    refine wp_ret ?_
    exact at_return (S := S_impl_isFormat) (x := (x0, x1, x2, ())) (false, ()) [] h (by kernel_rfl) trivial (congrArg (fun z => (z, ())) (show (false) = isFmt x0 x1 x2 from by first | rfl | (unfold isFmt; rw [if_neg (neT h1)])))
theorem isFmt_t {g s w : Int} (h : isFmt g s w = true) : (0 ≤ g ∧ g ≤ 1000000000000) ∧ (1 ≤ s ∧ s ≤ 8) ∧ (1 ≤ w ∧ w ≤ 16) := by
  unfold isFmt at h
  split at h
  · split at h
    · exact ⟨inR_t (by assumption), inR_t (by assumption), inR_t h⟩
    · cases h
  · cases h

def S_spec_l14Range : Sum := { fid := 220, dom := [(.int 3), (.int 3), (.int 3)], cod := [(.bool 4)], dp := true, fz := false, pre := fun x => True, g := fun x => ((isFmt x.1 x.2.1 x.2.2.1), ()) }
def S_spec_l14Range_tab : List (Nat × Sum) := [(103, S_spec_l1In)]
theorem S_spec_l14Range_ok : FnOK Try.prog 220 S_spec_l14Range := by
  refine at_enter 17 (fun x => ⟨[(0, aI x.1), (1, aI x.2.1), (2, aI x.2.2.1)], []⟩) Try.func220 rfl (by kernel_rfl) (fun x => rfl) ?_
  rintro w0 Z0 ⟨x0, x1, x2, u⟩ a w
  revert x0 x1 x2
  intro (x0 : Int) (x1 : Int) (x2 : Int) hpre hlens h
  replace h : At w0 Z0 [] 17 ⟨[(0, aI x0), (1, aI x1), (2, aI x2)], []⟩ a w := h
  have hT : TabOK Try.prog S_spec_l14Range_tab := (.cons S_spec_l1In_ok .nil)
  refine wp_seq ?_
  refine at_regq (T := S_spec_l14Range_tab) [] { ts := [0, 1, 2, 6], os := [] } [] gamOK hT h (by kernel_rfl) trivial ?_
  intro a w h
  refine then_normal ?_
  refine wp_seq ?_
  rcases Bool.eq_false_or_eq_true ((inR x0 0 1000000000000)) with h1 | h1
  · skip
    have hvh1 := inR_t h1
    rcases Bool.eq_false_or_eq_true ((inR x1 1 8)) with h2 | h2
    · skip
      have hvh2 := inR_t h2
      refine at_regq (T := S_spec_l14Range_tab) [{}, { hint := some (aB true) }, {}, {}, { hint := some (aB true) }] { ts := [6], os := [] } [True, (AV.p (.c (.v (.bool ((inR x0 0 1000000000000))))) = AV.p (.c (.v (.bool true)))), True, (AV.p (.c (.v (.bool ((inR x1 1 8))))) = AV.p (.c (.v (.bool true)))), True] gamOK hT h (by kernel_rfl) ⟨trivial, hint_bool (h1), trivial, hint_bool (h2), trivial, trivial⟩ ?_
      intro a w h
      refine then_normal ?_
      refine wp_ret ?_
      exact at_return (S := S_spec_l14Range) (x := (x0, x1, x2, ())) ((inR x2 1 16), ()) [] h (by kernel_rfl) trivial (congrArg (fun z => (z, ())) (show ((inR x2 1 16)) = isFmt x0 x1 x2 from by first | rfl | (unfold isFmt; rw [if_pos h1, if_pos h2]; done) | (unfold isFmt; simp_all)))
    · skip
      have hvh2 := inR_f h2
      refine at_regq (T := S_spec_l14Range_tab) [{}, { hint := some (aB true) }, {}, {}, { hint := some (aB false) }] { ts := [6], os := [] } [True, (AV.p (.c (.v (.bool ((inR x0 0 1000000000000))))) = AV.p (.c (.v (.bool true)))), True, (AV.p (.c (.v (.bool ((inR x1 1 8))))) = AV.p (.c (.v (.bool false))))] gamOK hT h (by kernel_rfl) ⟨trivial, hint_bool (h1), trivial, hint_bool (h2), trivial⟩ ?_
      intro a w h
      refine then_normal ?_
      refine wp_ret ?_
      exact at_return (S := S_spec_l14Range) (x := (x0, x1, x2, ())) (false, ()) [] h (by kernel_rfl) trivial (congrArg (fun z => (z, ())) (show (false) = isFmt x0 x1 x2 from by first | rfl | (unfold isFmt; rw [if_pos h1, if_neg (neT h2)]; done) | (unfold isFmt; simp_all)))
  · skip
    have hvh1 := inR_f h1
    refine at_regq (T := S_spec_l14Range_tab) [{}, { hint := some (aB false) }] { ts := [6], os := [] } [True, (AV.p (.c (.v (.bool ((inR x0 0 1000000000000))))) = AV.p (.c (.v (.bool false))))] gamOK hT h (by kernel_rfl) ⟨trivial, hint_bool (h1), trivial⟩ ?_
    intro a w h
    refine then_normal ?_
    refine wp_ret ?_
    exact at_return (S := S_spec_l14Range) (x := (x0, x1, x2, ())) (false, ()) [] h (by kernel_rfl) trivial (congrArg (fun z => (z, ())) (show (false) = isFmt x0 x1 x2 from by first | rfl | (unfold isFmt; rw [if_neg (neT h1)]; done) | (unfold isFmt; simp_all)))

def validP (x0 : T61) (x1 : Int) (x2 : Int) : Bool := (if (isFmt x0.1 x1 x2) = true then (if ((List.length x0.2.1 : Nat) : Int) = x1 then (if ((List.length x0.2.2 : Nat) : Int) = x2 then (if (validV x0.2.1) = true then (validV x0.2.2) else false) else false) else false) else false)
def S_impl_IsValidPacket : Sum := { fid := 230, dom := [s61, (.int 3), (.int 3)], cod := [(.bool 4)], dp := true, fz := false, pre := fun x => (fun (x0 : T61) (x1 : Int) (x2 : Int) => Sh.fit s61 x0) x.1 x.2.1 x.2.2.1, g := fun x => ((validP x.1 x.2.1 x.2.2.1), ()) }
def S_impl_IsValidPacket_tab : List (Nat × Sum) := [(228, S_impl_isFormat), (253, S_impl_IsValidVector)]
theorem S_impl_IsValidPacket_ok : FnOK Try.prog 230 S_impl_IsValidPacket := by
  refine at_enter 36 (fun x => ⟨[(0, aG [cI x.1.1, .ro (.int 3) x.1.2.1, .ro (.int 3) x.1.2.2]), (1, aI x.2.1), (2, aI x.2.2.1)], []⟩) Try.func230 rfl (by kernel_rfl) (fun x => rfl) ?_
  rintro w0 Z0 ⟨x0, x1, x2, u⟩ a w
  revert x0 x1 x2
  intro (x0 : T61) (x1 : Int) (x2 : Int) hpre hlens h
  replace h : At w0 Z0 [] 36 ⟨[(0, aG [cI x0.1, .ro (.int 3) x0.2.1, .ro (.int 3) x0.2.2]), (1, aI x1), (2, aI x2)], []⟩ a w := h
  replace hpre : (fun (x0 : T61) (x1 : Int) (x2 : Int) => Sh.fit s61 x0) x0 x1 x2 := hpre
  have hl1 : List.length x0.2.1 ≤ 9223372036854775807 := hlens.1.2.1.1
  have hl2 : List.length x0.2.2 ≤ 9223372036854775807 := hlens.1.2.2.1
  have hT : TabOK Try.prog S_impl_IsValidPacket_tab := (.cons S_impl_isFormat_ok (.cons S_impl_IsValidVector_ok .nil))
  have hf0 : Sh.fit s61 x0 := hpre
  have hn0_1 : List.length x0.2.1 ≤ 1073741824 := hf0.2.1.1
  have hn0_2 : List.length x0.2.2 ≤ 1073741824 := hf0.2.2.1
  refine wp_seq ?_
  refine at_regq (T := S_impl_IsValidPacket_tab) [{ ids := [1] }] { ts := [1, 2, 3, 6], os := [1] } [] gamOK hT h (by kernel_rfl) trivial ?_
  intro a w h
  refine then_normal ?_
  refine wp_seq ?_
  rcases Bool.eq_false_or_eq_true ((isFmt x0.1 x1 x2)) with h1 | h1
  · skip
    have hvh1 := isFmt_t h1
    by_cases h2 : ((List.length x0.2.1 : Nat) : Int) = x1
    · skip
      by_cases h3 : ((List.length x0.2.2 : Nat) : Int) = x2
      · skip
        rcases Bool.eq_false_or_eq_true ((validV x0.2.1)) with h4 | h4
        · skip
          have hvh4 := validV_t h4
          refine at_regq (T := S_impl_IsValidPacket_tab) [{}, {}, {}, {}, { hint := some (aB true) }, {}, {}, {}, {}, {}, { hint := some (aB true) }, {}, {}, {}, {}, {}, {}, { hint := some (aB true) }, {}, {}, {}, {}, { hint := some (aB true) }] { ts := [6], os := [] } [True, (AV.p (.c (.v (.bool ((isFmt x0.1 x1 x2))))) = AV.p (.c (.v (.bool true)))), (AV.p (.c (.v (.bool (decide (((List.length x0.2.1 : Nat) : Int) = x1))))) = AV.p (.c (.v (.bool true)))), (AV.p (.c (.v (.bool (decide (((List.length x0.2.2 : Nat) : Int) = x2))))) = AV.p (.c (.v (.bool true)))), (fun (x0 : (List Int)) => Sh.fit s22 x0) x0.2.1, (AV.p (.c (.v (.bool ((validV x0.2.1))))) = AV.p (.c (.v (.bool true)))), (fun (x0 : (List Int)) => Sh.fit s22 x0) x0.2.2] gamOK hT h (by kernel_rfl) ⟨trivial, hint_bool (h1), hint_bool (decide_eq_true h2), hint_bool (decide_eq_true h3), (by exact hf0.2.1), hint_bool (h4), (by exact hf0.2.2), trivial⟩ ?_
          intro a w h
          refine then_normal ?_
          refine wp_ret ?_
          exact at_return (S := S_impl_IsValidPacket) (x := (x0, x1, x2, ())) ((validV x0.2.2), ()) [] h (by kernel_rfl) trivial (congrArg (fun z => (z, ())) (show ((validV x0.2.2)) = validP x0 x1 x2 from by first | rfl | (unfold validP; rw [if_pos h1, if_pos h2, if_pos h3, if_pos h4])))
        · skip
          refine at_regq (T := S_impl_IsValidPacket_tab) [{}, {}, {}, {}, { hint := some (aB true) }, {}, {}, {}, {}, {}, { hint := some (aB true) }, {}, {}, {}, {}, {}, {}, { hint := some (aB true) }, {}, {}, {}, {}, { hint := some (aB false) }] { ts := [6], os := [] } [True, (AV.p (.c (.v (.bool ((isFmt x0.1 x1 x2))))) = AV.p (.c (.v (.bool true)))), (AV.p (.c (.v (.bool (decide (((List.length x0.2.1 : Nat) : Int) = x1))))) = AV.p (.c (.v (.bool true)))), (AV.p (.c (.v (.bool (decide (((List.length x0.2.2 : Nat) : Int) = x2))))) = AV.p (.c (.v (.bool true)))), (fun (x0 : (List Int)) => Sh.fit s22 x0) x0.2.1, (AV.p (.c (.v (.bool ((validV x0.2.1))))) = AV.p (.c (.v (.bool false))))] gamOK hT h (by kernel_rfl) ⟨trivial, hint_bool (h1), hint_bool (decide_eq_true h2), hint_bool (decide_eq_true h3), (by exact hf0.2.1), hint_bool (h4), trivial⟩ ?_
          intro a w h
          refine then_normal ?_
          refine wp_ret ?_
          exact at_return (S := S_impl_IsValidPacket) (x := (x0, x1, x2, ())) (false, ()) [] h (by kernel_rfl) trivial (congrArg (fun z => (z, ())) (show (false) = validP x0 x1 x2 from by first | rfl | (unfold validP; rw [if_pos h1, if_pos h2, if_pos h3, if_neg (neT h4)])))
      · skip
        refine at_regq (T := S_impl_IsValidPacket_tab) [{}, {}, {}, {}, { hint := some (aB true) }, {}, {}, {}, {}, {}, { hint := some (aB true) }, {}, {}, {}, {}, {}, {}, { hint := some (aB false) }] { ts := [6], os := [] } [True, (AV.p (.c (.v (.bool ((isFmt x0.1 x1 x2))))) = AV.p (.c (.v (.bool true)))), (AV.p (.c (.v (.bool (decide (((List.length x0.2.1 : Nat) : Int) = x1))))) = AV.p (.c (.v (.bool true)))), (AV.p (.c (.v (.bool (decide (((List.length x0.2.2 : Nat) : Int) = x2))))) = AV.p (.c (.v (.bool false))))] gamOK hT h (by kernel_rfl) ⟨trivial, hint_bool (h1), hint_bool (decide_eq_true h2), hint_bool (decide_eq_false h3), trivial⟩ ?_
        intro a w h
        refine then_normal ?_
        refine wp_ret ?_
        exact at_return (S := S_impl_IsValidPacket) (x := (x0, x1, x2, ())) (false, ()) [] h (by kernel_rfl) trivial (congrArg (fun z => (z, ())) (show (false) = validP x0 x1 x2 from by first | rfl | (unfold validP; rw [if_pos h1, if_pos h2, if_neg h3])))
    · skip
      refine at_regq (T := S_impl_IsValidPacket_tab) [{}, {}, {}, {}, { hint := some (aB true) }, {}, {}, {}, {}, {}, { hint := some (aB false) }] { ts := [6], os := [] } [True, (AV.p (.c (.v (.bool ((isFmt x0.1 x1 x2))))) = AV.p (.c (.v (.bool true)))), (AV.p (.c (.v (.bool (decide (((List.length x0.2.1 : Nat) : Int) = x1))))) = AV.p (.c (.v (.bool false))))] gamOK hT h (by kernel_rfl) ⟨trivial, hint_bool (h1), hint_bool (decide_eq_false h2), trivial⟩ ?_
      intro a w h
      refine then_normal ?_
      refine wp_ret ?_
      exact at_return (S := S_impl_IsValidPacket) (x := (x0, x1, x2, ())) (false, ()) [] h (by kernel_rfl) trivial (congrArg (fun z => (z, ())) (show (false) = validP x0 x1 x2 from by first | rfl | (unfold validP; rw [if_pos h1, if_neg h2])))
  · skip
    refine at_regq (T := S_impl_IsValidPacket_tab) [{}, {}, {}, {}, { hint := some (aB false) }] { ts := [6], os := [] } [True, (AV.p (.c (.v (.bool ((isFmt x0.1 x1 x2))))) = AV.p (.c (.v (.bool false))))] gamOK hT h (by kernel_rfl) ⟨trivial, hint_bool (h1), trivial⟩ ?_
    intro a w h
    refine then_normal ?_
    refine wp_ret ?_
    exact at_return (S := S_impl_IsValidPacket) (x := (x0, x1, x2, ())) (false, ()) [] h (by kernel_rfl) trivial (congrArg (fun z => (z, ())) (show (false) = validP x0 x1 x2 from by first | rfl | (unfold validP; rw [if_neg (neT h1)])))
theorem validP_t {p : T61} {s w : Int} (h : validP p s w = true) : isFmt p.1 s w = true ∧ ((List.length p.2.1 : Nat) : Int) = s ∧ ((List.length p.2.2 : Nat) : Int) = w ∧ validV p.2.1 = true ∧ validV p.2.2 = true := by
  unfold validP at h
  split at h
  · split at h
    · split at h
      · split at h
        · exact ⟨by assumption, by assumption, by assumption, by assumption, h⟩
        · cases h
      · cases h
    · cases h
  · cases h
theorem validP_n {p : T61} {s w : Int} (h : validP p s w = true) : ((0 ≤ p.1 ∧ p.1 ≤ 1000000000000) ∧ (1 ≤ s ∧ s ≤ 8) ∧ (1 ≤ w ∧ w ≤ 16)) ∧ ((List.length p.2.1 : Nat) : Int) = s ∧ ((List.length p.2.2 : Nat) : Int) = w := ⟨isFmt_t (validP_t h).1, (validP_t h).2.1, (validP_t h).2.2.1⟩
theorem validP_of {p : T61} {s w : Int} (h : isFmt p.1 s w = true ∧ ((List.length p.2.1 : Nat) : Int) = s ∧ ((List.length p.2.2 : Nat) : Int) = w ∧ validV p.2.1 = true ∧ validV p.2.2 = true) : validP p s w = true := by
  unfold validP; rw [if_pos h.1, if_pos h.2.1, if_pos h.2.2.1, if_pos h.2.2.2.1]; exact h.2.2.2.2

def S_spec_IsValidPacket : Sum := { fid := 142, dom := [s61, (.int 3), (.int 3)], cod := [(.bool 4)], dp := true, fz := false, pre := fun x => (fun (x0 : T61) (x1 : Int) (x2 : Int) => Sh.fit s61 x0) x.1 x.2.1 x.2.2.1, g := fun x => ((validP x.1 x.2.1 x.2.2.1), ()) }
def S_spec_IsValidPacket_tab : List (Nat × Sum) := [(103, S_spec_l1In), (221, S_spec_IsValidVector)]
theorem S_spec_IsValidPacket_ok : FnOK Try.prog 142 S_spec_IsValidPacket := by
  refine at_enter 42 (fun x => ⟨[(0, aG [cI x.1.1, .ro (.int 3) x.1.2.1, .ro (.int 3) x.1.2.2]), (1, aI x.2.1), (2, aI x.2.2.1)], []⟩) Try.func142 rfl (by kernel_rfl) (fun x => rfl) ?_
  rintro w0 Z0 ⟨x0, x1, x2, u⟩ a w
  revert x0 x1 x2
  intro (x0 : T61) (x1 : Int) (x2 : Int) hpre hlens h
  replace h : At w0 Z0 [] 42 ⟨[(0, aG [cI x0.1, .ro (.int 3) x0.2.1, .ro (.int 3) x0.2.2]), (1, aI x1), (2, aI x2)], []⟩ a w := h
  replace hpre : (fun (x0 : T61) (x1 : Int) (x2 : Int) => Sh.fit s61 x0) x0 x1 x2 := hpre
  have hl1 : List.length x0.2.1 ≤ 9223372036854775807 := hlens.1.2.1.1
  have hl2 : List.length x0.2.2 ≤ 9223372036854775807 := hlens.1.2.2.1
  have hT : TabOK Try.prog S_spec_IsValidPacket_tab := (.cons S_spec_l1In_ok (.cons S_spec_IsValidVector_ok .nil))
  have hf0 : Sh.fit s61 x0 := hpre
  have hn0_1 : List.length x0.2.1 ≤ 1073741824 := hf0.2.1.1
  have hn0_2 : List.length x0.2.2 ≤ 1073741824 := hf0.2.2.1
  refine wp_seq ?_
  refine at_regq (T := S_spec_IsValidPacket_tab) [{ ids := [1] }] { ts := [1, 2, 3, 6], os := [1] } [] gamOK hT h (by kernel_rfl) trivial ?_
  intro a w h
  refine then_normal ?_
  refine wp_seq ?_
  rcases Bool.eq_false_or_eq_true ((inR x0.1 0 1000000000000)) with h1 | h1
  · skip
    have hvh1 := inR_t h1
    rcases Bool.eq_false_or_eq_true ((inR x1 1 8)) with h2 | h2
    · skip
      have hvh2 := inR_t h2
      rcases Bool.eq_false_or_eq_true ((inR x2 1 16)) with h3 | h3
      · skip
        have hvh3 := inR_t h3
        by_cases h4 : ((List.length x0.2.1 : Nat) : Int) = x1
        · skip
          by_cases h5 : ((List.length x0.2.2 : Nat) : Int) = x2
          · skip
            rcases Bool.eq_false_or_eq_true ((validV x0.2.1)) with h6 | h6
            · skip
              have hvh6 := validV_t h6
              refine at_regq (T := S_spec_IsValidPacket_tab) [{}, {}, { hint := some (aB true) }, {}, {}, { hint := some (aB true) }, {}, {}, {}, { hint := some (aB true) }, {}, {}, {}, {}, {}, {}, { hint := some (aB true) }, {}, {}, {}, {}, {}, {}, { hint := some (aB true) }, {}, {}, {}, {}, { hint := some (aB true) }] { ts := [6], os := [] } [True, (AV.p (.c (.v (.bool ((inR x0.1 0 1000000000000))))) = AV.p (.c (.v (.bool true)))), True, (AV.p (.c (.v (.bool ((inR x1 1 8))))) = AV.p (.c (.v (.bool true)))), True, (AV.p (.c (.v (.bool ((inR x2 1 16))))) = AV.p (.c (.v (.bool true)))), (AV.p (.c (.v (.bool (decide (((List.length x0.2.1 : Nat) : Int) = x1))))) = AV.p (.c (.v (.bool true)))), (AV.p (.c (.v (.bool (decide (((List.length x0.2.2 : Nat) : Int) = x2))))) = AV.p (.c (.v (.bool true)))), (fun (x0 : (List Int)) => Sh.fit s22 x0) x0.2.1, (AV.p (.c (.v (.bool ((validV x0.2.1))))) = AV.p (.c (.v (.bool true)))), (fun (x0 : (List Int)) => Sh.fit s22 x0) x0.2.2] gamOK hT h (by kernel_rfl) ⟨trivial, hint_bool (h1), trivial, hint_bool (h2), trivial, hint_bool (h3), hint_bool (decide_eq_true h4), hint_bool (decide_eq_true h5), (by exact hf0.2.1), hint_bool (h6), (by exact hf0.2.2), trivial⟩ ?_
              intro a w h
              refine then_normal ?_
              refine wp_ret ?_
              exact at_return (S := S_spec_IsValidPacket) (x := (x0, x1, x2, ())) ((validV x0.2.2), ()) [] h (by kernel_rfl) trivial (congrArg (fun z => (z, ())) (show ((validV x0.2.2)) = validP x0 x1 x2 from by first | rfl | (unfold validP; rw [if_pos h1, if_pos h2, if_pos h3, if_pos h4, if_pos h5, if_pos h6]; done) | (unfold validP; simp_all [isFmt])))
            · skip
              refine at_regq (T := S_spec_IsValidPacket_tab) [{}, {}, { hint := some (aB true) }, {}, {}, { hint := some (aB true) }, {}, {}, {}, { hint := some (aB true) }, {}, {}, {}, {}, {}, {}, { hint := some (aB true) }, {}, {}, {}, {}, {}, {}, { hint := some (aB true) }, {}, {}, {}, {}, { hint := some (aB false) }] { ts := [6], os := [] } [True, (AV.p (.c (.v (.bool ((inR x0.1 0 1000000000000))))) = AV.p (.c (.v (.bool true)))), True, (AV.p (.c (.v (.bool ((inR x1 1 8))))) = AV.p (.c (.v (.bool true)))), True, (AV.p (.c (.v (.bool ((inR x2 1 16))))) = AV.p (.c (.v (.bool true)))), (AV.p (.c (.v (.bool (decide (((List.length x0.2.1 : Nat) : Int) = x1))))) = AV.p (.c (.v (.bool true)))), (AV.p (.c (.v (.bool (decide (((List.length x0.2.2 : Nat) : Int) = x2))))) = AV.p (.c (.v (.bool true)))), (fun (x0 : (List Int)) => Sh.fit s22 x0) x0.2.1, (AV.p (.c (.v (.bool ((validV x0.2.1))))) = AV.p (.c (.v (.bool false))))] gamOK hT h (by kernel_rfl) ⟨trivial, hint_bool (h1), trivial, hint_bool (h2), trivial, hint_bool (h3), hint_bool (decide_eq_true h4), hint_bool (decide_eq_true h5), (by exact hf0.2.1), hint_bool (h6), trivial⟩ ?_
              intro a w h
              refine then_normal ?_
              refine wp_ret ?_
              exact at_return (S := S_spec_IsValidPacket) (x := (x0, x1, x2, ())) (false, ()) [] h (by kernel_rfl) trivial (congrArg (fun z => (z, ())) (show (false) = validP x0 x1 x2 from by first | rfl | (unfold validP; rw [if_pos h1, if_pos h2, if_pos h3, if_pos h4, if_pos h5, if_neg (neT h6)]; done) | (unfold validP; simp_all [isFmt])))
          · skip
            refine at_regq (T := S_spec_IsValidPacket_tab) [{}, {}, { hint := some (aB true) }, {}, {}, { hint := some (aB true) }, {}, {}, {}, { hint := some (aB true) }, {}, {}, {}, {}, {}, {}, { hint := some (aB true) }, {}, {}, {}, {}, {}, {}, { hint := some (aB false) }] { ts := [6], os := [] } [True, (AV.p (.c (.v (.bool ((inR x0.1 0 1000000000000))))) = AV.p (.c (.v (.bool true)))), True, (AV.p (.c (.v (.bool ((inR x1 1 8))))) = AV.p (.c (.v (.bool true)))), True, (AV.p (.c (.v (.bool ((inR x2 1 16))))) = AV.p (.c (.v (.bool true)))), (AV.p (.c (.v (.bool (decide (((List.length x0.2.1 : Nat) : Int) = x1))))) = AV.p (.c (.v (.bool true)))), (AV.p (.c (.v (.bool (decide (((List.length x0.2.2 : Nat) : Int) = x2))))) = AV.p (.c (.v (.bool false))))] gamOK hT h (by kernel_rfl) ⟨trivial, hint_bool (h1), trivial, hint_bool (h2), trivial, hint_bool (h3), hint_bool (decide_eq_true h4), hint_bool (decide_eq_false h5), trivial⟩ ?_
            intro a w h
            refine then_normal ?_
            refine wp_ret ?_
            exact at_return (S := S_spec_IsValidPacket) (x := (x0, x1, x2, ())) (false, ()) [] h (by kernel_rfl) trivial (congrArg (fun z => (z, ())) (show (false) = validP x0 x1 x2 from by first | rfl | (unfold validP; rw [if_pos h1, if_pos h2, if_pos h3, if_pos h4, if_neg h5]; done) | (unfold validP; simp_all [isFmt])))
        · skip
          refine at_regq (T := S_spec_IsValidPacket_tab) [{}, {}, { hint := some (aB true) }, {}, {}, { hint := some (aB true) }, {}, {}, {}, { hint := some (aB true) }, {}, {}, {}, {}, {}, {}, { hint := some (aB false) }] { ts := [6], os := [] } [True, (AV.p (.c (.v (.bool ((inR x0.1 0 1000000000000))))) = AV.p (.c (.v (.bool true)))), True, (AV.p (.c (.v (.bool ((inR x1 1 8))))) = AV.p (.c (.v (.bool true)))), True, (AV.p (.c (.v (.bool ((inR x2 1 16))))) = AV.p (.c (.v (.bool true)))), (AV.p (.c (.v (.bool (decide (((List.length x0.2.1 : Nat) : Int) = x1))))) = AV.p (.c (.v (.bool false))))] gamOK hT h (by kernel_rfl) ⟨trivial, hint_bool (h1), trivial, hint_bool (h2), trivial, hint_bool (h3), hint_bool (decide_eq_false h4), trivial⟩ ?_
          intro a w h
          refine then_normal ?_
          refine wp_ret ?_
          exact at_return (S := S_spec_IsValidPacket) (x := (x0, x1, x2, ())) (false, ()) [] h (by kernel_rfl) trivial (congrArg (fun z => (z, ())) (show (false) = validP x0 x1 x2 from by first | rfl | (unfold validP; rw [if_pos h1, if_pos h2, if_pos h3, if_neg h4]; done) | (unfold validP; simp_all [isFmt])))
      · skip
        have hvh3 := inR_f h3
        refine at_regq (T := S_spec_IsValidPacket_tab) [{}, {}, { hint := some (aB true) }, {}, {}, { hint := some (aB true) }, {}, {}, {}, { hint := some (aB false) }] { ts := [6], os := [] } [True, (AV.p (.c (.v (.bool ((inR x0.1 0 1000000000000))))) = AV.p (.c (.v (.bool true)))), True, (AV.p (.c (.v (.bool ((inR x1 1 8))))) = AV.p (.c (.v (.bool true)))), True, (AV.p (.c (.v (.bool ((inR x2 1 16))))) = AV.p (.c (.v (.bool false))))] gamOK hT h (by kernel_rfl) ⟨trivial, hint_bool (h1), trivial, hint_bool (h2), trivial, hint_bool (h3), trivial⟩ ?_
        intro a w h
        refine then_normal ?_
        refine wp_ret ?_
        exact at_return (S := S_spec_IsValidPacket) (x := (x0, x1, x2, ())) (false, ()) [] h (by kernel_rfl) trivial (congrArg (fun z => (z, ())) (show (false) = validP x0 x1 x2 from by first | rfl | (unfold validP; rw [if_pos h1, if_pos h2, if_neg (neT h3)]; done) | (unfold validP; simp_all [isFmt])))
    · skip
      have hvh2 := inR_f h2
      refine at_regq (T := S_spec_IsValidPacket_tab) [{}, {}, { hint := some (aB true) }, {}, {}, { hint := some (aB false) }] { ts := [6], os := [] } [True, (AV.p (.c (.v (.bool ((inR x0.1 0 1000000000000))))) = AV.p (.c (.v (.bool true)))), True, (AV.p (.c (.v (.bool ((inR x1 1 8))))) = AV.p (.c (.v (.bool false))))] gamOK hT h (by kernel_rfl) ⟨trivial, hint_bool (h1), trivial, hint_bool (h2), trivial⟩ ?_
      intro a w h
      refine then_normal ?_
      refine wp_ret ?_
      exact at_return (S := S_spec_IsValidPacket) (x := (x0, x1, x2, ())) (false, ()) [] h (by kernel_rfl) trivial (congrArg (fun z => (z, ())) (show (false) = validP x0 x1 x2 from by first | rfl | (unfold validP; rw [if_pos h1, if_neg (neT h2)]; done) | (unfold validP; simp_all [isFmt])))
  · skip
    have hvh1 := inR_f h1
    refine at_regq (T := S_spec_IsValidPacket_tab) [{}, {}, { hint := some (aB false) }] { ts := [6], os := [] } [True, (AV.p (.c (.v (.bool ((inR x0.1 0 1000000000000))))) = AV.p (.c (.v (.bool false))))] gamOK hT h (by kernel_rfl) ⟨trivial, hint_bool (h1), trivial⟩ ?_
    intro a w h
    refine then_normal ?_
    refine wp_ret ?_
    exact at_return (S := S_spec_IsValidPacket) (x := (x0, x1, x2, ())) (false, ()) [] h (by kernel_rfl) trivial (congrArg (fun z => (z, ())) (show (false) = validP x0 x1 x2 from by first | rfl | (unfold validP; rw [if_neg (neT h1)]; done) | (unfold validP; simp_all [isFmt])))

def D_impl_IsValidManifest_1 := (fun e => !isGrp e)
def S_impl_IsValidManifest_1 : Sum := { fid := 268, dom := [(.int 3)], cod := [(.bool 4)], dp := true, fz := false, pre := fun x => True, g := fun x => ((D_impl_IsValidManifest_1 x.1), ()) }
def S_impl_IsValidManifest_1_tab : List (Nat × Sum) := [(269, S_impl_IsGroupElement)]
theorem S_impl_IsValidManifest_1_ok : FnOK Try.prog 268 S_impl_IsValidManifest_1 := by
  refine at_enter 6 (fun x => ⟨[(0, aI x.1)], []⟩) Try.func268 rfl (by kernel_rfl) (fun x => rfl) ?_
  rintro w0 Z0 ⟨x0, u⟩ a w
  revert x0
  intro (x0 : Int) hpre hlens h
  replace h : At w0 Z0 [] 6 ⟨[(0, aI x0)], []⟩ a w := h
  have hT : TabOK Try.prog S_impl_IsValidManifest_1_tab := (.cons S_impl_IsGroupElement_ok .nil)
  refine wp_seq ?_
  refine at_regq (T := S_impl_IsValidManifest_1_tab) [] { ts := [0, 2], os := [] } [] gamOK hT h (by kernel_rfl) trivial ?_
  intro a w h
  refine then_normal ?_
  refine wp_seq ?_
  refine at_regq (T := S_impl_IsValidManifest_1_tab) [] { ts := [2], os := [] } [True] gamOK hT h (by kernel_rfl) ⟨trivial, trivial⟩ ?_
  intro a w h
  refine then_normal ?_
  refine wp_ret ?_
  exact at_return (S := S_impl_IsValidManifest_1) (x := (x0, ())) (!(isGrp x0), ()) [] h (by kernel_rfl) trivial (congrArg (fun z => (z, ())) (show (!(isGrp x0)) = D_impl_IsValidManifest_1 x0 from by unfold D_impl_IsValidManifest_1; rfl))

def D_slices_IndexFunc_S_int_int__IsValidManifest_1 := (fun (xs : List Int) (cap : Unit) => idxF (fun e => !isGrp e) xs)
def S_slices_IndexFunc_S_int_int__IsValidManifest_1 : Sum := { fid := 293, dom := [s22, (.fn0 268)], cod := [(.int 3)], dp := true, fz := false, pre := fun x => True, g := fun x => ((D_slices_IndexFunc_S_int_int__IsValidManifest_1 x.1 x.2.1), ()) }
def S_slices_IndexFunc_S_int_int__IsValidManifest_1_tab : List (Nat × Sum) := [(268, S_impl_IsValidManifest_1)]
theorem S_slices_IndexFunc_S_int_int__IsValidManifest_1_ok : FnOK Try.prog 293 S_slices_IndexFunc_S_int_int__IsValidManifest_1 := by
  refine at_enter 19 (fun x => ⟨[(0, aF (.int 3) x.1), (1, .p (.c (.cl 268 .cnil)))], []⟩) Try.func293 rfl (by kernel_rfl) (fun x => rfl) ?_
  rintro w0 Z0 ⟨x0, x1, u⟩ a w
  revert x0 x1
  intro (x0 : (List Int)) (x1 : Unit) hpre hlens h
  replace h : At w0 Z0 [] 19 ⟨[(0, aF (.int 3) x0), (1, .p (.c (.cl 268 .cnil)))], []⟩ a w := h
  have hl1 : List.length x0 ≤ 9223372036854775807 := hlens.1.1
  have hT : TabOK Try.prog S_slices_IndexFunc_S_int_int__IsValidManifest_1_tab := (.cons S_impl_IsValidManifest_1_ok .nil)
  refine wp_seq ?_
  refine at_regq (T := S_slices_IndexFunc_S_int_int__IsValidManifest_1_tab) [] { ts := [0, 1, 4], os := [] } [] gamOK hT h (by kernel_rfl) trivial ?_
  intro a w h
  refine then_normal ?_
  refine wp_seq ?_
  refine wp_seq ?_
  refine at_regq (T := S_slices_IndexFunc_S_int_int__IsValidManifest_1_tab) [] { ts := [0, 1, 4, 7, 8], os := [] } [] gamOK hT h (by kernel_rfl) trivial ?_
  intro a w h
  refine then_normal ?_
  refine wp_block ?_
  replace h := at_out (σ' := ⟨[(0, aF (.int 3) x0), (1, .p (.c (.cl 268 .cnil))), (4, aI 0), (7, aI ((List.length x0 : Nat) : Int)), (8, aI 0)], []⟩) { ts := [0, 1, 4, 7, 8], os := [] } h (by kernel_rfl)
  refine at_loop (fun i : Nat => (⟨[(0, aF (.int 3) x0), (1, .p (.c (.cl 268 .cnil))), (4, aI 0), (7, aI ((List.length x0 : Nat) : Int)), (8, aI ((i : Nat) : Int))], []⟩ : St)) (fun i => (i ≤ List.length x0 ∧ noneTo (fun e => !isGrp e) x0 0 i)) (fun i => List.length x0 - i) (0) h (st_congr1 (fun (d0 : Int) => (⟨[(0, aF (.int 3) x0), (1, .p (.c (.cl 268 .cnil))), (4, aI 0), (7, aI ((List.length x0 : Nat) : Int)), (8, aI d0)], []⟩ : St)) (show (0 : Int) = (((0) : Nat) : Int) from by first | with_reducible rfl | (rfl) | rfl)) (by exact ⟨Nat.zero_le _, noneTo_zero⟩) ?_
  intro i a w hok0 h
  refine wp_seq ?_
  refine at_regq (T := S_slices_IndexFunc_S_int_int__IsValidManifest_1_tab) [] { ts := [0, 1, 4, 7, 8, 9], os := [] } [] gamOK hT h (by kernel_rfl) trivial ?_
  intro a w h
  refine then_normal ?_
  refine wp_seq ?_
  refine at_test (decide (((i : Nat) : Int) < ((List.length x0 : Nat) : Int))) h (by kernel_rfl) (fun h1 => ?_) (fun h1 => ?_)
  · replace h1 : ((i : Nat) : Int) < ((List.length x0 : Nat) : Int) := of_decide_eq_true h1
    refine wp_skip ?_
    refine then_normal ?_
    refine wp_seq ?_
    refine wp_block ?_
    refine wp_seq ?_
    refine at_reg (T := S_slices_IndexFunc_S_int_int__IsValidManifest_1_tab) [] { ts := [0, 1, 4, 5, 7, 8], os := [] } ⟨[(0, aF (.int 3) x0), (1, .p (.c (.cl 268 .cnil))), (4, aI 0), (5, aI ((i : Nat) : Int)), (7, aI ((List.length x0 : Nat) : Int)), (8, aI ((i : Nat) : Int))], []⟩ [] gamOK hT h (by kernel_rfl) trivial ?_
    intro a w h
    refine then_normal ?_
    refine wp_seq ?_
    refine at_regq (T := S_slices_IndexFunc_S_int_int__IsValidManifest_1_tab) [] { ts := [0, 1, 4, 5, 7, 8, 16], os := [] } [(0 : Int) ≤ ((i : Nat) : Int) ∧ ((i : Nat) : Int) < ((List.length x0 : Nat) : Int), True] gamOK hT h (by kernel_rfl) ⟨(by refine ⟨?_, ?_⟩ <;> (first | omega | (simp only [List.length_append, List.length_cons, List.length_nil, List.length_set, List.length_take, List.length_drop, List.length_replicate, List.length_map, Nat.min_def]; omega) | (simp; done) | (simp; omega) | done)), trivial, trivial⟩ ?_
    intro a w h
    refine then_normal ?_
    refine at_test ((D_impl_IsValidManifest_1 (x0.getD i 0))) h (by kernel_rfl) (fun h2 => ?_) (fun h2 => ?_)
    · refine wp_seq ?_
      refine at_regq (T := S_slices_IndexFunc_S_int_int__IsValidManifest_1_tab) [] { ts := [0, 1, 4, 7, 8], os := [] } [] gamOK hT h (by kernel_rfl) trivial ?_
      intro a w h
      refine then_normal ?_
      refine wp_ret ?_
      refine in_ret ?_
      refine then_ret ?_
      refine then_ret ?_
      refine in_ret ?_
      refine then_ret ?_
      exact at_return (S := S_slices_IndexFunc_S_int_int__IsValidManifest_1) (x := (x0, x1, ())) (((i : Nat) : Int), ()) [] h (by kernel_rfl) trivial (congrArg (fun z => (z, ())) (show (((i : Nat) : Int)) = D_slices_IndexFunc_S_int_int__IsValidManifest_1 x0 x1 from by unfold D_slices_IndexFunc_S_int_int__IsValidManifest_1; exact (idxF_at (z := 0) (by omega) hok0.2 h2).symm))
    · refine wp_skip ?_
      refine in_normal ?_
      refine then_normal ?_
      refine at_regq (T := S_slices_IndexFunc_S_int_int__IsValidManifest_1_tab) [{ nw := true }] { ts := [0, 1, 4, 7, 8], os := [] } [I64 (((i : Nat) : Int) + 1)] gamOK hT h (by kernel_rfl) ⟨⟨by first | omega | (simp only [List.length_append, List.length_cons, List.length_nil, List.length_set, List.length_take, List.length_drop, List.length_replicate, List.length_map, Nat.min_def]; omega) | (simp; done) | (simp; omega) | done, by first | omega | (simp only [List.length_append, List.length_cons, List.length_nil, List.length_set, List.length_take, List.length_drop, List.length_replicate, List.length_map, Nat.min_def]; omega) | (simp; done) | (simp; omega) | done⟩, trivial⟩ ?_
      intro a w h
      replace h := at_out (σ' := ⟨[(0, aF (.int 3) x0), (1, .p (.c (.cl 268 .cnil))), (4, aI 0), (7, aI ((List.length x0 : Nat) : Int)), (8, aI (((i : Nat) : Int) + 1))], []⟩) { ts := [0, 1, 4, 7, 8], os := [] } h (by kernel_rfl)
      exact ⟨i + 1, at_eq h (st_congr1 (fun (d0 : Int) => (⟨[(0, aF (.int 3) x0), (1, .p (.c (.cl 268 .cnil))), (4, aI 0), (7, aI ((List.length x0 : Nat) : Int)), (8, aI d0)], []⟩ : St)) (show (((i : Nat) : Int) + 1 : Int) = (((i + 1) : Nat) : Int) from by first | with_reducible rfl | (omega) | rfl)), (by exact ⟨by omega, noneTo_succ hok0.2 h2⟩), (by omega)⟩
  · replace h1 : ¬ (((i : Nat) : Int) < ((List.length x0 : Nat) : Int)) := of_decide_eq_false h1
    refine wp_exit ?_
    refine then_exit ?_
    refine then_exit ?_
    refine in_hit ?_
    refine then_normal ?_
    refine wp_seq ?_
    refine at_reg (T := S_slices_IndexFunc_S_int_int__IsValidManifest_1_tab) [] { ts := [4], os := [] } ⟨[(4, aI (-1))], []⟩ [] gamOK hT h (by kernel_rfl) trivial ?_
    intro a w h
    refine then_normal ?_
    refine wp_ret ?_
    exact at_return (S := S_slices_IndexFunc_S_int_int__IsValidManifest_1) (x := (x0, x1, ())) ((-1), ()) [] h (by kernel_rfl) trivial (congrArg (fun z => (z, ())) (show ((-1)) = D_slices_IndexFunc_S_int_int__IsValidManifest_1 x0 x1 from by unfold D_slices_IndexFunc_S_int_int__IsValidManifest_1; exact (idxF_none (z := 0) (by omega) hok0.2).symm))

def D_slices_ContainsFunc_S_int_int__IsValidManifest_1 := (fun (xs : List Int) (cap : Unit) => xs.any fun e => !isGrp e)
def S_slices_ContainsFunc_S_int_int__IsValidManifest_1 : Sum := { fid := 255, dom := [s22, (.fn0 268)], cod := [(.bool 4)], dp := true, fz := false, pre := fun x => True, g := fun x => ((D_slices_ContainsFunc_S_int_int__IsValidManifest_1 x.1 x.2.1), ()) }
def S_slices_ContainsFunc_S_int_int__IsValidManifest_1_tab : List (Nat × Sum) := [(100006, S_slices_IndexFunc_S_int_int__IsValidManifest_1)]
theorem S_slices_ContainsFunc_S_int_int__IsValidManifest_1_ok : FnOK Try.prog 255 S_slices_ContainsFunc_S_int_int__IsValidManifest_1 := by
  refine at_enter 9 (fun x => ⟨[(0, aF (.int 3) x.1), (1, .p (.c (.cl 268 .cnil)))], []⟩) Try.func255 rfl (by kernel_rfl) (fun x => rfl) ?_
  rintro w0 Z0 ⟨x0, x1, u⟩ a w
  revert x0 x1
  intro (x0 : (List Int)) (x1 : Unit) hpre hlens h
  replace h : At w0 Z0 [] 9 ⟨[(0, aF (.int 3) x0), (1, .p (.c (.cl 268 .cnil)))], []⟩ a w := h
  have hl1 : List.length x0 ≤ 9223372036854775807 := hlens.1.1
  have hT : TabOK Try.prog S_slices_ContainsFunc_S_int_int__IsValidManifest_1_tab := (.cons S_slices_IndexFunc_S_int_int__IsValidManifest_1_ok .nil)
  refine wp_seq ?_
  refine at_regq (T := S_slices_ContainsFunc_S_int_int__IsValidManifest_1_tab) [] { ts := [0, 1, 4], os := [] } [] gamOK hT h (by kernel_rfl) trivial ?_
  intro a w h
  refine then_normal ?_
  refine wp_seq ?_
  refine at_regq (T := S_slices_ContainsFunc_S_int_int__IsValidManifest_1_tab) [{}, {}, { key := some 100006 }] { ts := [4], os := [] } [True] gamOK hT h (by kernel_rfl) ⟨trivial, trivial⟩ ?_
  intro a w h
  refine then_normal ?_
  refine wp_ret ?_
  exact at_return (S := S_slices_ContainsFunc_S_int_int__IsValidManifest_1) (x := (x0, x1, ())) (decide ((D_slices_IndexFunc_S_int_int__IsValidManifest_1 x0 ()) ≥ 0), ()) [] h (by kernel_rfl) trivial (congrArg (fun z => (z, ())) (show (decide ((D_slices_IndexFunc_S_int_int__IsValidManifest_1 x0 ()) ≥ 0)) = D_slices_ContainsFunc_S_int_int__IsValidManifest_1 x0 x1 from by unfold D_slices_ContainsFunc_S_int_int__IsValidManifest_1; exact idxF_any))

end Go.Proofs.Ytdmkjcnppgfeoaa

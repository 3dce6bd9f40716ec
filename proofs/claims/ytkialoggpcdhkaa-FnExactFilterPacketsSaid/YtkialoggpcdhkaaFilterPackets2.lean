/- The walks of the functions that the law reaches: each summary holds. No condition. -/
import Derived.Test.YtkialoggpcdhkaaFilterPackets1
import Derived.Test.YtkialoggpcdhkaaLA
import Derived.Test.YtkialoggpcdhkaaProg
namespace Go.Proofs.Ytkialoggpcdhkaa
open Go.RowKit
set_option linter.unusedVariables false
set_option linter.unusedSimpArgs false
def validV (x0 : (List Int)) : Bool := (if (List.all x0 isEl) = true then decide (((List.length x0 : Nat) : Int) ≤ 40) else false)
def S_impl_IsValidVector : Sum := { fid := 215, dom := [s22], cod := [(.bool 4)], dp := true, fz := false, pre := fun x => (fun (x0 : (List Int)) => Sh.fit s22 x0) x.1, g := fun x => ((validV x.1), ()) }
def S_impl_IsValidVector_tab : List (Nat × Sum) := [(251, S_impl_IsElement)]
theorem S_impl_IsValidVector_ok : FnOK Try.prog 215 S_impl_IsValidVector := by
  refine at_enter 18 (fun x => ⟨[(0, aF (.int 3) x.1)], []⟩) Try.func215 rfl (by kernel_rfl) (fun x => rfl) ?_
  rintro w0 Z0 ⟨x0, u⟩ a w
  revert x0
  intro (x0 : (List Int)) hpre hlens h
  replace h : At w0 Z0 [] 18 ⟨[(0, aF (.int 3) x0)], []⟩ a w := h
  replace hpre : (fun (x0 : (List Int)) => Sh.fit s22 x0) x0 := hpre
  have hl1 : List.length x0 ≤ 9223372036854775807 := hlens.1.1
  have hT : TabOK Try.prog S_impl_IsValidVector_tab := (.cons S_impl_IsElement_ok .nil)
  have hf0 : Sh.fit s22 x0 := hpre
  have hn0_1 : List.length x0 ≤ 1073741824 := hf0.1
  refine wp_seq ?_
  refine at_regq (T := S_impl_IsValidVector_tab) [] { ts := [0, 2], os := [] } [] gamOK hT h (by kernel_rfl) trivial ?_
  intro a w h
  refine then_normal ?_
  refine wp_seq ?_
  refine wp_seq ?_
  refine at_regq (T := S_impl_IsValidVector_tab) [] { ts := [0, 2, 5, 6, 7], os := [] } [] gamOK hT h (by kernel_rfl) trivial ?_
  intro a w h
  refine then_normal ?_
  refine wp_block ?_
  replace h := at_out (σ' := ⟨[(0, aF (.int 3) x0), (2, aB false), (5, aF (.int 3) x0), (6, aI ((List.length x0 : Nat) : Int)), (7, aI 0)], []⟩) { ts := [0, 2, 5, 6, 7], os := [] } h (by kernel_rfl)
  refine at_loop (fun i : Nat => (⟨[(0, aF (.int 3) x0), (2, aB false), (5, aF (.int 3) x0), (6, aI ((List.length x0 : Nat) : Int)), (7, aI ((i : Nat) : Int))], []⟩ : St)) (fun i => (i ≤ List.length x0 ∧ allTo1 isEl x0 0 i)) (fun i => List.length x0 - i) (0) h (st_congr1 (fun (d0 : Int) => (⟨[(0, aF (.int 3) x0), (2, aB false), (5, aF (.int 3) x0), (6, aI ((List.length x0 : Nat) : Int)), (7, aI d0)], []⟩ : St)) (show (0 : Int) = (((0) : Nat) : Int) from by first | with_reducible rfl | (rfl) | rfl)) (by exact ⟨Nat.zero_le _, allTo1_zero⟩) ?_
  intro i a w hok0 h
  refine wp_seq ?_
  refine at_regq (T := S_impl_IsValidVector_tab) [] { ts := [0, 2, 5, 6, 7, 8], os := [] } [] gamOK hT h (by kernel_rfl) trivial ?_
  intro a w h
  refine then_normal ?_
  refine wp_seq ?_
  refine at_test (decide (((i : Nat) : Int) < ((List.length x0 : Nat) : Int))) h (by kernel_rfl) (fun h1 => ?_) (fun h1 => ?_)
  · replace h1 : ((i : Nat) : Int) < ((List.length x0 : Nat) : Int) := of_decide_eq_true h1
    refine wp_skip ?_
    refine then_normal ?_
    refine wp_seq ?_
    refine wp_block ?_
    refine wp_seq ?_
    refine at_reg (T := S_impl_IsValidVector_tab) [] { ts := [0, 2, 4, 5, 6, 7], os := [] } ⟨[(0, aF (.int 3) x0), (2, aB false), (4, aI (x0.getD i 0)), (5, aF (.int 3) x0), (6, aI ((List.length x0 : Nat) : Int)), (7, aI ((i : Nat) : Int))], []⟩ [(0 : Int) ≤ ((i : Nat) : Int) ∧ ((i : Nat) : Int) < ((List.length x0 : Nat) : Int)] gamOK hT h (by kernel_rfl) ⟨(by refine ⟨?_, ?_⟩ <;> (first | omega | (simp only [List.length_append, List.length_cons, List.length_nil, List.length_set, List.length_take, List.length_drop, List.length_replicate, List.length_map, Nat.min_def]; omega) | (simp; done) | (simp; omega) | done)), trivial⟩ ?_
    intro a w h
    refine then_normal ?_
    refine wp_seq ?_
    refine at_regq (T := S_impl_IsValidVector_tab) [] { ts := [0, 2, 5, 6, 7, 13], os := [] } [True] gamOK hT h (by kernel_rfl) ⟨trivial, trivial⟩ ?_
    intro a w h
    refine then_normal ?_
    refine at_test (!(isEl (x0.getD i 0))) h (by kernel_rfl) (fun h2 => ?_) (fun h2 => ?_)
    · replace h2 : (isEl (x0.getD i 0)) = false := notT h2
      refine wp_seq ?_
      refine at_regq (T := S_impl_IsValidVector_tab) [] { ts := [0, 2, 5, 6, 7], os := [] } [] gamOK hT h (by kernel_rfl) trivial ?_
      intro a w h
      refine then_normal ?_
      refine wp_ret ?_
      refine in_ret ?_
      refine then_ret ?_
      have hs3 : (List.all x0 isEl) = false := by exact all_at (z := 0) (i := i) (by omega) (by first | assumption | (simp_all; done))
      refine then_ret ?_
      refine in_ret ?_
      refine then_ret ?_
      exact at_return (S := S_impl_IsValidVector) (x := (x0, ())) (false, ()) [] h (by kernel_rfl) trivial (congrArg (fun z => (z, ())) (show (false) = validV x0 from by first | rfl | (unfold validV; rw [if_neg (neT hs3)])))
    · replace h2 : (isEl (x0.getD i 0)) = true := notF h2
      have hvh2 := isEl_t h2
      refine wp_skip ?_
      refine in_normal ?_
      refine then_normal ?_
      refine at_regq (T := S_impl_IsValidVector_tab) [{ nw := true }] { ts := [0, 2, 5, 6, 7], os := [] } [I64 (((i : Nat) : Int) + 1)] gamOK hT h (by kernel_rfl) ⟨⟨by first | omega | (simp only [List.length_append, List.length_cons, List.length_nil, List.length_set, List.length_take, List.length_drop, List.length_replicate, List.length_map, Nat.min_def]; omega) | (simp; done) | (simp; omega) | done, by first | omega | (simp only [List.length_append, List.length_cons, List.length_nil, List.length_set, List.length_take, List.length_drop, List.length_replicate, List.length_map, Nat.min_def]; omega) | (simp; done) | (simp; omega) | done⟩, trivial⟩ ?_
      intro a w h
      replace h := at_out (σ' := ⟨[(0, aF (.int 3) x0), (2, aB false), (5, aF (.int 3) x0), (6, aI ((List.length x0 : Nat) : Int)), (7, aI (((i : Nat) : Int) + 1))], []⟩) { ts := [0, 2, 5, 6, 7], os := [] } h (by kernel_rfl)
      exact ⟨i + 1, at_eq h (st_congr1 (fun (d0 : Int) => (⟨[(0, aF (.int 3) x0), (2, aB false), (5, aF (.int 3) x0), (6, aI ((List.length x0 : Nat) : Int)), (7, aI d0)], []⟩ : St)) (show (((i : Nat) : Int) + 1 : Int) = (((i + 1) : Nat) : Int) from by first | with_reducible rfl | (omega) | rfl)), (by exact ⟨by omega, allTo1_succ hok0.2 (by first | assumption | (simp_all; done))⟩), (by omega)⟩
  · replace h1 : ¬ (((i : Nat) : Int) < ((List.length x0 : Nat) : Int)) := of_decide_eq_false h1
    refine wp_exit ?_
    refine then_exit ?_
    have hs4 : (List.all x0 isEl) = true := by exact all_of (z := 0) (i := i) (by omega) hok0.2
    refine then_exit ?_
    refine in_hit ?_
    refine then_normal ?_
    refine wp_seq ?_
    refine at_reg (T := S_impl_IsValidVector_tab) [] { ts := [2], os := [] } ⟨[(2, aB (decide (((List.length x0 : Nat) : Int) ≤ 40)))], []⟩ [] gamOK hT h (by kernel_rfl) trivial ?_
    intro a w h
    refine then_normal ?_
    refine wp_ret ?_
    exact at_return (S := S_impl_IsValidVector) (x := (x0, ())) (decide (((List.length x0 : Nat) : Int) ≤ 40), ()) [] h (by kernel_rfl) trivial (congrArg (fun z => (z, ())) (show (decide (((List.length x0 : Nat) : Int) ≤ 40)) = validV x0 from by first | rfl | (unfold validV; rw [if_pos hs4])))
theorem validV_t {v : List Int} (h : validV v = true) : List.length v ≤ 40 ∧ (∀ x ∈ v, LA.El x) ∧ (∀ j, 0 ≤ v.getD j 0 ∧ v.getD j 0 ≤ 1018) := by
  unfold validV at h
  split at h
  · rename_i ha
    have := of_decide_eq_true h
    exact ⟨by omega, validV_el ha, elB (validV_el ha)⟩
  · cases h
def scaleV (v : List Int) (k : Int) : List Int := if validV v = true ∧ isEl k = true then LA.scaleS v k else []
def addV (a b : List Int) (k : Int) : List Int := if (validV a = true ∧ validV b = true ∧ List.length a = List.length b) ∧ isEl k = true then LA.addS a b k else []

def S_spec_IsValidVector : Sum := { fid := 208, dom := [s22], cod := [(.bool 4)], dp := true, fz := false, pre := fun x => (fun (x0 : (List Int)) => Sh.fit s22 x0) x.1, g := fun x => ((validV x.1), ()) }
def S_spec_IsValidVector_tab : List (Nat × Sum) := [(248, S_spec_IsElement)]
theorem S_spec_IsValidVector_ok : FnOK Try.prog 208 S_spec_IsValidVector := by
  refine at_enter 19 (fun x => ⟨[(0, aF (.int 3) x.1)], []⟩) Try.func208 rfl (by kernel_rfl) (fun x => rfl) ?_
  rintro w0 Z0 ⟨x0, u⟩ a w
  revert x0
  intro (x0 : (List Int)) hpre hlens h
  replace h : At w0 Z0 [] 19 ⟨[(0, aF (.int 3) x0)], []⟩ a w := h
  replace hpre : (fun (x0 : (List Int)) => Sh.fit s22 x0) x0 := hpre
  have hl1 : List.length x0 ≤ 9223372036854775807 := hlens.1.1
  have hT : TabOK Try.prog S_spec_IsValidVector_tab := (.cons S_spec_IsElement_ok .nil)
  have hf0 : Sh.fit s22 x0 := hpre
  have hn0_1 : List.length x0 ≤ 1073741824 := hf0.1
  refine wp_seq ?_
  refine at_regq (T := S_spec_IsValidVector_tab) [] { ts := [0, 2], os := [] } [] gamOK hT h (by kernel_rfl) trivial ?_
  intro a w h
  refine then_normal ?_
  refine wp_seq ?_
  refine wp_seq ?_
  refine at_regq (T := S_spec_IsValidVector_tab) [] { ts := [0, 2, 3], os := [] } [] gamOK hT h (by kernel_rfl) trivial ?_
  intro a w h
  refine then_normal ?_
  refine wp_block ?_
  replace h := at_out (σ' := ⟨[(0, aF (.int 3) x0), (2, aB false), (3, aI 0)], []⟩) { ts := [0, 2, 3], os := [] } h (by kernel_rfl)
  refine at_loop (fun i : Nat => (⟨[(0, aF (.int 3) x0), (2, aB false), (3, aI ((i : Nat) : Int))], []⟩ : St)) (fun i => (i ≤ List.length x0 ∧ allTo1 isEl x0 0 i)) (fun i => List.length x0 - i) (0) h (st_congr1 (fun (d0 : Int) => (⟨[(0, aF (.int 3) x0), (2, aB false), (3, aI d0)], []⟩ : St)) (show (0 : Int) = (((0) : Nat) : Int) from by first | with_reducible rfl | (rfl) | rfl)) (by exact ⟨Nat.zero_le _, allTo1_zero⟩) ?_
  intro i a w hok0 h
  refine wp_seq ?_
  refine wp_seq ?_
  refine at_regq (T := S_spec_IsValidVector_tab) [] { ts := [0, 2, 3, 7], os := [] } [] gamOK hT h (by kernel_rfl) trivial ?_
  intro a w h
  refine then_normal ?_
  refine at_test (decide (((i : Nat) : Int) < ((List.length x0 : Nat) : Int))) h (by kernel_rfl) (fun h1 => ?_) (fun h1 => ?_)
  · replace h1 : ((i : Nat) : Int) < ((List.length x0 : Nat) : Int) := of_decide_eq_true h1
    refine wp_skip ?_
    refine then_normal ?_
    refine wp_seq ?_
    refine wp_block ?_
    refine wp_seq ?_
    refine at_reg (T := S_spec_IsValidVector_tab) [] { ts := [0, 2, 3, 15], os := [] } ⟨[(0, aF (.int 3) x0), (2, aB false), (3, aI ((i : Nat) : Int)), (15, aB (!(isEl (x0.getD i 0))))], []⟩ [(0 : Int) ≤ ((i : Nat) : Int) ∧ ((i : Nat) : Int) < ((List.length x0 : Nat) : Int), True] gamOK hT h (by kernel_rfl) ⟨(by refine ⟨?_, ?_⟩ <;> (first | omega | (simp only [List.length_append, List.length_cons, List.length_nil, List.length_set, List.length_take, List.length_drop, List.length_replicate, List.length_map, Nat.min_def]; omega) | (simp; done) | (simp; omega) | done)), trivial, trivial⟩ ?_
    intro a w h
    refine then_normal ?_
    refine at_test (!(isEl (x0.getD i 0))) h (by kernel_rfl) (fun h2 => ?_) (fun h2 => ?_)
    · replace h2 : (isEl (x0.getD i 0)) = false := notT h2
      refine wp_seq ?_
      refine at_regq (T := S_spec_IsValidVector_tab) [] { ts := [0, 2, 3], os := [] } [] gamOK hT h (by kernel_rfl) trivial ?_
      intro a w h
      refine then_normal ?_
      refine wp_ret ?_
      refine in_ret ?_
      refine then_ret ?_
      have hs3 : (List.all x0 isEl) = false := by exact all_at (z := 0) (i := i) (by omega) (by first | assumption | (simp_all; done))
      refine then_ret ?_
      refine in_ret ?_
      refine then_ret ?_
      exact at_return (S := S_spec_IsValidVector) (x := (x0, ())) (false, ()) [] h (by kernel_rfl) trivial (congrArg (fun z => (z, ())) (show (false) = validV x0 from by first | rfl | (unfold validV; rw [if_neg (neT hs3)]; done) | (unfold validV; simp_all)))
    · replace h2 : (isEl (x0.getD i 0)) = true := notF h2
      have hvh2 := isEl_t h2
      refine wp_skip ?_
      refine in_normal ?_
      refine then_normal ?_
      refine at_regq (T := S_spec_IsValidVector_tab) [{}, { nw := true }] { ts := [0, 2, 3], os := [] } [I64 (((i : Nat) : Int) + 1)] gamOK hT h (by kernel_rfl) ⟨⟨by first | omega | (simp only [List.length_append, List.length_cons, List.length_nil, List.length_set, List.length_take, List.length_drop, List.length_replicate, List.length_map, Nat.min_def]; omega) | (simp; done) | (simp; omega) | done, by first | omega | (simp only [List.length_append, List.length_cons, List.length_nil, List.length_set, List.length_take, List.length_drop, List.length_replicate, List.length_map, Nat.min_def]; omega) | (simp; done) | (simp; omega) | done⟩, trivial⟩ ?_
      intro a w h
      replace h := at_out (σ' := ⟨[(0, aF (.int 3) x0), (2, aB false), (3, aI (((i : Nat) : Int) + 1))], []⟩) { ts := [0, 2, 3], os := [] } h (by kernel_rfl)
      exact ⟨i + 1, at_eq h (st_congr1 (fun (d0 : Int) => (⟨[(0, aF (.int 3) x0), (2, aB false), (3, aI d0)], []⟩ : St)) (show (((i : Nat) : Int) + 1 : Int) = (((i + 1) : Nat) : Int) from by first | with_reducible rfl | (omega) | rfl)), (by exact ⟨by omega, allTo1_succ hok0.2 (by first | assumption | (simp_all; done))⟩), (by omega)⟩
  · replace h1 : ¬ (((i : Nat) : Int) < ((List.length x0 : Nat) : Int)) := of_decide_eq_false h1
    refine wp_exit ?_
    refine then_exit ?_
    have hs4 : (List.all x0 isEl) = true := by exact all_of (z := 0) (i := i) (by omega) hok0.2
    refine then_exit ?_
    refine in_hit ?_
    refine then_normal ?_
    refine wp_seq ?_
    refine at_reg (T := S_spec_IsValidVector_tab) [] { ts := [2], os := [] } ⟨[(2, aB (decide (((List.length x0 : Nat) : Int) ≤ 40)))], []⟩ [] gamOK hT h (by kernel_rfl) trivial ?_
    intro a w h
    refine then_normal ?_
    refine wp_ret ?_
    exact at_return (S := S_spec_IsValidVector) (x := (x0, ())) (decide (((List.length x0 : Nat) : Int) ≤ 40), ()) [] h (by kernel_rfl) trivial (congrArg (fun z => (z, ())) (show (decide (((List.length x0 : Nat) : Int) ≤ 40)) = validV x0 from by first | rfl | (unfold validV; rw [if_pos hs4]; done) | (unfold validV; simp_all)))

def validM (x0 : (List (List Int))) : Bool := (if (List.all x0 (fun r => validV r && decide (List.length r = List.length (x0.getD 0 [])))) = true then decide (((List.length x0 : Nat) : Int) ≤ 40) else false)
def S_impl_IsValidMatrix : Sum := { fid := 260, dom := [s80], cod := [(.bool 4)], dp := true, fz := false, pre := fun x => (fun (x0 : (List (List Int))) => Sh.fit s80 x0) x.1, g := fun x => ((validM x.1), ()) }
def S_impl_IsValidMatrix_tab : List (Nat × Sum) := [(215, S_impl_IsValidVector)]
theorem S_impl_IsValidMatrix_ok : FnOK Try.prog 260 S_impl_IsValidMatrix := by
  refine at_enter 27 (fun x => ⟨[(0, aF s22 x.1)], []⟩) Try.func260 rfl (by kernel_rfl) (fun x => rfl) ?_
  rintro w0 Z0 ⟨x0, u⟩ a w
  revert x0
  intro (x0 : (List (List Int))) hpre hlens h
  replace h : At w0 Z0 [] 27 ⟨[(0, aF s22 x0)], []⟩ a w := h
  replace hpre : (fun (x0 : (List (List Int))) => Sh.fit s80 x0) x0 := hpre
  have hl1 : List.length x0 ≤ 9223372036854775807 := hlens.1.1
  have hT : TabOK Try.prog S_impl_IsValidMatrix_tab := (.cons S_impl_IsValidVector_ok .nil)
  have hf0 : Sh.fit s80 x0 := hpre
  have hn0_1 : List.length x0 ≤ 1073741824 := hf0.1
  refine wp_seq ?_
  refine at_regq (T := S_impl_IsValidMatrix_tab) [] { ts := [0, 2], os := [] } [] gamOK hT h (by kernel_rfl) trivial ?_
  intro a w h
  refine then_normal ?_
  refine wp_seq ?_
  refine wp_seq ?_
  refine at_regq (T := S_impl_IsValidMatrix_tab) [] { ts := [0, 2, 5, 6, 7], os := [] } [] gamOK hT h (by kernel_rfl) trivial ?_
  intro a w h
  refine then_normal ?_
  refine wp_block ?_
  replace h := at_out (σ' := ⟨[(0, aF s22 x0), (2, aB false), (5, aF s22 x0), (6, aI ((List.length x0 : Nat) : Int)), (7, aI 0)], []⟩) { ts := [0, 2, 5, 6, 7], os := [] } h (by kernel_rfl)
  refine at_loop (fun i : Nat => (⟨[(0, aF s22 x0), (2, aB false), (5, aF s22 x0), (6, aI ((List.length x0 : Nat) : Int)), (7, aI ((i : Nat) : Int))], []⟩ : St)) (fun i => (i ≤ List.length x0 ∧ allTo1 (fun r => validV r && decide (List.length r = List.length (x0.getD 0 []))) x0 [] i)) (fun i => List.length x0 - i) (0) h (st_congr1 (fun (d0 : Int) => (⟨[(0, aF s22 x0), (2, aB false), (5, aF s22 x0), (6, aI ((List.length x0 : Nat) : Int)), (7, aI d0)], []⟩ : St)) (show (0 : Int) = (((0) : Nat) : Int) from by first | with_reducible rfl | (rfl) | rfl)) (by exact ⟨Nat.zero_le _, allTo1_zero⟩) ?_
  intro i a w hok0 h
  refine wp_seq ?_
  refine at_regq (T := S_impl_IsValidMatrix_tab) [] { ts := [0, 2, 5, 6, 7, 8], os := [] } [] gamOK hT h (by kernel_rfl) trivial ?_
  intro a w h
  refine then_normal ?_
  refine wp_seq ?_
  refine at_test (decide (((i : Nat) : Int) < ((List.length x0 : Nat) : Int))) h (by kernel_rfl) (fun h1 => ?_) (fun h1 => ?_)
  · replace h1 : ((i : Nat) : Int) < ((List.length x0 : Nat) : Int) := of_decide_eq_true h1
    refine wp_skip ?_
    refine then_normal ?_
    refine wp_seq ?_
    refine wp_block ?_
    refine wp_seq ?_
    refine at_reg (T := S_impl_IsValidMatrix_tab) [] { ts := [0, 2, 4, 5, 6, 7], os := [] } ⟨[(0, aF s22 x0), (2, aB false), (4, aF (.int 3) (x0.getD i [])), (5, aF s22 x0), (6, aI ((List.length x0 : Nat) : Int)), (7, aI ((i : Nat) : Int))], []⟩ [(0 : Int) ≤ ((i : Nat) : Int) ∧ ((i : Nat) : Int) < ((List.length x0 : Nat) : Int)] gamOK hT h (by kernel_rfl) ⟨(by refine ⟨?_, ?_⟩ <;> (first | omega | (simp only [List.length_append, List.length_cons, List.length_nil, List.length_set, List.length_take, List.length_drop, List.length_replicate, List.length_map, Nat.min_def]; omega) | (simp; done) | (simp; omega) | done)), trivial⟩ ?_
    intro a w h
    refine then_normal ?_
    refine wp_seq ?_
    rcases Bool.eq_false_or_eq_true (!(validV (x0.getD i []))) with h2 | h2
    · skip
      have hzh2 : (validV (x0.getD i [])) = false := notT h2
      refine at_regq (T := S_impl_IsValidMatrix_tab) [{}, {}, { hint := some (aB true) }] { ts := [0, 2, 5, 6, 7, 15, 16, 17, 18, 19, 20, 21, 22], os := [] } [(fun (x0 : (List Int)) => Sh.fit s22 x0) (x0.getD i []), (AV.p (.c (.v (.bool (!(validV (x0.getD i [])))))) = AV.p (.c (.v (.bool true))))] gamOK hT h (by kernel_rfl) ⟨(by exact (Sh.fit_getD hf0 i)), hint_bool (h2), trivial⟩ ?_
      intro a w h
      refine then_normal ?_
      refine at_test true h (by kernel_rfl) (fun hh => ?_) (fun hh => nomatch hh)
      refine wp_seq ?_
      refine at_regq (T := S_impl_IsValidMatrix_tab) [] { ts := [0, 2, 5, 6, 7, 15, 16, 17, 18, 19, 20, 21], os := [] } [] gamOK hT h (by kernel_rfl) trivial ?_
      intro a w h
      refine then_normal ?_
      refine wp_ret ?_
      refine in_ret ?_
      refine then_ret ?_
      have hs3 : (List.all x0 (fun r => validV r && decide (List.length r = List.length (x0.getD 0 [])))) = false := by exact all_at (z := []) (i := i) (by omega) (by (show ((validV _) && _) = false; rw [Bool.and_eq_false_iff]; first | (left; assumption) | (right; exact decide_eq_false (by omega))))
      refine then_ret ?_
      refine in_ret ?_
      refine then_ret ?_
      exact at_return (S := S_impl_IsValidMatrix) (x := (x0, ())) (false, ()) [] h (by kernel_rfl) trivial (congrArg (fun z => (z, ())) (show (false) = validM x0 from by first | rfl | (unfold validM; rw [if_neg (neT hs3)])))
    · skip
      have hzh2 : (validV (x0.getD i [])) = true := notF h2
      have hvh2 := validV_t (notF h2)
      refine at_regq (T := S_impl_IsValidMatrix_tab) [{}, {}, { hint := some (aB false) }] { ts := [0, 2, 5, 6, 7, 15, 16, 17, 18, 19, 20, 21, 22], os := [] } [(fun (x0 : (List Int)) => Sh.fit s22 x0) (x0.getD i []), (AV.p (.c (.v (.bool (!(validV (x0.getD i [])))))) = AV.p (.c (.v (.bool false)))), (0 : Int) ≤ 0 ∧ 0 < ((List.length x0 : Nat) : Int)] gamOK hT h (by kernel_rfl) ⟨(by exact (Sh.fit_getD hf0 i)), hint_bool (h2), (by refine ⟨?_, ?_⟩ <;> (first | omega | (simp only [List.length_append, List.length_cons, List.length_nil, List.length_set, List.length_take, List.length_drop, List.length_replicate, List.length_map, Nat.min_def]; omega) | (simp; done) | (simp; omega) | done)), trivial⟩ ?_
      intro a w h
      refine then_normal ?_
      refine at_test (!decide (((List.length (x0.getD i []) : Nat) : Int) = ((List.length (x0.getD 0 []) : Nat) : Int))) h (by kernel_rfl) (fun h4 => ?_) (fun h4 => ?_)
      · replace h4 : ¬ (((List.length (x0.getD i []) : Nat) : Int) = ((List.length (x0.getD 0 []) : Nat) : Int)) := of_decide_eq_false (notT h4)
        refine wp_seq ?_
        refine at_regq (T := S_impl_IsValidMatrix_tab) [] { ts := [0, 2, 5, 6, 7, 15, 16, 17, 18, 19, 20, 21], os := [] } [] gamOK hT h (by kernel_rfl) trivial ?_
        intro a w h
        refine then_normal ?_
        refine wp_ret ?_
        refine in_ret ?_
        refine then_ret ?_
        have hs5 : (List.all x0 (fun r => validV r && decide (List.length r = List.length (x0.getD 0 [])))) = false := by exact all_at (z := []) (i := i) (by omega) (by (show ((validV _) && _) = false; rw [Bool.and_eq_false_iff]; first | (left; assumption) | (right; exact decide_eq_false (by omega))))
        refine then_ret ?_
        refine in_ret ?_
        refine then_ret ?_
        exact at_return (S := S_impl_IsValidMatrix) (x := (x0, ())) (false, ()) [] h (by kernel_rfl) trivial (congrArg (fun z => (z, ())) (show (false) = validM x0 from by first | rfl | (unfold validM; rw [if_neg (neT hs5)])))
      · replace h4 : ((List.length (x0.getD i []) : Nat) : Int) = ((List.length (x0.getD 0 []) : Nat) : Int) := of_decide_eq_true (notF h4)
        refine wp_skip ?_
        refine in_normal ?_
        refine then_normal ?_
        refine at_regq (T := S_impl_IsValidMatrix_tab) [{ nw := true }] { ts := [0, 2, 5, 6, 7, 15, 16, 17, 18, 19, 20, 21], os := [] } [I64 (((i : Nat) : Int) + 1)] gamOK hT h (by kernel_rfl) ⟨⟨by first | omega | (simp only [List.length_append, List.length_cons, List.length_nil, List.length_set, List.length_take, List.length_drop, List.length_replicate, List.length_map, Nat.min_def]; omega) | (simp; done) | (simp; omega) | done, by first | omega | (simp only [List.length_append, List.length_cons, List.length_nil, List.length_set, List.length_take, List.length_drop, List.length_replicate, List.length_map, Nat.min_def]; omega) | (simp; done) | (simp; omega) | done⟩, trivial⟩ ?_
        intro a w h
        replace h := at_out (σ' := ⟨[(0, aF s22 x0), (2, aB false), (5, aF s22 x0), (6, aI ((List.length x0 : Nat) : Int)), (7, aI (((i : Nat) : Int) + 1))], []⟩) { ts := [0, 2, 5, 6, 7], os := [] } h (by kernel_rfl)
        exact ⟨i + 1, at_eq h (st_congr1 (fun (d0 : Int) => (⟨[(0, aF s22 x0), (2, aB false), (5, aF s22 x0), (6, aI ((List.length x0 : Nat) : Int)), (7, aI d0)], []⟩ : St)) (show (((i : Nat) : Int) + 1 : Int) = (((i + 1) : Nat) : Int) from by first | with_reducible rfl | (omega) | rfl)), (by exact ⟨by omega, allTo1_succ hok0.2 (by (show ((validV _) && _) = true; rw [Bool.and_eq_true]; exact ⟨by assumption, decide_eq_true (by omega)⟩))⟩), (by omega)⟩
  · replace h1 : ¬ (((i : Nat) : Int) < ((List.length x0 : Nat) : Int)) := of_decide_eq_false h1
    refine wp_exit ?_
    refine then_exit ?_
    have hs6 : (List.all x0 (fun r => validV r && decide (List.length r = List.length (x0.getD 0 [])))) = true := by exact all_of (z := []) (i := i) (by omega) hok0.2
    refine then_exit ?_
    refine in_hit ?_
    refine then_normal ?_
    refine wp_seq ?_
    refine at_reg (T := S_impl_IsValidMatrix_tab) [] { ts := [2], os := [] } ⟨[(2, aB (decide (((List.length x0 : Nat) : Int) ≤ 40)))], []⟩ [] gamOK hT h (by kernel_rfl) trivial ?_
    intro a w h
    refine then_normal ?_
    refine wp_ret ?_
    exact at_return (S := S_impl_IsValidMatrix) (x := (x0, ())) (decide (((List.length x0 : Nat) : Int) ≤ 40), ()) [] h (by kernel_rfl) trivial (congrArg (fun z => (z, ())) (show (decide (((List.length x0 : Nat) : Int) ≤ 40)) = validM x0 from by first | rfl | (unfold validM; rw [if_pos hs6])))
theorem validM_t {m : List (List Int)} (h : validM m = true) : List.length m ≤ 40 ∧ (∀ r ∈ m, validV r = true ∧ List.length r = List.length (m.getD 0 [])) := by
  unfold validM at h
  split at h
  · rename_i ha
    have := of_decide_eq_true h
    refine ⟨by omega, fun r hr => ?_⟩
    have := List.all_eq_true.1 ha r hr
    rw [Bool.and_eq_true] at this
    exact ⟨this.1, of_decide_eq_true this.2⟩
  · cases h
theorem validM_ok {m : List (List Int)} (h : validM m = true) : ∀ r ∈ m, LA.VokB (List.length (m.getD 0 [])) r := fun r hr => ⟨((validM_t h).2 r hr).2, (validV_t ((validM_t h).2 r hr).1).2.1⟩
theorem validM_at {m : List (List Int)} (h : validM m = true) (j : Nat) (hj : j < m.length) : List.length (m.getD j []) = List.length (m.getD 0 []) := ((validM_t h).2 _ (getD_mem hj)).2

def S_spec_IsValidMatrix : Sum := { fid := 186, dom := [s80], cod := [(.bool 4)], dp := true, fz := false, pre := fun x => (fun (x0 : (List (List Int))) => Sh.fit s80 x0) x.1, g := fun x => ((validM x.1), ()) }
def S_spec_IsValidMatrix_tab : List (Nat × Sum) := [(208, S_spec_IsValidVector)]
theorem S_spec_IsValidMatrix_ok : FnOK Try.prog 186 S_spec_IsValidMatrix := by
  refine at_enter 31 (fun x => ⟨[(0, aF s22 x.1)], []⟩) Try.func186 rfl (by kernel_rfl) (fun x => rfl) ?_
  rintro w0 Z0 ⟨x0, u⟩ a w
  revert x0
  intro (x0 : (List (List Int))) hpre hlens h
  replace h : At w0 Z0 [] 31 ⟨[(0, aF s22 x0)], []⟩ a w := h
  replace hpre : (fun (x0 : (List (List Int))) => Sh.fit s80 x0) x0 := hpre
  have hl1 : List.length x0 ≤ 9223372036854775807 := hlens.1.1
  have hT : TabOK Try.prog S_spec_IsValidMatrix_tab := (.cons S_spec_IsValidVector_ok .nil)
  have hf0 : Sh.fit s80 x0 := hpre
  have hn0_1 : List.length x0 ≤ 1073741824 := hf0.1
  refine wp_seq ?_
  refine at_regq (T := S_spec_IsValidMatrix_tab) [] { ts := [0, 2], os := [] } [] gamOK hT h (by kernel_rfl) trivial ?_
  intro a w h
  refine then_normal ?_
  refine wp_seq ?_
  refine wp_seq ?_
  refine at_regq (T := S_spec_IsValidMatrix_tab) [] { ts := [0, 2, 3], os := [] } [] gamOK hT h (by kernel_rfl) trivial ?_
  intro a w h
  refine then_normal ?_
  refine wp_block ?_
  replace h := at_out (σ' := ⟨[(0, aF s22 x0), (2, aB false), (3, aI 0)], []⟩) { ts := [0, 2, 3], os := [] } h (by kernel_rfl)
  refine at_loop (fun i : Nat => (⟨[(0, aF s22 x0), (2, aB false), (3, aI ((i : Nat) : Int))], []⟩ : St)) (fun i => (i ≤ List.length x0 ∧ allTo1 (fun r => validV r && decide (List.length r = List.length (x0.getD 0 []))) x0 [] i)) (fun i => List.length x0 - i) (0) h (st_congr1 (fun (d0 : Int) => (⟨[(0, aF s22 x0), (2, aB false), (3, aI d0)], []⟩ : St)) (show (0 : Int) = (((0) : Nat) : Int) from by first | with_reducible rfl | (rfl) | rfl)) (by exact ⟨Nat.zero_le _, allTo1_zero⟩) ?_
  intro i a w hok0 h
  refine wp_seq ?_
  refine wp_seq ?_
  refine at_regq (T := S_spec_IsValidMatrix_tab) [] { ts := [0, 2, 3, 7], os := [] } [] gamOK hT h (by kernel_rfl) trivial ?_
  intro a w h
  refine then_normal ?_
  refine at_test (decide (((i : Nat) : Int) < ((List.length x0 : Nat) : Int))) h (by kernel_rfl) (fun h1 => ?_) (fun h1 => ?_)
  · replace h1 : ((i : Nat) : Int) < ((List.length x0 : Nat) : Int) := of_decide_eq_true h1
    refine wp_skip ?_
    refine then_normal ?_
    refine wp_seq ?_
    refine wp_block ?_
    refine wp_seq ?_
    rcases Bool.eq_false_or_eq_true (!(validV (x0.getD i []))) with h2 | h2
    · skip
      have hzh2 : (validV (x0.getD i [])) = false := notT h2
      refine at_any (T := S_spec_IsValidMatrix_tab) [{}, {}, {}, {}, {}, { hint := some (aB true) }, {}, {}, {}, {}, {}, {}, {}, {}, {}, {}, {}, {}] { ts := [0, 2, 3, 17, 18, 19, 20, 21, 22, 23, 24, 25, 26, 27], os := [] } ⟨[(0, aF s22 x0), (2, aB false), (3, aI ((i : Nat) : Int)), (17, .p (.c (.v undef))), (18, .p (.c (.v undef))), (19, .p (.c (.v undef))), (20, .p (.c (.v undef))), (21, .p (.c (.v undef))), (22, .p (.c (.v undef))), (23, .p (.c (.v undef))), (24, .p (.c (.v undef))), (25, .p (.c (.v undef))), (26, .p (.c (.v undef))), (27, aB true)], []⟩ [(0 : Int) ≤ ((i : Nat) : Int) ∧ ((i : Nat) : Int) < ((List.length x0 : Nat) : Int), (fun (x0 : (List Int)) => Sh.fit s22 x0) (x0.getD i []), (AV.p (.c (.v (.bool (!(validV (x0.getD i [])))))) = AV.p (.c (.v (.bool true))))] gamOK hT mixed h (by kernel_rfl) ⟨(by refine ⟨?_, ?_⟩ <;> (first | omega | (simp only [List.length_append, List.length_cons, List.length_nil, List.length_set, List.length_take, List.length_drop, List.length_replicate, List.length_map, Nat.min_def]; omega) | (simp; done) | (simp; omega) | done)), (by exact (Sh.fit_getD hf0 i)), hint_bool (h2), trivial⟩ ?_
      intro a w h
      refine then_normal ?_
      refine at_test true h (by kernel_rfl) (fun hh => ?_) (fun hh => nomatch hh)
      refine wp_seq ?_
      refine at_regq (T := S_spec_IsValidMatrix_tab) [] { ts := [0, 2, 3, 17, 18, 19, 20, 21, 22, 23, 24, 25, 26], os := [] } [] gamOK hT h (by kernel_rfl) trivial ?_
      intro a w h
      refine then_normal ?_
      refine wp_ret ?_
      refine in_ret ?_
      refine then_ret ?_
      have hs3 : (List.all x0 (fun r => validV r && decide (List.length r = List.length (x0.getD 0 [])))) = false := by exact all_at (z := []) (i := i) (by omega) (by (show ((validV _) && _) = false; rw [Bool.and_eq_false_iff]; first | (left; assumption) | (right; exact decide_eq_false (by omega))))
      refine then_ret ?_
      refine in_ret ?_
      refine then_ret ?_
      exact at_return (S := S_spec_IsValidMatrix) (x := (x0, ())) (false, ()) [] h (by kernel_rfl) trivial (congrArg (fun z => (z, ())) (show (false) = validM x0 from by first | rfl | (unfold validM; rw [if_neg (neT hs3)]; done) | (unfold validM; simp_all)))
    · skip
      have hzh2 : (validV (x0.getD i [])) = true := notF h2
      have hvh2 := validV_t (notF h2)
      refine at_any (T := S_spec_IsValidMatrix_tab) [{}, {}, {}, {}, {}, { hint := some (aB false) }, {}, {}, {}, {}, {}, {}, {}, {}, {}, {}, {}, {}] { ts := [0, 2, 3, 17, 18, 19, 20, 21, 22, 23, 24, 25, 26, 27], os := [] } ⟨[(0, aF s22 x0), (2, aB false), (3, aI ((i : Nat) : Int)), (17, aF s22 x0), (18, aI ((i : Nat) : Int)), (19, aR s22 (x0.getD i []) 0), (20, aF (.int 3) (x0.getD i [])), (21, aI ((List.length (x0.getD i []) : Nat) : Int)), (22, aF s22 x0), (23, aR s22 (x0.getD 0 []) 0), (24, aF (.int 3) (x0.getD 0 [])), (25, aI ((List.length (x0.getD 0 []) : Nat) : Int)), (26, aB (!decide (((List.length (x0.getD i []) : Nat) : Int) = ((List.length (x0.getD 0 []) : Nat) : Int)))), (27, aB (!decide (((List.length (x0.getD i []) : Nat) : Int) = ((List.length (x0.getD 0 []) : Nat) : Int))))], []⟩ [(0 : Int) ≤ ((i : Nat) : Int) ∧ ((i : Nat) : Int) < ((List.length x0 : Nat) : Int), (fun (x0 : (List Int)) => Sh.fit s22 x0) (x0.getD i []), (AV.p (.c (.v (.bool (!(validV (x0.getD i [])))))) = AV.p (.c (.v (.bool false)))), (0 : Int) ≤ ((i : Nat) : Int) ∧ ((i : Nat) : Int) < ((List.length x0 : Nat) : Int), (0 : Int) ≤ 0 ∧ 0 < ((List.length x0 : Nat) : Int)] gamOK hT mixed h (by kernel_rfl) ⟨(by refine ⟨?_, ?_⟩ <;> (first | omega | (simp only [List.length_append, List.length_cons, List.length_nil, List.length_set, List.length_take, List.length_drop, List.length_replicate, List.length_map, Nat.min_def]; omega) | (simp; done) | (simp; omega) | done)), (by exact (Sh.fit_getD hf0 i)), hint_bool (h2), (by refine ⟨?_, ?_⟩ <;> (first | omega | (simp only [List.length_append, List.length_cons, List.length_nil, List.length_set, List.length_take, List.length_drop, List.length_replicate, List.length_map, Nat.min_def]; omega) | (simp; done) | (simp; omega) | done)), (by refine ⟨?_, ?_⟩ <;> (first | omega | (simp only [List.length_append, List.length_cons, List.length_nil, List.length_set, List.length_take, List.length_drop, List.length_replicate, List.length_map, Nat.min_def]; omega) | (simp; done) | (simp; omega) | done)), trivial⟩ ?_
      intro a w h
      refine then_normal ?_
      refine at_test (!decide (((List.length (x0.getD i []) : Nat) : Int) = ((List.length (x0.getD 0 []) : Nat) : Int))) h (by kernel_rfl) (fun h4 => ?_) (fun h4 => ?_)
      · replace h4 : ¬ (((List.length (x0.getD i []) : Nat) : Int) = ((List.length (x0.getD 0 []) : Nat) : Int)) := of_decide_eq_false (notT h4)
        refine wp_seq ?_
        refine at_regq (T := S_spec_IsValidMatrix_tab) [] { ts := [0, 2, 3, 17, 18, 19, 20, 21, 22, 23, 24, 25, 26], os := [] } [] gamOK hT h (by kernel_rfl) trivial ?_
        intro a w h
        refine then_normal ?_
        refine wp_ret ?_
        refine in_ret ?_
        refine then_ret ?_
        have hs5 : (List.all x0 (fun r => validV r && decide (List.length r = List.length (x0.getD 0 [])))) = false := by exact all_at (z := []) (i := i) (by omega) (by (show ((validV _) && _) = false; rw [Bool.and_eq_false_iff]; first | (left; assumption) | (right; exact decide_eq_false (by omega))))
        refine then_ret ?_
        refine in_ret ?_
        refine then_ret ?_
        exact at_return (S := S_spec_IsValidMatrix) (x := (x0, ())) (false, ()) [] h (by kernel_rfl) trivial (congrArg (fun z => (z, ())) (show (false) = validM x0 from by first | rfl | (unfold validM; rw [if_neg (neT hs5)]; done) | (unfold validM; simp_all)))
      · replace h4 : ((List.length (x0.getD i []) : Nat) : Int) = ((List.length (x0.getD 0 []) : Nat) : Int) := of_decide_eq_true (notF h4)
        refine wp_skip ?_
        refine in_normal ?_
        refine then_normal ?_
        refine at_regq (T := S_spec_IsValidMatrix_tab) [{}, { nw := true }] { ts := [0, 2, 3, 17, 18, 19, 20, 21, 22, 23, 24, 25, 26], os := [] } [I64 (((i : Nat) : Int) + 1)] gamOK hT h (by kernel_rfl) ⟨⟨by first | omega | (simp only [List.length_append, List.length_cons, List.length_nil, List.length_set, List.length_take, List.length_drop, List.length_replicate, List.length_map, Nat.min_def]; omega) | (simp; done) | (simp; omega) | done, by first | omega | (simp only [List.length_append, List.length_cons, List.length_nil, List.length_set, List.length_take, List.length_drop, List.length_replicate, List.length_map, Nat.min_def]; omega) | (simp; done) | (simp; omega) | done⟩, trivial⟩ ?_
        intro a w h
        replace h := at_out (σ' := ⟨[(0, aF s22 x0), (2, aB false), (3, aI (((i : Nat) : Int) + 1))], []⟩) { ts := [0, 2, 3], os := [] } h (by kernel_rfl)
        exact ⟨i + 1, at_eq h (st_congr1 (fun (d0 : Int) => (⟨[(0, aF s22 x0), (2, aB false), (3, aI d0)], []⟩ : St)) (show (((i : Nat) : Int) + 1 : Int) = (((i + 1) : Nat) : Int) from by first | with_reducible rfl | (omega) | rfl)), (by exact ⟨by omega, allTo1_succ hok0.2 (by (show ((validV _) && _) = true; rw [Bool.and_eq_true]; exact ⟨by assumption, decide_eq_true (by omega)⟩))⟩), (by omega)⟩
  · replace h1 : ¬ (((i : Nat) : Int) < ((List.length x0 : Nat) : Int)) := of_decide_eq_false h1
    refine wp_exit ?_
    refine then_exit ?_
    have hs6 : (List.all x0 (fun r => validV r && decide (List.length r = List.length (x0.getD 0 [])))) = true := by exact all_of (z := []) (i := i) (by omega) hok0.2
    refine then_exit ?_
    refine in_hit ?_
    refine then_normal ?_
    refine wp_seq ?_
    refine at_reg (T := S_spec_IsValidMatrix_tab) [] { ts := [2], os := [] } ⟨[(2, aB (decide (((List.length x0 : Nat) : Int) ≤ 40)))], []⟩ [] gamOK hT h (by kernel_rfl) trivial ?_
    intro a w h
    refine then_normal ?_
    refine wp_ret ?_
    exact at_return (S := S_spec_IsValidMatrix) (x := (x0, ())) (decide (((List.length x0 : Nat) : Int) ≤ 40), ()) [] h (by kernel_rfl) trivial (congrArg (fun z => (z, ())) (show (decide (((List.length x0 : Nat) : Int) ≤ 40)) = validM x0 from by first | rfl | (unfold validM; rw [if_pos hs6]; done) | (unfold validM; simp_all)))

def colsOf (x0 : (List (List Int))) : Int := (if ((List.length x0 : Nat) : Int) = 0 then 0 else ((List.length (x0.getD 0 []) : Nat) : Int))
def S_impl_ColumnsOf : Sum := { fid := 195, dom := [s80], cod := [(.int 3)], dp := true, fz := false, pre := fun x => (fun (x0 : (List (List Int))) => Sh.fit s80 x0) x.1, g := fun x => ((colsOf x.1), ()) }
def S_impl_ColumnsOf_tab : List (Nat × Sum) := []
theorem S_impl_ColumnsOf_ok : FnOK Try.prog 195 S_impl_ColumnsOf := by
  refine at_enter 10 (fun x => ⟨[(0, aF s22 x.1)], []⟩) Try.func195 rfl (by kernel_rfl) (fun x => rfl) ?_
  rintro w0 Z0 ⟨x0, u⟩ a w
  revert x0
  intro (x0 : (List (List Int))) hpre hlens h
  replace h : At w0 Z0 [] 10 ⟨[(0, aF s22 x0)], []⟩ a w := h
  replace hpre : (fun (x0 : (List (List Int))) => Sh.fit s80 x0) x0 := hpre
  have hl1 : List.length x0 ≤ 9223372036854775807 := hlens.1.1
  have hT : TabOK Try.prog S_impl_ColumnsOf_tab := .nil
  have hf0 : Sh.fit s80 x0 := hpre
  have hn0_1 : List.length x0 ≤ 1073741824 := hf0.1
  refine wp_seq ?_
  refine at_regq (T := S_impl_ColumnsOf_tab) [] { ts := [0, 2], os := [] } [] gamOK hT h (by kernel_rfl) trivial ?_
  intro a w h
  refine then_normal ?_
  refine wp_seq ?_
  refine wp_seq ?_
  refine at_regq (T := S_impl_ColumnsOf_tab) [] { ts := [0, 2, 5], os := [] } [] gamOK hT h (by kernel_rfl) trivial ?_
  intro a w h
  refine then_normal ?_
  refine at_test (decide (((List.length x0 : Nat) : Int) = 0)) h (by kernel_rfl) (fun h1 => ?_) (fun h1 => ?_)
  · replace h1 : ((List.length x0 : Nat) : Int) = 0 := of_decide_eq_true h1
    refine wp_seq ?_
    refine at_regq (T := S_impl_ColumnsOf_tab) [] { ts := [0, 2], os := [] } [] gamOK hT h (by kernel_rfl) trivial ?_
    intro a w h
    refine then_normal ?_
    refine wp_ret ?_
    refine then_ret ?_
    exact at_return (S := S_impl_ColumnsOf) (x := (x0, ())) (0, ()) [] h (by kernel_rfl) trivial (congrArg (fun z => (z, ())) (show (0) = colsOf x0 from by first | rfl | (unfold colsOf; rw [if_pos h1])))
  · replace h1 : ¬ (((List.length x0 : Nat) : Int) = 0) := of_decide_eq_false h1
    refine wp_skip ?_
    refine then_normal ?_
    refine wp_seq ?_
    refine at_regq (T := S_impl_ColumnsOf_tab) [] { ts := [2], os := [] } [(0 : Int) ≤ 0 ∧ 0 < ((List.length x0 : Nat) : Int)] gamOK hT h (by kernel_rfl) ⟨(by refine ⟨?_, ?_⟩ <;> (first | omega | (simp only [List.length_append, List.length_cons, List.length_nil, List.length_set, List.length_take, List.length_drop, List.length_replicate, List.length_map, Nat.min_def]; omega) | (simp; done) | (simp; omega) | done)), trivial⟩ ?_
    intro a w h
    refine then_normal ?_
    refine wp_ret ?_
    exact at_return (S := S_impl_ColumnsOf) (x := (x0, ())) (((List.length (x0.getD 0 []) : Nat) : Int), ()) [] h (by kernel_rfl) trivial (congrArg (fun z => (z, ())) (show (((List.length (x0.getD 0 []) : Nat) : Int)) = colsOf x0 from by first | rfl | (unfold colsOf; rw [if_neg h1])))

def S_spec_ColumnsOf : Sum := { fid := 120, dom := [s80], cod := [(.int 3)], dp := true, fz := false, pre := fun x => (fun (x0 : (List (List Int))) => Sh.fit s80 x0) x.1, g := fun x => ((colsOf x.1), ()) }
def S_spec_ColumnsOf_tab : List (Nat × Sum) := []
theorem S_spec_ColumnsOf_ok : FnOK Try.prog 120 S_spec_ColumnsOf := by
  refine at_enter 10 (fun x => ⟨[(0, aF s22 x.1)], []⟩) Try.func120 rfl (by kernel_rfl) (fun x => rfl) ?_
  rintro w0 Z0 ⟨x0, u⟩ a w
  revert x0
  intro (x0 : (List (List Int))) hpre hlens h
  replace h : At w0 Z0 [] 10 ⟨[(0, aF s22 x0)], []⟩ a w := h
  replace hpre : (fun (x0 : (List (List Int))) => Sh.fit s80 x0) x0 := hpre
  have hl1 : List.length x0 ≤ 9223372036854775807 := hlens.1.1
  have hT : TabOK Try.prog S_spec_ColumnsOf_tab := .nil
  have hf0 : Sh.fit s80 x0 := hpre
  have hn0_1 : List.length x0 ≤ 1073741824 := hf0.1
  refine wp_seq ?_
  refine at_regq (T := S_spec_ColumnsOf_tab) [] { ts := [0, 2], os := [] } [] gamOK hT h (by kernel_rfl) trivial ?_
  intro a w h
  refine then_normal ?_
  refine wp_seq ?_
  refine wp_seq ?_
  refine at_regq (T := S_spec_ColumnsOf_tab) [] { ts := [0, 2, 5], os := [] } [] gamOK hT h (by kernel_rfl) trivial ?_
  intro a w h
  refine then_normal ?_
  refine at_test (decide (((List.length x0 : Nat) : Int) = 0)) h (by kernel_rfl) (fun h1 => ?_) (fun h1 => ?_)
  · replace h1 : ((List.length x0 : Nat) : Int) = 0 := of_decide_eq_true h1
    refine wp_seq ?_
    refine at_regq (T := S_spec_ColumnsOf_tab) [] { ts := [0, 2], os := [] } [] gamOK hT h (by kernel_rfl) trivial ?_
    intro a w h
    refine then_normal ?_
    refine wp_ret ?_
    refine then_ret ?_
    exact at_return (S := S_spec_ColumnsOf) (x := (x0, ())) (0, ()) [] h (by kernel_rfl) trivial (congrArg (fun z => (z, ())) (show (0) = colsOf x0 from by first | rfl | (unfold colsOf; rw [if_pos h1]; done) | (unfold colsOf; simp_all)))
  · replace h1 : ¬ (((List.length x0 : Nat) : Int) = 0) := of_decide_eq_false h1
    refine wp_skip ?_
    refine then_normal ?_
    refine wp_seq ?_
    refine at_regq (T := S_spec_ColumnsOf_tab) [] { ts := [2], os := [] } [(0 : Int) ≤ 0 ∧ 0 < ((List.length x0 : Nat) : Int)] gamOK hT h (by kernel_rfl) ⟨(by refine ⟨?_, ?_⟩ <;> (first | omega | (simp only [List.length_append, List.length_cons, List.length_nil, List.length_set, List.length_take, List.length_drop, List.length_replicate, List.length_map, Nat.min_def]; omega) | (simp; done) | (simp; omega) | done)), trivial⟩ ?_
    intro a w h
    refine then_normal ?_
    refine wp_ret ?_
    exact at_return (S := S_spec_ColumnsOf) (x := (x0, ())) (((List.length (x0.getD 0 []) : Nat) : Int), ()) [] h (by kernel_rfl) trivial (congrArg (fun z => (z, ())) (show (((List.length (x0.getD 0 []) : Nat) : Int)) = colsOf x0 from by first | rfl | (unfold colsOf; rw [if_neg h1]; done) | (unfold colsOf; simp_all)))

abbrev GF := Fin 2039
def gc (x : Int) : GF := Fin.ofNat 2039 x.toNat
theorem gc_val (x : Int) : (gc x).val = x.toNat % 2039 := rfl
theorem gc_inj {x y : Int} (hx : 0 ≤ x ∧ x < 2039) (hy : 0 ≤ y ∧ y < 2039) (h : gc x = gc y) : x = y := by
  have := congrArg Fin.val h
  rw [gc_val, gc_val, Nat.mod_eq_of_lt (by omega), Nat.mod_eq_of_lt (by omega)] at this
  omega
theorem gc_mul {x y : Int} (hx : 0 ≤ x) (hy : 0 ≤ y) : gc (x * y) = gc x * gc y := by
  apply Fin.ext
  rw [Fin.val_mul, gc_val, gc_val, gc_val, Int.toNat_mul hx hy, ← Nat.mul_mod]
theorem gc_mod {x : Int} (hx : 0 ≤ x) : gc (x.tmod 2039) = gc x := by
  apply Fin.ext
  rw [gc_val, gc_val, Int.tmod_eq_emod_of_nonneg hx]
  omega
def gpw : Nat → GF → Nat → GF
  | 0, _, _ => 1
  | f + 1, x, n => bif n.beq 0 then 1 else (bif (n % 2).beq 1 then x else 1) * gpw f (x * x) (n / 2)
theorem gpmL_c : ∀ (f n : Nat) (out a : Int), n < 2 ^ f → 0 ≤ out → 0 ≤ a → gc (LA.pmL 2039 out a n) = gc out * gpw f (gc a) n
  | 0, n, out, a, h, h1, h3 => by
    have : n = 0 := by simpa using h
    rw [this, LA.pmL_zero]; simp only [gpw]; grind
  | f + 1, n, out, a, h, h1, h3 => by
    by_cases h0 : n = 0
    · rw [h0, LA.pmL_zero]; simp only [gpw]
      show gc out = gc out * 1
      grind
    · have hn : n / 2 < 2 ^ f := by rw [Nat.pow_succ] at h; omega
      have ha := (LA.tmod_lt (m := 2039) (Int.mul_nonneg h3 h3) (by decide)).1
      have e0 : n.beq 0 = false := by cases n with | zero => exact absurd rfl h0 | succ n => rfl
      by_cases ho : n % 2 = 1
      · rw [LA.pmL_odd ho, gpmL_c f _ _ _ hn (LA.tmod_lt (Int.mul_nonneg h1 h3) (by decide)).1 ha, gc_mod (Int.mul_nonneg h1 h3), gc_mod (Int.mul_nonneg h3 h3), gc_mul h1 h3, gc_mul h3 h3]
        simp only [gpw, e0, ho, cond_false]
        show _ = gc out * (gc a * _)
        grind
      · have ho' : n % 2 = 0 := by omega
        rw [LA.pmL_even h0 ho', gpmL_c f _ _ _ hn h1 ha, gc_mod (Int.mul_nonneg h3 h3), gc_mul h3 h3]
        simp only [gpw, e0, ho', cond_false]
        show _ = gc out * (1 * _)
        grind
theorem gpw_mul : ∀ (f n : Nat) (x y : GF), gpw f (x * y) n = gpw f x n * gpw f y n
  | 0, _, _, _ => by simp only [gpw]; decide
  | f + 1, n, x, y => by
    have ih := gpw_mul f (n / 2) (x * x) (y * y)
    simp only [gpw]
    rw [show x * y * (x * y) = (x * x) * (y * y) by grind, ih]
    cases n.beq 0 with
    | true => show (1 : GF) = 1 * 1; decide
    | false =>
      simp only [cond_false]
      cases (n % 2).beq 1 with
      | true => show x * y * _ = (x * _) * (y * _); grind
      | false => show 1 * _ = (1 * _) * (1 * _); grind
theorem gpw_one : ∀ (f n : Nat), gpw f 1 n = 1
  | 0, _ => rfl
  | f + 1, n => by
    have ih := gpw_one f (n / 2)
    simp only [gpw]
    rw [show (1 : GF) * 1 = 1 by decide, ih]
    cases n.beq 0 with
    | true => rfl
    | false => cases (n % 2).beq 1 <;> decide
theorem gpw_pw (f n : Nat) : ∀ (g k : Nat) (x : GF), gpw f (gpw g x k) n = gpw g (gpw f x n) k
  | 0, _, _ => gpw_one f n
  | g + 1, k, x => by
    have ih := gpw_pw f n g (k / 2) (x * x)
    rw [gpw_mul f n x x] at ih
    rw [gpw.eq_2, gpw.eq_2]
    cases k.beq 0 with
    | true => exact gpw_one f n
    | false =>
      simp only [cond_false]
      rw [gpw_mul, ih]
      cases (k % 2).beq 1 with
      | true => rfl
      | false => show gpw f 1 n * _ = 1 * _; rw [gpw_one]
def isGrp (x : Int) : Bool := inR x 1 2038 && decide (powD x 1019 2039 = 1)
theorem pow_bd {a n : Int} (ha : 0 ≤ a ∧ a < 2039) (hn : 0 ≤ n ∧ n ≤ 1019) : 0 ≤ powD a n 2039 ∧ powD a n 2039 < 2039 := powD_bd ⟨ha, ⟨hn.1, by omega⟩, by decide, by decide⟩
theorem pow_gc {a n : Int} (ha : 0 ≤ a ∧ a < 2039) (hn : 0 ≤ n ∧ n ≤ 1019) : gc (powD a n 2039) = gpw 10 (gc a) n.toNat := by
  unfold powD
  rw [gpmL_c 10 _ _ _ (by omega) (by decide) ha.1]
  show (1 : GF) * _ = _
  grind
theorem gpw_zero : gpw 10 0 1019 = 0 := by decide +kernel
theorem isGrp_iff {x : Int} : isGrp x = true ↔ (0 ≤ x ∧ x < 2039) ∧ gpw 10 (gc x) 1019 = 1 := by
  unfold isGrp
  rw [Bool.and_eq_true, decide_eq_true_iff]
  constructor
  · rintro ⟨h1, h2⟩
    have h1 := inR_t h1
    have h3 := pow_gc (a := x) (n := 1019) (by omega) (by decide)
    rw [h2] at h3
    exact ⟨by omega, h3.symm⟩
  · rintro ⟨h1, h2⟩
    have h3 := pow_gc (a := x) (n := 1019) h1 (by decide)
    have h4 := pow_bd (a := x) (n := 1019) h1 (by decide)
    have h5 : x ≠ 0 := fun e => by rw [e] at h2; have := gpw_zero; rw [show gc 0 = 0 from rfl, this] at h2; exact absurd h2 (by decide)
    refine ⟨inR_true (by omega), gc_inj h4 (by decide) ?_⟩
    rw [h3]; exact h2
theorem isGrp_t {x : Int} (h : isGrp x = true) : 1 ≤ x ∧ x ≤ 2038 := by
  unfold isGrp at h
  rw [Bool.and_eq_true] at h
  exact inR_t h.1
theorem isGrp_mul {a b : Int} (ha : isGrp a = true) (hb : isGrp b = true) : isGrp ((a * b).tmod 2039) = true := by
  rw [isGrp_iff] at *
  obtain ⟨⟨a1, a2⟩, a3⟩ := ha
  obtain ⟨⟨b1, b2⟩, b3⟩ := hb
  have h := Int.mul_nonneg a1 b1
  refine ⟨LA.tmod_lt h (by decide), ?_⟩
  rw [gc_mod h, gc_mul a1 b1, gpw_mul, a3, b3]; decide
theorem isGrp_pow {a n : Int} (ha : isGrp a = true) (hn : 0 ≤ n ∧ n ≤ 1019) : isGrp (powD a n 2039) = true := by
  rw [isGrp_iff] at *
  refine ⟨pow_bd ha.1 hn, ?_⟩
  rw [pow_gc ha.1 hn, gpw_pw, ha.2, gpw_one]
theorem isGrp_one : isGrp 1 = true := by decide +kernel
/-- product of powers -/
def hpw (es xs : List Int) : Nat → Int
  | 0 => 1
  | i + 1 => (hpw es xs i * powD (es.getD i 0) (xs.getD i 0) 2039).tmod 2039
def powsL (es xs : List Int) : Int := hpw es xs es.length
def powsP (es xs : List Int) : Prop := es.length ≤ xs.length ∧ (∀ j, 0 ≤ es.getD j 0 ∧ es.getD j 0 < 2039) ∧ ∀ j, 0 ≤ xs.getD j 0 ∧ xs.getD j 0 ≤ 1018
theorem hpw_bd {es xs : List Int} (h : powsP es xs) : ∀ i, 0 ≤ hpw es xs i ∧ hpw es xs i < 2039
  | 0 => by simp [hpw]
  | i + 1 => by
    have h1 := hpw_bd h i
    have h2 := pow_bd (h.2.1 i) (n := xs.getD i 0) (by have := h.2.2 i; omega)
    exact LA.tmod_lt (Int.mul_nonneg h1.1 h2.1) (by decide)
theorem grp_at {es : List Int} (h : ∀ g ∈ es, isGrp g = true) (j : Nat) : 0 ≤ es.getD j 0 ∧ es.getD j 0 < 2039 := by
  by_cases hj : j < es.length
  · have := isGrp_t (h _ (getD_mem (z := 0) hj)); omega
  · rw [List.getD_eq_getElem?_getD, List.getElem?_eq_none (by omega)]; decide
theorem hpw_grp {es xs : List Int} (h : ∀ g ∈ es, isGrp g = true) (hx : ∀ j, 0 ≤ xs.getD j 0 ∧ xs.getD j 0 ≤ 1018) : ∀ i, i ≤ es.length → isGrp (hpw es xs i) = true
  | 0, _ => isGrp_one
  | i + 1, hi => isGrp_mul (hpw_grp h hx i (by omega)) (isGrp_pow (h _ (getD_mem hi)) (by have := hx i; omega))
theorem hpw_take {es xs : List Int} {n : Nat} : ∀ i, i ≤ n → hpw (es.take n) xs i = hpw es xs i
  | 0, _ => rfl
  | i + 1, hi => by
    have ih := hpw_take (es := es) (xs := xs) (n := n) i (by omega)
    simp only [hpw, ih]
    rw [show (es.take n).getD i 0 = es.getD i 0 from by simp only [List.getD_eq_getElem?_getD, List.getElem?_take]; rw [if_pos (by omega)]]
theorem all1_mem {p : Int → Bool} {xs : List Int} {i : Nat} (h : allTo1 p xs 0 i) : ∀ g ∈ xs.take i, p g = true := fun g hg => by
  obtain ⟨j, hj, rfl⟩ := List.getElem_of_mem hg
  rw [List.length_take] at hj
  have := h j (by omega)
  rw [getD_of_lt (by omega)] at this
  rw [List.getElem_take]; exact this
theorem hpw_grpTo {es xs : List Int} {i : Nat} (h : allTo1 isGrp es 0 i) (hx : ∀ j, 0 ≤ xs.getD j 0 ∧ xs.getD j 0 ≤ 1018) (hi : i ≤ es.length) : isGrp (hpw es xs i) = true := by
  have := hpw_grp (es := es.take i) (xs := xs) (all1_mem h) hx i (by simp; omega)
  rwa [hpw_take i (Nat.le_refl _)] at this

def S_impl_IsGroupElement : Sum := { fid := 199, dom := [(.int 3)], cod := [(.bool 4)], dp := true, fz := false, pre := fun x => True, g := fun x => ((isGrp x.1), ()) }
def S_impl_IsGroupElement_tab : List (Nat × Sum) := [(140, S_impl_InRange), (241, S_impl_powMod)]
theorem S_impl_IsGroupElement_ok : FnOK Try.prog 199 S_impl_IsGroupElement := by
  refine at_enter 10 (fun x => ⟨[(0, aI x.1)], []⟩) Try.func199 rfl (by kernel_rfl) (fun x => rfl) ?_
  rintro w0 Z0 ⟨x0, u⟩ a w
  revert x0
  intro (x0 : Int) hpre hlens h
  replace h : At w0 Z0 [] 10 ⟨[(0, aI x0)], []⟩ a w := h
  have hT : TabOK Try.prog S_impl_IsGroupElement_tab := (.cons S_impl_InRange_ok (.cons S_impl_powMod_ok .nil))
  refine wp_seq ?_
  refine at_regq (T := S_impl_IsGroupElement_tab) [] { ts := [0, 2], os := [] } [] gamOK hT h (by kernel_rfl) trivial ?_
  intro a w h
  refine then_normal ?_
  refine wp_seq ?_
  rcases Bool.eq_false_or_eq_true ((inR x0 1 2038)) with h1 | h1
  · skip
    have hvh1 := inR_t h1
    refine at_regq (T := S_impl_IsGroupElement_tab) [{}, { hint := some (aB true) }] { ts := [2], os := [] } [True, (AV.p (.c (.v (.bool ((inR x0 1 2038))))) = AV.p (.c (.v (.bool true)))), powP x0 1019 2039] gamOK hT h (by kernel_rfl) ⟨trivial, hint_bool (h1), (by (show _ ∧ _; refine ⟨⟨?_, ?_⟩, ⟨?_, ?_⟩, ?_, ?_⟩ <;> omega)), trivial⟩ ?_
    intro a w h
    refine then_normal ?_
    refine wp_ret ?_
    exact at_return (S := S_impl_IsGroupElement) (x := (x0, ())) (decide ((powD x0 1019 2039) = 1), ()) [] h (by kernel_rfl) trivial (congrArg (fun z => (z, ())) (show (decide ((powD x0 1019 2039) = 1)) = isGrp x0 from by (unfold isGrp; simp_all)))
  · skip
    have hvh1 := inR_f h1
    refine at_regq (T := S_impl_IsGroupElement_tab) [{}, { hint := some (aB false) }] { ts := [2], os := [] } [True, (AV.p (.c (.v (.bool ((inR x0 1 2038))))) = AV.p (.c (.v (.bool false))))] gamOK hT h (by kernel_rfl) ⟨trivial, hint_bool (h1), trivial⟩ ?_
    intro a w h
    refine then_normal ?_
    refine wp_ret ?_
    exact at_return (S := S_impl_IsGroupElement) (x := (x0, ())) (false, ()) [] h (by kernel_rfl) trivial (congrArg (fun z => (z, ())) (show (false) = isGrp x0 from by (unfold isGrp; simp_all)))

def S_spec_IsGroupElement : Sum := { fid := 187, dom := [(.int 3)], cod := [(.bool 4)], dp := true, fz := false, pre := fun x => True, g := fun x => ((isGrp x.1), ()) }
def S_spec_IsGroupElement_tab : List (Nat × Sum) := [(138, S_spec_l1In), (237, S_spec_l4Pow)]
theorem S_spec_IsGroupElement_ok : FnOK Try.prog 187 S_spec_IsGroupElement := by
  refine at_enter 10 (fun x => ⟨[(0, aI x.1)], []⟩) Try.func187 rfl (by kernel_rfl) (fun x => rfl) ?_
  rintro w0 Z0 ⟨x0, u⟩ a w
  revert x0
  intro (x0 : Int) hpre hlens h
  replace h : At w0 Z0 [] 10 ⟨[(0, aI x0)], []⟩ a w := h
  have hT : TabOK Try.prog S_spec_IsGroupElement_tab := (.cons S_spec_l1In_ok (.cons S_spec_l4Pow_ok .nil))
  refine wp_seq ?_
  refine at_regq (T := S_spec_IsGroupElement_tab) [] { ts := [0, 2], os := [] } [] gamOK hT h (by kernel_rfl) trivial ?_
  intro a w h
  refine then_normal ?_
  refine wp_seq ?_
  rcases Bool.eq_false_or_eq_true ((inR x0 1 2038)) with h1 | h1
  · skip
    have hvh1 := inR_t h1
    refine at_regq (T := S_spec_IsGroupElement_tab) [{}, { hint := some (aB true) }] { ts := [2], os := [] } [True, (AV.p (.c (.v (.bool ((inR x0 1 2038))))) = AV.p (.c (.v (.bool true)))), powP x0 1019 2039] gamOK hT h (by kernel_rfl) ⟨trivial, hint_bool (h1), (by (show _ ∧ _; refine ⟨⟨?_, ?_⟩, ⟨?_, ?_⟩, ?_, ?_⟩ <;> omega)), trivial⟩ ?_
    intro a w h
    refine then_normal ?_
    refine wp_ret ?_
    exact at_return (S := S_spec_IsGroupElement) (x := (x0, ())) (decide ((powD x0 1019 2039) = 1), ()) [] h (by kernel_rfl) trivial (congrArg (fun z => (z, ())) (show (decide ((powD x0 1019 2039) = 1)) = isGrp x0 from by (unfold isGrp; simp_all)))
  · skip
    have hvh1 := inR_f h1
    refine at_regq (T := S_spec_IsGroupElement_tab) [{}, { hint := some (aB false) }] { ts := [2], os := [] } [True, (AV.p (.c (.v (.bool ((inR x0 1 2038))))) = AV.p (.c (.v (.bool false))))] gamOK hT h (by kernel_rfl) ⟨trivial, hint_bool (h1), trivial⟩ ?_
    intro a w h
    refine then_normal ?_
    refine wp_ret ?_
    exact at_return (S := S_spec_IsGroupElement) (x := (x0, ())) (false, ()) [] h (by kernel_rfl) trivial (congrArg (fun z => (z, ())) (show (false) = isGrp x0 from by (unfold isGrp; simp_all)))

def powG (x0 : Int) (x1 : Int) : Int := (if (isGrp x0) = true then (if (isEl x1) = true then (powD x0 x1 2039) else 0) else 0)
def S_spec_PowGroup : Sum := { fid := 240, dom := [(.int 3), (.int 3)], cod := [(.int 3)], dp := true, fz := false, pre := fun x => True, g := fun x => ((powG x.1 x.2.1), ()) }
def S_spec_PowGroup_tab : List (Nat × Sum) := [(187, S_spec_IsGroupElement), (248, S_spec_IsElement), (237, S_spec_l4Pow)]
theorem S_spec_PowGroup_ok : FnOK Try.prog 240 S_spec_PowGroup := by
  refine at_enter 16 (fun x => ⟨[(0, aI x.1), (1, aI x.2.1)], []⟩) Try.func240 rfl (by kernel_rfl) (fun x => rfl) ?_
  rintro w0 Z0 ⟨x0, x1, u⟩ a w
  revert x0 x1
  intro (x0 : Int) (x1 : Int) hpre hlens h
  replace h : At w0 Z0 [] 16 ⟨[(0, aI x0), (1, aI x1)], []⟩ a w := h
  have hT : TabOK Try.prog S_spec_PowGroup_tab := (.cons S_spec_IsGroupElement_ok (.cons S_spec_IsElement_ok (.cons S_spec_l4Pow_ok .nil)))
  refine wp_seq ?_
  refine at_regq (T := S_spec_PowGroup_tab) [] { ts := [0, 1, 4], os := [] } [] gamOK hT h (by kernel_rfl) trivial ?_
  intro a w h
  refine then_normal ?_
  refine wp_seq ?_
  refine wp_seq ?_
  rcases Bool.eq_false_or_eq_true (!(isGrp x0)) with h1 | h1
  · skip
    have hzh1 : (isGrp x0) = false := notT h1
    refine at_regq (T := S_spec_PowGroup_tab) [{}, {}, { hint := some (aB true) }] { ts := [0, 1, 4, 12], os := [] } [True, (AV.p (.c (.v (.bool (!(isGrp x0))))) = AV.p (.c (.v (.bool true))))] gamOK hT h (by kernel_rfl) ⟨trivial, hint_bool (h1), trivial⟩ ?_
    intro a w h
    refine then_normal ?_
    refine at_test true h (by kernel_rfl) (fun hh => ?_) (fun hh => nomatch hh)
    refine wp_seq ?_
    refine at_regq (T := S_spec_PowGroup_tab) [] { ts := [0, 1, 4], os := [] } [] gamOK hT h (by kernel_rfl) trivial ?_
    intro a w h
    refine then_normal ?_
    refine wp_ret ?_
    refine then_ret ?_
    exact at_return (S := S_spec_PowGroup) (x := (x0, x1, ())) (0, ()) [] h (by kernel_rfl) trivial (congrArg (fun z => (z, ())) (show (0) = powG x0 x1 from by first | rfl | (unfold powG; rw [if_neg (neT (notT h1))])))
  · skip
    have hzh1 : (isGrp x0) = true := notF h1
    have hvh1 := isGrp_t (notF h1)
    refine at_regq (T := S_spec_PowGroup_tab) [{}, {}, { hint := some (aB false) }] { ts := [0, 1, 4, 12], os := [] } [True, (AV.p (.c (.v (.bool (!(isGrp x0))))) = AV.p (.c (.v (.bool false)))), True] gamOK hT h (by kernel_rfl) ⟨trivial, hint_bool (h1), trivial, trivial⟩ ?_
    intro a w h
    refine then_normal ?_
    refine at_test (!(isEl x1)) h (by kernel_rfl) (fun h2 => ?_) (fun h2 => ?_)
    · replace h2 : (isEl x1) = false := notT h2
      refine wp_seq ?_
      refine at_regq (T := S_spec_PowGroup_tab) [] { ts := [0, 1, 4], os := [] } [] gamOK hT h (by kernel_rfl) trivial ?_
      intro a w h
      refine then_normal ?_
      refine wp_ret ?_
      refine then_ret ?_
      exact at_return (S := S_spec_PowGroup) (x := (x0, x1, ())) (0, ()) [] h (by kernel_rfl) trivial (congrArg (fun z => (z, ())) (show (0) = powG x0 x1 from by first | rfl | (unfold powG; rw [if_pos (notF h1), if_neg (neT h2)])))
    · replace h2 : (isEl x1) = true := notF h2
      have hvh2 := isEl_t h2
      refine wp_skip ?_
      refine then_normal ?_
      refine wp_seq ?_
      refine at_regq (T := S_spec_PowGroup_tab) [] { ts := [4], os := [] } [powP x0 x1 2039] gamOK hT h (by kernel_rfl) ⟨(by (show _ ∧ _; refine ⟨⟨?_, ?_⟩, ⟨?_, ?_⟩, ?_, ?_⟩ <;> omega)), trivial⟩ ?_
      intro a w h
      refine then_normal ?_
      refine wp_ret ?_
      exact at_return (S := S_spec_PowGroup) (x := (x0, x1, ())) ((powD x0 x1 2039), ()) [] h (by kernel_rfl) trivial (congrArg (fun z => (z, ())) (show ((powD x0 x1 2039)) = powG x0 x1 from by first | rfl | (unfold powG; rw [if_pos (notF h1), if_pos h2])))

def mulG (x0 : Int) (x1 : Int) : Int := (if (isGrp x0) = true then (if (isGrp x1) = true then (Int.tmod (x0 * x1) 2039) else 0) else 0)
def S_spec_MulGroup : Sum := { fid := 239, dom := [(.int 3), (.int 3)], cod := [(.int 3)], dp := true, fz := false, pre := fun x => True, g := fun x => ((mulG x.1 x.2.1), ()) }
def S_spec_MulGroup_tab : List (Nat × Sum) := [(187, S_spec_IsGroupElement)]
theorem S_spec_MulGroup_ok : FnOK Try.prog 239 S_spec_MulGroup := by
  refine at_enter 17 (fun x => ⟨[(0, aI x.1), (1, aI x.2.1)], []⟩) Try.func239 rfl (by kernel_rfl) (fun x => rfl) ?_
  rintro w0 Z0 ⟨x0, x1, u⟩ a w
  revert x0 x1
  intro (x0 : Int) (x1 : Int) hpre hlens h
  replace h : At w0 Z0 [] 17 ⟨[(0, aI x0), (1, aI x1)], []⟩ a w := h
  have hT : TabOK Try.prog S_spec_MulGroup_tab := (.cons S_spec_IsGroupElement_ok .nil)
  refine wp_seq ?_
  refine at_regq (T := S_spec_MulGroup_tab) [] { ts := [0, 1, 4], os := [] } [] gamOK hT h (by kernel_rfl) trivial ?_
  intro a w h
  refine then_normal ?_
  refine wp_seq ?_
  refine wp_seq ?_
  rcases Bool.eq_false_or_eq_true (!(isGrp x0)) with h1 | h1
  · skip
    have hzh1 : (isGrp x0) = false := notT h1
    refine at_regq (T := S_spec_MulGroup_tab) [{}, {}, { hint := some (aB true) }] { ts := [0, 1, 4, 12], os := [] } [True, (AV.p (.c (.v (.bool (!(isGrp x0))))) = AV.p (.c (.v (.bool true))))] gamOK hT h (by kernel_rfl) ⟨trivial, hint_bool (h1), trivial⟩ ?_
    intro a w h
    refine then_normal ?_
    refine at_test true h (by kernel_rfl) (fun hh => ?_) (fun hh => nomatch hh)
    refine wp_seq ?_
    refine at_regq (T := S_spec_MulGroup_tab) [] { ts := [0, 1, 4], os := [] } [] gamOK hT h (by kernel_rfl) trivial ?_
    intro a w h
    refine then_normal ?_
    refine wp_ret ?_
    refine then_ret ?_
    exact at_return (S := S_spec_MulGroup) (x := (x0, x1, ())) (0, ()) [] h (by kernel_rfl) trivial (congrArg (fun z => (z, ())) (show (0) = mulG x0 x1 from by first | rfl | (unfold mulG; rw [if_neg (neT (notT h1))])))
  · skip
    have hzh1 : (isGrp x0) = true := notF h1
    have hvh1 := isGrp_t (notF h1)
    refine at_regq (T := S_spec_MulGroup_tab) [{}, {}, { hint := some (aB false) }] { ts := [0, 1, 4, 12], os := [] } [True, (AV.p (.c (.v (.bool (!(isGrp x0))))) = AV.p (.c (.v (.bool false)))), True] gamOK hT h (by kernel_rfl) ⟨trivial, hint_bool (h1), trivial, trivial⟩ ?_
    intro a w h
    refine then_normal ?_
    refine at_test (!(isGrp x1)) h (by kernel_rfl) (fun h2 => ?_) (fun h2 => ?_)
    · replace h2 : (isGrp x1) = false := notT h2
      refine wp_seq ?_
      refine at_regq (T := S_spec_MulGroup_tab) [] { ts := [0, 1, 4], os := [] } [] gamOK hT h (by kernel_rfl) trivial ?_
      intro a w h
      refine then_normal ?_
      refine wp_ret ?_
      refine then_ret ?_
      exact at_return (S := S_spec_MulGroup) (x := (x0, x1, ())) (0, ()) [] h (by kernel_rfl) trivial (congrArg (fun z => (z, ())) (show (0) = mulG x0 x1 from by first | rfl | (unfold mulG; rw [if_pos (notF h1), if_neg (neT h2)])))
    · replace h2 : (isGrp x1) = true := notF h2
      have hvh2 := isGrp_t h2
      refine wp_skip ?_
      refine then_normal ?_
      refine wp_seq ?_
      refine at_regq (T := S_spec_MulGroup_tab) [{}, {}, { nw := true }] { ts := [4], os := [] } [I64 (x0 * x1), (2039 : Int) ≠ 0] gamOK hT h (by kernel_rfl) ⟨⟨by (have hA0 := mul_f x0 x1; first | omega | (simp only [List.length_append, List.length_cons, List.length_nil, List.length_set, List.length_take, List.length_drop, List.length_replicate, List.length_map, Nat.min_def]; omega) | (simp; done) | (simp; omega) | done), by (have hA0 := mul_f x0 x1; first | omega | (simp only [List.length_append, List.length_cons, List.length_nil, List.length_set, List.length_take, List.length_drop, List.length_replicate, List.length_map, Nat.min_def]; omega) | (simp; done) | (simp; omega) | done)⟩, (by first | omega | (simp only [List.length_append, List.length_cons, List.length_nil, List.length_set, List.length_take, List.length_drop, List.length_replicate, List.length_map, Nat.min_def]; omega) | (simp; done) | (simp; omega) | done), trivial⟩ ?_
      intro a w h
      refine then_normal ?_
      refine wp_ret ?_
      exact at_return (S := S_spec_MulGroup) (x := (x0, x1, ())) ((Int.tmod (x0 * x1) 2039), ()) [] h (by kernel_rfl) trivial (congrArg (fun z => (z, ())) (show ((Int.tmod (x0 * x1) 2039)) = mulG x0 x1 from by first | rfl | (unfold mulG; rw [if_pos (notF h1), if_pos h2])))

theorem powG_at {g n : Int} (hg : isGrp g = true) (hn : 0 ≤ n ∧ n ≤ 1018) : powG g n = powD g n 2039 := by unfold powG; rw [if_pos hg, if_pos (show isEl n = true from inR_true hn)]
theorem mulG_at {a b : Int} (ha : isGrp a = true) (hb : isGrp b = true) : mulG a b = (a * b).tmod 2039 := by unfold mulG; rw [if_pos ha, if_pos hb]
theorem hpw_step {es xs : List Int} {i : Nat} (h : isGrp (hpw es xs i) = true) (he : isGrp (es.getD i 0) = true) (hx : 0 ≤ xs.getD i 0 ∧ xs.getD i 0 ≤ 1018) : mulG (hpw es xs i) (powG (es.getD i 0) (xs.getD i 0)) = hpw es xs (i + 1) := by
  rw [powG_at he hx, mulG_at h (isGrp_pow he (by omega))]; rfl


def S_impl_powers : Sum := { fid := 192, dom := [s22, s22], cod := [(.int 3)], dp := true, fz := false, pre := fun x => (fun (x0 : (List Int)) (x1 : (List Int)) => Sh.fit s22 x0 ∧ Sh.fit s22 x1 ∧ powsP x0 x1) x.1 x.2.1, g := fun x => ((powsL x.1 x.2.1), ()) }
def S_impl_powers_tab : List (Nat × Sum) := [(241, S_impl_powMod)]
theorem S_impl_powers_ok : FnOK Try.prog 192 S_impl_powers := by
  refine at_enter 26 (fun x => ⟨[(0, aF (.int 3) x.1), (1, aF (.int 3) x.2.1)], []⟩) Try.func192 rfl (by kernel_rfl) (fun x => rfl) ?_
  rintro w0 Z0 ⟨x0, x1, u⟩ a w
  revert x0 x1
  intro (x0 : (List Int)) (x1 : (List Int)) hpre hlens h
  replace h : At w0 Z0 [] 26 ⟨[(0, aF (.int 3) x0), (1, aF (.int 3) x1)], []⟩ a w := h
  replace hpre : (fun (x0 : (List Int)) (x1 : (List Int)) => Sh.fit s22 x0 ∧ Sh.fit s22 x1 ∧ powsP x0 x1) x0 x1 := hpre
  have hl1 : List.length x0 ≤ 9223372036854775807 := hlens.1.1
  have hl2 : List.length x1 ≤ 9223372036854775807 := hlens.2.1.1
  have hT : TabOK Try.prog S_impl_powers_tab := (.cons S_impl_powMod_ok .nil)
  obtain ⟨hf0, hf1, hpx⟩ := hpre
  have hn0_1 : List.length x0 ≤ 1073741824 := hf0.1
  have hn1_2 : List.length x1 ≤ 1073741824 := hf1.1
  have hlp := hpx.1
  refine wp_seq ?_
  refine at_regq (T := S_impl_powers_tab) [] { ts := [0, 1, 4], os := [] } [] gamOK hT h (by kernel_rfl) trivial ?_
  intro a w h
  refine then_normal ?_
  refine wp_seq ?_
  refine at_regq (T := S_impl_powers_tab) [] { ts := [0, 1, 4, 5], os := [] } [] gamOK hT h (by kernel_rfl) trivial ?_
  intro a w h
  refine then_normal ?_
  refine wp_seq ?_
  refine wp_seq ?_
  refine at_regq (T := S_impl_powers_tab) [] { ts := [1, 4, 5, 8, 9, 10], os := [] } [] gamOK hT h (by kernel_rfl) trivial ?_
  intro a w h
  refine then_normal ?_
  refine wp_block ?_
  replace h := at_out (σ' := ⟨[(1, aF (.int 3) x1), (4, aI 0), (5, aI 1), (8, aF (.int 3) x0), (9, aI ((List.length x0 : Nat) : Int)), (10, aI 0)], []⟩) { ts := [1, 4, 5, 8, 9, 10], os := [] } h (by kernel_rfl)
  refine at_loop (fun i : Nat => (⟨[(1, aF (.int 3) x1), (4, aI 0), (5, aI (hpw x0 x1 i)), (8, aF (.int 3) x0), (9, aI ((List.length x0 : Nat) : Int)), (10, aI ((i : Nat) : Int))], []⟩ : St)) (fun i => i ≤ List.length x0) (fun i => List.length x0 - i) (0) h (st_congr2 (fun (d0 : Int) (d1 : Int) => (⟨[(1, aF (.int 3) x1), (4, aI 0), (5, aI d0), (8, aF (.int 3) x0), (9, aI ((List.length x0 : Nat) : Int)), (10, aI d1)], []⟩ : St)) (show (1 : Int) = (hpw x0 x1 (0)) from by first | with_reducible rfl | (rfl) | rfl) (show (0 : Int) = (((0) : Nat) : Int) from by first | with_reducible rfl | (rfl) | rfl)) (by omega) ?_
  intro i a w hok0 h
  have hbd := hpw_bd hpx i
  refine wp_seq ?_
  refine at_reg (T := S_impl_powers_tab) [] { ts := [1, 4, 5, 8, 9, 10, 11], os := [] } ⟨[(1, aF (.int 3) x1), (4, aI 0), (5, aI (hpw x0 x1 i)), (8, aF (.int 3) x0), (9, aI ((List.length x0 : Nat) : Int)), (10, aI ((i : Nat) : Int)), (11, aB (decide (((i : Nat) : Int) < ((List.length x0 : Nat) : Int))))], []⟩ [] gamOK hT h (by kernel_rfl) trivial ?_
  intro a w h
  refine then_normal ?_
  refine wp_seq ?_
  refine at_test (decide (((i : Nat) : Int) < ((List.length x0 : Nat) : Int))) h (by kernel_rfl) (fun h1 => ?_) (fun h1 => ?_)
  · replace h1 : ((i : Nat) : Int) < ((List.length x0 : Nat) : Int) := of_decide_eq_true h1
    have hex := hpx.2.1 i
    have hxx := hpx.2.2 i
    have hpb := pow_bd hex (n := x1.getD i 0) (by omega)
    have hmb := mul_f (hpw x0 x1 i) (powD (x0.getD i 0) (x1.getD i 0) 2039)
    refine wp_skip ?_
    refine then_normal ?_
    refine wp_seq ?_
    refine wp_block ?_
    refine wp_seq ?_
    refine at_regq (T := S_impl_powers_tab) [] { ts := [1, 4, 5, 6, 7, 8, 9, 10], os := [] } [(0 : Int) ≤ ((i : Nat) : Int) ∧ ((i : Nat) : Int) < ((List.length x0 : Nat) : Int)] gamOK hT h (by kernel_rfl) ⟨(by refine ⟨?_, ?_⟩ <;> (first | omega | (simp only [List.length_append, List.length_cons, List.length_nil, List.length_set, List.length_take, List.length_drop, List.length_replicate, List.length_map, Nat.min_def]; omega) | (simp; done) | (simp; omega) | done)), trivial⟩ ?_
    intro a w h
    refine then_normal ?_
    refine at_regq (T := S_impl_powers_tab) [{}, {}, {}, {}, {}, {}, {}, { nw := true }] { ts := [1, 4, 5, 8, 9, 10], os := [] } [(0 : Int) ≤ ((i : Nat) : Int) ∧ ((i : Nat) : Int) < ((List.length x1 : Nat) : Int), powP (x0.getD i 0) (x1.getD i 0) 2039, I64 ((hpw x0 x1 i) * (powD (x0.getD i 0) (x1.getD i 0) 2039)), (2039 : Int) ≠ 0] gamOK hT h (by kernel_rfl) ⟨(by refine ⟨?_, ?_⟩ <;> (first | omega | (simp only [List.length_append, List.length_cons, List.length_nil, List.length_set, List.length_take, List.length_drop, List.length_replicate, List.length_map, Nat.min_def]; omega) | (simp; done) | (simp; omega) | done)), (by (show _ ∧ _; refine ⟨⟨?_, ?_⟩, ⟨?_, ?_⟩, ?_, ?_⟩ <;> omega)), ⟨by (have hA0 := mul_f (hpw x0 x1 i) (powD (x0.getD i 0) (x1.getD i 0) 2039); first | omega | (simp only [List.length_append, List.length_cons, List.length_nil, List.length_set, List.length_take, List.length_drop, List.length_replicate, List.length_map, Nat.min_def]; omega) | (simp; done) | (simp; omega) | done), by (have hA0 := mul_f (hpw x0 x1 i) (powD (x0.getD i 0) (x1.getD i 0) 2039); first | omega | (simp only [List.length_append, List.length_cons, List.length_nil, List.length_set, List.length_take, List.length_drop, List.length_replicate, List.length_map, Nat.min_def]; omega) | (simp; done) | (simp; omega) | done)⟩, (by first | omega | (simp only [List.length_append, List.length_cons, List.length_nil, List.length_set, List.length_take, List.length_drop, List.length_replicate, List.length_map, Nat.min_def]; omega) | (simp; done) | (simp; omega) | done), trivial⟩ ?_
    intro a w h
    refine in_normal ?_
    refine then_normal ?_
    refine at_regq (T := S_impl_powers_tab) [{ nw := true }] { ts := [1, 4, 5, 8, 9, 10], os := [] } [I64 (((i : Nat) : Int) + 1)] gamOK hT h (by kernel_rfl) ⟨⟨by first | omega | (simp only [List.length_append, List.length_cons, List.length_nil, List.length_set, List.length_take, List.length_drop, List.length_replicate, List.length_map, Nat.min_def]; omega) | (simp; done) | (simp; omega) | done, by first | omega | (simp only [List.length_append, List.length_cons, List.length_nil, List.length_set, List.length_take, List.length_drop, List.length_replicate, List.length_map, Nat.min_def]; omega) | (simp; done) | (simp; omega) | done⟩, trivial⟩ ?_
    intro a w h
    replace h := at_out (σ' := ⟨[(1, aF (.int 3) x1), (4, aI 0), (5, aI (Int.tmod ((hpw x0 x1 i) * (powD (x0.getD i 0) (x1.getD i 0) 2039)) 2039)), (8, aF (.int 3) x0), (9, aI ((List.length x0 : Nat) : Int)), (10, aI (((i : Nat) : Int) + 1))], []⟩) { ts := [1, 4, 5, 8, 9, 10], os := [] } h (by kernel_rfl)
    exact ⟨i + 1, at_eq h (st_congr2 (fun (d0 : Int) (d1 : Int) => (⟨[(1, aF (.int 3) x1), (4, aI 0), (5, aI d0), (8, aF (.int 3) x0), (9, aI ((List.length x0 : Nat) : Int)), (10, aI d1)], []⟩ : St)) (show ((Int.tmod ((hpw x0 x1 i) * (powD (x0.getD i 0) (x1.getD i 0) 2039)) 2039) : Int) = (hpw x0 x1 (i + 1)) from by first | with_reducible rfl | (rfl) | rfl) (show (((i : Nat) : Int) + 1 : Int) = (((i + 1) : Nat) : Int) from by first | with_reducible rfl | (omega) | rfl)), (by omega), (by omega)⟩
  · replace h1 : ¬ (((i : Nat) : Int) < ((List.length x0 : Nat) : Int)) := of_decide_eq_false h1
    refine wp_exit ?_
    refine then_exit ?_
    refine then_exit ?_
    refine in_hit ?_
    refine then_normal ?_
    refine wp_seq ?_
    refine at_regq (T := S_impl_powers_tab) [] { ts := [4], os := [] } [] gamOK hT h (by kernel_rfl) trivial ?_
    intro a w h
    refine then_normal ?_
    refine wp_ret ?_
    exact at_return (S := S_impl_powers) (x := (x0, x1, ())) ((hpw x0 x1 i), ()) [] h (by kernel_rfl) trivial (congrArg (fun z => (z, ())) (show ((hpw x0 x1 i)) = powsL x0 x1 from by (show _ = hpw x0 x1 (List.length x0); rw [show List.length x0 = i by omega])))

def validK (x0 : (List Int)) : Bool := (if (List.all x0 (fun g => !decide (g = 1) && isGrp g)) = true then (inR ((List.length x0 : Nat) : Int) 1 16) else false)
def S_impl_IsValidHashKey : Sum := { fid := 178, dom := [s45], cod := [(.bool 4)], dp := true, fz := false, pre := fun x => (fun (x0 : (List Int)) => Sh.fit s45 x0) x.1, g := fun x => ((validK x.1), ()) }
def S_impl_IsValidHashKey_tab : List (Nat × Sum) := [(199, S_impl_IsGroupElement), (140, S_impl_InRange)]
theorem S_impl_IsValidHashKey_ok : FnOK Try.prog 178 S_impl_IsValidHashKey := by
  refine at_enter 24 (fun x => ⟨[(0, aG [.ro (.int 3) x.1])], []⟩) Try.func178 rfl (by kernel_rfl) (fun x => rfl) ?_
  rintro w0 Z0 ⟨x0, u⟩ a w
  revert x0
  intro (x0 : (List Int)) hpre hlens h
  replace h : At w0 Z0 [] 24 ⟨[(0, aG [.ro (.int 3) x0])], []⟩ a w := h
  replace hpre : (fun (x0 : (List Int)) => Sh.fit s45 x0) x0 := hpre
  have hl1 : List.length x0 ≤ 9223372036854775807 := hlens.1.1
  have hT : TabOK Try.prog S_impl_IsValidHashKey_tab := (.cons S_impl_IsGroupElement_ok (.cons S_impl_InRange_ok .nil))
  have hf0 : Sh.fit s45 x0 := hpre
  have hn0_1 : List.length x0 ≤ 1073741824 := hf0.1
  refine wp_seq ?_
  refine at_regq (T := S_impl_IsValidHashKey_tab) [{ ids := [1] }] { ts := [1, 2], os := [1] } [] gamOK hT h (by kernel_rfl) trivial ?_
  intro a w h
  refine then_normal ?_
  refine wp_seq ?_
  refine wp_seq ?_
  refine at_regq (T := S_impl_IsValidHashKey_tab) [] { ts := [1, 2, 6, 7, 8], os := [1] } [] gamOK hT h (by kernel_rfl) trivial ?_
  intro a w h
  refine then_normal ?_
  refine wp_block ?_
  replace h := at_out (σ' := ⟨[(1, aP 1 0), (2, aB false), (6, aF (.int 3) x0), (7, aI ((List.length x0 : Nat) : Int)), (8, aI 0)], [(1, oX 45 [.ro (.int 3) x0])]⟩) { ts := [1, 2, 6, 7, 8], os := [1] } h (by kernel_rfl)
  refine at_loop (fun i : Nat => (⟨[(1, aP 1 0), (2, aB false), (6, aF (.int 3) x0), (7, aI ((List.length x0 : Nat) : Int)), (8, aI ((i : Nat) : Int))], [(1, oX 45 [.ro (.int 3) x0])]⟩ : St)) (fun i => (i ≤ List.length x0 ∧ allTo1 (fun g => !decide (g = 1) && isGrp g) x0 0 i)) (fun i => List.length x0 - i) (0) h (st_congr1 (fun (d0 : Int) => (⟨[(1, aP 1 0), (2, aB false), (6, aF (.int 3) x0), (7, aI ((List.length x0 : Nat) : Int)), (8, aI d0)], [(1, oX 45 [.ro (.int 3) x0])]⟩ : St)) (show (0 : Int) = (((0) : Nat) : Int) from by first | with_reducible rfl | (rfl) | rfl)) (by exact ⟨Nat.zero_le _, allTo1_zero⟩) ?_
  intro i a w hok0 h
  refine wp_seq ?_
  refine at_regq (T := S_impl_IsValidHashKey_tab) [] { ts := [1, 2, 6, 7, 8, 9], os := [1] } [] gamOK hT h (by kernel_rfl) trivial ?_
  intro a w h
  refine then_normal ?_
  refine wp_seq ?_
  refine at_test (decide (((i : Nat) : Int) < ((List.length x0 : Nat) : Int))) h (by kernel_rfl) (fun h1 => ?_) (fun h1 => ?_)
  · replace h1 : ((i : Nat) : Int) < ((List.length x0 : Nat) : Int) := of_decide_eq_true h1
    refine wp_skip ?_
    refine then_normal ?_
    refine wp_seq ?_
    refine wp_block ?_
    refine wp_seq ?_
    refine at_reg (T := S_impl_IsValidHashKey_tab) [] { ts := [1, 2, 4, 6, 7, 8], os := [1] } ⟨[(1, aP 1 0), (2, aB false), (4, aI (x0.getD i 0)), (6, aF (.int 3) x0), (7, aI ((List.length x0 : Nat) : Int)), (8, aI ((i : Nat) : Int))], [(1, oX 45 [.ro (.int 3) x0])]⟩ [(0 : Int) ≤ ((i : Nat) : Int) ∧ ((i : Nat) : Int) < ((List.length x0 : Nat) : Int)] gamOK hT h (by kernel_rfl) ⟨(by refine ⟨?_, ?_⟩ <;> (first | omega | (simp only [List.length_append, List.length_cons, List.length_nil, List.length_set, List.length_take, List.length_drop, List.length_replicate, List.length_map, Nat.min_def]; omega) | (simp; done) | (simp; omega) | done)), trivial⟩ ?_
    intro a w h
    refine then_normal ?_
    refine wp_seq ?_
    by_cases h2 : (x0.getD i 0) = 1
    · skip
      refine at_regq (T := S_impl_IsValidHashKey_tab) [{}, { hint := some (aB true) }] { ts := [1, 2, 6, 7, 8, 15, 16, 17, 18], os := [1] } [(AV.p (.c (.v (.bool (decide ((x0.getD i 0) = 1))))) = AV.p (.c (.v (.bool true))))] gamOK hT h (by kernel_rfl) ⟨hint_bool (decide_eq_true h2), trivial⟩ ?_
      intro a w h
      refine then_normal ?_
      refine at_test true h (by kernel_rfl) (fun hh => ?_) (fun hh => nomatch hh)
      refine wp_seq ?_
      refine at_regq (T := S_impl_IsValidHashKey_tab) [] { ts := [1, 2, 6, 7, 8, 15, 16, 17], os := [1] } [] gamOK hT h (by kernel_rfl) trivial ?_
      intro a w h
      refine then_normal ?_
      refine wp_ret ?_
      refine in_ret ?_
      refine then_ret ?_
      have hs3 : (List.all x0 (fun g => !decide (g = 1) && isGrp g)) = false := by exact all_at (z := 0) (i := i) (by omega) (by first | assumption | (simp_all; done))
      refine then_ret ?_
      refine in_ret ?_
      refine then_ret ?_
      exact at_return (S := S_impl_IsValidHashKey) (x := (x0, ())) (false, ()) [] h (by kernel_rfl) trivial (congrArg (fun z => (z, ())) (show (false) = validK x0 from by first | rfl | (unfold validK; rw [if_neg (neT hs3)])))
    · skip
      refine at_regq (T := S_impl_IsValidHashKey_tab) [{}, { hint := some (aB false) }] { ts := [1, 2, 6, 7, 8, 15, 16, 17, 18], os := [1] } [(AV.p (.c (.v (.bool (decide ((x0.getD i 0) = 1))))) = AV.p (.c (.v (.bool false)))), True] gamOK hT h (by kernel_rfl) ⟨hint_bool (decide_eq_false h2), trivial, trivial⟩ ?_
      intro a w h
      refine then_normal ?_
      refine at_test (!(isGrp (x0.getD i 0))) h (by kernel_rfl) (fun h4 => ?_) (fun h4 => ?_)
      · replace h4 : (isGrp (x0.getD i 0)) = false := notT h4
        refine wp_seq ?_
        refine at_regq (T := S_impl_IsValidHashKey_tab) [] { ts := [1, 2, 6, 7, 8, 15, 16, 17], os := [1] } [] gamOK hT h (by kernel_rfl) trivial ?_
        intro a w h
        refine then_normal ?_
        refine wp_ret ?_
        refine in_ret ?_
        refine then_ret ?_
        have hs5 : (List.all x0 (fun g => !decide (g = 1) && isGrp g)) = false := by exact all_at (z := 0) (i := i) (by omega) (by first | assumption | (simp_all; done))
        refine then_ret ?_
        refine in_ret ?_
        refine then_ret ?_
        exact at_return (S := S_impl_IsValidHashKey) (x := (x0, ())) (false, ()) [] h (by kernel_rfl) trivial (congrArg (fun z => (z, ())) (show (false) = validK x0 from by first | rfl | (unfold validK; rw [if_neg (neT hs5)])))
      · replace h4 : (isGrp (x0.getD i 0)) = true := notF h4
        have hvh4 := isGrp_t h4
        refine wp_skip ?_
        refine in_normal ?_
        refine then_normal ?_
        refine at_regq (T := S_impl_IsValidHashKey_tab) [{ nw := true }] { ts := [1, 2, 6, 7, 8, 15, 16, 17], os := [1] } [I64 (((i : Nat) : Int) + 1)] gamOK hT h (by kernel_rfl) ⟨⟨by first | omega | (simp only [List.length_append, List.length_cons, List.length_nil, List.length_set, List.length_take, List.length_drop, List.length_replicate, List.length_map, Nat.min_def]; omega) | (simp; done) | (simp; omega) | done, by first | omega | (simp only [List.length_append, List.length_cons, List.length_nil, List.length_set, List.length_take, List.length_drop, List.length_replicate, List.length_map, Nat.min_def]; omega) | (simp; done) | (simp; omega) | done⟩, trivial⟩ ?_
        intro a w h
        replace h := at_out (σ' := ⟨[(1, aP 1 0), (2, aB false), (6, aF (.int 3) x0), (7, aI ((List.length x0 : Nat) : Int)), (8, aI (((i : Nat) : Int) + 1))], [(1, oX 45 [.ro (.int 3) x0])]⟩) { ts := [1, 2, 6, 7, 8], os := [1] } h (by kernel_rfl)
        exact ⟨i + 1, at_eq h (st_congr1 (fun (d0 : Int) => (⟨[(1, aP 1 0), (2, aB false), (6, aF (.int 3) x0), (7, aI ((List.length x0 : Nat) : Int)), (8, aI d0)], [(1, oX 45 [.ro (.int 3) x0])]⟩ : St)) (show (((i : Nat) : Int) + 1 : Int) = (((i + 1) : Nat) : Int) from by first | with_reducible rfl | (omega) | rfl)), (by exact ⟨by omega, allTo1_succ hok0.2 (by first | assumption | (simp_all; done))⟩), (by omega)⟩
  · replace h1 : ¬ (((i : Nat) : Int) < ((List.length x0 : Nat) : Int)) := of_decide_eq_false h1
    refine wp_exit ?_
    refine then_exit ?_
    have hs6 : (List.all x0 (fun g => !decide (g = 1) && isGrp g)) = true := by exact all_of (z := 0) (i := i) (by omega) hok0.2
    refine then_exit ?_
    refine in_hit ?_
    refine then_normal ?_
    refine wp_seq ?_
    refine at_reg (T := S_impl_IsValidHashKey_tab) [] { ts := [2], os := [] } ⟨[(2, aB (inR ((List.length x0 : Nat) : Int) 1 16))], []⟩ [True] gamOK hT h (by kernel_rfl) ⟨trivial, trivial⟩ ?_
    intro a w h
    refine then_normal ?_
    refine wp_ret ?_
    exact at_return (S := S_impl_IsValidHashKey) (x := (x0, ())) ((inR ((List.length x0 : Nat) : Int) 1 16), ()) [] h (by kernel_rfl) trivial (congrArg (fun z => (z, ())) (show ((inR ((List.length x0 : Nat) : Int) 1 16)) = validK x0 from by first | rfl | (unfold validK; rw [if_pos hs6])))
theorem validK_t {k : List Int} (h : validK k = true) : (1 ≤ List.length k ∧ List.length k ≤ 16) ∧ ∀ g ∈ k, isGrp g = true := by
  unfold validK at h
  split at h
  · rename_i ha
    have := inR_t h
    refine ⟨by omega, fun g hg => ?_⟩
    have := List.all_eq_true.1 ha g hg
    rw [Bool.and_eq_true] at this
    exact this.2
  · cases h

def S_spec_IsValidHashKey : Sum := { fid := 119, dom := [s45], cod := [(.bool 4)], dp := true, fz := false, pre := fun x => (fun (x0 : (List Int)) => Sh.fit s45 x0) x.1, g := fun x => ((validK x.1), ()) }
def S_spec_IsValidHashKey_tab : List (Nat × Sum) := [(187, S_spec_IsGroupElement), (138, S_spec_l1In)]
theorem S_spec_IsValidHashKey_ok : FnOK Try.prog 119 S_spec_IsValidHashKey := by
  refine at_enter 30 (fun x => ⟨[(0, aG [.ro (.int 3) x.1])], []⟩) Try.func119 rfl (by kernel_rfl) (fun x => rfl) ?_
  rintro w0 Z0 ⟨x0, u⟩ a w
  revert x0
  intro (x0 : (List Int)) hpre hlens h
  replace h : At w0 Z0 [] 30 ⟨[(0, aG [.ro (.int 3) x0])], []⟩ a w := h
  replace hpre : (fun (x0 : (List Int)) => Sh.fit s45 x0) x0 := hpre
  have hl1 : List.length x0 ≤ 9223372036854775807 := hlens.1.1
  have hT : TabOK Try.prog S_spec_IsValidHashKey_tab := (.cons S_spec_IsGroupElement_ok (.cons S_spec_l1In_ok .nil))
  have hf0 : Sh.fit s45 x0 := hpre
  have hn0_1 : List.length x0 ≤ 1073741824 := hf0.1
  refine wp_seq ?_
  refine at_regq (T := S_spec_IsValidHashKey_tab) [{ ids := [1] }] { ts := [1, 2], os := [1] } [] gamOK hT h (by kernel_rfl) trivial ?_
  intro a w h
  refine then_normal ?_
  refine wp_seq ?_
  refine wp_seq ?_
  refine at_regq (T := S_spec_IsValidHashKey_tab) [] { ts := [1, 2, 3], os := [1] } [] gamOK hT h (by kernel_rfl) trivial ?_
  intro a w h
  refine then_normal ?_
  refine wp_block ?_
  replace h := at_out (σ' := ⟨[(1, aP 1 0), (2, aB false), (3, aI 0)], [(1, oX 45 [.ro (.int 3) x0])]⟩) { ts := [1, 2, 3], os := [1] } h (by kernel_rfl)
  refine at_loop (fun i : Nat => (⟨[(1, aP 1 0), (2, aB false), (3, aI ((i : Nat) : Int))], [(1, oX 45 [.ro (.int 3) x0])]⟩ : St)) (fun i => (i ≤ List.length x0 ∧ allTo1 (fun g => !decide (g = 1) && isGrp g) x0 0 i)) (fun i => List.length x0 - i) (0) h (st_congr1 (fun (d0 : Int) => (⟨[(1, aP 1 0), (2, aB false), (3, aI d0)], [(1, oX 45 [.ro (.int 3) x0])]⟩ : St)) (show (0 : Int) = (((0) : Nat) : Int) from by first | with_reducible rfl | (rfl) | rfl)) (by exact ⟨Nat.zero_le _, allTo1_zero⟩) ?_
  intro i a w hok0 h
  refine wp_seq ?_
  refine wp_seq ?_
  refine at_regq (T := S_spec_IsValidHashKey_tab) [] { ts := [1, 2, 3, 8], os := [1] } [] gamOK hT h (by kernel_rfl) trivial ?_
  intro a w h
  refine then_normal ?_
  refine at_test (decide (((i : Nat) : Int) < ((List.length x0 : Nat) : Int))) h (by kernel_rfl) (fun h1 => ?_) (fun h1 => ?_)
  · replace h1 : ((i : Nat) : Int) < ((List.length x0 : Nat) : Int) := of_decide_eq_true h1
    refine wp_skip ?_
    refine then_normal ?_
    refine wp_seq ?_
    refine wp_block ?_
    refine wp_seq ?_
    rcases Bool.eq_false_or_eq_true (!(isGrp (x0.getD i 0))) with h2 | h2
    · skip
      have hzh2 : (isGrp (x0.getD i 0)) = false := notT h2
      refine at_reg (T := S_spec_IsValidHashKey_tab) [{}, {}, {}, {}, {}, {}, { hint := some (aB true) }] { ts := [1, 2, 3, 19, 20, 21, 22, 23, 24, 25], os := [1] } ⟨[(1, aP 1 0), (2, aB false), (3, aI ((i : Nat) : Int)), (19, .p (.c (.v undef))), (20, .p (.c (.v undef))), (21, .p (.c (.v undef))), (22, .p (.c (.v undef))), (23, .p (.c (.v undef))), (24, .p (.c (.v undef))), (25, aB true)], [(1, oX 45 [.ro (.int 3) x0])]⟩ [(0 : Int) ≤ ((i : Nat) : Int) ∧ ((i : Nat) : Int) < ((List.length x0 : Nat) : Int), True, (AV.p (.c (.v (.bool (!(isGrp (x0.getD i 0)))))) = AV.p (.c (.v (.bool true))))] gamOK hT h (by kernel_rfl) ⟨(by refine ⟨?_, ?_⟩ <;> (first | omega | (simp only [List.length_append, List.length_cons, List.length_nil, List.length_set, List.length_take, List.length_drop, List.length_replicate, List.length_map, Nat.min_def]; omega) | (simp; done) | (simp; omega) | done)), trivial, hint_bool (h2), trivial⟩ ?_
      intro a w h
      refine then_normal ?_
      refine at_test true h (by kernel_rfl) (fun hh => ?_) (fun hh => nomatch hh)
      refine wp_seq ?_
      refine at_regq (T := S_spec_IsValidHashKey_tab) [] { ts := [1, 2, 3, 19, 20, 21, 22, 23, 24], os := [1] } [] gamOK hT h (by kernel_rfl) trivial ?_
      intro a w h
      refine then_normal ?_
      refine wp_ret ?_
      refine in_ret ?_
      refine then_ret ?_
      have hs3 : (List.all x0 (fun g => !decide (g = 1) && isGrp g)) = false := by exact all_at (z := 0) (i := i) (by omega) (by first | assumption | (simp_all; done))
      refine then_ret ?_
      refine in_ret ?_
      refine then_ret ?_
      exact at_return (S := S_spec_IsValidHashKey) (x := (x0, ())) (false, ()) [] h (by kernel_rfl) trivial (congrArg (fun z => (z, ())) (show (false) = validK x0 from by first | rfl | (unfold validK; rw [if_neg (neT hs3)]; done) | (unfold validK; simp_all)))
    · skip
      have hzh2 : (isGrp (x0.getD i 0)) = true := notF h2
      have hvh2 := isGrp_t (notF h2)
      refine at_reg (T := S_spec_IsValidHashKey_tab) [{}, {}, {}, {}, {}, {}, { hint := some (aB false) }] { ts := [1, 2, 3, 19, 20, 21, 22, 23, 24, 25], os := [1] } ⟨[(1, aP 1 0), (2, aB false), (3, aI ((i : Nat) : Int)), (19, aP 1 0), (20, aF (.int 3) x0), (21, aI ((i : Nat) : Int)), (22, aR (.int 3) (x0.getD i 0) 0), (23, aI (x0.getD i 0)), (24, aB (decide ((x0.getD i 0) = 1))), (25, aB (decide ((x0.getD i 0) = 1)))], [(1, oX 45 [.ro (.int 3) x0])]⟩ [(0 : Int) ≤ ((i : Nat) : Int) ∧ ((i : Nat) : Int) < ((List.length x0 : Nat) : Int), True, (AV.p (.c (.v (.bool (!(isGrp (x0.getD i 0)))))) = AV.p (.c (.v (.bool false)))), (0 : Int) ≤ ((i : Nat) : Int) ∧ ((i : Nat) : Int) < ((List.length x0 : Nat) : Int)] gamOK hT h (by kernel_rfl) ⟨(by refine ⟨?_, ?_⟩ <;> (first | omega | (simp only [List.length_append, List.length_cons, List.length_nil, List.length_set, List.length_take, List.length_drop, List.length_replicate, List.length_map, Nat.min_def]; omega) | (simp; done) | (simp; omega) | done)), trivial, hint_bool (h2), (by refine ⟨?_, ?_⟩ <;> (first | omega | (simp only [List.length_append, List.length_cons, List.length_nil, List.length_set, List.length_take, List.length_drop, List.length_replicate, List.length_map, Nat.min_def]; omega) | (simp; done) | (simp; omega) | done)), trivial⟩ ?_
      intro a w h
      refine then_normal ?_
      refine at_test (decide ((x0.getD i 0) = 1)) h (by kernel_rfl) (fun h4 => ?_) (fun h4 => ?_)
      · replace h4 : (x0.getD i 0) = 1 := of_decide_eq_true h4
        refine wp_seq ?_
        refine at_regq (T := S_spec_IsValidHashKey_tab) [] { ts := [1, 2, 3, 19, 20, 21, 22, 23, 24], os := [1] } [] gamOK hT h (by kernel_rfl) trivial ?_
        intro a w h
        refine then_normal ?_
        refine wp_ret ?_
        refine in_ret ?_
        refine then_ret ?_
        have hs5 : (List.all x0 (fun g => !decide (g = 1) && isGrp g)) = false := by exact all_at (z := 0) (i := i) (by omega) (by first | assumption | (simp_all; done))
        refine then_ret ?_
        refine in_ret ?_
        refine then_ret ?_
        exact at_return (S := S_spec_IsValidHashKey) (x := (x0, ())) (false, ()) [] h (by kernel_rfl) trivial (congrArg (fun z => (z, ())) (show (false) = validK x0 from by first | rfl | (unfold validK; rw [if_neg (neT hs5)]; done) | (unfold validK; simp_all)))
      · replace h4 : ¬ ((x0.getD i 0) = 1) := of_decide_eq_false h4
        refine wp_skip ?_
        refine in_normal ?_
        refine then_normal ?_
        refine at_regq (T := S_spec_IsValidHashKey_tab) [{}, { nw := true }] { ts := [1, 2, 3, 19, 20, 21, 22, 23, 24], os := [1] } [I64 (((i : Nat) : Int) + 1)] gamOK hT h (by kernel_rfl) ⟨⟨by first | omega | (simp only [List.length_append, List.length_cons, List.length_nil, List.length_set, List.length_take, List.length_drop, List.length_replicate, List.length_map, Nat.min_def]; omega) | (simp; done) | (simp; omega) | done, by first | omega | (simp only [List.length_append, List.length_cons, List.length_nil, List.length_set, List.length_take, List.length_drop, List.length_replicate, List.length_map, Nat.min_def]; omega) | (simp; done) | (simp; omega) | done⟩, trivial⟩ ?_
        intro a w h
        replace h := at_out (σ' := ⟨[(1, aP 1 0), (2, aB false), (3, aI (((i : Nat) : Int) + 1))], [(1, oX 45 [.ro (.int 3) x0])]⟩) { ts := [1, 2, 3], os := [1] } h (by kernel_rfl)
        exact ⟨i + 1, at_eq h (st_congr1 (fun (d0 : Int) => (⟨[(1, aP 1 0), (2, aB false), (3, aI d0)], [(1, oX 45 [.ro (.int 3) x0])]⟩ : St)) (show (((i : Nat) : Int) + 1 : Int) = (((i + 1) : Nat) : Int) from by first | with_reducible rfl | (omega) | rfl)), (by exact ⟨by omega, allTo1_succ hok0.2 (by first | assumption | (simp_all; done))⟩), (by omega)⟩
  · replace h1 : ¬ (((i : Nat) : Int) < ((List.length x0 : Nat) : Int)) := of_decide_eq_false h1
    refine wp_exit ?_
    refine then_exit ?_
    have hs6 : (List.all x0 (fun g => !decide (g = 1) && isGrp g)) = true := by exact all_of (z := 0) (i := i) (by omega) hok0.2
    refine then_exit ?_
    refine in_hit ?_
    refine then_normal ?_
    refine wp_seq ?_
    refine at_reg (T := S_spec_IsValidHashKey_tab) [] { ts := [2], os := [] } ⟨[(2, aB (inR ((List.length x0 : Nat) : Int) 1 16))], []⟩ [True] gamOK hT h (by kernel_rfl) ⟨trivial, trivial⟩ ?_
    intro a w h
    refine then_normal ?_
    refine wp_ret ?_
    exact at_return (S := S_spec_IsValidHashKey) (x := (x0, ())) ((inR ((List.length x0 : Nat) : Int) 1 16), ()) [] h (by kernel_rfl) trivial (congrArg (fun z => (z, ())) (show ((inR ((List.length x0 : Nat) : Int) 1 16)) = validK x0 from by first | rfl | (unfold validK; rw [if_pos hs6]; done) | (unfold validK; simp_all)))

def hashV (x0 : (List Int)) (x1 : (List Int)) : Int := (if (validK x0) = true then (if (validV x1) = true then (if ((List.length x1 : Nat) : Int) = ((List.length x0 : Nat) : Int) then (powsL x0 x1) else 0) else 0) else 0)
def S_impl_HashVector : Sum := { fid := 233, dom := [s45, s22], cod := [(.int 3)], dp := true, fz := false, pre := fun x => (fun (x0 : (List Int)) (x1 : (List Int)) => Sh.fit s45 x0 ∧ Sh.fit s22 x1) x.1 x.2.1, g := fun x => ((hashV x.1 x.2.1), ()) }
def S_impl_HashVector_tab : List (Nat × Sum) := [(178, S_impl_IsValidHashKey), (215, S_impl_IsValidVector), (192, S_impl_powers)]
theorem S_impl_HashVector_ok : FnOK Try.prog 233 S_impl_HashVector := by
  refine at_enter 25 (fun x => ⟨[(0, aG [.ro (.int 3) x.1]), (1, aF (.int 3) x.2.1)], []⟩) Try.func233 rfl (by kernel_rfl) (fun x => rfl) ?_
  rintro w0 Z0 ⟨x0, x1, u⟩ a w
  revert x0 x1
  intro (x0 : (List Int)) (x1 : (List Int)) hpre hlens h
  replace h : At w0 Z0 [] 25 ⟨[(0, aG [.ro (.int 3) x0]), (1, aF (.int 3) x1)], []⟩ a w := h
  replace hpre : (fun (x0 : (List Int)) (x1 : (List Int)) => Sh.fit s45 x0 ∧ Sh.fit s22 x1) x0 x1 := hpre
  have hl1 : List.length x0 ≤ 9223372036854775807 := hlens.1.1
  have hl2 : List.length x1 ≤ 9223372036854775807 := hlens.2.1.1
  have hT : TabOK Try.prog S_impl_HashVector_tab := (.cons S_impl_IsValidHashKey_ok (.cons S_impl_IsValidVector_ok (.cons S_impl_powers_ok .nil)))
  obtain ⟨hf0, hf1⟩ := hpre
  have hn0_1 : List.length x0 ≤ 1073741824 := hf0.1
  have hn1_2 : List.length x1 ≤ 1073741824 := hf1.1
  refine wp_seq ?_
  refine at_regq (T := S_impl_HashVector_tab) [{ ids := [1] }] { ts := [1, 2, 4], os := [1] } [] gamOK hT h (by kernel_rfl) trivial ?_
  intro a w h
  refine then_normal ?_
  refine wp_seq ?_
  refine wp_seq ?_
  rcases Bool.eq_false_or_eq_true (!(validK x0)) with h1 | h1
  · skip
    have hzh1 : (validK x0) = false := notT h1
    refine at_regq (T := S_impl_HashVector_tab) [{}, {}, { hint := some (aB true) }] { ts := [1, 2, 4, 20], os := [1] } [(fun (x0 : (List Int)) => Sh.fit s45 x0) x0, (AV.p (.c (.v (.bool (!(validK x0))))) = AV.p (.c (.v (.bool true))))] gamOK hT h (by kernel_rfl) ⟨(by exact hf0), hint_bool (h1), trivial⟩ ?_
    intro a w h
    refine then_normal ?_
    refine at_test true h (by kernel_rfl) (fun hh => ?_) (fun hh => nomatch hh)
    refine wp_seq ?_
    refine at_regq (T := S_impl_HashVector_tab) [] { ts := [1, 2, 4], os := [1] } [] gamOK hT h (by kernel_rfl) trivial ?_
    intro a w h
    refine then_normal ?_
    refine wp_ret ?_
    refine then_ret ?_
    exact at_return (S := S_impl_HashVector) (x := (x0, x1, ())) (0, ()) [] h (by kernel_rfl) trivial (congrArg (fun z => (z, ())) (show (0) = hashV x0 x1 from by first | rfl | (unfold hashV; rw [if_neg (neT (notT h1))])))
  · skip
    have hzh1 : (validK x0) = true := notF h1
    have hvh1 := validK_t (notF h1)
    rcases Bool.eq_false_or_eq_true (!(validV x1)) with h2 | h2
    · skip
      have hzh2 : (validV x1) = false := notT h2
      refine at_regq (T := S_impl_HashVector_tab) [{}, {}, { hint := some (aB false) }, {}, {}, {}, { hint := some (aB true) }] { ts := [1, 2, 4, 20], os := [1] } [(fun (x0 : (List Int)) => Sh.fit s45 x0) x0, (AV.p (.c (.v (.bool (!(validK x0))))) = AV.p (.c (.v (.bool false)))), (fun (x0 : (List Int)) => Sh.fit s22 x0) x1, (AV.p (.c (.v (.bool (!(validV x1))))) = AV.p (.c (.v (.bool true))))] gamOK hT h (by kernel_rfl) ⟨(by exact hf0), hint_bool (h1), (by exact hf1), hint_bool (h2), trivial⟩ ?_
      intro a w h
      refine then_normal ?_
      refine at_test true h (by kernel_rfl) (fun hh => ?_) (fun hh => nomatch hh)
      refine wp_seq ?_
      refine at_regq (T := S_impl_HashVector_tab) [] { ts := [1, 2, 4], os := [1] } [] gamOK hT h (by kernel_rfl) trivial ?_
      intro a w h
      refine then_normal ?_
      refine wp_ret ?_
      refine then_ret ?_
      exact at_return (S := S_impl_HashVector) (x := (x0, x1, ())) (0, ()) [] h (by kernel_rfl) trivial (congrArg (fun z => (z, ())) (show (0) = hashV x0 x1 from by first | rfl | (unfold hashV; rw [if_pos (notF h1), if_neg (neT (notT h2))])))
    · skip
      have hzh2 : (validV x1) = true := notF h2
      have hvh2 := validV_t (notF h2)
      refine at_regq (T := S_impl_HashVector_tab) [{}, {}, { hint := some (aB false) }, {}, {}, {}, { hint := some (aB false) }] { ts := [1, 2, 4, 20], os := [1] } [(fun (x0 : (List Int)) => Sh.fit s45 x0) x0, (AV.p (.c (.v (.bool (!(validK x0))))) = AV.p (.c (.v (.bool false)))), (fun (x0 : (List Int)) => Sh.fit s22 x0) x1, (AV.p (.c (.v (.bool (!(validV x1))))) = AV.p (.c (.v (.bool false))))] gamOK hT h (by kernel_rfl) ⟨(by exact hf0), hint_bool (h1), (by exact hf1), hint_bool (h2), trivial⟩ ?_
      intro a w h
      refine then_normal ?_
      refine at_test (!decide (((List.length x1 : Nat) : Int) = ((List.length x0 : Nat) : Int))) h (by kernel_rfl) (fun h3 => ?_) (fun h3 => ?_)
      · replace h3 : ¬ (((List.length x1 : Nat) : Int) = ((List.length x0 : Nat) : Int)) := of_decide_eq_false (notT h3)
        refine wp_seq ?_
        refine at_regq (T := S_impl_HashVector_tab) [] { ts := [1, 2, 4], os := [1] } [] gamOK hT h (by kernel_rfl) trivial ?_
        intro a w h
        refine then_normal ?_
        refine wp_ret ?_
        refine then_ret ?_
        exact at_return (S := S_impl_HashVector) (x := (x0, x1, ())) (0, ()) [] h (by kernel_rfl) trivial (congrArg (fun z => (z, ())) (show (0) = hashV x0 x1 from by first | rfl | (unfold hashV; rw [if_pos (notF h1), if_pos (notF h2), if_neg h3])))
      · replace h3 : ((List.length x1 : Nat) : Int) = ((List.length x0 : Nat) : Int) := of_decide_eq_true (notF h3)
        refine wp_skip ?_
        refine then_normal ?_
        refine wp_seq ?_
        refine at_regq (T := S_impl_HashVector_tab) [] { ts := [4], os := [] } [(fun (x0 : (List Int)) (x1 : (List Int)) => Sh.fit s22 x0 ∧ Sh.fit s22 x1 ∧ powsP x0 x1) x0 x1] gamOK hT h (by kernel_rfl) ⟨(by exact ⟨hf0, hf1, by omega, grp_at (validK_t (by assumption)).2, (validV_t (by assumption)).2.2⟩), trivial⟩ ?_
        intro a w h
        refine then_normal ?_
        refine wp_ret ?_
        exact at_return (S := S_impl_HashVector) (x := (x0, x1, ())) ((powsL x0 x1), ()) [] h (by kernel_rfl) trivial (congrArg (fun z => (z, ())) (show ((powsL x0 x1)) = hashV x0 x1 from by first | rfl | (unfold hashV; rw [if_pos (notF h1), if_pos (notF h2), if_pos h3])))

def S_spec_HashVector : Sum := { fid := 190, dom := [s45, s22], cod := [(.int 3)], dp := true, fz := false, pre := fun x => (fun (x0 : (List Int)) (x1 : (List Int)) => Sh.fit s45 x0 ∧ Sh.fit s22 x1) x.1 x.2.1, g := fun x => ((hashV x.1 x.2.1), ()) }
def S_spec_HashVector_tab : List (Nat × Sum) := [(119, S_spec_IsValidHashKey), (208, S_spec_IsValidVector), (240, S_spec_PowGroup), (239, S_spec_MulGroup)]
theorem S_spec_HashVector_ok : FnOK Try.prog 190 S_spec_HashVector := by
  refine at_enter 42 (fun x => ⟨[(0, aG [.ro (.int 3) x.1]), (1, aF (.int 3) x.2.1)], []⟩) Try.func190 rfl (by kernel_rfl) (fun x => rfl) ?_
  rintro w0 Z0 ⟨x0, x1, u⟩ a w
  revert x0 x1
  intro (x0 : (List Int)) (x1 : (List Int)) hpre hlens h
  replace h : At w0 Z0 [] 42 ⟨[(0, aG [.ro (.int 3) x0]), (1, aF (.int 3) x1)], []⟩ a w := h
  replace hpre : (fun (x0 : (List Int)) (x1 : (List Int)) => Sh.fit s45 x0 ∧ Sh.fit s22 x1) x0 x1 := hpre
  have hl1 : List.length x0 ≤ 9223372036854775807 := hlens.1.1
  have hl2 : List.length x1 ≤ 9223372036854775807 := hlens.2.1.1
  have hT : TabOK Try.prog S_spec_HashVector_tab := (.cons S_spec_IsValidHashKey_ok (.cons S_spec_IsValidVector_ok (.cons S_spec_PowGroup_ok (.cons S_spec_MulGroup_ok .nil))))
  obtain ⟨hf0, hf1⟩ := hpre
  have hn0_1 : List.length x0 ≤ 1073741824 := hf0.1
  have hn1_2 : List.length x1 ≤ 1073741824 := hf1.1
  refine wp_seq ?_
  refine at_regq (T := S_spec_HashVector_tab) [{ ids := [1] }] { ts := [1, 2, 4], os := [1] } [] gamOK hT h (by kernel_rfl) trivial ?_
  intro a w h
  refine then_normal ?_
  refine wp_seq ?_
  refine wp_seq ?_
  rcases Bool.eq_false_or_eq_true (!(validK x0)) with h1 | h1
  · skip
    have hzh1 : (validK x0) = false := notT h1
    refine at_regq (T := S_spec_HashVector_tab) [{}, {}, { hint := some (aB true) }] { ts := [1, 2, 4, 22], os := [1] } [(fun (x0 : (List Int)) => Sh.fit s45 x0) x0, (AV.p (.c (.v (.bool (!(validK x0))))) = AV.p (.c (.v (.bool true))))] gamOK hT h (by kernel_rfl) ⟨(by exact hf0), hint_bool (h1), trivial⟩ ?_
    intro a w h
    refine then_normal ?_
    refine at_test true h (by kernel_rfl) (fun hh => ?_) (fun hh => nomatch hh)
    refine wp_seq ?_
    refine at_regq (T := S_spec_HashVector_tab) [] { ts := [1, 2, 4], os := [1] } [] gamOK hT h (by kernel_rfl) trivial ?_
    intro a w h
    refine then_normal ?_
    refine wp_ret ?_
    refine then_ret ?_
    exact at_return (S := S_spec_HashVector) (x := (x0, x1, ())) (0, ()) [] h (by kernel_rfl) trivial (congrArg (fun z => (z, ())) (show (0) = hashV x0 x1 from by first | rfl | (unfold hashV; rw [if_neg (neT (notT h1))]; done) | (unfold hashV; simp_all)))
  · skip
    have hzh1 : (validK x0) = true := notF h1
    have hvh1 := validK_t (notF h1)
    rcases Bool.eq_false_or_eq_true (!(validV x1)) with h2 | h2
    · skip
      have hzh2 : (validV x1) = false := notT h2
      refine at_regq (T := S_spec_HashVector_tab) [{}, {}, { hint := some (aB false) }, {}, {}, {}, { hint := some (aB true) }] { ts := [1, 2, 4, 22], os := [1] } [(fun (x0 : (List Int)) => Sh.fit s45 x0) x0, (AV.p (.c (.v (.bool (!(validK x0))))) = AV.p (.c (.v (.bool false)))), (fun (x0 : (List Int)) => Sh.fit s22 x0) x1, (AV.p (.c (.v (.bool (!(validV x1))))) = AV.p (.c (.v (.bool true))))] gamOK hT h (by kernel_rfl) ⟨(by exact hf0), hint_bool (h1), (by exact hf1), hint_bool (h2), trivial⟩ ?_
      intro a w h
      refine then_normal ?_
      refine at_test true h (by kernel_rfl) (fun hh => ?_) (fun hh => nomatch hh)
      refine wp_seq ?_
      refine at_regq (T := S_spec_HashVector_tab) [] { ts := [1, 2, 4], os := [1] } [] gamOK hT h (by kernel_rfl) trivial ?_
      intro a w h
      refine then_normal ?_
      refine wp_ret ?_
      refine then_ret ?_
      exact at_return (S := S_spec_HashVector) (x := (x0, x1, ())) (0, ()) [] h (by kernel_rfl) trivial (congrArg (fun z => (z, ())) (show (0) = hashV x0 x1 from by first | rfl | (unfold hashV; rw [if_pos (notF h1), if_neg (neT (notT h2))]; done) | (unfold hashV; simp_all)))
    · skip
      have hzh2 : (validV x1) = true := notF h2
      have hvh2 := validV_t (notF h2)
      refine at_regq (T := S_spec_HashVector_tab) [{}, {}, { hint := some (aB false) }, {}, {}, {}, { hint := some (aB false) }] { ts := [1, 2, 4, 22], os := [1] } [(fun (x0 : (List Int)) => Sh.fit s45 x0) x0, (AV.p (.c (.v (.bool (!(validK x0))))) = AV.p (.c (.v (.bool false)))), (fun (x0 : (List Int)) => Sh.fit s22 x0) x1, (AV.p (.c (.v (.bool (!(validV x1))))) = AV.p (.c (.v (.bool false))))] gamOK hT h (by kernel_rfl) ⟨(by exact hf0), hint_bool (h1), (by exact hf1), hint_bool (h2), trivial⟩ ?_
      intro a w h
      refine then_normal ?_
      refine at_test (!decide (((List.length x1 : Nat) : Int) = ((List.length x0 : Nat) : Int))) h (by kernel_rfl) (fun h3 => ?_) (fun h3 => ?_)
      · replace h3 : ¬ (((List.length x1 : Nat) : Int) = ((List.length x0 : Nat) : Int)) := of_decide_eq_false (notT h3)
        refine wp_seq ?_
        refine at_regq (T := S_spec_HashVector_tab) [] { ts := [1, 2, 4], os := [1] } [] gamOK hT h (by kernel_rfl) trivial ?_
        intro a w h
        refine then_normal ?_
        refine wp_ret ?_
        refine then_ret ?_
        exact at_return (S := S_spec_HashVector) (x := (x0, x1, ())) (0, ()) [] h (by kernel_rfl) trivial (congrArg (fun z => (z, ())) (show (0) = hashV x0 x1 from by first | rfl | (unfold hashV; rw [if_pos (notF h1), if_pos (notF h2), if_neg h3]; done) | (unfold hashV; simp_all)))
      · replace h3 : ((List.length x1 : Nat) : Int) = ((List.length x0 : Nat) : Int) := of_decide_eq_true (notF h3)
        refine wp_skip ?_
        refine then_normal ?_
        refine wp_seq ?_
        refine at_regq (T := S_spec_HashVector_tab) [] { ts := [1, 2, 4, 5], os := [1] } [] gamOK hT h (by kernel_rfl) trivial ?_
        intro a w h
        refine then_normal ?_
        refine wp_seq ?_
        refine wp_seq ?_
        refine at_reg (T := S_spec_HashVector_tab) [] { ts := [1, 2, 4, 5, 6], os := [1] } ⟨[(1, aF (.int 3) x1), (2, aP 1 0), (4, aI 0), (5, aI 1), (6, aI 0)], [(1, oX 45 [.ro (.int 3) x0])]⟩ [] gamOK hT h (by kernel_rfl) trivial ?_
        intro a w h
        refine then_normal ?_
        refine wp_block ?_
        replace h := at_out (σ' := ⟨[(1, aF (.int 3) x1), (2, aP 1 0), (4, aI 0), (5, aI 1), (6, aI 0)], [(1, oX 45 [.ro (.int 3) x0])]⟩) { ts := [1, 2, 4, 5, 6], os := [1] } h (by kernel_rfl)
        refine at_loop (fun i : Nat => (⟨[(1, aF (.int 3) x1), (2, aP 1 0), (4, aI 0), (5, aI (hpw x0 x1 i)), (6, aI ((i : Nat) : Int))], [(1, oX 45 [.ro (.int 3) x0])]⟩ : St)) (fun i => i ≤ List.length x1) (fun i => List.length x1 - i) (0) h (st_congr2 (fun (d0 : Int) (d1 : Int) => (⟨[(1, aF (.int 3) x1), (2, aP 1 0), (4, aI 0), (5, aI d0), (6, aI d1)], [(1, oX 45 [.ro (.int 3) x0])]⟩ : St)) (show (1 : Int) = (hpw x0 x1 (0)) from by first | with_reducible rfl | (rfl) | rfl) (show (0 : Int) = (((0) : Nat) : Int) from by first | with_reducible rfl | (rfl) | rfl)) (by omega) ?_
        intro i a w hok0 h
        refine wp_seq ?_
        refine wp_seq ?_
        refine at_regq (T := S_spec_HashVector_tab) [] { ts := [1, 2, 4, 5, 6, 26], os := [1] } [] gamOK hT h (by kernel_rfl) trivial ?_
        intro a w h
        refine then_normal ?_
        refine at_test (decide (((i : Nat) : Int) < ((List.length x1 : Nat) : Int))) h (by kernel_rfl) (fun h4 => ?_) (fun h4 => ?_)
        · replace h4 : ((i : Nat) : Int) < ((List.length x1 : Nat) : Int) := of_decide_eq_true h4
          have hkg := (validK_t (k := x0) (by assumption)).2
          have hvr := (validV_t (v := x1) (by assumption)).2.2
          have hke := hkg _ (getD_mem (z := 0) (show i < List.length x0 by omega))
          have hhg := hpw_grp hkg hvr i (by omega)
          refine wp_skip ?_
          refine then_normal ?_
          refine wp_seq ?_
          refine wp_block ?_
          refine at_anyq (T := S_spec_HashVector_tab) [{}, {}, {}, {}, {}, {}, {}, {}, {}, {}, {}, {}, {}] { ts := [1, 2, 4, 5, 6], os := [1] } [(0 : Int) ≤ ((i : Nat) : Int) ∧ ((i : Nat) : Int) < ((List.length x0 : Nat) : Int), (0 : Int) ≤ ((i : Nat) : Int) ∧ ((i : Nat) : Int) < ((List.length x1 : Nat) : Int), True, True] gamOK hT mixed h (by kernel_rfl) ⟨(by refine ⟨?_, ?_⟩ <;> (first | omega | (simp only [List.length_append, List.length_cons, List.length_nil, List.length_set, List.length_take, List.length_drop, List.length_replicate, List.length_map, Nat.min_def]; omega) | (simp; done) | (simp; omega) | done)), (by refine ⟨?_, ?_⟩ <;> (first | omega | (simp only [List.length_append, List.length_cons, List.length_nil, List.length_set, List.length_take, List.length_drop, List.length_replicate, List.length_map, Nat.min_def]; omega) | (simp; done) | (simp; omega) | done)), trivial, trivial, trivial⟩ ?_
          intro a w h
          refine in_normal ?_
          refine then_normal ?_
          refine at_regq (T := S_spec_HashVector_tab) [{}, { nw := true }] { ts := [1, 2, 4, 5, 6], os := [1] } [I64 (((i : Nat) : Int) + 1)] gamOK hT h (by kernel_rfl) ⟨⟨by first | omega | (simp only [List.length_append, List.length_cons, List.length_nil, List.length_set, List.length_take, List.length_drop, List.length_replicate, List.length_map, Nat.min_def]; omega) | (simp; done) | (simp; omega) | done, by first | omega | (simp only [List.length_append, List.length_cons, List.length_nil, List.length_set, List.length_take, List.length_drop, List.length_replicate, List.length_map, Nat.min_def]; omega) | (simp; done) | (simp; omega) | done⟩, trivial⟩ ?_
          intro a w h
          replace h := at_out (σ' := ⟨[(1, aF (.int 3) x1), (2, aP 1 0), (4, aI 0), (5, aI (mulG (hpw x0 x1 i) (powG (x0.getD i 0) (x1.getD i 0)))), (6, aI (((i : Nat) : Int) + 1))], [(1, oX 45 [.ro (.int 3) x0])]⟩) { ts := [1, 2, 4, 5, 6], os := [1] } h (by kernel_rfl)
          exact ⟨i + 1, at_eq h (st_congr2 (fun (d0 : Int) (d1 : Int) => (⟨[(1, aF (.int 3) x1), (2, aP 1 0), (4, aI 0), (5, aI d0), (6, aI d1)], [(1, oX 45 [.ro (.int 3) x0])]⟩ : St)) (show ((mulG (hpw x0 x1 i) (powG (x0.getD i 0) (x1.getD i 0))) : Int) = (hpw x0 x1 (i + 1)) from by first | with_reducible rfl | (exact hpw_step hhg hke (hvr i)) | rfl) (show (((i : Nat) : Int) + 1 : Int) = (((i + 1) : Nat) : Int) from by first | with_reducible rfl | (omega) | rfl)), (by omega), (by omega)⟩
        · replace h4 : ¬ (((i : Nat) : Int) < ((List.length x1 : Nat) : Int)) := of_decide_eq_false h4
          refine wp_exit ?_
          refine then_exit ?_
          replace h := at_out (σ' := ⟨[(4, aI 0), (5, aI (hpw x0 x1 i))], []⟩) { ts := [4, 5], os := [] } h (by kernel_rfl)
          replace h := at_eq (σ' := ⟨[(4, aI 0), (5, aI (powsL x0 x1))], []⟩) h (st_congr1 (fun (d0 : Int) => (⟨[(4, aI 0), (5, aI d0)], []⟩ : St)) (show ((hpw x0 x1 i) : Int) = (powsL x0 x1) from by first | with_reducible rfl | (unfold powsL; rw [show List.length x0 = i by omega]) | rfl))
          refine then_exit ?_
          refine in_hit ?_
          refine then_normal ?_
          refine wp_seq ?_
          refine at_regq (T := S_spec_HashVector_tab) [] { ts := [4], os := [] } [] gamOK hT h (by kernel_rfl) trivial ?_
          intro a w h
          refine then_normal ?_
          refine wp_ret ?_
          exact at_return (S := S_spec_HashVector) (x := (x0, x1, ())) ((powsL x0 x1), ()) [] h (by kernel_rfl) trivial (congrArg (fun z => (z, ())) (show ((powsL x0 x1)) = hashV x0 x1 from by first | rfl | (unfold hashV; rw [if_pos (notF h1), if_pos (notF h2), if_pos h3]; done) | (unfold hashV; simp_all)))

def D_impl_SymbolWidth := (fun (g : T86) => colsOf g.2)
def S_impl_SymbolWidth : Sum := { fid := 128, dom := [s86], cod := [(.int 3)], dp := true, fz := false, pre := fun x => (fun (x0 : T86) => Sh.fit s86 x0) x.1, g := fun x => ((D_impl_SymbolWidth x.1), ()) }
def S_impl_SymbolWidth_tab : List (Nat × Sum) := [(195, S_impl_ColumnsOf)]
theorem S_impl_SymbolWidth_ok : FnOK Try.prog 128 S_impl_SymbolWidth := by
  refine at_enter 6 (fun x => ⟨[(0, aG [cI x.1.1, .ro s22 x.1.2])], []⟩) Try.func128 rfl (by kernel_rfl) (fun x => rfl) ?_
  rintro w0 Z0 ⟨x0, u⟩ a w
  revert x0
  intro (x0 : T86) hpre hlens h
  replace h : At w0 Z0 [] 6 ⟨[(0, aG [cI x0.1, .ro s22 x0.2])], []⟩ a w := h
  replace hpre : (fun (x0 : T86) => Sh.fit s86 x0) x0 := hpre
  have hl1 : List.length x0.2 ≤ 9223372036854775807 := hlens.1.2.1
  have hT : TabOK Try.prog S_impl_SymbolWidth_tab := (.cons S_impl_ColumnsOf_ok .nil)
  have hf0 : Sh.fit s86 x0 := hpre
  have hn0_1 : List.length x0.2 ≤ 1073741824 := hf0.2.1
  refine wp_seq ?_
  refine at_regq (T := S_impl_SymbolWidth_tab) [{ ids := [1] }] { ts := [1, 2], os := [1] } [] gamOK hT h (by kernel_rfl) trivial ?_
  intro a w h
  refine then_normal ?_
  refine wp_seq ?_
  refine at_regq (T := S_impl_SymbolWidth_tab) [] { ts := [2], os := [] } [(fun (x0 : (List (List Int))) => Sh.fit s80 x0) x0.2] gamOK hT h (by kernel_rfl) ⟨(by exact hf0.2), trivial⟩ ?_
  intro a w h
  refine then_normal ?_
  refine wp_ret ?_
  exact at_return (S := S_impl_SymbolWidth) (x := (x0, ())) ((colsOf x0.2), ()) [] h (by kernel_rfl) trivial (congrArg (fun z => (z, ())) (show ((colsOf x0.2)) = D_impl_SymbolWidth x0 from by unfold D_impl_SymbolWidth; rfl))

def validG (x0 : T86) : Bool := (if (inR x0.1 0 1000000000000) = true then (if (inR ((List.length x0.2 : Nat) : Int) 1 8) = true then (if (validM x0.2) = true then (inR (colsOf x0.2) 1 16) else false) else false) else false)
def S_spec_IsValidGeneration : Sum := { fid := 118, dom := [s86], cod := [(.bool 4)], dp := true, fz := false, pre := fun x => (fun (x0 : T86) => Sh.fit s86 x0) x.1, g := fun x => ((validG x.1), ()) }
def S_spec_IsValidGeneration_tab : List (Nat × Sum) := [(138, S_spec_l1In), (186, S_spec_IsValidMatrix), (120, S_spec_ColumnsOf)]
theorem S_spec_IsValidGeneration_ok : FnOK Try.prog 118 S_spec_IsValidGeneration := by
  refine at_enter 23 (fun x => ⟨[(0, aG [cI x.1.1, .ro s22 x.1.2])], []⟩) Try.func118 rfl (by kernel_rfl) (fun x => rfl) ?_
  rintro w0 Z0 ⟨x0, u⟩ a w
  revert x0
  intro (x0 : T86) hpre hlens h
  replace h : At w0 Z0 [] 23 ⟨[(0, aG [cI x0.1, .ro s22 x0.2])], []⟩ a w := h
  replace hpre : (fun (x0 : T86) => Sh.fit s86 x0) x0 := hpre
  have hl1 : List.length x0.2 ≤ 9223372036854775807 := hlens.1.2.1
  have hT : TabOK Try.prog S_spec_IsValidGeneration_tab := (.cons S_spec_l1In_ok (.cons S_spec_IsValidMatrix_ok (.cons S_spec_ColumnsOf_ok .nil)))
  have hf0 : Sh.fit s86 x0 := hpre
  have hn0_1 : List.length x0.2 ≤ 1073741824 := hf0.2.1
  refine wp_seq ?_
  refine at_regq (T := S_spec_IsValidGeneration_tab) [{ ids := [1] }] { ts := [1, 2], os := [1] } [] gamOK hT h (by kernel_rfl) trivial ?_
  intro a w h
  refine then_normal ?_
  refine wp_seq ?_
  rcases Bool.eq_false_or_eq_true ((inR x0.1 0 1000000000000)) with h1 | h1
  · skip
    have hvh1 := inR_t h1
    rcases Bool.eq_false_or_eq_true ((inR ((List.length x0.2 : Nat) : Int) 1 8)) with h2 | h2
    · skip
      have hvh2 := inR_t h2
      rcases Bool.eq_false_or_eq_true ((validM x0.2)) with h3 | h3
      · skip
        have hvh3 := validM_t h3
        refine at_regq (T := S_spec_IsValidGeneration_tab) [{}, {}, { hint := some (aB true) }, {}, {}, {}, {}, { hint := some (aB true) }, {}, {}, {}, {}, { hint := some (aB true) }] { ts := [2], os := [] } [True, (AV.p (.c (.v (.bool ((inR x0.1 0 1000000000000))))) = AV.p (.c (.v (.bool true)))), True, (AV.p (.c (.v (.bool ((inR ((List.length x0.2 : Nat) : Int) 1 8))))) = AV.p (.c (.v (.bool true)))), (fun (x0 : (List (List Int))) => Sh.fit s80 x0) x0.2, (AV.p (.c (.v (.bool ((validM x0.2))))) = AV.p (.c (.v (.bool true)))), (fun (x0 : (List (List Int))) => Sh.fit s80 x0) x0.2, True] gamOK hT h (by kernel_rfl) ⟨trivial, hint_bool (h1), trivial, hint_bool (h2), (by exact hf0.2), hint_bool (h3), (by exact hf0.2), trivial, trivial⟩ ?_
        intro a w h
        refine then_normal ?_
        refine wp_ret ?_
        exact at_return (S := S_spec_IsValidGeneration) (x := (x0, ())) ((inR (colsOf x0.2) 1 16), ()) [] h (by kernel_rfl) trivial (congrArg (fun z => (z, ())) (show ((inR (colsOf x0.2) 1 16)) = validG x0 from by first | rfl | (unfold validG; rw [if_pos h1, if_pos h2, if_pos h3])))
      · skip
        refine at_regq (T := S_spec_IsValidGeneration_tab) [{}, {}, { hint := some (aB true) }, {}, {}, {}, {}, { hint := some (aB true) }, {}, {}, {}, {}, { hint := some (aB false) }] { ts := [2], os := [] } [True, (AV.p (.c (.v (.bool ((inR x0.1 0 1000000000000))))) = AV.p (.c (.v (.bool true)))), True, (AV.p (.c (.v (.bool ((inR ((List.length x0.2 : Nat) : Int) 1 8))))) = AV.p (.c (.v (.bool true)))), (fun (x0 : (List (List Int))) => Sh.fit s80 x0) x0.2, (AV.p (.c (.v (.bool ((validM x0.2))))) = AV.p (.c (.v (.bool false))))] gamOK hT h (by kernel_rfl) ⟨trivial, hint_bool (h1), trivial, hint_bool (h2), (by exact hf0.2), hint_bool (h3), trivial⟩ ?_
        intro a w h
        refine then_normal ?_
        refine wp_ret ?_
        exact at_return (S := S_spec_IsValidGeneration) (x := (x0, ())) (false, ()) [] h (by kernel_rfl) trivial (congrArg (fun z => (z, ())) (show (false) = validG x0 from by first | rfl | (unfold validG; rw [if_pos h1, if_pos h2, if_neg (neT h3)])))
    · skip
      have hvh2 := inR_f h2
      refine at_regq (T := S_spec_IsValidGeneration_tab) [{}, {}, { hint := some (aB true) }, {}, {}, {}, {}, { hint := some (aB false) }] { ts := [2], os := [] } [True, (AV.p (.c (.v (.bool ((inR x0.1 0 1000000000000))))) = AV.p (.c (.v (.bool true)))), True, (AV.p (.c (.v (.bool ((inR ((List.length x0.2 : Nat) : Int) 1 8))))) = AV.p (.c (.v (.bool false))))] gamOK hT h (by kernel_rfl) ⟨trivial, hint_bool (h1), trivial, hint_bool (h2), trivial⟩ ?_
      intro a w h
      refine then_normal ?_
      refine wp_ret ?_
      exact at_return (S := S_spec_IsValidGeneration) (x := (x0, ())) (false, ()) [] h (by kernel_rfl) trivial (congrArg (fun z => (z, ())) (show (false) = validG x0 from by first | rfl | (unfold validG; rw [if_pos h1, if_neg (neT h2)])))
  · skip
    have hvh1 := inR_f h1
    refine at_regq (T := S_spec_IsValidGeneration_tab) [{}, {}, { hint := some (aB false) }] { ts := [2], os := [] } [True, (AV.p (.c (.v (.bool ((inR x0.1 0 1000000000000))))) = AV.p (.c (.v (.bool false))))] gamOK hT h (by kernel_rfl) ⟨trivial, hint_bool (h1), trivial⟩ ?_
    intro a w h
    refine then_normal ?_
    refine wp_ret ?_
    exact at_return (S := S_spec_IsValidGeneration) (x := (x0, ())) (false, ()) [] h (by kernel_rfl) trivial (congrArg (fun z => (z, ())) (show (false) = validG x0 from by first | rfl | (unfold validG; rw [if_neg (neT h1)])))
theorem validG_t {g : T86} (h : validG g = true) : (0 ≤ g.1 ∧ g.1 ≤ 1000000000000) ∧ (1 ≤ List.length g.2 ∧ List.length g.2 ≤ 8) ∧ validM g.2 = true ∧ (1 ≤ colsOf g.2 ∧ colsOf g.2 ≤ 16) := by
  unfold validG at h
  split at h
  · split at h
    · split at h
      · rename_i h1 h2 h3
        have a1 := inR_t h1; have a2 := inR_t h2; have a3 := inR_t h
        exact ⟨a1, by omega, h3, a3⟩
      · cases h
    · cases h
  · cases h
theorem colsOf_at {m : List (List Int)} (h : 1 ≤ List.length m) : colsOf m = ((List.length (m.getD 0 []) : Nat) : Int) := by unfold colsOf; rw [if_neg (by omega)]

def S_impl_IsValidGeneration : Sum := { fid := 167, dom := [s86], cod := [(.bool 4)], dp := true, fz := false, pre := fun x => (fun (x0 : T86) => Sh.fit s86 x0) x.1, g := fun x => ((validG x.1), ()) }
def S_impl_IsValidGeneration_tab : List (Nat × Sum) := [(140, S_impl_InRange), (215, S_impl_IsValidVector), (128, S_impl_SymbolWidth)]
theorem S_impl_IsValidGeneration_ok : FnOK Try.prog 167 S_impl_IsValidGeneration := by
  refine at_enter 40 (fun x => ⟨[(0, aG [cI x.1.1, .ro s22 x.1.2])], []⟩) Try.func167 rfl (by kernel_rfl) (fun x => rfl) ?_
  rintro w0 Z0 ⟨x0, u⟩ a w
  revert x0
  intro (x0 : T86) hpre hlens h
  replace h : At w0 Z0 [] 40 ⟨[(0, aG [cI x0.1, .ro s22 x0.2])], []⟩ a w := h
  replace hpre : (fun (x0 : T86) => Sh.fit s86 x0) x0 := hpre
  have hl1 : List.length x0.2 ≤ 9223372036854775807 := hlens.1.2.1
  have hT : TabOK Try.prog S_impl_IsValidGeneration_tab := (.cons S_impl_InRange_ok (.cons S_impl_IsValidVector_ok (.cons S_impl_SymbolWidth_ok .nil)))
  have hf0 : Sh.fit s86 x0 := hpre
  have hn0_1 : List.length x0.2 ≤ 1073741824 := hf0.2.1
  refine wp_seq ?_
  refine at_regq (T := S_impl_IsValidGeneration_tab) [{ ids := [1] }] { ts := [1, 2], os := [1] } [] gamOK hT h (by kernel_rfl) trivial ?_
  intro a w h
  refine then_normal ?_
  refine wp_seq ?_
  refine wp_seq ?_
  rcases Bool.eq_false_or_eq_true (!(inR x0.1 0 1000000000000)) with h1 | h1
  · skip
    have hzh1 : (inR x0.1 0 1000000000000) = false := notT h1
    have hvh1 := inR_f (notT h1)
    refine at_regq (T := S_impl_IsValidGeneration_tab) [{}, {}, {}, { hint := some (aB true) }] { ts := [1, 2, 15], os := [1] } [True, (AV.p (.c (.v (.bool (!(inR x0.1 0 1000000000000))))) = AV.p (.c (.v (.bool true))))] gamOK hT h (by kernel_rfl) ⟨trivial, hint_bool (h1), trivial⟩ ?_
    intro a w h
    refine then_normal ?_
    refine at_test true h (by kernel_rfl) (fun hh => ?_) (fun hh => nomatch hh)
    refine wp_seq ?_
    refine at_regq (T := S_impl_IsValidGeneration_tab) [] { ts := [1, 2], os := [1] } [] gamOK hT h (by kernel_rfl) trivial ?_
    intro a w h
    refine then_normal ?_
    refine wp_ret ?_
    refine then_ret ?_
    exact at_return (S := S_impl_IsValidGeneration) (x := (x0, ())) (false, ()) [] h (by kernel_rfl) trivial (congrArg (fun z => (z, ())) (show (false) = validG x0 from by first | rfl | (unfold validG; rw [if_neg (neT (notT h1))]; done) | (unfold validG; (repeat (first | rfl | split)) <;> (first | rfl | omega | (simp_all [-List.all_eq_true, -List.any_eq_true, -List.all_eq_false, -List.any_eq_false, validM, D_impl_SymbolWidth]; done) | (simp_all [-List.all_eq_true, -List.any_eq_true, -List.all_eq_false, -List.any_eq_false, validM, D_impl_SymbolWidth]; omega) | (exfalso; simp_all [-List.all_eq_true, -List.any_eq_true, -List.all_eq_false, -List.any_eq_false, validM, D_impl_SymbolWidth]; omega)))))
  · skip
    have hzh1 : (inR x0.1 0 1000000000000) = true := notF h1
    have hvh1 := inR_t (notF h1)
    refine at_regq (T := S_impl_IsValidGeneration_tab) [{}, {}, {}, { hint := some (aB false) }] { ts := [1, 2, 15], os := [1] } [True, (AV.p (.c (.v (.bool (!(inR x0.1 0 1000000000000))))) = AV.p (.c (.v (.bool false)))), True] gamOK hT h (by kernel_rfl) ⟨trivial, hint_bool (h1), trivial, trivial⟩ ?_
    intro a w h
    refine then_normal ?_
    refine at_test (!(inR ((List.length x0.2 : Nat) : Int) 1 8)) h (by kernel_rfl) (fun h2 => ?_) (fun h2 => ?_)
    · replace h2 : (inR ((List.length x0.2 : Nat) : Int) 1 8) = false := notT h2
      have hvh2 := inR_f h2
      refine wp_seq ?_
      refine at_regq (T := S_impl_IsValidGeneration_tab) [] { ts := [1, 2], os := [1] } [] gamOK hT h (by kernel_rfl) trivial ?_
      intro a w h
      refine then_normal ?_
      refine wp_ret ?_
      refine then_ret ?_
      exact at_return (S := S_impl_IsValidGeneration) (x := (x0, ())) (false, ()) [] h (by kernel_rfl) trivial (congrArg (fun z => (z, ())) (show (false) = validG x0 from by first | rfl | (unfold validG; rw [if_pos (notF h1), if_neg (neT h2)]; done) | (unfold validG; (repeat (first | rfl | split)) <;> (first | rfl | omega | (simp_all [-List.all_eq_true, -List.any_eq_true, -List.all_eq_false, -List.any_eq_false, validM, D_impl_SymbolWidth]; done) | (simp_all [-List.all_eq_true, -List.any_eq_true, -List.all_eq_false, -List.any_eq_false, validM, D_impl_SymbolWidth]; omega) | (exfalso; simp_all [-List.all_eq_true, -List.any_eq_true, -List.all_eq_false, -List.any_eq_false, validM, D_impl_SymbolWidth]; omega)))))
    · replace h2 : (inR ((List.length x0.2 : Nat) : Int) 1 8) = true := notF h2
      have hvh2 := inR_t h2
      refine wp_skip ?_
      refine then_normal ?_
      refine wp_seq ?_
      refine wp_seq ?_
      refine at_regq (T := S_impl_IsValidGeneration_tab) [] { ts := [1, 2, 17, 18, 19], os := [1] } [] gamOK hT h (by kernel_rfl) trivial ?_
      intro a w h
      refine then_normal ?_
      refine wp_block ?_
      replace h := at_out (σ' := ⟨[(1, aP 1 0), (2, aB false), (17, aF s22 x0.2), (18, aI ((List.length x0.2 : Nat) : Int)), (19, aI 0)], [(1, oX 86 [cI x0.1, .ro s22 x0.2])]⟩) { ts := [1, 2, 17, 18, 19], os := [1] } h (by kernel_rfl)
      refine at_loop (fun i : Nat => (⟨[(1, aP 1 0), (2, aB false), (17, aF s22 x0.2), (18, aI ((List.length x0.2 : Nat) : Int)), (19, aI ((i : Nat) : Int))], [(1, oX 86 [cI x0.1, .ro s22 x0.2])]⟩ : St)) (fun i => (i ≤ List.length x0.2 ∧ allTo1 (fun r => validV r && decide (List.length r = List.length (x0.2.getD 0 []))) x0.2 [] i)) (fun i => List.length x0.2 - i) (0) h (st_congr1 (fun (d0 : Int) => (⟨[(1, aP 1 0), (2, aB false), (17, aF s22 x0.2), (18, aI ((List.length x0.2 : Nat) : Int)), (19, aI d0)], [(1, oX 86 [cI x0.1, .ro s22 x0.2])]⟩ : St)) (show (0 : Int) = (((0) : Nat) : Int) from by first | with_reducible rfl | (rfl) | rfl)) (by exact ⟨Nat.zero_le _, allTo1_zero⟩) ?_
      intro i a w hok0 h
      refine wp_seq ?_
      refine at_reg (T := S_impl_IsValidGeneration_tab) [] { ts := [1, 2, 17, 18, 19, 20], os := [1] } ⟨[(1, aP 1 0), (2, aB false), (17, aF s22 x0.2), (18, aI ((List.length x0.2 : Nat) : Int)), (19, aI ((i : Nat) : Int)), (20, aB (decide (((i : Nat) : Int) < ((List.length x0.2 : Nat) : Int))))], [(1, oX 86 [cI x0.1, .ro s22 x0.2])]⟩ [] gamOK hT h (by kernel_rfl) trivial ?_
      intro a w h
      refine then_normal ?_
      refine wp_seq ?_
      refine at_test (decide (((i : Nat) : Int) < ((List.length x0.2 : Nat) : Int))) h (by kernel_rfl) (fun h3 => ?_) (fun h3 => ?_)
      · replace h3 : ((i : Nat) : Int) < ((List.length x0.2 : Nat) : Int) := of_decide_eq_true h3
        refine wp_skip ?_
        refine then_normal ?_
        refine wp_seq ?_
        refine wp_block ?_
        refine wp_seq ?_
        refine at_regq (T := S_impl_IsValidGeneration_tab) [] { ts := [1, 2, 4, 17, 18, 19], os := [1] } [(0 : Int) ≤ ((i : Nat) : Int) ∧ ((i : Nat) : Int) < ((List.length x0.2 : Nat) : Int)] gamOK hT h (by kernel_rfl) ⟨(by refine ⟨?_, ?_⟩ <;> (first | omega | (simp only [List.length_append, List.length_cons, List.length_nil, List.length_set, List.length_take, List.length_drop, List.length_replicate, List.length_map, Nat.min_def]; omega) | (simp; done) | (simp; omega) | done)), trivial⟩ ?_
        intro a w h
        refine then_normal ?_
        refine wp_seq ?_
        rcases Bool.eq_false_or_eq_true (!(validV (x0.2.getD i []))) with h4 | h4
        · skip
          have hzh4 : (validV (x0.2.getD i [])) = false := notT h4
          refine at_regq (T := S_impl_IsValidGeneration_tab) [{}, {}, { hint := some (aB true) }] { ts := [1, 2, 17, 18, 19, 27, 28, 29, 30, 31, 32, 33, 34, 35], os := [1] } [(fun (x0 : (List Int)) => Sh.fit s22 x0) (x0.2.getD i []), (AV.p (.c (.v (.bool (!(validV (x0.2.getD i [])))))) = AV.p (.c (.v (.bool true))))] gamOK hT h (by kernel_rfl) ⟨(by exact (Sh.fit_getD hf0.2 i)), hint_bool (h4), trivial⟩ ?_
          intro a w h
          refine then_normal ?_
          refine at_test true h (by kernel_rfl) (fun hh => ?_) (fun hh => nomatch hh)
          refine wp_seq ?_
          refine at_regq (T := S_impl_IsValidGeneration_tab) [] { ts := [1, 2, 17, 18, 19, 27, 28, 29, 30, 31, 32, 33, 34], os := [1] } [] gamOK hT h (by kernel_rfl) trivial ?_
          intro a w h
          refine then_normal ?_
          refine wp_ret ?_
          refine in_ret ?_
          refine then_ret ?_
          have hs5 : (List.all x0.2 (fun r => validV r && decide (List.length r = List.length (x0.2.getD 0 [])))) = false := by exact all_at (z := []) (i := i) (by omega) (by (show ((validV _) && _) = false; rw [Bool.and_eq_false_iff]; first | (left; assumption) | (right; exact decide_eq_false (by omega))))
          refine then_ret ?_
          refine in_ret ?_
          refine then_ret ?_
          exact at_return (S := S_impl_IsValidGeneration) (x := (x0, ())) (false, ()) [] h (by kernel_rfl) trivial (congrArg (fun z => (z, ())) (show (false) = validG x0 from by first | rfl | (unfold validG; rw [if_pos (notF h1), if_pos h2, if_neg (neT hs5)]; done) | (unfold validG; (repeat (first | rfl | split)) <;> (first | rfl | omega | (simp_all [-List.all_eq_true, -List.any_eq_true, -List.all_eq_false, -List.any_eq_false, validM, D_impl_SymbolWidth]; done) | (simp_all [-List.all_eq_true, -List.any_eq_true, -List.all_eq_false, -List.any_eq_false, validM, D_impl_SymbolWidth]; omega) | (exfalso; simp_all [-List.all_eq_true, -List.any_eq_true, -List.all_eq_false, -List.any_eq_false, validM, D_impl_SymbolWidth]; omega)))))
        · skip
          have hzh4 : (validV (x0.2.getD i [])) = true := notF h4
          have hvh4 := validV_t (notF h4)
          refine at_regq (T := S_impl_IsValidGeneration_tab) [{}, {}, { hint := some (aB false) }] { ts := [1, 2, 17, 18, 19, 27, 28, 29, 30, 31, 32, 33, 34, 35], os := [1] } [(fun (x0 : (List Int)) => Sh.fit s22 x0) (x0.2.getD i []), (AV.p (.c (.v (.bool (!(validV (x0.2.getD i [])))))) = AV.p (.c (.v (.bool false)))), (0 : Int) ≤ 0 ∧ 0 < ((List.length x0.2 : Nat) : Int)] gamOK hT h (by kernel_rfl) ⟨(by exact (Sh.fit_getD hf0.2 i)), hint_bool (h4), (by refine ⟨?_, ?_⟩ <;> (first | omega | (simp only [List.length_append, List.length_cons, List.length_nil, List.length_set, List.length_take, List.length_drop, List.length_replicate, List.length_map, Nat.min_def]; omega) | (simp; done) | (simp; omega) | done)), trivial⟩ ?_
          intro a w h
          refine then_normal ?_
          refine at_test (!decide (((List.length (x0.2.getD i []) : Nat) : Int) = ((List.length (x0.2.getD 0 []) : Nat) : Int))) h (by kernel_rfl) (fun h6 => ?_) (fun h6 => ?_)
          · replace h6 : ¬ (((List.length (x0.2.getD i []) : Nat) : Int) = ((List.length (x0.2.getD 0 []) : Nat) : Int)) := of_decide_eq_false (notT h6)
            refine wp_seq ?_
            refine at_regq (T := S_impl_IsValidGeneration_tab) [] { ts := [1, 2, 17, 18, 19, 27, 28, 29, 30, 31, 32, 33, 34], os := [1] } [] gamOK hT h (by kernel_rfl) trivial ?_
            intro a w h
            refine then_normal ?_
            refine wp_ret ?_
            refine in_ret ?_
            refine then_ret ?_
            have hs7 : (List.all x0.2 (fun r => validV r && decide (List.length r = List.length (x0.2.getD 0 [])))) = false := by exact all_at (z := []) (i := i) (by omega) (by (show ((validV _) && _) = false; rw [Bool.and_eq_false_iff]; first | (left; assumption) | (right; exact decide_eq_false (by omega))))
            refine then_ret ?_
            refine in_ret ?_
            refine then_ret ?_
            exact at_return (S := S_impl_IsValidGeneration) (x := (x0, ())) (false, ()) [] h (by kernel_rfl) trivial (congrArg (fun z => (z, ())) (show (false) = validG x0 from by first | rfl | (unfold validG; rw [if_pos (notF h1), if_pos h2, if_neg (neT hs7)]; done) | (unfold validG; (repeat (first | rfl | split)) <;> (first | rfl | omega | (simp_all [-List.all_eq_true, -List.any_eq_true, -List.all_eq_false, -List.any_eq_false, validM, D_impl_SymbolWidth]; done) | (simp_all [-List.all_eq_true, -List.any_eq_true, -List.all_eq_false, -List.any_eq_false, validM, D_impl_SymbolWidth]; omega) | (exfalso; simp_all [-List.all_eq_true, -List.any_eq_true, -List.all_eq_false, -List.any_eq_false, validM, D_impl_SymbolWidth]; omega)))))
          · replace h6 : ((List.length (x0.2.getD i []) : Nat) : Int) = ((List.length (x0.2.getD 0 []) : Nat) : Int) := of_decide_eq_true (notF h6)
            refine wp_skip ?_
            refine in_normal ?_
            refine then_normal ?_
            refine at_regq (T := S_impl_IsValidGeneration_tab) [{ nw := true }] { ts := [1, 2, 17, 18, 19, 27, 28, 29, 30, 31, 32, 33, 34], os := [1] } [I64 (((i : Nat) : Int) + 1)] gamOK hT h (by kernel_rfl) ⟨⟨by first | omega | (simp only [List.length_append, List.length_cons, List.length_nil, List.length_set, List.length_take, List.length_drop, List.length_replicate, List.length_map, Nat.min_def]; omega) | (simp; done) | (simp; omega) | done, by first | omega | (simp only [List.length_append, List.length_cons, List.length_nil, List.length_set, List.length_take, List.length_drop, List.length_replicate, List.length_map, Nat.min_def]; omega) | (simp; done) | (simp; omega) | done⟩, trivial⟩ ?_
            intro a w h
            replace h := at_out (σ' := ⟨[(1, aP 1 0), (2, aB false), (17, aF s22 x0.2), (18, aI ((List.length x0.2 : Nat) : Int)), (19, aI (((i : Nat) : Int) + 1))], [(1, oX 86 [cI x0.1, .ro s22 x0.2])]⟩) { ts := [1, 2, 17, 18, 19], os := [1] } h (by kernel_rfl)
            exact ⟨i + 1, at_eq h (st_congr1 (fun (d0 : Int) => (⟨[(1, aP 1 0), (2, aB false), (17, aF s22 x0.2), (18, aI ((List.length x0.2 : Nat) : Int)), (19, aI d0)], [(1, oX 86 [cI x0.1, .ro s22 x0.2])]⟩ : St)) (show (((i : Nat) : Int) + 1 : Int) = (((i + 1) : Nat) : Int) from by first | with_reducible rfl | (omega) | rfl)), (by exact ⟨by omega, allTo1_succ hok0.2 (by (show ((validV _) && _) = true; rw [Bool.and_eq_true]; exact ⟨by assumption, decide_eq_true (by omega)⟩))⟩), (by omega)⟩
      · replace h3 : ¬ (((i : Nat) : Int) < ((List.length x0.2 : Nat) : Int)) := of_decide_eq_false h3
        refine wp_exit ?_
        refine then_exit ?_
        have hs8 : (List.all x0.2 (fun r => validV r && decide (List.length r = List.length (x0.2.getD 0 [])))) = true := by exact all_of (z := []) (i := i) (by omega) hok0.2
        refine then_exit ?_
        refine in_hit ?_
        refine then_normal ?_
        refine wp_seq ?_
        refine at_regq (T := S_impl_IsValidGeneration_tab) [] { ts := [2], os := [] } [(fun (x0 : T86) => Sh.fit s86 x0) x0, True] gamOK hT h (by kernel_rfl) ⟨(by exact hf0), trivial, trivial⟩ ?_
        intro a w h
        refine then_normal ?_
        refine wp_ret ?_
        exact at_return (S := S_impl_IsValidGeneration) (x := (x0, ())) ((inR (colsOf x0.2) 1 16), ()) [] h (by kernel_rfl) trivial (congrArg (fun z => (z, ())) (show ((inR (colsOf x0.2) 1 16)) = validG x0 from by first | rfl | (unfold validG; rw [if_pos (notF h1), if_pos h2, if_pos hs8]; done) | (unfold validG; (repeat (first | rfl | split)) <;> (first | rfl | omega | (simp_all [-List.all_eq_true, -List.any_eq_true, -List.all_eq_false, -List.any_eq_false, validM, D_impl_SymbolWidth]; done) | (simp_all [-List.all_eq_true, -List.any_eq_true, -List.all_eq_false, -List.any_eq_false, validM, D_impl_SymbolWidth]; omega) | (exfalso; simp_all [-List.all_eq_true, -List.any_eq_true, -List.all_eq_false, -List.any_eq_false, validM, D_impl_SymbolWidth]; omega)))))
def hsOK (k : List Int) (g : T86) : Prop := validK k = true ∧ validG g = true ∧ colsOf g.2 = ((List.length k : Nat) : Int)
instance (k : List Int) (g : T86) : Decidable (hsOK k g) := by unfold hsOK; exact inferInstance
def hashSyms (k : List Int) (g : T86) : List Int := if hsOK k g then g.2.map (fun s => powsL k s) else []
theorem hashSyms_y {k : List Int} {g : T86} (h : hsOK k g) : g.2.map (fun s => powsL k s) = hashSyms k g := (if_pos h).symm
theorem hashSyms_n {k : List Int} {g : T86} (h : ¬ hsOK k g) : [] = hashSyms k g := (if_neg h).symm
theorem hashSyms_len {k : List Int} {g : T86} : List.length (hashSyms k g) ≤ List.length g.2 := by
  unfold hashSyms; split
  · simp
  · exact Nat.zero_le _
theorem hashSyms_nil {k : List Int} {g : T86} (h : List.length (hashSyms k g) = 0) : ¬ hsOK k g := fun e => by
  unfold hashSyms at h; rw [if_pos e, List.length_map] at h
  have := (validG_t e.2.1).2.1; omega
theorem hashV_sym {k : List Int} {g : T86} {i : Nat} (h : hsOK k g) (hi : i < List.length g.2) : hashV k (g.2.getD i []) = powsL k (g.2.getD i []) := by
  have hgm := (validG_t h.2.1).2.2.1
  have hgc := colsOf_at (m := g.2) (by omega)
  have hga := validM_at hgm i hi
  have hgv := (validM_t hgm).2 _ (getD_mem (z := []) hi)
  have h3 := h.2.2
  unfold hashV
  rw [if_pos h.1, if_pos hgv.1]
  first | rw [if_pos (by omega)] | rw [if_neg (by omega)]
theorem hashSyms_end {k : List Int} {g : T86} {i : Nat} (hi : i ≤ List.length g.2) (h : i = 0 ∨ hsOK k g) (he : List.length g.2 ≤ i ∨ ¬ hsOK k g) : List.map (fun s => powsL k s) (List.take i g.2) = hashSyms k g := by
  unfold hashSyms
  by_cases hs : hsOK k g
  · rw [if_pos hs, take_all (by rcases he with he | he; exact he; exact absurd hs he)]
  · rw [if_neg hs]
    rcases h with h | h
    · rw [h]; rfl
    · exact absurd h hs
def combH (hs cs : List Int) : Int := if validV cs = true ∧ List.length hs = List.length cs ∧ List.all hs isGrp = true then powsL hs cs else 0


def S_impl_CombineHashes : Sum := { fid := 234, dom := [s22, s22], cod := [(.int 3)], dp := true, fz := false, pre := fun x => (fun (x0 : (List Int)) (x1 : (List Int)) => Sh.fit s22 x0 ∧ Sh.fit s22 x1) x.1 x.2.1, g := fun x => ((combH x.1 x.2.1), ()) }
def S_impl_CombineHashes_tab : List (Nat × Sum) := [(215, S_impl_IsValidVector), (199, S_impl_IsGroupElement), (192, S_impl_powers)]
theorem S_impl_CombineHashes_ok : FnOK Try.prog 234 S_impl_CombineHashes := by
  refine at_enter 30 (fun x => ⟨[(0, aF (.int 3) x.1), (1, aF (.int 3) x.2.1)], []⟩) Try.func234 rfl (by kernel_rfl) (fun x => rfl) ?_
  rintro w0 Z0 ⟨x0, x1, u⟩ a w
  revert x0 x1
  intro (x0 : (List Int)) (x1 : (List Int)) hpre hlens h
  replace h : At w0 Z0 [] 30 ⟨[(0, aF (.int 3) x0), (1, aF (.int 3) x1)], []⟩ a w := h
  replace hpre : (fun (x0 : (List Int)) (x1 : (List Int)) => Sh.fit s22 x0 ∧ Sh.fit s22 x1) x0 x1 := hpre
  have hl1 : List.length x0 ≤ 9223372036854775807 := hlens.1.1
  have hl2 : List.length x1 ≤ 9223372036854775807 := hlens.2.1.1
  have hT : TabOK Try.prog S_impl_CombineHashes_tab := (.cons S_impl_IsValidVector_ok (.cons S_impl_IsGroupElement_ok (.cons S_impl_powers_ok .nil)))
  obtain ⟨hf0, hf1⟩ := hpre
  have hn0_1 : List.length x0 ≤ 1073741824 := hf0.1
  have hn1_2 : List.length x1 ≤ 1073741824 := hf1.1
  refine wp_seq ?_
  refine at_regq (T := S_impl_CombineHashes_tab) [] { ts := [0, 1, 4], os := [] } [] gamOK hT h (by kernel_rfl) trivial ?_
  intro a w h
  refine then_normal ?_
  refine wp_seq ?_
  refine wp_seq ?_
  rcases Bool.eq_false_or_eq_true (!(validV x1)) with h1 | h1
  · skip
    have hzh1 : (validV x1) = false := notT h1
    refine at_regq (T := S_impl_CombineHashes_tab) [{}, {}, { hint := some (aB true) }] { ts := [0, 1, 4, 16], os := [] } [(fun (x0 : (List Int)) => Sh.fit s22 x0) x1, (AV.p (.c (.v (.bool (!(validV x1))))) = AV.p (.c (.v (.bool true))))] gamOK hT h (by kernel_rfl) ⟨(by exact hf1), hint_bool (h1), trivial⟩ ?_
    intro a w h
    refine then_normal ?_
    refine at_test true h (by kernel_rfl) (fun hh => ?_) (fun hh => nomatch hh)
    refine wp_seq ?_
    refine at_regq (T := S_impl_CombineHashes_tab) [] { ts := [0, 1, 4], os := [] } [] gamOK hT h (by kernel_rfl) trivial ?_
    intro a w h
    refine then_normal ?_
    refine wp_ret ?_
    refine then_ret ?_
    exact at_return (S := S_impl_CombineHashes) (x := (x0, x1, ())) (0, ()) [] h (by kernel_rfl) trivial (congrArg (fun z => (z, ())) (show (0) = combH x0 x1 from by (unfold combH; first | (rw [if_pos ⟨by assumption, by omega, by assumption⟩]; done) | (rw [if_neg (fun e => by have e1 := e.1; have e2 := e.2.1; have e3 := e.2.2; first | omega | (simp_all; done))]; done))))
  · skip
    have hzh1 : (validV x1) = true := notF h1
    have hvh1 := validV_t (notF h1)
    refine at_regq (T := S_impl_CombineHashes_tab) [{}, {}, { hint := some (aB false) }] { ts := [0, 1, 4, 16], os := [] } [(fun (x0 : (List Int)) => Sh.fit s22 x0) x1, (AV.p (.c (.v (.bool (!(validV x1))))) = AV.p (.c (.v (.bool false))))] gamOK hT h (by kernel_rfl) ⟨(by exact hf1), hint_bool (h1), trivial⟩ ?_
    intro a w h
    refine then_normal ?_
    refine at_test (!decide (((List.length x0 : Nat) : Int) = ((List.length x1 : Nat) : Int))) h (by kernel_rfl) (fun h2 => ?_) (fun h2 => ?_)
    · replace h2 : ¬ (((List.length x0 : Nat) : Int) = ((List.length x1 : Nat) : Int)) := of_decide_eq_false (notT h2)
      refine wp_seq ?_
      refine at_regq (T := S_impl_CombineHashes_tab) [] { ts := [0, 1, 4], os := [] } [] gamOK hT h (by kernel_rfl) trivial ?_
      intro a w h
      refine then_normal ?_
      refine wp_ret ?_
      refine then_ret ?_
      exact at_return (S := S_impl_CombineHashes) (x := (x0, x1, ())) (0, ()) [] h (by kernel_rfl) trivial (congrArg (fun z => (z, ())) (show (0) = combH x0 x1 from by (unfold combH; first | (rw [if_pos ⟨by assumption, by omega, by assumption⟩]; done) | (rw [if_neg (fun e => by have e1 := e.1; have e2 := e.2.1; have e3 := e.2.2; first | omega | (simp_all; done))]; done))))
    · replace h2 : ((List.length x0 : Nat) : Int) = ((List.length x1 : Nat) : Int) := of_decide_eq_true (notF h2)
      refine wp_skip ?_
      refine then_normal ?_
      refine wp_seq ?_
      refine wp_seq ?_
      refine at_regq (T := S_impl_CombineHashes_tab) [] { ts := [0, 1, 4, 17, 18, 19], os := [] } [] gamOK hT h (by kernel_rfl) trivial ?_
      intro a w h
      refine then_normal ?_
      refine wp_block ?_
      replace h := at_out (σ' := ⟨[(0, aF (.int 3) x0), (1, aF (.int 3) x1), (4, aI 0), (17, aF (.int 3) x0), (18, aI ((List.length x0 : Nat) : Int)), (19, aI 0)], []⟩) { ts := [0, 1, 4, 17, 18, 19], os := [] } h (by kernel_rfl)
      refine at_loop (fun i : Nat => (⟨[(0, aF (.int 3) x0), (1, aF (.int 3) x1), (4, aI 0), (17, aF (.int 3) x0), (18, aI ((List.length x0 : Nat) : Int)), (19, aI ((i : Nat) : Int))], []⟩ : St)) (fun i => (i ≤ List.length x0 ∧ allTo1 isGrp x0 0 i)) (fun i => List.length x0 - i) (0) h (st_congr1 (fun (d0 : Int) => (⟨[(0, aF (.int 3) x0), (1, aF (.int 3) x1), (4, aI 0), (17, aF (.int 3) x0), (18, aI ((List.length x0 : Nat) : Int)), (19, aI d0)], []⟩ : St)) (show (0 : Int) = (((0) : Nat) : Int) from by first | with_reducible rfl | (rfl) | rfl)) (by exact ⟨Nat.zero_le _, allTo1_zero⟩) ?_
      intro i a w hok0 h
      refine wp_seq ?_
      refine at_reg (T := S_impl_CombineHashes_tab) [] { ts := [0, 1, 4, 17, 18, 19, 20], os := [] } ⟨[(0, aF (.int 3) x0), (1, aF (.int 3) x1), (4, aI 0), (17, aF (.int 3) x0), (18, aI ((List.length x0 : Nat) : Int)), (19, aI ((i : Nat) : Int)), (20, aB (decide (((i : Nat) : Int) < ((List.length x0 : Nat) : Int))))], []⟩ [] gamOK hT h (by kernel_rfl) trivial ?_
      intro a w h
      refine then_normal ?_
      refine wp_seq ?_
      refine at_test (decide (((i : Nat) : Int) < ((List.length x0 : Nat) : Int))) h (by kernel_rfl) (fun h3 => ?_) (fun h3 => ?_)
      · replace h3 : ((i : Nat) : Int) < ((List.length x0 : Nat) : Int) := of_decide_eq_true h3
        refine wp_skip ?_
        refine then_normal ?_
        refine wp_seq ?_
        refine wp_block ?_
        refine wp_seq ?_
        refine at_regq (T := S_impl_CombineHashes_tab) [] { ts := [0, 1, 4, 6, 17, 18, 19], os := [] } [(0 : Int) ≤ ((i : Nat) : Int) ∧ ((i : Nat) : Int) < ((List.length x0 : Nat) : Int)] gamOK hT h (by kernel_rfl) ⟨(by refine ⟨?_, ?_⟩ <;> (first | omega | (simp only [List.length_append, List.length_cons, List.length_nil, List.length_set, List.length_take, List.length_drop, List.length_replicate, List.length_map, Nat.min_def]; omega) | (simp; done) | (simp; omega) | done)), trivial⟩ ?_
        intro a w h
        refine then_normal ?_
        refine wp_seq ?_
        refine at_regq (T := S_impl_CombineHashes_tab) [] { ts := [0, 1, 4, 17, 18, 19, 25], os := [] } [True] gamOK hT h (by kernel_rfl) ⟨trivial, trivial⟩ ?_
        intro a w h
        refine then_normal ?_
        refine at_test (!(isGrp (x0.getD i 0))) h (by kernel_rfl) (fun h4 => ?_) (fun h4 => ?_)
        · replace h4 : (isGrp (x0.getD i 0)) = false := notT h4
          refine wp_seq ?_
          refine at_regq (T := S_impl_CombineHashes_tab) [] { ts := [0, 1, 4, 17, 18, 19], os := [] } [] gamOK hT h (by kernel_rfl) trivial ?_
          intro a w h
          refine then_normal ?_
          refine wp_ret ?_
          refine in_ret ?_
          refine then_ret ?_
          have hs5 : (List.all x0 isGrp) = false := by exact all_at (z := 0) (i := i) (by omega) (by first | assumption | (simp_all; done))
          refine then_ret ?_
          refine in_ret ?_
          refine then_ret ?_
          exact at_return (S := S_impl_CombineHashes) (x := (x0, x1, ())) (0, ()) [] h (by kernel_rfl) trivial (congrArg (fun z => (z, ())) (show (0) = combH x0 x1 from by (unfold combH; first | (rw [if_pos ⟨by assumption, by omega, by assumption⟩]; done) | (rw [if_neg (fun e => by have e1 := e.1; have e2 := e.2.1; have e3 := e.2.2; first | omega | (simp_all; done))]; done))))
        · replace h4 : (isGrp (x0.getD i 0)) = true := notF h4
          have hvh4 := isGrp_t h4
          refine wp_skip ?_
          refine in_normal ?_
          refine then_normal ?_
          refine at_regq (T := S_impl_CombineHashes_tab) [{ nw := true }] { ts := [0, 1, 4, 17, 18, 19], os := [] } [I64 (((i : Nat) : Int) + 1)] gamOK hT h (by kernel_rfl) ⟨⟨by first | omega | (simp only [List.length_append, List.length_cons, List.length_nil, List.length_set, List.length_take, List.length_drop, List.length_replicate, List.length_map, Nat.min_def]; omega) | (simp; done) | (simp; omega) | done, by first | omega | (simp only [List.length_append, List.length_cons, List.length_nil, List.length_set, List.length_take, List.length_drop, List.length_replicate, List.length_map, Nat.min_def]; omega) | (simp; done) | (simp; omega) | done⟩, trivial⟩ ?_
          intro a w h
          replace h := at_out (σ' := ⟨[(0, aF (.int 3) x0), (1, aF (.int 3) x1), (4, aI 0), (17, aF (.int 3) x0), (18, aI ((List.length x0 : Nat) : Int)), (19, aI (((i : Nat) : Int) + 1))], []⟩) { ts := [0, 1, 4, 17, 18, 19], os := [] } h (by kernel_rfl)
          exact ⟨i + 1, at_eq h (st_congr1 (fun (d0 : Int) => (⟨[(0, aF (.int 3) x0), (1, aF (.int 3) x1), (4, aI 0), (17, aF (.int 3) x0), (18, aI ((List.length x0 : Nat) : Int)), (19, aI d0)], []⟩ : St)) (show (((i : Nat) : Int) + 1 : Int) = (((i + 1) : Nat) : Int) from by first | with_reducible rfl | (omega) | rfl)), (by exact ⟨by omega, allTo1_succ hok0.2 (by first | assumption | (simp_all; done))⟩), (by omega)⟩
      · replace h3 : ¬ (((i : Nat) : Int) < ((List.length x0 : Nat) : Int)) := of_decide_eq_false h3
        refine wp_exit ?_
        refine then_exit ?_
        have hs6 : (List.all x0 isGrp) = true := by exact all_of (z := 0) (i := i) (by omega) hok0.2
        refine then_exit ?_
        refine in_hit ?_
        refine then_normal ?_
        refine wp_seq ?_
        refine at_regq (T := S_impl_CombineHashes_tab) [] { ts := [4], os := [] } [(fun (x0 : (List Int)) (x1 : (List Int)) => Sh.fit s22 x0 ∧ Sh.fit s22 x1 ∧ powsP x0 x1) x0 x1] gamOK hT h (by kernel_rfl) ⟨(by exact ⟨hf0, hf1, by omega, grp_at (List.all_eq_true.1 (by assumption)), (validV_t (by assumption)).2.2⟩), trivial⟩ ?_
        intro a w h
        refine then_normal ?_
        refine wp_ret ?_
        exact at_return (S := S_impl_CombineHashes) (x := (x0, x1, ())) ((powsL x0 x1), ()) [] h (by kernel_rfl) trivial (congrArg (fun z => (z, ())) (show ((powsL x0 x1)) = combH x0 x1 from by (unfold combH; first | (rw [if_pos ⟨by assumption, by omega, by assumption⟩]; done) | (rw [if_neg (fun e => by have e1 := e.1; have e2 := e.2.1; have e3 := e.2.2; first | omega | (simp_all; done))]; done))))

def S_spec_CombineHashes : Sum := { fid := 232, dom := [s22, s22], cod := [(.int 3)], dp := true, fz := false, pre := fun x => (fun (x0 : (List Int)) (x1 : (List Int)) => Sh.fit s22 x0 ∧ Sh.fit s22 x1) x.1 x.2.1, g := fun x => ((combH x.1 x.2.1), ()) }
def S_spec_CombineHashes_tab : List (Nat × Sum) := [(208, S_spec_IsValidVector), (187, S_spec_IsGroupElement), (240, S_spec_PowGroup), (239, S_spec_MulGroup)]
theorem S_spec_CombineHashes_ok : FnOK Try.prog 232 S_spec_CombineHashes := by
  refine at_enter 41 (fun x => ⟨[(0, aF (.int 3) x.1), (1, aF (.int 3) x.2.1)], []⟩) Try.func232 rfl (by kernel_rfl) (fun x => rfl) ?_
  rintro w0 Z0 ⟨x0, x1, u⟩ a w
  revert x0 x1
  intro (x0 : (List Int)) (x1 : (List Int)) hpre hlens h
  replace h : At w0 Z0 [] 41 ⟨[(0, aF (.int 3) x0), (1, aF (.int 3) x1)], []⟩ a w := h
  replace hpre : (fun (x0 : (List Int)) (x1 : (List Int)) => Sh.fit s22 x0 ∧ Sh.fit s22 x1) x0 x1 := hpre
  have hl1 : List.length x0 ≤ 9223372036854775807 := hlens.1.1
  have hl2 : List.length x1 ≤ 9223372036854775807 := hlens.2.1.1
  have hT : TabOK Try.prog S_spec_CombineHashes_tab := (.cons S_spec_IsValidVector_ok (.cons S_spec_IsGroupElement_ok (.cons S_spec_PowGroup_ok (.cons S_spec_MulGroup_ok .nil))))
  obtain ⟨hf0, hf1⟩ := hpre
  have hn0_1 : List.length x0 ≤ 1073741824 := hf0.1
  have hn1_2 : List.length x1 ≤ 1073741824 := hf1.1
  refine wp_seq ?_
  refine at_regq (T := S_spec_CombineHashes_tab) [] { ts := [0, 1, 4], os := [] } [] gamOK hT h (by kernel_rfl) trivial ?_
  intro a w h
  refine then_normal ?_
  refine wp_seq ?_
  refine wp_seq ?_
  rcases Bool.eq_false_or_eq_true (!(validV x1)) with h1 | h1
  · skip
    have hzh1 : (validV x1) = false := notT h1
    refine at_regq (T := S_spec_CombineHashes_tab) [{}, {}, { hint := some (aB true) }] { ts := [0, 1, 4, 16], os := [] } [(fun (x0 : (List Int)) => Sh.fit s22 x0) x1, (AV.p (.c (.v (.bool (!(validV x1))))) = AV.p (.c (.v (.bool true))))] gamOK hT h (by kernel_rfl) ⟨(by exact hf1), hint_bool (h1), trivial⟩ ?_
    intro a w h
    refine then_normal ?_
    refine at_test true h (by kernel_rfl) (fun hh => ?_) (fun hh => nomatch hh)
    refine wp_seq ?_
    refine at_regq (T := S_spec_CombineHashes_tab) [] { ts := [0, 1, 4], os := [] } [] gamOK hT h (by kernel_rfl) trivial ?_
    intro a w h
    refine then_normal ?_
    refine wp_ret ?_
    refine then_ret ?_
    exact at_return (S := S_spec_CombineHashes) (x := (x0, x1, ())) (0, ()) [] h (by kernel_rfl) trivial (congrArg (fun z => (z, ())) (show (0) = combH x0 x1 from by (unfold combH; first | (rw [if_pos ⟨by assumption, by omega, all_of (z := 0) (i := i) (by omega) hok0.2⟩, show powsL x0 x1 = hpw x0 x1 (List.length x0) from rfl, show List.length x0 = i by omega]; done) | (rw [if_neg (fun e => by have e1 := e.1; have e2 := e.2.1; have e3 := e.2.2; first | omega | (simp_all; done) | (rw [all_at (z := 0) (i := i) (by omega) (by first | assumption | (simp_all; done))] at e3; cases e3))]; done))))
  · skip
    have hzh1 : (validV x1) = true := notF h1
    have hvh1 := validV_t (notF h1)
    refine at_regq (T := S_spec_CombineHashes_tab) [{}, {}, { hint := some (aB false) }] { ts := [0, 1, 4, 16], os := [] } [(fun (x0 : (List Int)) => Sh.fit s22 x0) x1, (AV.p (.c (.v (.bool (!(validV x1))))) = AV.p (.c (.v (.bool false))))] gamOK hT h (by kernel_rfl) ⟨(by exact hf1), hint_bool (h1), trivial⟩ ?_
    intro a w h
    refine then_normal ?_
    refine at_test (!decide (((List.length x0 : Nat) : Int) = ((List.length x1 : Nat) : Int))) h (by kernel_rfl) (fun h2 => ?_) (fun h2 => ?_)
    · replace h2 : ¬ (((List.length x0 : Nat) : Int) = ((List.length x1 : Nat) : Int)) := of_decide_eq_false (notT h2)
      refine wp_seq ?_
      refine at_regq (T := S_spec_CombineHashes_tab) [] { ts := [0, 1, 4], os := [] } [] gamOK hT h (by kernel_rfl) trivial ?_
      intro a w h
      refine then_normal ?_
      refine wp_ret ?_
      refine then_ret ?_
      exact at_return (S := S_spec_CombineHashes) (x := (x0, x1, ())) (0, ()) [] h (by kernel_rfl) trivial (congrArg (fun z => (z, ())) (show (0) = combH x0 x1 from by (unfold combH; first | (rw [if_pos ⟨by assumption, by omega, all_of (z := 0) (i := i) (by omega) hok0.2⟩, show powsL x0 x1 = hpw x0 x1 (List.length x0) from rfl, show List.length x0 = i by omega]; done) | (rw [if_neg (fun e => by have e1 := e.1; have e2 := e.2.1; have e3 := e.2.2; first | omega | (simp_all; done) | (rw [all_at (z := 0) (i := i) (by omega) (by first | assumption | (simp_all; done))] at e3; cases e3))]; done))))
    · replace h2 : ((List.length x0 : Nat) : Int) = ((List.length x1 : Nat) : Int) := of_decide_eq_true (notF h2)
      refine wp_skip ?_
      refine then_normal ?_
      refine wp_seq ?_
      refine at_regq (T := S_spec_CombineHashes_tab) [] { ts := [0, 1, 4, 5], os := [] } [] gamOK hT h (by kernel_rfl) trivial ?_
      intro a w h
      refine then_normal ?_
      refine wp_seq ?_
      refine wp_seq ?_
      refine at_reg (T := S_spec_CombineHashes_tab) [] { ts := [0, 1, 4, 5, 6], os := [] } ⟨[(0, aF (.int 3) x0), (1, aF (.int 3) x1), (4, aI 0), (5, aI 1), (6, aI 0)], []⟩ [] gamOK hT h (by kernel_rfl) trivial ?_
      intro a w h
      refine then_normal ?_
      refine wp_block ?_
      replace h := at_out (σ' := ⟨[(0, aF (.int 3) x0), (1, aF (.int 3) x1), (4, aI 0), (5, aI 1), (6, aI 0)], []⟩) { ts := [0, 1, 4, 5, 6], os := [] } h (by kernel_rfl)
      refine at_loop (fun i : Nat => (⟨[(0, aF (.int 3) x0), (1, aF (.int 3) x1), (4, aI 0), (5, aI (hpw x0 x1 i)), (6, aI ((i : Nat) : Int))], []⟩ : St)) (fun i => (i ≤ List.length x0 ∧ allTo1 isGrp x0 0 i)) (fun i => List.length x0 - i) (0) h (st_congr2 (fun (d0 : Int) (d1 : Int) => (⟨[(0, aF (.int 3) x0), (1, aF (.int 3) x1), (4, aI 0), (5, aI d0), (6, aI d1)], []⟩ : St)) (show (1 : Int) = (hpw x0 x1 (0)) from by first | with_reducible rfl | (rfl) | rfl) (show (0 : Int) = (((0) : Nat) : Int) from by first | with_reducible rfl | (rfl) | rfl)) (by exact ⟨Nat.zero_le _, allTo1_zero⟩) ?_
      intro i a w hok0 h
      refine wp_seq ?_
      refine wp_seq ?_
      refine at_regq (T := S_spec_CombineHashes_tab) [] { ts := [0, 1, 4, 5, 6, 20], os := [] } [] gamOK hT h (by kernel_rfl) trivial ?_
      intro a w h
      refine then_normal ?_
      refine at_test (decide (((i : Nat) : Int) < ((List.length x0 : Nat) : Int))) h (by kernel_rfl) (fun h3 => ?_) (fun h3 => ?_)
      · replace h3 : ((i : Nat) : Int) < ((List.length x0 : Nat) : Int) := of_decide_eq_true h3
        have hvr := (validV_t (v := x1) (by assumption)).2.2
        refine wp_skip ?_
        refine then_normal ?_
        refine wp_seq ?_
        refine wp_block ?_
        refine wp_seq ?_
        refine wp_seq ?_
        refine at_regq (T := S_spec_CombineHashes_tab) [] { ts := [0, 1, 4, 5, 6, 28], os := [] } [(0 : Int) ≤ ((i : Nat) : Int) ∧ ((i : Nat) : Int) < ((List.length x0 : Nat) : Int), True] gamOK hT h (by kernel_rfl) ⟨(by refine ⟨?_, ?_⟩ <;> (first | omega | (simp only [List.length_append, List.length_cons, List.length_nil, List.length_set, List.length_take, List.length_drop, List.length_replicate, List.length_map, Nat.min_def]; omega) | (simp; done) | (simp; omega) | done)), trivial, trivial⟩ ?_
        intro a w h
        refine then_normal ?_
        refine at_test (!(isGrp (x0.getD i 0))) h (by kernel_rfl) (fun h4 => ?_) (fun h4 => ?_)
        · replace h4 : (isGrp (x0.getD i 0)) = false := notT h4
          refine wp_seq ?_
          refine at_regq (T := S_spec_CombineHashes_tab) [] { ts := [0, 1, 4, 5, 6], os := [] } [] gamOK hT h (by kernel_rfl) trivial ?_
          intro a w h
          refine then_normal ?_
          refine wp_ret ?_
          refine then_ret ?_
          refine in_ret ?_
          refine then_ret ?_
          refine then_ret ?_
          refine in_ret ?_
          refine then_ret ?_
          exact at_return (S := S_spec_CombineHashes) (x := (x0, x1, ())) (0, ()) [] h (by kernel_rfl) trivial (congrArg (fun z => (z, ())) (show (0) = combH x0 x1 from by (unfold combH; first | (rw [if_pos ⟨by assumption, by omega, all_of (z := 0) (i := i) (by omega) hok0.2⟩, show powsL x0 x1 = hpw x0 x1 (List.length x0) from rfl, show List.length x0 = i by omega]; done) | (rw [if_neg (fun e => by have e1 := e.1; have e2 := e.2.1; have e3 := e.2.2; first | omega | (simp_all; done) | (rw [all_at (z := 0) (i := i) (by omega) (by first | assumption | (simp_all; done))] at e3; cases e3))]; done))))
        · replace h4 : (isGrp (x0.getD i 0)) = true := notF h4
          have hvh4 := isGrp_t h4
          refine wp_skip ?_
          refine then_normal ?_
          refine at_anyq (T := S_spec_CombineHashes_tab) [{}, {}, {}, {}, {}, {}, {}, {}, {}, {}, {}, {}] { ts := [0, 1, 4, 5, 6], os := [] } [(0 : Int) ≤ ((i : Nat) : Int) ∧ ((i : Nat) : Int) < ((List.length x0 : Nat) : Int), (0 : Int) ≤ ((i : Nat) : Int) ∧ ((i : Nat) : Int) < ((List.length x1 : Nat) : Int), True, True] gamOK hT mixed h (by kernel_rfl) ⟨(by refine ⟨?_, ?_⟩ <;> (first | omega | (simp only [List.length_append, List.length_cons, List.length_nil, List.length_set, List.length_take, List.length_drop, List.length_replicate, List.length_map, Nat.min_def]; omega) | (simp; done) | (simp; omega) | done)), (by refine ⟨?_, ?_⟩ <;> (first | omega | (simp only [List.length_append, List.length_cons, List.length_nil, List.length_set, List.length_take, List.length_drop, List.length_replicate, List.length_map, Nat.min_def]; omega) | (simp; done) | (simp; omega) | done)), trivial, trivial, trivial⟩ ?_
          intro a w h
          refine in_normal ?_
          refine then_normal ?_
          refine at_reg (T := S_spec_CombineHashes_tab) [{}, { nw := true }] { ts := [0, 1, 4, 5, 6], os := [] } ⟨[(0, aF (.int 3) x0), (1, aF (.int 3) x1), (4, aI 0), (5, aI (mulG (hpw x0 x1 i) (powG (x0.getD i 0) (x1.getD i 0)))), (6, aI (((i : Nat) : Int) + 1))], []⟩ [I64 (((i : Nat) : Int) + 1)] gamOK hT h (by kernel_rfl) ⟨⟨by first | omega | (simp only [List.length_append, List.length_cons, List.length_nil, List.length_set, List.length_take, List.length_drop, List.length_replicate, List.length_map, Nat.min_def]; omega) | (simp; done) | (simp; omega) | done, by first | omega | (simp only [List.length_append, List.length_cons, List.length_nil, List.length_set, List.length_take, List.length_drop, List.length_replicate, List.length_map, Nat.min_def]; omega) | (simp; done) | (simp; omega) | done⟩, trivial⟩ ?_
          intro a w h
          replace h := at_out (σ' := ⟨[(0, aF (.int 3) x0), (1, aF (.int 3) x1), (4, aI 0), (5, aI (mulG (hpw x0 x1 i) (powG (x0.getD i 0) (x1.getD i 0)))), (6, aI (((i : Nat) : Int) + 1))], []⟩) { ts := [0, 1, 4, 5, 6], os := [] } h (by kernel_rfl)
          exact ⟨i + 1, at_eq h (st_congr2 (fun (d0 : Int) (d1 : Int) => (⟨[(0, aF (.int 3) x0), (1, aF (.int 3) x1), (4, aI 0), (5, aI d0), (6, aI d1)], []⟩ : St)) (show ((mulG (hpw x0 x1 i) (powG (x0.getD i 0) (x1.getD i 0))) : Int) = (hpw x0 x1 (i + 1)) from by first | with_reducible rfl | (exact hpw_step (hpw_grpTo hok0.2 hvr (by omega)) (by first | assumption | (simp_all; done)) (hvr i)) | rfl) (show (((i : Nat) : Int) + 1 : Int) = (((i + 1) : Nat) : Int) from by first | with_reducible rfl | (omega) | rfl)), (by exact ⟨by omega, allTo1_succ hok0.2 (by first | assumption | (simp_all; done))⟩), (by omega)⟩
      · replace h3 : ¬ (((i : Nat) : Int) < ((List.length x0 : Nat) : Int)) := of_decide_eq_false h3
        refine wp_exit ?_
        refine then_exit ?_
        refine then_exit ?_
        refine in_hit ?_
        refine then_normal ?_
        refine wp_seq ?_
        refine at_regq (T := S_spec_CombineHashes_tab) [] { ts := [4], os := [] } [] gamOK hT h (by kernel_rfl) trivial ?_
        intro a w h
        refine then_normal ?_
        refine wp_ret ?_
        exact at_return (S := S_spec_CombineHashes) (x := (x0, x1, ())) ((hpw x0 x1 i), ()) [] h (by kernel_rfl) trivial (congrArg (fun z => (z, ())) (show ((hpw x0 x1 i)) = combH x0 x1 from by (unfold combH; first | (rw [if_pos ⟨by assumption, by omega, all_of (z := 0) (i := i) (by omega) hok0.2⟩, show powsL x0 x1 = hpw x0 x1 (List.length x0) from rfl, show List.length x0 = i by omega]; done) | (rw [if_neg (fun e => by have e1 := e.1; have e2 := e.2.1; have e3 := e.2.2; first | omega | (simp_all; done) | (rw [all_at (z := 0) (i := i) (by omega) (by first | assumption | (simp_all; done))] at e3; cases e3))]; done))))

def verH (x0 : (List Int)) (x1 : (List Int)) (x2 : T126) : Bool := (if (hashV x0 x2.2.2) = 0 then false else decide ((hashV x0 x2.2.2) = (combH x1 x2.2.1)))
def S_impl_VerifyHash : Sum := { fid := 180, dom := [s45, s22, s126], cod := [(.bool 4)], dp := true, fz := false, pre := fun x => (fun (x0 : (List Int)) (x1 : (List Int)) (x2 : T126) => Sh.fit s45 x0 ∧ Sh.fit s22 x1 ∧ Sh.fit s126 x2) x.1 x.2.1 x.2.2.1, g := fun x => ((verH x.1 x.2.1 x.2.2.1), ()) }
def S_impl_VerifyHash_tab : List (Nat × Sum) := [(233, S_impl_HashVector), (234, S_impl_CombineHashes)]
theorem S_impl_VerifyHash_ok : FnOK Try.prog 180 S_impl_VerifyHash := by
  refine at_enter 22 (fun x => ⟨[(0, aG [.ro (.int 3) x.1]), (1, aF (.int 3) x.2.1), (2, aG [cI x.2.2.1.1, .ro (.int 3) x.2.2.1.2.1, .ro (.int 3) x.2.2.1.2.2])], []⟩) Try.func180 rfl (by kernel_rfl) (fun x => rfl) ?_
  rintro w0 Z0 ⟨x0, x1, x2, u⟩ a w
  revert x0 x1 x2
  intro (x0 : (List Int)) (x1 : (List Int)) (x2 : T126) hpre hlens h
  replace h : At w0 Z0 [] 22 ⟨[(0, aG [.ro (.int 3) x0]), (1, aF (.int 3) x1), (2, aG [cI x2.1, .ro (.int 3) x2.2.1, .ro (.int 3) x2.2.2])], []⟩ a w := h
  replace hpre : (fun (x0 : (List Int)) (x1 : (List Int)) (x2 : T126) => Sh.fit s45 x0 ∧ Sh.fit s22 x1 ∧ Sh.fit s126 x2) x0 x1 x2 := hpre
  have hl1 : List.length x0 ≤ 9223372036854775807 := hlens.1.1
  have hl2 : List.length x1 ≤ 9223372036854775807 := hlens.2.1.1
  have hl3 : List.length x2.2.1 ≤ 9223372036854775807 := hlens.2.2.1.2.1.1
  have hl4 : List.length x2.2.2 ≤ 9223372036854775807 := hlens.2.2.1.2.2.1
  have hT : TabOK Try.prog S_impl_VerifyHash_tab := (.cons S_impl_HashVector_ok (.cons S_impl_CombineHashes_ok .nil))
  obtain ⟨hf0, hf1, hf2⟩ := hpre
  have hn0_1 : List.length x0 ≤ 1073741824 := hf0.1
  have hn1_2 : List.length x1 ≤ 1073741824 := hf1.1
  have hn2_3 : List.length x2.2.1 ≤ 1073741824 := hf2.2.1.1
  have hn2_4 : List.length x2.2.2 ≤ 1073741824 := hf2.2.2.1
  refine wp_seq ?_
  refine at_regq (T := S_impl_VerifyHash_tab) [{ ids := [1] }, { ids := [2] }] { ts := [1, 3, 5, 6], os := [1, 2] } [] gamOK hT h (by kernel_rfl) trivial ?_
  intro a w h
  refine then_normal ?_
  refine wp_seq ?_
  refine at_regq (T := S_impl_VerifyHash_tab) [] { ts := [1, 5, 6, 7], os := [2] } [(fun (x0 : (List Int)) (x1 : (List Int)) => Sh.fit s45 x0 ∧ Sh.fit s22 x1) x0 x2.2.2] gamOK hT h (by kernel_rfl) ⟨(by exact ⟨hf0, hf2.2.2⟩), trivial⟩ ?_
  intro a w h
  refine then_normal ?_
  refine wp_seq ?_
  by_cases h1 : (hashV x0 x2.2.2) = 0
  · skip
    refine at_regq (T := S_impl_VerifyHash_tab) [{}, { hint := some (aB false) }] { ts := [6], os := [] } [(AV.p (.c (.v (.bool (!decide ((hashV x0 x2.2.2) = 0))))) = AV.p (.c (.v (.bool false))))] gamOK hT h (by kernel_rfl) ⟨hint_bool (ndT h1), trivial⟩ ?_
    intro a w h
    refine then_normal ?_
    refine wp_ret ?_
    exact at_return (S := S_impl_VerifyHash) (x := (x0, x1, x2, ())) (false, ()) [] h (by kernel_rfl) trivial (congrArg (fun z => (z, ())) (show (false) = verH x0 x1 x2 from by first | rfl | (unfold verH; rw [if_pos h1])))
  · skip
    refine at_regq (T := S_impl_VerifyHash_tab) [{}, { hint := some (aB true) }] { ts := [6], os := [] } [(AV.p (.c (.v (.bool (!decide ((hashV x0 x2.2.2) = 0))))) = AV.p (.c (.v (.bool true)))), (fun (x0 : (List Int)) (x1 : (List Int)) => Sh.fit s22 x0 ∧ Sh.fit s22 x1) x1 x2.2.1] gamOK hT h (by kernel_rfl) ⟨hint_bool (ndF h1), (by exact ⟨hf1, hf2.2.1⟩), trivial⟩ ?_
    intro a w h
    refine then_normal ?_
    refine wp_ret ?_
    exact at_return (S := S_impl_VerifyHash) (x := (x0, x1, x2, ())) (decide ((hashV x0 x2.2.2) = (combH x1 x2.2.1)), ()) [] h (by kernel_rfl) trivial (congrArg (fun z => (z, ())) (show (decide ((hashV x0 x2.2.2) = (combH x1 x2.2.1))) = verH x0 x1 x2 from by first | rfl | (unfold verH; rw [if_neg h1])))

def S_spec_VerifyHash : Sum := { fid := 177, dom := [s45, s22, s126], cod := [(.bool 4)], dp := true, fz := false, pre := fun x => (fun (x0 : (List Int)) (x1 : (List Int)) (x2 : T126) => Sh.fit s45 x0 ∧ Sh.fit s22 x1 ∧ Sh.fit s126 x2) x.1 x.2.1 x.2.2.1, g := fun x => ((verH x.1 x.2.1 x.2.2.1), ()) }
def S_spec_VerifyHash_tab : List (Nat × Sum) := [(190, S_spec_HashVector), (232, S_spec_CombineHashes)]
theorem S_spec_VerifyHash_ok : FnOK Try.prog 177 S_spec_VerifyHash := by
  refine at_enter 22 (fun x => ⟨[(0, aG [.ro (.int 3) x.1]), (1, aF (.int 3) x.2.1), (2, aG [cI x.2.2.1.1, .ro (.int 3) x.2.2.1.2.1, .ro (.int 3) x.2.2.1.2.2])], []⟩) Try.func177 rfl (by kernel_rfl) (fun x => rfl) ?_
  rintro w0 Z0 ⟨x0, x1, x2, u⟩ a w
  revert x0 x1 x2
  intro (x0 : (List Int)) (x1 : (List Int)) (x2 : T126) hpre hlens h
  replace h : At w0 Z0 [] 22 ⟨[(0, aG [.ro (.int 3) x0]), (1, aF (.int 3) x1), (2, aG [cI x2.1, .ro (.int 3) x2.2.1, .ro (.int 3) x2.2.2])], []⟩ a w := h
  replace hpre : (fun (x0 : (List Int)) (x1 : (List Int)) (x2 : T126) => Sh.fit s45 x0 ∧ Sh.fit s22 x1 ∧ Sh.fit s126 x2) x0 x1 x2 := hpre
  have hl1 : List.length x0 ≤ 9223372036854775807 := hlens.1.1
  have hl2 : List.length x1 ≤ 9223372036854775807 := hlens.2.1.1
  have hl3 : List.length x2.2.1 ≤ 9223372036854775807 := hlens.2.2.1.2.1.1
  have hl4 : List.length x2.2.2 ≤ 9223372036854775807 := hlens.2.2.1.2.2.1
  have hT : TabOK Try.prog S_spec_VerifyHash_tab := (.cons S_spec_HashVector_ok (.cons S_spec_CombineHashes_ok .nil))
  obtain ⟨hf0, hf1, hf2⟩ := hpre
  have hn0_1 : List.length x0 ≤ 1073741824 := hf0.1
  have hn1_2 : List.length x1 ≤ 1073741824 := hf1.1
  have hn2_3 : List.length x2.2.1 ≤ 1073741824 := hf2.2.1.1
  have hn2_4 : List.length x2.2.2 ≤ 1073741824 := hf2.2.2.1
  refine wp_seq ?_
  refine at_regq (T := S_spec_VerifyHash_tab) [{ ids := [1] }, { ids := [2] }] { ts := [1, 3, 5, 6], os := [1, 2] } [] gamOK hT h (by kernel_rfl) trivial ?_
  intro a w h
  refine then_normal ?_
  refine wp_seq ?_
  refine at_regq (T := S_spec_VerifyHash_tab) [] { ts := [1, 5, 6, 7], os := [2] } [(fun (x0 : (List Int)) (x1 : (List Int)) => Sh.fit s45 x0 ∧ Sh.fit s22 x1) x0 x2.2.2] gamOK hT h (by kernel_rfl) ⟨(by exact ⟨hf0, hf2.2.2⟩), trivial⟩ ?_
  intro a w h
  refine then_normal ?_
  refine wp_seq ?_
  by_cases h1 : (hashV x0 x2.2.2) = 0
  · skip
    refine at_regq (T := S_spec_VerifyHash_tab) [{}, { hint := some (aB false) }] { ts := [6], os := [] } [(AV.p (.c (.v (.bool (!decide ((hashV x0 x2.2.2) = 0))))) = AV.p (.c (.v (.bool false))))] gamOK hT h (by kernel_rfl) ⟨hint_bool (ndT h1), trivial⟩ ?_
    intro a w h
    refine then_normal ?_
    refine wp_ret ?_
    exact at_return (S := S_spec_VerifyHash) (x := (x0, x1, x2, ())) (false, ()) [] h (by kernel_rfl) trivial (congrArg (fun z => (z, ())) (show (false) = verH x0 x1 x2 from by first | rfl | (unfold verH; rw [if_pos h1]; done) | (unfold verH; simp_all)))
  · skip
    refine at_regq (T := S_spec_VerifyHash_tab) [{}, { hint := some (aB true) }] { ts := [6], os := [] } [(AV.p (.c (.v (.bool (!decide ((hashV x0 x2.2.2) = 0))))) = AV.p (.c (.v (.bool true)))), (fun (x0 : (List Int)) (x1 : (List Int)) => Sh.fit s22 x0 ∧ Sh.fit s22 x1) x1 x2.2.1] gamOK hT h (by kernel_rfl) ⟨hint_bool (ndF h1), (by exact ⟨hf1, hf2.2.1⟩), trivial⟩ ?_
    intro a w h
    refine then_normal ?_
    refine wp_ret ?_
    exact at_return (S := S_spec_VerifyHash) (x := (x0, x1, x2, ())) (decide ((hashV x0 x2.2.2) = (combH x1 x2.2.1)), ()) [] h (by kernel_rfl) trivial (congrArg (fun z => (z, ())) (show (decide ((hashV x0 x2.2.2) = (combH x1 x2.2.1))) = verH x0 x1 x2 from by first | rfl | (unfold verH; rw [if_neg h1]; done) | (unfold verH; simp_all)))

def isFmt (x0 : Int) (x1 : Int) (x2 : Int) : Bool := (if (inR x0 0 1000000000000) = true then (if (inR x1 1 8) = true then (inR x2 1 16) else false) else false)
def S_impl_isFormat : Sum := { fid := 196, dom := [(.int 3), (.int 3), (.int 3)], cod := [(.bool 4)], dp := true, fz := false, pre := fun x => True, g := fun x => ((isFmt x.1 x.2.1 x.2.2.1), ()) }
def S_impl_isFormat_tab : List (Nat × Sum) := [(140, S_impl_InRange)]
theorem S_impl_isFormat_ok : FnOK Try.prog 196 S_impl_isFormat := by
  refine at_enter 17 (fun x => ⟨[(0, aI x.1), (1, aI x.2.1), (2, aI x.2.2.1)], []⟩) Try.func196 rfl (by kernel_rfl) (fun x => rfl) ?_
  rintro w0 Z0 ⟨x0, x1, x2, u⟩ a w
  revert x0 x1 x2
  intro (x0 : Int) (x1 : Int) (x2 : Int) hpre hlens h
  replace h : At w0 Z0 [] 17 ⟨[(0, aI x0), (1, aI x1), (2, aI x2)], []⟩ a w := h
  have hT : TabOK Try.prog S_impl_isFormat_tab := (.cons S_impl_InRange_ok .nil)
  refine wp_seq ?_
  refine at_regq (T := S_impl_isFormat_tab) [] { ts := [0, 1, 2, 6], os := [] } [] gamOK hT h (by kernel_rfl) trivial ?_
  intro a w h
  refine then_normal ?_
  refine wp_seq ?_
  rcases Bool.eq_false_or_eq_true ((inR x0 0 1000000000000)) with h1 | h1
  · skip
    have hvh1 := inR_t h1
    rcases Bool.eq_false_or_eq_true ((inR x1 1 8)) with h2 | h2
    · skip
      have hvh2 := inR_t h2
      refine at_regq (T := S_impl_isFormat_tab) [{}, { hint := some (aB true) }, {}, {}, { hint := some (aB true) }] { ts := [6], os := [] } [True, (AV.p (.c (.v (.bool ((inR x0 0 1000000000000))))) = AV.p (.c (.v (.bool true)))), True, (AV.p (.c (.v (.bool ((inR x1 1 8))))) = AV.p (.c (.v (.bool true)))), True] gamOK hT h (by kernel_rfl) ⟨trivial, hint_bool (h1), trivial, hint_bool (h2), trivial, trivial⟩ ?_
      intro a w h
      refine then_normal ?_
      refine wp_ret ?_
      exact at_return (S := S_impl_isFormat) (x := (x0, x1, x2, ())) ((inR x2 1 16), ()) [] h (by kernel_rfl) trivial (congrArg (fun z => (z, ())) (show ((inR x2 1 16)) = isFmt x0 x1 x2 from by first | rfl | (unfold isFmt; rw [if_pos h1, if_pos h2])))
    · skip
      have hvh2 := inR_f h2
      refine at_regq (T := S_impl_isFormat_tab) [{}, { hint := some (aB true) }, {}, {}, { hint := some (aB false) }] { ts := [6], os := [] } [True, (AV.p (.c (.v (.bool ((inR x0 0 1000000000000))))) = AV.p (.c (.v (.bool true)))), True, (AV.p (.c (.v (.bool ((inR x1 1 8))))) = AV.p (.c (.v (.bool false))))] gamOK hT h (by kernel_rfl) ⟨trivial, hint_bool (h1), trivial, hint_bool (h2), trivial⟩ ?_
      intro a w h
      refine then_normal ?_
      refine wp_ret ?_
      exact at_return (S := S_impl_isFormat) (x := (x0, x1, x2, ())) (false, ()) [] h (by kernel_rfl) trivial (congrArg (fun z => (z, ())) (show (false) = isFmt x0 x1 x2 from by first | rfl | (unfold isFmt; rw [if_pos h1, if_neg (neT h2)])))
  · skip
    have hvh1 := inR_f h1
    refine at_regq (T := S_impl_isFormat_tab) [{}, { hint := some (aB false) }] { ts := [6], os := [] } [True, (AV.p (.c (.v (.bool ((inR x0 0 1000000000000))))) = AV.p (.c (.v (.bool false))))] gamOK hT h (by kernel_rfl) ⟨trivial, hint_bool (h1), trivial⟩ ?_
    intro a w h
    refine then_normal ?_
    refine wp_ret ?_
    exact at_return (S := S_impl_isFormat) (x := (x0, x1, x2, ())) (false, ()) [] h (by kernel_rfl) trivial (congrArg (fun z => (z, ())) (show (false) = isFmt x0 x1 x2 from by first | rfl | (unfold isFmt; rw [if_neg (neT h1)])))
theorem isFmt_t {g s w : Int} (h : isFmt g s w = true) : (0 ≤ g ∧ g ≤ 1000000000000) ∧ (1 ≤ s ∧ s ≤ 8) ∧ (1 ≤ w ∧ w ≤ 16) := by
  unfold isFmt at h
  split at h
  · split at h
    · exact ⟨inR_t (by assumption), inR_t (by assumption), inR_t h⟩
    · cases h
  · cases h

def S_spec_l14Range : Sum := { fid := 191, dom := [(.int 3), (.int 3), (.int 3)], cod := [(.bool 4)], dp := true, fz := false, pre := fun x => True, g := fun x => ((isFmt x.1 x.2.1 x.2.2.1), ()) }
def S_spec_l14Range_tab : List (Nat × Sum) := [(138, S_spec_l1In)]
theorem S_spec_l14Range_ok : FnOK Try.prog 191 S_spec_l14Range := by
  refine at_enter 17 (fun x => ⟨[(0, aI x.1), (1, aI x.2.1), (2, aI x.2.2.1)], []⟩) Try.func191 rfl (by kernel_rfl) (fun x => rfl) ?_
  rintro w0 Z0 ⟨x0, x1, x2, u⟩ a w
  revert x0 x1 x2
  intro (x0 : Int) (x1 : Int) (x2 : Int) hpre hlens h
  replace h : At w0 Z0 [] 17 ⟨[(0, aI x0), (1, aI x1), (2, aI x2)], []⟩ a w := h
  have hT : TabOK Try.prog S_spec_l14Range_tab := (.cons S_spec_l1In_ok .nil)
  refine wp_seq ?_
  refine at_regq (T := S_spec_l14Range_tab) [] { ts := [0, 1, 2, 6], os := [] } [] gamOK hT h (by kernel_rfl) trivial ?_
  intro a w h
  refine then_normal ?_
  refine wp_seq ?_
  rcases Bool.eq_false_or_eq_true ((inR x0 0 1000000000000)) with h1 | h1
  · skip
    have hvh1 := inR_t h1
    rcases Bool.eq_false_or_eq_true ((inR x1 1 8)) with h2 | h2
    · skip
      have hvh2 := inR_t h2
      refine at_regq (T := S_spec_l14Range_tab) [{}, { hint := some (aB true) }, {}, {}, { hint := some (aB true) }] { ts := [6], os := [] } [True, (AV.p (.c (.v (.bool ((inR x0 0 1000000000000))))) = AV.p (.c (.v (.bool true)))), True, (AV.p (.c (.v (.bool ((inR x1 1 8))))) = AV.p (.c (.v (.bool true)))), True] gamOK hT h (by kernel_rfl) ⟨trivial, hint_bool (h1), trivial, hint_bool (h2), trivial, trivial⟩ ?_
      intro a w h
      refine then_normal ?_
      refine wp_ret ?_
      exact at_return (S := S_spec_l14Range) (x := (x0, x1, x2, ())) ((inR x2 1 16), ()) [] h (by kernel_rfl) trivial (congrArg (fun z => (z, ())) (show ((inR x2 1 16)) = isFmt x0 x1 x2 from by first | rfl | (unfold isFmt; rw [if_pos h1, if_pos h2]; done) | (unfold isFmt; simp_all)))
    · skip
      have hvh2 := inR_f h2
      refine at_regq (T := S_spec_l14Range_tab) [{}, { hint := some (aB true) }, {}, {}, { hint := some (aB false) }] { ts := [6], os := [] } [True, (AV.p (.c (.v (.bool ((inR x0 0 1000000000000))))) = AV.p (.c (.v (.bool true)))), True, (AV.p (.c (.v (.bool ((inR x1 1 8))))) = AV.p (.c (.v (.bool false))))] gamOK hT h (by kernel_rfl) ⟨trivial, hint_bool (h1), trivial, hint_bool (h2), trivial⟩ ?_
      intro a w h
      refine then_normal ?_
      refine wp_ret ?_
      exact at_return (S := S_spec_l14Range) (x := (x0, x1, x2, ())) (false, ()) [] h (by kernel_rfl) trivial (congrArg (fun z => (z, ())) (show (false) = isFmt x0 x1 x2 from by first | rfl | (unfold isFmt; rw [if_pos h1, if_neg (neT h2)]; done) | (unfold isFmt; simp_all)))
  · skip
    have hvh1 := inR_f h1
    refine at_regq (T := S_spec_l14Range_tab) [{}, { hint := some (aB false) }] { ts := [6], os := [] } [True, (AV.p (.c (.v (.bool ((inR x0 0 1000000000000))))) = AV.p (.c (.v (.bool false))))] gamOK hT h (by kernel_rfl) ⟨trivial, hint_bool (h1), trivial⟩ ?_
    intro a w h
    refine then_normal ?_
    refine wp_ret ?_
    exact at_return (S := S_spec_l14Range) (x := (x0, x1, x2, ())) (false, ()) [] h (by kernel_rfl) trivial (congrArg (fun z => (z, ())) (show (false) = isFmt x0 x1 x2 from by first | rfl | (unfold isFmt; rw [if_neg (neT h1)]; done) | (unfold isFmt; simp_all)))

def validP (x0 : T126) (x1 : Int) (x2 : Int) : Bool := (if (isFmt x0.1 x1 x2) = true then (if ((List.length x0.2.1 : Nat) : Int) = x1 then (if ((List.length x0.2.2 : Nat) : Int) = x2 then (if (validV x0.2.1) = true then (validV x0.2.2) else false) else false) else false) else false)
def S_impl_IsValidPacket : Sum := { fid := 179, dom := [s126, (.int 3), (.int 3)], cod := [(.bool 4)], dp := true, fz := false, pre := fun x => (fun (x0 : T126) (x1 : Int) (x2 : Int) => Sh.fit s126 x0) x.1 x.2.1 x.2.2.1, g := fun x => ((validP x.1 x.2.1 x.2.2.1), ()) }
def S_impl_IsValidPacket_tab : List (Nat × Sum) := [(196, S_impl_isFormat), (215, S_impl_IsValidVector)]
theorem S_impl_IsValidPacket_ok : FnOK Try.prog 179 S_impl_IsValidPacket := by
  refine at_enter 36 (fun x => ⟨[(0, aG [cI x.1.1, .ro (.int 3) x.1.2.1, .ro (.int 3) x.1.2.2]), (1, aI x.2.1), (2, aI x.2.2.1)], []⟩) Try.func179 rfl (by kernel_rfl) (fun x => rfl) ?_
  rintro w0 Z0 ⟨x0, x1, x2, u⟩ a w
  revert x0 x1 x2
  intro (x0 : T126) (x1 : Int) (x2 : Int) hpre hlens h
  replace h : At w0 Z0 [] 36 ⟨[(0, aG [cI x0.1, .ro (.int 3) x0.2.1, .ro (.int 3) x0.2.2]), (1, aI x1), (2, aI x2)], []⟩ a w := h
  replace hpre : (fun (x0 : T126) (x1 : Int) (x2 : Int) => Sh.fit s126 x0) x0 x1 x2 := hpre
  have hl1 : List.length x0.2.1 ≤ 9223372036854775807 := hlens.1.2.1.1
  have hl2 : List.length x0.2.2 ≤ 9223372036854775807 := hlens.1.2.2.1
  have hT : TabOK Try.prog S_impl_IsValidPacket_tab := (.cons S_impl_isFormat_ok (.cons S_impl_IsValidVector_ok .nil))
  have hf0 : Sh.fit s126 x0 := hpre
  have hn0_1 : List.length x0.2.1 ≤ 1073741824 := hf0.2.1.1
  have hn0_2 : List.length x0.2.2 ≤ 1073741824 := hf0.2.2.1
  refine wp_seq ?_
  refine at_regq (T := S_impl_IsValidPacket_tab) [{ ids := [1] }] { ts := [1, 2, 3, 6], os := [1] } [] gamOK hT h (by kernel_rfl) trivial ?_
  intro a w h
  refine then_normal ?_
  refine wp_seq ?_
  rcases Bool.eq_false_or_eq_true ((isFmt x0.1 x1 x2)) with h1 | h1
  · skip
    have hvh1 := isFmt_t h1
    by_cases h2 : ((List.length x0.2.1 : Nat) : Int) = x1
    · skip
      by_cases h3 : ((List.length x0.2.2 : Nat) : Int) = x2
      · skip
        rcases Bool.eq_false_or_eq_true ((validV x0.2.1)) with h4 | h4
        · skip
          have hvh4 := validV_t h4
          refine at_regq (T := S_impl_IsValidPacket_tab) [{}, {}, {}, {}, { hint := some (aB true) }, {}, {}, {}, {}, {}, { hint := some (aB true) }, {}, {}, {}, {}, {}, {}, { hint := some (aB true) }, {}, {}, {}, {}, { hint := some (aB true) }] { ts := [6], os := [] } [True, (AV.p (.c (.v (.bool ((isFmt x0.1 x1 x2))))) = AV.p (.c (.v (.bool true)))), (AV.p (.c (.v (.bool (decide (((List.length x0.2.1 : Nat) : Int) = x1))))) = AV.p (.c (.v (.bool true)))), (AV.p (.c (.v (.bool (decide (((List.length x0.2.2 : Nat) : Int) = x2))))) = AV.p (.c (.v (.bool true)))), (fun (x0 : (List Int)) => Sh.fit s22 x0) x0.2.1, (AV.p (.c (.v (.bool ((validV x0.2.1))))) = AV.p (.c (.v (.bool true)))), (fun (x0 : (List Int)) => Sh.fit s22 x0) x0.2.2] gamOK hT h (by kernel_rfl) ⟨trivial, hint_bool (h1), hint_bool (decide_eq_true h2), hint_bool (decide_eq_true h3), (by exact hf0.2.1), hint_bool (h4), (by exact hf0.2.2), trivial⟩ ?_
          intro a w h
          refine then_normal ?_
          refine wp_ret ?_
          exact at_return (S := S_impl_IsValidPacket) (x := (x0, x1, x2, ())) ((validV x0.2.2), ()) [] h (by kernel_rfl) trivial (congrArg (fun z => (z, ())) (show ((validV x0.2.2)) = validP x0 x1 x2 from by first | rfl | (unfold validP; rw [if_pos h1, if_pos h2, if_pos h3, if_pos h4])))
        · skip
          refine at_regq (T := S_impl_IsValidPacket_tab) [{}, {}, {}, {}, { hint := some (aB true) }, {}, {}, {}, {}, {}, { hint := some (aB true) }, {}, {}, {}, {}, {}, {}, { hint := some (aB true) }, {}, {}, {}, {}, { hint := some (aB false) }] { ts := [6], os := [] } [True, (AV.p (.c (.v (.bool ((isFmt x0.1 x1 x2))))) = AV.p (.c (.v (.bool true)))), (AV.p (.c (.v (.bool (decide (((List.length x0.2.1 : Nat) : Int) = x1))))) = AV.p (.c (.v (.bool true)))), (AV.p (.c (.v (.bool (decide (((List.length x0.2.2 : Nat) : Int) = x2))))) = AV.p (.c (.v (.bool true)))), (fun (x0 : (List Int)) => Sh.fit s22 x0) x0.2.1, (AV.p (.c (.v (.bool ((validV x0.2.1))))) = AV.p (.c (.v (.bool false))))] gamOK hT h (by kernel_rfl) ⟨trivial, hint_bool (h1), hint_bool (decide_eq_true h2), hint_bool (decide_eq_true h3), (by exact hf0.2.1), hint_bool (h4), trivial⟩ ?_
          intro a w h
          refine then_normal ?_
          refine wp_ret ?_
          exact at_return (S := S_impl_IsValidPacket) (x := (x0, x1, x2, ())) (false, ()) [] h (by kernel_rfl) trivial (congrArg (fun z => (z, ())) (show (false) = validP x0 x1 x2 from by first | rfl | (unfold validP; rw [if_pos h1, if_pos h2, if_pos h3, if_neg (neT h4)])))
      · skip
        refine at_regq (T := S_impl_IsValidPacket_tab) [{}, {}, {}, {}, { hint := some (aB true) }, {}, {}, {}, {}, {}, { hint := some (aB true) }, {}, {}, {}, {}, {}, {}, { hint := some (aB false) }] { ts := [6], os := [] } [True, (AV.p (.c (.v (.bool ((isFmt x0.1 x1 x2))))) = AV.p (.c (.v (.bool true)))), (AV.p (.c (.v (.bool (decide (((List.length x0.2.1 : Nat) : Int) = x1))))) = AV.p (.c (.v (.bool true)))), (AV.p (.c (.v (.bool (decide (((List.length x0.2.2 : Nat) : Int) = x2))))) = AV.p (.c (.v (.bool false))))] gamOK hT h (by kernel_rfl) ⟨trivial, hint_bool (h1), hint_bool (decide_eq_true h2), hint_bool (decide_eq_false h3), trivial⟩ ?_
        intro a w h
        refine then_normal ?_
        refine wp_ret ?_
        exact at_return (S := S_impl_IsValidPacket) (x := (x0, x1, x2, ())) (false, ()) [] h (by kernel_rfl) trivial (congrArg (fun z => (z, ())) (show (false) = validP x0 x1 x2 from by first | rfl | (unfold validP; rw [if_pos h1, if_pos h2, if_neg h3])))
    · skip
      refine at_regq (T := S_impl_IsValidPacket_tab) [{}, {}, {}, {}, { hint := some (aB true) }, {}, {}, {}, {}, {}, { hint := some (aB false) }] { ts := [6], os := [] } [True, (AV.p (.c (.v (.bool ((isFmt x0.1 x1 x2))))) = AV.p (.c (.v (.bool true)))), (AV.p (.c (.v (.bool (decide (((List.length x0.2.1 : Nat) : Int) = x1))))) = AV.p (.c (.v (.bool false))))] gamOK hT h (by kernel_rfl) ⟨trivial, hint_bool (h1), hint_bool (decide_eq_false h2), trivial⟩ ?_
      intro a w h
      refine then_normal ?_
      refine wp_ret ?_
      exact at_return (S := S_impl_IsValidPacket) (x := (x0, x1, x2, ())) (false, ()) [] h (by kernel_rfl) trivial (congrArg (fun z => (z, ())) (show (false) = validP x0 x1 x2 from by first | rfl | (unfold validP; rw [if_pos h1, if_neg h2])))
  · skip
    refine at_regq (T := S_impl_IsValidPacket_tab) [{}, {}, {}, {}, { hint := some (aB false) }] { ts := [6], os := [] } [True, (AV.p (.c (.v (.bool ((isFmt x0.1 x1 x2))))) = AV.p (.c (.v (.bool false))))] gamOK hT h (by kernel_rfl) ⟨trivial, hint_bool (h1), trivial⟩ ?_
    intro a w h
    refine then_normal ?_
    refine wp_ret ?_
    exact at_return (S := S_impl_IsValidPacket) (x := (x0, x1, x2, ())) (false, ()) [] h (by kernel_rfl) trivial (congrArg (fun z => (z, ())) (show (false) = validP x0 x1 x2 from by first | rfl | (unfold validP; rw [if_neg (neT h1)])))
theorem validP_t {p : T126} {s w : Int} (h : validP p s w = true) : isFmt p.1 s w = true ∧ ((List.length p.2.1 : Nat) : Int) = s ∧ ((List.length p.2.2 : Nat) : Int) = w ∧ validV p.2.1 = true ∧ validV p.2.2 = true := by
  unfold validP at h
  split at h
  · split at h
    · split at h
      · split at h
        · exact ⟨by assumption, by assumption, by assumption, by assumption, h⟩
        · cases h
      · cases h
    · cases h
  · cases h
theorem validP_n {p : T126} {s w : Int} (h : validP p s w = true) : ((0 ≤ p.1 ∧ p.1 ≤ 1000000000000) ∧ (1 ≤ s ∧ s ≤ 8) ∧ (1 ≤ w ∧ w ≤ 16)) ∧ ((List.length p.2.1 : Nat) : Int) = s ∧ ((List.length p.2.2 : Nat) : Int) = w := ⟨isFmt_t (validP_t h).1, (validP_t h).2.1, (validP_t h).2.2.1⟩
theorem validP_of {p : T126} {s w : Int} (h : isFmt p.1 s w = true ∧ ((List.length p.2.1 : Nat) : Int) = s ∧ ((List.length p.2.2 : Nat) : Int) = w ∧ validV p.2.1 = true ∧ validV p.2.2 = true) : validP p s w = true := by
  unfold validP; rw [if_pos h.1, if_pos h.2.1, if_pos h.2.2.1, if_pos h.2.2.2.1]; exact h.2.2.2.2

def S_spec_IsValidPacket : Sum := { fid := 176, dom := [s126, (.int 3), (.int 3)], cod := [(.bool 4)], dp := true, fz := false, pre := fun x => (fun (x0 : T126) (x1 : Int) (x2 : Int) => Sh.fit s126 x0) x.1 x.2.1 x.2.2.1, g := fun x => ((validP x.1 x.2.1 x.2.2.1), ()) }
def S_spec_IsValidPacket_tab : List (Nat × Sum) := [(138, S_spec_l1In), (208, S_spec_IsValidVector)]
theorem S_spec_IsValidPacket_ok : FnOK Try.prog 176 S_spec_IsValidPacket := by
  refine at_enter 42 (fun x => ⟨[(0, aG [cI x.1.1, .ro (.int 3) x.1.2.1, .ro (.int 3) x.1.2.2]), (1, aI x.2.1), (2, aI x.2.2.1)], []⟩) Try.func176 rfl (by kernel_rfl) (fun x => rfl) ?_
  rintro w0 Z0 ⟨x0, x1, x2, u⟩ a w
  revert x0 x1 x2
  intro (x0 : T126) (x1 : Int) (x2 : Int) hpre hlens h
  replace h : At w0 Z0 [] 42 ⟨[(0, aG [cI x0.1, .ro (.int 3) x0.2.1, .ro (.int 3) x0.2.2]), (1, aI x1), (2, aI x2)], []⟩ a w := h
  replace hpre : (fun (x0 : T126) (x1 : Int) (x2 : Int) => Sh.fit s126 x0) x0 x1 x2 := hpre
  have hl1 : List.length x0.2.1 ≤ 9223372036854775807 := hlens.1.2.1.1
  have hl2 : List.length x0.2.2 ≤ 9223372036854775807 := hlens.1.2.2.1
  have hT : TabOK Try.prog S_spec_IsValidPacket_tab := (.cons S_spec_l1In_ok (.cons S_spec_IsValidVector_ok .nil))
  have hf0 : Sh.fit s126 x0 := hpre
  have hn0_1 : List.length x0.2.1 ≤ 1073741824 := hf0.2.1.1
  have hn0_2 : List.length x0.2.2 ≤ 1073741824 := hf0.2.2.1
  refine wp_seq ?_
  refine at_regq (T := S_spec_IsValidPacket_tab) [{ ids := [1] }] { ts := [1, 2, 3, 6], os := [1] } [] gamOK hT h (by kernel_rfl) trivial ?_
  intro a w h
  refine then_normal ?_
  refine wp_seq ?_
  rcases Bool.eq_false_or_eq_true ((inR x0.1 0 1000000000000)) with h1 | h1
  · skip
    have hvh1 := inR_t h1
    rcases Bool.eq_false_or_eq_true ((inR x1 1 8)) with h2 | h2
    · skip
      have hvh2 := inR_t h2
      rcases Bool.eq_false_or_eq_true ((inR x2 1 16)) with h3 | h3
      · skip
        have hvh3 := inR_t h3
        by_cases h4 : ((List.length x0.2.1 : Nat) : Int) = x1
        · skip
          by_cases h5 : ((List.length x0.2.2 : Nat) : Int) = x2
          · skip
            rcases Bool.eq_false_or_eq_true ((validV x0.2.1)) with h6 | h6
            · skip
              have hvh6 := validV_t h6
              refine at_regq (T := S_spec_IsValidPacket_tab) [{}, {}, { hint := some (aB true) }, {}, {}, { hint := some (aB true) }, {}, {}, {}, { hint := some (aB true) }, {}, {}, {}, {}, {}, {}, { hint := some (aB true) }, {}, {}, {}, {}, {}, {}, { hint := some (aB true) }, {}, {}, {}, {}, { hint := some (aB true) }] { ts := [6], os := [] } [True, (AV.p (.c (.v (.bool ((inR x0.1 0 1000000000000))))) = AV.p (.c (.v (.bool true)))), True, (AV.p (.c (.v (.bool ((inR x1 1 8))))) = AV.p (.c (.v (.bool true)))), True, (AV.p (.c (.v (.bool ((inR x2 1 16))))) = AV.p (.c (.v (.bool true)))), (AV.p (.c (.v (.bool (decide (((List.length x0.2.1 : Nat) : Int) = x1))))) = AV.p (.c (.v (.bool true)))), (AV.p (.c (.v (.bool (decide (((List.length x0.2.2 : Nat) : Int) = x2))))) = AV.p (.c (.v (.bool true)))), (fun (x0 : (List Int)) => Sh.fit s22 x0) x0.2.1, (AV.p (.c (.v (.bool ((validV x0.2.1))))) = AV.p (.c (.v (.bool true)))), (fun (x0 : (List Int)) => Sh.fit s22 x0) x0.2.2] gamOK hT h (by kernel_rfl) ⟨trivial, hint_bool (h1), trivial, hint_bool (h2), trivial, hint_bool (h3), hint_bool (decide_eq_true h4), hint_bool (decide_eq_true h5), (by exact hf0.2.1), hint_bool (h6), (by exact hf0.2.2), trivial⟩ ?_
              intro a w h
              refine then_normal ?_
              refine wp_ret ?_
              exact at_return (S := S_spec_IsValidPacket) (x := (x0, x1, x2, ())) ((validV x0.2.2), ()) [] h (by kernel_rfl) trivial (congrArg (fun z => (z, ())) (show ((validV x0.2.2)) = validP x0 x1 x2 from by first | rfl | (unfold validP; rw [if_pos h1, if_pos h2, if_pos h3, if_pos h4, if_pos h5, if_pos h6]; done) | (unfold validP; simp_all [isFmt])))
            · skip
              refine at_regq (T := S_spec_IsValidPacket_tab) [{}, {}, { hint := some (aB true) }, {}, {}, { hint := some (aB true) }, {}, {}, {}, { hint := some (aB true) }, {}, {}, {}, {}, {}, {}, { hint := some (aB true) }, {}, {}, {}, {}, {}, {}, { hint := some (aB true) }, {}, {}, {}, {}, { hint := some (aB false) }] { ts := [6], os := [] } [True, (AV.p (.c (.v (.bool ((inR x0.1 0 1000000000000))))) = AV.p (.c (.v (.bool true)))), True, (AV.p (.c (.v (.bool ((inR x1 1 8))))) = AV.p (.c (.v (.bool true)))), True, (AV.p (.c (.v (.bool ((inR x2 1 16))))) = AV.p (.c (.v (.bool true)))), (AV.p (.c (.v (.bool (decide (((List.length x0.2.1 : Nat) : Int) = x1))))) = AV.p (.c (.v (.bool true)))), (AV.p (.c (.v (.bool (decide (((List.length x0.2.2 : Nat) : Int) = x2))))) = AV.p (.c (.v (.bool true)))), (fun (x0 : (List Int)) => Sh.fit s22 x0) x0.2.1, (AV.p (.c (.v (.bool ((validV x0.2.1))))) = AV.p (.c (.v (.bool false))))] gamOK hT h (by kernel_rfl) ⟨trivial, hint_bool (h1), trivial, hint_bool (h2), trivial, hint_bool (h3), hint_bool (decide_eq_true h4), hint_bool (decide_eq_true h5), (by exact hf0.2.1), hint_bool (h6), trivial⟩ ?_
              intro a w h
              refine then_normal ?_
              refine wp_ret ?_
              exact at_return (S := S_spec_IsValidPacket) (x := (x0, x1, x2, ())) (false, ()) [] h (by kernel_rfl) trivial (congrArg (fun z => (z, ())) (show (false) = validP x0 x1 x2 from by first | rfl | (unfold validP; rw [if_pos h1, if_pos h2, if_pos h3, if_pos h4, if_pos h5, if_neg (neT h6)]; done) | (unfold validP; simp_all [isFmt])))
          · skip
            refine at_regq (T := S_spec_IsValidPacket_tab) [{}, {}, { hint := some (aB true) }, {}, {}, { hint := some (aB true) }, {}, {}, {}, { hint := some (aB true) }, {}, {}, {}, {}, {}, {}, { hint := some (aB true) }, {}, {}, {}, {}, {}, {}, { hint := some (aB false) }] { ts := [6], os := [] } [True, (AV.p (.c (.v (.bool ((inR x0.1 0 1000000000000))))) = AV.p (.c (.v (.bool true)))), True, (AV.p (.c (.v (.bool ((inR x1 1 8))))) = AV.p (.c (.v (.bool true)))), True, (AV.p (.c (.v (.bool ((inR x2 1 16))))) = AV.p (.c (.v (.bool true)))), (AV.p (.c (.v (.bool (decide (((List.length x0.2.1 : Nat) : Int) = x1))))) = AV.p (.c (.v (.bool true)))), (AV.p (.c (.v (.bool (decide (((List.length x0.2.2 : Nat) : Int) = x2))))) = AV.p (.c (.v (.bool false))))] gamOK hT h (by kernel_rfl) ⟨trivial, hint_bool (h1), trivial, hint_bool (h2), trivial, hint_bool (h3), hint_bool (decide_eq_true h4), hint_bool (decide_eq_false h5), trivial⟩ ?_
            intro a w h
            refine then_normal ?_
            refine wp_ret ?_
            exact at_return (S := S_spec_IsValidPacket) (x := (x0, x1, x2, ())) (false, ()) [] h (by kernel_rfl) trivial (congrArg (fun z => (z, ())) (show (false) = validP x0 x1 x2 from by first | rfl | (unfold validP; rw [if_pos h1, if_pos h2, if_pos h3, if_pos h4, if_neg h5]; done) | (unfold validP; simp_all [isFmt])))
        · skip
          refine at_regq (T := S_spec_IsValidPacket_tab) [{}, {}, { hint := some (aB true) }, {}, {}, { hint := some (aB true) }, {}, {}, {}, { hint := some (aB true) }, {}, {}, {}, {}, {}, {}, { hint := some (aB false) }] { ts := [6], os := [] } [True, (AV.p (.c (.v (.bool ((inR x0.1 0 1000000000000))))) = AV.p (.c (.v (.bool true)))), True, (AV.p (.c (.v (.bool ((inR x1 1 8))))) = AV.p (.c (.v (.bool true)))), True, (AV.p (.c (.v (.bool ((inR x2 1 16))))) = AV.p (.c (.v (.bool true)))), (AV.p (.c (.v (.bool (decide (((List.length x0.2.1 : Nat) : Int) = x1))))) = AV.p (.c (.v (.bool false))))] gamOK hT h (by kernel_rfl) ⟨trivial, hint_bool (h1), trivial, hint_bool (h2), trivial, hint_bool (h3), hint_bool (decide_eq_false h4), trivial⟩ ?_
          intro a w h
          refine then_normal ?_
          refine wp_ret ?_
          exact at_return (S := S_spec_IsValidPacket) (x := (x0, x1, x2, ())) (false, ()) [] h (by kernel_rfl) trivial (congrArg (fun z => (z, ())) (show (false) = validP x0 x1 x2 from by first | rfl | (unfold validP; rw [if_pos h1, if_pos h2, if_pos h3, if_neg h4]; done) | (unfold validP; simp_all [isFmt])))
      · skip
        have hvh3 := inR_f h3
        refine at_regq (T := S_spec_IsValidPacket_tab) [{}, {}, { hint := some (aB true) }, {}, {}, { hint := some (aB true) }, {}, {}, {}, { hint := some (aB false) }] { ts := [6], os := [] } [True, (AV.p (.c (.v (.bool ((inR x0.1 0 1000000000000))))) = AV.p (.c (.v (.bool true)))), True, (AV.p (.c (.v (.bool ((inR x1 1 8))))) = AV.p (.c (.v (.bool true)))), True, (AV.p (.c (.v (.bool ((inR x2 1 16))))) = AV.p (.c (.v (.bool false))))] gamOK hT h (by kernel_rfl) ⟨trivial, hint_bool (h1), trivial, hint_bool (h2), trivial, hint_bool (h3), trivial⟩ ?_
        intro a w h
        refine then_normal ?_
        refine wp_ret ?_
        exact at_return (S := S_spec_IsValidPacket) (x := (x0, x1, x2, ())) (false, ()) [] h (by kernel_rfl) trivial (congrArg (fun z => (z, ())) (show (false) = validP x0 x1 x2 from by first | rfl | (unfold validP; rw [if_pos h1, if_pos h2, if_neg (neT h3)]; done) | (unfold validP; simp_all [isFmt])))
    · skip
      have hvh2 := inR_f h2
      refine at_regq (T := S_spec_IsValidPacket_tab) [{}, {}, { hint := some (aB true) }, {}, {}, { hint := some (aB false) }] { ts := [6], os := [] } [True, (AV.p (.c (.v (.bool ((inR x0.1 0 1000000000000))))) = AV.p (.c (.v (.bool true)))), True, (AV.p (.c (.v (.bool ((inR x1 1 8))))) = AV.p (.c (.v (.bool false))))] gamOK hT h (by kernel_rfl) ⟨trivial, hint_bool (h1), trivial, hint_bool (h2), trivial⟩ ?_
      intro a w h
      refine then_normal ?_
      refine wp_ret ?_
      exact at_return (S := S_spec_IsValidPacket) (x := (x0, x1, x2, ())) (false, ()) [] h (by kernel_rfl) trivial (congrArg (fun z => (z, ())) (show (false) = validP x0 x1 x2 from by first | rfl | (unfold validP; rw [if_pos h1, if_neg (neT h2)]; done) | (unfold validP; simp_all [isFmt])))
  · skip
    have hvh1 := inR_f h1
    refine at_regq (T := S_spec_IsValidPacket_tab) [{}, {}, { hint := some (aB false) }] { ts := [6], os := [] } [True, (AV.p (.c (.v (.bool ((inR x0.1 0 1000000000000))))) = AV.p (.c (.v (.bool false))))] gamOK hT h (by kernel_rfl) ⟨trivial, hint_bool (h1), trivial⟩ ?_
    intro a w h
    refine then_normal ?_
    refine wp_ret ?_
    exact at_return (S := S_spec_IsValidPacket) (x := (x0, x1, x2, ())) (false, ()) [] h (by kernel_rfl) trivial (congrArg (fun z => (z, ())) (show (false) = validP x0 x1 x2 from by first | rfl | (unfold validP; rw [if_neg (neT h1)]; done) | (unfold validP; simp_all [isFmt])))

def D_impl_IsValidManifest_1 := (fun e => !isGrp e)
def S_impl_IsValidManifest_1 : Sum := { fid := 198, dom := [(.int 3)], cod := [(.bool 4)], dp := true, fz := false, pre := fun x => True, g := fun x => ((D_impl_IsValidManifest_1 x.1), ()) }
def S_impl_IsValidManifest_1_tab : List (Nat × Sum) := [(199, S_impl_IsGroupElement)]
theorem S_impl_IsValidManifest_1_ok : FnOK Try.prog 198 S_impl_IsValidManifest_1 := by
  refine at_enter 6 (fun x => ⟨[(0, aI x.1)], []⟩) Try.func198 rfl (by kernel_rfl) (fun x => rfl) ?_
  rintro w0 Z0 ⟨x0, u⟩ a w
  revert x0
  intro (x0 : Int) hpre hlens h
  replace h : At w0 Z0 [] 6 ⟨[(0, aI x0)], []⟩ a w := h
  have hT : TabOK Try.prog S_impl_IsValidManifest_1_tab := (.cons S_impl_IsGroupElement_ok .nil)
  refine wp_seq ?_
  refine at_regq (T := S_impl_IsValidManifest_1_tab) [] { ts := [0, 2], os := [] } [] gamOK hT h (by kernel_rfl) trivial ?_
  intro a w h
  refine then_normal ?_
  refine wp_seq ?_
  refine at_regq (T := S_impl_IsValidManifest_1_tab) [] { ts := [2], os := [] } [True] gamOK hT h (by kernel_rfl) ⟨trivial, trivial⟩ ?_
  intro a w h
  refine then_normal ?_
  refine wp_ret ?_
  exact at_return (S := S_impl_IsValidManifest_1) (x := (x0, ())) (!(isGrp x0), ()) [] h (by kernel_rfl) trivial (congrArg (fun z => (z, ())) (show (!(isGrp x0)) = D_impl_IsValidManifest_1 x0 from by unfold D_impl_IsValidManifest_1; rfl))

def D_slices_IndexFunc_S_int_int__IsValidManifest_1 := (fun (xs : List Int) (cap : Unit) => idxF (fun e => !isGrp e) xs)
def S_slices_IndexFunc_S_int_int__IsValidManifest_1 : Sum := { fid := 244, dom := [s22, (.fn0 198)], cod := [(.int 3)], dp := true, fz := false, pre := fun x => True, g := fun x => ((D_slices_IndexFunc_S_int_int__IsValidManifest_1 x.1 x.2.1), ()) }
def S_slices_IndexFunc_S_int_int__IsValidManifest_1_tab : List (Nat × Sum) := [(198, S_impl_IsValidManifest_1)]
theorem S_slices_IndexFunc_S_int_int__IsValidManifest_1_ok : FnOK Try.prog 244 S_slices_IndexFunc_S_int_int__IsValidManifest_1 := by
  refine at_enter 19 (fun x => ⟨[(0, aF (.int 3) x.1), (1, .p (.c (.cl 198 .cnil)))], []⟩) Try.func244 rfl (by kernel_rfl) (fun x => rfl) ?_
  rintro w0 Z0 ⟨x0, x1, u⟩ a w
  revert x0 x1
  intro (x0 : (List Int)) (x1 : Unit) hpre hlens h
  replace h : At w0 Z0 [] 19 ⟨[(0, aF (.int 3) x0), (1, .p (.c (.cl 198 .cnil)))], []⟩ a w := h
  have hl1 : List.length x0 ≤ 9223372036854775807 := hlens.1.1
  have hT : TabOK Try.prog S_slices_IndexFunc_S_int_int__IsValidManifest_1_tab := (.cons S_impl_IsValidManifest_1_ok .nil)
  refine wp_seq ?_
  refine at_regq (T := S_slices_IndexFunc_S_int_int__IsValidManifest_1_tab) [] { ts := [0, 1, 4], os := [] } [] gamOK hT h (by kernel_rfl) trivial ?_
  intro a w h
  refine then_normal ?_
  refine wp_seq ?_
  refine wp_seq ?_
  refine at_regq (T := S_slices_IndexFunc_S_int_int__IsValidManifest_1_tab) [] { ts := [0, 1, 4, 7, 8], os := [] } [] gamOK hT h (by kernel_rfl) trivial ?_
  intro a w h
  refine then_normal ?_
  refine wp_block ?_
  replace h := at_out (σ' := ⟨[(0, aF (.int 3) x0), (1, .p (.c (.cl 198 .cnil))), (4, aI 0), (7, aI ((List.length x0 : Nat) : Int)), (8, aI 0)], []⟩) { ts := [0, 1, 4, 7, 8], os := [] } h (by kernel_rfl)
  refine at_loop (fun i : Nat => (⟨[(0, aF (.int 3) x0), (1, .p (.c (.cl 198 .cnil))), (4, aI 0), (7, aI ((List.length x0 : Nat) : Int)), (8, aI ((i : Nat) : Int))], []⟩ : St)) (fun i => (i ≤ List.length x0 ∧ noneTo (fun e => !isGrp e) x0 0 i)) (fun i => List.length x0 - i) (0) h (st_congr1 (fun (d0 : Int) => (⟨[(0, aF (.int 3) x0), (1, .p (.c (.cl 198 .cnil))), (4, aI 0), (7, aI ((List.length x0 : Nat) : Int)), (8, aI d0)], []⟩ : St)) (show (0 : Int) = (((0) : Nat) : Int) from by first | with_reducible rfl | (rfl) | rfl)) (by exact ⟨Nat.zero_le _, noneTo_zero⟩) ?_
  intro i a w hok0 h
  refine wp_seq ?_
  refine at_regq (T := S_slices_IndexFunc_S_int_int__IsValidManifest_1_tab) [] { ts := [0, 1, 4, 7, 8, 9], os := [] } [] gamOK hT h (by kernel_rfl) trivial ?_
  intro a w h
  refine then_normal ?_
  refine wp_seq ?_
  refine at_test (decide (((i : Nat) : Int) < ((List.length x0 : Nat) : Int))) h (by kernel_rfl) (fun h1 => ?_) (fun h1 => ?_)
  · replace h1 : ((i : Nat) : Int) < ((List.length x0 : Nat) : Int) := of_decide_eq_true h1
    refine wp_skip ?_
    refine then_normal ?_
    refine wp_seq ?_
    refine wp_block ?_
    refine wp_seq ?_
    refine at_reg (T := S_slices_IndexFunc_S_int_int__IsValidManifest_1_tab) [] { ts := [0, 1, 4, 5, 7, 8], os := [] } ⟨[(0, aF (.int 3) x0), (1, .p (.c (.cl 198 .cnil))), (4, aI 0), (5, aI ((i : Nat) : Int)), (7, aI ((List.length x0 : Nat) : Int)), (8, aI ((i : Nat) : Int))], []⟩ [] gamOK hT h (by kernel_rfl) trivial ?_
    intro a w h
    refine then_normal ?_
    refine wp_seq ?_
    refine at_regq (T := S_slices_IndexFunc_S_int_int__IsValidManifest_1_tab) [] { ts := [0, 1, 4, 5, 7, 8, 16], os := [] } [(0 : Int) ≤ ((i : Nat) : Int) ∧ ((i : Nat) : Int) < ((List.length x0 : Nat) : Int), True] gamOK hT h (by kernel_rfl) ⟨(by refine ⟨?_, ?_⟩ <;> (first | omega | (simp only [List.length_append, List.length_cons, List.length_nil, List.length_set, List.length_take, List.length_drop, List.length_replicate, List.length_map, Nat.min_def]; omega) | (simp; done) | (simp; omega) | done)), trivial, trivial⟩ ?_
    intro a w h
    refine then_normal ?_
    refine at_test ((D_impl_IsValidManifest_1 (x0.getD i 0))) h (by kernel_rfl) (fun h2 => ?_) (fun h2 => ?_)
    · refine wp_seq ?_
      refine at_regq (T := S_slices_IndexFunc_S_int_int__IsValidManifest_1_tab) [] { ts := [0, 1, 4, 7, 8], os := [] } [] gamOK hT h (by kernel_rfl) trivial ?_
      intro a w h
      refine then_normal ?_
      refine wp_ret ?_
      refine in_ret ?_
      refine then_ret ?_
      refine then_ret ?_
      refine in_ret ?_
      refine then_ret ?_
      exact at_return (S := S_slices_IndexFunc_S_int_int__IsValidManifest_1) (x := (x0, x1, ())) (((i : Nat) : Int), ()) [] h (by kernel_rfl) trivial (congrArg (fun z => (z, ())) (show (((i : Nat) : Int)) = D_slices_IndexFunc_S_int_int__IsValidManifest_1 x0 x1 from by unfold D_slices_IndexFunc_S_int_int__IsValidManifest_1; exact (idxF_at (z := 0) (by omega) hok0.2 h2).symm))
    · refine wp_skip ?_
      refine in_normal ?_
      refine then_normal ?_
      refine at_regq (T := S_slices_IndexFunc_S_int_int__IsValidManifest_1_tab) [{ nw := true }] { ts := [0, 1, 4, 7, 8], os := [] } [I64 (((i : Nat) : Int) + 1)] gamOK hT h (by kernel_rfl) ⟨⟨by first | omega | (simp only [List.length_append, List.length_cons, List.length_nil, List.length_set, List.length_take, List.length_drop, List.length_replicate, List.length_map, Nat.min_def]; omega) | (simp; done) | (simp; omega) | done, by first | omega | (simp only [List.length_append, List.length_cons, List.length_nil, List.length_set, List.length_take, List.length_drop, List.length_replicate, List.length_map, Nat.min_def]; omega) | (simp; done) | (simp; omega) | done⟩, trivial⟩ ?_
      intro a w h
      replace h := at_out (σ' := ⟨[(0, aF (.int 3) x0), (1, .p (.c (.cl 198 .cnil))), (4, aI 0), (7, aI ((List.length x0 : Nat) : Int)), (8, aI (((i : Nat) : Int) + 1))], []⟩) { ts := [0, 1, 4, 7, 8], os := [] } h (by kernel_rfl)
      exact ⟨i + 1, at_eq h (st_congr1 (fun (d0 : Int) => (⟨[(0, aF (.int 3) x0), (1, .p (.c (.cl 198 .cnil))), (4, aI 0), (7, aI ((List.length x0 : Nat) : Int)), (8, aI d0)], []⟩ : St)) (show (((i : Nat) : Int) + 1 : Int) = (((i + 1) : Nat) : Int) from by first | with_reducible rfl | (omega) | rfl)), (by exact ⟨by omega, noneTo_succ hok0.2 h2⟩), (by omega)⟩
  · replace h1 : ¬ (((i : Nat) : Int) < ((List.length x0 : Nat) : Int)) := of_decide_eq_false h1
    refine wp_exit ?_
    refine then_exit ?_
    refine then_exit ?_
    refine in_hit ?_
    refine then_normal ?_
    refine wp_seq ?_
    refine at_reg (T := S_slices_IndexFunc_S_int_int__IsValidManifest_1_tab) [] { ts := [4], os := [] } ⟨[(4, aI (-1))], []⟩ [] gamOK hT h (by kernel_rfl) trivial ?_
    intro a w h
    refine then_normal ?_
    refine wp_ret ?_
    exact at_return (S := S_slices_IndexFunc_S_int_int__IsValidManifest_1) (x := (x0, x1, ())) ((-1), ()) [] h (by kernel_rfl) trivial (congrArg (fun z => (z, ())) (show ((-1)) = D_slices_IndexFunc_S_int_int__IsValidManifest_1 x0 x1 from by unfold D_slices_IndexFunc_S_int_int__IsValidManifest_1; exact (idxF_none (z := 0) (by omega) hok0.2).symm))

def D_slices_ContainsFunc_S_int_int__IsValidManifest_1 := (fun (xs : List Int) (cap : Unit) => xs.any fun e => !isGrp e)
def S_slices_ContainsFunc_S_int_int__IsValidManifest_1 : Sum := { fid := 197, dom := [s22, (.fn0 198)], cod := [(.bool 4)], dp := true, fz := false, pre := fun x => True, g := fun x => ((D_slices_ContainsFunc_S_int_int__IsValidManifest_1 x.1 x.2.1), ()) }
def S_slices_ContainsFunc_S_int_int__IsValidManifest_1_tab : List (Nat × Sum) := [(100011, S_slices_IndexFunc_S_int_int__IsValidManifest_1)]
theorem S_slices_ContainsFunc_S_int_int__IsValidManifest_1_ok : FnOK Try.prog 197 S_slices_ContainsFunc_S_int_int__IsValidManifest_1 := by
  refine at_enter 9 (fun x => ⟨[(0, aF (.int 3) x.1), (1, .p (.c (.cl 198 .cnil)))], []⟩) Try.func197 rfl (by kernel_rfl) (fun x => rfl) ?_
  rintro w0 Z0 ⟨x0, x1, u⟩ a w
  revert x0 x1
  intro (x0 : (List Int)) (x1 : Unit) hpre hlens h
  replace h : At w0 Z0 [] 9 ⟨[(0, aF (.int 3) x0), (1, .p (.c (.cl 198 .cnil)))], []⟩ a w := h
  have hl1 : List.length x0 ≤ 9223372036854775807 := hlens.1.1
  have hT : TabOK Try.prog S_slices_ContainsFunc_S_int_int__IsValidManifest_1_tab := (.cons S_slices_IndexFunc_S_int_int__IsValidManifest_1_ok .nil)
  refine wp_seq ?_
  refine at_regq (T := S_slices_ContainsFunc_S_int_int__IsValidManifest_1_tab) [] { ts := [0, 1, 4], os := [] } [] gamOK hT h (by kernel_rfl) trivial ?_
  intro a w h
  refine then_normal ?_
  refine wp_seq ?_
  refine at_regq (T := S_slices_ContainsFunc_S_int_int__IsValidManifest_1_tab) [{}, {}, { key := some 100011 }] { ts := [4], os := [] } [True] gamOK hT h (by kernel_rfl) ⟨trivial, trivial⟩ ?_
  intro a w h
  refine then_normal ?_
  refine wp_ret ?_
  exact at_return (S := S_slices_ContainsFunc_S_int_int__IsValidManifest_1) (x := (x0, x1, ())) (decide ((D_slices_IndexFunc_S_int_int__IsValidManifest_1 x0 ()) ≥ 0), ()) [] h (by kernel_rfl) trivial (congrArg (fun z => (z, ())) (show (decide ((D_slices_IndexFunc_S_int_int__IsValidManifest_1 x0 ()) ≥ 0)) = D_slices_ContainsFunc_S_int_int__IsValidManifest_1 x0 x1 from by unfold D_slices_ContainsFunc_S_int_int__IsValidManifest_1; exact idxF_any))

def validMan (x0 : T47) : Bool := (if (inR x0.1 0 7) = true then (if (isFmt x0.2.1 x0.2.2.1 x0.2.2.2.1) = true then (if ((List.length x0.2.2.2.2.1 : Nat) : Int) = x0.2.2.1 then (if (List.all x0.2.2.2.2.1 isGrp) = true then (inR x0.2.2.2.2.2 0 2147483646) else false) else false) else false) else false)
def S_spec_IsValidManifest : Sum := { fid := 123, dom := [s47], cod := [(.bool 4)], dp := true, fz := false, pre := fun x => (fun (x0 : T47) => Sh.fit s47 x0) x.1, g := fun x => ((validMan x.1), ()) }
def S_spec_IsValidManifest_tab : List (Nat × Sum) := [(138, S_spec_l1In), (191, S_spec_l14Range), (187, S_spec_IsGroupElement)]
theorem S_spec_IsValidManifest_ok : FnOK Try.prog 123 S_spec_IsValidManifest := by
  refine at_enter 43 (fun x => ⟨[(0, aG [cI x.1.1, cI x.1.2.1, cI x.1.2.2.1, cI x.1.2.2.2.1, .ro (.int 3) x.1.2.2.2.2.1, cI x.1.2.2.2.2.2])], []⟩) Try.func123 rfl (by kernel_rfl) (fun x => rfl) ?_
  rintro w0 Z0 ⟨x0, u⟩ a w
  revert x0
  intro (x0 : T47) hpre hlens h
  replace h : At w0 Z0 [] 43 ⟨[(0, aG [cI x0.1, cI x0.2.1, cI x0.2.2.1, cI x0.2.2.2.1, .ro (.int 3) x0.2.2.2.2.1, cI x0.2.2.2.2.2])], []⟩ a w := h
  replace hpre : (fun (x0 : T47) => Sh.fit s47 x0) x0 := hpre
  have hl1 : List.length x0.2.2.2.2.1 ≤ 9223372036854775807 := hlens.1.2.2.2.2.1.1
  have hT : TabOK Try.prog S_spec_IsValidManifest_tab := (.cons S_spec_l1In_ok (.cons S_spec_l14Range_ok (.cons S_spec_IsGroupElement_ok .nil)))
  have hf0 : Sh.fit s47 x0 := hpre
  have hn0_1 : List.length x0.2.2.2.2.1 ≤ 1073741824 := hf0.2.2.2.2.1.1
  refine wp_seq ?_
  refine at_regq (T := S_spec_IsValidManifest_tab) [{ ids := [1] }] { ts := [1, 2], os := [1] } [] gamOK hT h (by kernel_rfl) trivial ?_
  intro a w h
  refine then_normal ?_
  refine wp_seq ?_
  refine wp_seq ?_
  rcases Bool.eq_false_or_eq_true (!(inR x0.1 0 7)) with h1 | h1
  · skip
    have hzh1 : (inR x0.1 0 7) = false := notT h1
    have hvh1 := inR_f (notT h1)
    refine at_regq (T := S_spec_IsValidManifest_tab) [{}, {}, {}, { hint := some (aB true) }] { ts := [1, 2, 25], os := [1] } [True, (AV.p (.c (.v (.bool (!(inR x0.1 0 7))))) = AV.p (.c (.v (.bool true))))] gamOK hT h (by kernel_rfl) ⟨trivial, hint_bool (h1), trivial⟩ ?_
    intro a w h
    refine then_normal ?_
    refine at_test true h (by kernel_rfl) (fun hh => ?_) (fun hh => nomatch hh)
    refine wp_seq ?_
    refine at_regq (T := S_spec_IsValidManifest_tab) [] { ts := [1, 2], os := [1] } [] gamOK hT h (by kernel_rfl) trivial ?_
    intro a w h
    refine then_normal ?_
    refine wp_ret ?_
    refine then_ret ?_
    exact at_return (S := S_spec_IsValidManifest) (x := (x0, ())) (false, ()) [] h (by kernel_rfl) trivial (congrArg (fun z => (z, ())) (show (false) = validMan x0 from by first | rfl | (unfold validMan; rw [if_neg (neT (notT h1))])))
  · skip
    have hzh1 : (inR x0.1 0 7) = true := notF h1
    have hvh1 := inR_t (notF h1)
    rcases Bool.eq_false_or_eq_true (!(isFmt x0.2.1 x0.2.2.1 x0.2.2.2.1)) with h2 | h2
    · skip
      have hzh2 : (isFmt x0.2.1 x0.2.2.1 x0.2.2.2.1) = false := notT h2
      refine at_regq (T := S_spec_IsValidManifest_tab) [{}, {}, {}, { hint := some (aB false) }, {}, {}, {}, {}, {}, {}, {}, {}, { hint := some (aB true) }] { ts := [1, 2, 25], os := [1] } [True, (AV.p (.c (.v (.bool (!(inR x0.1 0 7))))) = AV.p (.c (.v (.bool false)))), True, (AV.p (.c (.v (.bool (!(isFmt x0.2.1 x0.2.2.1 x0.2.2.2.1))))) = AV.p (.c (.v (.bool true))))] gamOK hT h (by kernel_rfl) ⟨trivial, hint_bool (h1), trivial, hint_bool (h2), trivial⟩ ?_
      intro a w h
      refine then_normal ?_
      refine at_test true h (by kernel_rfl) (fun hh => ?_) (fun hh => nomatch hh)
      refine wp_seq ?_
      refine at_regq (T := S_spec_IsValidManifest_tab) [] { ts := [1, 2], os := [1] } [] gamOK hT h (by kernel_rfl) trivial ?_
      intro a w h
      refine then_normal ?_
      refine wp_ret ?_
      refine then_ret ?_
      exact at_return (S := S_spec_IsValidManifest) (x := (x0, ())) (false, ()) [] h (by kernel_rfl) trivial (congrArg (fun z => (z, ())) (show (false) = validMan x0 from by first | rfl | (unfold validMan; rw [if_pos (notF h1), if_neg (neT (notT h2))])))
    · skip
      have hzh2 : (isFmt x0.2.1 x0.2.2.1 x0.2.2.2.1) = true := notF h2
      have hvh2 := isFmt_t (notF h2)
      refine at_regq (T := S_spec_IsValidManifest_tab) [{}, {}, {}, { hint := some (aB false) }, {}, {}, {}, {}, {}, {}, {}, {}, { hint := some (aB false) }] { ts := [1, 2, 25], os := [1] } [True, (AV.p (.c (.v (.bool (!(inR x0.1 0 7))))) = AV.p (.c (.v (.bool false)))), True, (AV.p (.c (.v (.bool (!(isFmt x0.2.1 x0.2.2.1 x0.2.2.2.1))))) = AV.p (.c (.v (.bool false))))] gamOK hT h (by kernel_rfl) ⟨trivial, hint_bool (h1), trivial, hint_bool (h2), trivial⟩ ?_
      intro a w h
      refine then_normal ?_
      refine at_test (!decide (((List.length x0.2.2.2.2.1 : Nat) : Int) = x0.2.2.1)) h (by kernel_rfl) (fun h3 => ?_) (fun h3 => ?_)
      · replace h3 : ¬ (((List.length x0.2.2.2.2.1 : Nat) : Int) = x0.2.2.1) := of_decide_eq_false (notT h3)
        refine wp_seq ?_
        refine at_regq (T := S_spec_IsValidManifest_tab) [] { ts := [1, 2], os := [1] } [] gamOK hT h (by kernel_rfl) trivial ?_
        intro a w h
        refine then_normal ?_
        refine wp_ret ?_
        refine then_ret ?_
        exact at_return (S := S_spec_IsValidManifest) (x := (x0, ())) (false, ()) [] h (by kernel_rfl) trivial (congrArg (fun z => (z, ())) (show (false) = validMan x0 from by first | rfl | (unfold validMan; rw [if_pos (notF h1), if_pos (notF h2), if_neg h3])))
      · replace h3 : ((List.length x0.2.2.2.2.1 : Nat) : Int) = x0.2.2.1 := of_decide_eq_true (notF h3)
        refine wp_skip ?_
        refine then_normal ?_
        refine wp_seq ?_
        refine wp_seq ?_
        refine at_regq (T := S_spec_IsValidManifest_tab) [] { ts := [1, 2, 3], os := [1] } [] gamOK hT h (by kernel_rfl) trivial ?_
        intro a w h
        refine then_normal ?_
        refine wp_block ?_
        replace h := at_out (σ' := ⟨[(1, aP 1 0), (2, aB false), (3, aI 0)], [(1, oX 47 [cI x0.1, cI x0.2.1, cI x0.2.2.1, cI x0.2.2.2.1, .ro (.int 3) x0.2.2.2.2.1, cI x0.2.2.2.2.2])]⟩) { ts := [1, 2, 3], os := [1] } h (by kernel_rfl)
        refine at_loop (fun i : Nat => (⟨[(1, aP 1 0), (2, aB false), (3, aI ((i : Nat) : Int))], [(1, oX 47 [cI x0.1, cI x0.2.1, cI x0.2.2.1, cI x0.2.2.2.1, .ro (.int 3) x0.2.2.2.2.1, cI x0.2.2.2.2.2])]⟩ : St)) (fun i => (i ≤ List.length x0.2.2.2.2.1 ∧ allTo1 isGrp x0.2.2.2.2.1 0 i)) (fun i => List.length x0.2.2.2.2.1 - i) (0) h (st_congr1 (fun (d0 : Int) => (⟨[(1, aP 1 0), (2, aB false), (3, aI d0)], [(1, oX 47 [cI x0.1, cI x0.2.1, cI x0.2.2.1, cI x0.2.2.2.1, .ro (.int 3) x0.2.2.2.2.1, cI x0.2.2.2.2.2])]⟩ : St)) (show (0 : Int) = (((0) : Nat) : Int) from by first | with_reducible rfl | (rfl) | rfl)) (by exact ⟨Nat.zero_le _, allTo1_zero⟩) ?_
        intro i a w hok0 h
        refine wp_seq ?_
        refine wp_seq ?_
        refine at_reg (T := S_spec_IsValidManifest_tab) [] { ts := [1, 2, 3, 30], os := [1] } ⟨[(1, aP 1 0), (2, aB false), (3, aI ((i : Nat) : Int)), (30, aB (decide (((i : Nat) : Int) < ((List.length x0.2.2.2.2.1 : Nat) : Int))))], [(1, oX 47 [cI x0.1, cI x0.2.1, cI x0.2.2.1, cI x0.2.2.2.1, .ro (.int 3) x0.2.2.2.2.1, cI x0.2.2.2.2.2])]⟩ [] gamOK hT h (by kernel_rfl) trivial ?_
        intro a w h
        refine then_normal ?_
        refine at_test (decide (((i : Nat) : Int) < ((List.length x0.2.2.2.2.1 : Nat) : Int))) h (by kernel_rfl) (fun h4 => ?_) (fun h4 => ?_)
        · replace h4 : ((i : Nat) : Int) < ((List.length x0.2.2.2.2.1 : Nat) : Int) := of_decide_eq_true h4
          refine wp_skip ?_
          refine then_normal ?_
          refine wp_seq ?_
          refine wp_block ?_
          refine wp_seq ?_
          refine at_regq (T := S_spec_IsValidManifest_tab) [] { ts := [1, 2, 3, 39], os := [1] } [(0 : Int) ≤ ((i : Nat) : Int) ∧ ((i : Nat) : Int) < ((List.length x0.2.2.2.2.1 : Nat) : Int), True] gamOK hT h (by kernel_rfl) ⟨(by refine ⟨?_, ?_⟩ <;> (first | omega | (simp only [List.length_append, List.length_cons, List.length_nil, List.length_set, List.length_take, List.length_drop, List.length_replicate, List.length_map, Nat.min_def]; omega) | (simp; done) | (simp; omega) | done)), trivial, trivial⟩ ?_
          intro a w h
          refine then_normal ?_
          refine at_test (!(isGrp (x0.2.2.2.2.1.getD i 0))) h (by kernel_rfl) (fun h5 => ?_) (fun h5 => ?_)
          · replace h5 : (isGrp (x0.2.2.2.2.1.getD i 0)) = false := notT h5
            refine wp_seq ?_
            refine at_regq (T := S_spec_IsValidManifest_tab) [] { ts := [1, 2, 3], os := [1] } [] gamOK hT h (by kernel_rfl) trivial ?_
            intro a w h
            refine then_normal ?_
            refine wp_ret ?_
            refine in_ret ?_
            refine then_ret ?_
            have hs6 : (List.all x0.2.2.2.2.1 isGrp) = false := by exact all_at (z := 0) (i := i) (by omega) (by first | assumption | (simp_all; done))
            refine then_ret ?_
            refine in_ret ?_
            refine then_ret ?_
            exact at_return (S := S_spec_IsValidManifest) (x := (x0, ())) (false, ()) [] h (by kernel_rfl) trivial (congrArg (fun z => (z, ())) (show (false) = validMan x0 from by first | rfl | (unfold validMan; rw [if_pos (notF h1), if_pos (notF h2), if_pos h3, if_neg (neT hs6)])))
          · replace h5 : (isGrp (x0.2.2.2.2.1.getD i 0)) = true := notF h5
            have hvh5 := isGrp_t h5
            refine wp_skip ?_
            refine in_normal ?_
            refine then_normal ?_
            refine at_regq (T := S_spec_IsValidManifest_tab) [{}, { nw := true }] { ts := [1, 2, 3], os := [1] } [I64 (((i : Nat) : Int) + 1)] gamOK hT h (by kernel_rfl) ⟨⟨by first | omega | (simp only [List.length_append, List.length_cons, List.length_nil, List.length_set, List.length_take, List.length_drop, List.length_replicate, List.length_map, Nat.min_def]; omega) | (simp; done) | (simp; omega) | done, by first | omega | (simp only [List.length_append, List.length_cons, List.length_nil, List.length_set, List.length_take, List.length_drop, List.length_replicate, List.length_map, Nat.min_def]; omega) | (simp; done) | (simp; omega) | done⟩, trivial⟩ ?_
            intro a w h
            replace h := at_out (σ' := ⟨[(1, aP 1 0), (2, aB false), (3, aI (((i : Nat) : Int) + 1))], [(1, oX 47 [cI x0.1, cI x0.2.1, cI x0.2.2.1, cI x0.2.2.2.1, .ro (.int 3) x0.2.2.2.2.1, cI x0.2.2.2.2.2])]⟩) { ts := [1, 2, 3], os := [1] } h (by kernel_rfl)
            exact ⟨i + 1, at_eq h (st_congr1 (fun (d0 : Int) => (⟨[(1, aP 1 0), (2, aB false), (3, aI d0)], [(1, oX 47 [cI x0.1, cI x0.2.1, cI x0.2.2.1, cI x0.2.2.2.1, .ro (.int 3) x0.2.2.2.2.1, cI x0.2.2.2.2.2])]⟩ : St)) (show (((i : Nat) : Int) + 1 : Int) = (((i + 1) : Nat) : Int) from by first | with_reducible rfl | (omega) | rfl)), (by exact ⟨by omega, allTo1_succ hok0.2 (by first | assumption | (simp_all; done))⟩), (by omega)⟩
        · replace h4 : ¬ (((i : Nat) : Int) < ((List.length x0.2.2.2.2.1 : Nat) : Int)) := of_decide_eq_false h4
          refine wp_exit ?_
          refine then_exit ?_
          have hs7 : (List.all x0.2.2.2.2.1 isGrp) = true := by exact all_of (z := 0) (i := i) (by omega) hok0.2
          refine then_exit ?_
          refine in_hit ?_
          refine then_normal ?_
          refine wp_seq ?_
          refine at_regq (T := S_spec_IsValidManifest_tab) [] { ts := [2], os := [] } [True] gamOK hT h (by kernel_rfl) ⟨trivial, trivial⟩ ?_
          intro a w h
          refine then_normal ?_
          refine wp_ret ?_
          exact at_return (S := S_spec_IsValidManifest) (x := (x0, ())) ((inR x0.2.2.2.2.2 0 2147483646), ()) [] h (by kernel_rfl) trivial (congrArg (fun z => (z, ())) (show ((inR x0.2.2.2.2.2 0 2147483646)) = validMan x0 from by first | rfl | (unfold validMan; rw [if_pos (notF h1), if_pos (notF h2), if_pos h3, if_pos hs7])))
theorem validMan_len {m : T47} (h : validMan m = true) : 1 ≤ List.length m.2.2.2.2.1 := by
  unfold validMan at h
  repeat' (split at h)
  all_goals first | (cases h; done) | (have := isFmt_t (by assumption); omega) | (exfalso; revert h; decide) | skip

def S_impl_IsValidManifest : Sum := { fid := 129, dom := [s47], cod := [(.bool 4)], dp := true, fz := false, pre := fun x => (fun (x0 : T47) => Sh.fit s47 x0) x.1, g := fun x => ((validMan x.1), ()) }
def S_impl_IsValidManifest_tab : List (Nat × Sum) := [(140, S_impl_InRange), (196, S_impl_isFormat), (100012, S_slices_ContainsFunc_S_int_int__IsValidManifest_1)]
theorem S_impl_IsValidManifest_ok : FnOK Try.prog 129 S_impl_IsValidManifest := by
  refine at_enter 35 (fun x => ⟨[(0, aG [cI x.1.1, cI x.1.2.1, cI x.1.2.2.1, cI x.1.2.2.2.1, .ro (.int 3) x.1.2.2.2.2.1, cI x.1.2.2.2.2.2])], []⟩) Try.func129 rfl (by kernel_rfl) (fun x => rfl) ?_
  rintro w0 Z0 ⟨x0, u⟩ a w
  revert x0
  intro (x0 : T47) hpre hlens h
  replace h : At w0 Z0 [] 35 ⟨[(0, aG [cI x0.1, cI x0.2.1, cI x0.2.2.1, cI x0.2.2.2.1, .ro (.int 3) x0.2.2.2.2.1, cI x0.2.2.2.2.2])], []⟩ a w := h
  replace hpre : (fun (x0 : T47) => Sh.fit s47 x0) x0 := hpre
  have hl1 : List.length x0.2.2.2.2.1 ≤ 9223372036854775807 := hlens.1.2.2.2.2.1.1
  have hT : TabOK Try.prog S_impl_IsValidManifest_tab := (.cons S_impl_InRange_ok (.cons S_impl_isFormat_ok (.cons S_slices_ContainsFunc_S_int_int__IsValidManifest_1_ok .nil)))
  have hf0 : Sh.fit s47 x0 := hpre
  have hn0_1 : List.length x0.2.2.2.2.1 ≤ 1073741824 := hf0.2.2.2.2.1.1
  refine wp_seq ?_
  refine at_regq (T := S_impl_IsValidManifest_tab) [{ ids := [1] }] { ts := [1, 2], os := [1] } [] gamOK hT h (by kernel_rfl) trivial ?_
  intro a w h
  refine then_normal ?_
  refine wp_seq ?_
  refine wp_seq ?_
  rcases Bool.eq_false_or_eq_true (!(inR x0.1 0 7)) with h1 | h1
  · skip
    have hzh1 : (inR x0.1 0 7) = false := notT h1
    have hvh1 := inR_f (notT h1)
    refine at_regq (T := S_impl_IsValidManifest_tab) [{}, {}, {}, { hint := some (aB true) }] { ts := [1, 2, 30], os := [1] } [True, (AV.p (.c (.v (.bool (!(inR x0.1 0 7))))) = AV.p (.c (.v (.bool true))))] gamOK hT h (by kernel_rfl) ⟨trivial, hint_bool (h1), trivial⟩ ?_
    intro a w h
    refine then_normal ?_
    refine at_test true h (by kernel_rfl) (fun hh => ?_) (fun hh => nomatch hh)
    refine wp_seq ?_
    refine at_regq (T := S_impl_IsValidManifest_tab) [] { ts := [1, 2], os := [1] } [] gamOK hT h (by kernel_rfl) trivial ?_
    intro a w h
    refine then_normal ?_
    refine wp_ret ?_
    refine then_ret ?_
    exact at_return (S := S_impl_IsValidManifest) (x := (x0, ())) (false, ()) [] h (by kernel_rfl) trivial (congrArg (fun z => (z, ())) (show (false) = validMan x0 from by first | rfl | (unfold validMan; rw [if_neg (neT (notT h1))]; done) | (unfold validMan; (repeat (first | rfl | split)) <;> (first | rfl | omega | (simp_all [-List.all_eq_true, -List.any_eq_true, -List.all_eq_false, -List.any_eq_false, D_slices_ContainsFunc_S_int_int__IsValidManifest_1, any_not]; done) | (simp_all [-List.all_eq_true, -List.any_eq_true, -List.all_eq_false, -List.any_eq_false, D_slices_ContainsFunc_S_int_int__IsValidManifest_1, any_not]; omega) | (exfalso; simp_all [-List.all_eq_true, -List.any_eq_true, -List.all_eq_false, -List.any_eq_false, D_slices_ContainsFunc_S_int_int__IsValidManifest_1, any_not]; omega)))))
  · skip
    have hzh1 : (inR x0.1 0 7) = true := notF h1
    have hvh1 := inR_t (notF h1)
    rcases Bool.eq_false_or_eq_true (!(isFmt x0.2.1 x0.2.2.1 x0.2.2.2.1)) with h2 | h2
    · skip
      have hzh2 : (isFmt x0.2.1 x0.2.2.1 x0.2.2.2.1) = false := notT h2
      refine at_regq (T := S_impl_IsValidManifest_tab) [{}, {}, {}, { hint := some (aB false) }, {}, {}, {}, {}, {}, {}, {}, {}, { hint := some (aB true) }] { ts := [1, 2, 30], os := [1] } [True, (AV.p (.c (.v (.bool (!(inR x0.1 0 7))))) = AV.p (.c (.v (.bool false)))), True, (AV.p (.c (.v (.bool (!(isFmt x0.2.1 x0.2.2.1 x0.2.2.2.1))))) = AV.p (.c (.v (.bool true))))] gamOK hT h (by kernel_rfl) ⟨trivial, hint_bool (h1), trivial, hint_bool (h2), trivial⟩ ?_
      intro a w h
      refine then_normal ?_
      refine at_test true h (by kernel_rfl) (fun hh => ?_) (fun hh => nomatch hh)
      refine wp_seq ?_
      refine at_regq (T := S_impl_IsValidManifest_tab) [] { ts := [1, 2], os := [1] } [] gamOK hT h (by kernel_rfl) trivial ?_
      intro a w h
      refine then_normal ?_
      refine wp_ret ?_
      refine then_ret ?_
      exact at_return (S := S_impl_IsValidManifest) (x := (x0, ())) (false, ()) [] h (by kernel_rfl) trivial (congrArg (fun z => (z, ())) (show (false) = validMan x0 from by first | rfl | (unfold validMan; rw [if_pos (notF h1), if_neg (neT (notT h2))]; done) | (unfold validMan; (repeat (first | rfl | split)) <;> (first | rfl | omega | (simp_all [-List.all_eq_true, -List.any_eq_true, -List.all_eq_false, -List.any_eq_false, D_slices_ContainsFunc_S_int_int__IsValidManifest_1, any_not]; done) | (simp_all [-List.all_eq_true, -List.any_eq_true, -List.all_eq_false, -List.any_eq_false, D_slices_ContainsFunc_S_int_int__IsValidManifest_1, any_not]; omega) | (exfalso; simp_all [-List.all_eq_true, -List.any_eq_true, -List.all_eq_false, -List.any_eq_false, D_slices_ContainsFunc_S_int_int__IsValidManifest_1, any_not]; omega)))))
    · skip
      have hzh2 : (isFmt x0.2.1 x0.2.2.1 x0.2.2.2.1) = true := notF h2
      have hvh2 := isFmt_t (notF h2)
      by_cases h3 : ((List.length x0.2.2.2.2.1 : Nat) : Int) = x0.2.2.1
      · skip
        refine at_regq (T := S_impl_IsValidManifest_tab) [{}, {}, {}, { hint := some (aB false) }, {}, {}, {}, {}, {}, {}, {}, {}, { hint := some (aB false) }, {}, {}, {}, {}, {}, {}, {}, { hint := some (aB false) }] { ts := [1, 2, 30], os := [1] } [True, (AV.p (.c (.v (.bool (!(inR x0.1 0 7))))) = AV.p (.c (.v (.bool false)))), True, (AV.p (.c (.v (.bool (!(isFmt x0.2.1 x0.2.2.1 x0.2.2.2.1))))) = AV.p (.c (.v (.bool false)))), (AV.p (.c (.v (.bool (!decide (((List.length x0.2.2.2.2.1 : Nat) : Int) = x0.2.2.1))))) = AV.p (.c (.v (.bool false)))), True] gamOK hT h (by kernel_rfl) ⟨trivial, hint_bool (h1), trivial, hint_bool (h2), hint_bool (ndT h3), trivial, trivial⟩ ?_
        intro a w h
        refine then_normal ?_
        refine at_test (!(inR x0.2.2.2.2.2 0 2147483646)) h (by kernel_rfl) (fun h4 => ?_) (fun h4 => ?_)
        · replace h4 : (inR x0.2.2.2.2.2 0 2147483646) = false := notT h4
          have hvh4 := inR_f h4
          refine wp_seq ?_
          refine at_regq (T := S_impl_IsValidManifest_tab) [] { ts := [1, 2], os := [1] } [] gamOK hT h (by kernel_rfl) trivial ?_
          intro a w h
          refine then_normal ?_
          refine wp_ret ?_
          refine then_ret ?_
          exact at_return (S := S_impl_IsValidManifest) (x := (x0, ())) (false, ()) [] h (by kernel_rfl) trivial (congrArg (fun z => (z, ())) (show (false) = validMan x0 from by first | rfl | (unfold validMan; rw [if_pos (notF h1), if_pos (notF h2), if_pos h3, if_neg (neT h4)]; done) | (unfold validMan; (repeat (first | rfl | split)) <;> (first | rfl | omega | (simp_all [-List.all_eq_true, -List.any_eq_true, -List.all_eq_false, -List.any_eq_false, D_slices_ContainsFunc_S_int_int__IsValidManifest_1, any_not]; done) | (simp_all [-List.all_eq_true, -List.any_eq_true, -List.all_eq_false, -List.any_eq_false, D_slices_ContainsFunc_S_int_int__IsValidManifest_1, any_not]; omega) | (exfalso; simp_all [-List.all_eq_true, -List.any_eq_true, -List.all_eq_false, -List.any_eq_false, D_slices_ContainsFunc_S_int_int__IsValidManifest_1, any_not]; omega)))))
        · replace h4 : (inR x0.2.2.2.2.2 0 2147483646) = true := notF h4
          have hvh4 := inR_t h4
          refine wp_skip ?_
          refine then_normal ?_
          refine wp_seq ?_
          refine at_regq (T := S_impl_IsValidManifest_tab) [{}, {}, { key := some 100012 }] { ts := [2], os := [] } [True] gamOK hT h (by kernel_rfl) ⟨trivial, trivial⟩ ?_
          intro a w h
          refine then_normal ?_
          refine wp_ret ?_
          exact at_return (S := S_impl_IsValidManifest) (x := (x0, ())) (!(D_slices_ContainsFunc_S_int_int__IsValidManifest_1 x0.2.2.2.2.1 ()), ()) [] h (by kernel_rfl) trivial (congrArg (fun z => (z, ())) (show (!(D_slices_ContainsFunc_S_int_int__IsValidManifest_1 x0.2.2.2.2.1 ())) = validMan x0 from by first | rfl | (unfold validMan; rw [if_pos (notF h1), if_pos (notF h2), if_pos h3, if_pos h4]; done) | (unfold validMan; (repeat (first | rfl | split)) <;> (first | rfl | omega | (simp_all [-List.all_eq_true, -List.any_eq_true, -List.all_eq_false, -List.any_eq_false, D_slices_ContainsFunc_S_int_int__IsValidManifest_1, any_not]; done) | (simp_all [-List.all_eq_true, -List.any_eq_true, -List.all_eq_false, -List.any_eq_false, D_slices_ContainsFunc_S_int_int__IsValidManifest_1, any_not]; omega) | (exfalso; simp_all [-List.all_eq_true, -List.any_eq_true, -List.all_eq_false, -List.any_eq_false, D_slices_ContainsFunc_S_int_int__IsValidManifest_1, any_not]; omega)))))
      · skip
        refine at_regq (T := S_impl_IsValidManifest_tab) [{}, {}, {}, { hint := some (aB false) }, {}, {}, {}, {}, {}, {}, {}, {}, { hint := some (aB false) }, {}, {}, {}, {}, {}, {}, {}, { hint := some (aB true) }] { ts := [1, 2, 30], os := [1] } [True, (AV.p (.c (.v (.bool (!(inR x0.1 0 7))))) = AV.p (.c (.v (.bool false)))), True, (AV.p (.c (.v (.bool (!(isFmt x0.2.1 x0.2.2.1 x0.2.2.2.1))))) = AV.p (.c (.v (.bool false)))), (AV.p (.c (.v (.bool (!decide (((List.length x0.2.2.2.2.1 : Nat) : Int) = x0.2.2.1))))) = AV.p (.c (.v (.bool true))))] gamOK hT h (by kernel_rfl) ⟨trivial, hint_bool (h1), trivial, hint_bool (h2), hint_bool (ndF h3), trivial⟩ ?_
        intro a w h
        refine then_normal ?_
        refine at_test true h (by kernel_rfl) (fun hh => ?_) (fun hh => nomatch hh)
        refine wp_seq ?_
        refine at_regq (T := S_impl_IsValidManifest_tab) [] { ts := [1, 2], os := [1] } [] gamOK hT h (by kernel_rfl) trivial ?_
        intro a w h
        refine then_normal ?_
        refine wp_ret ?_
        refine then_ret ?_
        exact at_return (S := S_impl_IsValidManifest) (x := (x0, ())) (false, ()) [] h (by kernel_rfl) trivial (congrArg (fun z => (z, ())) (show (false) = validMan x0 from by first | rfl | (unfold validMan; rw [if_pos (notF h1), if_pos (notF h2), if_neg h3]; done) | (unfold validMan; (repeat (first | rfl | split)) <;> (first | rfl | omega | (simp_all [-List.all_eq_true, -List.any_eq_true, -List.all_eq_false, -List.any_eq_false, D_slices_ContainsFunc_S_int_int__IsValidManifest_1, any_not]; done) | (simp_all [-List.all_eq_true, -List.any_eq_true, -List.all_eq_false, -List.any_eq_false, D_slices_ContainsFunc_S_int_int__IsValidManifest_1, any_not]; omega) | (exfalso; simp_all [-List.all_eq_true, -List.any_eq_true, -List.all_eq_false, -List.any_eq_false, D_slices_ContainsFunc_S_int_int__IsValidManifest_1, any_not]; omega)))))
def mkMan (s src : Int) (k : (List Int)) (g : T86) : T47 := signMan s (src, g.1, ((List.length g.2 : Nat) : Int), colsOf g.2, hashSyms k g, 0)
def makeMan (s src : Int) (k : (List Int)) (g : T86) : T47 × Bool := if (isKey s = true ∧ hsOK k g) ∧ validMan (mkMan s src k g) = true then (mkMan s src k g, true) else ((0, 0, 0, 0, [], 0), false)
theorem mkMan_no {s src : Int} {k : (List Int)} {g : T86} (h : ¬ hsOK k g) : validMan (mkMan s src k g) = false := by
  rw [Bool.eq_false_iff]; intro e
  have := validMan_len e
  unfold mkMan signMan hashSyms at this
  rw [if_neg h] at this
  exact absurd this (by simp)
theorem makeMan_no {s src : Int} {k : (List Int)} {g : T86} (h : isKey s = false ∨ List.length (hashSyms k g) = 0 ∨ validMan (mkMan s src k g) = false ∨ ¬ hsOK k g) : ((0, 0, 0, 0, [], 0), false) = makeMan s src k g := by
  unfold makeMan
  rw [if_neg]
  rintro ⟨⟨h1, h2⟩, h3⟩
  rcases h with h | h | h | h
  · rw [h1] at h; cases h
  · exact hashSyms_nil h h2
  · rw [h3] at h; cases h
  · exact h h2
theorem makeMan_yes {s src : Int} {k : (List Int)} {g : T86} (h1 : isKey s = true) (h2 : validMan (mkMan s src k g) = true) : (mkMan s src k g, true) = makeMan s src k g := by
  unfold makeMan
  rw [if_pos]
  refine ⟨⟨h1, Decidable.byContradiction fun h => ?_⟩, h2⟩
  rw [mkMan_no h] at h2; cases h2

def checkP (x0 : (List Int)) (x1 : T47) (x2 : T126) : Int := (if (validMan x1) = true then (if (validK x0) = true then (if x1.2.2.2.1 = ((List.length x0 : Nat) : Int) then (if (validP x2 x1.2.2.1 x1.2.2.2.1) = true then (if x2.1 = x1.2.1 then (if (verH x0 x1.2.2.2.2.1 x2) = true then 0 else 3) else 2) else 1) else 1) else 1) else 1)
def S_impl_CheckPacket : Sum := { fid := 102, dom := [s45, s47, s126], cod := [(.int 3)], dp := true, fz := false, pre := fun x => (fun (x0 : (List Int)) (x1 : T47) (x2 : T126) => Sh.fit s45 x0 ∧ Sh.fit s47 x1 ∧ Sh.fit s126 x2) x.1 x.2.1 x.2.2.1, g := fun x => ((checkP x.1 x.2.1 x.2.2.1), ()) }
def S_impl_CheckPacket_tab : List (Nat × Sum) := [(129, S_impl_IsValidManifest), (178, S_impl_IsValidHashKey), (179, S_impl_IsValidPacket), (180, S_impl_VerifyHash)]
theorem S_impl_CheckPacket_ok : FnOK Try.prog 102 S_impl_CheckPacket := by
  refine at_enter 46 (fun x => ⟨[(0, aG [.ro (.int 3) x.1]), (1, aG [cI x.2.1.1, cI x.2.1.2.1, cI x.2.1.2.2.1, cI x.2.1.2.2.2.1, .ro (.int 3) x.2.1.2.2.2.2.1, cI x.2.1.2.2.2.2.2]), (2, aG [cI x.2.2.1.1, .ro (.int 3) x.2.2.1.2.1, .ro (.int 3) x.2.2.1.2.2])], []⟩) Try.func102 rfl (by kernel_rfl) (fun x => rfl) ?_
  rintro w0 Z0 ⟨x0, x1, x2, u⟩ a w
  revert x0 x1 x2
  intro (x0 : (List Int)) (x1 : T47) (x2 : T126) hpre hlens h
  replace h : At w0 Z0 [] 46 ⟨[(0, aG [.ro (.int 3) x0]), (1, aG [cI x1.1, cI x1.2.1, cI x1.2.2.1, cI x1.2.2.2.1, .ro (.int 3) x1.2.2.2.2.1, cI x1.2.2.2.2.2]), (2, aG [cI x2.1, .ro (.int 3) x2.2.1, .ro (.int 3) x2.2.2])], []⟩ a w := h
  replace hpre : (fun (x0 : (List Int)) (x1 : T47) (x2 : T126) => Sh.fit s45 x0 ∧ Sh.fit s47 x1 ∧ Sh.fit s126 x2) x0 x1 x2 := hpre
  have hl1 : List.length x0 ≤ 9223372036854775807 := hlens.1.1
  have hl2 : List.length x1.2.2.2.2.1 ≤ 9223372036854775807 := hlens.2.1.2.2.2.2.1.1
  have hl3 : List.length x2.2.1 ≤ 9223372036854775807 := hlens.2.2.1.2.1.1
  have hl4 : List.length x2.2.2 ≤ 9223372036854775807 := hlens.2.2.1.2.2.1
  have hT : TabOK Try.prog S_impl_CheckPacket_tab := (.cons S_impl_IsValidManifest_ok (.cons S_impl_IsValidHashKey_ok (.cons S_impl_IsValidPacket_ok (.cons S_impl_VerifyHash_ok .nil))))
  obtain ⟨hf0, hf1, hf2⟩ := hpre
  have hn0_1 : List.length x0 ≤ 1073741824 := hf0.1
  have hn1_2 : List.length x1.2.2.2.2.1 ≤ 1073741824 := hf1.2.2.2.2.1.1
  have hn2_3 : List.length x2.2.1 ≤ 1073741824 := hf2.2.1.1
  have hn2_4 : List.length x2.2.2 ≤ 1073741824 := hf2.2.2.1
  refine wp_seq ?_
  refine at_regq (T := S_impl_CheckPacket_tab) [{ ids := [1] }, { ids := [2] }, { ids := [3] }] { ts := [3, 4, 5, 6], os := [1, 2, 3] } [] gamOK hT h (by kernel_rfl) trivial ?_
  intro a w h
  refine then_normal ?_
  refine wp_seq ?_
  refine wp_block ?_
  refine wp_seq ?_
  rcases Bool.eq_false_or_eq_true (!(validMan x1)) with h1 | h1
  · skip
    have hzh1 : (validMan x1) = false := notT h1
    refine at_regq (T := S_impl_CheckPacket_tab) [{}, {}, { hint := some (aB true) }] { ts := [3, 4, 5, 6, 7], os := [1, 2, 3] } [(fun (x0 : T47) => Sh.fit s47 x0) x1, (AV.p (.c (.v (.bool (!(validMan x1))))) = AV.p (.c (.v (.bool true))))] gamOK hT h (by kernel_rfl) ⟨(by exact hf1), hint_bool (h1), trivial⟩ ?_
    intro a w h
    refine then_normal ?_
    refine at_test true h (by kernel_rfl) (fun hh => ?_) (fun hh => nomatch hh)
    refine wp_seq ?_
    refine at_regq (T := S_impl_CheckPacket_tab) [] { ts := [6], os := [] } [] gamOK hT h (by kernel_rfl) trivial ?_
    intro a w h
    refine then_normal ?_
    refine wp_ret ?_
    refine in_ret ?_
    refine then_ret ?_
    exact at_return (S := S_impl_CheckPacket) (x := (x0, x1, x2, ())) (1, ()) [] h (by kernel_rfl) trivial (congrArg (fun z => (z, ())) (show (1) = checkP x0 x1 x2 from by first | rfl | (unfold checkP; rw [if_neg (neT (notT h1))])))
  · skip
    have hzh1 : (validMan x1) = true := notF h1
    rcases Bool.eq_false_or_eq_true (!(validK x0)) with h2 | h2
    · skip
      have hzh2 : (validK x0) = false := notT h2
      refine at_regq (T := S_impl_CheckPacket_tab) [{}, {}, { hint := some (aB false) }, {}, {}, {}, { hint := some (aB true) }] { ts := [3, 4, 5, 6, 7], os := [1, 2, 3] } [(fun (x0 : T47) => Sh.fit s47 x0) x1, (AV.p (.c (.v (.bool (!(validMan x1))))) = AV.p (.c (.v (.bool false)))), (fun (x0 : (List Int)) => Sh.fit s45 x0) x0, (AV.p (.c (.v (.bool (!(validK x0))))) = AV.p (.c (.v (.bool true))))] gamOK hT h (by kernel_rfl) ⟨(by exact hf1), hint_bool (h1), (by exact hf0), hint_bool (h2), trivial⟩ ?_
      intro a w h
      refine then_normal ?_
      refine at_test true h (by kernel_rfl) (fun hh => ?_) (fun hh => nomatch hh)
      refine wp_seq ?_
      refine at_regq (T := S_impl_CheckPacket_tab) [] { ts := [6], os := [] } [] gamOK hT h (by kernel_rfl) trivial ?_
      intro a w h
      refine then_normal ?_
      refine wp_ret ?_
      refine in_ret ?_
      refine then_ret ?_
      exact at_return (S := S_impl_CheckPacket) (x := (x0, x1, x2, ())) (1, ()) [] h (by kernel_rfl) trivial (congrArg (fun z => (z, ())) (show (1) = checkP x0 x1 x2 from by first | rfl | (unfold checkP; rw [if_pos (notF h1), if_neg (neT (notT h2))])))
    · skip
      have hzh2 : (validK x0) = true := notF h2
      have hvh2 := validK_t (notF h2)
      by_cases h3 : x1.2.2.2.1 = ((List.length x0 : Nat) : Int)
      · skip
        refine at_regq (T := S_impl_CheckPacket_tab) [{}, {}, { hint := some (aB false) }, {}, {}, {}, { hint := some (aB false) }, {}, {}, {}, {}, {}, {}, {}, { hint := some (aB false) }] { ts := [3, 4, 5, 6, 7], os := [1, 2, 3] } [(fun (x0 : T47) => Sh.fit s47 x0) x1, (AV.p (.c (.v (.bool (!(validMan x1))))) = AV.p (.c (.v (.bool false)))), (fun (x0 : (List Int)) => Sh.fit s45 x0) x0, (AV.p (.c (.v (.bool (!(validK x0))))) = AV.p (.c (.v (.bool false)))), (AV.p (.c (.v (.bool (!decide (x1.2.2.2.1 = ((List.length x0 : Nat) : Int)))))) = AV.p (.c (.v (.bool false)))), (fun (x0 : T126) (x1 : Int) (x2 : Int) => Sh.fit s126 x0) x2 x1.2.2.1 x1.2.2.2.1] gamOK hT h (by kernel_rfl) ⟨(by exact hf1), hint_bool (h1), (by exact hf0), hint_bool (h2), hint_bool (ndT h3), (by exact hf2), trivial⟩ ?_
        intro a w h
        refine then_normal ?_
        refine at_test (!(validP x2 x1.2.2.1 x1.2.2.2.1)) h (by kernel_rfl) (fun h4 => ?_) (fun h4 => ?_)
        · replace h4 : (validP x2 x1.2.2.1 x1.2.2.2.1) = false := notT h4
          refine wp_seq ?_
          refine at_regq (T := S_impl_CheckPacket_tab) [] { ts := [6], os := [] } [] gamOK hT h (by kernel_rfl) trivial ?_
          intro a w h
          refine then_normal ?_
          refine wp_ret ?_
          refine in_ret ?_
          refine then_ret ?_
          exact at_return (S := S_impl_CheckPacket) (x := (x0, x1, x2, ())) (1, ()) [] h (by kernel_rfl) trivial (congrArg (fun z => (z, ())) (show (1) = checkP x0 x1 x2 from by first | rfl | (unfold checkP; rw [if_pos (notF h1), if_pos (notF h2), if_pos h3, if_neg (neT h4)])))
        · replace h4 : (validP x2 x1.2.2.1 x1.2.2.2.1) = true := notF h4
          have hvh4 := validP_n h4
          refine wp_seq ?_
          refine at_regq (T := S_impl_CheckPacket_tab) [] { ts := [3, 4, 5, 6, 33], os := [1, 2, 3] } [] gamOK hT h (by kernel_rfl) trivial ?_
          intro a w h
          refine then_normal ?_
          refine at_test (!decide (x2.1 = x1.2.1)) h (by kernel_rfl) (fun h5 => ?_) (fun h5 => ?_)
          · replace h5 : ¬ (x2.1 = x1.2.1) := of_decide_eq_false (notT h5)
            refine wp_seq ?_
            refine at_reg (T := S_impl_CheckPacket_tab) [] { ts := [6], os := [] } ⟨[(6, aI 2)], []⟩ [] gamOK hT h (by kernel_rfl) trivial ?_
            intro a w h
            refine then_normal ?_
            refine wp_ret ?_
            refine in_ret ?_
            refine then_ret ?_
            exact at_return (S := S_impl_CheckPacket) (x := (x0, x1, x2, ())) (2, ()) [] h (by kernel_rfl) trivial (congrArg (fun z => (z, ())) (show (2) = checkP x0 x1 x2 from by first | rfl | (unfold checkP; rw [if_pos (notF h1), if_pos (notF h2), if_pos h3, if_pos h4, if_neg h5])))
          · replace h5 : x2.1 = x1.2.1 := of_decide_eq_true (notF h5)
            refine wp_seq ?_
            refine at_reg (T := S_impl_CheckPacket_tab) [] { ts := [6, 39], os := [] } ⟨[(6, aI 0), (39, aB (!(verH x0 x1.2.2.2.2.1 x2)))], []⟩ [(fun (x0 : (List Int)) (x1 : (List Int)) (x2 : T126) => Sh.fit s45 x0 ∧ Sh.fit s22 x1 ∧ Sh.fit s126 x2) x0 x1.2.2.2.2.1 x2] gamOK hT h (by kernel_rfl) ⟨(by exact ⟨hf0, hf1.2.2.2.2.1, hf2⟩), trivial⟩ ?_
            intro a w h
            refine then_normal ?_
            refine at_test (!(verH x0 x1.2.2.2.2.1 x2)) h (by kernel_rfl) (fun h6 => ?_) (fun h6 => ?_)
            · replace h6 : (verH x0 x1.2.2.2.2.1 x2) = false := notT h6
              refine wp_seq ?_
              refine at_regq (T := S_impl_CheckPacket_tab) [] { ts := [6], os := [] } [] gamOK hT h (by kernel_rfl) trivial ?_
              intro a w h
              refine then_normal ?_
              refine wp_ret ?_
              refine in_ret ?_
              refine then_ret ?_
              exact at_return (S := S_impl_CheckPacket) (x := (x0, x1, x2, ())) (3, ()) [] h (by kernel_rfl) trivial (congrArg (fun z => (z, ())) (show (3) = checkP x0 x1 x2 from by first | rfl | (unfold checkP; rw [if_pos (notF h1), if_pos (notF h2), if_pos h3, if_pos h4, if_pos h5, if_neg (neT h6)])))
            · replace h6 : (verH x0 x1.2.2.2.2.1 x2) = true := notF h6
              refine wp_skip ?_
              refine in_normal ?_
              refine then_normal ?_
              refine wp_seq ?_
              refine at_regq (T := S_impl_CheckPacket_tab) [] { ts := [6], os := [] } [] gamOK hT h (by kernel_rfl) trivial ?_
              intro a w h
              refine then_normal ?_
              refine wp_ret ?_
              exact at_return (S := S_impl_CheckPacket) (x := (x0, x1, x2, ())) (0, ()) [] h (by kernel_rfl) trivial (congrArg (fun z => (z, ())) (show (0) = checkP x0 x1 x2 from by first | rfl | (unfold checkP; rw [if_pos (notF h1), if_pos (notF h2), if_pos h3, if_pos h4, if_pos h5, if_pos h6])))
      · skip
        refine at_regq (T := S_impl_CheckPacket_tab) [{}, {}, { hint := some (aB false) }, {}, {}, {}, { hint := some (aB false) }, {}, {}, {}, {}, {}, {}, {}, { hint := some (aB true) }] { ts := [3, 4, 5, 6, 7], os := [1, 2, 3] } [(fun (x0 : T47) => Sh.fit s47 x0) x1, (AV.p (.c (.v (.bool (!(validMan x1))))) = AV.p (.c (.v (.bool false)))), (fun (x0 : (List Int)) => Sh.fit s45 x0) x0, (AV.p (.c (.v (.bool (!(validK x0))))) = AV.p (.c (.v (.bool false)))), (AV.p (.c (.v (.bool (!decide (x1.2.2.2.1 = ((List.length x0 : Nat) : Int)))))) = AV.p (.c (.v (.bool true))))] gamOK hT h (by kernel_rfl) ⟨(by exact hf1), hint_bool (h1), (by exact hf0), hint_bool (h2), hint_bool (ndF h3), trivial⟩ ?_
        intro a w h
        refine then_normal ?_
        refine at_test true h (by kernel_rfl) (fun hh => ?_) (fun hh => nomatch hh)
        refine wp_seq ?_
        refine at_regq (T := S_impl_CheckPacket_tab) [] { ts := [6], os := [] } [] gamOK hT h (by kernel_rfl) trivial ?_
        intro a w h
        refine then_normal ?_
        refine wp_ret ?_
        refine in_ret ?_
        refine then_ret ?_
        exact at_return (S := S_impl_CheckPacket) (x := (x0, x1, x2, ())) (1, ()) [] h (by kernel_rfl) trivial (congrArg (fun z => (z, ())) (show (1) = checkP x0 x1 x2 from by first | rfl | (unfold checkP; rw [if_pos (notF h1), if_pos (notF h2), if_neg h3])))

end Go.Proofs.Ytkialoggpcdhkaa

/- The law FnExactMergeLedgers returns true for every input and leaves its arguments as they were. No condition. -/
import Derived.Test.YtfbogeakgmickaaPX
import Derived.Test.YtfbogeakgmickaaProg
import Derived.Test.YtfbogeakgmickaaRows
namespace Go.Proofs.Ytfbogeakgmickaa
open Go.RowKit
set_option linter.unusedVariables false
set_option linter.unusedSimpArgs false
abbrev s114 : Sh := .st 114 (.pair (.int 3) (.pair (.int 3) (.int 3)))
abbrev T114 : Type := (Int × (Int × Int))
abbrev s26 : Sh := .sl 26 s114
abbrev s28 : Sh := .st 28 s26
abbrev s164 : Sh := .st 164 (.pair (.int 3) (.pair (.int 3) (.int 3)))
abbrev T164 : Type := (Int × (Int × Int))
abbrev s22 : Sh := .sl 22 s164
abbrev s24 : Sh := .st 24 s22
def gam : Gam := [(26, s114, 24)]
theorem gamOK : GamOK Try.prog gam := (.cons (Elem.of (.agg #[(.int .i64 0), (.int .i64 0), (.int .i64 0)]) Try.underlying26 (by kernel_rfl) rfl (by decide) (by decide)) .nil)
theorem mixed : Try.prog.follows .mixedOrders = true := by kernel_rfl

def S_laws_eqProof : Sum := { fid := 152, dom := [s114, s114], cod := [(.bool 4)], dp := true, fz := false, pre := fun x => True, g := fun x => (((Sh.eqB s114) x.1 x.2.1), ()) }
def S_laws_eqProof_tab : List (Nat × Sum) := []
theorem S_laws_eqProof_ok : FnOK Try.prog 152 S_laws_eqProof := by
  refine at_enter 20 (fun x => ⟨[(0, aG [cI x.1.1, cI x.1.2.1, cI x.1.2.2]), (1, aG [cI x.2.1.1, cI x.2.1.2.1, cI x.2.1.2.2])], []⟩) Try.func152 rfl (by kernel_rfl) (fun x => rfl) ?_
  rintro w0 Z0 ⟨x0, x1, u⟩ a w
  revert x0 x1
  intro (x0 : T114) (x1 : T114) hpre hlens h
  replace h : At w0 Z0 [] 20 ⟨[(0, aG [cI x0.1, cI x0.2.1, cI x0.2.2]), (1, aG [cI x1.1, cI x1.2.1, cI x1.2.2])], []⟩ a w := h
  have hT : TabOK Try.prog S_laws_eqProof_tab := .nil
  refine wp_seq ?_
  refine at_regq (T := S_laws_eqProof_tab) [{ ids := [1] }, { ids := [2] }] { ts := [2, 3, 4], os := [1, 2] } [] gamOK hT h (by kernel_rfl) trivial ?_
  intro a w h
  refine then_normal ?_
  refine wp_seq ?_
  refine wp_seq ?_
  refine at_regq (T := S_laws_eqProof_tab) [] { ts := [2, 3, 4, 9], os := [1, 2] } [] gamOK hT h (by kernel_rfl) trivial ?_
  intro a w h
  refine then_normal ?_
  refine at_test (!decide (x0.1 = x1.1)) h (by kernel_rfl) (fun h1 => ?_) (fun h1 => ?_)
  · replace h1 : ¬ (x0.1 = x1.1) := by simpa using h1
    refine wp_seq ?_
    refine at_regq (T := S_laws_eqProof_tab) [] { ts := [2, 3, 4], os := [1, 2] } [] gamOK hT h (by kernel_rfl) trivial ?_
    intro a w h
    refine then_normal ?_
    refine wp_ret ?_
    refine then_ret ?_
    exact at_return (S := S_laws_eqProof) (x := (x0, x1, ())) (false, ()) [] h (by kernel_rfl) trivial (congrArg (fun z => (z, ())) (show (false) = (Sh.eqB s114) x0 x1 from by exact (Sh.eqB_ne (s := s114) (fun e => h1 (congrArg (fun (y : T114) => y.1) e))).symm))
  · replace h1 : x0.1 = x1.1 := by simpa using h1
    refine wp_skip ?_
    refine then_normal ?_
    refine wp_seq ?_
    refine wp_seq ?_
    refine at_regq (T := S_laws_eqProof_tab) [] { ts := [2, 3, 4, 14], os := [1, 2] } [] gamOK hT h (by kernel_rfl) trivial ?_
    intro a w h
    refine then_normal ?_
    refine at_test (!decide (x0.2.1 = x1.2.1)) h (by kernel_rfl) (fun h2 => ?_) (fun h2 => ?_)
    · replace h2 : ¬ (x0.2.1 = x1.2.1) := by simpa using h2
      refine wp_seq ?_
      refine at_reg (T := S_laws_eqProof_tab) [] { ts := [2, 3, 4], os := [1, 2] } ⟨[(2, aP 1 0), (3, aP 2 0), (4, aB false)], [(1, oX 114 [cI x0.1, cI x0.2.1, cI x0.2.2]), (2, oX 114 [cI x1.1, cI x1.2.1, cI x1.2.2])]⟩ [] gamOK hT h (by kernel_rfl) trivial ?_
      intro a w h
      refine then_normal ?_
      refine wp_ret ?_
      refine then_ret ?_
      exact at_return (S := S_laws_eqProof) (x := (x0, x1, ())) (false, ()) [] h (by kernel_rfl) trivial (congrArg (fun z => (z, ())) (show (false) = (Sh.eqB s114) x0 x1 from by exact (Sh.eqB_ne (s := s114) (fun e => h2 (congrArg (fun (y : T114) => y.2.1) e))).symm))
    · replace h2 : x0.2.1 = x1.2.1 := by simpa using h2
      refine wp_skip ?_
      refine then_normal ?_
      refine wp_seq ?_
      refine wp_seq ?_
      refine at_reg (T := S_laws_eqProof_tab) [] { ts := [4, 19], os := [] } ⟨[(4, aB false), (19, aB (!decide (x0.2.2 = x1.2.2)))], []⟩ [] gamOK hT h (by kernel_rfl) trivial ?_
      intro a w h
      refine then_normal ?_
      refine at_test (!decide (x0.2.2 = x1.2.2)) h (by kernel_rfl) (fun h3 => ?_) (fun h3 => ?_)
      · replace h3 : ¬ (x0.2.2 = x1.2.2) := by simpa using h3
        refine wp_seq ?_
        refine at_regq (T := S_laws_eqProof_tab) [] { ts := [4], os := [] } [] gamOK hT h (by kernel_rfl) trivial ?_
        intro a w h
        refine then_normal ?_
        refine wp_ret ?_
        refine then_ret ?_
        exact at_return (S := S_laws_eqProof) (x := (x0, x1, ())) (false, ()) [] h (by kernel_rfl) trivial (congrArg (fun z => (z, ())) (show (false) = (Sh.eqB s114) x0 x1 from by exact (Sh.eqB_ne (s := s114) (fun e => h3 (congrArg (fun (y : T114) => y.2.2) e))).symm))
      · replace h3 : x0.2.2 = x1.2.2 := by simpa using h3
        refine wp_skip ?_
        refine then_normal ?_
        refine wp_seq ?_
        refine at_regq (T := S_laws_eqProof_tab) [] { ts := [4], os := [] } [] gamOK hT h (by kernel_rfl) trivial ?_
        intro a w h
        refine then_normal ?_
        refine wp_ret ?_
        exact at_return (S := S_laws_eqProof) (x := (x0, x1, ())) (true, ()) [] h (by kernel_rfl) trivial (congrArg (fun z => (z, ())) (show (true) = (Sh.eqB s114) x0 x1 from by exact ((Sh.eqB_iff s114).2 (Prod.ext h1 (Prod.ext h2 h3))).symm))

def S_laws_eqProofS : Sum := { fid := 85, dom := [s26, s26], cod := [(.bool 4)], dp := true, fz := false, pre := fun x => True, g := fun x => (((Sh.eqB s26) x.1 x.2.1), ()) }
def S_laws_eqProofS_tab : List (Nat × Sum) := [(152, S_laws_eqProof)]
theorem S_laws_eqProofS_ok : FnOK Try.prog 85 S_laws_eqProofS := by
  refine at_enter 27 (fun x => ⟨[(0, aF s114 x.1), (1, aF s114 x.2.1)], []⟩) Try.func85 rfl (by kernel_rfl) (fun x => rfl) ?_
  rintro w0 Z0 ⟨x0, x1, u⟩ a w
  revert x0 x1
  intro (x0 : (List T114)) (x1 : (List T114)) hpre hlens h
  replace h : At w0 Z0 [] 27 ⟨[(0, aF s114 x0), (1, aF s114 x1)], []⟩ a w := h
  have hl1 : List.length x0 ≤ 9223372036854775807 := hlens.1.1
  have hl2 : List.length x1 ≤ 9223372036854775807 := hlens.2.1.1
  have hT : TabOK Try.prog S_laws_eqProofS_tab := (.cons S_laws_eqProof_ok .nil)
  refine wp_seq ?_
  refine at_regq (T := S_laws_eqProofS_tab) [] { ts := [0, 1, 4], os := [] } [] gamOK hT h (by kernel_rfl) trivial ?_
  intro a w h
  refine then_normal ?_
  refine wp_seq ?_
  refine wp_seq ?_
  refine at_regq (T := S_laws_eqProofS_tab) [] { ts := [0, 1, 4, 10], os := [] } [] gamOK hT h (by kernel_rfl) trivial ?_
  intro a w h
  refine then_normal ?_
  refine at_test (!decide (((List.length x0 : Nat) : Int) = ((List.length x1 : Nat) : Int))) h (by kernel_rfl) (fun h1 => ?_) (fun h1 => ?_)
  · replace h1 : ¬ (((List.length x0 : Nat) : Int) = ((List.length x1 : Nat) : Int)) := by simpa using h1
    refine wp_seq ?_
    refine at_regq (T := S_laws_eqProofS_tab) [] { ts := [0, 1, 4], os := [] } [] gamOK hT h (by kernel_rfl) trivial ?_
    intro a w h
    refine then_normal ?_
    refine wp_ret ?_
    refine then_ret ?_
    exact at_return (S := S_laws_eqProofS) (x := (x0, x1, ())) (false, ()) [] h (by kernel_rfl) trivial (congrArg (fun z => (z, ())) (show (false) = (Sh.eqB s26) x0 x1 from by exact (Sh.eqB_ne (fun e => h1 (by rw [e]))).symm))
  · replace h1 : ((List.length x0 : Nat) : Int) = ((List.length x1 : Nat) : Int) := by simpa using h1
    refine wp_skip ?_
    refine then_normal ?_
    refine wp_seq ?_
    refine wp_seq ?_
    refine at_regq (T := S_laws_eqProofS_tab) [] { ts := [0, 1, 4, 5], os := [] } [] gamOK hT h (by kernel_rfl) trivial ?_
    intro a w h
    refine then_normal ?_
    refine wp_block ?_
    replace h := at_out (σ' := ⟨[(0, aF s114 x0), (1, aF s114 x1), (4, aB false), (5, aI 0)], []⟩) { ts := [0, 1, 4, 5], os := [] } h (by kernel_rfl)
    refine at_loop (fun i : Nat => (⟨[(0, aF s114 x0), (1, aF s114 x1), (4, aB false), (5, aI ((i : Nat) : Int))], []⟩ : St)) (fun i => (i ≤ List.length x0 ∧ x0.take i = x1.take i)) (fun i => List.length x0 - i) (0) h (st_congr1 (fun (d0 : Int) => (⟨[(0, aF s114 x0), (1, aF s114 x1), (4, aB false), (5, aI d0)], []⟩ : St)) (show (0 : Int) = (((0) : Nat) : Int) from by first | rfl | (rfl))) (by exact ⟨Nat.zero_le _, rfl⟩) ?_
    intro i a w hok0 h
    refine wp_seq ?_
    refine wp_seq ?_
    refine at_reg (T := S_laws_eqProofS_tab) [] { ts := [0, 1, 4, 5, 14], os := [] } ⟨[(0, aF s114 x0), (1, aF s114 x1), (4, aB false), (5, aI ((i : Nat) : Int)), (14, aB (decide (((i : Nat) : Int) < ((List.length x0 : Nat) : Int))))], []⟩ [] gamOK hT h (by kernel_rfl) trivial ?_
    intro a w h
    refine then_normal ?_
    refine at_test (decide (((i : Nat) : Int) < ((List.length x0 : Nat) : Int))) h (by kernel_rfl) (fun h2 => ?_) (fun h2 => ?_)
    · replace h2 : ((i : Nat) : Int) < ((List.length x0 : Nat) : Int) := of_decide_eq_true h2
      refine wp_skip ?_
      refine then_normal ?_
      refine wp_seq ?_
      refine wp_block ?_
      refine wp_seq ?_
      refine at_anyq (T := S_laws_eqProofS_tab) [{}, {}, {}, {}, {}, {}, {}, {}, {}, {}] { ts := [0, 1, 4, 5, 26], os := [] } [(0 : Int) ≤ ((i : Nat) : Int) ∧ ((i : Nat) : Int) < ((List.length x0 : Nat) : Int), (0 : Int) ≤ ((i : Nat) : Int) ∧ ((i : Nat) : Int) < ((List.length x1 : Nat) : Int), True] gamOK hT mixed h (by kernel_rfl) ⟨(by refine ⟨?_, ?_⟩ <;> (first | omega | (simp only [List.length_append, List.length_cons, List.length_nil, List.length_set, List.length_take, List.length_drop, List.length_replicate, List.length_map, Nat.min_def]; omega) | (simp; done) | (simp; omega))), (by refine ⟨?_, ?_⟩ <;> (first | omega | (simp only [List.length_append, List.length_cons, List.length_nil, List.length_set, List.length_take, List.length_drop, List.length_replicate, List.length_map, Nat.min_def]; omega) | (simp; done) | (simp; omega))), trivial, trivial⟩ ?_
      intro a w h
      refine then_normal ?_
      refine at_test (!((Sh.eqB s114) (x0.getD i (0, (0, 0))) (x1.getD i (0, (0, 0))))) h (by kernel_rfl) (fun h3 => ?_) (fun h3 => ?_)
      · replace h3 : ((Sh.eqB s114) (x0.getD i (0, (0, 0))) (x1.getD i (0, (0, 0)))) = false := notT h3
        refine wp_seq ?_
        refine at_regq (T := S_laws_eqProofS_tab) [] { ts := [0, 1, 4, 5], os := [] } [] gamOK hT h (by kernel_rfl) trivial ?_
        intro a w h
        refine then_normal ?_
        refine wp_ret ?_
        refine in_ret ?_
        refine then_ret ?_
        refine then_ret ?_
        refine in_ret ?_
        refine then_ret ?_
        exact at_return (S := S_laws_eqProofS) (x := (x0, x1, ())) (false, ()) [] h (by kernel_rfl) trivial (congrArg (fun z => (z, ())) (show (false) = (Sh.eqB s26) x0 x1 from by exact (Sh.eqB_ne (s := s26) (fun e => Sh.of_eqB_ne h3 (by rw [e]))).symm))
      · replace h3 : ((Sh.eqB s114) (x0.getD i (0, (0, 0))) (x1.getD i (0, (0, 0)))) = true := notF h3
        refine wp_skip ?_
        refine in_normal ?_
        refine then_normal ?_
        refine at_regq (T := S_laws_eqProofS_tab) [{}, { nw := true }] { ts := [0, 1, 4, 5], os := [] } [I64 (((i : Nat) : Int) + 1)] gamOK hT h (by kernel_rfl) ⟨⟨by first | omega | (simp only [List.length_append, List.length_cons, List.length_nil, List.length_set, List.length_take, List.length_drop, List.length_replicate, List.length_map, Nat.min_def]; omega) | (simp; done) | (simp; omega), by first | omega | (simp only [List.length_append, List.length_cons, List.length_nil, List.length_set, List.length_take, List.length_drop, List.length_replicate, List.length_map, Nat.min_def]; omega) | (simp; done) | (simp; omega)⟩, trivial⟩ ?_
        intro a w h
        replace h := at_out (σ' := ⟨[(0, aF s114 x0), (1, aF s114 x1), (4, aB false), (5, aI (((i : Nat) : Int) + 1))], []⟩) { ts := [0, 1, 4, 5], os := [] } h (by kernel_rfl)
        exact ⟨i + 1, at_eq h (st_congr1 (fun (d0 : Int) => (⟨[(0, aF s114 x0), (1, aF s114 x1), (4, aB false), (5, aI d0)], []⟩ : St)) (show (((i : Nat) : Int) + 1 : Int) = (((i + 1) : Nat) : Int) from by first | rfl | (omega))), (by exact ⟨by omega, eqTo_step (z := (0, (0, 0))) (by omega) (by omega) hok0.2 (Sh.of_eqB h3)⟩), (by omega)⟩
    · replace h2 : ¬ (((i : Nat) : Int) < ((List.length x0 : Nat) : Int)) := of_decide_eq_false h2
      refine wp_exit ?_
      refine then_exit ?_
      refine then_exit ?_
      refine in_hit ?_
      refine then_normal ?_
      refine wp_seq ?_
      refine at_regq (T := S_laws_eqProofS_tab) [] { ts := [4], os := [] } [] gamOK hT h (by kernel_rfl) trivial ?_
      intro a w h
      refine then_normal ?_
      refine wp_ret ?_
      exact at_return (S := S_laws_eqProofS) (x := (x0, x1, ())) (true, ()) [] h (by kernel_rfl) trivial (congrArg (fun z => (z, ())) (show (true) = (Sh.eqB s26) x0 x1 from by (have e := hok0.2; rw [take_all (by omega), take_all (by omega)] at e; exact ((Sh.eqB_iff s26).2 e).symm)))

def S_laws_eqLedger : Sum := { fid := 19, dom := [s28, s28], cod := [(.bool 4)], dp := true, fz := false, pre := fun x => True, g := fun x => (((Sh.eqB s28) x.1 x.2.1), ()) }
def S_laws_eqLedger_tab : List (Nat × Sum) := [(85, S_laws_eqProofS)]
theorem S_laws_eqLedger_ok : FnOK Try.prog 19 S_laws_eqLedger := by
  refine at_enter 11 (fun x => ⟨[(0, aG [.ro s114 x.1]), (1, aG [.ro s114 x.2.1])], []⟩) Try.func19 rfl (by kernel_rfl) (fun x => rfl) ?_
  rintro w0 Z0 ⟨x0, x1, u⟩ a w
  revert x0 x1
  intro (x0 : (List T114)) (x1 : (List T114)) hpre hlens h
  replace h : At w0 Z0 [] 11 ⟨[(0, aG [.ro s114 x0]), (1, aG [.ro s114 x1])], []⟩ a w := h
  have hl1 : List.length x0 ≤ 9223372036854775807 := hlens.1.1
  have hl2 : List.length x1 ≤ 9223372036854775807 := hlens.2.1.1
  have hT : TabOK Try.prog S_laws_eqLedger_tab := (.cons S_laws_eqProofS_ok .nil)
  refine wp_seq ?_
  refine at_regq (T := S_laws_eqLedger_tab) [{ ids := [1] }, { ids := [2] }] { ts := [2, 3, 4], os := [1, 2] } [] gamOK hT h (by kernel_rfl) trivial ?_
  intro a w h
  refine then_normal ?_
  refine wp_seq ?_
  refine wp_seq ?_
  refine at_regq (T := S_laws_eqLedger_tab) [] { ts := [4, 10], os := [] } [True] gamOK hT h (by kernel_rfl) ⟨trivial, trivial⟩ ?_
  intro a w h
  refine then_normal ?_
  refine at_test (!((Sh.eqB s26) x0 x1)) h (by kernel_rfl) (fun h1 => ?_) (fun h1 => ?_)
  · replace h1 : ((Sh.eqB s26) x0 x1) = false := notT h1
    refine wp_seq ?_
    refine at_regq (T := S_laws_eqLedger_tab) [] { ts := [4], os := [] } [] gamOK hT h (by kernel_rfl) trivial ?_
    intro a w h
    refine then_normal ?_
    refine wp_ret ?_
    refine then_ret ?_
    exact at_return (S := S_laws_eqLedger) (x := (x0, x1, ())) (false, ()) [] h (by kernel_rfl) trivial (congrArg (fun z => (z, ())) (show (false) = (Sh.eqB s28) x0 x1 from by exact (Sh.eqB_ne (s := s28) (fun e => Sh.of_eqB_ne h1 e)).symm))
  · replace h1 : ((Sh.eqB s26) x0 x1) = true := notF h1
    refine wp_skip ?_
    refine then_normal ?_
    refine wp_seq ?_
    refine at_regq (T := S_laws_eqLedger_tab) [] { ts := [4], os := [] } [] gamOK hT h (by kernel_rfl) trivial ?_
    intro a w h
    refine then_normal ?_
    refine wp_ret ?_
    exact at_return (S := S_laws_eqLedger) (x := (x0, x1, ())) (true, ()) [] h (by kernel_rfl) trivial (congrArg (fun z => (z, ())) (show (true) = (Sh.eqB s28) x0 x1 from by exact ((Sh.eqB_iff s28).2 (Sh.of_eqB h1)).symm))

def S_laws_heldProofS : Sum := { fid := 87, dom := [s26, (.int 3)], cod := [(.int 3)], dp := true, fz := false, pre := fun x => (pMk s26) x.1 x.2.1, g := fun x => (((heldD s26) x.1 x.2.1), ()) }
def S_laws_heldProofS_tab : List (Nat × Sum) := []
theorem S_laws_heldProofS_ok : FnOK Try.prog 87 S_laws_heldProofS := by
  refine at_enter 40 (fun x => ⟨[(0, aF s114 x.1), (1, aI x.2.1)], []⟩) Try.func87 rfl (by kernel_rfl) (fun x => rfl) ?_
  rintro w0 Z0 ⟨x0, x1, u⟩ a w
  revert x0 x1
  intro (x0 : (List T114)) (x1 : Int) hpre hlens h
  replace h : At w0 Z0 [] 40 ⟨[(0, aF s114 x0), (1, aI x1)], []⟩ a w := h
  replace hpre : (pMk s26) x0 x1 := hpre
  have hl1 : List.length x0 ≤ 9223372036854775807 := hlens.1.1
  have hT : TabOK Try.prog S_laws_heldProofS_tab := .nil
  have hp : 0 ≤ x1 ∧ x1 + ((Sh.ct s26 x0 : Nat) : Int) ≤ 4611686018427387904 := hpre
  have hct0 : Sh.ct s26 x0 = ctL (Sh.ct s114) x0 := rfl
  refine wp_seq ?_
  refine at_regq (T := S_laws_heldProofS_tab) [] { ts := [0, 1, 4], os := [] } [] gamOK hT h (by kernel_rfl) trivial ?_
  intro a w h
  refine then_normal ?_
  refine wp_seq ?_
  refine wp_seq ?_
  refine at_regq (T := S_laws_heldProofS_tab) [] { ts := [0, 1, 4, 5], os := [] } [] gamOK hT h (by kernel_rfl) trivial ?_
  intro a w h
  refine then_normal ?_
  refine wp_block ?_
  replace h := at_out (σ' := ⟨[(0, aF s114 x0), (1, aI x1), (4, aI 0), (5, aI 0)], []⟩) { ts := [0, 1, 4, 5], os := [] } h (by kernel_rfl)
  refine at_loop (fun i : Nat => (⟨[(0, aF s114 x0), (1, aI (x1 + ((ctL (Sh.ct s114) (List.take i x0) : Nat) : Int))), (4, aI 0), (5, aI ((i : Nat) : Int))], []⟩ : St)) (fun i => (i ≤ List.length x0 ∧ mkL (Sh.mk s114) (Sh.ct s114) x1 (x0.take i) = x0.take i)) (fun i => List.length x0 - i) (0) h (st_congr2 (fun (d0 : Int) (d1 : Int) => (⟨[(0, aF s114 x0), (1, aI d0), (4, aI 0), (5, aI d1)], []⟩ : St)) (show (x1 : Int) = (x1 + ((ctL (Sh.ct s114) (List.take (0) x0) : Nat) : Int)) from by first | rfl | (simp [ctL])) (show (0 : Int) = (((0) : Nat) : Int) from by first | rfl | (simp [ctL]))) (by exact ⟨Nat.zero_le _, by simp [mkL]⟩) ?_
  intro i a w hok0 h
  refine wp_seq ?_
  refine wp_seq ?_
  refine at_regq (T := S_laws_heldProofS_tab) [] { ts := [0, 1, 4, 5, 9], os := [] } [] gamOK hT h (by kernel_rfl) trivial ?_
  intro a w h
  refine then_normal ?_
  refine at_test (decide (((i : Nat) : Int) < ((List.length x0 : Nat) : Int))) h (by kernel_rfl) (fun h1 => ?_) (fun h1 => ?_)
  · replace h1 : ((i : Nat) : Int) < ((List.length x0 : Nat) : Int) := of_decide_eq_true h1
    have hat := ctL_at_le (c := Sh.ct s114) (xs := x0) (z := (0, (0, 0))) (i := i) (by omega)
    have hsu := ctL_take_succ (c := Sh.ct s114) (xs := x0) (z := (0, (0, 0))) (i := i) (by omega)
    have hci : Sh.ct s114 (x0.getD i (0, (0, 0))) = (1 + (1 + 1)) := rfl
    refine wp_skip ?_
    refine then_normal ?_
    refine wp_seq ?_
    refine wp_block ?_
    refine wp_seq ?_
    refine wp_seq ?_
    refine at_reg (T := S_laws_heldProofS_tab) [] { ts := [0, 1, 4, 5, 18], os := [] } ⟨[(0, aF s114 x0), (1, aI (x1 + ((ctL (Sh.ct s114) (List.take i x0) : Nat) : Int))), (4, aI 0), (5, aI ((i : Nat) : Int)), (18, aB (!decide ((x0.getD i (0, (0, 0))).1 = (x1 + ((ctL (Sh.ct s114) (List.take i x0) : Nat) : Int)))))], []⟩ [(0 : Int) ≤ ((i : Nat) : Int) ∧ ((i : Nat) : Int) < ((List.length x0 : Nat) : Int)] gamOK hT h (by kernel_rfl) ⟨(by refine ⟨?_, ?_⟩ <;> (first | omega | (simp only [List.length_append, List.length_cons, List.length_nil, List.length_set, List.length_take, List.length_drop, List.length_replicate, List.length_map, Nat.min_def]; omega) | (simp; done) | (simp; omega))), trivial⟩ ?_
    intro a w h
    refine then_normal ?_
    refine at_test (!decide ((x0.getD i (0, (0, 0))).1 = (x1 + ((ctL (Sh.ct s114) (List.take i x0) : Nat) : Int)))) h (by kernel_rfl) (fun h2 => ?_) (fun h2 => ?_)
    · replace h2 : ¬ ((x0.getD i (0, (0, 0))).1 = (x1 + ((ctL (Sh.ct s114) (List.take i x0) : Nat) : Int))) := by simpa using h2
      refine wp_seq ?_
      refine at_regq (T := S_laws_heldProofS_tab) [] { ts := [0, 1, 4, 5], os := [] } [] gamOK hT h (by kernel_rfl) trivial ?_
      intro a w h
      refine then_normal ?_
      refine wp_ret ?_
      refine then_ret ?_
      refine in_ret ?_
      refine then_ret ?_
      refine then_ret ?_
      refine in_ret ?_
      refine then_ret ?_
      exact at_return (S := S_laws_heldProofS) (x := (x0, x1, ())) ((-1), ()) [] h (by kernel_rfl) trivial (congrArg (fun z => (z, ())) (show ((-1)) = (heldD s26) x0 x1 from by refine (heldD_no (s := s26) (fun e => ?_)).symm; have e2 : (x1 + ((ctL (Sh.ct s114) (List.take i x0) : Nat) : Int)) = (x0.getD i (0, (0, 0))).1 := congrArg (fun (y : T114) => y.1) (mkL_get (z := (0, (0, 0))) (i := i) e (by omega)); omega))
    · replace h2 : (x0.getD i (0, (0, 0))).1 = (x1 + ((ctL (Sh.ct s114) (List.take i x0) : Nat) : Int)) := by simpa using h2
      refine wp_skip ?_
      refine then_normal ?_
      refine wp_seq ?_
      refine at_regq (T := S_laws_heldProofS_tab) [{}, { nw := true }] { ts := [0, 1, 4, 5], os := [] } [I64 ((x1 + ((ctL (Sh.ct s114) (List.take i x0) : Nat) : Int)) + 1)] gamOK hT h (by kernel_rfl) ⟨⟨by first | omega | (simp only [List.length_append, List.length_cons, List.length_nil, List.length_set, List.length_take, List.length_drop, List.length_replicate, List.length_map, Nat.min_def]; omega) | (simp; done) | (simp; omega), by first | omega | (simp only [List.length_append, List.length_cons, List.length_nil, List.length_set, List.length_take, List.length_drop, List.length_replicate, List.length_map, Nat.min_def]; omega) | (simp; done) | (simp; omega)⟩, trivial⟩ ?_
      intro a w h
      refine then_normal ?_
      refine wp_seq ?_
      refine wp_seq ?_
      refine at_regq (T := S_laws_heldProofS_tab) [] { ts := [0, 1, 4, 5, 27], os := [] } [(0 : Int) ≤ ((i : Nat) : Int) ∧ ((i : Nat) : Int) < ((List.length x0 : Nat) : Int)] gamOK hT h (by kernel_rfl) ⟨(by refine ⟨?_, ?_⟩ <;> (first | omega | (simp only [List.length_append, List.length_cons, List.length_nil, List.length_set, List.length_take, List.length_drop, List.length_replicate, List.length_map, Nat.min_def]; omega) | (simp; done) | (simp; omega))), trivial⟩ ?_
      intro a w h
      refine then_normal ?_
      refine at_test (!decide ((x0.getD i (0, (0, 0))).2.1 = (x1 + ((ctL (Sh.ct s114) (List.take i x0) : Nat) : Int)) + 1)) h (by kernel_rfl) (fun h3 => ?_) (fun h3 => ?_)
      · replace h3 : ¬ ((x0.getD i (0, (0, 0))).2.1 = (x1 + ((ctL (Sh.ct s114) (List.take i x0) : Nat) : Int)) + 1) := by simpa using h3
        refine wp_seq ?_
        refine at_regq (T := S_laws_heldProofS_tab) [] { ts := [0, 1, 4, 5], os := [] } [] gamOK hT h (by kernel_rfl) trivial ?_
        intro a w h
        refine then_normal ?_
        refine wp_ret ?_
        refine then_ret ?_
        refine in_ret ?_
        refine then_ret ?_
        refine then_ret ?_
        refine in_ret ?_
        refine then_ret ?_
        exact at_return (S := S_laws_heldProofS) (x := (x0, x1, ())) ((-1), ()) [] h (by kernel_rfl) trivial (congrArg (fun z => (z, ())) (show ((-1)) = (heldD s26) x0 x1 from by refine (heldD_no (s := s26) (fun e => ?_)).symm; have e2 : (x1 + ((ctL (Sh.ct s114) (List.take i x0) : Nat) : Int)) + ((1 : Nat) : Int) = (x0.getD i (0, (0, 0))).2.1 := congrArg (fun (y : T114) => y.2.1) (mkL_get (z := (0, (0, 0))) (i := i) e (by omega)); omega))
      · replace h3 : (x0.getD i (0, (0, 0))).2.1 = (x1 + ((ctL (Sh.ct s114) (List.take i x0) : Nat) : Int)) + 1 := by simpa using h3
        refine wp_skip ?_
        refine then_normal ?_
        refine wp_seq ?_
        refine at_regq (T := S_laws_heldProofS_tab) [{}, { nw := true }] { ts := [0, 1, 4, 5], os := [] } [I64 (((x1 + ((ctL (Sh.ct s114) (List.take i x0) : Nat) : Int)) + 1) + 1)] gamOK hT h (by kernel_rfl) ⟨⟨by first | omega | (simp only [List.length_append, List.length_cons, List.length_nil, List.length_set, List.length_take, List.length_drop, List.length_replicate, List.length_map, Nat.min_def]; omega) | (simp; done) | (simp; omega), by first | omega | (simp only [List.length_append, List.length_cons, List.length_nil, List.length_set, List.length_take, List.length_drop, List.length_replicate, List.length_map, Nat.min_def]; omega) | (simp; done) | (simp; omega)⟩, trivial⟩ ?_
        intro a w h
        refine then_normal ?_
        refine wp_seq ?_
        refine wp_seq ?_
        refine at_reg (T := S_laws_heldProofS_tab) [] { ts := [0, 1, 4, 5, 36], os := [] } ⟨[(0, aF s114 x0), (1, aI (((x1 + ((ctL (Sh.ct s114) (List.take i x0) : Nat) : Int)) + 1) + 1)), (4, aI 0), (5, aI ((i : Nat) : Int)), (36, aB (!decide ((x0.getD i (0, (0, 0))).2.2 = ((x1 + ((ctL (Sh.ct s114) (List.take i x0) : Nat) : Int)) + 1) + 1)))], []⟩ [(0 : Int) ≤ ((i : Nat) : Int) ∧ ((i : Nat) : Int) < ((List.length x0 : Nat) : Int)] gamOK hT h (by kernel_rfl) ⟨(by refine ⟨?_, ?_⟩ <;> (first | omega | (simp only [List.length_append, List.length_cons, List.length_nil, List.length_set, List.length_take, List.length_drop, List.length_replicate, List.length_map, Nat.min_def]; omega) | (simp; done) | (simp; omega))), trivial⟩ ?_
        intro a w h
        refine then_normal ?_
        refine at_test (!decide ((x0.getD i (0, (0, 0))).2.2 = ((x1 + ((ctL (Sh.ct s114) (List.take i x0) : Nat) : Int)) + 1) + 1)) h (by kernel_rfl) (fun h4 => ?_) (fun h4 => ?_)
        · replace h4 : ¬ ((x0.getD i (0, (0, 0))).2.2 = ((x1 + ((ctL (Sh.ct s114) (List.take i x0) : Nat) : Int)) + 1) + 1) := by simpa using h4
          refine wp_seq ?_
          refine at_regq (T := S_laws_heldProofS_tab) [] { ts := [0, 1, 4, 5], os := [] } [] gamOK hT h (by kernel_rfl) trivial ?_
          intro a w h
          refine then_normal ?_
          refine wp_ret ?_
          refine then_ret ?_
          refine in_ret ?_
          refine then_ret ?_
          refine then_ret ?_
          refine in_ret ?_
          refine then_ret ?_
          exact at_return (S := S_laws_heldProofS) (x := (x0, x1, ())) ((-1), ()) [] h (by kernel_rfl) trivial (congrArg (fun z => (z, ())) (show ((-1)) = (heldD s26) x0 x1 from by refine (heldD_no (s := s26) (fun e => ?_)).symm; have e2 : (x1 + ((ctL (Sh.ct s114) (List.take i x0) : Nat) : Int)) + ((1 : Nat) : Int) + ((1 : Nat) : Int) = (x0.getD i (0, (0, 0))).2.2 := congrArg (fun (y : T114) => y.2.2) (mkL_get (z := (0, (0, 0))) (i := i) e (by omega)); omega))
        · replace h4 : (x0.getD i (0, (0, 0))).2.2 = ((x1 + ((ctL (Sh.ct s114) (List.take i x0) : Nat) : Int)) + 1) + 1 := by simpa using h4
          refine wp_skip ?_
          refine then_normal ?_
          refine at_regq (T := S_laws_heldProofS_tab) [{}, { nw := true }] { ts := [0, 1, 4, 5], os := [] } [I64 ((((x1 + ((ctL (Sh.ct s114) (List.take i x0) : Nat) : Int)) + 1) + 1) + 1)] gamOK hT h (by kernel_rfl) ⟨⟨by first | omega | (simp only [List.length_append, List.length_cons, List.length_nil, List.length_set, List.length_take, List.length_drop, List.length_replicate, List.length_map, Nat.min_def]; omega) | (simp; done) | (simp; omega), by first | omega | (simp only [List.length_append, List.length_cons, List.length_nil, List.length_set, List.length_take, List.length_drop, List.length_replicate, List.length_map, Nat.min_def]; omega) | (simp; done) | (simp; omega)⟩, trivial⟩ ?_
          intro a w h
          refine in_normal ?_
          refine then_normal ?_
          refine at_regq (T := S_laws_heldProofS_tab) [{}, { nw := true }] { ts := [0, 1, 4, 5], os := [] } [I64 (((i : Nat) : Int) + 1)] gamOK hT h (by kernel_rfl) ⟨⟨by first | omega | (simp only [List.length_append, List.length_cons, List.length_nil, List.length_set, List.length_take, List.length_drop, List.length_replicate, List.length_map, Nat.min_def]; omega) | (simp; done) | (simp; omega), by first | omega | (simp only [List.length_append, List.length_cons, List.length_nil, List.length_set, List.length_take, List.length_drop, List.length_replicate, List.length_map, Nat.min_def]; omega) | (simp; done) | (simp; omega)⟩, trivial⟩ ?_
          intro a w h
          replace h := at_out (σ' := ⟨[(0, aF s114 x0), (1, aI ((((x1 + ((ctL (Sh.ct s114) (List.take i x0) : Nat) : Int)) + 1) + 1) + 1)), (4, aI 0), (5, aI (((i : Nat) : Int) + 1))], []⟩) { ts := [0, 1, 4, 5], os := [] } h (by kernel_rfl)
          exact ⟨i + 1, at_eq h (st_congr2 (fun (d0 : Int) (d1 : Int) => (⟨[(0, aF s114 x0), (1, aI d0), (4, aI 0), (5, aI d1)], []⟩ : St)) (show ((((x1 + ((ctL (Sh.ct s114) (List.take i x0) : Nat) : Int)) + 1) + 1) + 1 : Int) = (x1 + ((ctL (Sh.ct s114) (List.take (i + 1) x0) : Nat) : Int)) from by first | rfl | (omega)) (show (((i : Nat) : Int) + 1 : Int) = (((i + 1) : Nat) : Int) from by first | rfl | (omega))), (by exact ⟨by omega, mkL_step (z := (0, (0, 0))) (by omega) hok0.2 (Prod.ext (by show ((x1 + ((ctL (Sh.ct s114) (List.take i x0) : Nat) : Int)) : Int) = (x0.getD i (0, (0, 0))).1; omega) (Prod.ext (by show ((x1 + ((ctL (Sh.ct s114) (List.take i x0) : Nat) : Int)) + ((1 : Nat) : Int) : Int) = (x0.getD i (0, (0, 0))).2.1; omega) (by show ((x1 + ((ctL (Sh.ct s114) (List.take i x0) : Nat) : Int)) + ((1 : Nat) : Int) + ((1 : Nat) : Int) : Int) = (x0.getD i (0, (0, 0))).2.2; omega)))⟩), (by omega)⟩
  · replace h1 : ¬ (((i : Nat) : Int) < ((List.length x0 : Nat) : Int)) := of_decide_eq_false h1
    refine wp_exit ?_
    refine then_exit ?_
    refine then_exit ?_
    refine in_hit ?_
    refine then_normal ?_
    refine wp_seq ?_
    refine at_reg (T := S_laws_heldProofS_tab) [] { ts := [4], os := [] } ⟨[(4, aI (x1 + ((ctL (Sh.ct s114) (List.take i x0) : Nat) : Int)))], []⟩ [] gamOK hT h (by kernel_rfl) trivial ?_
    intro a w h
    refine then_normal ?_
    refine wp_ret ?_
    exact at_return (S := S_laws_heldProofS) (x := (x0, x1, ())) ((x1 + ((ctL (Sh.ct s114) (List.take i x0) : Nat) : Int)), ()) [] h (by kernel_rfl) trivial (congrArg (fun z => (z, ())) (show ((x1 + ((ctL (Sh.ct s114) (List.take i x0) : Nat) : Int))) = (heldD s26) x0 x1 from by have e := hok0.2; rw [take_all (by omega)] at e; rw [heldD_pos (s := s26) e, hct0, take_all (by omega)]))

def S_laws_heldLedger : Sum := { fid := 21, dom := [s28, (.int 3)], cod := [(.int 3)], dp := true, fz := false, pre := fun x => (pMkT s28) x.1 x.2.1, g := fun x => (((heldDT s28) x.1 x.2.1), ()) }
def S_laws_heldLedger_tab : List (Nat × Sum) := [(87, S_laws_heldProofS)]
theorem S_laws_heldLedger_ok : FnOK Try.prog 21 S_laws_heldLedger := by
  refine at_enter 12 (fun x => ⟨[(0, aG [.ro s114 x.1]), (1, aI x.2.1)], []⟩) Try.func21 rfl (by kernel_rfl) (fun x => rfl) ?_
  rintro w0 Z0 ⟨x0, x1, u⟩ a w
  revert x0 x1
  intro (x0 : (List T114)) (x1 : Int) hpre hlens h
  replace h : At w0 Z0 [] 12 ⟨[(0, aG [.ro s114 x0]), (1, aI x1)], []⟩ a w := h
  replace hpre : (pMkT s28) x0 x1 := hpre
  have hl1 : List.length x0 ≤ 9223372036854775807 := hlens.1.1
  have hT : TabOK Try.prog S_laws_heldLedger_tab := (.cons S_laws_heldProofS_ok .nil)
  have hp : 0 ≤ x1 ∧ x1 + ((Sh.ctT s28 x0 : Nat) : Int) ≤ 4611686018427387904 := hpre
  have hct0 : Sh.ctT s28 x0 = (Sh.ct s26 x0) := rfl
  refine wp_seq ?_
  refine at_regq (T := S_laws_heldLedger_tab) [{ ids := [1] }] { ts := [1, 2, 4], os := [1] } [] gamOK hT h (by kernel_rfl) trivial ?_
  intro a w h
  refine then_normal ?_
  refine wp_seq ?_
  refine at_regq (T := S_laws_heldLedger_tab) [] { ts := [1, 4], os := [] } [(pMk s26) x0 x1] gamOK hT h (by kernel_rfl) ⟨(by (first | (show (0 : Int) ≤ _ ∧ _ + ((Sh.ct _ _ : Nat) : Int) ≤ (4611686018427387904 : Int); constructor <;> omega) | (show (0 : Int) ≤ _ ∧ _ + ((Sh.ctT _ _ : Nat) : Int) ≤ (4611686018427387904 : Int); constructor <;> omega))), trivial⟩ ?_
  intro a w h
  refine then_normal ?_
  refine wp_seq ?_
  refine wp_seq ?_
  refine at_regq (T := S_laws_heldLedger_tab) [] { ts := [1, 4, 10], os := [] } [] gamOK hT h (by kernel_rfl) trivial ?_
  intro a w h
  refine then_normal ?_
  refine at_test (decide (((heldD s26) x0 x1) < 0)) h (by kernel_rfl) (fun h1 => ?_) (fun h1 => ?_)
  · replace h1 : ((heldD s26) x0 x1) < 0 := of_decide_eq_true h1
    have hvh1 := heldD_neg (by omega) h1
    refine wp_seq ?_
    refine at_reg (T := S_laws_heldLedger_tab) [] { ts := [1, 4], os := [] } ⟨[(1, aI ((heldD s26) x0 x1)), (4, aI (-1))], []⟩ [] gamOK hT h (by kernel_rfl) trivial ?_
    intro a w h
    refine then_normal ?_
    refine wp_ret ?_
    refine then_ret ?_
    exact at_return (S := S_laws_heldLedger) (x := (x0, x1, ())) ((-1), ()) [] h (by kernel_rfl) trivial (congrArg (fun z => (z, ())) (show ((-1)) = (heldDT s28) x0 x1 from by refine (heldDT_no (s := s28) (fun e => ?_)).symm; have e2 : Sh.mk s26 x0 (x1) = x0 := e; exact hvh1 ((congrArg (fun k => Sh.mk s26 x0 k) (show (_ : Int) = x1 from by first | rfl | omega)).trans e2)))
  · replace h1 : ¬ (((heldD s26) x0 x1) < 0) := of_decide_eq_false h1
    have hvh1 := heldD_val h1
    refine wp_skip ?_
    refine then_normal ?_
    refine wp_seq ?_
    refine at_reg (T := S_laws_heldLedger_tab) [] { ts := [4], os := [] } ⟨[(4, aI ((heldD s26) x0 x1))], []⟩ [] gamOK hT h (by kernel_rfl) trivial ?_
    intro a w h
    refine then_normal ?_
    refine wp_ret ?_
    exact at_return (S := S_laws_heldLedger) (x := (x0, x1, ())) (((heldD s26) x0 x1), ()) [] h (by kernel_rfl) trivial (congrArg (fun z => (z, ())) (show (((heldD s26) x0 x1)) = (heldDT s28) x0 x1 from by rw [heldDT_pos (s := s28) (show Sh.mkT s28 x0 x1 = x0 from ((congrArg (fun k => Sh.mk s26 x0 k) (show (x1 : Int) = _ from by first | rfl | omega)).trans hvh1.1))]; omega))

def S_laws_markProofS : Sum := { fid := 86, dom := [s26, (.int 3)], cod := [(.int 3)], dp := true, fz := false, pre := fun x => (pMk s26) x.1 x.2.1, g := fun x => (((mkK s26) x.1 x.2.1), ()), kinds := [.io, .rd], upd := fun x => ((Sh.mk s26) x.1 x.2.1, (x.2.1, ())) }
def S_laws_markProofS_tab : List (Nat × Sum) := []
theorem S_laws_markProofS_ok : FnOK Try.prog 86 S_laws_markProofS := by
  refine at_enterI 34 [1] [2] (fun us x => ⟨[(0, aS 1), (1, aI x.2.1)], [(1, oR s114 x.1), (2, oP 1 (S_laws_markProofS.hd us 0))]⟩) Try.func86 rfl (by kernel_rfl) (fun us x => rfl) ?_
  rintro w0 Z0 us ⟨x0, x1, u⟩ L a w
  revert x0 x1
  intro (x0 : (List T114)) (x1 : Int) hio hpre hlens h
  replace h : At w0 Z0 L 34 ⟨[(0, aS 1), (1, aI x1)], [(1, oR s114 x0), (2, oP 1 (S_laws_markProofS.hd us 0))]⟩ a w := h
  replace hpre : (pMk s26) x0 x1 := hpre
  have hl1 : List.length x0 ≤ 9223372036854775807 := hlens.1.1
  have hT : TabOK Try.prog S_laws_markProofS_tab := .nil
  have hp : 0 ≤ x1 ∧ x1 + ((Sh.ct s26 x0 : Nat) : Int) ≤ 4611686018427387904 := hpre
  have hct0 : Sh.ct s26 x0 = ctL (Sh.ct s114) x0 := rfl
  refine wp_seq ?_
  refine at_regq (T := S_laws_markProofS_tab) [] { ts := [0, 1, 4], os := [1, 2] } [] gamOK hT h (by kernel_rfl) trivial ?_
  intro a w h
  refine then_normal ?_
  refine wp_seq ?_
  refine wp_seq ?_
  refine at_regq (T := S_laws_markProofS_tab) [] { ts := [0, 1, 4, 5], os := [1, 2] } [] gamOK hT h (by kernel_rfl) trivial ?_
  intro a w h
  refine then_normal ?_
  refine wp_block ?_
  replace h := at_out (σ' := ⟨[(0, aS 1), (1, aI x1), (4, aI 0), (5, aI 0)], [(1, oR s114 x0), (2, oP 1 (S_laws_markProofS.hd us 0))]⟩) { ts := [0, 1, 4, 5], os := [1, 2] } h (by kernel_rfl)
  refine at_loop (fun i : Nat => (⟨[(0, aS 1), (1, aI (x1 + ((ctL (Sh.ct s114) (List.take i x0) : Nat) : Int))), (4, aI 0), (5, aI ((i : Nat) : Int))], [(1, oR s114 (mkAt (Sh.mk s114) (Sh.ct s114) x1 x0 i)), (2, oP 1 (S_laws_markProofS.hd us 0))]⟩ : St)) (fun i => i ≤ List.length x0) (fun i => List.length x0 - i) (0) h (st_congr3 (fun (d0 : List T114) (d1 : Int) (d2 : Int) => (⟨[(0, aS 1), (1, aI d1), (4, aI 0), (5, aI d2)], [(1, oR s114 d0), (2, oP 1 (S_laws_markProofS.hd us 0))]⟩ : St)) (show (x0 : List T114) = (mkAt (Sh.mk s114) (Sh.ct s114) x1 x0 (0)) from by first | rfl | (first | exact mkAt_zero.symm | simp [ctL])) (show (x1 : Int) = (x1 + ((ctL (Sh.ct s114) (List.take (0) x0) : Nat) : Int)) from by first | rfl | (first | exact mkAt_zero.symm | simp [ctL])) (show (0 : Int) = (((0) : Nat) : Int) from by first | rfl | (first | exact mkAt_zero.symm | simp [ctL]))) (by omega) ?_
  intro i a w hok0 h
  refine wp_seq ?_
  refine wp_seq ?_
  refine at_regq (T := S_laws_markProofS_tab) [] { ts := [0, 1, 4, 5, 9], os := [1, 2] } [] gamOK hT h (by kernel_rfl) trivial ?_
  intro a w h
  refine then_normal ?_
  refine at_test (decide (((i : Nat) : Int) < ((List.length (mkAt (Sh.mk s114) (Sh.ct s114) x1 x0 i) : Nat) : Int))) h (by kernel_rfl) (fun h1 => ?_) (fun h1 => ?_)
  · replace h1 : ((i : Nat) : Int) < ((List.length (mkAt (Sh.mk s114) (Sh.ct s114) x1 x0 i) : Nat) : Int) := of_decide_eq_true h1
    have hml : List.length (mkAt (Sh.mk s114) (Sh.ct s114) x1 x0 i) = List.length x0 := mkAt_len
    rw [hml] at h1
    have hat := ctL_at_le (c := Sh.ct s114) (xs := x0) (z := (0, (0, 0))) (i := i) (by omega)
    have hsu := ctL_take_succ (c := Sh.ct s114) (xs := x0) (z := (0, (0, 0))) (i := i) (by omega)
    have hci : Sh.ct s114 (x0.getD i (0, (0, 0))) = (1 + (1 + 1)) := rfl
    have hge : List.getD (mkAt (Sh.mk s114) (Sh.ct s114) x1 x0 i) i (0, (0, 0)) = (x0.getD i (0, (0, 0))) := mkAt_get (by omega)
    refine wp_skip ?_
    refine then_normal ?_
    refine wp_seq ?_
    refine wp_block ?_
    refine wp_seq ?_
    replace h := at_open (σ' := ⟨[(0, aS 1), (1, aI (x1 + ((ctL (Sh.ct s114) (List.take i x0) : Nat) : Int))), (4, aI 0), (5, aI ((i : Nat) : Int)), (9, aB (decide (((i : Nat) : Int) < ((List.length (mkAt (Sh.mk s114) (Sh.ct s114) x1 x0 i) : Nat) : Int))))], [(1, some (.op s114 (mkAt (Sh.mk s114) (Sh.ct s114) x1 x0 i) i [cI ((mkAt (Sh.mk s114) (Sh.ct s114) x1 x0 i).getD i (0, (0, 0))).1, cI ((mkAt (Sh.mk s114) (Sh.ct s114) x1 x0 i).getD i (0, (0, 0))).2.1, cI ((mkAt (Sh.mk s114) (Sh.ct s114) x1 x0 i).getD i (0, (0, 0))).2.2])), (2, oP 1 (S_laws_markProofS.hd us 0))]⟩) (ps := [i < List.length (mkAt (Sh.mk s114) (Sh.ct s114) x1 x0 i)]) 1 i [] { ts := [0, 1, 4, 5, 9], os := [1, 2] } h (by kernel_rfl) ⟨(by first | omega | ((try simp only [hge, mkK]); omega) | (simp only [List.length_append, List.length_cons, List.length_nil, List.length_set, List.length_take, List.length_drop, List.length_replicate, List.length_map, Nat.min_def, mkAt_len]; omega) | (simp; done) | (simp; omega)), trivial⟩
    refine at_reg (T := S_laws_markProofS_tab) [] { ts := [0, 1, 4, 5], os := [1, 2] } ⟨[(0, aS 1), (1, aI (x1 + ((ctL (Sh.ct s114) (List.take i x0) : Nat) : Int))), (4, aI 0), (5, aI ((i : Nat) : Int))], [(1, some (.op s114 (mkAt (Sh.mk s114) (Sh.ct s114) x1 x0 i) i [cI (x1 + ((ctL (Sh.ct s114) (List.take i x0) : Nat) : Int)), cI ((mkAt (Sh.mk s114) (Sh.ct s114) x1 x0 i).getD i (0, (0, 0))).2.1, cI ((mkAt (Sh.mk s114) (Sh.ct s114) x1 x0 i).getD i (0, (0, 0))).2.2])), (2, oP 1 (S_laws_markProofS.hd us 0))]⟩ [(0 : Int) ≤ ((i : Nat) : Int) ∧ ((i : Nat) : Int) < ((List.length (mkAt (Sh.mk s114) (Sh.ct s114) x1 x0 i) : Nat) : Int), i = i] gamOK hT h (by kernel_rfl) ⟨(by refine ⟨?_, ?_⟩ <;> (first | omega | ((try simp only [hge, mkK]); omega) | (simp only [List.length_append, List.length_cons, List.length_nil, List.length_set, List.length_take, List.length_drop, List.length_replicate, List.length_map, Nat.min_def, mkAt_len]; omega) | (simp; done) | (simp; omega))), rfl, trivial⟩ ?_
    intro a w h
    refine then_normal ?_
    refine wp_seq ?_
    refine at_regq (T := S_laws_markProofS_tab) [{}, { nw := true }] { ts := [0, 1, 4, 5], os := [1, 2] } [I64 ((x1 + ((ctL (Sh.ct s114) (List.take i x0) : Nat) : Int)) + 1)] gamOK hT h (by kernel_rfl) ⟨⟨by first | omega | ((try simp only [hge, mkK]); omega) | (simp only [List.length_append, List.length_cons, List.length_nil, List.length_set, List.length_take, List.length_drop, List.length_replicate, List.length_map, Nat.min_def, mkAt_len]; omega) | (simp; done) | (simp; omega), by first | omega | ((try simp only [hge, mkK]); omega) | (simp only [List.length_append, List.length_cons, List.length_nil, List.length_set, List.length_take, List.length_drop, List.length_replicate, List.length_map, Nat.min_def, mkAt_len]; omega) | (simp; done) | (simp; omega)⟩, trivial⟩ ?_
    intro a w h
    refine then_normal ?_
    refine wp_seq ?_
    refine at_regq (T := S_laws_markProofS_tab) [] { ts := [0, 1, 4, 5], os := [1, 2] } [(0 : Int) ≤ ((i : Nat) : Int) ∧ ((i : Nat) : Int) < ((List.length (mkAt (Sh.mk s114) (Sh.ct s114) x1 x0 i) : Nat) : Int), i = i] gamOK hT h (by kernel_rfl) ⟨(by refine ⟨?_, ?_⟩ <;> (first | omega | ((try simp only [hge, mkK]); omega) | (simp only [List.length_append, List.length_cons, List.length_nil, List.length_set, List.length_take, List.length_drop, List.length_replicate, List.length_map, Nat.min_def, mkAt_len]; omega) | (simp; done) | (simp; omega))), rfl, trivial⟩ ?_
    intro a w h
    refine then_normal ?_
    refine wp_seq ?_
    refine at_regq (T := S_laws_markProofS_tab) [{}, { nw := true }] { ts := [0, 1, 4, 5], os := [1, 2] } [I64 (((x1 + ((ctL (Sh.ct s114) (List.take i x0) : Nat) : Int)) + 1) + 1)] gamOK hT h (by kernel_rfl) ⟨⟨by first | omega | ((try simp only [hge, mkK]); omega) | (simp only [List.length_append, List.length_cons, List.length_nil, List.length_set, List.length_take, List.length_drop, List.length_replicate, List.length_map, Nat.min_def, mkAt_len]; omega) | (simp; done) | (simp; omega), by first | omega | ((try simp only [hge, mkK]); omega) | (simp only [List.length_append, List.length_cons, List.length_nil, List.length_set, List.length_take, List.length_drop, List.length_replicate, List.length_map, Nat.min_def, mkAt_len]; omega) | (simp; done) | (simp; omega)⟩, trivial⟩ ?_
    intro a w h
    refine then_normal ?_
    refine wp_seq ?_
    refine at_reg (T := S_laws_markProofS_tab) [] { ts := [0, 1, 4, 5], os := [1, 2] } ⟨[(0, aS 1), (1, aI (((x1 + ((ctL (Sh.ct s114) (List.take i x0) : Nat) : Int)) + 1) + 1)), (4, aI 0), (5, aI ((i : Nat) : Int))], [(1, some (.op s114 (mkAt (Sh.mk s114) (Sh.ct s114) x1 x0 i) i [cI (x1 + ((ctL (Sh.ct s114) (List.take i x0) : Nat) : Int)), cI ((x1 + ((ctL (Sh.ct s114) (List.take i x0) : Nat) : Int)) + 1), cI (((x1 + ((ctL (Sh.ct s114) (List.take i x0) : Nat) : Int)) + 1) + 1)])), (2, oP 1 (S_laws_markProofS.hd us 0))]⟩ [(0 : Int) ≤ ((i : Nat) : Int) ∧ ((i : Nat) : Int) < ((List.length (mkAt (Sh.mk s114) (Sh.ct s114) x1 x0 i) : Nat) : Int), i = i] gamOK hT h (by kernel_rfl) ⟨(by refine ⟨?_, ?_⟩ <;> (first | omega | ((try simp only [hge, mkK]); omega) | (simp only [List.length_append, List.length_cons, List.length_nil, List.length_set, List.length_take, List.length_drop, List.length_replicate, List.length_map, Nat.min_def, mkAt_len]; omega) | (simp; done) | (simp; omega))), rfl, trivial⟩ ?_
    intro a w h
    refine then_normal ?_
    refine at_regq (T := S_laws_markProofS_tab) [{}, { nw := true }] { ts := [0, 1, 4, 5], os := [1, 2] } [I64 ((((x1 + ((ctL (Sh.ct s114) (List.take i x0) : Nat) : Int)) + 1) + 1) + 1)] gamOK hT h (by kernel_rfl) ⟨⟨by first | omega | ((try simp only [hge, mkK]); omega) | (simp only [List.length_append, List.length_cons, List.length_nil, List.length_set, List.length_take, List.length_drop, List.length_replicate, List.length_map, Nat.min_def, mkAt_len]; omega) | (simp; done) | (simp; omega), by first | omega | ((try simp only [hge, mkK]); omega) | (simp only [List.length_append, List.length_cons, List.length_nil, List.length_set, List.length_take, List.length_drop, List.length_replicate, List.length_map, Nat.min_def, mkAt_len]; omega) | (simp; done) | (simp; omega)⟩, trivial⟩ ?_
    intro a w h
    refine in_normal ?_
    refine then_normal ?_
    refine at_regq (T := S_laws_markProofS_tab) [{}, { nw := true }] { ts := [0, 1, 4, 5], os := [1, 2] } [I64 (((i : Nat) : Int) + 1)] gamOK hT h (by kernel_rfl) ⟨⟨by first | omega | ((try simp only [hge, mkK]); omega) | (simp only [List.length_append, List.length_cons, List.length_nil, List.length_set, List.length_take, List.length_drop, List.length_replicate, List.length_map, Nat.min_def, mkAt_len]; omega) | (simp; done) | (simp; omega), by first | omega | ((try simp only [hge, mkK]); omega) | (simp only [List.length_append, List.length_cons, List.length_nil, List.length_set, List.length_take, List.length_drop, List.length_replicate, List.length_map, Nat.min_def, mkAt_len]; omega) | (simp; done) | (simp; omega)⟩, trivial⟩ ?_
    intro a w h
    replace h := at_shut (σ' := ⟨[(0, aS 1), (1, aI ((((x1 + ((ctL (Sh.ct s114) (List.take i x0) : Nat) : Int)) + 1) + 1) + 1)), (4, aI 0), (5, aI (((i : Nat) : Int) + 1))], [(1, oR s114 (List.set (mkAt (Sh.mk s114) (Sh.ct s114) x1 x0 i) i ((x1 + ((ctL (Sh.ct s114) (List.take i x0) : Nat) : Int)), ((x1 + ((ctL (Sh.ct s114) (List.take i x0) : Nat) : Int)) + 1, ((x1 + ((ctL (Sh.ct s114) (List.take i x0) : Nat) : Int)) + 1) + 1)))), (2, oP 1 (S_laws_markProofS.hd us 0))]⟩) (ps := []) 1 { ts := [0, 1, 4, 5], os := [1, 2] } h (by kernel_rfl) trivial
    replace h := at_out (σ' := ⟨[(0, aS 1), (1, aI ((((x1 + ((ctL (Sh.ct s114) (List.take i x0) : Nat) : Int)) + 1) + 1) + 1)), (4, aI 0), (5, aI (((i : Nat) : Int) + 1))], [(1, oR s114 (List.set (mkAt (Sh.mk s114) (Sh.ct s114) x1 x0 i) i ((x1 + ((ctL (Sh.ct s114) (List.take i x0) : Nat) : Int)), ((x1 + ((ctL (Sh.ct s114) (List.take i x0) : Nat) : Int)) + 1, ((x1 + ((ctL (Sh.ct s114) (List.take i x0) : Nat) : Int)) + 1) + 1)))), (2, oP 1 (S_laws_markProofS.hd us 0))]⟩) { ts := [0, 1, 4, 5], os := [1, 2] } h (by kernel_rfl)
    skip
    exact ⟨i + 1, at_eq h (st_congr3 (fun (d0 : List T114) (d1 : Int) (d2 : Int) => (⟨[(0, aS 1), (1, aI d1), (4, aI 0), (5, aI d2)], [(1, oR s114 d0), (2, oP 1 (S_laws_markProofS.hd us 0))]⟩ : St)) (show ((List.set (mkAt (Sh.mk s114) (Sh.ct s114) x1 x0 i) i ((x1 + ((ctL (Sh.ct s114) (List.take i x0) : Nat) : Int)), ((x1 + ((ctL (Sh.ct s114) (List.take i x0) : Nat) : Int)) + 1, ((x1 + ((ctL (Sh.ct s114) (List.take i x0) : Nat) : Int)) + 1) + 1))) : List T114) = (mkAt (Sh.mk s114) (Sh.ct s114) x1 x0 (i + 1)) from by first | rfl | (refine mkAt_set' (z := (0, (0, 0))) (by omega) ?_; first | (simp only [hge, mkK]; done) | ((try simp only [hge, mkK]); show _ = Sh.mk s114 (x0.getD i (0, (0, 0))) _; exact (Prod.ext (by show (_ : Int) = _; first | rfl | omega) (Prod.ext (by show (_ : Int) = _; first | rfl | omega) (by show (_ : Int) = _; first | rfl | omega)))))) (show ((((x1 + ((ctL (Sh.ct s114) (List.take i x0) : Nat) : Int)) + 1) + 1) + 1 : Int) = (x1 + ((ctL (Sh.ct s114) (List.take (i + 1) x0) : Nat) : Int)) from by first | rfl | (((try simp only [hge, mkK]); omega))) (show (((i : Nat) : Int) + 1 : Int) = (((i + 1) : Nat) : Int) from by first | rfl | (omega))), (by first | omega | (refine ⟨?_, ?_⟩ <;> omega)), (by omega)⟩
  · replace h1 : ¬ (((i : Nat) : Int) < ((List.length (mkAt (Sh.mk s114) (Sh.ct s114) x1 x0 i) : Nat) : Int)) := of_decide_eq_false h1
    have hml : List.length (mkAt (Sh.mk s114) (Sh.ct s114) x1 x0 i) = List.length x0 := mkAt_len
    rw [hml] at h1
    refine wp_exit ?_
    refine then_exit ?_
    refine then_exit ?_
    refine in_hit ?_
    refine then_normal ?_
    refine wp_seq ?_
    refine at_reg (T := S_laws_markProofS_tab) [] { ts := [4], os := [1, 2] } ⟨[(4, aI (x1 + ((ctL (Sh.ct s114) (List.take i x0) : Nat) : Int)))], [(1, oR s114 (mkAt (Sh.mk s114) (Sh.ct s114) x1 x0 i)), (2, oP 1 (S_laws_markProofS.hd us 0))]⟩ [] gamOK hT h (by kernel_rfl) trivial ?_
    intro a w h
    refine then_normal ?_
    refine wp_ret ?_
    exact at_returnI (S := S_laws_markProofS) (x := (x0, x1, ())) [1] [2] ((mkAt (Sh.mk s114) (Sh.ct s114) x1 x0 i), (x1, ())) (some ((x1 + ((ctL (Sh.ct s114) (List.take i x0) : Nat) : Int)), ())) [S_laws_markProofS.hd us 0 = S_laws_markProofS.hd us 0] hio h (by kernel_rfl) ⟨rfl, trivial⟩ (by first | rfl | (show ((mkAt (Sh.mk s114) (Sh.ct s114) x1 x0 i), (x1, ())) = ((Sh.mk s26) x0 x1, (x1, ())); rw [show ((mkAt (Sh.mk s114) (Sh.ct s114) x1 x0 i) : (List T114)) = (Sh.mk s26) x0 x1 from by exact mkAt_all (by omega)])) (fun z e => (Option.some.inj e) ▸ (congrArg (fun z => (z, ())) (show ((x1 + ((ctL (Sh.ct s114) (List.take i x0) : Nat) : Int))) = (mkK s26) x0 x1 from by (unfold mkK; rw [take_all (by omega)]; rfl))))

def S_laws_markLedger : Sum := { fid := 20, dom := [s28, (.int 3)], cod := [(.int 3)], dp := true, fz := false, pre := fun x => (pMkT s28) x.1 x.2.1, g := fun x => (((mkKT s28) x.1 x.2.1), ()), kinds := [.io, .rd], upd := fun x => ((Sh.mkT s28) x.1 x.2.1, (x.2.1, ())) }
def S_laws_markLedger_tab : List (Nat × Sum) := [(86, S_laws_markProofS)]
theorem S_laws_markLedger_ok : FnOK Try.prog 20 S_laws_markLedger := by
  refine at_enterI 10 [1] [2] (fun us x => ⟨[(0, aG [.sl 1]), (1, aI x.2.1)], [(1, oR s114 x.1), (2, oP 1 (S_laws_markLedger.hd us 0))]⟩) Try.func20 rfl (by kernel_rfl) (fun us x => rfl) ?_
  rintro w0 Z0 us ⟨x0, x1, u⟩ L a w
  revert x0 x1
  intro (x0 : (List T114)) (x1 : Int) hio hpre hlens h
  replace h : At w0 Z0 L 10 ⟨[(0, aG [.sl 1]), (1, aI x1)], [(1, oR s114 x0), (2, oP 1 (S_laws_markLedger.hd us 0))]⟩ a w := h
  replace hpre : (pMkT s28) x0 x1 := hpre
  have hl1 : List.length x0 ≤ 9223372036854775807 := hlens.1.1
  have hT : TabOK Try.prog S_laws_markLedger_tab := (.cons S_laws_markProofS_ok .nil)
  have hp : 0 ≤ x1 ∧ x1 + ((Sh.ctT s28 x0 : Nat) : Int) ≤ 4611686018427387904 := hpre
  have hct0 : Sh.ctT s28 x0 = (Sh.ct s26 x0) := rfl
  refine wp_seq ?_
  refine at_regq (T := S_laws_markLedger_tab) [{ ids := [3] }] { ts := [1, 2, 4], os := [1, 2, 3] } [] gamOK hT h (by kernel_rfl) trivial ?_
  intro a w h
  refine then_normal ?_
  refine wp_seq ?_
  refine at_regq (T := S_laws_markLedger_tab) [] { ts := [1, 4], os := [1, 2] } [(pMk s26) x0 x1] gamOK hT h (by kernel_rfl) ⟨(by (first | (show (0 : Int) ≤ _ ∧ _ + ((Sh.ct _ _ : Nat) : Int) ≤ (4611686018427387904 : Int); (try simp only [mkK, mkKT]); constructor <;> omega) | (show (0 : Int) ≤ _ ∧ _ + ((Sh.ctT _ _ : Nat) : Int) ≤ (4611686018427387904 : Int); (try simp only [mkK, mkKT]); constructor <;> omega))), trivial⟩ ?_
  intro a w h
  refine then_normal ?_
  refine wp_seq ?_
  refine at_regq (T := S_laws_markLedger_tab) [] { ts := [4], os := [1, 2] } [] gamOK hT h (by kernel_rfl) trivial ?_
  intro a w h
  refine then_normal ?_
  refine wp_ret ?_
  exact at_returnI (S := S_laws_markLedger) (x := (x0, x1, ())) [1] [2] (((Sh.mk s26) x0 x1), (x1, ())) (some (((mkK s26) x0 x1), ())) [S_laws_markLedger.hd us 0 = S_laws_markLedger.hd us 0] hio h (by kernel_rfl) ⟨rfl, trivial⟩ (by first | rfl | (show (((Sh.mk s26) x0 x1), (x1, ())) = ((Sh.mkT s28) x0 x1, (x1, ())); rw [show (((Sh.mk s26) x0 x1) : (List T114)) = (Sh.mkT s28) x0 x1 from by show _ = Sh.mkT s28 x0 x1; exact (congrArg (fun k => Sh.mk s26 x0 k) (show (_ : Int) = x1 from by first | rfl | ((try simp only [mkK, mkKT]); omega)))])) (fun z e => (Option.some.inj e) ▸ (congrArg (fun z => (z, ())) (show (((mkK s26) x0 x1)) = (mkKT s28) x0 x1 from by ((try simp only [mkK, mkKT]); omega))))

def S_laws_szProofS : Sum := { fid := 79, dom := [s22, (.int 3)], cod := [(.int 3)], dp := true, fz := false, pre := fun x => (pSz s22) x.1 x.2.1, g := fun x => (((szD s22) x.1 x.2.1), ()) }
def S_laws_szProofS_tab : List (Nat × Sum) := []
theorem S_laws_szProofS_ok : FnOK Try.prog 79 S_laws_szProofS := by
  refine at_enter 12 (fun x => ⟨[(0, aF s164 x.1), (1, aI x.2.1)], []⟩) Try.func79 rfl (by kernel_rfl) (fun x => rfl) ?_
  rintro w0 Z0 ⟨x0, x1, u⟩ a w
  revert x0 x1
  intro (x0 : (List T164)) (x1 : Int) hpre hlens h
  replace h : At w0 Z0 [] 12 ⟨[(0, aF s164 x0), (1, aI x1)], []⟩ a w := h
  replace hpre : (pSz s22) x0 x1 := hpre
  have hl1 : List.length x0 ≤ 9223372036854775807 := hlens.1.1
  have hT : TabOK Try.prog S_laws_szProofS_tab := .nil
  have hp : 0 ≤ x1 ∧ x1 ≤ 9223372036854775807 := hpre
  refine wp_seq ?_
  refine at_regq (T := S_laws_szProofS_tab) [] { ts := [0, 1, 4], os := [] } [] gamOK hT h (by kernel_rfl) trivial ?_
  intro a w h
  refine then_normal ?_
  refine wp_seq ?_
  refine at_regq (T := S_laws_szProofS_tab) [{}, {}, {}, { nw := true }] { ts := [1, 4], os := [] } [I64 (x1 - ((List.length x0 : Nat) : Int))] gamOK hT h (by kernel_rfl) ⟨⟨by first | omega | (simp only [List.length_append, List.length_cons, List.length_nil, List.length_set, List.length_take, List.length_drop, List.length_replicate, List.length_map, Nat.min_def]; omega) | (simp; done) | (simp; omega), by first | omega | (simp only [List.length_append, List.length_cons, List.length_nil, List.length_set, List.length_take, List.length_drop, List.length_replicate, List.length_map, Nat.min_def]; omega) | (simp; done) | (simp; omega)⟩, trivial⟩ ?_
  intro a w h
  refine then_normal ?_
  refine wp_seq ?_
  refine wp_seq ?_
  refine at_regq (T := S_laws_szProofS_tab) [] { ts := [1, 4, 10], os := [] } [] gamOK hT h (by kernel_rfl) trivial ?_
  intro a w h
  refine then_normal ?_
  refine at_test (decide (x1 - ((List.length x0 : Nat) : Int) < 0)) h (by kernel_rfl) (fun h1 => ?_) (fun h1 => ?_)
  · replace h1 : x1 - ((List.length x0 : Nat) : Int) < 0 := of_decide_eq_true h1
    refine wp_seq ?_
    refine at_reg (T := S_laws_szProofS_tab) [] { ts := [1, 4], os := [] } ⟨[(1, aI (x1 - ((List.length x0 : Nat) : Int))), (4, aI (-1))], []⟩ [] gamOK hT h (by kernel_rfl) trivial ?_
    intro a w h
    refine then_normal ?_
    refine wp_ret ?_
    refine then_ret ?_
    exact at_return (S := S_laws_szProofS) (x := (x0, x1, ())) ((-1), ()) [] h (by kernel_rfl) trivial (congrArg (fun z => (z, ())) (show ((-1)) = (szD s22) x0 x1 from by exact (szD_no (by rw [sz_flat (by rfl)]; omega)).symm))
  · replace h1 : ¬ (x1 - ((List.length x0 : Nat) : Int) < 0) := of_decide_eq_false h1
    refine wp_skip ?_
    refine then_normal ?_
    refine wp_seq ?_
    refine at_reg (T := S_laws_szProofS_tab) [] { ts := [4], os := [] } ⟨[(4, aI (x1 - ((List.length x0 : Nat) : Int)))], []⟩ [] gamOK hT h (by kernel_rfl) trivial ?_
    intro a w h
    refine then_normal ?_
    refine wp_ret ?_
    exact at_return (S := S_laws_szProofS) (x := (x0, x1, ())) (x1 - ((List.length x0 : Nat) : Int), ()) [] h (by kernel_rfl) trivial (congrArg (fun z => (z, ())) (show (x1 - ((List.length x0 : Nat) : Int)) = (szD s22) x0 x1 from by exact ((szD_ok (by rw [sz_flat (by rfl)]; omega)).trans (by rw [sz_flat (by rfl)])).symm))

def S_laws_szLedger : Sum := { fid := 15, dom := [s24, (.int 3)], cod := [(.int 3)], dp := true, fz := false, pre := fun x => (pSz s24) x.1 x.2.1, g := fun x => (((szD s24) x.1 x.2.1), ()) }
def S_laws_szLedger_tab : List (Nat × Sum) := [(79, S_laws_szProofS)]
theorem S_laws_szLedger_ok : FnOK Try.prog 15 S_laws_szLedger := by
  refine at_enter 12 (fun x => ⟨[(0, aG [.ro s164 x.1]), (1, aI x.2.1)], []⟩) Try.func15 rfl (by kernel_rfl) (fun x => rfl) ?_
  rintro w0 Z0 ⟨x0, x1, u⟩ a w
  revert x0 x1
  intro (x0 : (List T164)) (x1 : Int) hpre hlens h
  replace h : At w0 Z0 [] 12 ⟨[(0, aG [.ro s164 x0]), (1, aI x1)], []⟩ a w := h
  replace hpre : (pSz s24) x0 x1 := hpre
  have hl1 : List.length x0 ≤ 9223372036854775807 := hlens.1.1
  have hT : TabOK Try.prog S_laws_szLedger_tab := (.cons S_laws_szProofS_ok .nil)
  have hp : 0 ≤ x1 ∧ x1 ≤ 9223372036854775807 := hpre
  have hsz : Sh.sz s24 x0 = (Sh.sz s22 x0) := rfl
  refine wp_seq ?_
  refine at_regq (T := S_laws_szLedger_tab) [{ ids := [1] }] { ts := [1, 2, 4], os := [1] } [] gamOK hT h (by kernel_rfl) trivial ?_
  intro a w h
  refine then_normal ?_
  refine wp_seq ?_
  refine at_regq (T := S_laws_szLedger_tab) [] { ts := [1, 4], os := [] } [(pSz s22) x0 x1] gamOK hT h (by kernel_rfl) ⟨(by (show (0 : Int) ≤ _ ∧ _ ≤ (9223372036854775807 : Int); constructor <;> omega)), trivial⟩ ?_
  intro a w h
  refine then_normal ?_
  refine wp_seq ?_
  refine wp_seq ?_
  refine at_regq (T := S_laws_szLedger_tab) [] { ts := [1, 4, 10], os := [] } [] gamOK hT h (by kernel_rfl) trivial ?_
  intro a w h
  refine then_normal ?_
  refine at_test (decide (((szD s22) x0 x1) < 0)) h (by kernel_rfl) (fun h1 => ?_) (fun h1 => ?_)
  · replace h1 : ((szD s22) x0 x1) < 0 := of_decide_eq_true h1
    have hvh1 := szD_neg h1 (by omega)
    refine wp_seq ?_
    refine at_reg (T := S_laws_szLedger_tab) [] { ts := [1, 4], os := [] } ⟨[(1, aI ((szD s22) x0 x1)), (4, aI (-1))], []⟩ [] gamOK hT h (by kernel_rfl) trivial ?_
    intro a w h
    refine then_normal ?_
    refine wp_ret ?_
    refine then_ret ?_
    exact at_return (S := S_laws_szLedger) (x := (x0, x1, ())) ((-1), ()) [] h (by kernel_rfl) trivial (congrArg (fun z => (z, ())) (show ((-1)) = (szD s24) x0 x1 from by (first | exact (szD_no (by omega)).symm | exact ((szD_ok (by omega)).trans (by omega)).symm)))
  · replace h1 : ¬ (((szD s22) x0 x1) < 0) := of_decide_eq_false h1
    have hvh1 := szD_val h1 (by omega)
    refine wp_skip ?_
    refine then_normal ?_
    refine wp_seq ?_
    refine at_reg (T := S_laws_szLedger_tab) [] { ts := [4], os := [] } ⟨[(4, aI ((szD s22) x0 x1))], []⟩ [] gamOK hT h (by kernel_rfl) trivial ?_
    intro a w h
    refine then_normal ?_
    refine wp_ret ?_
    exact at_return (S := S_laws_szLedger) (x := (x0, x1, ())) (((szD s22) x0 x1), ()) [] h (by kernel_rfl) trivial (congrArg (fun z => (z, ())) (show (((szD s22) x0 x1)) = (szD s24) x0 x1 from by (first | exact (szD_no (by omega)).symm | exact ((szD_ok (by omega)).trans (by omega)).symm)))

def S_laws_toProof : Sum := { fid := 149, dom := [s164], cod := [s114], dp := true, fz := false, pre := fun x => (pTo s164) x.1, g := fun x => (((idD s164) x.1), ()) }
def S_laws_toProof_tab : List (Nat × Sum) := []
theorem S_laws_toProof_ok : FnOK Try.prog 149 S_laws_toProof := by
  refine at_enter 14 (fun x => ⟨[(0, aG [cI x.1.1, cI x.1.2.1, cI x.1.2.2])], []⟩) Try.func149 rfl (by kernel_rfl) (fun x => rfl) ?_
  rintro w0 Z0 ⟨x0, u⟩ a w
  revert x0
  intro (x0 : T164) hpre hlens h
  replace h : At w0 Z0 [] 14 ⟨[(0, aG [cI x0.1, cI x0.2.1, cI x0.2.2])], []⟩ a w := h
  replace hpre : (pTo s164) x0 := hpre
  have hT : TabOK Try.prog S_laws_toProof_tab := .nil
  have hp : Sh.sz s164 x0 ≤ 1048576 := hpre
  have hsz : Sh.sz s164 x0 = (0 + (0 + 0)) := rfl
  refine wp_seq ?_
  refine at_regq (T := S_laws_toProof_tab) [{ ids := [1] }, { ids := [2] }] { ts := [1, 2], os := [1, 2] } [] gamOK hT h (by kernel_rfl) trivial ?_
  intro a w h
  refine then_normal ?_
  refine wp_seq ?_
  refine at_regq (T := S_laws_toProof_tab) [{ ids := [3] }] { ts := [1, 2, 3], os := [1, 2, 3] } [] gamOK hT h (by kernel_rfl) trivial ?_
  intro a w h
  refine then_normal ?_
  refine wp_seq ?_
  refine at_regq (T := S_laws_toProof_tab) [] { ts := [1, 2, 3], os := [1, 2, 3] } [] gamOK hT h (by kernel_rfl) trivial ?_
  intro a w h
  refine then_normal ?_
  refine wp_seq ?_
  refine at_reg (T := S_laws_toProof_tab) [] { ts := [1, 2, 3], os := [1, 2, 3] } ⟨[(1, aP 1 0), (2, aP 2 0), (3, aP 3 0)], [(1, oX 164 [cI x0.1, cI x0.2.1, cI x0.2.2]), (2, oX 114 [cI 0, cI 0, cI 0]), (3, oX 114 [cI x0.1, cI x0.2.1, cI 0])]⟩ [] gamOK hT h (by kernel_rfl) trivial ?_
  intro a w h
  refine then_normal ?_
  refine wp_seq ?_
  refine at_regq (T := S_laws_toProof_tab) [] { ts := [2, 3], os := [2, 3] } [] gamOK hT h (by kernel_rfl) trivial ?_
  intro a w h
  refine then_normal ?_
  refine wp_seq ?_
  refine at_regq (T := S_laws_toProof_tab) [] { ts := [2], os := [2] } [] gamOK hT h (by kernel_rfl) trivial ?_
  intro a w h
  refine then_normal ?_
  refine wp_ret ?_
  exact at_return (S := S_laws_toProof) (x := (x0, ())) (x0, ()) [] h (by kernel_rfl) trivial (congrArg (fun z => (z, ())) (show (x0) = (idD s164) x0 from by rfl))

def S_laws_toProofS : Sum := { fid := 82, dom := [s22], cod := [s26], dp := true, fz := false, pre := fun x => (pTo s22) x.1, g := fun x => (((idD s22) x.1), ()) }
def S_laws_toProofS_tab : List (Nat × Sum) := [(149, S_laws_toProof)]
theorem S_laws_toProofS_ok : FnOK Try.prog 82 S_laws_toProofS := by
  refine at_enter 23 (fun x => ⟨[(0, aF s164 x.1)], []⟩) Try.func82 rfl (by kernel_rfl) (fun x => rfl) ?_
  rintro w0 Z0 ⟨x0, u⟩ a w
  revert x0
  intro (x0 : (List T164)) hpre hlens h
  replace h : At w0 Z0 [] 23 ⟨[(0, aF s164 x0)], []⟩ a w := h
  replace hpre : (pTo s22) x0 := hpre
  have hl1 : List.length x0 ≤ 9223372036854775807 := hlens.1.1
  have hT : TabOK Try.prog S_laws_toProofS_tab := (.cons S_laws_toProof_ok .nil)
  have hp : Sh.sz s22 x0 ≤ 1048576 := hpre
  have hsz : Sh.sz s22 x0 = List.length x0 + ctL (Sh.sz s164) x0 := rfl
  refine wp_seq ?_
  refine at_regq (T := S_laws_toProofS_tab) [] { ts := [0, 2], os := [] } [] gamOK hT h (by kernel_rfl) trivial ?_
  intro a w h
  refine then_normal ?_
  refine wp_seq ?_
  refine at_regq (T := S_laws_toProofS_tab) [{}, {}, { ids := [1] }] { ts := [0, 2, 3], os := [1] } [(0 : Int) ≤ ((List.length x0 : Nat) : Int) ∧ ((List.length x0 : Nat) : Int) = ((List.length x0 : Nat) : Int) ∧ ((List.length x0 : Nat) : Int) * (24 : Nat) ≤ (140737488355328 : Int)] gamOK hT h (by kernel_rfl) ⟨(by refine ⟨?_, ?_, ?_⟩ <;> (first | omega | (simp only [List.length_append, List.length_cons, List.length_nil, List.length_set, List.length_take, List.length_drop, List.length_replicate, List.length_map, Nat.min_def, copyTo_len hok0]; omega) | (simp; done) | (simp; omega))), trivial⟩ ?_
  intro a w h
  refine then_normal ?_
  refine wp_seq ?_
  refine wp_seq ?_
  refine at_regq (T := S_laws_toProofS_tab) [] { ts := [0, 2, 3, 4], os := [1] } [] gamOK hT h (by kernel_rfl) trivial ?_
  intro a w h
  refine then_normal ?_
  refine wp_block ?_
  replace h := at_out (σ' := ⟨[(0, aF s164 x0), (2, .p (.c (cN))), (3, aS 1), (4, aI 0)], [(1, oR s114 (List.replicate (List.length x0) (0, (0, 0))))]⟩) { ts := [0, 2, 3, 4], os := [1] } h (by kernel_rfl)
  refine at_loop (fun i : Nat => (⟨[(0, aF s164 x0), (2, .p (.c (cN))), (3, aS 1), (4, aI ((i : Nat) : Int))], [(1, oR s114 (copyTo (0, (0, 0)) x0 i))]⟩ : St)) (fun i => i ≤ List.length x0) (fun i => List.length x0 - i) (0) h (st_congr2 (fun (d0 : List T114) (d1 : Int) => (⟨[(0, aF s164 x0), (2, .p (.c (cN))), (3, aS 1), (4, aI d1)], [(1, oR s114 d0)]⟩ : St)) (show ((List.replicate (List.length x0) (0, (0, 0))) : List T114) = (copyTo (0, (0, 0)) x0 (0)) from by first | rfl | (exact copyTo_zero)) (show (0 : Int) = (((0) : Nat) : Int) from by first | rfl | (exact copyTo_zero))) (by first | omega | simp | (refine ⟨?_, ?_⟩ <;> first | omega | simp)) ?_
  intro i a w hok0 h
  refine wp_seq ?_
  refine wp_seq ?_
  refine at_reg (T := S_laws_toProofS_tab) [] { ts := [0, 2, 3, 4, 11], os := [1] } ⟨[(0, aF s164 x0), (2, .p (.c (cN))), (3, aS 1), (4, aI ((i : Nat) : Int)), (11, aB (decide (((i : Nat) : Int) < ((List.length x0 : Nat) : Int))))], [(1, oR s114 (copyTo (0, (0, 0)) x0 i))]⟩ [] gamOK hT h (by kernel_rfl) trivial ?_
  intro a w h
  refine then_normal ?_
  refine at_test (decide (((i : Nat) : Int) < ((List.length x0 : Nat) : Int))) h (by kernel_rfl) (fun h1 => ?_) (fun h1 => ?_)
  · replace h1 : ((i : Nat) : Int) < ((List.length x0 : Nat) : Int) := of_decide_eq_true h1
    have hat := ctL_at_le (c := Sh.sz s164) (xs := x0) (z := (0, (0, 0))) (i := i) (by omega)
    refine wp_skip ?_
    refine then_normal ?_
    refine wp_seq ?_
    refine wp_block ?_
    refine at_regq (T := S_laws_toProofS_tab) [] { ts := [0, 2, 3, 4], os := [1] } [(0 : Int) ≤ ((i : Nat) : Int) ∧ ((i : Nat) : Int) < ((List.length x0 : Nat) : Int), (pTo s164) (x0.getD i (0, (0, 0))), (0 : Int) ≤ ((i : Nat) : Int) ∧ ((i : Nat) : Int) < ((List.length (copyTo (0, (0, 0)) x0 i) : Nat) : Int), i < List.length (copyTo (0, (0, 0)) x0 i)] gamOK hT h (by kernel_rfl) ⟨(by refine ⟨?_, ?_⟩ <;> (first | omega | (simp only [List.length_append, List.length_cons, List.length_nil, List.length_set, List.length_take, List.length_drop, List.length_replicate, List.length_map, Nat.min_def, copyTo_len hok0]; omega) | (simp; done) | (simp; omega))), (by (show Sh.sz _ _ ≤ 1048576; omega)), (by refine ⟨?_, ?_⟩ <;> (first | omega | (simp only [List.length_append, List.length_cons, List.length_nil, List.length_set, List.length_take, List.length_drop, List.length_replicate, List.length_map, Nat.min_def, copyTo_len hok0]; omega) | (simp; done) | (simp; omega))), (by first | omega | (simp only [List.length_append, List.length_cons, List.length_nil, List.length_set, List.length_take, List.length_drop, List.length_replicate, List.length_map, Nat.min_def, copyTo_len hok0]; omega) | (simp; done) | (simp; omega)), trivial⟩ ?_
    intro a w h
    refine in_normal ?_
    refine then_normal ?_
    refine at_regq (T := S_laws_toProofS_tab) [{}, { nw := true }] { ts := [0, 2, 3, 4], os := [1] } [I64 (((i : Nat) : Int) + 1)] gamOK hT h (by kernel_rfl) ⟨⟨by first | omega | (simp only [List.length_append, List.length_cons, List.length_nil, List.length_set, List.length_take, List.length_drop, List.length_replicate, List.length_map, Nat.min_def, copyTo_len hok0]; omega) | (simp; done) | (simp; omega), by first | omega | (simp only [List.length_append, List.length_cons, List.length_nil, List.length_set, List.length_take, List.length_drop, List.length_replicate, List.length_map, Nat.min_def, copyTo_len hok0]; omega) | (simp; done) | (simp; omega)⟩, trivial⟩ ?_
    intro a w h
    replace h := at_out (σ' := ⟨[(0, aF s164 x0), (2, .p (.c (cN))), (3, aS 1), (4, aI (((i : Nat) : Int) + 1))], [(1, oR s114 (List.set (copyTo (0, (0, 0)) x0 i) i (x0.getD i (0, (0, 0)))))]⟩) { ts := [0, 2, 3, 4], os := [1] } h (by kernel_rfl)
    exact ⟨i + 1, at_eq h (st_congr2 (fun (d0 : List T114) (d1 : Int) => (⟨[(0, aF s164 x0), (2, .p (.c (cN))), (3, aS 1), (4, aI d1)], [(1, oR s114 d0)]⟩ : St)) (show ((List.set (copyTo (0, (0, 0)) x0 i) i (x0.getD i (0, (0, 0)))) : List T114) = (copyTo (0, (0, 0)) x0 (i + 1)) from by first | rfl | (exact copyTo_set (by omega))) (show (((i : Nat) : Int) + 1 : Int) = (((i + 1) : Nat) : Int) from by first | rfl | (omega))), (by first | omega | (refine ⟨?_, ?_⟩ <;> omega)), (by omega)⟩
  · replace h1 : ¬ (((i : Nat) : Int) < ((List.length x0 : Nat) : Int)) := of_decide_eq_false h1
    refine wp_exit ?_
    refine then_exit ?_
    refine then_exit ?_
    refine in_hit ?_
    refine then_normal ?_
    refine wp_seq ?_
    refine at_regq (T := S_laws_toProofS_tab) [] { ts := [2], os := [1] } [] gamOK hT h (by kernel_rfl) trivial ?_
    intro a w h
    refine then_normal ?_
    refine wp_ret ?_
    exact at_return (S := S_laws_toProofS) (x := (x0, ())) ((copyTo (0, (0, 0)) x0 i), ()) [] h (by kernel_rfl) trivial (congrArg (fun z => (z, ())) (show ((copyTo (0, (0, 0)) x0 i)) = (idD s22) x0 from by (rw [copyTo_all (by omega)]; rfl)))

def S_laws_toLedger : Sum := { fid := 17, dom := [s24], cod := [s28], dp := true, fz := false, pre := fun x => (pTo s24) x.1, g := fun x => (((idD s24) x.1), ()) }
def S_laws_toLedger_tab : List (Nat × Sum) := [(82, S_laws_toProofS)]
theorem S_laws_toLedger_ok : FnOK Try.prog 17 S_laws_toLedger := by
  refine at_enter 9 (fun x => ⟨[(0, aG [.ro s164 x.1])], []⟩) Try.func17 rfl (by kernel_rfl) (fun x => rfl) ?_
  rintro w0 Z0 ⟨x0, u⟩ a w
  revert x0
  intro (x0 : (List T164)) hpre hlens h
  replace h : At w0 Z0 [] 9 ⟨[(0, aG [.ro s164 x0])], []⟩ a w := h
  replace hpre : (pTo s24) x0 := hpre
  have hl1 : List.length x0 ≤ 9223372036854775807 := hlens.1.1
  have hT : TabOK Try.prog S_laws_toLedger_tab := (.cons S_laws_toProofS_ok .nil)
  have hp : Sh.sz s24 x0 ≤ 1048576 := hpre
  have hsz : Sh.sz s24 x0 = (Sh.sz s22 x0) := rfl
  refine wp_seq ?_
  refine at_regq (T := S_laws_toLedger_tab) [{ ids := [1] }, { ids := [2] }] { ts := [1, 2], os := [1, 2] } [] gamOK hT h (by kernel_rfl) trivial ?_
  intro a w h
  refine then_normal ?_
  refine wp_seq ?_
  refine at_regq (T := S_laws_toLedger_tab) [{ ids := [3] }] { ts := [1, 2, 3], os := [1, 2, 3] } [] gamOK hT h (by kernel_rfl) trivial ?_
  intro a w h
  refine then_normal ?_
  refine wp_seq ?_
  refine at_regq (T := S_laws_toLedger_tab) [{}, {}, { ids := [4] }] { ts := [2, 3], os := [2, 3, 4] } [(pTo s22) x0] gamOK hT h (by kernel_rfl) ⟨(by (show Sh.sz _ _ ≤ 1048576; omega)), trivial⟩ ?_
  intro a w h
  refine then_normal ?_
  refine wp_seq ?_
  refine at_reg (T := S_laws_toLedger_tab) [] { ts := [2], os := [2, 4] } ⟨[(2, aP 2 0)], [(2, oX 28 [.sl 4]), (4, oR s114 x0)]⟩ [] gamOK hT h (by kernel_rfl) trivial ?_
  intro a w h
  refine then_normal ?_
  refine wp_ret ?_
  exact at_return (S := S_laws_toLedger) (x := (x0, ())) (x0, ()) [] h (by kernel_rfl) trivial (congrArg (fun z => (z, ())) (show (x0) = (idD s24) x0 from by rfl))


def inR (n lo hi : Int) : Bool := decide (lo ≤ n ∧ n ≤ hi)
theorem inR_t {n a b : Int} (h : inR n a b = true) : a ≤ n ∧ n ≤ b := of_decide_eq_true h
theorem inR_f {n a b : Int} (h : inR n a b = false) : n < a ∨ b < n := by have := of_decide_eq_false h; omega
theorem inR_true {n a b : Int} (h : a ≤ n ∧ n ≤ b) : inR n a b = true := decide_eq_true h
theorem inR_false {n a b : Int} (h : ¬ (a ≤ n ∧ n ≤ b)) : inR n a b = false := decide_eq_false h
def lenOK {α : Type} (xs : List α) : Prop := xs.length ≤ 1073741824
def idL {α : Type} (xs : List α) : List α := xs
section
variable {α β : Type}
/-- none of the first i -/
def noneTo (p : α → Bool) (xs : List α) (z : α) (i : Nat) : Prop := ∀ j, j < i → p (xs.getD j z) = false
def idxF (p : α → Bool) : List α → Int
  | [] => -1
  | x :: l => if p x = true then 0 else if idxF p l < 0 then -1 else idxF p l + 1
theorem noneTo_zero {p : α → Bool} {xs : List α} {z : α} : noneTo p xs z 0 := fun j h => by omega
theorem noneTo_succ {p : α → Bool} {xs : List α} {z : α} {i : Nat} (h : noneTo p xs z i) (k : p (xs.getD i z) = false) : noneTo p xs z (i + 1) := fun j hj => by
  by_cases e : j = i
  · subst e; exact k
  · exact h j (by omega)
theorem idxF_at {p : α → Bool} {z : α} : ∀ {xs : List α} {i : Nat}, i < xs.length → noneTo p xs z i → p (xs.getD i z) = true → idxF p xs = i
  | [], _, h, _, _ => by simp at h
  | x :: l, 0, _, _, k => by
    have k : p x = true := k
    simp [idxF, k]
  | x :: l, i + 1, h, hn, k => by
    have h0 : p x = false := hn 0 (by omega)
    have := idxF_at (xs := l) (i := i) (by simpa using h) (fun j hj => by have := hn (j + 1) (by omega); simpa using this) (by simpa using k)
    simp only [idxF, h0, this]
    rw [if_neg (by decide), if_neg (by omega)]
    omega
theorem idxF_none {p : α → Bool} {z : α} : ∀ {xs : List α} {i : Nat}, xs.length ≤ i → noneTo p xs z i → idxF p xs = -1
  | [], _, _, _ => rfl
  | x :: l, 0, h, _ => by simp at h
  | x :: l, i + 1, h, hn => by
    have h0 : p x = false := hn 0 (by omega)
    have := idxF_none (xs := l) (i := i) (by simpa using h) (fun j hj => by have := hn (j + 1) (by omega); simpa using this)
    simp [idxF, h0, this]
theorem idxF_pos {p : α → Bool} : ∀ {xs : List α}, 0 ≤ idxF p xs ↔ xs.any p = true
  | [] => by simp [idxF]
  | x :: l => by
    have := idxF_pos (xs := l) (p := p)
    simp only [idxF, List.any_cons, Bool.or_eq_true, ← this]
    by_cases hx : p x = true
    · simp [hx]
    · rw [if_neg hx]
      split
      · rename_i h; constructor
        · intro h'; omega
        · rintro (h' | h')
          · exact absurd h' hx
          · omega
      · rename_i h; constructor
        · intro h'; right; omega
        · intro _; omega
theorem idxF_any {p : α → Bool} {xs : List α} : decide (idxF p xs ≥ 0) = xs.any p := by
  rw [Bool.eq_iff_iff, decide_eq_true_iff]; exact idxF_pos
/-- the first i alike -/
def allTo2 (e : α → β → Bool) (xs : List α) (ys : List β) (z : α) (y : β) (i : Nat) : Prop := ∀ j, j < i → e (xs.getD j z) (ys.getD j y) = true
def eqF (e : α → β → Bool) : List α → List β → Bool
  | [], [] => true
  | x :: l, y :: l' => e x y && eqF e l l'
  | _, _ => false
theorem allTo2_zero {e : α → β → Bool} {xs : List α} {ys : List β} {z : α} {y : β} : allTo2 e xs ys z y 0 := fun j h => by omega
theorem allTo2_succ {e : α → β → Bool} {xs : List α} {ys : List β} {z : α} {y : β} {i : Nat} (h : allTo2 e xs ys z y i) (k : e (xs.getD i z) (ys.getD i y) = true) : allTo2 e xs ys z y (i + 1) := fun j hj => by
  by_cases e : j = i
  · subst e; exact k
  · exact h j (by omega)
theorem eqF_len {e : α → β → Bool} : ∀ {xs : List α} {ys : List β}, xs.length ≠ ys.length → eqF e xs ys = false
  | [], [], h => absurd rfl h
  | [], _ :: _, _ => rfl
  | _ :: _, [], _ => rfl
  | _ :: l, _ :: l', h => by simp only [eqF]; rw [eqF_len (xs := l) (ys := l') (by simpa using h), Bool.and_false]
theorem eqF_at {e : α → β → Bool} {z : α} {y : β} : ∀ {xs : List α} {ys : List β} {i : Nat}, i < xs.length → i < ys.length → e (xs.getD i z) (ys.getD i y) = false → eqF e xs ys = false
  | x :: l, y' :: l', 0, _, _, h => by
    have h : e x y' = false := h
    simp [eqF, h]
  | x :: l, y' :: l', i + 1, h1, h2, h => by simp only [eqF]; rw [eqF_at (xs := l) (ys := l') (i := i) (by simpa using h1) (by simpa using h2) (by simpa using h), Bool.and_false]
  | [], _, _, h1, _, _ => by simp at h1
  | _ :: _, [], _, _, h2, _ => by simp at h2
theorem eqF_all {e : α → β → Bool} {z : α} {y : β} : ∀ {xs : List α} {ys : List β} {i : Nat}, xs.length = ys.length → xs.length ≤ i → allTo2 e xs ys z y i → eqF e xs ys = true
  | [], [], _, _, _, _ => rfl
  | [], _ :: _, _, h, _, _ => by simp at h
  | _ :: _, [], _, h, _, _ => by simp at h
  | x :: l, y' :: l', 0, _, h, _ => by simp at h
  | x :: l, y' :: l', i + 1, h, hi, ha => by
    have h0 : e x y' = true := ha 0 (by omega)
    simp only [eqF]
    rw [h0, eqF_all (xs := l) (ys := l') (i := i) (by simpa using h) (by simpa using hi) (fun j hj => by have := ha (j + 1) (by omega); simpa using this)]
    rfl
/-- folded so far -/
def foldTo (f : β → α → β) (b : β) (xs : List α) (i : Nat) : β := (xs.take i).foldl f b
theorem foldTo_zero {f : β → α → β} {b : β} {xs : List α} : foldTo f b xs 0 = b := rfl
theorem foldTo_succ {f : β → α → β} {b : β} {xs : List α} {i : Nat} (z : α) (h : i < xs.length) : foldTo f b xs (i + 1) = f (foldTo f b xs i) (xs.getD i z) := by
  unfold foldTo; rw [take_snoc (z := z) h, List.foldl_append]; rfl
theorem foldTo_all {f : β → α → β} {b : β} {xs : List α} {i : Nat} (h : xs.length ≤ i) : foldTo f b xs i = xs.foldl f b := by unfold foldTo; rw [take_all h]
end
theorem allEq_comm : ∀ (a b : List Int), allEq a b = allEq b a
  | [], [] => rfl
  | [], _ :: _ => rfl
  | _ :: _, [] => rfl
  | a :: l, b :: l' => by simp only [allEq, allEq_comm l l']; rw [show decide (a = b) = decide (b = a) from by rw [decide_eq_decide]; exact eq_comm]

def S_slices_Clone_S_impl_Proof_impl_Proof_ : Sum := { fid := 150, dom := [s26], cod := [s26], dp := true, fz := false, pre := fun x => (lenOK (α := T114)) x.1, g := fun x => (((idL (α := T114)) x.1), ()) }
def S_slices_Clone_S_impl_Proof_impl_Proof__tab : List (Nat × Sum) := []
theorem S_slices_Clone_S_impl_Proof_impl_Proof__ok : FnOK Try.prog 150 S_slices_Clone_S_impl_Proof_impl_Proof_ := by
  refine at_enter 8 (fun x => ⟨[(0, aF s114 x.1)], []⟩) Try.func150 rfl (by kernel_rfl) (fun x => rfl) ?_
  rintro w0 Z0 ⟨x0, u⟩ a w
  revert x0
  intro (x0 : (List T114)) hpre hlens h
  replace h : At w0 Z0 [] 8 ⟨[(0, aF s114 x0)], []⟩ a w := h
  replace hpre : (lenOK (α := T114)) x0 := hpre
  have hl1 : List.length x0 ≤ 9223372036854775807 := hlens.1.1
  have hT : TabOK Try.prog S_slices_Clone_S_impl_Proof_impl_Proof__tab := .nil
  have hp : List.length x0 ≤ 1073741824 := hpre
  refine wp_seq ?_
  refine at_regq (T := S_slices_Clone_S_impl_Proof_impl_Proof__tab) [] { ts := [0, 2], os := [] } [] gamOK hT h (by kernel_rfl) trivial ?_
  intro a w h
  refine then_normal ?_
  refine wp_seq ?_
  refine wp_seq ?_
  refine at_regq (T := S_slices_Clone_S_impl_Proof_impl_Proof__tab) [] { ts := [0, 2, 4], os := [] } [] gamOK hT h (by kernel_rfl) trivial ?_
  intro a w h
  refine then_normal ?_
  refine at_nil (List.length x0) h (by kernel_rfl) (fun h1 => ?_) ?_
  · skip
    refine wp_seq ?_
    refine at_regq (T := S_slices_Clone_S_impl_Proof_impl_Proof__tab) [] { ts := [0, 2], os := [] } [] gamOK hT h (by kernel_rfl) trivial ?_
    intro a w h
    refine then_normal ?_
    refine wp_ret ?_
    refine then_ret ?_
    exact at_return (S := S_slices_Clone_S_impl_Proof_impl_Proof_) (x := (x0, ())) (([] : List T114), ()) [] h (by kernel_rfl) trivial (congrArg (fun z => (z, ())) (show (([] : List T114)) = (idL (α := T114)) x0 from by (show [] = x0; exact (List.eq_nil_of_length_eq_zero h1).symm)))
  · skip
    refine wp_skip ?_
    refine then_normal ?_
    refine wp_seq ?_
    refine at_regq (T := S_slices_Clone_S_impl_Proof_impl_Proof__tab) [{ ids := [1] }, {}, { ids := [2] }] { ts := [2], os := [2] } [(List.length ([] : List T114) + List.length x0) * 24 ≤ 140737488355328] gamOK hT h (by kernel_rfl) ⟨(by first | omega | (simp only [List.length_append, List.length_cons, List.length_nil, List.length_set, List.length_take, List.length_drop, List.length_replicate, List.length_map, Nat.min_def]; omega) | (simp; done) | (simp; omega)), trivial⟩ ?_
    intro a w h
    refine then_normal ?_
    refine wp_ret ?_
    exact at_return (S := S_slices_Clone_S_impl_Proof_impl_Proof_) (x := (x0, ())) ((([] : List T114) ++ x0), ()) [] h (by kernel_rfl) trivial (congrArg (fun z => (z, ())) (show ((([] : List T114) ++ x0)) = (idL (α := T114)) x0 from by (show [] ++ x0 = x0; rfl)))

def D_slices_Index_S_impl_Proof_impl_Proof_ := (fun (xs : List T114) (v : T114) => idxF (fun e => Sh.eqB s114 v e) xs)
def S_slices_Index_S_impl_Proof_impl_Proof_ : Sum := { fid := 151, dom := [s26, s114], cod := [(.int 3)], dp := true, fz := false, pre := fun x => True, g := fun x => ((D_slices_Index_S_impl_Proof_impl_Proof_ x.1 x.2.1), ()) }
def S_slices_Index_S_impl_Proof_impl_Proof__tab : List (Nat × Sum) := []
theorem S_slices_Index_S_impl_Proof_impl_Proof__ok : FnOK Try.prog 151 S_slices_Index_S_impl_Proof_impl_Proof_ := by
  refine at_enter 19 (fun x => ⟨[(0, aF s114 x.1), (1, aG [cI x.2.1.1, cI x.2.1.2.1, cI x.2.1.2.2])], []⟩) Try.func151 rfl (by kernel_rfl) (fun x => rfl) ?_
  rintro w0 Z0 ⟨x0, x1, u⟩ a w
  revert x0 x1
  intro (x0 : (List T114)) (x1 : T114) hpre hlens h
  replace h : At w0 Z0 [] 19 ⟨[(0, aF s114 x0), (1, aG [cI x1.1, cI x1.2.1, cI x1.2.2])], []⟩ a w := h
  have hl1 : List.length x0 ≤ 9223372036854775807 := hlens.1.1
  have hT : TabOK Try.prog S_slices_Index_S_impl_Proof_impl_Proof__tab := .nil
  refine wp_seq ?_
  refine at_regq (T := S_slices_Index_S_impl_Proof_impl_Proof__tab) [{ ids := [1] }] { ts := [0, 3, 4], os := [1] } [] gamOK hT h (by kernel_rfl) trivial ?_
  intro a w h
  refine then_normal ?_
  refine wp_seq ?_
  refine wp_seq ?_
  refine at_regq (T := S_slices_Index_S_impl_Proof_impl_Proof__tab) [] { ts := [0, 3, 4, 7, 8], os := [1] } [] gamOK hT h (by kernel_rfl) trivial ?_
  intro a w h
  refine then_normal ?_
  refine wp_block ?_
  replace h := at_out (σ' := ⟨[(0, aF s114 x0), (3, aP 1 0), (4, aI 0), (7, aI ((List.length x0 : Nat) : Int)), (8, aI 0)], [(1, oX 114 [cI x1.1, cI x1.2.1, cI x1.2.2])]⟩) { ts := [0, 3, 4, 7, 8], os := [1] } h (by kernel_rfl)
  refine at_loop (fun i : Nat => (⟨[(0, aF s114 x0), (3, aP 1 0), (4, aI 0), (7, aI ((List.length x0 : Nat) : Int)), (8, aI ((i : Nat) : Int))], [(1, oX 114 [cI x1.1, cI x1.2.1, cI x1.2.2])]⟩ : St)) (fun i => (i ≤ List.length x0 ∧ noneTo (fun e => Sh.eqB s114 x1 e) x0 (0, (0, 0)) i)) (fun i => List.length x0 - i) (0) h (st_congr1 (fun (d0 : Int) => (⟨[(0, aF s114 x0), (3, aP 1 0), (4, aI 0), (7, aI ((List.length x0 : Nat) : Int)), (8, aI d0)], [(1, oX 114 [cI x1.1, cI x1.2.1, cI x1.2.2])]⟩ : St)) (show (0 : Int) = (((0) : Nat) : Int) from by first | rfl | (rfl))) (by exact ⟨Nat.zero_le _, noneTo_zero⟩) ?_
  intro i a w hok0 h
  refine wp_seq ?_
  refine at_regq (T := S_slices_Index_S_impl_Proof_impl_Proof__tab) [] { ts := [0, 3, 4, 7, 8, 9], os := [1] } [] gamOK hT h (by kernel_rfl) trivial ?_
  intro a w h
  refine then_normal ?_
  refine wp_seq ?_
  refine at_test (decide (((i : Nat) : Int) < ((List.length x0 : Nat) : Int))) h (by kernel_rfl) (fun h1 => ?_) (fun h1 => ?_)
  · replace h1 : ((i : Nat) : Int) < ((List.length x0 : Nat) : Int) := of_decide_eq_true h1
    refine wp_skip ?_
    refine then_normal ?_
    refine wp_seq ?_
    refine wp_block ?_
    refine wp_seq ?_
    refine at_reg (T := S_slices_Index_S_impl_Proof_impl_Proof__tab) [] { ts := [0, 3, 4, 5, 7, 8], os := [1] } ⟨[(0, aF s114 x0), (3, aP 1 0), (4, aI 0), (5, aI ((i : Nat) : Int)), (7, aI ((List.length x0 : Nat) : Int)), (8, aI ((i : Nat) : Int))], [(1, oX 114 [cI x1.1, cI x1.2.1, cI x1.2.2])]⟩ [] gamOK hT h (by kernel_rfl) trivial ?_
    intro a w h
    refine then_normal ?_
    refine wp_seq ?_
    refine at_anyq (T := S_slices_Index_S_impl_Proof_impl_Proof__tab) [{}, {}, {}, {}, {}, {}] { ts := [0, 3, 4, 5, 7, 8, 16], os := [1] } [(0 : Int) ≤ ((i : Nat) : Int) ∧ ((i : Nat) : Int) < ((List.length x0 : Nat) : Int)] gamOK hT mixed h (by kernel_rfl) ⟨(by refine ⟨?_, ?_⟩ <;> (first | omega | (simp only [List.length_append, List.length_cons, List.length_nil, List.length_set, List.length_take, List.length_drop, List.length_replicate, List.length_map, Nat.min_def]; omega) | (simp; done) | (simp; omega))), trivial⟩ ?_
    intro a w h
    refine then_normal ?_
    refine at_test (allEq [x1.1, x1.2.1, x1.2.2] [(x0.getD i (0, (0, 0))).1, (x0.getD i (0, (0, 0))).2.1, (x0.getD i (0, (0, 0))).2.2]) h (by kernel_rfl) (fun h2 => ?_) (fun h2 => ?_)
    · refine wp_seq ?_
      refine at_regq (T := S_slices_Index_S_impl_Proof_impl_Proof__tab) [] { ts := [0, 3, 4, 7, 8], os := [1] } [] gamOK hT h (by kernel_rfl) trivial ?_
      intro a w h
      refine then_normal ?_
      refine wp_ret ?_
      refine in_ret ?_
      refine then_ret ?_
      refine then_ret ?_
      refine in_ret ?_
      refine then_ret ?_
      exact at_return (S := S_slices_Index_S_impl_Proof_impl_Proof_) (x := (x0, x1, ())) (((i : Nat) : Int), ()) [] h (by kernel_rfl) trivial (congrArg (fun z => (z, ())) (show (((i : Nat) : Int)) = D_slices_Index_S_impl_Proof_impl_Proof_ x0 x1 from by unfold D_slices_Index_S_impl_Proof_impl_Proof_; exact (idxF_at (z := (0, (0, 0))) (by omega) hok0.2 (by simpa [allEq, Sh.eqB] using h2)).symm))
    · refine wp_skip ?_
      refine in_normal ?_
      refine then_normal ?_
      refine at_regq (T := S_slices_Index_S_impl_Proof_impl_Proof__tab) [{ nw := true }] { ts := [0, 3, 4, 7, 8], os := [1] } [I64 (((i : Nat) : Int) + 1)] gamOK hT h (by kernel_rfl) ⟨⟨by first | omega | (simp only [List.length_append, List.length_cons, List.length_nil, List.length_set, List.length_take, List.length_drop, List.length_replicate, List.length_map, Nat.min_def]; omega) | (simp; done) | (simp; omega), by first | omega | (simp only [List.length_append, List.length_cons, List.length_nil, List.length_set, List.length_take, List.length_drop, List.length_replicate, List.length_map, Nat.min_def]; omega) | (simp; done) | (simp; omega)⟩, trivial⟩ ?_
      intro a w h
      replace h := at_out (σ' := ⟨[(0, aF s114 x0), (3, aP 1 0), (4, aI 0), (7, aI ((List.length x0 : Nat) : Int)), (8, aI (((i : Nat) : Int) + 1))], [(1, oX 114 [cI x1.1, cI x1.2.1, cI x1.2.2])]⟩) { ts := [0, 3, 4, 7, 8], os := [1] } h (by kernel_rfl)
      exact ⟨i + 1, at_eq h (st_congr1 (fun (d0 : Int) => (⟨[(0, aF s114 x0), (3, aP 1 0), (4, aI 0), (7, aI ((List.length x0 : Nat) : Int)), (8, aI d0)], [(1, oX 114 [cI x1.1, cI x1.2.1, cI x1.2.2])]⟩ : St)) (show (((i : Nat) : Int) + 1 : Int) = (((i + 1) : Nat) : Int) from by first | rfl | (omega))), (by exact ⟨by omega, noneTo_succ hok0.2 (by simpa [allEq, Sh.eqB] using h2)⟩), (by omega)⟩
  · replace h1 : ¬ (((i : Nat) : Int) < ((List.length x0 : Nat) : Int)) := of_decide_eq_false h1
    refine wp_exit ?_
    refine then_exit ?_
    refine then_exit ?_
    refine in_hit ?_
    refine then_normal ?_
    refine wp_seq ?_
    refine at_reg (T := S_slices_Index_S_impl_Proof_impl_Proof__tab) [] { ts := [4], os := [] } ⟨[(4, aI (-1))], []⟩ [] gamOK hT h (by kernel_rfl) trivial ?_
    intro a w h
    refine then_normal ?_
    refine wp_ret ?_
    exact at_return (S := S_slices_Index_S_impl_Proof_impl_Proof_) (x := (x0, x1, ())) ((-1), ()) [] h (by kernel_rfl) trivial (congrArg (fun z => (z, ())) (show ((-1)) = D_slices_Index_S_impl_Proof_impl_Proof_ x0 x1 from by unfold D_slices_Index_S_impl_Proof_impl_Proof_; exact (idxF_none (z := (0, (0, 0))) (by omega) hok0.2).symm))

def D_slices_Contains_S_impl_Proof_impl_Proof_ := (fun (xs : List T114) (v : T114) => xs.any fun e => Sh.eqB s114 v e)
def S_slices_Contains_S_impl_Proof_impl_Proof_ : Sum := { fid := 84, dom := [s26, s114], cod := [(.bool 4)], dp := true, fz := false, pre := fun x => True, g := fun x => ((D_slices_Contains_S_impl_Proof_impl_Proof_ x.1 x.2.1), ()) }
def S_slices_Contains_S_impl_Proof_impl_Proof__tab : List (Nat × Sum) := [(151, S_slices_Index_S_impl_Proof_impl_Proof_)]
theorem S_slices_Contains_S_impl_Proof_impl_Proof__ok : FnOK Try.prog 84 S_slices_Contains_S_impl_Proof_impl_Proof_ := by
  refine at_enter 9 (fun x => ⟨[(0, aF s114 x.1), (1, aG [cI x.2.1.1, cI x.2.1.2.1, cI x.2.1.2.2])], []⟩) Try.func84 rfl (by kernel_rfl) (fun x => rfl) ?_
  rintro w0 Z0 ⟨x0, x1, u⟩ a w
  revert x0 x1
  intro (x0 : (List T114)) (x1 : T114) hpre hlens h
  replace h : At w0 Z0 [] 9 ⟨[(0, aF s114 x0), (1, aG [cI x1.1, cI x1.2.1, cI x1.2.2])], []⟩ a w := h
  have hl1 : List.length x0 ≤ 9223372036854775807 := hlens.1.1
  have hT : TabOK Try.prog S_slices_Contains_S_impl_Proof_impl_Proof__tab := (.cons S_slices_Index_S_impl_Proof_impl_Proof__ok .nil)
  refine wp_seq ?_
  refine at_regq (T := S_slices_Contains_S_impl_Proof_impl_Proof__tab) [{ ids := [1] }] { ts := [0, 3, 4], os := [1] } [] gamOK hT h (by kernel_rfl) trivial ?_
  intro a w h
  refine then_normal ?_
  refine wp_seq ?_
  refine at_regq (T := S_slices_Contains_S_impl_Proof_impl_Proof__tab) [] { ts := [4], os := [] } [True] gamOK hT h (by kernel_rfl) ⟨trivial, trivial⟩ ?_
  intro a w h
  refine then_normal ?_
  refine wp_ret ?_
  exact at_return (S := S_slices_Contains_S_impl_Proof_impl_Proof_) (x := (x0, x1, ())) (decide ((D_slices_Index_S_impl_Proof_impl_Proof_ x0 x1) ≥ 0), ()) [] h (by kernel_rfl) trivial (congrArg (fun z => (z, ())) (show (decide ((D_slices_Index_S_impl_Proof_impl_Proof_ x0 x1) ≥ 0)) = D_slices_Contains_S_impl_Proof_impl_Proof_ x0 x1 from by unfold D_slices_Contains_S_impl_Proof_impl_Proof_; exact idxF_any))


def pTrue {α : Type} (_ : α) : Prop := True


def addP (xs : List T114) (p : T114) : List T114 := if xs.length < 40 ∧ (xs.any fun e => Sh.eqB s114 p e) = false then xs ++ [p] else xs
def mergeP (a b : List T114) : List T114 := b.foldl addP a
theorem addP_yes {xs : List T114} {p : T114} (h : xs.length < 40) (h' : (xs.any fun e => Sh.eqB s114 p e) = false) : addP xs p = xs ++ [p] := if_pos ⟨h, h'⟩
theorem addP_has {xs : List T114} {p : T114} (h' : (xs.any fun e => Sh.eqB s114 p e) = true) : addP xs p = xs := if_neg (by rw [h']; simp)
theorem addP_full {xs : List T114} {p : T114} (h : ¬ xs.length < 40) : addP xs p = xs := if_neg (fun e => h e.1)
theorem foldPx_full {xs : List T114} (h : ¬ xs.length < 40) : ∀ ys : List T114, ys.foldl addP xs = xs
  | [] => rfl
  | y :: ys => by rw [List.foldl_cons, addP_full h]; exact foldPx_full h ys
theorem addP_len (xs : List T114) (p : T114) : (addP xs p).length ≤ xs.length + 1 := by unfold addP; split <;> simp
theorem foldPx_len : ∀ (ys xs : List T114), (ys.foldl addP xs).length ≤ xs.length + ys.length
  | [], xs => by simp
  | y :: ys, xs => by have := foldPx_len ys (addP xs y); have := addP_len xs y; simp only [List.foldl_cons, List.length_cons]; omega
theorem foldP_len (xs ys : List T114) (k : Nat) : (foldTo addP xs ys k).length ≤ xs.length + ys.length := by
  have h1 := foldPx_len (ys.take k) xs
  have h2 : (ys.take k).length ≤ ys.length := by simp; omega
  unfold foldTo; omega
theorem foldP_full {xs ys : List T114} {i : Nat} (h : ¬ (foldTo addP xs ys i).length < 40) : mergeP xs ys = foldTo addP xs ys i := by
  unfold mergeP
  have : ys.foldl addP xs = (ys.drop i).foldl addP (foldTo addP xs ys i) := by unfold foldTo; rw [← List.foldl_append, List.take_append_drop]
  rw [this, foldPx_full h]

def S__impl_Ledger_clone : Sum := { fid := 83, dom := [s28], cod := [s28], dp := true, fz := false, pre := fun x => (lenOK (α := T114)) x.1, g := fun x => (((idL (α := T114)) x.1), ()) }
def S__impl_Ledger_clone_tab : List (Nat × Sum) := [(150, S_slices_Clone_S_impl_Proof_impl_Proof_)]
theorem S__impl_Ledger_clone_ok : FnOK Try.prog 83 S__impl_Ledger_clone := by
  refine at_enter 7 (fun x => ⟨[(0, aG [.ro s114 x.1])], []⟩) Try.func83 rfl (by kernel_rfl) (fun x => rfl) ?_
  rintro w0 Z0 ⟨x0, u⟩ a w
  revert x0
  intro (x0 : (List T114)) hpre hlens h
  replace h : At w0 Z0 [] 7 ⟨[(0, aG [.ro s114 x0])], []⟩ a w := h
  replace hpre : (lenOK (α := T114)) x0 := hpre
  have hl1 : List.length x0 ≤ 9223372036854775807 := hlens.1.1
  have hT : TabOK Try.prog S__impl_Ledger_clone_tab := (.cons S_slices_Clone_S_impl_Proof_impl_Proof__ok .nil)
  have hp : List.length x0 ≤ 1073741824 := hpre
  refine wp_seq ?_
  refine at_regq (T := S__impl_Ledger_clone_tab) [{ ids := [1] }, { ids := [2] }] { ts := [1, 2], os := [1, 2] } [] gamOK hT h (by kernel_rfl) trivial ?_
  intro a w h
  refine then_normal ?_
  refine wp_seq ?_
  refine at_regq (T := S__impl_Ledger_clone_tab) [{}, {}, { ids := [3] }] { ts := [2], os := [2, 3] } [(lenOK (α := T114)) x0] gamOK hT h (by kernel_rfl) ⟨(by first | assumption | trivial | (first | omega | (simp only [List.length_append, List.length_cons, List.length_nil, List.length_set, List.length_take, List.length_drop, List.length_replicate, List.length_map, Nat.min_def]; omega) | (simp; done) | (simp; omega))), trivial⟩ ?_
  intro a w h
  refine then_normal ?_
  refine wp_ret ?_
  exact at_return (S := S__impl_Ledger_clone) (x := (x0, ())) (x0, ()) [] h (by kernel_rfl) trivial (congrArg (fun z => (z, ())) (show (x0) = (idL (α := T114)) x0 from by rfl))

def S_spec_l29Copy : Sum := { fid := 80, dom := [s28], cod := [s28], dp := true, fz := false, pre := fun x => (lenOK (α := T114)) x.1, g := fun x => (((idL (α := T114)) x.1), ()) }
def S_spec_l29Copy_tab : List (Nat × Sum) := []
theorem S_spec_l29Copy_ok : FnOK Try.prog 80 S_spec_l29Copy := by
  refine at_enter 8 (fun x => ⟨[(0, aG [.ro s114 x.1])], []⟩) Try.func80 rfl (by kernel_rfl) (fun x => rfl) ?_
  rintro w0 Z0 ⟨x0, u⟩ a w
  revert x0
  intro (x0 : (List T114)) hpre hlens h
  replace h : At w0 Z0 [] 8 ⟨[(0, aG [.ro s114 x0])], []⟩ a w := h
  replace hpre : (lenOK (α := T114)) x0 := hpre
  have hl1 : List.length x0 ≤ 9223372036854775807 := hlens.1.1
  have hT : TabOK Try.prog S_spec_l29Copy_tab := .nil
  have hp : List.length x0 ≤ 1073741824 := hpre
  refine wp_seq ?_
  refine at_regq (T := S_spec_l29Copy_tab) [{ ids := [1] }, { ids := [2] }] { ts := [1, 2], os := [1, 2] } [] gamOK hT h (by kernel_rfl) trivial ?_
  intro a w h
  refine then_normal ?_
  refine wp_seq ?_
  refine at_regq (T := S_spec_l29Copy_tab) [{ ids := [3] }, {}, {}, { ids := [4] }] { ts := [2], os := [2, 4] } [(List.length ([] : List T114) + List.length x0) * 24 ≤ 140737488355328] gamOK hT h (by kernel_rfl) ⟨(by first | omega | (simp only [List.length_append, List.length_cons, List.length_nil, List.length_set, List.length_take, List.length_drop, List.length_replicate, List.length_map, Nat.min_def]; omega) | (simp; done) | (simp; omega)), trivial⟩ ?_
  intro a w h
  refine then_normal ?_
  refine wp_ret ?_
  exact at_return (S := S_spec_l29Copy) (x := (x0, ())) ((([] : List T114) ++ x0), ()) [] h (by kernel_rfl) trivial (congrArg (fun z => (z, ())) (show ((([] : List T114) ++ x0)) = (idL (α := T114)) x0 from by rfl))

def D_spec_l29Has := (fun (xs : List T114) (v : T114) => xs.any fun e => Sh.eqB s114 v e)
def S_spec_l29Has : Sum := { fid := 81, dom := [s26, s114], cod := [(.bool 4)], dp := true, fz := false, pre := fun x => True, g := fun x => ((D_spec_l29Has x.1 x.2.1), ()) }
def S_spec_l29Has_tab : List (Nat × Sum) := []
theorem S_spec_l29Has_ok : FnOK Try.prog 81 S_spec_l29Has := by
  refine at_enter 18 (fun x => ⟨[(0, aF s114 x.1), (1, aG [cI x.2.1.1, cI x.2.1.2.1, cI x.2.1.2.2])], []⟩) Try.func81 rfl (by kernel_rfl) (fun x => rfl) ?_
  rintro w0 Z0 ⟨x0, x1, u⟩ a w
  revert x0 x1
  intro (x0 : (List T114)) (x1 : T114) hpre hlens h
  replace h : At w0 Z0 [] 18 ⟨[(0, aF s114 x0), (1, aG [cI x1.1, cI x1.2.1, cI x1.2.2])], []⟩ a w := h
  have hl1 : List.length x0 ≤ 9223372036854775807 := hlens.1.1
  have hT : TabOK Try.prog S_spec_l29Has_tab := .nil
  refine wp_seq ?_
  refine at_regq (T := S_spec_l29Has_tab) [{ ids := [1] }] { ts := [0, 3, 4], os := [1] } [] gamOK hT h (by kernel_rfl) trivial ?_
  intro a w h
  refine then_normal ?_
  refine wp_seq ?_
  refine wp_seq ?_
  refine at_regq (T := S_spec_l29Has_tab) [] { ts := [0, 3, 4, 5], os := [1] } [] gamOK hT h (by kernel_rfl) trivial ?_
  intro a w h
  refine then_normal ?_
  refine wp_block ?_
  replace h := at_out (σ' := ⟨[(0, aF s114 x0), (3, aP 1 0), (4, aB false), (5, aI 0)], [(1, oX 114 [cI x1.1, cI x1.2.1, cI x1.2.2])]⟩) { ts := [0, 3, 4, 5], os := [1] } h (by kernel_rfl)
  refine at_loop (fun i : Nat => (⟨[(0, aF s114 x0), (3, aP 1 0), (4, aB false), (5, aI ((i : Nat) : Int))], [(1, oX 114 [cI x1.1, cI x1.2.1, cI x1.2.2])]⟩ : St)) (fun i => (i ≤ List.length x0 ∧ noneTo (fun e => Sh.eqB s114 x1 e) x0 (0, (0, 0)) i)) (fun i => List.length x0 - i) (0) h (st_congr1 (fun (d0 : Int) => (⟨[(0, aF s114 x0), (3, aP 1 0), (4, aB false), (5, aI d0)], [(1, oX 114 [cI x1.1, cI x1.2.1, cI x1.2.2])]⟩ : St)) (show (0 : Int) = (((0) : Nat) : Int) from by first | rfl | (rfl))) (by exact ⟨Nat.zero_le _, noneTo_zero⟩) ?_
  intro i a w hok0 h
  refine wp_seq ?_
  refine wp_seq ?_
  refine at_regq (T := S_spec_l29Has_tab) [] { ts := [0, 3, 4, 5, 9], os := [1] } [] gamOK hT h (by kernel_rfl) trivial ?_
  intro a w h
  refine then_normal ?_
  refine at_test (decide (((i : Nat) : Int) < ((List.length x0 : Nat) : Int))) h (by kernel_rfl) (fun h1 => ?_) (fun h1 => ?_)
  · replace h1 : ((i : Nat) : Int) < ((List.length x0 : Nat) : Int) := of_decide_eq_true h1
    refine wp_skip ?_
    refine then_normal ?_
    refine wp_seq ?_
    refine wp_block ?_
    refine wp_seq ?_
    refine at_any (T := S_spec_l29Has_tab) [{}, {}, {}, {}, {}, {}] { ts := [0, 3, 4, 5, 17], os := [1] } ⟨[(0, aF s114 x0), (3, aP 1 0), (4, aB false), (5, aI ((i : Nat) : Int)), (17, aB (allEq [(x0.getD i (0, (0, 0))).1, (x0.getD i (0, (0, 0))).2.1, (x0.getD i (0, (0, 0))).2.2] [x1.1, x1.2.1, x1.2.2]))], [(1, oX 114 [cI x1.1, cI x1.2.1, cI x1.2.2])]⟩ [(0 : Int) ≤ ((i : Nat) : Int) ∧ ((i : Nat) : Int) < ((List.length x0 : Nat) : Int)] gamOK hT mixed h (by kernel_rfl) ⟨(by refine ⟨?_, ?_⟩ <;> (first | omega | (simp only [List.length_append, List.length_cons, List.length_nil, List.length_set, List.length_take, List.length_drop, List.length_replicate, List.length_map, Nat.min_def]; omega) | (simp; done) | (simp; omega))), trivial⟩ ?_
    intro a w h
    refine then_normal ?_
    refine at_test (allEq [(x0.getD i (0, (0, 0))).1, (x0.getD i (0, (0, 0))).2.1, (x0.getD i (0, (0, 0))).2.2] [x1.1, x1.2.1, x1.2.2]) h (by kernel_rfl) (fun h2 => ?_) (fun h2 => ?_)
    · refine wp_seq ?_
      refine at_regq (T := S_spec_l29Has_tab) [] { ts := [0, 3, 4, 5], os := [1] } [] gamOK hT h (by kernel_rfl) trivial ?_
      intro a w h
      refine then_normal ?_
      refine wp_ret ?_
      refine in_ret ?_
      refine then_ret ?_
      refine then_ret ?_
      refine in_ret ?_
      refine then_ret ?_
      exact at_return (S := S_spec_l29Has) (x := (x0, x1, ())) (true, ()) [] h (by kernel_rfl) trivial (congrArg (fun z => (z, ())) (show (true) = D_spec_l29Has x0 x1 from by unfold D_spec_l29Has; (rw [← idxF_any, idxF_at (z := (0, (0, 0))) (by omega) hok0.2 (by rw [allEq_comm] at h2; simpa [allEq, Sh.eqB] using h2)]; simp)))
    · refine wp_skip ?_
      refine in_normal ?_
      refine then_normal ?_
      refine at_regq (T := S_spec_l29Has_tab) [{}, { nw := true }] { ts := [0, 3, 4, 5], os := [1] } [I64 (((i : Nat) : Int) + 1)] gamOK hT h (by kernel_rfl) ⟨⟨by first | omega | (simp only [List.length_append, List.length_cons, List.length_nil, List.length_set, List.length_take, List.length_drop, List.length_replicate, List.length_map, Nat.min_def]; omega) | (simp; done) | (simp; omega), by first | omega | (simp only [List.length_append, List.length_cons, List.length_nil, List.length_set, List.length_take, List.length_drop, List.length_replicate, List.length_map, Nat.min_def]; omega) | (simp; done) | (simp; omega)⟩, trivial⟩ ?_
      intro a w h
      replace h := at_out (σ' := ⟨[(0, aF s114 x0), (3, aP 1 0), (4, aB false), (5, aI (((i : Nat) : Int) + 1))], [(1, oX 114 [cI x1.1, cI x1.2.1, cI x1.2.2])]⟩) { ts := [0, 3, 4, 5], os := [1] } h (by kernel_rfl)
      exact ⟨i + 1, at_eq h (st_congr1 (fun (d0 : Int) => (⟨[(0, aF s114 x0), (3, aP 1 0), (4, aB false), (5, aI d0)], [(1, oX 114 [cI x1.1, cI x1.2.1, cI x1.2.2])]⟩ : St)) (show (((i : Nat) : Int) + 1 : Int) = (((i + 1) : Nat) : Int) from by first | rfl | (omega))), (by exact ⟨by omega, noneTo_succ hok0.2 (by rw [allEq_comm] at h2; simpa [allEq, Sh.eqB] using h2)⟩), (by omega)⟩
  · replace h1 : ¬ (((i : Nat) : Int) < ((List.length x0 : Nat) : Int)) := of_decide_eq_false h1
    refine wp_exit ?_
    refine then_exit ?_
    refine then_exit ?_
    refine in_hit ?_
    refine then_normal ?_
    refine wp_seq ?_
    refine at_reg (T := S_spec_l29Has_tab) [] { ts := [4], os := [] } ⟨[(4, aB false)], []⟩ [] gamOK hT h (by kernel_rfl) trivial ?_
    intro a w h
    refine then_normal ?_
    refine wp_ret ?_
    exact at_return (S := S_spec_l29Has) (x := (x0, x1, ())) (false, ()) [] h (by kernel_rfl) trivial (congrArg (fun z => (z, ())) (show (false) = D_spec_l29Has x0 x1 from by unfold D_spec_l29Has; (rw [← idxF_any, idxF_none (z := (0, (0, 0))) (by omega) hok0.2]; rfl)))

def S_impl_MergeLedgers : Sum := { fid := 18, dom := [s28, s28], cod := [s28], dp := true, fz := false, pre := fun x => (fun (a b : List T114) => a.length ≤ 2097152 ∧ b.length ≤ 2097152) x.1 x.2.1, g := fun x => ((mergeP x.1 x.2.1), ()) }
def S_impl_MergeLedgers_tab : List (Nat × Sum) := [(83, S__impl_Ledger_clone), (84, S_slices_Contains_S_impl_Proof_impl_Proof_)]
theorem S_impl_MergeLedgers_ok : FnOK Try.prog 18 S_impl_MergeLedgers := by
  refine at_enter 36 (fun x => ⟨[(0, aG [.ro s114 x.1]), (1, aG [.ro s114 x.2.1])], []⟩) Try.func18 rfl (by kernel_rfl) (fun x => rfl) ?_
  rintro w0 Z0 ⟨x0, x1, u⟩ a w
  revert x0 x1
  intro (x0 : (List T114)) (x1 : (List T114)) hpre hlens h
  replace h : At w0 Z0 [] 36 ⟨[(0, aG [.ro s114 x0]), (1, aG [.ro s114 x1])], []⟩ a w := h
  replace hpre : (fun (a b : List T114) => a.length ≤ 2097152 ∧ b.length ≤ 2097152) x0 x1 := hpre
  have hl1 : List.length x0 ≤ 9223372036854775807 := hlens.1.1
  have hl2 : List.length x1 ≤ 9223372036854775807 := hlens.2.1.1
  have hT : TabOK Try.prog S_impl_MergeLedgers_tab := (.cons S__impl_Ledger_clone_ok (.cons S_slices_Contains_S_impl_Proof_impl_Proof__ok .nil))
  have hp : List.length x0 ≤ 2097152 ∧ List.length x1 ≤ 2097152 := hpre
  refine wp_seq ?_
  refine at_regq (T := S_impl_MergeLedgers_tab) [{ ids := [1] }, { ids := [2] }, { ids := [3] }] { ts := [2, 3, 4], os := [1, 2, 3] } [] gamOK hT h (by kernel_rfl) trivial ?_
  intro a w h
  refine then_normal ?_
  refine wp_seq ?_
  refine at_regq (T := S_impl_MergeLedgers_tab) [{}, { ids := [4] }, { ids := [5] }] { ts := [3, 4, 5], os := [2, 3, 4, 5] } [(lenOK (α := T114)) x0] gamOK hT h (by kernel_rfl) ⟨(by (show _ ≤ _; omega)), trivial⟩ ?_
  intro a w h
  refine then_normal ?_
  refine wp_seq ?_
  refine wp_seq ?_
  refine at_regq (T := S_impl_MergeLedgers_tab) [] { ts := [4, 5, 11, 12, 13], os := [3, 4, 5] } [] gamOK hT h (by kernel_rfl) trivial ?_
  intro a w h
  refine then_normal ?_
  refine wp_block ?_
  replace h := at_out (σ' := ⟨[(4, aP 3 0), (5, aP 5 0), (11, aF s114 x1), (12, aI ((List.length x1 : Nat) : Int)), (13, aI 0)], [(3, oX 28 [cN]), (4, oR s114 x0), (5, oX 28 [.sl 4])]⟩) { ts := [4, 5, 11, 12, 13], os := [3, 4, 5] } h (by kernel_rfl)
  refine at_loop (fun i : Nat => (⟨[(4, aP 3 0), (5, aP 5 0), (11, aF s114 x1), (12, aI ((List.length x1 : Nat) : Int)), (13, aI ((i : Nat) : Int))], [(3, oX 28 [cN]), (4, oR s114 (foldTo addP x0 x1 i)), (5, oX 28 [.sl 4])]⟩ : St)) (fun i => i ≤ List.length x1) (fun i => List.length x1 - i) (0) h (st_congr2 (fun (d0 : List T114) (d1 : Int) => (⟨[(4, aP 3 0), (5, aP 5 0), (11, aF s114 x1), (12, aI ((List.length x1 : Nat) : Int)), (13, aI d1)], [(3, oX 28 [cN]), (4, oR s114 d0), (5, oX 28 [.sl 4])]⟩ : St)) (show (x0 : List T114) = (foldTo addP x0 x1 (0)) from by first | rfl | (rfl)) (show (0 : Int) = (((0) : Nat) : Int) from by first | rfl | (rfl))) (by first | omega | simp | (refine ⟨?_, ?_⟩ <;> first | omega | simp)) ?_
  intro i a w hok0 h
  have hfl := foldP_len x0 x1 i
  refine wp_seq ?_
  refine at_reg (T := S_impl_MergeLedgers_tab) [] { ts := [4, 5, 11, 12, 13, 14], os := [3, 4, 5] } ⟨[(4, aP 3 0), (5, aP 5 0), (11, aF s114 x1), (12, aI ((List.length x1 : Nat) : Int)), (13, aI ((i : Nat) : Int)), (14, aB (decide (((i : Nat) : Int) < ((List.length x1 : Nat) : Int))))], [(3, oX 28 [cN]), (4, oR s114 (foldTo addP x0 x1 i)), (5, oX 28 [.sl 4])]⟩ [] gamOK hT h (by kernel_rfl) trivial ?_
  intro a w h
  refine then_normal ?_
  refine wp_seq ?_
  refine at_test (decide (((i : Nat) : Int) < ((List.length x1 : Nat) : Int))) h (by kernel_rfl) (fun h1 => ?_) (fun h1 => ?_)
  · replace h1 : ((i : Nat) : Int) < ((List.length x1 : Nat) : Int) := of_decide_eq_true h1
    refine wp_skip ?_
    refine then_normal ?_
    refine wp_seq ?_
    refine wp_block ?_
    refine wp_seq ?_
    refine at_regq (T := S_impl_MergeLedgers_tab) [{}, {}, { ids := [6] }] { ts := [4, 5, 7, 11, 12, 13], os := [3, 4, 5, 6] } [(0 : Int) ≤ ((i : Nat) : Int) ∧ ((i : Nat) : Int) < ((List.length x1 : Nat) : Int)] gamOK hT h (by kernel_rfl) ⟨(by refine ⟨?_, ?_⟩ <;> (first | omega | (simp only [List.length_append, List.length_cons, List.length_nil, List.length_set, List.length_take, List.length_drop, List.length_replicate, List.length_map, Nat.min_def]; omega) | (simp; done) | (simp; omega))), trivial⟩ ?_
    intro a w h
    refine then_normal ?_
    refine wp_seq ?_
    by_cases h2 : ((List.length (foldTo addP x0 x1 i) : Nat) : Int) < 40
    · skip
      refine at_regq (T := S_impl_MergeLedgers_tab) [{}, {}, {}, { hint := some (aB true) }] { ts := [4, 5, 7, 11, 12, 13, 22, 23, 24, 25, 26, 27], os := [3, 4, 5, 6] } [(AV.p (.c (.v (.bool (decide (((List.length (foldTo addP x0 x1 i) : Nat) : Int) < 40))))) = AV.p (.c (.v (.bool true)))), True] gamOK hT h (by kernel_rfl) ⟨hint_bool (decide_eq_true h2), trivial, trivial⟩ ?_
      intro a w h
      refine then_normal ?_
      refine at_test (!(D_slices_Contains_S_impl_Proof_impl_Proof_ (foldTo addP x0 x1 i) (x1.getD i (0, (0, 0))))) h (by kernel_rfl) (fun h3 => ?_) (fun h3 => ?_)
      · replace h3 : (D_slices_Contains_S_impl_Proof_impl_Proof_ (foldTo addP x0 x1 i) (x1.getD i (0, (0, 0)))) = false := notT h3
        refine at_regq (T := S_impl_MergeLedgers_tab) [{}, {}, {}, { ids := [7] }, { ids := [8] }] { ts := [4, 5, 11, 12, 13, 22, 23, 24, 25, 26], os := [3, 5, 8] } [(List.length (foldTo addP x0 x1 i) + List.length ([(x1.getD i (0, (0, 0)))])) * 24 ≤ 140737488355328] gamOK hT h (by kernel_rfl) ⟨(by first | omega | (simp only [List.length_append, List.length_cons, List.length_nil, List.length_set, List.length_take, List.length_drop, List.length_replicate, List.length_map, Nat.min_def]; omega) | (simp; done) | (simp; omega)), trivial⟩ ?_
        intro a w h
        refine in_normal ?_
        refine then_normal ?_
        refine at_reg (T := S_impl_MergeLedgers_tab) [{ nw := true }] { ts := [4, 5, 11, 12, 13, 22, 23, 24, 25, 26], os := [3, 5, 8] } ⟨[(4, aP 3 0), (5, aP 5 0), (11, aF s114 x1), (12, aI ((List.length x1 : Nat) : Int)), (13, aI (((i : Nat) : Int) + 1)), (22, aP 5 0), (23, aS 4), (24, aG [cI (x1.getD i (0, (0, 0))).1, cI (x1.getD i (0, (0, 0))).2.1, cI (x1.getD i (0, (0, 0))).2.2]), (25, aB (D_slices_Contains_S_impl_Proof_impl_Proof_ (foldTo addP x0 x1 i) (x1.getD i (0, (0, 0))))), (26, aB (!(D_slices_Contains_S_impl_Proof_impl_Proof_ (foldTo addP x0 x1 i) (x1.getD i (0, (0, 0))))))], [(3, oX 28 [cN]), (5, oX 28 [.sl 8]), (8, oR s114 ((foldTo addP x0 x1 i) ++ ([(x1.getD i (0, (0, 0)))])))]⟩ [I64 (((i : Nat) : Int) + 1)] gamOK hT h (by kernel_rfl) ⟨⟨by first | omega | (simp only [List.length_append, List.length_cons, List.length_nil, List.length_set, List.length_take, List.length_drop, List.length_replicate, List.length_map, Nat.min_def]; omega) | (simp; done) | (simp; omega), by first | omega | (simp only [List.length_append, List.length_cons, List.length_nil, List.length_set, List.length_take, List.length_drop, List.length_replicate, List.length_map, Nat.min_def]; omega) | (simp; done) | (simp; omega)⟩, trivial⟩ ?_
        intro a w h
        replace h := at_out (σ' := ⟨[(4, aP 3 0), (5, aP 5 0), (11, aF s114 x1), (12, aI ((List.length x1 : Nat) : Int)), (13, aI (((i : Nat) : Int) + 1))], [(3, oX 28 [cN]), (4, oR s114 ((foldTo addP x0 x1 i) ++ ([(x1.getD i (0, (0, 0)))]))), (5, oX 28 [.sl 4])]⟩) { ts := [4, 5, 11, 12, 13], os := [3, 8, 5], rn := [(8, 4)] } h (by kernel_rfl)
        exact ⟨i + 1, at_eq h (st_congr2 (fun (d0 : List T114) (d1 : Int) => (⟨[(4, aP 3 0), (5, aP 5 0), (11, aF s114 x1), (12, aI ((List.length x1 : Nat) : Int)), (13, aI d1)], [(3, oX 28 [cN]), (4, oR s114 d0), (5, oX 28 [.sl 4])]⟩ : St)) (show (((foldTo addP x0 x1 i) ++ ([(x1.getD i (0, (0, 0)))])) : List T114) = (foldTo addP x0 x1 (i + 1)) from by first | rfl | (rw [foldTo_succ (0, (0, 0)) (by omega)]; first | (rw [addP_yes (by omega) (by assumption)]; done) | (rw [addP_has (by assumption)]; done) | (rw [addP_full (by omega)]; done))) (show (((i : Nat) : Int) + 1 : Int) = (((i + 1) : Nat) : Int) from by first | rfl | (omega))), (by first | omega | (refine ⟨?_, ?_⟩ <;> omega)), (by omega)⟩
      · replace h3 : (D_slices_Contains_S_impl_Proof_impl_Proof_ (foldTo addP x0 x1 i) (x1.getD i (0, (0, 0)))) = true := notF h3
        refine wp_skip ?_
        refine in_normal ?_
        refine then_normal ?_
        refine at_regq (T := S_impl_MergeLedgers_tab) [{ nw := true }] { ts := [4, 5, 11, 12, 13, 22, 23, 24, 25, 26], os := [3, 4, 5] } [I64 (((i : Nat) : Int) + 1)] gamOK hT h (by kernel_rfl) ⟨⟨by first | omega | (simp only [List.length_append, List.length_cons, List.length_nil, List.length_set, List.length_take, List.length_drop, List.length_replicate, List.length_map, Nat.min_def]; omega) | (simp; done) | (simp; omega), by first | omega | (simp only [List.length_append, List.length_cons, List.length_nil, List.length_set, List.length_take, List.length_drop, List.length_replicate, List.length_map, Nat.min_def]; omega) | (simp; done) | (simp; omega)⟩, trivial⟩ ?_
        intro a w h
        replace h := at_out (σ' := ⟨[(4, aP 3 0), (5, aP 5 0), (11, aF s114 x1), (12, aI ((List.length x1 : Nat) : Int)), (13, aI (((i : Nat) : Int) + 1))], [(3, oX 28 [cN]), (4, oR s114 (foldTo addP x0 x1 i)), (5, oX 28 [.sl 4])]⟩) { ts := [4, 5, 11, 12, 13], os := [3, 4, 5] } h (by kernel_rfl)
        exact ⟨i + 1, at_eq h (st_congr2 (fun (d0 : List T114) (d1 : Int) => (⟨[(4, aP 3 0), (5, aP 5 0), (11, aF s114 x1), (12, aI ((List.length x1 : Nat) : Int)), (13, aI d1)], [(3, oX 28 [cN]), (4, oR s114 d0), (5, oX 28 [.sl 4])]⟩ : St)) (show ((foldTo addP x0 x1 i) : List T114) = (foldTo addP x0 x1 (i + 1)) from by first | rfl | (rw [foldTo_succ (0, (0, 0)) (by omega)]; first | (rw [addP_yes (by omega) (by assumption)]; done) | (rw [addP_has (by assumption)]; done) | (rw [addP_full (by omega)]; done))) (show (((i : Nat) : Int) + 1 : Int) = (((i + 1) : Nat) : Int) from by first | rfl | (omega))), (by first | omega | (refine ⟨?_, ?_⟩ <;> omega)), (by omega)⟩
    · skip
      refine at_regq (T := S_impl_MergeLedgers_tab) [{}, {}, {}, { hint := some (aB false) }] { ts := [4, 5, 7, 11, 12, 13, 27], os := [3, 4, 5, 6] } [(AV.p (.c (.v (.bool (decide (((List.length (foldTo addP x0 x1 i) : Nat) : Int) < 40))))) = AV.p (.c (.v (.bool false))))] gamOK hT h (by kernel_rfl) ⟨hint_bool (decide_eq_false h2), trivial⟩ ?_
      intro a w h
      refine then_normal ?_
      refine at_test false h (by kernel_rfl) (fun hh => nomatch hh) (fun hh => ?_)
      refine wp_skip ?_
      refine in_normal ?_
      refine then_normal ?_
      refine at_regq (T := S_impl_MergeLedgers_tab) [{ nw := true }] { ts := [4, 5, 11, 12, 13], os := [3, 4, 5] } [I64 (((i : Nat) : Int) + 1)] gamOK hT h (by kernel_rfl) ⟨⟨by first | omega | (simp only [List.length_append, List.length_cons, List.length_nil, List.length_set, List.length_take, List.length_drop, List.length_replicate, List.length_map, Nat.min_def]; omega) | (simp; done) | (simp; omega), by first | omega | (simp only [List.length_append, List.length_cons, List.length_nil, List.length_set, List.length_take, List.length_drop, List.length_replicate, List.length_map, Nat.min_def]; omega) | (simp; done) | (simp; omega)⟩, trivial⟩ ?_
      intro a w h
      replace h := at_out (σ' := ⟨[(4, aP 3 0), (5, aP 5 0), (11, aF s114 x1), (12, aI ((List.length x1 : Nat) : Int)), (13, aI (((i : Nat) : Int) + 1))], [(3, oX 28 [cN]), (4, oR s114 (foldTo addP x0 x1 i)), (5, oX 28 [.sl 4])]⟩) { ts := [4, 5, 11, 12, 13], os := [3, 4, 5] } h (by kernel_rfl)
      exact ⟨i + 1, at_eq h (st_congr2 (fun (d0 : List T114) (d1 : Int) => (⟨[(4, aP 3 0), (5, aP 5 0), (11, aF s114 x1), (12, aI ((List.length x1 : Nat) : Int)), (13, aI d1)], [(3, oX 28 [cN]), (4, oR s114 d0), (5, oX 28 [.sl 4])]⟩ : St)) (show ((foldTo addP x0 x1 i) : List T114) = (foldTo addP x0 x1 (i + 1)) from by first | rfl | (rw [foldTo_succ (0, (0, 0)) (by omega)]; first | (rw [addP_yes (by omega) (by assumption)]; done) | (rw [addP_has (by assumption)]; done) | (rw [addP_full (by omega)]; done))) (show (((i : Nat) : Int) + 1 : Int) = (((i + 1) : Nat) : Int) from by first | rfl | (omega))), (by first | omega | (refine ⟨?_, ?_⟩ <;> omega)), (by omega)⟩
  · replace h1 : ¬ (((i : Nat) : Int) < ((List.length x1 : Nat) : Int)) := of_decide_eq_false h1
    refine wp_exit ?_
    refine then_exit ?_
    refine then_exit ?_
    refine in_hit ?_
    refine then_normal ?_
    refine wp_seq ?_
    refine at_regq (T := S_impl_MergeLedgers_tab) [] { ts := [4], os := [3, 4] } [] gamOK hT h (by kernel_rfl) trivial ?_
    intro a w h
    refine then_normal ?_
    refine wp_ret ?_
    exact at_return (S := S_impl_MergeLedgers) (x := (x0, x1, ())) ((foldTo addP x0 x1 i), ()) [] h (by kernel_rfl) trivial (congrArg (fun z => (z, ())) (show ((foldTo addP x0 x1 i)) = mergeP x0 x1 from by (unfold mergeP; rw [foldTo_all (by omega)])))

def S_spec_MergeLedgers : Sum := { fid := 16, dom := [s28, s28], cod := [s28], dp := true, fz := false, pre := fun x => (fun (a b : List T114) => a.length ≤ 2097152 ∧ b.length ≤ 2097152) x.1 x.2.1, g := fun x => ((mergeP x.1 x.2.1), ()) }
def S_spec_MergeLedgers_tab : List (Nat × Sum) := [(80, S_spec_l29Copy), (81, S_spec_l29Has)]
theorem S_spec_MergeLedgers_ok : FnOK Try.prog 16 S_spec_MergeLedgers := by
  refine at_enter 42 (fun x => ⟨[(0, aG [.ro s114 x.1]), (1, aG [.ro s114 x.2.1])], []⟩) Try.func16 rfl (by kernel_rfl) (fun x => rfl) ?_
  rintro w0 Z0 ⟨x0, x1, u⟩ a w
  revert x0 x1
  intro (x0 : (List T114)) (x1 : (List T114)) hpre hlens h
  replace h : At w0 Z0 [] 42 ⟨[(0, aG [.ro s114 x0]), (1, aG [.ro s114 x1])], []⟩ a w := h
  replace hpre : (fun (a b : List T114) => a.length ≤ 2097152 ∧ b.length ≤ 2097152) x0 x1 := hpre
  have hl1 : List.length x0 ≤ 9223372036854775807 := hlens.1.1
  have hl2 : List.length x1 ≤ 9223372036854775807 := hlens.2.1.1
  have hT : TabOK Try.prog S_spec_MergeLedgers_tab := (.cons S_spec_l29Copy_ok (.cons S_spec_l29Has_ok .nil))
  have hp : List.length x0 ≤ 2097152 ∧ List.length x1 ≤ 2097152 := hpre
  refine wp_seq ?_
  refine at_regq (T := S_spec_MergeLedgers_tab) [{ ids := [1] }, { ids := [2] }, { ids := [3] }] { ts := [2, 3, 4], os := [1, 2, 3] } [] gamOK hT h (by kernel_rfl) trivial ?_
  intro a w h
  refine then_normal ?_
  refine wp_seq ?_
  refine at_regq (T := S_spec_MergeLedgers_tab) [{}, { ids := [4] }, { ids := [5] }] { ts := [3, 4, 5], os := [2, 3, 4, 5] } [(lenOK (α := T114)) x0] gamOK hT h (by kernel_rfl) ⟨(by (show _ ≤ _; omega)), trivial⟩ ?_
  intro a w h
  refine then_normal ?_
  refine wp_seq ?_
  refine wp_seq ?_
  refine at_regq (T := S_spec_MergeLedgers_tab) [] { ts := [3, 4, 5, 6], os := [2, 3, 4, 5] } [] gamOK hT h (by kernel_rfl) trivial ?_
  intro a w h
  refine then_normal ?_
  refine wp_block ?_
  replace h := at_out (σ' := ⟨[(3, aP 2 0), (4, aP 3 0), (5, aP 5 0), (6, aI 0)], [(2, oX 28 [.ro s114 x1]), (3, oX 28 [cN]), (4, oR s114 x0), (5, oX 28 [.sl 4])]⟩) { ts := [3, 4, 5, 6], os := [2, 3, 4, 5] } h (by kernel_rfl)
  refine at_loop (fun i : Nat => (⟨[(3, aP 2 0), (4, aP 3 0), (5, aP 5 0), (6, aI ((i : Nat) : Int))], [(2, oX 28 [.ro s114 x1]), (3, oX 28 [cN]), (4, oR s114 (foldTo addP x0 x1 i)), (5, oX 28 [.sl 4])]⟩ : St)) (fun i => i ≤ List.length x1) (fun i => List.length x1 - i) (0) h (st_congr2 (fun (d0 : List T114) (d1 : Int) => (⟨[(3, aP 2 0), (4, aP 3 0), (5, aP 5 0), (6, aI d1)], [(2, oX 28 [.ro s114 x1]), (3, oX 28 [cN]), (4, oR s114 d0), (5, oX 28 [.sl 4])]⟩ : St)) (show (x0 : List T114) = (foldTo addP x0 x1 (0)) from by first | rfl | (rfl)) (show (0 : Int) = (((0) : Nat) : Int) from by first | rfl | (rfl))) (by first | omega | simp | (refine ⟨?_, ?_⟩ <;> first | omega | simp)) ?_
  intro i a w hok0 h
  have hfl := foldP_len x0 x1 i
  refine wp_seq ?_
  refine wp_seq ?_
  by_cases h1 : ((i : Nat) : Int) < ((List.length x1 : Nat) : Int)
  · skip
    refine at_reg (T := S_spec_MergeLedgers_tab) [{}, {}, {}, {}, { hint := some (aB true) }] { ts := [3, 4, 5, 6, 15, 16, 17, 18, 19], os := [2, 3, 4, 5] } ⟨[(3, aP 2 0), (4, aP 3 0), (5, aP 5 0), (6, aI ((i : Nat) : Int)), (15, aP 5 0), (16, aS 4), (17, aI ((List.length (foldTo addP x0 x1 i) : Nat) : Int)), (18, aB (decide (((List.length (foldTo addP x0 x1 i) : Nat) : Int) < 40))), (19, aB (decide (((List.length (foldTo addP x0 x1 i) : Nat) : Int) < 40)))], [(2, oX 28 [.ro s114 x1]), (3, oX 28 [cN]), (4, oR s114 (foldTo addP x0 x1 i)), (5, oX 28 [.sl 4])]⟩ [(AV.p (.c (.v (.bool (decide (((i : Nat) : Int) < ((List.length x1 : Nat) : Int)))))) = AV.p (.c (.v (.bool true))))] gamOK hT h (by kernel_rfl) ⟨hint_bool (decide_eq_true h1), trivial⟩ ?_
    intro a w h
    refine then_normal ?_
    refine at_test (decide (((List.length (foldTo addP x0 x1 i) : Nat) : Int) < 40)) h (by kernel_rfl) (fun h2 => ?_) (fun h2 => ?_)
    · replace h2 : ((List.length (foldTo addP x0 x1 i) : Nat) : Int) < 40 := of_decide_eq_true h2
      refine wp_skip ?_
      refine then_normal ?_
      refine wp_seq ?_
      refine wp_block ?_
      refine wp_seq ?_
      refine at_anyq (T := S_spec_MergeLedgers_tab) [{}, {}, {}, {}, {}, {}, {}, {}, {}] { ts := [3, 4, 5, 6, 15, 16, 17, 18, 30], os := [2, 3, 4, 5] } [(0 : Int) ≤ ((i : Nat) : Int) ∧ ((i : Nat) : Int) < ((List.length x1 : Nat) : Int), True] gamOK hT mixed h (by kernel_rfl) ⟨(by refine ⟨?_, ?_⟩ <;> (first | omega | (simp only [List.length_append, List.length_cons, List.length_nil, List.length_set, List.length_take, List.length_drop, List.length_replicate, List.length_map, Nat.min_def]; omega) | (simp; done) | (simp; omega))), trivial, trivial⟩ ?_
      intro a w h
      refine then_normal ?_
      refine at_test (!(D_spec_l29Has (foldTo addP x0 x1 i) (x1.getD i (0, (0, 0))))) h (by kernel_rfl) (fun h3 => ?_) (fun h3 => ?_)
      · replace h3 : (D_spec_l29Has (foldTo addP x0 x1 i) (x1.getD i (0, (0, 0)))) = false := notT h3
        refine at_anyq (T := S_spec_MergeLedgers_tab) [{}, {}, {}, {}, {}, {}, {}, { ids := [6] }, { ids := [7] }, {}, {}] { ts := [3, 4, 5, 6, 15, 16, 17, 18], os := [2, 3, 5, 7] } [(0 : Int) ≤ ((i : Nat) : Int) ∧ ((i : Nat) : Int) < ((List.length x1 : Nat) : Int), (List.length (foldTo addP x0 x1 i) + List.length ([(x1.getD i (0, (0, 0)))])) * 24 ≤ 140737488355328] gamOK hT mixed h (by kernel_rfl) ⟨(by refine ⟨?_, ?_⟩ <;> (first | omega | (simp only [List.length_append, List.length_cons, List.length_nil, List.length_set, List.length_take, List.length_drop, List.length_replicate, List.length_map, Nat.min_def]; omega) | (simp; done) | (simp; omega))), (by first | omega | (simp only [List.length_append, List.length_cons, List.length_nil, List.length_set, List.length_take, List.length_drop, List.length_replicate, List.length_map, Nat.min_def]; omega) | (simp; done) | (simp; omega)), trivial⟩ ?_
        intro a w h
        refine in_normal ?_
        refine then_normal ?_
        refine at_regq (T := S_spec_MergeLedgers_tab) [{}, { nw := true }] { ts := [3, 4, 5, 6, 15, 16, 17, 18], os := [2, 3, 5, 7] } [I64 (((i : Nat) : Int) + 1)] gamOK hT h (by kernel_rfl) ⟨⟨by first | omega | (simp only [List.length_append, List.length_cons, List.length_nil, List.length_set, List.length_take, List.length_drop, List.length_replicate, List.length_map, Nat.min_def]; omega) | (simp; done) | (simp; omega), by first | omega | (simp only [List.length_append, List.length_cons, List.length_nil, List.length_set, List.length_take, List.length_drop, List.length_replicate, List.length_map, Nat.min_def]; omega) | (simp; done) | (simp; omega)⟩, trivial⟩ ?_
        intro a w h
        replace h := at_out (σ' := ⟨[(3, aP 2 0), (4, aP 3 0), (5, aP 5 0), (6, aI (((i : Nat) : Int) + 1))], [(2, oX 28 [.ro s114 x1]), (3, oX 28 [cN]), (4, oR s114 ((foldTo addP x0 x1 i) ++ ([(x1.getD i (0, (0, 0)))]))), (5, oX 28 [.sl 4])]⟩) { ts := [3, 4, 5, 6], os := [2, 3, 7, 5], rn := [(7, 4)] } h (by kernel_rfl)
        exact ⟨i + 1, at_eq h (st_congr2 (fun (d0 : List T114) (d1 : Int) => (⟨[(3, aP 2 0), (4, aP 3 0), (5, aP 5 0), (6, aI d1)], [(2, oX 28 [.ro s114 x1]), (3, oX 28 [cN]), (4, oR s114 d0), (5, oX 28 [.sl 4])]⟩ : St)) (show (((foldTo addP x0 x1 i) ++ ([(x1.getD i (0, (0, 0)))])) : List T114) = (foldTo addP x0 x1 (i + 1)) from by first | rfl | (rw [foldTo_succ (0, (0, 0)) (by omega)]; first | (rw [addP_yes (by omega) (by assumption)]; done) | (rw [addP_has (by assumption)]; done) | (rw [addP_full (by omega)]; done))) (show (((i : Nat) : Int) + 1 : Int) = (((i + 1) : Nat) : Int) from by first | rfl | (omega))), (by first | omega | (refine ⟨?_, ?_⟩ <;> omega)), (by omega)⟩
      · replace h3 : (D_spec_l29Has (foldTo addP x0 x1 i) (x1.getD i (0, (0, 0)))) = true := notF h3
        refine wp_skip ?_
        refine in_normal ?_
        refine then_normal ?_
        refine at_regq (T := S_spec_MergeLedgers_tab) [{}, { nw := true }] { ts := [3, 4, 5, 6, 15, 16, 17, 18], os := [2, 3, 4, 5] } [I64 (((i : Nat) : Int) + 1)] gamOK hT h (by kernel_rfl) ⟨⟨by first | omega | (simp only [List.length_append, List.length_cons, List.length_nil, List.length_set, List.length_take, List.length_drop, List.length_replicate, List.length_map, Nat.min_def]; omega) | (simp; done) | (simp; omega), by first | omega | (simp only [List.length_append, List.length_cons, List.length_nil, List.length_set, List.length_take, List.length_drop, List.length_replicate, List.length_map, Nat.min_def]; omega) | (simp; done) | (simp; omega)⟩, trivial⟩ ?_
        intro a w h
        replace h := at_out (σ' := ⟨[(3, aP 2 0), (4, aP 3 0), (5, aP 5 0), (6, aI (((i : Nat) : Int) + 1))], [(2, oX 28 [.ro s114 x1]), (3, oX 28 [cN]), (4, oR s114 (foldTo addP x0 x1 i)), (5, oX 28 [.sl 4])]⟩) { ts := [3, 4, 5, 6], os := [2, 3, 4, 5] } h (by kernel_rfl)
        exact ⟨i + 1, at_eq h (st_congr2 (fun (d0 : List T114) (d1 : Int) => (⟨[(3, aP 2 0), (4, aP 3 0), (5, aP 5 0), (6, aI d1)], [(2, oX 28 [.ro s114 x1]), (3, oX 28 [cN]), (4, oR s114 d0), (5, oX 28 [.sl 4])]⟩ : St)) (show ((foldTo addP x0 x1 i) : List T114) = (foldTo addP x0 x1 (i + 1)) from by first | rfl | (rw [foldTo_succ (0, (0, 0)) (by omega)]; first | (rw [addP_yes (by omega) (by assumption)]; done) | (rw [addP_has (by assumption)]; done) | (rw [addP_full (by omega)]; done))) (show (((i : Nat) : Int) + 1 : Int) = (((i + 1) : Nat) : Int) from by first | rfl | (omega))), (by first | omega | (refine ⟨?_, ?_⟩ <;> omega)), (by omega)⟩
    · replace h2 : ¬ (((List.length (foldTo addP x0 x1 i) : Nat) : Int) < 40) := of_decide_eq_false h2
      refine wp_exit ?_
      refine then_exit ?_
      refine then_exit ?_
      refine in_hit ?_
      refine then_normal ?_
      refine wp_seq ?_
      refine at_regq (T := S_spec_MergeLedgers_tab) [] { ts := [4], os := [3, 4] } [] gamOK hT h (by kernel_rfl) trivial ?_
      intro a w h
      refine then_normal ?_
      refine wp_ret ?_
      exact at_return (S := S_spec_MergeLedgers) (x := (x0, x1, ())) ((foldTo addP x0 x1 i), ()) [] h (by kernel_rfl) trivial (congrArg (fun z => (z, ())) (show ((foldTo addP x0 x1 i)) = mergeP x0 x1 from by (unfold mergeP; first | (rw [foldTo_all (by omega)]; done) | exact (foldP_full (i := i) (by omega)).symm)))
  · skip
    refine at_reg (T := S_spec_MergeLedgers_tab) [{}, {}, {}, {}, { hint := some (aB false) }] { ts := [3, 4, 5, 6, 19], os := [2, 3, 4, 5] } ⟨[(3, aP 2 0), (4, aP 3 0), (5, aP 5 0), (6, aI ((i : Nat) : Int)), (19, aB false)], [(2, oX 28 [.ro s114 x1]), (3, oX 28 [cN]), (4, oR s114 (foldTo addP x0 x1 i)), (5, oX 28 [.sl 4])]⟩ [(AV.p (.c (.v (.bool (decide (((i : Nat) : Int) < ((List.length x1 : Nat) : Int)))))) = AV.p (.c (.v (.bool false))))] gamOK hT h (by kernel_rfl) ⟨hint_bool (decide_eq_false h1), trivial⟩ ?_
    intro a w h
    refine then_normal ?_
    refine at_test false h (by kernel_rfl) (fun hh => nomatch hh) (fun hh => ?_)
    refine wp_exit ?_
    refine then_exit ?_
    refine then_exit ?_
    refine in_hit ?_
    refine then_normal ?_
    refine wp_seq ?_
    refine at_regq (T := S_spec_MergeLedgers_tab) [] { ts := [4], os := [3, 4] } [] gamOK hT h (by kernel_rfl) trivial ?_
    intro a w h
    refine then_normal ?_
    refine wp_ret ?_
    exact at_return (S := S_spec_MergeLedgers) (x := (x0, x1, ())) ((foldTo addP x0 x1 i), ()) [] h (by kernel_rfl) trivial (congrArg (fun z => (z, ())) (show ((foldTo addP x0 x1 i)) = mergeP x0 x1 from by (unfold mergeP; first | (rw [foldTo_all (by omega)]; done) | exact (foldP_full (i := i) (by omega)).symm)))


def D_laws_FnExactMergeLedgers := (fun (_ : (List T164)) (_ : (List T164)) => true)
def S_laws_FnExactMergeLedgers : Sum := { fid := 3, dom := [s24, s24], cod := [(.bool 4)], dp := true, fz := false, pre := fun x => (fun (x0 : (List T164)) (x1 : (List T164)) => Sh.i64 s24 x0 ∧ Sh.i64 s24 x1) x.1 x.2.1, g := fun x => ((D_laws_FnExactMergeLedgers x.1 x.2.1), ()) }
def S_laws_FnExactMergeLedgers_tab : List (Nat × Sum) := [(15, S_laws_szLedger), (17, S_laws_toLedger), (16, S_spec_MergeLedgers), (18, S_impl_MergeLedgers), (19, S_laws_eqLedger), (20, S_laws_markLedger), (21, S_laws_heldLedger)]
theorem S_laws_FnExactMergeLedgers_ok : FnOK Try.prog 3 S_laws_FnExactMergeLedgers := by
  refine at_enter 92 (fun x => ⟨[(0, aG [.ro s164 x.1]), (1, aG [.ro s164 x.2.1])], []⟩) Try.func3 rfl (by kernel_rfl) (fun x => rfl) ?_
  rintro w0 Z0 ⟨x0, x1, u⟩ a w
  revert x0 x1
  intro (x0 : (List T164)) (x1 : (List T164)) hpre hlens h
  replace h : At w0 Z0 [] 92 ⟨[(0, aG [.ro s164 x0]), (1, aG [.ro s164 x1])], []⟩ a w := h
  replace hpre : (fun (x0 : (List T164)) (x1 : (List T164)) => Sh.i64 s24 x0 ∧ Sh.i64 s24 x1) x0 x1 := hpre
  have hl1 : List.length x0 ≤ 9223372036854775807 := hlens.1.1
  have hl2 : List.length x1 ≤ 9223372036854775807 := hlens.2.1.1
  have hT : TabOK Try.prog S_laws_FnExactMergeLedgers_tab := (.cons S_laws_szLedger_ok (.cons S_laws_toLedger_ok (.cons S_spec_MergeLedgers_ok (.cons S_impl_MergeLedgers_ok (.cons S_laws_eqLedger_ok (.cons S_laws_markLedger_ok (.cons S_laws_heldLedger_ok .nil)))))))
  have hq0 : Sh.sz s28 x0 = Sh.sz s24 x0 := rfl
  have hb0 : Sh.ctT s28 x0 ≤ 3 * Sh.sz s28 x0 := Sh.ctT_le2 s28 x0
  have hz0 : Sh.ct s28 x0 ≤ 3 * (1 + Sh.sz s28 x0) := Sh.ct_le s28 x0
  have ht0 : Sh.sz s24 x0 = (Sh.sz s22 x0) := rfl
  have hs0_1 : Sh.sz s22 x0 = List.length x0 := sz_flat (by rfl) _
  have hq1 : Sh.sz s28 x1 = Sh.sz s24 x1 := rfl
  have hb1 : Sh.ctT s28 x1 ≤ 3 * Sh.sz s28 x1 := Sh.ctT_le2 s28 x1
  have hz1 : Sh.ct s28 x1 ≤ 3 * (1 + Sh.sz s28 x1) := Sh.ct_le s28 x1
  have ht1 : Sh.sz s24 x1 = (Sh.sz s22 x1) := rfl
  have hs1_1 : Sh.sz s22 x1 = List.length x1 := sz_flat (by rfl) _
  have hr1 : Sh.ctT s28 (mergeP x0 x1) ≤ 3 * Sh.sz s28 (mergeP x0 x1) := Sh.ctT_le2 s28 _
  have hr2 : Sh.sz s28 (mergeP x0 x1) = List.length (mergeP x0 x1) := sz_flat (t := 0) (a := s114) (by rfl) _
  have hr3 := foldPx_len x1 x0
  have hr4 : mergeP x0 x1 = x1.foldl addP x0 := rfl
  rw [← hr4] at hr3
  refine wp_seq ?_
  refine at_regq (T := S_laws_FnExactMergeLedgers_tab) [{ ids := [1] }, { ids := [2] }] { ts := [2, 3, 4], os := [1, 2] } [] gamOK hT h (by kernel_rfl) trivial ?_
  intro a w h
  refine then_normal ?_
  refine wp_seq ?_
  refine at_regq (T := S_laws_FnExactMergeLedgers_tab) [] { ts := [2, 3, 4, 5], os := [1, 2] } [] gamOK hT h (by kernel_rfl) trivial ?_
  intro a w h
  refine then_normal ?_
  refine wp_seq ?_
  refine at_regq (T := S_laws_FnExactMergeLedgers_tab) [] { ts := [2, 3, 4, 5], os := [1, 2] } [(pSz s24) x0 1048576] gamOK hT h (by kernel_rfl) ⟨(by (show (0 : Int) ≤ _ ∧ _ ≤ (9223372036854775807 : Int); constructor <;> omega)), trivial⟩ ?_
  intro a w h
  refine then_normal ?_
  refine wp_seq ?_
  refine wp_seq ?_
  refine at_reg (T := S_laws_FnExactMergeLedgers_tab) [] { ts := [2, 3, 4, 5, 18], os := [1, 2] } ⟨[(2, aP 1 0), (3, aP 2 0), (4, aB false), (5, aI ((szD s24) x0 1048576)), (18, aB (decide (((szD s24) x0 1048576) < 0)))], [(1, oX 24 [.ro s164 x0]), (2, oX 24 [.ro s164 x1])]⟩ [] gamOK hT h (by kernel_rfl) trivial ?_
  intro a w h
  refine then_normal ?_
  refine at_test (decide (((szD s24) x0 1048576) < 0)) h (by kernel_rfl) (fun h1 => ?_) (fun h1 => ?_)
  · replace h1 : ((szD s24) x0 1048576) < 0 := of_decide_eq_true h1
    have hvh1 := szD_neg h1 (by omega)
    refine wp_seq ?_
    refine at_regq (T := S_laws_FnExactMergeLedgers_tab) [] { ts := [2, 3, 4, 5], os := [1, 2] } [] gamOK hT h (by kernel_rfl) trivial ?_
    intro a w h
    refine then_normal ?_
    refine wp_ret ?_
    refine then_ret ?_
    exact at_return (S := S_laws_FnExactMergeLedgers) (x := (x0, x1, ())) (true, ()) [] h (by kernel_rfl) trivial (congrArg (fun z => (z, ())) (show (true) = D_laws_FnExactMergeLedgers x0 x1 from by unfold D_laws_FnExactMergeLedgers; rfl))
  · replace h1 : ¬ (((szD s24) x0 1048576) < 0) := of_decide_eq_false h1
    have hvh1 := szD_val h1 (by omega)
    refine wp_skip ?_
    refine then_normal ?_
    refine wp_seq ?_
    refine at_regq (T := S_laws_FnExactMergeLedgers_tab) [] { ts := [2, 3, 4, 5], os := [1, 2] } [(pSz s24) x1 ((szD s24) x0 1048576)] gamOK hT h (by kernel_rfl) ⟨(by (show (0 : Int) ≤ _ ∧ _ ≤ (9223372036854775807 : Int); constructor <;> omega)), trivial⟩ ?_
    intro a w h
    refine then_normal ?_
    refine wp_seq ?_
    refine wp_seq ?_
    refine at_regq (T := S_laws_FnExactMergeLedgers_tab) [] { ts := [2, 3, 4, 23], os := [1, 2] } [] gamOK hT h (by kernel_rfl) trivial ?_
    intro a w h
    refine then_normal ?_
    refine at_test (decide (((szD s24) x1 ((szD s24) x0 1048576)) < 0)) h (by kernel_rfl) (fun h2 => ?_) (fun h2 => ?_)
    · replace h2 : ((szD s24) x1 ((szD s24) x0 1048576)) < 0 := of_decide_eq_true h2
      have hvh2 := szD_neg h2 (by omega)
      refine wp_seq ?_
      refine at_regq (T := S_laws_FnExactMergeLedgers_tab) [] { ts := [2, 3, 4], os := [1, 2] } [] gamOK hT h (by kernel_rfl) trivial ?_
      intro a w h
      refine then_normal ?_
      refine wp_ret ?_
      refine then_ret ?_
      exact at_return (S := S_laws_FnExactMergeLedgers) (x := (x0, x1, ())) (true, ()) [] h (by kernel_rfl) trivial (congrArg (fun z => (z, ())) (show (true) = D_laws_FnExactMergeLedgers x0 x1 from by unfold D_laws_FnExactMergeLedgers; rfl))
    · replace h2 : ¬ (((szD s24) x1 ((szD s24) x0 1048576)) < 0) := of_decide_eq_false h2
      have hvh2 := szD_val h2 (by omega)
      refine wp_skip ?_
      refine then_normal ?_
      refine wp_seq ?_
      refine at_anyq (T := S_laws_FnExactMergeLedgers_tab) [{}, { ids := [3] }, {}, { ids := [4] }, { ids := [5] }, { ids := [6] }, {}] { ts := [2, 3, 4, 6], os := [1, 2, 5, 6] } [(pTo s24) x0, (pTo s24) x1, (fun (a b : List T114) => a.length ≤ 2097152 ∧ b.length ≤ 2097152) x0 x1] gamOK hT mixed h (by kernel_rfl) ⟨(by (show Sh.sz _ _ ≤ 1048576; omega)), (by (show Sh.sz _ _ ≤ 1048576; omega)), (by first | trivial | assumption | (show _ ≤ _; omega) | (show _ ∧ _; constructor <;> (show _ ≤ _; omega))), trivial⟩ ?_
      intro a w h
      refine then_normal ?_
      refine wp_seq ?_
      refine at_reg (T := S_laws_FnExactMergeLedgers_tab) [{}, { ids := [7] }, { ids := [8] }] { ts := [2, 3, 4, 6, 7], os := [1, 2, 5, 6, 7, 8] } ⟨[(2, aP 1 0), (3, aP 2 0), (4, aB false), (6, aP 6 0), (7, aP 8 0)], [(1, oX 24 [.ro s164 x0]), (2, oX 24 [.ro s164 x1]), (5, oR s114 (mergeP x0 x1)), (6, oX 28 [.sl 5]), (7, oR s114 x0), (8, oX 28 [.sl 7])]⟩ [(pTo s24) x0] gamOK hT h (by kernel_rfl) ⟨(by (show Sh.sz _ _ ≤ 1048576; omega)), trivial⟩ ?_
      intro a w h
      refine then_normal ?_
      refine wp_seq ?_
      refine at_regq (T := S_laws_FnExactMergeLedgers_tab) [{}, { ids := [9] }, { ids := [10] }] { ts := [2, 3, 4, 6, 7, 8], os := [1, 2, 5, 6, 7, 8, 9, 10] } [(pTo s24) x1] gamOK hT h (by kernel_rfl) ⟨(by (show Sh.sz _ _ ≤ 1048576; omega)), trivial⟩ ?_
      intro a w h
      refine then_normal ?_
      refine wp_seq ?_
      refine at_regq (T := S_laws_FnExactMergeLedgers_tab) [{}, {}, { ids := [11] }, { ids := [12] }] { ts := [2, 3, 4, 6, 7, 8, 9], os := [1, 2, 5, 6, 7, 8, 9, 10, 11, 12] } [(fun (a b : List T114) => a.length ≤ 2097152 ∧ b.length ≤ 2097152) x0 x1] gamOK hT h (by kernel_rfl) ⟨(by first | trivial | assumption | (show _ ≤ _; omega) | (show _ ∧ _; constructor <;> (show _ ≤ _; omega))), trivial⟩ ?_
      intro a w h
      refine then_normal ?_
      refine wp_seq ?_
      refine wp_seq ?_
      refine at_regq (T := S_laws_FnExactMergeLedgers_tab) [] { ts := [2, 3, 4, 6, 7, 8, 9, 39], os := [1, 2, 5, 6, 7, 8, 9, 10, 11, 12] } [True] gamOK hT h (by kernel_rfl) ⟨trivial, trivial⟩ ?_
      intro a w h
      refine then_normal ?_
      refine at_test (!((Sh.eqB s28) (mergeP x0 x1) (mergeP x0 x1))) h (by kernel_rfl) (fun h3 => ?_) (fun h3 => ?_)
      · replace h3 : ((Sh.eqB s28) (mergeP x0 x1) (mergeP x0 x1)) = false := notT h3
        refine wp_seq ?_
        refine at_reg (T := S_laws_FnExactMergeLedgers_tab) [] { ts := [2, 3, 4, 6, 7, 8, 9], os := [1, 2, 5, 6, 7, 8, 9, 10, 11, 12] } ⟨[(2, aP 1 0), (3, aP 2 0), (4, aB false), (6, aP 6 0), (7, aP 8 0), (8, aP 10 0), (9, aP 12 0)], [(1, oX 24 [.ro s164 x0]), (2, oX 24 [.ro s164 x1]), (5, oR s114 (mergeP x0 x1)), (6, oX 28 [.sl 5]), (7, oR s114 x0), (8, oX 28 [.sl 7]), (9, oR s114 x1), (10, oX 28 [.sl 9]), (11, oR s114 (mergeP x0 x1)), (12, oX 28 [.sl 11])]⟩ [] gamOK hT h (by kernel_rfl) trivial ?_
        intro a w h
        refine then_normal ?_
        refine wp_ret ?_
        refine then_ret ?_
        exact at_return (S := S_laws_FnExactMergeLedgers) (x := (x0, x1, ())) (false, ()) [] h (by kernel_rfl) trivial (congrArg (fun z => (z, ())) (show (false) = D_laws_FnExactMergeLedgers x0 x1 from by unfold D_laws_FnExactMergeLedgers; exact absurd ((Sh.eqB_iff _).2 (show _ = _ from by first | rfl | (rfl))) (neT h3)))
      · replace h3 : ((Sh.eqB s28) (mergeP x0 x1) (mergeP x0 x1)) = true := notF h3
        refine wp_skip ?_
        refine then_normal ?_
        refine wp_seq ?_
        refine wp_seq ?_
        refine at_any (T := S_laws_FnExactMergeLedgers_tab) [{}, {}, { ids := [13] }, {}, {}] { ts := [2, 3, 4, 6, 7, 8, 9, 44], os := [1, 2, 5, 6, 7, 8, 9, 10, 11, 12] } ⟨[(2, aP 1 0), (3, aP 2 0), (4, aB false), (6, aP 6 0), (7, aP 8 0), (8, aP 10 0), (9, aP 12 0), (44, aB (!((Sh.eqB s28) x0 x0)))], [(1, oX 24 [.ro s164 x0]), (2, oX 24 [.ro s164 x1]), (5, oR s114 (mergeP x0 x1)), (6, oX 28 [.sl 5]), (7, oR s114 x0), (8, oX 28 [.sl 7]), (9, oR s114 x1), (10, oX 28 [.sl 9]), (11, oR s114 (mergeP x0 x1)), (12, oX 28 [.sl 11])]⟩ [(pTo s24) x0, True] gamOK hT mixed h (by kernel_rfl) ⟨(by (show Sh.sz _ _ ≤ 1048576; omega)), trivial, trivial⟩ ?_
        intro a w h
        refine then_normal ?_
        refine at_test (!((Sh.eqB s28) x0 x0)) h (by kernel_rfl) (fun h4 => ?_) (fun h4 => ?_)
        · replace h4 : ((Sh.eqB s28) x0 x0) = false := notT h4
          refine wp_seq ?_
          refine at_regq (T := S_laws_FnExactMergeLedgers_tab) [] { ts := [2, 3, 4, 6, 7, 8, 9], os := [1, 2, 5, 6, 7, 8, 9, 10, 11, 12] } [] gamOK hT h (by kernel_rfl) trivial ?_
          intro a w h
          refine then_normal ?_
          refine wp_ret ?_
          refine then_ret ?_
          exact at_return (S := S_laws_FnExactMergeLedgers) (x := (x0, x1, ())) (false, ()) [] h (by kernel_rfl) trivial (congrArg (fun z => (z, ())) (show (false) = D_laws_FnExactMergeLedgers x0 x1 from by unfold D_laws_FnExactMergeLedgers; exact absurd ((Sh.eqB_iff _).2 (show _ = _ from by first | rfl | (rfl))) (neT h4)))
        · replace h4 : ((Sh.eqB s28) x0 x0) = true := notF h4
          refine wp_skip ?_
          refine then_normal ?_
          refine wp_seq ?_
          refine wp_seq ?_
          refine at_anyq (T := S_laws_FnExactMergeLedgers_tab) [{}, {}, { ids := [14] }, {}, {}] { ts := [2, 3, 4, 6, 7, 8, 9, 49], os := [1, 2, 5, 6, 7, 8, 9, 10, 11, 12] } [(pTo s24) x1, True] gamOK hT mixed h (by kernel_rfl) ⟨(by (show Sh.sz _ _ ≤ 1048576; omega)), trivial, trivial⟩ ?_
          intro a w h
          refine then_normal ?_
          refine at_test (!((Sh.eqB s28) x1 x1)) h (by kernel_rfl) (fun h5 => ?_) (fun h5 => ?_)
          · replace h5 : ((Sh.eqB s28) x1 x1) = false := notT h5
            refine wp_seq ?_
            refine at_regq (T := S_laws_FnExactMergeLedgers_tab) [] { ts := [2, 3, 4, 6, 7, 8, 9], os := [1, 2, 5, 6, 7, 8, 9, 10, 11, 12] } [] gamOK hT h (by kernel_rfl) trivial ?_
            intro a w h
            refine then_normal ?_
            refine wp_ret ?_
            refine then_ret ?_
            exact at_return (S := S_laws_FnExactMergeLedgers) (x := (x0, x1, ())) (false, ()) [] h (by kernel_rfl) trivial (congrArg (fun z => (z, ())) (show (false) = D_laws_FnExactMergeLedgers x0 x1 from by unfold D_laws_FnExactMergeLedgers; exact absurd ((Sh.eqB_iff _).2 (show _ = _ from by first | rfl | (rfl))) (neT h5)))
          · replace h5 : ((Sh.eqB s28) x1 x1) = true := notF h5
            refine wp_skip ?_
            refine then_normal ?_
            refine wp_seq ?_
            refine at_regq (T := S_laws_FnExactMergeLedgers_tab) [] { ts := [2, 3, 4, 6, 7, 8, 9, 10], os := [1, 2, 5, 6, 7, 8, 9, 10, 11, 12] } [] gamOK hT h (by kernel_rfl) trivial ?_
            intro a w h
            refine then_normal ?_
            refine wp_seq ?_
            refine at_regq (T := S_laws_FnExactMergeLedgers_tab) [] { ts := [2, 3, 4, 6, 8, 9, 10], os := [1, 2, 5, 6, 9, 10, 11, 12] } [(pMkT s28) x0 1] gamOK hT h (by kernel_rfl) ⟨(by (show (0 : Int) ≤ _ ∧ _ + ((Sh.ctT _ _ : Nat) : Int) ≤ (4611686018427387904 : Int); (try simp only [mkK, mkKT, Sh.ctT_mkT, Sh.ct_mk]); constructor <;> omega)), trivial⟩ ?_
            intro a w h
            refine then_normal ?_
            refine wp_seq ?_
            refine at_reg (T := S_laws_FnExactMergeLedgers_tab) [] { ts := [2, 3, 4, 6, 9, 10], os := [1, 2, 5, 6, 11, 12] } ⟨[(2, aP 1 0), (3, aP 2 0), (4, aB false), (6, aP 6 0), (9, aP 12 0), (10, aI ((mkKT s28) x1 ((mkKT s28) x0 1)))], [(1, oX 24 [.ro s164 x0]), (2, oX 24 [.ro s164 x1]), (5, oR s114 (mergeP x0 x1)), (6, oX 28 [.sl 5]), (11, oR s114 (mergeP x0 x1)), (12, oX 28 [.sl 11])]⟩ [(pMkT s28) x1 ((mkKT s28) x0 1)] gamOK hT h (by kernel_rfl) ⟨(by (show (0 : Int) ≤ _ ∧ _ + ((Sh.ctT _ _ : Nat) : Int) ≤ (4611686018427387904 : Int); (try simp only [mkK, mkKT, Sh.ctT_mkT, Sh.ct_mk]); constructor <;> omega)), trivial⟩ ?_
            intro a w h
            refine then_normal ?_
            refine wp_seq ?_
            refine wp_seq ?_
            by_cases h6 : ((mkKT s28) x1 ((mkKT s28) x0 1)) < 0
            · skip
              refine at_regq (T := S_laws_FnExactMergeLedgers_tab) [{}, { hint := some (aB true) }] { ts := [2, 3, 4, 6, 9, 63], os := [1, 2, 5, 6, 11, 12] } [(AV.p (.c (.v (.bool (decide (((mkKT s28) x1 ((mkKT s28) x0 1)) < 0))))) = AV.p (.c (.v (.bool true))))] gamOK hT h (by kernel_rfl) ⟨hint_bool (decide_eq_true h6), trivial⟩ ?_
              intro a w h
              refine then_normal ?_
              refine at_test true h (by kernel_rfl) (fun hh => ?_) (fun hh => nomatch hh)
              refine wp_seq ?_
              refine at_regq (T := S_laws_FnExactMergeLedgers_tab) [] { ts := [2, 3, 4, 6, 9], os := [1, 2, 5, 6, 11, 12] } [] gamOK hT h (by kernel_rfl) trivial ?_
              intro a w h
              refine then_normal ?_
              refine wp_ret ?_
              refine then_ret ?_
              exact at_return (S := S_laws_FnExactMergeLedgers) (x := (x0, x1, ())) (false, ()) [] h (by kernel_rfl) trivial (congrArg (fun z => (z, ())) (show (false) = D_laws_FnExactMergeLedgers x0 x1 from by unfold D_laws_FnExactMergeLedgers; (exfalso; simp only [mkK, mkKT, Sh.ctT_mkT, Sh.ct_mk] at h6; first | omega | exact h6 trivial | exact h6 rfl)))
            · skip
              refine at_regq (T := S_laws_FnExactMergeLedgers_tab) [{}, { hint := some (aB false) }] { ts := [2, 3, 4, 6, 9, 63], os := [1, 2, 5, 6, 11, 12] } [(AV.p (.c (.v (.bool (decide (((mkKT s28) x1 ((mkKT s28) x0 1)) < 0))))) = AV.p (.c (.v (.bool false)))), True] gamOK hT h (by kernel_rfl) ⟨hint_bool (decide_eq_false h6), trivial, trivial⟩ ?_
              intro a w h
              refine then_normal ?_
              refine at_test (!((Sh.eqB s28) (mergeP x0 x1) (mergeP x0 x1))) h (by kernel_rfl) (fun h7 => ?_) (fun h7 => ?_)
              · replace h7 : ((Sh.eqB s28) (mergeP x0 x1) (mergeP x0 x1)) = false := notT h7
                refine wp_seq ?_
                refine at_regq (T := S_laws_FnExactMergeLedgers_tab) [] { ts := [2, 3, 4, 6, 9], os := [1, 2, 5, 6, 11, 12] } [] gamOK hT h (by kernel_rfl) trivial ?_
                intro a w h
                refine then_normal ?_
                refine wp_ret ?_
                refine then_ret ?_
                exact at_return (S := S_laws_FnExactMergeLedgers) (x := (x0, x1, ())) (false, ()) [] h (by kernel_rfl) trivial (congrArg (fun z => (z, ())) (show (false) = D_laws_FnExactMergeLedgers x0 x1 from by unfold D_laws_FnExactMergeLedgers; exact absurd ((Sh.eqB_iff _).2 (show _ = _ from by first | rfl | (rfl))) (neT h7)))
              · replace h7 : ((Sh.eqB s28) (mergeP x0 x1) (mergeP x0 x1)) = true := notF h7
                refine wp_skip ?_
                refine then_normal ?_
                refine wp_seq ?_
                refine at_regq (T := S_laws_FnExactMergeLedgers_tab) [] { ts := [2, 3, 4, 6, 9, 11], os := [1, 2, 5, 6, 11, 12] } [] gamOK hT h (by kernel_rfl) trivial ?_
                intro a w h
                refine then_normal ?_
                refine wp_seq ?_
                refine at_regq (T := S_laws_FnExactMergeLedgers_tab) [] { ts := [2, 3, 4, 6, 9, 11], os := [1, 2, 5, 6, 11, 12] } [(pMkT s28) (mergeP x0 x1) 1] gamOK hT h (by kernel_rfl) ⟨(by (show (0 : Int) ≤ _ ∧ _ + ((Sh.ctT _ _ : Nat) : Int) ≤ (4611686018427387904 : Int); (try simp only [mkK, mkKT, Sh.ctT_mkT, Sh.ct_mk]); constructor <;> omega)), trivial⟩ ?_
                intro a w h
                refine then_normal ?_
                refine wp_seq ?_
                refine at_reg (T := S_laws_FnExactMergeLedgers_tab) [] { ts := [2, 3, 4, 6, 9, 11, 12], os := [1, 2, 5, 6, 11, 12] } ⟨[(2, aP 1 0), (3, aP 2 0), (4, aB false), (6, aP 6 0), (9, aP 12 0), (11, aI ((mkKT s28) (mergeP x0 x1) 1)), (12, aI 1)], [(1, oX 24 [.ro s164 x0]), (2, oX 24 [.ro s164 x1]), (5, oR s114 (mergeP x0 x1)), (6, oX 28 [.sl 5]), (11, oR s114 ((Sh.mkT s28) (mergeP x0 x1) 1)), (12, oX 28 [.sl 11])]⟩ [] gamOK hT h (by kernel_rfl) trivial ?_
                intro a w h
                refine then_normal ?_
                refine wp_seq ?_
                refine at_regq (T := S_laws_FnExactMergeLedgers_tab) [] { ts := [2, 3, 4, 6, 9, 11, 12], os := [1, 2, 5, 6, 11, 12] } [(pMkT s28) ((Sh.mkT s28) (mergeP x0 x1) 1) 1] gamOK hT h (by kernel_rfl) ⟨(by (show (0 : Int) ≤ _ ∧ _ + ((Sh.ctT _ _ : Nat) : Int) ≤ (4611686018427387904 : Int); (try simp only [mkK, mkKT, Sh.ctT_mkT, Sh.ct_mk]); constructor <;> omega)), trivial⟩ ?_
                intro a w h
                refine then_normal ?_
                refine wp_seq ?_
                refine wp_seq ?_
                refine at_regq (T := S_laws_FnExactMergeLedgers_tab) [] { ts := [2, 3, 4, 6, 9, 11, 12, 71], os := [1, 2, 5, 6, 11, 12] } [] gamOK hT h (by kernel_rfl) trivial ?_
                intro a w h
                refine then_normal ?_
                refine at_test (decide (((heldDT s28) ((Sh.mkT s28) (mergeP x0 x1) 1) 1) < 0)) h (by kernel_rfl) (fun h8 => ?_) (fun h8 => ?_)
                · replace h8 : ((heldDT s28) ((Sh.mkT s28) (mergeP x0 x1) 1) 1) < 0 := of_decide_eq_true h8
                  refine wp_seq ?_
                  refine at_regq (T := S_laws_FnExactMergeLedgers_tab) [] { ts := [2, 3, 4, 6, 9, 11, 12], os := [1, 2, 5, 6, 11, 12] } [] gamOK hT h (by kernel_rfl) trivial ?_
                  intro a w h
                  refine then_normal ?_
                  refine wp_ret ?_
                  refine then_ret ?_
                  exact at_return (S := S_laws_FnExactMergeLedgers) (x := (x0, x1, ())) (false, ()) [] h (by kernel_rfl) trivial (congrArg (fun z => (z, ())) (show (false) = D_laws_FnExactMergeLedgers x0 x1 from by unfold D_laws_FnExactMergeLedgers; (exfalso; simp only [held_marked, held_markedT, mkK, mkKT, Sh.ctT_mkT, Sh.ct_mk] at h8; first | omega | exact h8 trivial | exact h8 rfl)))
                · replace h8 : ¬ (((heldDT s28) ((Sh.mkT s28) (mergeP x0 x1) 1) 1) < 0) := of_decide_eq_false h8
                  refine wp_skip ?_
                  refine then_normal ?_
                  refine wp_seq ?_
                  refine wp_seq ?_
                  refine at_regq (T := S_laws_FnExactMergeLedgers_tab) [] { ts := [2, 3, 4, 6, 9, 11, 74], os := [1, 2, 5, 6, 11, 12] } [] gamOK hT h (by kernel_rfl) trivial ?_
                  intro a w h
                  refine then_normal ?_
                  refine at_test (!decide (((heldDT s28) ((Sh.mkT s28) (mergeP x0 x1) 1) 1) = ((mkKT s28) (mergeP x0 x1) 1))) h (by kernel_rfl) (fun h9 => ?_) (fun h9 => ?_)
                  · replace h9 : ¬ (((heldDT s28) ((Sh.mkT s28) (mergeP x0 x1) 1) 1) = ((mkKT s28) (mergeP x0 x1) 1)) := by simpa using h9
                    refine wp_seq ?_
                    refine at_reg (T := S_laws_FnExactMergeLedgers_tab) [] { ts := [2, 3, 4, 6, 9, 11], os := [1, 2, 5, 6, 11, 12] } ⟨[(2, aP 1 0), (3, aP 2 0), (4, aB false), (6, aP 6 0), (9, aP 12 0), (11, aI ((mkKT s28) (mergeP x0 x1) 1))], [(1, oX 24 [.ro s164 x0]), (2, oX 24 [.ro s164 x1]), (5, oR s114 (mergeP x0 x1)), (6, oX 28 [.sl 5]), (11, oR s114 ((Sh.mkT s28) (mergeP x0 x1) 1)), (12, oX 28 [.sl 11])]⟩ [] gamOK hT h (by kernel_rfl) trivial ?_
                    intro a w h
                    refine then_normal ?_
                    refine wp_ret ?_
                    refine then_ret ?_
                    exact at_return (S := S_laws_FnExactMergeLedgers) (x := (x0, x1, ())) (false, ()) [] h (by kernel_rfl) trivial (congrArg (fun z => (z, ())) (show (false) = D_laws_FnExactMergeLedgers x0 x1 from by unfold D_laws_FnExactMergeLedgers; (exfalso; simp only [held_marked, held_markedT, mkK, mkKT, Sh.ctT_mkT, Sh.ct_mk] at h9; first | omega | exact h9 trivial | exact h9 rfl)))
                  · replace h9 : ((heldDT s28) ((Sh.mkT s28) (mergeP x0 x1) 1) 1) = ((mkKT s28) (mergeP x0 x1) 1) := by simpa using h9
                    refine wp_skip ?_
                    refine then_normal ?_
                    refine wp_seq ?_
                    refine at_any (T := S_laws_FnExactMergeLedgers_tab) [{}, { ids := [15] }, {}, { ids := [16] }, { ids := [17] }, { ids := [18] }, {}] { ts := [4, 6, 9, 11, 13], os := [5, 6, 11, 12, 17, 18] } ⟨[(4, aB false), (6, aP 6 0), (9, aP 12 0), (11, aI ((mkKT s28) (mergeP x0 x1) 1)), (13, aP 18 0)], [(5, oR s114 (mergeP x0 x1)), (6, oX 28 [.sl 5]), (11, oR s114 ((Sh.mkT s28) (mergeP x0 x1) 1)), (12, oX 28 [.sl 11]), (17, oR s114 (mergeP x0 x1)), (18, oX 28 [.sl 17])]⟩ [(pTo s24) x0, (pTo s24) x1, (fun (a b : List T114) => a.length ≤ 2097152 ∧ b.length ≤ 2097152) x0 x1] gamOK hT mixed h (by kernel_rfl) ⟨(by (show Sh.sz _ _ ≤ 1048576; omega)), (by (show Sh.sz _ _ ≤ 1048576; omega)), (by first | trivial | assumption | (show _ ≤ _; omega) | (show _ ∧ _; constructor <;> (show _ ≤ _; omega))), trivial⟩ ?_
                    intro a w h
                    refine then_normal ?_
                    refine wp_seq ?_
                    refine wp_seq ?_
                    refine at_regq (T := S_laws_FnExactMergeLedgers_tab) [] { ts := [4, 9, 11, 83], os := [11, 12] } [True] gamOK hT h (by kernel_rfl) ⟨trivial, trivial⟩ ?_
                    intro a w h
                    refine then_normal ?_
                    refine at_test (!((Sh.eqB s28) (mergeP x0 x1) (mergeP x0 x1))) h (by kernel_rfl) (fun h10 => ?_) (fun h10 => ?_)
                    · replace h10 : ((Sh.eqB s28) (mergeP x0 x1) (mergeP x0 x1)) = false := notT h10
                      refine wp_seq ?_
                      refine at_regq (T := S_laws_FnExactMergeLedgers_tab) [] { ts := [4, 9, 11], os := [11, 12] } [] gamOK hT h (by kernel_rfl) trivial ?_
                      intro a w h
                      refine then_normal ?_
                      refine wp_ret ?_
                      refine then_ret ?_
                      exact at_return (S := S_laws_FnExactMergeLedgers) (x := (x0, x1, ())) (false, ()) [] h (by kernel_rfl) trivial (congrArg (fun z => (z, ())) (show (false) = D_laws_FnExactMergeLedgers x0 x1 from by unfold D_laws_FnExactMergeLedgers; exact absurd ((Sh.eqB_iff _).2 (show _ = _ from by first | rfl | (rfl))) (neT h10)))
                    · replace h10 : ((Sh.eqB s28) (mergeP x0 x1) (mergeP x0 x1)) = true := notF h10
                      refine wp_skip ?_
                      refine then_normal ?_
                      refine wp_seq ?_
                      refine at_regq (T := S_laws_FnExactMergeLedgers_tab) [] { ts := [4, 9, 11, 12], os := [11, 12] } [] gamOK hT h (by kernel_rfl) trivial ?_
                      intro a w h
                      refine then_normal ?_
                      refine wp_seq ?_
                      refine at_regq (T := S_laws_FnExactMergeLedgers_tab) [] { ts := [4, 11, 12], os := [] } [(pMkT s28) ((Sh.mkT s28) (mergeP x0 x1) 1) 1] gamOK hT h (by kernel_rfl) ⟨(by (show (0 : Int) ≤ _ ∧ _ + ((Sh.ctT _ _ : Nat) : Int) ≤ (4611686018427387904 : Int); (try simp only [mkK, mkKT, Sh.ctT_mkT, Sh.ct_mk]); constructor <;> omega)), trivial⟩ ?_
                      intro a w h
                      refine then_normal ?_
                      refine wp_seq ?_
                      refine wp_seq ?_
                      refine at_reg (T := S_laws_FnExactMergeLedgers_tab) [] { ts := [4, 11, 12, 88], os := [] } ⟨[(4, aB false), (11, aI ((mkKT s28) (mergeP x0 x1) 1)), (12, aI ((heldDT s28) ((Sh.mkT s28) (mergeP x0 x1) 1) 1)), (88, aB (decide (((heldDT s28) ((Sh.mkT s28) (mergeP x0 x1) 1) 1) < 0)))], []⟩ [] gamOK hT h (by kernel_rfl) trivial ?_
                      intro a w h
                      refine then_normal ?_
                      refine at_test (decide (((heldDT s28) ((Sh.mkT s28) (mergeP x0 x1) 1) 1) < 0)) h (by kernel_rfl) (fun h11 => ?_) (fun h11 => ?_)
                      · replace h11 : ((heldDT s28) ((Sh.mkT s28) (mergeP x0 x1) 1) 1) < 0 := of_decide_eq_true h11
                        refine wp_seq ?_
                        refine at_regq (T := S_laws_FnExactMergeLedgers_tab) [] { ts := [4, 11, 12], os := [] } [] gamOK hT h (by kernel_rfl) trivial ?_
                        intro a w h
                        refine then_normal ?_
                        refine wp_ret ?_
                        refine then_ret ?_
                        exact at_return (S := S_laws_FnExactMergeLedgers) (x := (x0, x1, ())) (false, ()) [] h (by kernel_rfl) trivial (congrArg (fun z => (z, ())) (show (false) = D_laws_FnExactMergeLedgers x0 x1 from by unfold D_laws_FnExactMergeLedgers; (exfalso; simp only [held_marked, held_markedT, mkK, mkKT, Sh.ctT_mkT, Sh.ct_mk] at h11; first | omega | exact h11 trivial | exact h11 rfl)))
                      · replace h11 : ¬ (((heldDT s28) ((Sh.mkT s28) (mergeP x0 x1) 1) 1) < 0) := of_decide_eq_false h11
                        refine wp_skip ?_
                        refine then_normal ?_
                        refine wp_seq ?_
                        refine wp_seq ?_
                        refine at_regq (T := S_laws_FnExactMergeLedgers_tab) [] { ts := [4, 91], os := [] } [] gamOK hT h (by kernel_rfl) trivial ?_
                        intro a w h
                        refine then_normal ?_
                        refine at_test (!decide (((heldDT s28) ((Sh.mkT s28) (mergeP x0 x1) 1) 1) = ((mkKT s28) (mergeP x0 x1) 1))) h (by kernel_rfl) (fun h12 => ?_) (fun h12 => ?_)
                        · replace h12 : ¬ (((heldDT s28) ((Sh.mkT s28) (mergeP x0 x1) 1) 1) = ((mkKT s28) (mergeP x0 x1) 1)) := by simpa using h12
                          refine wp_seq ?_
                          refine at_regq (T := S_laws_FnExactMergeLedgers_tab) [] { ts := [4], os := [] } [] gamOK hT h (by kernel_rfl) trivial ?_
                          intro a w h
                          refine then_normal ?_
                          refine wp_ret ?_
                          refine then_ret ?_
                          exact at_return (S := S_laws_FnExactMergeLedgers) (x := (x0, x1, ())) (false, ()) [] h (by kernel_rfl) trivial (congrArg (fun z => (z, ())) (show (false) = D_laws_FnExactMergeLedgers x0 x1 from by unfold D_laws_FnExactMergeLedgers; (exfalso; simp only [held_marked, held_markedT, mkK, mkKT, Sh.ctT_mkT, Sh.ct_mk] at h12; first | omega | exact h12 trivial | exact h12 rfl)))
                        · replace h12 : ((heldDT s28) ((Sh.mkT s28) (mergeP x0 x1) 1) 1) = ((mkKT s28) (mergeP x0 x1) 1) := by simpa using h12
                          refine wp_skip ?_
                          refine then_normal ?_
                          refine wp_seq ?_
                          refine at_regq (T := S_laws_FnExactMergeLedgers_tab) [] { ts := [4], os := [] } [] gamOK hT h (by kernel_rfl) trivial ?_
                          intro a w h
                          refine then_normal ?_
                          refine wp_ret ?_
                          exact at_return (S := S_laws_FnExactMergeLedgers) (x := (x0, x1, ())) (true, ()) [] h (by kernel_rfl) trivial (congrArg (fun z => (z, ())) (show (true) = D_laws_FnExactMergeLedgers x0 x1 from by unfold D_laws_FnExactMergeLedgers; rfl))

theorem opn3 : OpensS Try.prog 3 (.int 3) := opensS_int Try.underlying3
theorem co3 : Try.prog.cellsOf 3 = 1 := by kernel_rfl
theorem co164 : Try.prog.cellsOf 164 = 3 := by kernel_rfl
theorem opn164 : OpensS Try.prog 164 s164 := by
  intro H enc w base spare held fuel cs x h
  obtain ⟨xs, n, _, _, hl, hlen, hf⟩ := DataW.trod_struct Try.underlying164 h
  obtain ⟨a0, k0, i0⟩ := opensS_field (a := (.int 3)) (i := 0) 0 1 hf hlen rfl rfl rfl co3 opn3
  obtain ⟨a1, k1, i1⟩ := opensS_field (a := (.int 3)) (i := 1) 1 1 hf hlen rfl rfl rfl co3 opn3
  obtain ⟨a2, k2, i2⟩ := opensS_field (a := (.int 3)) (i := 2) 2 1 hf hlen rfl rfl rfl co3 opn3
  rw [co164] at hl
  exact ⟨(a0, (a1, a2)), (rdS_pair (off := 0) k0 (rdS_pair (off := 1) k1 (rdS_last (off := 2) k2 (by omega)))), ⟨i0, ⟨i1, i2⟩⟩⟩
theorem opn22 : OpensS Try.prog 22 s22 := opensS_slice (a := s164) Try.underlying22 co164 opn164
theorem co22 : Try.prog.cellsOf 22 = 1 := by kernel_rfl
theorem co24 : Try.prog.cellsOf 24 = 1 := by kernel_rfl
theorem opn24 : OpensS Try.prog 24 s24 := by
  intro H enc w base spare held fuel cs x h
  obtain ⟨xs, n, _, _, hl, hlen, hf⟩ := DataW.trod_struct Try.underlying24 h
  obtain ⟨a0, k0, i0⟩ := opensS_field (a := s22) (i := 0) 0 1 hf hlen rfl rfl rfl co22 opn22
  rw [co24] at hl
  exact ⟨a0, (rdS_last (off := 0) k0 (by omega)), i0⟩
namespace fnExactMergeLedgers
open Go.ChangeShapes Go.WideShapes Go.ChangeAt Go.RowKit
theorem own : ownKnob Try.prog.godebug = none := by kernel_rfl
theorem laidOut : laidOutB Try.prog = true := by kernel_rfl
set_option maxRecDepth 100000 in
theorem lifted (os : Os) (started : os.Started) (H : Type) (enc : TypeId × Value → H) :
    ReturnsInHanded {} Try.checked os 3 .any (Rows.fnExactMergeLedgersSpec.pre6 enc Try.prog Try.f3 Rows.fnExactMergeLedgersRow.domain false) (Rows.fnExactMergeLedgersSpec.post enc Try.prog Try.f3 false true false false) := by
  refine returnsInHanded_of_change (C := Try.checked) own started (by kernel_rfl) Try.func3
    (ChangeSpec.witness6 (enc := enc) (C := Try.checked) false ⟨#[], #[.agg #[.slice none 0 0], .agg #[.slice none 0 0]], []⟩ 8 (by kernel_rfl) (by kernel_rfl) (by kernel_rfl) (by kernel_rfl)) ?_
  intro W base args ds gs before hval0 hW hcnd _
  have hval : ∀ (j : Nat) t v, Try.f3.params[j]? = some t → args[j]? = some v → Value.okWide Try.prog W .any base t v := hval0
  have hW' := hW
  obtain ⟨p, q, hA0, hV, rfl, hfz, hnd⟩ := hW
  have hA : DataW.TrodAll enc Try.prog W 0 (fun _ => true) true Try.f3.params.toList args.toList ds p := hA0
  rw [Try.params3] at hA hval
  obtain ⟨v0, vs0, d0, ds0, p0, q0, hargs, rfl, rfl, h0, r0⟩ := trodAll_cons hA
  obtain ⟨v1, vs1, d1, ds1, p1, q1, rfl, rfl, rfl, h1, r1⟩ := trodAll_cons r0
  obtain ⟨rfl, rfl, rfl⟩ := trodAll_nil r1
  obtain rfl : args = #[v0, v1] := by cases args; simp_all
  obtain ⟨rfl, rfl⟩ := trodVars_none hV
  have k0 := h0
  have lt0 : ∀ x ∈ p0, x.block < W.heap.size := by obtain ⟨m, hm⟩ := k0; exact DataW.trod_lt m _ _ _ hm
  obtain ⟨cs0, rfl, _⟩ := okWide_struct Try.underlying24 (hval 0 24 v0 rfl rfl)
  obtain ⟨cs0⟩ := cs0
  obtain ⟨x0, hx0, i0⟩ : ∃ x : (s24).D, (s24).rd W (fun b => b < W.heap.size) cs0 x ∧ (s24).i64 x := by obtain ⟨fuel, hf⟩ := h0; exact opn24 hf
  have k1 := h1
  have lt1 : ∀ x ∈ p1, x.block < W.heap.size := by obtain ⟨m, hm⟩ := k1; exact DataW.trod_lt m _ _ _ hm
  obtain ⟨cs1, rfl, _⟩ := okWide_struct Try.underlying24 (hval 1 24 v1 rfl rfl)
  obtain ⟨cs1⟩ := cs1
  obtain ⟨x1, hx1, i1⟩ : ∃ x : (s24).D, (s24).rd W (fun b => b < W.heap.size) cs1 x ∧ (s24).i64 x := by obtain ⟨fuel, hf⟩ := h1; exact opn24 hf
  clear hA0 hval0
  refine (calls_law S_laws_FnExactMergeLedgers_ok (by kernel_rfl) W (fun b => b < W.heap.size) [.agg cs0.toArray, .agg cs1.toArray] (x0, x1, ()) (fun _ h => h) ⟨argRd_st hx0, argRd_st hx1, trivial⟩ ⟨i0, i1⟩).mono fun e W' hr => ?_
  obtain ⟨he, bel⟩ := ret_bool hr
  subst he
  exact ⟨_, rfl, _, _, _, [], _, [], hW', trodAll_mk1 (shut_bool Try.underlying4 _), (trodAll_cons_mk (Below.trod laidOut (by kernel_rfl) (of_decide_eq_true (by kernel_rfl)) k0 bel lt0) (trodAll_cons_mk (Below.trod laidOut (by kernel_rfl) (of_decide_eq_true (by kernel_rfl)) k1 bel lt1) trodAll_mk0)), rfl, bel.frame _, fun h => by cases h⟩
theorem over : Rows.fnExactMergeLedgersRow.holds Try.pinned (OpenSpec.ofChange Rows.fnExactMergeLedgersSpec) :=
  OpenClaim.holds_of_wide 3 Try.f3 rfl rfl rfl rfl rfl rfl rfl ⟨rfl, rfl, rfl, rfl, rfl⟩ rfl rfl rfl rfl rfl (by kernel_rfl) Try.func3 (by kernel_rfl)
    (of_decide_eq_true (by kernel_rfl)) (by unfold Func.isWrapper; first | (rw [if_pos (by decide +kernel)]; kernel_rfl) | (rw [if_neg (by decide +kernel)]; exact ⟨rfl, rfl⟩))
    (fun os started H enc _ => lifted os started H enc)
/-- the statement -/
theorem proved : Rows.FnExactMergeLedgersSaid := over
end fnExactMergeLedgers

end Go.Proofs.Ytfbogeakgmickaa

/- The law FnExactSourceSizes returns true for every input and leaves its arguments as they were. No condition. -/
import Derived.Test.YtkialoggpcdhkaaSourceSizes1
import Derived.Test.YtkialoggpcdhkaaProg
import Derived.Test.YtkialoggpcdhkaaRows
import Derived.Test.YtkialoggpcdhkaaFX
namespace Go.Proofs.Ytkialoggpcdhkaa
open Go.RowKit
set_option linter.unusedVariables false
set_option linter.unusedSimpArgs false
def S_laws_szGenerationS : Sum := { fid := 87, dom := [s24, (.int 3)], cod := [(.int 3)], dp := true, fz := false, pre := fun x => (pSz s24) x.1 x.2.1, g := fun x => (((szD s24) x.1 x.2.1), ()) }
def S_laws_szGenerationS_tab : List (Nat × Sum) := [(44, S_laws_szGeneration)]
theorem S_laws_szGenerationS_ok : FnOK Try.prog 87 S_laws_szGenerationS := by
  refine at_enter 27 (fun x => ⟨[(0, aF s82 x.1), (1, aI x.2.1)], []⟩) Try.func87 rfl (by kernel_rfl) (fun x => rfl) ?_
  rintro w0 Z0 ⟨x0, x1, u⟩ a w
  revert x0 x1
  intro (x0 : (List T82)) (x1 : Int) hpre hlens h
  replace h : At w0 Z0 [] 27 ⟨[(0, aF s82 x0), (1, aI x1)], []⟩ a w := h
  replace hpre : (pSz s24) x0 x1 := hpre
  have hl1 : List.length x0 ≤ 9223372036854775807 := hlens.1.1
  have hT : TabOK Try.prog S_laws_szGenerationS_tab := (.cons S_laws_szGeneration_ok .nil)
  have hp : 0 ≤ x1 ∧ x1 ≤ 9223372036854775807 := hpre
  have hsz : Sh.sz s24 x0 = List.length x0 + ctL (Sh.sz s82) x0 := rfl
  refine wp_seq ?_
  refine at_regq (T := S_laws_szGenerationS_tab) [] { ts := [0, 1, 4], os := [] } [] gamOK hT h (by kernel_rfl) trivial ?_
  intro a w h
  refine then_normal ?_
  refine wp_seq ?_
  refine at_regq (T := S_laws_szGenerationS_tab) [{}, {}, {}, { nw := true }] { ts := [0, 1, 4], os := [] } [I64 (x1 - ((List.length x0 : Nat) : Int))] gamOK hT h (by kernel_rfl) ⟨⟨by first | omega | (simp only [List.length_append, List.length_cons, List.length_nil, List.length_set, List.length_take, List.length_drop, List.length_replicate, List.length_map, Nat.min_def]; omega) | (simp; done) | (simp; omega) | done, by first | omega | (simp only [List.length_append, List.length_cons, List.length_nil, List.length_set, List.length_take, List.length_drop, List.length_replicate, List.length_map, Nat.min_def]; omega) | (simp; done) | (simp; omega) | done⟩, trivial⟩ ?_
  intro a w h
  refine then_normal ?_
  refine wp_seq ?_
  refine wp_seq ?_
  refine at_regq (T := S_laws_szGenerationS_tab) [] { ts := [0, 1, 4, 11], os := [] } [] gamOK hT h (by kernel_rfl) trivial ?_
  intro a w h
  refine then_normal ?_
  refine at_test (decide (x1 - ((List.length x0 : Nat) : Int) < 0)) h (by kernel_rfl) (fun h1 => ?_) (fun h1 => ?_)
  · replace h1 : x1 - ((List.length x0 : Nat) : Int) < 0 := of_decide_eq_true h1
    refine wp_seq ?_
    refine at_reg (T := S_laws_szGenerationS_tab) [] { ts := [0, 1, 4], os := [] } ⟨[(0, aF s82 x0), (1, aI (x1 - ((List.length x0 : Nat) : Int))), (4, aI (-1))], []⟩ [] gamOK hT h (by kernel_rfl) trivial ?_
    intro a w h
    refine then_normal ?_
    refine wp_ret ?_
    refine then_ret ?_
    exact at_return (S := S_laws_szGenerationS) (x := (x0, x1, ())) ((-1), ()) [] h (by kernel_rfl) trivial (congrArg (fun z => (z, ())) (show ((-1)) = (szD s24) x0 x1 from by exact (szD_no (by omega)).symm))
  · replace h1 : ¬ (x1 - ((List.length x0 : Nat) : Int) < 0) := of_decide_eq_false h1
    refine wp_skip ?_
    refine then_normal ?_
    refine wp_seq ?_
    refine wp_seq ?_
    refine at_reg (T := S_laws_szGenerationS_tab) [] { ts := [0, 1, 4, 5], os := [] } ⟨[(0, aF s82 x0), (1, aI (x1 - ((List.length x0 : Nat) : Int))), (4, aI 0), (5, aI 0)], []⟩ [] gamOK hT h (by kernel_rfl) trivial ?_
    intro a w h
    refine then_normal ?_
    refine wp_block ?_
    replace h := at_out (σ' := ⟨[(0, aF s82 x0), (1, aI (x1 - ((List.length x0 : Nat) : Int))), (4, aI 0), (5, aI 0)], []⟩) { ts := [0, 1, 4, 5], os := [] } h (by kernel_rfl)
    refine at_loop (fun i : Nat => (⟨[(0, aF s82 x0), (1, aI (x1 - ((List.length x0 : Nat) : Int) - ((ctL (Sh.sz s82) (List.take i x0) : Nat) : Int))), (4, aI 0), (5, aI ((i : Nat) : Int))], []⟩ : St)) (fun i => (i ≤ List.length x0 ∧ ((List.length x0 : Nat) : Int) + ((ctL (Sh.sz s82) (List.take i x0) : Nat) : Int) ≤ x1)) (fun i => List.length x0 - i) (0) h (st_congr2 (fun (d0 : Int) (d1 : Int) => (⟨[(0, aF s82 x0), (1, aI d0), (4, aI 0), (5, aI d1)], []⟩ : St)) (show (x1 - ((List.length x0 : Nat) : Int) : Int) = (x1 - ((List.length x0 : Nat) : Int) - ((ctL (Sh.sz s82) (List.take (0) x0) : Nat) : Int)) from by first | with_reducible rfl | (simp [ctL]) | rfl) (show (0 : Int) = (((0) : Nat) : Int) from by first | with_reducible rfl | (simp [ctL]) | rfl)) (by simp [ctL]; omega) ?_
    intro i a w hok0 h
    refine wp_seq ?_
    refine wp_seq ?_
    refine at_regq (T := S_laws_szGenerationS_tab) [] { ts := [0, 1, 4, 5, 15], os := [] } [] gamOK hT h (by kernel_rfl) trivial ?_
    intro a w h
    refine then_normal ?_
    refine at_test (decide (((i : Nat) : Int) < ((List.length x0 : Nat) : Int))) h (by kernel_rfl) (fun h2 => ?_) (fun h2 => ?_)
    · replace h2 : ((i : Nat) : Int) < ((List.length x0 : Nat) : Int) := of_decide_eq_true h2
      have hat := ctL_at_le (c := Sh.sz s82) (xs := x0) (z := (0, [])) (i := i) (by omega)
      have hsu := ctL_take_succ (c := Sh.sz s82) (xs := x0) (z := (0, [])) (i := i) (by omega)
      refine wp_skip ?_
      refine then_normal ?_
      refine wp_seq ?_
      refine wp_block ?_
      refine wp_seq ?_
      refine at_regq (T := S_laws_szGenerationS_tab) [] { ts := [0, 1, 4, 5], os := [] } [(0 : Int) ≤ ((i : Nat) : Int) ∧ ((i : Nat) : Int) < ((List.length x0 : Nat) : Int), (pSz s82) (x0.getD i (0, [])) (x1 - ((List.length x0 : Nat) : Int) - ((ctL (Sh.sz s82) (List.take i x0) : Nat) : Int))] gamOK hT h (by kernel_rfl) ⟨(by refine ⟨?_, ?_⟩ <;> (first | omega | (simp only [List.length_append, List.length_cons, List.length_nil, List.length_set, List.length_take, List.length_drop, List.length_replicate, List.length_map, Nat.min_def]; omega) | (simp; done) | (simp; omega) | done)), (by (show (0 : Int) ≤ _ ∧ _ ≤ (9223372036854775807 : Int); constructor <;> omega)), trivial⟩ ?_
      intro a w h
      refine then_normal ?_
      refine wp_seq ?_
      refine at_regq (T := S_laws_szGenerationS_tab) [] { ts := [0, 1, 4, 5, 25], os := [] } [] gamOK hT h (by kernel_rfl) trivial ?_
      intro a w h
      refine then_normal ?_
      refine at_test (decide (((szD s82) (x0.getD i (0, [])) (x1 - ((List.length x0 : Nat) : Int) - ((ctL (Sh.sz s82) (List.take i x0) : Nat) : Int))) < 0)) h (by kernel_rfl) (fun h3 => ?_) (fun h3 => ?_)
      · replace h3 : ((szD s82) (x0.getD i (0, [])) (x1 - ((List.length x0 : Nat) : Int) - ((ctL (Sh.sz s82) (List.take i x0) : Nat) : Int))) < 0 := of_decide_eq_true h3
        have hvh3 := szD_neg h3 (by omega)
        refine wp_seq ?_
        refine at_reg (T := S_laws_szGenerationS_tab) [] { ts := [0, 1, 4, 5], os := [] } ⟨[(0, aF s82 x0), (1, aI ((szD s82) (x0.getD i (0, [])) (x1 - ((List.length x0 : Nat) : Int) - ((ctL (Sh.sz s82) (List.take i x0) : Nat) : Int)))), (4, aI (-1)), (5, aI ((i : Nat) : Int))], []⟩ [] gamOK hT h (by kernel_rfl) trivial ?_
        intro a w h
        refine then_normal ?_
        refine wp_ret ?_
        refine in_ret ?_
        refine then_ret ?_
        refine then_ret ?_
        refine in_ret ?_
        refine then_ret ?_
        exact at_return (S := S_laws_szGenerationS) (x := (x0, x1, ())) ((-1), ()) [] h (by kernel_rfl) trivial (congrArg (fun z => (z, ())) (show ((-1)) = (szD s24) x0 x1 from by exact (szD_no (by omega)).symm))
      · replace h3 : ¬ (((szD s82) (x0.getD i (0, [])) (x1 - ((List.length x0 : Nat) : Int) - ((ctL (Sh.sz s82) (List.take i x0) : Nat) : Int))) < 0) := of_decide_eq_false h3
        have hvh3 := szD_val h3 (by omega)
        refine wp_skip ?_
        refine in_normal ?_
        refine then_normal ?_
        refine at_reg (T := S_laws_szGenerationS_tab) [{}, { nw := true }] { ts := [0, 1, 4, 5], os := [] } ⟨[(0, aF s82 x0), (1, aI ((szD s82) (x0.getD i (0, [])) (x1 - ((List.length x0 : Nat) : Int) - ((ctL (Sh.sz s82) (List.take i x0) : Nat) : Int)))), (4, aI 0), (5, aI (((i : Nat) : Int) + 1))], []⟩ [I64 (((i : Nat) : Int) + 1)] gamOK hT h (by kernel_rfl) ⟨⟨by first | omega | (simp only [List.length_append, List.length_cons, List.length_nil, List.length_set, List.length_take, List.length_drop, List.length_replicate, List.length_map, Nat.min_def]; omega) | (simp; done) | (simp; omega) | done, by first | omega | (simp only [List.length_append, List.length_cons, List.length_nil, List.length_set, List.length_take, List.length_drop, List.length_replicate, List.length_map, Nat.min_def]; omega) | (simp; done) | (simp; omega) | done⟩, trivial⟩ ?_
        intro a w h
        replace h := at_out (σ' := ⟨[(0, aF s82 x0), (1, aI ((szD s82) (x0.getD i (0, [])) (x1 - ((List.length x0 : Nat) : Int) - ((ctL (Sh.sz s82) (List.take i x0) : Nat) : Int)))), (4, aI 0), (5, aI (((i : Nat) : Int) + 1))], []⟩) { ts := [0, 1, 4, 5], os := [] } h (by kernel_rfl)
        exact ⟨i + 1, at_eq h (st_congr2 (fun (d0 : Int) (d1 : Int) => (⟨[(0, aF s82 x0), (1, aI d0), (4, aI 0), (5, aI d1)], []⟩ : St)) (show (((szD s82) (x0.getD i (0, [])) (x1 - ((List.length x0 : Nat) : Int) - ((ctL (Sh.sz s82) (List.take i x0) : Nat) : Int))) : Int) = (x1 - ((List.length x0 : Nat) : Int) - ((ctL (Sh.sz s82) (List.take (i + 1) x0) : Nat) : Int)) from by first | with_reducible rfl | (omega) | rfl) (show (((i : Nat) : Int) + 1 : Int) = (((i + 1) : Nat) : Int) from by first | with_reducible rfl | (omega) | rfl)), (by constructor <;> omega), (by omega)⟩
    · replace h2 : ¬ (((i : Nat) : Int) < ((List.length x0 : Nat) : Int)) := of_decide_eq_false h2
      refine wp_exit ?_
      refine then_exit ?_
      refine then_exit ?_
      refine in_hit ?_
      refine then_normal ?_
      refine wp_seq ?_
      refine at_regq (T := S_laws_szGenerationS_tab) [] { ts := [4], os := [] } [] gamOK hT h (by kernel_rfl) trivial ?_
      intro a w h
      refine then_normal ?_
      refine wp_ret ?_
      exact at_return (S := S_laws_szGenerationS) (x := (x0, x1, ())) ((x1 - ((List.length x0 : Nat) : Int) - ((ctL (Sh.sz s82) (List.take i x0) : Nat) : Int)), ()) [] h (by kernel_rfl) trivial (congrArg (fun z => (z, ())) (show ((x1 - ((List.length x0 : Nat) : Int) - ((ctL (Sh.sz s82) (List.take i x0) : Nat) : Int))) = (szD s24) x0 x1 from by (have hta : ctL (Sh.sz s82) (List.take i x0) = ctL (Sh.sz s82) x0 := congrArg (ctL (Sh.sz s82)) (take_all (by omega)); exact ((szD_ok (by omega)).trans (by omega)).symm)))

def S_laws_szRecoder : Sum := { fid := 70, dom := [s116, (.int 3)], cod := [(.int 3)], dp := true, fz := false, pre := fun x => (pSz s116) x.1 x.2.1, g := fun x => (((szD s116) x.1 x.2.1), ()) }
def S_laws_szRecoder_tab : List (Nat × Sum) := [(22, S_laws_szCodedPacketS)]
theorem S_laws_szRecoder_ok : FnOK Try.prog 70 S_laws_szRecoder := by
  refine at_enter 12 (fun x => ⟨[(0, aG [cI x.1.1, cI x.1.2.1, cI x.1.2.2.1, .ro s118 x.1.2.2.2.1, cI x.1.2.2.2.2]), (1, aI x.2.1)], []⟩) Try.func70 rfl (by kernel_rfl) (fun x => rfl) ?_
  rintro w0 Z0 ⟨x0, x1, u⟩ a w
  revert x0 x1
  intro (x0 : T116) (x1 : Int) hpre hlens h
  replace h : At w0 Z0 [] 12 ⟨[(0, aG [cI x0.1, cI x0.2.1, cI x0.2.2.1, .ro s118 x0.2.2.2.1, cI x0.2.2.2.2]), (1, aI x1)], []⟩ a w := h
  replace hpre : (pSz s116) x0 x1 := hpre
  have hl1 : List.length x0.2.2.2.1 ≤ 9223372036854775807 := hlens.1.2.2.2.1.1
  have hT : TabOK Try.prog S_laws_szRecoder_tab := (.cons S_laws_szCodedPacketS_ok .nil)
  have hp : 0 ≤ x1 ∧ x1 ≤ 9223372036854775807 := hpre
  have hsz : Sh.sz s116 x0 = (0 + (0 + (0 + ((Sh.sz s39 x0.2.2.2.1) + 0)))) := rfl
  refine wp_seq ?_
  refine at_regq (T := S_laws_szRecoder_tab) [{ ids := [1] }] { ts := [1, 2, 4], os := [1] } [] gamOK hT h (by kernel_rfl) trivial ?_
  intro a w h
  refine then_normal ?_
  refine wp_seq ?_
  refine at_regq (T := S_laws_szRecoder_tab) [] { ts := [1, 4], os := [] } [(pSz s39) x0.2.2.2.1 x1] gamOK hT h (by kernel_rfl) ⟨(by (show (0 : Int) ≤ _ ∧ _ ≤ (9223372036854775807 : Int); constructor <;> omega)), trivial⟩ ?_
  intro a w h
  refine then_normal ?_
  refine wp_seq ?_
  refine wp_seq ?_
  refine at_regq (T := S_laws_szRecoder_tab) [] { ts := [1, 4, 10], os := [] } [] gamOK hT h (by kernel_rfl) trivial ?_
  intro a w h
  refine then_normal ?_
  refine at_test (decide (((szD s39) x0.2.2.2.1 x1) < 0)) h (by kernel_rfl) (fun h1 => ?_) (fun h1 => ?_)
  · replace h1 : ((szD s39) x0.2.2.2.1 x1) < 0 := of_decide_eq_true h1
    have hvh1 := szD_neg h1 (by omega)
    refine wp_seq ?_
    refine at_reg (T := S_laws_szRecoder_tab) [] { ts := [1, 4], os := [] } ⟨[(1, aI ((szD s39) x0.2.2.2.1 x1)), (4, aI (-1))], []⟩ [] gamOK hT h (by kernel_rfl) trivial ?_
    intro a w h
    refine then_normal ?_
    refine wp_ret ?_
    refine then_ret ?_
    exact at_return (S := S_laws_szRecoder) (x := (x0, x1, ())) ((-1), ()) [] h (by kernel_rfl) trivial (congrArg (fun z => (z, ())) (show ((-1)) = (szD s116) x0 x1 from by (first | exact (szD_no (by omega)).symm | exact ((szD_ok (by omega)).trans (by omega)).symm)))
  · replace h1 : ¬ (((szD s39) x0.2.2.2.1 x1) < 0) := of_decide_eq_false h1
    have hvh1 := szD_val h1 (by omega)
    refine wp_skip ?_
    refine then_normal ?_
    refine wp_seq ?_
    refine at_reg (T := S_laws_szRecoder_tab) [] { ts := [4], os := [] } ⟨[(4, aI ((szD s39) x0.2.2.2.1 x1))], []⟩ [] gamOK hT h (by kernel_rfl) trivial ?_
    intro a w h
    refine then_normal ?_
    refine wp_ret ?_
    exact at_return (S := S_laws_szRecoder) (x := (x0, x1, ())) (((szD s39) x0.2.2.2.1 x1), ()) [] h (by kernel_rfl) trivial (congrArg (fun z => (z, ())) (show (((szD s39) x0.2.2.2.1 x1)) = (szD s116) x0 x1 from by (first | exact (szD_no (by omega)).symm | exact ((szD_ok (by omega)).trans (by omega)).symm)))

def S_laws_szRecoderS : Sum := { fid := 104, dom := [s59, (.int 3)], cod := [(.int 3)], dp := true, fz := false, pre := fun x => (pSz s59) x.1 x.2.1, g := fun x => (((szD s59) x.1 x.2.1), ()) }
def S_laws_szRecoderS_tab : List (Nat × Sum) := [(70, S_laws_szRecoder)]
theorem S_laws_szRecoderS_ok : FnOK Try.prog 104 S_laws_szRecoderS := by
  refine at_enter 27 (fun x => ⟨[(0, aF s116 x.1), (1, aI x.2.1)], []⟩) Try.func104 rfl (by kernel_rfl) (fun x => rfl) ?_
  rintro w0 Z0 ⟨x0, x1, u⟩ a w
  revert x0 x1
  intro (x0 : (List T116)) (x1 : Int) hpre hlens h
  replace h : At w0 Z0 [] 27 ⟨[(0, aF s116 x0), (1, aI x1)], []⟩ a w := h
  replace hpre : (pSz s59) x0 x1 := hpre
  have hl1 : List.length x0 ≤ 9223372036854775807 := hlens.1.1
  have hT : TabOK Try.prog S_laws_szRecoderS_tab := (.cons S_laws_szRecoder_ok .nil)
  have hp : 0 ≤ x1 ∧ x1 ≤ 9223372036854775807 := hpre
  have hsz : Sh.sz s59 x0 = List.length x0 + ctL (Sh.sz s116) x0 := rfl
  refine wp_seq ?_
  refine at_regq (T := S_laws_szRecoderS_tab) [] { ts := [0, 1, 4], os := [] } [] gamOK hT h (by kernel_rfl) trivial ?_
  intro a w h
  refine then_normal ?_
  refine wp_seq ?_
  refine at_regq (T := S_laws_szRecoderS_tab) [{}, {}, {}, { nw := true }] { ts := [0, 1, 4], os := [] } [I64 (x1 - ((List.length x0 : Nat) : Int))] gamOK hT h (by kernel_rfl) ⟨⟨by first | omega | (simp only [List.length_append, List.length_cons, List.length_nil, List.length_set, List.length_take, List.length_drop, List.length_replicate, List.length_map, Nat.min_def]; omega) | (simp; done) | (simp; omega) | done, by first | omega | (simp only [List.length_append, List.length_cons, List.length_nil, List.length_set, List.length_take, List.length_drop, List.length_replicate, List.length_map, Nat.min_def]; omega) | (simp; done) | (simp; omega) | done⟩, trivial⟩ ?_
  intro a w h
  refine then_normal ?_
  refine wp_seq ?_
  refine wp_seq ?_
  refine at_regq (T := S_laws_szRecoderS_tab) [] { ts := [0, 1, 4, 11], os := [] } [] gamOK hT h (by kernel_rfl) trivial ?_
  intro a w h
  refine then_normal ?_
  refine at_test (decide (x1 - ((List.length x0 : Nat) : Int) < 0)) h (by kernel_rfl) (fun h1 => ?_) (fun h1 => ?_)
  · replace h1 : x1 - ((List.length x0 : Nat) : Int) < 0 := of_decide_eq_true h1
    refine wp_seq ?_
    refine at_reg (T := S_laws_szRecoderS_tab) [] { ts := [0, 1, 4], os := [] } ⟨[(0, aF s116 x0), (1, aI (x1 - ((List.length x0 : Nat) : Int))), (4, aI (-1))], []⟩ [] gamOK hT h (by kernel_rfl) trivial ?_
    intro a w h
    refine then_normal ?_
    refine wp_ret ?_
    refine then_ret ?_
    exact at_return (S := S_laws_szRecoderS) (x := (x0, x1, ())) ((-1), ()) [] h (by kernel_rfl) trivial (congrArg (fun z => (z, ())) (show ((-1)) = (szD s59) x0 x1 from by exact (szD_no (by omega)).symm))
  · replace h1 : ¬ (x1 - ((List.length x0 : Nat) : Int) < 0) := of_decide_eq_false h1
    refine wp_skip ?_
    refine then_normal ?_
    refine wp_seq ?_
    refine wp_seq ?_
    refine at_reg (T := S_laws_szRecoderS_tab) [] { ts := [0, 1, 4, 5], os := [] } ⟨[(0, aF s116 x0), (1, aI (x1 - ((List.length x0 : Nat) : Int))), (4, aI 0), (5, aI 0)], []⟩ [] gamOK hT h (by kernel_rfl) trivial ?_
    intro a w h
    refine then_normal ?_
    refine wp_block ?_
    replace h := at_out (σ' := ⟨[(0, aF s116 x0), (1, aI (x1 - ((List.length x0 : Nat) : Int))), (4, aI 0), (5, aI 0)], []⟩) { ts := [0, 1, 4, 5], os := [] } h (by kernel_rfl)
    refine at_loop (fun i : Nat => (⟨[(0, aF s116 x0), (1, aI (x1 - ((List.length x0 : Nat) : Int) - ((ctL (Sh.sz s116) (List.take i x0) : Nat) : Int))), (4, aI 0), (5, aI ((i : Nat) : Int))], []⟩ : St)) (fun i => (i ≤ List.length x0 ∧ ((List.length x0 : Nat) : Int) + ((ctL (Sh.sz s116) (List.take i x0) : Nat) : Int) ≤ x1)) (fun i => List.length x0 - i) (0) h (st_congr2 (fun (d0 : Int) (d1 : Int) => (⟨[(0, aF s116 x0), (1, aI d0), (4, aI 0), (5, aI d1)], []⟩ : St)) (show (x1 - ((List.length x0 : Nat) : Int) : Int) = (x1 - ((List.length x0 : Nat) : Int) - ((ctL (Sh.sz s116) (List.take (0) x0) : Nat) : Int)) from by first | with_reducible rfl | (simp [ctL]) | rfl) (show (0 : Int) = (((0) : Nat) : Int) from by first | with_reducible rfl | (simp [ctL]) | rfl)) (by simp [ctL]; omega) ?_
    intro i a w hok0 h
    refine wp_seq ?_
    refine wp_seq ?_
    refine at_regq (T := S_laws_szRecoderS_tab) [] { ts := [0, 1, 4, 5, 15], os := [] } [] gamOK hT h (by kernel_rfl) trivial ?_
    intro a w h
    refine then_normal ?_
    refine at_test (decide (((i : Nat) : Int) < ((List.length x0 : Nat) : Int))) h (by kernel_rfl) (fun h2 => ?_) (fun h2 => ?_)
    · replace h2 : ((i : Nat) : Int) < ((List.length x0 : Nat) : Int) := of_decide_eq_true h2
      have hat := ctL_at_le (c := Sh.sz s116) (xs := x0) (z := (0, (0, (0, ([], 0))))) (i := i) (by omega)
      have hsu := ctL_take_succ (c := Sh.sz s116) (xs := x0) (z := (0, (0, (0, ([], 0))))) (i := i) (by omega)
      refine wp_skip ?_
      refine then_normal ?_
      refine wp_seq ?_
      refine wp_block ?_
      refine wp_seq ?_
      refine at_regq (T := S_laws_szRecoderS_tab) [] { ts := [0, 1, 4, 5], os := [] } [(0 : Int) ≤ ((i : Nat) : Int) ∧ ((i : Nat) : Int) < ((List.length x0 : Nat) : Int), (pSz s116) (x0.getD i (0, (0, (0, ([], 0))))) (x1 - ((List.length x0 : Nat) : Int) - ((ctL (Sh.sz s116) (List.take i x0) : Nat) : Int))] gamOK hT h (by kernel_rfl) ⟨(by refine ⟨?_, ?_⟩ <;> (first | omega | (simp only [List.length_append, List.length_cons, List.length_nil, List.length_set, List.length_take, List.length_drop, List.length_replicate, List.length_map, Nat.min_def]; omega) | (simp; done) | (simp; omega) | done)), (by (show (0 : Int) ≤ _ ∧ _ ≤ (9223372036854775807 : Int); constructor <;> omega)), trivial⟩ ?_
      intro a w h
      refine then_normal ?_
      refine wp_seq ?_
      refine at_regq (T := S_laws_szRecoderS_tab) [] { ts := [0, 1, 4, 5, 25], os := [] } [] gamOK hT h (by kernel_rfl) trivial ?_
      intro a w h
      refine then_normal ?_
      refine at_test (decide (((szD s116) (x0.getD i (0, (0, (0, ([], 0))))) (x1 - ((List.length x0 : Nat) : Int) - ((ctL (Sh.sz s116) (List.take i x0) : Nat) : Int))) < 0)) h (by kernel_rfl) (fun h3 => ?_) (fun h3 => ?_)
      · replace h3 : ((szD s116) (x0.getD i (0, (0, (0, ([], 0))))) (x1 - ((List.length x0 : Nat) : Int) - ((ctL (Sh.sz s116) (List.take i x0) : Nat) : Int))) < 0 := of_decide_eq_true h3
        have hvh3 := szD_neg h3 (by omega)
        refine wp_seq ?_
        refine at_reg (T := S_laws_szRecoderS_tab) [] { ts := [0, 1, 4, 5], os := [] } ⟨[(0, aF s116 x0), (1, aI ((szD s116) (x0.getD i (0, (0, (0, ([], 0))))) (x1 - ((List.length x0 : Nat) : Int) - ((ctL (Sh.sz s116) (List.take i x0) : Nat) : Int)))), (4, aI (-1)), (5, aI ((i : Nat) : Int))], []⟩ [] gamOK hT h (by kernel_rfl) trivial ?_
        intro a w h
        refine then_normal ?_
        refine wp_ret ?_
        refine in_ret ?_
        refine then_ret ?_
        refine then_ret ?_
        refine in_ret ?_
        refine then_ret ?_
        exact at_return (S := S_laws_szRecoderS) (x := (x0, x1, ())) ((-1), ()) [] h (by kernel_rfl) trivial (congrArg (fun z => (z, ())) (show ((-1)) = (szD s59) x0 x1 from by exact (szD_no (by omega)).symm))
      · replace h3 : ¬ (((szD s116) (x0.getD i (0, (0, (0, ([], 0))))) (x1 - ((List.length x0 : Nat) : Int) - ((ctL (Sh.sz s116) (List.take i x0) : Nat) : Int))) < 0) := of_decide_eq_false h3
        have hvh3 := szD_val h3 (by omega)
        refine wp_skip ?_
        refine in_normal ?_
        refine then_normal ?_
        refine at_reg (T := S_laws_szRecoderS_tab) [{}, { nw := true }] { ts := [0, 1, 4, 5], os := [] } ⟨[(0, aF s116 x0), (1, aI ((szD s116) (x0.getD i (0, (0, (0, ([], 0))))) (x1 - ((List.length x0 : Nat) : Int) - ((ctL (Sh.sz s116) (List.take i x0) : Nat) : Int)))), (4, aI 0), (5, aI (((i : Nat) : Int) + 1))], []⟩ [I64 (((i : Nat) : Int) + 1)] gamOK hT h (by kernel_rfl) ⟨⟨by first | omega | (simp only [List.length_append, List.length_cons, List.length_nil, List.length_set, List.length_take, List.length_drop, List.length_replicate, List.length_map, Nat.min_def]; omega) | (simp; done) | (simp; omega) | done, by first | omega | (simp only [List.length_append, List.length_cons, List.length_nil, List.length_set, List.length_take, List.length_drop, List.length_replicate, List.length_map, Nat.min_def]; omega) | (simp; done) | (simp; omega) | done⟩, trivial⟩ ?_
        intro a w h
        replace h := at_out (σ' := ⟨[(0, aF s116 x0), (1, aI ((szD s116) (x0.getD i (0, (0, (0, ([], 0))))) (x1 - ((List.length x0 : Nat) : Int) - ((ctL (Sh.sz s116) (List.take i x0) : Nat) : Int)))), (4, aI 0), (5, aI (((i : Nat) : Int) + 1))], []⟩) { ts := [0, 1, 4, 5], os := [] } h (by kernel_rfl)
        exact ⟨i + 1, at_eq h (st_congr2 (fun (d0 : Int) (d1 : Int) => (⟨[(0, aF s116 x0), (1, aI d0), (4, aI 0), (5, aI d1)], []⟩ : St)) (show (((szD s116) (x0.getD i (0, (0, (0, ([], 0))))) (x1 - ((List.length x0 : Nat) : Int) - ((ctL (Sh.sz s116) (List.take i x0) : Nat) : Int))) : Int) = (x1 - ((List.length x0 : Nat) : Int) - ((ctL (Sh.sz s116) (List.take (i + 1) x0) : Nat) : Int)) from by first | with_reducible rfl | (omega) | rfl) (show (((i : Nat) : Int) + 1 : Int) = (((i + 1) : Nat) : Int) from by first | with_reducible rfl | (omega) | rfl)), (by constructor <;> omega), (by omega)⟩
    · replace h2 : ¬ (((i : Nat) : Int) < ((List.length x0 : Nat) : Int)) := of_decide_eq_false h2
      refine wp_exit ?_
      refine then_exit ?_
      refine then_exit ?_
      refine in_hit ?_
      refine then_normal ?_
      refine wp_seq ?_
      refine at_regq (T := S_laws_szRecoderS_tab) [] { ts := [4], os := [] } [] gamOK hT h (by kernel_rfl) trivial ?_
      intro a w h
      refine then_normal ?_
      refine wp_ret ?_
      exact at_return (S := S_laws_szRecoderS) (x := (x0, x1, ())) ((x1 - ((List.length x0 : Nat) : Int) - ((ctL (Sh.sz s116) (List.take i x0) : Nat) : Int)), ()) [] h (by kernel_rfl) trivial (congrArg (fun z => (z, ())) (show ((x1 - ((List.length x0 : Nat) : Int) - ((ctL (Sh.sz s116) (List.take i x0) : Nat) : Int))) = (szD s59) x0 x1 from by (have hta : ctL (Sh.sz s116) (List.take i x0) = ctL (Sh.sz s116) x0 := congrArg (ctL (Sh.sz s116)) (take_all (by omega)); exact ((szD_ok (by omega)).trans (by omega)).symm)))

def S_laws_szSource : Sum := { fid := 35, dom := [s64, (.int 3)], cod := [(.int 3)], dp := true, fz := false, pre := fun x => (pSz s64) x.1 x.2.1, g := fun x => (((szD s64) x.1 x.2.1), ()) }
def S_laws_szSource_tab : List (Nat × Sum) := [(87, S_laws_szGenerationS), (104, S_laws_szRecoderS), (105, S_laws_szFeedbackTable)]
theorem S_laws_szSource_ok : FnOK Try.prog 35 S_laws_szSource := by
  refine at_enter 24 (fun x => ⟨[(0, aG [.ro s82 x.1.1, cI x.1.2.1.1, cI x.1.2.1.2.1, cI x.1.2.1.2.2.1, cI x.1.2.1.2.2.2, .ro s116 x.1.2.2.1, .ro s232 x.1.2.2.2.1, cI x.1.2.2.2.2]), (1, aI x.2.1)], []⟩) Try.func35 rfl (by kernel_rfl) (fun x => rfl) ?_
  rintro w0 Z0 ⟨x0, x1, u⟩ a w
  revert x0 x1
  intro (x0 : T64) (x1 : Int) hpre hlens h
  replace h : At w0 Z0 [] 24 ⟨[(0, aG [.ro s82 x0.1, cI x0.2.1.1, cI x0.2.1.2.1, cI x0.2.1.2.2.1, cI x0.2.1.2.2.2, .ro s116 x0.2.2.1, .ro s232 x0.2.2.2.1, cI x0.2.2.2.2]), (1, aI x1)], []⟩ a w := h
  replace hpre : (pSz s64) x0 x1 := hpre
  have hl1 : List.length x0.1 ≤ 9223372036854775807 := hlens.1.1.1
  have hl2 : List.length x0.2.2.1 ≤ 9223372036854775807 := hlens.1.2.2.1.1
  have hl3 : List.length x0.2.2.2.1 ≤ 9223372036854775807 := hlens.1.2.2.2.1.1
  have hT : TabOK Try.prog S_laws_szSource_tab := (.cons S_laws_szGenerationS_ok (.cons S_laws_szRecoderS_ok (.cons S_laws_szFeedbackTable_ok .nil)))
  have hp : 0 ≤ x1 ∧ x1 ≤ 9223372036854775807 := hpre
  have hsz : Sh.sz s64 x0 = ((Sh.sz s24 x0.1) + (0 + ((Sh.sz s59 x0.2.2.1) + ((Sh.sz s62 x0.2.2.2.1) + 0)))) := rfl
  refine wp_seq ?_
  refine at_regq (T := S_laws_szSource_tab) [{ ids := [1] }] { ts := [1, 2, 4], os := [1] } [] gamOK hT h (by kernel_rfl) trivial ?_
  intro a w h
  refine then_normal ?_
  refine wp_seq ?_
  refine at_regq (T := S_laws_szSource_tab) [] { ts := [1, 2, 4], os := [1] } [(pSz s24) x0.1 x1] gamOK hT h (by kernel_rfl) ⟨(by (show (0 : Int) ≤ _ ∧ _ ≤ (9223372036854775807 : Int); constructor <;> omega)), trivial⟩ ?_
  intro a w h
  refine then_normal ?_
  refine wp_seq ?_
  refine wp_seq ?_
  refine at_regq (T := S_laws_szSource_tab) [] { ts := [1, 2, 4, 10], os := [1] } [] gamOK hT h (by kernel_rfl) trivial ?_
  intro a w h
  refine then_normal ?_
  refine at_test (decide (((szD s24) x0.1 x1) < 0)) h (by kernel_rfl) (fun h1 => ?_) (fun h1 => ?_)
  · replace h1 : ((szD s24) x0.1 x1) < 0 := of_decide_eq_true h1
    have hvh1 := szD_neg h1 (by omega)
    refine wp_seq ?_
    refine at_reg (T := S_laws_szSource_tab) [] { ts := [1, 2, 4], os := [1] } ⟨[(1, aI ((szD s24) x0.1 x1)), (2, aP 1 0), (4, aI (-1))], [(1, oX 64 [.ro s82 x0.1, cI x0.2.1.1, cI x0.2.1.2.1, cI x0.2.1.2.2.1, cI x0.2.1.2.2.2, .ro s116 x0.2.2.1, .ro s232 x0.2.2.2.1, cI x0.2.2.2.2])]⟩ [] gamOK hT h (by kernel_rfl) trivial ?_
    intro a w h
    refine then_normal ?_
    refine wp_ret ?_
    refine then_ret ?_
    exact at_return (S := S_laws_szSource) (x := (x0, x1, ())) ((-1), ()) [] h (by kernel_rfl) trivial (congrArg (fun z => (z, ())) (show ((-1)) = (szD s64) x0 x1 from by (first | exact (szD_no (by omega)).symm | exact ((szD_ok (by omega)).trans (by omega)).symm)))
  · replace h1 : ¬ (((szD s24) x0.1 x1) < 0) := of_decide_eq_false h1
    have hvh1 := szD_val h1 (by omega)
    refine wp_skip ?_
    refine then_normal ?_
    refine wp_seq ?_
    refine at_reg (T := S_laws_szSource_tab) [] { ts := [1, 2, 4], os := [1] } ⟨[(1, aI ((szD s59) x0.2.2.1 ((szD s24) x0.1 x1))), (2, aP 1 0), (4, aI 0)], [(1, oX 64 [.ro s82 x0.1, cI x0.2.1.1, cI x0.2.1.2.1, cI x0.2.1.2.2.1, cI x0.2.1.2.2.2, .ro s116 x0.2.2.1, .ro s232 x0.2.2.2.1, cI x0.2.2.2.2])]⟩ [(pSz s59) x0.2.2.1 ((szD s24) x0.1 x1)] gamOK hT h (by kernel_rfl) ⟨(by (show (0 : Int) ≤ _ ∧ _ ≤ (9223372036854775807 : Int); constructor <;> omega)), trivial⟩ ?_
    intro a w h
    refine then_normal ?_
    refine wp_seq ?_
    refine wp_seq ?_
    refine at_regq (T := S_laws_szSource_tab) [] { ts := [1, 2, 4, 16], os := [1] } [] gamOK hT h (by kernel_rfl) trivial ?_
    intro a w h
    refine then_normal ?_
    refine at_test (decide (((szD s59) x0.2.2.1 ((szD s24) x0.1 x1)) < 0)) h (by kernel_rfl) (fun h2 => ?_) (fun h2 => ?_)
    · replace h2 : ((szD s59) x0.2.2.1 ((szD s24) x0.1 x1)) < 0 := of_decide_eq_true h2
      have hvh2 := szD_neg h2 (by omega)
      refine wp_seq ?_
      refine at_regq (T := S_laws_szSource_tab) [] { ts := [1, 2, 4], os := [1] } [] gamOK hT h (by kernel_rfl) trivial ?_
      intro a w h
      refine then_normal ?_
      refine wp_ret ?_
      refine then_ret ?_
      exact at_return (S := S_laws_szSource) (x := (x0, x1, ())) ((-1), ()) [] h (by kernel_rfl) trivial (congrArg (fun z => (z, ())) (show ((-1)) = (szD s64) x0 x1 from by (first | exact (szD_no (by omega)).symm | exact ((szD_ok (by omega)).trans (by omega)).symm)))
    · replace h2 : ¬ (((szD s59) x0.2.2.1 ((szD s24) x0.1 x1)) < 0) := of_decide_eq_false h2
      have hvh2 := szD_val h2 (by omega)
      refine wp_skip ?_
      refine then_normal ?_
      refine wp_seq ?_
      refine at_regq (T := S_laws_szSource_tab) [] { ts := [1, 4], os := [] } [(pSz s62) x0.2.2.2.1 ((szD s59) x0.2.2.1 ((szD s24) x0.1 x1))] gamOK hT h (by kernel_rfl) ⟨(by (show (0 : Int) ≤ _ ∧ _ ≤ (9223372036854775807 : Int); constructor <;> omega)), trivial⟩ ?_
      intro a w h
      refine then_normal ?_
      refine wp_seq ?_
      refine wp_seq ?_
      refine at_regq (T := S_laws_szSource_tab) [] { ts := [1, 4, 22], os := [] } [] gamOK hT h (by kernel_rfl) trivial ?_
      intro a w h
      refine then_normal ?_
      refine at_test (decide (((szD s62) x0.2.2.2.1 ((szD s59) x0.2.2.1 ((szD s24) x0.1 x1))) < 0)) h (by kernel_rfl) (fun h3 => ?_) (fun h3 => ?_)
      · replace h3 : ((szD s62) x0.2.2.2.1 ((szD s59) x0.2.2.1 ((szD s24) x0.1 x1))) < 0 := of_decide_eq_true h3
        have hvh3 := szD_neg h3 (by omega)
        refine wp_seq ?_
        refine at_reg (T := S_laws_szSource_tab) [] { ts := [1, 4], os := [] } ⟨[(1, aI ((szD s62) x0.2.2.2.1 ((szD s59) x0.2.2.1 ((szD s24) x0.1 x1)))), (4, aI (-1))], []⟩ [] gamOK hT h (by kernel_rfl) trivial ?_
        intro a w h
        refine then_normal ?_
        refine wp_ret ?_
        refine then_ret ?_
        exact at_return (S := S_laws_szSource) (x := (x0, x1, ())) ((-1), ()) [] h (by kernel_rfl) trivial (congrArg (fun z => (z, ())) (show ((-1)) = (szD s64) x0 x1 from by (first | exact (szD_no (by omega)).symm | exact ((szD_ok (by omega)).trans (by omega)).symm)))
      · replace h3 : ¬ (((szD s62) x0.2.2.2.1 ((szD s59) x0.2.2.1 ((szD s24) x0.1 x1))) < 0) := of_decide_eq_false h3
        have hvh3 := szD_val h3 (by omega)
        refine wp_skip ?_
        refine then_normal ?_
        refine wp_seq ?_
        refine at_reg (T := S_laws_szSource_tab) [] { ts := [4], os := [] } ⟨[(4, aI ((szD s62) x0.2.2.2.1 ((szD s59) x0.2.2.1 ((szD s24) x0.1 x1))))], []⟩ [] gamOK hT h (by kernel_rfl) trivial ?_
        intro a w h
        refine then_normal ?_
        refine wp_ret ?_
        exact at_return (S := S_laws_szSource) (x := (x0, x1, ())) (((szD s62) x0.2.2.2.1 ((szD s59) x0.2.2.1 ((szD s24) x0.1 x1))), ()) [] h (by kernel_rfl) trivial (congrArg (fun z => (z, ())) (show (((szD s62) x0.2.2.2.1 ((szD s59) x0.2.2.1 ((szD s24) x0.1 x1)))) = (szD s64) x0 x1 from by (first | exact (szD_no (by omega)).symm | exact ((szD_ok (by omega)).trans (by omega)).symm)))

def S_laws_toIntS : Sum := { fid := 64, dom := [s22], cod := [s22], dp := true, fz := false, pre := fun x => (pTo s22) x.1, g := fun x => (((idD s22) x.1), ()) }
def S_laws_toIntS_tab : List (Nat × Sum) := []
theorem S_laws_toIntS_ok : FnOK Try.prog 64 S_laws_toIntS := by
  refine at_enter 22 (fun x => ⟨[(0, aF (.int 3) x.1)], []⟩) Try.func64 rfl (by kernel_rfl) (fun x => rfl) ?_
  rintro w0 Z0 ⟨x0, u⟩ a w
  revert x0
  intro (x0 : (List Int)) hpre hlens h
  replace h : At w0 Z0 [] 22 ⟨[(0, aF (.int 3) x0)], []⟩ a w := h
  replace hpre : (pTo s22) x0 := hpre
  have hl1 : List.length x0 ≤ 9223372036854775807 := hlens.1.1
  have hT : TabOK Try.prog S_laws_toIntS_tab := .nil
  have hp : Sh.sz s22 x0 ≤ 1048576 := hpre
  have hsz : Sh.sz s22 x0 = List.length x0 + ctL (Sh.sz (.int 3)) x0 := rfl
  refine wp_seq ?_
  refine at_regq (T := S_laws_toIntS_tab) [] { ts := [0, 2], os := [] } [] gamOK hT h (by kernel_rfl) trivial ?_
  intro a w h
  refine then_normal ?_
  refine wp_seq ?_
  refine at_regq (T := S_laws_toIntS_tab) [{}, {}, { ids := [1] }] { ts := [0, 2, 3], os := [1] } [(0 : Int) ≤ ((List.length x0 : Nat) : Int) ∧ ((List.length x0 : Nat) : Int) = ((List.length x0 : Nat) : Int) ∧ ((List.length x0 : Nat) : Int) * (8 : Nat) ≤ (140737488355328 : Int)] gamOK hT h (by kernel_rfl) ⟨(by refine ⟨?_, ?_, ?_⟩ <;> ((have hA0 := mul_f ((List.length x0 : Nat) : Int) (8 : Nat); first | omega | (simp only [List.length_append, List.length_cons, List.length_nil, List.length_set, List.length_take, List.length_drop, List.length_replicate, List.length_map, Nat.min_def, copyTo_len hok0]; omega) | (simp; done) | (simp; omega) | done))), trivial⟩ ?_
  intro a w h
  refine then_normal ?_
  refine wp_seq ?_
  refine wp_seq ?_
  refine at_regq (T := S_laws_toIntS_tab) [] { ts := [0, 2, 3, 4], os := [1] } [] gamOK hT h (by kernel_rfl) trivial ?_
  intro a w h
  refine then_normal ?_
  refine wp_block ?_
  replace h := at_out (σ' := ⟨[(0, aF (.int 3) x0), (2, .p (.c (cN))), (3, aS 1), (4, aI 0)], [(1, oR (.int 3) (List.replicate (List.length x0) (0 : Int)))]⟩) { ts := [0, 2, 3, 4], os := [1] } h (by kernel_rfl)
  refine at_loop (fun i : Nat => (⟨[(0, aF (.int 3) x0), (2, .p (.c (cN))), (3, aS 1), (4, aI ((i : Nat) : Int))], [(1, oR (.int 3) (copyTo 0 x0 i))]⟩ : St)) (fun i => i ≤ List.length x0) (fun i => List.length x0 - i) (0) h (st_congr2 (fun (d0 : List Int) (d1 : Int) => (⟨[(0, aF (.int 3) x0), (2, .p (.c (cN))), (3, aS 1), (4, aI d1)], [(1, oR (.int 3) d0)]⟩ : St)) (show ((List.replicate (List.length x0) (0 : Int)) : List Int) = (copyTo 0 x0 (0)) from by first | with_reducible rfl | (exact copyTo_zero) | rfl) (show (0 : Int) = (((0) : Nat) : Int) from by first | with_reducible rfl | (exact copyTo_zero) | rfl)) (by first | omega | simp | (refine ⟨?_, ?_⟩ <;> first | omega | simp)) ?_
  intro i a w hok0 h
  refine wp_seq ?_
  refine wp_seq ?_
  refine at_reg (T := S_laws_toIntS_tab) [] { ts := [0, 2, 3, 4, 11], os := [1] } ⟨[(0, aF (.int 3) x0), (2, .p (.c (cN))), (3, aS 1), (4, aI ((i : Nat) : Int)), (11, aB (decide (((i : Nat) : Int) < ((List.length x0 : Nat) : Int))))], [(1, oR (.int 3) (copyTo 0 x0 i))]⟩ [] gamOK hT h (by kernel_rfl) trivial ?_
  intro a w h
  refine then_normal ?_
  refine at_test (decide (((i : Nat) : Int) < ((List.length x0 : Nat) : Int))) h (by kernel_rfl) (fun h1 => ?_) (fun h1 => ?_)
  · replace h1 : ((i : Nat) : Int) < ((List.length x0 : Nat) : Int) := of_decide_eq_true h1
    have hat := ctL_at_le (c := Sh.sz (.int 3)) (xs := x0) (z := 0) (i := i) (by omega)
    refine wp_skip ?_
    refine then_normal ?_
    refine wp_seq ?_
    refine wp_block ?_
    refine at_regq (T := S_laws_toIntS_tab) [] { ts := [0, 2, 3, 4], os := [1] } [(0 : Int) ≤ ((i : Nat) : Int) ∧ ((i : Nat) : Int) < ((List.length x0 : Nat) : Int), (0 : Int) ≤ ((i : Nat) : Int) ∧ ((i : Nat) : Int) < ((List.length (copyTo 0 x0 i) : Nat) : Int), i < List.length (copyTo 0 x0 i)] gamOK hT h (by kernel_rfl) ⟨(by refine ⟨?_, ?_⟩ <;> (first | omega | (simp only [List.length_append, List.length_cons, List.length_nil, List.length_set, List.length_take, List.length_drop, List.length_replicate, List.length_map, Nat.min_def, copyTo_len hok0]; omega) | (simp; done) | (simp; omega) | done)), (by refine ⟨?_, ?_⟩ <;> (first | omega | (simp only [List.length_append, List.length_cons, List.length_nil, List.length_set, List.length_take, List.length_drop, List.length_replicate, List.length_map, Nat.min_def, copyTo_len hok0]; omega) | (simp; done) | (simp; omega) | done)), (by first | omega | (simp only [List.length_append, List.length_cons, List.length_nil, List.length_set, List.length_take, List.length_drop, List.length_replicate, List.length_map, Nat.min_def, copyTo_len hok0]; omega) | (simp; done) | (simp; omega) | done), trivial⟩ ?_
    intro a w h
    refine in_normal ?_
    refine then_normal ?_
    refine at_regq (T := S_laws_toIntS_tab) [{}, { nw := true }] { ts := [0, 2, 3, 4], os := [1] } [I64 (((i : Nat) : Int) + 1)] gamOK hT h (by kernel_rfl) ⟨⟨by first | omega | (simp only [List.length_append, List.length_cons, List.length_nil, List.length_set, List.length_take, List.length_drop, List.length_replicate, List.length_map, Nat.min_def, copyTo_len hok0]; omega) | (simp; done) | (simp; omega) | done, by first | omega | (simp only [List.length_append, List.length_cons, List.length_nil, List.length_set, List.length_take, List.length_drop, List.length_replicate, List.length_map, Nat.min_def, copyTo_len hok0]; omega) | (simp; done) | (simp; omega) | done⟩, trivial⟩ ?_
    intro a w h
    replace h := at_out (σ' := ⟨[(0, aF (.int 3) x0), (2, .p (.c (cN))), (3, aS 1), (4, aI (((i : Nat) : Int) + 1))], [(1, oR (.int 3) (List.set (copyTo 0 x0 i) i (x0.getD i 0)))]⟩) { ts := [0, 2, 3, 4], os := [1] } h (by kernel_rfl)
    exact ⟨i + 1, at_eq h (st_congr2 (fun (d0 : List Int) (d1 : Int) => (⟨[(0, aF (.int 3) x0), (2, .p (.c (cN))), (3, aS 1), (4, aI d1)], [(1, oR (.int 3) d0)]⟩ : St)) (show ((List.set (copyTo 0 x0 i) i (x0.getD i 0)) : List Int) = (copyTo 0 x0 (i + 1)) from by first | with_reducible rfl | (exact copyTo_set (by omega)) | rfl) (show (((i : Nat) : Int) + 1 : Int) = (((i + 1) : Nat) : Int) from by first | with_reducible rfl | (omega) | rfl)), (by first | omega | (refine ⟨?_, ?_⟩ <;> omega)), (by omega)⟩
  · replace h1 : ¬ (((i : Nat) : Int) < ((List.length x0 : Nat) : Int)) := of_decide_eq_false h1
    refine wp_exit ?_
    refine then_exit ?_
    refine then_exit ?_
    refine in_hit ?_
    refine then_normal ?_
    refine wp_seq ?_
    refine at_regq (T := S_laws_toIntS_tab) [] { ts := [2], os := [1] } [] gamOK hT h (by kernel_rfl) trivial ?_
    intro a w h
    refine then_normal ?_
    refine wp_ret ?_
    exact at_return (S := S_laws_toIntS) (x := (x0, ())) ((copyTo 0 x0 i), ()) [] h (by kernel_rfl) trivial (congrArg (fun z => (z, ())) (show ((copyTo 0 x0 i)) = (idD s22) x0 from by (rw [copyTo_all (by omega)]; rfl)))

def S_laws_toIntSS : Sum := { fid := 124, dom := [s80], cod := [s80], dp := true, fz := false, pre := fun x => (pTo s80) x.1, g := fun x => (((idD s80) x.1), ()) }
def S_laws_toIntSS_tab : List (Nat × Sum) := [(64, S_laws_toIntS)]
theorem S_laws_toIntSS_ok : FnOK Try.prog 124 S_laws_toIntSS := by
  refine at_enter 23 (fun x => ⟨[(0, aF s22 x.1)], []⟩) Try.func124 rfl (by kernel_rfl) (fun x => rfl) ?_
  rintro w0 Z0 ⟨x0, u⟩ a w
  revert x0
  intro (x0 : (List (List Int))) hpre hlens h
  replace h : At w0 Z0 [] 23 ⟨[(0, aF s22 x0)], []⟩ a w := h
  replace hpre : (pTo s80) x0 := hpre
  have hl1 : List.length x0 ≤ 9223372036854775807 := hlens.1.1
  have hT : TabOK Try.prog S_laws_toIntSS_tab := (.cons S_laws_toIntS_ok .nil)
  have hp : Sh.sz s80 x0 ≤ 1048576 := hpre
  have hsz : Sh.sz s80 x0 = List.length x0 + ctL (Sh.sz s22) x0 := rfl
  refine wp_seq ?_
  refine at_regq (T := S_laws_toIntSS_tab) [] { ts := [0, 2], os := [] } [] gamOK hT h (by kernel_rfl) trivial ?_
  intro a w h
  refine then_normal ?_
  refine wp_seq ?_
  refine at_regq (T := S_laws_toIntSS_tab) [{}, {}, { ids := [1] }] { ts := [0, 2, 3], os := [1] } [(0 : Int) ≤ ((List.length x0 : Nat) : Int) ∧ ((List.length x0 : Nat) : Int) = ((List.length x0 : Nat) : Int) ∧ ((List.length x0 : Nat) : Int) * (24 : Nat) ≤ (140737488355328 : Int)] gamOK hT h (by kernel_rfl) ⟨(by refine ⟨?_, ?_, ?_⟩ <;> ((have hA0 := mul_f ((List.length x0 : Nat) : Int) (24 : Nat); first | omega | (simp only [List.length_append, List.length_cons, List.length_nil, List.length_set, List.length_take, List.length_drop, List.length_replicate, List.length_map, Nat.min_def, copyTo_len hok0]; omega) | (simp; done) | (simp; omega) | done))), trivial⟩ ?_
  intro a w h
  refine then_normal ?_
  refine wp_seq ?_
  refine wp_seq ?_
  refine at_regq (T := S_laws_toIntSS_tab) [] { ts := [0, 2, 3, 4], os := [1] } [] gamOK hT h (by kernel_rfl) trivial ?_
  intro a w h
  refine then_normal ?_
  refine wp_block ?_
  replace h := at_out (σ' := ⟨[(0, aF s22 x0), (2, .p (.c (cN))), (3, aS 1), (4, aI 0)], [(1, oR s22 (List.replicate (List.length x0) ([] : (List Int))))]⟩) { ts := [0, 2, 3, 4], os := [1] } h (by kernel_rfl)
  refine at_loop (fun i : Nat => (⟨[(0, aF s22 x0), (2, .p (.c (cN))), (3, aS 1), (4, aI ((i : Nat) : Int))], [(1, oR s22 (copyTo [] x0 i))]⟩ : St)) (fun i => i ≤ List.length x0) (fun i => List.length x0 - i) (0) h (st_congr2 (fun (d0 : List (List Int)) (d1 : Int) => (⟨[(0, aF s22 x0), (2, .p (.c (cN))), (3, aS 1), (4, aI d1)], [(1, oR s22 d0)]⟩ : St)) (show ((List.replicate (List.length x0) ([] : (List Int))) : List (List Int)) = (copyTo [] x0 (0)) from by first | with_reducible rfl | (exact copyTo_zero) | rfl) (show (0 : Int) = (((0) : Nat) : Int) from by first | with_reducible rfl | (exact copyTo_zero) | rfl)) (by first | omega | simp | (refine ⟨?_, ?_⟩ <;> first | omega | simp)) ?_
  intro i a w hok0 h
  refine wp_seq ?_
  refine wp_seq ?_
  refine at_reg (T := S_laws_toIntSS_tab) [] { ts := [0, 2, 3, 4, 11], os := [1] } ⟨[(0, aF s22 x0), (2, .p (.c (cN))), (3, aS 1), (4, aI ((i : Nat) : Int)), (11, aB (decide (((i : Nat) : Int) < ((List.length x0 : Nat) : Int))))], [(1, oR s22 (copyTo [] x0 i))]⟩ [] gamOK hT h (by kernel_rfl) trivial ?_
  intro a w h
  refine then_normal ?_
  refine at_test (decide (((i : Nat) : Int) < ((List.length x0 : Nat) : Int))) h (by kernel_rfl) (fun h1 => ?_) (fun h1 => ?_)
  · replace h1 : ((i : Nat) : Int) < ((List.length x0 : Nat) : Int) := of_decide_eq_true h1
    have hat := ctL_at_le (c := Sh.sz s22) (xs := x0) (z := []) (i := i) (by omega)
    refine wp_skip ?_
    refine then_normal ?_
    refine wp_seq ?_
    refine wp_block ?_
    refine at_regq (T := S_laws_toIntSS_tab) [{}, {}, {}, {}, {}, {}, { ids := [2] }] { ts := [0, 2, 3, 4], os := [1] } [(0 : Int) ≤ ((i : Nat) : Int) ∧ ((i : Nat) : Int) < ((List.length x0 : Nat) : Int), (pTo s22) (x0.getD i []), (0 : Int) ≤ ((i : Nat) : Int) ∧ ((i : Nat) : Int) < ((List.length (copyTo [] x0 i) : Nat) : Int), i < List.length (copyTo [] x0 i)] gamOK hT h (by kernel_rfl) ⟨(by refine ⟨?_, ?_⟩ <;> (first | omega | (simp only [List.length_append, List.length_cons, List.length_nil, List.length_set, List.length_take, List.length_drop, List.length_replicate, List.length_map, Nat.min_def, copyTo_len hok0]; omega) | (simp; done) | (simp; omega) | done)), (by (show Sh.sz _ _ ≤ 1048576; omega)), (by refine ⟨?_, ?_⟩ <;> (first | omega | (simp only [List.length_append, List.length_cons, List.length_nil, List.length_set, List.length_take, List.length_drop, List.length_replicate, List.length_map, Nat.min_def, copyTo_len hok0]; omega) | (simp; done) | (simp; omega) | done)), (by first | omega | (simp only [List.length_append, List.length_cons, List.length_nil, List.length_set, List.length_take, List.length_drop, List.length_replicate, List.length_map, Nat.min_def, copyTo_len hok0]; omega) | (simp; done) | (simp; omega) | done), trivial⟩ ?_
    intro a w h
    refine in_normal ?_
    refine then_normal ?_
    refine at_regq (T := S_laws_toIntSS_tab) [{}, { nw := true }] { ts := [0, 2, 3, 4], os := [1] } [I64 (((i : Nat) : Int) + 1)] gamOK hT h (by kernel_rfl) ⟨⟨by first | omega | (simp only [List.length_append, List.length_cons, List.length_nil, List.length_set, List.length_take, List.length_drop, List.length_replicate, List.length_map, Nat.min_def, copyTo_len hok0]; omega) | (simp; done) | (simp; omega) | done, by first | omega | (simp only [List.length_append, List.length_cons, List.length_nil, List.length_set, List.length_take, List.length_drop, List.length_replicate, List.length_map, Nat.min_def, copyTo_len hok0]; omega) | (simp; done) | (simp; omega) | done⟩, trivial⟩ ?_
    intro a w h
    replace h := at_out (σ' := ⟨[(0, aF s22 x0), (2, .p (.c (cN))), (3, aS 1), (4, aI (((i : Nat) : Int) + 1))], [(1, oR s22 (List.set (copyTo [] x0 i) i (x0.getD i [])))]⟩) { ts := [0, 2, 3, 4], os := [1] } h (by kernel_rfl)
    exact ⟨i + 1, at_eq h (st_congr2 (fun (d0 : List (List Int)) (d1 : Int) => (⟨[(0, aF s22 x0), (2, .p (.c (cN))), (3, aS 1), (4, aI d1)], [(1, oR s22 d0)]⟩ : St)) (show ((List.set (copyTo [] x0 i) i (x0.getD i [])) : List (List Int)) = (copyTo [] x0 (i + 1)) from by first | with_reducible rfl | (exact copyTo_set (by omega)) | rfl) (show (((i : Nat) : Int) + 1 : Int) = (((i + 1) : Nat) : Int) from by first | with_reducible rfl | (omega) | rfl)), (by first | omega | (refine ⟨?_, ?_⟩ <;> omega)), (by omega)⟩
  · replace h1 : ¬ (((i : Nat) : Int) < ((List.length x0 : Nat) : Int)) := of_decide_eq_false h1
    refine wp_exit ?_
    refine then_exit ?_
    refine then_exit ?_
    refine in_hit ?_
    refine then_normal ?_
    refine wp_seq ?_
    refine at_regq (T := S_laws_toIntSS_tab) [] { ts := [2], os := [1] } [] gamOK hT h (by kernel_rfl) trivial ?_
    intro a w h
    refine then_normal ?_
    refine wp_ret ?_
    exact at_return (S := S_laws_toIntSS) (x := (x0, ())) ((copyTo [] x0 i), ()) [] h (by kernel_rfl) trivial (congrArg (fun z => (z, ())) (show ((copyTo [] x0 i)) = (idD s80) x0 from by (rw [copyTo_all (by omega)]; rfl)))

def S_laws_toCodedPacket : Sum := { fid := 74, dom := [s118], cod := [s126], dp := true, fz := false, pre := fun x => (pTo s118) x.1, g := fun x => (((idD s118) x.1), ()) }
def S_laws_toCodedPacket_tab : List (Nat × Sum) := [(64, S_laws_toIntS)]
theorem S_laws_toCodedPacket_ok : FnOK Try.prog 74 S_laws_toCodedPacket := by
  refine at_enter 16 (fun x => ⟨[(0, aG [cI x.1.1, .ro (.int 3) x.1.2.1, .ro (.int 3) x.1.2.2])], []⟩) Try.func74 rfl (by kernel_rfl) (fun x => rfl) ?_
  rintro w0 Z0 ⟨x0, u⟩ a w
  revert x0
  intro (x0 : T118) hpre hlens h
  replace h : At w0 Z0 [] 16 ⟨[(0, aG [cI x0.1, .ro (.int 3) x0.2.1, .ro (.int 3) x0.2.2])], []⟩ a w := h
  replace hpre : (pTo s118) x0 := hpre
  have hl1 : List.length x0.2.1 ≤ 9223372036854775807 := hlens.1.2.1.1
  have hl2 : List.length x0.2.2 ≤ 9223372036854775807 := hlens.1.2.2.1
  have hT : TabOK Try.prog S_laws_toCodedPacket_tab := (.cons S_laws_toIntS_ok .nil)
  have hp : Sh.sz s118 x0 ≤ 1048576 := hpre
  have hsz : Sh.sz s118 x0 = (0 + ((Sh.sz s22 x0.2.1) + (Sh.sz s22 x0.2.2))) := rfl
  refine wp_seq ?_
  refine at_regq (T := S_laws_toCodedPacket_tab) [{ ids := [1] }, { ids := [2] }] { ts := [1, 2], os := [1, 2] } [] gamOK hT h (by kernel_rfl) trivial ?_
  intro a w h
  refine then_normal ?_
  refine wp_seq ?_
  refine at_regq (T := S_laws_toCodedPacket_tab) [{ ids := [3] }] { ts := [1, 2, 3], os := [1, 2, 3] } [] gamOK hT h (by kernel_rfl) trivial ?_
  intro a w h
  refine then_normal ?_
  refine wp_seq ?_
  refine at_regq (T := S_laws_toCodedPacket_tab) [] { ts := [1, 2, 3], os := [1, 2, 3] } [] gamOK hT h (by kernel_rfl) trivial ?_
  intro a w h
  refine then_normal ?_
  refine wp_seq ?_
  refine at_reg (T := S_laws_toCodedPacket_tab) [{}, {}, { ids := [4] }] { ts := [1, 2, 3], os := [1, 2, 3, 4] } ⟨[(1, aP 1 0), (2, aP 2 0), (3, aP 3 0)], [(1, oX 118 [cI x0.1, .ro (.int 3) x0.2.1, .ro (.int 3) x0.2.2]), (2, oX 126 [cI 0, cN, cN]), (3, oX 126 [cI x0.1, .sl 4, cN]), (4, oR (.int 3) x0.2.1)]⟩ [(pTo s22) x0.2.1] gamOK hT h (by kernel_rfl) ⟨(by (show Sh.sz _ _ ≤ 1048576; first | omega | (show (0 : Nat) ≤ 1048576; decide))), trivial⟩ ?_
  intro a w h
  refine then_normal ?_
  refine wp_seq ?_
  refine at_regq (T := S_laws_toCodedPacket_tab) [{}, {}, { ids := [5] }] { ts := [2, 3], os := [2, 3, 4, 5] } [(pTo s22) x0.2.2] gamOK hT h (by kernel_rfl) ⟨(by (show Sh.sz _ _ ≤ 1048576; first | omega | (show (0 : Nat) ≤ 1048576; decide))), trivial⟩ ?_
  intro a w h
  refine then_normal ?_
  refine wp_seq ?_
  refine at_regq (T := S_laws_toCodedPacket_tab) [] { ts := [2], os := [2, 4, 5] } [] gamOK hT h (by kernel_rfl) trivial ?_
  intro a w h
  refine then_normal ?_
  refine wp_ret ?_
  exact at_return (S := S_laws_toCodedPacket) (x := (x0, ())) (x0, ()) [] h (by kernel_rfl) trivial (congrArg (fun z => (z, ())) (show (x0) = (idD s118) x0 from by rfl))

def S_laws_toCodedPacketS : Sum := { fid := 26, dom := [s39], cod := [s43], dp := true, fz := false, pre := fun x => (pTo s39) x.1, g := fun x => (((idD s39) x.1), ()) }
def S_laws_toCodedPacketS_tab : List (Nat × Sum) := [(74, S_laws_toCodedPacket)]
theorem S_laws_toCodedPacketS_ok : FnOK Try.prog 26 S_laws_toCodedPacketS := by
  refine at_enter 23 (fun x => ⟨[(0, aF s118 x.1)], []⟩) Try.func26 rfl (by kernel_rfl) (fun x => rfl) ?_
  rintro w0 Z0 ⟨x0, u⟩ a w
  revert x0
  intro (x0 : (List T118)) hpre hlens h
  replace h : At w0 Z0 [] 23 ⟨[(0, aF s118 x0)], []⟩ a w := h
  replace hpre : (pTo s39) x0 := hpre
  have hl1 : List.length x0 ≤ 9223372036854775807 := hlens.1.1
  have hT : TabOK Try.prog S_laws_toCodedPacketS_tab := (.cons S_laws_toCodedPacket_ok .nil)
  have hp : Sh.sz s39 x0 ≤ 1048576 := hpre
  have hsz : Sh.sz s39 x0 = List.length x0 + ctL (Sh.sz s118) x0 := rfl
  refine wp_seq ?_
  refine at_regq (T := S_laws_toCodedPacketS_tab) [] { ts := [0, 2], os := [] } [] gamOK hT h (by kernel_rfl) trivial ?_
  intro a w h
  refine then_normal ?_
  refine wp_seq ?_
  refine at_regq (T := S_laws_toCodedPacketS_tab) [{}, {}, { ids := [1] }] { ts := [0, 2, 3], os := [1] } [(0 : Int) ≤ ((List.length x0 : Nat) : Int) ∧ ((List.length x0 : Nat) : Int) = ((List.length x0 : Nat) : Int) ∧ ((List.length x0 : Nat) : Int) * (56 : Nat) ≤ (140737488355328 : Int)] gamOK hT h (by kernel_rfl) ⟨(by refine ⟨?_, ?_, ?_⟩ <;> ((have hA0 := mul_f ((List.length x0 : Nat) : Int) (56 : Nat); first | omega | (simp only [List.length_append, List.length_cons, List.length_nil, List.length_set, List.length_take, List.length_drop, List.length_replicate, List.length_map, Nat.min_def, copyTo_len hok0]; omega) | (simp; done) | (simp; omega) | done))), trivial⟩ ?_
  intro a w h
  refine then_normal ?_
  refine wp_seq ?_
  refine wp_seq ?_
  refine at_regq (T := S_laws_toCodedPacketS_tab) [] { ts := [0, 2, 3, 4], os := [1] } [] gamOK hT h (by kernel_rfl) trivial ?_
  intro a w h
  refine then_normal ?_
  refine wp_block ?_
  replace h := at_out (σ' := ⟨[(0, aF s118 x0), (2, .p (.c (cN))), (3, aS 1), (4, aI 0)], [(1, oR s126 (List.replicate (List.length x0) ((0, ([], [])) : T126)))]⟩) { ts := [0, 2, 3, 4], os := [1] } h (by kernel_rfl)
  refine at_loop (fun i : Nat => (⟨[(0, aF s118 x0), (2, .p (.c (cN))), (3, aS 1), (4, aI ((i : Nat) : Int))], [(1, oR s126 (copyTo (0, ([], [])) x0 i))]⟩ : St)) (fun i => i ≤ List.length x0) (fun i => List.length x0 - i) (0) h (st_congr2 (fun (d0 : List T126) (d1 : Int) => (⟨[(0, aF s118 x0), (2, .p (.c (cN))), (3, aS 1), (4, aI d1)], [(1, oR s126 d0)]⟩ : St)) (show ((List.replicate (List.length x0) ((0, ([], [])) : T126)) : List T126) = (copyTo (0, ([], [])) x0 (0)) from by first | with_reducible rfl | (exact copyTo_zero) | rfl) (show (0 : Int) = (((0) : Nat) : Int) from by first | with_reducible rfl | (exact copyTo_zero) | rfl)) (by first | omega | simp | (refine ⟨?_, ?_⟩ <;> first | omega | simp)) ?_
  intro i a w hok0 h
  refine wp_seq ?_
  refine wp_seq ?_
  refine at_reg (T := S_laws_toCodedPacketS_tab) [] { ts := [0, 2, 3, 4, 11], os := [1] } ⟨[(0, aF s118 x0), (2, .p (.c (cN))), (3, aS 1), (4, aI ((i : Nat) : Int)), (11, aB (decide (((i : Nat) : Int) < ((List.length x0 : Nat) : Int))))], [(1, oR s126 (copyTo (0, ([], [])) x0 i))]⟩ [] gamOK hT h (by kernel_rfl) trivial ?_
  intro a w h
  refine then_normal ?_
  refine at_test (decide (((i : Nat) : Int) < ((List.length x0 : Nat) : Int))) h (by kernel_rfl) (fun h1 => ?_) (fun h1 => ?_)
  · replace h1 : ((i : Nat) : Int) < ((List.length x0 : Nat) : Int) := of_decide_eq_true h1
    have hat := ctL_at_le (c := Sh.sz s118) (xs := x0) (z := (0, ([], []))) (i := i) (by omega)
    refine wp_skip ?_
    refine then_normal ?_
    refine wp_seq ?_
    refine wp_block ?_
    refine at_regq (T := S_laws_toCodedPacketS_tab) [{}, {}, {}, {}, {}, {}, { ids := [2, 3] }] { ts := [0, 2, 3, 4], os := [1] } [(0 : Int) ≤ ((i : Nat) : Int) ∧ ((i : Nat) : Int) < ((List.length x0 : Nat) : Int), (pTo s118) (x0.getD i (0, ([], []))), (0 : Int) ≤ ((i : Nat) : Int) ∧ ((i : Nat) : Int) < ((List.length (copyTo (0, ([], [])) x0 i) : Nat) : Int), i < List.length (copyTo (0, ([], [])) x0 i)] gamOK hT h (by kernel_rfl) ⟨(by refine ⟨?_, ?_⟩ <;> (first | omega | (simp only [List.length_append, List.length_cons, List.length_nil, List.length_set, List.length_take, List.length_drop, List.length_replicate, List.length_map, Nat.min_def, copyTo_len hok0]; omega) | (simp; done) | (simp; omega) | done)), (by (show Sh.sz _ _ ≤ 1048576; omega)), (by refine ⟨?_, ?_⟩ <;> (first | omega | (simp only [List.length_append, List.length_cons, List.length_nil, List.length_set, List.length_take, List.length_drop, List.length_replicate, List.length_map, Nat.min_def, copyTo_len hok0]; omega) | (simp; done) | (simp; omega) | done)), (by first | omega | (simp only [List.length_append, List.length_cons, List.length_nil, List.length_set, List.length_take, List.length_drop, List.length_replicate, List.length_map, Nat.min_def, copyTo_len hok0]; omega) | (simp; done) | (simp; omega) | done), trivial⟩ ?_
    intro a w h
    refine in_normal ?_
    refine then_normal ?_
    refine at_regq (T := S_laws_toCodedPacketS_tab) [{}, { nw := true }] { ts := [0, 2, 3, 4], os := [1] } [I64 (((i : Nat) : Int) + 1)] gamOK hT h (by kernel_rfl) ⟨⟨by first | omega | (simp only [List.length_append, List.length_cons, List.length_nil, List.length_set, List.length_take, List.length_drop, List.length_replicate, List.length_map, Nat.min_def, copyTo_len hok0]; omega) | (simp; done) | (simp; omega) | done, by first | omega | (simp only [List.length_append, List.length_cons, List.length_nil, List.length_set, List.length_take, List.length_drop, List.length_replicate, List.length_map, Nat.min_def, copyTo_len hok0]; omega) | (simp; done) | (simp; omega) | done⟩, trivial⟩ ?_
    intro a w h
    replace h := at_out (σ' := ⟨[(0, aF s118 x0), (2, .p (.c (cN))), (3, aS 1), (4, aI (((i : Nat) : Int) + 1))], [(1, oR s126 (List.set (copyTo (0, ([], [])) x0 i) i (x0.getD i (0, ([], [])))))]⟩) { ts := [0, 2, 3, 4], os := [1] } h (by kernel_rfl)
    exact ⟨i + 1, at_eq h (st_congr2 (fun (d0 : List T126) (d1 : Int) => (⟨[(0, aF s118 x0), (2, .p (.c (cN))), (3, aS 1), (4, aI d1)], [(1, oR s126 d0)]⟩ : St)) (show ((List.set (copyTo (0, ([], [])) x0 i) i (x0.getD i (0, ([], [])))) : List T126) = (copyTo (0, ([], [])) x0 (i + 1)) from by first | with_reducible rfl | (exact copyTo_set (by omega)) | rfl) (show (((i : Nat) : Int) + 1 : Int) = (((i + 1) : Nat) : Int) from by first | with_reducible rfl | (omega) | rfl)), (by first | omega | (refine ⟨?_, ?_⟩ <;> omega)), (by omega)⟩
  · replace h1 : ¬ (((i : Nat) : Int) < ((List.length x0 : Nat) : Int)) := of_decide_eq_false h1
    refine wp_exit ?_
    refine then_exit ?_
    refine then_exit ?_
    refine in_hit ?_
    refine then_normal ?_
    refine wp_seq ?_
    refine at_regq (T := S_laws_toCodedPacketS_tab) [] { ts := [2], os := [1] } [] gamOK hT h (by kernel_rfl) trivial ?_
    intro a w h
    refine then_normal ?_
    refine wp_ret ?_
    exact at_return (S := S_laws_toCodedPacketS) (x := (x0, ())) ((copyTo (0, ([], [])) x0 i), ()) [] h (by kernel_rfl) trivial (congrArg (fun z => (z, ())) (show ((copyTo (0, ([], [])) x0 i)) = (idD s39) x0 from by (rw [copyTo_all (by omega)]; rfl)))

def S_laws_toFeedback : Sum := { fid := 235, dom := [s232], cod := [s212], dp := true, fz := false, pre := fun x => (pTo s232) x.1, g := fun x => (((idD s232) x.1), ()) }
def S_laws_toFeedback_tab : List (Nat × Sum) := []
theorem S_laws_toFeedback_ok : FnOK Try.prog 235 S_laws_toFeedback := by
  refine at_enter 14 (fun x => ⟨[(0, aG [cI x.1.1, cI x.1.2.1, cI x.1.2.2])], []⟩) Try.func235 rfl (by kernel_rfl) (fun x => rfl) ?_
  rintro w0 Z0 ⟨x0, u⟩ a w
  revert x0
  intro (x0 : T232) hpre hlens h
  replace h : At w0 Z0 [] 14 ⟨[(0, aG [cI x0.1, cI x0.2.1, cI x0.2.2])], []⟩ a w := h
  replace hpre : (pTo s232) x0 := hpre
  have hT : TabOK Try.prog S_laws_toFeedback_tab := .nil
  have hp : Sh.sz s232 x0 ≤ 1048576 := hpre
  have hsz : Sh.sz s232 x0 = (0 + (0 + 0)) := rfl
  refine wp_seq ?_
  refine at_regq (T := S_laws_toFeedback_tab) [{ ids := [1] }, { ids := [2] }] { ts := [1, 2], os := [1, 2] } [] gamOK hT h (by kernel_rfl) trivial ?_
  intro a w h
  refine then_normal ?_
  refine wp_seq ?_
  refine at_regq (T := S_laws_toFeedback_tab) [{ ids := [3] }] { ts := [1, 2, 3], os := [1, 2, 3] } [] gamOK hT h (by kernel_rfl) trivial ?_
  intro a w h
  refine then_normal ?_
  refine wp_seq ?_
  refine at_regq (T := S_laws_toFeedback_tab) [] { ts := [1, 2, 3], os := [1, 2, 3] } [] gamOK hT h (by kernel_rfl) trivial ?_
  intro a w h
  refine then_normal ?_
  refine wp_seq ?_
  refine at_reg (T := S_laws_toFeedback_tab) [] { ts := [1, 2, 3], os := [1, 2, 3] } ⟨[(1, aP 1 0), (2, aP 2 0), (3, aP 3 0)], [(1, oX 232 [cI x0.1, cI x0.2.1, cI x0.2.2]), (2, oX 212 [cI 0, cI 0, cI 0]), (3, oX 212 [cI x0.1, cI x0.2.1, cI 0])]⟩ [] gamOK hT h (by kernel_rfl) trivial ?_
  intro a w h
  refine then_normal ?_
  refine wp_seq ?_
  refine at_regq (T := S_laws_toFeedback_tab) [] { ts := [2, 3], os := [2, 3] } [] gamOK hT h (by kernel_rfl) trivial ?_
  intro a w h
  refine then_normal ?_
  refine wp_seq ?_
  refine at_regq (T := S_laws_toFeedback_tab) [] { ts := [2], os := [2] } [] gamOK hT h (by kernel_rfl) trivial ?_
  intro a w h
  refine then_normal ?_
  refine wp_ret ?_
  exact at_return (S := S_laws_toFeedback) (x := (x0, ())) (x0, ()) [] h (by kernel_rfl) trivial (congrArg (fun z => (z, ())) (show (x0) = (idD s232) x0 from by rfl))

def S_laws_toFeedbackS : Sum := { fid := 183, dom := [s60], cod := [s69], dp := true, fz := false, pre := fun x => (pTo s60) x.1, g := fun x => (((idD s60) x.1), ()) }
def S_laws_toFeedbackS_tab : List (Nat × Sum) := [(235, S_laws_toFeedback)]
theorem S_laws_toFeedbackS_ok : FnOK Try.prog 183 S_laws_toFeedbackS := by
  refine at_enter 23 (fun x => ⟨[(0, aF s232 x.1)], []⟩) Try.func183 rfl (by kernel_rfl) (fun x => rfl) ?_
  rintro w0 Z0 ⟨x0, u⟩ a w
  revert x0
  intro (x0 : (List T232)) hpre hlens h
  replace h : At w0 Z0 [] 23 ⟨[(0, aF s232 x0)], []⟩ a w := h
  replace hpre : (pTo s60) x0 := hpre
  have hl1 : List.length x0 ≤ 9223372036854775807 := hlens.1.1
  have hT : TabOK Try.prog S_laws_toFeedbackS_tab := (.cons S_laws_toFeedback_ok .nil)
  have hp : Sh.sz s60 x0 ≤ 1048576 := hpre
  have hsz : Sh.sz s60 x0 = List.length x0 + ctL (Sh.sz s232) x0 := rfl
  refine wp_seq ?_
  refine at_regq (T := S_laws_toFeedbackS_tab) [] { ts := [0, 2], os := [] } [] gamOK hT h (by kernel_rfl) trivial ?_
  intro a w h
  refine then_normal ?_
  refine wp_seq ?_
  refine at_regq (T := S_laws_toFeedbackS_tab) [{}, {}, { ids := [1] }] { ts := [0, 2, 3], os := [1] } [(0 : Int) ≤ ((List.length x0 : Nat) : Int) ∧ ((List.length x0 : Nat) : Int) = ((List.length x0 : Nat) : Int) ∧ ((List.length x0 : Nat) : Int) * (24 : Nat) ≤ (140737488355328 : Int)] gamOK hT h (by kernel_rfl) ⟨(by refine ⟨?_, ?_, ?_⟩ <;> ((have hA0 := mul_f ((List.length x0 : Nat) : Int) (24 : Nat); first | omega | (simp only [List.length_append, List.length_cons, List.length_nil, List.length_set, List.length_take, List.length_drop, List.length_replicate, List.length_map, Nat.min_def, copyTo_len hok0]; omega) | (simp; done) | (simp; omega) | done))), trivial⟩ ?_
  intro a w h
  refine then_normal ?_
  refine wp_seq ?_
  refine wp_seq ?_
  refine at_regq (T := S_laws_toFeedbackS_tab) [] { ts := [0, 2, 3, 4], os := [1] } [] gamOK hT h (by kernel_rfl) trivial ?_
  intro a w h
  refine then_normal ?_
  refine wp_block ?_
  replace h := at_out (σ' := ⟨[(0, aF s232 x0), (2, .p (.c (cN))), (3, aS 1), (4, aI 0)], [(1, oR s212 (List.replicate (List.length x0) ((0, (0, 0)) : T212)))]⟩) { ts := [0, 2, 3, 4], os := [1] } h (by kernel_rfl)
  refine at_loop (fun i : Nat => (⟨[(0, aF s232 x0), (2, .p (.c (cN))), (3, aS 1), (4, aI ((i : Nat) : Int))], [(1, oR s212 (copyTo (0, (0, 0)) x0 i))]⟩ : St)) (fun i => i ≤ List.length x0) (fun i => List.length x0 - i) (0) h (st_congr2 (fun (d0 : List T212) (d1 : Int) => (⟨[(0, aF s232 x0), (2, .p (.c (cN))), (3, aS 1), (4, aI d1)], [(1, oR s212 d0)]⟩ : St)) (show ((List.replicate (List.length x0) ((0, (0, 0)) : T212)) : List T212) = (copyTo (0, (0, 0)) x0 (0)) from by first | with_reducible rfl | (exact copyTo_zero) | rfl) (show (0 : Int) = (((0) : Nat) : Int) from by first | with_reducible rfl | (exact copyTo_zero) | rfl)) (by first | omega | simp | (refine ⟨?_, ?_⟩ <;> first | omega | simp)) ?_
  intro i a w hok0 h
  refine wp_seq ?_
  refine wp_seq ?_
  refine at_reg (T := S_laws_toFeedbackS_tab) [] { ts := [0, 2, 3, 4, 11], os := [1] } ⟨[(0, aF s232 x0), (2, .p (.c (cN))), (3, aS 1), (4, aI ((i : Nat) : Int)), (11, aB (decide (((i : Nat) : Int) < ((List.length x0 : Nat) : Int))))], [(1, oR s212 (copyTo (0, (0, 0)) x0 i))]⟩ [] gamOK hT h (by kernel_rfl) trivial ?_
  intro a w h
  refine then_normal ?_
  refine at_test (decide (((i : Nat) : Int) < ((List.length x0 : Nat) : Int))) h (by kernel_rfl) (fun h1 => ?_) (fun h1 => ?_)
  · replace h1 : ((i : Nat) : Int) < ((List.length x0 : Nat) : Int) := of_decide_eq_true h1
    have hat := ctL_at_le (c := Sh.sz s232) (xs := x0) (z := (0, (0, 0))) (i := i) (by omega)
    refine wp_skip ?_
    refine then_normal ?_
    refine wp_seq ?_
    refine wp_block ?_
    refine at_regq (T := S_laws_toFeedbackS_tab) [] { ts := [0, 2, 3, 4], os := [1] } [(0 : Int) ≤ ((i : Nat) : Int) ∧ ((i : Nat) : Int) < ((List.length x0 : Nat) : Int), (pTo s232) (x0.getD i (0, (0, 0))), (0 : Int) ≤ ((i : Nat) : Int) ∧ ((i : Nat) : Int) < ((List.length (copyTo (0, (0, 0)) x0 i) : Nat) : Int), i < List.length (copyTo (0, (0, 0)) x0 i)] gamOK hT h (by kernel_rfl) ⟨(by refine ⟨?_, ?_⟩ <;> (first | omega | (simp only [List.length_append, List.length_cons, List.length_nil, List.length_set, List.length_take, List.length_drop, List.length_replicate, List.length_map, Nat.min_def, copyTo_len hok0]; omega) | (simp; done) | (simp; omega) | done)), (by (show Sh.sz _ _ ≤ 1048576; omega)), (by refine ⟨?_, ?_⟩ <;> (first | omega | (simp only [List.length_append, List.length_cons, List.length_nil, List.length_set, List.length_take, List.length_drop, List.length_replicate, List.length_map, Nat.min_def, copyTo_len hok0]; omega) | (simp; done) | (simp; omega) | done)), (by first | omega | (simp only [List.length_append, List.length_cons, List.length_nil, List.length_set, List.length_take, List.length_drop, List.length_replicate, List.length_map, Nat.min_def, copyTo_len hok0]; omega) | (simp; done) | (simp; omega) | done), trivial⟩ ?_
    intro a w h
    refine in_normal ?_
    refine then_normal ?_
    refine at_regq (T := S_laws_toFeedbackS_tab) [{}, { nw := true }] { ts := [0, 2, 3, 4], os := [1] } [I64 (((i : Nat) : Int) + 1)] gamOK hT h (by kernel_rfl) ⟨⟨by first | omega | (simp only [List.length_append, List.length_cons, List.length_nil, List.length_set, List.length_take, List.length_drop, List.length_replicate, List.length_map, Nat.min_def, copyTo_len hok0]; omega) | (simp; done) | (simp; omega) | done, by first | omega | (simp only [List.length_append, List.length_cons, List.length_nil, List.length_set, List.length_take, List.length_drop, List.length_replicate, List.length_map, Nat.min_def, copyTo_len hok0]; omega) | (simp; done) | (simp; omega) | done⟩, trivial⟩ ?_
    intro a w h
    replace h := at_out (σ' := ⟨[(0, aF s232 x0), (2, .p (.c (cN))), (3, aS 1), (4, aI (((i : Nat) : Int) + 1))], [(1, oR s212 (List.set (copyTo (0, (0, 0)) x0 i) i (x0.getD i (0, (0, 0)))))]⟩) { ts := [0, 2, 3, 4], os := [1] } h (by kernel_rfl)
    exact ⟨i + 1, at_eq h (st_congr2 (fun (d0 : List T212) (d1 : Int) => (⟨[(0, aF s232 x0), (2, .p (.c (cN))), (3, aS 1), (4, aI d1)], [(1, oR s212 d0)]⟩ : St)) (show ((List.set (copyTo (0, (0, 0)) x0 i) i (x0.getD i (0, (0, 0)))) : List T212) = (copyTo (0, (0, 0)) x0 (i + 1)) from by first | with_reducible rfl | (exact copyTo_set (by omega)) | rfl) (show (((i : Nat) : Int) + 1 : Int) = (((i + 1) : Nat) : Int) from by first | with_reducible rfl | (omega) | rfl)), (by first | omega | (refine ⟨?_, ?_⟩ <;> omega)), (by omega)⟩
  · replace h1 : ¬ (((i : Nat) : Int) < ((List.length x0 : Nat) : Int)) := of_decide_eq_false h1
    refine wp_exit ?_
    refine then_exit ?_
    refine then_exit ?_
    refine in_hit ?_
    refine then_normal ?_
    refine wp_seq ?_
    refine at_regq (T := S_laws_toFeedbackS_tab) [] { ts := [2], os := [1] } [] gamOK hT h (by kernel_rfl) trivial ?_
    intro a w h
    refine then_normal ?_
    refine wp_ret ?_
    exact at_return (S := S_laws_toFeedbackS) (x := (x0, ())) ((copyTo (0, (0, 0)) x0 i), ()) [] h (by kernel_rfl) trivial (congrArg (fun z => (z, ())) (show ((copyTo (0, (0, 0)) x0 i)) = (idD s60) x0 from by (rw [copyTo_all (by omega)]; rfl)))

def S_laws_toFeedbackTable : Sum := { fid := 109, dom := [s62], cod := [s71], dp := true, fz := false, pre := fun x => (pTo s62) x.1, g := fun x => (((idD s62) x.1), ()) }
def S_laws_toFeedbackTable_tab : List (Nat × Sum) := [(183, S_laws_toFeedbackS)]
theorem S_laws_toFeedbackTable_ok : FnOK Try.prog 109 S_laws_toFeedbackTable := by
  refine at_enter 9 (fun x => ⟨[(0, aG [.ro s232 x.1])], []⟩) Try.func109 rfl (by kernel_rfl) (fun x => rfl) ?_
  rintro w0 Z0 ⟨x0, u⟩ a w
  revert x0
  intro (x0 : (List T232)) hpre hlens h
  replace h : At w0 Z0 [] 9 ⟨[(0, aG [.ro s232 x0])], []⟩ a w := h
  replace hpre : (pTo s62) x0 := hpre
  have hl1 : List.length x0 ≤ 9223372036854775807 := hlens.1.1
  have hT : TabOK Try.prog S_laws_toFeedbackTable_tab := (.cons S_laws_toFeedbackS_ok .nil)
  have hp : Sh.sz s62 x0 ≤ 1048576 := hpre
  have hsz : Sh.sz s62 x0 = (Sh.sz s60 x0) := rfl
  refine wp_seq ?_
  refine at_regq (T := S_laws_toFeedbackTable_tab) [{ ids := [1] }, { ids := [2] }] { ts := [1, 2], os := [1, 2] } [] gamOK hT h (by kernel_rfl) trivial ?_
  intro a w h
  refine then_normal ?_
  refine wp_seq ?_
  refine at_regq (T := S_laws_toFeedbackTable_tab) [{ ids := [3] }] { ts := [1, 2, 3], os := [1, 2, 3] } [] gamOK hT h (by kernel_rfl) trivial ?_
  intro a w h
  refine then_normal ?_
  refine wp_seq ?_
  refine at_regq (T := S_laws_toFeedbackTable_tab) [{}, {}, { ids := [4] }] { ts := [2, 3], os := [2, 3, 4] } [(pTo s60) x0] gamOK hT h (by kernel_rfl) ⟨(by (show Sh.sz _ _ ≤ 1048576; first | omega | (show (0 : Nat) ≤ 1048576; decide))), trivial⟩ ?_
  intro a w h
  refine then_normal ?_
  refine wp_seq ?_
  refine at_reg (T := S_laws_toFeedbackTable_tab) [] { ts := [2], os := [2, 4] } ⟨[(2, aP 2 0)], [(2, oX 71 [.sl 4]), (4, oR s212 x0)]⟩ [] gamOK hT h (by kernel_rfl) trivial ?_
  intro a w h
  refine then_normal ?_
  refine wp_ret ?_
  exact at_return (S := S_laws_toFeedbackTable) (x := (x0, ())) (x0, ()) [] h (by kernel_rfl) trivial (congrArg (fun z => (z, ())) (show (x0) = (idD s62) x0 from by rfl))

def S_laws_toGeneration : Sum := { fid := 46, dom := [s82], cod := [s86], dp := true, fz := false, pre := fun x => (pTo s82) x.1, g := fun x => (((idD s82) x.1), ()) }
def S_laws_toGeneration_tab : List (Nat × Sum) := [(124, S_laws_toIntSS)]
theorem S_laws_toGeneration_ok : FnOK Try.prog 46 S_laws_toGeneration := by
  refine at_enter 12 (fun x => ⟨[(0, aG [cI x.1.1, .ro s22 x.1.2])], []⟩) Try.func46 rfl (by kernel_rfl) (fun x => rfl) ?_
  rintro w0 Z0 ⟨x0, u⟩ a w
  revert x0
  intro (x0 : T82) hpre hlens h
  replace h : At w0 Z0 [] 12 ⟨[(0, aG [cI x0.1, .ro s22 x0.2])], []⟩ a w := h
  replace hpre : (pTo s82) x0 := hpre
  have hl1 : List.length x0.2 ≤ 9223372036854775807 := hlens.1.2.1
  have hT : TabOK Try.prog S_laws_toGeneration_tab := (.cons S_laws_toIntSS_ok .nil)
  have hp : Sh.sz s82 x0 ≤ 1048576 := hpre
  have hsz : Sh.sz s82 x0 = (0 + (Sh.sz s80 x0.2)) := rfl
  refine wp_seq ?_
  refine at_regq (T := S_laws_toGeneration_tab) [{ ids := [1] }, { ids := [2] }] { ts := [1, 2], os := [1, 2] } [] gamOK hT h (by kernel_rfl) trivial ?_
  intro a w h
  refine then_normal ?_
  refine wp_seq ?_
  refine at_regq (T := S_laws_toGeneration_tab) [{ ids := [3] }] { ts := [1, 2, 3], os := [1, 2, 3] } [] gamOK hT h (by kernel_rfl) trivial ?_
  intro a w h
  refine then_normal ?_
  refine wp_seq ?_
  refine at_regq (T := S_laws_toGeneration_tab) [] { ts := [1, 2, 3], os := [1, 2, 3] } [] gamOK hT h (by kernel_rfl) trivial ?_
  intro a w h
  refine then_normal ?_
  refine wp_seq ?_
  refine at_reg (T := S_laws_toGeneration_tab) [{}, {}, { ids := [4] }] { ts := [2, 3], os := [2, 3, 4] } ⟨[(2, aP 2 0), (3, aP 3 0)], [(2, oX 86 [cI 0, cN]), (3, oX 86 [cI x0.1, .sl 4]), (4, oR s22 x0.2)]⟩ [(pTo s80) x0.2] gamOK hT h (by kernel_rfl) ⟨(by (show Sh.sz _ _ ≤ 1048576; first | omega | (show (0 : Nat) ≤ 1048576; decide))), trivial⟩ ?_
  intro a w h
  refine then_normal ?_
  refine wp_seq ?_
  refine at_regq (T := S_laws_toGeneration_tab) [] { ts := [2], os := [2, 4] } [] gamOK hT h (by kernel_rfl) trivial ?_
  intro a w h
  refine then_normal ?_
  refine wp_ret ?_
  exact at_return (S := S_laws_toGeneration) (x := (x0, ())) (x0, ()) [] h (by kernel_rfl) trivial (congrArg (fun z => (z, ())) (show (x0) = (idD s82) x0 from by rfl))

def S_laws_toGenerationS : Sum := { fid := 92, dom := [s24], cod := [s30], dp := true, fz := false, pre := fun x => (pTo s24) x.1, g := fun x => (((idD s24) x.1), ()) }
def S_laws_toGenerationS_tab : List (Nat × Sum) := [(46, S_laws_toGeneration)]
theorem S_laws_toGenerationS_ok : FnOK Try.prog 92 S_laws_toGenerationS := by
  refine at_enter 23 (fun x => ⟨[(0, aF s82 x.1)], []⟩) Try.func92 rfl (by kernel_rfl) (fun x => rfl) ?_
  rintro w0 Z0 ⟨x0, u⟩ a w
  revert x0
  intro (x0 : (List T82)) hpre hlens h
  replace h : At w0 Z0 [] 23 ⟨[(0, aF s82 x0)], []⟩ a w := h
  replace hpre : (pTo s24) x0 := hpre
  have hl1 : List.length x0 ≤ 9223372036854775807 := hlens.1.1
  have hT : TabOK Try.prog S_laws_toGenerationS_tab := (.cons S_laws_toGeneration_ok .nil)
  have hp : Sh.sz s24 x0 ≤ 1048576 := hpre
  have hsz : Sh.sz s24 x0 = List.length x0 + ctL (Sh.sz s82) x0 := rfl
  refine wp_seq ?_
  refine at_regq (T := S_laws_toGenerationS_tab) [] { ts := [0, 2], os := [] } [] gamOK hT h (by kernel_rfl) trivial ?_
  intro a w h
  refine then_normal ?_
  refine wp_seq ?_
  refine at_regq (T := S_laws_toGenerationS_tab) [{}, {}, { ids := [1] }] { ts := [0, 2, 3], os := [1] } [(0 : Int) ≤ ((List.length x0 : Nat) : Int) ∧ ((List.length x0 : Nat) : Int) = ((List.length x0 : Nat) : Int) ∧ ((List.length x0 : Nat) : Int) * (32 : Nat) ≤ (140737488355328 : Int)] gamOK hT h (by kernel_rfl) ⟨(by refine ⟨?_, ?_, ?_⟩ <;> ((have hA0 := mul_f ((List.length x0 : Nat) : Int) (32 : Nat); first | omega | (simp only [List.length_append, List.length_cons, List.length_nil, List.length_set, List.length_take, List.length_drop, List.length_replicate, List.length_map, Nat.min_def, copyTo_len hok0]; omega) | (simp; done) | (simp; omega) | done))), trivial⟩ ?_
  intro a w h
  refine then_normal ?_
  refine wp_seq ?_
  refine wp_seq ?_
  refine at_regq (T := S_laws_toGenerationS_tab) [] { ts := [0, 2, 3, 4], os := [1] } [] gamOK hT h (by kernel_rfl) trivial ?_
  intro a w h
  refine then_normal ?_
  refine wp_block ?_
  replace h := at_out (σ' := ⟨[(0, aF s82 x0), (2, .p (.c (cN))), (3, aS 1), (4, aI 0)], [(1, oR s86 (List.replicate (List.length x0) ((0, []) : T86)))]⟩) { ts := [0, 2, 3, 4], os := [1] } h (by kernel_rfl)
  refine at_loop (fun i : Nat => (⟨[(0, aF s82 x0), (2, .p (.c (cN))), (3, aS 1), (4, aI ((i : Nat) : Int))], [(1, oR s86 (copyTo (0, []) x0 i))]⟩ : St)) (fun i => i ≤ List.length x0) (fun i => List.length x0 - i) (0) h (st_congr2 (fun (d0 : List T86) (d1 : Int) => (⟨[(0, aF s82 x0), (2, .p (.c (cN))), (3, aS 1), (4, aI d1)], [(1, oR s86 d0)]⟩ : St)) (show ((List.replicate (List.length x0) ((0, []) : T86)) : List T86) = (copyTo (0, []) x0 (0)) from by first | with_reducible rfl | (exact copyTo_zero) | rfl) (show (0 : Int) = (((0) : Nat) : Int) from by first | with_reducible rfl | (exact copyTo_zero) | rfl)) (by first | omega | simp | (refine ⟨?_, ?_⟩ <;> first | omega | simp)) ?_
  intro i a w hok0 h
  refine wp_seq ?_
  refine wp_seq ?_
  refine at_reg (T := S_laws_toGenerationS_tab) [] { ts := [0, 2, 3, 4, 11], os := [1] } ⟨[(0, aF s82 x0), (2, .p (.c (cN))), (3, aS 1), (4, aI ((i : Nat) : Int)), (11, aB (decide (((i : Nat) : Int) < ((List.length x0 : Nat) : Int))))], [(1, oR s86 (copyTo (0, []) x0 i))]⟩ [] gamOK hT h (by kernel_rfl) trivial ?_
  intro a w h
  refine then_normal ?_
  refine at_test (decide (((i : Nat) : Int) < ((List.length x0 : Nat) : Int))) h (by kernel_rfl) (fun h1 => ?_) (fun h1 => ?_)
  · replace h1 : ((i : Nat) : Int) < ((List.length x0 : Nat) : Int) := of_decide_eq_true h1
    have hat := ctL_at_le (c := Sh.sz s82) (xs := x0) (z := (0, [])) (i := i) (by omega)
    refine wp_skip ?_
    refine then_normal ?_
    refine wp_seq ?_
    refine wp_block ?_
    refine at_regq (T := S_laws_toGenerationS_tab) [{}, {}, {}, {}, {}, {}, { ids := [2] }] { ts := [0, 2, 3, 4], os := [1] } [(0 : Int) ≤ ((i : Nat) : Int) ∧ ((i : Nat) : Int) < ((List.length x0 : Nat) : Int), (pTo s82) (x0.getD i (0, [])), (0 : Int) ≤ ((i : Nat) : Int) ∧ ((i : Nat) : Int) < ((List.length (copyTo (0, []) x0 i) : Nat) : Int), i < List.length (copyTo (0, []) x0 i)] gamOK hT h (by kernel_rfl) ⟨(by refine ⟨?_, ?_⟩ <;> (first | omega | (simp only [List.length_append, List.length_cons, List.length_nil, List.length_set, List.length_take, List.length_drop, List.length_replicate, List.length_map, Nat.min_def, copyTo_len hok0]; omega) | (simp; done) | (simp; omega) | done)), (by (show Sh.sz _ _ ≤ 1048576; omega)), (by refine ⟨?_, ?_⟩ <;> (first | omega | (simp only [List.length_append, List.length_cons, List.length_nil, List.length_set, List.length_take, List.length_drop, List.length_replicate, List.length_map, Nat.min_def, copyTo_len hok0]; omega) | (simp; done) | (simp; omega) | done)), (by first | omega | (simp only [List.length_append, List.length_cons, List.length_nil, List.length_set, List.length_take, List.length_drop, List.length_replicate, List.length_map, Nat.min_def, copyTo_len hok0]; omega) | (simp; done) | (simp; omega) | done), trivial⟩ ?_
    intro a w h
    refine in_normal ?_
    refine then_normal ?_
    refine at_regq (T := S_laws_toGenerationS_tab) [{}, { nw := true }] { ts := [0, 2, 3, 4], os := [1] } [I64 (((i : Nat) : Int) + 1)] gamOK hT h (by kernel_rfl) ⟨⟨by first | omega | (simp only [List.length_append, List.length_cons, List.length_nil, List.length_set, List.length_take, List.length_drop, List.length_replicate, List.length_map, Nat.min_def, copyTo_len hok0]; omega) | (simp; done) | (simp; omega) | done, by first | omega | (simp only [List.length_append, List.length_cons, List.length_nil, List.length_set, List.length_take, List.length_drop, List.length_replicate, List.length_map, Nat.min_def, copyTo_len hok0]; omega) | (simp; done) | (simp; omega) | done⟩, trivial⟩ ?_
    intro a w h
    replace h := at_out (σ' := ⟨[(0, aF s82 x0), (2, .p (.c (cN))), (3, aS 1), (4, aI (((i : Nat) : Int) + 1))], [(1, oR s86 (List.set (copyTo (0, []) x0 i) i (x0.getD i (0, []))))]⟩) { ts := [0, 2, 3, 4], os := [1] } h (by kernel_rfl)
    exact ⟨i + 1, at_eq h (st_congr2 (fun (d0 : List T86) (d1 : Int) => (⟨[(0, aF s82 x0), (2, .p (.c (cN))), (3, aS 1), (4, aI d1)], [(1, oR s86 d0)]⟩ : St)) (show ((List.set (copyTo (0, []) x0 i) i (x0.getD i (0, []))) : List T86) = (copyTo (0, []) x0 (i + 1)) from by first | with_reducible rfl | (exact copyTo_set (by omega)) | rfl) (show (((i : Nat) : Int) + 1 : Int) = (((i + 1) : Nat) : Int) from by first | with_reducible rfl | (omega) | rfl)), (by first | omega | (refine ⟨?_, ?_⟩ <;> omega)), (by omega)⟩
  · replace h1 : ¬ (((i : Nat) : Int) < ((List.length x0 : Nat) : Int)) := of_decide_eq_false h1
    refine wp_exit ?_
    refine then_exit ?_
    refine then_exit ?_
    refine in_hit ?_
    refine then_normal ?_
    refine wp_seq ?_
    refine at_regq (T := S_laws_toGenerationS_tab) [] { ts := [2], os := [1] } [] gamOK hT h (by kernel_rfl) trivial ?_
    intro a w h
    refine then_normal ?_
    refine wp_ret ?_
    exact at_return (S := S_laws_toGenerationS) (x := (x0, ())) ((copyTo (0, []) x0 i), ()) [] h (by kernel_rfl) trivial (congrArg (fun z => (z, ())) (show ((copyTo (0, []) x0 i)) = (idD s24) x0 from by (rw [copyTo_all (by omega)]; rfl)))

def S_laws_toRecoder : Sum := { fid := 73, dom := [s116], cod := [s122], dp := true, fz := false, pre := fun x => (pTo s116) x.1, g := fun x => (((idD s116) x.1), ()) }
def S_laws_toRecoder_tab : List (Nat × Sum) := [(26, S_laws_toCodedPacketS)]
theorem S_laws_toRecoder_ok : FnOK Try.prog 73 S_laws_toRecoder := by
  refine at_enter 21 (fun x => ⟨[(0, aG [cI x.1.1, cI x.1.2.1, cI x.1.2.2.1, .ro s118 x.1.2.2.2.1, cI x.1.2.2.2.2])], []⟩) Try.func73 rfl (by kernel_rfl) (fun x => rfl) ?_
  rintro w0 Z0 ⟨x0, u⟩ a w
  revert x0
  intro (x0 : T116) hpre hlens h
  replace h : At w0 Z0 [] 21 ⟨[(0, aG [cI x0.1, cI x0.2.1, cI x0.2.2.1, .ro s118 x0.2.2.2.1, cI x0.2.2.2.2])], []⟩ a w := h
  replace hpre : (pTo s116) x0 := hpre
  have hl1 : List.length x0.2.2.2.1 ≤ 9223372036854775807 := hlens.1.2.2.2.1.1
  have hT : TabOK Try.prog S_laws_toRecoder_tab := (.cons S_laws_toCodedPacketS_ok .nil)
  have hp : Sh.sz s116 x0 ≤ 1048576 := hpre
  have hsz : Sh.sz s116 x0 = (0 + (0 + (0 + ((Sh.sz s39 x0.2.2.2.1) + 0)))) := rfl
  refine wp_seq ?_
  refine at_regq (T := S_laws_toRecoder_tab) [{ ids := [1] }, { ids := [2] }] { ts := [1, 2], os := [1, 2] } [] gamOK hT h (by kernel_rfl) trivial ?_
  intro a w h
  refine then_normal ?_
  refine wp_seq ?_
  refine at_regq (T := S_laws_toRecoder_tab) [{ ids := [3] }] { ts := [1, 2, 3], os := [1, 2, 3] } [] gamOK hT h (by kernel_rfl) trivial ?_
  intro a w h
  refine then_normal ?_
  refine wp_seq ?_
  refine at_regq (T := S_laws_toRecoder_tab) [] { ts := [1, 2, 3], os := [1, 2, 3] } [] gamOK hT h (by kernel_rfl) trivial ?_
  intro a w h
  refine then_normal ?_
  refine wp_seq ?_
  refine at_reg (T := S_laws_toRecoder_tab) [] { ts := [1, 2, 3], os := [1, 2, 3] } ⟨[(1, aP 1 0), (2, aP 2 0), (3, aP 3 0)], [(1, oX 116 [cI x0.1, cI x0.2.1, cI x0.2.2.1, .ro s118 x0.2.2.2.1, cI x0.2.2.2.2]), (2, oX 122 [cI 0, cI 0, cI 0, cN, cI 0]), (3, oX 122 [cI x0.1, cI x0.2.1, cI 0, cN, cI 0])]⟩ [] gamOK hT h (by kernel_rfl) trivial ?_
  intro a w h
  refine then_normal ?_
  refine wp_seq ?_
  refine at_regq (T := S_laws_toRecoder_tab) [] { ts := [1, 2, 3], os := [1, 2, 3] } [] gamOK hT h (by kernel_rfl) trivial ?_
  intro a w h
  refine then_normal ?_
  refine wp_seq ?_
  refine at_regq (T := S_laws_toRecoder_tab) [{}, {}, { ids := [4] }] { ts := [1, 2, 3], os := [1, 2, 3, 4] } [(pTo s39) x0.2.2.2.1] gamOK hT h (by kernel_rfl) ⟨(by (show Sh.sz _ _ ≤ 1048576; first | omega | (show (0 : Nat) ≤ 1048576; decide))), trivial⟩ ?_
  intro a w h
  refine then_normal ?_
  refine wp_seq ?_
  refine at_regq (T := S_laws_toRecoder_tab) [] { ts := [2, 3], os := [2, 3, 4] } [] gamOK hT h (by kernel_rfl) trivial ?_
  intro a w h
  refine then_normal ?_
  refine wp_seq ?_
  refine at_reg (T := S_laws_toRecoder_tab) [] { ts := [2], os := [2, 4] } ⟨[(2, aP 2 0)], [(2, oX 122 [cI x0.1, cI x0.2.1, cI x0.2.2.1, .sl 4, cI x0.2.2.2.2]), (4, oR s126 x0.2.2.2.1)]⟩ [] gamOK hT h (by kernel_rfl) trivial ?_
  intro a w h
  refine then_normal ?_
  refine wp_ret ?_
  exact at_return (S := S_laws_toRecoder) (x := (x0, ())) (x0, ()) [] h (by kernel_rfl) trivial (congrArg (fun z => (z, ())) (show (x0) = (idD s116) x0 from by rfl))

def S_laws_toRecoderS : Sum := { fid := 108, dom := [s59], cod := [s68], dp := true, fz := false, pre := fun x => (pTo s59) x.1, g := fun x => (((idD s59) x.1), ()) }
def S_laws_toRecoderS_tab : List (Nat × Sum) := [(73, S_laws_toRecoder)]
theorem S_laws_toRecoderS_ok : FnOK Try.prog 108 S_laws_toRecoderS := by
  refine at_enter 23 (fun x => ⟨[(0, aF s116 x.1)], []⟩) Try.func108 rfl (by kernel_rfl) (fun x => rfl) ?_
  rintro w0 Z0 ⟨x0, u⟩ a w
  revert x0
  intro (x0 : (List T116)) hpre hlens h
  replace h : At w0 Z0 [] 23 ⟨[(0, aF s116 x0)], []⟩ a w := h
  replace hpre : (pTo s59) x0 := hpre
  have hl1 : List.length x0 ≤ 9223372036854775807 := hlens.1.1
  have hT : TabOK Try.prog S_laws_toRecoderS_tab := (.cons S_laws_toRecoder_ok .nil)
  have hp : Sh.sz s59 x0 ≤ 1048576 := hpre
  have hsz : Sh.sz s59 x0 = List.length x0 + ctL (Sh.sz s116) x0 := rfl
  refine wp_seq ?_
  refine at_regq (T := S_laws_toRecoderS_tab) [] { ts := [0, 2], os := [] } [] gamOK hT h (by kernel_rfl) trivial ?_
  intro a w h
  refine then_normal ?_
  refine wp_seq ?_
  refine at_regq (T := S_laws_toRecoderS_tab) [{}, {}, { ids := [1] }] { ts := [0, 2, 3], os := [1] } [(0 : Int) ≤ ((List.length x0 : Nat) : Int) ∧ ((List.length x0 : Nat) : Int) = ((List.length x0 : Nat) : Int) ∧ ((List.length x0 : Nat) : Int) * (56 : Nat) ≤ (140737488355328 : Int)] gamOK hT h (by kernel_rfl) ⟨(by refine ⟨?_, ?_, ?_⟩ <;> ((have hA0 := mul_f ((List.length x0 : Nat) : Int) (56 : Nat); first | omega | (simp only [List.length_append, List.length_cons, List.length_nil, List.length_set, List.length_take, List.length_drop, List.length_replicate, List.length_map, Nat.min_def, copyTo_len hok0]; omega) | (simp; done) | (simp; omega) | done))), trivial⟩ ?_
  intro a w h
  refine then_normal ?_
  refine wp_seq ?_
  refine wp_seq ?_
  refine at_regq (T := S_laws_toRecoderS_tab) [] { ts := [0, 2, 3, 4], os := [1] } [] gamOK hT h (by kernel_rfl) trivial ?_
  intro a w h
  refine then_normal ?_
  refine wp_block ?_
  replace h := at_out (σ' := ⟨[(0, aF s116 x0), (2, .p (.c (cN))), (3, aS 1), (4, aI 0)], [(1, oR s122 (List.replicate (List.length x0) ((0, (0, (0, ([], 0)))) : T122)))]⟩) { ts := [0, 2, 3, 4], os := [1] } h (by kernel_rfl)
  refine at_loop (fun i : Nat => (⟨[(0, aF s116 x0), (2, .p (.c (cN))), (3, aS 1), (4, aI ((i : Nat) : Int))], [(1, oR s122 (copyTo (0, (0, (0, ([], 0)))) x0 i))]⟩ : St)) (fun i => i ≤ List.length x0) (fun i => List.length x0 - i) (0) h (st_congr2 (fun (d0 : List T122) (d1 : Int) => (⟨[(0, aF s116 x0), (2, .p (.c (cN))), (3, aS 1), (4, aI d1)], [(1, oR s122 d0)]⟩ : St)) (show ((List.replicate (List.length x0) ((0, (0, (0, ([], 0)))) : T122)) : List T122) = (copyTo (0, (0, (0, ([], 0)))) x0 (0)) from by first | with_reducible rfl | (exact copyTo_zero) | rfl) (show (0 : Int) = (((0) : Nat) : Int) from by first | with_reducible rfl | (exact copyTo_zero) | rfl)) (by first | omega | simp | (refine ⟨?_, ?_⟩ <;> first | omega | simp)) ?_
  intro i a w hok0 h
  refine wp_seq ?_
  refine wp_seq ?_
  refine at_reg (T := S_laws_toRecoderS_tab) [] { ts := [0, 2, 3, 4, 11], os := [1] } ⟨[(0, aF s116 x0), (2, .p (.c (cN))), (3, aS 1), (4, aI ((i : Nat) : Int)), (11, aB (decide (((i : Nat) : Int) < ((List.length x0 : Nat) : Int))))], [(1, oR s122 (copyTo (0, (0, (0, ([], 0)))) x0 i))]⟩ [] gamOK hT h (by kernel_rfl) trivial ?_
  intro a w h
  refine then_normal ?_
  refine at_test (decide (((i : Nat) : Int) < ((List.length x0 : Nat) : Int))) h (by kernel_rfl) (fun h1 => ?_) (fun h1 => ?_)
  · replace h1 : ((i : Nat) : Int) < ((List.length x0 : Nat) : Int) := of_decide_eq_true h1
    have hat := ctL_at_le (c := Sh.sz s116) (xs := x0) (z := (0, (0, (0, ([], 0))))) (i := i) (by omega)
    refine wp_skip ?_
    refine then_normal ?_
    refine wp_seq ?_
    refine wp_block ?_
    refine at_regq (T := S_laws_toRecoderS_tab) [{}, {}, {}, {}, {}, {}, { ids := [2] }] { ts := [0, 2, 3, 4], os := [1] } [(0 : Int) ≤ ((i : Nat) : Int) ∧ ((i : Nat) : Int) < ((List.length x0 : Nat) : Int), (pTo s116) (x0.getD i (0, (0, (0, ([], 0))))), (0 : Int) ≤ ((i : Nat) : Int) ∧ ((i : Nat) : Int) < ((List.length (copyTo (0, (0, (0, ([], 0)))) x0 i) : Nat) : Int), i < List.length (copyTo (0, (0, (0, ([], 0)))) x0 i)] gamOK hT h (by kernel_rfl) ⟨(by refine ⟨?_, ?_⟩ <;> (first | omega | (simp only [List.length_append, List.length_cons, List.length_nil, List.length_set, List.length_take, List.length_drop, List.length_replicate, List.length_map, Nat.min_def, copyTo_len hok0]; omega) | (simp; done) | (simp; omega) | done)), (by (show Sh.sz _ _ ≤ 1048576; omega)), (by refine ⟨?_, ?_⟩ <;> (first | omega | (simp only [List.length_append, List.length_cons, List.length_nil, List.length_set, List.length_take, List.length_drop, List.length_replicate, List.length_map, Nat.min_def, copyTo_len hok0]; omega) | (simp; done) | (simp; omega) | done)), (by first | omega | (simp only [List.length_append, List.length_cons, List.length_nil, List.length_set, List.length_take, List.length_drop, List.length_replicate, List.length_map, Nat.min_def, copyTo_len hok0]; omega) | (simp; done) | (simp; omega) | done), trivial⟩ ?_
    intro a w h
    refine in_normal ?_
    refine then_normal ?_
    refine at_regq (T := S_laws_toRecoderS_tab) [{}, { nw := true }] { ts := [0, 2, 3, 4], os := [1] } [I64 (((i : Nat) : Int) + 1)] gamOK hT h (by kernel_rfl) ⟨⟨by first | omega | (simp only [List.length_append, List.length_cons, List.length_nil, List.length_set, List.length_take, List.length_drop, List.length_replicate, List.length_map, Nat.min_def, copyTo_len hok0]; omega) | (simp; done) | (simp; omega) | done, by first | omega | (simp only [List.length_append, List.length_cons, List.length_nil, List.length_set, List.length_take, List.length_drop, List.length_replicate, List.length_map, Nat.min_def, copyTo_len hok0]; omega) | (simp; done) | (simp; omega) | done⟩, trivial⟩ ?_
    intro a w h
    replace h := at_out (σ' := ⟨[(0, aF s116 x0), (2, .p (.c (cN))), (3, aS 1), (4, aI (((i : Nat) : Int) + 1))], [(1, oR s122 (List.set (copyTo (0, (0, (0, ([], 0)))) x0 i) i (x0.getD i (0, (0, (0, ([], 0)))))))]⟩) { ts := [0, 2, 3, 4], os := [1] } h (by kernel_rfl)
    exact ⟨i + 1, at_eq h (st_congr2 (fun (d0 : List T122) (d1 : Int) => (⟨[(0, aF s116 x0), (2, .p (.c (cN))), (3, aS 1), (4, aI d1)], [(1, oR s122 d0)]⟩ : St)) (show ((List.set (copyTo (0, (0, (0, ([], 0)))) x0 i) i (x0.getD i (0, (0, (0, ([], 0)))))) : List T122) = (copyTo (0, (0, (0, ([], 0)))) x0 (i + 1)) from by first | with_reducible rfl | (exact copyTo_set (by omega)) | rfl) (show (((i : Nat) : Int) + 1 : Int) = (((i + 1) : Nat) : Int) from by first | with_reducible rfl | (omega) | rfl)), (by first | omega | (refine ⟨?_, ?_⟩ <;> omega)), (by omega)⟩
  · replace h1 : ¬ (((i : Nat) : Int) < ((List.length x0 : Nat) : Int)) := of_decide_eq_false h1
    refine wp_exit ?_
    refine then_exit ?_
    refine then_exit ?_
    refine in_hit ?_
    refine then_normal ?_
    refine wp_seq ?_
    refine at_regq (T := S_laws_toRecoderS_tab) [] { ts := [2], os := [1] } [] gamOK hT h (by kernel_rfl) trivial ?_
    intro a w h
    refine then_normal ?_
    refine wp_ret ?_
    exact at_return (S := S_laws_toRecoderS) (x := (x0, ())) ((copyTo (0, (0, (0, ([], 0)))) x0 i), ()) [] h (by kernel_rfl) trivial (congrArg (fun z => (z, ())) (show ((copyTo (0, (0, (0, ([], 0)))) x0 i)) = (idD s59) x0 from by (rw [copyTo_all (by omega)]; rfl)))

def S_laws_toSendWindow : Sum := { fid := 107, dom := [s58], cod := [s67], dp := true, fz := false, pre := fun x => (pTo s58) x.1, g := fun x => (((idD s58) x.1), ()) }
def S_laws_toSendWindow_tab : List (Nat × Sum) := []
theorem S_laws_toSendWindow_ok : FnOK Try.prog 107 S_laws_toSendWindow := by
  refine at_enter 17 (fun x => ⟨[(0, aG [cI x.1.1, cI x.1.2.1, cI x.1.2.2.1, cI x.1.2.2.2])], []⟩) Try.func107 rfl (by kernel_rfl) (fun x => rfl) ?_
  rintro w0 Z0 ⟨x0, u⟩ a w
  revert x0
  intro (x0 : T58) hpre hlens h
  replace h : At w0 Z0 [] 17 ⟨[(0, aG [cI x0.1, cI x0.2.1, cI x0.2.2.1, cI x0.2.2.2])], []⟩ a w := h
  replace hpre : (pTo s58) x0 := hpre
  have hT : TabOK Try.prog S_laws_toSendWindow_tab := .nil
  have hp : Sh.sz s58 x0 ≤ 1048576 := hpre
  have hsz : Sh.sz s58 x0 = (0 + (0 + (0 + 0))) := rfl
  refine wp_seq ?_
  refine at_regq (T := S_laws_toSendWindow_tab) [{ ids := [1] }, { ids := [2] }] { ts := [1, 2], os := [1, 2] } [] gamOK hT h (by kernel_rfl) trivial ?_
  intro a w h
  refine then_normal ?_
  refine wp_seq ?_
  refine at_regq (T := S_laws_toSendWindow_tab) [{ ids := [3] }] { ts := [1, 2, 3], os := [1, 2, 3] } [] gamOK hT h (by kernel_rfl) trivial ?_
  intro a w h
  refine then_normal ?_
  refine wp_seq ?_
  refine at_regq (T := S_laws_toSendWindow_tab) [] { ts := [1, 2, 3], os := [1, 2, 3] } [] gamOK hT h (by kernel_rfl) trivial ?_
  intro a w h
  refine then_normal ?_
  refine wp_seq ?_
  refine at_reg (T := S_laws_toSendWindow_tab) [] { ts := [1, 2, 3], os := [1, 2, 3] } ⟨[(1, aP 1 0), (2, aP 2 0), (3, aP 3 0)], [(1, oX 58 [cI x0.1, cI x0.2.1, cI x0.2.2.1, cI x0.2.2.2]), (2, oX 67 [cI 0, cI 0, cI 0, cI 0]), (3, oX 67 [cI x0.1, cI x0.2.1, cI 0, cI 0])]⟩ [] gamOK hT h (by kernel_rfl) trivial ?_
  intro a w h
  refine then_normal ?_
  refine wp_seq ?_
  refine at_regq (T := S_laws_toSendWindow_tab) [] { ts := [1, 2, 3], os := [1, 2, 3] } [] gamOK hT h (by kernel_rfl) trivial ?_
  intro a w h
  refine then_normal ?_
  refine wp_seq ?_
  refine at_regq (T := S_laws_toSendWindow_tab) [] { ts := [2, 3], os := [2, 3] } [] gamOK hT h (by kernel_rfl) trivial ?_
  intro a w h
  refine then_normal ?_
  refine wp_seq ?_
  refine at_regq (T := S_laws_toSendWindow_tab) [] { ts := [2], os := [2] } [] gamOK hT h (by kernel_rfl) trivial ?_
  intro a w h
  refine then_normal ?_
  refine wp_ret ?_
  exact at_return (S := S_laws_toSendWindow) (x := (x0, ())) (x0, ()) [] h (by kernel_rfl) trivial (congrArg (fun z => (z, ())) (show (x0) = (idD s58) x0 from by rfl))

def S_laws_toSource : Sum := { fid := 37, dom := [s64], cod := [s73], dp := true, fz := false, pre := fun x => (pTo s64) x.1, g := fun x => (((idD s64) x.1), ()) }
def S_laws_toSource_tab : List (Nat × Sum) := [(92, S_laws_toGenerationS), (107, S_laws_toSendWindow), (108, S_laws_toRecoderS), (109, S_laws_toFeedbackTable)]
theorem S_laws_toSource_ok : FnOK Try.prog 37 S_laws_toSource := by
  refine at_enter 24 (fun x => ⟨[(0, aG [.ro s82 x.1.1, cI x.1.2.1.1, cI x.1.2.1.2.1, cI x.1.2.1.2.2.1, cI x.1.2.1.2.2.2, .ro s116 x.1.2.2.1, .ro s232 x.1.2.2.2.1, cI x.1.2.2.2.2])], []⟩) Try.func37 rfl (by kernel_rfl) (fun x => rfl) ?_
  rintro w0 Z0 ⟨x0, u⟩ a w
  revert x0
  intro (x0 : T64) hpre hlens h
  replace h : At w0 Z0 [] 24 ⟨[(0, aG [.ro s82 x0.1, cI x0.2.1.1, cI x0.2.1.2.1, cI x0.2.1.2.2.1, cI x0.2.1.2.2.2, .ro s116 x0.2.2.1, .ro s232 x0.2.2.2.1, cI x0.2.2.2.2])], []⟩ a w := h
  replace hpre : (pTo s64) x0 := hpre
  have hl1 : List.length x0.1 ≤ 9223372036854775807 := hlens.1.1.1
  have hl2 : List.length x0.2.2.1 ≤ 9223372036854775807 := hlens.1.2.2.1.1
  have hl3 : List.length x0.2.2.2.1 ≤ 9223372036854775807 := hlens.1.2.2.2.1.1
  have hT : TabOK Try.prog S_laws_toSource_tab := (.cons S_laws_toGenerationS_ok (.cons S_laws_toSendWindow_ok (.cons S_laws_toRecoderS_ok (.cons S_laws_toFeedbackTable_ok .nil))))
  have hp : Sh.sz s64 x0 ≤ 1048576 := hpre
  have hsz : Sh.sz s64 x0 = ((Sh.sz s24 x0.1) + (0 + ((Sh.sz s59 x0.2.2.1) + ((Sh.sz s62 x0.2.2.2.1) + 0)))) := rfl
  refine wp_seq ?_
  refine at_regq (T := S_laws_toSource_tab) [{ ids := [1] }, { ids := [2] }] { ts := [1, 2], os := [1, 2] } [] gamOK hT h (by kernel_rfl) trivial ?_
  intro a w h
  refine then_normal ?_
  refine wp_seq ?_
  refine at_regq (T := S_laws_toSource_tab) [{ ids := [3] }] { ts := [1, 2, 3], os := [1, 2, 3] } [] gamOK hT h (by kernel_rfl) trivial ?_
  intro a w h
  refine then_normal ?_
  refine wp_seq ?_
  refine at_regq (T := S_laws_toSource_tab) [{}, {}, { ids := [4] }] { ts := [1, 2, 3], os := [1, 2, 3, 4] } [(pTo s24) x0.1] gamOK hT h (by kernel_rfl) ⟨(by (show Sh.sz _ _ ≤ 1048576; first | omega | (show (0 : Nat) ≤ 1048576; decide))), trivial⟩ ?_
  intro a w h
  refine then_normal ?_
  refine wp_seq ?_
  refine at_reg (T := S_laws_toSource_tab) [] { ts := [1, 2, 3], os := [1, 2, 3, 4] } ⟨[(1, aP 1 0), (2, aP 2 0), (3, aP 3 0)], [(1, oX 64 [.ro s82 x0.1, cI x0.2.1.1, cI x0.2.1.2.1, cI x0.2.1.2.2.1, cI x0.2.1.2.2.2, .ro s116 x0.2.2.1, .ro s232 x0.2.2.2.1, cI x0.2.2.2.2]), (2, oX 73 [cN, cI 0, cI 0, cI 0, cI 0, cN, cN, cI 0]), (3, oX 73 [.sl 4, cI x0.2.1.1, cI x0.2.1.2.1, cI x0.2.1.2.2.1, cI x0.2.1.2.2.2, cN, cN, cI 0]), (4, oR s86 x0.1)]⟩ [(pTo s58) x0.2.1] gamOK hT h (by kernel_rfl) ⟨(by (show Sh.sz _ _ ≤ 1048576; first | omega | (show (0 : Nat) ≤ 1048576; decide))), trivial⟩ ?_
  intro a w h
  refine then_normal ?_
  refine wp_seq ?_
  refine at_regq (T := S_laws_toSource_tab) [{}, {}, { ids := [5] }] { ts := [1, 2, 3], os := [1, 2, 3, 4, 5] } [(pTo s59) x0.2.2.1] gamOK hT h (by kernel_rfl) ⟨(by (show Sh.sz _ _ ≤ 1048576; first | omega | (show (0 : Nat) ≤ 1048576; decide))), trivial⟩ ?_
  intro a w h
  refine then_normal ?_
  refine wp_seq ?_
  refine at_regq (T := S_laws_toSource_tab) [{}, {}, { ids := [6] }] { ts := [1, 2, 3], os := [1, 2, 3, 4, 5, 6] } [(pTo s62) x0.2.2.2.1] gamOK hT h (by kernel_rfl) ⟨(by (show Sh.sz _ _ ≤ 1048576; first | omega | (show (0 : Nat) ≤ 1048576; decide))), trivial⟩ ?_
  intro a w h
  refine then_normal ?_
  refine wp_seq ?_
  refine at_regq (T := S_laws_toSource_tab) [] { ts := [2, 3], os := [2, 3, 4, 5, 6] } [] gamOK hT h (by kernel_rfl) trivial ?_
  intro a w h
  refine then_normal ?_
  refine wp_seq ?_
  refine at_reg (T := S_laws_toSource_tab) [] { ts := [2], os := [2, 4, 5, 6] } ⟨[(2, aP 2 0)], [(2, oX 73 [.sl 4, cI x0.2.1.1, cI x0.2.1.2.1, cI x0.2.1.2.2.1, cI x0.2.1.2.2.2, .sl 5, .sl 6, cI x0.2.2.2.2]), (4, oR s86 x0.1), (5, oR s122 x0.2.2.1), (6, oR s212 x0.2.2.2.1)]⟩ [] gamOK hT h (by kernel_rfl) trivial ?_
  intro a w h
  refine then_normal ?_
  refine wp_ret ?_
  exact at_return (S := S_laws_toSource) (x := (x0, ())) (x0, ()) [] h (by kernel_rfl) trivial (congrArg (fun z => (z, ())) (show (x0) = (idD s64) x0 from by rfl))

def srcSizes (x : T73) : List Int := x.1.map fun g => ((List.length g.2 : Nat) : Int)

def S_impl_SourceSizes : Sum := { fid := 38, dom := [s73], cod := [s22], dp := true, fz := false, pre := fun x => (fun (x0 : T73) => Sh.fit s73 x0) x.1, g := fun x => ((srcSizes x.1), ()) }
def S_impl_SourceSizes_tab : List (Nat × Sum) := []
theorem S_impl_SourceSizes_ok : FnOK Try.prog 38 S_impl_SourceSizes := by
  refine at_enter 21 (fun x => ⟨[(0, aG [.ro s86 x.1.1, cI x.1.2.1.1, cI x.1.2.1.2.1, cI x.1.2.1.2.2.1, cI x.1.2.1.2.2.2, .ro s122 x.1.2.2.1, .ro s212 x.1.2.2.2.1, cI x.1.2.2.2.2])], []⟩) Try.func38 rfl (by kernel_rfl) (fun x => rfl) ?_
  rintro w0 Z0 ⟨x0, u⟩ a w
  revert x0
  intro (x0 : T73) hpre hlens h
  replace h : At w0 Z0 [] 21 ⟨[(0, aG [.ro s86 x0.1, cI x0.2.1.1, cI x0.2.1.2.1, cI x0.2.1.2.2.1, cI x0.2.1.2.2.2, .ro s122 x0.2.2.1, .ro s212 x0.2.2.2.1, cI x0.2.2.2.2])], []⟩ a w := h
  replace hpre : (fun (x0 : T73) => Sh.fit s73 x0) x0 := hpre
  have hl1 : List.length x0.1 ≤ 9223372036854775807 := hlens.1.1.1
  have hl2 : List.length x0.2.2.1 ≤ 9223372036854775807 := hlens.1.2.2.1.1
  have hl3 : List.length x0.2.2.2.1 ≤ 9223372036854775807 := hlens.1.2.2.2.1.1
  have hT : TabOK Try.prog S_impl_SourceSizes_tab := .nil
  have hf0 : Sh.fit s73 x0 := hpre
  have hn0_1 : List.length x0.1 ≤ 1073741824 := hf0.1.1
  have hn0_2 : List.length x0.2.2.1 ≤ 1073741824 := hf0.2.2.1.1
  have hn0_3 : List.length x0.2.2.2.1 ≤ 1073741824 := hf0.2.2.2.1.1
  refine wp_seq ?_
  refine at_regq (T := S_impl_SourceSizes_tab) [{ ids := [1] }] { ts := [1, 2], os := [1] } [] gamOK hT h (by kernel_rfl) trivial ?_
  intro a w h
  refine then_normal ?_
  refine wp_seq ?_
  refine at_regq (T := S_impl_SourceSizes_tab) [] { ts := [1, 2, 3], os := [1] } [] gamOK hT h (by kernel_rfl) trivial ?_
  intro a w h
  refine then_normal ?_
  refine wp_seq ?_
  refine wp_seq ?_
  refine at_regq (T := S_impl_SourceSizes_tab) [] { ts := [2, 3, 7, 8, 9], os := [] } [] gamOK hT h (by kernel_rfl) trivial ?_
  intro a w h
  refine then_normal ?_
  refine wp_block ?_
  replace h := at_out (σ' := ⟨[(2, .p (.c (cN))), (3, aS 2), (7, aF s86 x0.1), (8, aI ((List.length x0.1 : Nat) : Int)), (9, aI 0)], [(2, oR (.int 3) ([] : List Int))]⟩) { mt := [⟨none, 3, 2, true, (.int 3)⟩], ts := [2, 3, 7, 8, 9], os := [2] } h (by kernel_rfl)
  refine at_loop (fun i : Nat => (⟨[(2, .p (.c (cN))), (3, aS 2), (7, aF s86 x0.1), (8, aI ((List.length x0.1 : Nat) : Int)), (9, aI ((i : Nat) : Int))], [(2, oR (.int 3) (List.map (fun g => ((List.length g.2 : Nat) : Int)) (List.take i x0.1)))]⟩ : St)) (fun i => i ≤ List.length x0.1) (fun i => List.length x0.1 - i) (0) h (st_congr2 (fun (d0 : List Int) (d1 : Int) => (⟨[(2, .p (.c (cN))), (3, aS 2), (7, aF s86 x0.1), (8, aI ((List.length x0.1 : Nat) : Int)), (9, aI d1)], [(2, oR (.int 3) d0)]⟩ : St)) (show (([] : List Int) : List Int) = (List.map (fun g => ((List.length g.2 : Nat) : Int)) (List.take (0) x0.1)) from by first | with_reducible rfl | (first | rfl | simp) | rfl) (show (0 : Int) = (((0) : Nat) : Int) from by first | with_reducible rfl | (first | rfl | simp) | rfl)) (by omega) ?_
  intro i a w hok0 h
  have hlt0 := len_take_le (xs := x0.1) i
  refine wp_seq ?_
  refine at_reg (T := S_impl_SourceSizes_tab) [] { ts := [2, 3, 7, 8, 9, 10], os := [2] } ⟨[(2, .p (.c (cN))), (3, aS 2), (7, aF s86 x0.1), (8, aI ((List.length x0.1 : Nat) : Int)), (9, aI ((i : Nat) : Int)), (10, aB (decide (((i : Nat) : Int) < ((List.length x0.1 : Nat) : Int))))], [(2, oR (.int 3) (List.map (fun g => ((List.length g.2 : Nat) : Int)) (List.take i x0.1)))]⟩ [] gamOK hT h (by kernel_rfl) trivial ?_
  intro a w h
  refine then_normal ?_
  refine wp_seq ?_
  refine at_test (decide (((i : Nat) : Int) < ((List.length x0.1 : Nat) : Int))) h (by kernel_rfl) (fun h1 => ?_) (fun h1 => ?_)
  · replace h1 : ((i : Nat) : Int) < ((List.length x0.1 : Nat) : Int) := of_decide_eq_true h1
    refine wp_skip ?_
    refine then_normal ?_
    refine wp_seq ?_
    refine wp_block ?_
    refine wp_seq ?_
    refine at_regq (T := S_impl_SourceSizes_tab) [{}, {}, { ids := [3] }] { ts := [2, 3, 5, 7, 8, 9], os := [2, 3] } [(0 : Int) ≤ ((i : Nat) : Int) ∧ ((i : Nat) : Int) < ((List.length x0.1 : Nat) : Int)] gamOK hT h (by kernel_rfl) ⟨(by refine ⟨?_, ?_⟩ <;> (first | omega | (simp only [List.length_append, List.length_cons, List.length_nil, List.length_set, List.length_take, List.length_drop, List.length_replicate, List.length_map, Nat.min_def]; omega) | (simp; done) | (simp; omega) | done)), trivial⟩ ?_
    intro a w h
    refine then_normal ?_
    refine at_regq (T := S_impl_SourceSizes_tab) [{}, {}, {}, {}, { ids := [4] }, { ids := [5] }] { ts := [2, 3, 7, 8, 9], os := [5] } [(List.length (List.map (fun g => ((List.length g.2 : Nat) : Int)) (List.take i x0.1)) + List.length ([((List.length (x0.1.getD i (0, [])).2 : Nat) : Int)])) * 8 ≤ 140737488355328] gamOK hT h (by kernel_rfl) ⟨(by (have hL0 := (show List.length (x0.1.getD i (0, [])).2 ≤ 1073741824 from ((Sh.fit_getD hf0.1 i).2).1); first | omega | (simp only [List.length_append, List.length_cons, List.length_nil, List.length_set, List.length_take, List.length_drop, List.length_replicate, List.length_map, Nat.min_def]; omega) | (simp; done) | (simp; omega) | done)), trivial⟩ ?_
    intro a w h
    refine in_normal ?_
    refine then_normal ?_
    refine at_regq (T := S_impl_SourceSizes_tab) [{ nw := true }] { ts := [2, 3, 7, 8, 9], os := [5] } [I64 (((i : Nat) : Int) + 1)] gamOK hT h (by kernel_rfl) ⟨⟨by first | omega | (simp only [List.length_append, List.length_cons, List.length_nil, List.length_set, List.length_take, List.length_drop, List.length_replicate, List.length_map, Nat.min_def]; omega) | (simp; done) | (simp; omega) | done, by first | omega | (simp only [List.length_append, List.length_cons, List.length_nil, List.length_set, List.length_take, List.length_drop, List.length_replicate, List.length_map, Nat.min_def]; omega) | (simp; done) | (simp; omega) | done⟩, trivial⟩ ?_
    intro a w h
    replace h := at_out (σ' := ⟨[(2, .p (.c (cN))), (3, aS 2), (7, aF s86 x0.1), (8, aI ((List.length x0.1 : Nat) : Int)), (9, aI (((i : Nat) : Int) + 1))], [(2, oR (.int 3) ((List.map (fun g => ((List.length g.2 : Nat) : Int)) (List.take i x0.1)) ++ ([((List.length (x0.1.getD i (0, [])).2 : Nat) : Int)])))]⟩) { ts := [2, 3, 7, 8, 9], os := [5], rn := [(5, 2)] } h (by kernel_rfl)
    exact ⟨i + 1, at_eq h (st_congr2 (fun (d0 : List Int) (d1 : Int) => (⟨[(2, .p (.c (cN))), (3, aS 2), (7, aF s86 x0.1), (8, aI ((List.length x0.1 : Nat) : Int)), (9, aI d1)], [(2, oR (.int 3) d0)]⟩ : St)) (show (((List.map (fun g => ((List.length g.2 : Nat) : Int)) (List.take i x0.1)) ++ ([((List.length (x0.1.getD i (0, [])).2 : Nat) : Int)])) : List Int) = (List.map (fun g => ((List.length g.2 : Nat) : Int)) (List.take (i + 1) x0.1)) from by first | with_reducible rfl | (rw [map_snoc (z := (0, [])) (by omega)]; done) | rfl) (show (((i : Nat) : Int) + 1 : Int) = (((i + 1) : Nat) : Int) from by first | with_reducible rfl | (omega) | rfl)), (by omega), (by omega)⟩
  · replace h1 : ¬ (((i : Nat) : Int) < ((List.length x0.1 : Nat) : Int)) := of_decide_eq_false h1
    refine wp_exit ?_
    refine then_exit ?_
    replace h := at_out (σ' := ⟨[(2, .p (.c (cN))), (3, aS 2)], [(2, oR (.int 3) (List.map (fun g => ((List.length g.2 : Nat) : Int)) (List.take i x0.1)))]⟩) { ts := [2, 3], os := [2] } h (by kernel_rfl)
    replace h := at_eq (σ' := ⟨[(2, .p (.c (cN))), (3, aS 2)], [(2, oR (.int 3) (List.map (fun g => ((List.length g.2 : Nat) : Int)) x0.1))]⟩) h (st_congr1 (fun (d0 : List Int) => (⟨[(2, .p (.c (cN))), (3, aS 2)], [(2, oR (.int 3) d0)]⟩ : St)) (show ((List.map (fun g => ((List.length g.2 : Nat) : Int)) (List.take i x0.1)) : List Int) = (List.map (fun g => ((List.length g.2 : Nat) : Int)) x0.1) from by first | with_reducible rfl | (rw [take_all (by omega)]) | rfl))
    refine then_exit ?_
    refine in_hit ?_
    refine then_normal ?_
    refine wp_seq ?_
    refine at_regq (T := S_impl_SourceSizes_tab) [] { ts := [2], os := [2] } [] gamOK hT h (by kernel_rfl) trivial ?_
    intro a w h
    refine then_normal ?_
    refine wp_ret ?_
    exact at_return (S := S_impl_SourceSizes) (x := (x0, ())) ((List.map (fun g => ((List.length g.2 : Nat) : Int)) x0.1), ()) [] h (by kernel_rfl) trivial (congrArg (fun z => (z, ())) (show ((List.map (fun g => ((List.length g.2 : Nat) : Int)) x0.1)) = srcSizes x0 from by rfl))

def D_spec_l30Sizes2 := (fun (x : List T86) => List.map (fun g => ((List.length g.2 : Nat) : Int)) x)
def S_spec_l30Sizes2 : Sum := { fid := 106, dom := [s30], cod := [s22], dp := true, fz := false, pre := fun x => (fun (x0 : (List T86)) => Sh.fit s30 x0) x.1, g := fun x => ((D_spec_l30Sizes2 x.1), ()) }
def S_spec_l30Sizes2_tab : List (Nat × Sum) := []
theorem S_spec_l30Sizes2_ok : FnOK Try.prog 106 S_spec_l30Sizes2 := by
  refine at_enter 22 (fun x => ⟨[(0, aF s86 x.1)], []⟩) Try.func106 rfl (by kernel_rfl) (fun x => rfl) ?_
  rintro w0 Z0 ⟨x0, u⟩ a w
  revert x0
  intro (x0 : (List T86)) hpre hlens h
  replace h : At w0 Z0 [] 22 ⟨[(0, aF s86 x0)], []⟩ a w := h
  replace hpre : (fun (x0 : (List T86)) => Sh.fit s30 x0) x0 := hpre
  have hl1 : List.length x0 ≤ 9223372036854775807 := hlens.1.1
  have hT : TabOK Try.prog S_spec_l30Sizes2_tab := .nil
  have hf0 : Sh.fit s30 x0 := hpre
  have hn0_1 : List.length x0 ≤ 1073741824 := hf0.1
  refine wp_seq ?_
  refine at_regq (T := S_spec_l30Sizes2_tab) [] { ts := [0, 2], os := [] } [] gamOK hT h (by kernel_rfl) trivial ?_
  intro a w h
  refine then_normal ?_
  refine wp_seq ?_
  refine at_regq (T := S_spec_l30Sizes2_tab) [{ ids := [1] }] { ts := [0, 2, 3], os := [1] } [] gamOK hT h (by kernel_rfl) trivial ?_
  intro a w h
  refine then_normal ?_
  refine wp_seq ?_
  refine wp_seq ?_
  refine at_regq (T := S_spec_l30Sizes2_tab) [] { ts := [0, 2, 3, 4], os := [1] } [] gamOK hT h (by kernel_rfl) trivial ?_
  intro a w h
  refine then_normal ?_
  refine wp_block ?_
  replace h := at_out (σ' := ⟨[(0, aF s86 x0), (2, .p (.c (cN))), (3, aS 1), (4, aI 0)], [(1, oR (.int 3) ([] : List Int))]⟩) { ts := [0, 2, 3, 4], os := [1] } h (by kernel_rfl)
  refine at_loop (fun i : Nat => (⟨[(0, aF s86 x0), (2, .p (.c (cN))), (3, aS 1), (4, aI ((i : Nat) : Int))], [(1, oR (.int 3) (List.map (fun g => ((List.length g.2 : Nat) : Int)) (List.take i x0)))]⟩ : St)) (fun i => i ≤ List.length x0) (fun i => List.length x0 - i) (0) h (st_congr2 (fun (d0 : List Int) (d1 : Int) => (⟨[(0, aF s86 x0), (2, .p (.c (cN))), (3, aS 1), (4, aI d1)], [(1, oR (.int 3) d0)]⟩ : St)) (show (([] : List Int) : List Int) = (List.map (fun g => ((List.length g.2 : Nat) : Int)) (List.take (0) x0)) from by first | with_reducible rfl | (first | rfl | simp) | rfl) (show (0 : Int) = (((0) : Nat) : Int) from by first | with_reducible rfl | (first | rfl | simp) | rfl)) (by omega) ?_
  intro i a w hok0 h
  have hlt0 := len_take_le (xs := x0) i
  refine wp_seq ?_
  refine wp_seq ?_
  refine at_reg (T := S_spec_l30Sizes2_tab) [] { ts := [0, 2, 3, 4, 9], os := [1] } ⟨[(0, aF s86 x0), (2, .p (.c (cN))), (3, aS 1), (4, aI ((i : Nat) : Int)), (9, aB (decide (((i : Nat) : Int) < ((List.length x0 : Nat) : Int))))], [(1, oR (.int 3) (List.map (fun g => ((List.length g.2 : Nat) : Int)) (List.take i x0)))]⟩ [] gamOK hT h (by kernel_rfl) trivial ?_
  intro a w h
  refine then_normal ?_
  refine at_test (decide (((i : Nat) : Int) < ((List.length x0 : Nat) : Int))) h (by kernel_rfl) (fun h1 => ?_) (fun h1 => ?_)
  · replace h1 : ((i : Nat) : Int) < ((List.length x0 : Nat) : Int) := of_decide_eq_true h1
    refine wp_skip ?_
    refine then_normal ?_
    refine wp_seq ?_
    refine wp_block ?_
    refine at_regq (T := S_spec_l30Sizes2_tab) [{}, {}, {}, {}, {}, {}, {}, { ids := [2] }, { ids := [3] }] { ts := [0, 2, 3, 4], os := [3] } [(0 : Int) ≤ ((i : Nat) : Int) ∧ ((i : Nat) : Int) < ((List.length x0 : Nat) : Int), (List.length (List.map (fun g => ((List.length g.2 : Nat) : Int)) (List.take i x0)) + List.length ([((List.length (x0.getD i (0, [])).2 : Nat) : Int)])) * 8 ≤ 140737488355328] gamOK hT h (by kernel_rfl) ⟨(by refine ⟨?_, ?_⟩ <;> (first | omega | (simp only [List.length_append, List.length_cons, List.length_nil, List.length_set, List.length_take, List.length_drop, List.length_replicate, List.length_map, Nat.min_def]; omega) | (simp; done) | (simp; omega) | done)), (by (have hL0 := (show List.length (x0.getD i (0, [])).2 ≤ 1073741824 from ((Sh.fit_getD hf0 i).2).1); first | omega | (simp only [List.length_append, List.length_cons, List.length_nil, List.length_set, List.length_take, List.length_drop, List.length_replicate, List.length_map, Nat.min_def]; omega) | (simp; done) | (simp; omega) | done)), trivial⟩ ?_
    intro a w h
    refine in_normal ?_
    refine then_normal ?_
    refine at_regq (T := S_spec_l30Sizes2_tab) [{}, { nw := true }] { ts := [0, 2, 3, 4], os := [3] } [I64 (((i : Nat) : Int) + 1)] gamOK hT h (by kernel_rfl) ⟨⟨by first | omega | (simp only [List.length_append, List.length_cons, List.length_nil, List.length_set, List.length_take, List.length_drop, List.length_replicate, List.length_map, Nat.min_def]; omega) | (simp; done) | (simp; omega) | done, by first | omega | (simp only [List.length_append, List.length_cons, List.length_nil, List.length_set, List.length_take, List.length_drop, List.length_replicate, List.length_map, Nat.min_def]; omega) | (simp; done) | (simp; omega) | done⟩, trivial⟩ ?_
    intro a w h
    replace h := at_out (σ' := ⟨[(0, aF s86 x0), (2, .p (.c (cN))), (3, aS 1), (4, aI (((i : Nat) : Int) + 1))], [(1, oR (.int 3) ((List.map (fun g => ((List.length g.2 : Nat) : Int)) (List.take i x0)) ++ ([((List.length (x0.getD i (0, [])).2 : Nat) : Int)])))]⟩) { ts := [0, 2, 3, 4], os := [3], rn := [(3, 1)] } h (by kernel_rfl)
    exact ⟨i + 1, at_eq h (st_congr2 (fun (d0 : List Int) (d1 : Int) => (⟨[(0, aF s86 x0), (2, .p (.c (cN))), (3, aS 1), (4, aI d1)], [(1, oR (.int 3) d0)]⟩ : St)) (show (((List.map (fun g => ((List.length g.2 : Nat) : Int)) (List.take i x0)) ++ ([((List.length (x0.getD i (0, [])).2 : Nat) : Int)])) : List Int) = (List.map (fun g => ((List.length g.2 : Nat) : Int)) (List.take (i + 1) x0)) from by first | with_reducible rfl | (rw [map_snoc (z := (0, [])) (by omega)]; done) | rfl) (show (((i : Nat) : Int) + 1 : Int) = (((i + 1) : Nat) : Int) from by first | with_reducible rfl | (omega) | rfl)), (by omega), (by omega)⟩
  · replace h1 : ¬ (((i : Nat) : Int) < ((List.length x0 : Nat) : Int)) := of_decide_eq_false h1
    refine wp_exit ?_
    refine then_exit ?_
    replace h := at_out (σ' := ⟨[(2, .p (.c (cN))), (3, aS 1)], [(1, oR (.int 3) (List.map (fun g => ((List.length g.2 : Nat) : Int)) (List.take i x0)))]⟩) { ts := [2, 3], os := [1] } h (by kernel_rfl)
    replace h := at_eq (σ' := ⟨[(2, .p (.c (cN))), (3, aS 1)], [(1, oR (.int 3) (List.map (fun g => ((List.length g.2 : Nat) : Int)) x0))]⟩) h (st_congr1 (fun (d0 : List Int) => (⟨[(2, .p (.c (cN))), (3, aS 1)], [(1, oR (.int 3) d0)]⟩ : St)) (show ((List.map (fun g => ((List.length g.2 : Nat) : Int)) (List.take i x0)) : List Int) = (List.map (fun g => ((List.length g.2 : Nat) : Int)) x0) from by first | with_reducible rfl | (rw [take_all (by omega)]) | rfl))
    refine then_exit ?_
    refine in_hit ?_
    refine then_normal ?_
    refine wp_seq ?_
    refine at_regq (T := S_spec_l30Sizes2_tab) [] { ts := [2], os := [1] } [] gamOK hT h (by kernel_rfl) trivial ?_
    intro a w h
    refine then_normal ?_
    refine wp_ret ?_
    exact at_return (S := S_spec_l30Sizes2) (x := (x0, ())) ((List.map (fun g => ((List.length g.2 : Nat) : Int)) x0), ()) [] h (by kernel_rfl) trivial (congrArg (fun z => (z, ())) (show ((List.map (fun g => ((List.length g.2 : Nat) : Int)) x0)) = D_spec_l30Sizes2 x0 from by unfold D_spec_l30Sizes2; rfl))

def S_spec_SourceSizes : Sum := { fid := 36, dom := [s73], cod := [s22], dp := true, fz := false, pre := fun x => (fun (x0 : T73) => Sh.fit s73 x0) x.1, g := fun x => ((srcSizes x.1), ()) }
def S_spec_SourceSizes_tab : List (Nat × Sum) := [(106, S_spec_l30Sizes2)]
theorem S_spec_SourceSizes_ok : FnOK Try.prog 36 S_spec_SourceSizes := by
  refine at_enter 6 (fun x => ⟨[(0, aG [.ro s86 x.1.1, cI x.1.2.1.1, cI x.1.2.1.2.1, cI x.1.2.1.2.2.1, cI x.1.2.1.2.2.2, .ro s122 x.1.2.2.1, .ro s212 x.1.2.2.2.1, cI x.1.2.2.2.2])], []⟩) Try.func36 rfl (by kernel_rfl) (fun x => rfl) ?_
  rintro w0 Z0 ⟨x0, u⟩ a w
  revert x0
  intro (x0 : T73) hpre hlens h
  replace h : At w0 Z0 [] 6 ⟨[(0, aG [.ro s86 x0.1, cI x0.2.1.1, cI x0.2.1.2.1, cI x0.2.1.2.2.1, cI x0.2.1.2.2.2, .ro s122 x0.2.2.1, .ro s212 x0.2.2.2.1, cI x0.2.2.2.2])], []⟩ a w := h
  replace hpre : (fun (x0 : T73) => Sh.fit s73 x0) x0 := hpre
  have hl1 : List.length x0.1 ≤ 9223372036854775807 := hlens.1.1.1
  have hl2 : List.length x0.2.2.1 ≤ 9223372036854775807 := hlens.1.2.2.1.1
  have hl3 : List.length x0.2.2.2.1 ≤ 9223372036854775807 := hlens.1.2.2.2.1.1
  have hT : TabOK Try.prog S_spec_SourceSizes_tab := (.cons S_spec_l30Sizes2_ok .nil)
  have hf0 : Sh.fit s73 x0 := hpre
  have hn0_1 : List.length x0.1 ≤ 1073741824 := hf0.1.1
  have hn0_2 : List.length x0.2.2.1 ≤ 1073741824 := hf0.2.2.1.1
  have hn0_3 : List.length x0.2.2.2.1 ≤ 1073741824 := hf0.2.2.2.1.1
  refine wp_seq ?_
  refine at_regq (T := S_spec_SourceSizes_tab) [{ ids := [1] }] { ts := [1, 2], os := [1] } [] gamOK hT h (by kernel_rfl) trivial ?_
  intro a w h
  refine then_normal ?_
  refine wp_seq ?_
  refine at_regq (T := S_spec_SourceSizes_tab) [{}, {}, { ids := [2] }] { ts := [2], os := [2] } [(fun (x0 : (List T86)) => Sh.fit s30 x0) x0.1] gamOK hT h (by kernel_rfl) ⟨(by exact hf0.1), trivial⟩ ?_
  intro a w h
  refine then_normal ?_
  refine wp_ret ?_
  exact at_return (S := S_spec_SourceSizes) (x := (x0, ())) ((D_spec_l30Sizes2 x0.1), ()) [] h (by kernel_rfl) trivial (congrArg (fun z => (z, ())) (show ((D_spec_l30Sizes2 x0.1)) = srcSizes x0 from by rfl))

def D_laws_FnExactSourceSizes := (fun (_ : T64) => true)
def S_laws_FnExactSourceSizes : Sum := { fid := 5, dom := [s64], cod := [(.bool 4)], dp := true, fz := false, pre := fun x => (fun (x0 : T64) => Sh.i64 s64 x0) x.1, g := fun x => ((D_laws_FnExactSourceSizes x.1), ()) }
def S_laws_FnExactSourceSizes_tab : List (Nat × Sum) := [(35, S_laws_szSource), (37, S_laws_toSource), (36, S_spec_SourceSizes), (38, S_impl_SourceSizes), (39, S_laws_eqIntS), (40, S_laws_eqSource), (41, S_laws_markSource), (42, S_laws_markIntS), (43, S_laws_heldIntS)]
theorem S_laws_FnExactSourceSizes_ok : FnOK Try.prog 5 S_laws_FnExactSourceSizes := by
  refine at_enter 69 (fun x => ⟨[(0, aG [.ro s82 x.1.1, cI x.1.2.1.1, cI x.1.2.1.2.1, cI x.1.2.1.2.2.1, cI x.1.2.1.2.2.2, .ro s116 x.1.2.2.1, .ro s232 x.1.2.2.2.1, cI x.1.2.2.2.2])], []⟩) Try.func5 rfl (by kernel_rfl) (fun x => rfl) ?_
  rintro w0 Z0 ⟨x0, u⟩ a w
  revert x0
  intro (x0 : T64) hpre hlens h
  replace h : At w0 Z0 [] 69 ⟨[(0, aG [.ro s82 x0.1, cI x0.2.1.1, cI x0.2.1.2.1, cI x0.2.1.2.2.1, cI x0.2.1.2.2.2, .ro s116 x0.2.2.1, .ro s232 x0.2.2.2.1, cI x0.2.2.2.2])], []⟩ a w := h
  replace hpre : (fun (x0 : T64) => Sh.i64 s64 x0) x0 := hpre
  have hl1 : List.length x0.1 ≤ 9223372036854775807 := hlens.1.1.1
  have hl2 : List.length x0.2.2.1 ≤ 9223372036854775807 := hlens.1.2.2.1.1
  have hl3 : List.length x0.2.2.2.1 ≤ 9223372036854775807 := hlens.1.2.2.2.1.1
  have hT : TabOK Try.prog S_laws_FnExactSourceSizes_tab := (.cons S_laws_szSource_ok (.cons S_laws_toSource_ok (.cons S_spec_SourceSizes_ok (.cons S_impl_SourceSizes_ok (.cons S_laws_eqIntS_ok (.cons S_laws_eqSource_ok (.cons S_laws_markSource_ok (.cons S_laws_markIntS_ok (.cons S_laws_heldIntS_ok .nil)))))))))
  have hq0 : Sh.sz s73 x0 = Sh.sz s64 x0 := rfl
  have hb0 : Sh.ctT s73 x0 ≤ 17 * Sh.sz s73 x0 := Sh.ctT_le2 s73 x0
  have hz0 : Sh.ct s73 x0 ≤ 17 * (1 + Sh.sz s73 x0) := Sh.ct_le s73 x0
  have ht0 : Sh.sz s64 x0 = ((Sh.sz s24 x0.1) + ((0 + (0 + (0 + 0))) + ((Sh.sz s59 x0.2.2.1) + ((Sh.sz s60 x0.2.2.2.1) + 0)))) := rfl
  have hs0_1 : Sh.sz s24 x0.1 = List.length x0.1 + ctL (Sh.sz s82) x0.1 := rfl
  have hs0_2 : Sh.sz s59 x0.2.2.1 = List.length x0.2.2.1 + ctL (Sh.sz s116) x0.2.2.1 := rfl
  have hs0_3 : Sh.sz s60 x0.2.2.2.1 = List.length x0.2.2.2.1 := sz_flat (by rfl) _
  have hr1 : Sh.ct s22 (srcSizes x0) ≤ 1 * (1 + Sh.sz s22 (srcSizes x0)) := Sh.ct_le s22 _
  have hr2 : Sh.sz s22 (srcSizes x0) = List.length (srcSizes x0) := sz_flat (by rfl) _
  have hr3 : List.length (srcSizes x0) = List.length x0.1 := by simp [srcSizes]
  refine wp_seq ?_
  refine at_regq (T := S_laws_FnExactSourceSizes_tab) [{ ids := [1] }] { ts := [1, 2], os := [1] } [] gamOK hT h (by kernel_rfl) trivial ?_
  intro a w h
  refine then_normal ?_
  refine wp_seq ?_
  refine at_regq (T := S_laws_FnExactSourceSizes_tab) [] { ts := [1, 2, 3], os := [1] } [] gamOK hT h (by kernel_rfl) trivial ?_
  intro a w h
  refine then_normal ?_
  refine wp_seq ?_
  refine at_regq (T := S_laws_FnExactSourceSizes_tab) [] { ts := [1, 2, 3], os := [1] } [(pSz s64) x0 1048576] gamOK hT h (by kernel_rfl) ⟨(by (show (0 : Int) ≤ _ ∧ _ ≤ (9223372036854775807 : Int); constructor <;> omega)), trivial⟩ ?_
  intro a w h
  refine then_normal ?_
  refine wp_seq ?_
  refine wp_seq ?_
  refine at_reg (T := S_laws_FnExactSourceSizes_tab) [] { ts := [1, 2, 15], os := [1] } ⟨[(1, aP 1 0), (2, aB false), (15, aB (decide (((szD s64) x0 1048576) < 0)))], [(1, oX 64 [.ro s82 x0.1, cI x0.2.1.1, cI x0.2.1.2.1, cI x0.2.1.2.2.1, cI x0.2.1.2.2.2, .ro s116 x0.2.2.1, .ro s232 x0.2.2.2.1, cI x0.2.2.2.2])]⟩ [] gamOK hT h (by kernel_rfl) trivial ?_
  intro a w h
  refine then_normal ?_
  refine at_test (decide (((szD s64) x0 1048576) < 0)) h (by kernel_rfl) (fun h1 => ?_) (fun h1 => ?_)
  · replace h1 : ((szD s64) x0 1048576) < 0 := of_decide_eq_true h1
    have hvh1 := szD_neg h1 (by omega)
    refine wp_seq ?_
    refine at_regq (T := S_laws_FnExactSourceSizes_tab) [] { ts := [1, 2], os := [1] } [] gamOK hT h (by kernel_rfl) trivial ?_
    intro a w h
    refine then_normal ?_
    refine wp_ret ?_
    refine then_ret ?_
    exact at_return (S := S_laws_FnExactSourceSizes) (x := (x0, ())) (true, ()) [] h (by kernel_rfl) trivial (congrArg (fun z => (z, ())) (show (true) = D_laws_FnExactSourceSizes x0 from by unfold D_laws_FnExactSourceSizes; rfl))
  · replace h1 : ¬ (((szD s64) x0 1048576) < 0) := of_decide_eq_false h1
    have hvh1 := szD_val h1 (by omega)
    refine wp_skip ?_
    refine then_normal ?_
    refine wp_seq ?_
    refine at_regq (T := S_laws_FnExactSourceSizes_tab) [{}, { ids := [2, 3, 4] }, { ids := [5] }] { ts := [1, 2, 4], os := [1, 5] } [(pTo s64) x0, (fun (x0 : T73) => Sh.fit s73 x0) x0] gamOK hT h (by kernel_rfl) ⟨(by (show Sh.sz _ _ ≤ 1048576; omega)), (by exact (Sh.fit_of_sz s73 rfl (x := x0) (by omega))), trivial⟩ ?_
    intro a w h
    refine then_normal ?_
    refine wp_seq ?_
    refine at_regq (T := S_laws_FnExactSourceSizes_tab) [{}, { ids := [6, 7, 8] }, { ids := [9] }] { ts := [1, 2, 4, 5], os := [1, 5, 6, 7, 8, 9] } [(pTo s64) x0] gamOK hT h (by kernel_rfl) ⟨(by (show Sh.sz _ _ ≤ 1048576; omega)), trivial⟩ ?_
    intro a w h
    refine then_normal ?_
    refine wp_seq ?_
    refine at_regq (T := S_laws_FnExactSourceSizes_tab) [{}, { ids := [10] }] { ts := [1, 2, 4, 5, 6], os := [1, 5, 6, 7, 8, 9, 10] } [(fun (x0 : T73) => Sh.fit s73 x0) x0] gamOK hT h (by kernel_rfl) ⟨(by exact (Sh.fit_of_sz s73 rfl (x := x0) (by omega))), trivial⟩ ?_
    intro a w h
    refine then_normal ?_
    refine wp_seq ?_
    refine wp_seq ?_
    refine at_reg (T := S_laws_FnExactSourceSizes_tab) [] { ts := [1, 2, 4, 5, 6, 26], os := [1, 5, 6, 7, 8, 9, 10] } ⟨[(1, aP 1 0), (2, aB false), (4, aS 5), (5, aP 9 0), (6, aS 10), (26, aB (!((Sh.eqB s22) (srcSizes x0) (srcSizes x0))))], [(1, oX 64 [.ro s82 x0.1, cI x0.2.1.1, cI x0.2.1.2.1, cI x0.2.1.2.2.1, cI x0.2.1.2.2.2, .ro s116 x0.2.2.1, .ro s232 x0.2.2.2.1, cI x0.2.2.2.2]), (5, oR (.int 3) (srcSizes x0)), (6, oR s86 x0.1), (7, oR s122 x0.2.2.1), (8, oR s212 x0.2.2.2.1), (9, oX 73 [.sl 6, cI x0.2.1.1, cI x0.2.1.2.1, cI x0.2.1.2.2.1, cI x0.2.1.2.2.2, .sl 7, .sl 8, cI x0.2.2.2.2]), (10, oR (.int 3) (srcSizes x0))]⟩ [True] gamOK hT h (by kernel_rfl) ⟨trivial, trivial⟩ ?_
    intro a w h
    refine then_normal ?_
    refine at_test (!((Sh.eqB s22) (srcSizes x0) (srcSizes x0))) h (by kernel_rfl) (fun h2 => ?_) (fun h2 => ?_)
    · replace h2 : ((Sh.eqB s22) (srcSizes x0) (srcSizes x0)) = false := notT h2
      refine wp_seq ?_
      refine at_regq (T := S_laws_FnExactSourceSizes_tab) [] { ts := [1, 2, 4, 5, 6], os := [1, 5, 6, 7, 8, 9, 10] } [] gamOK hT h (by kernel_rfl) trivial ?_
      intro a w h
      refine then_normal ?_
      refine wp_ret ?_
      refine then_ret ?_
      exact at_return (S := S_laws_FnExactSourceSizes) (x := (x0, ())) (false, ()) [] h (by kernel_rfl) trivial (congrArg (fun z => (z, ())) (show (false) = D_laws_FnExactSourceSizes x0 from by unfold D_laws_FnExactSourceSizes; exact absurd ((Sh.eqB_iff _).2 (show _ = _ from by first | rfl | (rfl))) (neT h2)))
    · replace h2 : ((Sh.eqB s22) (srcSizes x0) (srcSizes x0)) = true := notF h2
      refine wp_skip ?_
      refine then_normal ?_
      refine wp_seq ?_
      refine wp_seq ?_
      refine at_anyq (T := S_laws_FnExactSourceSizes_tab) [{}, {}, { ids := [11, 12, 13] }, {}, {}] { ts := [1, 2, 4, 5, 6, 31], os := [1, 5, 6, 7, 8, 9, 10] } [(pTo s64) x0, True] gamOK hT mixed h (by kernel_rfl) ⟨(by (show Sh.sz _ _ ≤ 1048576; omega)), trivial, trivial⟩ ?_
      intro a w h
      refine then_normal ?_
      refine at_test (!((Sh.eqB s73) x0 x0)) h (by kernel_rfl) (fun h3 => ?_) (fun h3 => ?_)
      · replace h3 : ((Sh.eqB s73) x0 x0) = false := notT h3
        refine wp_seq ?_
        refine at_regq (T := S_laws_FnExactSourceSizes_tab) [] { ts := [1, 2, 4, 5, 6], os := [1, 5, 6, 7, 8, 9, 10] } [] gamOK hT h (by kernel_rfl) trivial ?_
        intro a w h
        refine then_normal ?_
        refine wp_ret ?_
        refine then_ret ?_
        exact at_return (S := S_laws_FnExactSourceSizes) (x := (x0, ())) (false, ()) [] h (by kernel_rfl) trivial (congrArg (fun z => (z, ())) (show (false) = D_laws_FnExactSourceSizes x0 from by unfold D_laws_FnExactSourceSizes; exact absurd ((Sh.eqB_iff _).2 (show _ = _ from by first | rfl | (rfl))) (neT h3)))
      · replace h3 : ((Sh.eqB s73) x0 x0) = true := notF h3
        refine wp_skip ?_
        refine then_normal ?_
        refine wp_seq ?_
        refine at_regq (T := S_laws_FnExactSourceSizes_tab) [] { ts := [1, 2, 4, 5, 6, 7], os := [1, 5, 6, 7, 8, 9, 10] } [] gamOK hT h (by kernel_rfl) trivial ?_
        intro a w h
        refine then_normal ?_
        refine wp_seq ?_
        refine at_regq (T := S_laws_FnExactSourceSizes_tab) [] { ts := [1, 2, 4, 6, 7], os := [1, 5, 10] } [(pMkT s73) x0 1] gamOK hT h (by kernel_rfl) ⟨(by (show (0 : Int) ≤ _ ∧ _ + ((Sh.ctT _ _ : Nat) : Int) ≤ (4611686018427387904 : Int); (try simp only [mkK, mkKT, Sh.ctT_mkT, Sh.ct_mk]); constructor <;> omega)), trivial⟩ ?_
        intro a w h
        refine then_normal ?_
        refine wp_seq ?_
        refine wp_seq ?_
        by_cases h4 : ((mkKT s73) x0 1) < 0
        · skip
          refine at_reg (T := S_laws_FnExactSourceSizes_tab) [{}, { hint := some (aB true) }] { ts := [1, 2, 4, 6, 42], os := [1, 5, 10] } ⟨[(1, aP 1 0), (2, aB false), (4, aS 5), (6, aS 10), (42, aB true)], [(1, oX 64 [.ro s82 x0.1, cI x0.2.1.1, cI x0.2.1.2.1, cI x0.2.1.2.2.1, cI x0.2.1.2.2.2, .ro s116 x0.2.2.1, .ro s232 x0.2.2.2.1, cI x0.2.2.2.2]), (5, oR (.int 3) (srcSizes x0)), (10, oR (.int 3) (srcSizes x0))]⟩ [(AV.p (.c (.v (.bool (decide (((mkKT s73) x0 1) < 0))))) = AV.p (.c (.v (.bool true))))] gamOK hT h (by kernel_rfl) ⟨hint_bool (decide_eq_true h4), trivial⟩ ?_
          intro a w h
          refine then_normal ?_
          refine at_test true h (by kernel_rfl) (fun hh => ?_) (fun hh => nomatch hh)
          refine wp_seq ?_
          refine at_regq (T := S_laws_FnExactSourceSizes_tab) [] { ts := [1, 2, 4, 6], os := [1, 5, 10] } [] gamOK hT h (by kernel_rfl) trivial ?_
          intro a w h
          refine then_normal ?_
          refine wp_ret ?_
          refine then_ret ?_
          exact at_return (S := S_laws_FnExactSourceSizes) (x := (x0, ())) (false, ()) [] h (by kernel_rfl) trivial (congrArg (fun z => (z, ())) (show (false) = D_laws_FnExactSourceSizes x0 from by unfold D_laws_FnExactSourceSizes; (exfalso; simp only [mkK, mkKT, Sh.ctT_mkT, Sh.ct_mk] at h4; first | omega | exact h4 trivial | exact h4 rfl)))
        · skip
          refine at_reg (T := S_laws_FnExactSourceSizes_tab) [{}, { hint := some (aB false) }] { ts := [1, 2, 4, 6, 42], os := [1, 5, 10] } ⟨[(1, aP 1 0), (2, aB false), (4, aS 5), (6, aS 10), (42, aB (!((Sh.eqB s22) (srcSizes x0) (srcSizes x0))))], [(1, oX 64 [.ro s82 x0.1, cI x0.2.1.1, cI x0.2.1.2.1, cI x0.2.1.2.2.1, cI x0.2.1.2.2.2, .ro s116 x0.2.2.1, .ro s232 x0.2.2.2.1, cI x0.2.2.2.2]), (5, oR (.int 3) (srcSizes x0)), (10, oR (.int 3) (srcSizes x0))]⟩ [(AV.p (.c (.v (.bool (decide (((mkKT s73) x0 1) < 0))))) = AV.p (.c (.v (.bool false)))), True] gamOK hT h (by kernel_rfl) ⟨hint_bool (decide_eq_false h4), trivial, trivial⟩ ?_
          intro a w h
          refine then_normal ?_
          refine at_test (!((Sh.eqB s22) (srcSizes x0) (srcSizes x0))) h (by kernel_rfl) (fun h5 => ?_) (fun h5 => ?_)
          · replace h5 : ((Sh.eqB s22) (srcSizes x0) (srcSizes x0)) = false := notT h5
            refine wp_seq ?_
            refine at_regq (T := S_laws_FnExactSourceSizes_tab) [] { ts := [1, 2, 4, 6], os := [1, 5, 10] } [] gamOK hT h (by kernel_rfl) trivial ?_
            intro a w h
            refine then_normal ?_
            refine wp_ret ?_
            refine then_ret ?_
            exact at_return (S := S_laws_FnExactSourceSizes) (x := (x0, ())) (false, ()) [] h (by kernel_rfl) trivial (congrArg (fun z => (z, ())) (show (false) = D_laws_FnExactSourceSizes x0 from by unfold D_laws_FnExactSourceSizes; exact absurd ((Sh.eqB_iff _).2 (show _ = _ from by first | rfl | (rfl))) (neT h5)))
          · replace h5 : ((Sh.eqB s22) (srcSizes x0) (srcSizes x0)) = true := notF h5
            refine wp_skip ?_
            refine then_normal ?_
            refine wp_seq ?_
            refine at_regq (T := S_laws_FnExactSourceSizes_tab) [] { ts := [1, 2, 4, 6, 8], os := [1, 5, 10] } [] gamOK hT h (by kernel_rfl) trivial ?_
            intro a w h
            refine then_normal ?_
            refine wp_seq ?_
            refine at_regq (T := S_laws_FnExactSourceSizes_tab) [] { ts := [1, 2, 4, 6, 8], os := [1, 5, 10] } [(pMk s22) (srcSizes x0) 1] gamOK hT h (by kernel_rfl) ⟨(by (show (0 : Int) ≤ _ ∧ _ + ((Sh.ct _ _ : Nat) : Int) ≤ (4611686018427387904 : Int); (try simp only [mkK, mkKT, Sh.ctT_mkT, Sh.ct_mk]); constructor <;> omega)), trivial⟩ ?_
            intro a w h
            refine then_normal ?_
            refine wp_seq ?_
            refine at_regq (T := S_laws_FnExactSourceSizes_tab) [] { ts := [1, 2, 4, 6, 8, 9], os := [1, 5, 10] } [] gamOK hT h (by kernel_rfl) trivial ?_
            intro a w h
            refine then_normal ?_
            refine wp_seq ?_
            refine at_reg (T := S_laws_FnExactSourceSizes_tab) [] { ts := [1, 2, 4, 6, 8, 9], os := [1, 5, 10] } ⟨[(1, aP 1 0), (2, aB false), (4, aS 5), (6, aS 10), (8, aI ((mkK s22) (srcSizes x0) 1)), (9, aI ((heldD s22) ((Sh.mk s22) (srcSizes x0) 1) 1))], [(1, oX 64 [.ro s82 x0.1, cI x0.2.1.1, cI x0.2.1.2.1, cI x0.2.1.2.2.1, cI x0.2.1.2.2.2, .ro s116 x0.2.2.1, .ro s232 x0.2.2.2.1, cI x0.2.2.2.2]), (5, oR (.int 3) (srcSizes x0)), (10, oR (.int 3) ((Sh.mk s22) (srcSizes x0) 1))]⟩ [(pMk s22) ((Sh.mk s22) (srcSizes x0) 1) 1] gamOK hT h (by kernel_rfl) ⟨(by (show (0 : Int) ≤ _ ∧ _ + ((Sh.ct _ _ : Nat) : Int) ≤ (4611686018427387904 : Int); (try simp only [mkK, mkKT, Sh.ctT_mkT, Sh.ct_mk]); constructor <;> omega)), trivial⟩ ?_
            intro a w h
            refine then_normal ?_
            refine wp_seq ?_
            refine wp_seq ?_
            refine at_regq (T := S_laws_FnExactSourceSizes_tab) [] { ts := [1, 2, 4, 6, 8, 9, 50], os := [1, 5, 10] } [] gamOK hT h (by kernel_rfl) trivial ?_
            intro a w h
            refine then_normal ?_
            refine at_test (decide (((heldD s22) ((Sh.mk s22) (srcSizes x0) 1) 1) < 0)) h (by kernel_rfl) (fun h6 => ?_) (fun h6 => ?_)
            · replace h6 : ((heldD s22) ((Sh.mk s22) (srcSizes x0) 1) 1) < 0 := of_decide_eq_true h6
              refine wp_seq ?_
              refine at_regq (T := S_laws_FnExactSourceSizes_tab) [] { ts := [1, 2, 4, 6, 8, 9], os := [1, 5, 10] } [] gamOK hT h (by kernel_rfl) trivial ?_
              intro a w h
              refine then_normal ?_
              refine wp_ret ?_
              refine then_ret ?_
              exact at_return (S := S_laws_FnExactSourceSizes) (x := (x0, ())) (false, ()) [] h (by kernel_rfl) trivial (congrArg (fun z => (z, ())) (show (false) = D_laws_FnExactSourceSizes x0 from by unfold D_laws_FnExactSourceSizes; (exfalso; simp only [held_marked, held_markedT, mkK, mkKT, Sh.ctT_mkT, Sh.ct_mk] at h6; first | omega | exact h6 trivial | exact h6 rfl)))
            · replace h6 : ¬ (((heldD s22) ((Sh.mk s22) (srcSizes x0) 1) 1) < 0) := of_decide_eq_false h6
              refine wp_skip ?_
              refine then_normal ?_
              refine wp_seq ?_
              refine wp_seq ?_
              refine at_regq (T := S_laws_FnExactSourceSizes_tab) [] { ts := [1, 2, 4, 6, 8, 53], os := [1, 5, 10] } [] gamOK hT h (by kernel_rfl) trivial ?_
              intro a w h
              refine then_normal ?_
              refine at_test (!decide (((heldD s22) ((Sh.mk s22) (srcSizes x0) 1) 1) = ((mkK s22) (srcSizes x0) 1))) h (by kernel_rfl) (fun h7 => ?_) (fun h7 => ?_)
              · replace h7 : ¬ (((heldD s22) ((Sh.mk s22) (srcSizes x0) 1) 1) = ((mkK s22) (srcSizes x0) 1)) := of_decide_eq_false (notT h7)
                refine wp_seq ?_
                refine at_regq (T := S_laws_FnExactSourceSizes_tab) [] { ts := [1, 2, 4, 6, 8], os := [1, 5, 10] } [] gamOK hT h (by kernel_rfl) trivial ?_
                intro a w h
                refine then_normal ?_
                refine wp_ret ?_
                refine then_ret ?_
                exact at_return (S := S_laws_FnExactSourceSizes) (x := (x0, ())) (false, ()) [] h (by kernel_rfl) trivial (congrArg (fun z => (z, ())) (show (false) = D_laws_FnExactSourceSizes x0 from by unfold D_laws_FnExactSourceSizes; (exfalso; simp only [held_marked, held_markedT, mkK, mkKT, Sh.ctT_mkT, Sh.ct_mk] at h7; first | omega | exact h7 trivial | exact h7 rfl)))
              · replace h7 : ((heldD s22) ((Sh.mk s22) (srcSizes x0) 1) 1) = ((mkK s22) (srcSizes x0) 1) := of_decide_eq_true (notF h7)
                refine wp_skip ?_
                refine then_normal ?_
                refine wp_seq ?_
                refine at_regq (T := S_laws_FnExactSourceSizes_tab) [{}, { ids := [14, 15, 16] }, { ids := [17] }] { ts := [2, 4, 6, 8, 10], os := [5, 10, 17] } [(pTo s64) x0, (fun (x0 : T73) => Sh.fit s73 x0) x0] gamOK hT h (by kernel_rfl) ⟨(by (show Sh.sz _ _ ≤ 1048576; omega)), (by exact (Sh.fit_of_sz s73 rfl (x := x0) (by omega))), trivial⟩ ?_
                intro a w h
                refine then_normal ?_
                refine wp_seq ?_
                refine wp_seq ?_
                refine at_reg (T := S_laws_FnExactSourceSizes_tab) [] { ts := [2, 6, 8, 60], os := [10] } ⟨[(2, aB false), (6, aS 10), (8, aI ((mkK s22) (srcSizes x0) 1)), (60, aB (!((Sh.eqB s22) (srcSizes x0) (srcSizes x0))))], [(10, oR (.int 3) ((Sh.mk s22) (srcSizes x0) 1))]⟩ [True] gamOK hT h (by kernel_rfl) ⟨trivial, trivial⟩ ?_
                intro a w h
                refine then_normal ?_
                refine at_test (!((Sh.eqB s22) (srcSizes x0) (srcSizes x0))) h (by kernel_rfl) (fun h8 => ?_) (fun h8 => ?_)
                · replace h8 : ((Sh.eqB s22) (srcSizes x0) (srcSizes x0)) = false := notT h8
                  refine wp_seq ?_
                  refine at_regq (T := S_laws_FnExactSourceSizes_tab) [] { ts := [2, 6, 8], os := [10] } [] gamOK hT h (by kernel_rfl) trivial ?_
                  intro a w h
                  refine then_normal ?_
                  refine wp_ret ?_
                  refine then_ret ?_
                  exact at_return (S := S_laws_FnExactSourceSizes) (x := (x0, ())) (false, ()) [] h (by kernel_rfl) trivial (congrArg (fun z => (z, ())) (show (false) = D_laws_FnExactSourceSizes x0 from by unfold D_laws_FnExactSourceSizes; exact absurd ((Sh.eqB_iff _).2 (show _ = _ from by first | rfl | (rfl))) (neT h8)))
                · replace h8 : ((Sh.eqB s22) (srcSizes x0) (srcSizes x0)) = true := notF h8
                  refine wp_skip ?_
                  refine then_normal ?_
                  refine wp_seq ?_
                  refine at_regq (T := S_laws_FnExactSourceSizes_tab) [] { ts := [2, 6, 8, 9], os := [10] } [] gamOK hT h (by kernel_rfl) trivial ?_
                  intro a w h
                  refine then_normal ?_
                  refine wp_seq ?_
                  refine at_regq (T := S_laws_FnExactSourceSizes_tab) [] { ts := [2, 8, 9], os := [] } [(pMk s22) ((Sh.mk s22) (srcSizes x0) 1) 1] gamOK hT h (by kernel_rfl) ⟨(by (show (0 : Int) ≤ _ ∧ _ + ((Sh.ct _ _ : Nat) : Int) ≤ (4611686018427387904 : Int); (try simp only [mkK, mkKT, Sh.ctT_mkT, Sh.ct_mk]); constructor <;> omega)), trivial⟩ ?_
                  intro a w h
                  refine then_normal ?_
                  refine wp_seq ?_
                  refine wp_seq ?_
                  refine at_regq (T := S_laws_FnExactSourceSizes_tab) [] { ts := [2, 8, 9, 65], os := [] } [] gamOK hT h (by kernel_rfl) trivial ?_
                  intro a w h
                  refine then_normal ?_
                  refine at_test (decide (((heldD s22) ((Sh.mk s22) (srcSizes x0) 1) 1) < 0)) h (by kernel_rfl) (fun h9 => ?_) (fun h9 => ?_)
                  · replace h9 : ((heldD s22) ((Sh.mk s22) (srcSizes x0) 1) 1) < 0 := of_decide_eq_true h9
                    refine wp_seq ?_
                    refine at_reg (T := S_laws_FnExactSourceSizes_tab) [] { ts := [2, 8, 9], os := [] } ⟨[(2, aB false), (8, aI ((mkK s22) (srcSizes x0) 1)), (9, aI ((heldD s22) ((Sh.mk s22) (srcSizes x0) 1) 1))], []⟩ [] gamOK hT h (by kernel_rfl) trivial ?_
                    intro a w h
                    refine then_normal ?_
                    refine wp_ret ?_
                    refine then_ret ?_
                    exact at_return (S := S_laws_FnExactSourceSizes) (x := (x0, ())) (false, ()) [] h (by kernel_rfl) trivial (congrArg (fun z => (z, ())) (show (false) = D_laws_FnExactSourceSizes x0 from by unfold D_laws_FnExactSourceSizes; (exfalso; simp only [held_marked, held_markedT, mkK, mkKT, Sh.ctT_mkT, Sh.ct_mk] at h9; first | omega | exact h9 trivial | exact h9 rfl)))
                  · replace h9 : ¬ (((heldD s22) ((Sh.mk s22) (srcSizes x0) 1) 1) < 0) := of_decide_eq_false h9
                    refine wp_skip ?_
                    refine then_normal ?_
                    refine wp_seq ?_
                    refine wp_seq ?_
                    refine at_reg (T := S_laws_FnExactSourceSizes_tab) [] { ts := [2, 68], os := [] } ⟨[(2, aB false), (68, aB (!decide (((heldD s22) ((Sh.mk s22) (srcSizes x0) 1) 1) = ((mkK s22) (srcSizes x0) 1))))], []⟩ [] gamOK hT h (by kernel_rfl) trivial ?_
                    intro a w h
                    refine then_normal ?_
                    refine at_test (!decide (((heldD s22) ((Sh.mk s22) (srcSizes x0) 1) 1) = ((mkK s22) (srcSizes x0) 1))) h (by kernel_rfl) (fun h10 => ?_) (fun h10 => ?_)
                    · replace h10 : ¬ (((heldD s22) ((Sh.mk s22) (srcSizes x0) 1) 1) = ((mkK s22) (srcSizes x0) 1)) := of_decide_eq_false (notT h10)
                      refine wp_seq ?_
                      refine at_regq (T := S_laws_FnExactSourceSizes_tab) [] { ts := [2], os := [] } [] gamOK hT h (by kernel_rfl) trivial ?_
                      intro a w h
                      refine then_normal ?_
                      refine wp_ret ?_
                      refine then_ret ?_
                      exact at_return (S := S_laws_FnExactSourceSizes) (x := (x0, ())) (false, ()) [] h (by kernel_rfl) trivial (congrArg (fun z => (z, ())) (show (false) = D_laws_FnExactSourceSizes x0 from by unfold D_laws_FnExactSourceSizes; (exfalso; simp only [held_marked, held_markedT, mkK, mkKT, Sh.ctT_mkT, Sh.ct_mk] at h10; first | omega | exact h10 trivial | exact h10 rfl)))
                    · replace h10 : ((heldD s22) ((Sh.mk s22) (srcSizes x0) 1) 1) = ((mkK s22) (srcSizes x0) 1) := of_decide_eq_true (notF h10)
                      refine wp_skip ?_
                      refine then_normal ?_
                      refine wp_seq ?_
                      refine at_regq (T := S_laws_FnExactSourceSizes_tab) [] { ts := [2], os := [] } [] gamOK hT h (by kernel_rfl) trivial ?_
                      intro a w h
                      refine then_normal ?_
                      refine wp_ret ?_
                      exact at_return (S := S_laws_FnExactSourceSizes) (x := (x0, ())) (true, ()) [] h (by kernel_rfl) trivial (congrArg (fun z => (z, ())) (show (true) = D_laws_FnExactSourceSizes x0 from by unfold D_laws_FnExactSourceSizes; rfl))

theorem opn3 : OpensS Try.prog 3 (.int 3) := opensS_int Try.underlying3
theorem co3 : Try.prog.cellsOf 3 = 1 := by kernel_rfl
theorem opn22 : OpensS Try.prog 22 s22 := opensS_slice (a := (.int 3)) Try.underlying22 co3 opn3
theorem co22 : Try.prog.cellsOf 22 = 1 := by kernel_rfl
theorem opn80 : OpensS Try.prog 80 s80 := opensS_slice (a := s22) Try.underlying80 co22 opn22
theorem co80 : Try.prog.cellsOf 80 = 1 := by kernel_rfl
theorem co82 : Try.prog.cellsOf 82 = 2 := by kernel_rfl
theorem opn82 : OpensS Try.prog 82 s82 := by
  intro H enc w base spare held fuel cs x h
  obtain ⟨xs, n, _, _, hl, hlen, hf⟩ := DataW.trod_struct Try.underlying82 h
  obtain ⟨a0, k0, i0⟩ := opensS_field (a := (.int 3)) (i := 0) 0 1 hf hlen rfl rfl rfl co3 opn3
  obtain ⟨a1, k1, i1⟩ := opensS_field (a := s80) (i := 1) 1 1 hf hlen rfl rfl rfl co80 opn80
  rw [co82] at hl
  exact ⟨(a0, a1), (rdS_pair (off := 0) k0 (rdS_last (off := 1) k1 (by omega))), ⟨i0, i1⟩⟩
theorem opn24 : OpensS Try.prog 24 s24 := opensS_slice (a := s82) Try.underlying24 co82 opn82
theorem co24 : Try.prog.cellsOf 24 = 1 := by kernel_rfl
theorem co58 : Try.prog.cellsOf 58 = 4 := by kernel_rfl
theorem opn58 : OpensS Try.prog 58 s58 := by
  intro H enc w base spare held fuel cs x h
  obtain ⟨xs, n, _, _, hl, hlen, hf⟩ := DataW.trod_struct Try.underlying58 h
  obtain ⟨a0, k0, i0⟩ := opensS_field (a := (.int 3)) (i := 0) 0 1 hf hlen rfl rfl rfl co3 opn3
  obtain ⟨a1, k1, i1⟩ := opensS_field (a := (.int 3)) (i := 1) 1 1 hf hlen rfl rfl rfl co3 opn3
  obtain ⟨a2, k2, i2⟩ := opensS_field (a := (.int 3)) (i := 2) 2 1 hf hlen rfl rfl rfl co3 opn3
  obtain ⟨a3, k3, i3⟩ := opensS_field (a := (.int 3)) (i := 3) 3 1 hf hlen rfl rfl rfl co3 opn3
  rw [co58] at hl
  exact ⟨(a0, (a1, (a2, a3))), (rdS_pair (off := 0) k0 (rdS_pair (off := 1) k1 (rdS_pair (off := 2) k2 (rdS_last (off := 3) k3 (by omega))))), ⟨i0, ⟨i1, ⟨i2, i3⟩⟩⟩⟩
theorem co118 : Try.prog.cellsOf 118 = 3 := by kernel_rfl
theorem opn118 : OpensS Try.prog 118 s118 := by
  intro H enc w base spare held fuel cs x h
  obtain ⟨xs, n, _, _, hl, hlen, hf⟩ := DataW.trod_struct Try.underlying118 h
  obtain ⟨a0, k0, i0⟩ := opensS_field (a := (.int 3)) (i := 0) 0 1 hf hlen rfl rfl rfl co3 opn3
  obtain ⟨a1, k1, i1⟩ := opensS_field (a := s22) (i := 1) 1 1 hf hlen rfl rfl rfl co22 opn22
  obtain ⟨a2, k2, i2⟩ := opensS_field (a := s22) (i := 2) 2 1 hf hlen rfl rfl rfl co22 opn22
  rw [co118] at hl
  exact ⟨(a0, (a1, a2)), (rdS_pair (off := 0) k0 (rdS_pair (off := 1) k1 (rdS_last (off := 2) k2 (by omega)))), ⟨i0, ⟨i1, i2⟩⟩⟩
theorem opn39 : OpensS Try.prog 39 s39 := opensS_slice (a := s118) Try.underlying39 co118 opn118
theorem co39 : Try.prog.cellsOf 39 = 1 := by kernel_rfl
theorem co116 : Try.prog.cellsOf 116 = 5 := by kernel_rfl
theorem opn116 : OpensS Try.prog 116 s116 := by
  intro H enc w base spare held fuel cs x h
  obtain ⟨xs, n, _, _, hl, hlen, hf⟩ := DataW.trod_struct Try.underlying116 h
  obtain ⟨a0, k0, i0⟩ := opensS_field (a := (.int 3)) (i := 0) 0 1 hf hlen rfl rfl rfl co3 opn3
  obtain ⟨a1, k1, i1⟩ := opensS_field (a := (.int 3)) (i := 1) 1 1 hf hlen rfl rfl rfl co3 opn3
  obtain ⟨a2, k2, i2⟩ := opensS_field (a := (.int 3)) (i := 2) 2 1 hf hlen rfl rfl rfl co3 opn3
  obtain ⟨a3, k3, i3⟩ := opensS_field (a := s39) (i := 3) 3 1 hf hlen rfl rfl rfl co39 opn39
  obtain ⟨a4, k4, i4⟩ := opensS_field (a := (.int 3)) (i := 4) 4 1 hf hlen rfl rfl rfl co3 opn3
  rw [co116] at hl
  exact ⟨(a0, (a1, (a2, (a3, a4)))), (rdS_pair (off := 0) k0 (rdS_pair (off := 1) k1 (rdS_pair (off := 2) k2 (rdS_pair (off := 3) k3 (rdS_last (off := 4) k4 (by omega)))))), ⟨i0, ⟨i1, ⟨i2, ⟨i3, i4⟩⟩⟩⟩⟩
theorem opn59 : OpensS Try.prog 59 s59 := opensS_slice (a := s116) Try.underlying59 co116 opn116
theorem co59 : Try.prog.cellsOf 59 = 1 := by kernel_rfl
theorem co232 : Try.prog.cellsOf 232 = 3 := by kernel_rfl
theorem opn232 : OpensS Try.prog 232 s232 := by
  intro H enc w base spare held fuel cs x h
  obtain ⟨xs, n, _, _, hl, hlen, hf⟩ := DataW.trod_struct Try.underlying232 h
  obtain ⟨a0, k0, i0⟩ := opensS_field (a := (.int 3)) (i := 0) 0 1 hf hlen rfl rfl rfl co3 opn3
  obtain ⟨a1, k1, i1⟩ := opensS_field (a := (.int 3)) (i := 1) 1 1 hf hlen rfl rfl rfl co3 opn3
  obtain ⟨a2, k2, i2⟩ := opensS_field (a := (.int 3)) (i := 2) 2 1 hf hlen rfl rfl rfl co3 opn3
  rw [co232] at hl
  exact ⟨(a0, (a1, a2)), (rdS_pair (off := 0) k0 (rdS_pair (off := 1) k1 (rdS_last (off := 2) k2 (by omega)))), ⟨i0, ⟨i1, i2⟩⟩⟩
theorem opn60 : OpensS Try.prog 60 s60 := opensS_slice (a := s232) Try.underlying60 co232 opn232
theorem co60 : Try.prog.cellsOf 60 = 1 := by kernel_rfl
theorem co62 : Try.prog.cellsOf 62 = 1 := by kernel_rfl
theorem opn62 : OpensS Try.prog 62 s62 := by
  intro H enc w base spare held fuel cs x h
  obtain ⟨xs, n, _, _, hl, hlen, hf⟩ := DataW.trod_struct Try.underlying62 h
  obtain ⟨a0, k0, i0⟩ := opensS_field (a := s60) (i := 0) 0 1 hf hlen rfl rfl rfl co60 opn60
  rw [co62] at hl
  exact ⟨a0, (rdS_last (off := 0) k0 (by omega)), i0⟩
theorem co64 : Try.prog.cellsOf 64 = 8 := by kernel_rfl
theorem opn64 : OpensS Try.prog 64 s64 := by
  intro H enc w base spare held fuel cs x h
  obtain ⟨xs, n, _, _, hl, hlen, hf⟩ := DataW.trod_struct Try.underlying64 h
  obtain ⟨a0, k0, i0⟩ := opensS_field (a := s24) (i := 0) 0 1 hf hlen rfl rfl rfl co24 opn24
  obtain ⟨a1, k1, i1⟩ := opensS_field (a := s58) (i := 1) 1 4 hf hlen rfl rfl rfl co58 opn58
  obtain ⟨a2, k2, i2⟩ := opensS_field (a := s59) (i := 2) 5 1 hf hlen rfl rfl rfl co59 opn59
  obtain ⟨a3, k3, i3⟩ := opensS_field (a := s62) (i := 3) 6 1 hf hlen rfl rfl rfl co62 opn62
  obtain ⟨a4, k4, i4⟩ := opensS_field (a := (.int 3)) (i := 4) 7 1 hf hlen rfl rfl rfl co3 opn3
  rw [co64] at hl
  exact ⟨(a0, (a1, (a2, (a3, a4)))), (rdS_pair (off := 0) k0 (rdS_pair (off := 1) k1 (rdS_pair (off := 5) k2 (rdS_pair (off := 6) k3 (rdS_last (off := 7) k4 (by omega)))))), ⟨i0, ⟨i1, ⟨i2, ⟨i3, i4⟩⟩⟩⟩⟩
namespace fnExactSourceSizes
open Go.ChangeShapes Go.WideShapes Go.ChangeAt Go.RowKit
theorem own : ownKnob Try.prog.godebug = none := by kernel_rfl
theorem laidOut : laidOutB Try.prog = true := fxLaid
set_option maxRecDepth 100000 in
theorem lifted (os : Os) (started : os.Started) (H : Type) (enc : TypeId × Value → H) :
    ReturnsInHanded {} Try.checked os 5 .any (Rows.fnExactSourceSizesSpec.pre6 enc Try.prog Try.f5 Rows.fnExactSourceSizesRow.domain false) (Rows.fnExactSourceSizesSpec.post enc Try.prog Try.f5 false true false false) := by
  refine returnsInHanded_of_change (C := Try.checked) own started (by kernel_rfl) Try.func5
    (ChangeSpec.witness6 (enc := enc) (C := Try.checked) false ⟨#[], #[.agg #[.slice none 0 0, .int .i64 0, .int .i64 0, .int .i64 0, .int .i64 0, .slice none 0 0, .slice none 0 0, .int .i64 0]], []⟩ 8 (by kernel_rfl) (by kernel_rfl) (by kernel_rfl) (by kernel_rfl)) ?_
  intro W base args ds gs before hval0 hW hcnd _
  have hval : ∀ (j : Nat) t v, Try.f5.params[j]? = some t → args[j]? = some v → Value.okWide Try.prog W .any base t v := hval0
  have hW' := hW
  obtain ⟨p, q, hA0, hV, rfl, hfz, hnd⟩ := hW
  have hA : DataW.TrodAll enc Try.prog W 0 (fun _ => true) true Try.f5.params.toList args.toList ds p := hA0
  rw [Try.params5] at hA hval
  obtain ⟨v0, vs0, d0, ds0, p0, q0, hargs, rfl, rfl, h0, r0⟩ := trodAll_cons hA
  obtain ⟨rfl, rfl, rfl⟩ := trodAll_nil r0
  obtain rfl : args = #[v0] := by cases args; simp_all
  obtain ⟨rfl, rfl⟩ := trodVars_none hV
  have k0 := h0
  have lt0 : ∀ x ∈ p0, x.block < W.heap.size := by obtain ⟨m, hm⟩ := k0; exact DataW.trod_lt m _ _ _ hm
  obtain ⟨cs0, rfl, _⟩ := okWide_struct Try.underlying64 (hval 0 64 v0 rfl rfl)
  obtain ⟨cs0⟩ := cs0
  obtain ⟨x0, hx0, i0⟩ : ∃ x : (s64).D, (s64).rd W (fun b => b < W.heap.size) cs0 x ∧ (s64).i64 x := by obtain ⟨fuel, hf⟩ := h0; exact opn64 hf
  clear hA0 hval0
  refine (calls_law S_laws_FnExactSourceSizes_ok (by kernel_rfl) W (fun b => b < W.heap.size) [.agg cs0.toArray] (x0, ()) (fun _ h => h) ⟨argRd_st hx0, trivial⟩ i0).mono fun e W' hr => ?_
  obtain ⟨he, bel⟩ := ret_bool hr
  subst he
  exact ⟨_, rfl, _, _, _, [], _, [], hW', trodAll_mk1 (shut_bool Try.underlying4 _), (trodAll_cons_mk (Below.trod laidOut (by kernel_rfl) (of_decide_eq_true (by kernel_rfl)) k0 bel lt0) trodAll_mk0), rfl, bel.frame _, fun h => by cases h⟩
theorem closed : joinedFacts Try.prog 5 Try.f5 (Rows.fnExactSourceSizesSpec) Rows.fnExactSourceSizesRow = true := by
  unfold joinedFacts
  exact (and2 (and2 (and2 (and2 (and2 (and2 (and2 (and2 (and2 (and2 (and2 (and2 (and2 (and2 (and2 (and2 (and2 (and2 (and2 (and2 (and2 (and2 (and2 (and2 (and2 (and2 (and2 (and2 (and2 (and2 (and2 (by kernel_rfl) fxLaid) fxMaps) (by kernel_rfl)) (by kernel_rfl)) (by kernel_rfl)) (by kernel_rfl)) (by kernel_rfl)) (by kernel_rfl)) (by kernel_rfl)) (by kernel_rfl)) (by kernel_rfl)) (by kernel_rfl)) (by kernel_rfl)) (by kernel_rfl)) (by kernel_rfl)) (by kernel_rfl)) (by kernel_rfl)) (by kernel_rfl)) (by kernel_rfl)) (by kernel_rfl)) (by kernel_rfl)) (by kernel_rfl)) (by kernel_rfl)) (by kernel_rfl)) fxEnter) (by rw [fxLifts]; kernel_rfl)) (by rw [fxMake]; kernel_rfl)) (by kernel_rfl)) (by kernel_rfl)) (by kernel_rfl)) (by kernel_rfl))
theorem over : Rows.fnExactSourceSizesRow.holds Try.pinned (OpenSpec.ofChange Rows.fnExactSourceSizesSpec) :=
  OpenClaim.holds_of_wide 5 Try.f5 rfl rfl rfl rfl rfl rfl rfl ⟨rfl, rfl, rfl, rfl, rfl⟩ rfl rfl rfl rfl rfl (by kernel_rfl) Try.func5 closed
    (of_decide_eq_true (by kernel_rfl)) (by unfold Func.isWrapper; first | (rw [if_pos (by decide +kernel)]; kernel_rfl) | (rw [if_neg (by decide +kernel)]; exact ⟨rfl, rfl⟩))
    (fun os started H enc _ => lifted os started H enc)
/-- the statement -/
theorem proved : Rows.FnExactSourceSizesSaid := over
end fnExactSourceSizes

end Go.Proofs.Ytkialoggpcdhkaa

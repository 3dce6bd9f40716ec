/- The law FnExactFillWindow returns true for every input and leaves its arguments as they were. No condition. -/
import Derived.Test.YtdmkjcnppgfeoaaFillWindow1
import Derived.Test.YtdmkjcnppgfeoaaProg
import Derived.Test.YtdmkjcnppgfeoaaRows
import Derived.Test.YtdmkjcnppgfeoaaFX
namespace Go.Proofs.Ytdmkjcnppgfeoaa
open Go.RowKit
set_option linter.unusedVariables false
set_option linter.unusedSimpArgs false
def S_laws_szIntSS : Sum := { fid := 127, dom := [s97, (.int 3)], cod := [(.int 3)], dp := true, fz := false, pre := fun x => (pSz s97) x.1 x.2.1, g := fun x => (((szD s97) x.1 x.2.1), ()) }
def S_laws_szIntSS_tab : List (Nat × Sum) := [(80, S_laws_szIntS)]
theorem S_laws_szIntSS_ok : FnOK Try.prog 127 S_laws_szIntSS := by
 refine at_enter 27 (fun x => ⟨[(0, aF s22 x.1), (1, aI x.2.1)], []⟩) Try.func127 rfl (by kernel_rfl) (fun x => rfl) ?_
 rintro w0 Z0 ⟨x0, x1, u⟩ a w
 revert x0 x1
 intro (x0 : (List (List Int))) (x1 : Int) hpre hlens h
 replace h : At w0 Z0 [] 27 ⟨[(0, aF s22 x0), (1, aI x1)], []⟩ a w := h
 replace hpre : (pSz s97) x0 x1 := hpre
 have hl1 : List.length x0 ≤ 9223372036854775807 := hlens.1.1
 have hT : TabOK Try.prog S_laws_szIntSS_tab := (.cons S_laws_szIntS_ok .nil)
 have hp : 0 ≤ x1 ∧ x1 ≤ 9223372036854775807 := hpre
 have hsz : Sh.sz s97 x0 = List.length x0 + ctL (Sh.sz s22) x0 := rfl
 refine wp_seq ?_
 refine at_regq [] { ts := [0, 1, 4], os := [] } [] gamOK hT h (by kernel_rfl) trivial fun a w h => then_normal (wp_seq ?_)
 refine at_regq [{}, {}, {}, { nw := true }] { ts := [0, 1, 4], os := [] } [I64 (x1 - ((List.length x0 : Nat) : Int))] gamOK hT h (by kernel_rfl) ⟨⟨by first | omega | (simp only [lsA]; omega) | (simp <;> omega), by first | omega | (simp only [lsA]; omega) | (simp <;> omega)⟩, trivial⟩ fun a w h => then_normal (wp_seq (wp_seq ?_))
 refine at_regq [] { ts := [0, 1, 4, 11], os := [] } [] gamOK hT h (by kernel_rfl) trivial fun a w h => then_normal ?_
 refine at_test (decide (x1 - ((List.length x0 : Nat) : Int) < 0)) h (by kernel_rfl) (fun h1 => ?_) (fun h1 => ?_)
 ·replace h1 : x1 - ((List.length x0 : Nat) : Int) < 0 := of_decide_eq_true h1
  refine wp_seq ?_
  refine at_regq [] { ts := [0, 1, 4], os := [] } [] gamOK hT h (by kernel_rfl) trivial fun a w h => then_normal (wp_ret (then_ret ?_))
  exact at_return (S := S_laws_szIntSS) (x := (x0, x1, ())) ((-1), ()) [] h (by kernel_rfl) trivial (congrArg (fun z => (z, ())) (show ((-1)) = (szD s97) x0 x1 from by exact (szD_no (by omega)).symm))
 ·replace h1 : ¬ (x1 - ((List.length x0 : Nat) : Int) < 0) := of_decide_eq_false h1
  refine wp_skip (then_normal (wp_seq (wp_seq ?_)))
  refine at_regq [] { ts := [0, 1, 4, 5], os := [] } [] gamOK hT h (by kernel_rfl) trivial fun a w h => then_normal (wp_block ?_)
  replace h := at_out (σ' := ⟨[(0, aF s22 x0), (1, aI (x1 - ((List.length x0 : Nat) : Int))), (4, aI 0), (5, aI 0)], []⟩) { ts := [0, 1, 4, 5], os := [] } h (by kernel_rfl)
  refine at_loop (fun i : Nat => (⟨[(0, aF s22 x0), (1, aI (x1 - ((List.length x0 : Nat) : Int) - ((ctL (Sh.sz s22) (List.take i x0) : Nat) : Int))), (4, aI 0), (5, aI ((i : Nat) : Int))], []⟩ : St)) (fun i => (i ≤ List.length x0 ∧ ((List.length x0 : Nat) : Int) + ((ctL (Sh.sz s22) (List.take i x0) : Nat) : Int) ≤ x1)) (fun i => List.length x0 - i) (0) h (st_congr2 (fun (d0 : Int) (d1 : Int) => (⟨[(0, aF s22 x0), (1, aI d0), (4, aI 0), (5, aI d1)], []⟩ : St)) (show (x1 - ((List.length x0 : Nat) : Int) : Int) = (x1 - ((List.length x0 : Nat) : Int) - ((ctL (Sh.sz s22) (List.take (0) x0) : Nat) : Int)) from by first | with_reducible rfl | (simp [ctL]) | rfl) (show (0 : Int) = (((0) : Nat) : Int) from by first | with_reducible rfl | (simp [ctL]) | rfl)) (by simp [ctL]; omega) ?_
  intro i a w hok0 h
  refine wp_seq (wp_seq ?_)
  refine at_regq [] { ts := [0, 1, 4, 5, 15], os := [] } [] gamOK hT h (by kernel_rfl) trivial fun a w h => then_normal ?_
  refine at_test (decide (((i : Nat) : Int) < ((List.length x0 : Nat) : Int))) h (by kernel_rfl) (fun h2 => ?_) (fun h2 => ?_)
  ·replace h2 : ((i : Nat) : Int) < ((List.length x0 : Nat) : Int) := of_decide_eq_true h2
   have hat := ctL_at_le (c := Sh.sz s22) (xs := x0) (z := []) (i := i) (by omega)
   have hsu := ctL_take_succ (c := Sh.sz s22) (xs := x0) (z := []) (i := i) (by omega)
   refine wp_skip (then_normal (wp_seq (wp_block (wp_seq ?_))))
   refine at_regq [] { ts := [0, 1, 4, 5], os := [] } [(0 : Int) ≤ ((i : Nat) : Int) ∧ ((i : Nat) : Int) < ((List.length x0 : Nat) : Int), (pSz s22) (x0.getD i []) (x1 - ((List.length x0 : Nat) : Int) - ((ctL (Sh.sz s22) (List.take i x0) : Nat) : Int))] gamOK hT h (by kernel_rfl) ⟨(by refine ⟨?_, ?_⟩ <;> (first | omega | (simp only [lsA]; omega) | (simp <;> omega))), (by (show (0 : Int) ≤ _ ∧ _ ≤ (9223372036854775807 : Int); constructor <;> omega)), trivial⟩ fun a w h => then_normal (wp_seq ?_)
   refine at_regq [] { ts := [0, 1, 4, 5, 25], os := [] } [] gamOK hT h (by kernel_rfl) trivial fun a w h => then_normal ?_
   refine at_test (decide (((szD s22) (x0.getD i []) (x1 - ((List.length x0 : Nat) : Int) - ((ctL (Sh.sz s22) (List.take i x0) : Nat) : Int))) < 0)) h (by kernel_rfl) (fun h3 => ?_) (fun h3 => ?_)
   ·replace h3 : ((szD s22) (x0.getD i []) (x1 - ((List.length x0 : Nat) : Int) - ((ctL (Sh.sz s22) (List.take i x0) : Nat) : Int))) < 0 := of_decide_eq_true h3
    have hvh3 := szD_neg h3 (by omega)
    refine wp_seq ?_
    refine at_regq [] { ts := [0, 1, 4, 5], os := [] } [] gamOK hT h (by kernel_rfl) trivial fun a w h => then_normal (wp_ret (in_ret (then_ret (then_ret (in_ret (then_ret ?_))))))
    exact at_return (S := S_laws_szIntSS) (x := (x0, x1, ())) ((-1), ()) [] h (by kernel_rfl) trivial (congrArg (fun z => (z, ())) (show ((-1)) = (szD s97) x0 x1 from by exact (szD_no (by omega)).symm))
   ·replace h3 : ¬ (((szD s22) (x0.getD i []) (x1 - ((List.length x0 : Nat) : Int) - ((ctL (Sh.sz s22) (List.take i x0) : Nat) : Int))) < 0) := of_decide_eq_false h3
    have hvh3 := szD_val h3 (by omega)
    refine wp_skip (in_normal (then_normal ?_))
    refine at_regq [{}, { nw := true }] { ts := [0, 1, 4, 5], os := [] } [I64 (((i : Nat) : Int) + 1)] gamOK hT h (by kernel_rfl) ⟨⟨by first | omega | (simp only [lsA]; omega) | (simp <;> omega), by first | omega | (simp only [lsA]; omega) | (simp <;> omega)⟩, trivial⟩ fun a w h => ?_
    replace h := at_out (σ' := ⟨[(0, aF s22 x0), (1, aI ((szD s22) (x0.getD i []) (x1 - ((List.length x0 : Nat) : Int) - ((ctL (Sh.sz s22) (List.take i x0) : Nat) : Int)))), (4, aI 0), (5, aI (((i : Nat) : Int) + 1))], []⟩) { ts := [0, 1, 4, 5], os := [] } h (by kernel_rfl)
    exact ⟨i + 1, at_eq h (st_congr2 (fun (d0 : Int) (d1 : Int) => (⟨[(0, aF s22 x0), (1, aI d0), (4, aI 0), (5, aI d1)], []⟩ : St)) (show (((szD s22) (x0.getD i []) (x1 - ((List.length x0 : Nat) : Int) - ((ctL (Sh.sz s22) (List.take i x0) : Nat) : Int))) : Int) = (x1 - ((List.length x0 : Nat) : Int) - ((ctL (Sh.sz s22) (List.take (i + 1) x0) : Nat) : Int)) from by first | with_reducible rfl | (omega) | rfl) (show (((i : Nat) : Int) + 1 : Int) = (((i + 1) : Nat) : Int) from by first | with_reducible rfl | (omega) | rfl)), (by constructor <;> omega), (by omega)⟩
  ·replace h2 : ¬ (((i : Nat) : Int) < ((List.length x0 : Nat) : Int)) := of_decide_eq_false h2
   refine wp_exit (then_exit (then_exit (in_hit (then_normal (wp_seq ?_)))))
   refine at_regq [] { ts := [4], os := [] } [] gamOK hT h (by kernel_rfl) trivial fun a w h => then_normal (wp_ret ?_)
   exact at_return (S := S_laws_szIntSS) (x := (x0, x1, ())) ((x1 - ((List.length x0 : Nat) : Int) - ((ctL (Sh.sz s22) (List.take i x0) : Nat) : Int)), ()) [] h (by kernel_rfl) trivial (congrArg (fun z => (z, ())) (show ((x1 - ((List.length x0 : Nat) : Int) - ((ctL (Sh.sz s22) (List.take i x0) : Nat) : Int))) = (szD s97) x0 x1 from by (have hta : ctL (Sh.sz s22) (List.take i x0) = ctL (Sh.sz s22) x0 := congrArg (ctL (Sh.sz s22)) (take_all (by omega)); exact ((szD_ok (by omega)).trans (by omega)).symm)))

def S_laws_szCodedPacket : Sum := { fid := 53, dom := [s44, (.int 3)], cod := [(.int 3)], dp := true, fz := false, pre := fun x => (pSz s44) x.1 x.2.1, g := fun x => (((szD s44) x.1 x.2.1), ()) }
def S_laws_szCodedPacket_tab : List (Nat × Sum) := [(80, S_laws_szIntS)]
theorem S_laws_szCodedPacket_ok : FnOK Try.prog 53 S_laws_szCodedPacket := by
 refine at_enter 18 (fun x => ⟨[(0, aG [cI x.1.1, .ro (.int 3) x.1.2.1, .ro (.int 3) x.1.2.2]), (1, aI x.2.1)], []⟩) Try.func53 rfl (by kernel_rfl) (fun x => rfl) ?_
 rintro w0 Z0 ⟨x0, x1, u⟩ a w
 revert x0 x1
 intro (x0 : T44) (x1 : Int) hpre hlens h
 replace h : At w0 Z0 [] 18 ⟨[(0, aG [cI x0.1, .ro (.int 3) x0.2.1, .ro (.int 3) x0.2.2]), (1, aI x1)], []⟩ a w := h
 replace hpre : (pSz s44) x0 x1 := hpre
 have hl1 : List.length x0.2.1 ≤ 9223372036854775807 := hlens.1.2.1.1
 have hl2 : List.length x0.2.2 ≤ 9223372036854775807 := hlens.1.2.2.1
 have hT : TabOK Try.prog S_laws_szCodedPacket_tab := (.cons S_laws_szIntS_ok .nil)
 have hp : 0 ≤ x1 ∧ x1 ≤ 9223372036854775807 := hpre
 have hsz : Sh.sz s44 x0 = (0 + ((Sh.sz s22 x0.2.1) + (Sh.sz s22 x0.2.2))) := rfl
 refine wp_seq ?_
 refine at_regq [{ ids := [1] }] { ts := [1, 2, 4], os := [1] } [] gamOK hT h (by kernel_rfl) trivial fun a w h => then_normal (wp_seq ?_)
 refine at_regq [] { ts := [1, 2, 4], os := [1] } [(pSz s22) x0.2.1 x1] gamOK hT h (by kernel_rfl) ⟨(by (show (0 : Int) ≤ _ ∧ _ ≤ (9223372036854775807 : Int); constructor <;> omega)), trivial⟩ fun a w h => then_normal (wp_seq (wp_seq ?_))
 refine at_regq [] { ts := [1, 2, 4, 10], os := [1] } [] gamOK hT h (by kernel_rfl) trivial fun a w h => then_normal ?_
 refine at_test (decide (((szD s22) x0.2.1 x1) < 0)) h (by kernel_rfl) (fun h1 => ?_) (fun h1 => ?_)
 ·replace h1 : ((szD s22) x0.2.1 x1) < 0 := of_decide_eq_true h1
  have hvh1 := szD_neg h1 (by omega)
  refine wp_seq ?_
  refine at_regq [] { ts := [1, 2, 4], os := [1] } [] gamOK hT h (by kernel_rfl) trivial fun a w h => then_normal (wp_ret (then_ret ?_))
  exact at_return (S := S_laws_szCodedPacket) (x := (x0, x1, ())) ((-1), ()) [] h (by kernel_rfl) trivial (congrArg (fun z => (z, ())) (show ((-1)) = (szD s44) x0 x1 from by (first | exact (szD_no (by omega)).symm | exact ((szD_ok (by omega)).trans (by omega)).symm)))
 ·replace h1 : ¬ (((szD s22) x0.2.1 x1) < 0) := of_decide_eq_false h1
  have hvh1 := szD_val h1 (by omega)
  refine wp_skip (then_normal (wp_seq ?_))
  refine at_regq [] { ts := [1, 4], os := [] } [(pSz s22) x0.2.2 ((szD s22) x0.2.1 x1)] gamOK hT h (by kernel_rfl) ⟨(by (show (0 : Int) ≤ _ ∧ _ ≤ (9223372036854775807 : Int); constructor <;> omega)), trivial⟩ fun a w h => then_normal (wp_seq (wp_seq ?_))
  refine at_regq [] { ts := [1, 4, 16], os := [] } [] gamOK hT h (by kernel_rfl) trivial fun a w h => then_normal ?_
  refine at_test (decide (((szD s22) x0.2.2 ((szD s22) x0.2.1 x1)) < 0)) h (by kernel_rfl) (fun h2 => ?_) (fun h2 => ?_)
  ·replace h2 : ((szD s22) x0.2.2 ((szD s22) x0.2.1 x1)) < 0 := of_decide_eq_true h2
   have hvh2 := szD_neg h2 (by omega)
   refine wp_seq ?_
   refine at_regq [] { ts := [1, 4], os := [] } [] gamOK hT h (by kernel_rfl) trivial fun a w h => then_normal (wp_ret (then_ret ?_))
   exact at_return (S := S_laws_szCodedPacket) (x := (x0, x1, ())) ((-1), ()) [] h (by kernel_rfl) trivial (congrArg (fun z => (z, ())) (show ((-1)) = (szD s44) x0 x1 from by (first | exact (szD_no (by omega)).symm | exact ((szD_ok (by omega)).trans (by omega)).symm)))
  ·replace h2 : ¬ (((szD s22) x0.2.2 ((szD s22) x0.2.1 x1)) < 0) := of_decide_eq_false h2
   have hvh2 := szD_val h2 (by omega)
   refine wp_skip (then_normal (wp_seq ?_))
   refine at_regq [] { ts := [4], os := [] } [] gamOK hT h (by kernel_rfl) trivial fun a w h => then_normal (wp_ret ?_)
   exact at_return (S := S_laws_szCodedPacket) (x := (x0, x1, ())) (((szD s22) x0.2.2 ((szD s22) x0.2.1 x1)), ()) [] h (by kernel_rfl) trivial (congrArg (fun z => (z, ())) (show (((szD s22) x0.2.2 ((szD s22) x0.2.1 x1))) = (szD s44) x0 x1 from by (first | exact (szD_no (by omega)).symm | exact ((szD_ok (by omega)).trans (by omega)).symm)))

def S_laws_szCodedPacketS : Sum := { fid := 149, dom := [s122, (.int 3)], cod := [(.int 3)], dp := true, fz := false, pre := fun x => (pSz s122) x.1 x.2.1, g := fun x => (((szD s122) x.1 x.2.1), ()) }
def S_laws_szCodedPacketS_tab : List (Nat × Sum) := [(53, S_laws_szCodedPacket)]
theorem S_laws_szCodedPacketS_ok : FnOK Try.prog 149 S_laws_szCodedPacketS := by
 refine at_enter 27 (fun x => ⟨[(0, aF s44 x.1), (1, aI x.2.1)], []⟩) Try.func149 rfl (by kernel_rfl) (fun x => rfl) ?_
 rintro w0 Z0 ⟨x0, x1, u⟩ a w
 revert x0 x1
 intro (x0 : (List T44)) (x1 : Int) hpre hlens h
 replace h : At w0 Z0 [] 27 ⟨[(0, aF s44 x0), (1, aI x1)], []⟩ a w := h
 replace hpre : (pSz s122) x0 x1 := hpre
 have hl1 : List.length x0 ≤ 9223372036854775807 := hlens.1.1
 have hT : TabOK Try.prog S_laws_szCodedPacketS_tab := (.cons S_laws_szCodedPacket_ok .nil)
 have hp : 0 ≤ x1 ∧ x1 ≤ 9223372036854775807 := hpre
 have hsz : Sh.sz s122 x0 = List.length x0 + ctL (Sh.sz s44) x0 := rfl
 refine wp_seq ?_
 refine at_regq [] { ts := [0, 1, 4], os := [] } [] gamOK hT h (by kernel_rfl) trivial fun a w h => then_normal (wp_seq ?_)
 refine at_regq [{}, {}, {}, { nw := true }] { ts := [0, 1, 4], os := [] } [I64 (x1 - ((List.length x0 : Nat) : Int))] gamOK hT h (by kernel_rfl) ⟨⟨by first | omega | (simp only [lsA]; omega) | (simp <;> omega), by first | omega | (simp only [lsA]; omega) | (simp <;> omega)⟩, trivial⟩ fun a w h => then_normal (wp_seq (wp_seq ?_))
 refine at_regq [] { ts := [0, 1, 4, 11], os := [] } [] gamOK hT h (by kernel_rfl) trivial fun a w h => then_normal ?_
 refine at_test (decide (x1 - ((List.length x0 : Nat) : Int) < 0)) h (by kernel_rfl) (fun h1 => ?_) (fun h1 => ?_)
 ·replace h1 : x1 - ((List.length x0 : Nat) : Int) < 0 := of_decide_eq_true h1
  refine wp_seq ?_
  refine at_regq [] { ts := [0, 1, 4], os := [] } [] gamOK hT h (by kernel_rfl) trivial fun a w h => then_normal (wp_ret (then_ret ?_))
  exact at_return (S := S_laws_szCodedPacketS) (x := (x0, x1, ())) ((-1), ()) [] h (by kernel_rfl) trivial (congrArg (fun z => (z, ())) (show ((-1)) = (szD s122) x0 x1 from by exact (szD_no (by omega)).symm))
 ·replace h1 : ¬ (x1 - ((List.length x0 : Nat) : Int) < 0) := of_decide_eq_false h1
  refine wp_skip (then_normal (wp_seq (wp_seq ?_)))
  refine at_regq [] { ts := [0, 1, 4, 5], os := [] } [] gamOK hT h (by kernel_rfl) trivial fun a w h => then_normal (wp_block ?_)
  replace h := at_out (σ' := ⟨[(0, aF s44 x0), (1, aI (x1 - ((List.length x0 : Nat) : Int))), (4, aI 0), (5, aI 0)], []⟩) { ts := [0, 1, 4, 5], os := [] } h (by kernel_rfl)
  refine at_loop (fun i : Nat => (⟨[(0, aF s44 x0), (1, aI (x1 - ((List.length x0 : Nat) : Int) - ((ctL (Sh.sz s44) (List.take i x0) : Nat) : Int))), (4, aI 0), (5, aI ((i : Nat) : Int))], []⟩ : St)) (fun i => (i ≤ List.length x0 ∧ ((List.length x0 : Nat) : Int) + ((ctL (Sh.sz s44) (List.take i x0) : Nat) : Int) ≤ x1)) (fun i => List.length x0 - i) (0) h (st_congr2 (fun (d0 : Int) (d1 : Int) => (⟨[(0, aF s44 x0), (1, aI d0), (4, aI 0), (5, aI d1)], []⟩ : St)) (show (x1 - ((List.length x0 : Nat) : Int) : Int) = (x1 - ((List.length x0 : Nat) : Int) - ((ctL (Sh.sz s44) (List.take (0) x0) : Nat) : Int)) from by first | with_reducible rfl | (simp [ctL]) | rfl) (show (0 : Int) = (((0) : Nat) : Int) from by first | with_reducible rfl | (simp [ctL]) | rfl)) (by simp [ctL]; omega) ?_
  intro i a w hok0 h
  refine wp_seq (wp_seq ?_)
  refine at_regq [] { ts := [0, 1, 4, 5, 15], os := [] } [] gamOK hT h (by kernel_rfl) trivial fun a w h => then_normal ?_
  refine at_test (decide (((i : Nat) : Int) < ((List.length x0 : Nat) : Int))) h (by kernel_rfl) (fun h2 => ?_) (fun h2 => ?_)
  ·replace h2 : ((i : Nat) : Int) < ((List.length x0 : Nat) : Int) := of_decide_eq_true h2
   have hat := ctL_at_le (c := Sh.sz s44) (xs := x0) (z := (0, ([], []))) (i := i) (by omega)
   have hsu := ctL_take_succ (c := Sh.sz s44) (xs := x0) (z := (0, ([], []))) (i := i) (by omega)
   refine wp_skip (then_normal (wp_seq (wp_block (wp_seq ?_))))
   refine at_regq [] { ts := [0, 1, 4, 5], os := [] } [(0 : Int) ≤ ((i : Nat) : Int) ∧ ((i : Nat) : Int) < ((List.length x0 : Nat) : Int), (pSz s44) (x0.getD i (0, ([], []))) (x1 - ((List.length x0 : Nat) : Int) - ((ctL (Sh.sz s44) (List.take i x0) : Nat) : Int))] gamOK hT h (by kernel_rfl) ⟨(by refine ⟨?_, ?_⟩ <;> (first | omega | (simp only [lsA]; omega) | (simp <;> omega))), (by (show (0 : Int) ≤ _ ∧ _ ≤ (9223372036854775807 : Int); constructor <;> omega)), trivial⟩ fun a w h => then_normal (wp_seq ?_)
   refine at_regq [] { ts := [0, 1, 4, 5, 25], os := [] } [] gamOK hT h (by kernel_rfl) trivial fun a w h => then_normal ?_
   refine at_test (decide (((szD s44) (x0.getD i (0, ([], []))) (x1 - ((List.length x0 : Nat) : Int) - ((ctL (Sh.sz s44) (List.take i x0) : Nat) : Int))) < 0)) h (by kernel_rfl) (fun h3 => ?_) (fun h3 => ?_)
   ·replace h3 : ((szD s44) (x0.getD i (0, ([], []))) (x1 - ((List.length x0 : Nat) : Int) - ((ctL (Sh.sz s44) (List.take i x0) : Nat) : Int))) < 0 := of_decide_eq_true h3
    have hvh3 := szD_neg h3 (by omega)
    refine wp_seq ?_
    refine at_regq [] { ts := [0, 1, 4, 5], os := [] } [] gamOK hT h (by kernel_rfl) trivial fun a w h => then_normal (wp_ret (in_ret (then_ret (then_ret (in_ret (then_ret ?_))))))
    exact at_return (S := S_laws_szCodedPacketS) (x := (x0, x1, ())) ((-1), ()) [] h (by kernel_rfl) trivial (congrArg (fun z => (z, ())) (show ((-1)) = (szD s122) x0 x1 from by exact (szD_no (by omega)).symm))
   ·replace h3 : ¬ (((szD s44) (x0.getD i (0, ([], []))) (x1 - ((List.length x0 : Nat) : Int) - ((ctL (Sh.sz s44) (List.take i x0) : Nat) : Int))) < 0) := of_decide_eq_false h3
    have hvh3 := szD_val h3 (by omega)
    refine wp_skip (in_normal (then_normal ?_))
    refine at_regq [{}, { nw := true }] { ts := [0, 1, 4, 5], os := [] } [I64 (((i : Nat) : Int) + 1)] gamOK hT h (by kernel_rfl) ⟨⟨by first | omega | (simp only [lsA]; omega) | (simp <;> omega), by first | omega | (simp only [lsA]; omega) | (simp <;> omega)⟩, trivial⟩ fun a w h => ?_
    replace h := at_out (σ' := ⟨[(0, aF s44 x0), (1, aI ((szD s44) (x0.getD i (0, ([], []))) (x1 - ((List.length x0 : Nat) : Int) - ((ctL (Sh.sz s44) (List.take i x0) : Nat) : Int)))), (4, aI 0), (5, aI (((i : Nat) : Int) + 1))], []⟩) { ts := [0, 1, 4, 5], os := [] } h (by kernel_rfl)
    exact ⟨i + 1, at_eq h (st_congr2 (fun (d0 : Int) (d1 : Int) => (⟨[(0, aF s44 x0), (1, aI d0), (4, aI 0), (5, aI d1)], []⟩ : St)) (show (((szD s44) (x0.getD i (0, ([], []))) (x1 - ((List.length x0 : Nat) : Int) - ((ctL (Sh.sz s44) (List.take i x0) : Nat) : Int))) : Int) = (x1 - ((List.length x0 : Nat) : Int) - ((ctL (Sh.sz s44) (List.take (i + 1) x0) : Nat) : Int)) from by first | with_reducible rfl | (omega) | rfl) (show (((i : Nat) : Int) + 1 : Int) = (((i + 1) : Nat) : Int) from by first | with_reducible rfl | (omega) | rfl)), (by constructor <;> omega), (by omega)⟩
  ·replace h2 : ¬ (((i : Nat) : Int) < ((List.length x0 : Nat) : Int)) := of_decide_eq_false h2
   refine wp_exit (then_exit (then_exit (in_hit (then_normal (wp_seq ?_)))))
   refine at_regq [] { ts := [4], os := [] } [] gamOK hT h (by kernel_rfl) trivial fun a w h => then_normal (wp_ret ?_)
   exact at_return (S := S_laws_szCodedPacketS) (x := (x0, x1, ())) ((x1 - ((List.length x0 : Nat) : Int) - ((ctL (Sh.sz s44) (List.take i x0) : Nat) : Int)), ()) [] h (by kernel_rfl) trivial (congrArg (fun z => (z, ())) (show ((x1 - ((List.length x0 : Nat) : Int) - ((ctL (Sh.sz s44) (List.take i x0) : Nat) : Int))) = (szD s122) x0 x1 from by (have hta : ctL (Sh.sz s44) (List.take i x0) = ctL (Sh.sz s44) x0 := congrArg (ctL (Sh.sz s44)) (take_all (by omega)); exact ((szD_ok (by omega)).trans (by omega)).symm)))

def S_laws_szFeedbackS : Sum := { fid := 200, dom := [s79, (.int 3)], cod := [(.int 3)], dp := true, fz := false, pre := fun x => (pSz s79) x.1 x.2.1, g := fun x => (((szD s79) x.1 x.2.1), ()) }
def S_laws_szFeedbackS_tab : List (Nat × Sum) := []
theorem S_laws_szFeedbackS_ok : FnOK Try.prog 200 S_laws_szFeedbackS := by
 refine at_enter 12 (fun x => ⟨[(0, aF s285 x.1), (1, aI x.2.1)], []⟩) Try.func200 rfl (by kernel_rfl) (fun x => rfl) ?_
 rintro w0 Z0 ⟨x0, x1, u⟩ a w
 revert x0 x1
 intro (x0 : (List T285)) (x1 : Int) hpre hlens h
 replace h : At w0 Z0 [] 12 ⟨[(0, aF s285 x0), (1, aI x1)], []⟩ a w := h
 replace hpre : (pSz s79) x0 x1 := hpre
 have hl1 : List.length x0 ≤ 9223372036854775807 := hlens.1.1
 have hT : TabOK Try.prog S_laws_szFeedbackS_tab := .nil
 have hp : 0 ≤ x1 ∧ x1 ≤ 9223372036854775807 := hpre
 refine wp_seq ?_
 refine at_regq [] { ts := [0, 1, 4], os := [] } [] gamOK hT h (by kernel_rfl) trivial fun a w h => then_normal (wp_seq ?_)
 refine at_regq [{}, {}, {}, { nw := true }] { ts := [1, 4], os := [] } [I64 (x1 - ((List.length x0 : Nat) : Int))] gamOK hT h (by kernel_rfl) ⟨⟨by first | omega | (simp only [lsA]; omega) | (simp <;> omega), by first | omega | (simp only [lsA]; omega) | (simp <;> omega)⟩, trivial⟩ fun a w h => then_normal (wp_seq (wp_seq ?_))
 refine at_regq [] { ts := [1, 4, 10], os := [] } [] gamOK hT h (by kernel_rfl) trivial fun a w h => then_normal ?_
 refine at_test (decide (x1 - ((List.length x0 : Nat) : Int) < 0)) h (by kernel_rfl) (fun h1 => ?_) (fun h1 => ?_)
 ·replace h1 : x1 - ((List.length x0 : Nat) : Int) < 0 := of_decide_eq_true h1
  refine wp_seq ?_
  refine at_regq [] { ts := [1, 4], os := [] } [] gamOK hT h (by kernel_rfl) trivial fun a w h => then_normal (wp_ret (then_ret ?_))
  exact at_return (S := S_laws_szFeedbackS) (x := (x0, x1, ())) ((-1), ()) [] h (by kernel_rfl) trivial (congrArg (fun z => (z, ())) (show ((-1)) = (szD s79) x0 x1 from by exact (szD_no (by rw [sz_flat (by rfl)]; omega)).symm))
 ·replace h1 : ¬ (x1 - ((List.length x0 : Nat) : Int) < 0) := of_decide_eq_false h1
  refine wp_skip (then_normal (wp_seq ?_))
  refine at_regq [] { ts := [4], os := [] } [] gamOK hT h (by kernel_rfl) trivial fun a w h => then_normal (wp_ret ?_)
  exact at_return (S := S_laws_szFeedbackS) (x := (x0, x1, ())) (x1 - ((List.length x0 : Nat) : Int), ()) [] h (by kernel_rfl) trivial (congrArg (fun z => (z, ())) (show (x1 - ((List.length x0 : Nat) : Int)) = (szD s79) x0 x1 from by exact ((szD_ok (by rw [sz_flat (by rfl)]; omega)).trans (by rw [sz_flat (by rfl)])).symm))

def S_laws_szFeedbackTable : Sum := { fid := 110, dom := [s81, (.int 3)], cod := [(.int 3)], dp := true, fz := false, pre := fun x => (pSz s81) x.1 x.2.1, g := fun x => (((szD s81) x.1 x.2.1), ()) }
def S_laws_szFeedbackTable_tab : List (Nat × Sum) := [(200, S_laws_szFeedbackS)]
theorem S_laws_szFeedbackTable_ok : FnOK Try.prog 110 S_laws_szFeedbackTable := by
 refine at_enter 12 (fun x => ⟨[(0, aG [.ro s285 x.1]), (1, aI x.2.1)], []⟩) Try.func110 rfl (by kernel_rfl) (fun x => rfl) ?_
 rintro w0 Z0 ⟨x0, x1, u⟩ a w
 revert x0 x1
 intro (x0 : (List T285)) (x1 : Int) hpre hlens h
 replace h : At w0 Z0 [] 12 ⟨[(0, aG [.ro s285 x0]), (1, aI x1)], []⟩ a w := h
 replace hpre : (pSz s81) x0 x1 := hpre
 have hl1 : List.length x0 ≤ 9223372036854775807 := hlens.1.1
 have hT : TabOK Try.prog S_laws_szFeedbackTable_tab := (.cons S_laws_szFeedbackS_ok .nil)
 have hp : 0 ≤ x1 ∧ x1 ≤ 9223372036854775807 := hpre
 have hsz : Sh.sz s81 x0 = (Sh.sz s79 x0) := rfl
 refine wp_seq ?_
 refine at_regq [{ ids := [1] }] { ts := [1, 2, 4], os := [1] } [] gamOK hT h (by kernel_rfl) trivial fun a w h => then_normal (wp_seq ?_)
 refine at_regq [] { ts := [1, 4], os := [] } [(pSz s79) x0 x1] gamOK hT h (by kernel_rfl) ⟨(by (show (0 : Int) ≤ _ ∧ _ ≤ (9223372036854775807 : Int); constructor <;> omega)), trivial⟩ fun a w h => then_normal (wp_seq (wp_seq ?_))
 refine at_regq [] { ts := [1, 4, 10], os := [] } [] gamOK hT h (by kernel_rfl) trivial fun a w h => then_normal ?_
 refine at_test (decide (((szD s79) x0 x1) < 0)) h (by kernel_rfl) (fun h1 => ?_) (fun h1 => ?_)
 ·replace h1 : ((szD s79) x0 x1) < 0 := of_decide_eq_true h1
  have hvh1 := szD_neg h1 (by omega)
  refine wp_seq ?_
  refine at_regq [] { ts := [1, 4], os := [] } [] gamOK hT h (by kernel_rfl) trivial fun a w h => then_normal (wp_ret (then_ret ?_))
  exact at_return (S := S_laws_szFeedbackTable) (x := (x0, x1, ())) ((-1), ()) [] h (by kernel_rfl) trivial (congrArg (fun z => (z, ())) (show ((-1)) = (szD s81) x0 x1 from by (first | exact (szD_no (by omega)).symm | exact ((szD_ok (by omega)).trans (by omega)).symm)))
 ·replace h1 : ¬ (((szD s79) x0 x1) < 0) := of_decide_eq_false h1
  have hvh1 := szD_val h1 (by omega)
  refine wp_skip (then_normal (wp_seq ?_))
  refine at_regq [] { ts := [4], os := [] } [] gamOK hT h (by kernel_rfl) trivial fun a w h => then_normal (wp_ret ?_)
  exact at_return (S := S_laws_szFeedbackTable) (x := (x0, x1, ())) (((szD s79) x0 x1), ()) [] h (by kernel_rfl) trivial (congrArg (fun z => (z, ())) (show (((szD s79) x0 x1)) = (szD s81) x0 x1 from by (first | exact (szD_no (by omega)).symm | exact ((szD_ok (by omega)).trans (by omega)).symm)))

def S_laws_szGeneration : Sum := { fid := 178, dom := [s223, (.int 3)], cod := [(.int 3)], dp := true, fz := false, pre := fun x => (pSz s223) x.1 x.2.1, g := fun x => (((szD s223) x.1 x.2.1), ()) }
def S_laws_szGeneration_tab : List (Nat × Sum) := [(127, S_laws_szIntSS)]
theorem S_laws_szGeneration_ok : FnOK Try.prog 178 S_laws_szGeneration := by
 refine at_enter 12 (fun x => ⟨[(0, aG [cI x.1.1, .ro s22 x.1.2]), (1, aI x.2.1)], []⟩) Try.func178 rfl (by kernel_rfl) (fun x => rfl) ?_
 rintro w0 Z0 ⟨x0, x1, u⟩ a w
 revert x0 x1
 intro (x0 : T223) (x1 : Int) hpre hlens h
 replace h : At w0 Z0 [] 12 ⟨[(0, aG [cI x0.1, .ro s22 x0.2]), (1, aI x1)], []⟩ a w := h
 replace hpre : (pSz s223) x0 x1 := hpre
 have hl1 : List.length x0.2 ≤ 9223372036854775807 := hlens.1.2.1
 have hT : TabOK Try.prog S_laws_szGeneration_tab := (.cons S_laws_szIntSS_ok .nil)
 have hp : 0 ≤ x1 ∧ x1 ≤ 9223372036854775807 := hpre
 have hsz : Sh.sz s223 x0 = (0 + (Sh.sz s97 x0.2)) := rfl
 refine wp_seq ?_
 refine at_regq [{ ids := [1] }] { ts := [1, 2, 4], os := [1] } [] gamOK hT h (by kernel_rfl) trivial fun a w h => then_normal (wp_seq ?_)
 refine at_regq [] { ts := [1, 4], os := [] } [(pSz s97) x0.2 x1] gamOK hT h (by kernel_rfl) ⟨(by (show (0 : Int) ≤ _ ∧ _ ≤ (9223372036854775807 : Int); constructor <;> omega)), trivial⟩ fun a w h => then_normal (wp_seq (wp_seq ?_))
 refine at_regq [] { ts := [1, 4, 10], os := [] } [] gamOK hT h (by kernel_rfl) trivial fun a w h => then_normal ?_
 refine at_test (decide (((szD s97) x0.2 x1) < 0)) h (by kernel_rfl) (fun h1 => ?_) (fun h1 => ?_)
 ·replace h1 : ((szD s97) x0.2 x1) < 0 := of_decide_eq_true h1
  have hvh1 := szD_neg h1 (by omega)
  refine wp_seq ?_
  refine at_regq [] { ts := [1, 4], os := [] } [] gamOK hT h (by kernel_rfl) trivial fun a w h => then_normal (wp_ret (then_ret ?_))
  exact at_return (S := S_laws_szGeneration) (x := (x0, x1, ())) ((-1), ()) [] h (by kernel_rfl) trivial (congrArg (fun z => (z, ())) (show ((-1)) = (szD s223) x0 x1 from by (first | exact (szD_no (by omega)).symm | exact ((szD_ok (by omega)).trans (by omega)).symm)))
 ·replace h1 : ¬ (((szD s97) x0.2 x1) < 0) := of_decide_eq_false h1
  have hvh1 := szD_val h1 (by omega)
  refine wp_skip (then_normal (wp_seq ?_))
  refine at_regq [] { ts := [4], os := [] } [] gamOK hT h (by kernel_rfl) trivial fun a w h => then_normal (wp_ret ?_)
  exact at_return (S := S_laws_szGeneration) (x := (x0, x1, ())) (((szD s97) x0.2 x1), ()) [] h (by kernel_rfl) trivial (congrArg (fun z => (z, ())) (show (((szD s97) x0.2 x1)) = (szD s223) x0 x1 from by (first | exact (szD_no (by omega)).symm | exact ((szD_ok (by omega)).trans (by omega)).symm)))

def S_laws_szGenerationS : Sum := { fid := 82, dom := [s24, (.int 3)], cod := [(.int 3)], dp := true, fz := false, pre := fun x => (pSz s24) x.1 x.2.1, g := fun x => (((szD s24) x.1 x.2.1), ()) }
def S_laws_szGenerationS_tab : List (Nat × Sum) := [(178, S_laws_szGeneration)]
theorem S_laws_szGenerationS_ok : FnOK Try.prog 82 S_laws_szGenerationS := by
 refine at_enter 27 (fun x => ⟨[(0, aF s223 x.1), (1, aI x.2.1)], []⟩) Try.func82 rfl (by kernel_rfl) (fun x => rfl) ?_
 rintro w0 Z0 ⟨x0, x1, u⟩ a w
 revert x0 x1
 intro (x0 : (List T223)) (x1 : Int) hpre hlens h
 replace h : At w0 Z0 [] 27 ⟨[(0, aF s223 x0), (1, aI x1)], []⟩ a w := h
 replace hpre : (pSz s24) x0 x1 := hpre
 have hl1 : List.length x0 ≤ 9223372036854775807 := hlens.1.1
 have hT : TabOK Try.prog S_laws_szGenerationS_tab := (.cons S_laws_szGeneration_ok .nil)
 have hp : 0 ≤ x1 ∧ x1 ≤ 9223372036854775807 := hpre
 have hsz : Sh.sz s24 x0 = List.length x0 + ctL (Sh.sz s223) x0 := rfl
 refine wp_seq ?_
 refine at_regq [] { ts := [0, 1, 4], os := [] } [] gamOK hT h (by kernel_rfl) trivial fun a w h => then_normal (wp_seq ?_)
 refine at_regq [{}, {}, {}, { nw := true }] { ts := [0, 1, 4], os := [] } [I64 (x1 - ((List.length x0 : Nat) : Int))] gamOK hT h (by kernel_rfl) ⟨⟨by first | omega | (simp only [lsA]; omega) | (simp <;> omega), by first | omega | (simp only [lsA]; omega) | (simp <;> omega)⟩, trivial⟩ fun a w h => then_normal (wp_seq (wp_seq ?_))
 refine at_regq [] { ts := [0, 1, 4, 11], os := [] } [] gamOK hT h (by kernel_rfl) trivial fun a w h => then_normal ?_
 refine at_test (decide (x1 - ((List.length x0 : Nat) : Int) < 0)) h (by kernel_rfl) (fun h1 => ?_) (fun h1 => ?_)
 ·replace h1 : x1 - ((List.length x0 : Nat) : Int) < 0 := of_decide_eq_true h1
  refine wp_seq ?_
  refine at_regq [] { ts := [0, 1, 4], os := [] } [] gamOK hT h (by kernel_rfl) trivial fun a w h => then_normal (wp_ret (then_ret ?_))
  exact at_return (S := S_laws_szGenerationS) (x := (x0, x1, ())) ((-1), ()) [] h (by kernel_rfl) trivial (congrArg (fun z => (z, ())) (show ((-1)) = (szD s24) x0 x1 from by exact (szD_no (by omega)).symm))
 ·replace h1 : ¬ (x1 - ((List.length x0 : Nat) : Int) < 0) := of_decide_eq_false h1
  refine wp_skip (then_normal (wp_seq (wp_seq ?_)))
  refine at_regq [] { ts := [0, 1, 4, 5], os := [] } [] gamOK hT h (by kernel_rfl) trivial fun a w h => then_normal (wp_block ?_)
  replace h := at_out (σ' := ⟨[(0, aF s223 x0), (1, aI (x1 - ((List.length x0 : Nat) : Int))), (4, aI 0), (5, aI 0)], []⟩) { ts := [0, 1, 4, 5], os := [] } h (by kernel_rfl)
  refine at_loop (fun i : Nat => (⟨[(0, aF s223 x0), (1, aI (x1 - ((List.length x0 : Nat) : Int) - ((ctL (Sh.sz s223) (List.take i x0) : Nat) : Int))), (4, aI 0), (5, aI ((i : Nat) : Int))], []⟩ : St)) (fun i => (i ≤ List.length x0 ∧ ((List.length x0 : Nat) : Int) + ((ctL (Sh.sz s223) (List.take i x0) : Nat) : Int) ≤ x1)) (fun i => List.length x0 - i) (0) h (st_congr2 (fun (d0 : Int) (d1 : Int) => (⟨[(0, aF s223 x0), (1, aI d0), (4, aI 0), (5, aI d1)], []⟩ : St)) (show (x1 - ((List.length x0 : Nat) : Int) : Int) = (x1 - ((List.length x0 : Nat) : Int) - ((ctL (Sh.sz s223) (List.take (0) x0) : Nat) : Int)) from by first | with_reducible rfl | (simp [ctL]) | rfl) (show (0 : Int) = (((0) : Nat) : Int) from by first | with_reducible rfl | (simp [ctL]) | rfl)) (by simp [ctL]; omega) ?_
  intro i a w hok0 h
  refine wp_seq (wp_seq ?_)
  refine at_regq [] { ts := [0, 1, 4, 5, 15], os := [] } [] gamOK hT h (by kernel_rfl) trivial fun a w h => then_normal ?_
  refine at_test (decide (((i : Nat) : Int) < ((List.length x0 : Nat) : Int))) h (by kernel_rfl) (fun h2 => ?_) (fun h2 => ?_)
  ·replace h2 : ((i : Nat) : Int) < ((List.length x0 : Nat) : Int) := of_decide_eq_true h2
   have hat := ctL_at_le (c := Sh.sz s223) (xs := x0) (z := (0, [])) (i := i) (by omega)
   have hsu := ctL_take_succ (c := Sh.sz s223) (xs := x0) (z := (0, [])) (i := i) (by omega)
   refine wp_skip (then_normal (wp_seq (wp_block (wp_seq ?_))))
   refine at_regq [] { ts := [0, 1, 4, 5], os := [] } [(0 : Int) ≤ ((i : Nat) : Int) ∧ ((i : Nat) : Int) < ((List.length x0 : Nat) : Int), (pSz s223) (x0.getD i (0, [])) (x1 - ((List.length x0 : Nat) : Int) - ((ctL (Sh.sz s223) (List.take i x0) : Nat) : Int))] gamOK hT h (by kernel_rfl) ⟨(by refine ⟨?_, ?_⟩ <;> (first | omega | (simp only [lsA]; omega) | (simp <;> omega))), (by (show (0 : Int) ≤ _ ∧ _ ≤ (9223372036854775807 : Int); constructor <;> omega)), trivial⟩ fun a w h => then_normal (wp_seq ?_)
   refine at_regq [] { ts := [0, 1, 4, 5, 25], os := [] } [] gamOK hT h (by kernel_rfl) trivial fun a w h => then_normal ?_
   refine at_test (decide (((szD s223) (x0.getD i (0, [])) (x1 - ((List.length x0 : Nat) : Int) - ((ctL (Sh.sz s223) (List.take i x0) : Nat) : Int))) < 0)) h (by kernel_rfl) (fun h3 => ?_) (fun h3 => ?_)
   ·replace h3 : ((szD s223) (x0.getD i (0, [])) (x1 - ((List.length x0 : Nat) : Int) - ((ctL (Sh.sz s223) (List.take i x0) : Nat) : Int))) < 0 := of_decide_eq_true h3
    have hvh3 := szD_neg h3 (by omega)
    refine wp_seq ?_
    refine at_regq [] { ts := [0, 1, 4, 5], os := [] } [] gamOK hT h (by kernel_rfl) trivial fun a w h => then_normal (wp_ret (in_ret (then_ret (then_ret (in_ret (then_ret ?_))))))
    exact at_return (S := S_laws_szGenerationS) (x := (x0, x1, ())) ((-1), ()) [] h (by kernel_rfl) trivial (congrArg (fun z => (z, ())) (show ((-1)) = (szD s24) x0 x1 from by exact (szD_no (by omega)).symm))
   ·replace h3 : ¬ (((szD s223) (x0.getD i (0, [])) (x1 - ((List.length x0 : Nat) : Int) - ((ctL (Sh.sz s223) (List.take i x0) : Nat) : Int))) < 0) := of_decide_eq_false h3
    have hvh3 := szD_val h3 (by omega)
    refine wp_skip (in_normal (then_normal ?_))
    refine at_regq [{}, { nw := true }] { ts := [0, 1, 4, 5], os := [] } [I64 (((i : Nat) : Int) + 1)] gamOK hT h (by kernel_rfl) ⟨⟨by first | omega | (simp only [lsA]; omega) | (simp <;> omega), by first | omega | (simp only [lsA]; omega) | (simp <;> omega)⟩, trivial⟩ fun a w h => ?_
    replace h := at_out (σ' := ⟨[(0, aF s223 x0), (1, aI ((szD s223) (x0.getD i (0, [])) (x1 - ((List.length x0 : Nat) : Int) - ((ctL (Sh.sz s223) (List.take i x0) : Nat) : Int)))), (4, aI 0), (5, aI (((i : Nat) : Int) + 1))], []⟩) { ts := [0, 1, 4, 5], os := [] } h (by kernel_rfl)
    exact ⟨i + 1, at_eq h (st_congr2 (fun (d0 : Int) (d1 : Int) => (⟨[(0, aF s223 x0), (1, aI d0), (4, aI 0), (5, aI d1)], []⟩ : St)) (show (((szD s223) (x0.getD i (0, [])) (x1 - ((List.length x0 : Nat) : Int) - ((ctL (Sh.sz s223) (List.take i x0) : Nat) : Int))) : Int) = (x1 - ((List.length x0 : Nat) : Int) - ((ctL (Sh.sz s223) (List.take (i + 1) x0) : Nat) : Int)) from by first | with_reducible rfl | (omega) | rfl) (show (((i : Nat) : Int) + 1 : Int) = (((i + 1) : Nat) : Int) from by first | with_reducible rfl | (omega) | rfl)), (by constructor <;> omega), (by omega)⟩
  ·replace h2 : ¬ (((i : Nat) : Int) < ((List.length x0 : Nat) : Int)) := of_decide_eq_false h2
   refine wp_exit (then_exit (then_exit (in_hit (then_normal (wp_seq ?_)))))
   refine at_regq [] { ts := [4], os := [] } [] gamOK hT h (by kernel_rfl) trivial fun a w h => then_normal (wp_ret ?_)
   exact at_return (S := S_laws_szGenerationS) (x := (x0, x1, ())) ((x1 - ((List.length x0 : Nat) : Int) - ((ctL (Sh.sz s223) (List.take i x0) : Nat) : Int)), ()) [] h (by kernel_rfl) trivial (congrArg (fun z => (z, ())) (show ((x1 - ((List.length x0 : Nat) : Int) - ((ctL (Sh.sz s223) (List.take i x0) : Nat) : Int))) = (szD s24) x0 x1 from by (have hta : ctL (Sh.sz s223) (List.take i x0) = ctL (Sh.sz s223) x0 := congrArg (ctL (Sh.sz s223)) (take_all (by omega)); exact ((szD_ok (by omega)).trans (by omega)).symm)))

def S_laws_szRecoder : Sum := { fid := 63, dom := [s124, (.int 3)], cod := [(.int 3)], dp := true, fz := false, pre := fun x => (pSz s124) x.1 x.2.1, g := fun x => (((szD s124) x.1 x.2.1), ()) }
def S_laws_szRecoder_tab : List (Nat × Sum) := [(149, S_laws_szCodedPacketS)]
theorem S_laws_szRecoder_ok : FnOK Try.prog 63 S_laws_szRecoder := by
 refine at_enter 12 (fun x => ⟨[(0, aG [cI x.1.1, cI x.1.2.1, cI x.1.2.2.1, .ro s44 x.1.2.2.2.1, cI x.1.2.2.2.2]), (1, aI x.2.1)], []⟩) Try.func63 rfl (by kernel_rfl) (fun x => rfl) ?_
 rintro w0 Z0 ⟨x0, x1, u⟩ a w
 revert x0 x1
 intro (x0 : T124) (x1 : Int) hpre hlens h
 replace h : At w0 Z0 [] 12 ⟨[(0, aG [cI x0.1, cI x0.2.1, cI x0.2.2.1, .ro s44 x0.2.2.2.1, cI x0.2.2.2.2]), (1, aI x1)], []⟩ a w := h
 replace hpre : (pSz s124) x0 x1 := hpre
 have hl1 : List.length x0.2.2.2.1 ≤ 9223372036854775807 := hlens.1.2.2.2.1.1
 have hT : TabOK Try.prog S_laws_szRecoder_tab := (.cons S_laws_szCodedPacketS_ok .nil)
 have hp : 0 ≤ x1 ∧ x1 ≤ 9223372036854775807 := hpre
 have hsz : Sh.sz s124 x0 = (0 + (0 + (0 + ((Sh.sz s122 x0.2.2.2.1) + 0)))) := rfl
 refine wp_seq ?_
 refine at_regq [{ ids := [1] }] { ts := [1, 2, 4], os := [1] } [] gamOK hT h (by kernel_rfl) trivial fun a w h => then_normal (wp_seq ?_)
 refine at_regq [] { ts := [1, 4], os := [] } [(pSz s122) x0.2.2.2.1 x1] gamOK hT h (by kernel_rfl) ⟨(by (show (0 : Int) ≤ _ ∧ _ ≤ (9223372036854775807 : Int); constructor <;> omega)), trivial⟩ fun a w h => then_normal (wp_seq (wp_seq ?_))
 refine at_regq [] { ts := [1, 4, 10], os := [] } [] gamOK hT h (by kernel_rfl) trivial fun a w h => then_normal ?_
 refine at_test (decide (((szD s122) x0.2.2.2.1 x1) < 0)) h (by kernel_rfl) (fun h1 => ?_) (fun h1 => ?_)
 ·replace h1 : ((szD s122) x0.2.2.2.1 x1) < 0 := of_decide_eq_true h1
  have hvh1 := szD_neg h1 (by omega)
  refine wp_seq ?_
  refine at_regq [] { ts := [1, 4], os := [] } [] gamOK hT h (by kernel_rfl) trivial fun a w h => then_normal (wp_ret (then_ret ?_))
  exact at_return (S := S_laws_szRecoder) (x := (x0, x1, ())) ((-1), ()) [] h (by kernel_rfl) trivial (congrArg (fun z => (z, ())) (show ((-1)) = (szD s124) x0 x1 from by (first | exact (szD_no (by omega)).symm | exact ((szD_ok (by omega)).trans (by omega)).symm)))
 ·replace h1 : ¬ (((szD s122) x0.2.2.2.1 x1) < 0) := of_decide_eq_false h1
  have hvh1 := szD_val h1 (by omega)
  refine wp_skip (then_normal (wp_seq ?_))
  refine at_regq [] { ts := [4], os := [] } [] gamOK hT h (by kernel_rfl) trivial fun a w h => then_normal (wp_ret ?_)
  exact at_return (S := S_laws_szRecoder) (x := (x0, x1, ())) (((szD s122) x0.2.2.2.1 x1), ()) [] h (by kernel_rfl) trivial (congrArg (fun z => (z, ())) (show (((szD s122) x0.2.2.2.1 x1)) = (szD s124) x0 x1 from by (first | exact (szD_no (by omega)).symm | exact ((szD_ok (by omega)).trans (by omega)).symm)))

def S_laws_szRecoderS : Sum := { fid := 109, dom := [s78, (.int 3)], cod := [(.int 3)], dp := true, fz := false, pre := fun x => (pSz s78) x.1 x.2.1, g := fun x => (((szD s78) x.1 x.2.1), ()) }
def S_laws_szRecoderS_tab : List (Nat × Sum) := [(63, S_laws_szRecoder)]
theorem S_laws_szRecoderS_ok : FnOK Try.prog 109 S_laws_szRecoderS := by
 refine at_enter 27 (fun x => ⟨[(0, aF s124 x.1), (1, aI x.2.1)], []⟩) Try.func109 rfl (by kernel_rfl) (fun x => rfl) ?_
 rintro w0 Z0 ⟨x0, x1, u⟩ a w
 revert x0 x1
 intro (x0 : (List T124)) (x1 : Int) hpre hlens h
 replace h : At w0 Z0 [] 27 ⟨[(0, aF s124 x0), (1, aI x1)], []⟩ a w := h
 replace hpre : (pSz s78) x0 x1 := hpre
 have hl1 : List.length x0 ≤ 9223372036854775807 := hlens.1.1
 have hT : TabOK Try.prog S_laws_szRecoderS_tab := (.cons S_laws_szRecoder_ok .nil)
 have hp : 0 ≤ x1 ∧ x1 ≤ 9223372036854775807 := hpre
 have hsz : Sh.sz s78 x0 = List.length x0 + ctL (Sh.sz s124) x0 := rfl
 refine wp_seq ?_
 refine at_regq [] { ts := [0, 1, 4], os := [] } [] gamOK hT h (by kernel_rfl) trivial fun a w h => then_normal (wp_seq ?_)
 refine at_regq [{}, {}, {}, { nw := true }] { ts := [0, 1, 4], os := [] } [I64 (x1 - ((List.length x0 : Nat) : Int))] gamOK hT h (by kernel_rfl) ⟨⟨by first | omega | (simp only [lsA]; omega) | (simp <;> omega), by first | omega | (simp only [lsA]; omega) | (simp <;> omega)⟩, trivial⟩ fun a w h => then_normal (wp_seq (wp_seq ?_))
 refine at_regq [] { ts := [0, 1, 4, 11], os := [] } [] gamOK hT h (by kernel_rfl) trivial fun a w h => then_normal ?_
 refine at_test (decide (x1 - ((List.length x0 : Nat) : Int) < 0)) h (by kernel_rfl) (fun h1 => ?_) (fun h1 => ?_)
 ·replace h1 : x1 - ((List.length x0 : Nat) : Int) < 0 := of_decide_eq_true h1
  refine wp_seq ?_
  refine at_regq [] { ts := [0, 1, 4], os := [] } [] gamOK hT h (by kernel_rfl) trivial fun a w h => then_normal (wp_ret (then_ret ?_))
  exact at_return (S := S_laws_szRecoderS) (x := (x0, x1, ())) ((-1), ()) [] h (by kernel_rfl) trivial (congrArg (fun z => (z, ())) (show ((-1)) = (szD s78) x0 x1 from by exact (szD_no (by omega)).symm))
 ·replace h1 : ¬ (x1 - ((List.length x0 : Nat) : Int) < 0) := of_decide_eq_false h1
  refine wp_skip (then_normal (wp_seq (wp_seq ?_)))
  refine at_regq [] { ts := [0, 1, 4, 5], os := [] } [] gamOK hT h (by kernel_rfl) trivial fun a w h => then_normal (wp_block ?_)
  replace h := at_out (σ' := ⟨[(0, aF s124 x0), (1, aI (x1 - ((List.length x0 : Nat) : Int))), (4, aI 0), (5, aI 0)], []⟩) { ts := [0, 1, 4, 5], os := [] } h (by kernel_rfl)
  refine at_loop (fun i : Nat => (⟨[(0, aF s124 x0), (1, aI (x1 - ((List.length x0 : Nat) : Int) - ((ctL (Sh.sz s124) (List.take i x0) : Nat) : Int))), (4, aI 0), (5, aI ((i : Nat) : Int))], []⟩ : St)) (fun i => (i ≤ List.length x0 ∧ ((List.length x0 : Nat) : Int) + ((ctL (Sh.sz s124) (List.take i x0) : Nat) : Int) ≤ x1)) (fun i => List.length x0 - i) (0) h (st_congr2 (fun (d0 : Int) (d1 : Int) => (⟨[(0, aF s124 x0), (1, aI d0), (4, aI 0), (5, aI d1)], []⟩ : St)) (show (x1 - ((List.length x0 : Nat) : Int) : Int) = (x1 - ((List.length x0 : Nat) : Int) - ((ctL (Sh.sz s124) (List.take (0) x0) : Nat) : Int)) from by first | with_reducible rfl | (simp [ctL]) | rfl) (show (0 : Int) = (((0) : Nat) : Int) from by first | with_reducible rfl | (simp [ctL]) | rfl)) (by simp [ctL]; omega) ?_
  intro i a w hok0 h
  refine wp_seq (wp_seq ?_)
  refine at_regq [] { ts := [0, 1, 4, 5, 15], os := [] } [] gamOK hT h (by kernel_rfl) trivial fun a w h => then_normal ?_
  refine at_test (decide (((i : Nat) : Int) < ((List.length x0 : Nat) : Int))) h (by kernel_rfl) (fun h2 => ?_) (fun h2 => ?_)
  ·replace h2 : ((i : Nat) : Int) < ((List.length x0 : Nat) : Int) := of_decide_eq_true h2
   have hat := ctL_at_le (c := Sh.sz s124) (xs := x0) (z := (0, (0, (0, ([], 0))))) (i := i) (by omega)
   have hsu := ctL_take_succ (c := Sh.sz s124) (xs := x0) (z := (0, (0, (0, ([], 0))))) (i := i) (by omega)
   refine wp_skip (then_normal (wp_seq (wp_block (wp_seq ?_))))
   refine at_regq [] { ts := [0, 1, 4, 5], os := [] } [(0 : Int) ≤ ((i : Nat) : Int) ∧ ((i : Nat) : Int) < ((List.length x0 : Nat) : Int), (pSz s124) (x0.getD i (0, (0, (0, ([], 0))))) (x1 - ((List.length x0 : Nat) : Int) - ((ctL (Sh.sz s124) (List.take i x0) : Nat) : Int))] gamOK hT h (by kernel_rfl) ⟨(by refine ⟨?_, ?_⟩ <;> (first | omega | (simp only [lsA]; omega) | (simp <;> omega))), (by (show (0 : Int) ≤ _ ∧ _ ≤ (9223372036854775807 : Int); constructor <;> omega)), trivial⟩ fun a w h => then_normal (wp_seq ?_)
   refine at_regq [] { ts := [0, 1, 4, 5, 25], os := [] } [] gamOK hT h (by kernel_rfl) trivial fun a w h => then_normal ?_
   refine at_test (decide (((szD s124) (x0.getD i (0, (0, (0, ([], 0))))) (x1 - ((List.length x0 : Nat) : Int) - ((ctL (Sh.sz s124) (List.take i x0) : Nat) : Int))) < 0)) h (by kernel_rfl) (fun h3 => ?_) (fun h3 => ?_)
   ·replace h3 : ((szD s124) (x0.getD i (0, (0, (0, ([], 0))))) (x1 - ((List.length x0 : Nat) : Int) - ((ctL (Sh.sz s124) (List.take i x0) : Nat) : Int))) < 0 := of_decide_eq_true h3
    have hvh3 := szD_neg h3 (by omega)
    refine wp_seq ?_
    refine at_regq [] { ts := [0, 1, 4, 5], os := [] } [] gamOK hT h (by kernel_rfl) trivial fun a w h => then_normal (wp_ret (in_ret (then_ret (then_ret (in_ret (then_ret ?_))))))
    exact at_return (S := S_laws_szRecoderS) (x := (x0, x1, ())) ((-1), ()) [] h (by kernel_rfl) trivial (congrArg (fun z => (z, ())) (show ((-1)) = (szD s78) x0 x1 from by exact (szD_no (by omega)).symm))
   ·replace h3 : ¬ (((szD s124) (x0.getD i (0, (0, (0, ([], 0))))) (x1 - ((List.length x0 : Nat) : Int) - ((ctL (Sh.sz s124) (List.take i x0) : Nat) : Int))) < 0) := of_decide_eq_false h3
    have hvh3 := szD_val h3 (by omega)
    refine wp_skip (in_normal (then_normal ?_))
    refine at_regq [{}, { nw := true }] { ts := [0, 1, 4, 5], os := [] } [I64 (((i : Nat) : Int) + 1)] gamOK hT h (by kernel_rfl) ⟨⟨by first | omega | (simp only [lsA]; omega) | (simp <;> omega), by first | omega | (simp only [lsA]; omega) | (simp <;> omega)⟩, trivial⟩ fun a w h => ?_
    replace h := at_out (σ' := ⟨[(0, aF s124 x0), (1, aI ((szD s124) (x0.getD i (0, (0, (0, ([], 0))))) (x1 - ((List.length x0 : Nat) : Int) - ((ctL (Sh.sz s124) (List.take i x0) : Nat) : Int)))), (4, aI 0), (5, aI (((i : Nat) : Int) + 1))], []⟩) { ts := [0, 1, 4, 5], os := [] } h (by kernel_rfl)
    exact ⟨i + 1, at_eq h (st_congr2 (fun (d0 : Int) (d1 : Int) => (⟨[(0, aF s124 x0), (1, aI d0), (4, aI 0), (5, aI d1)], []⟩ : St)) (show (((szD s124) (x0.getD i (0, (0, (0, ([], 0))))) (x1 - ((List.length x0 : Nat) : Int) - ((ctL (Sh.sz s124) (List.take i x0) : Nat) : Int))) : Int) = (x1 - ((List.length x0 : Nat) : Int) - ((ctL (Sh.sz s124) (List.take (i + 1) x0) : Nat) : Int)) from by first | with_reducible rfl | (omega) | rfl) (show (((i : Nat) : Int) + 1 : Int) = (((i + 1) : Nat) : Int) from by first | with_reducible rfl | (omega) | rfl)), (by constructor <;> omega), (by omega)⟩
  ·replace h2 : ¬ (((i : Nat) : Int) < ((List.length x0 : Nat) : Int)) := of_decide_eq_false h2
   refine wp_exit (then_exit (then_exit (in_hit (then_normal (wp_seq ?_)))))
   refine at_regq [] { ts := [4], os := [] } [] gamOK hT h (by kernel_rfl) trivial fun a w h => then_normal (wp_ret ?_)
   exact at_return (S := S_laws_szRecoderS) (x := (x0, x1, ())) ((x1 - ((List.length x0 : Nat) : Int) - ((ctL (Sh.sz s124) (List.take i x0) : Nat) : Int)), ()) [] h (by kernel_rfl) trivial (congrArg (fun z => (z, ())) (show ((x1 - ((List.length x0 : Nat) : Int) - ((ctL (Sh.sz s124) (List.take i x0) : Nat) : Int))) = (szD s78) x0 x1 from by (have hta : ctL (Sh.sz s124) (List.take i x0) = ctL (Sh.sz s124) x0 := congrArg (ctL (Sh.sz s124)) (take_all (by omega)); exact ((szD_ok (by omega)).trans (by omega)).symm)))

def S_laws_szSource : Sum := { fid := 38, dom := [s83, (.int 3)], cod := [(.int 3)], dp := true, fz := false, pre := fun x => (pSz s83) x.1 x.2.1, g := fun x => (((szD s83) x.1 x.2.1), ()) }
def S_laws_szSource_tab : List (Nat × Sum) := [(82, S_laws_szGenerationS), (109, S_laws_szRecoderS), (110, S_laws_szFeedbackTable)]
theorem S_laws_szSource_ok : FnOK Try.prog 38 S_laws_szSource := by
 refine at_enter 24 (fun x => ⟨[(0, aG [.ro s223 x.1.1, cI x.1.2.1.1, cI x.1.2.1.2.1, cI x.1.2.1.2.2.1, cI x.1.2.1.2.2.2, .ro s124 x.1.2.2.1, .ro s285 x.1.2.2.2.1, cI x.1.2.2.2.2]), (1, aI x.2.1)], []⟩) Try.func38 rfl (by kernel_rfl) (fun x => rfl) ?_
 rintro w0 Z0 ⟨x0, x1, u⟩ a w
 revert x0 x1
 intro (x0 : T83) (x1 : Int) hpre hlens h
 replace h : At w0 Z0 [] 24 ⟨[(0, aG [.ro s223 x0.1, cI x0.2.1.1, cI x0.2.1.2.1, cI x0.2.1.2.2.1, cI x0.2.1.2.2.2, .ro s124 x0.2.2.1, .ro s285 x0.2.2.2.1, cI x0.2.2.2.2]), (1, aI x1)], []⟩ a w := h
 replace hpre : (pSz s83) x0 x1 := hpre
 have hl1 : List.length x0.1 ≤ 9223372036854775807 := hlens.1.1.1
 have hl2 : List.length x0.2.2.1 ≤ 9223372036854775807 := hlens.1.2.2.1.1
 have hl3 : List.length x0.2.2.2.1 ≤ 9223372036854775807 := hlens.1.2.2.2.1.1
 have hT : TabOK Try.prog S_laws_szSource_tab := (.cons S_laws_szGenerationS_ok (.cons S_laws_szRecoderS_ok (.cons S_laws_szFeedbackTable_ok .nil)))
 have hp : 0 ≤ x1 ∧ x1 ≤ 9223372036854775807 := hpre
 have hsz : Sh.sz s83 x0 = ((Sh.sz s24 x0.1) + (0 + ((Sh.sz s78 x0.2.2.1) + ((Sh.sz s81 x0.2.2.2.1) + 0)))) := rfl
 refine wp_seq ?_
 refine at_regq [{ ids := [1] }] { ts := [1, 2, 4], os := [1] } [] gamOK hT h (by kernel_rfl) trivial fun a w h => then_normal (wp_seq ?_)
 refine at_regq [] { ts := [1, 2, 4], os := [1] } [(pSz s24) x0.1 x1] gamOK hT h (by kernel_rfl) ⟨(by (show (0 : Int) ≤ _ ∧ _ ≤ (9223372036854775807 : Int); constructor <;> omega)), trivial⟩ fun a w h => then_normal (wp_seq (wp_seq ?_))
 refine at_regq [] { ts := [1, 2, 4, 10], os := [1] } [] gamOK hT h (by kernel_rfl) trivial fun a w h => then_normal ?_
 refine at_test (decide (((szD s24) x0.1 x1) < 0)) h (by kernel_rfl) (fun h1 => ?_) (fun h1 => ?_)
 ·replace h1 : ((szD s24) x0.1 x1) < 0 := of_decide_eq_true h1
  have hvh1 := szD_neg h1 (by omega)
  refine wp_seq ?_
  refine at_regq [] { ts := [1, 2, 4], os := [1] } [] gamOK hT h (by kernel_rfl) trivial fun a w h => then_normal (wp_ret (then_ret ?_))
  exact at_return (S := S_laws_szSource) (x := (x0, x1, ())) ((-1), ()) [] h (by kernel_rfl) trivial (congrArg (fun z => (z, ())) (show ((-1)) = (szD s83) x0 x1 from by (first | exact (szD_no (by omega)).symm | exact ((szD_ok (by omega)).trans (by omega)).symm)))
 ·replace h1 : ¬ (((szD s24) x0.1 x1) < 0) := of_decide_eq_false h1
  have hvh1 := szD_val h1 (by omega)
  refine wp_skip (then_normal (wp_seq ?_))
  refine at_regq [] { ts := [1, 2, 4], os := [1] } [(pSz s78) x0.2.2.1 ((szD s24) x0.1 x1)] gamOK hT h (by kernel_rfl) ⟨(by (show (0 : Int) ≤ _ ∧ _ ≤ (9223372036854775807 : Int); constructor <;> omega)), trivial⟩ fun a w h => then_normal (wp_seq (wp_seq ?_))
  refine at_regq [] { ts := [1, 2, 4, 16], os := [1] } [] gamOK hT h (by kernel_rfl) trivial fun a w h => then_normal ?_
  refine at_test (decide (((szD s78) x0.2.2.1 ((szD s24) x0.1 x1)) < 0)) h (by kernel_rfl) (fun h2 => ?_) (fun h2 => ?_)
  ·replace h2 : ((szD s78) x0.2.2.1 ((szD s24) x0.1 x1)) < 0 := of_decide_eq_true h2
   have hvh2 := szD_neg h2 (by omega)
   refine wp_seq ?_
   refine at_regq [] { ts := [1, 2, 4], os := [1] } [] gamOK hT h (by kernel_rfl) trivial fun a w h => then_normal (wp_ret (then_ret ?_))
   exact at_return (S := S_laws_szSource) (x := (x0, x1, ())) ((-1), ()) [] h (by kernel_rfl) trivial (congrArg (fun z => (z, ())) (show ((-1)) = (szD s83) x0 x1 from by (first | exact (szD_no (by omega)).symm | exact ((szD_ok (by omega)).trans (by omega)).symm)))
  ·replace h2 : ¬ (((szD s78) x0.2.2.1 ((szD s24) x0.1 x1)) < 0) := of_decide_eq_false h2
   have hvh2 := szD_val h2 (by omega)
   refine wp_skip (then_normal (wp_seq ?_))
   refine at_regq [] { ts := [1, 4], os := [] } [(pSz s81) x0.2.2.2.1 ((szD s78) x0.2.2.1 ((szD s24) x0.1 x1))] gamOK hT h (by kernel_rfl) ⟨(by (show (0 : Int) ≤ _ ∧ _ ≤ (9223372036854775807 : Int); constructor <;> omega)), trivial⟩ fun a w h => then_normal (wp_seq (wp_seq ?_))
   refine at_regq [] { ts := [1, 4, 22], os := [] } [] gamOK hT h (by kernel_rfl) trivial fun a w h => then_normal ?_
   refine at_test (decide (((szD s81) x0.2.2.2.1 ((szD s78) x0.2.2.1 ((szD s24) x0.1 x1))) < 0)) h (by kernel_rfl) (fun h3 => ?_) (fun h3 => ?_)
   ·replace h3 : ((szD s81) x0.2.2.2.1 ((szD s78) x0.2.2.1 ((szD s24) x0.1 x1))) < 0 := of_decide_eq_true h3
    have hvh3 := szD_neg h3 (by omega)
    refine wp_seq ?_
    refine at_regq [] { ts := [1, 4], os := [] } [] gamOK hT h (by kernel_rfl) trivial fun a w h => then_normal (wp_ret (then_ret ?_))
    exact at_return (S := S_laws_szSource) (x := (x0, x1, ())) ((-1), ()) [] h (by kernel_rfl) trivial (congrArg (fun z => (z, ())) (show ((-1)) = (szD s83) x0 x1 from by (first | exact (szD_no (by omega)).symm | exact ((szD_ok (by omega)).trans (by omega)).symm)))
   ·replace h3 : ¬ (((szD s81) x0.2.2.2.1 ((szD s78) x0.2.2.1 ((szD s24) x0.1 x1))) < 0) := of_decide_eq_false h3
    have hvh3 := szD_val h3 (by omega)
    refine wp_skip (then_normal (wp_seq ?_))
    refine at_regq [] { ts := [4], os := [] } [] gamOK hT h (by kernel_rfl) trivial fun a w h => then_normal (wp_ret ?_)
    exact at_return (S := S_laws_szSource) (x := (x0, x1, ())) (((szD s81) x0.2.2.2.1 ((szD s78) x0.2.2.1 ((szD s24) x0.1 x1))), ()) [] h (by kernel_rfl) trivial (congrArg (fun z => (z, ())) (show (((szD s81) x0.2.2.2.1 ((szD s78) x0.2.2.1 ((szD s24) x0.1 x1)))) = (szD s83) x0 x1 from by (first | exact (szD_no (by omega)).symm | exact ((szD_ok (by omega)).trans (by omega)).symm)))

def S_laws_toIntS : Sum := { fid := 84, dom := [s22], cod := [s22], dp := true, fz := false, pre := fun x => (pTo s22) x.1, g := fun x => (((idD s22) x.1), ()) }
def S_laws_toIntS_tab : List (Nat × Sum) := []
theorem S_laws_toIntS_ok : FnOK Try.prog 84 S_laws_toIntS := by
 refine at_enter 22 (fun x => ⟨[(0, aF (.int 3) x.1)], []⟩) Try.func84 rfl (by kernel_rfl) (fun x => rfl) ?_
 rintro w0 Z0 ⟨x0, u⟩ a w
 revert x0
 intro (x0 : (List Int)) hpre hlens h
 replace h : At w0 Z0 [] 22 ⟨[(0, aF (.int 3) x0)], []⟩ a w := h
 replace hpre : (pTo s22) x0 := hpre
 have hl1 : List.length x0 ≤ 9223372036854775807 := hlens.1.1
 have hT : TabOK Try.prog S_laws_toIntS_tab := .nil
 have hp : Sh.sz s22 x0 ≤ 1048576 := hpre
 have hsz : Sh.sz s22 x0 = List.length x0 + ctL (Sh.sz (.int 3)) x0 := rfl
 refine wp_seq ?_
 refine at_regq [] { ts := [0, 2], os := [] } [] gamOK hT h (by kernel_rfl) trivial fun a w h => then_normal (wp_seq ?_)
 refine at_regq [{}, {}, { ids := [1] }] { ts := [0, 2, 3], os := [1] } [(0 : Int) ≤ ((List.length x0 : Nat) : Int) ∧ ((List.length x0 : Nat) : Int) = ((List.length x0 : Nat) : Int) ∧ ((List.length x0 : Nat) : Int) * (8 : Nat) ≤ (140737488355328 : Int)] gamOK hT h (by kernel_rfl) ⟨(by refine ⟨?_, ?_, ?_⟩ <;> ((have hA0 := mul_f ((List.length x0 : Nat) : Int) (8 : Nat); first | omega | (simp only [lsA, copyTo_len hok0]; omega) | (simp <;> omega)))), trivial⟩ fun a w h => then_normal (wp_seq (wp_seq ?_))
 refine at_regq [] { ts := [0, 2, 3, 4], os := [1] } [] gamOK hT h (by kernel_rfl) trivial fun a w h => then_normal (wp_block ?_)
 replace h := at_out (σ' := ⟨[(0, aF (.int 3) x0), (2, .p (.c (cN))), (3, aS 1), (4, aI 0)], [(1, oR (.int 3) (List.replicate (List.length x0) (0 : Int)))]⟩) { ts := [0, 2, 3, 4], os := [1] } h (by kernel_rfl)
 refine at_loop (fun i : Nat => (⟨[(0, aF (.int 3) x0), (2, .p (.c (cN))), (3, aS 1), (4, aI ((i : Nat) : Int))], [(1, oR (.int 3) (copyTo 0 x0 i))]⟩ : St)) (fun i => i ≤ List.length x0) (fun i => List.length x0 - i) (0) h (st_congr2 (fun (d0 : List Int) (d1 : Int) => (⟨[(0, aF (.int 3) x0), (2, .p (.c (cN))), (3, aS 1), (4, aI d1)], [(1, oR (.int 3) d0)]⟩ : St)) (show ((List.replicate (List.length x0) (0 : Int)) : List Int) = (copyTo 0 x0 (0)) from by first | with_reducible rfl | (exact copyTo_zero) | rfl) (show (0 : Int) = (((0) : Nat) : Int) from by first | with_reducible rfl | (exact copyTo_zero) | rfl)) (by first | omega | simp | (refine ⟨?_, ?_⟩ <;> first | omega | simp)) ?_
 intro i a w hok0 h
 refine wp_seq (wp_seq ?_)
 refine at_regq [] { ts := [0, 2, 3, 4, 11], os := [1] } [] gamOK hT h (by kernel_rfl) trivial fun a w h => then_normal ?_
 refine at_test (decide (((i : Nat) : Int) < ((List.length x0 : Nat) : Int))) h (by kernel_rfl) (fun h1 => ?_) (fun h1 => ?_)
 ·replace h1 : ((i : Nat) : Int) < ((List.length x0 : Nat) : Int) := of_decide_eq_true h1
  have hat := ctL_at_le (c := Sh.sz (.int 3)) (xs := x0) (z := 0) (i := i) (by omega)
  refine wp_skip (then_normal (wp_seq (wp_block ?_)))
  refine at_regq [] { ts := [0, 2, 3, 4], os := [1] } [(0 : Int) ≤ ((i : Nat) : Int) ∧ ((i : Nat) : Int) < ((List.length x0 : Nat) : Int), (0 : Int) ≤ ((i : Nat) : Int) ∧ ((i : Nat) : Int) < ((List.length (copyTo 0 x0 i) : Nat) : Int), i < List.length (copyTo 0 x0 i)] gamOK hT h (by kernel_rfl) ⟨(by refine ⟨?_, ?_⟩ <;> (first | omega | (simp only [lsA, copyTo_len hok0]; omega) | (simp <;> omega))), (by refine ⟨?_, ?_⟩ <;> (first | omega | (simp only [lsA, copyTo_len hok0]; omega) | (simp <;> omega))), (by first | omega | (simp only [lsA, copyTo_len hok0]; omega) | (simp <;> omega)), trivial⟩ fun a w h => in_normal (then_normal ?_)
  refine at_regq [{}, { nw := true }] { ts := [0, 2, 3, 4], os := [1] } [I64 (((i : Nat) : Int) + 1)] gamOK hT h (by kernel_rfl) ⟨⟨by first | omega | (simp only [lsA, copyTo_len hok0]; omega) | (simp <;> omega), by first | omega | (simp only [lsA, copyTo_len hok0]; omega) | (simp <;> omega)⟩, trivial⟩ fun a w h => ?_
  replace h := at_out (σ' := ⟨[(0, aF (.int 3) x0), (2, .p (.c (cN))), (3, aS 1), (4, aI (((i : Nat) : Int) + 1))], [(1, oR (.int 3) (List.set (copyTo 0 x0 i) i (x0.getD i 0)))]⟩) { ts := [0, 2, 3, 4], os := [1] } h (by kernel_rfl)
  exact ⟨i + 1, at_eq h (st_congr2 (fun (d0 : List Int) (d1 : Int) => (⟨[(0, aF (.int 3) x0), (2, .p (.c (cN))), (3, aS 1), (4, aI d1)], [(1, oR (.int 3) d0)]⟩ : St)) (show ((List.set (copyTo 0 x0 i) i (x0.getD i 0)) : List Int) = (copyTo 0 x0 (i + 1)) from by first | with_reducible rfl | (exact copyTo_set (by omega)) | rfl) (show (((i : Nat) : Int) + 1 : Int) = (((i + 1) : Nat) : Int) from by first | with_reducible rfl | (omega) | rfl)), (by first | omega | (refine ⟨?_, ?_⟩ <;> omega)), (by omega)⟩
 ·replace h1 : ¬ (((i : Nat) : Int) < ((List.length x0 : Nat) : Int)) := of_decide_eq_false h1
  refine wp_exit (then_exit (then_exit (in_hit (then_normal (wp_seq ?_)))))
  refine at_regq [] { ts := [2], os := [1] } [] gamOK hT h (by kernel_rfl) trivial fun a w h => then_normal (wp_ret ?_)
  exact at_return (S := S_laws_toIntS) (x := (x0, ())) ((copyTo 0 x0 i), ()) [] h (by kernel_rfl) trivial (congrArg (fun z => (z, ())) (show ((copyTo 0 x0 i)) = (idD s22) x0 from by (rw [copyTo_all (by omega)]; rfl)))

def S_laws_toIntSS : Sum := { fid := 132, dom := [s97], cod := [s97], dp := true, fz := false, pre := fun x => (pTo s97) x.1, g := fun x => (((idD s97) x.1), ()) }
def S_laws_toIntSS_tab : List (Nat × Sum) := [(84, S_laws_toIntS)]
theorem S_laws_toIntSS_ok : FnOK Try.prog 132 S_laws_toIntSS := by
 refine at_enter 23 (fun x => ⟨[(0, aF s22 x.1)], []⟩) Try.func132 rfl (by kernel_rfl) (fun x => rfl) ?_
 rintro w0 Z0 ⟨x0, u⟩ a w
 revert x0
 intro (x0 : (List (List Int))) hpre hlens h
 replace h : At w0 Z0 [] 23 ⟨[(0, aF s22 x0)], []⟩ a w := h
 replace hpre : (pTo s97) x0 := hpre
 have hl1 : List.length x0 ≤ 9223372036854775807 := hlens.1.1
 have hT : TabOK Try.prog S_laws_toIntSS_tab := (.cons S_laws_toIntS_ok .nil)
 have hp : Sh.sz s97 x0 ≤ 1048576 := hpre
 have hsz : Sh.sz s97 x0 = List.length x0 + ctL (Sh.sz s22) x0 := rfl
 refine wp_seq ?_
 refine at_regq [] { ts := [0, 2], os := [] } [] gamOK hT h (by kernel_rfl) trivial fun a w h => then_normal (wp_seq ?_)
 refine at_regq [{}, {}, { ids := [1] }] { ts := [0, 2, 3], os := [1] } [(0 : Int) ≤ ((List.length x0 : Nat) : Int) ∧ ((List.length x0 : Nat) : Int) = ((List.length x0 : Nat) : Int) ∧ ((List.length x0 : Nat) : Int) * (24 : Nat) ≤ (140737488355328 : Int)] gamOK hT h (by kernel_rfl) ⟨(by refine ⟨?_, ?_, ?_⟩ <;> ((have hA0 := mul_f ((List.length x0 : Nat) : Int) (24 : Nat); first | omega | (simp only [lsA, copyTo_len hok0]; omega) | (simp <;> omega)))), trivial⟩ fun a w h => then_normal (wp_seq (wp_seq ?_))
 refine at_regq [] { ts := [0, 2, 3, 4], os := [1] } [] gamOK hT h (by kernel_rfl) trivial fun a w h => then_normal (wp_block ?_)
 replace h := at_out (σ' := ⟨[(0, aF s22 x0), (2, .p (.c (cN))), (3, aS 1), (4, aI 0)], [(1, oR s22 (List.replicate (List.length x0) ([] : (List Int))))]⟩) { ts := [0, 2, 3, 4], os := [1] } h (by kernel_rfl)
 refine at_loop (fun i : Nat => (⟨[(0, aF s22 x0), (2, .p (.c (cN))), (3, aS 1), (4, aI ((i : Nat) : Int))], [(1, oR s22 (copyTo [] x0 i))]⟩ : St)) (fun i => i ≤ List.length x0) (fun i => List.length x0 - i) (0) h (st_congr2 (fun (d0 : List (List Int)) (d1 : Int) => (⟨[(0, aF s22 x0), (2, .p (.c (cN))), (3, aS 1), (4, aI d1)], [(1, oR s22 d0)]⟩ : St)) (show ((List.replicate (List.length x0) ([] : (List Int))) : List (List Int)) = (copyTo [] x0 (0)) from by first | with_reducible rfl | (exact copyTo_zero) | rfl) (show (0 : Int) = (((0) : Nat) : Int) from by first | with_reducible rfl | (exact copyTo_zero) | rfl)) (by first | omega | simp | (refine ⟨?_, ?_⟩ <;> first | omega | simp)) ?_
 intro i a w hok0 h
 refine wp_seq (wp_seq ?_)
 refine at_regq [] { ts := [0, 2, 3, 4, 11], os := [1] } [] gamOK hT h (by kernel_rfl) trivial fun a w h => then_normal ?_
 refine at_test (decide (((i : Nat) : Int) < ((List.length x0 : Nat) : Int))) h (by kernel_rfl) (fun h1 => ?_) (fun h1 => ?_)
 ·replace h1 : ((i : Nat) : Int) < ((List.length x0 : Nat) : Int) := of_decide_eq_true h1
  have hat := ctL_at_le (c := Sh.sz s22) (xs := x0) (z := []) (i := i) (by omega)
  refine wp_skip (then_normal (wp_seq (wp_block ?_)))
  refine at_regq [{}, {}, {}, {}, {}, {}, { ids := [2] }] { ts := [0, 2, 3, 4], os := [1] } [(0 : Int) ≤ ((i : Nat) : Int) ∧ ((i : Nat) : Int) < ((List.length x0 : Nat) : Int), (pTo s22) (x0.getD i []), (0 : Int) ≤ ((i : Nat) : Int) ∧ ((i : Nat) : Int) < ((List.length (copyTo [] x0 i) : Nat) : Int), i < List.length (copyTo [] x0 i)] gamOK hT h (by kernel_rfl) ⟨(by refine ⟨?_, ?_⟩ <;> (first | omega | (simp only [lsA, copyTo_len hok0]; omega) | (simp <;> omega))), (by (show Sh.sz _ _ ≤ 1048576; omega)), (by refine ⟨?_, ?_⟩ <;> (first | omega | (simp only [lsA, copyTo_len hok0]; omega) | (simp <;> omega))), (by first | omega | (simp only [lsA, copyTo_len hok0]; omega) | (simp <;> omega)), trivial⟩ fun a w h => in_normal (then_normal ?_)
  refine at_regq [{}, { nw := true }] { ts := [0, 2, 3, 4], os := [1] } [I64 (((i : Nat) : Int) + 1)] gamOK hT h (by kernel_rfl) ⟨⟨by first | omega | (simp only [lsA, copyTo_len hok0]; omega) | (simp <;> omega), by first | omega | (simp only [lsA, copyTo_len hok0]; omega) | (simp <;> omega)⟩, trivial⟩ fun a w h => ?_
  replace h := at_out (σ' := ⟨[(0, aF s22 x0), (2, .p (.c (cN))), (3, aS 1), (4, aI (((i : Nat) : Int) + 1))], [(1, oR s22 (List.set (copyTo [] x0 i) i (x0.getD i [])))]⟩) { ts := [0, 2, 3, 4], os := [1] } h (by kernel_rfl)
  exact ⟨i + 1, at_eq h (st_congr2 (fun (d0 : List (List Int)) (d1 : Int) => (⟨[(0, aF s22 x0), (2, .p (.c (cN))), (3, aS 1), (4, aI d1)], [(1, oR s22 d0)]⟩ : St)) (show ((List.set (copyTo [] x0 i) i (x0.getD i [])) : List (List Int)) = (copyTo [] x0 (i + 1)) from by first | with_reducible rfl | (exact copyTo_set (by omega)) | rfl) (show (((i : Nat) : Int) + 1 : Int) = (((i + 1) : Nat) : Int) from by first | with_reducible rfl | (omega) | rfl)), (by first | omega | (refine ⟨?_, ?_⟩ <;> omega)), (by omega)⟩
 ·replace h1 : ¬ (((i : Nat) : Int) < ((List.length x0 : Nat) : Int)) := of_decide_eq_false h1
  refine wp_exit (then_exit (then_exit (in_hit (then_normal (wp_seq ?_)))))
  refine at_regq [] { ts := [2], os := [1] } [] gamOK hT h (by kernel_rfl) trivial fun a w h => then_normal (wp_ret ?_)
  exact at_return (S := S_laws_toIntSS) (x := (x0, ())) ((copyTo [] x0 i), ()) [] h (by kernel_rfl) trivial (congrArg (fun z => (z, ())) (show ((copyTo [] x0 i)) = (idD s97) x0 from by (rw [copyTo_all (by omega)]; rfl)))

def S_laws_toCodedPacket : Sum := { fid := 56, dom := [s44], cod := [s61], dp := true, fz := false, pre := fun x => (pTo s44) x.1, g := fun x => (((idD s44) x.1), ()) }
def S_laws_toCodedPacket_tab : List (Nat × Sum) := [(84, S_laws_toIntS)]
theorem S_laws_toCodedPacket_ok : FnOK Try.prog 56 S_laws_toCodedPacket := by
 refine at_enter 16 (fun x => ⟨[(0, aG [cI x.1.1, .ro (.int 3) x.1.2.1, .ro (.int 3) x.1.2.2])], []⟩) Try.func56 rfl (by kernel_rfl) (fun x => rfl) ?_
 rintro w0 Z0 ⟨x0, u⟩ a w
 revert x0
 intro (x0 : T44) hpre hlens h
 replace h : At w0 Z0 [] 16 ⟨[(0, aG [cI x0.1, .ro (.int 3) x0.2.1, .ro (.int 3) x0.2.2])], []⟩ a w := h
 replace hpre : (pTo s44) x0 := hpre
 have hl1 : List.length x0.2.1 ≤ 9223372036854775807 := hlens.1.2.1.1
 have hl2 : List.length x0.2.2 ≤ 9223372036854775807 := hlens.1.2.2.1
 have hT : TabOK Try.prog S_laws_toCodedPacket_tab := (.cons S_laws_toIntS_ok .nil)
 have hp : Sh.sz s44 x0 ≤ 1048576 := hpre
 have hsz : Sh.sz s44 x0 = (0 + ((Sh.sz s22 x0.2.1) + (Sh.sz s22 x0.2.2))) := rfl
 refine wp_seq ?_
 refine at_regq [{ ids := [1] }, { ids := [2] }] { ts := [1, 2], os := [1, 2] } [] gamOK hT h (by kernel_rfl) trivial fun a w h => then_normal (wp_seq ?_)
 refine at_regq [{ ids := [3] }] { ts := [1, 2, 3], os := [1, 2, 3] } [] gamOK hT h (by kernel_rfl) trivial fun a w h => then_normal (wp_seq ?_)
 refine at_regq [] { ts := [1, 2, 3], os := [1, 2, 3] } [] gamOK hT h (by kernel_rfl) trivial fun a w h => then_normal (wp_seq ?_)
 refine at_regq [{}, {}, { ids := [4] }] { ts := [1, 2, 3], os := [1, 2, 3, 4] } [(pTo s22) x0.2.1] gamOK hT h (by kernel_rfl) ⟨(by (show Sh.sz _ _ ≤ 1048576; first | omega | (show (0 : Nat) ≤ 1048576; decide))), trivial⟩ fun a w h => then_normal (wp_seq ?_)
 refine at_regq [{}, {}, { ids := [5] }] { ts := [2, 3], os := [2, 3, 4, 5] } [(pTo s22) x0.2.2] gamOK hT h (by kernel_rfl) ⟨(by (show Sh.sz _ _ ≤ 1048576; first | omega | (show (0 : Nat) ≤ 1048576; decide))), trivial⟩ fun a w h => then_normal (wp_seq ?_)
 refine at_regq [] { ts := [2], os := [2, 4, 5] } [] gamOK hT h (by kernel_rfl) trivial fun a w h => then_normal (wp_ret ?_)
 exact at_return (S := S_laws_toCodedPacket) (x := (x0, ())) (x0, ()) [] h (by kernel_rfl) trivial (congrArg (fun z => (z, ())) (show (x0) = (idD s44) x0 from by rfl))

def S_laws_toCodedPacketS : Sum := { fid := 155, dom := [s122], cod := [s126], dp := true, fz := false, pre := fun x => (pTo s122) x.1, g := fun x => (((idD s122) x.1), ()) }
def S_laws_toCodedPacketS_tab : List (Nat × Sum) := [(56, S_laws_toCodedPacket)]
theorem S_laws_toCodedPacketS_ok : FnOK Try.prog 155 S_laws_toCodedPacketS := by
 refine at_enter 23 (fun x => ⟨[(0, aF s44 x.1)], []⟩) Try.func155 rfl (by kernel_rfl) (fun x => rfl) ?_
 rintro w0 Z0 ⟨x0, u⟩ a w
 revert x0
 intro (x0 : (List T44)) hpre hlens h
 replace h : At w0 Z0 [] 23 ⟨[(0, aF s44 x0)], []⟩ a w := h
 replace hpre : (pTo s122) x0 := hpre
 have hl1 : List.length x0 ≤ 9223372036854775807 := hlens.1.1
 have hT : TabOK Try.prog S_laws_toCodedPacketS_tab := (.cons S_laws_toCodedPacket_ok .nil)
 have hp : Sh.sz s122 x0 ≤ 1048576 := hpre
 have hsz : Sh.sz s122 x0 = List.length x0 + ctL (Sh.sz s44) x0 := rfl
 refine wp_seq ?_
 refine at_regq [] { ts := [0, 2], os := [] } [] gamOK hT h (by kernel_rfl) trivial fun a w h => then_normal (wp_seq ?_)
 refine at_regq [{}, {}, { ids := [1] }] { ts := [0, 2, 3], os := [1] } [(0 : Int) ≤ ((List.length x0 : Nat) : Int) ∧ ((List.length x0 : Nat) : Int) = ((List.length x0 : Nat) : Int) ∧ ((List.length x0 : Nat) : Int) * (56 : Nat) ≤ (140737488355328 : Int)] gamOK hT h (by kernel_rfl) ⟨(by refine ⟨?_, ?_, ?_⟩ <;> ((have hA0 := mul_f ((List.length x0 : Nat) : Int) (56 : Nat); first | omega | (simp only [lsA, copyTo_len hok0]; omega) | (simp <;> omega)))), trivial⟩ fun a w h => then_normal (wp_seq (wp_seq ?_))
 refine at_regq [] { ts := [0, 2, 3, 4], os := [1] } [] gamOK hT h (by kernel_rfl) trivial fun a w h => then_normal (wp_block ?_)
 replace h := at_out (σ' := ⟨[(0, aF s44 x0), (2, .p (.c (cN))), (3, aS 1), (4, aI 0)], [(1, oR s61 (List.replicate (List.length x0) ((0, ([], [])) : T61)))]⟩) { ts := [0, 2, 3, 4], os := [1] } h (by kernel_rfl)
 refine at_loop (fun i : Nat => (⟨[(0, aF s44 x0), (2, .p (.c (cN))), (3, aS 1), (4, aI ((i : Nat) : Int))], [(1, oR s61 (copyTo (0, ([], [])) x0 i))]⟩ : St)) (fun i => i ≤ List.length x0) (fun i => List.length x0 - i) (0) h (st_congr2 (fun (d0 : List T61) (d1 : Int) => (⟨[(0, aF s44 x0), (2, .p (.c (cN))), (3, aS 1), (4, aI d1)], [(1, oR s61 d0)]⟩ : St)) (show ((List.replicate (List.length x0) ((0, ([], [])) : T61)) : List T61) = (copyTo (0, ([], [])) x0 (0)) from by first | with_reducible rfl | (exact copyTo_zero) | rfl) (show (0 : Int) = (((0) : Nat) : Int) from by first | with_reducible rfl | (exact copyTo_zero) | rfl)) (by first | omega | simp | (refine ⟨?_, ?_⟩ <;> first | omega | simp)) ?_
 intro i a w hok0 h
 refine wp_seq (wp_seq ?_)
 refine at_regq [] { ts := [0, 2, 3, 4, 11], os := [1] } [] gamOK hT h (by kernel_rfl) trivial fun a w h => then_normal ?_
 refine at_test (decide (((i : Nat) : Int) < ((List.length x0 : Nat) : Int))) h (by kernel_rfl) (fun h1 => ?_) (fun h1 => ?_)
 ·replace h1 : ((i : Nat) : Int) < ((List.length x0 : Nat) : Int) := of_decide_eq_true h1
  have hat := ctL_at_le (c := Sh.sz s44) (xs := x0) (z := (0, ([], []))) (i := i) (by omega)
  refine wp_skip (then_normal (wp_seq (wp_block ?_)))
  refine at_regq [{}, {}, {}, {}, {}, {}, { ids := [2, 3] }] { ts := [0, 2, 3, 4], os := [1] } [(0 : Int) ≤ ((i : Nat) : Int) ∧ ((i : Nat) : Int) < ((List.length x0 : Nat) : Int), (pTo s44) (x0.getD i (0, ([], []))), (0 : Int) ≤ ((i : Nat) : Int) ∧ ((i : Nat) : Int) < ((List.length (copyTo (0, ([], [])) x0 i) : Nat) : Int), i < List.length (copyTo (0, ([], [])) x0 i)] gamOK hT h (by kernel_rfl) ⟨(by refine ⟨?_, ?_⟩ <;> (first | omega | (simp only [lsA, copyTo_len hok0]; omega) | (simp <;> omega))), (by (show Sh.sz _ _ ≤ 1048576; omega)), (by refine ⟨?_, ?_⟩ <;> (first | omega | (simp only [lsA, copyTo_len hok0]; omega) | (simp <;> omega))), (by first | omega | (simp only [lsA, copyTo_len hok0]; omega) | (simp <;> omega)), trivial⟩ fun a w h => in_normal (then_normal ?_)
  refine at_regq [{}, { nw := true }] { ts := [0, 2, 3, 4], os := [1] } [I64 (((i : Nat) : Int) + 1)] gamOK hT h (by kernel_rfl) ⟨⟨by first | omega | (simp only [lsA, copyTo_len hok0]; omega) | (simp <;> omega), by first | omega | (simp only [lsA, copyTo_len hok0]; omega) | (simp <;> omega)⟩, trivial⟩ fun a w h => ?_
  replace h := at_out (σ' := ⟨[(0, aF s44 x0), (2, .p (.c (cN))), (3, aS 1), (4, aI (((i : Nat) : Int) + 1))], [(1, oR s61 (List.set (copyTo (0, ([], [])) x0 i) i (x0.getD i (0, ([], [])))))]⟩) { ts := [0, 2, 3, 4], os := [1] } h (by kernel_rfl)
  exact ⟨i + 1, at_eq h (st_congr2 (fun (d0 : List T61) (d1 : Int) => (⟨[(0, aF s44 x0), (2, .p (.c (cN))), (3, aS 1), (4, aI d1)], [(1, oR s61 d0)]⟩ : St)) (show ((List.set (copyTo (0, ([], [])) x0 i) i (x0.getD i (0, ([], [])))) : List T61) = (copyTo (0, ([], [])) x0 (i + 1)) from by first | with_reducible rfl | (exact copyTo_set (by omega)) | rfl) (show (((i : Nat) : Int) + 1 : Int) = (((i + 1) : Nat) : Int) from by first | with_reducible rfl | (omega) | rfl)), (by first | omega | (refine ⟨?_, ?_⟩ <;> omega)), (by omega)⟩
 ·replace h1 : ¬ (((i : Nat) : Int) < ((List.length x0 : Nat) : Int)) := of_decide_eq_false h1
  refine wp_exit (then_exit (then_exit (in_hit (then_normal (wp_seq ?_)))))
  refine at_regq [] { ts := [2], os := [1] } [] gamOK hT h (by kernel_rfl) trivial fun a w h => then_normal (wp_ret ?_)
  exact at_return (S := S_laws_toCodedPacketS) (x := (x0, ())) ((copyTo (0, ([], [])) x0 i), ()) [] h (by kernel_rfl) trivial (congrArg (fun z => (z, ())) (show ((copyTo (0, ([], [])) x0 i)) = (idD s122) x0 from by (rw [copyTo_all (by omega)]; rfl)))

def S_laws_toFeedback : Sum := { fid := 275, dom := [s285], cod := [s247], dp := true, fz := false, pre := fun x => (pTo s285) x.1, g := fun x => (((idD s285) x.1), ()) }
def S_laws_toFeedback_tab : List (Nat × Sum) := []
theorem S_laws_toFeedback_ok : FnOK Try.prog 275 S_laws_toFeedback := by
 refine at_enter 14 (fun x => ⟨[(0, aG [cI x.1.1, cI x.1.2.1, cI x.1.2.2])], []⟩) Try.func275 rfl (by kernel_rfl) (fun x => rfl) ?_
 rintro w0 Z0 ⟨x0, u⟩ a w
 revert x0
 intro (x0 : T285) hpre hlens h
 replace h : At w0 Z0 [] 14 ⟨[(0, aG [cI x0.1, cI x0.2.1, cI x0.2.2])], []⟩ a w := h
 replace hpre : (pTo s285) x0 := hpre
 have hT : TabOK Try.prog S_laws_toFeedback_tab := .nil
 have hp : Sh.sz s285 x0 ≤ 1048576 := hpre
 have hsz : Sh.sz s285 x0 = (0 + (0 + 0)) := rfl
 refine wp_seq ?_
 refine at_regq [{ ids := [1] }, { ids := [2] }] { ts := [1, 2], os := [1, 2] } [] gamOK hT h (by kernel_rfl) trivial fun a w h => then_normal (wp_seq ?_)
 refine at_regq [{ ids := [3] }] { ts := [1, 2, 3], os := [1, 2, 3] } [] gamOK hT h (by kernel_rfl) trivial fun a w h => then_normal (wp_seq ?_)
 refine at_regq [] { ts := [1, 2, 3], os := [1, 2, 3] } [] gamOK hT h (by kernel_rfl) trivial fun a w h => then_normal (wp_seq ?_)
 refine at_regq [] { ts := [1, 2, 3], os := [1, 2, 3] } [] gamOK hT h (by kernel_rfl) trivial fun a w h => then_normal (wp_seq ?_)
 refine at_regq [] { ts := [2, 3], os := [2, 3] } [] gamOK hT h (by kernel_rfl) trivial fun a w h => then_normal (wp_seq ?_)
 refine at_regq [] { ts := [2], os := [2] } [] gamOK hT h (by kernel_rfl) trivial fun a w h => then_normal (wp_ret ?_)
 exact at_return (S := S_laws_toFeedback) (x := (x0, ())) (x0, ()) [] h (by kernel_rfl) trivial (congrArg (fun z => (z, ())) (show (x0) = (idD s285) x0 from by rfl))

def S_laws_toFeedbackS : Sum := { fid := 203, dom := [s79], cod := [s87], dp := true, fz := false, pre := fun x => (pTo s79) x.1, g := fun x => (((idD s79) x.1), ()) }
def S_laws_toFeedbackS_tab : List (Nat × Sum) := [(275, S_laws_toFeedback)]
theorem S_laws_toFeedbackS_ok : FnOK Try.prog 203 S_laws_toFeedbackS := by
 refine at_enter 23 (fun x => ⟨[(0, aF s285 x.1)], []⟩) Try.func203 rfl (by kernel_rfl) (fun x => rfl) ?_
 rintro w0 Z0 ⟨x0, u⟩ a w
 revert x0
 intro (x0 : (List T285)) hpre hlens h
 replace h : At w0 Z0 [] 23 ⟨[(0, aF s285 x0)], []⟩ a w := h
 replace hpre : (pTo s79) x0 := hpre
 have hl1 : List.length x0 ≤ 9223372036854775807 := hlens.1.1
 have hT : TabOK Try.prog S_laws_toFeedbackS_tab := (.cons S_laws_toFeedback_ok .nil)
 have hp : Sh.sz s79 x0 ≤ 1048576 := hpre
 have hsz : Sh.sz s79 x0 = List.length x0 + ctL (Sh.sz s285) x0 := rfl
 refine wp_seq ?_
 refine at_regq [] { ts := [0, 2], os := [] } [] gamOK hT h (by kernel_rfl) trivial fun a w h => then_normal (wp_seq ?_)
 refine at_regq [{}, {}, { ids := [1] }] { ts := [0, 2, 3], os := [1] } [(0 : Int) ≤ ((List.length x0 : Nat) : Int) ∧ ((List.length x0 : Nat) : Int) = ((List.length x0 : Nat) : Int) ∧ ((List.length x0 : Nat) : Int) * (24 : Nat) ≤ (140737488355328 : Int)] gamOK hT h (by kernel_rfl) ⟨(by refine ⟨?_, ?_, ?_⟩ <;> ((have hA0 := mul_f ((List.length x0 : Nat) : Int) (24 : Nat); first | omega | (simp only [lsA, copyTo_len hok0]; omega) | (simp <;> omega)))), trivial⟩ fun a w h => then_normal (wp_seq (wp_seq ?_))
 refine at_regq [] { ts := [0, 2, 3, 4], os := [1] } [] gamOK hT h (by kernel_rfl) trivial fun a w h => then_normal (wp_block ?_)
 replace h := at_out (σ' := ⟨[(0, aF s285 x0), (2, .p (.c (cN))), (3, aS 1), (4, aI 0)], [(1, oR s247 (List.replicate (List.length x0) ((0, (0, 0)) : T247)))]⟩) { ts := [0, 2, 3, 4], os := [1] } h (by kernel_rfl)
 refine at_loop (fun i : Nat => (⟨[(0, aF s285 x0), (2, .p (.c (cN))), (3, aS 1), (4, aI ((i : Nat) : Int))], [(1, oR s247 (copyTo (0, (0, 0)) x0 i))]⟩ : St)) (fun i => i ≤ List.length x0) (fun i => List.length x0 - i) (0) h (st_congr2 (fun (d0 : List T247) (d1 : Int) => (⟨[(0, aF s285 x0), (2, .p (.c (cN))), (3, aS 1), (4, aI d1)], [(1, oR s247 d0)]⟩ : St)) (show ((List.replicate (List.length x0) ((0, (0, 0)) : T247)) : List T247) = (copyTo (0, (0, 0)) x0 (0)) from by first | with_reducible rfl | (exact copyTo_zero) | rfl) (show (0 : Int) = (((0) : Nat) : Int) from by first | with_reducible rfl | (exact copyTo_zero) | rfl)) (by first | omega | simp | (refine ⟨?_, ?_⟩ <;> first | omega | simp)) ?_
 intro i a w hok0 h
 refine wp_seq (wp_seq ?_)
 refine at_regq [] { ts := [0, 2, 3, 4, 11], os := [1] } [] gamOK hT h (by kernel_rfl) trivial fun a w h => then_normal ?_
 refine at_test (decide (((i : Nat) : Int) < ((List.length x0 : Nat) : Int))) h (by kernel_rfl) (fun h1 => ?_) (fun h1 => ?_)
 ·replace h1 : ((i : Nat) : Int) < ((List.length x0 : Nat) : Int) := of_decide_eq_true h1
  have hat := ctL_at_le (c := Sh.sz s285) (xs := x0) (z := (0, (0, 0))) (i := i) (by omega)
  refine wp_skip (then_normal (wp_seq (wp_block ?_)))
  refine at_regq [] { ts := [0, 2, 3, 4], os := [1] } [(0 : Int) ≤ ((i : Nat) : Int) ∧ ((i : Nat) : Int) < ((List.length x0 : Nat) : Int), (pTo s285) (x0.getD i (0, (0, 0))), (0 : Int) ≤ ((i : Nat) : Int) ∧ ((i : Nat) : Int) < ((List.length (copyTo (0, (0, 0)) x0 i) : Nat) : Int), i < List.length (copyTo (0, (0, 0)) x0 i)] gamOK hT h (by kernel_rfl) ⟨(by refine ⟨?_, ?_⟩ <;> (first | omega | (simp only [lsA, copyTo_len hok0]; omega) | (simp <;> omega))), (by (show Sh.sz _ _ ≤ 1048576; omega)), (by refine ⟨?_, ?_⟩ <;> (first | omega | (simp only [lsA, copyTo_len hok0]; omega) | (simp <;> omega))), (by first | omega | (simp only [lsA, copyTo_len hok0]; omega) | (simp <;> omega)), trivial⟩ fun a w h => in_normal (then_normal ?_)
  refine at_regq [{}, { nw := true }] { ts := [0, 2, 3, 4], os := [1] } [I64 (((i : Nat) : Int) + 1)] gamOK hT h (by kernel_rfl) ⟨⟨by first | omega | (simp only [lsA, copyTo_len hok0]; omega) | (simp <;> omega), by first | omega | (simp only [lsA, copyTo_len hok0]; omega) | (simp <;> omega)⟩, trivial⟩ fun a w h => ?_
  replace h := at_out (σ' := ⟨[(0, aF s285 x0), (2, .p (.c (cN))), (3, aS 1), (4, aI (((i : Nat) : Int) + 1))], [(1, oR s247 (List.set (copyTo (0, (0, 0)) x0 i) i (x0.getD i (0, (0, 0)))))]⟩) { ts := [0, 2, 3, 4], os := [1] } h (by kernel_rfl)
  exact ⟨i + 1, at_eq h (st_congr2 (fun (d0 : List T247) (d1 : Int) => (⟨[(0, aF s285 x0), (2, .p (.c (cN))), (3, aS 1), (4, aI d1)], [(1, oR s247 d0)]⟩ : St)) (show ((List.set (copyTo (0, (0, 0)) x0 i) i (x0.getD i (0, (0, 0)))) : List T247) = (copyTo (0, (0, 0)) x0 (i + 1)) from by first | with_reducible rfl | (exact copyTo_set (by omega)) | rfl) (show (((i : Nat) : Int) + 1 : Int) = (((i + 1) : Nat) : Int) from by first | with_reducible rfl | (omega) | rfl)), (by first | omega | (refine ⟨?_, ?_⟩ <;> omega)), (by omega)⟩
 ·replace h1 : ¬ (((i : Nat) : Int) < ((List.length x0 : Nat) : Int)) := of_decide_eq_false h1
  refine wp_exit (then_exit (then_exit (in_hit (then_normal (wp_seq ?_)))))
  refine at_regq [] { ts := [2], os := [1] } [] gamOK hT h (by kernel_rfl) trivial fun a w h => then_normal (wp_ret ?_)
  exact at_return (S := S_laws_toFeedbackS) (x := (x0, ())) ((copyTo (0, (0, 0)) x0 i), ()) [] h (by kernel_rfl) trivial (congrArg (fun z => (z, ())) (show ((copyTo (0, (0, 0)) x0 i)) = (idD s79) x0 from by (rw [copyTo_all (by omega)]; rfl)))

def S_laws_toFeedbackTable : Sum := { fid := 115, dom := [s81], cod := [s89], dp := true, fz := false, pre := fun x => (pTo s81) x.1, g := fun x => (((idD s81) x.1), ()) }
def S_laws_toFeedbackTable_tab : List (Nat × Sum) := [(203, S_laws_toFeedbackS)]
theorem S_laws_toFeedbackTable_ok : FnOK Try.prog 115 S_laws_toFeedbackTable := by
 refine at_enter 9 (fun x => ⟨[(0, aG [.ro s285 x.1])], []⟩) Try.func115 rfl (by kernel_rfl) (fun x => rfl) ?_
 rintro w0 Z0 ⟨x0, u⟩ a w
 revert x0
 intro (x0 : (List T285)) hpre hlens h
 replace h : At w0 Z0 [] 9 ⟨[(0, aG [.ro s285 x0])], []⟩ a w := h
 replace hpre : (pTo s81) x0 := hpre
 have hl1 : List.length x0 ≤ 9223372036854775807 := hlens.1.1
 have hT : TabOK Try.prog S_laws_toFeedbackTable_tab := (.cons S_laws_toFeedbackS_ok .nil)
 have hp : Sh.sz s81 x0 ≤ 1048576 := hpre
 have hsz : Sh.sz s81 x0 = (Sh.sz s79 x0) := rfl
 refine wp_seq ?_
 refine at_regq [{ ids := [1] }, { ids := [2] }] { ts := [1, 2], os := [1, 2] } [] gamOK hT h (by kernel_rfl) trivial fun a w h => then_normal (wp_seq ?_)
 refine at_regq [{ ids := [3] }] { ts := [1, 2, 3], os := [1, 2, 3] } [] gamOK hT h (by kernel_rfl) trivial fun a w h => then_normal (wp_seq ?_)
 refine at_regq [{}, {}, { ids := [4] }] { ts := [2, 3], os := [2, 3, 4] } [(pTo s79) x0] gamOK hT h (by kernel_rfl) ⟨(by (show Sh.sz _ _ ≤ 1048576; first | omega | (show (0 : Nat) ≤ 1048576; decide))), trivial⟩ fun a w h => then_normal (wp_seq ?_)
 refine at_regq [] { ts := [2], os := [2, 4] } [] gamOK hT h (by kernel_rfl) trivial fun a w h => then_normal (wp_ret ?_)
 exact at_return (S := S_laws_toFeedbackTable) (x := (x0, ())) (x0, ()) [] h (by kernel_rfl) trivial (congrArg (fun z => (z, ())) (show (x0) = (idD s81) x0 from by rfl))

def S_laws_toGeneration : Sum := { fid := 182, dom := [s223], cod := [s218], dp := true, fz := false, pre := fun x => (pTo s223) x.1, g := fun x => (((idD s223) x.1), ()) }
def S_laws_toGeneration_tab : List (Nat × Sum) := [(132, S_laws_toIntSS)]
theorem S_laws_toGeneration_ok : FnOK Try.prog 182 S_laws_toGeneration := by
 refine at_enter 12 (fun x => ⟨[(0, aG [cI x.1.1, .ro s22 x.1.2])], []⟩) Try.func182 rfl (by kernel_rfl) (fun x => rfl) ?_
 rintro w0 Z0 ⟨x0, u⟩ a w
 revert x0
 intro (x0 : T223) hpre hlens h
 replace h : At w0 Z0 [] 12 ⟨[(0, aG [cI x0.1, .ro s22 x0.2])], []⟩ a w := h
 replace hpre : (pTo s223) x0 := hpre
 have hl1 : List.length x0.2 ≤ 9223372036854775807 := hlens.1.2.1
 have hT : TabOK Try.prog S_laws_toGeneration_tab := (.cons S_laws_toIntSS_ok .nil)
 have hp : Sh.sz s223 x0 ≤ 1048576 := hpre
 have hsz : Sh.sz s223 x0 = (0 + (Sh.sz s97 x0.2)) := rfl
 refine wp_seq ?_
 refine at_regq [{ ids := [1] }, { ids := [2] }] { ts := [1, 2], os := [1, 2] } [] gamOK hT h (by kernel_rfl) trivial fun a w h => then_normal (wp_seq ?_)
 refine at_regq [{ ids := [3] }] { ts := [1, 2, 3], os := [1, 2, 3] } [] gamOK hT h (by kernel_rfl) trivial fun a w h => then_normal (wp_seq ?_)
 refine at_regq [] { ts := [1, 2, 3], os := [1, 2, 3] } [] gamOK hT h (by kernel_rfl) trivial fun a w h => then_normal (wp_seq ?_)
 refine at_regq [{}, {}, { ids := [4] }] { ts := [2, 3], os := [2, 3, 4] } [(pTo s97) x0.2] gamOK hT h (by kernel_rfl) ⟨(by (show Sh.sz _ _ ≤ 1048576; first | omega | (show (0 : Nat) ≤ 1048576; decide))), trivial⟩ fun a w h => then_normal (wp_seq ?_)
 refine at_regq [] { ts := [2], os := [2, 4] } [] gamOK hT h (by kernel_rfl) trivial fun a w h => then_normal (wp_ret ?_)
 exact at_return (S := S_laws_toGeneration) (x := (x0, ())) (x0, ()) [] h (by kernel_rfl) trivial (congrArg (fun z => (z, ())) (show (x0) = (idD s223) x0 from by rfl))

def S_laws_toGenerationS : Sum := { fid := 86, dom := [s24], cod := [s30], dp := true, fz := false, pre := fun x => (pTo s24) x.1, g := fun x => (((idD s24) x.1), ()) }
def S_laws_toGenerationS_tab : List (Nat × Sum) := [(182, S_laws_toGeneration)]
theorem S_laws_toGenerationS_ok : FnOK Try.prog 86 S_laws_toGenerationS := by
 refine at_enter 23 (fun x => ⟨[(0, aF s223 x.1)], []⟩) Try.func86 rfl (by kernel_rfl) (fun x => rfl) ?_
 rintro w0 Z0 ⟨x0, u⟩ a w
 revert x0
 intro (x0 : (List T223)) hpre hlens h
 replace h : At w0 Z0 [] 23 ⟨[(0, aF s223 x0)], []⟩ a w := h
 replace hpre : (pTo s24) x0 := hpre
 have hl1 : List.length x0 ≤ 9223372036854775807 := hlens.1.1
 have hT : TabOK Try.prog S_laws_toGenerationS_tab := (.cons S_laws_toGeneration_ok .nil)
 have hp : Sh.sz s24 x0 ≤ 1048576 := hpre
 have hsz : Sh.sz s24 x0 = List.length x0 + ctL (Sh.sz s223) x0 := rfl
 refine wp_seq ?_
 refine at_regq [] { ts := [0, 2], os := [] } [] gamOK hT h (by kernel_rfl) trivial fun a w h => then_normal (wp_seq ?_)
 refine at_regq [{}, {}, { ids := [1] }] { ts := [0, 2, 3], os := [1] } [(0 : Int) ≤ ((List.length x0 : Nat) : Int) ∧ ((List.length x0 : Nat) : Int) = ((List.length x0 : Nat) : Int) ∧ ((List.length x0 : Nat) : Int) * (32 : Nat) ≤ (140737488355328 : Int)] gamOK hT h (by kernel_rfl) ⟨(by refine ⟨?_, ?_, ?_⟩ <;> ((have hA0 := mul_f ((List.length x0 : Nat) : Int) (32 : Nat); first | omega | (simp only [lsA, copyTo_len hok0]; omega) | (simp <;> omega)))), trivial⟩ fun a w h => then_normal (wp_seq (wp_seq ?_))
 refine at_regq [] { ts := [0, 2, 3, 4], os := [1] } [] gamOK hT h (by kernel_rfl) trivial fun a w h => then_normal (wp_block ?_)
 replace h := at_out (σ' := ⟨[(0, aF s223 x0), (2, .p (.c (cN))), (3, aS 1), (4, aI 0)], [(1, oR s218 (List.replicate (List.length x0) ((0, []) : T218)))]⟩) { ts := [0, 2, 3, 4], os := [1] } h (by kernel_rfl)
 refine at_loop (fun i : Nat => (⟨[(0, aF s223 x0), (2, .p (.c (cN))), (3, aS 1), (4, aI ((i : Nat) : Int))], [(1, oR s218 (copyTo (0, []) x0 i))]⟩ : St)) (fun i => i ≤ List.length x0) (fun i => List.length x0 - i) (0) h (st_congr2 (fun (d0 : List T218) (d1 : Int) => (⟨[(0, aF s223 x0), (2, .p (.c (cN))), (3, aS 1), (4, aI d1)], [(1, oR s218 d0)]⟩ : St)) (show ((List.replicate (List.length x0) ((0, []) : T218)) : List T218) = (copyTo (0, []) x0 (0)) from by first | with_reducible rfl | (exact copyTo_zero) | rfl) (show (0 : Int) = (((0) : Nat) : Int) from by first | with_reducible rfl | (exact copyTo_zero) | rfl)) (by first | omega | simp | (refine ⟨?_, ?_⟩ <;> first | omega | simp)) ?_
 intro i a w hok0 h
 refine wp_seq (wp_seq ?_)
 refine at_regq [] { ts := [0, 2, 3, 4, 11], os := [1] } [] gamOK hT h (by kernel_rfl) trivial fun a w h => then_normal ?_
 refine at_test (decide (((i : Nat) : Int) < ((List.length x0 : Nat) : Int))) h (by kernel_rfl) (fun h1 => ?_) (fun h1 => ?_)
 ·replace h1 : ((i : Nat) : Int) < ((List.length x0 : Nat) : Int) := of_decide_eq_true h1
  have hat := ctL_at_le (c := Sh.sz s223) (xs := x0) (z := (0, [])) (i := i) (by omega)
  refine wp_skip (then_normal (wp_seq (wp_block ?_)))
  refine at_regq [{}, {}, {}, {}, {}, {}, { ids := [2] }] { ts := [0, 2, 3, 4], os := [1] } [(0 : Int) ≤ ((i : Nat) : Int) ∧ ((i : Nat) : Int) < ((List.length x0 : Nat) : Int), (pTo s223) (x0.getD i (0, [])), (0 : Int) ≤ ((i : Nat) : Int) ∧ ((i : Nat) : Int) < ((List.length (copyTo (0, []) x0 i) : Nat) : Int), i < List.length (copyTo (0, []) x0 i)] gamOK hT h (by kernel_rfl) ⟨(by refine ⟨?_, ?_⟩ <;> (first | omega | (simp only [lsA, copyTo_len hok0]; omega) | (simp <;> omega))), (by (show Sh.sz _ _ ≤ 1048576; omega)), (by refine ⟨?_, ?_⟩ <;> (first | omega | (simp only [lsA, copyTo_len hok0]; omega) | (simp <;> omega))), (by first | omega | (simp only [lsA, copyTo_len hok0]; omega) | (simp <;> omega)), trivial⟩ fun a w h => in_normal (then_normal ?_)
  refine at_regq [{}, { nw := true }] { ts := [0, 2, 3, 4], os := [1] } [I64 (((i : Nat) : Int) + 1)] gamOK hT h (by kernel_rfl) ⟨⟨by first | omega | (simp only [lsA, copyTo_len hok0]; omega) | (simp <;> omega), by first | omega | (simp only [lsA, copyTo_len hok0]; omega) | (simp <;> omega)⟩, trivial⟩ fun a w h => ?_
  replace h := at_out (σ' := ⟨[(0, aF s223 x0), (2, .p (.c (cN))), (3, aS 1), (4, aI (((i : Nat) : Int) + 1))], [(1, oR s218 (List.set (copyTo (0, []) x0 i) i (x0.getD i (0, []))))]⟩) { ts := [0, 2, 3, 4], os := [1] } h (by kernel_rfl)
  exact ⟨i + 1, at_eq h (st_congr2 (fun (d0 : List T218) (d1 : Int) => (⟨[(0, aF s223 x0), (2, .p (.c (cN))), (3, aS 1), (4, aI d1)], [(1, oR s218 d0)]⟩ : St)) (show ((List.set (copyTo (0, []) x0 i) i (x0.getD i (0, []))) : List T218) = (copyTo (0, []) x0 (i + 1)) from by first | with_reducible rfl | (exact copyTo_set (by omega)) | rfl) (show (((i : Nat) : Int) + 1 : Int) = (((i + 1) : Nat) : Int) from by first | with_reducible rfl | (omega) | rfl)), (by first | omega | (refine ⟨?_, ?_⟩ <;> omega)), (by omega)⟩
 ·replace h1 : ¬ (((i : Nat) : Int) < ((List.length x0 : Nat) : Int)) := of_decide_eq_false h1
  refine wp_exit (then_exit (then_exit (in_hit (then_normal (wp_seq ?_)))))
  refine at_regq [] { ts := [2], os := [1] } [] gamOK hT h (by kernel_rfl) trivial fun a w h => then_normal (wp_ret ?_)
  exact at_return (S := S_laws_toGenerationS) (x := (x0, ())) ((copyTo (0, []) x0 i), ()) [] h (by kernel_rfl) trivial (congrArg (fun z => (z, ())) (show ((copyTo (0, []) x0 i)) = (idD s24) x0 from by (rw [copyTo_all (by omega)]; rfl)))

def S_laws_toRecoder : Sum := { fid := 65, dom := [s124], cod := [s128], dp := true, fz := false, pre := fun x => (pTo s124) x.1, g := fun x => (((idD s124) x.1), ()) }
def S_laws_toRecoder_tab : List (Nat × Sum) := [(155, S_laws_toCodedPacketS)]
theorem S_laws_toRecoder_ok : FnOK Try.prog 65 S_laws_toRecoder := by
 refine at_enter 21 (fun x => ⟨[(0, aG [cI x.1.1, cI x.1.2.1, cI x.1.2.2.1, .ro s44 x.1.2.2.2.1, cI x.1.2.2.2.2])], []⟩) Try.func65 rfl (by kernel_rfl) (fun x => rfl) ?_
 rintro w0 Z0 ⟨x0, u⟩ a w
 revert x0
 intro (x0 : T124) hpre hlens h
 replace h : At w0 Z0 [] 21 ⟨[(0, aG [cI x0.1, cI x0.2.1, cI x0.2.2.1, .ro s44 x0.2.2.2.1, cI x0.2.2.2.2])], []⟩ a w := h
 replace hpre : (pTo s124) x0 := hpre
 have hl1 : List.length x0.2.2.2.1 ≤ 9223372036854775807 := hlens.1.2.2.2.1.1
 have hT : TabOK Try.prog S_laws_toRecoder_tab := (.cons S_laws_toCodedPacketS_ok .nil)
 have hp : Sh.sz s124 x0 ≤ 1048576 := hpre
 have hsz : Sh.sz s124 x0 = (0 + (0 + (0 + ((Sh.sz s122 x0.2.2.2.1) + 0)))) := rfl
 refine wp_seq ?_
 refine at_regq [{ ids := [1] }, { ids := [2] }] { ts := [1, 2], os := [1, 2] } [] gamOK hT h (by kernel_rfl) trivial fun a w h => then_normal (wp_seq ?_)
 refine at_regq [{ ids := [3] }] { ts := [1, 2, 3], os := [1, 2, 3] } [] gamOK hT h (by kernel_rfl) trivial fun a w h => then_normal (wp_seq ?_)
 refine at_regq [] { ts := [1, 2, 3], os := [1, 2, 3] } [] gamOK hT h (by kernel_rfl) trivial fun a w h => then_normal (wp_seq ?_)
 refine at_regq [] { ts := [1, 2, 3], os := [1, 2, 3] } [] gamOK hT h (by kernel_rfl) trivial fun a w h => then_normal (wp_seq ?_)
 refine at_regq [] { ts := [1, 2, 3], os := [1, 2, 3] } [] gamOK hT h (by kernel_rfl) trivial fun a w h => then_normal (wp_seq ?_)
 refine at_regq [{}, {}, { ids := [4] }] { ts := [1, 2, 3], os := [1, 2, 3, 4] } [(pTo s122) x0.2.2.2.1] gamOK hT h (by kernel_rfl) ⟨(by (show Sh.sz _ _ ≤ 1048576; first | omega | (show (0 : Nat) ≤ 1048576; decide))), trivial⟩ fun a w h => then_normal (wp_seq ?_)
 refine at_regq [] { ts := [2, 3], os := [2, 3, 4] } [] gamOK hT h (by kernel_rfl) trivial fun a w h => then_normal (wp_seq ?_)
 refine at_regq [] { ts := [2], os := [2, 4] } [] gamOK hT h (by kernel_rfl) trivial fun a w h => then_normal (wp_ret ?_)
 exact at_return (S := S_laws_toRecoder) (x := (x0, ())) (x0, ()) [] h (by kernel_rfl) trivial (congrArg (fun z => (z, ())) (show (x0) = (idD s124) x0 from by rfl))

def S_laws_toRecoderS : Sum := { fid := 114, dom := [s78], cod := [s86], dp := true, fz := false, pre := fun x => (pTo s78) x.1, g := fun x => (((idD s78) x.1), ()) }
def S_laws_toRecoderS_tab : List (Nat × Sum) := [(65, S_laws_toRecoder)]
theorem S_laws_toRecoderS_ok : FnOK Try.prog 114 S_laws_toRecoderS := by
 refine at_enter 23 (fun x => ⟨[(0, aF s124 x.1)], []⟩) Try.func114 rfl (by kernel_rfl) (fun x => rfl) ?_
 rintro w0 Z0 ⟨x0, u⟩ a w
 revert x0
 intro (x0 : (List T124)) hpre hlens h
 replace h : At w0 Z0 [] 23 ⟨[(0, aF s124 x0)], []⟩ a w := h
 replace hpre : (pTo s78) x0 := hpre
 have hl1 : List.length x0 ≤ 9223372036854775807 := hlens.1.1
 have hT : TabOK Try.prog S_laws_toRecoderS_tab := (.cons S_laws_toRecoder_ok .nil)
 have hp : Sh.sz s78 x0 ≤ 1048576 := hpre
 have hsz : Sh.sz s78 x0 = List.length x0 + ctL (Sh.sz s124) x0 := rfl
 refine wp_seq ?_
 refine at_regq [] { ts := [0, 2], os := [] } [] gamOK hT h (by kernel_rfl) trivial fun a w h => then_normal (wp_seq ?_)
 refine at_regq [{}, {}, { ids := [1] }] { ts := [0, 2, 3], os := [1] } [(0 : Int) ≤ ((List.length x0 : Nat) : Int) ∧ ((List.length x0 : Nat) : Int) = ((List.length x0 : Nat) : Int) ∧ ((List.length x0 : Nat) : Int) * (56 : Nat) ≤ (140737488355328 : Int)] gamOK hT h (by kernel_rfl) ⟨(by refine ⟨?_, ?_, ?_⟩ <;> ((have hA0 := mul_f ((List.length x0 : Nat) : Int) (56 : Nat); first | omega | (simp only [lsA, copyTo_len hok0]; omega) | (simp <;> omega)))), trivial⟩ fun a w h => then_normal (wp_seq (wp_seq ?_))
 refine at_regq [] { ts := [0, 2, 3, 4], os := [1] } [] gamOK hT h (by kernel_rfl) trivial fun a w h => then_normal (wp_block ?_)
 replace h := at_out (σ' := ⟨[(0, aF s124 x0), (2, .p (.c (cN))), (3, aS 1), (4, aI 0)], [(1, oR s128 (List.replicate (List.length x0) ((0, (0, (0, ([], 0)))) : T128)))]⟩) { ts := [0, 2, 3, 4], os := [1] } h (by kernel_rfl)
 refine at_loop (fun i : Nat => (⟨[(0, aF s124 x0), (2, .p (.c (cN))), (3, aS 1), (4, aI ((i : Nat) : Int))], [(1, oR s128 (copyTo (0, (0, (0, ([], 0)))) x0 i))]⟩ : St)) (fun i => i ≤ List.length x0) (fun i => List.length x0 - i) (0) h (st_congr2 (fun (d0 : List T128) (d1 : Int) => (⟨[(0, aF s124 x0), (2, .p (.c (cN))), (3, aS 1), (4, aI d1)], [(1, oR s128 d0)]⟩ : St)) (show ((List.replicate (List.length x0) ((0, (0, (0, ([], 0)))) : T128)) : List T128) = (copyTo (0, (0, (0, ([], 0)))) x0 (0)) from by first | with_reducible rfl | (exact copyTo_zero) | rfl) (show (0 : Int) = (((0) : Nat) : Int) from by first | with_reducible rfl | (exact copyTo_zero) | rfl)) (by first | omega | simp | (refine ⟨?_, ?_⟩ <;> first | omega | simp)) ?_
 intro i a w hok0 h
 refine wp_seq (wp_seq ?_)
 refine at_regq [] { ts := [0, 2, 3, 4, 11], os := [1] } [] gamOK hT h (by kernel_rfl) trivial fun a w h => then_normal ?_
 refine at_test (decide (((i : Nat) : Int) < ((List.length x0 : Nat) : Int))) h (by kernel_rfl) (fun h1 => ?_) (fun h1 => ?_)
 ·replace h1 : ((i : Nat) : Int) < ((List.length x0 : Nat) : Int) := of_decide_eq_true h1
  have hat := ctL_at_le (c := Sh.sz s124) (xs := x0) (z := (0, (0, (0, ([], 0))))) (i := i) (by omega)
  refine wp_skip (then_normal (wp_seq (wp_block ?_)))
  refine at_regq [{}, {}, {}, {}, {}, {}, { ids := [2] }] { ts := [0, 2, 3, 4], os := [1] } [(0 : Int) ≤ ((i : Nat) : Int) ∧ ((i : Nat) : Int) < ((List.length x0 : Nat) : Int), (pTo s124) (x0.getD i (0, (0, (0, ([], 0))))), (0 : Int) ≤ ((i : Nat) : Int) ∧ ((i : Nat) : Int) < ((List.length (copyTo (0, (0, (0, ([], 0)))) x0 i) : Nat) : Int), i < List.length (copyTo (0, (0, (0, ([], 0)))) x0 i)] gamOK hT h (by kernel_rfl) ⟨(by refine ⟨?_, ?_⟩ <;> (first | omega | (simp only [lsA, copyTo_len hok0]; omega) | (simp <;> omega))), (by (show Sh.sz _ _ ≤ 1048576; omega)), (by refine ⟨?_, ?_⟩ <;> (first | omega | (simp only [lsA, copyTo_len hok0]; omega) | (simp <;> omega))), (by first | omega | (simp only [lsA, copyTo_len hok0]; omega) | (simp <;> omega)), trivial⟩ fun a w h => in_normal (then_normal ?_)
  refine at_regq [{}, { nw := true }] { ts := [0, 2, 3, 4], os := [1] } [I64 (((i : Nat) : Int) + 1)] gamOK hT h (by kernel_rfl) ⟨⟨by first | omega | (simp only [lsA, copyTo_len hok0]; omega) | (simp <;> omega), by first | omega | (simp only [lsA, copyTo_len hok0]; omega) | (simp <;> omega)⟩, trivial⟩ fun a w h => ?_
  replace h := at_out (σ' := ⟨[(0, aF s124 x0), (2, .p (.c (cN))), (3, aS 1), (4, aI (((i : Nat) : Int) + 1))], [(1, oR s128 (List.set (copyTo (0, (0, (0, ([], 0)))) x0 i) i (x0.getD i (0, (0, (0, ([], 0)))))))]⟩) { ts := [0, 2, 3, 4], os := [1] } h (by kernel_rfl)
  exact ⟨i + 1, at_eq h (st_congr2 (fun (d0 : List T128) (d1 : Int) => (⟨[(0, aF s124 x0), (2, .p (.c (cN))), (3, aS 1), (4, aI d1)], [(1, oR s128 d0)]⟩ : St)) (show ((List.set (copyTo (0, (0, (0, ([], 0)))) x0 i) i (x0.getD i (0, (0, (0, ([], 0)))))) : List T128) = (copyTo (0, (0, (0, ([], 0)))) x0 (i + 1)) from by first | with_reducible rfl | (exact copyTo_set (by omega)) | rfl) (show (((i : Nat) : Int) + 1 : Int) = (((i + 1) : Nat) : Int) from by first | with_reducible rfl | (omega) | rfl)), (by first | omega | (refine ⟨?_, ?_⟩ <;> omega)), (by omega)⟩
 ·replace h1 : ¬ (((i : Nat) : Int) < ((List.length x0 : Nat) : Int)) := of_decide_eq_false h1
  refine wp_exit (then_exit (then_exit (in_hit (then_normal (wp_seq ?_)))))
  refine at_regq [] { ts := [2], os := [1] } [] gamOK hT h (by kernel_rfl) trivial fun a w h => then_normal (wp_ret ?_)
  exact at_return (S := S_laws_toRecoderS) (x := (x0, ())) ((copyTo (0, (0, (0, ([], 0)))) x0 i), ()) [] h (by kernel_rfl) trivial (congrArg (fun z => (z, ())) (show ((copyTo (0, (0, (0, ([], 0)))) x0 i)) = (idD s78) x0 from by (rw [copyTo_all (by omega)]; rfl)))

def S_laws_toSendWindow : Sum := { fid := 113, dom := [s77], cod := [s85], dp := true, fz := false, pre := fun x => (pTo s77) x.1, g := fun x => (((idD s77) x.1), ()) }
def S_laws_toSendWindow_tab : List (Nat × Sum) := []
theorem S_laws_toSendWindow_ok : FnOK Try.prog 113 S_laws_toSendWindow := by
 refine at_enter 17 (fun x => ⟨[(0, aG [cI x.1.1, cI x.1.2.1, cI x.1.2.2.1, cI x.1.2.2.2])], []⟩) Try.func113 rfl (by kernel_rfl) (fun x => rfl) ?_
 rintro w0 Z0 ⟨x0, u⟩ a w
 revert x0
 intro (x0 : T77) hpre hlens h
 replace h : At w0 Z0 [] 17 ⟨[(0, aG [cI x0.1, cI x0.2.1, cI x0.2.2.1, cI x0.2.2.2])], []⟩ a w := h
 replace hpre : (pTo s77) x0 := hpre
 have hT : TabOK Try.prog S_laws_toSendWindow_tab := .nil
 have hp : Sh.sz s77 x0 ≤ 1048576 := hpre
 have hsz : Sh.sz s77 x0 = (0 + (0 + (0 + 0))) := rfl
 refine wp_seq ?_
 refine at_regq [{ ids := [1] }, { ids := [2] }] { ts := [1, 2], os := [1, 2] } [] gamOK hT h (by kernel_rfl) trivial fun a w h => then_normal (wp_seq ?_)
 refine at_regq [{ ids := [3] }] { ts := [1, 2, 3], os := [1, 2, 3] } [] gamOK hT h (by kernel_rfl) trivial fun a w h => then_normal (wp_seq ?_)
 refine at_regq [] { ts := [1, 2, 3], os := [1, 2, 3] } [] gamOK hT h (by kernel_rfl) trivial fun a w h => then_normal (wp_seq ?_)
 refine at_regq [] { ts := [1, 2, 3], os := [1, 2, 3] } [] gamOK hT h (by kernel_rfl) trivial fun a w h => then_normal (wp_seq ?_)
 refine at_regq [] { ts := [1, 2, 3], os := [1, 2, 3] } [] gamOK hT h (by kernel_rfl) trivial fun a w h => then_normal (wp_seq ?_)
 refine at_regq [] { ts := [2, 3], os := [2, 3] } [] gamOK hT h (by kernel_rfl) trivial fun a w h => then_normal (wp_seq ?_)
 refine at_regq [] { ts := [2], os := [2] } [] gamOK hT h (by kernel_rfl) trivial fun a w h => then_normal (wp_ret ?_)
 exact at_return (S := S_laws_toSendWindow) (x := (x0, ())) (x0, ()) [] h (by kernel_rfl) trivial (congrArg (fun z => (z, ())) (show (x0) = (idD s77) x0 from by rfl))

def S_laws_toSource : Sum := { fid := 40, dom := [s83], cod := [s91], dp := true, fz := false, pre := fun x => (pTo s83) x.1, g := fun x => (((idD s83) x.1), ()) }
def S_laws_toSource_tab : List (Nat × Sum) := [(86, S_laws_toGenerationS), (113, S_laws_toSendWindow), (114, S_laws_toRecoderS), (115, S_laws_toFeedbackTable)]
theorem S_laws_toSource_ok : FnOK Try.prog 40 S_laws_toSource := by
 refine at_enter 24 (fun x => ⟨[(0, aG [.ro s223 x.1.1, cI x.1.2.1.1, cI x.1.2.1.2.1, cI x.1.2.1.2.2.1, cI x.1.2.1.2.2.2, .ro s124 x.1.2.2.1, .ro s285 x.1.2.2.2.1, cI x.1.2.2.2.2])], []⟩) Try.func40 rfl (by kernel_rfl) (fun x => rfl) ?_
 rintro w0 Z0 ⟨x0, u⟩ a w
 revert x0
 intro (x0 : T83) hpre hlens h
 replace h : At w0 Z0 [] 24 ⟨[(0, aG [.ro s223 x0.1, cI x0.2.1.1, cI x0.2.1.2.1, cI x0.2.1.2.2.1, cI x0.2.1.2.2.2, .ro s124 x0.2.2.1, .ro s285 x0.2.2.2.1, cI x0.2.2.2.2])], []⟩ a w := h
 replace hpre : (pTo s83) x0 := hpre
 have hl1 : List.length x0.1 ≤ 9223372036854775807 := hlens.1.1.1
 have hl2 : List.length x0.2.2.1 ≤ 9223372036854775807 := hlens.1.2.2.1.1
 have hl3 : List.length x0.2.2.2.1 ≤ 9223372036854775807 := hlens.1.2.2.2.1.1
 have hT : TabOK Try.prog S_laws_toSource_tab := (.cons S_laws_toGenerationS_ok (.cons S_laws_toSendWindow_ok (.cons S_laws_toRecoderS_ok (.cons S_laws_toFeedbackTable_ok .nil))))
 have hp : Sh.sz s83 x0 ≤ 1048576 := hpre
 have hsz : Sh.sz s83 x0 = ((Sh.sz s24 x0.1) + (0 + ((Sh.sz s78 x0.2.2.1) + ((Sh.sz s81 x0.2.2.2.1) + 0)))) := rfl
 refine wp_seq ?_
 refine at_regq [{ ids := [1] }, { ids := [2] }] { ts := [1, 2], os := [1, 2] } [] gamOK hT h (by kernel_rfl) trivial fun a w h => then_normal (wp_seq ?_)
 refine at_regq [{ ids := [3] }] { ts := [1, 2, 3], os := [1, 2, 3] } [] gamOK hT h (by kernel_rfl) trivial fun a w h => then_normal (wp_seq ?_)
 refine at_regq [{}, {}, { ids := [4] }] { ts := [1, 2, 3], os := [1, 2, 3, 4] } [(pTo s24) x0.1] gamOK hT h (by kernel_rfl) ⟨(by (show Sh.sz _ _ ≤ 1048576; first | omega | (show (0 : Nat) ≤ 1048576; decide))), trivial⟩ fun a w h => then_normal (wp_seq ?_)
 refine at_regq [] { ts := [1, 2, 3], os := [1, 2, 3, 4] } [(pTo s77) x0.2.1] gamOK hT h (by kernel_rfl) ⟨(by (show Sh.sz _ _ ≤ 1048576; first | omega | (show (0 : Nat) ≤ 1048576; decide))), trivial⟩ fun a w h => then_normal (wp_seq ?_)
 refine at_regq [{}, {}, { ids := [5] }] { ts := [1, 2, 3], os := [1, 2, 3, 4, 5] } [(pTo s78) x0.2.2.1] gamOK hT h (by kernel_rfl) ⟨(by (show Sh.sz _ _ ≤ 1048576; first | omega | (show (0 : Nat) ≤ 1048576; decide))), trivial⟩ fun a w h => then_normal (wp_seq ?_)
 refine at_regq [{}, {}, { ids := [6] }] { ts := [1, 2, 3], os := [1, 2, 3, 4, 5, 6] } [(pTo s81) x0.2.2.2.1] gamOK hT h (by kernel_rfl) ⟨(by (show Sh.sz _ _ ≤ 1048576; first | omega | (show (0 : Nat) ≤ 1048576; decide))), trivial⟩ fun a w h => then_normal (wp_seq ?_)
 refine at_regq [] { ts := [2, 3], os := [2, 3, 4, 5, 6] } [] gamOK hT h (by kernel_rfl) trivial fun a w h => then_normal (wp_seq ?_)
 refine at_regq [] { ts := [2], os := [2, 4, 5, 6] } [] gamOK hT h (by kernel_rfl) trivial fun a w h => then_normal (wp_ret ?_)
 exact at_return (S := S_laws_toSource) (x := (x0, ())) (x0, ()) [] h (by kernel_rfl) trivial (congrArg (fun z => (z, ())) (show (x0) = (idD s83) x0 from by rfl))

abbrev Q__impl_CodedPacket_clone := (fun (x0 : T61) => Sh.fit s61 x0)
def S__impl_CodedPacket_clone : Sum := { fid := 238, dom := [s61], cod := [s61], dp := true, fz := false, pre := fun x => Q__impl_CodedPacket_clone x.1, g := fun x => (((idD s61) x.1), ()) }
def S__impl_CodedPacket_clone_tab : List (Nat × Sum) := [(257, S_slices_Clone_S_int_int_)]
theorem S__impl_CodedPacket_clone_ok : FnOK Try.prog 238 S__impl_CodedPacket_clone := by
 refine at_enter 12 (fun x => ⟨[(0, aG [cI x.1.1, .ro (.int 3) x.1.2.1, .ro (.int 3) x.1.2.2])], []⟩) Try.func238 rfl (by kernel_rfl) (fun x => rfl) ?_
 rintro w0 Z0 ⟨x0, u⟩ a w
 revert x0
 intro (x0 : T61) hpre hlens h
 replace h : At w0 Z0 [] 12 ⟨[(0, aG [cI x0.1, .ro (.int 3) x0.2.1, .ro (.int 3) x0.2.2])], []⟩ a w := h
 replace hpre : Q__impl_CodedPacket_clone x0 := hpre
 have hl1 : List.length x0.2.1 ≤ 9223372036854775807 := hlens.1.2.1.1
 have hl2 : List.length x0.2.2 ≤ 9223372036854775807 := hlens.1.2.2.1
 have hT : TabOK Try.prog S__impl_CodedPacket_clone_tab := (.cons S_slices_Clone_S_int_int__ok .nil)
 have hf0 : Sh.fit s61 x0 := hpre
 have hn0_1 : List.length x0.2.1 ≤ 1073741824 := hf0.2.1.1
 have hn0_2 : List.length x0.2.2 ≤ 1073741824 := hf0.2.2.1
 refine wp_seq ?_
 refine at_regq [{ ids := [1] }, { ids := [2] }] { ts := [1, 2], os := [1, 2] } [] gamOK hT h (by kernel_rfl) trivial fun a w h => then_normal (wp_seq ?_)
 refine at_anyq [{}, {}, {}, {}, { ids := [3] }, {}, {}, { ids := [4] }, {}, {}] { ts := [2], os := [2, 3, 4] } [(lenOK (α := Int)) x0.2.1, (lenOK (α := Int)) x0.2.2] gamOK hT mixed h (by kernel_rfl) ⟨(by first | assumption | trivial | (first | omega | (simp only [lsA]; omega) | (simp <;> omega))), (by first | assumption | trivial | (first | omega | (simp only [lsA]; omega) | (simp <;> omega))), trivial⟩ fun a w h => then_normal (wp_ret ?_)
 exact at_return (S := S__impl_CodedPacket_clone) (x := (x0, ())) (x0, ()) [] h (by kernel_rfl) trivial (congrArg (fun z => (z, ())) (show (x0) = (idD s61) x0 from by rfl))

abbrev Q_spec_l11Copy := (fun (x0 : T61) => Sh.fit s61 x0)
def S_spec_l11Copy : Sum := { fid := 242, dom := [s61], cod := [s61], dp := true, fz := false, pre := fun x => Q_spec_l11Copy x.1, g := fun x => (((idD s61) x.1), ()) }
def S_spec_l11Copy_tab : List (Nat × Sum) := []
theorem S_spec_l11Copy_ok : FnOK Try.prog 242 S_spec_l11Copy := by
 refine at_enter 14 (fun x => ⟨[(0, aG [cI x.1.1, .ro (.int 3) x.1.2.1, .ro (.int 3) x.1.2.2])], []⟩) Try.func242 rfl (by kernel_rfl) (fun x => rfl) ?_
 rintro w0 Z0 ⟨x0, u⟩ a w
 revert x0
 intro (x0 : T61) hpre hlens h
 replace h : At w0 Z0 [] 14 ⟨[(0, aG [cI x0.1, .ro (.int 3) x0.2.1, .ro (.int 3) x0.2.2])], []⟩ a w := h
 replace hpre : Q_spec_l11Copy x0 := hpre
 have hl1 : List.length x0.2.1 ≤ 9223372036854775807 := hlens.1.2.1.1
 have hl2 : List.length x0.2.2 ≤ 9223372036854775807 := hlens.1.2.2.1
 have hT : TabOK Try.prog S_spec_l11Copy_tab := .nil
 have hf0 : Sh.fit s61 x0 := hpre
 have hn0_1 : List.length x0.2.1 ≤ 1073741824 := hf0.2.1.1
 have hn0_2 : List.length x0.2.2 ≤ 1073741824 := hf0.2.2.1
 refine wp_seq ?_
 refine at_regq [{ ids := [1] }, { ids := [2] }] { ts := [1, 2], os := [1, 2] } [] gamOK hT h (by kernel_rfl) trivial fun a w h => then_normal (wp_seq ?_)
 refine at_anyq [{}, {}, { ids := [3] }, {}, {}, { ids := [4] }, { ids := [5] }, {}, {}, { ids := [6] }, {}, {}] { ts := [2], os := [2, 4, 6] } [(List.length ([] : List Int) + List.length x0.2.1) * 8 ≤ 140737488355328, (List.length ([] : List Int) + List.length x0.2.2) * 8 ≤ 140737488355328] gamOK hT mixed h (by kernel_rfl) ⟨(by first | omega | (simp only [lsA]; omega) | (simp <;> omega)), (by first | omega | (simp only [lsA]; omega) | (simp <;> omega)), trivial⟩ fun a w h => then_normal (wp_ret ?_)
 exact at_return (S := S_spec_l11Copy) (x := (x0, ())) ((x0.1, ((([] : List Int) ++ x0.2.1), (([] : List Int) ++ x0.2.2))), ()) [] h (by kernel_rfl) trivial (congrArg (fun z => (z, ())) (show ((x0.1, ((([] : List Int) ++ x0.2.1), (([] : List Int) ++ x0.2.2)))) = (idD s61) x0 from by rfl))

abbrev Q_spec_l11All := (fun (x0 : (List T61)) => Sh.fit s126 x0)
def S_spec_l11All : Sum := { fid := 233, dom := [s126], cod := [s126], dp := true, fz := false, pre := fun x => Q_spec_l11All x.1, g := fun x => (((idD s126) x.1), ()) }
def S_spec_l11All_tab : List (Nat × Sum) := [(242, S_spec_l11Copy)]
theorem S_spec_l11All_ok : FnOK Try.prog 233 S_spec_l11All := by
 refine at_enter 21 (fun x => ⟨[(0, aF s61 x.1)], []⟩) Try.func233 rfl (by kernel_rfl) (fun x => rfl) ?_
 rintro w0 Z0 ⟨x0, u⟩ a w
 revert x0
 intro (x0 : (List T61)) hpre hlens h
 replace h : At w0 Z0 [] 21 ⟨[(0, aF s61 x0)], []⟩ a w := h
 replace hpre : Q_spec_l11All x0 := hpre
 have hl1 : List.length x0 ≤ 9223372036854775807 := hlens.1.1
 have hT : TabOK Try.prog S_spec_l11All_tab := (.cons S_spec_l11Copy_ok .nil)
 have hf0 : Sh.fit s126 x0 := hpre
 have hn0_1 : List.length x0 ≤ 1073741824 := hf0.1
 refine wp_seq ?_
 refine at_regq [] { ts := [0, 2], os := [] } [] gamOK hT h (by kernel_rfl) trivial fun a w h => then_normal (wp_seq ?_)
 refine at_regq [{ ids := [1] }] { ts := [0, 2, 3], os := [1] } [] gamOK hT h (by kernel_rfl) trivial fun a w h => then_normal (wp_seq (wp_seq ?_))
 refine at_regq [] { ts := [0, 2, 3, 4], os := [1] } [] gamOK hT h (by kernel_rfl) trivial fun a w h => then_normal (wp_block ?_)
 replace h := at_out (σ' := ⟨[(0, aF s61 x0), (2, .p (.c (cN))), (3, aS 1), (4, aI 0)], [(1, oR s61 ([] : List T61))]⟩) { ts := [0, 2, 3, 4], os := [1] } h (by kernel_rfl)
 refine at_loop (fun i : Nat => (⟨[(0, aF s61 x0), (2, .p (.c (cN))), (3, aS 1), (4, aI ((i : Nat) : Int))], [(1, oR s61 (List.take i x0))]⟩ : St)) (fun i => i ≤ List.length x0) (fun i => List.length x0 - i) (0) h (st_congr2 (fun (d0 : List T61) (d1 : Int) => (⟨[(0, aF s61 x0), (2, .p (.c (cN))), (3, aS 1), (4, aI d1)], [(1, oR s61 d0)]⟩ : St)) (show (([] : List T61) : List T61) = (List.take (0) x0) from by first | with_reducible rfl | (rfl) | rfl) (show (0 : Int) = (((0) : Nat) : Int) from by first | with_reducible rfl | (rfl) | rfl)) (by first | omega | simp | (refine ⟨?_, ?_⟩ <;> first | omega | simp)) ?_
 intro i a w hok0 h
 have hlt := len_take_le (xs := x0) i
 refine wp_seq (wp_seq ?_)
 refine at_regq [] { ts := [0, 2, 3, 4, 9], os := [1] } [] gamOK hT h (by kernel_rfl) trivial fun a w h => then_normal ?_
 refine at_test (decide (((i : Nat) : Int) < ((List.length x0 : Nat) : Int))) h (by kernel_rfl) (fun h1 => ?_) (fun h1 => ?_)
 ·replace h1 : ((i : Nat) : Int) < ((List.length x0 : Nat) : Int) := of_decide_eq_true h1
  refine wp_skip (then_normal (wp_seq (wp_block ?_)))
  refine at_regq [{}, {}, {}, {}, {}, { ids := [2, 3] }, { ids := [4] }, { ids := [5] }] { ts := [0, 2, 3, 4], os := [5] } [(0 : Int) ≤ ((i : Nat) : Int) ∧ ((i : Nat) : Int) < ((List.length x0 : Nat) : Int), Q_spec_l11Copy (x0.getD i (0, ([], []))), (List.length (List.take i x0) + List.length ([(x0.getD i (0, ([], [])))])) * 56 ≤ 140737488355328] gamOK hT h (by kernel_rfl) ⟨(by refine ⟨?_, ?_⟩ <;> (first | omega | (simp only [lsA]; omega) | (simp <;> omega))), (by exact (Sh.fit_getD hf0 i)), (by (have hL0 := (show List.length (List.take i x0) ≤ 1073741824 from ((Sh.fit_take hf0 i)).1); first | omega | (simp only [lsA]; omega) | (simp <;> omega))), trivial⟩ fun a w h => in_normal (then_normal ?_)
  refine at_regq [{}, { nw := true }] { ts := [0, 2, 3, 4], os := [5] } [I64 (((i : Nat) : Int) + 1)] gamOK hT h (by kernel_rfl) ⟨⟨by first | omega | (simp only [lsA]; omega) | (simp <;> omega), by first | omega | (simp only [lsA]; omega) | (simp <;> omega)⟩, trivial⟩ fun a w h => ?_
  replace h := at_out (σ' := ⟨[(0, aF s61 x0), (2, .p (.c (cN))), (3, aS 1), (4, aI (((i : Nat) : Int) + 1))], [(1, oR s61 ((List.take i x0) ++ ([(x0.getD i (0, ([], [])))])))]⟩) { ts := [0, 2, 3, 4], os := [5], rn := [(5, 1)] } h (by kernel_rfl)
  exact ⟨i + 1, at_eq h (st_congr2 (fun (d0 : List T61) (d1 : Int) => (⟨[(0, aF s61 x0), (2, .p (.c (cN))), (3, aS 1), (4, aI d1)], [(1, oR s61 d0)]⟩ : St)) (show (((List.take i x0) ++ ([(x0.getD i (0, ([], [])))])) : List T61) = (List.take (i + 1) x0) from by first | with_reducible rfl | (rw [take_snoc (z := (0, ([], []))) (by omega)]) | rfl) (show (((i : Nat) : Int) + 1 : Int) = (((i + 1) : Nat) : Int) from by first | with_reducible rfl | (omega) | rfl)), (by first | omega | (refine ⟨?_, ?_⟩ <;> omega)), (by omega)⟩
 ·replace h1 : ¬ (((i : Nat) : Int) < ((List.length x0 : Nat) : Int)) := of_decide_eq_false h1
  refine wp_exit (then_exit (then_exit (in_hit (then_normal (wp_seq ?_)))))
  refine at_regq [] { ts := [2], os := [1] } [] gamOK hT h (by kernel_rfl) trivial fun a w h => then_normal (wp_ret ?_)
  exact at_return (S := S_spec_l11All) (x := (x0, ())) ((List.take i x0), ()) [] h (by kernel_rfl) trivial (congrArg (fun z => (z, ())) (show ((List.take i x0)) = (idD s126) x0 from by (rw [take_all (by omega)]; rfl)))

abbrev Q__impl_Recoder_clone := (fun (x0 : T128) => Sh.fit s128 x0)
def S__impl_Recoder_clone : Sum := { fid := 156, dom := [s128], cod := [s128], dp := true, fz := false, pre := fun x => Q__impl_Recoder_clone x.1, g := fun x => (((idD s128) x.1), ()) }
def S__impl_Recoder_clone_tab : List (Nat × Sum) := [(238, S__impl_CodedPacket_clone)]
theorem S__impl_Recoder_clone_ok : FnOK Try.prog 156 S__impl_Recoder_clone := by
 refine at_enter 24 (fun x => ⟨[(0, aG [cI x.1.1, cI x.1.2.1, cI x.1.2.2.1, .ro s61 x.1.2.2.2.1, cI x.1.2.2.2.2])], []⟩) Try.func156 rfl (by kernel_rfl) (fun x => rfl) ?_
 rintro w0 Z0 ⟨x0, u⟩ a w
 revert x0
 intro (x0 : T128) hpre hlens h
 replace h : At w0 Z0 [] 24 ⟨[(0, aG [cI x0.1, cI x0.2.1, cI x0.2.2.1, .ro s61 x0.2.2.2.1, cI x0.2.2.2.2])], []⟩ a w := h
 replace hpre : Q__impl_Recoder_clone x0 := hpre
 have hl1 : List.length x0.2.2.2.1 ≤ 9223372036854775807 := hlens.1.2.2.2.1.1
 have hT : TabOK Try.prog S__impl_Recoder_clone_tab := (.cons S__impl_CodedPacket_clone_ok .nil)
 have hf0 : Sh.fit s128 x0 := hpre
 have hn0_1 : List.length x0.2.2.2.1 ≤ 1073741824 := hf0.2.2.2.1.1
 refine wp_seq ?_
 refine at_regq [{ ids := [1] }, { ids := [2] }] { ts := [1, 2], os := [1, 2] } [] gamOK hT h (by kernel_rfl) trivial fun a w h => then_normal (wp_seq ?_)
 refine at_regq [] { ts := [1, 2, 3], os := [1, 2] } [] gamOK hT h (by kernel_rfl) trivial fun a w h => then_normal (wp_seq ?_)
 refine at_regq [] { ts := [1, 2, 3], os := [1, 2] } [] gamOK hT h (by kernel_rfl) trivial fun a w h => then_normal (wp_seq (wp_seq ?_))
 refine at_regq [] { ts := [1, 2, 9, 10, 11], os := [1, 2] } [] gamOK hT h (by kernel_rfl) trivial fun a w h => then_normal (wp_block ?_)
 replace h := at_out (σ' := ⟨[(1, aP 1 0), (2, aP 2 0), (9, aF s61 x0.2.2.2.1), (10, aI ((List.length x0.2.2.2.1 : Nat) : Int)), (11, aI 0)], [(1, oX 128 [cI x0.1, cI x0.2.1, cI x0.2.2.1, .sl 3, cI x0.2.2.2.2]), (2, oX 128 [cI 0, cI 0, cI 0, cN, cI 0]), (3, oR s61 ([] : List T61))]⟩) { mt := [⟨some 1, 3, 3, true, s61⟩], ts := [1, 2, 9, 10, 11], os := [1, 2, 3] } h (by kernel_rfl)
 refine at_loop (fun i : Nat => (⟨[(1, aP 1 0), (2, aP 2 0), (9, aF s61 x0.2.2.2.1), (10, aI ((List.length x0.2.2.2.1 : Nat) : Int)), (11, aI ((i : Nat) : Int))], [(1, oX 128 [cI x0.1, cI x0.2.1, cI x0.2.2.1, .sl 3, cI x0.2.2.2.2]), (2, oX 128 [cI 0, cI 0, cI 0, cN, cI 0]), (3, oR s61 (List.take i x0.2.2.2.1))]⟩ : St)) (fun i => i ≤ List.length x0.2.2.2.1) (fun i => List.length x0.2.2.2.1 - i) (0) h (st_congr2 (fun (d0 : List T61) (d1 : Int) => (⟨[(1, aP 1 0), (2, aP 2 0), (9, aF s61 x0.2.2.2.1), (10, aI ((List.length x0.2.2.2.1 : Nat) : Int)), (11, aI d1)], [(1, oX 128 [cI x0.1, cI x0.2.1, cI x0.2.2.1, .sl 3, cI x0.2.2.2.2]), (2, oX 128 [cI 0, cI 0, cI 0, cN, cI 0]), (3, oR s61 d0)]⟩ : St)) (show (([] : List T61) : List T61) = (List.take (0) x0.2.2.2.1) from by first | with_reducible rfl | (rfl) | rfl) (show (0 : Int) = (((0) : Nat) : Int) from by first | with_reducible rfl | (rfl) | rfl)) (by first | omega | simp | (refine ⟨?_, ?_⟩ <;> first | omega | simp)) ?_
 intro i a w hok0 h
 have hlt := len_take_le (xs := x0.2.2.2.1) i
 refine wp_seq ?_
 refine at_regq [] { ts := [1, 2, 9, 10, 11, 12], os := [1, 2, 3] } [] gamOK hT h (by kernel_rfl) trivial fun a w h => then_normal (wp_seq ?_)
 refine at_test (decide (((i : Nat) : Int) < ((List.length x0.2.2.2.1 : Nat) : Int))) h (by kernel_rfl) (fun h1 => ?_) (fun h1 => ?_)
 ·replace h1 : ((i : Nat) : Int) < ((List.length x0.2.2.2.1 : Nat) : Int) := of_decide_eq_true h1
  refine wp_skip (then_normal (wp_seq (wp_block (wp_seq ?_))))
  refine at_regq [{}, {}, { ids := [4] }] { ts := [1, 2, 5, 9, 10, 11], os := [1, 2, 3, 4] } [(0 : Int) ≤ ((i : Nat) : Int) ∧ ((i : Nat) : Int) < ((List.length x0.2.2.2.1 : Nat) : Int)] gamOK hT h (by kernel_rfl) ⟨(by refine ⟨?_, ?_⟩ <;> (first | omega | (simp only [lsA]; omega) | (simp <;> omega))), trivial⟩ fun a w h => then_normal ?_
  refine at_anyq [{}, {}, {}, { ids := [5, 6] }, { ids := [7] }, { ids := [8] }, {}, {}] { ts := [1, 2, 9, 10, 11], os := [1, 2, 8] } [Q__impl_CodedPacket_clone (x0.2.2.2.1.getD i (0, ([], []))), (List.length (List.take i x0.2.2.2.1) + List.length ([(x0.2.2.2.1.getD i (0, ([], [])))])) * 56 ≤ 140737488355328] gamOK hT mixed h (by kernel_rfl) ⟨(by exact (Sh.fit_getD hf0.2.2.2.1 i)), (by (have hL0 := (show List.length (List.take i x0.2.2.2.1) ≤ 1073741824 from ((Sh.fit_take hf0.2.2.2.1 i)).1); first | omega | (simp only [lsA]; omega) | (simp <;> omega))), trivial⟩ fun a w h => in_normal (then_normal ?_)
  refine at_regq [{ nw := true }] { ts := [1, 2, 9, 10, 11], os := [1, 2, 8] } [I64 (((i : Nat) : Int) + 1)] gamOK hT h (by kernel_rfl) ⟨⟨by first | omega | (simp only [lsA]; omega) | (simp <;> omega), by first | omega | (simp only [lsA]; omega) | (simp <;> omega)⟩, trivial⟩ fun a w h => ?_
  replace h := at_out (σ' := ⟨[(1, aP 1 0), (2, aP 2 0), (9, aF s61 x0.2.2.2.1), (10, aI ((List.length x0.2.2.2.1 : Nat) : Int)), (11, aI (((i : Nat) : Int) + 1))], [(1, oX 128 [cI x0.1, cI x0.2.1, cI x0.2.2.1, .sl 3, cI x0.2.2.2.2]), (2, oX 128 [cI 0, cI 0, cI 0, cN, cI 0]), (3, oR s61 ((List.take i x0.2.2.2.1) ++ ([(x0.2.2.2.1.getD i (0, ([], [])))])))]⟩) { ts := [1, 2, 9, 10, 11], os := [1, 2, 8], rn := [(8, 3)] } h (by kernel_rfl)
  exact ⟨i + 1, at_eq h (st_congr2 (fun (d0 : List T61) (d1 : Int) => (⟨[(1, aP 1 0), (2, aP 2 0), (9, aF s61 x0.2.2.2.1), (10, aI ((List.length x0.2.2.2.1 : Nat) : Int)), (11, aI d1)], [(1, oX 128 [cI x0.1, cI x0.2.1, cI x0.2.2.1, .sl 3, cI x0.2.2.2.2]), (2, oX 128 [cI 0, cI 0, cI 0, cN, cI 0]), (3, oR s61 d0)]⟩ : St)) (show (((List.take i x0.2.2.2.1) ++ ([(x0.2.2.2.1.getD i (0, ([], [])))])) : List T61) = (List.take (i + 1) x0.2.2.2.1) from by first | with_reducible rfl | (rw [take_snoc (z := (0, ([], []))) (by omega)]) | rfl) (show (((i : Nat) : Int) + 1 : Int) = (((i + 1) : Nat) : Int) from by first | with_reducible rfl | (omega) | rfl)), (by first | omega | (refine ⟨?_, ?_⟩ <;> omega)), (by omega)⟩
 ·replace h1 : ¬ (((i : Nat) : Int) < ((List.length x0.2.2.2.1 : Nat) : Int)) := of_decide_eq_false h1
  refine wp_exit (then_exit (then_exit (in_hit (then_normal (wp_seq ?_)))))
  refine at_regq [] { ts := [2], os := [2, 3] } [] gamOK hT h (by kernel_rfl) trivial fun a w h => then_normal (wp_ret ?_)
  exact at_return (S := S__impl_Recoder_clone) (x := (x0, ())) ((x0.1, (x0.2.1, (x0.2.2.1, ((List.take i x0.2.2.2.1), x0.2.2.2.2)))), ()) [] h (by kernel_rfl) trivial (congrArg (fun z => (z, ())) (show ((x0.1, (x0.2.1, (x0.2.2.1, ((List.take i x0.2.2.2.1), x0.2.2.2.2))))) = (idD s128) x0 from by (rw [take_all (by omega)]; rfl)))

abbrev Q_spec_l15Copy := (fun (x0 : T128) => Sh.fit s128 x0)
def S_spec_l15Copy : Sum := { fid := 150, dom := [s128], cod := [s128], dp := true, fz := false, pre := fun x => Q_spec_l15Copy x.1, g := fun x => (((idD s128) x.1), ()) }
def S_spec_l15Copy_tab : List (Nat × Sum) := [(233, S_spec_l11All)]
theorem S_spec_l15Copy_ok : FnOK Try.prog 150 S_spec_l15Copy := by
 refine at_enter 10 (fun x => ⟨[(0, aG [cI x.1.1, cI x.1.2.1, cI x.1.2.2.1, .ro s61 x.1.2.2.2.1, cI x.1.2.2.2.2])], []⟩) Try.func150 rfl (by kernel_rfl) (fun x => rfl) ?_
 rintro w0 Z0 ⟨x0, u⟩ a w
 revert x0
 intro (x0 : T128) hpre hlens h
 replace h : At w0 Z0 [] 10 ⟨[(0, aG [cI x0.1, cI x0.2.1, cI x0.2.2.1, .ro s61 x0.2.2.2.1, cI x0.2.2.2.2])], []⟩ a w := h
 replace hpre : Q_spec_l15Copy x0 := hpre
 have hl1 : List.length x0.2.2.2.1 ≤ 9223372036854775807 := hlens.1.2.2.2.1.1
 have hT : TabOK Try.prog S_spec_l15Copy_tab := (.cons S_spec_l11All_ok .nil)
 have hf0 : Sh.fit s128 x0 := hpre
 have hn0_1 : List.length x0.2.2.2.1 ≤ 1073741824 := hf0.2.2.2.1.1
 refine wp_seq ?_
 refine at_regq [{ ids := [1] }, { ids := [2] }] { ts := [1, 2], os := [1, 2] } [] gamOK hT h (by kernel_rfl) trivial fun a w h => then_normal (wp_seq ?_)
 refine at_regq [{}, { ids := [3] }] { ts := [1, 2, 3], os := [1, 2, 3] } [] gamOK hT h (by kernel_rfl) trivial fun a w h => then_normal (wp_seq ?_)
 refine at_regq [{}, {}, { ids := [4] }] { ts := [2, 3], os := [2, 3, 4] } [Q_spec_l11All x0.2.2.2.1] gamOK hT h (by kernel_rfl) ⟨(by exact hf0.2.2.2.1), trivial⟩ fun a w h => then_normal (wp_seq ?_)
 refine at_regq [] { ts := [2], os := [2, 4] } [] gamOK hT h (by kernel_rfl) trivial fun a w h => then_normal (wp_ret ?_)
 exact at_return (S := S_spec_l15Copy) (x := (x0, ())) (x0, ()) [] h (by kernel_rfl) trivial (congrArg (fun z => (z, ())) (show (x0) = (idD s128) x0 from by rfl))

abbrev Q_impl_copyMatrix := (fun (x0 : (List (List Int))) => Sh.fit s97 x0)
def S_impl_copyMatrix : Sum := { fid := 276, dom := [s97], cod := [s97], dp := true, fz := false, pre := fun x => Q_impl_copyMatrix x.1, g := fun x => (((idD s97) x.1), ()) }
def S_impl_copyMatrix_tab : List (Nat × Sum) := [(257, S_slices_Clone_S_int_int_)]
theorem S_impl_copyMatrix_ok : FnOK Try.prog 276 S_impl_copyMatrix := by
 refine at_enter 19 (fun x => ⟨[(0, aF s22 x.1)], []⟩) Try.func276 rfl (by kernel_rfl) (fun x => rfl) ?_
 rintro w0 Z0 ⟨x0, u⟩ a w
 revert x0
 intro (x0 : (List (List Int))) hpre hlens h
 replace h : At w0 Z0 [] 19 ⟨[(0, aF s22 x0)], []⟩ a w := h
 replace hpre : Q_impl_copyMatrix x0 := hpre
 have hl1 : List.length x0 ≤ 9223372036854775807 := hlens.1.1
 have hT : TabOK Try.prog S_impl_copyMatrix_tab := (.cons S_slices_Clone_S_int_int__ok .nil)
 have hf0 : Sh.fit s97 x0 := hpre
 have hn0_1 : List.length x0 ≤ 1073741824 := hf0.1
 refine wp_seq ?_
 refine at_regq [] { ts := [0, 2], os := [] } [] gamOK hT h (by kernel_rfl) trivial fun a w h => then_normal (wp_seq ?_)
 refine at_regq [] { ts := [0, 2, 3], os := [] } [] gamOK hT h (by kernel_rfl) trivial fun a w h => then_normal (wp_seq (wp_seq ?_))
 refine at_regq [] { ts := [2, 3, 6, 7, 8], os := [] } [] gamOK hT h (by kernel_rfl) trivial fun a w h => then_normal (wp_block ?_)
 replace h := at_out (σ' := ⟨[(2, .p (.c (cN))), (3, aS 1), (6, aF s22 x0), (7, aI ((List.length x0 : Nat) : Int)), (8, aI 0)], [(1, oR s22 ([] : List (List Int)))]⟩) { mt := [⟨none, 3, 1, true, s22⟩], ts := [2, 3, 6, 7, 8], os := [1] } h (by kernel_rfl)
 refine at_loop (fun i : Nat => (⟨[(2, .p (.c (cN))), (3, aS 1), (6, aF s22 x0), (7, aI ((List.length x0 : Nat) : Int)), (8, aI ((i : Nat) : Int))], [(1, oR s22 (List.take i x0))]⟩ : St)) (fun i => i ≤ List.length x0) (fun i => List.length x0 - i) (0) h (st_congr2 (fun (d0 : List (List Int)) (d1 : Int) => (⟨[(2, .p (.c (cN))), (3, aS 1), (6, aF s22 x0), (7, aI ((List.length x0 : Nat) : Int)), (8, aI d1)], [(1, oR s22 d0)]⟩ : St)) (show (([] : List (List Int)) : List (List Int)) = (List.take (0) x0) from by first | with_reducible rfl | (rfl) | rfl) (show (0 : Int) = (((0) : Nat) : Int) from by first | with_reducible rfl | (rfl) | rfl)) (by omega) ?_
 intro i a w hok0 h
 have hlt := len_take_le (xs := x0) i
 have hrw := (Sh.fit_getD hf0 i).1
 refine wp_seq ?_
 refine at_regq [] { ts := [2, 3, 6, 7, 8, 9], os := [1] } [] gamOK hT h (by kernel_rfl) trivial fun a w h => then_normal (wp_seq ?_)
 refine at_test (decide (((i : Nat) : Int) < ((List.length x0 : Nat) : Int))) h (by kernel_rfl) (fun h1 => ?_) (fun h1 => ?_)
 ·replace h1 : ((i : Nat) : Int) < ((List.length x0 : Nat) : Int) := of_decide_eq_true h1
  refine wp_skip (then_normal (wp_seq (wp_block (wp_seq ?_))))
  refine at_regq [] { ts := [2, 3, 5, 6, 7, 8], os := [1] } [(0 : Int) ≤ ((i : Nat) : Int) ∧ ((i : Nat) : Int) < ((List.length x0 : Nat) : Int)] gamOK hT h (by kernel_rfl) ⟨(by refine ⟨?_, ?_⟩ <;> (first | omega | (simp only [lsA]; omega) | (simp <;> omega))), trivial⟩ fun a w h => then_normal ?_
  refine at_regq [{}, {}, { ids := [2] }, { ids := [3] }, { ids := [4] }] { ts := [2, 3, 6, 7, 8], os := [4] } [(lenOK (α := Int)) (x0.getD i []), (List.length (List.take i x0) + List.length ([(x0.getD i [])])) * 24 ≤ 140737488355328] gamOK hT h (by kernel_rfl) ⟨(by exact (Sh.fit_getD hf0 i).1), (by (have hL0 := (show List.length (List.take i x0) ≤ 1073741824 from ((Sh.fit_take hf0 i)).1); first | omega | (simp only [lsA]; omega) | (simp <;> omega))), trivial⟩ fun a w h => in_normal (then_normal ?_)
  refine at_regq [{ nw := true }] { ts := [2, 3, 6, 7, 8], os := [4] } [I64 (((i : Nat) : Int) + 1)] gamOK hT h (by kernel_rfl) ⟨⟨by first | omega | (simp only [lsA]; omega) | (simp <;> omega), by first | omega | (simp only [lsA]; omega) | (simp <;> omega)⟩, trivial⟩ fun a w h => ?_
  replace h := at_out (σ' := ⟨[(2, .p (.c (cN))), (3, aS 1), (6, aF s22 x0), (7, aI ((List.length x0 : Nat) : Int)), (8, aI (((i : Nat) : Int) + 1))], [(1, oR s22 ((List.take i x0) ++ ([(x0.getD i [])])))]⟩) { ts := [2, 3, 6, 7, 8], os := [4], rn := [(4, 1)] } h (by kernel_rfl)
  exact ⟨i + 1, at_eq h (st_congr2 (fun (d0 : List (List Int)) (d1 : Int) => (⟨[(2, .p (.c (cN))), (3, aS 1), (6, aF s22 x0), (7, aI ((List.length x0 : Nat) : Int)), (8, aI d1)], [(1, oR s22 d0)]⟩ : St)) (show (((List.take i x0) ++ ([(x0.getD i [])])) : List (List Int)) = (List.take (i + 1) x0) from by first | with_reducible rfl | (first | (rw [take_snoc (z := []) (by omega)]; done) | (rw [take_snoc (z := []) (by omega)]; rfl)) | rfl) (show (((i : Nat) : Int) + 1 : Int) = (((i + 1) : Nat) : Int) from by first | with_reducible rfl | (omega) | rfl)), (by omega), (by omega)⟩
 ·replace h1 : ¬ (((i : Nat) : Int) < ((List.length x0 : Nat) : Int)) := of_decide_eq_false h1
  refine wp_exit (then_exit (then_exit (in_hit (then_normal (wp_seq ?_)))))
  refine at_regq [] { ts := [2], os := [1] } [] gamOK hT h (by kernel_rfl) trivial fun a w h => then_normal (wp_ret ?_)
  exact at_return (S := S_impl_copyMatrix) (x := (x0, ())) ((List.take i x0), ()) [] h (by kernel_rfl) trivial (congrArg (fun z => (z, ())) (show ((List.take i x0)) = (idD s97) x0 from by (rw [take_all (by omega)]; rfl)))

abbrev Q_spec_l6Copy := (fun (x0 : (List (List Int))) => Sh.fit s97 x0)
def S_spec_l6Copy : Sum := { fid := 227, dom := [s97], cod := [s97], dp := false, fz := false, pre := fun x => Q_spec_l6Copy x.1, g := fun x => (((idD s97) x.1), ()) }
def S_spec_l6Copy_tab : List (Nat × Sum) := []
theorem S_spec_l6Copy_ok : FnOK Try.prog 227 S_spec_l6Copy := by
 refine at_enter 22 (fun x => ⟨[(0, aF s22 x.1)], []⟩) Try.func227 rfl (by kernel_rfl) (fun x => rfl) ?_
 rintro w0 Z0 ⟨x0, u⟩ a w
 revert x0
 intro (x0 : (List (List Int))) hpre hlens h
 replace h : At w0 Z0 [] 22 ⟨[(0, aF s22 x0)], []⟩ a w := h
 replace hpre : Q_spec_l6Copy x0 := hpre
 have hl1 : List.length x0 ≤ 9223372036854775807 := hlens.1.1
 have hT : TabOK Try.prog S_spec_l6Copy_tab := .nil
 have hf0 : Sh.fit s97 x0 := hpre
 have hn0_1 : List.length x0 ≤ 1073741824 := hf0.1
 refine wp_seq ?_
 refine at_regq [] { ts := [0, 2], os := [] } [] gamOK hT h (by kernel_rfl) trivial fun a w h => then_normal (wp_seq ?_)
 refine at_regq [{ ids := [1], dp := false }] { ts := [0, 2, 3], os := [1] } [] gamOK hT h (by kernel_rfl) trivial fun a w h => then_normal (wp_seq (wp_seq ?_))
 refine at_regq [] { ts := [0, 2, 3, 4], os := [1] } [] gamOK hT h (by kernel_rfl) trivial fun a w h => then_normal (wp_block ?_)
 replace h := at_out (σ' := ⟨[(0, aF s22 x0), (2, .p (.c (cN))), (3, aS 1), (4, aI 0)], [(1, oF s22 ([] : List (List Int)))]⟩) { ts := [0, 2, 3, 4], os := [1] } h (by kernel_rfl)
 refine at_loop (fun i : Nat => (⟨[(0, aF s22 x0), (2, .p (.c (cN))), (3, aS 1), (4, aI ((i : Nat) : Int))], [(1, oF s22 (List.take i x0))]⟩ : St)) (fun i => i ≤ List.length x0) (fun i => List.length x0 - i) (0) h (st_congr2 (fun (d0 : List (List Int)) (d1 : Int) => (⟨[(0, aF s22 x0), (2, .p (.c (cN))), (3, aS 1), (4, aI d1)], [(1, oF s22 d0)]⟩ : St)) (show (([] : List (List Int)) : List (List Int)) = (List.take (0) x0) from by first | with_reducible rfl | (rfl) | rfl) (show (0 : Int) = (((0) : Nat) : Int) from by first | with_reducible rfl | (rfl) | rfl)) (by omega) ?_
 intro i a w hok0 h
 have hlt := len_take_le (xs := x0) i
 have hrw := (Sh.fit_getD hf0 i).1
 refine wp_seq (wp_seq ?_)
 refine at_regq [] { ts := [0, 2, 3, 4, 9], os := [1] } [] gamOK hT h (by kernel_rfl) trivial fun a w h => then_normal ?_
 refine at_test (decide (((i : Nat) : Int) < ((List.length x0 : Nat) : Int))) h (by kernel_rfl) (fun h1 => ?_) (fun h1 => ?_)
 ·replace h1 : ((i : Nat) : Int) < ((List.length x0 : Nat) : Int) := of_decide_eq_true h1
  refine wp_skip (then_normal (wp_seq (wp_block ?_)))
  refine at_regq [{}, { ids := [2], dp := false }, {}, {}, {}, {}, { ids := [3], frz := true, dp := false }, { ids := [4], dp := false }, { ids := [5], dp := false }] { ts := [0, 2, 3, 4], os := [5] } [(0 : Int) ≤ ((i : Nat) : Int) ∧ ((i : Nat) : Int) < ((List.length x0 : Nat) : Int), (List.length ([] : List Int) + List.length (x0.getD i [])) * 8 ≤ 140737488355328, (List.length (List.take i x0) + List.length ([(([] : List Int) ++ (x0.getD i []))])) * 24 ≤ 140737488355328] gamOK hT h (by kernel_rfl) ⟨(by refine ⟨?_, ?_⟩ <;> (first | omega | (simp only [lsA]; omega) | (simp <;> omega))), (by (have hL0 := (show List.length (x0.getD i []) ≤ 1073741824 from ((Sh.fit_getD hf0 i)).1); first | omega | (simp only [lsA]; omega) | (simp <;> omega))), (by (have hL0 := (show List.length (List.take i x0) ≤ 1073741824 from ((Sh.fit_take hf0 i)).1); first | omega | (simp only [lsA]; omega) | (simp <;> omega))), trivial⟩ fun a w h => in_normal (then_normal ?_)
  refine at_regq [{}, { nw := true }] { ts := [0, 2, 3, 4], os := [5] } [I64 (((i : Nat) : Int) + 1)] gamOK hT h (by kernel_rfl) ⟨⟨by first | omega | (simp only [lsA]; omega) | (simp <;> omega), by first | omega | (simp only [lsA]; omega) | (simp <;> omega)⟩, trivial⟩ fun a w h => ?_
  replace h := at_out (σ' := ⟨[(0, aF s22 x0), (2, .p (.c (cN))), (3, aS 1), (4, aI (((i : Nat) : Int) + 1))], [(1, oF s22 ((List.take i x0) ++ ([(([] : List Int) ++ (x0.getD i []))])))]⟩) { ts := [0, 2, 3, 4], os := [5], rn := [(5, 1)] } h (by kernel_rfl)
  exact ⟨i + 1, at_eq h (st_congr2 (fun (d0 : List (List Int)) (d1 : Int) => (⟨[(0, aF s22 x0), (2, .p (.c (cN))), (3, aS 1), (4, aI d1)], [(1, oF s22 d0)]⟩ : St)) (show (((List.take i x0) ++ ([(([] : List Int) ++ (x0.getD i []))])) : List (List Int)) = (List.take (i + 1) x0) from by first | with_reducible rfl | (first | (rw [take_snoc (z := []) (by omega)]; done) | (rw [take_snoc (z := []) (by omega)]; rfl)) | rfl) (show (((i : Nat) : Int) + 1 : Int) = (((i + 1) : Nat) : Int) from by first | with_reducible rfl | (omega) | rfl)), (by omega), (by omega)⟩
 ·replace h1 : ¬ (((i : Nat) : Int) < ((List.length x0 : Nat) : Int)) := of_decide_eq_false h1
  refine wp_exit (then_exit (then_exit (in_hit (then_normal (wp_seq ?_)))))
  refine at_regq [] { ts := [2], os := [1] } [] gamOK hT h (by kernel_rfl) trivial fun a w h => then_normal (wp_ret ?_)
  exact at_return (S := S_spec_l6Copy) (x := (x0, ())) ((List.take i x0), ()) [] h (by kernel_rfl) trivial (congrArg (fun z => (z, ())) (show ((List.take i x0)) = (idD s97) x0 from by (rw [take_all (by omega)]; rfl)))

abbrev Q__impl_Generation_clone := (fun (x0 : T218) => Sh.fit s218 x0)
def S__impl_Generation_clone : Sum := { fid := 204, dom := [s218], cod := [s218], dp := true, fz := false, pre := fun x => Q__impl_Generation_clone x.1, g := fun x => (((idD s218) x.1), ()) }
def S__impl_Generation_clone_tab : List (Nat × Sum) := [(276, S_impl_copyMatrix)]
theorem S__impl_Generation_clone_ok : FnOK Try.prog 204 S__impl_Generation_clone := by
 refine at_enter 9 (fun x => ⟨[(0, aG [cI x.1.1, .ro s22 x.1.2])], []⟩) Try.func204 rfl (by kernel_rfl) (fun x => rfl) ?_
 rintro w0 Z0 ⟨x0, u⟩ a w
 revert x0
 intro (x0 : T218) hpre hlens h
 replace h : At w0 Z0 [] 9 ⟨[(0, aG [cI x0.1, .ro s22 x0.2])], []⟩ a w := h
 replace hpre : Q__impl_Generation_clone x0 := hpre
 have hl1 : List.length x0.2 ≤ 9223372036854775807 := hlens.1.2.1
 have hT : TabOK Try.prog S__impl_Generation_clone_tab := (.cons S_impl_copyMatrix_ok .nil)
 have hf0 : Sh.fit s218 x0 := hpre
 have hn0_1 : List.length x0.2 ≤ 1073741824 := hf0.2.1
 refine wp_seq ?_
 refine at_regq [{ ids := [1] }, { ids := [2] }] { ts := [1, 2], os := [1, 2] } [] gamOK hT h (by kernel_rfl) trivial fun a w h => then_normal (wp_seq ?_)
 refine at_anyq [{}, {}, {}, {}, { ids := [3] }, {}, {}] { ts := [2], os := [2, 3] } [Q_impl_copyMatrix x0.2] gamOK hT mixed h (by kernel_rfl) ⟨(by exact hf0.2), trivial⟩ fun a w h => then_normal (wp_ret ?_)
 exact at_return (S := S__impl_Generation_clone) (x := (x0, ())) (x0, ()) [] h (by kernel_rfl) trivial (congrArg (fun z => (z, ())) (show (x0) = (idD s218) x0 from by rfl))

abbrev Q_spec_l10Copy := (fun (x0 : T218) => Sh.fit s218 x0)
def S_spec_l10Copy : Sum := { fid := 202, dom := [s218], cod := [s218], dp := false, fz := false, pre := fun x => Q_spec_l10Copy x.1, g := fun x => (((idD s218) x.1), ()) }
def S_spec_l10Copy_tab : List (Nat × Sum) := [(227, S_spec_l6Copy)]
theorem S_spec_l10Copy_ok : FnOK Try.prog 202 S_spec_l10Copy := by
 refine at_enter 9 (fun x => ⟨[(0, aG [cI x.1.1, .ro s22 x.1.2])], []⟩) Try.func202 rfl (by kernel_rfl) (fun x => rfl) ?_
 rintro w0 Z0 ⟨x0, u⟩ a w
 revert x0
 intro (x0 : T218) hpre hlens h
 replace h : At w0 Z0 [] 9 ⟨[(0, aG [cI x0.1, .ro s22 x0.2])], []⟩ a w := h
 replace hpre : Q_spec_l10Copy x0 := hpre
 have hl1 : List.length x0.2 ≤ 9223372036854775807 := hlens.1.2.1
 have hT : TabOK Try.prog S_spec_l10Copy_tab := (.cons S_spec_l6Copy_ok .nil)
 have hf0 : Sh.fit s218 x0 := hpre
 have hn0_1 : List.length x0.2 ≤ 1073741824 := hf0.2.1
 refine wp_seq ?_
 refine at_regq [{ ids := [1] }, { ids := [2] }] { ts := [1, 2], os := [1, 2] } [] gamOK hT h (by kernel_rfl) trivial fun a w h => then_normal (wp_seq ?_)
 refine at_anyq [{}, {}, {}, {}, { ids := [3] }, {}, {}] { ts := [2], os := [2, 3] } [Q_spec_l6Copy x0.2] gamOK hT mixed h (by kernel_rfl) ⟨(by exact hf0.2), trivial⟩ fun a w h => then_normal (wp_ret ?_)
 exact at_return (S := S_spec_l10Copy) (x := (x0, ())) (x0, ()) [] h (by kernel_rfl) trivial (congrArg (fun z => (z, ())) (show (x0) = (idD s218) x0 from by rfl))

def validW (x0 : T85) : Bool := (if (inR x0.2.2.2 0 60) = true then (if (inR x0.1 0 x0.2.1) = true then (if x0.2.1 > x0.2.2.2 then false else (if x0.2.1 - x0.1 > 4 then false else (if (inR x0.2.2.1 0 (IntKind.i64.wrap ((IntKind.i64.wrap (1 * 2 ^ (min (x0.2.1 - x0.1 : Int).toNat (IntKind.i64).bits))) - 1))) = true then decide (IntKind.i64.wrap ((BitVec.ofInt (IntKind.i64).bits x0.2.2.1 &&& BitVec.ofInt (IntKind.i64).bits 1).toNat : Int) = 0) else false))) else false) else false)
def S_impl_IsValidWindow : Sum := { fid := 174, dom := [s85], cod := [(.bool 4)], dp := true, fz := false, pre := fun x => True, g := fun x => ((validW x.1), ()) }
def S_impl_IsValidWindow_tab : List (Nat × Sum) := [(107, S_impl_InRange)]
theorem S_impl_IsValidWindow_ok : FnOK Try.prog 174 S_impl_IsValidWindow := by
 refine at_enter 46 (fun x => ⟨[(0, aG [cI x.1.1, cI x.1.2.1, cI x.1.2.2.1, cI x.1.2.2.2])], []⟩) Try.func174 rfl (by kernel_rfl) (fun x => rfl) ?_
 rintro w0 Z0 ⟨x0, u⟩ a w
 revert x0
 intro (x0 : T85) hpre hlens h
 replace h : At w0 Z0 [] 46 ⟨[(0, aG [cI x0.1, cI x0.2.1, cI x0.2.2.1, cI x0.2.2.2])], []⟩ a w := h
 have hT : TabOK Try.prog S_impl_IsValidWindow_tab := (.cons S_impl_InRange_ok .nil)
 refine wp_seq ?_
 refine at_regq [{ ids := [1] }] { ts := [1, 2], os := [1] } [] gamOK hT h (by kernel_rfl) trivial fun a w h => then_normal (wp_seq (wp_seq ?_))
 rcases Bool.eq_false_or_eq_true (!(inR x0.2.2.2 0 60)) with h1 | h1
 ·have hzh1 : (inR x0.2.2.2 0 60) = false := notT h1
  have hvh1 := inR_f (notT h1)
  refine at_regq [{}, {}, {}, { hint := some (aB true) }] { ts := [1, 2, 29], os := [1] } [True, (AV.p (.c (.v (.bool (!(inR x0.2.2.2 0 60))))) = AV.p (.c (.v (.bool true))))] gamOK hT h (by kernel_rfl) ⟨trivial, hint_bool (h1), trivial⟩ fun a w h => then_normal ?_
  refine at_test true h (by kernel_rfl) (fun hh => ?_) (fun hh => nomatch hh)
  refine wp_seq ?_
  refine at_regq [] { ts := [1, 2], os := [1] } [] gamOK hT h (by kernel_rfl) trivial fun a w h => then_normal (wp_ret (then_ret ?_))
  exact at_return (S := S_impl_IsValidWindow) (x := (x0, ())) (false, ()) [] h (by kernel_rfl) trivial (congrArg (fun z => (z, ())) (show (false) = validW x0 from by first | rfl | (unfold validW; rw [if_neg (neT (notT h1))])))
 ·have hzh1 : (inR x0.2.2.2 0 60) = true := notF h1
  have hvh1 := inR_t (notF h1)
  rcases Bool.eq_false_or_eq_true (!(inR x0.1 0 x0.2.1)) with h2 | h2
  ·have hzh2 : (inR x0.1 0 x0.2.1) = false := notT h2
   have hvh2 := inR_f (notT h2)
   refine at_regq [{}, {}, {}, { hint := some (aB false) }, {}, {}, {}, {}, {}, {}, { hint := some (aB true) }] { ts := [1, 2, 29], os := [1] } [True, (AV.p (.c (.v (.bool (!(inR x0.2.2.2 0 60))))) = AV.p (.c (.v (.bool false)))), True, (AV.p (.c (.v (.bool (!(inR x0.1 0 x0.2.1))))) = AV.p (.c (.v (.bool true))))] gamOK hT h (by kernel_rfl) ⟨trivial, hint_bool (h1), trivial, hint_bool (h2), trivial⟩ fun a w h => then_normal ?_
   refine at_test true h (by kernel_rfl) (fun hh => ?_) (fun hh => nomatch hh)
   refine wp_seq ?_
   refine at_regq [] { ts := [1, 2], os := [1] } [] gamOK hT h (by kernel_rfl) trivial fun a w h => then_normal (wp_ret (then_ret ?_))
   exact at_return (S := S_impl_IsValidWindow) (x := (x0, ())) (false, ()) [] h (by kernel_rfl) trivial (congrArg (fun z => (z, ())) (show (false) = validW x0 from by first | rfl | (unfold validW; rw [if_pos (notF h1), if_neg (neT (notT h2))])))
  ·have hzh2 : (inR x0.1 0 x0.2.1) = true := notF h2
   have hvh2 := inR_t (notF h2)
   by_cases h3 : x0.2.1 > x0.2.2.2
   ·refine at_regq [{}, {}, {}, { hint := some (aB false) }, {}, {}, {}, {}, {}, {}, { hint := some (aB false) }, {}, {}, {}, {}, {}, {}, { hint := some (aB true) }] { ts := [1, 2, 29], os := [1] } [True, (AV.p (.c (.v (.bool (!(inR x0.2.2.2 0 60))))) = AV.p (.c (.v (.bool false)))), True, (AV.p (.c (.v (.bool (!(inR x0.1 0 x0.2.1))))) = AV.p (.c (.v (.bool false)))), (AV.p (.c (.v (.bool (decide (x0.2.1 > x0.2.2.2))))) = AV.p (.c (.v (.bool true))))] gamOK hT h (by kernel_rfl) ⟨trivial, hint_bool (h1), trivial, hint_bool (h2), hint_bool (decide_eq_true h3), trivial⟩ fun a w h => then_normal ?_
    refine at_test true h (by kernel_rfl) (fun hh => ?_) (fun hh => nomatch hh)
    refine wp_seq ?_
    refine at_regq [] { ts := [1, 2], os := [1] } [] gamOK hT h (by kernel_rfl) trivial fun a w h => then_normal (wp_ret (then_ret ?_))
    exact at_return (S := S_impl_IsValidWindow) (x := (x0, ())) (false, ()) [] h (by kernel_rfl) trivial (congrArg (fun z => (z, ())) (show (false) = validW x0 from by first | rfl | (unfold validW; rw [if_pos (notF h1), if_pos (notF h2), if_pos h3])))
   ·refine at_regq [{}, {}, {}, { hint := some (aB false) }, {}, {}, {}, {}, {}, {}, { hint := some (aB false) }, {}, {}, {}, {}, {}, {}, { hint := some (aB false) }, {}, {}, {}, {}, {}, {}, { nw := true }] { ts := [1, 2, 29], os := [1] } [True, (AV.p (.c (.v (.bool (!(inR x0.2.2.2 0 60))))) = AV.p (.c (.v (.bool false)))), True, (AV.p (.c (.v (.bool (!(inR x0.1 0 x0.2.1))))) = AV.p (.c (.v (.bool false)))), (AV.p (.c (.v (.bool (decide (x0.2.1 > x0.2.2.2))))) = AV.p (.c (.v (.bool false)))), I64 (x0.2.1 - x0.1)] gamOK hT h (by kernel_rfl) ⟨trivial, hint_bool (h1), trivial, hint_bool (h2), hint_bool (decide_eq_false h3), ⟨by first | omega | (simp only [lsA]; omega) | (simp <;> omega), by first | omega | (simp only [lsA]; omega) | (simp <;> omega)⟩, trivial⟩ fun a w h => then_normal ?_
    refine at_test (decide (x0.2.1 - x0.1 > 4)) h (by kernel_rfl) (fun h4 => ?_) (fun h4 => ?_)
    ·replace h4 : x0.2.1 - x0.1 > 4 := of_decide_eq_true h4
     refine wp_seq ?_
     refine at_regq [] { ts := [1, 2], os := [1] } [] gamOK hT h (by kernel_rfl) trivial fun a w h => then_normal (wp_ret (then_ret ?_))
     exact at_return (S := S_impl_IsValidWindow) (x := (x0, ())) (false, ()) [] h (by kernel_rfl) trivial (congrArg (fun z => (z, ())) (show (false) = validW x0 from by first | rfl | (unfold validW; rw [if_pos (notF h1), if_pos (notF h2), if_neg h3, if_pos h4])))
    ·replace h4 : ¬ (x0.2.1 - x0.1 > 4) := of_decide_eq_false h4
     refine wp_skip (then_normal (wp_seq ?_))
     rcases Bool.eq_false_or_eq_true ((inR x0.2.2.1 0 (IntKind.i64.wrap ((IntKind.i64.wrap (1 * 2 ^ (min (x0.2.1 - x0.1 : Int).toNat (IntKind.i64).bits))) - 1)))) with h5 | h5
     ·have hvh5 := inR_t h5
      refine at_anyq [{}, {}, {}, {}, {}, {}, { nw := true }, {}, {}, { hint := some (aB true) }, {}, {}, {}, {}, {}, {}, {}] { ts := [2], os := [] } [I64 (x0.2.1 - x0.1), (0 : Int) ≤ (x0.2.1 - x0.1), True, (AV.p (.c (.v (.bool ((inR x0.2.2.1 0 (IntKind.i64.wrap ((IntKind.i64.wrap (1 * 2 ^ (min (x0.2.1 - x0.1 : Int).toNat (IntKind.i64).bits))) - 1))))))) = AV.p (.c (.v (.bool true))))] gamOK hT mixed h (by kernel_rfl) ⟨⟨by first | omega | (simp only [lsA]; omega) | (simp <;> omega), by first | omega | (simp only [lsA]; omega) | (simp <;> omega)⟩, (by first | omega | (simp only [lsA]; omega) | (simp <;> omega)), trivial, hint_bool (h5), trivial⟩ fun a w h => then_normal (wp_ret ?_)
      exact at_return (S := S_impl_IsValidWindow) (x := (x0, ())) (decide (IntKind.i64.wrap ((BitVec.ofInt (IntKind.i64).bits x0.2.2.1 &&& BitVec.ofInt (IntKind.i64).bits 1).toNat : Int) = 0), ()) [] h (by kernel_rfl) trivial (congrArg (fun z => (z, ())) (show (decide (IntKind.i64.wrap ((BitVec.ofInt (IntKind.i64).bits x0.2.2.1 &&& BitVec.ofInt (IntKind.i64).bits 1).toNat : Int) = 0)) = validW x0 from by first | rfl | (unfold validW; rw [if_pos (notF h1), if_pos (notF h2), if_neg h3, if_neg h4, if_pos h5])))
     ·have hvh5 := inR_f h5
      refine at_anyq [{}, {}, {}, {}, {}, {}, { nw := true }, {}, {}, { hint := some (aB false) }, {}, {}, {}, {}, {}, {}, {}] { ts := [2], os := [] } [I64 (x0.2.1 - x0.1), (0 : Int) ≤ (x0.2.1 - x0.1), True, (AV.p (.c (.v (.bool ((inR x0.2.2.1 0 (IntKind.i64.wrap ((IntKind.i64.wrap (1 * 2 ^ (min (x0.2.1 - x0.1 : Int).toNat (IntKind.i64).bits))) - 1))))))) = AV.p (.c (.v (.bool false))))] gamOK hT mixed h (by kernel_rfl) ⟨⟨by first | omega | (simp only [lsA]; omega) | (simp <;> omega), by first | omega | (simp only [lsA]; omega) | (simp <;> omega)⟩, (by first | omega | (simp only [lsA]; omega) | (simp <;> omega)), trivial, hint_bool (h5), trivial⟩ fun a w h => then_normal (wp_ret ?_)
      exact at_return (S := S_impl_IsValidWindow) (x := (x0, ())) (false, ()) [] h (by kernel_rfl) trivial (congrArg (fun z => (z, ())) (show (false) = validW x0 from by first | rfl | (unfold validW; rw [if_pos (notF h1), if_pos (notF h2), if_neg h3, if_neg h4, if_neg (neT h5)])))
theorem validW_t {w : T85} (h : validW w = true) : (0 ≤ w.1 ∧ w.1 ≤ w.2.1) ∧ w.2.1 ≤ w.2.2.2 ∧ w.2.2.2 ≤ 60 := by
  unfold validW at h
  split at h
  · rename_i h1
    split at h
    · rename_i h2
      split at h
      · first | (cases h; done) | (have := inR_t h1; have := inR_t h2; omega)
      · first | (have := inR_t h1; have := inR_t h2; omega) | (cases h; done)
    · cases h
  · cases h

def startW (w : T85) : T85 × Int × Bool := if validW w = true ∧ ¬ w.2.1 = w.2.2.2 ∧ ¬ w.2.1 - w.1 = 4 then ((w.1, w.2.1 + 1, w.2.2.1, w.2.2.2), w.2.1, true) else (w, 0, false)
theorem startW_y {w : T85} (h : validW w = true) (h1 : ¬ w.2.1 = w.2.2.2) (h2 : ¬ w.2.1 - w.1 = 4) : ((w.1, w.2.1 + 1, w.2.2.1, w.2.2.2), w.2.1, true) = startW w := (if_pos ⟨h, h1, h2⟩).symm
theorem startW_n {w : T85} (h : validW w = false ∨ w.2.1 = w.2.2.2 ∨ w.2.1 - w.1 = 4) : (w, 0, false) = startW w := by
  unfold startW; rw [if_neg]
  rintro ⟨h1, h2, h3⟩
  rcases h with h | h | h
  · rw [h1] at h; cases h
  · exact h2 h
  · exact h3 h
theorem startW_t {w : T85} (h : (startW w).2.2 = true) : (0 ≤ w.2.1 ∧ w.2.1 < 60) ∧ (startW w).1.2.1 = w.2.1 + 1 := by
  unfold startW at h ⊢
  split at h
  · rename_i hc
    have := validW_t hc.1
    rw [if_pos hc]
    exact ⟨by have := hc.2.1; omega, rfl⟩
  · cases h
theorem startW_f {w : T85} (h : (startW w).2.2 = false) : (startW w).1 = w := by
  unfold startW at h ⊢
  split at h
  · cases h
  · rename_i hc; rw [if_neg hc]
def fillN (w : T85) : Nat → T85
  | 0 => w
  | i + 1 => (startW (fillN w i)).1
def fillB (w : T85) : Nat → Bool
  | 0 => true
  | i + 1 => (startW (fillN w i)).2.2
def fillOK (w : T85) (i : Nat) : Prop := i ≤ 62 ∧ (i = 0 ∨ fillB w i = false ∨ ((i : Int) ≤ (fillN w i).2.1 ∧ (fillN w i).2.1 ≤ 60))
theorem fillOK_s {w : T85} {i : Nat} (h : fillOK w i) (hb : fillB w i = true) : fillOK w (i + 1) := by
  obtain ⟨h1, h2⟩ := h
  refine ⟨by rcases h2 with h2 | h2 | h2; omega; (rw [h2] at hb; cases hb); omega, ?_⟩
  cases hc : fillB w (i + 1) with
  | false => right; left; rfl
  | true =>
    have h3 := startW_t (w := fillN w i) hc
    right; right
    show ((i + 1 : Nat) : Int) ≤ (startW (fillN w i)).1.2.1 ∧ (startW (fillN w i)).1.2.1 ≤ 60
    rcases h2 with h2 | h2 | h2
    · omega
    · rw [h2] at hb; cases hb
    · omega
theorem fillN_st {w : T85} {i : Nat} (h : (startW (fillN w i)).2.2 = false) : ∀ d, fillN w (i + d) = fillN w i
  | 0 => rfl
  | d + 1 => by
    have ih := fillN_st h d
    show (startW (fillN w (i + d))).1 = _
    rw [ih]; exact startW_f h
theorem fillN_end {w : T85} {i : Nat} (h1 : i ≤ 62) (h : (startW (fillN w i)).2.2 = false) : fillN w i = fillN w 62 := by
  have := fillN_st h (62 - i)
  rw [show i + (62 - i) = 62 by omega] at this; exact this.symm
theorem fillN_end2 {w : T85} {i : Nat} (h1 : fillOK w i) (h : fillB w i = false) : fillN w i = fillN w 62 := by
  cases i with
  | zero => cases h
  | succ i =>
    have h2 := fillN_end (w := w) (i := i) (by have := h1.1; omega) h
    rw [← h2]; exact startW_f h


def S_spec_IsValidWindow : Sum := { fid := 170, dom := [s85], cod := [(.bool 4)], dp := true, fz := false, pre := fun x => True, g := fun x => ((validW x.1), ()) }
def S_spec_IsValidWindow_tab : List (Nat × Sum) := [(103, S_spec_l1In)]
theorem S_spec_IsValidWindow_ok : FnOK Try.prog 170 S_spec_IsValidWindow := by
 refine at_enter 46 (fun x => ⟨[(0, aG [cI x.1.1, cI x.1.2.1, cI x.1.2.2.1, cI x.1.2.2.2])], []⟩) Try.func170 rfl (by kernel_rfl) (fun x => rfl) ?_
 rintro w0 Z0 ⟨x0, u⟩ a w
 revert x0
 intro (x0 : T85) hpre hlens h
 replace h : At w0 Z0 [] 46 ⟨[(0, aG [cI x0.1, cI x0.2.1, cI x0.2.2.1, cI x0.2.2.2])], []⟩ a w := h
 have hT : TabOK Try.prog S_spec_IsValidWindow_tab := (.cons S_spec_l1In_ok .nil)
 refine wp_seq ?_
 refine at_regq [{ ids := [1] }] { ts := [1, 2], os := [1] } [] gamOK hT h (by kernel_rfl) trivial fun a w h => then_normal (wp_seq ?_)
 rcases Bool.eq_false_or_eq_true ((inR x0.2.2.2 0 60)) with h1 | h1
 ·have hvh1 := inR_t h1
  rcases Bool.eq_false_or_eq_true ((inR x0.2.1 0 x0.2.2.2)) with h2 | h2
  ·have hvh2 := inR_t h2
   rcases Bool.eq_false_or_eq_true ((inR x0.1 0 x0.2.1)) with h3 | h3
   ·have hvh3 := inR_t h3
    by_cases h4 : x0.2.1 - x0.1 ≤ 4
    ·rcases Bool.eq_false_or_eq_true ((inR x0.2.2.1 0 (IntKind.i64.wrap ((IntKind.i64.wrap (1 * 2 ^ (min (x0.2.1 - x0.1 : Int).toNat (IntKind.i64).bits))) - 1)))) with h5 | h5
     ·have hvh5 := inR_t h5
      refine at_anyq [{}, {}, { hint := some (aB true) }, {}, {}, {}, {}, {}, { hint := some (aB true) }, {}, {}, {}, {}, {}, {}, { hint := some (aB true) }, {}, {}, {}, {}, {}, {}, { nw := true }, { hint := some (aB true) }, {}, {}, {}, {}, {}, {}, {}, {}, { nw := true }, {}, {}, { hint := some (aB true) }, {}, {}, {}, {}, {}, {}, {}, {}] { ts := [2], os := [] } [True, (AV.p (.c (.v (.bool ((inR x0.2.2.2 0 60))))) = AV.p (.c (.v (.bool true)))), True, (AV.p (.c (.v (.bool ((inR x0.2.1 0 x0.2.2.2))))) = AV.p (.c (.v (.bool true)))), True, (AV.p (.c (.v (.bool ((inR x0.1 0 x0.2.1))))) = AV.p (.c (.v (.bool true)))), I64 (x0.2.1 - x0.1), (AV.p (.c (.v (.bool (decide (x0.2.1 - x0.1 ≤ 4))))) = AV.p (.c (.v (.bool true)))), I64 (x0.2.1 - x0.1), (0 : Int) ≤ (x0.2.1 - x0.1), True, (AV.p (.c (.v (.bool ((inR x0.2.2.1 0 (IntKind.i64.wrap ((IntKind.i64.wrap (1 * 2 ^ (min (x0.2.1 - x0.1 : Int).toNat (IntKind.i64).bits))) - 1))))))) = AV.p (.c (.v (.bool true))))] gamOK hT mixed h (by kernel_rfl) ⟨trivial, hint_bool (h1), trivial, hint_bool (h2), trivial, hint_bool (h3), ⟨by first | omega | (simp only [lsA]; omega) | (simp <;> omega), by first | omega | (simp only [lsA]; omega) | (simp <;> omega)⟩, hint_bool (decide_eq_true h4), ⟨by first | omega | (simp only [lsA]; omega) | (simp <;> omega), by first | omega | (simp only [lsA]; omega) | (simp <;> omega)⟩, (by first | omega | (simp only [lsA]; omega) | (simp <;> omega)), trivial, hint_bool (h5), trivial⟩ fun a w h => then_normal (wp_ret ?_)
      exact at_return (S := S_spec_IsValidWindow) (x := (x0, ())) (decide (IntKind.i64.wrap ((BitVec.ofInt (IntKind.i64).bits x0.2.2.1 &&& BitVec.ofInt (IntKind.i64).bits 1).toNat : Int) = 0), ()) [] h (by kernel_rfl) trivial (congrArg (fun z => (z, ())) (show (decide (IntKind.i64.wrap ((BitVec.ofInt (IntKind.i64).bits x0.2.2.1 &&& BitVec.ofInt (IntKind.i64).bits 1).toNat : Int) = 0)) = validW x0 from by (unfold validW; simp_all [inR]; try first | omega | (rw [show decide (x0.2.2.2 < x0.2.1) = false from decide_eq_false (by omega), show decide (4 < x0.2.1 - x0.1) = false from decide_eq_false (by omega)]; rfl))))
     ·have hvh5 := inR_f h5
      refine at_anyq [{}, {}, { hint := some (aB true) }, {}, {}, {}, {}, {}, { hint := some (aB true) }, {}, {}, {}, {}, {}, {}, { hint := some (aB true) }, {}, {}, {}, {}, {}, {}, { nw := true }, { hint := some (aB true) }, {}, {}, {}, {}, {}, {}, {}, {}, { nw := true }, {}, {}, { hint := some (aB false) }, {}, {}, {}, {}, {}, {}, {}, {}] { ts := [2], os := [] } [True, (AV.p (.c (.v (.bool ((inR x0.2.2.2 0 60))))) = AV.p (.c (.v (.bool true)))), True, (AV.p (.c (.v (.bool ((inR x0.2.1 0 x0.2.2.2))))) = AV.p (.c (.v (.bool true)))), True, (AV.p (.c (.v (.bool ((inR x0.1 0 x0.2.1))))) = AV.p (.c (.v (.bool true)))), I64 (x0.2.1 - x0.1), (AV.p (.c (.v (.bool (decide (x0.2.1 - x0.1 ≤ 4))))) = AV.p (.c (.v (.bool true)))), I64 (x0.2.1 - x0.1), (0 : Int) ≤ (x0.2.1 - x0.1), True, (AV.p (.c (.v (.bool ((inR x0.2.2.1 0 (IntKind.i64.wrap ((IntKind.i64.wrap (1 * 2 ^ (min (x0.2.1 - x0.1 : Int).toNat (IntKind.i64).bits))) - 1))))))) = AV.p (.c (.v (.bool false))))] gamOK hT mixed h (by kernel_rfl) ⟨trivial, hint_bool (h1), trivial, hint_bool (h2), trivial, hint_bool (h3), ⟨by first | omega | (simp only [lsA]; omega) | (simp <;> omega), by first | omega | (simp only [lsA]; omega) | (simp <;> omega)⟩, hint_bool (decide_eq_true h4), ⟨by first | omega | (simp only [lsA]; omega) | (simp <;> omega), by first | omega | (simp only [lsA]; omega) | (simp <;> omega)⟩, (by first | omega | (simp only [lsA]; omega) | (simp <;> omega)), trivial, hint_bool (h5), trivial⟩ fun a w h => then_normal (wp_ret ?_)
      exact at_return (S := S_spec_IsValidWindow) (x := (x0, ())) (false, ()) [] h (by kernel_rfl) trivial (congrArg (fun z => (z, ())) (show (false) = validW x0 from by (unfold validW; simp_all [inR]; try first | omega | (rw [show decide (x0.2.2.2 < x0.2.1) = false from decide_eq_false (by omega), show decide (4 < x0.2.1 - x0.1) = false from decide_eq_false (by omega)]; rfl))))
    ·refine at_anyq [{}, {}, { hint := some (aB true) }, {}, {}, {}, {}, {}, { hint := some (aB true) }, {}, {}, {}, {}, {}, {}, { hint := some (aB true) }, {}, {}, {}, {}, {}, {}, { nw := true }, { hint := some (aB false) }, {}, {}, {}, {}, {}, {}, {}, {}, {}, {}, {}, {}, {}, {}, {}, {}, {}, {}, {}, {}] { ts := [2], os := [] } [True, (AV.p (.c (.v (.bool ((inR x0.2.2.2 0 60))))) = AV.p (.c (.v (.bool true)))), True, (AV.p (.c (.v (.bool ((inR x0.2.1 0 x0.2.2.2))))) = AV.p (.c (.v (.bool true)))), True, (AV.p (.c (.v (.bool ((inR x0.1 0 x0.2.1))))) = AV.p (.c (.v (.bool true)))), I64 (x0.2.1 - x0.1), (AV.p (.c (.v (.bool (decide (x0.2.1 - x0.1 ≤ 4))))) = AV.p (.c (.v (.bool false))))] gamOK hT mixed h (by kernel_rfl) ⟨trivial, hint_bool (h1), trivial, hint_bool (h2), trivial, hint_bool (h3), ⟨by first | omega | (simp only [lsA]; omega) | (simp <;> omega), by first | omega | (simp only [lsA]; omega) | (simp <;> omega)⟩, hint_bool (decide_eq_false h4), trivial⟩ fun a w h => then_normal (wp_ret ?_)
     exact at_return (S := S_spec_IsValidWindow) (x := (x0, ())) (false, ()) [] h (by kernel_rfl) trivial (congrArg (fun z => (z, ())) (show (false) = validW x0 from by (unfold validW; simp_all [inR]; try first | omega | (rw [show decide (x0.2.2.2 < x0.2.1) = false from decide_eq_false (by omega), show decide (4 < x0.2.1 - x0.1) = false from decide_eq_false (by omega)]; rfl))))
   ·have hvh3 := inR_f h3
    refine at_anyq [{}, {}, { hint := some (aB true) }, {}, {}, {}, {}, {}, { hint := some (aB true) }, {}, {}, {}, {}, {}, {}, { hint := some (aB false) }, {}, {}, {}, {}, {}, {}, {}, {}, {}, {}, {}, {}, {}, {}, {}, {}, {}, {}, {}, {}, {}, {}, {}, {}, {}, {}, {}, {}] { ts := [2], os := [] } [True, (AV.p (.c (.v (.bool ((inR x0.2.2.2 0 60))))) = AV.p (.c (.v (.bool true)))), True, (AV.p (.c (.v (.bool ((inR x0.2.1 0 x0.2.2.2))))) = AV.p (.c (.v (.bool true)))), True, (AV.p (.c (.v (.bool ((inR x0.1 0 x0.2.1))))) = AV.p (.c (.v (.bool false))))] gamOK hT mixed h (by kernel_rfl) ⟨trivial, hint_bool (h1), trivial, hint_bool (h2), trivial, hint_bool (h3), trivial⟩ fun a w h => then_normal (wp_ret ?_)
    exact at_return (S := S_spec_IsValidWindow) (x := (x0, ())) (false, ()) [] h (by kernel_rfl) trivial (congrArg (fun z => (z, ())) (show (false) = validW x0 from by (unfold validW; simp_all [inR]; try first | omega | (rw [show decide (x0.2.2.2 < x0.2.1) = false from decide_eq_false (by omega), show decide (4 < x0.2.1 - x0.1) = false from decide_eq_false (by omega)]; rfl))))
  ·have hvh2 := inR_f h2
   refine at_anyq [{}, {}, { hint := some (aB true) }, {}, {}, {}, {}, {}, { hint := some (aB false) }, {}, {}, {}, {}, {}, {}, {}, {}, {}, {}, {}, {}, {}, {}, {}, {}, {}, {}, {}, {}, {}, {}, {}, {}, {}, {}, {}, {}, {}, {}, {}, {}, {}, {}, {}] { ts := [2], os := [] } [True, (AV.p (.c (.v (.bool ((inR x0.2.2.2 0 60))))) = AV.p (.c (.v (.bool true)))), True, (AV.p (.c (.v (.bool ((inR x0.2.1 0 x0.2.2.2))))) = AV.p (.c (.v (.bool false))))] gamOK hT mixed h (by kernel_rfl) ⟨trivial, hint_bool (h1), trivial, hint_bool (h2), trivial⟩ fun a w h => then_normal (wp_ret ?_)
   exact at_return (S := S_spec_IsValidWindow) (x := (x0, ())) (false, ()) [] h (by kernel_rfl) trivial (congrArg (fun z => (z, ())) (show (false) = validW x0 from by (unfold validW; simp_all [inR]; try first | omega | (rw [show decide (x0.2.2.2 < x0.2.1) = false from decide_eq_false (by omega), show decide (4 < x0.2.1 - x0.1) = false from decide_eq_false (by omega)]; rfl))))
 ·have hvh1 := inR_f h1
  refine at_anyq [{}, {}, { hint := some (aB false) }, {}, {}, {}, {}, {}, {}, {}, {}, {}, {}, {}, {}, {}, {}, {}, {}, {}, {}, {}, {}, {}, {}, {}, {}, {}, {}, {}, {}, {}, {}, {}, {}, {}, {}, {}, {}, {}, {}, {}, {}, {}] { ts := [2], os := [] } [True, (AV.p (.c (.v (.bool ((inR x0.2.2.2 0 60))))) = AV.p (.c (.v (.bool false))))] gamOK hT mixed h (by kernel_rfl) ⟨trivial, hint_bool (h1), trivial⟩ fun a w h => then_normal (wp_ret ?_)
  exact at_return (S := S_spec_IsValidWindow) (x := (x0, ())) (false, ()) [] h (by kernel_rfl) trivial (congrArg (fun z => (z, ())) (show (false) = validW x0 from by (unfold validW; simp_all [inR]; try first | omega | (rw [show decide (x0.2.2.2 < x0.2.1) = false from decide_eq_false (by omega), show decide (4 < x0.2.1 - x0.1) = false from decide_eq_false (by omega)]; rfl))))

def S_impl_StartGeneration : Sum := { fid := 206, dom := [s85], cod := [s85, (.int 3), (.bool 4)], dp := true, fz := false, pre := fun x => True, g := fun x => ((startW x.1).1, ((startW x.1).2.1, ((startW x.1).2.2, ()))) }
def S_impl_StartGeneration_tab : List (Nat × Sum) := [(174, S_impl_IsValidWindow)]
theorem S_impl_StartGeneration_ok : FnOK Try.prog 206 S_impl_StartGeneration := by
 refine at_enter 32 (fun x => ⟨[(0, aG [cI x.1.1, cI x.1.2.1, cI x.1.2.2.1, cI x.1.2.2.2])], []⟩) Try.func206 rfl (by kernel_rfl) (fun x => rfl) ?_
 rintro w0 Z0 ⟨x0, u⟩ a w
 revert x0
 intro (x0 : T85) hpre hlens h
 replace h : At w0 Z0 [] 32 ⟨[(0, aG [cI x0.1, cI x0.2.1, cI x0.2.2.1, cI x0.2.2.2])], []⟩ a w := h
 have hT : TabOK Try.prog S_impl_StartGeneration_tab := (.cons S_impl_IsValidWindow_ok .nil)
 refine wp_seq ?_
 refine at_regq [{ ids := [1] }, { ids := [2] }] { ts := [1, 2, 3, 4], os := [1, 2] } [] gamOK hT h (by kernel_rfl) trivial fun a w h => then_normal (wp_seq (wp_seq ?_))
 rcases Bool.eq_false_or_eq_true (!(validW x0)) with h1 | h1
 ·have hzh1 : (validW x0) = false := notT h1
  refine at_regq [{}, {}, { hint := some (aB true) }] { ts := [1, 2, 3, 4, 22], os := [1, 2] } [True, (AV.p (.c (.v (.bool (!(validW x0))))) = AV.p (.c (.v (.bool true))))] gamOK hT h (by kernel_rfl) ⟨trivial, hint_bool (h1), trivial⟩ fun a w h => then_normal ?_
  refine at_test true h (by kernel_rfl) (fun hh => ?_) (fun hh => nomatch hh)
  refine wp_seq ?_
  refine at_regq [] { ts := [1, 2, 3, 4], os := [1, 2] } [] gamOK hT h (by kernel_rfl) trivial fun a w h => then_normal (wp_ret (then_ret ?_))
  exact at_return (S := S_impl_StartGeneration) (x := (x0, ())) (x0, (0, (false, ()))) [] h (by kernel_rfl) trivial (congrArg (fun z => (z.1, z.2.1, z.2.2, ())) (show ((x0, 0, false)) = startW x0 from by first | exact startW_n (by first | (left; assumption) | (right; left; omega) | (right; right; omega)) | exact startW_y (by assumption) (by omega) (by omega) | (rw [← startW_y (by assumption) (by omega) (by omega)]; first | rfl | (refine Prod.ext rfl (Prod.ext ?_ rfl); dsimp only; omega))))
 ·have hzh1 : (validW x0) = true := notF h1
  have hvh1 := validW_t (notF h1)
  by_cases h2 : x0.2.1 = x0.2.2.2
  ·refine at_regq [{}, {}, { hint := some (aB false) }, {}, {}, {}, {}, {}, { hint := some (aB true) }] { ts := [1, 2, 3, 4, 22], os := [1, 2] } [True, (AV.p (.c (.v (.bool (!(validW x0))))) = AV.p (.c (.v (.bool false)))), (AV.p (.c (.v (.bool (decide (x0.2.1 = x0.2.2.2))))) = AV.p (.c (.v (.bool true))))] gamOK hT h (by kernel_rfl) ⟨trivial, hint_bool (h1), hint_bool (decide_eq_true h2), trivial⟩ fun a w h => then_normal ?_
   refine at_test true h (by kernel_rfl) (fun hh => ?_) (fun hh => nomatch hh)
   refine wp_seq ?_
   refine at_regq [] { ts := [1, 2, 3, 4], os := [1, 2] } [] gamOK hT h (by kernel_rfl) trivial fun a w h => then_normal (wp_ret (then_ret ?_))
   exact at_return (S := S_impl_StartGeneration) (x := (x0, ())) (x0, (0, (false, ()))) [] h (by kernel_rfl) trivial (congrArg (fun z => (z.1, z.2.1, z.2.2, ())) (show ((x0, 0, false)) = startW x0 from by first | exact startW_n (by first | (left; assumption) | (right; left; omega) | (right; right; omega)) | exact startW_y (by assumption) (by omega) (by omega) | (rw [← startW_y (by assumption) (by omega) (by omega)]; first | rfl | (refine Prod.ext rfl (Prod.ext ?_ rfl); dsimp only; omega))))
  ·refine at_regq [{}, {}, { hint := some (aB false) }, {}, {}, {}, {}, {}, { hint := some (aB false) }, {}, {}, {}, {}, {}, {}, { nw := true }] { ts := [1, 2, 3, 4, 22], os := [1, 2] } [True, (AV.p (.c (.v (.bool (!(validW x0))))) = AV.p (.c (.v (.bool false)))), (AV.p (.c (.v (.bool (decide (x0.2.1 = x0.2.2.2))))) = AV.p (.c (.v (.bool false)))), I64 (x0.2.1 - x0.1)] gamOK hT h (by kernel_rfl) ⟨trivial, hint_bool (h1), hint_bool (decide_eq_false h2), ⟨by first | omega | (simp only [lsA]; omega) | (simp <;> omega), by first | omega | (simp only [lsA]; omega) | (simp <;> omega)⟩, trivial⟩ fun a w h => then_normal ?_
   refine at_test (decide (x0.2.1 - x0.1 = 4)) h (by kernel_rfl) (fun h3 => ?_) (fun h3 => ?_)
   ·replace h3 : x0.2.1 - x0.1 = 4 := of_decide_eq_true h3
    refine wp_seq ?_
    refine at_regq [] { ts := [1, 2, 3, 4], os := [1, 2] } [] gamOK hT h (by kernel_rfl) trivial fun a w h => then_normal (wp_ret (then_ret ?_))
    exact at_return (S := S_impl_StartGeneration) (x := (x0, ())) (x0, (0, (false, ()))) [] h (by kernel_rfl) trivial (congrArg (fun z => (z.1, z.2.1, z.2.2, ())) (show ((x0, 0, false)) = startW x0 from by first | exact startW_n (by first | (left; assumption) | (right; left; omega) | (right; right; omega)) | exact startW_y (by assumption) (by omega) (by omega) | (rw [← startW_y (by assumption) (by omega) (by omega)]; first | rfl | (refine Prod.ext rfl (Prod.ext ?_ rfl); dsimp only; omega))))
   ·replace h3 : ¬ (x0.2.1 - x0.1 = 4) := of_decide_eq_false h3
    refine wp_skip (then_normal (wp_seq ?_))
    refine at_regq [{}, {}, { nw := true }] { ts := [1, 2, 3, 4], os := [1, 2] } [I64 (x0.2.1 + 1)] gamOK hT h (by kernel_rfl) ⟨⟨by first | omega | (simp only [lsA]; omega) | (simp <;> omega), by first | omega | (simp only [lsA]; omega) | (simp <;> omega)⟩, trivial⟩ fun a w h => then_normal (wp_seq ?_)
    refine at_anyq [{}, {}, {}, { nw := true }, {}, {}, {}] { ts := [2, 3, 4], os := [2] } [I64 ((x0.2.1 + 1) - 1)] gamOK hT mixed h (by kernel_rfl) ⟨⟨by first | omega | (simp only [lsA]; omega) | (simp <;> omega), by first | omega | (simp only [lsA]; omega) | (simp <;> omega)⟩, trivial⟩ fun a w h => then_normal (wp_ret ?_)
    exact at_return (S := S_impl_StartGeneration) (x := (x0, ())) ((x0.1, (x0.2.1 + 1, x0.2.2)), ((x0.2.1 + 1) - 1, (true, ()))) [] h (by kernel_rfl) trivial (congrArg (fun z => (z.1, z.2.1, z.2.2, ())) (show (((x0.1, (x0.2.1 + 1, x0.2.2)), (x0.2.1 + 1) - 1, true)) = startW x0 from by first | exact startW_n (by first | (left; assumption) | (right; left; omega) | (right; right; omega)) | exact startW_y (by assumption) (by omega) (by omega) | (rw [← startW_y (by assumption) (by omega) (by omega)]; first | rfl | (refine Prod.ext rfl (Prod.ext ?_ rfl); dsimp only; omega))))

def fillU (s : T91) : T91 := (s.1, fillN s.2.1 62, s.2.2)
theorem szW (s : T91) (w : T85) : Sh.sz s91 (s.1, w, s.2.2) = Sh.sz s91 s := rfl


def S_spec_StartGeneration : Sum := { fid := 112, dom := [s85], cod := [s85, (.int 3), (.bool 4)], dp := true, fz := false, pre := fun x => True, g := fun x => ((startW x.1).1, ((startW x.1).2.1, ((startW x.1).2.2, ()))) }
def S_spec_StartGeneration_tab : List (Nat × Sum) := [(170, S_spec_IsValidWindow)]
theorem S_spec_StartGeneration_ok : FnOK Try.prog 112 S_spec_StartGeneration := by
 refine at_enter 33 (fun x => ⟨[(0, aG [cI x.1.1, cI x.1.2.1, cI x.1.2.2.1, cI x.1.2.2.2])], []⟩) Try.func112 rfl (by kernel_rfl) (fun x => rfl) ?_
 rintro w0 Z0 ⟨x0, u⟩ a w
 revert x0
 intro (x0 : T85) hpre hlens h
 replace h : At w0 Z0 [] 33 ⟨[(0, aG [cI x0.1, cI x0.2.1, cI x0.2.2.1, cI x0.2.2.2])], []⟩ a w := h
 have hT : TabOK Try.prog S_spec_StartGeneration_tab := (.cons S_spec_IsValidWindow_ok .nil)
 refine wp_seq ?_
 refine at_regq [{ ids := [1] }, { ids := [2] }] { ts := [1, 2, 3, 4], os := [1, 2] } [] gamOK hT h (by kernel_rfl) trivial fun a w h => then_normal (wp_seq (wp_seq ?_))
 rcases Bool.eq_false_or_eq_true (!(validW x0)) with h1 | h1
 ·have hzh1 : (validW x0) = false := notT h1
  refine at_regq [{}, {}, { hint := some (aB true) }] { ts := [1, 2, 3, 4, 23], os := [1, 2] } [True, (AV.p (.c (.v (.bool (!(validW x0))))) = AV.p (.c (.v (.bool true))))] gamOK hT h (by kernel_rfl) ⟨trivial, hint_bool (h1), trivial⟩ fun a w h => then_normal ?_
  refine at_test true h (by kernel_rfl) (fun hh => ?_) (fun hh => nomatch hh)
  refine wp_seq ?_
  refine at_regq [] { ts := [1, 2, 3, 4], os := [1, 2] } [] gamOK hT h (by kernel_rfl) trivial fun a w h => then_normal (wp_ret (then_ret ?_))
  exact at_return (S := S_spec_StartGeneration) (x := (x0, ())) (x0, (0, (false, ()))) [] h (by kernel_rfl) trivial (congrArg (fun z => (z.1, z.2.1, z.2.2, ())) (show ((x0, 0, false)) = startW x0 from by first | exact startW_n (by first | (left; assumption) | (right; left; omega) | (right; right; omega)) | exact startW_y (by assumption) (by omega) (by omega) | (rw [← startW_y (by assumption) (by omega) (by omega)]; first | rfl | (refine Prod.ext rfl (Prod.ext ?_ rfl); dsimp only; omega))))
 ·have hzh1 : (validW x0) = true := notF h1
  have hvh1 := validW_t (notF h1)
  by_cases h2 : x0.2.1 = x0.2.2.2
  ·refine at_regq [{}, {}, { hint := some (aB false) }, {}, {}, {}, {}, {}, { hint := some (aB true) }] { ts := [1, 2, 3, 4, 23], os := [1, 2] } [True, (AV.p (.c (.v (.bool (!(validW x0))))) = AV.p (.c (.v (.bool false)))), (AV.p (.c (.v (.bool (decide (x0.2.1 = x0.2.2.2))))) = AV.p (.c (.v (.bool true))))] gamOK hT h (by kernel_rfl) ⟨trivial, hint_bool (h1), hint_bool (decide_eq_true h2), trivial⟩ fun a w h => then_normal ?_
   refine at_test true h (by kernel_rfl) (fun hh => ?_) (fun hh => nomatch hh)
   refine wp_seq ?_
   refine at_regq [] { ts := [1, 2, 3, 4], os := [1, 2] } [] gamOK hT h (by kernel_rfl) trivial fun a w h => then_normal (wp_ret (then_ret ?_))
   exact at_return (S := S_spec_StartGeneration) (x := (x0, ())) (x0, (0, (false, ()))) [] h (by kernel_rfl) trivial (congrArg (fun z => (z.1, z.2.1, z.2.2, ())) (show ((x0, 0, false)) = startW x0 from by first | exact startW_n (by first | (left; assumption) | (right; left; omega) | (right; right; omega)) | exact startW_y (by assumption) (by omega) (by omega) | (rw [← startW_y (by assumption) (by omega) (by omega)]; first | rfl | (refine Prod.ext rfl (Prod.ext ?_ rfl); dsimp only; omega))))
  ·refine at_regq [{}, {}, { hint := some (aB false) }, {}, {}, {}, {}, {}, { hint := some (aB false) }, {}, {}, {}, {}, {}, {}, { nw := true }] { ts := [1, 2, 3, 4, 23], os := [1, 2] } [True, (AV.p (.c (.v (.bool (!(validW x0))))) = AV.p (.c (.v (.bool false)))), (AV.p (.c (.v (.bool (decide (x0.2.1 = x0.2.2.2))))) = AV.p (.c (.v (.bool false)))), I64 (x0.2.1 - x0.1)] gamOK hT h (by kernel_rfl) ⟨trivial, hint_bool (h1), hint_bool (decide_eq_false h2), ⟨by first | omega | (simp only [lsA]; omega) | (simp <;> omega), by first | omega | (simp only [lsA]; omega) | (simp <;> omega)⟩, trivial⟩ fun a w h => then_normal ?_
   refine at_test (decide (x0.2.1 - x0.1 = 4)) h (by kernel_rfl) (fun h3 => ?_) (fun h3 => ?_)
   ·replace h3 : x0.2.1 - x0.1 = 4 := of_decide_eq_true h3
    refine wp_seq ?_
    refine at_regq [] { ts := [1, 2, 3, 4], os := [1, 2] } [] gamOK hT h (by kernel_rfl) trivial fun a w h => then_normal (wp_ret (then_ret ?_))
    exact at_return (S := S_spec_StartGeneration) (x := (x0, ())) (x0, (0, (false, ()))) [] h (by kernel_rfl) trivial (congrArg (fun z => (z.1, z.2.1, z.2.2, ())) (show ((x0, 0, false)) = startW x0 from by first | exact startW_n (by first | (left; assumption) | (right; left; omega) | (right; right; omega)) | exact startW_y (by assumption) (by omega) (by omega) | (rw [← startW_y (by assumption) (by omega) (by omega)]; first | rfl | (refine Prod.ext rfl (Prod.ext ?_ rfl); dsimp only; omega))))
   ·replace h3 : ¬ (x0.2.1 - x0.1 = 4) := of_decide_eq_false h3
    refine wp_skip (then_normal (wp_seq ?_))
    refine at_regq [{}, { ids := [3] }] { ts := [1, 2, 3, 4, 5], os := [1, 2, 3] } [] gamOK hT h (by kernel_rfl) trivial fun a w h => then_normal (wp_seq ?_)
    refine at_regq [{}, {}, { nw := true }] { ts := [1, 2, 3, 4, 5], os := [1, 2, 3] } [I64 (x0.2.1 + 1)] gamOK hT h (by kernel_rfl) ⟨⟨by first | omega | (simp only [lsA]; omega) | (simp <;> omega), by first | omega | (simp only [lsA]; omega) | (simp <;> omega)⟩, trivial⟩ fun a w h => then_normal (wp_seq ?_)
    refine at_anyq [{}, {}, {}, {}, {}, {}] { ts := [2, 3, 4], os := [2] } [] gamOK hT mixed h (by kernel_rfl) trivial fun a w h => then_normal (wp_ret ?_)
    exact at_return (S := S_spec_StartGeneration) (x := (x0, ())) ((x0.1, (x0.2.1 + 1, x0.2.2)), (x0.2.1, (true, ()))) [] h (by kernel_rfl) trivial (congrArg (fun z => (z.1, z.2.1, z.2.2, ())) (show (((x0.1, (x0.2.1 + 1, x0.2.2)), x0.2.1, true)) = startW x0 from by first | exact startW_n (by first | (left; assumption) | (right; left; omega) | (right; right; omega)) | exact startW_y (by assumption) (by omega) (by omega) | (rw [← startW_y (by assumption) (by omega) (by omega)]; first | rfl | (refine Prod.ext rfl (Prod.ext ?_ rfl); dsimp only; omega))))

abbrev Q__impl_Source_clone := (fun (x0 : T91) => Sh.fit s91 x0)
def S__impl_Source_clone : Sum := { fid := 116, dom := [s91], cod := [s91], dp := true, fz := false, pre := fun x => Q__impl_Source_clone x.1, g := fun x => (((idD s91) x.1), ()) }
def S__impl_Source_clone_tab : List (Nat × Sum) := [(204, S__impl_Generation_clone), (156, S__impl_Recoder_clone), (205, S_slices_Clone_S_impl_Feedback_impl_Feedback_)]
theorem S__impl_Source_clone_ok : FnOK Try.prog 116 S__impl_Source_clone := by
 refine at_enter 50 (fun x => ⟨[(0, aG [.ro s218 x.1.1, cI x.1.2.1.1, cI x.1.2.1.2.1, cI x.1.2.1.2.2.1, cI x.1.2.1.2.2.2, .ro s128 x.1.2.2.1, .ro s247 x.1.2.2.2.1, cI x.1.2.2.2.2])], []⟩) Try.func116 rfl (by kernel_rfl) (fun x => rfl) ?_
 rintro w0 Z0 ⟨x0, u⟩ a w
 revert x0
 intro (x0 : T91) hpre hlens h
 replace h : At w0 Z0 [] 50 ⟨[(0, aG [.ro s218 x0.1, cI x0.2.1.1, cI x0.2.1.2.1, cI x0.2.1.2.2.1, cI x0.2.1.2.2.2, .ro s128 x0.2.2.1, .ro s247 x0.2.2.2.1, cI x0.2.2.2.2])], []⟩ a w := h
 replace hpre : Q__impl_Source_clone x0 := hpre
 have hl1 : List.length x0.1 ≤ 9223372036854775807 := hlens.1.1.1
 have hl2 : List.length x0.2.2.1 ≤ 9223372036854775807 := hlens.1.2.2.1.1
 have hl3 : List.length x0.2.2.2.1 ≤ 9223372036854775807 := hlens.1.2.2.2.1.1
 have hT : TabOK Try.prog S__impl_Source_clone_tab := (.cons S__impl_Generation_clone_ok (.cons S__impl_Recoder_clone_ok (.cons S_slices_Clone_S_impl_Feedback_impl_Feedback__ok .nil)))
 have hf0 : Sh.fit s91 x0 := hpre
 have hn0_1 : List.length x0.1 ≤ 1073741824 := hf0.1.1
 have hn0_2 : List.length x0.2.2.1 ≤ 1073741824 := hf0.2.2.1.1
 have hn0_3 : List.length x0.2.2.2.1 ≤ 1073741824 := hf0.2.2.2.1.1
 refine wp_seq ?_
 refine at_regq [{ ids := [1] }, { ids := [2] }] { ts := [1, 2], os := [1, 2] } [] gamOK hT h (by kernel_rfl) trivial fun a w h => then_normal (wp_seq ?_)
 refine at_anyq [{}, {}, {}, {}, {}, {}] { ts := [1, 2, 3, 4], os := [1, 2] } [] gamOK hT mixed h (by kernel_rfl) trivial fun a w h => then_normal (wp_seq ?_)
 refine at_regq [] { ts := [1, 2, 3, 4], os := [1, 2] } [] gamOK hT h (by kernel_rfl) trivial fun a w h => then_normal (wp_seq (wp_seq ?_))
 refine at_regq [] { ts := [1, 2, 4, 15, 16, 17], os := [1, 2] } [] gamOK hT h (by kernel_rfl) trivial fun a w h => then_normal (wp_block ?_)
 replace h := at_out (σ' := ⟨[(1, aP 1 0), (2, aP 2 0), (4, aF s128 x0.2.2.1), (15, aF s218 x0.1), (16, aI ((List.length x0.1 : Nat) : Int)), (17, aI 0)], [(1, oX 91 [.sl 3, cI x0.2.1.1, cI x0.2.1.2.1, cI x0.2.1.2.2.1, cI x0.2.1.2.2.2, cN, .ro s247 x0.2.2.2.1, cI x0.2.2.2.2]), (2, oX 91 [cN, cI 0, cI 0, cI 0, cI 0, cN, cN, cI 0]), (3, oR s218 ([] : List T218))]⟩) { mt := [⟨some 1, 0, 3, true, s218⟩], ts := [1, 2, 4, 15, 16, 17], os := [1, 2, 3] } h (by kernel_rfl)
 refine at_loop (fun i : Nat => (⟨[(1, aP 1 0), (2, aP 2 0), (4, aF s128 x0.2.2.1), (15, aF s218 x0.1), (16, aI ((List.length x0.1 : Nat) : Int)), (17, aI ((i : Nat) : Int))], [(1, oX 91 [.sl 3, cI x0.2.1.1, cI x0.2.1.2.1, cI x0.2.1.2.2.1, cI x0.2.1.2.2.2, cN, .ro s247 x0.2.2.2.1, cI x0.2.2.2.2]), (2, oX 91 [cN, cI 0, cI 0, cI 0, cI 0, cN, cN, cI 0]), (3, oR s218 (List.take i x0.1))]⟩ : St)) (fun i => i ≤ List.length x0.1) (fun i => List.length x0.1 - i) (0) h (st_congr2 (fun (d0 : List T218) (d1 : Int) => (⟨[(1, aP 1 0), (2, aP 2 0), (4, aF s128 x0.2.2.1), (15, aF s218 x0.1), (16, aI ((List.length x0.1 : Nat) : Int)), (17, aI d1)], [(1, oX 91 [.sl 3, cI x0.2.1.1, cI x0.2.1.2.1, cI x0.2.1.2.2.1, cI x0.2.1.2.2.2, cN, .ro s247 x0.2.2.2.1, cI x0.2.2.2.2]), (2, oX 91 [cN, cI 0, cI 0, cI 0, cI 0, cN, cN, cI 0]), (3, oR s218 d0)]⟩ : St)) (show (([] : List T218) : List T218) = (List.take (0) x0.1) from by first | with_reducible rfl | (rfl) | rfl) (show (0 : Int) = (((0) : Nat) : Int) from by first | with_reducible rfl | (rfl) | rfl)) (by omega) ?_
 intro i a w hok0 h
 have hlt0 := len_take_le (xs := x0.1) i
 refine wp_seq ?_
 refine at_regq [] { ts := [1, 2, 4, 15, 16, 17, 18], os := [1, 2, 3] } [] gamOK hT h (by kernel_rfl) trivial fun a w h => then_normal (wp_seq ?_)
 refine at_test (decide (((i : Nat) : Int) < ((List.length x0.1 : Nat) : Int))) h (by kernel_rfl) (fun h1 => ?_) (fun h1 => ?_)
 ·replace h1 : ((i : Nat) : Int) < ((List.length x0.1 : Nat) : Int) := of_decide_eq_true h1
  refine wp_skip (then_normal (wp_seq (wp_block (wp_seq ?_))))
  refine at_regq [{}, {}, { ids := [4] }] { ts := [1, 2, 4, 6, 15, 16, 17], os := [1, 2, 3, 4] } [(0 : Int) ≤ ((i : Nat) : Int) ∧ ((i : Nat) : Int) < ((List.length x0.1 : Nat) : Int)] gamOK hT h (by kernel_rfl) ⟨(by refine ⟨?_, ?_⟩ <;> (first | omega | (simp only [lsA]; omega) | (simp <;> omega))), trivial⟩ fun a w h => then_normal ?_
  refine at_anyq [{}, {}, {}, { ids := [5] }, { ids := [6] }, { ids := [7] }, {}, {}] { ts := [1, 2, 4, 15, 16, 17], os := [1, 2, 7] } [Q__impl_Generation_clone (x0.1.getD i (0, [])), (List.length (List.take i x0.1) + List.length ([(x0.1.getD i (0, []))])) * 32 ≤ 140737488355328] gamOK hT mixed h (by kernel_rfl) ⟨(by exact (Sh.fit_getD hf0.1 i)), (by (have hL0 := (show List.length (List.take i x0.1) ≤ 1073741824 from ((Sh.fit_take hf0.1 i)).1); first | omega | (simp only [lsA]; omega) | (simp <;> omega))), trivial⟩ fun a w h => in_normal (then_normal ?_)
  refine at_regq [{ nw := true }] { ts := [1, 2, 4, 15, 16, 17], os := [1, 2, 7] } [I64 (((i : Nat) : Int) + 1)] gamOK hT h (by kernel_rfl) ⟨⟨by first | omega | (simp only [lsA]; omega) | (simp <;> omega), by first | omega | (simp only [lsA]; omega) | (simp <;> omega)⟩, trivial⟩ fun a w h => ?_
  replace h := at_out (σ' := ⟨[(1, aP 1 0), (2, aP 2 0), (4, aF s128 x0.2.2.1), (15, aF s218 x0.1), (16, aI ((List.length x0.1 : Nat) : Int)), (17, aI (((i : Nat) : Int) + 1))], [(1, oX 91 [.sl 3, cI x0.2.1.1, cI x0.2.1.2.1, cI x0.2.1.2.2.1, cI x0.2.1.2.2.2, cN, .ro s247 x0.2.2.2.1, cI x0.2.2.2.2]), (2, oX 91 [cN, cI 0, cI 0, cI 0, cI 0, cN, cN, cI 0]), (3, oR s218 ((List.take i x0.1) ++ ([(x0.1.getD i (0, []))])))]⟩) { ts := [1, 2, 4, 15, 16, 17], os := [1, 2, 7], rn := [(7, 3)] } h (by kernel_rfl)
  exact ⟨i + 1, at_eq h (st_congr2 (fun (d0 : List T218) (d1 : Int) => (⟨[(1, aP 1 0), (2, aP 2 0), (4, aF s128 x0.2.2.1), (15, aF s218 x0.1), (16, aI ((List.length x0.1 : Nat) : Int)), (17, aI d1)], [(1, oX 91 [.sl 3, cI x0.2.1.1, cI x0.2.1.2.1, cI x0.2.1.2.2.1, cI x0.2.1.2.2.2, cN, .ro s247 x0.2.2.2.1, cI x0.2.2.2.2]), (2, oX 91 [cN, cI 0, cI 0, cI 0, cI 0, cN, cN, cI 0]), (3, oR s218 d0)]⟩ : St)) (show (((List.take i x0.1) ++ ([(x0.1.getD i (0, []))])) : List T218) = (List.take (i + 1) x0.1) from by first | with_reducible rfl | (rw [take_snoc (z := (0, [])) (by omega)]) | rfl) (show (((i : Nat) : Int) + 1 : Int) = (((i + 1) : Nat) : Int) from by first | with_reducible rfl | (omega) | rfl)), (by omega), (by omega)⟩
 ·replace h1 : ¬ (((i : Nat) : Int) < ((List.length x0.1 : Nat) : Int)) := of_decide_eq_false h1
  refine wp_exit (then_exit ?_)
  replace h := at_out (σ' := ⟨[(1, aP 1 0), (2, aP 2 0), (4, aF s128 x0.2.2.1)], [(1, oX 91 [.sl 3, cI x0.2.1.1, cI x0.2.1.2.1, cI x0.2.1.2.2.1, cI x0.2.1.2.2.2, cN, .ro s247 x0.2.2.2.1, cI x0.2.2.2.2]), (2, oX 91 [cN, cI 0, cI 0, cI 0, cI 0, cN, cN, cI 0]), (3, oR s218 (List.take i x0.1))]⟩) { ts := [1, 2, 4], os := [1, 2, 3] } h (by kernel_rfl)
  replace h := at_eq (σ' := ⟨[(1, aP 1 0), (2, aP 2 0), (4, aF s128 x0.2.2.1)], [(1, oX 91 [.sl 3, cI x0.2.1.1, cI x0.2.1.2.1, cI x0.2.1.2.2.1, cI x0.2.1.2.2.2, cN, .ro s247 x0.2.2.2.1, cI x0.2.2.2.2]), (2, oX 91 [cN, cI 0, cI 0, cI 0, cI 0, cN, cN, cI 0]), (3, oR s218 x0.1)]⟩) h (st_congr1 (fun (d0 : List T218) => (⟨[(1, aP 1 0), (2, aP 2 0), (4, aF s128 x0.2.2.1)], [(1, oX 91 [.sl 3, cI x0.2.1.1, cI x0.2.1.2.1, cI x0.2.1.2.2.1, cI x0.2.1.2.2.2, cN, .ro s247 x0.2.2.2.1, cI x0.2.2.2.2]), (2, oX 91 [cN, cI 0, cI 0, cI 0, cI 0, cN, cN, cI 0]), (3, oR s218 d0)]⟩ : St)) (show ((List.take i x0.1) : List T218) = x0.1 from by first | with_reducible rfl | (rw [take_all (by omega)]) | rfl))
  refine then_exit (in_hit (then_normal (wp_seq (wp_seq ?_))))
  refine at_regq [] { ts := [1, 2, 29, 30, 31], os := [1, 2, 3] } [] gamOK hT h (by kernel_rfl) trivial fun a w h => then_normal (wp_block ?_)
  replace h := at_out (σ' := ⟨[(1, aP 1 0), (2, aP 2 0), (29, aF s128 x0.2.2.1), (30, aI ((List.length x0.2.2.1 : Nat) : Int)), (31, aI 0)], [(1, oX 91 [.sl 3, cI x0.2.1.1, cI x0.2.1.2.1, cI x0.2.1.2.2.1, cI x0.2.1.2.2.2, .sl 8, .ro s247 x0.2.2.2.1, cI x0.2.2.2.2]), (2, oX 91 [cN, cI 0, cI 0, cI 0, cI 0, cN, cN, cI 0]), (3, oR s218 x0.1), (8, oR s128 ([] : List T128))]⟩) { mt := [⟨some 1, 5, 8, true, s128⟩], ts := [1, 2, 29, 30, 31], os := [1, 2, 3, 8] } h (by kernel_rfl)
  refine at_loop (fun i : Nat => (⟨[(1, aP 1 0), (2, aP 2 0), (29, aF s128 x0.2.2.1), (30, aI ((List.length x0.2.2.1 : Nat) : Int)), (31, aI ((i : Nat) : Int))], [(1, oX 91 [.sl 3, cI x0.2.1.1, cI x0.2.1.2.1, cI x0.2.1.2.2.1, cI x0.2.1.2.2.2, .sl 8, .ro s247 x0.2.2.2.1, cI x0.2.2.2.2]), (2, oX 91 [cN, cI 0, cI 0, cI 0, cI 0, cN, cN, cI 0]), (3, oR s218 x0.1), (8, oR s128 (List.take i x0.2.2.1))]⟩ : St)) (fun i => i ≤ List.length x0.2.2.1) (fun i => List.length x0.2.2.1 - i) (0) h (st_congr2 (fun (d0 : List T128) (d1 : Int) => (⟨[(1, aP 1 0), (2, aP 2 0), (29, aF s128 x0.2.2.1), (30, aI ((List.length x0.2.2.1 : Nat) : Int)), (31, aI d1)], [(1, oX 91 [.sl 3, cI x0.2.1.1, cI x0.2.1.2.1, cI x0.2.1.2.2.1, cI x0.2.1.2.2.2, .sl 8, .ro s247 x0.2.2.2.1, cI x0.2.2.2.2]), (2, oX 91 [cN, cI 0, cI 0, cI 0, cI 0, cN, cN, cI 0]), (3, oR s218 x0.1), (8, oR s128 d0)]⟩ : St)) (show (([] : List T128) : List T128) = (List.take (0) x0.2.2.1) from by first | with_reducible rfl | (rfl) | rfl) (show (0 : Int) = (((0) : Nat) : Int) from by first | with_reducible rfl | (rfl) | rfl)) (by omega) ?_
  intro i a w hok1 h
  have hlt1 := len_take_le (xs := x0.2.2.1) i
  refine wp_seq ?_
  refine at_regq [] { ts := [1, 2, 29, 30, 31, 32], os := [1, 2, 3, 8] } [] gamOK hT h (by kernel_rfl) trivial fun a w h => then_normal (wp_seq ?_)
  refine at_test (decide (((i : Nat) : Int) < ((List.length x0.2.2.1 : Nat) : Int))) h (by kernel_rfl) (fun h2 => ?_) (fun h2 => ?_)
  ·replace h2 : ((i : Nat) : Int) < ((List.length x0.2.2.1 : Nat) : Int) := of_decide_eq_true h2
   refine wp_skip (then_normal (wp_seq (wp_block (wp_seq ?_))))
   refine at_regq [{}, {}, { ids := [9] }] { ts := [1, 2, 8, 29, 30, 31], os := [1, 2, 3, 8, 9] } [(0 : Int) ≤ ((i : Nat) : Int) ∧ ((i : Nat) : Int) < ((List.length x0.2.2.1 : Nat) : Int)] gamOK hT h (by kernel_rfl) ⟨(by refine ⟨?_, ?_⟩ <;> (first | omega | (simp only [lsA]; omega) | (simp <;> omega))), trivial⟩ fun a w h => then_normal ?_
   refine at_any [{}, {}, {}, { ids := [10] }, { ids := [11] }, { ids := [12] }, {}, {}] { ts := [1, 2, 29, 30, 31], os := [1, 2, 3, 12] } ⟨[(1, aP 1 0), (2, aP 2 0), (29, aF s128 x0.2.2.1), (30, aI ((List.length x0.2.2.1 : Nat) : Int)), (31, aI ((i : Nat) : Int))], [(1, oX 91 [.sl 3, cI x0.2.1.1, cI x0.2.1.2.1, cI x0.2.1.2.2.1, cI x0.2.1.2.2.2, .sl 12, .ro s247 x0.2.2.2.1, cI x0.2.2.2.2]), (2, oX 91 [cN, cI 0, cI 0, cI 0, cI 0, cN, cN, cI 0]), (3, oR s218 x0.1), (12, oR s128 ((List.take i x0.2.2.1) ++ ([(x0.2.2.1.getD i (0, (0, (0, ([], 0)))))])))]⟩ [Q__impl_Recoder_clone (x0.2.2.1.getD i (0, (0, (0, ([], 0))))), (List.length (List.take i x0.2.2.1) + List.length ([(x0.2.2.1.getD i (0, (0, (0, ([], 0)))))])) * 56 ≤ 140737488355328] gamOK hT mixed h (by kernel_rfl) ⟨(by exact (Sh.fit_getD hf0.2.2.1 i)), (by (have hL0 := (show List.length (List.take i x0.2.2.1) ≤ 1073741824 from ((Sh.fit_take hf0.2.2.1 i)).1); first | omega | (simp only [lsA]; omega) | (simp <;> omega))), trivial⟩ fun a w h => in_normal (then_normal ?_)
   refine at_regq [{ nw := true }] { ts := [1, 2, 29, 30, 31], os := [1, 2, 3, 12] } [I64 (((i : Nat) : Int) + 1)] gamOK hT h (by kernel_rfl) ⟨⟨by first | omega | (simp only [lsA]; omega) | (simp <;> omega), by first | omega | (simp only [lsA]; omega) | (simp <;> omega)⟩, trivial⟩ fun a w h => ?_
   replace h := at_out (σ' := ⟨[(1, aP 1 0), (2, aP 2 0), (29, aF s128 x0.2.2.1), (30, aI ((List.length x0.2.2.1 : Nat) : Int)), (31, aI (((i : Nat) : Int) + 1))], [(1, oX 91 [.sl 3, cI x0.2.1.1, cI x0.2.1.2.1, cI x0.2.1.2.2.1, cI x0.2.1.2.2.2, .sl 8, .ro s247 x0.2.2.2.1, cI x0.2.2.2.2]), (2, oX 91 [cN, cI 0, cI 0, cI 0, cI 0, cN, cN, cI 0]), (3, oR s218 x0.1), (8, oR s128 ((List.take i x0.2.2.1) ++ ([(x0.2.2.1.getD i (0, (0, (0, ([], 0)))))])))]⟩) { ts := [1, 2, 29, 30, 31], os := [1, 2, 3, 12], rn := [(12, 8)] } h (by kernel_rfl)
   exact ⟨i + 1, at_eq h (st_congr2 (fun (d0 : List T128) (d1 : Int) => (⟨[(1, aP 1 0), (2, aP 2 0), (29, aF s128 x0.2.2.1), (30, aI ((List.length x0.2.2.1 : Nat) : Int)), (31, aI d1)], [(1, oX 91 [.sl 3, cI x0.2.1.1, cI x0.2.1.2.1, cI x0.2.1.2.2.1, cI x0.2.1.2.2.2, .sl 8, .ro s247 x0.2.2.2.1, cI x0.2.2.2.2]), (2, oX 91 [cN, cI 0, cI 0, cI 0, cI 0, cN, cN, cI 0]), (3, oR s218 x0.1), (8, oR s128 d0)]⟩ : St)) (show (((List.take i x0.2.2.1) ++ ([(x0.2.2.1.getD i (0, (0, (0, ([], 0)))))])) : List T128) = (List.take (i + 1) x0.2.2.1) from by first | with_reducible rfl | (rw [take_snoc (z := (0, (0, (0, ([], 0))))) (by omega)]) | rfl) (show (((i : Nat) : Int) + 1 : Int) = (((i + 1) : Nat) : Int) from by first | with_reducible rfl | (omega) | rfl)), (by omega), (by omega)⟩
  ·replace h2 : ¬ (((i : Nat) : Int) < ((List.length x0.2.2.1 : Nat) : Int)) := of_decide_eq_false h2
   refine wp_exit (then_exit ?_)
   replace h := at_out (σ' := ⟨[(1, aP 1 0), (2, aP 2 0)], [(1, oX 91 [.sl 3, cI x0.2.1.1, cI x0.2.1.2.1, cI x0.2.1.2.2.1, cI x0.2.1.2.2.2, .sl 8, .ro s247 x0.2.2.2.1, cI x0.2.2.2.2]), (2, oX 91 [cN, cI 0, cI 0, cI 0, cI 0, cN, cN, cI 0]), (3, oR s218 x0.1), (8, oR s128 (List.take i x0.2.2.1))]⟩) { ts := [1, 2], os := [1, 2, 3, 8] } h (by kernel_rfl)
   replace h := at_eq (σ' := ⟨[(1, aP 1 0), (2, aP 2 0)], [(1, oX 91 [.sl 3, cI x0.2.1.1, cI x0.2.1.2.1, cI x0.2.1.2.2.1, cI x0.2.1.2.2.2, .sl 8, .ro s247 x0.2.2.2.1, cI x0.2.2.2.2]), (2, oX 91 [cN, cI 0, cI 0, cI 0, cI 0, cN, cN, cI 0]), (3, oR s218 x0.1), (8, oR s128 x0.2.2.1)]⟩) h (st_congr1 (fun (d0 : List T128) => (⟨[(1, aP 1 0), (2, aP 2 0)], [(1, oX 91 [.sl 3, cI x0.2.1.1, cI x0.2.1.2.1, cI x0.2.1.2.2.1, cI x0.2.1.2.2.2, .sl 8, .ro s247 x0.2.2.2.1, cI x0.2.2.2.2]), (2, oX 91 [cN, cI 0, cI 0, cI 0, cI 0, cN, cN, cI 0]), (3, oR s218 x0.1), (8, oR s128 d0)]⟩ : St)) (show ((List.take i x0.2.2.1) : List T128) = x0.2.2.1 from by first | with_reducible rfl | (rw [take_all (by omega)]) | rfl))
   refine then_exit (in_hit (then_normal (wp_seq ?_)))
   refine at_regq [{}, {}, {}, { ids := [13] }] { ts := [1, 2], os := [1, 2, 3, 8, 13] } [(lenOK (α := (Int × (Int × Int)))) x0.2.2.2.1] gamOK hT h (by kernel_rfl) ⟨(by first | assumption | trivial | (first | omega | (simp only [lsA]; omega) | (simp <;> omega))), trivial⟩ fun a w h => then_normal (wp_seq ?_)
   refine at_reg [] { ts := [2], os := [2, 3, 8, 13] } ⟨[(2, aP 2 0)], [(2, oX 91 [.sl 3, cI x0.2.1.1, cI x0.2.1.2.1, cI x0.2.1.2.2.1, cI x0.2.1.2.2.2, .sl 8, .sl 13, cI x0.2.2.2.2]), (3, oR s218 x0.1), (8, oR s128 x0.2.2.1), (13, oR s247 x0.2.2.2.1)]⟩ [] gamOK hT h (by kernel_rfl) trivial fun a w h => then_normal (wp_ret ?_)
   exact at_return (S := S__impl_Source_clone) (x := (x0, ())) (x0, ()) [] h (by kernel_rfl) trivial (congrArg (fun z => (z, ())) (show (x0) = (idD s91) x0 from by rfl))

abbrev Q_spec_l17Copy := (fun (x0 : (List T247)) => Sh.fit s89 x0)
def S_spec_l17Copy : Sum := { fid := 201, dom := [s89], cod := [s89], dp := true, fz := false, pre := fun x => Q_spec_l17Copy x.1, g := fun x => (((idD s89) x.1), ()) }
def S_spec_l17Copy_tab : List (Nat × Sum) := []
theorem S_spec_l17Copy_ok : FnOK Try.prog 201 S_spec_l17Copy := by
 refine at_enter 8 (fun x => ⟨[(0, aG [.ro s247 x.1])], []⟩) Try.func201 rfl (by kernel_rfl) (fun x => rfl) ?_
 rintro w0 Z0 ⟨x0, u⟩ a w
 revert x0
 intro (x0 : (List T247)) hpre hlens h
 replace h : At w0 Z0 [] 8 ⟨[(0, aG [.ro s247 x0])], []⟩ a w := h
 replace hpre : Q_spec_l17Copy x0 := hpre
 have hl1 : List.length x0 ≤ 9223372036854775807 := hlens.1.1
 have hT : TabOK Try.prog S_spec_l17Copy_tab := .nil
 have hf0 : Sh.fit s89 x0 := hpre
 have hn0_1 : List.length x0 ≤ 1073741824 := hf0.1
 refine wp_seq ?_
 refine at_regq [{ ids := [1] }, { ids := [2] }] { ts := [1, 2], os := [1, 2] } [] gamOK hT h (by kernel_rfl) trivial fun a w h => then_normal (wp_seq ?_)
 refine at_regq [{ ids := [3] }, {}, {}, { ids := [4] }] { ts := [2], os := [2, 4] } [(List.length ([] : List T247) + List.length x0) * 24 ≤ 140737488355328] gamOK hT h (by kernel_rfl) ⟨(by first | omega | (simp only [lsA]; omega) | (simp <;> omega)), trivial⟩ fun a w h => then_normal (wp_ret ?_)
 exact at_return (S := S_spec_l17Copy) (x := (x0, ())) ((([] : List T247) ++ x0), ()) [] h (by kernel_rfl) trivial (congrArg (fun z => (z, ())) (show ((([] : List T247) ++ x0)) = (idD s89) x0 from by rfl))

abbrev Q_spec_l32Copy := (fun (x0 : T91) => Sh.fit s91 x0)
def S_spec_l32Copy : Sum := { fid := 111, dom := [s91], cod := [s91], dp := false, fz := false, pre := fun x => Q_spec_l32Copy x.1, g := fun x => (((idD s91) x.1), ()) }
def S_spec_l32Copy_tab : List (Nat × Sum) := [(201, S_spec_l17Copy), (202, S_spec_l10Copy), (150, S_spec_l15Copy)]
theorem S_spec_l32Copy_ok : FnOK Try.prog 111 S_spec_l32Copy := by
 refine at_enter 51 (fun x => ⟨[(0, aG [.ro s218 x.1.1, cI x.1.2.1.1, cI x.1.2.1.2.1, cI x.1.2.1.2.2.1, cI x.1.2.1.2.2.2, .ro s128 x.1.2.2.1, .ro s247 x.1.2.2.2.1, cI x.1.2.2.2.2])], []⟩) Try.func111 rfl (by kernel_rfl) (fun x => rfl) ?_
 rintro w0 Z0 ⟨x0, u⟩ a w
 revert x0
 intro (x0 : T91) hpre hlens h
 replace h : At w0 Z0 [] 51 ⟨[(0, aG [.ro s218 x0.1, cI x0.2.1.1, cI x0.2.1.2.1, cI x0.2.1.2.2.1, cI x0.2.1.2.2.2, .ro s128 x0.2.2.1, .ro s247 x0.2.2.2.1, cI x0.2.2.2.2])], []⟩ a w := h
 replace hpre : Q_spec_l32Copy x0 := hpre
 have hl1 : List.length x0.1 ≤ 9223372036854775807 := hlens.1.1.1
 have hl2 : List.length x0.2.2.1 ≤ 9223372036854775807 := hlens.1.2.2.1.1
 have hl3 : List.length x0.2.2.2.1 ≤ 9223372036854775807 := hlens.1.2.2.2.1.1
 have hT : TabOK Try.prog S_spec_l32Copy_tab := (.cons S_spec_l17Copy_ok (.cons S_spec_l10Copy_ok (.cons S_spec_l15Copy_ok .nil)))
 have hf0 : Sh.fit s91 x0 := hpre
 have hn0_1 : List.length x0.1 ≤ 1073741824 := hf0.1.1
 have hn0_2 : List.length x0.2.2.1 ≤ 1073741824 := hf0.2.2.1.1
 have hn0_3 : List.length x0.2.2.2.1 ≤ 1073741824 := hf0.2.2.2.1.1
 refine wp_seq ?_
 refine at_regq [{ ids := [1] }, { ids := [2] }] { ts := [1, 2], os := [1, 2] } [] gamOK hT h (by kernel_rfl) trivial fun a w h => then_normal (wp_seq ?_)
 refine at_anyq [{}, {}, {}, {}, { ids := [3] }, {}, {}, {}, { ids := [4] }, {}] { ts := [1, 2, 3], os := [1, 2, 3, 4] } [Q_spec_l17Copy x0.2.2.2.1] gamOK hT mixed h (by kernel_rfl) ⟨(by exact hf0.2.2.2.1), trivial⟩ fun a w h => then_normal (wp_seq (wp_seq ?_))
 refine at_regq [] { ts := [1, 2, 3, 4], os := [1, 2, 3, 4] } [] gamOK hT h (by kernel_rfl) trivial fun a w h => then_normal (wp_block ?_)
 replace h := at_out (σ' := ⟨[(1, aP 1 0), (2, aP 2 0), (3, aP 4 0), (4, aI 0)], [(1, oX 91 [.ro s218 x0.1, cI x0.2.1.1, cI x0.2.1.2.1, cI x0.2.1.2.2.1, cI x0.2.1.2.2.2, .ro s128 x0.2.2.1, .ro s247 x0.2.2.2.1, cI x0.2.2.2.2]), (2, oX 91 [cN, cI 0, cI 0, cI 0, cI 0, cN, cN, cI 0]), (3, oR s247 x0.2.2.2.1), (4, oX 91 [.sl 5, cI x0.2.1.1, cI x0.2.1.2.1, cI x0.2.1.2.2.1, cI x0.2.1.2.2.2, cN, .sl 3, cI x0.2.2.2.2]), (5, oF s218 ([] : List T218))]⟩) { mt := [⟨some 4, 0, 5, false, s218⟩], ts := [1, 2, 3, 4], os := [1, 2, 3, 4, 5] } h (by kernel_rfl)
 refine at_loop (fun i : Nat => (⟨[(1, aP 1 0), (2, aP 2 0), (3, aP 4 0), (4, aI ((i : Nat) : Int))], [(1, oX 91 [.ro s218 x0.1, cI x0.2.1.1, cI x0.2.1.2.1, cI x0.2.1.2.2.1, cI x0.2.1.2.2.2, .ro s128 x0.2.2.1, .ro s247 x0.2.2.2.1, cI x0.2.2.2.2]), (2, oX 91 [cN, cI 0, cI 0, cI 0, cI 0, cN, cN, cI 0]), (3, oR s247 x0.2.2.2.1), (4, oX 91 [.sl 5, cI x0.2.1.1, cI x0.2.1.2.1, cI x0.2.1.2.2.1, cI x0.2.1.2.2.2, cN, .sl 3, cI x0.2.2.2.2]), (5, oF s218 (List.take i x0.1))]⟩ : St)) (fun i => i ≤ List.length x0.1) (fun i => List.length x0.1 - i) (0) h (st_congr2 (fun (d0 : List T218) (d1 : Int) => (⟨[(1, aP 1 0), (2, aP 2 0), (3, aP 4 0), (4, aI d1)], [(1, oX 91 [.ro s218 x0.1, cI x0.2.1.1, cI x0.2.1.2.1, cI x0.2.1.2.2.1, cI x0.2.1.2.2.2, .ro s128 x0.2.2.1, .ro s247 x0.2.2.2.1, cI x0.2.2.2.2]), (2, oX 91 [cN, cI 0, cI 0, cI 0, cI 0, cN, cN, cI 0]), (3, oR s247 x0.2.2.2.1), (4, oX 91 [.sl 5, cI x0.2.1.1, cI x0.2.1.2.1, cI x0.2.1.2.2.1, cI x0.2.1.2.2.2, cN, .sl 3, cI x0.2.2.2.2]), (5, oF s218 d0)]⟩ : St)) (show (([] : List T218) : List T218) = (List.take (0) x0.1) from by first | with_reducible rfl | (rfl) | rfl) (show (0 : Int) = (((0) : Nat) : Int) from by first | with_reducible rfl | (rfl) | rfl)) (by omega) ?_
 intro i a w hok0 h
 have hlt0 := len_take_le (xs := x0.1) i
 refine wp_seq (wp_seq ?_)
 refine at_regq [] { ts := [1, 2, 3, 4, 18], os := [1, 2, 3, 4, 5] } [] gamOK hT h (by kernel_rfl) trivial fun a w h => then_normal ?_
 refine at_test (decide (((i : Nat) : Int) < ((List.length x0.1 : Nat) : Int))) h (by kernel_rfl) (fun h1 => ?_) (fun h1 => ?_)
 ·replace h1 : ((i : Nat) : Int) < ((List.length x0.1 : Nat) : Int) := of_decide_eq_true h1
  refine wp_skip (then_normal (wp_seq (wp_block ?_)))
  refine at_anyq [{}, {}, {}, {}, {}, {}, {}, { frz := true }, { ids := [6], dp := false }, { ids := [7], dp := false }, {}, {}] { ts := [1, 2, 3, 4], os := [1, 2, 3, 4, 7] } [(0 : Int) ≤ ((i : Nat) : Int) ∧ ((i : Nat) : Int) < ((List.length x0.1 : Nat) : Int), Q_spec_l10Copy (x0.1.getD i (0, [])), (List.length (List.take i x0.1) + List.length ([(x0.1.getD i (0, []))])) * 32 ≤ 140737488355328] gamOK hT mixed h (by kernel_rfl) ⟨(by refine ⟨?_, ?_⟩ <;> (first | omega | (simp only [lsA]; omega) | (simp <;> omega))), (by exact (Sh.fit_getD hf0.1 i)), (by (have hL0 := (show List.length (List.take i x0.1) ≤ 1073741824 from ((Sh.fit_take hf0.1 i)).1); first | omega | (simp only [lsA]; omega) | (simp <;> omega))), trivial⟩ fun a w h => in_normal (then_normal ?_)
  refine at_regq [{}, { nw := true }] { ts := [1, 2, 3, 4], os := [1, 2, 3, 4, 7] } [I64 (((i : Nat) : Int) + 1)] gamOK hT h (by kernel_rfl) ⟨⟨by first | omega | (simp only [lsA]; omega) | (simp <;> omega), by first | omega | (simp only [lsA]; omega) | (simp <;> omega)⟩, trivial⟩ fun a w h => ?_
  replace h := at_out (σ' := ⟨[(1, aP 1 0), (2, aP 2 0), (3, aP 4 0), (4, aI (((i : Nat) : Int) + 1))], [(1, oX 91 [.ro s218 x0.1, cI x0.2.1.1, cI x0.2.1.2.1, cI x0.2.1.2.2.1, cI x0.2.1.2.2.2, .ro s128 x0.2.2.1, .ro s247 x0.2.2.2.1, cI x0.2.2.2.2]), (2, oX 91 [cN, cI 0, cI 0, cI 0, cI 0, cN, cN, cI 0]), (3, oR s247 x0.2.2.2.1), (4, oX 91 [.sl 5, cI x0.2.1.1, cI x0.2.1.2.1, cI x0.2.1.2.2.1, cI x0.2.1.2.2.2, cN, .sl 3, cI x0.2.2.2.2]), (5, oF s218 ((List.take i x0.1) ++ ([(x0.1.getD i (0, []))])))]⟩) { ts := [1, 2, 3, 4], os := [1, 2, 3, 4, 7], rn := [(7, 5)] } h (by kernel_rfl)
  exact ⟨i + 1, at_eq h (st_congr2 (fun (d0 : List T218) (d1 : Int) => (⟨[(1, aP 1 0), (2, aP 2 0), (3, aP 4 0), (4, aI d1)], [(1, oX 91 [.ro s218 x0.1, cI x0.2.1.1, cI x0.2.1.2.1, cI x0.2.1.2.2.1, cI x0.2.1.2.2.2, .ro s128 x0.2.2.1, .ro s247 x0.2.2.2.1, cI x0.2.2.2.2]), (2, oX 91 [cN, cI 0, cI 0, cI 0, cI 0, cN, cN, cI 0]), (3, oR s247 x0.2.2.2.1), (4, oX 91 [.sl 5, cI x0.2.1.1, cI x0.2.1.2.1, cI x0.2.1.2.2.1, cI x0.2.1.2.2.2, cN, .sl 3, cI x0.2.2.2.2]), (5, oF s218 d0)]⟩ : St)) (show (((List.take i x0.1) ++ ([(x0.1.getD i (0, []))])) : List T218) = (List.take (i + 1) x0.1) from by first | with_reducible rfl | (rw [take_snoc (z := (0, [])) (by omega)]) | rfl) (show (((i : Nat) : Int) + 1 : Int) = (((i + 1) : Nat) : Int) from by first | with_reducible rfl | (omega) | rfl)), (by omega), (by omega)⟩
 ·replace h1 : ¬ (((i : Nat) : Int) < ((List.length x0.1 : Nat) : Int)) := of_decide_eq_false h1
  refine wp_exit (then_exit ?_)
  replace h := at_out (σ' := ⟨[(1, aP 1 0), (2, aP 2 0), (3, aP 4 0)], [(1, oX 91 [.ro s218 x0.1, cI x0.2.1.1, cI x0.2.1.2.1, cI x0.2.1.2.2.1, cI x0.2.1.2.2.2, .ro s128 x0.2.2.1, .ro s247 x0.2.2.2.1, cI x0.2.2.2.2]), (2, oX 91 [cN, cI 0, cI 0, cI 0, cI 0, cN, cN, cI 0]), (3, oR s247 x0.2.2.2.1), (4, oX 91 [.sl 5, cI x0.2.1.1, cI x0.2.1.2.1, cI x0.2.1.2.2.1, cI x0.2.1.2.2.2, cN, .sl 3, cI x0.2.2.2.2]), (5, oF s218 (List.take i x0.1))]⟩) { ts := [1, 2, 3], os := [1, 2, 3, 4, 5] } h (by kernel_rfl)
  replace h := at_eq (σ' := ⟨[(1, aP 1 0), (2, aP 2 0), (3, aP 4 0)], [(1, oX 91 [.ro s218 x0.1, cI x0.2.1.1, cI x0.2.1.2.1, cI x0.2.1.2.2.1, cI x0.2.1.2.2.2, .ro s128 x0.2.2.1, .ro s247 x0.2.2.2.1, cI x0.2.2.2.2]), (2, oX 91 [cN, cI 0, cI 0, cI 0, cI 0, cN, cN, cI 0]), (3, oR s247 x0.2.2.2.1), (4, oX 91 [.sl 5, cI x0.2.1.1, cI x0.2.1.2.1, cI x0.2.1.2.2.1, cI x0.2.1.2.2.2, cN, .sl 3, cI x0.2.2.2.2]), (5, oF s218 x0.1)]⟩) h (st_congr1 (fun (d0 : List T218) => (⟨[(1, aP 1 0), (2, aP 2 0), (3, aP 4 0)], [(1, oX 91 [.ro s218 x0.1, cI x0.2.1.1, cI x0.2.1.2.1, cI x0.2.1.2.2.1, cI x0.2.1.2.2.2, .ro s128 x0.2.2.1, .ro s247 x0.2.2.2.1, cI x0.2.2.2.2]), (2, oX 91 [cN, cI 0, cI 0, cI 0, cI 0, cN, cN, cI 0]), (3, oR s247 x0.2.2.2.1), (4, oX 91 [.sl 5, cI x0.2.1.1, cI x0.2.1.2.1, cI x0.2.1.2.2.1, cI x0.2.1.2.2.2, cN, .sl 3, cI x0.2.2.2.2]), (5, oF s218 d0)]⟩ : St)) (show ((List.take i x0.1) : List T218) = x0.1 from by first | with_reducible rfl | (rw [take_all (by omega)]) | rfl))
  refine then_exit (in_hit (then_normal (wp_seq (wp_seq ?_))))
  refine at_regq [] { ts := [1, 2, 3, 5], os := [1, 2, 3, 4, 5] } [] gamOK hT h (by kernel_rfl) trivial fun a w h => then_normal (wp_block ?_)
  replace h := at_out (σ' := ⟨[(1, aP 1 0), (2, aP 2 0), (3, aP 4 0), (5, aI 0)], [(1, oX 91 [.ro s218 x0.1, cI x0.2.1.1, cI x0.2.1.2.1, cI x0.2.1.2.2.1, cI x0.2.1.2.2.2, .ro s128 x0.2.2.1, .ro s247 x0.2.2.2.1, cI x0.2.2.2.2]), (2, oX 91 [cN, cI 0, cI 0, cI 0, cI 0, cN, cN, cI 0]), (3, oR s247 x0.2.2.2.1), (4, oX 91 [.sl 5, cI x0.2.1.1, cI x0.2.1.2.1, cI x0.2.1.2.2.1, cI x0.2.1.2.2.2, .sl 8, .sl 3, cI x0.2.2.2.2]), (5, oF s218 x0.1), (8, oF s128 ([] : List T128))]⟩) { mt := [⟨some 4, 5, 8, false, s128⟩], ts := [1, 2, 3, 5], os := [1, 2, 3, 4, 5, 8] } h (by kernel_rfl)
  refine at_loop (fun i : Nat => (⟨[(1, aP 1 0), (2, aP 2 0), (3, aP 4 0), (5, aI ((i : Nat) : Int))], [(1, oX 91 [.ro s218 x0.1, cI x0.2.1.1, cI x0.2.1.2.1, cI x0.2.1.2.2.1, cI x0.2.1.2.2.2, .ro s128 x0.2.2.1, .ro s247 x0.2.2.2.1, cI x0.2.2.2.2]), (2, oX 91 [cN, cI 0, cI 0, cI 0, cI 0, cN, cN, cI 0]), (3, oR s247 x0.2.2.2.1), (4, oX 91 [.sl 5, cI x0.2.1.1, cI x0.2.1.2.1, cI x0.2.1.2.2.1, cI x0.2.1.2.2.2, .sl 8, .sl 3, cI x0.2.2.2.2]), (5, oF s218 x0.1), (8, oF s128 (List.take i x0.2.2.1))]⟩ : St)) (fun i => i ≤ List.length x0.2.2.1) (fun i => List.length x0.2.2.1 - i) (0) h (st_congr2 (fun (d0 : List T128) (d1 : Int) => (⟨[(1, aP 1 0), (2, aP 2 0), (3, aP 4 0), (5, aI d1)], [(1, oX 91 [.ro s218 x0.1, cI x0.2.1.1, cI x0.2.1.2.1, cI x0.2.1.2.2.1, cI x0.2.1.2.2.2, .ro s128 x0.2.2.1, .ro s247 x0.2.2.2.1, cI x0.2.2.2.2]), (2, oX 91 [cN, cI 0, cI 0, cI 0, cI 0, cN, cN, cI 0]), (3, oR s247 x0.2.2.2.1), (4, oX 91 [.sl 5, cI x0.2.1.1, cI x0.2.1.2.1, cI x0.2.1.2.2.1, cI x0.2.1.2.2.2, .sl 8, .sl 3, cI x0.2.2.2.2]), (5, oF s218 x0.1), (8, oF s128 d0)]⟩ : St)) (show (([] : List T128) : List T128) = (List.take (0) x0.2.2.1) from by first | with_reducible rfl | (rfl) | rfl) (show (0 : Int) = (((0) : Nat) : Int) from by first | with_reducible rfl | (rfl) | rfl)) (by omega) ?_
  intro i a w hok1 h
  have hlt1 := len_take_le (xs := x0.2.2.1) i
  refine wp_seq (wp_seq ?_)
  refine at_regq [] { ts := [1, 2, 3, 5, 36], os := [1, 2, 3, 4, 5, 8] } [] gamOK hT h (by kernel_rfl) trivial fun a w h => then_normal ?_
  refine at_test (decide (((i : Nat) : Int) < ((List.length x0.2.2.1 : Nat) : Int))) h (by kernel_rfl) (fun h2 => ?_) (fun h2 => ?_)
  ·replace h2 : ((i : Nat) : Int) < ((List.length x0.2.2.1 : Nat) : Int) := of_decide_eq_true h2
   refine wp_skip (then_normal (wp_seq (wp_block ?_)))
   refine at_anyq [{}, {}, {}, {}, {}, {}, {}, { frz := true }, { ids := [9], dp := false }, { ids := [10], dp := false }, {}, {}] { ts := [1, 2, 3, 5], os := [1, 2, 3, 4, 5, 10] } [(0 : Int) ≤ ((i : Nat) : Int) ∧ ((i : Nat) : Int) < ((List.length x0.2.2.1 : Nat) : Int), Q_spec_l15Copy (x0.2.2.1.getD i (0, (0, (0, ([], 0))))), (List.length (List.take i x0.2.2.1) + List.length ([(x0.2.2.1.getD i (0, (0, (0, ([], 0)))))])) * 56 ≤ 140737488355328] gamOK hT mixed h (by kernel_rfl) ⟨(by refine ⟨?_, ?_⟩ <;> (first | omega | (simp only [lsA]; omega) | (simp <;> omega))), (by exact (Sh.fit_getD hf0.2.2.1 i)), (by (have hL0 := (show List.length (List.take i x0.2.2.1) ≤ 1073741824 from ((Sh.fit_take hf0.2.2.1 i)).1); first | omega | (simp only [lsA]; omega) | (simp <;> omega))), trivial⟩ fun a w h => in_normal (then_normal ?_)
   refine at_regq [{}, { nw := true }] { ts := [1, 2, 3, 5], os := [1, 2, 3, 4, 5, 10] } [I64 (((i : Nat) : Int) + 1)] gamOK hT h (by kernel_rfl) ⟨⟨by first | omega | (simp only [lsA]; omega) | (simp <;> omega), by first | omega | (simp only [lsA]; omega) | (simp <;> omega)⟩, trivial⟩ fun a w h => ?_
   replace h := at_out (σ' := ⟨[(1, aP 1 0), (2, aP 2 0), (3, aP 4 0), (5, aI (((i : Nat) : Int) + 1))], [(1, oX 91 [.ro s218 x0.1, cI x0.2.1.1, cI x0.2.1.2.1, cI x0.2.1.2.2.1, cI x0.2.1.2.2.2, .ro s128 x0.2.2.1, .ro s247 x0.2.2.2.1, cI x0.2.2.2.2]), (2, oX 91 [cN, cI 0, cI 0, cI 0, cI 0, cN, cN, cI 0]), (3, oR s247 x0.2.2.2.1), (4, oX 91 [.sl 5, cI x0.2.1.1, cI x0.2.1.2.1, cI x0.2.1.2.2.1, cI x0.2.1.2.2.2, .sl 8, .sl 3, cI x0.2.2.2.2]), (5, oF s218 x0.1), (8, oF s128 ((List.take i x0.2.2.1) ++ ([(x0.2.2.1.getD i (0, (0, (0, ([], 0)))))])))]⟩) { ts := [1, 2, 3, 5], os := [1, 2, 3, 4, 5, 10], rn := [(10, 8)] } h (by kernel_rfl)
   exact ⟨i + 1, at_eq h (st_congr2 (fun (d0 : List T128) (d1 : Int) => (⟨[(1, aP 1 0), (2, aP 2 0), (3, aP 4 0), (5, aI d1)], [(1, oX 91 [.ro s218 x0.1, cI x0.2.1.1, cI x0.2.1.2.1, cI x0.2.1.2.2.1, cI x0.2.1.2.2.2, .ro s128 x0.2.2.1, .ro s247 x0.2.2.2.1, cI x0.2.2.2.2]), (2, oX 91 [cN, cI 0, cI 0, cI 0, cI 0, cN, cN, cI 0]), (3, oR s247 x0.2.2.2.1), (4, oX 91 [.sl 5, cI x0.2.1.1, cI x0.2.1.2.1, cI x0.2.1.2.2.1, cI x0.2.1.2.2.2, .sl 8, .sl 3, cI x0.2.2.2.2]), (5, oF s218 x0.1), (8, oF s128 d0)]⟩ : St)) (show (((List.take i x0.2.2.1) ++ ([(x0.2.2.1.getD i (0, (0, (0, ([], 0)))))])) : List T128) = (List.take (i + 1) x0.2.2.1) from by first | with_reducible rfl | (rw [take_snoc (z := (0, (0, (0, ([], 0))))) (by omega)]) | rfl) (show (((i : Nat) : Int) + 1 : Int) = (((i + 1) : Nat) : Int) from by first | with_reducible rfl | (omega) | rfl)), (by omega), (by omega)⟩
  ·replace h2 : ¬ (((i : Nat) : Int) < ((List.length x0.2.2.1 : Nat) : Int)) := of_decide_eq_false h2
   refine wp_exit (then_exit ?_)
   replace h := at_out (σ' := ⟨[(2, aP 2 0), (3, aP 4 0)], [(2, oX 91 [cN, cI 0, cI 0, cI 0, cI 0, cN, cN, cI 0]), (3, oR s247 x0.2.2.2.1), (4, oX 91 [.sl 5, cI x0.2.1.1, cI x0.2.1.2.1, cI x0.2.1.2.2.1, cI x0.2.1.2.2.2, .sl 8, .sl 3, cI x0.2.2.2.2]), (5, oF s218 x0.1), (8, oF s128 (List.take i x0.2.2.1))]⟩) { ts := [2, 3], os := [2, 3, 4, 5, 8] } h (by kernel_rfl)
   replace h := at_eq (σ' := ⟨[(2, aP 2 0), (3, aP 4 0)], [(2, oX 91 [cN, cI 0, cI 0, cI 0, cI 0, cN, cN, cI 0]), (3, oR s247 x0.2.2.2.1), (4, oX 91 [.sl 5, cI x0.2.1.1, cI x0.2.1.2.1, cI x0.2.1.2.2.1, cI x0.2.1.2.2.2, .sl 8, .sl 3, cI x0.2.2.2.2]), (5, oF s218 x0.1), (8, oF s128 x0.2.2.1)]⟩) h (st_congr1 (fun (d0 : List T128) => (⟨[(2, aP 2 0), (3, aP 4 0)], [(2, oX 91 [cN, cI 0, cI 0, cI 0, cI 0, cN, cN, cI 0]), (3, oR s247 x0.2.2.2.1), (4, oX 91 [.sl 5, cI x0.2.1.1, cI x0.2.1.2.1, cI x0.2.1.2.2.1, cI x0.2.1.2.2.2, .sl 8, .sl 3, cI x0.2.2.2.2]), (5, oF s218 x0.1), (8, oF s128 d0)]⟩ : St)) (show ((List.take i x0.2.2.1) : List T128) = x0.2.2.1 from by first | with_reducible rfl | (rw [take_all (by omega)]) | rfl))
   refine then_exit (in_hit (then_normal (wp_seq ?_)))
   refine at_regq [] { ts := [2], os := [2, 3, 5, 8] } [] gamOK hT h (by kernel_rfl) trivial fun a w h => then_normal (wp_ret ?_)
   exact at_return (S := S_spec_l32Copy) (x := (x0, ())) (x0, ()) [] h (by kernel_rfl) trivial (congrArg (fun z => (z, ())) (show (x0) = (idD s91) x0 from by rfl))

abbrev Q__P_impl_Source_fill := (fun (x0 : T91) => Sh.fit s91 x0)
def S__P_impl_Source_fill : Sum := { fid := 117, dom := [s91], cod := [], dp := true, fz := false, pre := fun x => Q__P_impl_Source_fill x.1, g := fun x => (), kinds := [(.bx 91 0)], upd := fun x => (fillU x.1, ()) }
def S__P_impl_Source_fill_tab : List (Nat × Sum) := [(206, S_impl_StartGeneration)]
theorem S__P_impl_Source_fill_ok : FnOK Try.prog 117 S__P_impl_Source_fill := by
 refine at_enterI 16 [1, 2, 3, 4] [5] (fun us x => ⟨[(0, aP 1 0)], [(1, oX 91 [.sl 2, cI x.1.2.1.1, cI x.1.2.1.2.1, cI x.1.2.1.2.2.1, cI x.1.2.1.2.2.2, .sl 3, .sl 4, cI x.1.2.2.2.2]), (2, oR s218 x.1.1), (3, oR s128 x.1.2.2.1), (4, oR s247 x.1.2.2.2.1), (5, oP 1 (S__P_impl_Source_fill.hd us 0))]⟩) Try.func117 rfl (by kernel_rfl) (fun us x => rfl) ?_
 rintro w0 Z0 us ⟨x0, u⟩ L a w
 revert x0
 intro (x0 : T91) hio hpre hlens h
 replace h : At w0 Z0 L 16 ⟨[(0, aP 1 0)], [(1, oX 91 [.sl 2, cI x0.2.1.1, cI x0.2.1.2.1, cI x0.2.1.2.2.1, cI x0.2.1.2.2.2, .sl 3, .sl 4, cI x0.2.2.2.2]), (2, oR s218 x0.1), (3, oR s128 x0.2.2.1), (4, oR s247 x0.2.2.2.1), (5, oP 1 (S__P_impl_Source_fill.hd us 0))]⟩ a w := h
 replace hpre : Q__P_impl_Source_fill x0 := hpre
 have hl1 : List.length x0.1 ≤ 9223372036854775807 := hlens.1.1.1
 have hl2 : List.length x0.2.2.1 ≤ 9223372036854775807 := hlens.1.2.2.1.1
 have hl3 : List.length x0.2.2.2.1 ≤ 9223372036854775807 := hlens.1.2.2.2.1.1
 have hT : TabOK Try.prog S__P_impl_Source_fill_tab := (.cons S_impl_StartGeneration_ok .nil)
 have hf0 : Sh.fit s91 x0 := hpre
 have hn0_1 : List.length x0.1 ≤ 1073741824 := hf0.1.1
 have hn0_2 : List.length x0.2.2.1 ≤ 1073741824 := hf0.2.2.1.1
 have hn0_3 : List.length x0.2.2.2.1 ≤ 1073741824 := hf0.2.2.2.1.1
 refine wp_seq ?_
 refine at_regq [] { ts := [0, 2], os := [1, 2, 3, 4, 5] } [] gamOK hT h (by kernel_rfl) trivial fun a w h => then_normal (wp_block ?_)
 replace h := at_out (σ' := ⟨[(0, aP 1 0), (2, aB true)], [(1, oX 91 [.sl 2, cI x0.2.1.1, cI x0.2.1.2.1, cI x0.2.1.2.2.1, cI x0.2.1.2.2.2, .sl 3, .sl 4, cI x0.2.2.2.2]), (2, oR s218 x0.1), (3, oR s128 x0.2.2.1), (4, oR s247 x0.2.2.2.1), (5, oP 1 (S__P_impl_Source_fill.hd us 0))]⟩) { ts := [0, 2], os := [1, 2, 3, 4, 5] } h (by kernel_rfl)
 refine at_loop (fun i : Nat => (⟨[(0, aP 1 0), (2, aB (fillB x0.2.1 i))], [(1, oX 91 [.sl 2, cI (fillN x0.2.1 i).1, cI (fillN x0.2.1 i).2.1, cI (fillN x0.2.1 i).2.2.1, cI (fillN x0.2.1 i).2.2.2, .sl 3, .sl 4, cI x0.2.2.2.2]), (2, oR s218 x0.1), (3, oR s128 x0.2.2.1), (4, oR s247 x0.2.2.2.1), (5, oP 1 (S__P_impl_Source_fill.hd us 0))]⟩ : St)) (fun i => fillOK x0.2.1 i) (fun i => 100 - i) (0) h (st_congr5 (fun (d0 : Int) (d1 : Int) (d2 : Int) (d3 : Int) (d4 : Bool) => (⟨[(0, aP 1 0), (2, aB d4)], [(1, oX 91 [.sl 2, cI d0, cI d1, cI d2, cI d3, .sl 3, .sl 4, cI x0.2.2.2.2]), (2, oR s218 x0.1), (3, oR s128 x0.2.2.1), (4, oR s247 x0.2.2.2.1), (5, oP 1 (S__P_impl_Source_fill.hd us 0))]⟩ : St)) (show (x0.2.1.1 : Int) = (fillN x0.2.1 (0)).1 from by first | with_reducible rfl | (rfl) | rfl) (show (x0.2.1.2.1 : Int) = (fillN x0.2.1 (0)).2.1 from by first | with_reducible rfl | (rfl) | rfl) (show (x0.2.1.2.2.1 : Int) = (fillN x0.2.1 (0)).2.2.1 from by first | with_reducible rfl | (rfl) | rfl) (show (x0.2.1.2.2.2 : Int) = (fillN x0.2.1 (0)).2.2.2 from by first | with_reducible rfl | (rfl) | rfl) (show (true : Bool) = (fillB x0.2.1 (0)) from by first | with_reducible rfl | (rfl) | rfl)) (by exact ⟨by omega, Or.inl rfl⟩) ?_
 intro i a w hok0 h
 refine wp_seq (wp_seq ?_)
 refine at_regq [] { ts := [0, 2, 3], os := [1, 2, 3, 4, 5] } [] gamOK hT h (by kernel_rfl) trivial fun a w h => then_normal ?_
 refine at_test ((fillB x0.2.1 i)) h (by kernel_rfl) (fun h1 => ?_) (fun h1 => ?_)
 ·refine wp_skip (then_normal (wp_block ?_))
  refine at_regq [] { ts := [0, 2], os := [1, 2, 3, 4, 5] } [True] gamOK hT h (by kernel_rfl) ⟨trivial, trivial⟩ fun a w h => in_normal ?_
  replace h := at_out (σ' := ⟨[(0, aP 1 0), (2, aB (startW (fillN x0.2.1 i)).2.2)], [(1, oX 91 [.sl 2, cI (startW (fillN x0.2.1 i)).1.1, cI (startW (fillN x0.2.1 i)).1.2.1, cI (startW (fillN x0.2.1 i)).1.2.2.1, cI (startW (fillN x0.2.1 i)).1.2.2.2, .sl 3, .sl 4, cI x0.2.2.2.2]), (2, oR s218 x0.1), (3, oR s128 x0.2.2.1), (4, oR s247 x0.2.2.2.1), (5, oP 1 (S__P_impl_Source_fill.hd us 0))]⟩) { ts := [0, 2], os := [1, 2, 3, 4, 5] } h (by kernel_rfl)
  exact ⟨i + 1, at_eq h (st_congr5 (fun (d0 : Int) (d1 : Int) (d2 : Int) (d3 : Int) (d4 : Bool) => (⟨[(0, aP 1 0), (2, aB d4)], [(1, oX 91 [.sl 2, cI d0, cI d1, cI d2, cI d3, .sl 3, .sl 4, cI x0.2.2.2.2]), (2, oR s218 x0.1), (3, oR s128 x0.2.2.1), (4, oR s247 x0.2.2.2.1), (5, oP 1 (S__P_impl_Source_fill.hd us 0))]⟩ : St)) (show ((startW (fillN x0.2.1 i)).1.1 : Int) = (fillN x0.2.1 (i + 1)).1 from by first | with_reducible rfl | (rfl) | rfl) (show ((startW (fillN x0.2.1 i)).1.2.1 : Int) = (fillN x0.2.1 (i + 1)).2.1 from by first | with_reducible rfl | (rfl) | rfl) (show ((startW (fillN x0.2.1 i)).1.2.2.1 : Int) = (fillN x0.2.1 (i + 1)).2.2.1 from by first | with_reducible rfl | (rfl) | rfl) (show ((startW (fillN x0.2.1 i)).1.2.2.2 : Int) = (fillN x0.2.1 (i + 1)).2.2.2 from by first | with_reducible rfl | (rfl) | rfl) (show ((startW (fillN x0.2.1 i)).2.2 : Bool) = (fillB x0.2.1 (i + 1)) from by first | with_reducible rfl | (rfl) | rfl)), (by exact fillOK_s hok0 (by assumption)), (by have := hok0.1; omega)⟩
 ·refine wp_exit (then_exit (then_exit (in_hit ?_)))
  exact at_returnI (S := S__P_impl_Source_fill) (x := (x0, ())) [1, 2, 3, 4] [5] ((x0.1, ((fillN x0.2.1 i), x0.2.2)), ()) (some ()) [S__P_impl_Source_fill.hd us 0 = S__P_impl_Source_fill.hd us 0] hio h (by kernel_rfl) ⟨rfl, trivial⟩ (by first | exact congrArg (fun (z : T91) => (z, ())) (show ((x0.1, ((fillN x0.2.1 i), x0.2.2)) : T91) = fillU x0 from by (unfold fillU; rw [fillN_end2 hok0 (by assumption)])) | rfl) (fun z e => (Option.some.inj e) ▸ rfl)

abbrev Q_impl_FillWindow := (fun (x0 : T91) => Sh.fit s91 x0)
def S_impl_FillWindow : Sum := { fid := 41, dom := [s91], cod := [s91], dp := true, fz := false, pre := fun x => Q_impl_FillWindow x.1, g := fun x => ((fillU x.1), ()) }
def S_impl_FillWindow_tab : List (Nat × Sum) := [(116, S__impl_Source_clone), (117, S__P_impl_Source_fill)]
theorem S_impl_FillWindow_ok : FnOK Try.prog 41 S_impl_FillWindow := by
 refine at_enter 8 (fun x => ⟨[(0, aG [.ro s218 x.1.1, cI x.1.2.1.1, cI x.1.2.1.2.1, cI x.1.2.1.2.2.1, cI x.1.2.1.2.2.2, .ro s128 x.1.2.2.1, .ro s247 x.1.2.2.2.1, cI x.1.2.2.2.2])], []⟩) Try.func41 rfl (by kernel_rfl) (fun x => rfl) ?_
 rintro w0 Z0 ⟨x0, u⟩ a w
 revert x0
 intro (x0 : T91) hpre hlens h
 replace h : At w0 Z0 [] 8 ⟨[(0, aG [.ro s218 x0.1, cI x0.2.1.1, cI x0.2.1.2.1, cI x0.2.1.2.2.1, cI x0.2.1.2.2.2, .ro s128 x0.2.2.1, .ro s247 x0.2.2.2.1, cI x0.2.2.2.2])], []⟩ a w := h
 replace hpre : Q_impl_FillWindow x0 := hpre
 have hl1 : List.length x0.1 ≤ 9223372036854775807 := hlens.1.1.1
 have hl2 : List.length x0.2.2.1 ≤ 9223372036854775807 := hlens.1.2.2.1.1
 have hl3 : List.length x0.2.2.2.1 ≤ 9223372036854775807 := hlens.1.2.2.2.1.1
 have hT : TabOK Try.prog S_impl_FillWindow_tab := (.cons S__impl_Source_clone_ok (.cons S__P_impl_Source_fill_ok .nil))
 have hf0 : Sh.fit s91 x0 := hpre
 have hn0_1 : List.length x0.1 ≤ 1073741824 := hf0.1.1
 have hn0_2 : List.length x0.2.2.1 ≤ 1073741824 := hf0.2.2.1.1
 have hn0_3 : List.length x0.2.2.2.1 ≤ 1073741824 := hf0.2.2.2.1.1
 refine wp_seq ?_
 refine at_regq [{ ids := [1] }, { ids := [2] }] { ts := [1, 2], os := [1, 2] } [] gamOK hT h (by kernel_rfl) trivial fun a w h => then_normal (wp_seq ?_)
 refine at_regq [{}, { ids := [3, 4, 5] }, { ids := [6] }] { ts := [2, 3], os := [2, 3, 4, 5, 6] } [Q__impl_Source_clone x0] gamOK hT h (by kernel_rfl) ⟨(by exact hf0), trivial⟩ fun a w h => then_normal (wp_seq ?_)
 refine at_regq [{ ids := [7, 8, 9] }] { ts := [2, 3], os := [2, 6, 7, 8, 9] } [Q__P_impl_Source_fill x0] gamOK hT h (by kernel_rfl) ⟨(by exact hf0), trivial⟩ fun a w h => then_normal (wp_seq ?_)
 refine at_regq [] { ts := [2], os := [2, 7, 8, 9] } [] gamOK hT h (by kernel_rfl) trivial fun a w h => then_normal (wp_ret ?_)
 exact at_return (S := S_impl_FillWindow) (x := (x0, ())) ((fillU x0), ()) [] h (by kernel_rfl) trivial (congrArg (fun z => (z, ())) (show ((fillU x0)) = fillU x0 from by rfl))

abbrev Q_spec_FillWindow := (fun (x0 : T91) => Sh.fit s91 x0)
def S_spec_FillWindow : Sum := { fid := 39, dom := [s91], cod := [s91], dp := false, fz := false, pre := fun x => Q_spec_FillWindow x.1, g := fun x => ((fillU x.1), ()) }
def S_spec_FillWindow_tab : List (Nat × Sum) := [(111, S_spec_l32Copy), (112, S_spec_StartGeneration)]
theorem S_spec_FillWindow_ok : FnOK Try.prog 39 S_spec_FillWindow := by
 refine at_enter 21 (fun x => ⟨[(0, aG [.ro s218 x.1.1, cI x.1.2.1.1, cI x.1.2.1.2.1, cI x.1.2.1.2.2.1, cI x.1.2.1.2.2.2, .ro s128 x.1.2.2.1, .ro s247 x.1.2.2.2.1, cI x.1.2.2.2.2])], []⟩) Try.func39 rfl (by kernel_rfl) (fun x => rfl) ?_
 rintro w0 Z0 ⟨x0, u⟩ a w
 revert x0
 intro (x0 : T91) hpre hlens h
 replace h : At w0 Z0 [] 21 ⟨[(0, aG [.ro s218 x0.1, cI x0.2.1.1, cI x0.2.1.2.1, cI x0.2.1.2.2.1, cI x0.2.1.2.2.2, .ro s128 x0.2.2.1, .ro s247 x0.2.2.2.1, cI x0.2.2.2.2])], []⟩ a w := h
 replace hpre : Q_spec_FillWindow x0 := hpre
 have hl1 : List.length x0.1 ≤ 9223372036854775807 := hlens.1.1.1
 have hl2 : List.length x0.2.2.1 ≤ 9223372036854775807 := hlens.1.2.2.1.1
 have hl3 : List.length x0.2.2.2.1 ≤ 9223372036854775807 := hlens.1.2.2.2.1.1
 have hT : TabOK Try.prog S_spec_FillWindow_tab := (.cons S_spec_l32Copy_ok (.cons S_spec_StartGeneration_ok .nil))
 have hf0 : Sh.fit s91 x0 := hpre
 have hn0_1 : List.length x0.1 ≤ 1073741824 := hf0.1.1
 have hn0_2 : List.length x0.2.2.1 ≤ 1073741824 := hf0.2.2.1.1
 have hn0_3 : List.length x0.2.2.2.1 ≤ 1073741824 := hf0.2.2.2.1.1
 refine wp_seq ?_
 refine at_regq [{ ids := [1] }, { ids := [2] }] { ts := [1, 2], os := [1, 2] } [] gamOK hT h (by kernel_rfl) trivial fun a w h => then_normal (wp_seq ?_)
 refine at_regq [{}, { ids := [3, 4, 5] }, { ids := [6] }] { ts := [2, 3], os := [2, 3, 4, 5, 6] } [Q_spec_l32Copy x0] gamOK hT h (by kernel_rfl) ⟨(by exact hf0), trivial⟩ fun a w h => then_normal (wp_block ?_)
 replace h := at_out (σ' := ⟨[(2, aP 2 0), (3, aP 6 0)], [(2, oX 91 [cN, cI 0, cI 0, cI 0, cI 0, cN, cN, cI 0]), (3, oF s218 x0.1), (4, oF s128 x0.2.2.1), (5, oF s247 x0.2.2.2.1), (6, oX 91 [.sl 3, cI x0.2.1.1, cI x0.2.1.2.1, cI x0.2.1.2.2.1, cI x0.2.1.2.2.2, .sl 4, .sl 5, cI x0.2.2.2.2])]⟩) { ts := [2, 3], os := [2, 3, 4, 5, 6] } h (by kernel_rfl)
 refine at_loop (fun i : Nat => (⟨[(2, aP 2 0), (3, aP 6 0)], [(2, oX 91 [cN, cI 0, cI 0, cI 0, cI 0, cN, cN, cI 0]), (3, oF s218 x0.1), (4, oF s128 x0.2.2.1), (5, oF s247 x0.2.2.2.1), (6, oX 91 [.sl 3, cI (fillN x0.2.1 i).1, cI (fillN x0.2.1 i).2.1, cI (fillN x0.2.1 i).2.2.1, cI (fillN x0.2.1 i).2.2.2, .sl 4, .sl 5, cI x0.2.2.2.2])]⟩ : St)) (fun i => (fillOK x0.2.1 i ∧ fillB x0.2.1 i = true)) (fun i => 100 - i) (0) h (st_congr4 (fun (d0 : Int) (d1 : Int) (d2 : Int) (d3 : Int) => (⟨[(2, aP 2 0), (3, aP 6 0)], [(2, oX 91 [cN, cI 0, cI 0, cI 0, cI 0, cN, cN, cI 0]), (3, oF s218 x0.1), (4, oF s128 x0.2.2.1), (5, oF s247 x0.2.2.2.1), (6, oX 91 [.sl 3, cI d0, cI d1, cI d2, cI d3, .sl 4, .sl 5, cI x0.2.2.2.2])]⟩ : St)) (show (x0.2.1.1 : Int) = (fillN x0.2.1 (0)).1 from by first | with_reducible rfl | (rfl) | rfl) (show (x0.2.1.2.1 : Int) = (fillN x0.2.1 (0)).2.1 from by first | with_reducible rfl | (rfl) | rfl) (show (x0.2.1.2.2.1 : Int) = (fillN x0.2.1 (0)).2.2.1 from by first | with_reducible rfl | (rfl) | rfl) (show (x0.2.1.2.2.2 : Int) = (fillN x0.2.1 (0)).2.2.2 from by first | with_reducible rfl | (rfl) | rfl)) (by exact ⟨⟨by omega, Or.inl rfl⟩, rfl⟩) ?_
 intro i a w hok0 h
 refine wp_block (wp_seq ?_)
 refine at_regq [{}, {}, {}, {}, {}, {}, {}, { ids := [7] }] { ts := [2, 3, 4, 6], os := [2, 3, 4, 5, 6, 7] } [True] gamOK hT h (by kernel_rfl) ⟨trivial, trivial⟩ fun a w h => then_normal (wp_seq (wp_seq ?_))
 refine at_regq [] { ts := [2, 3, 4, 17], os := [2, 3, 4, 5, 6, 7] } [] gamOK hT h (by kernel_rfl) trivial fun a w h => then_normal ?_
 refine at_test (!(startW (fillN x0.2.1 i)).2.2) h (by kernel_rfl) (fun h1 => ?_) (fun h1 => ?_)
 ·replace h1 : (startW (fillN x0.2.1 i)).2.2 = false := notT h1
  refine wp_seq ?_
  refine at_regq [] { ts := [2, 3, 4], os := [2, 3, 4, 5, 6, 7] } [] gamOK hT h (by kernel_rfl) trivial fun a w h => then_normal (wp_ret (then_ret (in_ret (then_ret (in_ret ?_)))))
  exact at_return (S := S_spec_FillWindow) (x := (x0, ())) ((x0.1, ((fillN x0.2.1 i), x0.2.2)), ()) [] h (by kernel_rfl) trivial (congrArg (fun z => (z, ())) (show ((x0.1, ((fillN x0.2.1 i), x0.2.2))) = fillU x0 from by (unfold fillU; rw [fillN_end hok0.1.1 (by assumption)])))
 ·replace h1 : (startW (fillN x0.2.1 i)).2.2 = true := notF h1
  refine wp_skip (then_normal ?_)
  refine at_regq [] { ts := [2, 3], os := [2, 3, 4, 5, 6] } [] gamOK hT h (by kernel_rfl) trivial fun a w h => in_normal ?_
  replace h := at_out (σ' := ⟨[(2, aP 2 0), (3, aP 6 0)], [(2, oX 91 [cN, cI 0, cI 0, cI 0, cI 0, cN, cN, cI 0]), (3, oF s218 x0.1), (4, oF s128 x0.2.2.1), (5, oF s247 x0.2.2.2.1), (6, oX 91 [.sl 3, cI (startW (fillN x0.2.1 i)).1.1, cI (startW (fillN x0.2.1 i)).1.2.1, cI (startW (fillN x0.2.1 i)).1.2.2.1, cI (startW (fillN x0.2.1 i)).1.2.2.2, .sl 4, .sl 5, cI x0.2.2.2.2])]⟩) { ts := [2, 3], os := [2, 3, 4, 5, 6] } h (by kernel_rfl)
  exact ⟨i + 1, at_eq h (st_congr4 (fun (d0 : Int) (d1 : Int) (d2 : Int) (d3 : Int) => (⟨[(2, aP 2 0), (3, aP 6 0)], [(2, oX 91 [cN, cI 0, cI 0, cI 0, cI 0, cN, cN, cI 0]), (3, oF s218 x0.1), (4, oF s128 x0.2.2.1), (5, oF s247 x0.2.2.2.1), (6, oX 91 [.sl 3, cI d0, cI d1, cI d2, cI d3, .sl 4, .sl 5, cI x0.2.2.2.2])]⟩ : St)) (show ((startW (fillN x0.2.1 i)).1.1 : Int) = (fillN x0.2.1 (i + 1)).1 from by first | with_reducible rfl | (rfl) | rfl) (show ((startW (fillN x0.2.1 i)).1.2.1 : Int) = (fillN x0.2.1 (i + 1)).2.1 from by first | with_reducible rfl | (rfl) | rfl) (show ((startW (fillN x0.2.1 i)).1.2.2.1 : Int) = (fillN x0.2.1 (i + 1)).2.2.1 from by first | with_reducible rfl | (rfl) | rfl) (show ((startW (fillN x0.2.1 i)).1.2.2.2 : Int) = (fillN x0.2.1 (i + 1)).2.2.2 from by first | with_reducible rfl | (rfl) | rfl)), (by exact ⟨fillOK_s hok0.1 hok0.2, by assumption⟩), (by have := hok0.1.1; omega)⟩

def D_laws_FnExactFillWindow := (fun (_ : T83) => true)
abbrev Q_laws_FnExactFillWindow := (fun (x0 : T83) => Sh.i64 s83 x0)
def S_laws_FnExactFillWindow : Sum := { fid := 6, dom := [s83], cod := [(.bool 4)], dp := true, fz := false, pre := fun x => Q_laws_FnExactFillWindow x.1, g := fun x => ((D_laws_FnExactFillWindow x.1), ()) }
def S_laws_FnExactFillWindow_tab : List (Nat × Sum) := [(38, S_laws_szSource), (40, S_laws_toSource), (39, S_spec_FillWindow), (41, S_impl_FillWindow), (42, S_laws_eqSource), (43, S_laws_markSource), (44, S_laws_heldSource)]
theorem S_laws_FnExactFillWindow_ok : FnOK Try.prog 6 S_laws_FnExactFillWindow := by
 refine at_enter 69 (fun x => ⟨[(0, aG [.ro s223 x.1.1, cI x.1.2.1.1, cI x.1.2.1.2.1, cI x.1.2.1.2.2.1, cI x.1.2.1.2.2.2, .ro s124 x.1.2.2.1, .ro s285 x.1.2.2.2.1, cI x.1.2.2.2.2])], []⟩) Try.func6 rfl (by kernel_rfl) (fun x => rfl) ?_
 rintro w0 Z0 ⟨x0, u⟩ a w
 revert x0
 intro (x0 : T83) hpre hlens h
 replace h : At w0 Z0 [] 69 ⟨[(0, aG [.ro s223 x0.1, cI x0.2.1.1, cI x0.2.1.2.1, cI x0.2.1.2.2.1, cI x0.2.1.2.2.2, .ro s124 x0.2.2.1, .ro s285 x0.2.2.2.1, cI x0.2.2.2.2])], []⟩ a w := h
 replace hpre : Q_laws_FnExactFillWindow x0 := hpre
 have hl1 : List.length x0.1 ≤ 9223372036854775807 := hlens.1.1.1
 have hl2 : List.length x0.2.2.1 ≤ 9223372036854775807 := hlens.1.2.2.1.1
 have hl3 : List.length x0.2.2.2.1 ≤ 9223372036854775807 := hlens.1.2.2.2.1.1
 have hT : TabOK Try.prog S_laws_FnExactFillWindow_tab := (.cons S_laws_szSource_ok (.cons S_laws_toSource_ok (.cons S_spec_FillWindow_ok (.cons S_impl_FillWindow_ok (.cons S_laws_eqSource_ok (.cons S_laws_markSource_ok (.cons S_laws_heldSource_ok .nil)))))))
 have hq0 : Sh.sz s91 x0 = Sh.sz s83 x0 := rfl
 have hb0 : Sh.ctT s91 x0 ≤ 17 * Sh.sz s91 x0 := Sh.ctT_le2 s91 x0
 have hz0 : Sh.ct s91 x0 ≤ 17 * (1 + Sh.sz s91 x0) := Sh.ct_le s91 x0
 have ht0 : Sh.sz s83 x0 = ((Sh.sz s24 x0.1) + ((0 + (0 + (0 + 0))) + ((Sh.sz s78 x0.2.2.1) + ((Sh.sz s79 x0.2.2.2.1) + 0)))) := rfl
 have hs0_1 : Sh.sz s24 x0.1 = List.length x0.1 + ctL (Sh.sz s223) x0.1 := rfl
 have hs0_2 : Sh.sz s78 x0.2.2.1 = List.length x0.2.2.1 + ctL (Sh.sz s124) x0.2.2.1 := rfl
 have hs0_3 : Sh.sz s79 x0.2.2.2.1 = List.length x0.2.2.2.1 := sz_flat (by rfl) _
 have hr1 : Sh.ctT s91 (fillU x0) ≤ 17 * Sh.sz s91 (fillU x0) := Sh.ctT_le2 s91 _
 have hr2 : Sh.sz s91 (fillU x0) = Sh.sz s91 x0 := szW x0 _
 refine wp_seq ?_
 refine at_regq [{ ids := [1] }] { ts := [1, 2], os := [1] } [] gamOK hT h (by kernel_rfl) trivial fun a w h => then_normal (wp_seq ?_)
 refine at_regq [] { ts := [1, 2, 3], os := [1] } [] gamOK hT h (by kernel_rfl) trivial fun a w h => then_normal (wp_seq ?_)
 refine at_regq [] { ts := [1, 2, 3], os := [1] } [(pSz s83) x0 1048576] gamOK hT h (by kernel_rfl) ⟨(by (show (0 : Int) ≤ _ ∧ _ ≤ (9223372036854775807 : Int); constructor <;> omega)), trivial⟩ fun a w h => then_normal (wp_seq (wp_seq ?_))
 refine at_regq [] { ts := [1, 2, 15], os := [1] } [] gamOK hT h (by kernel_rfl) trivial fun a w h => then_normal ?_
 refine at_test (decide (((szD s83) x0 1048576) < 0)) h (by kernel_rfl) (fun h1 => ?_) (fun h1 => ?_)
 ·replace h1 : ((szD s83) x0 1048576) < 0 := of_decide_eq_true h1
  have hvh1 := szD_neg h1 (by omega)
  refine wp_seq ?_
  refine at_regq [] { ts := [1, 2], os := [1] } [] gamOK hT h (by kernel_rfl) trivial fun a w h => then_normal (wp_ret (then_ret ?_))
  exact at_return (S := S_laws_FnExactFillWindow) (x := (x0, ())) (true, ()) [] h (by kernel_rfl) trivial (congrArg (fun z => (z, ())) (show (true) = D_laws_FnExactFillWindow x0 from by unfold D_laws_FnExactFillWindow; rfl))
 ·replace h1 : ¬ (((szD s83) x0 1048576) < 0) := of_decide_eq_false h1
  have hvh1 := szD_val h1 (by omega)
  refine wp_skip (then_normal (wp_seq ?_))
  refine at_regq [{}, { frz := true }, { ids := [2, 3, 4] }, { ids := [5] }] { ts := [1, 2, 4], os := [1, 2, 3, 4, 5] } [(pTo s83) x0, Q_spec_FillWindow x0] gamOK hT h (by kernel_rfl) ⟨(by (show Sh.sz _ _ ≤ 1048576; omega)), (by exact (Sh.fit_of_sz s91 rfl (x := x0) (by omega))), trivial⟩ fun a w h => then_normal (wp_seq ?_)
  refine at_regq [{}, { ids := [6, 7, 8] }, { ids := [9] }] { ts := [1, 2, 4, 5], os := [1, 2, 3, 4, 5, 6, 7, 8, 9] } [(pTo s83) x0] gamOK hT h (by kernel_rfl) ⟨(by (show Sh.sz _ _ ≤ 1048576; omega)), trivial⟩ fun a w h => then_normal (wp_seq ?_)
  refine at_regq [{}, { ids := [10, 11, 12] }, { ids := [13] }] { ts := [1, 2, 4, 5, 6], os := [1, 2, 3, 4, 5, 6, 7, 8, 9, 10, 11, 12, 13] } [Q_impl_FillWindow x0] gamOK hT h (by kernel_rfl) ⟨(by exact (Sh.fit_of_sz s91 rfl (x := x0) (by omega))), trivial⟩ fun a w h => then_normal (wp_seq (wp_seq ?_))
  refine at_regq [] { ts := [1, 2, 4, 5, 6, 26], os := [1, 2, 3, 4, 5, 6, 7, 8, 9, 10, 11, 12, 13] } [True] gamOK hT h (by kernel_rfl) ⟨trivial, trivial⟩ fun a w h => then_normal ?_
  refine at_test (!((Sh.eqB s91) (fillU x0) (fillU x0))) h (by kernel_rfl) (fun h2 => ?_) (fun h2 => ?_)
  ·replace h2 : ((Sh.eqB s91) (fillU x0) (fillU x0)) = false := notT h2
   refine wp_seq ?_
   refine at_reg [] { ts := [1, 2, 4, 5, 6], os := [1, 2, 3, 4, 5, 6, 7, 8, 9, 10, 11, 12, 13] } ⟨[(1, aP 1 0), (2, aB false), (4, aP 5 0), (5, aP 9 0), (6, aP 13 0)], [(1, oX 83 [.ro s223 x0.1, cI x0.2.1.1, cI x0.2.1.2.1, cI x0.2.1.2.2.1, cI x0.2.1.2.2.2, .ro s124 x0.2.2.1, .ro s285 x0.2.2.2.1, cI x0.2.2.2.2]), (2, oF s218 (fillU x0).1), (3, oF s128 (fillU x0).2.2.1), (4, oF s247 (fillU x0).2.2.2.1), (5, oX 91 [.sl 2, cI (fillU x0).2.1.1, cI (fillU x0).2.1.2.1, cI (fillU x0).2.1.2.2.1, cI (fillU x0).2.1.2.2.2, .sl 3, .sl 4, cI (fillU x0).2.2.2.2]), (6, oR s218 x0.1), (7, oR s128 x0.2.2.1), (8, oR s247 x0.2.2.2.1), (9, oX 91 [.sl 6, cI x0.2.1.1, cI x0.2.1.2.1, cI x0.2.1.2.2.1, cI x0.2.1.2.2.2, .sl 7, .sl 8, cI x0.2.2.2.2]), (10, oR s218 (fillU x0).1), (11, oR s128 (fillU x0).2.2.1), (12, oR s247 (fillU x0).2.2.2.1), (13, oX 91 [.sl 10, cI (fillU x0).2.1.1, cI (fillU x0).2.1.2.1, cI (fillU x0).2.1.2.2.1, cI (fillU x0).2.1.2.2.2, .sl 11, .sl 12, cI (fillU x0).2.2.2.2])]⟩ [] gamOK hT h (by kernel_rfl) trivial fun a w h => then_normal (wp_ret (then_ret ?_))
   exact at_return (S := S_laws_FnExactFillWindow) (x := (x0, ())) (false, ()) [] h (by kernel_rfl) trivial (congrArg (fun z => (z, ())) (show (false) = D_laws_FnExactFillWindow x0 from by unfold D_laws_FnExactFillWindow; exact absurd ((Sh.eqB_iff _).2 (show _ = _ from by first | rfl | (rfl))) (neT h2)))
  ·replace h2 : ((Sh.eqB s91) (fillU x0) (fillU x0)) = true := notF h2
   refine wp_skip (then_normal (wp_seq (wp_seq ?_)))
   refine at_any [{}, {}, { ids := [14, 15, 16] }, {}, {}] { ts := [1, 2, 4, 5, 6, 31], os := [1, 2, 3, 4, 5, 6, 7, 8, 9, 10, 11, 12, 13] } ⟨[(1, aP 1 0), (2, aB false), (4, aP 5 0), (5, aP 9 0), (6, aP 13 0), (31, aB (!((Sh.eqB s91) x0 x0)))], [(1, oX 83 [.ro s223 x0.1, cI x0.2.1.1, cI x0.2.1.2.1, cI x0.2.1.2.2.1, cI x0.2.1.2.2.2, .ro s124 x0.2.2.1, .ro s285 x0.2.2.2.1, cI x0.2.2.2.2]), (2, oF s218 (fillU x0).1), (3, oF s128 (fillU x0).2.2.1), (4, oF s247 (fillU x0).2.2.2.1), (5, oX 91 [.sl 2, cI (fillU x0).2.1.1, cI (fillU x0).2.1.2.1, cI (fillU x0).2.1.2.2.1, cI (fillU x0).2.1.2.2.2, .sl 3, .sl 4, cI (fillU x0).2.2.2.2]), (6, oR s218 x0.1), (7, oR s128 x0.2.2.1), (8, oR s247 x0.2.2.2.1), (9, oX 91 [.sl 6, cI x0.2.1.1, cI x0.2.1.2.1, cI x0.2.1.2.2.1, cI x0.2.1.2.2.2, .sl 7, .sl 8, cI x0.2.2.2.2]), (10, oR s218 (fillU x0).1), (11, oR s128 (fillU x0).2.2.1), (12, oR s247 (fillU x0).2.2.2.1), (13, oX 91 [.sl 10, cI (fillU x0).2.1.1, cI (fillU x0).2.1.2.1, cI (fillU x0).2.1.2.2.1, cI (fillU x0).2.1.2.2.2, .sl 11, .sl 12, cI (fillU x0).2.2.2.2])]⟩ [(pTo s83) x0, True] gamOK hT mixed h (by kernel_rfl) ⟨(by (show Sh.sz _ _ ≤ 1048576; omega)), trivial, trivial⟩ fun a w h => then_normal ?_
   refine at_test (!((Sh.eqB s91) x0 x0)) h (by kernel_rfl) (fun h3 => ?_) (fun h3 => ?_)
   ·replace h3 : ((Sh.eqB s91) x0 x0) = false := notT h3
    refine wp_seq ?_
    refine at_regq [] { ts := [1, 2, 4, 5, 6], os := [1, 2, 3, 4, 5, 6, 7, 8, 9, 10, 11, 12, 13] } [] gamOK hT h (by kernel_rfl) trivial fun a w h => then_normal (wp_ret (then_ret ?_))
    exact at_return (S := S_laws_FnExactFillWindow) (x := (x0, ())) (false, ()) [] h (by kernel_rfl) trivial (congrArg (fun z => (z, ())) (show (false) = D_laws_FnExactFillWindow x0 from by unfold D_laws_FnExactFillWindow; exact absurd ((Sh.eqB_iff _).2 (show _ = _ from by first | rfl | (rfl))) (neT h3)))
   ·replace h3 : ((Sh.eqB s91) x0 x0) = true := notF h3
    refine wp_skip (then_normal (wp_seq ?_))
    refine at_regq [] { ts := [1, 2, 4, 5, 6, 7], os := [1, 2, 3, 4, 5, 6, 7, 8, 9, 10, 11, 12, 13] } [] gamOK hT h (by kernel_rfl) trivial fun a w h => then_normal (wp_seq ?_)
    refine at_regq [] { ts := [1, 2, 4, 6, 7], os := [1, 2, 3, 4, 5, 10, 11, 12, 13] } [(pMkT s91) x0 1] gamOK hT h (by kernel_rfl) ⟨(by (show (0 : Int) ≤ _ ∧ _ + ((Sh.ctT _ _ : Nat) : Int) ≤ (4611686018427387904 : Int); (try simp only [held_marked, held_markedT, mkK, mkKT, Sh.ctT_mkT, Sh.ct_mk]); constructor <;> omega)), trivial⟩ fun a w h => then_normal (wp_seq (wp_seq ?_))
    by_cases h4 : ((mkKT s91) x0 1) < 0
    ·refine at_regq [{}, { hint := some (aB true) }] { ts := [1, 2, 4, 6, 42], os := [1, 2, 3, 4, 5, 10, 11, 12, 13] } [(AV.p (.c (.v (.bool (decide (((mkKT s91) x0 1) < 0))))) = AV.p (.c (.v (.bool true))))] gamOK hT h (by kernel_rfl) ⟨hint_bool (decide_eq_true h4), trivial⟩ fun a w h => then_normal ?_
     refine at_test true h (by kernel_rfl) (fun hh => ?_) (fun hh => nomatch hh)
     refine wp_seq ?_
     refine at_regq [] { ts := [1, 2, 4, 6], os := [1, 2, 3, 4, 5, 10, 11, 12, 13] } [] gamOK hT h (by kernel_rfl) trivial fun a w h => then_normal (wp_ret (then_ret ?_))
     exact at_return (S := S_laws_FnExactFillWindow) (x := (x0, ())) (false, ()) [] h (by kernel_rfl) trivial (congrArg (fun z => (z, ())) (show (false) = D_laws_FnExactFillWindow x0 from by unfold D_laws_FnExactFillWindow; (exfalso; simp only [mkK, mkKT, Sh.ctT_mkT, Sh.ct_mk] at h4; first | omega | exact h4 trivial | exact h4 rfl)))
    ·refine at_regq [{}, { hint := some (aB false) }] { ts := [1, 2, 4, 6, 42], os := [1, 2, 3, 4, 5, 10, 11, 12, 13] } [(AV.p (.c (.v (.bool (decide (((mkKT s91) x0 1) < 0))))) = AV.p (.c (.v (.bool false)))), True] gamOK hT h (by kernel_rfl) ⟨hint_bool (decide_eq_false h4), trivial, trivial⟩ fun a w h => then_normal ?_
     refine at_test (!((Sh.eqB s91) (fillU x0) (fillU x0))) h (by kernel_rfl) (fun h5 => ?_) (fun h5 => ?_)
     ·replace h5 : ((Sh.eqB s91) (fillU x0) (fillU x0)) = false := notT h5
      refine wp_seq ?_
      refine at_regq [] { ts := [1, 2, 4, 6], os := [1, 2, 3, 4, 5, 10, 11, 12, 13] } [] gamOK hT h (by kernel_rfl) trivial fun a w h => then_normal (wp_ret (then_ret ?_))
      exact at_return (S := S_laws_FnExactFillWindow) (x := (x0, ())) (false, ()) [] h (by kernel_rfl) trivial (congrArg (fun z => (z, ())) (show (false) = D_laws_FnExactFillWindow x0 from by unfold D_laws_FnExactFillWindow; exact absurd ((Sh.eqB_iff _).2 (show _ = _ from by first | rfl | (rfl))) (neT h5)))
     ·replace h5 : ((Sh.eqB s91) (fillU x0) (fillU x0)) = true := notF h5
      refine wp_skip (then_normal (wp_seq ?_))
      refine at_regq [] { ts := [1, 2, 4, 6, 8], os := [1, 2, 3, 4, 5, 10, 11, 12, 13] } [] gamOK hT h (by kernel_rfl) trivial fun a w h => then_normal (wp_seq ?_)
      refine at_regq [] { ts := [1, 2, 4, 6, 8], os := [1, 2, 3, 4, 5, 10, 11, 12, 13] } [(pMkT s91) (fillU x0) 1] gamOK hT h (by kernel_rfl) ⟨(by (show (0 : Int) ≤ _ ∧ _ + ((Sh.ctT _ _ : Nat) : Int) ≤ (4611686018427387904 : Int); (try simp only [held_marked, held_markedT, mkK, mkKT, Sh.ctT_mkT, Sh.ct_mk]); constructor <;> omega)), trivial⟩ fun a w h => then_normal (wp_seq ?_)
      refine at_regq [] { ts := [1, 2, 4, 6, 8, 9], os := [1, 2, 3, 4, 5, 10, 11, 12, 13] } [] gamOK hT h (by kernel_rfl) trivial fun a w h => then_normal (wp_seq ?_)
      refine at_regq [] { ts := [1, 2, 4, 6, 8, 9], os := [1, 2, 3, 4, 5, 10, 11, 12, 13] } [(pMkT s91) ((Sh.mkT s91) (fillU x0) 1) 1] gamOK hT h (by kernel_rfl) ⟨(by (show (0 : Int) ≤ _ ∧ _ + ((Sh.ctT _ _ : Nat) : Int) ≤ (4611686018427387904 : Int); (try simp only [held_marked, held_markedT, mkK, mkKT, Sh.ctT_mkT, Sh.ct_mk]); constructor <;> omega)), trivial⟩ fun a w h => then_normal (wp_seq (wp_seq ?_))
      refine at_regq [] { ts := [1, 2, 4, 6, 8, 9, 50], os := [1, 2, 3, 4, 5, 10, 11, 12, 13] } [] gamOK hT h (by kernel_rfl) trivial fun a w h => then_normal ?_
      refine at_test (decide (((heldDT s91) ((Sh.mkT s91) (fillU x0) 1) 1) < 0)) h (by kernel_rfl) (fun h6 => ?_) (fun h6 => ?_)
      ·replace h6 : ((heldDT s91) ((Sh.mkT s91) (fillU x0) 1) 1) < 0 := of_decide_eq_true h6
       refine wp_seq ?_
       refine at_reg [] { ts := [1, 2, 4, 6, 8, 9], os := [1, 2, 3, 4, 5, 10, 11, 12, 13] } ⟨[(1, aP 1 0), (2, aB false), (4, aP 5 0), (6, aP 13 0), (8, aI ((mkKT s91) (fillU x0) 1)), (9, aI ((heldDT s91) ((Sh.mkT s91) (fillU x0) 1) 1))], [(1, oX 83 [.ro s223 x0.1, cI x0.2.1.1, cI x0.2.1.2.1, cI x0.2.1.2.2.1, cI x0.2.1.2.2.2, .ro s124 x0.2.2.1, .ro s285 x0.2.2.2.1, cI x0.2.2.2.2]), (2, oF s218 (fillU x0).1), (3, oF s128 (fillU x0).2.2.1), (4, oF s247 (fillU x0).2.2.2.1), (5, oX 91 [.sl 2, cI (fillU x0).2.1.1, cI (fillU x0).2.1.2.1, cI (fillU x0).2.1.2.2.1, cI (fillU x0).2.1.2.2.2, .sl 3, .sl 4, cI (fillU x0).2.2.2.2]), (10, oR s218 ((Sh.mkT s91) (fillU x0) 1).1), (11, oR s128 ((Sh.mkT s91) (fillU x0) 1).2.2.1), (12, oR s247 ((Sh.mkT s91) (fillU x0) 1).2.2.2.1), (13, oX 91 [.sl 10, cI (fillU x0).2.1.1, cI (fillU x0).2.1.2.1, cI (fillU x0).2.1.2.2.1, cI (fillU x0).2.1.2.2.2, .sl 11, .sl 12, cI (fillU x0).2.2.2.2])]⟩ [] gamOK hT h (by kernel_rfl) trivial fun a w h => then_normal (wp_ret (then_ret ?_))
       exact at_return (S := S_laws_FnExactFillWindow) (x := (x0, ())) (false, ()) [] h (by kernel_rfl) trivial (congrArg (fun z => (z, ())) (show (false) = D_laws_FnExactFillWindow x0 from by unfold D_laws_FnExactFillWindow; (exfalso; simp only [held_marked, held_markedT, mkK, mkKT, Sh.ctT_mkT, Sh.ct_mk] at h6; first | omega | exact h6 trivial | exact h6 rfl)))
      ·replace h6 : ¬ (((heldDT s91) ((Sh.mkT s91) (fillU x0) 1) 1) < 0) := of_decide_eq_false h6
       refine wp_skip (then_normal (wp_seq (wp_seq ?_)))
       refine at_reg [] { ts := [1, 2, 4, 6, 8, 53], os := [1, 2, 3, 4, 5, 10, 11, 12, 13] } ⟨[(1, aP 1 0), (2, aB false), (4, aP 5 0), (6, aP 13 0), (8, aI ((mkKT s91) (fillU x0) 1)), (53, aB (!decide (((heldDT s91) ((Sh.mkT s91) (fillU x0) 1) 1) = ((mkKT s91) (fillU x0) 1))))], [(1, oX 83 [.ro s223 x0.1, cI x0.2.1.1, cI x0.2.1.2.1, cI x0.2.1.2.2.1, cI x0.2.1.2.2.2, .ro s124 x0.2.2.1, .ro s285 x0.2.2.2.1, cI x0.2.2.2.2]), (2, oF s218 (fillU x0).1), (3, oF s128 (fillU x0).2.2.1), (4, oF s247 (fillU x0).2.2.2.1), (5, oX 91 [.sl 2, cI (fillU x0).2.1.1, cI (fillU x0).2.1.2.1, cI (fillU x0).2.1.2.2.1, cI (fillU x0).2.1.2.2.2, .sl 3, .sl 4, cI (fillU x0).2.2.2.2]), (10, oR s218 ((Sh.mkT s91) (fillU x0) 1).1), (11, oR s128 ((Sh.mkT s91) (fillU x0) 1).2.2.1), (12, oR s247 ((Sh.mkT s91) (fillU x0) 1).2.2.2.1), (13, oX 91 [.sl 10, cI (fillU x0).2.1.1, cI (fillU x0).2.1.2.1, cI (fillU x0).2.1.2.2.1, cI (fillU x0).2.1.2.2.2, .sl 11, .sl 12, cI (fillU x0).2.2.2.2])]⟩ [] gamOK hT h (by kernel_rfl) trivial fun a w h => then_normal ?_
       refine at_test (!decide (((heldDT s91) ((Sh.mkT s91) (fillU x0) 1) 1) = ((mkKT s91) (fillU x0) 1))) h (by kernel_rfl) (fun h7 => ?_) (fun h7 => ?_)
       ·replace h7 : ¬ (((heldDT s91) ((Sh.mkT s91) (fillU x0) 1) 1) = ((mkKT s91) (fillU x0) 1)) := of_decide_eq_false (notT h7)
        refine wp_seq ?_
        refine at_regq [] { ts := [1, 2, 4, 6, 8], os := [1, 2, 3, 4, 5, 10, 11, 12, 13] } [] gamOK hT h (by kernel_rfl) trivial fun a w h => then_normal (wp_ret (then_ret ?_))
        exact at_return (S := S_laws_FnExactFillWindow) (x := (x0, ())) (false, ()) [] h (by kernel_rfl) trivial (congrArg (fun z => (z, ())) (show (false) = D_laws_FnExactFillWindow x0 from by unfold D_laws_FnExactFillWindow; (exfalso; simp only [held_marked, held_markedT, mkK, mkKT, Sh.ctT_mkT, Sh.ct_mk] at h7; first | omega | exact h7 trivial | exact h7 rfl)))
       ·replace h7 : ((heldDT s91) ((Sh.mkT s91) (fillU x0) 1) 1) = ((mkKT s91) (fillU x0) 1) := of_decide_eq_true (notF h7)
        refine wp_skip (then_normal (wp_seq ?_))
        refine at_regq [{}, { ids := [17, 18, 19] }, { ids := [20, 21, 22] }, { ids := [23] }] { ts := [2, 4, 6, 8, 10], os := [2, 3, 4, 5, 10, 11, 12, 13, 20, 21, 22, 23] } [(pTo s83) x0, Q_impl_FillWindow x0] gamOK hT h (by kernel_rfl) ⟨(by (show Sh.sz _ _ ≤ 1048576; omega)), (by exact (Sh.fit_of_sz s91 rfl (x := x0) (by omega))), trivial⟩ fun a w h => then_normal (wp_seq (wp_seq ?_))
        refine at_regq [] { ts := [2, 6, 8, 60], os := [10, 11, 12, 13] } [True] gamOK hT h (by kernel_rfl) ⟨trivial, trivial⟩ fun a w h => then_normal ?_
        refine at_test (!((Sh.eqB s91) (fillU x0) (fillU x0))) h (by kernel_rfl) (fun h8 => ?_) (fun h8 => ?_)
        ·replace h8 : ((Sh.eqB s91) (fillU x0) (fillU x0)) = false := notT h8
         refine wp_seq ?_
         refine at_regq [] { ts := [2, 6, 8], os := [10, 11, 12, 13] } [] gamOK hT h (by kernel_rfl) trivial fun a w h => then_normal (wp_ret (then_ret ?_))
         exact at_return (S := S_laws_FnExactFillWindow) (x := (x0, ())) (false, ()) [] h (by kernel_rfl) trivial (congrArg (fun z => (z, ())) (show (false) = D_laws_FnExactFillWindow x0 from by unfold D_laws_FnExactFillWindow; exact absurd ((Sh.eqB_iff _).2 (show _ = _ from by first | rfl | (rfl))) (neT h8)))
        ·replace h8 : ((Sh.eqB s91) (fillU x0) (fillU x0)) = true := notF h8
         refine wp_skip (then_normal (wp_seq ?_))
         refine at_regq [] { ts := [2, 6, 8, 9], os := [10, 11, 12, 13] } [] gamOK hT h (by kernel_rfl) trivial fun a w h => then_normal (wp_seq ?_)
         refine at_regq [] { ts := [2, 8, 9], os := [] } [(pMkT s91) ((Sh.mkT s91) (fillU x0) 1) 1] gamOK hT h (by kernel_rfl) ⟨(by (show (0 : Int) ≤ _ ∧ _ + ((Sh.ctT _ _ : Nat) : Int) ≤ (4611686018427387904 : Int); (try simp only [held_marked, held_markedT, mkK, mkKT, Sh.ctT_mkT, Sh.ct_mk]); constructor <;> omega)), trivial⟩ fun a w h => then_normal (wp_seq (wp_seq ?_))
         refine at_regq [] { ts := [2, 8, 9, 65], os := [] } [] gamOK hT h (by kernel_rfl) trivial fun a w h => then_normal ?_
         refine at_test (decide (((heldDT s91) ((Sh.mkT s91) (fillU x0) 1) 1) < 0)) h (by kernel_rfl) (fun h9 => ?_) (fun h9 => ?_)
         ·replace h9 : ((heldDT s91) ((Sh.mkT s91) (fillU x0) 1) 1) < 0 := of_decide_eq_true h9
          refine wp_seq ?_
          refine at_regq [] { ts := [2, 8, 9], os := [] } [] gamOK hT h (by kernel_rfl) trivial fun a w h => then_normal (wp_ret (then_ret ?_))
          exact at_return (S := S_laws_FnExactFillWindow) (x := (x0, ())) (false, ()) [] h (by kernel_rfl) trivial (congrArg (fun z => (z, ())) (show (false) = D_laws_FnExactFillWindow x0 from by unfold D_laws_FnExactFillWindow; (exfalso; simp only [held_marked, held_markedT, mkK, mkKT, Sh.ctT_mkT, Sh.ct_mk] at h9; first | omega | exact h9 trivial | exact h9 rfl)))
         ·replace h9 : ¬ (((heldDT s91) ((Sh.mkT s91) (fillU x0) 1) 1) < 0) := of_decide_eq_false h9
          refine wp_skip (then_normal (wp_seq (wp_seq ?_)))
          refine at_regq [] { ts := [2, 68], os := [] } [] gamOK hT h (by kernel_rfl) trivial fun a w h => then_normal ?_
          refine at_test (!decide (((heldDT s91) ((Sh.mkT s91) (fillU x0) 1) 1) = ((mkKT s91) (fillU x0) 1))) h (by kernel_rfl) (fun h10 => ?_) (fun h10 => ?_)
          ·replace h10 : ¬ (((heldDT s91) ((Sh.mkT s91) (fillU x0) 1) 1) = ((mkKT s91) (fillU x0) 1)) := of_decide_eq_false (notT h10)
           refine wp_seq ?_
           refine at_regq [] { ts := [2], os := [] } [] gamOK hT h (by kernel_rfl) trivial fun a w h => then_normal (wp_ret (then_ret ?_))
           exact at_return (S := S_laws_FnExactFillWindow) (x := (x0, ())) (false, ()) [] h (by kernel_rfl) trivial (congrArg (fun z => (z, ())) (show (false) = D_laws_FnExactFillWindow x0 from by unfold D_laws_FnExactFillWindow; (exfalso; simp only [held_marked, held_markedT, mkK, mkKT, Sh.ctT_mkT, Sh.ct_mk] at h10; first | omega | exact h10 trivial | exact h10 rfl)))
          ·replace h10 : ((heldDT s91) ((Sh.mkT s91) (fillU x0) 1) 1) = ((mkKT s91) (fillU x0) 1) := of_decide_eq_true (notF h10)
           refine wp_skip (then_normal (wp_seq ?_))
           refine at_regq [] { ts := [2], os := [] } [] gamOK hT h (by kernel_rfl) trivial fun a w h => then_normal (wp_ret ?_)
           exact at_return (S := S_laws_FnExactFillWindow) (x := (x0, ())) (true, ()) [] h (by kernel_rfl) trivial (congrArg (fun z => (z, ())) (show (true) = D_laws_FnExactFillWindow x0 from by unfold D_laws_FnExactFillWindow; rfl))

theorem opn3 : OpensS Try.prog 3 (.int 3) := opensS_int Try.underlying3
theorem co3 : Try.prog.cellsOf 3 = 1 := by kernel_rfl
theorem opn22 : OpensS Try.prog 22 s22 := opensS_slice (a := (.int 3)) Try.underlying22 co3 opn3
theorem co22 : Try.prog.cellsOf 22 = 1 := by kernel_rfl
theorem opn97 : OpensS Try.prog 97 s97 := opensS_slice (a := s22) Try.underlying97 co22 opn22
theorem co97 : Try.prog.cellsOf 97 = 1 := by kernel_rfl
theorem co223 : Try.prog.cellsOf 223 = 2 := by kernel_rfl
theorem opn223 : OpensS Try.prog 223 s223 := by
  intro H enc w base spare held fuel cs x h
  obtain ⟨xs, n, _, _, hl, hlen, hf⟩ := DataW.trod_struct Try.underlying223 h
  obtain ⟨a0, k0, i0⟩ := opensS_field (a := (.int 3)) (i := 0) 0 1 hf hlen rfl rfl rfl co3 opn3
  obtain ⟨a1, k1, i1⟩ := opensS_field (a := s97) (i := 1) 1 1 hf hlen rfl rfl rfl co97 opn97
  rw [co223] at hl
  exact ⟨(a0, a1), (rdS_pair (off := 0) k0 (rdS_last (off := 1) k1 (by omega))), ⟨i0, i1⟩⟩
theorem opn24 : OpensS Try.prog 24 s24 := opensS_slice (a := s223) Try.underlying24 co223 opn223
theorem co24 : Try.prog.cellsOf 24 = 1 := by kernel_rfl
theorem co77 : Try.prog.cellsOf 77 = 4 := by kernel_rfl
theorem opn77 : OpensS Try.prog 77 s77 := by
  intro H enc w base spare held fuel cs x h
  obtain ⟨xs, n, _, _, hl, hlen, hf⟩ := DataW.trod_struct Try.underlying77 h
  obtain ⟨a0, k0, i0⟩ := opensS_field (a := (.int 3)) (i := 0) 0 1 hf hlen rfl rfl rfl co3 opn3
  obtain ⟨a1, k1, i1⟩ := opensS_field (a := (.int 3)) (i := 1) 1 1 hf hlen rfl rfl rfl co3 opn3
  obtain ⟨a2, k2, i2⟩ := opensS_field (a := (.int 3)) (i := 2) 2 1 hf hlen rfl rfl rfl co3 opn3
  obtain ⟨a3, k3, i3⟩ := opensS_field (a := (.int 3)) (i := 3) 3 1 hf hlen rfl rfl rfl co3 opn3
  rw [co77] at hl
  exact ⟨(a0, (a1, (a2, a3))), (rdS_pair (off := 0) k0 (rdS_pair (off := 1) k1 (rdS_pair (off := 2) k2 (rdS_last (off := 3) k3 (by omega))))), ⟨i0, ⟨i1, ⟨i2, i3⟩⟩⟩⟩
theorem co44 : Try.prog.cellsOf 44 = 3 := by kernel_rfl
theorem opn44 : OpensS Try.prog 44 s44 := by
  intro H enc w base spare held fuel cs x h
  obtain ⟨xs, n, _, _, hl, hlen, hf⟩ := DataW.trod_struct Try.underlying44 h
  obtain ⟨a0, k0, i0⟩ := opensS_field (a := (.int 3)) (i := 0) 0 1 hf hlen rfl rfl rfl co3 opn3
  obtain ⟨a1, k1, i1⟩ := opensS_field (a := s22) (i := 1) 1 1 hf hlen rfl rfl rfl co22 opn22
  obtain ⟨a2, k2, i2⟩ := opensS_field (a := s22) (i := 2) 2 1 hf hlen rfl rfl rfl co22 opn22
  rw [co44] at hl
  exact ⟨(a0, (a1, a2)), (rdS_pair (off := 0) k0 (rdS_pair (off := 1) k1 (rdS_last (off := 2) k2 (by omega)))), ⟨i0, ⟨i1, i2⟩⟩⟩
theorem opn122 : OpensS Try.prog 122 s122 := opensS_slice (a := s44) Try.underlying122 co44 opn44
theorem co122 : Try.prog.cellsOf 122 = 1 := by kernel_rfl
theorem co124 : Try.prog.cellsOf 124 = 5 := by kernel_rfl
theorem opn124 : OpensS Try.prog 124 s124 := by
  intro H enc w base spare held fuel cs x h
  obtain ⟨xs, n, _, _, hl, hlen, hf⟩ := DataW.trod_struct Try.underlying124 h
  obtain ⟨a0, k0, i0⟩ := opensS_field (a := (.int 3)) (i := 0) 0 1 hf hlen rfl rfl rfl co3 opn3
  obtain ⟨a1, k1, i1⟩ := opensS_field (a := (.int 3)) (i := 1) 1 1 hf hlen rfl rfl rfl co3 opn3
  obtain ⟨a2, k2, i2⟩ := opensS_field (a := (.int 3)) (i := 2) 2 1 hf hlen rfl rfl rfl co3 opn3
  obtain ⟨a3, k3, i3⟩ := opensS_field (a := s122) (i := 3) 3 1 hf hlen rfl rfl rfl co122 opn122
  obtain ⟨a4, k4, i4⟩ := opensS_field (a := (.int 3)) (i := 4) 4 1 hf hlen rfl rfl rfl co3 opn3
  rw [co124] at hl
  exact ⟨(a0, (a1, (a2, (a3, a4)))), (rdS_pair (off := 0) k0 (rdS_pair (off := 1) k1 (rdS_pair (off := 2) k2 (rdS_pair (off := 3) k3 (rdS_last (off := 4) k4 (by omega)))))), ⟨i0, ⟨i1, ⟨i2, ⟨i3, i4⟩⟩⟩⟩⟩
theorem opn78 : OpensS Try.prog 78 s78 := opensS_slice (a := s124) Try.underlying78 co124 opn124
theorem co78 : Try.prog.cellsOf 78 = 1 := by kernel_rfl
theorem co285 : Try.prog.cellsOf 285 = 3 := by kernel_rfl
theorem opn285 : OpensS Try.prog 285 s285 := by
  intro H enc w base spare held fuel cs x h
  obtain ⟨xs, n, _, _, hl, hlen, hf⟩ := DataW.trod_struct Try.underlying285 h
  obtain ⟨a0, k0, i0⟩ := opensS_field (a := (.int 3)) (i := 0) 0 1 hf hlen rfl rfl rfl co3 opn3
  obtain ⟨a1, k1, i1⟩ := opensS_field (a := (.int 3)) (i := 1) 1 1 hf hlen rfl rfl rfl co3 opn3
  obtain ⟨a2, k2, i2⟩ := opensS_field (a := (.int 3)) (i := 2) 2 1 hf hlen rfl rfl rfl co3 opn3
  rw [co285] at hl
  exact ⟨(a0, (a1, a2)), (rdS_pair (off := 0) k0 (rdS_pair (off := 1) k1 (rdS_last (off := 2) k2 (by omega)))), ⟨i0, ⟨i1, i2⟩⟩⟩
theorem opn79 : OpensS Try.prog 79 s79 := opensS_slice (a := s285) Try.underlying79 co285 opn285
theorem co79 : Try.prog.cellsOf 79 = 1 := by kernel_rfl
theorem co81 : Try.prog.cellsOf 81 = 1 := by kernel_rfl
theorem opn81 : OpensS Try.prog 81 s81 := by
  intro H enc w base spare held fuel cs x h
  obtain ⟨xs, n, _, _, hl, hlen, hf⟩ := DataW.trod_struct Try.underlying81 h
  obtain ⟨a0, k0, i0⟩ := opensS_field (a := s79) (i := 0) 0 1 hf hlen rfl rfl rfl co79 opn79
  rw [co81] at hl
  exact ⟨a0, (rdS_last (off := 0) k0 (by omega)), i0⟩
theorem co83 : Try.prog.cellsOf 83 = 8 := by kernel_rfl
theorem opn83 : OpensS Try.prog 83 s83 := by
  intro H enc w base spare held fuel cs x h
  obtain ⟨xs, n, _, _, hl, hlen, hf⟩ := DataW.trod_struct Try.underlying83 h
  obtain ⟨a0, k0, i0⟩ := opensS_field (a := s24) (i := 0) 0 1 hf hlen rfl rfl rfl co24 opn24
  obtain ⟨a1, k1, i1⟩ := opensS_field (a := s77) (i := 1) 1 4 hf hlen rfl rfl rfl co77 opn77
  obtain ⟨a2, k2, i2⟩ := opensS_field (a := s78) (i := 2) 5 1 hf hlen rfl rfl rfl co78 opn78
  obtain ⟨a3, k3, i3⟩ := opensS_field (a := s81) (i := 3) 6 1 hf hlen rfl rfl rfl co81 opn81
  obtain ⟨a4, k4, i4⟩ := opensS_field (a := (.int 3)) (i := 4) 7 1 hf hlen rfl rfl rfl co3 opn3
  rw [co83] at hl
  exact ⟨(a0, (a1, (a2, (a3, a4)))), (rdS_pair (off := 0) k0 (rdS_pair (off := 1) k1 (rdS_pair (off := 5) k2 (rdS_pair (off := 6) k3 (rdS_last (off := 7) k4 (by omega)))))), ⟨i0, ⟨i1, ⟨i2, ⟨i3, i4⟩⟩⟩⟩⟩
namespace fnExactFillWindow
open Go.ChangeShapes Go.WideShapes Go.ChangeAt Go.RowKit
theorem own : ownKnob Try.prog.godebug = none := by kernel_rfl
theorem laidOut : laidOutB Try.prog = true := fxLaid
set_option maxRecDepth 100000 in
theorem lifted (os : Os) (started : os.Started) (H : Type) (enc : TypeId × Value → H) :
    ReturnsInHanded {} Try.checked os 6 .any (Rows.fnExactFillWindowSpec.pre6 enc Try.prog Try.f6 Rows.fnExactFillWindowRow.domain false) (Rows.fnExactFillWindowSpec.post enc Try.prog Try.f6 false true false false) := by
  refine returnsInHanded_of_change (C := Try.checked) own started (by kernel_rfl) Try.func6
    (ChangeSpec.witness6 (enc := enc) (C := Try.checked) false ⟨#[], #[.agg #[.slice none 0 0, .int .i64 0, .int .i64 0, .int .i64 0, .int .i64 0, .slice none 0 0, .slice none 0 0, .int .i64 0]], []⟩ 8 (by kernel_rfl) (by kernel_rfl) (by kernel_rfl) (by kernel_rfl)) ?_
  intro W base args ds gs before hval0 hW hcnd _
  have hval : ∀ (j : Nat) t v, Try.f6.params[j]? = some t → args[j]? = some v → Value.okWide Try.prog W .any base t v := hval0
  have hW' := hW
  obtain ⟨p, q, hA0, hV, rfl, hfz, hnd⟩ := hW
  have hA : DataW.TrodAll enc Try.prog W 0 (fun _ => true) true Try.f6.params.toList args.toList ds p := hA0
  rw [Try.params6] at hA hval
  obtain ⟨v0, vs0, d0, ds0, p0, q0, hargs, rfl, rfl, h0, r0⟩ := trodAll_cons hA
  obtain ⟨rfl, rfl, rfl⟩ := trodAll_nil r0
  obtain rfl : args = #[v0] := by cases args; simp_all
  obtain ⟨rfl, rfl⟩ := trodVars_none hV
  have k0 := h0
  have lt0 : ∀ x ∈ p0, x.block < W.heap.size := by obtain ⟨m, hm⟩ := k0; exact DataW.trod_lt m _ _ _ hm
  obtain ⟨cs0, rfl, _⟩ := okWide_struct Try.underlying83 (hval 0 83 v0 rfl rfl)
  obtain ⟨cs0⟩ := cs0
  obtain ⟨x0, hx0, i0⟩ : ∃ x : (s83).D, (s83).rd W (fun b => b < W.heap.size) cs0 x ∧ (s83).i64 x := by obtain ⟨fuel, hf⟩ := h0; exact opn83 hf
  clear hA0 hval0
  refine (calls_law S_laws_FnExactFillWindow_ok (by kernel_rfl) W (fun b => b < W.heap.size) [.agg cs0.toArray] (x0, ()) (fun _ h => h) ⟨argRd_st hx0, trivial⟩ i0).mono fun e W' hr => ?_
  obtain ⟨he, bel⟩ := ret_bool hr
  subst he
  exact ⟨_, rfl, _, _, _, [], _, [], hW', trodAll_mk1 (shut_bool Try.underlying4 _), (trodAll_cons_mk (Below.trod laidOut (by kernel_rfl) (of_decide_eq_true (by kernel_rfl)) k0 bel lt0) trodAll_mk0), rfl, bel.frame _, fun h => by cases h⟩
theorem closed : joinedFacts Try.prog 6 Try.f6 (Rows.fnExactFillWindowSpec) Rows.fnExactFillWindowRow = true := by
  unfold joinedFacts
  exact (and2 (and2 (and2 (and2 (and2 (and2 (and2 (and2 (and2 (and2 (and2 (and2 (and2 (and2 (and2 (and2 (and2 (and2 (and2 (and2 (and2 (and2 (and2 (and2 (and2 (and2 (and2 (and2 (and2 (and2 (and2 (by kernel_rfl) fxLaid) fxMaps) (by kernel_rfl)) (by kernel_rfl)) (by kernel_rfl)) (by kernel_rfl)) (by kernel_rfl)) (by kernel_rfl)) (by kernel_rfl)) (by kernel_rfl)) (by kernel_rfl)) (by kernel_rfl)) (by kernel_rfl)) (by kernel_rfl)) (by kernel_rfl)) (by kernel_rfl)) (by kernel_rfl)) (by kernel_rfl)) (by kernel_rfl)) (by kernel_rfl)) (by kernel_rfl)) (by kernel_rfl)) (by kernel_rfl)) (by kernel_rfl)) fxEnter) (by rw [fxLifts]; kernel_rfl)) (by rw [fxMake]; kernel_rfl)) (by kernel_rfl)) (by kernel_rfl)) (by kernel_rfl)) (by kernel_rfl))
theorem over : Rows.fnExactFillWindowRow.holds Try.pinned (OpenSpec.ofChange Rows.fnExactFillWindowSpec) :=
  OpenClaim.holds_of_wide 6 Try.f6 rfl rfl rfl rfl rfl rfl rfl ⟨rfl, rfl, rfl, rfl, rfl⟩ rfl rfl rfl rfl rfl (by kernel_rfl) Try.func6 closed
    (of_decide_eq_true (by kernel_rfl)) (by unfold Func.isWrapper; first | (rw [if_pos (by decide +kernel)]; kernel_rfl) | (rw [if_neg (by decide +kernel)]; exact ⟨rfl, rfl⟩))
    (fun os started H enc _ => lifted os started H enc)
/-- the statement -/
theorem proved : Rows.FnExactFillWindowSaid := over
end fnExactFillWindow

end Go.Proofs.Ytdmkjcnppgfeoaa

/- The law FnPollutionDetected returns true for every input and leaves its arguments as they were. No condition. -/
import Derived.Test.YtpffjagdefkfkaaFnPollutionDetected2
import Derived.Test.YtpffjagdefkfkaaLA
import Derived.Test.YtpffjagdefkfkaaProg
import Derived.Test.YtpffjagdefkfkaaRows
import Derived.Test.YtpffjagdefkfkaaFX
namespace Go.Proofs.Ytpffjagdefkfkaa
open Go.RowKit
set_option linter.unusedVariables false
set_option linter.unusedSimpArgs false
def rowIt (x : T109) : Nat → T109 × List Int
 | 0 => (x, [])
 | i + 1 => ((belowC (rowIt x i).1 256).1, (rowIt x i).2 ++ [(belowC (rowIt x i).1 256).2])
def genIt (x : T109) (n : Nat) : Nat → T109 × List (List Int)
 | 0 => (x, [])
 | i + 1 => ((rowIt (genIt x n i).1 n).1, (genIt x n i).2 ++ [(rowIt (genIt x n i).1 n).2])
theorem rowIt_inv {x : T109} (hx : 0 ≤ x.2.1) : ∀ i, 0 ≤ (rowIt x i).1.2.1 ∧ (rowIt x i).2.length = i ∧ ∀ e ∈ (rowIt x i).2, LA.El e
 | 0 => ⟨hx, rfl, fun e he => by cases he⟩
 | i + 1 => by
  obtain ⟨h1, h2, h3⟩ := rowIt_inv hx i
  have hb := below_bd (rowIt x i).1 (n := 256) (by decide)
  refine ⟨below_ok h1, by simp [rowIt, h2], fun y hy => ?_⟩
  rcases List.mem_append.1 hy with hy | hy
  ·exact h3 y hy
  ·have : y = (belowC (rowIt x i).1 256).2 := by simpa using hy
   rw [this]; unfold LA.El; omega
theorem genIt_inv {x : T109} {n : Nat} (hx : 0 ≤ x.2.1) : ∀ i, 0 ≤ (genIt x n i).1.2.1 ∧ (genIt x n i).2.length = i ∧ ∀ r ∈ (genIt x n i).2, LA.VokB n r
 | 0 => ⟨hx, rfl, fun e he => by cases he⟩
 | i + 1 => by
  obtain ⟨h1, h2, h3⟩ := genIt_inv (n := n) hx i
  have hr := rowIt_inv h1 n
  refine ⟨hr.1, by simp [genIt, h2], fun y hy => ?_⟩
  rcases List.mem_append.1 hy with hy | hy
  ·exact h3 y hy
  ·have : y = (rowIt (genIt x n i).1 n).2 := by simpa using hy
   rw [this]; exact ⟨hr.2.1, hr.2.2⟩
theorem validG_of {a : Int} {m : List (List Int)} {n : Nat} (ha : 0 ≤ a ∧ a ≤ 1000000000000) (h1 : 1 ≤ m.length ∧ m.length ≤ 8) (hn : 1 ≤ n ∧ n ≤ 16) (h2 : ∀ r ∈ m, LA.VokB n r) : validG (a, m) = true ∧ colsOf m = (n : Int) := by
 have h0 : (m.getD 0 []).length = n := (h2 _ (getD_mem (z := []) (show 0 < m.length by omega))).1
 have hc : colsOf m = (n : Int) := by rw [colsOf_at h1.1, h0]
 have hm : validM m = true := by
  unfold validM
  have ha : m.all (fun r => validV r && decide (List.length r = List.length (m.getD 0 []))) = true := List.all_eq_true.2 fun r hr => by
   rw [Bool.and_eq_true]
   exact ⟨validV_of (h2 r hr) (by omega), decide_eq_true (by rw [h0]; exact (h2 r hr).1)⟩
  rw [if_pos ha]
  exact decide_eq_true (by omega)
 refine ⟨?_, hc⟩
 unfold validG
 rw [if_pos (show inR a 0 1000000000000 = true from inR_true ha), if_pos (show inR ((List.length m : Nat) : Int) 1 8 = true from inR_true (by omega)), if_pos hm, hc]
 exact inR_true (by omega)
def genD (x0 : T109) : T109 × T26 := ((genIt (belowC (belowC (belowC x0 5).1 3).1 4).1 (1 + (belowC (belowC x0 5).1 3).2).toNat (1 + (belowC (belowC (belowC x0 5).1 3).1 4).2).toNat).1, ((belowC x0 5).2, (genIt (belowC (belowC (belowC x0 5).1 3).1 4).1 (1 + (belowC (belowC x0 5).1 3).2).toNat (1 + (belowC (belowC (belowC x0 5).1 3).1 4).2).toNat).2))
abbrev Q_spec_l10Gen := (fun (x0 : T109) => 0 ≤ x0.2.1)
def B_spec_l10Gen : BS := { t := 109, s := s109, dom := [], cod := [s26], pre := fun y x => Q_spec_l10Gen y, upd := fun y x => (genD y).1, g := fun y x => ((genD y).2, ()) }
def S_spec_l10Gen : Sum := bSum 99 B_spec_l10Gen
def S_spec_l10Gen_tab : List (Nat × Sum) := [(73, S_spec_l1Below)]
theorem S_spec_l10Gen_ok : FnOK Try.prog 99 S_spec_l10Gen := by
 refine at_enterB (B := B_spec_l10Gen) 39 (fun v y x => ⟨[(0, aP 1 0)], [(1, oX 109 [.ro (.u8 5) y.1, cI y.2.1, cI y.2.2]), (2, oP 1 v)]⟩) Try.func99 rfl (by kernel_rfl) (fun v y x => rfl) ?_
 rintro w0 Z0 b0 x0 ⟨u⟩ a w
 revert x0
 intro (x0 : T109) hpre hlens0 hlens h
 replace h : At w0 Z0 [b0] 39 ⟨[(0, aP 1 0)], [(1, oX 109 [.ro (.u8 5) x0.1, cI x0.2.1, cI x0.2.2]), (2, oP 1 (Value.pointer (some ⟨b0, 0, none⟩)))]⟩ a w := h
 replace hpre : Q_spec_l10Gen x0 := hpre
 have hl1 : List.length x0.1 ≤ 9223372036854775807 := hlens0.1.1
 have hu0 : u8L x0.1 := hlens0.1.2
 have hT : TabOK Try.prog S_spec_l10Gen_tab := (.cons S_spec_l1Below_ok .nil)
 have hb1 := below_bd x0 (n := 5) (by decide)
 have hb2 := below_bd (belowC x0 5).1 (n := 3) (by decide)
 have hb3 := below_bd (belowC (belowC x0 5).1 3).1 (n := 4) (by decide)
 have hc := below_ok (n := 4) (below_ok (n := 3) (below_ok (n := 5) hpre))
 refine wp_seq ?_
 refine at_regq [{ ids := [3] }] { ts := [0, 2], os := [1, 2, 3] } [] gamOK hT h (by kernel_rfl) trivial fun a w h => then_normal (wp_seq ?_)
 refine at_regq [{}, {}, {}, { ids := [4] }] { ts := [0, 2, 3], os := [1, 2, 3, 4] } [B_spec_l1Below.pre x0 (5, ())] gamOK hT h (by kernel_rfl) ⟨(by exact hpre), trivial⟩ fun a w h => then_normal (wp_seq ?_)
 refine at_regq [{}, {}, { nw := true }] { ts := [0, 2, 3, 4], os := [1, 2, 3, 4] } [B_spec_l1Below.pre (belowC x0 5).1 (3, ()), I64 (1 + (belowC (belowC x0 5).1 3).2)] gamOK hT h (by kernel_rfl) ⟨(by exact (below_ok hpre)), ⟨by first | omega | (simp only [lsA]; omega) | (simp <;> omega), by first | omega | (simp only [lsA]; omega) | (simp <;> omega)⟩, trivial⟩ fun a w h => then_normal (wp_seq (wp_seq ?_))
 refine at_regq [{}, {}, { nw := true }] { ts := [0, 2, 3, 4, 5], os := [1, 2, 3, 4] } [B_spec_l1Below.pre (belowC (belowC x0 5).1 3).1 (4, ()), I64 (1 + (belowC (belowC (belowC x0 5).1 3).1 4).2)] gamOK hT h (by kernel_rfl) ⟨(by exact (below_ok (below_ok hpre))), ⟨by first | omega | (simp only [lsA]; omega) | (simp <;> omega), by first | omega | (simp only [lsA]; omega) | (simp <;> omega)⟩, trivial⟩ fun a w h => then_normal (wp_block ?_)
 replace h := at_out (σ' := ⟨[(0, aP 1 0), (2, aP 3 0), (3, aP 4 0), (4, aI (1 + (belowC (belowC x0 5).1 3).2)), (5, aI (1 + (belowC (belowC (belowC x0 5).1 3).1 4).2))], [(1, oX 109 [.ro (.u8 5) (belowC (belowC (belowC x0 5).1 3).1 4).1.1, cI (belowC (belowC (belowC x0 5).1 3).1 4).1.2.1, cI (belowC (belowC (belowC x0 5).1 3).1 4).1.2.2]), (2, oP 1 (Value.pointer (some ⟨b0, 0, none⟩))), (3, oX 26 [cI 0, cN]), (4, oX 26 [cI (belowC x0 5).2, .sl 5]), (5, oR s27 ([] : List (List Int)))]⟩) { mt := [⟨some 4, 1, 5, true, s27⟩], ts := [0, 2, 3, 4, 5], os := [1, 2, 3, 4, 5] } h (by kernel_rfl)
 refine at_loop (fun i : Nat => (⟨[(0, aP 1 0), (2, aP 3 0), (3, aP 4 0), (4, aI (1 + (belowC (belowC x0 5).1 3).2)), (5, aI ((1 + (belowC (belowC (belowC x0 5).1 3).1 4).2) - ((i : Nat) : Int)))], [(1, oX 109 [.ro (.u8 5) (genIt (belowC (belowC (belowC x0 5).1 3).1 4).1 (1 + (belowC (belowC x0 5).1 3).2).toNat i).1.1, cI (genIt (belowC (belowC (belowC x0 5).1 3).1 4).1 (1 + (belowC (belowC x0 5).1 3).2).toNat i).1.2.1, cI (genIt (belowC (belowC (belowC x0 5).1 3).1 4).1 (1 + (belowC (belowC x0 5).1 3).2).toNat i).1.2.2]), (2, oP 1 (Value.pointer (some ⟨b0, 0, none⟩))), (3, oX 26 [cI 0, cN]), (4, oX 26 [cI (belowC x0 5).2, .sl 5]), (5, oR s27 (genIt (belowC (belowC (belowC x0 5).1 3).1 4).1 (1 + (belowC (belowC x0 5).1 3).2).toNat i).2)]⟩ : St)) (fun i => ((i : Nat) : Int) ≤ (1 + (belowC (belowC (belowC x0 5).1 3).1 4).2)) (fun i => ((1 + (belowC (belowC (belowC x0 5).1 3).1 4).2)).toNat - i) (0) h (st_congr5 (fun (d0 : List Int) (d1 : Int) (d2 : Int) (d3 : List (List Int)) (d4 : Int) => (⟨[(0, aP 1 0), (2, aP 3 0), (3, aP 4 0), (4, aI (1 + (belowC (belowC x0 5).1 3).2)), (5, aI d4)], [(1, oX 109 [.ro (.u8 5) d0, cI d1, cI d2]), (2, oP 1 (Value.pointer (some ⟨b0, 0, none⟩))), (3, oX 26 [cI 0, cN]), (4, oX 26 [cI (belowC x0 5).2, .sl 5]), (5, oR s27 d3)]⟩ : St)) (show ((belowC (belowC (belowC x0 5).1 3).1 4).1.1 : List Int) = (genIt (belowC (belowC (belowC x0 5).1 3).1 4).1 (1 + (belowC (belowC x0 5).1 3).2).toNat (0)).1.1 from by first | with_reducible rfl | (first | rfl | omega) | rfl) (show ((belowC (belowC (belowC x0 5).1 3).1 4).1.2.1 : Int) = (genIt (belowC (belowC (belowC x0 5).1 3).1 4).1 (1 + (belowC (belowC x0 5).1 3).2).toNat (0)).1.2.1 from by first | with_reducible rfl | (first | rfl | omega) | rfl) (show ((belowC (belowC (belowC x0 5).1 3).1 4).1.2.2 : Int) = (genIt (belowC (belowC (belowC x0 5).1 3).1 4).1 (1 + (belowC (belowC x0 5).1 3).2).toNat (0)).1.2.2 from by first | with_reducible rfl | (first | rfl | omega) | rfl) (show (([] : List (List Int)) : List (List Int)) = (genIt (belowC (belowC (belowC x0 5).1 3).1 4).1 (1 + (belowC (belowC x0 5).1 3).2).toNat (0)).2 from by first | with_reducible rfl | (first | rfl | omega) | rfl) (show (1 + (belowC (belowC (belowC x0 5).1 3).1 4).2 : Int) = ((1 + (belowC (belowC (belowC x0 5).1 3).1 4).2) - (((0) : Nat) : Int)) from by first | with_reducible rfl | (first | rfl | omega) | rfl)) (by omega) ?_
 intro i a w hok0 h
 have hgi := genIt_inv (n := (1 + (belowC (belowC x0 5).1 3).2).toNat) hc i
 have hgl := hgi.2.1
 refine wp_seq (wp_seq ?_)
 refine at_regq [] { ts := [0, 2, 3, 4, 5, 18], os := [1, 2, 3, 4, 5] } [] gamOK hT h (by kernel_rfl) trivial fun a w h => then_normal ?_
 refine at_test (decide (((1 + (belowC (belowC (belowC x0 5).1 3).1 4).2) - ((i : Nat) : Int)) > 0)) h (by kernel_rfl) (fun h1 => ?_) (fun h1 => ?_)
 ·replace h1 : ((1 + (belowC (belowC (belowC x0 5).1 3).1 4).2) - ((i : Nat) : Int)) > 0 := of_decide_eq_true h1
  refine wp_skip (then_normal (wp_seq (wp_block (wp_seq ?_))))
  refine at_regq [{ ids := [6] }] { ts := [0, 2, 3, 4, 5, 6], os := [1, 2, 3, 4, 5, 6] } [] gamOK hT h (by kernel_rfl) trivial fun a w h => then_normal (wp_seq (wp_seq ?_))
  refine at_regq [] { ts := [0, 2, 3, 4, 5, 6, 7], os := [1, 2, 3, 4, 5, 6] } [] gamOK hT h (by kernel_rfl) trivial fun a w h => then_normal (wp_block ?_)
  replace h := at_out (σ' := ⟨[(0, aP 1 0), (2, aP 3 0), (3, aP 4 0), (4, aI (1 + (belowC (belowC x0 5).1 3).2)), (5, aI ((1 + (belowC (belowC (belowC x0 5).1 3).1 4).2) - ((i : Nat) : Int))), (6, aS 6), (7, aI 0)], [(1, oX 109 [.ro (.u8 5) (genIt (belowC (belowC (belowC x0 5).1 3).1 4).1 (1 + (belowC (belowC x0 5).1 3).2).toNat i).1.1, cI (genIt (belowC (belowC (belowC x0 5).1 3).1 4).1 (1 + (belowC (belowC x0 5).1 3).2).toNat i).1.2.1, cI (genIt (belowC (belowC (belowC x0 5).1 3).1 4).1 (1 + (belowC (belowC x0 5).1 3).2).toNat i).1.2.2]), (2, oP 1 (Value.pointer (some ⟨b0, 0, none⟩))), (3, oX 26 [cI 0, cN]), (4, oX 26 [cI (belowC x0 5).2, .sl 5]), (5, oR s27 (genIt (belowC (belowC (belowC x0 5).1 3).1 4).1 (1 + (belowC (belowC x0 5).1 3).2).toNat i).2), (6, oR (.int 3) ([] : List Int))]⟩) { ts := [0, 2, 3, 4, 5, 6, 7], os := [1, 2, 3, 4, 5, 6] } h (by kernel_rfl)
  refine at_loop (fun k : Nat => (⟨[(0, aP 1 0), (2, aP 3 0), (3, aP 4 0), (4, aI (1 + (belowC (belowC x0 5).1 3).2)), (5, aI ((1 + (belowC (belowC (belowC x0 5).1 3).1 4).2) - ((i : Nat) : Int))), (6, aS 6), (7, aI ((k : Nat) : Int))], [(1, oX 109 [.ro (.u8 5) (rowIt (genIt (belowC (belowC (belowC x0 5).1 3).1 4).1 (1 + (belowC (belowC x0 5).1 3).2).toNat i).1 k).1.1, cI (rowIt (genIt (belowC (belowC (belowC x0 5).1 3).1 4).1 (1 + (belowC (belowC x0 5).1 3).2).toNat i).1 k).1.2.1, cI (rowIt (genIt (belowC (belowC (belowC x0 5).1 3).1 4).1 (1 + (belowC (belowC x0 5).1 3).2).toNat i).1 k).1.2.2]), (2, oP 1 (Value.pointer (some ⟨b0, 0, none⟩))), (3, oX 26 [cI 0, cN]), (4, oX 26 [cI (belowC x0 5).2, .sl 5]), (5, oR s27 (genIt (belowC (belowC (belowC x0 5).1 3).1 4).1 (1 + (belowC (belowC x0 5).1 3).2).toNat i).2), (6, oR (.int 3) (rowIt (genIt (belowC (belowC (belowC x0 5).1 3).1 4).1 (1 + (belowC (belowC x0 5).1 3).2).toNat i).1 k).2)]⟩ : St)) (fun k => k ≤ (1 + (belowC (belowC x0 5).1 3).2).toNat) (fun k => (1 + (belowC (belowC x0 5).1 3).2).toNat - k) (0) h (st_congr5 (fun (d0 : List Int) (d1 : Int) (d2 : Int) (d3 : List Int) (d4 : Int) => (⟨[(0, aP 1 0), (2, aP 3 0), (3, aP 4 0), (4, aI (1 + (belowC (belowC x0 5).1 3).2)), (5, aI ((1 + (belowC (belowC (belowC x0 5).1 3).1 4).2) - ((i : Nat) : Int))), (6, aS 6), (7, aI d4)], [(1, oX 109 [.ro (.u8 5) d0, cI d1, cI d2]), (2, oP 1 (Value.pointer (some ⟨b0, 0, none⟩))), (3, oX 26 [cI 0, cN]), (4, oX 26 [cI (belowC x0 5).2, .sl 5]), (5, oR s27 (genIt (belowC (belowC (belowC x0 5).1 3).1 4).1 (1 + (belowC (belowC x0 5).1 3).2).toNat i).2), (6, oR (.int 3) d3)]⟩ : St)) (show ((genIt (belowC (belowC (belowC x0 5).1 3).1 4).1 (1 + (belowC (belowC x0 5).1 3).2).toNat i).1.1 : List Int) = (rowIt (genIt (belowC (belowC (belowC x0 5).1 3).1 4).1 (1 + (belowC (belowC x0 5).1 3).2).toNat i).1 (0)).1.1 from by first | with_reducible rfl | (rfl) | rfl) (show ((genIt (belowC (belowC (belowC x0 5).1 3).1 4).1 (1 + (belowC (belowC x0 5).1 3).2).toNat i).1.2.1 : Int) = (rowIt (genIt (belowC (belowC (belowC x0 5).1 3).1 4).1 (1 + (belowC (belowC x0 5).1 3).2).toNat i).1 (0)).1.2.1 from by first | with_reducible rfl | (rfl) | rfl) (show ((genIt (belowC (belowC (belowC x0 5).1 3).1 4).1 (1 + (belowC (belowC x0 5).1 3).2).toNat i).1.2.2 : Int) = (rowIt (genIt (belowC (belowC (belowC x0 5).1 3).1 4).1 (1 + (belowC (belowC x0 5).1 3).2).toNat i).1 (0)).1.2.2 from by first | with_reducible rfl | (rfl) | rfl) (show (([] : List Int) : List Int) = (rowIt (genIt (belowC (belowC (belowC x0 5).1 3).1 4).1 (1 + (belowC (belowC x0 5).1 3).2).toNat i).1 (0)).2 from by first | with_reducible rfl | (rfl) | rfl) (show (0 : Int) = (((0) : Nat) : Int) from by first | with_reducible rfl | (rfl) | rfl)) (by omega) ?_
  intro k a w hok1 h
  have hri := rowIt_inv hgi.1 k
  have hrl := hri.2.1
  refine wp_seq (wp_seq ?_)
  refine at_regq [] { ts := [0, 2, 3, 4, 5, 6, 7, 24], os := [1, 2, 3, 4, 5, 6] } [] gamOK hT h (by kernel_rfl) trivial fun a w h => then_normal ?_
  refine at_test (decide (((k : Nat) : Int) < 1 + (belowC (belowC x0 5).1 3).2)) h (by kernel_rfl) (fun h2 => ?_) (fun h2 => ?_)
  ·replace h2 : ((k : Nat) : Int) < 1 + (belowC (belowC x0 5).1 3).2 := of_decide_eq_true h2
   refine wp_skip (then_normal (wp_seq (wp_block ?_)))
   refine at_regq [{}, {}, {}, { ids := [7] }, { ids := [8] }] { ts := [0, 2, 3, 4, 5, 6, 7], os := [1, 2, 3, 4, 5, 8] } [B_spec_l1Below.pre (rowIt (genIt (belowC (belowC (belowC x0 5).1 3).1 4).1 (1 + (belowC (belowC x0 5).1 3).2).toNat i).1 k).1 (256, ()), (List.length (rowIt (genIt (belowC (belowC (belowC x0 5).1 3).1 4).1 (1 + (belowC (belowC x0 5).1 3).2).toNat i).1 k).2 + List.length ([(belowC (rowIt (genIt (belowC (belowC (belowC x0 5).1 3).1 4).1 (1 + (belowC (belowC x0 5).1 3).2).toNat i).1 k).1 256).2])) * 8 ≤ 140737488355328] gamOK hT h (by kernel_rfl) ⟨(by exact hri.1), (by first | omega | (simp only [lsA]; omega) | (simp <;> omega)), trivial⟩ fun a w h => in_normal (then_normal ?_)
   refine at_regq [{}, { nw := true }] { ts := [0, 2, 3, 4, 5, 6, 7], os := [1, 2, 3, 4, 5, 8] } [I64 (((k : Nat) : Int) + 1)] gamOK hT h (by kernel_rfl) ⟨⟨by first | omega | (simp only [lsA]; omega) | (simp <;> omega), by first | omega | (simp only [lsA]; omega) | (simp <;> omega)⟩, trivial⟩ fun a w h => ?_
   replace h := at_out (σ' := ⟨[(0, aP 1 0), (2, aP 3 0), (3, aP 4 0), (4, aI (1 + (belowC (belowC x0 5).1 3).2)), (5, aI ((1 + (belowC (belowC (belowC x0 5).1 3).1 4).2) - ((i : Nat) : Int))), (6, aS 6), (7, aI (((k : Nat) : Int) + 1))], [(1, oX 109 [.ro (.u8 5) (belowC (rowIt (genIt (belowC (belowC (belowC x0 5).1 3).1 4).1 (1 + (belowC (belowC x0 5).1 3).2).toNat i).1 k).1 256).1.1, cI (belowC (rowIt (genIt (belowC (belowC (belowC x0 5).1 3).1 4).1 (1 + (belowC (belowC x0 5).1 3).2).toNat i).1 k).1 256).1.2.1, cI (belowC (rowIt (genIt (belowC (belowC (belowC x0 5).1 3).1 4).1 (1 + (belowC (belowC x0 5).1 3).2).toNat i).1 k).1 256).1.2.2]), (2, oP 1 (Value.pointer (some ⟨b0, 0, none⟩))), (3, oX 26 [cI 0, cN]), (4, oX 26 [cI (belowC x0 5).2, .sl 5]), (5, oR s27 (genIt (belowC (belowC (belowC x0 5).1 3).1 4).1 (1 + (belowC (belowC x0 5).1 3).2).toNat i).2), (6, oR (.int 3) ((rowIt (genIt (belowC (belowC (belowC x0 5).1 3).1 4).1 (1 + (belowC (belowC x0 5).1 3).2).toNat i).1 k).2 ++ ([(belowC (rowIt (genIt (belowC (belowC (belowC x0 5).1 3).1 4).1 (1 + (belowC (belowC x0 5).1 3).2).toNat i).1 k).1 256).2])))]⟩) { ts := [0, 2, 3, 4, 5, 6, 7], os := [1, 2, 3, 4, 5, 8], rn := [(8, 6)] } h (by kernel_rfl)
   exact ⟨k + 1, at_eq h (st_congr5 (fun (d0 : List Int) (d1 : Int) (d2 : Int) (d3 : List Int) (d4 : Int) => (⟨[(0, aP 1 0), (2, aP 3 0), (3, aP 4 0), (4, aI (1 + (belowC (belowC x0 5).1 3).2)), (5, aI ((1 + (belowC (belowC (belowC x0 5).1 3).1 4).2) - ((i : Nat) : Int))), (6, aS 6), (7, aI d4)], [(1, oX 109 [.ro (.u8 5) d0, cI d1, cI d2]), (2, oP 1 (Value.pointer (some ⟨b0, 0, none⟩))), (3, oX 26 [cI 0, cN]), (4, oX 26 [cI (belowC x0 5).2, .sl 5]), (5, oR s27 (genIt (belowC (belowC (belowC x0 5).1 3).1 4).1 (1 + (belowC (belowC x0 5).1 3).2).toNat i).2), (6, oR (.int 3) d3)]⟩ : St)) (show ((belowC (rowIt (genIt (belowC (belowC (belowC x0 5).1 3).1 4).1 (1 + (belowC (belowC x0 5).1 3).2).toNat i).1 k).1 256).1.1 : List Int) = (rowIt (genIt (belowC (belowC (belowC x0 5).1 3).1 4).1 (1 + (belowC (belowC x0 5).1 3).2).toNat i).1 (k + 1)).1.1 from by first | with_reducible rfl | (rfl) | rfl) (show ((belowC (rowIt (genIt (belowC (belowC (belowC x0 5).1 3).1 4).1 (1 + (belowC (belowC x0 5).1 3).2).toNat i).1 k).1 256).1.2.1 : Int) = (rowIt (genIt (belowC (belowC (belowC x0 5).1 3).1 4).1 (1 + (belowC (belowC x0 5).1 3).2).toNat i).1 (k + 1)).1.2.1 from by first | with_reducible rfl | (rfl) | rfl) (show ((belowC (rowIt (genIt (belowC (belowC (belowC x0 5).1 3).1 4).1 (1 + (belowC (belowC x0 5).1 3).2).toNat i).1 k).1 256).1.2.2 : Int) = (rowIt (genIt (belowC (belowC (belowC x0 5).1 3).1 4).1 (1 + (belowC (belowC x0 5).1 3).2).toNat i).1 (k + 1)).1.2.2 from by first | with_reducible rfl | (rfl) | rfl) (show (((rowIt (genIt (belowC (belowC (belowC x0 5).1 3).1 4).1 (1 + (belowC (belowC x0 5).1 3).2).toNat i).1 k).2 ++ ([(belowC (rowIt (genIt (belowC (belowC (belowC x0 5).1 3).1 4).1 (1 + (belowC (belowC x0 5).1 3).2).toNat i).1 k).1 256).2])) : List Int) = (rowIt (genIt (belowC (belowC (belowC x0 5).1 3).1 4).1 (1 + (belowC (belowC x0 5).1 3).2).toNat i).1 (k + 1)).2 from by first | with_reducible rfl | (rfl) | rfl) (show (((k : Nat) : Int) + 1 : Int) = (((k + 1) : Nat) : Int) from by first | with_reducible rfl | (omega) | rfl)), (by omega), (by omega)⟩
  ·replace h2 : ¬ (((k : Nat) : Int) < 1 + (belowC (belowC x0 5).1 3).2) := of_decide_eq_false h2
   refine wp_exit (then_exit ?_)
   replace h := at_out (σ' := ⟨[(0, aP 1 0), (2, aP 3 0), (3, aP 4 0), (4, aI (1 + (belowC (belowC x0 5).1 3).2)), (5, aI ((1 + (belowC (belowC (belowC x0 5).1 3).1 4).2) - ((i : Nat) : Int))), (6, aS 6)], [(1, oX 109 [.ro (.u8 5) (rowIt (genIt (belowC (belowC (belowC x0 5).1 3).1 4).1 (1 + (belowC (belowC x0 5).1 3).2).toNat i).1 k).1.1, cI (rowIt (genIt (belowC (belowC (belowC x0 5).1 3).1 4).1 (1 + (belowC (belowC x0 5).1 3).2).toNat i).1 k).1.2.1, cI (rowIt (genIt (belowC (belowC (belowC x0 5).1 3).1 4).1 (1 + (belowC (belowC x0 5).1 3).2).toNat i).1 k).1.2.2]), (2, oP 1 (Value.pointer (some ⟨b0, 0, none⟩))), (3, oX 26 [cI 0, cN]), (4, oX 26 [cI (belowC x0 5).2, .sl 5]), (5, oR s27 (genIt (belowC (belowC (belowC x0 5).1 3).1 4).1 (1 + (belowC (belowC x0 5).1 3).2).toNat i).2), (6, oR (.int 3) (rowIt (genIt (belowC (belowC (belowC x0 5).1 3).1 4).1 (1 + (belowC (belowC x0 5).1 3).2).toNat i).1 k).2)]⟩) { ts := [0, 2, 3, 4, 5, 6], os := [1, 2, 3, 4, 5, 6] } h (by kernel_rfl)
   replace h := at_eq (σ' := ⟨[(0, aP 1 0), (2, aP 3 0), (3, aP 4 0), (4, aI (1 + (belowC (belowC x0 5).1 3).2)), (5, aI ((1 + (belowC (belowC (belowC x0 5).1 3).1 4).2) - ((i : Nat) : Int))), (6, aS 6)], [(1, oX 109 [.ro (.u8 5) (rowIt (genIt (belowC (belowC (belowC x0 5).1 3).1 4).1 (1 + (belowC (belowC x0 5).1 3).2).toNat i).1 (1 + (belowC (belowC x0 5).1 3).2).toNat).1.1, cI (rowIt (genIt (belowC (belowC (belowC x0 5).1 3).1 4).1 (1 + (belowC (belowC x0 5).1 3).2).toNat i).1 (1 + (belowC (belowC x0 5).1 3).2).toNat).1.2.1, cI (rowIt (genIt (belowC (belowC (belowC x0 5).1 3).1 4).1 (1 + (belowC (belowC x0 5).1 3).2).toNat i).1 (1 + (belowC (belowC x0 5).1 3).2).toNat).1.2.2]), (2, oP 1 (Value.pointer (some ⟨b0, 0, none⟩))), (3, oX 26 [cI 0, cN]), (4, oX 26 [cI (belowC x0 5).2, .sl 5]), (5, oR s27 (genIt (belowC (belowC (belowC x0 5).1 3).1 4).1 (1 + (belowC (belowC x0 5).1 3).2).toNat i).2), (6, oR (.int 3) (rowIt (genIt (belowC (belowC (belowC x0 5).1 3).1 4).1 (1 + (belowC (belowC x0 5).1 3).2).toNat i).1 (1 + (belowC (belowC x0 5).1 3).2).toNat).2)]⟩) h (st_congr4 (fun (d0 : List Int) (d1 : Int) (d2 : Int) (d3 : List Int) => (⟨[(0, aP 1 0), (2, aP 3 0), (3, aP 4 0), (4, aI (1 + (belowC (belowC x0 5).1 3).2)), (5, aI ((1 + (belowC (belowC (belowC x0 5).1 3).1 4).2) - ((i : Nat) : Int))), (6, aS 6)], [(1, oX 109 [.ro (.u8 5) d0, cI d1, cI d2]), (2, oP 1 (Value.pointer (some ⟨b0, 0, none⟩))), (3, oX 26 [cI 0, cN]), (4, oX 26 [cI (belowC x0 5).2, .sl 5]), (5, oR s27 (genIt (belowC (belowC (belowC x0 5).1 3).1 4).1 (1 + (belowC (belowC x0 5).1 3).2).toNat i).2), (6, oR (.int 3) d3)]⟩ : St)) (show ((rowIt (genIt (belowC (belowC (belowC x0 5).1 3).1 4).1 (1 + (belowC (belowC x0 5).1 3).2).toNat i).1 k).1.1 : List Int) = (rowIt (genIt (belowC (belowC (belowC x0 5).1 3).1 4).1 (1 + (belowC (belowC x0 5).1 3).2).toNat i).1 (1 + (belowC (belowC x0 5).1 3).2).toNat).1.1 from by first | with_reducible rfl | (rw [show (1 + (belowC (belowC x0 5).1 3).2).toNat = k by omega]) | rfl) (show ((rowIt (genIt (belowC (belowC (belowC x0 5).1 3).1 4).1 (1 + (belowC (belowC x0 5).1 3).2).toNat i).1 k).1.2.1 : Int) = (rowIt (genIt (belowC (belowC (belowC x0 5).1 3).1 4).1 (1 + (belowC (belowC x0 5).1 3).2).toNat i).1 (1 + (belowC (belowC x0 5).1 3).2).toNat).1.2.1 from by first | with_reducible rfl | (rw [show (1 + (belowC (belowC x0 5).1 3).2).toNat = k by omega]) | rfl) (show ((rowIt (genIt (belowC (belowC (belowC x0 5).1 3).1 4).1 (1 + (belowC (belowC x0 5).1 3).2).toNat i).1 k).1.2.2 : Int) = (rowIt (genIt (belowC (belowC (belowC x0 5).1 3).1 4).1 (1 + (belowC (belowC x0 5).1 3).2).toNat i).1 (1 + (belowC (belowC x0 5).1 3).2).toNat).1.2.2 from by first | with_reducible rfl | (rw [show (1 + (belowC (belowC x0 5).1 3).2).toNat = k by omega]) | rfl) (show ((rowIt (genIt (belowC (belowC (belowC x0 5).1 3).1 4).1 (1 + (belowC (belowC x0 5).1 3).2).toNat i).1 k).2 : List Int) = (rowIt (genIt (belowC (belowC (belowC x0 5).1 3).1 4).1 (1 + (belowC (belowC x0 5).1 3).2).toNat i).1 (1 + (belowC (belowC x0 5).1 3).2).toNat).2 from by first | with_reducible rfl | (rw [show (1 + (belowC (belowC x0 5).1 3).2).toNat = k by omega]) | rfl))
   refine then_exit (in_hit (then_normal ?_))
   refine at_regq [{}, {}, {}, { ids := [9] }, { ids := [10] }] { ts := [0, 2, 3, 4, 5], os := [1, 2, 3, 4, 10] } [(List.length (genIt (belowC (belowC (belowC x0 5).1 3).1 4).1 (1 + (belowC (belowC x0 5).1 3).2).toNat i).2 + List.length ([(rowIt (genIt (belowC (belowC (belowC x0 5).1 3).1 4).1 (1 + (belowC (belowC x0 5).1 3).2).toNat i).1 (1 + (belowC (belowC x0 5).1 3).2).toNat).2])) * 24 ≤ 140737488355328] gamOK hT h (by kernel_rfl) ⟨(by first | omega | (simp only [lsA]; omega) | (simp <;> omega)), trivial⟩ fun a w h => in_normal (then_normal ?_)
   refine at_regq [{}, { nw := true }] { ts := [0, 2, 3, 4, 5], os := [1, 2, 3, 4, 10] } [I64 (((1 + (belowC (belowC (belowC x0 5).1 3).1 4).2) - ((i : Nat) : Int)) - 1)] gamOK hT h (by kernel_rfl) ⟨⟨by first | omega | (simp only [lsA]; omega) | (simp <;> omega), by first | omega | (simp only [lsA]; omega) | (simp <;> omega)⟩, trivial⟩ fun a w h => ?_
   replace h := at_out (σ' := ⟨[(0, aP 1 0), (2, aP 3 0), (3, aP 4 0), (4, aI (1 + (belowC (belowC x0 5).1 3).2)), (5, aI (((1 + (belowC (belowC (belowC x0 5).1 3).1 4).2) - ((i : Nat) : Int)) - 1))], [(1, oX 109 [.ro (.u8 5) (rowIt (genIt (belowC (belowC (belowC x0 5).1 3).1 4).1 (1 + (belowC (belowC x0 5).1 3).2).toNat i).1 (1 + (belowC (belowC x0 5).1 3).2).toNat).1.1, cI (rowIt (genIt (belowC (belowC (belowC x0 5).1 3).1 4).1 (1 + (belowC (belowC x0 5).1 3).2).toNat i).1 (1 + (belowC (belowC x0 5).1 3).2).toNat).1.2.1, cI (rowIt (genIt (belowC (belowC (belowC x0 5).1 3).1 4).1 (1 + (belowC (belowC x0 5).1 3).2).toNat i).1 (1 + (belowC (belowC x0 5).1 3).2).toNat).1.2.2]), (2, oP 1 (Value.pointer (some ⟨b0, 0, none⟩))), (3, oX 26 [cI 0, cN]), (4, oX 26 [cI (belowC x0 5).2, .sl 5]), (5, oR s27 ((genIt (belowC (belowC (belowC x0 5).1 3).1 4).1 (1 + (belowC (belowC x0 5).1 3).2).toNat i).2 ++ ([(rowIt (genIt (belowC (belowC (belowC x0 5).1 3).1 4).1 (1 + (belowC (belowC x0 5).1 3).2).toNat i).1 (1 + (belowC (belowC x0 5).1 3).2).toNat).2])))]⟩) { ts := [0, 2, 3, 4, 5], os := [1, 2, 3, 4, 10], rn := [(10, 5)] } h (by kernel_rfl)
   exact ⟨i + 1, at_eq h (st_congr5 (fun (d0 : List Int) (d1 : Int) (d2 : Int) (d3 : List (List Int)) (d4 : Int) => (⟨[(0, aP 1 0), (2, aP 3 0), (3, aP 4 0), (4, aI (1 + (belowC (belowC x0 5).1 3).2)), (5, aI d4)], [(1, oX 109 [.ro (.u8 5) d0, cI d1, cI d2]), (2, oP 1 (Value.pointer (some ⟨b0, 0, none⟩))), (3, oX 26 [cI 0, cN]), (4, oX 26 [cI (belowC x0 5).2, .sl 5]), (5, oR s27 d3)]⟩ : St)) (show ((rowIt (genIt (belowC (belowC (belowC x0 5).1 3).1 4).1 (1 + (belowC (belowC x0 5).1 3).2).toNat i).1 (1 + (belowC (belowC x0 5).1 3).2).toNat).1.1 : List Int) = (genIt (belowC (belowC (belowC x0 5).1 3).1 4).1 (1 + (belowC (belowC x0 5).1 3).2).toNat (i + 1)).1.1 from by first | with_reducible rfl | (rfl) | rfl) (show ((rowIt (genIt (belowC (belowC (belowC x0 5).1 3).1 4).1 (1 + (belowC (belowC x0 5).1 3).2).toNat i).1 (1 + (belowC (belowC x0 5).1 3).2).toNat).1.2.1 : Int) = (genIt (belowC (belowC (belowC x0 5).1 3).1 4).1 (1 + (belowC (belowC x0 5).1 3).2).toNat (i + 1)).1.2.1 from by first | with_reducible rfl | (rfl) | rfl) (show ((rowIt (genIt (belowC (belowC (belowC x0 5).1 3).1 4).1 (1 + (belowC (belowC x0 5).1 3).2).toNat i).1 (1 + (belowC (belowC x0 5).1 3).2).toNat).1.2.2 : Int) = (genIt (belowC (belowC (belowC x0 5).1 3).1 4).1 (1 + (belowC (belowC x0 5).1 3).2).toNat (i + 1)).1.2.2 from by first | with_reducible rfl | (rfl) | rfl) (show (((genIt (belowC (belowC (belowC x0 5).1 3).1 4).1 (1 + (belowC (belowC x0 5).1 3).2).toNat i).2 ++ ([(rowIt (genIt (belowC (belowC (belowC x0 5).1 3).1 4).1 (1 + (belowC (belowC x0 5).1 3).2).toNat i).1 (1 + (belowC (belowC x0 5).1 3).2).toNat).2])) : List (List Int)) = (genIt (belowC (belowC (belowC x0 5).1 3).1 4).1 (1 + (belowC (belowC x0 5).1 3).2).toNat (i + 1)).2 from by first | with_reducible rfl | (rfl) | rfl) (show (((1 + (belowC (belowC (belowC x0 5).1 3).1 4).2) - ((i : Nat) : Int)) - 1 : Int) = ((1 + (belowC (belowC (belowC x0 5).1 3).1 4).2) - (((i + 1) : Nat) : Int)) from by first | with_reducible rfl | (omega) | rfl)), (by omega), (by omega)⟩
 ·replace h1 : ¬ (((1 + (belowC (belowC (belowC x0 5).1 3).1 4).2) - ((i : Nat) : Int)) > 0) := of_decide_eq_false h1
  refine wp_exit (then_exit ?_)
  replace h := at_out (σ' := ⟨[(2, aP 3 0), (3, aP 4 0)], [(1, oX 109 [.ro (.u8 5) (genIt (belowC (belowC (belowC x0 5).1 3).1 4).1 (1 + (belowC (belowC x0 5).1 3).2).toNat i).1.1, cI (genIt (belowC (belowC (belowC x0 5).1 3).1 4).1 (1 + (belowC (belowC x0 5).1 3).2).toNat i).1.2.1, cI (genIt (belowC (belowC (belowC x0 5).1 3).1 4).1 (1 + (belowC (belowC x0 5).1 3).2).toNat i).1.2.2]), (2, oP 1 (Value.pointer (some ⟨b0, 0, none⟩))), (3, oX 26 [cI 0, cN]), (4, oX 26 [cI (belowC x0 5).2, .sl 5]), (5, oR s27 (genIt (belowC (belowC (belowC x0 5).1 3).1 4).1 (1 + (belowC (belowC x0 5).1 3).2).toNat i).2)]⟩) { ts := [2, 3], os := [1, 2, 3, 4, 5] } h (by kernel_rfl)
  replace h := at_eq (σ' := ⟨[(2, aP 3 0), (3, aP 4 0)], [(1, oX 109 [.ro (.u8 5) (genIt (belowC (belowC (belowC x0 5).1 3).1 4).1 (1 + (belowC (belowC x0 5).1 3).2).toNat (1 + (belowC (belowC (belowC x0 5).1 3).1 4).2).toNat).1.1, cI (genIt (belowC (belowC (belowC x0 5).1 3).1 4).1 (1 + (belowC (belowC x0 5).1 3).2).toNat (1 + (belowC (belowC (belowC x0 5).1 3).1 4).2).toNat).1.2.1, cI (genIt (belowC (belowC (belowC x0 5).1 3).1 4).1 (1 + (belowC (belowC x0 5).1 3).2).toNat (1 + (belowC (belowC (belowC x0 5).1 3).1 4).2).toNat).1.2.2]), (2, oP 1 (Value.pointer (some ⟨b0, 0, none⟩))), (3, oX 26 [cI 0, cN]), (4, oX 26 [cI (belowC x0 5).2, .sl 5]), (5, oR s27 (genIt (belowC (belowC (belowC x0 5).1 3).1 4).1 (1 + (belowC (belowC x0 5).1 3).2).toNat (1 + (belowC (belowC (belowC x0 5).1 3).1 4).2).toNat).2)]⟩) h (st_congr4 (fun (d0 : List Int) (d1 : Int) (d2 : Int) (d3 : List (List Int)) => (⟨[(2, aP 3 0), (3, aP 4 0)], [(1, oX 109 [.ro (.u8 5) d0, cI d1, cI d2]), (2, oP 1 (Value.pointer (some ⟨b0, 0, none⟩))), (3, oX 26 [cI 0, cN]), (4, oX 26 [cI (belowC x0 5).2, .sl 5]), (5, oR s27 d3)]⟩ : St)) (show ((genIt (belowC (belowC (belowC x0 5).1 3).1 4).1 (1 + (belowC (belowC x0 5).1 3).2).toNat i).1.1 : List Int) = (genIt (belowC (belowC (belowC x0 5).1 3).1 4).1 (1 + (belowC (belowC x0 5).1 3).2).toNat (1 + (belowC (belowC (belowC x0 5).1 3).1 4).2).toNat).1.1 from by first | with_reducible rfl | (rw [show (1 + (belowC (belowC (belowC x0 5).1 3).1 4).2).toNat = i by omega]) | rfl) (show ((genIt (belowC (belowC (belowC x0 5).1 3).1 4).1 (1 + (belowC (belowC x0 5).1 3).2).toNat i).1.2.1 : Int) = (genIt (belowC (belowC (belowC x0 5).1 3).1 4).1 (1 + (belowC (belowC x0 5).1 3).2).toNat (1 + (belowC (belowC (belowC x0 5).1 3).1 4).2).toNat).1.2.1 from by first | with_reducible rfl | (rw [show (1 + (belowC (belowC (belowC x0 5).1 3).1 4).2).toNat = i by omega]) | rfl) (show ((genIt (belowC (belowC (belowC x0 5).1 3).1 4).1 (1 + (belowC (belowC x0 5).1 3).2).toNat i).1.2.2 : Int) = (genIt (belowC (belowC (belowC x0 5).1 3).1 4).1 (1 + (belowC (belowC x0 5).1 3).2).toNat (1 + (belowC (belowC (belowC x0 5).1 3).1 4).2).toNat).1.2.2 from by first | with_reducible rfl | (rw [show (1 + (belowC (belowC (belowC x0 5).1 3).1 4).2).toNat = i by omega]) | rfl) (show ((genIt (belowC (belowC (belowC x0 5).1 3).1 4).1 (1 + (belowC (belowC x0 5).1 3).2).toNat i).2 : List (List Int)) = (genIt (belowC (belowC (belowC x0 5).1 3).1 4).1 (1 + (belowC (belowC x0 5).1 3).2).toNat (1 + (belowC (belowC (belowC x0 5).1 3).1 4).2).toNat).2 from by first | with_reducible rfl | (rw [show (1 + (belowC (belowC (belowC x0 5).1 3).1 4).2).toNat = i by omega]) | rfl))
  refine then_exit (in_hit (then_normal (wp_seq ?_)))
  refine at_regq [] { ts := [2], os := [1, 2, 3, 5] } [] gamOK hT h (by kernel_rfl) trivial fun a w h => then_normal (wp_ret ?_)
  have hr3 : (((genIt (belowC (belowC (belowC x0 5).1 3).1 4).1 (1 + (belowC (belowC x0 5).1 3).2).toNat (1 + (belowC (belowC (belowC x0 5).1 3).1 4).2).toNat).1, ((belowC x0 5).2, (genIt (belowC (belowC (belowC x0 5).1 3).1 4).1 (1 + (belowC (belowC x0 5).1 3).2).toNat (1 + (belowC (belowC (belowC x0 5).1 3).1 4).2).toNat).2)) : T109 × T26) = genD x0 := by rfl
  exact at_returnB (B := B_spec_l10Gen) (c0 := x0) (x := (())) ((genIt (belowC (belowC (belowC x0 5).1 3).1 4).1 (1 + (belowC (belowC x0 5).1 3).2).toNat (1 + (belowC (belowC (belowC x0 5).1 3).1 4).2).toNat).1) (((belowC x0 5).2, (genIt (belowC (belowC (belowC x0 5).1 3).1 4).1 (1 + (belowC (belowC x0 5).1 3).2).toNat (1 + (belowC (belowC (belowC x0 5).1 3).1 4).2).toNat).2), ()) [(Value.pointer (some ⟨b0, 0, none⟩)) = (Value.pointer (some ⟨b0, 0, none⟩))] h (by kernel_rfl) ⟨rfl, trivial⟩ (congrArg (a₁ := ((genIt (belowC (belowC (belowC x0 5).1 3).1 4).1 (1 + (belowC (belowC x0 5).1 3).2).toNat (1 + (belowC (belowC (belowC x0 5).1 3).1 4).2).toNat).1, ((belowC x0 5).2, (genIt (belowC (belowC (belowC x0 5).1 3).1 4).1 (1 + (belowC (belowC x0 5).1 3).2).toNat (1 + (belowC (belowC (belowC x0 5).1 3).1 4).2).toNat).2))) (a₂ := genD x0) (fun (z : T109 × T26) => z.1) hr3) (congrArg (a₁ := ((genIt (belowC (belowC (belowC x0 5).1 3).1 4).1 (1 + (belowC (belowC x0 5).1 3).2).toNat (1 + (belowC (belowC (belowC x0 5).1 3).1 4).2).toNat).1, ((belowC x0 5).2, (genIt (belowC (belowC (belowC x0 5).1 3).1 4).1 (1 + (belowC (belowC x0 5).1 3).2).toNat (1 + (belowC (belowC (belowC x0 5).1 3).1 4).2).toNat).2))) (a₂ := genD x0) (fun (z : T109 × T26) => (z.2, ())) hr3)
theorem genD_ok {x : T109} (h : 0 ≤ x.2.1) : 0 ≤ (genD x).1.2.1 ∧ validG (genD x).2 = true ∧ ((genD x).2.1 ≤ 4 ∧ List.length (genD x).2.2 ≤ 4 ∧ colsOf (genD x).2.2 ≤ 3) := by
 have b1 := below_bd x (n := 5) (by decide)
 have b2 := below_bd (belowC x 5).1 (n := 3) (by decide)
 have b3 := below_bd (belowC (belowC x 5).1 3).1 (n := 4) (by decide)
 have hx := below_ok (n := 4) (below_ok (n := 3) (below_ok (n := 5) h))
 have hi := genIt_inv (n := (1 + (belowC (belowC x 5).1 3).2).toNat) hx (1 + (belowC (belowC (belowC x 5).1 3).1 4).2).toNat
 have hv := validG_of (a := (belowC x 5).2) (n := (1 + (belowC (belowC x 5).1 3).2).toNat) (by omega) (by rw [hi.2.1]; omega) (by omega) hi.2.2
 refine ⟨hi.1, hv.1, by show (belowC x 5).2 ≤ 4; omega, ?_, ?_⟩
 ·show List.length (genIt _ _ _).2 ≤ 4
  rw [hi.2.1]; omega
 ·show colsOf (genIt _ _ _).2 ≤ 3
  rw [hv.2]; omega
theorem validG_fit {g : T26} (h : validG g = true) : Sh.fit s26 g := by
 have h1 := validG_t h
 have hm := validM_t h1.2.2.1
 refine ⟨trivial, by omega, fun r hr => ⟨by have := (hm.2 r hr).2; have := colsOf_at (m := g.2) (by omega); omega, fun _ _ => trivial⟩⟩

def hkTo (s : Int) (n : Nat) : List Int := (List.range n).map fun (j : Nat) => powG 4 (1 + rndN s (300 + (j : Int)) 1018)
theorem hkTo_succ (s : Int) (n : Nat) : hkTo s (n + 1) = hkTo s n ++ [powG 4 (1 + rndN s (300 + (n : Int)) 1018)] := by unfold hkTo; rw [List.range_succ, List.map_append]; rfl
theorem hkTo_len (s : Int) (n : Nat) : (hkTo s n).length = n := by simp [hkTo]
def hkD (s w : Int) : List Int := if inR w 1 16 = true then hkTo s w.toNat else []
theorem hkD_end {s w : Int} {i : Nat} (h : i = 0 ∨ ((i : Int) ≤ w ∧ inR w 1 16 = true)) (he : ¬ (i : Int) < w ∨ inR w 1 16 = false) : hkTo s i = hkD s w := by
 unfold hkD
 cases hi : inR w 1 16 with
 | true =>
  rw [if_pos rfl]
  have hw := inR_t hi
  rcases he with he | he
  ·congr 1; omega
  ·rw [hi] at he; cases he
 | false =>
  rw [if_neg (by decide)]
  rcases h with h | h
  ·subst h; rfl
  ·rw [hi] at h; cases h.2
theorem hkD_len (s w : Int) : (hkD s w).length ≤ 16 := by
 unfold hkD; split
 ·rename_i h; rw [hkTo_len]; have := inR_t h; omega
 ·exact Nat.zero_le _
theorem rnd1018 (s i : Int) : 0 ≤ rndN s i 1018 ∧ rndN s i 1018 ≤ 1017 := by
 have hkb := keyed_bd s ([i, 71])
 have hm := mul_f (keyed s ([i, 71])) (keyed s ([i, 71]))
 have h1 := tmod_f (keyed s ([i, 71]) * keyed s ([i, 71])) 2147483647 (by decide)
 have h2 := tmod_f ((keyed s ([i, 71]) * keyed s ([i, 71])).tmod 2147483647) 1018 (by decide)
 unfold rndN
 rw [if_pos (show inR 1018 1 1000000000000 = true from rfl)]
 omega
theorem isGrp_four : isGrp 4 = true := by decide +kernel
theorem pow4_all : ∀ n : Fin 1018, powD 4 (1 + (n.val : Int)) 2039 ≠ 1 := by decide +kernel
theorem gen_ok (s i : Int) : isGrp (powG 4 (1 + rndN s i 1018)) = true ∧ powG 4 (1 + rndN s i 1018) ≠ 1 := by
 have h := rnd1018 s i
 rw [powG_at isGrp_four (by omega)]
 refine ⟨isGrp_pow isGrp_four (by omega), ?_⟩
 have := pow4_all ⟨(rndN s i 1018).toNat, by omega⟩
 rw [show (((rndN s i 1018).toNat : Nat) : Int) = rndN s i 1018 by omega] at this
 exact this
theorem hkD_ok {s w : Int} (h : 1 ≤ w ∧ w ≤ 16) : validK (hkD s w) = true ∧ ((List.length (hkD s w) : Nat) : Int) = w := by
 have e : hkD s w = hkTo s w.toNat := if_pos (inR_true h)
 rw [e]
 refine ⟨?_, by rw [hkTo_len]; omega⟩
 unfold validK
 have ha : (hkTo s w.toNat).all (fun g => !decide (g = 1) && isGrp g) = true := List.all_eq_true.2 fun g hg => by
  obtain ⟨j, _, rfl⟩ := List.mem_map.1 hg
  have := gen_ok s (300 + (j : Int))
  rw [this.1, decide_eq_false this.2]; rfl
 rw [if_pos ha, hkTo_len]
 exact inR_true (by omega)
def S_spec_NewHashKey : Sum := { fid := 100, dom := [(.int 3), (.int 3)], cod := [s29], dp := true, fz := false, pre := fun x => True, g := fun x => ((hkD x.1 x.2.1), ()) }
def S_spec_NewHashKey_tab : List (Nat × Sum) := [(84, S_spec_l1In), (157, S_spec_RandomNumber), (156, S_spec_PowGroup)]
theorem S_spec_NewHashKey_ok : FnOK Try.prog 100 S_spec_NewHashKey := by
 refine at_enter 29 (fun x => ⟨[(0, aI x.1), (1, aI x.2.1)], []⟩) Try.func100 rfl (by kernel_rfl) (fun x => rfl) ?_
 rintro w0 Z0 ⟨x0, x1, u⟩ a w
 revert x0 x1
 intro (x0 : Int) (x1 : Int) hpre hlens h
 have hT : TabOK Try.prog S_spec_NewHashKey_tab := (.cons S_spec_l1In_ok (.cons S_spec_RandomNumber_ok (.cons S_spec_PowGroup_ok .nil)))
 refine wp_seq ?_
 refine at_regq [{ ids := [1] }] { ts := [0, 1, 4], os := [1] } [] gamOK hT h (by kernel_rfl) trivial fun a w h => then_normal (wp_seq ?_)
 refine at_regq [{}, { ids := [2] }] { ts := [0, 1, 4, 5], os := [1, 2] } [] gamOK hT h (by kernel_rfl) trivial fun a w h => then_normal (wp_seq (wp_seq ?_))
 refine at_regq [] { ts := [0, 1, 4, 5, 6], os := [1, 2] } [] gamOK hT h (by kernel_rfl) trivial fun a w h => then_normal (wp_block ?_)
 replace h := at_out (σ' := ⟨[(0, aI x0), (1, aI x1), (4, aP 1 0), (5, aP 2 0), (6, aI 0)], [(1, oX 29 [cN]), (2, oX 29 [.sl 3]), (3, oR (.int 3) ([] : List Int))]⟩) { mt := [⟨some 2, 0, 3, true, (.int 3)⟩], ts := [0, 1, 4, 5, 6], os := [1, 2, 3] } h (by kernel_rfl)
 refine at_loop (fun i : Nat => (⟨[(0, aI x0), (1, aI x1), (4, aP 1 0), (5, aP 2 0), (6, aI ((i : Nat) : Int))], [(1, oX 29 [cN]), (2, oX 29 [.sl 3]), (3, oR (.int 3) (hkTo x0 i))]⟩ : St)) (fun i => (i = 0 ∨ ((i : Int) ≤ x1 ∧ inR x1 1 16 = true))) (fun i => x1.toNat - i) (0) h (st_congr2 (fun (d0 : List Int) (d1 : Int) => (⟨[(0, aI x0), (1, aI x1), (4, aP 1 0), (5, aP 2 0), (6, aI d1)], [(1, oX 29 [cN]), (2, oX 29 [.sl 3]), (3, oR (.int 3) d0)]⟩ : St)) (show (([] : List Int) : List Int) = (hkTo x0 (0)) from by first | with_reducible rfl | (rfl) | rfl) (show (0 : Int) = (((0) : Nat) : Int) from by first | with_reducible rfl | (rfl) | rfl)) (by exact Or.inl rfl) ?_
 intro i a w hok0 h
 have hul := hkTo_len x0 i
 have hi16 : i ≤ 16 := by rcases hok0 with h | h; omega; have := inR_t h.2; omega
 refine wp_seq (wp_seq ?_)
 by_cases h1 : ((i : Nat) : Int) < x1
 ·refine at_regq [{}, {}, { hint := some (aB true) }] { ts := [0, 1, 4, 5, 6, 12, 13, 14], os := [1, 2, 3] } [(AV.p (.c (.v (.bool (decide (((i : Nat) : Int) < x1))))) = AV.p (.c (.v (.bool true)))), True] gamOK hT h (by kernel_rfl) ⟨hint_bool (decide_eq_true h1), trivial, trivial⟩ fun a w h => then_normal ?_
  refine at_test ((inR x1 1 16)) h (by kernel_rfl) (fun h2 => ?_) (fun h2 => ?_)
  ·have hvh2 := inR_t h2
   have hrn := rnd1018 x0 (300 + ((i : Nat) : Int))
   have hiw := inR_t (show inR x1 1 16 = true from by assumption)
   refine wp_skip (then_normal (wp_seq (wp_block ?_)))
   refine at_anyq [{}, {}, {}, {}, { nw := true }, {}, { nw := true }, {}, { ids := [4] }, { ids := [5] }, {}, {}] { ts := [0, 1, 4, 5, 6, 12, 13], os := [1, 2, 5] } [I64 (300 + ((i : Nat) : Int)), True, I64 (1 + (rndN x0 (300 + ((i : Nat) : Int)) 1018)), True, (List.length (hkTo x0 i) + List.length ([(powG 4 (1 + (rndN x0 (300 + ((i : Nat) : Int)) 1018)))])) * 8 ≤ 140737488355328] gamOK hT mixed h (by kernel_rfl) ⟨⟨by first | omega | (simp only [lsA]; omega) | (simp <;> omega), by first | omega | (simp only [lsA]; omega) | (simp <;> omega)⟩, trivial, ⟨by first | omega | (simp only [lsA]; omega) | (simp <;> omega), by first | omega | (simp only [lsA]; omega) | (simp <;> omega)⟩, trivial, (by first | omega | (simp only [lsA]; omega) | (simp <;> omega)), trivial⟩ fun a w h => in_normal (then_normal ?_)
   refine at_regq [{}, { nw := true }] { ts := [0, 1, 4, 5, 6, 12, 13], os := [1, 2, 5] } [I64 (((i : Nat) : Int) + 1)] gamOK hT h (by kernel_rfl) ⟨⟨by first | omega | (simp only [lsA]; omega) | (simp <;> omega), by first | omega | (simp only [lsA]; omega) | (simp <;> omega)⟩, trivial⟩ fun a w h => ?_
   replace h := at_out (σ' := ⟨[(0, aI x0), (1, aI x1), (4, aP 1 0), (5, aP 2 0), (6, aI (((i : Nat) : Int) + 1))], [(1, oX 29 [cN]), (2, oX 29 [.sl 3]), (3, oR (.int 3) ((hkTo x0 i) ++ ([(powG 4 (1 + (rndN x0 (300 + ((i : Nat) : Int)) 1018)))])))]⟩) { ts := [0, 1, 4, 5, 6], os := [1, 2, 5], rn := [(5, 3)] } h (by kernel_rfl)
   exact ⟨i + 1, at_eq h (st_congr2 (fun (d0 : List Int) (d1 : Int) => (⟨[(0, aI x0), (1, aI x1), (4, aP 1 0), (5, aP 2 0), (6, aI d1)], [(1, oX 29 [cN]), (2, oX 29 [.sl 3]), (3, oR (.int 3) d0)]⟩ : St)) (show (((hkTo x0 i) ++ ([(powG 4 (1 + (rndN x0 (300 + ((i : Nat) : Int)) 1018)))])) : List Int) = (hkTo x0 (i + 1)) from by first | with_reducible rfl | ((rw [hkTo_succ])) | rfl) (show (((i : Nat) : Int) + 1 : Int) = (((i + 1) : Nat) : Int) from by first | with_reducible rfl | (omega) | rfl)), (by exact Or.inr ⟨by omega, by assumption⟩), (by omega)⟩
  ·have hvh2 := inR_f h2
   refine wp_exit (then_exit ?_)
   replace h := at_out (σ' := ⟨[(4, aP 1 0), (5, aP 2 0)], [(1, oX 29 [cN]), (2, oX 29 [.sl 3]), (3, oR (.int 3) (hkTo x0 i))]⟩) { ts := [4, 5], os := [1, 2, 3] } h (by kernel_rfl)
   replace h := at_eq (σ' := ⟨[(4, aP 1 0), (5, aP 2 0)], [(1, oX 29 [cN]), (2, oX 29 [.sl 3]), (3, oR (.int 3) (hkD x0 x1))]⟩) h (st_congr1 (fun (d0 : List Int) => (⟨[(4, aP 1 0), (5, aP 2 0)], [(1, oX 29 [cN]), (2, oX 29 [.sl 3]), (3, oR (.int 3) d0)]⟩ : St)) (show ((hkTo x0 i) : List Int) = (hkD x0 x1) from by first | with_reducible rfl | (exact hkD_end hok0 (by first | (left; omega) | (right; assumption))) | rfl))
   refine then_exit (in_hit (then_normal (wp_seq ?_)))
   refine at_regq [] { ts := [4], os := [1, 3] } [] gamOK hT h (by kernel_rfl) trivial fun a w h => then_normal (wp_ret ?_)
   exact at_return ((hkD x0 x1), ()) [] h (by kernel_rfl) trivial (congrArg (fun z => (z, ())) (show ((hkD x0 x1)) = hkD x0 x1 from by rfl))
 ·refine at_regq [{}, {}, { hint := some (aB false) }] { ts := [0, 1, 4, 5, 6, 12, 13, 14], os := [1, 2, 3] } [(AV.p (.c (.v (.bool (decide (((i : Nat) : Int) < x1))))) = AV.p (.c (.v (.bool false))))] gamOK hT h (by kernel_rfl) ⟨hint_bool (decide_eq_false h1), trivial⟩ fun a w h => then_normal ?_
  refine at_test false h (by kernel_rfl) (fun hh => nomatch hh) (fun hh => ?_)
  refine wp_exit (then_exit ?_)
  replace h := at_out (σ' := ⟨[(4, aP 1 0), (5, aP 2 0)], [(1, oX 29 [cN]), (2, oX 29 [.sl 3]), (3, oR (.int 3) (hkTo x0 i))]⟩) { ts := [4, 5], os := [1, 2, 3] } h (by kernel_rfl)
  replace h := at_eq (σ' := ⟨[(4, aP 1 0), (5, aP 2 0)], [(1, oX 29 [cN]), (2, oX 29 [.sl 3]), (3, oR (.int 3) (hkD x0 x1))]⟩) h (st_congr1 (fun (d0 : List Int) => (⟨[(4, aP 1 0), (5, aP 2 0)], [(1, oX 29 [cN]), (2, oX 29 [.sl 3]), (3, oR (.int 3) d0)]⟩ : St)) (show ((hkTo x0 i) : List Int) = (hkD x0 x1) from by first | with_reducible rfl | (exact hkD_end hok0 (by first | (left; omega) | (right; assumption))) | rfl))
  refine then_exit (in_hit (then_normal (wp_seq ?_)))
  refine at_regq [] { ts := [4], os := [1, 3] } [] gamOK hT h (by kernel_rfl) trivial fun a w h => then_normal (wp_ret ?_)
  exact at_return ((hkD x0 x1), ()) [] h (by kernel_rfl) trivial (congrArg (fun z => (z, ())) (show ((hkD x0 x1)) = hkD x0 x1 from by rfl))

theorem mkMan_ok {s src : Int} {k : List Int} {g : T26} (hk : hsOK k g) (hs : 0 ≤ src ∧ src ≤ 7) : validMan (mkMan s src k g) = true := by
 have hg := validG_t hk.2.1
 have hl : List.length (hashSyms k g) = List.length g.2 := by unfold hashSyms; rw [if_pos hk, List.length_map]
 have ha : (hashSyms k g).all isGrp = true := List.all_eq_true.2 fun y hy => by
  unfold hashSyms at hy; rw [if_pos hk] at hy
  obtain ⟨r, hr, rfl⟩ := List.mem_map.1 hy
  have hv := (validM_t hg.2.2.1).2 r hr
  exact hpw_grp (validK_t hk.1).2 (validV_t hv.1).2.2 _ (Nat.le_refl _)
 have hm := manMAC_bd s (src, g.1, ((List.length g.2 : Nat) : Int), colsOf g.2, hashSyms k g, 0)
 have hf : isFmt g.1 ((List.length g.2 : Nat) : Int) (colsOf g.2) = true := by
  unfold isFmt
  rw [if_pos (show inR g.1 0 1000000000000 = true from inR_true hg.1), if_pos (show inR ((List.length g.2 : Nat) : Int) 1 8 = true from inR_true (by omega))]
  exact inR_true hg.2.2.2
 unfold mkMan signMan validMan
 simp only [ha, hf, hl, show inR src 0 7 = true from inR_true hs, if_true]
 first
  | exact inR_true (by omega)
  | (simp only [show inR (manMAC s (src, g.1, ((List.length g.2 : Nat) : Int), colsOf g.2, hashSyms k g, 0)) 0 2147483646 = true from inR_true (by omega)]; simp)
def madeD (x0 : T109) : T109 × T26 × (List Int) × T31 := ((belowC (belowC (belowC (genD x0).1 99).1 5).1 3).1, (genD x0).2, (hkD (belowC (genD x0).1 99).2 (colsOf (genD x0).2.2)), (makeMan (1 + (belowC (belowC (genD x0).1 99).1 5).2) (belowC (belowC (belowC (genD x0).1 99).1 5).1 3).2 (hkD (belowC (genD x0).1 99).2 (colsOf (genD x0).2.2)) (genD x0).2).1)
abbrev Q_spec_l19Made := (fun (x0 : T109) => 0 ≤ x0.2.1)
def B_spec_l19Made : BS := { t := 109, s := s109, dom := [], cod := [s26, s29, s31], pre := fun y x => Q_spec_l19Made y, upd := fun y x => (madeD y).1, g := fun y x => ((madeD y).2.1, ((madeD y).2.2.1, ((madeD y).2.2.2, ()))) }
def S_spec_l19Made : Sum := bSum 47 B_spec_l19Made
def S_spec_l19Made_tab : List (Nat × Sum) := [(99, S_spec_l10Gen), (73, S_spec_l1Below), (101, S_spec_ColumnsOf), (100, S_spec_NewHashKey), (102, S_spec_MakeManifest)]
theorem S_spec_l19Made_ok : FnOK Try.prog 47 S_spec_l19Made := by
 refine at_enterB (B := B_spec_l19Made) 31 (fun v y x => ⟨[(0, aP 1 0)], [(1, oX 109 [.ro (.u8 5) y.1, cI y.2.1, cI y.2.2]), (2, oP 1 v)]⟩) Try.func47 rfl (by kernel_rfl) (fun v y x => rfl) ?_
 rintro w0 Z0 b0 x0 ⟨u⟩ a w
 revert x0
 intro (x0 : T109) hpre hlens0 hlens h
 replace h : At w0 Z0 [b0] 31 ⟨[(0, aP 1 0)], [(1, oX 109 [.ro (.u8 5) x0.1, cI x0.2.1, cI x0.2.2]), (2, oP 1 (Value.pointer (some ⟨b0, 0, none⟩)))]⟩ a w := h
 replace hpre : Q_spec_l19Made x0 := hpre
 have hl1 : List.length x0.1 ≤ 9223372036854775807 := hlens0.1.1
 have hu0 : u8L x0.1 := hlens0.1.2
 have hT : TabOK Try.prog S_spec_l19Made_tab := (.cons S_spec_l10Gen_ok (.cons S_spec_l1Below_ok (.cons S_spec_ColumnsOf_ok (.cons S_spec_NewHashKey_ok (.cons S_spec_MakeManifest_ok .nil)))))
 have hgo := genD_ok hpre
 have hg1 := hgo.1
 have hgf := validG_fit hgo.2.1
 have hb2 := below_bd (belowC (genD x0).1 99).1 (n := 5) (by decide)
 have hb3 := below_bd (belowC (belowC (genD x0).1 99).1 5).1 (n := 3) (by decide)
 refine wp_seq ?_
 refine at_regq [{ ids := [3] }, { ids := [4] }, { ids := [5] }] { ts := [0, 2, 3, 4], os := [1, 2, 3, 4, 5] } [] gamOK hT h (by kernel_rfl) trivial fun a w h => then_normal (wp_seq ?_)
 refine at_regq [{}, { ids := [6] }, { ids := [7] }] { ts := [0, 2, 3, 4, 5], os := [1, 2, 3, 4, 5, 6, 7] } [B_spec_l10Gen.pre x0 (())] gamOK hT h (by kernel_rfl) ⟨(by exact hpre), trivial⟩ fun a w h => then_normal (wp_seq ?_)
 refine at_anyq [{}, {}, {}, {}, {}, { ids := [8] }, { ids := [9] }, {}] { ts := [0, 2, 3, 4, 5, 6], os := [1, 2, 3, 4, 5, 6, 7, 8, 9] } [B_spec_l1Below.pre (genD x0).1 (99, ()), Q_spec_ColumnsOf (genD x0).2.2, True] gamOK hT mixed h (by kernel_rfl) ⟨(by exact (genD_ok hpre).1), (by exact hgf.2), trivial, trivial⟩ fun a w h => then_normal (wp_seq ?_)
 refine at_anyq [{}, {}, { nw := true }, {}, {}, {}, {}, { ids := [10] }, {}, {}, {}, { ids := [11] }, {}, {}] { ts := [2, 3, 4, 5, 6, 7], os := [1, 2, 3, 4, 5, 6, 7, 8, 9, 10, 11] } [B_spec_l1Below.pre (belowC (genD x0).1 99).1 (5, ()), I64 (1 + (belowC (belowC (genD x0).1 99).1 5).2), B_spec_l1Below.pre (belowC (belowC (genD x0).1 99).1 5).1 (3, ()), Q_spec_MakeManifest (1 + (belowC (belowC (genD x0).1 99).1 5).2) (belowC (belowC (belowC (genD x0).1 99).1 5).1 3).2 (hkD (belowC (genD x0).1 99).2 (colsOf (genD x0).2.2)) (genD x0).2] gamOK hT mixed h (by kernel_rfl) ⟨(by exact (below_ok (genD_ok hpre).1)), ⟨by first | omega | (simp only [lsA]; omega) | (simp <;> omega), by first | omega | (simp only [lsA]; omega) | (simp <;> omega)⟩, (by exact (below_ok (below_ok (genD_ok hpre).1))), (by exact ⟨(Sh.fit_len (t := 27) (s := .int 3) rfl (Nat.le_trans (hkD_len _ _) (by decide))), hgf⟩), trivial⟩ fun a w h => then_normal (wp_seq ?_)
 refine at_anyq [{}, {}, {}, {}, {}, {}] { ts := [2, 3, 4], os := [1, 2, 3, 4, 5, 6, 8, 10] } [] gamOK hT mixed h (by kernel_rfl) trivial fun a w h => then_normal (wp_ret ?_)
 have hr1 : (((belowC (belowC (belowC (genD x0).1 99).1 5).1 3).1, (genD x0).2, (hkD (belowC (genD x0).1 99).2 (colsOf (genD x0).2.2)), (makeMan (1 + (belowC (belowC (genD x0).1 99).1 5).2) (belowC (belowC (belowC (genD x0).1 99).1 5).1 3).2 (hkD (belowC (genD x0).1 99).2 (colsOf (genD x0).2.2)) (genD x0).2).1) : T109 × T26 × (List Int) × T31) = madeD x0 := by rfl
 exact at_returnB (B := B_spec_l19Made) (c0 := x0) (x := (())) ((belowC (belowC (belowC (genD x0).1 99).1 5).1 3).1) ((genD x0).2, ((hkD (belowC (genD x0).1 99).2 (colsOf (genD x0).2.2)), ((makeMan (1 + (belowC (belowC (genD x0).1 99).1 5).2) (belowC (belowC (belowC (genD x0).1 99).1 5).1 3).2 (hkD (belowC (genD x0).1 99).2 (colsOf (genD x0).2.2)) (genD x0).2).1, ()))) [(Value.pointer (some ⟨b0, 0, none⟩)) = (Value.pointer (some ⟨b0, 0, none⟩))] h (by kernel_rfl) ⟨rfl, trivial⟩ (congrArg (a₁ := ((belowC (belowC (belowC (genD x0).1 99).1 5).1 3).1, (genD x0).2, (hkD (belowC (genD x0).1 99).2 (colsOf (genD x0).2.2)), (makeMan (1 + (belowC (belowC (genD x0).1 99).1 5).2) (belowC (belowC (belowC (genD x0).1 99).1 5).1 3).2 (hkD (belowC (genD x0).1 99).2 (colsOf (genD x0).2.2)) (genD x0).2).1)) (a₂ := madeD x0) (fun (z : T109 × T26 × (List Int) × T31) => z.1) hr1) (congrArg (a₁ := ((belowC (belowC (belowC (genD x0).1 99).1 5).1 3).1, (genD x0).2, (hkD (belowC (genD x0).1 99).2 (colsOf (genD x0).2.2)), (makeMan (1 + (belowC (belowC (genD x0).1 99).1 5).2) (belowC (belowC (belowC (genD x0).1 99).1 5).1 3).2 (hkD (belowC (genD x0).1 99).2 (colsOf (genD x0).2.2)) (genD x0).2).1)) (a₂ := madeD x0) (fun (z : T109 × T26 × (List Int) × T31) => (z.2.1, z.2.2.1, z.2.2.2, ())) hr1)
theorem madeD_ok {x : T109} (h : 0 ≤ x.2.1) : 0 ≤ (madeD x).1.2.1 ∧ (validG (madeD x).2.1 = true ∧ (madeD x).2.1.1 ≤ 4 ∧ List.length (madeD x).2.1.2 ≤ 4 ∧ colsOf (madeD x).2.1.2 ≤ 3) ∧ hsOK (madeD x).2.2.1 (madeD x).2.1 ∧ ∃ s src, (isKey s = true ∧ 0 ≤ src ∧ src ≤ 2) ∧ (madeD x).2.2.2 = mkMan s src (madeD x).2.2.1 (madeD x).2.1 := by
 obtain ⟨g1, g2, g3⟩ := genD_ok h
 have b2 := below_bd (belowC (genD x).1 99).1 (n := 5) (by decide)
 have b3 := below_bd (belowC (belowC (genD x).1 99).1 5).1 (n := 3) (by decide)
 have hv := validG_t g2
 have hk := hkD_ok (s := (belowC (genD x).1 99).2) hv.2.2.2
 have hs : hsOK (hkD (belowC (genD x).1 99).2 (colsOf (genD x).2.2)) (genD x).2 := ⟨hk.1, g2, hk.2.symm⟩
 have hky : isKey (1 + (belowC (belowC (genD x).1 99).1 5).2) = true := inR_true (by omega)
 refine ⟨below_ok (below_ok (below_ok g1)), ⟨g2, g3⟩, hs, _, _, ⟨hky, b3.1, by omega⟩, ?_⟩
 show (makeMan _ _ _ _).1 = _
 rw [← makeMan_yes hky (mkMan_ok hs (by omega))]; rfl

def drawS (x0 : (List Int)) : T26 × (List Int) × T31 := ((madeD (newC x0)).2.1, (madeD (newC x0)).2.2.1, (madeD (newC x0)).2.2.2)
abbrev Q_spec_DrawSigned := (fun (x0 : (List Int)) => Sh.fit s22 x0)
def S_spec_DrawSigned : Sum := { fid := 9, dom := [s22], cod := [s26, s29, s31], dp := true, fz := false, pre := fun x => Q_spec_DrawSigned x.1, g := fun x => ((drawS x.1).1, ((drawS x.1).2.1, ((drawS x.1).2.2, ()))) }
def S_spec_DrawSigned_tab : List (Nat × Sum) := [(46, S_spec_l1New), (47, S_spec_l19Made)]
theorem S_spec_DrawSigned_ok : FnOK Try.prog 9 S_spec_DrawSigned := by
 refine at_enter 13 (fun x => ⟨[(0, aF (.u8 5) x.1)], []⟩) Try.func9 rfl (by kernel_rfl) (fun x => rfl) ?_
 rintro w0 Z0 ⟨x0, u⟩ a w
 revert x0
 intro (x0 : (List Int)) hpre hlens h
 replace hpre : Q_spec_DrawSigned x0 := hpre
 have hu0 : u8L x0 := hlens.1.2
 have hT : TabOK Try.prog S_spec_DrawSigned_tab := (.cons S_spec_l1New_ok (.cons S_spec_l19Made_ok .nil))
 have hf0 : Sh.fit s22 x0 := hpre
 have hn0_1 : List.length x0 ≤ 1073741824 := hf0.1
 refine wp_seq ?_
 refine at_regq [{ ids := [1] }, { ids := [2] }, { ids := [3] }] { ts := [0, 2, 3, 4], os := [1, 2, 3] } [] gamOK hT h (by kernel_rfl) trivial fun a w h => then_normal (wp_seq ?_)
 refine at_regq [{}, { ids := [4] }] { ts := [2, 3, 4, 5], os := [1, 2, 3, 4] } [B_spec_l1New.pre (x0, ())] gamOK hT h (by kernel_rfl) ⟨(by exact hf0), trivial⟩ fun a w h => then_normal (wp_seq ?_)
 refine at_regq [{}, { ids := [5, 6, 7] }] { ts := [2, 3, 4], os := [1, 2, 3, 5, 6, 7] } [B_spec_l19Made.pre (newC x0) (())] gamOK hT h (by kernel_rfl) ⟨(by exact Int.le_refl 0), trivial⟩ fun a w h => then_normal (wp_ret ?_)
 exact at_return ((madeD (newC x0)).2.1, ((madeD (newC x0)).2.2.1, ((madeD (newC x0)).2.2.2, ()))) [] h (by kernel_rfl) trivial (congrArg (fun z => (z.1, z.2.1, z.2.2, ())) (show (((madeD (newC x0)).2.1, (madeD (newC x0)).2.2.1, (madeD (newC x0)).2.2.2)) = drawS x0 from by rfl))
structure DrawSOK (d : T26 × List Int × T31) : Prop where
 hk : hsOK d.2.1 d.1
 id : 0 ≤ d.1.1 ∧ d.1.1 ≤ 4
 len : 1 ≤ List.length d.1.2 ∧ List.length d.1.2 ≤ 4
 col : 1 ≤ List.length d.2.1 ∧ List.length d.2.1 ≤ 16
 fg : Sh.fit s26 d.1
 fk : Sh.fit s29 d.2.1
 man : ∃ s src, (isKey s = true ∧ 0 ≤ src ∧ src ≤ 2) ∧ d.2.2 = mkMan s src d.2.1 d.1
 fm : Sh.fit s31 d.2.2
theorem drawS_ok (x : List Int) : DrawSOK (drawS x) := by
 obtain ⟨h1, h2, h3, s, src, h4, h5⟩ := madeD_ok (x := newC x) (Int.le_refl 0)
 have hv := validG_t h2.1
 have hk := (validK_t h3.1).1
 have hl := hashSyms_len (k := (madeD (newC x)).2.2.1) (g := (madeD (newC x)).2.1)
 have hm : List.length (madeD (newC x)).2.2.2.2.2.2.2.1 ≤ 8 := by
  rw [h5]; show List.length (hashSyms _ _) ≤ 8; omega
 exact ⟨h3, ⟨hv.1.1, h2.2.1⟩, ⟨hv.2.1.1, h2.2.2.1⟩, hk, validG_fit h2.1, ⟨Nat.le_trans hk.2 (by decide), fun _ _ => trivial⟩, ⟨s, src, h4, h5⟩, ⟨trivial, trivial, trivial, trivial, ⟨Nat.le_trans hm (by decide), fun _ _ => trivial⟩, trivial⟩⟩

theorem codePk_ok {g : T26} {cs : List Int} (h : validG g = true) (hc : LA.VokB g.2.length cs) : codePk g cs = ((g.1, cs, combS g.2 cs), true) := by
 have hg := validG_t h
 rw [← codePk_y h (validV_of hc (by omega)) hc.1, genC h hc]
theorem combS_ok {g : T26} {cs : List Int} (h : validG g = true) (hc : LA.VokB g.2.length cs) : LA.VokB (g.2.getD 0 []).length (combS g.2 cs) := by
 have hm := validM_ok (validG_t h).2.2.1
 exact combTo_ok rfl (fun j => hc.rng j) g.2.length fun j hj => hm _ (LA.getD_in hj)
def pktD (x0 : T109) (x1 : T26) : T109 × T42 := ((vecD x0 ((List.length x1.2 : Nat) : Int)).1, (codePk x1 (vecD x0 ((List.length x1.2 : Nat) : Int)).2).1)
abbrev Q_spec_l11Packet := (fun (x0 : T109) (x1 : T26) => 0 ≤ x0.2.1 ∧ validG x1 = true)
def B_spec_l11Packet : BS := { t := 109, s := s109, dom := [s26], cod := [s42], pre := fun y x => Q_spec_l11Packet y x.1, upd := fun y x => (pktD y x.1).1, g := fun y x => ((pktD y x.1).2, ()) }
def S_spec_l11Packet : Sum := bSum 120 B_spec_l11Packet
def S_spec_l11Packet_tab : List (Nat × Sum) := [(153, S_spec_l5Vector), (16, S_spec_CodePacket)]
theorem S_spec_l11Packet_ok : FnOK Try.prog 120 S_spec_l11Packet := by
 refine at_enterB (B := B_spec_l11Packet) 18 (fun v y x => ⟨[(0, aP 1 0), (1, aG [cI x.1.1, .ro s27 x.1.2])], [(1, oX 109 [.ro (.u8 5) y.1, cI y.2.1, cI y.2.2]), (2, oP 1 v)]⟩) Try.func120 rfl (by kernel_rfl) (fun v y x => rfl) ?_
 rintro w0 Z0 b0 x0 ⟨x1, u⟩ a w
 revert x0 x1
 intro (x0 : T109) (x1 : T26) hpre hlens0 hlens h
 replace h : At w0 Z0 [b0] 18 ⟨[(0, aP 1 0), (1, aG [cI x1.1, .ro s27 x1.2])], [(1, oX 109 [.ro (.u8 5) x0.1, cI x0.2.1, cI x0.2.2]), (2, oP 1 (Value.pointer (some ⟨b0, 0, none⟩)))]⟩ a w := h
 replace hpre : Q_spec_l11Packet x0 x1 := hpre
 have hl1 : List.length x0.1 ≤ 9223372036854775807 := hlens0.1.1
 have hu0 : u8L x0.1 := hlens0.1.2
 have hl2 : List.length x1.2 ≤ 9223372036854775807 := hlens.1.2.1
 have hT : TabOK Try.prog S_spec_l11Packet_tab := (.cons S_spec_l5Vector_ok (.cons S_spec_CodePacket_ok .nil))
 have hvg := validG_t hpre.2
 have hvd := vecD_ok (n := ((List.length x1.2 : Nat) : Int)) hpre.1
 have hvl := hvd.2.1
 have hgf := validG_fit hpre.2
 refine wp_seq ?_
 refine at_regq [{ ids := [3] }, { ids := [4] }] { ts := [0, 3, 4], os := [1, 2, 3, 4] } [] gamOK hT h (by kernel_rfl) trivial fun a w h => then_normal (wp_seq ?_)
 refine at_anyq [{}, {}, {}, {}, {}, { ids := [5] }, { ids := [6, 7] }, {}, {}, {}, { ids := [8] }, {}, {}] { ts := [4, 5], os := [1, 2, 4, 6, 7, 8] } [B_spec_l5Vector.pre x0 (((List.length x1.2 : Nat) : Int), ()), Q_spec_CodePacket x1 (vecD x0 ((List.length x1.2 : Nat) : Int)).2] gamOK hT mixed h (by kernel_rfl) ⟨(by exact ⟨hpre.1, by omega⟩), (by exact ⟨hgf, Sh.fit_len rfl (by omega)⟩), trivial⟩ fun a w h => then_normal (wp_seq ?_)
 refine at_regq [] { ts := [4], os := [1, 2, 4, 6, 7] } [] gamOK hT h (by kernel_rfl) trivial fun a w h => then_normal (wp_ret ?_)
 have hr1 : (((vecD x0 ((List.length x1.2 : Nat) : Int)).1, (codePk x1 (vecD x0 ((List.length x1.2 : Nat) : Int)).2).1) : T109 × T42) = pktD x0 x1 := by rfl
 exact at_returnB (B := B_spec_l11Packet) (c0 := x0) (x := (x1, ())) ((vecD x0 ((List.length x1.2 : Nat) : Int)).1) ((codePk x1 (vecD x0 ((List.length x1.2 : Nat) : Int)).2).1, ()) [(Value.pointer (some ⟨b0, 0, none⟩)) = (Value.pointer (some ⟨b0, 0, none⟩))] h (by kernel_rfl) ⟨rfl, trivial⟩ (congrArg (a₁ := ((vecD x0 ((List.length x1.2 : Nat) : Int)).1, (codePk x1 (vecD x0 ((List.length x1.2 : Nat) : Int)).2).1)) (a₂ := pktD x0 x1) (fun (z : T109 × T42) => z.1) hr1) (congrArg (a₁ := ((vecD x0 ((List.length x1.2 : Nat) : Int)).1, (codePk x1 (vecD x0 ((List.length x1.2 : Nat) : Int)).2).1)) (a₂ := pktD x0 x1) (fun (z : T109 × T42) => (z.2, ())) hr1)
theorem pktD_ok {x : T109} {g : T26} (h : 0 ≤ x.2.1) (hg : validG g = true) : 0 ≤ (pktD x g).1.2.1 ∧ (pktD x g).2.1 = g.1 ∧ LA.VokB g.2.length (pktD x g).2.2.1 ∧ (pktD x g).2.2.2 = combS g.2 (pktD x g).2.2.1 := by
 have hvd := vecD_ok (n := ((List.length g.2 : Nat) : Int)) h
 have hv2 := hvd.2
 rw [Int.toNat_natCast] at hv2
 unfold pktD
 rw [codePk_ok hg hv2]
 exact ⟨hvd.1, rfl, hv2, rfl⟩
theorem pktD_fit {x : T109} {g : T26} (h : 0 ≤ x.2.1) (hg : validG g = true) : Sh.fit s42 (pktD x g).2 := by
 obtain ⟨h1, h2, h3, h4⟩ := pktD_ok h hg
 have hv := validG_t hg
 have hc := combS_ok hg h3
 have hco := colsOf_at (m := g.2) (by omega)
 refine ⟨trivial, ⟨by have := h3.1; omega, fun _ _ => trivial⟩, ⟨?_, fun _ _ => trivial⟩⟩
 rw [h4]; have := hc.1; omega
theorem pktD_len {x : T109} {g : T26} (h : 0 ≤ x.2.1) (hg : validG g = true) : List.length (pktD x g).2.2.1 ≤ 8 ∧ (1 ≤ List.length (pktD x g).2.2.2 ∧ List.length (pktD x g).2.2.2 ≤ 16) ∧ ∀ j, 0 ≤ (pktD x g).2.2.2.getD j 0 ∧ (pktD x g).2.2.2.getD j 0 ≤ 1018 := by
 obtain ⟨_, _, h3, h4⟩ := pktD_ok h hg
 have hv := validG_t hg
 have hc := combS_ok hg h3
 have hco := colsOf_at (m := g.2) (by omega)
 rw [h4]
 exact ⟨by have := h3.1; omega, by have := hc.1; omega, fun j => hc.rng j⟩

def atsL (x : List Int) (o : Int) (n : Nat) : List Int := (List.range n).map fun (j : Nat) => atF x ((j : Int) + o)
theorem atsL_len (x : List Int) (o : Int) (n : Nat) : (atsL x o n).length = n := by simp [atsL]
theorem atsL_at {x : List Int} {o : Int} {n i : Nat} (h : i < n) : (atsL x o n).getD i 0 = atF x ((i : Int) + o) := by rw [getD_of_lt (by rw [atsL_len]; exact h)]; simp [atsL]
theorem atsL_zero (x : List Int) (o : Int) (n : Nat) : List.replicate n (0 : Int) = copyTo 0 (atsL x o n) 0 := by
 have e := copyTo_zero (z := (0 : Int)) (xs := atsL x o n)
 rw [atsL_len] at e; exact e
theorem atsL_set {x : List Int} {o : Int} {n i : Nat} (h : i < n) : (copyTo 0 (atsL x o n) i).set i (atF x ((i : Int) + o)) = copyTo 0 (atsL x o n) (i + 1) := by
 rw [← atsL_at h]; exact copyTo_set (by rw [atsL_len]; exact h)
theorem atsL_set0 {x : List Int} {n i : Nat} (h : i < n) : (copyTo 0 (atsL x 0 n) i).set i (atF x (i : Int)) = copyTo 0 (atsL x 0 n) (i + 1) := by
 have := atsL_set (x := x) (o := 0) h
 rwa [Int.add_zero] at this
theorem atsL_ok {x : List Int} (hu : u8L x) {o : Int} (ho : 0 ≤ o) (n : Nat) : LA.VokB n (atsL x o n) := ⟨atsL_len x o n, fun y hy => by
 obtain ⟨j, _, rfl⟩ := List.mem_map.1 hy
 have := at_bd hu (i := (j : Int) + o) (by omega)
 unfold LA.El; omega⟩
def fp (x : GF) : Nat → GF
 | 0 => 1
 | n + 1 => fp x n * x
theorem fp_add (x : GF) (a : Nat) : ∀ b, fp x (a + b) = fp x a * fp x b
 | 0 => by show fp x a = fp x a * 1; grind
 | b + 1 => by show fp x (a + b) * x = fp x a * (fp x b * x); rw [fp_add x a b]; grind
theorem fp_mulx (x y : GF) : ∀ n, fp (x * y) n = fp x n * fp y n
 | 0 => by show (1 : GF) = 1 * 1; decide
 | n + 1 => by show fp (x * y) n * (x * y) = (fp x n * x) * (fp y n * y); rw [fp_mulx x y n]; grind
theorem fp_one : ∀ n, fp 1 n = 1
 | 0 => rfl
 | n + 1 => by show fp 1 n * 1 = 1; rw [fp_one n]; decide
theorem fp_mul (x : GF) (a : Nat) : ∀ b, fp x (a * b) = fp (fp x a) b
 | 0 => rfl
 | b + 1 => by rw [Nat.mul_succ, fp_add, fp_mul x a b]; rfl
theorem fp_mod {x : GF} (h : fp x 1019 = 1) (n : Nat) : fp x (n % 1019) = fp x n := by
 have e : n = 1019 * (n / 1019) + n % 1019 := (Nat.div_add_mod n 1019).symm
 have e2 : fp x n = fp x (1019 * (n / 1019)) * fp x (n % 1019) := by rw [← fp_add, ← e]
 rw [e2, fp_mul, h, fp_one]; grind
theorem gpw_fp : ∀ (f n : Nat) (x : GF), n < 2 ^ f → gpw f x n = fp x n
 | 0, n, x, h => by
  have : n = 0 := by simpa using h
  subst this; rfl
 | f + 1, n, x, h => by
  have ih := gpw_fp f (n / 2) (x * x) (by rw [Nat.pow_succ] at h; omega)
  simp only [gpw]
  rw [ih]
  by_cases h0 : n = 0
  ·subst h0; rfl
  ·have e0 : n.beq 0 = false := by cases n with | zero => exact absurd rfl h0 | succ n => rfl
   rw [e0]; simp only [cond_false]
   have e1 : fp (x * x) (n / 2) = fp x (2 * (n / 2)) := by
    rw [fp_mul]; congr 1
    show x * x = (1 * x) * x; grind
   rw [e1]
   by_cases ho : n % 2 = 1
   ·rw [ho]; simp only [Nat.beq, cond_true]
    have e2 : fp x n = fp x (2 * (n / 2) + 1) := by congr 1; omega
    rw [e2]
    show x * _ = fp x (2 * (n / 2)) * x; grind
   ·have ho' : n % 2 = 0 := by omega
    rw [ho']; simp only [Nat.beq, cond_false]
    have e2 : fp x n = fp x (2 * (n / 2)) := by congr 1; omega
    rw [e2]; grind
theorem fp_grp {x : Int} (h : isGrp x = true) : fp (gc x) 1019 = 1 := by
 rw [← gpw_fp 10 1019 _ (by decide)]; exact (isGrp_iff.1 h).2
def hz (es : List Int) (v : Nat → Nat) : Nat → GF
 | 0 => 1
 | i + 1 => hz es v i * fp (gc (es.getD i 0)) (v i)
theorem hpw_hz {es xs : List Int} (he : ∀ g ∈ es, isGrp g = true) (hx : ∀ j, 0 ≤ xs.getD j 0 ∧ xs.getD j 0 ≤ 1018) : ∀ i, i ≤ es.length → gc (hpw es xs i) = hz es (fun j => (xs.getD j 0).toNat) i
 | 0, _ => rfl
 | i + 1, hi => by
  have ih := hpw_hz he hx i (by omega)
  have h1 := isGrp_t (hpw_grp he hx i (by omega))
  have h2 := hx i
  have h3 := pow_bd (grp_at he i) (n := xs.getD i 0) (by omega)
  simp only [hpw, hz]
  rw [gc_mod (Int.mul_nonneg (by omega) h3.1), gc_mul (by omega) h3.1, ih, pow_gc (grp_at he i) (by omega), gpw_fp 10 _ _ (by omega)]
theorem hz_grp {es : List Int} {v : Nat → Nat} (he : ∀ g ∈ es, isGrp g = true) : ∀ i, i ≤ es.length → fp (hz es v i) 1019 = 1
 | 0, _ => fp_one _
 | i + 1, hi => by
  simp only [hz]
  rw [fp_mulx, hz_grp he i (by omega), ← fp_mul, Nat.mul_comm, fp_mul, fp_grp (he _ (getD_mem (z := 0) (by omega))), fp_one]; decide
theorem hz_congr {es : List Int} {v w : Nat → Nat} : ∀ i, (∀ j, j < i → v j = w j) → hz es v i = hz es w i
 | 0, _ => rfl
 | i + 1, h => by simp only [hz]; rw [hz_congr i (fun j hj => h j (by omega)), h i (by omega)]
theorem hz_null {es : List Int} : ∀ i, hz es (fun _ => 0) i = 1
 | 0 => rfl
 | i + 1 => by simp only [hz]; rw [hz_null i]; show (1 : GF) * 1 = 1; decide
theorem hz_add {es : List Int} {a b : Nat → Nat} {c : Nat} (he : ∀ g ∈ es, isGrp g = true) : ∀ i, i ≤ es.length → hz es (fun j => (a j + c * b j) % 1019) i = hz es a i * fp (hz es b i) c
 | 0, _ => by simp only [hz]; rw [fp_one]; decide
 | i + 1, hi => by
  have ih := hz_add (a := a) (b := b) (c := c) he i (by omega)
  simp only [hz]
  rw [ih, fp_mod (fp_grp (he _ (getD_mem (z := 0) (by omega)))), fp_add, fp_mulx, Nat.mul_comm c, fp_mul]; grind
theorem hz_comb {k cs : List Int} {vs : List (List Int)} {n : Nat} (hk : ∀ g ∈ k, isGrp g = true) (hn : k.length = n) (hv : ∀ j, j < vs.length → LA.VokB n (vs.getD j [])) (h0 : (vs.getD 0 []).length = n) (hc : ∀ j, 0 ≤ cs.getD j 0 ∧ cs.getD j 0 ≤ 1018) : ∀ i, i ≤ vs.length → hz k (fun j => ((combTo vs cs i).getD j 0).toNat) n = hz (vs.map (powsL k)) (fun j => (cs.getD j 0).toNat) i
 | 0, _ => by
  show hz k (fun j => ((combTo vs cs 0).getD j 0).toNat) n = 1
  rw [← hz_null (es := k) n]
  refine hz_congr n fun j hj => ?_
  simp only [combTo]
  rw [List.getD_eq_getElem?_getD, List.getElem?_replicate]
  split <;> rfl
 | i + 1, hi => by
  have ih := hz_comb hk hn hv h0 hc i (by omega)
  have hci := hc i
  have ho := combTo_ok (n := n) (vs := vs) (cs := cs) h0 hc i (fun j hj => hv j (by omega))
  have hvi := hv i (by omega)
  have e1 : hz k (fun j => ((combTo vs cs (i + 1)).getD j 0).toNat) n = hz k (fun j => (((combTo vs cs i).getD j 0).toNat + (cs.getD i 0).toNat * ((vs.getD i []).getD j 0).toNat) % 1019) n := by
   refine hz_congr n fun j hj => ?_
   simp only [combTo]
   rw [LA.addS_at (by rw [ho.1, hvi.1])]
   have g1 := ho.rng j
   have g2 := hvi.rng j
   have g3 := Int.mul_nonneg hci.1 g2.1
   rw [Int.tmod_eq_emod_of_nonneg (by omega), Int.toNat_emod (by omega) (by decide), Int.toNat_add g1.1 g3, Int.toNat_mul hci.1 g2.1]
   rfl
  rw [e1, hz_add hk n (by omega), ih]
  show _ = hz (vs.map (powsL k)) (fun j => (cs.getD j 0).toNat) i * fp (gc ((vs.map (powsL k)).getD i 0)) (cs.getD i 0).toNat
  congr 2
  have e2 : (vs.map (powsL k)).getD i 0 = powsL k (vs.getD i []) := by
   rw [getD_of_lt (by rw [List.length_map]; omega), getD_of_lt (by omega), List.getElem_map]
  rw [e2]; unfold powsL
  rw [hpw_hz hk hvi.rng _ (Nat.le_refl _), hn]
theorem gc_small {x y : Int} (hx : isGrp x = true) (hy : isGrp y = true) (h : gc x = gc y) : x = y := by
 have a := isGrp_t hx; have b := isGrp_t hy
 exact gc_inj (by omega) (by omega) h
theorem hash_comb {k cs : List Int} {vs : List (List Int)} (hk : ∀ g ∈ k, isGrp g = true) (hv : ∀ j, j < vs.length → LA.VokB k.length (vs.getD j [])) (h0 : (vs.getD 0 []).length = k.length) (hc : ∀ j, 0 ≤ cs.getD j 0 ∧ cs.getD j 0 ≤ 1018) : powsL k (combS vs cs) = powsL (vs.map (powsL k)) cs := by
 have hg : ∀ g ∈ vs.map (powsL k), isGrp g = true := fun g h => by
  obtain ⟨r, hr, rfl⟩ := List.mem_map.1 h
  obtain ⟨i, hi, rfl⟩ := List.getElem_of_mem hr
  have := hv i hi
  rw [getD_of_lt hi] at this
  exact hpw_grp hk this.rng _ (Nat.le_refl _)
 have ho := combTo_ok (n := k.length) (vs := vs) (cs := cs) h0 hc vs.length hv
 have e := hz_comb hk rfl hv h0 hc vs.length (Nat.le_refl _)
 have e0 : ∀ es xs : List Int, powsL es xs = hpw es xs es.length := fun _ _ => rfl
 rw [e0 k, e0 (vs.map (powsL k))]
 unfold combS
 refine gc_small (hpw_grp hk ho.rng _ (Nat.le_refl _)) (hpw_grp hg hc _ (Nat.le_refl _)) ?_
 rw [hpw_hz hk ho.rng _ (Nat.le_refl _), hpw_hz hg hc _ (Nat.le_refl _), e, List.length_map]
theorem hz_bump {es : List Int} {v : Nat → Nat} {d x : Nat} (he : ∀ g ∈ es, isGrp g = true) : ∀ i, i ≤ es.length → hz es (fun j => if j = d then (v j + x) % 1019 else v j) i = hz es v i * (if d < i then fp (gc (es.getD d 0)) x else 1)
 | 0, _ => by simp only [hz]; rw [if_neg (by omega)]; decide
 | i + 1, hi => by
  have ih := hz_bump (v := v) (d := d) (x := x) he i (by omega)
  simp only [hz]
  rw [ih]
  by_cases h : i = d
  ·subst h
   rw [if_neg (by omega), if_pos rfl, if_pos (by omega), fp_mod (fp_grp (he _ (getD_mem (z := 0) (by omega)))), fp_add]; grind
  ·rw [if_neg h]
   by_cases h2 : d < i
   ·rw [if_pos h2, if_pos (by omega)]; grind
   ·rw [if_neg h2, if_neg (by omega)]; grind
theorem fp_prime {x : GF} (h : fp x 1019 = 1) {n : Nat} (h0 : 1 ≤ n ∧ n ≤ 1018) (h1 : fp x n = 1) : x = 1 := by
 have hf := LA.fermat (Fin.ofNat 1019 n) (fun e => by have := congrArg Fin.val e; simp [Fin.ofNat] at this; omega)
 generalize LA.pwB 10 (Fin.ofNat 1019 n) 1017 = u at hf
 have h2 := congrArg Fin.val hf
 rw [Fin.val_mul] at h2
 have h3 : (n * u.val) % 1019 = 1 := by
  have : (Fin.ofNat 1019 n).val = n := by show n % 1019 = n; omega
  rw [this] at h2; exact h2
 have h4 : fp x ((n * u.val) % 1019) = 1 := by rw [fp_mod h, fp_mul, h1, fp_one]
 rw [h3] at h4
 have : fp x 1 = x := by show 1 * x = x; grind
 rw [← this]; exact h4
theorem hash_bump {k v : List Int} {d : Nat} {x : Int} (hk : ∀ g ∈ k, isGrp g = true) (h1 : ∀ g ∈ k, g ≠ 1) (hv : LA.VokB k.length v) (hd : d < k.length) (hx : 1 ≤ x ∧ x ≤ 1018) : powsL k (v.set d ((v.getD d 0 + x).tmod 1019)) ≠ powsL k v := by
 intro e
 have hvr := hv.rng
 have hvd := hvr d
 have hb := LA.tmod_lt (show 0 ≤ v.getD d 0 + x by omega) (show (0 : Int) < 1019 by decide)
 have hs : ∀ j, (v.set d ((v.getD d 0 + x).tmod 1019)).getD j 0 = if j = d then (v.getD d 0 + x).tmod 1019 else v.getD j 0 := fun j => by
  rw [List.getD_eq_getElem?_getD, List.getElem?_set]
  by_cases hj : d = j
  ·subst hj; rw [if_pos rfl, if_pos rfl, if_pos (by rw [hv.1]; exact hd)]; rfl
  ·rw [if_neg hj, if_neg (fun e => hj e.symm), List.getD_eq_getElem?_getD]
 have hr : ∀ j, 0 ≤ (v.set d ((v.getD d 0 + x).tmod 1019)).getD j 0 ∧ (v.set d ((v.getD d 0 + x).tmod 1019)).getD j 0 ≤ 1018 := fun j => by
  rw [hs]; split
  ·omega
  ·exact hvr j
 have e1 := congrArg gc e
 unfold powsL at e1
 rw [hpw_hz hk hr _ (Nat.le_refl _), hpw_hz hk hvr _ (Nat.le_refl _)] at e1
 have e2 : hz k (fun j => ((v.set d ((v.getD d 0 + x).tmod 1019)).getD j 0).toNat) k.length = hz k (fun j => if j = d then ((v.getD j 0).toNat + x.toNat) % 1019 else (v.getD j 0).toNat) k.length := hz_congr _ fun j _ => by
  rw [hs]; split
  ·rename_i hj; subst hj
   rw [Int.tmod_eq_emod_of_nonneg (by omega)]; omega
  ·rfl
 rw [e2, hz_bump (v := fun j => (v.getD j 0).toNat) hk k.length (Nat.le_refl _), if_pos hd] at e1
 have hg := hz_grp (v := fun j => (v.getD j 0).toNat) hk k.length (Nat.le_refl _)
 generalize hz k (fun j => (v.getD j 0).toNat) k.length = z at e1 hg
 have hi : fp z 1018 * z = 1 := hg
 have e3 : fp (gc (k.getD d 0)) x.toNat = 1 := by
  have : fp z 1018 * (z * fp (gc (k.getD d 0)) x.toNat) = fp z 1018 * z := by rw [e1]
  rw [hi] at this
  have h2 : fp z 1018 * (z * fp (gc (k.getD d 0)) x.toNat) = (fp z 1018 * z) * fp (gc (k.getD d 0)) x.toNat := by grind
  rw [h2, hi] at this
  have h3 : (1 : GF) * fp (gc (k.getD d 0)) x.toNat = fp (gc (k.getD d 0)) x.toNat := by grind
  rw [h3] at this; exact this
 have hm := getD_mem (z := (0 : Int)) hd
 have h4 := fp_prime (fp_grp (hk _ hm)) (n := x.toNat) (by omega) e3
 exact h1 _ hm (gc_small (hk _ hm) isGrp_one h4)
theorem hsOK_rows {k : List Int} {g : T26} (h : hsOK k g) : (∀ j, j < g.2.length → LA.VokB k.length (g.2.getD j [])) ∧ (g.2.getD 0 []).length = k.length := by
 have h1 := validG_t h.2.1
 have h2 := validM_ok h1.2.2.1
 have h3 := colsOf_at (m := g.2) (by omega)
 have h4 := h.2.2
 have h5 : (g.2.getD 0 []).length = k.length := by omega
 refine ⟨fun j hj => ?_, h5⟩
 have := h2 _ (LA.getD_in hj)
 rwa [h5] at this
theorem verH_iff {k cs y : List Int} {g : T26} {a : Int} (h : hsOK k g) (hc : LA.VokB g.2.length cs) (hy : LA.VokB k.length y) : verH k (hashSyms k g) (a, cs, y) = true ↔ powsL k y = powsL k (combS g.2 cs) := by
 have hk := validK_t h.1
 have h1 := validG_t h.2.1
 obtain ⟨hr, h0⟩ := hsOK_rows h
 have e1 : hashV k y = powsL k y := by
  unfold hashV
  rw [if_pos h.1, if_pos (validV_of hy (by omega)), if_pos (by have := hy.1; omega)]
 have e2 : hashSyms k g = g.2.map (powsL k) := by
  unfold hashSyms; rw [if_pos h]
 have hg : (hashSyms k g).all isGrp = true := List.all_eq_true.2 fun z hz => by
  rw [e2] at hz
  obtain ⟨r, hr', rfl⟩ := List.mem_map.1 hz
  obtain ⟨i, hi, rfl⟩ := List.getElem_of_mem hr'
  have := hr i hi
  rw [getD_of_lt hi] at this
  exact hpw_grp hk.2 this.rng _ (Nat.le_refl _)
 have e3 : combH (hashSyms k g) cs = powsL k (combS g.2 cs) := by
  unfold combH
  rw [if_pos ⟨validV_of hc (by omega), by rw [e2, List.length_map, hc.1], hg⟩, hash_comb hk.2 hr h0 hc.rng, e2]
 have hy1 : isGrp (powsL k y) = true := hpw_grp hk.2 hy.rng _ (Nat.le_refl _)
 have hy2 := isGrp_t hy1
 unfold verH
 simp only [e1, e3]
 rw [if_neg (by omega), decide_eq_true_iff]
theorem chk_at {s src a : Int} {k cs y : List Int} {g : T26} (h : hsOK k g) (hs : 0 ≤ src ∧ src ≤ 7) (hc : LA.VokB g.2.length cs) (hy : LA.VokB k.length y) (ha : 0 ≤ a ∧ a ≤ 1000000000000) : checkP k (mkMan s src k g) (a, cs, y) = if a = g.1 then (if verH k (hashSyms k g) (a, cs, y) = true then 0 else 3) else 2 := by
 have hk := validK_t h.1
 have h1 := validG_t h.2.1
 have hf : isFmt a ((List.length g.2 : Nat) : Int) (colsOf g.2) = true := by
  unfold isFmt
  rw [if_pos (show inR a 0 1000000000000 = true from inR_true ha), if_pos (show inR ((List.length g.2 : Nat) : Int) 1 8 = true from inR_true (by omega))]
  exact inR_true h1.2.2.2
 have hv : validP (a, cs, y) ((List.length g.2 : Nat) : Int) (colsOf g.2) = true := validP_of ⟨hf, by show ((List.length cs : Nat) : Int) = _; rw [hc.1], by show ((List.length y : Nat) : Int) = _; rw [hy.1]; exact h.2.2.symm, validV_of hc (by omega), validV_of hy (by omega)⟩
 unfold checkP
 rw [if_pos (mkMan_ok h hs), if_pos h.1, if_pos (show (mkMan s src k g).2.2.2.1 = _ from h.2.2), if_pos (show validP (a, cs, y) (mkMan s src k g).2.2.1 (mkMan s src k g).2.2.2.1 = true from hv)]
 rfl
theorem combS_len {k cs : List Int} {g : T26} (h : hsOK k g) (hc : LA.VokB g.2.length cs) : LA.VokB k.length (combS g.2 cs) := by
 obtain ⟨hr, h0⟩ := hsOK_rows h
 exact combTo_ok h0 hc.rng g.2.length hr
theorem chk_code {s src : Int} {k cs : List Int} {g : T26} (h : hsOK k g) (hs : 0 ≤ src ∧ src ≤ 7) (hc : LA.VokB g.2.length cs) : checkP k (mkMan s src k g) (g.1, cs, combS g.2 cs) = 0 := by
 have h1 := validG_t h.2.1
 rw [chk_at h hs hc (combS_len h hc) (by omega), if_pos rfl, if_pos ((verH_iff h hc (combS_len h hc)).2 rfl)]
theorem validK_one {k : List Int} (h : validK k = true) : ∀ g ∈ k, g ≠ 1 := fun g hg e => by
 unfold validK at h
 split at h
 ·rename_i ha
  have := List.all_eq_true.1 ha g hg
  rw [e] at this
  exact absurd this (by simp)
 ·cases h
theorem chk_bump {s src x : Int} {k cs : List Int} {g : T26} {d : Nat} (h : hsOK k g) (hs : 0 ≤ src ∧ src ≤ 7) (hc : LA.VokB g.2.length cs) (hd : d < k.length) (hx : 1 ≤ x ∧ x ≤ 1018) : checkP k (mkMan s src k g) (g.1, cs, (combS g.2 cs).set d (((combS g.2 cs).getD d 0 + x).tmod 1019)) = 3 := by
 have h1 := validG_t h.2.1
 have hv := combS_len h hc
 have hvd := hv.rng d
 have hb := LA.El.mod (show 0 ≤ (combS g.2 cs).getD d 0 + x by omega)
 have hy : LA.VokB k.length ((combS g.2 cs).set d (((combS g.2 cs).getD d 0 + x).tmod 1019)) := ⟨by rw [List.length_set]; exact hv.1, fun z hz => by
  rcases List.mem_or_eq_of_mem_set hz with hz | hz
  ·exact hv.2 z hz
  ·rw [hz]; exact hb⟩
 rw [chk_at h hs hc hy (by omega), if_pos rfl, if_neg]
 intro e
 exact hash_bump (validK_t h.1).2 (validK_one h.1) hv hd hx ((verH_iff h hc hy).1 e)
def S_laws_sameInts : Sum := { fid := 39, dom := [s27, s27], cod := [(.bool 4)], dp := true, fz := false, pre := fun x => True, g := fun x => (((Sh.eqB s27) x.1 x.2.1), ()) }
def S_laws_sameInts_tab : List (Nat × Sum) := []
theorem S_laws_sameInts_ok : FnOK Try.prog 39 S_laws_sameInts := by
 refine at_enter 26 (fun x => ⟨[(0, aF (.int 3) x.1), (1, aF (.int 3) x.2.1)], []⟩) Try.func39 rfl (by kernel_rfl) (fun x => rfl) ?_
 rintro w0 Z0 ⟨x0, x1, u⟩ a w
 revert x0 x1
 intro (x0 : (List Int)) (x1 : (List Int)) hpre hlens h
 have hl1 : List.length x0 ≤ 9223372036854775807 := hlens.1.1
 have hl2 : List.length x1 ≤ 9223372036854775807 := hlens.2.1.1
 have hT : TabOK Try.prog S_laws_sameInts_tab := .nil
 refine wp_seq ?_
 refine at_regq [] { ts := [0, 1, 4], os := [] } [] gamOK hT h (by kernel_rfl) trivial fun a w h => then_normal (wp_seq (wp_seq ?_))
 refine at_regq [] { ts := [0, 1, 4, 10], os := [] } [] gamOK hT h (by kernel_rfl) trivial fun a w h => then_normal ?_
 refine at_test (!decide (((List.length x0 : Nat) : Int) = ((List.length x1 : Nat) : Int))) h (by kernel_rfl) (fun h1 => ?_) (fun h1 => ?_)
 ·replace h1 : ¬ (((List.length x0 : Nat) : Int) = ((List.length x1 : Nat) : Int)) := of_decide_eq_false (notT h1)
  refine wp_seq ?_
  refine at_regq [] { ts := [0, 1, 4], os := [] } [] gamOK hT h (by kernel_rfl) trivial fun a w h => then_normal (wp_ret (then_ret ?_))
  exact at_return (false, ()) [] h (by kernel_rfl) trivial (congrArg (fun z => (z, ())) (show (false) = (Sh.eqB s27) x0 x1 from by exact (Sh.eqB_ne (fun e => h1 (by rw [e]))).symm))
 ·replace h1 : ((List.length x0 : Nat) : Int) = ((List.length x1 : Nat) : Int) := of_decide_eq_true (notF h1)
  refine wp_skip (then_normal (wp_seq (wp_seq ?_)))
  refine at_regq [] { ts := [0, 1, 4, 5], os := [] } [] gamOK hT h (by kernel_rfl) trivial fun a w h => then_normal (wp_block ?_)
  replace h := at_out (σ' := ⟨[(0, aF (.int 3) x0), (1, aF (.int 3) x1), (4, aB false), (5, aI 0)], []⟩) { ts := [0, 1, 4, 5], os := [] } h (by kernel_rfl)
  refine at_loop (fun i : Nat => (⟨[(0, aF (.int 3) x0), (1, aF (.int 3) x1), (4, aB false), (5, aI ((i : Nat) : Int))], []⟩ : St)) (fun i => (i ≤ List.length x0 ∧ x0.take i = x1.take i)) (fun i => List.length x0 - i) (0) h (st_congr1 (fun (d0 : Int) => (⟨[(0, aF (.int 3) x0), (1, aF (.int 3) x1), (4, aB false), (5, aI d0)], []⟩ : St)) (show (0 : Int) = (((0) : Nat) : Int) from by first | with_reducible rfl | (rfl) | rfl)) (by exact ⟨Nat.zero_le _, rfl⟩) ?_
  intro i a w hok0 h
  refine wp_seq (wp_seq ?_)
  refine at_regq [] { ts := [0, 1, 4, 5, 14], os := [] } [] gamOK hT h (by kernel_rfl) trivial fun a w h => then_normal ?_
  refine at_test (decide (((i : Nat) : Int) < ((List.length x0 : Nat) : Int))) h (by kernel_rfl) (fun h2 => ?_) (fun h2 => ?_)
  ·replace h2 : ((i : Nat) : Int) < ((List.length x0 : Nat) : Int) := of_decide_eq_true h2
   refine wp_skip (then_normal (wp_seq (wp_block (wp_seq ?_))))
   refine at_anyq [{}, {}, {}, {}, {}, {}, {}, {}, {}] { ts := [0, 1, 4, 5, 25], os := [] } [(0 : Int) ≤ ((i : Nat) : Int) ∧ ((i : Nat) : Int) < ((List.length x0 : Nat) : Int), (0 : Int) ≤ ((i : Nat) : Int) ∧ ((i : Nat) : Int) < ((List.length x1 : Nat) : Int)] gamOK hT mixed h (by kernel_rfl) ⟨(by refine ⟨?_, ?_⟩ <;> (first | omega | (simp only [lsA]; omega) | (simp <;> omega))), (by refine ⟨?_, ?_⟩ <;> (first | omega | (simp only [lsA]; omega) | (simp <;> omega))), trivial⟩ fun a w h => then_normal ?_
   refine at_test (!decide ((x0.getD i 0) = (x1.getD i 0))) h (by kernel_rfl) (fun h3 => ?_) (fun h3 => ?_)
   ·replace h3 : ¬ ((x0.getD i 0) = (x1.getD i 0)) := of_decide_eq_false (notT h3)
    refine wp_seq ?_
    refine at_regq [] { ts := [0, 1, 4, 5], os := [] } [] gamOK hT h (by kernel_rfl) trivial fun a w h => then_normal (wp_ret (in_ret (then_ret (then_ret (in_ret (then_ret ?_))))))
    exact at_return (false, ()) [] h (by kernel_rfl) trivial (congrArg (fun z => (z, ())) (show (false) = (Sh.eqB s27) x0 x1 from by exact (Sh.eqB_ne (s := s27) (fun e => h3 (by rw [e]))).symm))
   ·replace h3 : (x0.getD i 0) = (x1.getD i 0) := of_decide_eq_true (notF h3)
    refine wp_skip (in_normal (then_normal ?_))
    refine at_regq [{}, { nw := true }] { ts := [0, 1, 4, 5], os := [] } [I64 (((i : Nat) : Int) + 1)] gamOK hT h (by kernel_rfl) ⟨⟨by first | omega | (simp only [lsA]; omega) | (simp <;> omega), by first | omega | (simp only [lsA]; omega) | (simp <;> omega)⟩, trivial⟩ fun a w h => ?_
    replace h := at_out (σ' := ⟨[(0, aF (.int 3) x0), (1, aF (.int 3) x1), (4, aB false), (5, aI (((i : Nat) : Int) + 1))], []⟩) { ts := [0, 1, 4, 5], os := [] } h (by kernel_rfl)
    exact ⟨i + 1, at_eq h (st_congr1 (fun (d0 : Int) => (⟨[(0, aF (.int 3) x0), (1, aF (.int 3) x1), (4, aB false), (5, aI d0)], []⟩ : St)) (show (((i : Nat) : Int) + 1 : Int) = (((i + 1) : Nat) : Int) from by first | with_reducible rfl | (omega) | rfl)), (by exact ⟨by omega, eqTo_step (z := 0) (by omega) (by omega) hok0.2 h3⟩), (by omega)⟩
  ·replace h2 : ¬ (((i : Nat) : Int) < ((List.length x0 : Nat) : Int)) := of_decide_eq_false h2
   refine wp_exit (then_exit (then_exit (in_hit (then_normal (wp_seq ?_)))))
   refine at_regq [] { ts := [4], os := [] } [] gamOK hT h (by kernel_rfl) trivial fun a w h => then_normal (wp_ret ?_)
   exact at_return (true, ()) [] h (by kernel_rfl) trivial (congrArg (fun z => (z, ())) (show (true) = (Sh.eqB s27) x0 x1 from by (have e := hok0.2; rw [take_all (by omega), take_all (by omega)] at e; exact ((Sh.eqB_iff s27).2 e).symm)))

def S_laws_samePacket : Sum := { fid := 22, dom := [s42, s42], cod := [(.bool 4)], dp := true, fz := false, pre := fun x => True, g := fun x => (((Sh.eqB s42) x.1 x.2.1), ()) }
def S_laws_samePacket_tab : List (Nat × Sum) := [(39, S_laws_sameInts)]
theorem S_laws_samePacket_ok : FnOK Try.prog 22 S_laws_samePacket := by
 refine at_enter 24 (fun x => ⟨[(0, aG [cI x.1.1, .ro (.int 3) x.1.2.1, .ro (.int 3) x.1.2.2]), (1, aG [cI x.2.1.1, .ro (.int 3) x.2.1.2.1, .ro (.int 3) x.2.1.2.2])], []⟩) Try.func22 rfl (by kernel_rfl) (fun x => rfl) ?_
 rintro w0 Z0 ⟨x0, x1, u⟩ a w
 revert x0 x1
 intro (x0 : T42) (x1 : T42) hpre hlens h
 have hl1 : List.length x0.2.1 ≤ 9223372036854775807 := hlens.1.2.1.1
 have hl2 : List.length x0.2.2 ≤ 9223372036854775807 := hlens.1.2.2.1
 have hl3 : List.length x1.2.1 ≤ 9223372036854775807 := hlens.2.1.2.1.1
 have hl4 : List.length x1.2.2 ≤ 9223372036854775807 := hlens.2.1.2.2.1
 have hT : TabOK Try.prog S_laws_samePacket_tab := (.cons S_laws_sameInts_ok .nil)
 refine wp_seq ?_
 refine at_regq [{ ids := [1] }, { ids := [2] }] { ts := [2, 3, 4], os := [1, 2] } [] gamOK hT h (by kernel_rfl) trivial fun a w h => then_normal (wp_seq ?_)
 by_cases h1 : x0.1 = x1.1
 ·rcases Bool.eq_false_or_eq_true (((Sh.eqB s27) x0.2.1 x1.2.1)) with h2 | h2
  ·refine at_regq [{}, {}, {}, {}, { hint := some (aB true) }, {}, {}, {}, {}, {}, { hint := some (aB true) }] { ts := [4], os := [] } [(AV.p (.c (.v (.bool (decide (x0.1 = x1.1))))) = AV.p (.c (.v (.bool true)))), True, (AV.p (.c (.v (.bool (((Sh.eqB s27) x0.2.1 x1.2.1))))) = AV.p (.c (.v (.bool true)))), True] gamOK hT h (by kernel_rfl) ⟨hint_bool (decide_eq_true h1), trivial, hint_bool (h2), trivial, trivial⟩ fun a w h => then_normal (wp_ret ?_)
   exact at_return (((Sh.eqB s27) x0.2.2 x1.2.2), ()) [] h (by kernel_rfl) trivial (congrArg (fun z => (z, ())) (show (((Sh.eqB s27) x0.2.2 x1.2.2)) = (Sh.eqB s42) x0 x1 from by (show _ = Sh.eqB s42 x0 x1; simp_all [Sh.eqB])))
  ·refine at_regq [{}, {}, {}, {}, { hint := some (aB true) }, {}, {}, {}, {}, {}, { hint := some (aB false) }] { ts := [4], os := [] } [(AV.p (.c (.v (.bool (decide (x0.1 = x1.1))))) = AV.p (.c (.v (.bool true)))), True, (AV.p (.c (.v (.bool (((Sh.eqB s27) x0.2.1 x1.2.1))))) = AV.p (.c (.v (.bool false))))] gamOK hT h (by kernel_rfl) ⟨hint_bool (decide_eq_true h1), trivial, hint_bool (h2), trivial⟩ fun a w h => then_normal (wp_ret ?_)
   exact at_return (false, ()) [] h (by kernel_rfl) trivial (congrArg (fun z => (z, ())) (show (false) = (Sh.eqB s42) x0 x1 from by (show _ = Sh.eqB s42 x0 x1; simp_all [Sh.eqB])))
 ·refine at_regq [{}, {}, {}, {}, { hint := some (aB false) }] { ts := [4], os := [] } [(AV.p (.c (.v (.bool (decide (x0.1 = x1.1))))) = AV.p (.c (.v (.bool false))))] gamOK hT h (by kernel_rfl) ⟨hint_bool (decide_eq_false h1), trivial⟩ fun a w h => then_normal (wp_ret ?_)
  exact at_return (false, ()) [] h (by kernel_rfl) trivial (congrArg (fun z => (z, ())) (show (false) = (Sh.eqB s42) x0 x1 from by (show _ = Sh.eqB s42 x0 x1; simp_all [Sh.eqB])))

abbrev Q_impl_CodePacket := (fun (x0 : T26) (x1 : (List Int)) => Sh.fit s26 x0 ∧ Sh.fit s27 x1)
def S_impl_CodePacket : Sum := { fid := 70, dom := [s26, s27], cod := [s42, (.bool 4)], dp := true, fz := false, pre := fun x => Q_impl_CodePacket x.1 x.2.1, g := fun x => ((codePk x.1 x.2.1).1, ((codePk x.1 x.2.1).2, ())) }
def S_impl_CodePacket_tab : List (Nat × Sum) := [(103, S_impl_IsValidGeneration), (112, S_impl_IsValidVector), (109, S_slices_Clone_S_int_int_), (115, S_impl_codePacket)]
theorem S_impl_CodePacket_ok : FnOK Try.prog 70 S_impl_CodePacket := by
 refine at_enter 27 (fun x => ⟨[(0, aG [cI x.1.1, .ro s27 x.1.2]), (1, aF (.int 3) x.2.1)], []⟩) Try.func70 rfl (by kernel_rfl) (fun x => rfl) ?_
 rintro w0 Z0 ⟨x0, x1, u⟩ a w
 revert x0 x1
 intro (x0 : T26) (x1 : (List Int)) hpre hlens h
 replace hpre : Q_impl_CodePacket x0 x1 := hpre
 have hT : TabOK Try.prog S_impl_CodePacket_tab := (.cons S_impl_IsValidGeneration_ok (.cons S_impl_IsValidVector_ok (.cons S_slices_Clone_S_int_int__ok (.cons S_impl_codePacket_ok .nil))))
 obtain ⟨hf0, hf1⟩ := hpre
 have hn0_1 : List.length x0.2 ≤ 1073741824 := hf0.2.1
 have hn1_2 : List.length x1 ≤ 1073741824 := hf1.1
 refine wp_seq ?_
 refine at_regq [{ ids := [1] }, { ids := [2] }] { ts := [1, 2, 4, 5], os := [1, 2] } [] gamOK hT h (by kernel_rfl) trivial fun a w h => then_normal (wp_seq (wp_seq ?_))
 rcases Bool.eq_false_or_eq_true (!(validG x0)) with h1 | h1
 ·have hzh1 : (validG x0) = false := notT h1
  refine at_regq [{}, {}, { hint := some (aB true) }] { ts := [1, 2, 4, 5, 21], os := [1, 2] } [Q_impl_IsValidGeneration x0, (AV.p (.c (.v (.bool (!(validG x0))))) = AV.p (.c (.v (.bool true))))] gamOK hT h (by kernel_rfl) ⟨(by exact hf0), hint_bool (h1), trivial⟩ fun a w h => then_normal ?_
  refine at_test true h (by kernel_rfl) (fun hh => ?_) (fun hh => nomatch hh)
  refine wp_seq ?_
  refine at_regq [] { ts := [1, 2, 4, 5], os := [1, 2] } [] gamOK hT h (by kernel_rfl) trivial fun a w h => then_normal (wp_ret (then_ret ?_))
  exact at_return ((0, (([] : List Int), ([] : List Int))), (false, ())) [] h (by kernel_rfl) trivial (congrArg (fun z => (z.1, z.2, ())) (show (((0, (([] : List Int), ([] : List Int))), false)) = codePk x0 x1 from by first | exact codePk_n (by first | (left; assumption) | (right; left; assumption) | (right; right; omega)) | (rw [← codePk_y (cs := x1) (by assumption) (by assumption) (by omega), genC (cs := x1) (by assumption) ⟨by omega, (validV_t (by assumption)).2.1⟩]; rfl)))
 ·have hzh1 : (validG x0) = true := notF h1
  have hvh1 := validG_t (notF h1)
  rcases Bool.eq_false_or_eq_true (!(validV x1)) with h2 | h2
  ·have hzh2 : (validV x1) = false := notT h2
   refine at_regq [{}, {}, { hint := some (aB false) }, {}, {}, {}, { hint := some (aB true) }] { ts := [1, 2, 4, 5, 21], os := [1, 2] } [Q_impl_IsValidGeneration x0, (AV.p (.c (.v (.bool (!(validG x0))))) = AV.p (.c (.v (.bool false)))), Q_impl_IsValidVector x1, (AV.p (.c (.v (.bool (!(validV x1))))) = AV.p (.c (.v (.bool true))))] gamOK hT h (by kernel_rfl) ⟨(by exact hf0), hint_bool (h1), (by exact hf1), hint_bool (h2), trivial⟩ fun a w h => then_normal ?_
   refine at_test true h (by kernel_rfl) (fun hh => ?_) (fun hh => nomatch hh)
   refine wp_seq ?_
   refine at_regq [] { ts := [1, 2, 4, 5], os := [1, 2] } [] gamOK hT h (by kernel_rfl) trivial fun a w h => then_normal (wp_ret (then_ret ?_))
   exact at_return ((0, (([] : List Int), ([] : List Int))), (false, ())) [] h (by kernel_rfl) trivial (congrArg (fun z => (z.1, z.2, ())) (show (((0, (([] : List Int), ([] : List Int))), false)) = codePk x0 x1 from by first | exact codePk_n (by first | (left; assumption) | (right; left; assumption) | (right; right; omega)) | (rw [← codePk_y (cs := x1) (by assumption) (by assumption) (by omega), genC (cs := x1) (by assumption) ⟨by omega, (validV_t (by assumption)).2.1⟩]; rfl)))
  ·have hzh2 : (validV x1) = true := notF h2
   have hvh2 := validV_t (notF h2)
   refine at_regq [{}, {}, { hint := some (aB false) }, {}, {}, {}, { hint := some (aB false) }] { ts := [1, 2, 4, 5, 21], os := [1, 2] } [Q_impl_IsValidGeneration x0, (AV.p (.c (.v (.bool (!(validG x0))))) = AV.p (.c (.v (.bool false)))), Q_impl_IsValidVector x1, (AV.p (.c (.v (.bool (!(validV x1))))) = AV.p (.c (.v (.bool false))))] gamOK hT h (by kernel_rfl) ⟨(by exact hf0), hint_bool (h1), (by exact hf1), hint_bool (h2), trivial⟩ fun a w h => then_normal ?_
   refine at_test (!decide (((List.length x1 : Nat) : Int) = ((List.length x0.2 : Nat) : Int))) h (by kernel_rfl) (fun h3 => ?_) (fun h3 => ?_)
   ·replace h3 : ¬ (((List.length x1 : Nat) : Int) = ((List.length x0.2 : Nat) : Int)) := of_decide_eq_false (notT h3)
    refine wp_seq ?_
    refine at_regq [] { ts := [1, 2, 4, 5], os := [1, 2] } [] gamOK hT h (by kernel_rfl) trivial fun a w h => then_normal (wp_ret (then_ret ?_))
    exact at_return ((0, (([] : List Int), ([] : List Int))), (false, ())) [] h (by kernel_rfl) trivial (congrArg (fun z => (z.1, z.2, ())) (show (((0, (([] : List Int), ([] : List Int))), false)) = codePk x0 x1 from by first | exact codePk_n (by first | (left; assumption) | (right; left; assumption) | (right; right; omega)) | (rw [← codePk_y (cs := x1) (by assumption) (by assumption) (by omega), genC (cs := x1) (by assumption) ⟨by omega, (validV_t (by assumption)).2.1⟩]; rfl)))
   ·replace h3 : ((List.length x1 : Nat) : Int) = ((List.length x0.2 : Nat) : Int) := of_decide_eq_true (notF h3)
    refine wp_skip (then_normal (wp_seq ?_))
    refine at_anyq [{}, {}, { ids := [3] }, { ids := [4, 5] }, {}, {}] { ts := [4, 5], os := [2, 4, 5] } [(lenOK (α := Int)) x1, Q_impl_codePacket x0 x1] gamOK hT mixed h (by kernel_rfl) ⟨(by first | assumption | trivial | (first | omega | (simp only [lsA]; omega) | (simp <;> omega))), (by exact ⟨hf0, hf1, genP (by assumption) ⟨by omega, (validV_t (by assumption)).2.1⟩⟩), trivial⟩ fun a w h => then_normal (wp_ret ?_)
    exact at_return ((D_impl_codePacket x0 x1), (true, ())) [] h (by kernel_rfl) trivial (congrArg (fun z => (z.1, z.2, ())) (show (((D_impl_codePacket x0 x1), true)) = codePk x0 x1 from by first | exact codePk_n (by first | (left; assumption) | (right; left; assumption) | (right; right; omega)) | (rw [← codePk_y (cs := x1) (by assumption) (by assumption) (by omega), genC (cs := x1) (by assumption) ⟨by omega, (validV_t (by assumption)).2.1⟩]; rfl)))

def consB (x0 : T26) (x1 : T42) : Bool := (if (codePk x0 x1.2.1).2 = true then ((Sh.eqB s42) (codePk x0 x1.2.1).1 x1) else false)
abbrev Q_impl_IsConsistent := (fun (x0 : T26) (x1 : T42) => Sh.fit s26 x0 ∧ Sh.fit s42 x1)
def S_impl_IsConsistent : Sum := { fid := 21, dom := [s26, s42], cod := [(.bool 4)], dp := true, fz := false, pre := fun x => Q_impl_IsConsistent x.1 x.2.1, g := fun x => ((consB x.1 x.2.1), ()) }
def S_impl_IsConsistent_tab : List (Nat × Sum) := [(70, S_impl_CodePacket), (71, S_impl_EqualPackets)]
theorem S_impl_IsConsistent_ok : FnOK Try.prog 21 S_impl_IsConsistent := by
 refine at_enter 20 (fun x => ⟨[(0, aG [cI x.1.1, .ro s27 x.1.2]), (1, aG [cI x.2.1.1, .ro (.int 3) x.2.1.2.1, .ro (.int 3) x.2.1.2.2])], []⟩) Try.func21 rfl (by kernel_rfl) (fun x => rfl) ?_
 rintro w0 Z0 ⟨x0, x1, u⟩ a w
 revert x0 x1
 intro (x0 : T26) (x1 : T42) hpre hlens h
 replace hpre : Q_impl_IsConsistent x0 x1 := hpre
 have hT : TabOK Try.prog S_impl_IsConsistent_tab := (.cons S_impl_CodePacket_ok (.cons S_impl_EqualPackets_ok .nil))
 obtain ⟨hf0, hf1⟩ := hpre
 have hn0_1 : List.length x0.2 ≤ 1073741824 := hf0.2.1
 have hn1_2 : List.length x1.2.1 ≤ 1073741824 := hf1.2.1.1
 have hn1_3 : List.length x1.2.2 ≤ 1073741824 := hf1.2.2.1
 refine wp_seq ?_
 refine at_regq [{ ids := [1] }, { ids := [2] }] { ts := [2, 3, 4], os := [1, 2] } [] gamOK hT h (by kernel_rfl) trivial fun a w h => then_normal (wp_seq ?_)
 refine at_regq [{}, {}, {}, { ids := [3, 4] }, {}, {}, {}, { ids := [5] }] { ts := [3, 4, 5, 6], os := [2, 3, 4, 5] } [Q_impl_CodePacket x0 x1.2.1] gamOK hT h (by kernel_rfl) ⟨(by exact ⟨hf0, hf1.2.1⟩), trivial⟩ fun a w h => then_normal (wp_seq ?_)
 rcases Bool.eq_false_or_eq_true ((codePk x0 x1.2.1).2) with h1 | h1
 ·refine at_regq [{ hint := some (aB true) }] { ts := [4], os := [] } [(AV.p (.c (.v (.bool ((codePk x0 x1.2.1).2)))) = AV.p (.c (.v (.bool true)))), True] gamOK hT h (by kernel_rfl) ⟨hint_bool (h1), trivial, trivial⟩ fun a w h => then_normal (wp_ret ?_)
  exact at_return (((Sh.eqB s42) (codePk x0 x1.2.1).1 x1), ()) [] h (by kernel_rfl) trivial (congrArg (fun z => (z, ())) (show (((Sh.eqB s42) (codePk x0 x1.2.1).1 x1)) = consB x0 x1 from by first | rfl | (unfold consB; rw [if_pos h1])))
 ·refine at_regq [{ hint := some (aB false) }] { ts := [4], os := [] } [(AV.p (.c (.v (.bool ((codePk x0 x1.2.1).2)))) = AV.p (.c (.v (.bool false))))] gamOK hT h (by kernel_rfl) ⟨hint_bool (h1), trivial⟩ fun a w h => then_normal (wp_ret ?_)
  exact at_return (false, ()) [] h (by kernel_rfl) trivial (congrArg (fun z => (z, ())) (show (false) = consB x0 x1 from by first | rfl | (unfold consB; rw [if_neg (neT h1)])))

theorem pk3_fit {a b e : T42} (h1 : Sh.fit s42 a) (h2 : Sh.fit s42 b) (h3 : Sh.fit s42 e) : Sh.fit s48 [a, b, e] := ⟨(by decide : 3 ≤ 1073741824), fun p hp => by
 rcases List.mem_cons.1 hp with rfl | hp
 ·exact h1
 ·rcases List.mem_cons.1 hp with rfl | hp
  ·exact h2
  ·rcases List.mem_cons.1 hp with rfl | hp
   ·exact h3
   ·cases hp⟩
theorem law_pol {i d : Int} {k cs : List Int} {g : T26} {M : T31} {p q : T42} (h : hsOK k g) (hM : ∃ s src, (isKey s = true ∧ 0 ≤ src ∧ src ≤ 2) ∧ M = mkMan s src k g) (hc : LA.VokB g.2.length cs) (hg : g.1 ≤ 4) (hi : 0 ≤ i) (hd : 1 ≤ d ∧ d ≤ 256) (hp : p = (codePk g cs).1) (hq : q = (pollute p i d).1) :
  (pollute p i d).2 = true ∧ checkP k M q = 3 ∧ checkP k M p = 0 ∧ consB g q = false ∧ Sh.fit s42 p ∧ Sh.fit s42 q ∧ filterP k M [p, q, p] = [p, p] := by
 obtain ⟨s, src, hs, rfl⟩ := hM
 have hv := validG_t h.2.1
 have hl := combS_len h hc
 have hkl := (validK_t h.1).1
 rw [codePk_ok h.2.1 hc] at hp
 have hm : modF d 1019 = d := by
  unfold modF
  rw [if_pos (show inR 1019 1 1000000000000 = true from rfl)]
  have := tmod_f d 1019 (by decide)
  have := tmod_f (d.tmod 1019 + 1019) 1019 (by decide)
  omega
 have hlp : (List.length (combS g.2 cs) : Int) = (k.length : Int) := by rw [hl.1]
 have ht := LA.tmod_lt hi (show (0 : Int) < ((List.length (combS g.2 cs) : Nat) : Int) by omega)
 have hpo : pollute p i d = ((g.1, cs, (combS g.2 cs).set (i.tmod ((List.length (combS g.2 cs) : Nat) : Int)).toNat (((combS g.2 cs).getD (i.tmod ((List.length (combS g.2 cs) : Nat) : Int)).toNat 0 + d).tmod 1019)), true) := by
  have hx := hl.rng (i.tmod ((List.length (combS g.2 cs) : Nat) : Int)).toNat
  have hany : D_slices_ContainsFunc_S_int_int__PolluteComponent_1 (combS g.2 cs) () = false := by
   unfold D_slices_ContainsFunc_S_int_int__PolluteComponent_1
   rw [Bool.eq_false_iff]; intro ha
   obtain ⟨x, hx, hn⟩ := List.any_eq_true.1 ha
   rw [show isEl x = true from inR_true (hl.2 x hx)] at hn
   exact absurd hn (by decide)
  subst hp
  unfold pollute
  rw [hm]
  dsimp only
  rw [if_neg (by omega), hany, if_neg (by decide), if_neg (by omega), if_neg (by omega)]
  unfold addF
  rw [if_pos (show isEl _ = true from inR_true hx), if_pos (show isEl d = true from inR_true (by omega))]
 rw [hpo] at hq ⊢
 have hd' : (i.tmod ((List.length (combS g.2 cs) : Nat) : Int)).toNat < k.length := by omega
 have c3 := chk_bump (s := s) (src := src) (x := d) h (by omega) hc hd' (by omega)
 have c0 := chk_code (s := s) (src := src) h (by omega) hc
 replace hp : p = (g.1, cs, combS g.2 cs) := hp
 replace hq : q = (g.1, cs, (combS g.2 cs).set (i.tmod ((List.length (combS g.2 cs) : Nat) : Int)).toNat (((combS g.2 cs).getD (i.tmod ((List.length (combS g.2 cs) : Nat) : Int)).toNat 0 + d).tmod 1019)) := hq
 have hne : q ≠ p := fun e => by
  rw [e, hp] at hq
  rw [← hq] at c3
  rw [c0] at c3
  exact absurd c3 (by decide)
 subst hp
 rw [← hq] at c3
 refine ⟨rfl, c3, c0, ?_, ?_, ?_, ?_⟩
 ·unfold consB
  rw [show q.2.1 = cs from by rw [hq], codePk_ok h.2.1 hc]
  simp only [if_true]
  exact Sh.eqB_ne (fun e => hne e.symm)
 ·exact ⟨trivial, ⟨by have := hc.1; show List.length cs ≤ _; omega, fun _ _ => trivial⟩, ⟨by have := hl.1; show List.length (combS g.2 cs) ≤ _; omega, fun _ _ => trivial⟩⟩
 ·rw [hq]; exact ⟨trivial, ⟨by have := hc.1; show List.length cs ≤ _; omega, fun _ _ => trivial⟩, ⟨by have := hl.1; rw [List.length_set]; omega, fun _ _ => trivial⟩⟩
 ·unfold filterP
  simp [List.filter_cons, c0, c3]
def D_laws_FnPollutionDetected := (fun (_ : List Int) => true)
abbrev Q_laws_FnPollutionDetected := (fun (x0 : List Int) => Sh.i64 s22 x0)
def S_laws_FnPollutionDetected : Sum := { fid := 4, dom := [s22], cod := [(.bool 4)], dp := true, fz := false, pre := fun x => Q_laws_FnPollutionDetected x.1, g := fun x => ((D_laws_FnPollutionDetected x.1), ()) }
def S_laws_FnPollutionDetected_tab : List (Nat × Sum) := [(8, S_laws_big), (9, S_spec_DrawSigned), (10, S_laws_at), (16, S_spec_CodePacket), (19, S_impl_PolluteComponent), (20, S_impl_FilterPackets), (17, S_impl_CheckPacket), (21, S_impl_IsConsistent), (22, S_laws_samePacket)]
theorem S_laws_FnPollutionDetected_ok : FnOK Try.prog 4 S_laws_FnPollutionDetected := by
 refine at_enter 93 (fun x => ⟨[(0, aF (.u8 5) x.1)], []⟩) Try.func4 rfl (by kernel_rfl) (fun x => rfl) ?_
 rintro w0 Z0 ⟨x0, u⟩ a w
 revert x0
 intro (x0 : (List Int)) hpre hlens h
 replace hpre : Q_laws_FnPollutionDetected x0 := hpre
 have hl1 : List.length x0 ≤ 9223372036854775807 := hlens.1.1
 have hu0 : u8L x0 := hlens.1.2
 have hT : TabOK Try.prog S_laws_FnPollutionDetected_tab := (.cons S_laws_big_ok (.cons S_spec_DrawSigned_ok (.cons S_laws_at_ok (.cons S_spec_CodePacket_ok (.cons S_impl_PolluteComponent_ok (.cons S_impl_FilterPackets_ok (.cons S_impl_CheckPacket_ok (.cons S_impl_IsConsistent_ok (.cons S_laws_samePacket_ok .nil)))))))))
 refine wp_seq ?_
 refine at_regq [] { ts := [0, 2], os := [] } [] gamOK hT h (by kernel_rfl) trivial fun a w h => then_normal (wp_seq (wp_seq ?_))
 refine at_regq [] { ts := [0, 2, 14], os := [] } [True] gamOK hT h (by kernel_rfl) ⟨trivial, trivial⟩ fun a w h => then_normal ?_
 refine at_test ((bigF x0)) h (by kernel_rfl) (fun h1 => ?_) (fun h1 => ?_)
 ·refine wp_seq ?_
  refine at_regq [] { ts := [0, 2], os := [] } [] gamOK hT h (by kernel_rfl) trivial fun a w h => then_normal (wp_ret (then_ret ?_))
  exact at_return (true, ()) [] h (by kernel_rfl) trivial (congrArg (fun z => (z, ())) (show (true) = D_laws_FnPollutionDetected x0 from by unfold D_laws_FnPollutionDetected; rfl))
 ·have hbz : List.length x0 ≤ 1048576 := big_f h1
  have hm8 := at_bd hu0 (i := 8) (by decide)
  have hm9 := at_bd hu0 (i := 9) (by decide)
  have hd := drawS_ok x0
  have hd1 := hd.len
  have hcl := atsL_len x0 0 (List.length (drawS x0).1.2)
  obtain ⟨l1, l2, l3, l4, l5, l6, l7⟩ := law_pol (i := atF x0 8) (d := 1 + atF x0 9) hd.hk hd.man (atsL_ok hu0 (o := 0) (by decide) (List.length (drawS x0).1.2)) hd.id.2 (by omega) (by omega) rfl rfl
  refine wp_skip (then_normal (wp_seq ?_))
  refine at_regq [{}, { ids := [1, 2, 3] }, {}, {}, {}, {}, { ids := [4] }, { ids := [5] }, { ids := [6] }] { ts := [0, 2, 3, 4, 5], os := [1, 2, 3, 4, 5, 6] } [Q_spec_DrawSigned x0] gamOK hT h (by kernel_rfl) ⟨(by exact (Sh.fit_len (t := 22) (s := (.u8 5)) rfl (by omega))), trivial⟩ fun a w h => then_normal (wp_seq ?_)
  refine at_regq [{}, {}, {}, { ids := [7] }] { ts := [0, 2, 3, 4, 5, 6], os := [1, 2, 3, 4, 5, 6, 7] } [(0 : Int) ≤ ((List.length (drawS x0).1.2 : Nat) : Int) ∧ ((List.length (drawS x0).1.2 : Nat) : Int) = ((List.length (drawS x0).1.2 : Nat) : Int) ∧ ((List.length (drawS x0).1.2 : Nat) : Int) * (8 : Nat) ≤ (140737488355328 : Int)] gamOK hT h (by kernel_rfl) ⟨(by refine ⟨?_, ?_, ?_⟩ <;> ((have hA0 := mul_f ((List.length (drawS x0).1.2 : Nat) : Int) (8 : Nat); have hL1 := (show List.length (drawS x0).1.2 ≤ 1073741824 from (hd.fg.2).1); first | omega | (simp only [lsA, copyTo_len (show i ≤ List.length (atsL x0 0 (List.length (drawS x0).1.2)) by omega)]; omega) | (simp <;> omega)))), trivial⟩ fun a w h => then_normal (wp_seq (wp_seq ?_))
  refine at_regq [] { ts := [0, 2, 3, 4, 5, 6, 7], os := [1, 2, 3, 4, 5, 6, 7] } [] gamOK hT h (by kernel_rfl) trivial fun a w h => then_normal (wp_block ?_)
  replace h := at_out (σ' := ⟨[(0, aF (.u8 5) x0), (2, aB false), (3, aP 4 0), (4, aP 5 0), (5, aP 6 0), (6, aS 7), (7, aI 0)], [(1, oR s27 (drawS x0).1.2), (2, oR (.int 3) (drawS x0).2.1), (3, oR (.int 3) (drawS x0).2.2.2.2.2.2.1), (4, oX 26 [cI (drawS x0).1.1, .sl 1]), (5, oX 29 [.sl 2]), (6, oX 31 [cI (drawS x0).2.2.1, cI (drawS x0).2.2.2.1, cI (drawS x0).2.2.2.2.1, cI (drawS x0).2.2.2.2.2.1, .sl 3, cI (drawS x0).2.2.2.2.2.2.2]), (7, oR (.int 3) (List.replicate (List.length (drawS x0).1.2) (0 : Int)))]⟩) { ts := [0, 2, 3, 4, 5, 6, 7], os := [1, 2, 3, 4, 5, 6, 7] } h (by kernel_rfl)
  refine at_loop (fun i : Nat => (⟨[(0, aF (.u8 5) x0), (2, aB false), (3, aP 4 0), (4, aP 5 0), (5, aP 6 0), (6, aS 7), (7, aI ((i : Nat) : Int))], [(1, oR s27 (drawS x0).1.2), (2, oR (.int 3) (drawS x0).2.1), (3, oR (.int 3) (drawS x0).2.2.2.2.2.2.1), (4, oX 26 [cI (drawS x0).1.1, .sl 1]), (5, oX 29 [.sl 2]), (6, oX 31 [cI (drawS x0).2.2.1, cI (drawS x0).2.2.2.1, cI (drawS x0).2.2.2.2.1, cI (drawS x0).2.2.2.2.2.1, .sl 3, cI (drawS x0).2.2.2.2.2.2.2]), (7, oR (.int 3) (copyTo 0 (atsL x0 0 (List.length (drawS x0).1.2)) i))]⟩ : St)) (fun i => i ≤ List.length (drawS x0).1.2) (fun i => List.length (drawS x0).1.2 - i) (0) h (st_congr2 (fun (d0 : List Int) (d1 : Int) => (⟨[(0, aF (.u8 5) x0), (2, aB false), (3, aP 4 0), (4, aP 5 0), (5, aP 6 0), (6, aS 7), (7, aI d1)], [(1, oR s27 (drawS x0).1.2), (2, oR (.int 3) (drawS x0).2.1), (3, oR (.int 3) (drawS x0).2.2.2.2.2.2.1), (4, oX 26 [cI (drawS x0).1.1, .sl 1]), (5, oX 29 [.sl 2]), (6, oX 31 [cI (drawS x0).2.2.1, cI (drawS x0).2.2.2.1, cI (drawS x0).2.2.2.2.1, cI (drawS x0).2.2.2.2.2.1, .sl 3, cI (drawS x0).2.2.2.2.2.2.2]), (7, oR (.int 3) d0)]⟩ : St)) (show ((List.replicate (List.length (drawS x0).1.2) (0 : Int)) : List Int) = (copyTo 0 (atsL x0 0 (List.length (drawS x0).1.2)) (0)) from by first | with_reducible rfl | (exact atsL_zero _ _ _) | rfl) (show (0 : Int) = (((0) : Nat) : Int) from by first | with_reducible rfl | (exact atsL_zero _ _ _) | rfl)) (by omega) ?_
  intro i a w hok0 h
  have hcp := copyTo_len (z := (0 : Int)) (show i ≤ List.length (atsL x0 0 (List.length (drawS x0).1.2)) by omega)
  refine wp_seq (wp_seq ?_)
  refine at_regq [] { ts := [0, 2, 3, 4, 5, 6, 7, 28], os := [1, 2, 3, 4, 5, 6, 7] } [] gamOK hT h (by kernel_rfl) trivial fun a w h => then_normal ?_
  refine at_test (decide (((i : Nat) : Int) < ((List.length (copyTo 0 (atsL x0 0 (List.length (drawS x0).1.2)) i) : Nat) : Int))) h (by kernel_rfl) (fun h2 => ?_) (fun h2 => ?_)
  ·replace h2 : ((i : Nat) : Int) < ((List.length (copyTo 0 (atsL x0 0 (List.length (drawS x0).1.2)) i) : Nat) : Int) := of_decide_eq_true h2
   refine wp_skip (then_normal (wp_seq (wp_block ?_)))
   refine at_regq [] { ts := [0, 2, 3, 4, 5, 6, 7], os := [1, 2, 3, 4, 5, 6, 7] } [Q_laws_at x0 ((i : Nat) : Int), (0 : Int) ≤ ((i : Nat) : Int) ∧ ((i : Nat) : Int) < ((List.length (copyTo 0 (atsL x0 0 (List.length (drawS x0).1.2)) i) : Nat) : Int), i < List.length (copyTo 0 (atsL x0 0 (List.length (drawS x0).1.2)) i)] gamOK hT h (by kernel_rfl) ⟨(by exact ⟨hbz, by omega, by omega⟩), (by refine ⟨?_, ?_⟩ <;> ((have hL0 := (show List.length (drawS x0).1.2 ≤ 1073741824 from (hd.fg.2).1); first | omega | (simp only [lsA, copyTo_len (show i ≤ List.length (atsL x0 0 (List.length (drawS x0).1.2)) by omega)]; omega) | (simp <;> omega)))), (by (have hL0 := (show List.length (drawS x0).1.2 ≤ 1073741824 from (hd.fg.2).1); first | omega | (simp only [lsA, copyTo_len (show i ≤ List.length (atsL x0 0 (List.length (drawS x0).1.2)) by omega)]; omega) | (simp <;> omega))), trivial⟩ fun a w h => in_normal (then_normal ?_)
   refine at_regq [{}, { nw := true }] { ts := [0, 2, 3, 4, 5, 6, 7], os := [1, 2, 3, 4, 5, 6, 7] } [I64 (((i : Nat) : Int) + 1)] gamOK hT h (by kernel_rfl) ⟨⟨by first | omega | (simp only [lsA, copyTo_len (show i ≤ List.length (atsL x0 0 (List.length (drawS x0).1.2)) by omega)]; omega) | (simp <;> omega), by first | omega | (simp only [lsA, copyTo_len (show i ≤ List.length (atsL x0 0 (List.length (drawS x0).1.2)) by omega)]; omega) | (simp <;> omega)⟩, trivial⟩ fun a w h => ?_
   replace h := at_out (σ' := ⟨[(0, aF (.u8 5) x0), (2, aB false), (3, aP 4 0), (4, aP 5 0), (5, aP 6 0), (6, aS 7), (7, aI (((i : Nat) : Int) + 1))], [(1, oR s27 (drawS x0).1.2), (2, oR (.int 3) (drawS x0).2.1), (3, oR (.int 3) (drawS x0).2.2.2.2.2.2.1), (4, oX 26 [cI (drawS x0).1.1, .sl 1]), (5, oX 29 [.sl 2]), (6, oX 31 [cI (drawS x0).2.2.1, cI (drawS x0).2.2.2.1, cI (drawS x0).2.2.2.2.1, cI (drawS x0).2.2.2.2.2.1, .sl 3, cI (drawS x0).2.2.2.2.2.2.2]), (7, oR (.int 3) (List.set (copyTo 0 (atsL x0 0 (List.length (drawS x0).1.2)) i) i (atF x0 ((i : Nat) : Int))))]⟩) { ts := [0, 2, 3, 4, 5, 6, 7], os := [1, 2, 3, 4, 5, 6, 7] } h (by kernel_rfl)
   exact ⟨i + 1, at_eq h (st_congr2 (fun (d0 : List Int) (d1 : Int) => (⟨[(0, aF (.u8 5) x0), (2, aB false), (3, aP 4 0), (4, aP 5 0), (5, aP 6 0), (6, aS 7), (7, aI d1)], [(1, oR s27 (drawS x0).1.2), (2, oR (.int 3) (drawS x0).2.1), (3, oR (.int 3) (drawS x0).2.2.2.2.2.2.1), (4, oX 26 [cI (drawS x0).1.1, .sl 1]), (5, oX 29 [.sl 2]), (6, oX 31 [cI (drawS x0).2.2.1, cI (drawS x0).2.2.2.1, cI (drawS x0).2.2.2.2.1, cI (drawS x0).2.2.2.2.2.1, .sl 3, cI (drawS x0).2.2.2.2.2.2.2]), (7, oR (.int 3) d0)]⟩ : St)) (show ((List.set (copyTo 0 (atsL x0 0 (List.length (drawS x0).1.2)) i) i (atF x0 ((i : Nat) : Int))) : List Int) = (copyTo 0 (atsL x0 0 (List.length (drawS x0).1.2)) (i + 1)) from by first | with_reducible rfl | (exact atsL_set0 (by omega)) | rfl) (show (((i : Nat) : Int) + 1 : Int) = (((i + 1) : Nat) : Int) from by first | with_reducible rfl | (omega) | rfl)), (by omega), (by omega)⟩
  ·replace h2 : ¬ (((i : Nat) : Int) < ((List.length (copyTo 0 (atsL x0 0 (List.length (drawS x0).1.2)) i) : Nat) : Int)) := of_decide_eq_false h2
   refine wp_exit (then_exit ?_)
   replace h := at_out (σ' := ⟨[(0, aF (.u8 5) x0), (2, aB false), (3, aP 4 0), (4, aP 5 0), (5, aP 6 0), (6, aS 7)], [(1, oR s27 (drawS x0).1.2), (2, oR (.int 3) (drawS x0).2.1), (3, oR (.int 3) (drawS x0).2.2.2.2.2.2.1), (4, oX 26 [cI (drawS x0).1.1, .sl 1]), (5, oX 29 [.sl 2]), (6, oX 31 [cI (drawS x0).2.2.1, cI (drawS x0).2.2.2.1, cI (drawS x0).2.2.2.2.1, cI (drawS x0).2.2.2.2.2.1, .sl 3, cI (drawS x0).2.2.2.2.2.2.2]), (7, oR (.int 3) (copyTo 0 (atsL x0 0 (List.length (drawS x0).1.2)) i))]⟩) { ts := [0, 2, 3, 4, 5, 6], os := [1, 2, 3, 4, 5, 6, 7] } h (by kernel_rfl)
   replace h := at_eq (σ' := ⟨[(0, aF (.u8 5) x0), (2, aB false), (3, aP 4 0), (4, aP 5 0), (5, aP 6 0), (6, aS 7)], [(1, oR s27 (drawS x0).1.2), (2, oR (.int 3) (drawS x0).2.1), (3, oR (.int 3) (drawS x0).2.2.2.2.2.2.1), (4, oX 26 [cI (drawS x0).1.1, .sl 1]), (5, oX 29 [.sl 2]), (6, oX 31 [cI (drawS x0).2.2.1, cI (drawS x0).2.2.2.1, cI (drawS x0).2.2.2.2.1, cI (drawS x0).2.2.2.2.2.1, .sl 3, cI (drawS x0).2.2.2.2.2.2.2]), (7, oR (.int 3) (atsL x0 0 (List.length (drawS x0).1.2)))]⟩) h (st_congr1 (fun (d0 : List Int) => (⟨[(0, aF (.u8 5) x0), (2, aB false), (3, aP 4 0), (4, aP 5 0), (5, aP 6 0), (6, aS 7)], [(1, oR s27 (drawS x0).1.2), (2, oR (.int 3) (drawS x0).2.1), (3, oR (.int 3) (drawS x0).2.2.2.2.2.2.1), (4, oX 26 [cI (drawS x0).1.1, .sl 1]), (5, oX 29 [.sl 2]), (6, oX 31 [cI (drawS x0).2.2.1, cI (drawS x0).2.2.2.1, cI (drawS x0).2.2.2.2.1, cI (drawS x0).2.2.2.2.2.1, .sl 3, cI (drawS x0).2.2.2.2.2.2.2]), (7, oR (.int 3) d0)]⟩ : St)) (show ((copyTo 0 (atsL x0 0 (List.length (drawS x0).1.2)) i) : List Int) = (atsL x0 0 (List.length (drawS x0).1.2)) from by first | with_reducible rfl | (rw [copyTo_all (by omega)]) | rfl))
   refine then_exit (in_hit (then_normal (wp_seq ?_)))
   refine at_regq [{}, {}, { frz := true }, {}, {}, {}, { ids := [8] }] { ts := [0, 2, 3, 4, 5, 8], os := [1, 2, 3, 4, 5, 6, 8] } [Q_spec_CodePacket (drawS x0).1 (atsL x0 0 (List.length (drawS x0).1.2))] gamOK hT h (by kernel_rfl) ⟨(by exact ⟨hd.fg, Sh.fit_len rfl (by omega)⟩), trivial⟩ fun a w h => then_normal (wp_seq ?_)
   refine at_anyq [{}, {}, {}, {}, {}, { nw := true }, { frz := true }, {}, {}, {}, { ids := [9] }, {}, {}] { ts := [2, 3, 4, 5, 8, 10, 11], os := [1, 2, 3, 4, 5, 6, 8, 9] } [Q_laws_at x0 8, Q_laws_at x0 9, I64 (1 + (atF x0 9)), Q_impl_PolluteComponent (codePk (drawS x0).1 (atsL x0 0 (List.length (drawS x0).1.2))).1 (atF x0 8) (1 + (atF x0 9))] gamOK hT mixed h (by kernel_rfl) ⟨(by exact ⟨hbz, by omega, by omega⟩), (by exact ⟨hbz, by omega, by omega⟩), ⟨by first | omega | (simp only [lsA, copyTo_len (show i ≤ List.length (atsL x0 0 (List.length (drawS x0).1.2)) by omega)]; omega) | (simp <;> omega), by first | omega | (simp only [lsA, copyTo_len (show i ≤ List.length (atsL x0 0 (List.length (drawS x0).1.2)) by omega)]; omega) | (simp <;> omega)⟩, (by exact l5), trivial⟩ fun a w h => then_normal (wp_seq ?_)
   refine at_regq [{}, {}, {}, {}, {}, { ids := [10], dp := false }, { frz := true }] { ts := [2, 3, 4, 5, 8, 10, 11, 12], os := [1, 2, 3, 4, 5, 6, 8, 9] } [Q_impl_FilterPackets (drawS x0).2.1 (drawS x0).2.2 ([(codePk (drawS x0).1 (atsL x0 0 (List.length (drawS x0).1.2))).1, (pollute (codePk (drawS x0).1 (atsL x0 0 (List.length (drawS x0).1.2))).1 (atF x0 8) (1 + (atF x0 9))).1, (codePk (drawS x0).1 (atsL x0 0 (List.length (drawS x0).1.2))).1])] gamOK hT h (by kernel_rfl) ⟨(by exact ⟨hd.fk, hd.fm, pk3_fit l5 l6 l5⟩), trivial⟩ fun a w h => then_normal (wp_seq ?_)
   rcases Bool.eq_false_or_eq_true ((pollute (codePk (drawS x0).1 (atsL x0 0 (List.length (drawS x0).1.2))).1 (atF x0 8) (1 + (atF x0 9))).2) with h3 | h3
   ·by_cases h4 : (checkP (drawS x0).2.1 (drawS x0).2.2 (pollute (codePk (drawS x0).1 (atsL x0 0 (List.length (drawS x0).1.2))).1 (atF x0 8) (1 + (atF x0 9))).1) = 3
    ·rcases Bool.eq_false_or_eq_true (!(consB (drawS x0).1 (pollute (codePk (drawS x0).1 (atsL x0 0 (List.length (drawS x0).1.2))).1 (atF x0 8) (1 + (atF x0 9))).1)) with h5 | h5
     ·have hzh5 : (consB (drawS x0).1 (pollute (codePk (drawS x0).1 (atsL x0 0 (List.length (drawS x0).1.2))).1 (atF x0 8) (1 + (atF x0 9))).1) = false := notT h5
      by_cases h6 : ((List.length (filterP (drawS x0).2.1 (drawS x0).2.2 ([(codePk (drawS x0).1 (atsL x0 0 (List.length (drawS x0).1.2))).1, (pollute (codePk (drawS x0).1 (atsL x0 0 (List.length (drawS x0).1.2))).1 (atF x0 8) (1 + (atF x0 9))).1, (codePk (drawS x0).1 (atsL x0 0 (List.length (drawS x0).1.2))).1])) : Nat) : Int) = 2
      ·rcases Bool.eq_false_or_eq_true (((Sh.eqB s42) ((filterP (drawS x0).2.1 (drawS x0).2.2 ([(codePk (drawS x0).1 (atsL x0 0 (List.length (drawS x0).1.2))).1, (pollute (codePk (drawS x0).1 (atsL x0 0 (List.length (drawS x0).1.2))).1 (atF x0 8) (1 + (atF x0 9))).1, (codePk (drawS x0).1 (atsL x0 0 (List.length (drawS x0).1.2))).1])).getD 0 (0, ([], []))) (codePk (drawS x0).1 (atsL x0 0 (List.length (drawS x0).1.2))).1)) with h7 | h7
       ·refine at_anyq [{ hint := some (aB true) }, {}, {}, {}, {}, {}, { hint := some (aB true) }, {}, {}, {}, {}, {}, { hint := some (aB true) }, {}, {}, {}, {}, { hint := some (aB true) }, {}, {}, {}, {}, {}, {}, { hint := some (aB true) }, {}, {}, {}, {}, {}, {}, {}, {}, {}] { ts := [2], os := [] } [(AV.p (.c (.v (.bool ((pollute (codePk (drawS x0).1 (atsL x0 0 (List.length (drawS x0).1.2))).1 (atF x0 8) (1 + (atF x0 9))).2)))) = AV.p (.c (.v (.bool true)))), Q_impl_CheckPacket (drawS x0).2.1 (drawS x0).2.2 (pollute (codePk (drawS x0).1 (atsL x0 0 (List.length (drawS x0).1.2))).1 (atF x0 8) (1 + (atF x0 9))).1, (AV.p (.c (.v (.bool (decide ((checkP (drawS x0).2.1 (drawS x0).2.2 (pollute (codePk (drawS x0).1 (atsL x0 0 (List.length (drawS x0).1.2))).1 (atF x0 8) (1 + (atF x0 9))).1) = 3))))) = AV.p (.c (.v (.bool true)))), Q_impl_IsConsistent (drawS x0).1 (pollute (codePk (drawS x0).1 (atsL x0 0 (List.length (drawS x0).1.2))).1 (atF x0 8) (1 + (atF x0 9))).1, (AV.p (.c (.v (.bool (!(consB (drawS x0).1 (pollute (codePk (drawS x0).1 (atsL x0 0 (List.length (drawS x0).1.2))).1 (atF x0 8) (1 + (atF x0 9))).1))))) = AV.p (.c (.v (.bool true)))), (AV.p (.c (.v (.bool (decide (((List.length (filterP (drawS x0).2.1 (drawS x0).2.2 ([(codePk (drawS x0).1 (atsL x0 0 (List.length (drawS x0).1.2))).1, (pollute (codePk (drawS x0).1 (atsL x0 0 (List.length (drawS x0).1.2))).1 (atF x0 8) (1 + (atF x0 9))).1, (codePk (drawS x0).1 (atsL x0 0 (List.length (drawS x0).1.2))).1])) : Nat) : Int) = 2))))) = AV.p (.c (.v (.bool true)))), (0 : Int) ≤ 0 ∧ 0 < ((List.length (filterP (drawS x0).2.1 (drawS x0).2.2 ([(codePk (drawS x0).1 (atsL x0 0 (List.length (drawS x0).1.2))).1, (pollute (codePk (drawS x0).1 (atsL x0 0 (List.length (drawS x0).1.2))).1 (atF x0 8) (1 + (atF x0 9))).1, (codePk (drawS x0).1 (atsL x0 0 (List.length (drawS x0).1.2))).1])) : Nat) : Int), True, (AV.p (.c (.v (.bool (((Sh.eqB s42) ((filterP (drawS x0).2.1 (drawS x0).2.2 ([(codePk (drawS x0).1 (atsL x0 0 (List.length (drawS x0).1.2))).1, (pollute (codePk (drawS x0).1 (atsL x0 0 (List.length (drawS x0).1.2))).1 (atF x0 8) (1 + (atF x0 9))).1, (codePk (drawS x0).1 (atsL x0 0 (List.length (drawS x0).1.2))).1])).getD 0 (0, ([], []))) (codePk (drawS x0).1 (atsL x0 0 (List.length (drawS x0).1.2))).1))))) = AV.p (.c (.v (.bool true)))), (0 : Int) ≤ 1 ∧ 1 < ((List.length (filterP (drawS x0).2.1 (drawS x0).2.2 ([(codePk (drawS x0).1 (atsL x0 0 (List.length (drawS x0).1.2))).1, (pollute (codePk (drawS x0).1 (atsL x0 0 (List.length (drawS x0).1.2))).1 (atF x0 8) (1 + (atF x0 9))).1, (codePk (drawS x0).1 (atsL x0 0 (List.length (drawS x0).1.2))).1])) : Nat) : Int), True] gamOK hT mixed h (by kernel_rfl) ⟨hint_bool (h3), (by exact ⟨hd.fk, hd.fm, l6⟩), hint_bool (decide_eq_true h4), (by exact ⟨hd.fg, l6⟩), hint_bool (h5), hint_bool (decide_eq_true h6), (by refine ⟨?_, ?_⟩ <;> ((have hL0 := (show List.length (drawS x0).1.2 ≤ 1073741824 from (hd.fg.2).1); first | omega | (simp only [lsA, copyTo_len (show i ≤ List.length (atsL x0 0 (List.length (drawS x0).1.2)) by omega)]; omega) | (simp <;> omega)))), trivial, hint_bool (h7), (by refine ⟨?_, ?_⟩ <;> ((have hL0 := (show List.length (drawS x0).1.2 ≤ 1073741824 from (hd.fg.2).1); first | omega | (simp only [lsA, copyTo_len (show i ≤ List.length (atsL x0 0 (List.length (drawS x0).1.2)) by omega)]; omega) | (simp <;> omega)))), trivial, trivial⟩ fun a w h => then_normal (wp_ret ?_)
        exact at_return (((Sh.eqB s42) ((filterP (drawS x0).2.1 (drawS x0).2.2 ([(codePk (drawS x0).1 (atsL x0 0 (List.length (drawS x0).1.2))).1, (pollute (codePk (drawS x0).1 (atsL x0 0 (List.length (drawS x0).1.2))).1 (atF x0 8) (1 + (atF x0 9))).1, (codePk (drawS x0).1 (atsL x0 0 (List.length (drawS x0).1.2))).1])).getD 1 (0, ([], []))) (codePk (drawS x0).1 (atsL x0 0 (List.length (drawS x0).1.2))).1), ()) [] h (by kernel_rfl) trivial (congrArg (fun z => (z, ())) (show (((Sh.eqB s42) ((filterP (drawS x0).2.1 (drawS x0).2.2 ([(codePk (drawS x0).1 (atsL x0 0 (List.length (drawS x0).1.2))).1, (pollute (codePk (drawS x0).1 (atsL x0 0 (List.length (drawS x0).1.2))).1 (atF x0 8) (1 + (atF x0 9))).1, (codePk (drawS x0).1 (atsL x0 0 (List.length (drawS x0).1.2))).1])).getD 1 (0, ([], []))) (codePk (drawS x0).1 (atsL x0 0 (List.length (drawS x0).1.2))).1)) = D_laws_FnPollutionDetected x0 from by unfold D_laws_FnPollutionDetected; (first | exact Sh.eqB_self _ _ | (simp only [l7]; exact Sh.eqB_self _ _))))
       ·refine at_anyq [{ hint := some (aB true) }, {}, {}, {}, {}, {}, { hint := some (aB true) }, {}, {}, {}, {}, {}, { hint := some (aB true) }, {}, {}, {}, {}, { hint := some (aB true) }, {}, {}, {}, {}, {}, {}, { hint := some (aB false) }, {}, {}, {}, {}, {}, {}, {}, {}, {}] { ts := [2], os := [] } [(AV.p (.c (.v (.bool ((pollute (codePk (drawS x0).1 (atsL x0 0 (List.length (drawS x0).1.2))).1 (atF x0 8) (1 + (atF x0 9))).2)))) = AV.p (.c (.v (.bool true)))), Q_impl_CheckPacket (drawS x0).2.1 (drawS x0).2.2 (pollute (codePk (drawS x0).1 (atsL x0 0 (List.length (drawS x0).1.2))).1 (atF x0 8) (1 + (atF x0 9))).1, (AV.p (.c (.v (.bool (decide ((checkP (drawS x0).2.1 (drawS x0).2.2 (pollute (codePk (drawS x0).1 (atsL x0 0 (List.length (drawS x0).1.2))).1 (atF x0 8) (1 + (atF x0 9))).1) = 3))))) = AV.p (.c (.v (.bool true)))), Q_impl_IsConsistent (drawS x0).1 (pollute (codePk (drawS x0).1 (atsL x0 0 (List.length (drawS x0).1.2))).1 (atF x0 8) (1 + (atF x0 9))).1, (AV.p (.c (.v (.bool (!(consB (drawS x0).1 (pollute (codePk (drawS x0).1 (atsL x0 0 (List.length (drawS x0).1.2))).1 (atF x0 8) (1 + (atF x0 9))).1))))) = AV.p (.c (.v (.bool true)))), (AV.p (.c (.v (.bool (decide (((List.length (filterP (drawS x0).2.1 (drawS x0).2.2 ([(codePk (drawS x0).1 (atsL x0 0 (List.length (drawS x0).1.2))).1, (pollute (codePk (drawS x0).1 (atsL x0 0 (List.length (drawS x0).1.2))).1 (atF x0 8) (1 + (atF x0 9))).1, (codePk (drawS x0).1 (atsL x0 0 (List.length (drawS x0).1.2))).1])) : Nat) : Int) = 2))))) = AV.p (.c (.v (.bool true)))), (0 : Int) ≤ 0 ∧ 0 < ((List.length (filterP (drawS x0).2.1 (drawS x0).2.2 ([(codePk (drawS x0).1 (atsL x0 0 (List.length (drawS x0).1.2))).1, (pollute (codePk (drawS x0).1 (atsL x0 0 (List.length (drawS x0).1.2))).1 (atF x0 8) (1 + (atF x0 9))).1, (codePk (drawS x0).1 (atsL x0 0 (List.length (drawS x0).1.2))).1])) : Nat) : Int), True, (AV.p (.c (.v (.bool (((Sh.eqB s42) ((filterP (drawS x0).2.1 (drawS x0).2.2 ([(codePk (drawS x0).1 (atsL x0 0 (List.length (drawS x0).1.2))).1, (pollute (codePk (drawS x0).1 (atsL x0 0 (List.length (drawS x0).1.2))).1 (atF x0 8) (1 + (atF x0 9))).1, (codePk (drawS x0).1 (atsL x0 0 (List.length (drawS x0).1.2))).1])).getD 0 (0, ([], []))) (codePk (drawS x0).1 (atsL x0 0 (List.length (drawS x0).1.2))).1))))) = AV.p (.c (.v (.bool false))))] gamOK hT mixed h (by kernel_rfl) ⟨hint_bool (h3), (by exact ⟨hd.fk, hd.fm, l6⟩), hint_bool (decide_eq_true h4), (by exact ⟨hd.fg, l6⟩), hint_bool (h5), hint_bool (decide_eq_true h6), (by refine ⟨?_, ?_⟩ <;> ((have hL0 := (show List.length (drawS x0).1.2 ≤ 1073741824 from (hd.fg.2).1); first | omega | (simp only [lsA, copyTo_len (show i ≤ List.length (atsL x0 0 (List.length (drawS x0).1.2)) by omega)]; omega) | (simp <;> omega)))), trivial, hint_bool (h7), trivial⟩ fun a w h => then_normal (wp_ret ?_)
        exact at_return (false, ()) [] h (by kernel_rfl) trivial (congrArg (fun z => (z, ())) (show (false) = D_laws_FnPollutionDetected x0 from by unfold D_laws_FnPollutionDetected; exfalso; first | contradiction | (simp_all [Sh.eqB_self]; done) | (simp_all [Sh.eqB_self]; omega) | omega))
      ·refine at_anyq [{ hint := some (aB true) }, {}, {}, {}, {}, {}, { hint := some (aB true) }, {}, {}, {}, {}, {}, { hint := some (aB true) }, {}, {}, {}, {}, { hint := some (aB false) }, {}, {}, {}, {}, {}, {}, {}, {}, {}, {}, {}, {}, {}, {}, {}, {}] { ts := [2], os := [] } [(AV.p (.c (.v (.bool ((pollute (codePk (drawS x0).1 (atsL x0 0 (List.length (drawS x0).1.2))).1 (atF x0 8) (1 + (atF x0 9))).2)))) = AV.p (.c (.v (.bool true)))), Q_impl_CheckPacket (drawS x0).2.1 (drawS x0).2.2 (pollute (codePk (drawS x0).1 (atsL x0 0 (List.length (drawS x0).1.2))).1 (atF x0 8) (1 + (atF x0 9))).1, (AV.p (.c (.v (.bool (decide ((checkP (drawS x0).2.1 (drawS x0).2.2 (pollute (codePk (drawS x0).1 (atsL x0 0 (List.length (drawS x0).1.2))).1 (atF x0 8) (1 + (atF x0 9))).1) = 3))))) = AV.p (.c (.v (.bool true)))), Q_impl_IsConsistent (drawS x0).1 (pollute (codePk (drawS x0).1 (atsL x0 0 (List.length (drawS x0).1.2))).1 (atF x0 8) (1 + (atF x0 9))).1, (AV.p (.c (.v (.bool (!(consB (drawS x0).1 (pollute (codePk (drawS x0).1 (atsL x0 0 (List.length (drawS x0).1.2))).1 (atF x0 8) (1 + (atF x0 9))).1))))) = AV.p (.c (.v (.bool true)))), (AV.p (.c (.v (.bool (decide (((List.length (filterP (drawS x0).2.1 (drawS x0).2.2 ([(codePk (drawS x0).1 (atsL x0 0 (List.length (drawS x0).1.2))).1, (pollute (codePk (drawS x0).1 (atsL x0 0 (List.length (drawS x0).1.2))).1 (atF x0 8) (1 + (atF x0 9))).1, (codePk (drawS x0).1 (atsL x0 0 (List.length (drawS x0).1.2))).1])) : Nat) : Int) = 2))))) = AV.p (.c (.v (.bool false))))] gamOK hT mixed h (by kernel_rfl) ⟨hint_bool (h3), (by exact ⟨hd.fk, hd.fm, l6⟩), hint_bool (decide_eq_true h4), (by exact ⟨hd.fg, l6⟩), hint_bool (h5), hint_bool (decide_eq_false h6), trivial⟩ fun a w h => then_normal (wp_ret ?_)
       exact at_return (false, ()) [] h (by kernel_rfl) trivial (congrArg (fun z => (z, ())) (show (false) = D_laws_FnPollutionDetected x0 from by unfold D_laws_FnPollutionDetected; exfalso; first | contradiction | (simp_all [Sh.eqB_self]; done) | (simp_all [Sh.eqB_self]; omega) | omega))
     ·have hzh5 : (consB (drawS x0).1 (pollute (codePk (drawS x0).1 (atsL x0 0 (List.length (drawS x0).1.2))).1 (atF x0 8) (1 + (atF x0 9))).1) = true := notF h5
      refine at_anyq [{ hint := some (aB true) }, {}, {}, {}, {}, {}, { hint := some (aB true) }, {}, {}, {}, {}, {}, { hint := some (aB false) }, {}, {}, {}, {}, {}, {}, {}, {}, {}, {}, {}, {}, {}, {}, {}, {}, {}, {}, {}, {}, {}] { ts := [2], os := [] } [(AV.p (.c (.v (.bool ((pollute (codePk (drawS x0).1 (atsL x0 0 (List.length (drawS x0).1.2))).1 (atF x0 8) (1 + (atF x0 9))).2)))) = AV.p (.c (.v (.bool true)))), Q_impl_CheckPacket (drawS x0).2.1 (drawS x0).2.2 (pollute (codePk (drawS x0).1 (atsL x0 0 (List.length (drawS x0).1.2))).1 (atF x0 8) (1 + (atF x0 9))).1, (AV.p (.c (.v (.bool (decide ((checkP (drawS x0).2.1 (drawS x0).2.2 (pollute (codePk (drawS x0).1 (atsL x0 0 (List.length (drawS x0).1.2))).1 (atF x0 8) (1 + (atF x0 9))).1) = 3))))) = AV.p (.c (.v (.bool true)))), Q_impl_IsConsistent (drawS x0).1 (pollute (codePk (drawS x0).1 (atsL x0 0 (List.length (drawS x0).1.2))).1 (atF x0 8) (1 + (atF x0 9))).1, (AV.p (.c (.v (.bool (!(consB (drawS x0).1 (pollute (codePk (drawS x0).1 (atsL x0 0 (List.length (drawS x0).1.2))).1 (atF x0 8) (1 + (atF x0 9))).1))))) = AV.p (.c (.v (.bool false))))] gamOK hT mixed h (by kernel_rfl) ⟨hint_bool (h3), (by exact ⟨hd.fk, hd.fm, l6⟩), hint_bool (decide_eq_true h4), (by exact ⟨hd.fg, l6⟩), hint_bool (h5), trivial⟩ fun a w h => then_normal (wp_ret ?_)
      exact at_return (false, ()) [] h (by kernel_rfl) trivial (congrArg (fun z => (z, ())) (show (false) = D_laws_FnPollutionDetected x0 from by unfold D_laws_FnPollutionDetected; exfalso; first | contradiction | (simp_all [Sh.eqB_self]; done) | (simp_all [Sh.eqB_self]; omega) | omega))
    ·refine at_anyq [{ hint := some (aB true) }, {}, {}, {}, {}, {}, { hint := some (aB false) }, {}, {}, {}, {}, {}, {}, {}, {}, {}, {}, {}, {}, {}, {}, {}, {}, {}, {}, {}, {}, {}, {}, {}, {}, {}, {}, {}] { ts := [2], os := [] } [(AV.p (.c (.v (.bool ((pollute (codePk (drawS x0).1 (atsL x0 0 (List.length (drawS x0).1.2))).1 (atF x0 8) (1 + (atF x0 9))).2)))) = AV.p (.c (.v (.bool true)))), Q_impl_CheckPacket (drawS x0).2.1 (drawS x0).2.2 (pollute (codePk (drawS x0).1 (atsL x0 0 (List.length (drawS x0).1.2))).1 (atF x0 8) (1 + (atF x0 9))).1, (AV.p (.c (.v (.bool (decide ((checkP (drawS x0).2.1 (drawS x0).2.2 (pollute (codePk (drawS x0).1 (atsL x0 0 (List.length (drawS x0).1.2))).1 (atF x0 8) (1 + (atF x0 9))).1) = 3))))) = AV.p (.c (.v (.bool false))))] gamOK hT mixed h (by kernel_rfl) ⟨hint_bool (h3), (by exact ⟨hd.fk, hd.fm, l6⟩), hint_bool (decide_eq_false h4), trivial⟩ fun a w h => then_normal (wp_ret ?_)
     exact at_return (false, ()) [] h (by kernel_rfl) trivial (congrArg (fun z => (z, ())) (show (false) = D_laws_FnPollutionDetected x0 from by unfold D_laws_FnPollutionDetected; exfalso; first | contradiction | (simp_all [Sh.eqB_self]; done) | (simp_all [Sh.eqB_self]; omega) | omega))
   ·refine at_anyq [{ hint := some (aB false) }, {}, {}, {}, {}, {}, {}, {}, {}, {}, {}, {}, {}, {}, {}, {}, {}, {}, {}, {}, {}, {}, {}, {}, {}, {}, {}, {}, {}, {}, {}, {}, {}, {}] { ts := [2], os := [] } [(AV.p (.c (.v (.bool ((pollute (codePk (drawS x0).1 (atsL x0 0 (List.length (drawS x0).1.2))).1 (atF x0 8) (1 + (atF x0 9))).2)))) = AV.p (.c (.v (.bool false))))] gamOK hT mixed h (by kernel_rfl) ⟨hint_bool (h3), trivial⟩ fun a w h => then_normal (wp_ret ?_)
    exact at_return (false, ()) [] h (by kernel_rfl) trivial (congrArg (fun z => (z, ())) (show (false) = D_laws_FnPollutionDetected x0 from by unfold D_laws_FnPollutionDetected; exfalso; first | contradiction | (simp_all [Sh.eqB_self]; done) | (simp_all [Sh.eqB_self]; omega) | omega))

theorem opn5 : OpensS Try.prog 5 (.u8 5) := opensS_u8 Try.underlying5
theorem co5 : Try.prog.cellsOf 5 = 1 := by kernel_rfl
theorem opn22 : OpensS Try.prog 22 s22 := opensS_slice (a := (.u8 5)) Try.underlying22 co5 opn5
namespace fnPollutionDetected
open Go.ChangeShapes Go.WideShapes Go.ChangeAt Go.RowKit
theorem own : ownKnob Try.prog.godebug = none := by kernel_rfl
theorem laidOut : laidOutB Try.prog = true := fxLaid
set_option maxRecDepth 100000 in
theorem lifted (os : Os) (started : os.Started) (H : Type) (enc : TypeId × Value → H) :
    ReturnsInHanded {} Try.checked os 4 .any (Rows.fnPollutionDetectedSpec.pre6 enc Try.prog Try.f4 Rows.fnPollutionDetectedRow.domain false) (Rows.fnPollutionDetectedSpec.post enc Try.prog Try.f4 false true false false) := by
  refine returnsInHanded_of_change (C := Try.checked) own started (by kernel_rfl) Try.func4
    (ChangeSpec.witness6 (enc := enc) (C := Try.checked) false ⟨#[], #[.slice none 0 0], []⟩ 8 (by kernel_rfl) (by kernel_rfl) (by kernel_rfl) (by kernel_rfl)) ?_
  intro W base args ds gs before hval0 hW hcnd _
  have hval : ∀ (j : Nat) t v, Try.f4.params[j]? = some t → args[j]? = some v → Value.okWide Try.prog W .any base t v := hval0
  have hW' := hW
  obtain ⟨p, q, hA0, hV, rfl, hfz, hnd⟩ := hW
  have hA : DataW.TrodAll enc Try.prog W 0 (fun _ => true) true Try.f4.params.toList args.toList ds p := hA0
  rw [Try.params4] at hA hval
  obtain ⟨v0, vs0, d0, ds0, p0, q0, hargs, rfl, rfl, h0, r0⟩ := trodAll_cons hA
  obtain ⟨rfl, rfl, rfl⟩ := trodAll_nil r0
  obtain rfl : args = #[v0] := by cases args; simp_all
  obtain ⟨rfl, rfl⟩ := trodVars_none hV
  have k0 := h0
  have lt0 : ∀ x ∈ p0, x.block < W.heap.size := by obtain ⟨m, hm⟩ := k0; exact DataW.trod_lt m _ _ _ hm
  obtain ⟨ad0, len0, cap0, rfl⟩ := okWide_slice Try.underlying22 (hval 0 22 v0 rfl rfl)
  obtain ⟨x0, hx0, i0⟩ : ∃ x : (s22).D, (s22).rd W (fun b => b < W.heap.size) [.slice ad0 len0 cap0] x ∧ (s22).i64 x := by obtain ⟨fuel, hf⟩ := h0; exact opn22 hf
  clear hA0 hval0
  refine (calls_law S_laws_FnPollutionDetected_ok (by kernel_rfl) W (fun b => b < W.heap.size) [.slice ad0 len0 cap0] (x0, ()) (fun _ h => h) ⟨argRd_sl hx0, trivial⟩ i0).mono fun e W' hr => ?_
  obtain ⟨he, bel⟩ := ret_bool hr
  subst he
  exact ⟨_, rfl, _, _, _, [], _, [], hW', trodAll_mk1 (shut_bool Try.underlying4 _), (trodAll_cons_mk (Below.trod laidOut (by kernel_rfl) (of_decide_eq_true (by kernel_rfl)) k0 bel lt0) trodAll_mk0), rfl, bel.frame _, fun h => by cases h⟩
theorem closed : joinedFacts Try.prog 4 Try.f4 (Rows.fnPollutionDetectedSpec) Rows.fnPollutionDetectedRow = true := by
  unfold joinedFacts
  exact (and2 (and2 (and2 (and2 (and2 (and2 (and2 (and2 (and2 (and2 (and2 (and2 (and2 (and2 (and2 (and2 (and2 (and2 (and2 (and2 (and2 (and2 (and2 (and2 (and2 (and2 (and2 (and2 (and2 (and2 (and2 (by kernel_rfl) fxLaid) fxMaps) (by kernel_rfl)) (by kernel_rfl)) (by kernel_rfl)) (by kernel_rfl)) (by kernel_rfl)) (by kernel_rfl)) (by kernel_rfl)) (by kernel_rfl)) (by kernel_rfl)) (by kernel_rfl)) (by kernel_rfl)) (by kernel_rfl)) (by kernel_rfl)) (by kernel_rfl)) (by kernel_rfl)) (by kernel_rfl)) (by kernel_rfl)) (by kernel_rfl)) (by kernel_rfl)) (by kernel_rfl)) (by kernel_rfl)) (by kernel_rfl)) fxEnter) (by rw [fxLifts]; kernel_rfl)) (by rw [fxMake]; kernel_rfl)) (by kernel_rfl)) (by kernel_rfl)) (by kernel_rfl)) (by kernel_rfl))
theorem over : Rows.fnPollutionDetectedRow.holds Try.pinned (OpenSpec.ofChange Rows.fnPollutionDetectedSpec) :=
  OpenClaim.holds_of_wide 4 Try.f4 rfl rfl rfl rfl rfl rfl rfl ⟨rfl, rfl, rfl, rfl, rfl⟩ rfl rfl rfl rfl rfl (by kernel_rfl) Try.func4 closed
    (of_decide_eq_true (by kernel_rfl)) (by unfold Func.isWrapper; first | (rw [if_pos (by decide +kernel)]; kernel_rfl) | (rw [if_neg (by decide +kernel)]; exact ⟨rfl, rfl⟩))
    (fun os started H enc _ => lifted os started H enc)
/-- the statement -/
theorem proved : Rows.FnPollutionDetectedSaid := over
end fnPollutionDetected

end Go.Proofs.Ytpffjagdefkfkaa

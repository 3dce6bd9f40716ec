/- The law FnSystematic returns true for every input and leaves its arguments as they were. No condition. -/
import Derived.Test.YtgeonngfipikeaaGreatFnSystematic3
import Derived.Test.YtgeonngfipikeaaGreatLA
import Derived.Test.YtgeonngfipikeaaGreatProg
import Derived.Test.YtgeonngfipikeaaGreatRows
import Derived.Test.YtgeonngfipikeaaGreatFX
namespace Go.Proofs.YtgeonngfipikeaaGreat
open Go.RowKit
set_option linter.unusedVariables false
set_option linter.unusedSimpArgs false
def rowIt (x : T112) : Nat → T112 × List Int
 | 0 => (x, [])
 | i + 1 => ((belowC (rowIt x i).1 256).1, (rowIt x i).2 ++ [(belowC (rowIt x i).1 256).2])
def genIt (x : T112) (n : Nat) : Nat → T112 × List (List Int)
 | 0 => (x, [])
 | i + 1 => ((rowIt (genIt x n i).1 n).1, (genIt x n i).2 ++ [(rowIt (genIt x n i).1 n).2])
theorem rowIt_inv {x : T112} (hx : 0 ≤ x.2.1) : ∀ i, 0 ≤ (rowIt x i).1.2.1 ∧ (rowIt x i).2.length = i ∧ ∀ e ∈ (rowIt x i).2, LA.El e
 | 0 => ⟨hx, rfl, fun e he => by cases he⟩
 | i + 1 => by
  obtain ⟨h1, h2, h3⟩ := rowIt_inv hx i
  have hb := below_bd (rowIt x i).1 (n := 256) (by decide)
  refine ⟨below_ok h1, by simp [rowIt, h2], fun y hy => ?_⟩
  rcases List.mem_append.1 hy with hy | hy
  ·exact h3 y hy
  ·have : y = (belowC (rowIt x i).1 256).2 := by simpa using hy
   rw [this]; unfold LA.El; omega
theorem genIt_inv {x : T112} {n : Nat} (hx : 0 ≤ x.2.1) : ∀ i, 0 ≤ (genIt x n i).1.2.1 ∧ (genIt x n i).2.length = i ∧ ∀ r ∈ (genIt x n i).2, LA.VokB n r
 | 0 => ⟨hx, rfl, fun e he => by cases he⟩
 | i + 1 => by
  obtain ⟨h1, h2, h3⟩ := genIt_inv (n := n) hx i
  have hr := rowIt_inv h1 n
  refine ⟨hr.1, by simp [genIt, h2], fun y hy => ?_⟩
  rcases List.mem_append.1 hy with hy | hy
  ·exact h3 y hy
  ·have : y = (rowIt (genIt x n i).1 n).2 := by simpa using hy
   rw [this]; exact ⟨hr.2.1, hr.2.2⟩
theorem validG_of {a : Int} {m : List (List Int)} {n : Nat} (ha : 0 ≤ a ∧ a ≤ 1000000000000) (h1 : 1 ≤ m.length ∧ m.length ≤ 8) (hn : 1 ≤ n ∧ n ≤ 16) (h2 : ∀ r ∈ m, LA.VokB n r) : validG (a, m) = true ∧ colsOf m = (n : Int) := by
 have h0 : (m.getD 0 []).length = n := (h2 _ (getD_mem (z := []) (show 0 < m.length by omega))).1
 have hc : colsOf m = (n : Int) := by rw [colsOf_at h1.1, h0]
 have hm : validM m = true := by
  unfold validM
  have ha : m.all (fun r => validV r && decide (List.length r = List.length (m.getD 0 []))) = true := List.all_eq_true.2 fun r hr => by
   rw [Bool.and_eq_true]
   exact ⟨validV_of (h2 r hr) (by omega), decide_eq_true (by rw [h0]; exact (h2 r hr).1)⟩
  rw [if_pos ha]
  exact decide_eq_true (by omega)
 refine ⟨?_, hc⟩
 unfold validG
 rw [if_pos (show inR a 0 1000000000000 = true from inR_true ha), if_pos (show inR ((List.length m : Nat) : Int) 1 8 = true from inR_true (by omega)), if_pos hm, hc]
 exact inR_true (by omega)
def genD (x0 : T112) : T112 × T26 := ((genIt (belowC (belowC (belowC x0 5).1 3).1 4).1 (1 + (belowC (belowC x0 5).1 3).2).toNat (1 + (belowC (belowC (belowC x0 5).1 3).1 4).2).toNat).1, ((belowC x0 5).2, (genIt (belowC (belowC (belowC x0 5).1 3).1 4).1 (1 + (belowC (belowC x0 5).1 3).2).toNat (1 + (belowC (belowC (belowC x0 5).1 3).1 4).2).toNat).2))
abbrev Q_spec_l10Gen := (fun (x0 : T112) => 0 ≤ x0.2.1)
def B_spec_l10Gen : BS := { t := 112, s := s112, dom := [], cod := [s26], pre := fun y x => Q_spec_l10Gen y, upd := fun y x => (genD y).1, g := fun y x => ((genD y).2, ()) }
def S_spec_l10Gen : Sum := bSum 29 B_spec_l10Gen
def S_spec_l10Gen_tab : List (Nat × Sum) := [(54, S_spec_l1Below)]
theorem S_spec_l10Gen_ok : FnOK Tryz.prog 29 S_spec_l10Gen := by
 refine at_enterB (B := B_spec_l10Gen) 39 (fun v y x => ⟨[(0, aP 1 0)], [(1, oX 112 [.ro (.u8 5) y.1, cI y.2.1, cI y.2.2]), (2, oP 1 v)]⟩) Tryz.func29 rfl (by kernel_rfl) (fun v y x => rfl) ?_
 rintro w0 Z0 b0 x0 ⟨u⟩ a w
 revert x0
 intro (x0 : T112) hpre hlens0 hlens h
 replace h : At w0 Z0 [b0] 39 ⟨[(0, aP 1 0)], [(1, oX 112 [.ro (.u8 5) x0.1, cI x0.2.1, cI x0.2.2]), (2, oP 1 (Value.pointer (some ⟨b0, 0, none⟩)))]⟩ a w := h
 replace hpre : Q_spec_l10Gen x0 := hpre
 have hl1 : List.length x0.1 ≤ 9223372036854775807 := hlens0.1.1
 have hu0 : u8L x0.1 := hlens0.1.2
 have hT : TabOK Tryz.prog S_spec_l10Gen_tab := (.cons S_spec_l1Below_ok .nil)
 have hb1 := below_bd x0 (n := 5) (by decide)
 have hb2 := below_bd (belowC x0 5).1 (n := 3) (by decide)
 have hb3 := below_bd (belowC (belowC x0 5).1 3).1 (n := 4) (by decide)
 have hc := below_ok (n := 4) (below_ok (n := 3) (below_ok (n := 5) hpre))
 refine wp_seq ?_
 refine at_regq [{ ids := [3] }] { ts := [0, 2], os := [1, 2, 3] } [] gamOK hT h (by kernel_rfl) trivial fun a w h => then_normal (wp_seq ?_)
 refine at_regq [{}, {}, {}, { ids := [4] }] { ts := [0, 2, 3], os := [1, 2, 3, 4] } [B_spec_l1Below.pre x0 (5, ())] gamOK hT h (by kernel_rfl) ⟨(by exact hpre), trivial⟩ fun a w h => then_normal (wp_seq ?_)
 refine at_regq [{}, {}, { nw := true }] { ts := [0, 2, 3, 4], os := [1, 2, 3, 4] } [B_spec_l1Below.pre (belowC x0 5).1 (3, ()), I64 (1 + (belowC (belowC x0 5).1 3).2)] gamOK hT h (by kernel_rfl) ⟨(by exact (below_ok hpre)), ⟨by first | omega | (simp only [lsA]; omega) | (simp <;> omega), by first | omega | (simp only [lsA]; omega) | (simp <;> omega)⟩, trivial⟩ fun a w h => then_normal (wp_seq (wp_seq ?_))
 refine at_regq [{}, {}, { nw := true }] { ts := [0, 2, 3, 4, 5], os := [1, 2, 3, 4] } [B_spec_l1Below.pre (belowC (belowC x0 5).1 3).1 (4, ()), I64 (1 + (belowC (belowC (belowC x0 5).1 3).1 4).2)] gamOK hT h (by kernel_rfl) ⟨(by exact (below_ok (below_ok hpre))), ⟨by first | omega | (simp only [lsA]; omega) | (simp <;> omega), by first | omega | (simp only [lsA]; omega) | (simp <;> omega)⟩, trivial⟩ fun a w h => then_normal (wp_block ?_)
 replace h := at_out (σ' := ⟨[(0, aP 1 0), (2, aP 3 0), (3, aP 4 0), (4, aI (1 + (belowC (belowC x0 5).1 3).2)), (5, aI (1 + (belowC (belowC (belowC x0 5).1 3).1 4).2))], [(1, oX 112 [.ro (.u8 5) (belowC (belowC (belowC x0 5).1 3).1 4).1.1, cI (belowC (belowC (belowC x0 5).1 3).1 4).1.2.1, cI (belowC (belowC (belowC x0 5).1 3).1 4).1.2.2]), (2, oP 1 (Value.pointer (some ⟨b0, 0, none⟩))), (3, oX 26 [cI 0, cN]), (4, oX 26 [cI (belowC x0 5).2, .sl 5]), (5, oR s39 ([] : List (List Int)))]⟩) { mt := [⟨some 4, 1, 5, true, s39⟩], ts := [0, 2, 3, 4, 5], os := [1, 2, 3, 4, 5] } h (by kernel_rfl)
 refine at_loop (fun i : Nat => (⟨[(0, aP 1 0), (2, aP 3 0), (3, aP 4 0), (4, aI (1 + (belowC (belowC x0 5).1 3).2)), (5, aI ((1 + (belowC (belowC (belowC x0 5).1 3).1 4).2) - ((i : Nat) : Int)))], [(1, oX 112 [.ro (.u8 5) (genIt (belowC (belowC (belowC x0 5).1 3).1 4).1 (1 + (belowC (belowC x0 5).1 3).2).toNat i).1.1, cI (genIt (belowC (belowC (belowC x0 5).1 3).1 4).1 (1 + (belowC (belowC x0 5).1 3).2).toNat i).1.2.1, cI (genIt (belowC (belowC (belowC x0 5).1 3).1 4).1 (1 + (belowC (belowC x0 5).1 3).2).toNat i).1.2.2]), (2, oP 1 (Value.pointer (some ⟨b0, 0, none⟩))), (3, oX 26 [cI 0, cN]), (4, oX 26 [cI (belowC x0 5).2, .sl 5]), (5, oR s39 (genIt (belowC (belowC (belowC x0 5).1 3).1 4).1 (1 + (belowC (belowC x0 5).1 3).2).toNat i).2)]⟩ : St)) (fun i => ((i : Nat) : Int) ≤ (1 + (belowC (belowC (belowC x0 5).1 3).1 4).2)) (fun i => ((1 + (belowC (belowC (belowC x0 5).1 3).1 4).2)).toNat - i) (0) h (st_congr5 (fun (d0 : List Int) (d1 : Int) (d2 : Int) (d3 : List (List Int)) (d4 : Int) => (⟨[(0, aP 1 0), (2, aP 3 0), (3, aP 4 0), (4, aI (1 + (belowC (belowC x0 5).1 3).2)), (5, aI d4)], [(1, oX 112 [.ro (.u8 5) d0, cI d1, cI d2]), (2, oP 1 (Value.pointer (some ⟨b0, 0, none⟩))), (3, oX 26 [cI 0, cN]), (4, oX 26 [cI (belowC x0 5).2, .sl 5]), (5, oR s39 d3)]⟩ : St)) (show ((belowC (belowC (belowC x0 5).1 3).1 4).1.1 : List Int) = (genIt (belowC (belowC (belowC x0 5).1 3).1 4).1 (1 + (belowC (belowC x0 5).1 3).2).toNat (0)).1.1 from by first | with_reducible rfl | (first | rfl | omega) | rfl) (show ((belowC (belowC (belowC x0 5).1 3).1 4).1.2.1 : Int) = (genIt (belowC (belowC (belowC x0 5).1 3).1 4).1 (1 + (belowC (belowC x0 5).1 3).2).toNat (0)).1.2.1 from by first | with_reducible rfl | (first | rfl | omega) | rfl) (show ((belowC (belowC (belowC x0 5).1 3).1 4).1.2.2 : Int) = (genIt (belowC (belowC (belowC x0 5).1 3).1 4).1 (1 + (belowC (belowC x0 5).1 3).2).toNat (0)).1.2.2 from by first | with_reducible rfl | (first | rfl | omega) | rfl) (show (([] : List (List Int)) : List (List Int)) = (genIt (belowC (belowC (belowC x0 5).1 3).1 4).1 (1 + (belowC (belowC x0 5).1 3).2).toNat (0)).2 from by first | with_reducible rfl | (first | rfl | omega) | rfl) (show (1 + (belowC (belowC (belowC x0 5).1 3).1 4).2 : Int) = ((1 + (belowC (belowC (belowC x0 5).1 3).1 4).2) - (((0) : Nat) : Int)) from by first | with_reducible rfl | (first | rfl | omega) | rfl)) (by omega) ?_
 intro i a w hok0 h
 have hgi := genIt_inv (n := (1 + (belowC (belowC x0 5).1 3).2).toNat) hc i
 have hgl := hgi.2.1
 refine wp_seq (wp_seq ?_)
 refine at_regq [] { ts := [0, 2, 3, 4, 5, 18], os := [1, 2, 3, 4, 5] } [] gamOK hT h (by kernel_rfl) trivial fun a w h => then_normal ?_
 refine at_test (decide (((1 + (belowC (belowC (belowC x0 5).1 3).1 4).2) - ((i : Nat) : Int)) > 0)) h (by kernel_rfl) (fun h1 => ?_) (fun h1 => ?_)
 ·replace h1 : ((1 + (belowC (belowC (belowC x0 5).1 3).1 4).2) - ((i : Nat) : Int)) > 0 := of_decide_eq_true h1
  refine wp_skip (then_normal (wp_seq (wp_block (wp_seq ?_))))
  refine at_regq [{ ids := [6] }] { ts := [0, 2, 3, 4, 5, 6], os := [1, 2, 3, 4, 5, 6] } [] gamOK hT h (by kernel_rfl) trivial fun a w h => then_normal (wp_seq (wp_seq ?_))
  refine at_regq [] { ts := [0, 2, 3, 4, 5, 6, 7], os := [1, 2, 3, 4, 5, 6] } [] gamOK hT h (by kernel_rfl) trivial fun a w h => then_normal (wp_block ?_)
  replace h := at_out (σ' := ⟨[(0, aP 1 0), (2, aP 3 0), (3, aP 4 0), (4, aI (1 + (belowC (belowC x0 5).1 3).2)), (5, aI ((1 + (belowC (belowC (belowC x0 5).1 3).1 4).2) - ((i : Nat) : Int))), (6, aS 6), (7, aI 0)], [(1, oX 112 [.ro (.u8 5) (genIt (belowC (belowC (belowC x0 5).1 3).1 4).1 (1 + (belowC (belowC x0 5).1 3).2).toNat i).1.1, cI (genIt (belowC (belowC (belowC x0 5).1 3).1 4).1 (1 + (belowC (belowC x0 5).1 3).2).toNat i).1.2.1, cI (genIt (belowC (belowC (belowC x0 5).1 3).1 4).1 (1 + (belowC (belowC x0 5).1 3).2).toNat i).1.2.2]), (2, oP 1 (Value.pointer (some ⟨b0, 0, none⟩))), (3, oX 26 [cI 0, cN]), (4, oX 26 [cI (belowC x0 5).2, .sl 5]), (5, oR s39 (genIt (belowC (belowC (belowC x0 5).1 3).1 4).1 (1 + (belowC (belowC x0 5).1 3).2).toNat i).2), (6, oR (.int 3) ([] : List Int))]⟩) { ts := [0, 2, 3, 4, 5, 6, 7], os := [1, 2, 3, 4, 5, 6] } h (by kernel_rfl)
  refine at_loop (fun k : Nat => (⟨[(0, aP 1 0), (2, aP 3 0), (3, aP 4 0), (4, aI (1 + (belowC (belowC x0 5).1 3).2)), (5, aI ((1 + (belowC (belowC (belowC x0 5).1 3).1 4).2) - ((i : Nat) : Int))), (6, aS 6), (7, aI ((k : Nat) : Int))], [(1, oX 112 [.ro (.u8 5) (rowIt (genIt (belowC (belowC (belowC x0 5).1 3).1 4).1 (1 + (belowC (belowC x0 5).1 3).2).toNat i).1 k).1.1, cI (rowIt (genIt (belowC (belowC (belowC x0 5).1 3).1 4).1 (1 + (belowC (belowC x0 5).1 3).2).toNat i).1 k).1.2.1, cI (rowIt (genIt (belowC (belowC (belowC x0 5).1 3).1 4).1 (1 + (belowC (belowC x0 5).1 3).2).toNat i).1 k).1.2.2]), (2, oP 1 (Value.pointer (some ⟨b0, 0, none⟩))), (3, oX 26 [cI 0, cN]), (4, oX 26 [cI (belowC x0 5).2, .sl 5]), (5, oR s39 (genIt (belowC (belowC (belowC x0 5).1 3).1 4).1 (1 + (belowC (belowC x0 5).1 3).2).toNat i).2), (6, oR (.int 3) (rowIt (genIt (belowC (belowC (belowC x0 5).1 3).1 4).1 (1 + (belowC (belowC x0 5).1 3).2).toNat i).1 k).2)]⟩ : St)) (fun k => k ≤ (1 + (belowC (belowC x0 5).1 3).2).toNat) (fun k => (1 + (belowC (belowC x0 5).1 3).2).toNat - k) (0) h (st_congr5 (fun (d0 : List Int) (d1 : Int) (d2 : Int) (d3 : List Int) (d4 : Int) => (⟨[(0, aP 1 0), (2, aP 3 0), (3, aP 4 0), (4, aI (1 + (belowC (belowC x0 5).1 3).2)), (5, aI ((1 + (belowC (belowC (belowC x0 5).1 3).1 4).2) - ((i : Nat) : Int))), (6, aS 6), (7, aI d4)], [(1, oX 112 [.ro (.u8 5) d0, cI d1, cI d2]), (2, oP 1 (Value.pointer (some ⟨b0, 0, none⟩))), (3, oX 26 [cI 0, cN]), (4, oX 26 [cI (belowC x0 5).2, .sl 5]), (5, oR s39 (genIt (belowC (belowC (belowC x0 5).1 3).1 4).1 (1 + (belowC (belowC x0 5).1 3).2).toNat i).2), (6, oR (.int 3) d3)]⟩ : St)) (show ((genIt (belowC (belowC (belowC x0 5).1 3).1 4).1 (1 + (belowC (belowC x0 5).1 3).2).toNat i).1.1 : List Int) = (rowIt (genIt (belowC (belowC (belowC x0 5).1 3).1 4).1 (1 + (belowC (belowC x0 5).1 3).2).toNat i).1 (0)).1.1 from by first | with_reducible rfl | (rfl) | rfl) (show ((genIt (belowC (belowC (belowC x0 5).1 3).1 4).1 (1 + (belowC (belowC x0 5).1 3).2).toNat i).1.2.1 : Int) = (rowIt (genIt (belowC (belowC (belowC x0 5).1 3).1 4).1 (1 + (belowC (belowC x0 5).1 3).2).toNat i).1 (0)).1.2.1 from by first | with_reducible rfl | (rfl) | rfl) (show ((genIt (belowC (belowC (belowC x0 5).1 3).1 4).1 (1 + (belowC (belowC x0 5).1 3).2).toNat i).1.2.2 : Int) = (rowIt (genIt (belowC (belowC (belowC x0 5).1 3).1 4).1 (1 + (belowC (belowC x0 5).1 3).2).toNat i).1 (0)).1.2.2 from by first | with_reducible rfl | (rfl) | rfl) (show (([] : List Int) : List Int) = (rowIt (genIt (belowC (belowC (belowC x0 5).1 3).1 4).1 (1 + (belowC (belowC x0 5).1 3).2).toNat i).1 (0)).2 from by first | with_reducible rfl | (rfl) | rfl) (show (0 : Int) = (((0) : Nat) : Int) from by first | with_reducible rfl | (rfl) | rfl)) (by omega) ?_
  intro k a w hok1 h
  have hri := rowIt_inv hgi.1 k
  have hrl := hri.2.1
  refine wp_seq (wp_seq ?_)
  refine at_regq [] { ts := [0, 2, 3, 4, 5, 6, 7, 24], os := [1, 2, 3, 4, 5, 6] } [] gamOK hT h (by kernel_rfl) trivial fun a w h => then_normal ?_
  refine at_test (decide (((k : Nat) : Int) < 1 + (belowC (belowC x0 5).1 3).2)) h (by kernel_rfl) (fun h2 => ?_) (fun h2 => ?_)
  ·replace h2 : ((k : Nat) : Int) < 1 + (belowC (belowC x0 5).1 3).2 := of_decide_eq_true h2
   refine wp_skip (then_normal (wp_seq (wp_block ?_)))
   refine at_regq [{}, {}, {}, { ids := [7] }, { ids := [8] }] { ts := [0, 2, 3, 4, 5, 6, 7], os := [1, 2, 3, 4, 5, 8] } [B_spec_l1Below.pre (rowIt (genIt (belowC (belowC (belowC x0 5).1 3).1 4).1 (1 + (belowC (belowC x0 5).1 3).2).toNat i).1 k).1 (256, ()), (List.length (rowIt (genIt (belowC (belowC (belowC x0 5).1 3).1 4).1 (1 + (belowC (belowC x0 5).1 3).2).toNat i).1 k).2 + List.length ([(belowC (rowIt (genIt (belowC (belowC (belowC x0 5).1 3).1 4).1 (1 + (belowC (belowC x0 5).1 3).2).toNat i).1 k).1 256).2])) * 8 ≤ 140737488355328] gamOK hT h (by kernel_rfl) ⟨(by exact hri.1), (by first | omega | (simp only [lsA]; omega) | (simp <;> omega)), trivial⟩ fun a w h => in_normal (then_normal ?_)
   refine at_regq [{}, { nw := true }] { ts := [0, 2, 3, 4, 5, 6, 7], os := [1, 2, 3, 4, 5, 8] } [I64 (((k : Nat) : Int) + 1)] gamOK hT h (by kernel_rfl) ⟨⟨by first | omega | (simp only [lsA]; omega) | (simp <;> omega), by first | omega | (simp only [lsA]; omega) | (simp <;> omega)⟩, trivial⟩ fun a w h => ?_
   replace h := at_out (σ' := ⟨[(0, aP 1 0), (2, aP 3 0), (3, aP 4 0), (4, aI (1 + (belowC (belowC x0 5).1 3).2)), (5, aI ((1 + (belowC (belowC (belowC x0 5).1 3).1 4).2) - ((i : Nat) : Int))), (6, aS 6), (7, aI (((k : Nat) : Int) + 1))], [(1, oX 112 [.ro (.u8 5) (belowC (rowIt (genIt (belowC (belowC (belowC x0 5).1 3).1 4).1 (1 + (belowC (belowC x0 5).1 3).2).toNat i).1 k).1 256).1.1, cI (belowC (rowIt (genIt (belowC (belowC (belowC x0 5).1 3).1 4).1 (1 + (belowC (belowC x0 5).1 3).2).toNat i).1 k).1 256).1.2.1, cI (belowC (rowIt (genIt (belowC (belowC (belowC x0 5).1 3).1 4).1 (1 + (belowC (belowC x0 5).1 3).2).toNat i).1 k).1 256).1.2.2]), (2, oP 1 (Value.pointer (some ⟨b0, 0, none⟩))), (3, oX 26 [cI 0, cN]), (4, oX 26 [cI (belowC x0 5).2, .sl 5]), (5, oR s39 (genIt (belowC (belowC (belowC x0 5).1 3).1 4).1 (1 + (belowC (belowC x0 5).1 3).2).toNat i).2), (6, oR (.int 3) ((rowIt (genIt (belowC (belowC (belowC x0 5).1 3).1 4).1 (1 + (belowC (belowC x0 5).1 3).2).toNat i).1 k).2 ++ ([(belowC (rowIt (genIt (belowC (belowC (belowC x0 5).1 3).1 4).1 (1 + (belowC (belowC x0 5).1 3).2).toNat i).1 k).1 256).2])))]⟩) { ts := [0, 2, 3, 4, 5, 6, 7], os := [1, 2, 3, 4, 5, 8], rn := [(8, 6)] } h (by kernel_rfl)
   exact ⟨k + 1, at_eq h (st_congr5 (fun (d0 : List Int) (d1 : Int) (d2 : Int) (d3 : List Int) (d4 : Int) => (⟨[(0, aP 1 0), (2, aP 3 0), (3, aP 4 0), (4, aI (1 + (belowC (belowC x0 5).1 3).2)), (5, aI ((1 + (belowC (belowC (belowC x0 5).1 3).1 4).2) - ((i : Nat) : Int))), (6, aS 6), (7, aI d4)], [(1, oX 112 [.ro (.u8 5) d0, cI d1, cI d2]), (2, oP 1 (Value.pointer (some ⟨b0, 0, none⟩))), (3, oX 26 [cI 0, cN]), (4, oX 26 [cI (belowC x0 5).2, .sl 5]), (5, oR s39 (genIt (belowC (belowC (belowC x0 5).1 3).1 4).1 (1 + (belowC (belowC x0 5).1 3).2).toNat i).2), (6, oR (.int 3) d3)]⟩ : St)) (show ((belowC (rowIt (genIt (belowC (belowC (belowC x0 5).1 3).1 4).1 (1 + (belowC (belowC x0 5).1 3).2).toNat i).1 k).1 256).1.1 : List Int) = (rowIt (genIt (belowC (belowC (belowC x0 5).1 3).1 4).1 (1 + (belowC (belowC x0 5).1 3).2).toNat i).1 (k + 1)).1.1 from by first | with_reducible rfl | (rfl) | rfl) (show ((belowC (rowIt (genIt (belowC (belowC (belowC x0 5).1 3).1 4).1 (1 + (belowC (belowC x0 5).1 3).2).toNat i).1 k).1 256).1.2.1 : Int) = (rowIt (genIt (belowC (belowC (belowC x0 5).1 3).1 4).1 (1 + (belowC (belowC x0 5).1 3).2).toNat i).1 (k + 1)).1.2.1 from by first | with_reducible rfl | (rfl) | rfl) (show ((belowC (rowIt (genIt (belowC (belowC (belowC x0 5).1 3).1 4).1 (1 + (belowC (belowC x0 5).1 3).2).toNat i).1 k).1 256).1.2.2 : Int) = (rowIt (genIt (belowC (belowC (belowC x0 5).1 3).1 4).1 (1 + (belowC (belowC x0 5).1 3).2).toNat i).1 (k + 1)).1.2.2 from by first | with_reducible rfl | (rfl) | rfl) (show (((rowIt (genIt (belowC (belowC (belowC x0 5).1 3).1 4).1 (1 + (belowC (belowC x0 5).1 3).2).toNat i).1 k).2 ++ ([(belowC (rowIt (genIt (belowC (belowC (belowC x0 5).1 3).1 4).1 (1 + (belowC (belowC x0 5).1 3).2).toNat i).1 k).1 256).2])) : List Int) = (rowIt (genIt (belowC (belowC (belowC x0 5).1 3).1 4).1 (1 + (belowC (belowC x0 5).1 3).2).toNat i).1 (k + 1)).2 from by first | with_reducible rfl | (rfl) | rfl) (show (((k : Nat) : Int) + 1 : Int) = (((k + 1) : Nat) : Int) from by first | with_reducible rfl | (omega) | rfl)), (by omega), (by omega)⟩
  ·replace h2 : ¬ (((k : Nat) : Int) < 1 + (belowC (belowC x0 5).1 3).2) := of_decide_eq_false h2
   refine wp_exit (then_exit ?_)
   replace h := at_out (σ' := ⟨[(0, aP 1 0), (2, aP 3 0), (3, aP 4 0), (4, aI (1 + (belowC (belowC x0 5).1 3).2)), (5, aI ((1 + (belowC (belowC (belowC x0 5).1 3).1 4).2) - ((i : Nat) : Int))), (6, aS 6)], [(1, oX 112 [.ro (.u8 5) (rowIt (genIt (belowC (belowC (belowC x0 5).1 3).1 4).1 (1 + (belowC (belowC x0 5).1 3).2).toNat i).1 k).1.1, cI (rowIt (genIt (belowC (belowC (belowC x0 5).1 3).1 4).1 (1 + (belowC (belowC x0 5).1 3).2).toNat i).1 k).1.2.1, cI (rowIt (genIt (belowC (belowC (belowC x0 5).1 3).1 4).1 (1 + (belowC (belowC x0 5).1 3).2).toNat i).1 k).1.2.2]), (2, oP 1 (Value.pointer (some ⟨b0, 0, none⟩))), (3, oX 26 [cI 0, cN]), (4, oX 26 [cI (belowC x0 5).2, .sl 5]), (5, oR s39 (genIt (belowC (belowC (belowC x0 5).1 3).1 4).1 (1 + (belowC (belowC x0 5).1 3).2).toNat i).2), (6, oR (.int 3) (rowIt (genIt (belowC (belowC (belowC x0 5).1 3).1 4).1 (1 + (belowC (belowC x0 5).1 3).2).toNat i).1 k).2)]⟩) { ts := [0, 2, 3, 4, 5, 6], os := [1, 2, 3, 4, 5, 6] } h (by kernel_rfl)
   replace h := at_eq (σ' := ⟨[(0, aP 1 0), (2, aP 3 0), (3, aP 4 0), (4, aI (1 + (belowC (belowC x0 5).1 3).2)), (5, aI ((1 + (belowC (belowC (belowC x0 5).1 3).1 4).2) - ((i : Nat) : Int))), (6, aS 6)], [(1, oX 112 [.ro (.u8 5) (rowIt (genIt (belowC (belowC (belowC x0 5).1 3).1 4).1 (1 + (belowC (belowC x0 5).1 3).2).toNat i).1 (1 + (belowC (belowC x0 5).1 3).2).toNat).1.1, cI (rowIt (genIt (belowC (belowC (belowC x0 5).1 3).1 4).1 (1 + (belowC (belowC x0 5).1 3).2).toNat i).1 (1 + (belowC (belowC x0 5).1 3).2).toNat).1.2.1, cI (rowIt (genIt (belowC (belowC (belowC x0 5).1 3).1 4).1 (1 + (belowC (belowC x0 5).1 3).2).toNat i).1 (1 + (belowC (belowC x0 5).1 3).2).toNat).1.2.2]), (2, oP 1 (Value.pointer (some ⟨b0, 0, none⟩))), (3, oX 26 [cI 0, cN]), (4, oX 26 [cI (belowC x0 5).2, .sl 5]), (5, oR s39 (genIt (belowC (belowC (belowC x0 5).1 3).1 4).1 (1 + (belowC (belowC x0 5).1 3).2).toNat i).2), (6, oR (.int 3) (rowIt (genIt (belowC (belowC (belowC x0 5).1 3).1 4).1 (1 + (belowC (belowC x0 5).1 3).2).toNat i).1 (1 + (belowC (belowC x0 5).1 3).2).toNat).2)]⟩) h (st_congr4 (fun (d0 : List Int) (d1 : Int) (d2 : Int) (d3 : List Int) => (⟨[(0, aP 1 0), (2, aP 3 0), (3, aP 4 0), (4, aI (1 + (belowC (belowC x0 5).1 3).2)), (5, aI ((1 + (belowC (belowC (belowC x0 5).1 3).1 4).2) - ((i : Nat) : Int))), (6, aS 6)], [(1, oX 112 [.ro (.u8 5) d0, cI d1, cI d2]), (2, oP 1 (Value.pointer (some ⟨b0, 0, none⟩))), (3, oX 26 [cI 0, cN]), (4, oX 26 [cI (belowC x0 5).2, .sl 5]), (5, oR s39 (genIt (belowC (belowC (belowC x0 5).1 3).1 4).1 (1 + (belowC (belowC x0 5).1 3).2).toNat i).2), (6, oR (.int 3) d3)]⟩ : St)) (show ((rowIt (genIt (belowC (belowC (belowC x0 5).1 3).1 4).1 (1 + (belowC (belowC x0 5).1 3).2).toNat i).1 k).1.1 : List Int) = (rowIt (genIt (belowC (belowC (belowC x0 5).1 3).1 4).1 (1 + (belowC (belowC x0 5).1 3).2).toNat i).1 (1 + (belowC (belowC x0 5).1 3).2).toNat).1.1 from by first | with_reducible rfl | (rw [show (1 + (belowC (belowC x0 5).1 3).2).toNat = k by omega]) | rfl) (show ((rowIt (genIt (belowC (belowC (belowC x0 5).1 3).1 4).1 (1 + (belowC (belowC x0 5).1 3).2).toNat i).1 k).1.2.1 : Int) = (rowIt (genIt (belowC (belowC (belowC x0 5).1 3).1 4).1 (1 + (belowC (belowC x0 5).1 3).2).toNat i).1 (1 + (belowC (belowC x0 5).1 3).2).toNat).1.2.1 from by first | with_reducible rfl | (rw [show (1 + (belowC (belowC x0 5).1 3).2).toNat = k by omega]) | rfl) (show ((rowIt (genIt (belowC (belowC (belowC x0 5).1 3).1 4).1 (1 + (belowC (belowC x0 5).1 3).2).toNat i).1 k).1.2.2 : Int) = (rowIt (genIt (belowC (belowC (belowC x0 5).1 3).1 4).1 (1 + (belowC (belowC x0 5).1 3).2).toNat i).1 (1 + (belowC (belowC x0 5).1 3).2).toNat).1.2.2 from by first | with_reducible rfl | (rw [show (1 + (belowC (belowC x0 5).1 3).2).toNat = k by omega]) | rfl) (show ((rowIt (genIt (belowC (belowC (belowC x0 5).1 3).1 4).1 (1 + (belowC (belowC x0 5).1 3).2).toNat i).1 k).2 : List Int) = (rowIt (genIt (belowC (belowC (belowC x0 5).1 3).1 4).1 (1 + (belowC (belowC x0 5).1 3).2).toNat i).1 (1 + (belowC (belowC x0 5).1 3).2).toNat).2 from by first | with_reducible rfl | (rw [show (1 + (belowC (belowC x0 5).1 3).2).toNat = k by omega]) | rfl))
   refine then_exit (in_hit (then_normal ?_))
   refine at_regq [{}, {}, {}, { ids := [9] }, { ids := [10] }] { ts := [0, 2, 3, 4, 5], os := [1, 2, 3, 4, 10] } [(List.length (genIt (belowC (belowC (belowC x0 5).1 3).1 4).1 (1 + (belowC (belowC x0 5).1 3).2).toNat i).2 + List.length ([(rowIt (genIt (belowC (belowC (belowC x0 5).1 3).1 4).1 (1 + (belowC (belowC x0 5).1 3).2).toNat i).1 (1 + (belowC (belowC x0 5).1 3).2).toNat).2])) * 24 ≤ 140737488355328] gamOK hT h (by kernel_rfl) ⟨(by first | omega | (simp only [lsA]; omega) | (simp <;> omega)), trivial⟩ fun a w h => in_normal (then_normal ?_)
   refine at_regq [{}, { nw := true }] { ts := [0, 2, 3, 4, 5], os := [1, 2, 3, 4, 10] } [I64 (((1 + (belowC (belowC (belowC x0 5).1 3).1 4).2) - ((i : Nat) : Int)) - 1)] gamOK hT h (by kernel_rfl) ⟨⟨by first | omega | (simp only [lsA]; omega) | (simp <;> omega), by first | omega | (simp only [lsA]; omega) | (simp <;> omega)⟩, trivial⟩ fun a w h => ?_
   replace h := at_out (σ' := ⟨[(0, aP 1 0), (2, aP 3 0), (3, aP 4 0), (4, aI (1 + (belowC (belowC x0 5).1 3).2)), (5, aI (((1 + (belowC (belowC (belowC x0 5).1 3).1 4).2) - ((i : Nat) : Int)) - 1))], [(1, oX 112 [.ro (.u8 5) (rowIt (genIt (belowC (belowC (belowC x0 5).1 3).1 4).1 (1 + (belowC (belowC x0 5).1 3).2).toNat i).1 (1 + (belowC (belowC x0 5).1 3).2).toNat).1.1, cI (rowIt (genIt (belowC (belowC (belowC x0 5).1 3).1 4).1 (1 + (belowC (belowC x0 5).1 3).2).toNat i).1 (1 + (belowC (belowC x0 5).1 3).2).toNat).1.2.1, cI (rowIt (genIt (belowC (belowC (belowC x0 5).1 3).1 4).1 (1 + (belowC (belowC x0 5).1 3).2).toNat i).1 (1 + (belowC (belowC x0 5).1 3).2).toNat).1.2.2]), (2, oP 1 (Value.pointer (some ⟨b0, 0, none⟩))), (3, oX 26 [cI 0, cN]), (4, oX 26 [cI (belowC x0 5).2, .sl 5]), (5, oR s39 ((genIt (belowC (belowC (belowC x0 5).1 3).1 4).1 (1 + (belowC (belowC x0 5).1 3).2).toNat i).2 ++ ([(rowIt (genIt (belowC (belowC (belowC x0 5).1 3).1 4).1 (1 + (belowC (belowC x0 5).1 3).2).toNat i).1 (1 + (belowC (belowC x0 5).1 3).2).toNat).2])))]⟩) { ts := [0, 2, 3, 4, 5], os := [1, 2, 3, 4, 10], rn := [(10, 5)] } h (by kernel_rfl)
   exact ⟨i + 1, at_eq h (st_congr5 (fun (d0 : List Int) (d1 : Int) (d2 : Int) (d3 : List (List Int)) (d4 : Int) => (⟨[(0, aP 1 0), (2, aP 3 0), (3, aP 4 0), (4, aI (1 + (belowC (belowC x0 5).1 3).2)), (5, aI d4)], [(1, oX 112 [.ro (.u8 5) d0, cI d1, cI d2]), (2, oP 1 (Value.pointer (some ⟨b0, 0, none⟩))), (3, oX 26 [cI 0, cN]), (4, oX 26 [cI (belowC x0 5).2, .sl 5]), (5, oR s39 d3)]⟩ : St)) (show ((rowIt (genIt (belowC (belowC (belowC x0 5).1 3).1 4).1 (1 + (belowC (belowC x0 5).1 3).2).toNat i).1 (1 + (belowC (belowC x0 5).1 3).2).toNat).1.1 : List Int) = (genIt (belowC (belowC (belowC x0 5).1 3).1 4).1 (1 + (belowC (belowC x0 5).1 3).2).toNat (i + 1)).1.1 from by first | with_reducible rfl | (rfl) | rfl) (show ((rowIt (genIt (belowC (belowC (belowC x0 5).1 3).1 4).1 (1 + (belowC (belowC x0 5).1 3).2).toNat i).1 (1 + (belowC (belowC x0 5).1 3).2).toNat).1.2.1 : Int) = (genIt (belowC (belowC (belowC x0 5).1 3).1 4).1 (1 + (belowC (belowC x0 5).1 3).2).toNat (i + 1)).1.2.1 from by first | with_reducible rfl | (rfl) | rfl) (show ((rowIt (genIt (belowC (belowC (belowC x0 5).1 3).1 4).1 (1 + (belowC (belowC x0 5).1 3).2).toNat i).1 (1 + (belowC (belowC x0 5).1 3).2).toNat).1.2.2 : Int) = (genIt (belowC (belowC (belowC x0 5).1 3).1 4).1 (1 + (belowC (belowC x0 5).1 3).2).toNat (i + 1)).1.2.2 from by first | with_reducible rfl | (rfl) | rfl) (show (((genIt (belowC (belowC (belowC x0 5).1 3).1 4).1 (1 + (belowC (belowC x0 5).1 3).2).toNat i).2 ++ ([(rowIt (genIt (belowC (belowC (belowC x0 5).1 3).1 4).1 (1 + (belowC (belowC x0 5).1 3).2).toNat i).1 (1 + (belowC (belowC x0 5).1 3).2).toNat).2])) : List (List Int)) = (genIt (belowC (belowC (belowC x0 5).1 3).1 4).1 (1 + (belowC (belowC x0 5).1 3).2).toNat (i + 1)).2 from by first | with_reducible rfl | (rfl) | rfl) (show (((1 + (belowC (belowC (belowC x0 5).1 3).1 4).2) - ((i : Nat) : Int)) - 1 : Int) = ((1 + (belowC (belowC (belowC x0 5).1 3).1 4).2) - (((i + 1) : Nat) : Int)) from by first | with_reducible rfl | (omega) | rfl)), (by omega), (by omega)⟩
 ·replace h1 : ¬ (((1 + (belowC (belowC (belowC x0 5).1 3).1 4).2) - ((i : Nat) : Int)) > 0) := of_decide_eq_false h1
  refine wp_exit (then_exit ?_)
  replace h := at_out (σ' := ⟨[(2, aP 3 0), (3, aP 4 0)], [(1, oX 112 [.ro (.u8 5) (genIt (belowC (belowC (belowC x0 5).1 3).1 4).1 (1 + (belowC (belowC x0 5).1 3).2).toNat i).1.1, cI (genIt (belowC (belowC (belowC x0 5).1 3).1 4).1 (1 + (belowC (belowC x0 5).1 3).2).toNat i).1.2.1, cI (genIt (belowC (belowC (belowC x0 5).1 3).1 4).1 (1 + (belowC (belowC x0 5).1 3).2).toNat i).1.2.2]), (2, oP 1 (Value.pointer (some ⟨b0, 0, none⟩))), (3, oX 26 [cI 0, cN]), (4, oX 26 [cI (belowC x0 5).2, .sl 5]), (5, oR s39 (genIt (belowC (belowC (belowC x0 5).1 3).1 4).1 (1 + (belowC (belowC x0 5).1 3).2).toNat i).2)]⟩) { ts := [2, 3], os := [1, 2, 3, 4, 5] } h (by kernel_rfl)
  replace h := at_eq (σ' := ⟨[(2, aP 3 0), (3, aP 4 0)], [(1, oX 112 [.ro (.u8 5) (genIt (belowC (belowC (belowC x0 5).1 3).1 4).1 (1 + (belowC (belowC x0 5).1 3).2).toNat (1 + (belowC (belowC (belowC x0 5).1 3).1 4).2).toNat).1.1, cI (genIt (belowC (belowC (belowC x0 5).1 3).1 4).1 (1 + (belowC (belowC x0 5).1 3).2).toNat (1 + (belowC (belowC (belowC x0 5).1 3).1 4).2).toNat).1.2.1, cI (genIt (belowC (belowC (belowC x0 5).1 3).1 4).1 (1 + (belowC (belowC x0 5).1 3).2).toNat (1 + (belowC (belowC (belowC x0 5).1 3).1 4).2).toNat).1.2.2]), (2, oP 1 (Value.pointer (some ⟨b0, 0, none⟩))), (3, oX 26 [cI 0, cN]), (4, oX 26 [cI (belowC x0 5).2, .sl 5]), (5, oR s39 (genIt (belowC (belowC (belowC x0 5).1 3).1 4).1 (1 + (belowC (belowC x0 5).1 3).2).toNat (1 + (belowC (belowC (belowC x0 5).1 3).1 4).2).toNat).2)]⟩) h (st_congr4 (fun (d0 : List Int) (d1 : Int) (d2 : Int) (d3 : List (List Int)) => (⟨[(2, aP 3 0), (3, aP 4 0)], [(1, oX 112 [.ro (.u8 5) d0, cI d1, cI d2]), (2, oP 1 (Value.pointer (some ⟨b0, 0, none⟩))), (3, oX 26 [cI 0, cN]), (4, oX 26 [cI (belowC x0 5).2, .sl 5]), (5, oR s39 d3)]⟩ : St)) (show ((genIt (belowC (belowC (belowC x0 5).1 3).1 4).1 (1 + (belowC (belowC x0 5).1 3).2).toNat i).1.1 : List Int) = (genIt (belowC (belowC (belowC x0 5).1 3).1 4).1 (1 + (belowC (belowC x0 5).1 3).2).toNat (1 + (belowC (belowC (belowC x0 5).1 3).1 4).2).toNat).1.1 from by first | with_reducible rfl | (rw [show (1 + (belowC (belowC (belowC x0 5).1 3).1 4).2).toNat = i by omega]) | rfl) (show ((genIt (belowC (belowC (belowC x0 5).1 3).1 4).1 (1 + (belowC (belowC x0 5).1 3).2).toNat i).1.2.1 : Int) = (genIt (belowC (belowC (belowC x0 5).1 3).1 4).1 (1 + (belowC (belowC x0 5).1 3).2).toNat (1 + (belowC (belowC (belowC x0 5).1 3).1 4).2).toNat).1.2.1 from by first | with_reducible rfl | (rw [show (1 + (belowC (belowC (belowC x0 5).1 3).1 4).2).toNat = i by omega]) | rfl) (show ((genIt (belowC (belowC (belowC x0 5).1 3).1 4).1 (1 + (belowC (belowC x0 5).1 3).2).toNat i).1.2.2 : Int) = (genIt (belowC (belowC (belowC x0 5).1 3).1 4).1 (1 + (belowC (belowC x0 5).1 3).2).toNat (1 + (belowC (belowC (belowC x0 5).1 3).1 4).2).toNat).1.2.2 from by first | with_reducible rfl | (rw [show (1 + (belowC (belowC (belowC x0 5).1 3).1 4).2).toNat = i by omega]) | rfl) (show ((genIt (belowC (belowC (belowC x0 5).1 3).1 4).1 (1 + (belowC (belowC x0 5).1 3).2).toNat i).2 : List (List Int)) = (genIt (belowC (belowC (belowC x0 5).1 3).1 4).1 (1 + (belowC (belowC x0 5).1 3).2).toNat (1 + (belowC (belowC (belowC x0 5).1 3).1 4).2).toNat).2 from by first | with_reducible rfl | (rw [show (1 + (belowC (belowC (belowC x0 5).1 3).1 4).2).toNat = i by omega]) | rfl))
  refine then_exit (in_hit (then_normal (wp_seq ?_)))
  refine at_regq [] { ts := [2], os := [1, 2, 3, 5] } [] gamOK hT h (by kernel_rfl) trivial fun a w h => then_normal (wp_ret ?_)
  have hr3 : (((genIt (belowC (belowC (belowC x0 5).1 3).1 4).1 (1 + (belowC (belowC x0 5).1 3).2).toNat (1 + (belowC (belowC (belowC x0 5).1 3).1 4).2).toNat).1, ((belowC x0 5).2, (genIt (belowC (belowC (belowC x0 5).1 3).1 4).1 (1 + (belowC (belowC x0 5).1 3).2).toNat (1 + (belowC (belowC (belowC x0 5).1 3).1 4).2).toNat).2)) : T112 × T26) = genD x0 := by rfl
  exact at_returnB (B := B_spec_l10Gen) (c0 := x0) (x := (())) ((genIt (belowC (belowC (belowC x0 5).1 3).1 4).1 (1 + (belowC (belowC x0 5).1 3).2).toNat (1 + (belowC (belowC (belowC x0 5).1 3).1 4).2).toNat).1) (((belowC x0 5).2, (genIt (belowC (belowC (belowC x0 5).1 3).1 4).1 (1 + (belowC (belowC x0 5).1 3).2).toNat (1 + (belowC (belowC (belowC x0 5).1 3).1 4).2).toNat).2), ()) [(Value.pointer (some ⟨b0, 0, none⟩)) = (Value.pointer (some ⟨b0, 0, none⟩))] h (by kernel_rfl) ⟨rfl, trivial⟩ (congrArg (a₁ := ((genIt (belowC (belowC (belowC x0 5).1 3).1 4).1 (1 + (belowC (belowC x0 5).1 3).2).toNat (1 + (belowC (belowC (belowC x0 5).1 3).1 4).2).toNat).1, ((belowC x0 5).2, (genIt (belowC (belowC (belowC x0 5).1 3).1 4).1 (1 + (belowC (belowC x0 5).1 3).2).toNat (1 + (belowC (belowC (belowC x0 5).1 3).1 4).2).toNat).2))) (a₂ := genD x0) (fun (z : T112 × T26) => z.1) hr3) (congrArg (a₁ := ((genIt (belowC (belowC (belowC x0 5).1 3).1 4).1 (1 + (belowC (belowC x0 5).1 3).2).toNat (1 + (belowC (belowC (belowC x0 5).1 3).1 4).2).toNat).1, ((belowC x0 5).2, (genIt (belowC (belowC (belowC x0 5).1 3).1 4).1 (1 + (belowC (belowC x0 5).1 3).2).toNat (1 + (belowC (belowC (belowC x0 5).1 3).1 4).2).toNat).2))) (a₂ := genD x0) (fun (z : T112 × T26) => (z.2, ())) hr3)
theorem genD_ok {x : T112} (h : 0 ≤ x.2.1) : 0 ≤ (genD x).1.2.1 ∧ validG (genD x).2 = true ∧ ((genD x).2.1 ≤ 4 ∧ List.length (genD x).2.2 ≤ 4 ∧ colsOf (genD x).2.2 ≤ 3) := by
 have b1 := below_bd x (n := 5) (by decide)
 have b2 := below_bd (belowC x 5).1 (n := 3) (by decide)
 have b3 := below_bd (belowC (belowC x 5).1 3).1 (n := 4) (by decide)
 have hx := below_ok (n := 4) (below_ok (n := 3) (below_ok (n := 5) h))
 have hi := genIt_inv (n := (1 + (belowC (belowC x 5).1 3).2).toNat) hx (1 + (belowC (belowC (belowC x 5).1 3).1 4).2).toNat
 have hv := validG_of (a := (belowC x 5).2) (n := (1 + (belowC (belowC x 5).1 3).2).toNat) (by omega) (by rw [hi.2.1]; omega) (by omega) hi.2.2
 refine ⟨hi.1, hv.1, by show (belowC x 5).2 ≤ 4; omega, ?_, ?_⟩
 ·show List.length (genIt _ _ _).2 ≤ 4
  rw [hi.2.1]; omega
 ·show colsOf (genIt _ _ _).2 ≤ 3
  rw [hv.2]; omega
theorem validG_fit {g : T26} (h : validG g = true) : Sh.fit s26 g := by
 have h1 := validG_t h
 have hm := validM_t h1.2.2.1
 refine ⟨trivial, by omega, fun r hr => ⟨by have := (hm.2 r hr).2; have := colsOf_at (m := g.2) (by omega); omega, fun _ _ => trivial⟩⟩

theorem codePk_ok {g : T26} {cs : List Int} (h : validG g = true) (hc : LA.VokB g.2.length cs) : codePk g cs = ((g.1, cs, combS g.2 cs), true) := by
 have hg := validG_t h
 rw [← codePk_y h (validV_of hc (by omega)) hc.1, genC h hc]
theorem combS_ok {g : T26} {cs : List Int} (h : validG g = true) (hc : LA.VokB g.2.length cs) : LA.VokB (g.2.getD 0 []).length (combS g.2 cs) := by
 have hm := validM_ok (validG_t h).2.2.1
 exact combTo_ok rfl (fun j => hc.rng j) g.2.length fun j hj => hm _ (LA.getD_in hj)
def pktD (x0 : T112) (x1 : T26) : T112 × T41 := ((vecD x0 ((List.length x1.2 : Nat) : Int)).1, (codePk x1 (vecD x0 ((List.length x1.2 : Nat) : Int)).2).1)
abbrev Q_spec_l11Packet := (fun (x0 : T112) (x1 : T26) => 0 ≤ x0.2.1 ∧ validG x1 = true)
def B_spec_l11Packet : BS := { t := 112, s := s112, dom := [s26], cod := [s41], pre := fun y x => Q_spec_l11Packet y x.1, upd := fun y x => (pktD y x.1).1, g := fun y x => ((pktD y x.1).2, ()) }
def S_spec_l11Packet : Sum := bSum 62 B_spec_l11Packet
def S_spec_l11Packet_tab : List (Nat × Sum) := [(104, S_spec_l5Vector), (38, S_spec_CodePacket)]
theorem S_spec_l11Packet_ok : FnOK Tryz.prog 62 S_spec_l11Packet := by
 refine at_enterB (B := B_spec_l11Packet) 18 (fun v y x => ⟨[(0, aP 1 0), (1, aG [cI x.1.1, .ro s39 x.1.2])], [(1, oX 112 [.ro (.u8 5) y.1, cI y.2.1, cI y.2.2]), (2, oP 1 v)]⟩) Tryz.func62 rfl (by kernel_rfl) (fun v y x => rfl) ?_
 rintro w0 Z0 b0 x0 ⟨x1, u⟩ a w
 revert x0 x1
 intro (x0 : T112) (x1 : T26) hpre hlens0 hlens h
 replace h : At w0 Z0 [b0] 18 ⟨[(0, aP 1 0), (1, aG [cI x1.1, .ro s39 x1.2])], [(1, oX 112 [.ro (.u8 5) x0.1, cI x0.2.1, cI x0.2.2]), (2, oP 1 (Value.pointer (some ⟨b0, 0, none⟩)))]⟩ a w := h
 replace hpre : Q_spec_l11Packet x0 x1 := hpre
 have hl1 : List.length x0.1 ≤ 9223372036854775807 := hlens0.1.1
 have hu0 : u8L x0.1 := hlens0.1.2
 have hl2 : List.length x1.2 ≤ 9223372036854775807 := hlens.1.2.1
 have hT : TabOK Tryz.prog S_spec_l11Packet_tab := (.cons S_spec_l5Vector_ok (.cons S_spec_CodePacket_ok .nil))
 have hvg := validG_t hpre.2
 have hvd := vecD_ok (n := ((List.length x1.2 : Nat) : Int)) hpre.1
 have hvl := hvd.2.1
 have hgf := validG_fit hpre.2
 refine wp_seq ?_
 refine at_regq [{ ids := [3] }, { ids := [4] }] { ts := [0, 3, 4], os := [1, 2, 3, 4] } [] gamOK hT h (by kernel_rfl) trivial fun a w h => then_normal (wp_seq ?_)
 refine at_anyq [{}, {}, {}, {}, {}, { ids := [5] }, { ids := [6, 7] }, {}, {}, {}, { ids := [8] }, {}, {}] { ts := [4, 5], os := [1, 2, 4, 6, 7, 8] } [B_spec_l5Vector.pre x0 (((List.length x1.2 : Nat) : Int), ()), Q_spec_CodePacket x1 (vecD x0 ((List.length x1.2 : Nat) : Int)).2] gamOK hT mixed h (by kernel_rfl) ⟨(by exact ⟨hpre.1, by omega⟩), (by exact ⟨hgf, Sh.fit_len rfl (by omega)⟩), trivial⟩ fun a w h => then_normal (wp_seq ?_)
 refine at_regq [] { ts := [4], os := [1, 2, 4, 6, 7] } [] gamOK hT h (by kernel_rfl) trivial fun a w h => then_normal (wp_ret ?_)
 have hr1 : (((vecD x0 ((List.length x1.2 : Nat) : Int)).1, (codePk x1 (vecD x0 ((List.length x1.2 : Nat) : Int)).2).1) : T112 × T41) = pktD x0 x1 := by rfl
 exact at_returnB (B := B_spec_l11Packet) (c0 := x0) (x := (x1, ())) ((vecD x0 ((List.length x1.2 : Nat) : Int)).1) ((codePk x1 (vecD x0 ((List.length x1.2 : Nat) : Int)).2).1, ()) [(Value.pointer (some ⟨b0, 0, none⟩)) = (Value.pointer (some ⟨b0, 0, none⟩))] h (by kernel_rfl) ⟨rfl, trivial⟩ (congrArg (a₁ := ((vecD x0 ((List.length x1.2 : Nat) : Int)).1, (codePk x1 (vecD x0 ((List.length x1.2 : Nat) : Int)).2).1)) (a₂ := pktD x0 x1) (fun (z : T112 × T41) => z.1) hr1) (congrArg (a₁ := ((vecD x0 ((List.length x1.2 : Nat) : Int)).1, (codePk x1 (vecD x0 ((List.length x1.2 : Nat) : Int)).2).1)) (a₂ := pktD x0 x1) (fun (z : T112 × T41) => (z.2, ())) hr1)
theorem pktD_ok {x : T112} {g : T26} (h : 0 ≤ x.2.1) (hg : validG g = true) : 0 ≤ (pktD x g).1.2.1 ∧ (pktD x g).2.1 = g.1 ∧ LA.VokB g.2.length (pktD x g).2.2.1 ∧ (pktD x g).2.2.2 = combS g.2 (pktD x g).2.2.1 := by
 have hvd := vecD_ok (n := ((List.length g.2 : Nat) : Int)) h
 have hv2 := hvd.2
 rw [Int.toNat_natCast] at hv2
 unfold pktD
 rw [codePk_ok hg hv2]
 exact ⟨hvd.1, rfl, hv2, rfl⟩
theorem pktD_fit {x : T112} {g : T26} (h : 0 ≤ x.2.1) (hg : validG g = true) : Sh.fit s41 (pktD x g).2 := by
 obtain ⟨h1, h2, h3, h4⟩ := pktD_ok h hg
 have hv := validG_t hg
 have hc := combS_ok hg h3
 have hco := colsOf_at (m := g.2) (by omega)
 refine ⟨trivial, ⟨by have := h3.1; omega, fun _ _ => trivial⟩, ⟨?_, fun _ _ => trivial⟩⟩
 rw [h4]; have := hc.1; omega
theorem pktD_len {x : T112} {g : T26} (h : 0 ≤ x.2.1) (hg : validG g = true) : List.length (pktD x g).2.2.1 ≤ 8 ∧ (1 ≤ List.length (pktD x g).2.2.2 ∧ List.length (pktD x g).2.2.2 ≤ 16) ∧ ∀ j, 0 ≤ (pktD x g).2.2.2.getD j 0 ∧ (pktD x g).2.2.2.getD j 0 ≤ 1018 := by
 obtain ⟨_, _, h3, h4⟩ := pktD_ok h hg
 have hv := validG_t hg
 have hc := combS_ok hg h3
 have hco := colsOf_at (m := g.2) (by omega)
 rw [h4]
 exact ⟨by have := h3.1; omega, by have := hc.1; omega, fun j => hc.rng j⟩

def fp (x : GF) : Nat → GF
 | 0 => 1
 | n + 1 => fp x n * x
def hz (es : List Int) (v : Nat → Nat) : Nat → GF
 | 0 => 1
 | i + 1 => hz es v i * fp (gc (es.getD i 0)) (v i)
def S_laws_sameInts : Sum := { fid := 13, dom := [s39, s39], cod := [(.bool 4)], dp := true, fz := false, pre := fun x => True, g := fun x => (((Sh.eqB s39) x.1 x.2.1), ()) }
def S_laws_sameInts_tab : List (Nat × Sum) := []
theorem S_laws_sameInts_ok : FnOK Tryz.prog 13 S_laws_sameInts := by
 refine at_enter 26 (fun x => ⟨[(0, aF (.int 3) x.1), (1, aF (.int 3) x.2.1)], []⟩) Tryz.func13 rfl (by kernel_rfl) (fun x => rfl) ?_
 rintro w0 Z0 ⟨x0, x1, u⟩ a w
 revert x0 x1
 intro (x0 : (List Int)) (x1 : (List Int)) hpre hlens h
 have hl1 : List.length x0 ≤ 9223372036854775807 := hlens.1.1
 have hl2 : List.length x1 ≤ 9223372036854775807 := hlens.2.1.1
 have hT : TabOK Tryz.prog S_laws_sameInts_tab := .nil
 refine wp_seq ?_
 refine at_regq [] { ts := [0, 1, 4], os := [] } [] gamOK hT h (by kernel_rfl) trivial fun a w h => then_normal (wp_seq (wp_seq ?_))
 refine at_regq [] { ts := [0, 1, 4, 10], os := [] } [] gamOK hT h (by kernel_rfl) trivial fun a w h => then_normal ?_
 refine at_test (!decide (((List.length x0 : Nat) : Int) = ((List.length x1 : Nat) : Int))) h (by kernel_rfl) (fun h1 => ?_) (fun h1 => ?_)
 ·replace h1 : ¬ (((List.length x0 : Nat) : Int) = ((List.length x1 : Nat) : Int)) := of_decide_eq_false (notT h1)
  refine wp_seq ?_
  refine at_regq [] { ts := [0, 1, 4], os := [] } [] gamOK hT h (by kernel_rfl) trivial fun a w h => then_normal (wp_ret (then_ret ?_))
  exact at_return (false, ()) [] h (by kernel_rfl) trivial (congrArg (fun z => (z, ())) (show (false) = (Sh.eqB s39) x0 x1 from by exact (Sh.eqB_ne (fun e => h1 (by rw [e]))).symm))
 ·replace h1 : ((List.length x0 : Nat) : Int) = ((List.length x1 : Nat) : Int) := of_decide_eq_true (notF h1)
  refine wp_skip (then_normal (wp_seq (wp_seq ?_)))
  refine at_regq [] { ts := [0, 1, 4, 5], os := [] } [] gamOK hT h (by kernel_rfl) trivial fun a w h => then_normal (wp_block ?_)
  replace h := at_out (σ' := ⟨[(0, aF (.int 3) x0), (1, aF (.int 3) x1), (4, aB false), (5, aI 0)], []⟩) { ts := [0, 1, 4, 5], os := [] } h (by kernel_rfl)
  refine at_loop (fun i : Nat => (⟨[(0, aF (.int 3) x0), (1, aF (.int 3) x1), (4, aB false), (5, aI ((i : Nat) : Int))], []⟩ : St)) (fun i => (i ≤ List.length x0 ∧ x0.take i = x1.take i)) (fun i => List.length x0 - i) (0) h (st_congr1 (fun (d0 : Int) => (⟨[(0, aF (.int 3) x0), (1, aF (.int 3) x1), (4, aB false), (5, aI d0)], []⟩ : St)) (show (0 : Int) = (((0) : Nat) : Int) from by first | with_reducible rfl | (rfl) | rfl)) (by exact ⟨Nat.zero_le _, rfl⟩) ?_
  intro i a w hok0 h
  refine wp_seq (wp_seq ?_)
  refine at_regq [] { ts := [0, 1, 4, 5, 14], os := [] } [] gamOK hT h (by kernel_rfl) trivial fun a w h => then_normal ?_
  refine at_test (decide (((i : Nat) : Int) < ((List.length x0 : Nat) : Int))) h (by kernel_rfl) (fun h2 => ?_) (fun h2 => ?_)
  ·replace h2 : ((i : Nat) : Int) < ((List.length x0 : Nat) : Int) := of_decide_eq_true h2
   refine wp_skip (then_normal (wp_seq (wp_block (wp_seq ?_))))
   refine at_anyq [{}, {}, {}, {}, {}, {}, {}, {}, {}] { ts := [0, 1, 4, 5, 25], os := [] } [(0 : Int) ≤ ((i : Nat) : Int) ∧ ((i : Nat) : Int) < ((List.length x0 : Nat) : Int), (0 : Int) ≤ ((i : Nat) : Int) ∧ ((i : Nat) : Int) < ((List.length x1 : Nat) : Int)] gamOK hT mixed h (by kernel_rfl) ⟨(by refine ⟨?_, ?_⟩ <;> (first | omega | (simp only [lsA]; omega) | (simp <;> omega))), (by refine ⟨?_, ?_⟩ <;> (first | omega | (simp only [lsA]; omega) | (simp <;> omega))), trivial⟩ fun a w h => then_normal ?_
   refine at_test (!decide ((x0.getD i 0) = (x1.getD i 0))) h (by kernel_rfl) (fun h3 => ?_) (fun h3 => ?_)
   ·replace h3 : ¬ ((x0.getD i 0) = (x1.getD i 0)) := of_decide_eq_false (notT h3)
    refine wp_seq ?_
    refine at_regq [] { ts := [0, 1, 4, 5], os := [] } [] gamOK hT h (by kernel_rfl) trivial fun a w h => then_normal (wp_ret (in_ret (then_ret (then_ret (in_ret (then_ret ?_))))))
    exact at_return (false, ()) [] h (by kernel_rfl) trivial (congrArg (fun z => (z, ())) (show (false) = (Sh.eqB s39) x0 x1 from by exact (Sh.eqB_ne (s := s39) (fun e => h3 (by rw [e]))).symm))
   ·replace h3 : (x0.getD i 0) = (x1.getD i 0) := of_decide_eq_true (notF h3)
    refine wp_skip (in_normal (then_normal ?_))
    refine at_regq [{}, { nw := true }] { ts := [0, 1, 4, 5], os := [] } [I64 (((i : Nat) : Int) + 1)] gamOK hT h (by kernel_rfl) ⟨⟨by first | omega | (simp only [lsA]; omega) | (simp <;> omega), by first | omega | (simp only [lsA]; omega) | (simp <;> omega)⟩, trivial⟩ fun a w h => ?_
    replace h := at_out (σ' := ⟨[(0, aF (.int 3) x0), (1, aF (.int 3) x1), (4, aB false), (5, aI (((i : Nat) : Int) + 1))], []⟩) { ts := [0, 1, 4, 5], os := [] } h (by kernel_rfl)
    exact ⟨i + 1, at_eq h (st_congr1 (fun (d0 : Int) => (⟨[(0, aF (.int 3) x0), (1, aF (.int 3) x1), (4, aB false), (5, aI d0)], []⟩ : St)) (show (((i : Nat) : Int) + 1 : Int) = (((i + 1) : Nat) : Int) from by first | with_reducible rfl | (omega) | rfl)), (by exact ⟨by omega, eqTo_step (z := 0) (by omega) (by omega) hok0.2 h3⟩), (by omega)⟩
  ·replace h2 : ¬ (((i : Nat) : Int) < ((List.length x0 : Nat) : Int)) := of_decide_eq_false h2
   refine wp_exit (then_exit (then_exit (in_hit (then_normal (wp_seq ?_)))))
   refine at_regq [] { ts := [4], os := [] } [] gamOK hT h (by kernel_rfl) trivial fun a w h => then_normal (wp_ret ?_)
   exact at_return (true, ()) [] h (by kernel_rfl) trivial (congrArg (fun z => (z, ())) (show (true) = (Sh.eqB s39) x0 x1 from by (have e := hok0.2; rw [take_all (by omega), take_all (by omega)] at e; exact ((Sh.eqB_iff s39).2 e).symm)))

def Cons (m : List (List Int)) (w : Nat) (v : LA.V) : Prop := (∀ j, j < w → v (m.length + j) = LA.sumN (fun k => v k * LA.vec (m.getD k []) j) m.length) ∧ ∀ j, m.length + w ≤ j → v j = 0
theorem Cons.zero (m : List (List Int)) (w : Nat) : Cons m w LA.vz := ⟨fun j _ => (LA.sumN_zero fun i _ => by simp only [LA.vz]; grind).symm, fun _ _ => rfl⟩
theorem Cons.add {m : List (List Int)} {w : Nat} {u v : LA.V} (h : Cons m w u) (k : LA.F) (h' : Cons m w v) : Cons m w (LA.vadd u k v) := by
 refine ⟨fun j hj => ?_, fun j hj => ?_⟩
 ·have e : LA.sumN (fun i => LA.vadd u k v i * LA.vec (m.getD i []) j) m.length = LA.sumN (fun i => u i * LA.vec (m.getD i []) j + k * (v i * LA.vec (m.getD i []) j)) m.length := LA.sumN_congr fun i _ => by simp only [LA.vadd]; grind
  rw [e, LA.sumN_add, ← h.1 j hj, ← h'.1 j hj]; rfl
 ·simp only [LA.vadd]; rw [h.2 j hj, h'.2 j hj]; grind
theorem Cons.part {m : List (List Int)} {w : Nat} {rows : List LA.V} (h : ∀ r ∈ rows, Cons m w r) (c : Nat → LA.F) : ∀ t, t ≤ rows.length → Cons m w (fun j => LA.sumN (fun i => c i * LA.row rows i j) t)
 | 0, _ => Cons.zero m w
 | t + 1, ht => by
  have ih := Cons.part h c t (by omega)
  exact ih.add (c t) (h _ (LA.row_mem (by omega)))
theorem Cons.span {m : List (List Int)} {w : Nat} {rows : List LA.V} (h : ∀ r ∈ rows, Cons m w r) {v : LA.V} (hv : LA.Span rows v) : Cons m w v := by
 obtain ⟨c, rfl⟩ := hv
 exact Cons.part h c rows.length (Nat.le_refl _)
theorem Cons.nil {m : List (List Int)} {w : Nat} {v : LA.V} (h : Cons m w v) (h0 : ∀ k, k < m.length → v k = 0) : v = LA.vz := by
 funext j
 by_cases h1 : j < m.length
 ·exact h0 j h1
 ·by_cases h2 : j < m.length + w
  ·have := h.1 (j - m.length) (by omega)
   rw [show m.length + (j - m.length) = j by omega] at this
   rw [this]; exact LA.sumN_zero fun i hi => by rw [h0 i hi]; grind
  ·exact h.2 j (by omega)
theorem Cons.lead {m : List (List Int)} {w : Nat} {v : LA.V} (h : Cons m w v) {l : Nat} (hl : LA.Lead v l) : l < m.length := by
 refine Decidable.byContradiction fun hn => ?_
 have := h.nil (fun k hk => hl.2 k (by omega))
 rw [this] at hl; exact hl.1 rfl
theorem vec_app {a b : List Int} (j : Nat) : LA.vec (a ++ b) j = if j < a.length then LA.vec a j else LA.vec b (j - a.length) := by
 unfold LA.vec
 split
 ·rename_i h
  rw [List.getD_eq_getElem?_getD, List.getElem?_append_left h, List.getD_eq_getElem?_getD]
 ·rename_i h
  rw [List.getD_eq_getElem?_getD, List.getElem?_append_right (by omega), List.getD_eq_getElem?_getD]
theorem vec_comb {m : List (List Int)} {cs : List Int} {w : Nat} (hm : ∀ j, j < m.length → LA.VokB w (m.getD j [])) (h0 : (m.getD 0 []).length = w) (hc : ∀ j, 0 ≤ cs.getD j 0 ∧ cs.getD j 0 ≤ 1018) : ∀ i, i ≤ m.length → LA.vec (combTo m cs i) = fun j => LA.sumN (fun k => LA.vec cs k * LA.vec (m.getD k []) j) i
 | 0, _ => by
  funext j
  simp only [combTo, LA.vec, LA.sumN]
  rw [List.getD_eq_getElem?_getD, List.getElem?_replicate]
  split <;> rfl
 | i + 1, hi => by
  have ih := vec_comb hm h0 hc i (by omega)
  have ho := combTo_ok (n := w) (vs := m) (cs := cs) h0 hc i (fun j hj => hm j (by omega))
  simp only [combTo]
  rw [(LA.addS_ok ho (hm i (by omega)) (hc i)).2, ih]
  rfl
theorem cons_code {m : List (List Int)} {cs : List Int} {w : Nat} (hm : ∀ j, j < m.length → LA.VokB w (m.getD j [])) (h0 : (m.getD 0 []).length = w) (hc : LA.VokB m.length cs) : Cons m w (LA.vec (cs ++ combS m cs)) := by
 have hv := vec_comb hm h0 hc.rng m.length (Nat.le_refl _)
 have ho := combTo_ok (n := w) (vs := m) (cs := cs) h0 hc.rng m.length hm
 refine ⟨fun j hj => ?_, fun j hj => ?_⟩
 ·rw [vec_app, hc.1, if_neg (by omega), Nat.add_sub_cancel_left]
  unfold combS; rw [hv]
  exact LA.sumN_congr fun k hk => by rw [vec_app, hc.1, if_pos hk]
 ·exact LA.vec_out (by rw [List.length_append, hc.1]; unfold combS; rw [ho.1]; exact hj)
structure ConR (m : List (List Int)) (w : Nat) (rows : List (List Int)) : Prop where
 red : LA.RedL (m.length + w) rows
 con : ∀ r ∈ rows, Cons m w (LA.vec r)
theorem ConR.all {m : List (List Int)} {w : Nat} {rows : List (List Int)} (h : ConR m w rows) : ∀ r ∈ rows.map LA.vec, Cons m w r := fun r hr => by
 obtain ⟨x, hx, rfl⟩ := List.mem_map.1 hr
 exact h.con x hx
theorem ConR.none (m : List (List Int)) (w : Nat) : ConR m w [] := ⟨LA.RedL.nil _, by simp⟩
theorem ConR.piv {m : List (List Int)} {w : Nat} {rows : List (List Int)} (h : ConR m w rows) {i : Nat} (hi : i < rows.length) : LA.pv rows i < m.length := by
 have h1 := h.red.red.lead (i := i) (by simpa using hi)
 rw [LA.row_vec hi] at h1
 exact (h.con _ (LA.getD_in hi)).lead h1
theorem ConR.lead {m : List (List Int)} {w : Nat} {rows : List (List Int)} (h : ConR m w rows) : ∀ r ∈ rows, LA.leadS r < (m.length : Int) := fun r hr => by
 obtain ⟨i, hi, rfl⟩ := List.getElem_of_mem hr
 have h1 := h.piv hi
 unfold LA.pv at h1
 rw [getD_of_lt hi] at h1
 have := h.red.nz _ hr
 omega
theorem ConR.ins {m : List (List Int)} {w : Nat} {rows : List (List Int)} {v : List Int} (h : ConR m w rows) (hv : LA.VokB (m.length + w) v) (hc : Cons m w (LA.vec v)) : ConR m w (LA.insS rows v).1 := by
 obtain ⟨h1, h2, h3, h4, h5⟩ := LA.insS_ok h.red hv
 refine ⟨h1, fun r hr => ?_⟩
 have hs : LA.Span ((LA.insS rows v).1.map LA.vec) (LA.vec r) := LA.Span.mem (List.mem_map.2 ⟨r, hr, rfl⟩)
 rw [h3] at hs
 refine Cons.span (fun x hx => ?_) hs
 rcases List.mem_append.1 hx with hx | hx
 ·exact h.all x hx
 ·have : x = LA.vec v := by simpa using hx
  rw [this]; exact hc
theorem ConR.rem {m : List (List Int)} {w : Nat} {rows : List (List Int)} {v : List Int} (h : ConR m w rows) (hv : LA.VokB (m.length + w) v) (hc : Cons m w (LA.vec v)) : LA.leadS (LA.redS rows v) < (m.length : Int) ∧ (LA.leadS (LA.redS rows v) < 0 ↔ LA.Span (rows.map LA.vec) (LA.vec v)) := by
 obtain ⟨h1, h2⟩ := LA.redS_ok h.red.ok hv
 have hz := LA.rem_zero_iff h.red.red (LA.vec v)
 have hr : Cons m w (LA.vec (LA.redS rows v)) := by
  obtain ⟨u, hu, e⟩ := LA.rem_span (m := rows.map LA.vec) (p := LA.pv rows) (LA.vec v)
  rw [h2, e]; exact hc.add 1 (Cons.span h.all hu)
 constructor
 ·by_cases hn : LA.leadS (LA.redS rows v) < 0
  ·omega
  ·have := hr.lead (LA.leadS_lead h1 (by omega)); omega
 ·rw [← hz, ← h2]
  constructor
  ·exact fun hn => LA.leadS_zero hn
  ·intro e
   refine Decidable.byContradiction fun hn => ?_
   have := (LA.leadS_lead h1 (by omega)).1
   rw [e] at this; exact this rfl
def uRow (m : List (List Int)) (i : Nat) : List Int := unitL m.length i ++ m.getD i []
theorem unitL_at {n : Nat} {i j : Nat} (hj : j < n) : (unitL n i).getD j 0 = if j = i then 1 else 0 := by
 rw [getD_of_lt (by rw [unitL_len]; exact hj)]
 simp only [unitL, List.getElem_map, List.getElem_range]
 by_cases e : j = i
 ·rw [if_pos e, if_pos (by omega)]
 ·rw [if_neg e, if_neg (by omega)]
theorem vec_unit {n : Nat} {i j : Nat} (hi : i < n) : LA.vec (unitL n i) j = if j = i then 1 else 0 := by
 by_cases hj : j < n
 ·unfold LA.vec; rw [unitL_at hj]; split <;> rfl
 ·rw [LA.vec_out (by rw [unitL_len]; omega), if_neg (by omega)]
theorem uRow_ok {m : List (List Int)} {w : Nat} {i : Nat} (hm : ∀ j, j < m.length → LA.VokB w (m.getD j [])) (hi : i < m.length) : LA.VokB (m.length + w) (uRow m i) := by
 have h1 := unitL_ok m.length (i : Int)
 have h2 := hm i hi
 refine ⟨by unfold uRow; rw [List.length_append, h1.1, h2.1], fun x hx => ?_⟩
 rcases List.mem_append.1 hx with hx | hx
 ·exact h1.2 x hx
 ·exact h2.2 x hx
theorem uRow_at {m : List (List Int)} {i k : Nat} (hi : i < m.length) (hk : k < m.length) : LA.vec (uRow m i) k = if k = i then 1 else 0 := by
 unfold uRow
 rw [vec_app, unitL_len, if_pos hk, vec_unit hi]
theorem combS_unit {m : List (List Int)} {w : Nat} {i : Nat} (hm : ∀ j, j < m.length → LA.VokB w (m.getD j [])) (h0 : (m.getD 0 []).length = w) (hi : i < m.length) : combS m (unitL m.length i) = m.getD i [] := by
 have hc := unitL_ok m.length (i : Int)
 have hv := vec_comb hm h0 hc.rng m.length (Nat.le_refl _)
 have ho := combTo_ok (n := w) (vs := m) (cs := unitL m.length i) h0 hc.rng m.length hm
 refine LA.vec_inj ho (hm i hi) ?_
 show LA.vec (combTo m (unitL m.length i) m.length) = _
 rw [hv]; funext j
 rw [LA.sumN_single hi (fun k hk hne => by rw [vec_unit hi, if_neg hne]; grind), vec_unit hi, if_pos rfl]; grind
theorem ConR.unit {m : List (List Int)} {w : Nat} {rows : List (List Int)} (h : ConR m w rows) (hm : ∀ j, j < m.length → LA.VokB w (m.getD j [])) {i : Nat} (hi : i < m.length) (hs : LA.Span (rows.map LA.vec) (LA.vec (uRow m i))) : ∃ k, k < rows.length ∧ LA.pv rows k = i ∧ rows.getD k [] = uRow m i := by
 obtain ⟨c, hc⟩ := hs
 have hL : (rows.map LA.vec).length = rows.length := List.length_map ..
 have hp : ∀ k, k < rows.length → c k = if LA.pv rows k = i then 1 else 0 := fun k hk => by
  rw [← h.red.red.at_piv c (k := k) (by rw [hL]; exact hk), ← hc, uRow_at hi (h.piv hk)]
 by_cases he : ∃ k, k < rows.length ∧ LA.pv rows k = i
 ·obtain ⟨k, hk, hki⟩ := he
  refine ⟨k, hk, hki, ?_⟩
  refine LA.vec_inj (h.red.ok _ (LA.getD_in hk)) (uRow_ok hm hi) ?_
  rw [hc]; funext j
  simp only [LA.comb]
  rw [LA.sumN_single (k := k) (by rw [hL]; exact hk) (fun t ht hne => by
   rw [hp t (by rw [hL] at ht; exact ht), if_neg (fun e => hne (h.red.red.inj ht (by rw [hL]; exact hk) (e.trans hki.symm)))]; grind), hp k hk, if_pos hki, LA.row_vec hk]; grind
 ·exfalso
  have h1 := congrFun hc i
  rw [uRow_at hi hi, if_pos rfl] at h1
  simp only [LA.comb] at h1
  rw [LA.sumN_zero (fun t ht => by rw [hp t (by rw [hL] at ht; exact ht), if_neg (fun e => he ⟨t, by rw [hL] at ht; exact ht, e⟩)]; grind)] at h1
  exact absurd h1 (by decide)
theorem ConR.mono {m : List (List Int)} {w : Nat} {rows : List (List Int)} (h : ConR m w rows) {i j : Nat} (hij : i < j) (hj : j < rows.length) : LA.pv rows i < LA.pv rows j := h.red.red.inc i j hij (by simpa using hj)
theorem ConR.ge {m : List (List Int)} {w : Nat} {rows : List (List Int)} (h : ConR m w rows) : ∀ i, i < rows.length → i ≤ LA.pv rows i
 | 0, _ => Nat.zero_le _
 | i + 1, hi => by have := h.ge i (by omega); have := h.mono (show i < i + 1 by omega) hi; omega
theorem ConR.le {m : List (List Int)} {w : Nat} {rows : List (List Int)} (h : ConR m w rows) : rows.length ≤ m.length := by
 rcases Nat.eq_zero_or_pos rows.length with h0 | h0
 ·omega
 ·have h1 := h.ge (rows.length - 1) (by omega)
  have h2 := h.piv (i := rows.length - 1) (by omega)
  omega
theorem ConR.full {m : List (List Int)} {w : Nat} {rows : List (List Int)} (h : ConR m w rows) (hl : rows.length = m.length) {v : LA.V} (hv : Cons m w v) : LA.Span (rows.map LA.vec) v := by
 have hp : ∀ d i, i + d + 1 = rows.length → LA.pv rows i ≤ i := by
  intro d
  induction d with
  | zero => intro i hi; have := h.piv (i := i) (by omega); omega
  | succ d ih => intro i hi; have := ih (i + 1) (by omega); have := h.mono (show i < i + 1 by omega) (by omega); omega
 rw [← LA.rem_zero_iff h.red.red]
 have hr : Cons m w (LA.rem (rows.map LA.vec) (LA.pv rows) v) := by
  obtain ⟨u, hu, e⟩ := LA.rem_span (m := rows.map LA.vec) (p := LA.pv rows) v
  rw [e]; exact hv.add 1 (Cons.span h.all hu)
 refine hr.nil fun k hk => ?_
 have h1 := hp (rows.length - 1 - k) k (by omega)
 have h2 := h.ge k (by omega)
 have h3 := LA.rem_piv h.red.red v (k := k) (by simpa using (show k < rows.length by omega))
 rwa [show LA.pv rows k = k by omega] at h3
theorem ConR.len {m : List (List Int)} {w : Nat} {rows : List (List Int)} (h : ConR m w rows) (hm : ∀ j, j < m.length → LA.VokB w (m.getD j [])) (hs : ∀ i, i < m.length → LA.Span (rows.map LA.vec) (LA.vec (uRow m i))) : rows.length = m.length := by
 have key : ∀ i, i < m.length → i < rows.length ∧ ∃ k, k < rows.length ∧ i ≤ k ∧ LA.pv rows k = i := by
  intro i
  induction i with
  | zero => intro hi; obtain ⟨k, hk, hp, _⟩ := h.unit hm hi (hs 0 hi); exact ⟨by omega, k, hk, Nat.zero_le _, hp⟩
  | succ i ih =>
   intro hi
   obtain ⟨h1, k, hk, hik, hp⟩ := ih (by omega)
   obtain ⟨k', hk', hp', _⟩ := h.unit hm hi (hs (i + 1) hi)
   have : k < k' := by
    rcases Nat.lt_trichotomy k k' with h | h' | h'
    ·exact h
    ·subst h'; omega
    ·have := h.mono h' hk; omega
   exact ⟨by omega, k', hk', by omega, hp'⟩
 have := h.le
 rcases Nat.eq_zero_or_pos m.length with h0 | h0
 ·omega
 ·have := (key (m.length - 1) (by omega)).1; omega
def wid (g : T26) : Nat := (g.2.getD 0 []).length
theorem gen_rows {g : T26} (h : validG g = true) : (1 ≤ g.2.length ∧ g.2.length ≤ 8) ∧ (1 ≤ wid g ∧ wid g ≤ 16) ∧ (∀ j, j < g.2.length → LA.VokB (wid g) (g.2.getD j [])) ∧ colsOf g.2 = ((wid g : Nat) : Int) := by
 have h1 := validG_t h
 have h2 := validM_ok h1.2.2.1
 have h3 := colsOf_at (m := g.2) (by omega)
 unfold wid
 exact ⟨by omega, by omega, fun j hj => h2 _ (LA.getD_in hj), h3⟩
structure DecOK (g : T26) (d : T30) : Prop where
 id : d.1 = g.1
 sz : d.2.1 = ((List.length g.2 : Nat) : Int)
 wd : d.2.2.1 = ((wid g : Nat) : Int)
 tot : d.2.2.2.1 = ((List.length g.2 + wid g : Nat) : Int)
 con : ConR g.2 (wid g) d.2.2.2.2
theorem DecOK.basis {g : T26} {d : T30} (hg : validG g = true) (h : DecOK g d) : basP d.2.2.2 := by
 have h1 := gen_rows hg
 have h2 := h.tot
 refine ⟨by omega, ?_⟩
 rw [h2, Int.toNat_natCast]; exact h.con.red
theorem DecOK.valid {g : T26} {d : T30} (hg : validG g = true) (h : DecOK g d) : validD d = true := by
 have h1 := gen_rows hg
 have hv := validG_t hg
 have h2 := h.tot; have h3 := h.sz; have h4 := h.wd; have h5 := h.id
 have hf : isFmt d.1 d.2.1 d.2.2.1 = true := by
  unfold isFmt
  rw [if_pos (show inR d.1 0 1000000000000 = true from inR_true (by omega)), if_pos (show inR d.2.1 1 8 = true from inR_true (by omega))]
  exact inR_true (by omega)
 have hall : (d.2.2.2.2.all fun r => decide (LA.leadS r < d.2.1)) = true := List.all_eq_true.2 fun r hr => decide_eq_true (by have := h.con.lead r hr; omega)
 unfold validD
 rw [if_pos hf, if_pos ((validB_iff _).2 (h.basis hg)), if_pos (by omega)]
 first | exact hall | exact if_pos hall
theorem DecOK.fit {g : T26} {d : T30} (hg : validG g = true) (h : DecOK g d) : Sh.fit s30 d := ⟨trivial, trivial, trivial, basP_fit (h.basis hg)⟩
theorem code_row {g : T26} {cs : List Int} (hg : validG g = true) (hc : LA.VokB g.2.length cs) : LA.VokB (g.2.length + wid g) (cs ++ combS g.2 cs) ∧ Cons g.2 (wid g) (LA.vec (cs ++ combS g.2 cs)) := by
 have h1 := gen_rows hg
 have ho := combTo_ok (n := wid g) (vs := g.2) (cs := cs) rfl hc.rng g.2.length h1.2.2.1
 refine ⟨⟨by rw [List.length_append, hc.1]; unfold combS; rw [ho.1], fun x hx => ?_⟩, cons_code h1.2.2.1 rfl hc⟩
 rcases List.mem_append.1 hx with hx | hx
 ·exact hc.2 x hx
 ·exact ho.2 x hx
theorem code_valid {g : T26} {cs : List Int} (hg : validG g = true) (hc : LA.VokB g.2.length cs) {a b : Int} (ha : a = ((List.length g.2 : Nat) : Int)) (hb : b = ((wid g : Nat) : Int)) : validP (g.1, cs, combS g.2 cs) a b = true := by
 have h1 := gen_rows hg
 have hv := validG_t hg
 have ho := combTo_ok (n := wid g) (vs := g.2) (cs := cs) rfl hc.rng g.2.length h1.2.2.1
 subst ha hb
 refine validP_of ⟨?_, ?_, ?_, validV_of hc (by omega), validV_of (n := wid g) (v := combS g.2 cs) ho (by omega)⟩
 ·unfold isFmt
  rw [if_pos (show inR g.1 0 1000000000000 = true from inR_true (by omega)), if_pos (show inR ((List.length g.2 : Nat) : Int) 1 8 = true from inR_true (by omega))]
  exact inR_true (by omega)
 ·show ((List.length cs : Nat) : Int) = _; rw [hc.1]
 ·show ((List.length (combS g.2 cs) : Nat) : Int) = _; unfold combS; rw [ho.1]
theorem addPk_con {g : T26} {d : T30} {cs : List Int} (hg : validG g = true) (h : DecOK g d) (hc : LA.VokB g.2.length cs) :
  DecOK g (addPk d (g.1, cs, combS g.2 cs)).1 ∧ ((addPk d (g.1, cs, combS g.2 cs)).2 = false ↔ LA.Span (d.2.2.2.2.map LA.vec) (LA.vec (cs ++ combS g.2 cs))) ∧ (∀ x, LA.Span ((addPk d (g.1, cs, combS g.2 cs)).1.2.2.2.2.map LA.vec) x ↔ LA.Span (d.2.2.2.2.map LA.vec ++ [LA.vec (cs ++ combS g.2 cs)]) x) ∧ ((addPk d (g.1, cs, combS g.2 cs)).2 = true → (addPk d (g.1, cs, combS g.2 cs)).1.2.2.2.2.length = d.2.2.2.2.length + 1) ∧ ((addPk d (g.1, cs, combS g.2 cs)).2 = false → (addPk d (g.1, cs, combS g.2 cs)).1 = d) := by
 have hr := code_row hg hc
 have hd := h.valid hg
 have hp := code_valid hg hc h.sz h.wd
 obtain ⟨i1, i2, i3, i4, i5⟩ := LA.insS_ok h.con.red hr.1
 have hrem := h.con.rem hr.1 hr.2
 have hsz := h.sz
 by_cases hl : LA.leadS (LA.redS d.2.2.2.2 (cs ++ combS g.2 cs)) < 0
 ·have hs := hrem.2.1 hl
  have hno : addOKD d (g.1, cs, combS g.2 cs) = false := addOKD_f (Or.inr (Or.inr (by
   rw [Bool.eq_false_iff]; intro e; have := (inR_t e).1; dsimp only at this; omega)))
  rw [← addPk_n (Or.inr hno)]
  refine ⟨h, ⟨fun _ => hs, fun _ => rfl⟩, fun x => ⟨?_, ?_⟩, fun e => (by cases e), fun _ => rfl⟩
  ·exact LA.Span.of_mem fun r hr => LA.Span.mem (List.mem_append.2 (.inl hr))
  ·refine LA.Span.of_mem fun r hr => ?_
   rcases List.mem_append.1 hr with hr | hr
   ·exact LA.Span.mem hr
   ·rw [List.mem_singleton.1 hr]; exact hs
 ·have hyes : addOKD d (g.1, cs, combS g.2 cs) = true := addOKD_t hp h.id.symm (inR_true (by dsimp only; omega))
  have e1 : addPk d (g.1, cs, combS g.2 cs) = ((d.1, d.2.1, d.2.2.1, d.2.2.2.1, (LA.insS d.2.2.2.2 (cs ++ combS g.2 cs)).1), true) := by
   rw [← addPk_y hd, hyes]
   unfold addUD insUD insU
   rw [if_pos hyes]
  have i2' : (LA.insS d.2.2.2.2 (cs ++ combS g.2 cs)).2 = true := by rw [LA.insS_yes hl]
  rw [e1]
  refine ⟨⟨h.id, h.sz, h.wd, h.tot, h.con.ins hr.1 hr.2⟩, ⟨fun e => (by cases e), fun e => ?_⟩, i3, fun _ => i4 i2', fun e => (by cases e)⟩
  exact absurd (hrem.2.2 e) hl
def newDec (x0 : Int) (x1 : Int) (x2 : Int) : T30 := (if (isFmt x0 x1 x2) = true then (x0, (x1, (x2, (newBas (x1 + x2))))) else (0, (0, (0, (0, ([] : List (List Int)))))))
def S_spec_NewDecoder : Sum := { fid := 60, dom := [(.int 3), (.int 3), (.int 3)], cod := [s30], dp := false, fz := false, pre := fun x => True, g := fun x => ((newDec x.1 x.2.1 x.2.2.1), ()) }
def S_spec_NewDecoder_tab : List (Nat × Sum) := [(96, S_spec_l14Range), (97, S_spec_NewBasis)]
theorem S_spec_NewDecoder_ok : FnOK Tryz.prog 60 S_spec_NewDecoder := by
 refine at_enter 21 (fun x => ⟨[(0, aI x.1), (1, aI x.2.1), (2, aI x.2.2.1)], []⟩) Tryz.func60 rfl (by kernel_rfl) (fun x => rfl) ?_
 rintro w0 Z0 ⟨x0, x1, x2, u⟩ a w
 revert x0 x1 x2
 intro (x0 : Int) (x1 : Int) (x2 : Int) hpre hlens h
 have hT : TabOK Tryz.prog S_spec_NewDecoder_tab := (.cons S_spec_l14Range_ok (.cons S_spec_NewBasis_ok .nil))
 refine wp_seq ?_
 refine at_regq [{ ids := [1] }] { ts := [0, 1, 2, 6], os := [1] } [] gamOK hT h (by kernel_rfl) trivial fun a w h => then_normal (wp_seq (wp_seq ?_))
 refine at_regq [] { ts := [0, 1, 2, 6, 11], os := [1] } [True] gamOK hT h (by kernel_rfl) ⟨trivial, trivial⟩ fun a w h => then_normal ?_
 refine at_test (!(isFmt x0 x1 x2)) h (by kernel_rfl) (fun h1 => ?_) (fun h1 => ?_)
 ·replace h1 : (isFmt x0 x1 x2) = false := notT h1
  refine wp_seq ?_
  refine at_regq [] { ts := [0, 1, 2, 6], os := [1] } [] gamOK hT h (by kernel_rfl) trivial fun a w h => then_normal (wp_ret (then_ret ?_))
  exact at_return ((0, (0, (0, (0, ([] : List (List Int)))))), ()) [] h (by kernel_rfl) trivial (congrArg (fun z => (z, ())) (show ((0, (0, (0, (0, ([] : List (List Int))))))) = newDec x0 x1 x2 from by first | rfl | (unfold newDec; rw [if_neg (neT h1)])))
 ·replace h1 : (isFmt x0 x1 x2) = true := notF h1
  have hvh1 := isFmt_t h1
  refine wp_skip (then_normal (wp_seq ?_))
  refine at_regq [{}, {}, {}, {}, {}, { nw := true }, { ids := [2] }] { ts := [6], os := [1, 2] } [I64 (x1 + x2), True] gamOK hT h (by kernel_rfl) ⟨⟨by first | omega | (simp only [lsA]; omega) | (simp <;> omega), by first | omega | (simp only [lsA]; omega) | (simp <;> omega)⟩, trivial, trivial⟩ fun a w h => then_normal (wp_ret ?_)
  exact at_return ((x0, (x1, (x2, (newBas (x1 + x2))))), ()) [] h (by kernel_rfl) trivial (congrArg (fun z => (z, ())) (show ((x0, (x1, (x2, (newBas (x1 + x2)))))) = newDec x0 x1 x2 from by first | rfl | (unfold newDec; rw [if_pos h1])))
theorem newDec_ok {g : T26} (hg : validG g = true) : DecOK g (newDec g.1 ((List.length g.2 : Nat) : Int) (colsOf g.2)) := by
 have h1 := gen_rows hg
 have hv := validG_t hg
 have hf : isFmt g.1 ((List.length g.2 : Nat) : Int) (colsOf g.2) = true := by
  unfold isFmt
  rw [if_pos (show inR g.1 0 1000000000000 = true from inR_true (by omega)), if_pos (show inR ((List.length g.2 : Nat) : Int) 1 8 = true from inR_true (by omega))]
  exact inR_true (by omega)
 have hn : newBas (((List.length g.2 : Nat) : Int) + colsOf g.2) = (((List.length g.2 : Nat) : Int) + colsOf g.2, []) := if_pos (inR_true (by omega))
 unfold newDec
 rw [if_pos hf, hn]
 exact ⟨rfl, rfl, h1.2.2.2, by show _ + colsOf g.2 = _; omega, ConR.none _ _⟩

def S_impl_NewDecoder : Sum := { fid := 9, dom := [(.int 3), (.int 3), (.int 3)], cod := [s30], dp := true, fz := false, pre := fun x => True, g := fun x => ((newDec x.1 x.2.1 x.2.2.1), ()) }
def S_impl_NewDecoder_tab : List (Nat × Sum) := [(31, S_impl_isFormat), (32, S_impl_NewBasis)]
theorem S_impl_NewDecoder_ok : FnOK Tryz.prog 9 S_impl_NewDecoder := by
 refine at_enter 21 (fun x => ⟨[(0, aI x.1), (1, aI x.2.1), (2, aI x.2.2.1)], []⟩) Tryz.func9 rfl (by kernel_rfl) (fun x => rfl) ?_
 rintro w0 Z0 ⟨x0, x1, x2, u⟩ a w
 revert x0 x1 x2
 intro (x0 : Int) (x1 : Int) (x2 : Int) hpre hlens h
 have hT : TabOK Tryz.prog S_impl_NewDecoder_tab := (.cons S_impl_isFormat_ok (.cons S_impl_NewBasis_ok .nil))
 refine wp_seq ?_
 refine at_regq [{ ids := [1] }] { ts := [0, 1, 2, 6], os := [1] } [] gamOK hT h (by kernel_rfl) trivial fun a w h => then_normal (wp_seq (wp_seq ?_))
 refine at_regq [] { ts := [0, 1, 2, 6, 11], os := [1] } [True] gamOK hT h (by kernel_rfl) ⟨trivial, trivial⟩ fun a w h => then_normal ?_
 refine at_test (!(isFmt x0 x1 x2)) h (by kernel_rfl) (fun h1 => ?_) (fun h1 => ?_)
 ·replace h1 : (isFmt x0 x1 x2) = false := notT h1
  refine wp_seq ?_
  refine at_regq [] { ts := [0, 1, 2, 6], os := [1] } [] gamOK hT h (by kernel_rfl) trivial fun a w h => then_normal (wp_ret (then_ret ?_))
  exact at_return ((0, (0, (0, (0, ([] : List (List Int)))))), ()) [] h (by kernel_rfl) trivial (congrArg (fun z => (z, ())) (show ((0, (0, (0, (0, ([] : List (List Int))))))) = newDec x0 x1 x2 from by first | rfl | (unfold newDec; rw [if_neg (neT h1)]; done) | (unfold newDec; simp_all)))
 ·replace h1 : (isFmt x0 x1 x2) = true := notF h1
  have hvh1 := isFmt_t h1
  refine wp_skip (then_normal (wp_seq ?_))
  refine at_regq [{}, {}, {}, {}, {}, { nw := true }, { ids := [2] }] { ts := [6], os := [1, 2] } [I64 (x1 + x2), True] gamOK hT h (by kernel_rfl) ⟨⟨by first | omega | (simp only [lsA]; omega) | (simp <;> omega), by first | omega | (simp only [lsA]; omega) | (simp <;> omega)⟩, trivial, trivial⟩ fun a w h => then_normal (wp_ret ?_)
  exact at_return ((x0, (x1, (x2, (newBas (x1 + x2))))), ()) [] h (by kernel_rfl) trivial (congrArg (fun z => (z, ())) (show ((x0, (x1, (x2, (newBas (x1 + x2)))))) = newDec x0 x1 x2 from by first | rfl | (unfold newDec; rw [if_pos h1]; done) | (unfold newDec; simp_all)))

def D_impl_IsComplete := (fun d => validD d && complD d)
abbrev Q_impl_IsComplete := (fun (x0 : T30) => Sh.fit s30 x0)
def S_impl_IsComplete : Sum := { fid := 15, dom := [s30], cod := [(.bool 4)], dp := true, fz := false, pre := fun x => Q_impl_IsComplete x.1, g := fun x => ((D_impl_IsComplete x.1), ()) }
def S_impl_IsComplete_tab : List (Nat × Sum) := [(41, S_impl_IsValidDecoder), (43, S__impl_Decoder_complete)]
theorem S_impl_IsComplete_ok : FnOK Tryz.prog 15 S_impl_IsComplete := by
 refine at_enter 9 (fun x => ⟨[(0, aG [cI x.1.1, cI x.1.2.1, cI x.1.2.2.1, cI x.1.2.2.2.1, .ro s39 x.1.2.2.2.2])], []⟩) Tryz.func15 rfl (by kernel_rfl) (fun x => rfl) ?_
 rintro w0 Z0 ⟨x0, u⟩ a w
 revert x0
 intro (x0 : T30) hpre hlens h
 replace hpre : Q_impl_IsComplete x0 := hpre
 have hT : TabOK Tryz.prog S_impl_IsComplete_tab := (.cons S_impl_IsValidDecoder_ok (.cons S__impl_Decoder_complete_ok .nil))
 have hf0 : Sh.fit s30 x0 := hpre
 have hn0_1 : List.length x0.2.2.2.2 ≤ 1073741824 := hf0.2.2.2.2.1
 refine wp_seq ?_
 refine at_regq [{ ids := [1] }] { ts := [1, 2], os := [1] } [] gamOK hT h (by kernel_rfl) trivial fun a w h => then_normal (wp_seq ?_)
 rcases Bool.eq_false_or_eq_true ((validD x0)) with h1 | h1
 ·have hvh1 := validD_t h1
  refine at_regq [{}, { hint := some (aB true) }] { ts := [2], os := [] } [Q_impl_IsValidDecoder x0, (AV.p (.c (.v (.bool ((validD x0))))) = AV.p (.c (.v (.bool true)))), Q__impl_Decoder_complete x0] gamOK hT h (by kernel_rfl) ⟨(by exact hf0), hint_bool (h1), (by exact hf0), trivial⟩ fun a w h => then_normal (wp_ret ?_)
  exact at_return ((complD x0), ()) [] h (by kernel_rfl) trivial (congrArg (fun z => (z, ())) (show ((complD x0)) = D_impl_IsComplete x0 from by unfold D_impl_IsComplete; (first | (rw [show validD x0 = false by assumption]; rfl) | (rw [show validD x0 = true by assumption]; rfl) | (simp_all; done))))
 ·refine at_regq [{}, { hint := some (aB false) }] { ts := [2], os := [] } [Q_impl_IsValidDecoder x0, (AV.p (.c (.v (.bool ((validD x0))))) = AV.p (.c (.v (.bool false))))] gamOK hT h (by kernel_rfl) ⟨(by exact hf0), hint_bool (h1), trivial⟩ fun a w h => then_normal (wp_ret ?_)
  exact at_return (false, ()) [] h (by kernel_rfl) trivial (congrArg (fun z => (z, ())) (show (false) = D_impl_IsComplete x0 from by unfold D_impl_IsComplete; (first | (rw [show validD x0 = false by assumption]; rfl) | (rw [show validD x0 = true by assumption]; rfl) | (simp_all; done))))

def decIt (x : T112) (g : T26) : Nat → T112 × T30
 | 0 => (x, newDec g.1 ((List.length g.2 : Nat) : Int) (colsOf g.2))
 | i + 1 => ((pktD (decIt x g i).1 g).1, (addPk (decIt x g i).2 (pktD (decIt x g i).1 g).2).1)
theorem pktD_form {x : T112} {g : T26} (h : 0 ≤ x.2.1) (hg : validG g = true) : (pktD x g).2 = (g.1, (pktD x g).2.2.1, combS g.2 (pktD x g).2.2.1) ∧ LA.VokB g.2.length (pktD x g).2.2.1 := by
 obtain ⟨h1, h2, h3, h4⟩ := pktD_ok h hg
 exact ⟨Prod.ext h2 (Prod.ext rfl h4), h3⟩
theorem decIt_inv {x : T112} {g : T26} (hx : 0 ≤ x.2.1) (hg : validG g = true) : ∀ i, 0 ≤ (decIt x g i).1.2.1 ∧ DecOK g (decIt x g i).2
 | 0 => ⟨hx, newDec_ok hg⟩
 | i + 1 => by
  obtain ⟨h1, h2⟩ := decIt_inv hx hg i
  have hp := pktD_form h1 hg
  refine ⟨(pktD_ok h1 hg).1, ?_⟩
  show DecOK g (addPk (decIt x g i).2 (pktD (decIt x g i).1 g).2).1
  rw [hp.1]
  exact (addPk_con hg h2 hp.2).1
def decCo (x0 : T112) (x1 : T26) : T112 × T30 := ((decIt (belowC x0 6).1 x1 (belowC x0 6).2.toNat).1, (decIt (belowC x0 6).1 x1 (belowC x0 6).2.toNat).2)
abbrev Q_spec_l14Decoder := (fun (x0 : T112) (x1 : T26) => 0 ≤ x0.2.1 ∧ validG x1 = true)
def B_spec_l14Decoder : BS := { t := 112, s := s112, dom := [s26], cod := [s30], pre := fun y x => Q_spec_l14Decoder y x.1, upd := fun y x => (decCo y x.1).1, g := fun y x => ((decCo y x.1).2, ()), dp := false }
def S_spec_l14Decoder : Sum := bSum 30 B_spec_l14Decoder
def S_spec_l14Decoder_tab : List (Nat × Sum) := [(8, S_spec_ColumnsOf), (60, S_spec_NewDecoder), (54, S_spec_l1Below), (62, S_spec_l11Packet), (61, S_spec_AddPacket)]
theorem S_spec_l14Decoder_ok : FnOK Tryz.prog 30 S_spec_l14Decoder := by
 refine at_enterB (B := B_spec_l14Decoder) 34 (fun v y x => ⟨[(0, aP 1 0), (1, aG [cI x.1.1, .ro s39 x.1.2])], [(1, oX 112 [.ro (.u8 5) y.1, cI y.2.1, cI y.2.2]), (2, oP 1 v)]⟩) Tryz.func30 rfl (by kernel_rfl) (fun v y x => rfl) ?_
 rintro w0 Z0 b0 x0 ⟨x1, u⟩ a w
 revert x0 x1
 intro (x0 : T112) (x1 : T26) hpre hlens0 hlens h
 replace h : At w0 Z0 [b0] 34 ⟨[(0, aP 1 0), (1, aG [cI x1.1, .ro s39 x1.2])], [(1, oX 112 [.ro (.u8 5) x0.1, cI x0.2.1, cI x0.2.2]), (2, oP 1 (Value.pointer (some ⟨b0, 0, none⟩)))]⟩ a w := h
 replace hpre : Q_spec_l14Decoder x0 x1 := hpre
 have hl1 : List.length x0.1 ≤ 9223372036854775807 := hlens0.1.1
 have hu0 : u8L x0.1 := hlens0.1.2
 have hl2 : List.length x1.2 ≤ 9223372036854775807 := hlens.1.2.1
 have hT : TabOK Tryz.prog S_spec_l14Decoder_tab := (.cons S_spec_ColumnsOf_ok (.cons S_spec_NewDecoder_ok (.cons S_spec_l1Below_ok (.cons S_spec_l11Packet_ok (.cons S_spec_AddPacket_ok .nil)))))
 have hb := below_bd x0 (n := 6) (by decide)
 have hc := below_ok (n := 6) hpre.1
 have hgf := validG_fit hpre.2
 have hvg := validG_t hpre.2
 refine wp_seq ?_
 refine at_regq [{ ids := [3] }, { ids := [4] }] { ts := [0, 3, 4], os := [1, 2, 3, 4] } [] gamOK hT h (by kernel_rfl) trivial fun a w h => then_normal (wp_seq ?_)
 refine at_anyq [{}, {}, {}, {}, {}, {}, {}, {}, { ids := [5] }, { ids := [6] }, {}] { ts := [0, 3, 4, 5], os := [1, 2, 3, 4, 5, 6] } [Q_spec_ColumnsOf x1.2, True] gamOK hT mixed h (by kernel_rfl) ⟨(by exact hgf.2), trivial, trivial⟩ fun a w h => then_normal (wp_seq (wp_seq ?_))
 refine at_regq [] { ts := [0, 3, 4, 5, 6], os := [1, 2, 3, 4, 5, 6] } [B_spec_l1Below.pre x0 (6, ())] gamOK hT h (by kernel_rfl) ⟨(by exact hpre.1), trivial⟩ fun a w h => then_normal (wp_block ?_)
 replace h := at_out (σ' := ⟨[(0, aP 1 0), (3, aP 3 0), (4, aP 4 0), (5, aP 6 0), (6, aI (belowC x0 6).2)], [(1, oX 112 [.ro (.u8 5) (belowC x0 6).1.1, cI (belowC x0 6).1.2.1, cI (belowC x0 6).1.2.2]), (2, oP 1 (Value.pointer (some ⟨b0, 0, none⟩))), (3, oX 26 [cI x1.1, .ro s39 x1.2]), (4, oX 30 [cI 0, cI 0, cI 0, cI 0, cN]), (5, oF s39 (newDec x1.1 ((List.length x1.2 : Nat) : Int) (colsOf x1.2)).2.2.2.2), (6, oX 30 [cI (newDec x1.1 ((List.length x1.2 : Nat) : Int) (colsOf x1.2)).1, cI (newDec x1.1 ((List.length x1.2 : Nat) : Int) (colsOf x1.2)).2.1, cI (newDec x1.1 ((List.length x1.2 : Nat) : Int) (colsOf x1.2)).2.2.1, cI (newDec x1.1 ((List.length x1.2 : Nat) : Int) (colsOf x1.2)).2.2.2.1, .sl 5])]⟩) { ts := [0, 3, 4, 5, 6], os := [1, 2, 3, 4, 5, 6] } h (by kernel_rfl)
 refine at_loop (fun i : Nat => (⟨[(0, aP 1 0), (3, aP 3 0), (4, aP 4 0), (5, aP 6 0), (6, aI ((belowC x0 6).2 - ((i : Nat) : Int)))], [(1, oX 112 [.ro (.u8 5) (decIt (belowC x0 6).1 x1 i).1.1, cI (decIt (belowC x0 6).1 x1 i).1.2.1, cI (decIt (belowC x0 6).1 x1 i).1.2.2]), (2, oP 1 (Value.pointer (some ⟨b0, 0, none⟩))), (3, oX 26 [cI x1.1, .ro s39 x1.2]), (4, oX 30 [cI 0, cI 0, cI 0, cI 0, cN]), (5, oF s39 (decIt (belowC x0 6).1 x1 i).2.2.2.2.2), (6, oX 30 [cI (decIt (belowC x0 6).1 x1 i).2.1, cI (decIt (belowC x0 6).1 x1 i).2.2.1, cI (decIt (belowC x0 6).1 x1 i).2.2.2.1, cI (decIt (belowC x0 6).1 x1 i).2.2.2.2.1, .sl 5])]⟩ : St)) (fun i => ((i : Nat) : Int) ≤ (belowC x0 6).2) (fun i => (belowC x0 6).2.toNat - i) (0) h (st_congr9 (fun (d0 : List Int) (d1 : Int) (d2 : Int) (d3 : Int) (d4 : Int) (d5 : Int) (d6 : Int) (d7 : List (List Int)) (d8 : Int) => (⟨[(0, aP 1 0), (3, aP 3 0), (4, aP 4 0), (5, aP 6 0), (6, aI d8)], [(1, oX 112 [.ro (.u8 5) d0, cI d1, cI d2]), (2, oP 1 (Value.pointer (some ⟨b0, 0, none⟩))), (3, oX 26 [cI x1.1, .ro s39 x1.2]), (4, oX 30 [cI 0, cI 0, cI 0, cI 0, cN]), (5, oF s39 d7), (6, oX 30 [cI d3, cI d4, cI d5, cI d6, .sl 5])]⟩ : St)) (show ((belowC x0 6).1.1 : List Int) = (decIt (belowC x0 6).1 x1 (0)).1.1 from by first | with_reducible rfl | (first | rfl | omega) | rfl) (show ((belowC x0 6).1.2.1 : Int) = (decIt (belowC x0 6).1 x1 (0)).1.2.1 from by first | with_reducible rfl | (first | rfl | omega) | rfl) (show ((belowC x0 6).1.2.2 : Int) = (decIt (belowC x0 6).1 x1 (0)).1.2.2 from by first | with_reducible rfl | (first | rfl | omega) | rfl) (show ((newDec x1.1 ((List.length x1.2 : Nat) : Int) (colsOf x1.2)).1 : Int) = (decIt (belowC x0 6).1 x1 (0)).2.1 from by first | with_reducible rfl | (first | rfl | omega) | rfl) (show ((newDec x1.1 ((List.length x1.2 : Nat) : Int) (colsOf x1.2)).2.1 : Int) = (decIt (belowC x0 6).1 x1 (0)).2.2.1 from by first | with_reducible rfl | (first | rfl | omega) | rfl) (show ((newDec x1.1 ((List.length x1.2 : Nat) : Int) (colsOf x1.2)).2.2.1 : Int) = (decIt (belowC x0 6).1 x1 (0)).2.2.2.1 from by first | with_reducible rfl | (first | rfl | omega) | rfl) (show ((newDec x1.1 ((List.length x1.2 : Nat) : Int) (colsOf x1.2)).2.2.2.1 : Int) = (decIt (belowC x0 6).1 x1 (0)).2.2.2.2.1 from by first | with_reducible rfl | (first | rfl | omega) | rfl) (show ((newDec x1.1 ((List.length x1.2 : Nat) : Int) (colsOf x1.2)).2.2.2.2 : List (List Int)) = (decIt (belowC x0 6).1 x1 (0)).2.2.2.2.2 from by first | with_reducible rfl | (first | rfl | omega) | rfl) (show ((belowC x0 6).2 : Int) = ((belowC x0 6).2 - (((0) : Nat) : Int)) from by first | with_reducible rfl | (first | rfl | omega) | rfl)) (by omega) ?_
 intro i a w hok0 h
 have hdi := decIt_inv hc hpre.2 i
 refine wp_seq (wp_seq ?_)
 refine at_regq [] { ts := [0, 3, 4, 5, 6, 21], os := [1, 2, 3, 4, 5, 6] } [] gamOK hT h (by kernel_rfl) trivial fun a w h => then_normal ?_
 refine at_test (decide (((belowC x0 6).2 - ((i : Nat) : Int)) > 0)) h (by kernel_rfl) (fun h1 => ?_) (fun h1 => ?_)
 ·replace h1 : ((belowC x0 6).2 - ((i : Nat) : Int)) > 0 := of_decide_eq_true h1
  refine wp_skip (then_normal (wp_seq (wp_block (wp_seq ?_))))
  replace h := at_out (σ' := ⟨[(0, aP 1 0), (3, aP 3 0), (4, aP 4 0), (5, aP 6 0), (6, aI ((belowC x0 6).2 - ((i : Nat) : Int)))], [(1, oX 112 [.ro (.u8 5) (decIt (belowC x0 6).1 x1 i).1.1, cI (decIt (belowC x0 6).1 x1 i).1.2.1, cI (decIt (belowC x0 6).1 x1 i).1.2.2]), (2, oP 1 (Value.pointer (some ⟨b0, 0, none⟩))), (3, oX 26 [cI x1.1, .ro s39 x1.2]), (4, oX 30 [cI 0, cI 0, cI 0, cI 0, cN]), (6, oX 30 [cI (decIt (belowC x0 6).1 x1 i).2.1, cI (decIt (belowC x0 6).1 x1 i).2.2.1, cI (decIt (belowC x0 6).1 x1 i).2.2.2.1, cI (decIt (belowC x0 6).1 x1 i).2.2.2.2.1, .ro s39 (decIt (belowC x0 6).1 x1 i).2.2.2.2.2])]⟩) { fz := [5], ts := [0, 3, 4, 5, 6], os := [1, 2, 3, 4, 6] } h (by kernel_rfl)
  refine at_anyq [{}, {}, {}, { frz := true }, { ids := [7] }, {}, {}, {}, { ids := [8] }, {}, {}] { ts := [0, 3, 4, 5, 6, 7], os := [1, 2, 3, 4, 6, 7, 8] } [B_spec_l11Packet.pre (decIt (belowC x0 6).1 x1 i).1 (x1, ()), Q_spec_AddPacket (decIt (belowC x0 6).1 x1 i).2 (pktD (decIt (belowC x0 6).1 x1 i).1 x1).2] gamOK hT mixed h (by kernel_rfl) ⟨(by exact ⟨hdi.1, hpre.2⟩), (by exact ⟨hdi.2.fit hpre.2, pktD_fit hdi.1 hpre.2⟩), trivial⟩ fun a w h => then_normal ?_
  refine at_regq [] { ts := [0, 3, 4, 5, 6], os := [1, 2, 3, 4, 6, 7] } [] gamOK hT h (by kernel_rfl) trivial fun a w h => in_normal (then_normal ?_)
  refine at_regq [{}, { nw := true }] { ts := [0, 3, 4, 5, 6], os := [1, 2, 3, 4, 6, 7] } [I64 (((belowC x0 6).2 - ((i : Nat) : Int)) - 1)] gamOK hT h (by kernel_rfl) ⟨⟨by first | omega | (simp only [lsA]; omega) | (simp <;> omega), by first | omega | (simp only [lsA]; omega) | (simp <;> omega)⟩, trivial⟩ fun a w h => ?_
  replace h := at_out (σ' := ⟨[(0, aP 1 0), (3, aP 3 0), (4, aP 4 0), (5, aP 6 0), (6, aI (((belowC x0 6).2 - ((i : Nat) : Int)) - 1))], [(1, oX 112 [.ro (.u8 5) (pktD (decIt (belowC x0 6).1 x1 i).1 x1).1.1, cI (pktD (decIt (belowC x0 6).1 x1 i).1 x1).1.2.1, cI (pktD (decIt (belowC x0 6).1 x1 i).1 x1).1.2.2]), (2, oP 1 (Value.pointer (some ⟨b0, 0, none⟩))), (3, oX 26 [cI x1.1, .ro s39 x1.2]), (4, oX 30 [cI 0, cI 0, cI 0, cI 0, cN]), (5, oF s39 (addPk (decIt (belowC x0 6).1 x1 i).2 (pktD (decIt (belowC x0 6).1 x1 i).1 x1).2).1.2.2.2.2), (6, oX 30 [cI (addPk (decIt (belowC x0 6).1 x1 i).2 (pktD (decIt (belowC x0 6).1 x1 i).1 x1).2).1.1, cI (addPk (decIt (belowC x0 6).1 x1 i).2 (pktD (decIt (belowC x0 6).1 x1 i).1 x1).2).1.2.1, cI (addPk (decIt (belowC x0 6).1 x1 i).2 (pktD (decIt (belowC x0 6).1 x1 i).1 x1).2).1.2.2.1, cI (addPk (decIt (belowC x0 6).1 x1 i).2 (pktD (decIt (belowC x0 6).1 x1 i).1 x1).2).1.2.2.2.1, .sl 5])]⟩) { ts := [0, 3, 4, 5, 6], os := [1, 2, 3, 4, 7, 6], rn := [(7, 5)] } h (by kernel_rfl)
  exact ⟨i + 1, at_eq h (st_congr9 (fun (d0 : List Int) (d1 : Int) (d2 : Int) (d3 : Int) (d4 : Int) (d5 : Int) (d6 : Int) (d7 : List (List Int)) (d8 : Int) => (⟨[(0, aP 1 0), (3, aP 3 0), (4, aP 4 0), (5, aP 6 0), (6, aI d8)], [(1, oX 112 [.ro (.u8 5) d0, cI d1, cI d2]), (2, oP 1 (Value.pointer (some ⟨b0, 0, none⟩))), (3, oX 26 [cI x1.1, .ro s39 x1.2]), (4, oX 30 [cI 0, cI 0, cI 0, cI 0, cN]), (5, oF s39 d7), (6, oX 30 [cI d3, cI d4, cI d5, cI d6, .sl 5])]⟩ : St)) (show ((pktD (decIt (belowC x0 6).1 x1 i).1 x1).1.1 : List Int) = (decIt (belowC x0 6).1 x1 (i + 1)).1.1 from by first | with_reducible rfl | (rfl) | rfl) (show ((pktD (decIt (belowC x0 6).1 x1 i).1 x1).1.2.1 : Int) = (decIt (belowC x0 6).1 x1 (i + 1)).1.2.1 from by first | with_reducible rfl | (rfl) | rfl) (show ((pktD (decIt (belowC x0 6).1 x1 i).1 x1).1.2.2 : Int) = (decIt (belowC x0 6).1 x1 (i + 1)).1.2.2 from by first | with_reducible rfl | (rfl) | rfl) (show ((addPk (decIt (belowC x0 6).1 x1 i).2 (pktD (decIt (belowC x0 6).1 x1 i).1 x1).2).1.1 : Int) = (decIt (belowC x0 6).1 x1 (i + 1)).2.1 from by first | with_reducible rfl | (rfl) | rfl) (show ((addPk (decIt (belowC x0 6).1 x1 i).2 (pktD (decIt (belowC x0 6).1 x1 i).1 x1).2).1.2.1 : Int) = (decIt (belowC x0 6).1 x1 (i + 1)).2.2.1 from by first | with_reducible rfl | (rfl) | rfl) (show ((addPk (decIt (belowC x0 6).1 x1 i).2 (pktD (decIt (belowC x0 6).1 x1 i).1 x1).2).1.2.2.1 : Int) = (decIt (belowC x0 6).1 x1 (i + 1)).2.2.2.1 from by first | with_reducible rfl | (rfl) | rfl) (show ((addPk (decIt (belowC x0 6).1 x1 i).2 (pktD (decIt (belowC x0 6).1 x1 i).1 x1).2).1.2.2.2.1 : Int) = (decIt (belowC x0 6).1 x1 (i + 1)).2.2.2.2.1 from by first | with_reducible rfl | (rfl) | rfl) (show ((addPk (decIt (belowC x0 6).1 x1 i).2 (pktD (decIt (belowC x0 6).1 x1 i).1 x1).2).1.2.2.2.2 : List (List Int)) = (decIt (belowC x0 6).1 x1 (i + 1)).2.2.2.2.2 from by first | with_reducible rfl | (rfl) | rfl) (show (((belowC x0 6).2 - ((i : Nat) : Int)) - 1 : Int) = ((belowC x0 6).2 - (((i + 1) : Nat) : Int)) from by first | with_reducible rfl | (omega) | rfl)), (by omega), (by omega)⟩
 ·replace h1 : ¬ (((belowC x0 6).2 - ((i : Nat) : Int)) > 0) := of_decide_eq_false h1
  refine wp_exit (then_exit ?_)
  replace h := at_out (σ' := ⟨[(4, aP 4 0), (5, aP 6 0)], [(1, oX 112 [.ro (.u8 5) (decIt (belowC x0 6).1 x1 i).1.1, cI (decIt (belowC x0 6).1 x1 i).1.2.1, cI (decIt (belowC x0 6).1 x1 i).1.2.2]), (2, oP 1 (Value.pointer (some ⟨b0, 0, none⟩))), (4, oX 30 [cI 0, cI 0, cI 0, cI 0, cN]), (5, oF s39 (decIt (belowC x0 6).1 x1 i).2.2.2.2.2), (6, oX 30 [cI (decIt (belowC x0 6).1 x1 i).2.1, cI (decIt (belowC x0 6).1 x1 i).2.2.1, cI (decIt (belowC x0 6).1 x1 i).2.2.2.1, cI (decIt (belowC x0 6).1 x1 i).2.2.2.2.1, .sl 5])]⟩) { ts := [4, 5], os := [1, 2, 4, 5, 6] } h (by kernel_rfl)
  replace h := at_eq (σ' := ⟨[(4, aP 4 0), (5, aP 6 0)], [(1, oX 112 [.ro (.u8 5) (decIt (belowC x0 6).1 x1 (belowC x0 6).2.toNat).1.1, cI (decIt (belowC x0 6).1 x1 (belowC x0 6).2.toNat).1.2.1, cI (decIt (belowC x0 6).1 x1 (belowC x0 6).2.toNat).1.2.2]), (2, oP 1 (Value.pointer (some ⟨b0, 0, none⟩))), (4, oX 30 [cI 0, cI 0, cI 0, cI 0, cN]), (5, oF s39 (decIt (belowC x0 6).1 x1 (belowC x0 6).2.toNat).2.2.2.2.2), (6, oX 30 [cI (decIt (belowC x0 6).1 x1 (belowC x0 6).2.toNat).2.1, cI (decIt (belowC x0 6).1 x1 (belowC x0 6).2.toNat).2.2.1, cI (decIt (belowC x0 6).1 x1 (belowC x0 6).2.toNat).2.2.2.1, cI (decIt (belowC x0 6).1 x1 (belowC x0 6).2.toNat).2.2.2.2.1, .sl 5])]⟩) h (st_congr8 (fun (d0 : List Int) (d1 : Int) (d2 : Int) (d3 : Int) (d4 : Int) (d5 : Int) (d6 : Int) (d7 : List (List Int)) => (⟨[(4, aP 4 0), (5, aP 6 0)], [(1, oX 112 [.ro (.u8 5) d0, cI d1, cI d2]), (2, oP 1 (Value.pointer (some ⟨b0, 0, none⟩))), (4, oX 30 [cI 0, cI 0, cI 0, cI 0, cN]), (5, oF s39 d7), (6, oX 30 [cI d3, cI d4, cI d5, cI d6, .sl 5])]⟩ : St)) (show ((decIt (belowC x0 6).1 x1 i).1.1 : List Int) = (decIt (belowC x0 6).1 x1 (belowC x0 6).2.toNat).1.1 from by first | with_reducible rfl | (rw [show (belowC x0 6).2.toNat = i by omega]) | rfl) (show ((decIt (belowC x0 6).1 x1 i).1.2.1 : Int) = (decIt (belowC x0 6).1 x1 (belowC x0 6).2.toNat).1.2.1 from by first | with_reducible rfl | (rw [show (belowC x0 6).2.toNat = i by omega]) | rfl) (show ((decIt (belowC x0 6).1 x1 i).1.2.2 : Int) = (decIt (belowC x0 6).1 x1 (belowC x0 6).2.toNat).1.2.2 from by first | with_reducible rfl | (rw [show (belowC x0 6).2.toNat = i by omega]) | rfl) (show ((decIt (belowC x0 6).1 x1 i).2.1 : Int) = (decIt (belowC x0 6).1 x1 (belowC x0 6).2.toNat).2.1 from by first | with_reducible rfl | (rw [show (belowC x0 6).2.toNat = i by omega]) | rfl) (show ((decIt (belowC x0 6).1 x1 i).2.2.1 : Int) = (decIt (belowC x0 6).1 x1 (belowC x0 6).2.toNat).2.2.1 from by first | with_reducible rfl | (rw [show (belowC x0 6).2.toNat = i by omega]) | rfl) (show ((decIt (belowC x0 6).1 x1 i).2.2.2.1 : Int) = (decIt (belowC x0 6).1 x1 (belowC x0 6).2.toNat).2.2.2.1 from by first | with_reducible rfl | (rw [show (belowC x0 6).2.toNat = i by omega]) | rfl) (show ((decIt (belowC x0 6).1 x1 i).2.2.2.2.1 : Int) = (decIt (belowC x0 6).1 x1 (belowC x0 6).2.toNat).2.2.2.2.1 from by first | with_reducible rfl | (rw [show (belowC x0 6).2.toNat = i by omega]) | rfl) (show ((decIt (belowC x0 6).1 x1 i).2.2.2.2.2 : List (List Int)) = (decIt (belowC x0 6).1 x1 (belowC x0 6).2.toNat).2.2.2.2.2 from by first | with_reducible rfl | (rw [show (belowC x0 6).2.toNat = i by omega]) | rfl))
  refine then_exit (in_hit (then_normal (wp_seq ?_)))
  refine at_regq [] { ts := [4], os := [1, 2, 4, 5] } [] gamOK hT h (by kernel_rfl) trivial fun a w h => then_normal (wp_ret ?_)
  have hr2 : (((decIt (belowC x0 6).1 x1 (belowC x0 6).2.toNat).1, (decIt (belowC x0 6).1 x1 (belowC x0 6).2.toNat).2) : T112 × T30) = decCo x0 x1 := by rfl
  exact at_returnB (B := B_spec_l14Decoder) (c0 := x0) (x := (x1, ())) ((decIt (belowC x0 6).1 x1 (belowC x0 6).2.toNat).1) ((decIt (belowC x0 6).1 x1 (belowC x0 6).2.toNat).2, ()) [(Value.pointer (some ⟨b0, 0, none⟩)) = (Value.pointer (some ⟨b0, 0, none⟩))] h (by kernel_rfl) ⟨rfl, trivial⟩ (congrArg (a₁ := ((decIt (belowC x0 6).1 x1 (belowC x0 6).2.toNat).1, (decIt (belowC x0 6).1 x1 (belowC x0 6).2.toNat).2)) (a₂ := decCo x0 x1) (fun (z : T112 × T30) => z.1) hr2) (congrArg (a₁ := ((decIt (belowC x0 6).1 x1 (belowC x0 6).2.toNat).1, (decIt (belowC x0 6).1 x1 (belowC x0 6).2.toNat).2)) (a₂ := decCo x0 x1) (fun (z : T112 × T30) => (z.2, ())) hr2)
theorem decCo_ok {x : T112} {g : T26} (h : 0 ≤ x.2.1) (hg : validG g = true) : 0 ≤ (decCo x g).1.2.1 ∧ DecOK g (decCo x g).2 := decIt_inv (below_ok (n := 6) h) hg _

def drawC (x0 : (List Int)) : T26 × T30 := ((genD (newC x0)).2, (decCo (genD (newC x0)).1 (genD (newC x0)).2).2)
abbrev Q_spec_DrawCollected := (fun (x0 : (List Int)) => Sh.fit s22 x0)
def S_spec_DrawCollected : Sum := { fid := 6, dom := [s22], cod := [s26, s30], dp := false, fz := true, pre := fun x => Q_spec_DrawCollected x.1, g := fun x => ((drawC x.1).1, ((drawC x.1).2, ())) }
def S_spec_DrawCollected_tab : List (Nat × Sum) := [(28, S_spec_l1New), (29, S_spec_l10Gen), (30, S_spec_l14Decoder)]
theorem S_spec_DrawCollected_ok : FnOK Tryz.prog 6 S_spec_DrawCollected := by
 refine at_enter 14 (fun x => ⟨[(0, aF (.u8 5) x.1)], []⟩) Tryz.func6 rfl (by kernel_rfl) (fun x => rfl) ?_
 rintro w0 Z0 ⟨x0, u⟩ a w
 revert x0
 intro (x0 : (List Int)) hpre hlens h
 replace hpre : Q_spec_DrawCollected x0 := hpre
 have hu0 : u8L x0 := hlens.1.2
 have hT : TabOK Tryz.prog S_spec_DrawCollected_tab := (.cons S_spec_l1New_ok (.cons S_spec_l10Gen_ok (.cons S_spec_l14Decoder_ok .nil)))
 have hf0 : Sh.fit s22 x0 := hpre
 have hn0_1 : List.length x0 ≤ 1073741824 := hf0.1
 have hgo := genD_ok (x := newC x0) (Int.le_refl 0)
 refine wp_seq ?_
 refine at_regq [{ ids := [1] }, { ids := [2] }] { ts := [0, 2, 3], os := [1, 2] } [] gamOK hT h (by kernel_rfl) trivial fun a w h => then_normal (wp_seq ?_)
 refine at_regq [{}, { ids := [3] }] { ts := [2, 3, 4], os := [1, 2, 3] } [B_spec_l1New.pre (x0, ())] gamOK hT h (by kernel_rfl) ⟨(by exact hf0), trivial⟩ fun a w h => then_normal (wp_seq ?_)
 refine at_regq [{}, { ids := [4] }, { ids := [5] }] { ts := [2, 3, 4, 5], os := [1, 2, 3, 4, 5] } [B_spec_l10Gen.pre (newC x0) (())] gamOK hT h (by kernel_rfl) ⟨(by exact Int.le_refl 0), trivial⟩ fun a w h => then_normal (wp_seq ?_)
 replace h := at_out (σ' := ⟨[(2, aP 1 0), (3, aP 2 0), (4, aP 3 0), (5, aP 5 0)], [(1, oX 26 [cI 0, cN]), (2, oX 30 [cI 0, cI 0, cI 0, cI 0, cN]), (3, oX 112 [.ro (.u8 5) (genD (newC x0)).1.1, cI (genD (newC x0)).1.2.1, cI (genD (newC x0)).1.2.2]), (5, oX 26 [cI (genD (newC x0)).2.1, .ro s39 (genD (newC x0)).2.2])]⟩) { fz := [4], ts := [2, 3, 4, 5], os := [1, 2, 3, 5] } h (by kernel_rfl)
 refine at_anyq [{}, {}, {}, { ids := [6] }, {}, {}] { ts := [2, 3], os := [1, 2, 6] } [B_spec_l14Decoder.pre (genD (newC x0)).1 ((genD (newC x0)).2, ())] gamOK hT mixed h (by kernel_rfl) ⟨(by exact ⟨hgo.1, hgo.2.1⟩), trivial⟩ fun a w h => then_normal (wp_ret ?_)
 exact at_return ((genD (newC x0)).2, ((decCo (genD (newC x0)).1 (genD (newC x0)).2).2, ())) [] h (by kernel_rfl) trivial (congrArg (fun z => (z.1, z.2, ())) (show (((genD (newC x0)).2, (decCo (genD (newC x0)).1 (genD (newC x0)).2).2)) = drawC x0 from by rfl))
theorem drawC_ok (x : List Int) : validG (drawC x).1 = true ∧ ((0 ≤ (drawC x).1.1 ∧ (drawC x).1.1 ≤ 4) ∧ (1 ≤ List.length (drawC x).1.2 ∧ List.length (drawC x).1.2 ≤ 4)) ∧ Sh.fit s26 (drawC x).1 ∧ DecOK (drawC x).1 (drawC x).2 := by
 have hgo := genD_ok (x := newC x) (Int.le_refl 0)
 have hv := validG_t hgo.2.1
 exact ⟨hgo.2.1, ⟨⟨hv.1.1, hgo.2.2.1⟩, hv.2.1.1, hgo.2.2.2.1⟩, validG_fit hgo.2.1, (decCo_ok hgo.1 hgo.2.1).2⟩

def consS (x0 : T26) (x1 : T41) : Bool := (if (codePk x0 x1.2.1).2 = true then ((Sh.eqB s41) x1 (codePk x0 x1.2.1).1) else false)
abbrev Q_spec_IsConsistent := (fun (x0 : T26) (x1 : T41) => Sh.fit s26 x0 ∧ Sh.fit s41 x1)
def S_spec_IsConsistent : Sum := { fid := 12, dom := [s26, s41], cod := [(.bool 4)], dp := true, fz := false, pre := fun x => Q_spec_IsConsistent x.1 x.2.1, g := fun x => ((consS x.1 x.2.1), ()) }
def S_spec_IsConsistent_tab : List (Nat × Sum) := [(38, S_spec_CodePacket), (39, S_spec_EqualPackets)]
theorem S_spec_IsConsistent_ok : FnOK Tryz.prog 12 S_spec_IsConsistent := by
 refine at_enter 20 (fun x => ⟨[(0, aG [cI x.1.1, .ro s39 x.1.2]), (1, aG [cI x.2.1.1, .ro (.int 3) x.2.1.2.1, .ro (.int 3) x.2.1.2.2])], []⟩) Tryz.func12 rfl (by kernel_rfl) (fun x => rfl) ?_
 rintro w0 Z0 ⟨x0, x1, u⟩ a w
 revert x0 x1
 intro (x0 : T26) (x1 : T41) hpre hlens h
 replace hpre : Q_spec_IsConsistent x0 x1 := hpre
 have hT : TabOK Tryz.prog S_spec_IsConsistent_tab := (.cons S_spec_CodePacket_ok (.cons S_spec_EqualPackets_ok .nil))
 obtain ⟨hf0, hf1⟩ := hpre
 have hn0_1 : List.length x0.2 ≤ 1073741824 := hf0.2.1
 have hn1_2 : List.length x1.2.1 ≤ 1073741824 := hf1.2.1.1
 have hn1_3 : List.length x1.2.2 ≤ 1073741824 := hf1.2.2.1
 refine wp_seq ?_
 refine at_regq [{ ids := [1] }, { ids := [2] }] { ts := [2, 3, 4], os := [1, 2] } [] gamOK hT h (by kernel_rfl) trivial fun a w h => then_normal (wp_seq ?_)
 refine at_regq [{}, {}, {}, { ids := [3, 4] }, {}, {}, {}, { ids := [5] }] { ts := [3, 4, 5, 6], os := [2, 3, 4, 5] } [Q_spec_CodePacket x0 x1.2.1] gamOK hT h (by kernel_rfl) ⟨(by exact ⟨hf0, hf1.2.1⟩), trivial⟩ fun a w h => then_normal (wp_seq ?_)
 rcases Bool.eq_false_or_eq_true ((codePk x0 x1.2.1).2) with h1 | h1
 ·refine at_regq [{ hint := some (aB true) }] { ts := [4], os := [] } [(AV.p (.c (.v (.bool ((codePk x0 x1.2.1).2)))) = AV.p (.c (.v (.bool true)))), True] gamOK hT h (by kernel_rfl) ⟨hint_bool (h1), trivial, trivial⟩ fun a w h => then_normal (wp_ret ?_)
  exact at_return (((Sh.eqB s41) x1 (codePk x0 x1.2.1).1), ()) [] h (by kernel_rfl) trivial (congrArg (fun z => (z, ())) (show (((Sh.eqB s41) x1 (codePk x0 x1.2.1).1)) = consS x0 x1 from by first | rfl | (unfold consS; rw [if_pos h1])))
 ·refine at_regq [{ hint := some (aB false) }] { ts := [4], os := [] } [(AV.p (.c (.v (.bool ((codePk x0 x1.2.1).2)))) = AV.p (.c (.v (.bool false))))] gamOK hT h (by kernel_rfl) ⟨hint_bool (h1), trivial⟩ fun a w h => then_normal (wp_ret ?_)
  exact at_return (false, ()) [] h (by kernel_rfl) trivial (congrArg (fun z => (z, ())) (show (false) = consS x0 x1 from by first | rfl | (unfold consS; rw [if_neg (neT h1)])))

theorem st_congr11 {α0 α1 α2 α3 α4 α5 α6 α7 α8 α9 α10 : Type} (F : α0 → α1 → α2 → α3 → α4 → α5 → α6 → α7 → α8 → α9 → α10 → St) {a0 b0 : α0} (h0 : a0 = b0) {a1 b1 : α1} (h1 : a1 = b1) {a2 b2 : α2} (h2 : a2 = b2) {a3 b3 : α3} (h3 : a3 = b3) {a4 b4 : α4} (h4 : a4 = b4) {a5 b5 : α5} (h5 : a5 = b5) {a6 b6 : α6} (h6 : a6 = b6) {a7 b7 : α7} (h7 : a7 = b7) {a8 b8 : α8} (h8 : a8 = b8) {a9 b9 : α9} (h9 : a9 = b9) {a10 b10 : α10} (h10 : a10 = b10) : F a0 a1 a2 a3 a4 a5 a6 a7 a8 a9 a10 = F b0 b1 b2 b3 b4 b5 b6 b7 b8 b9 b10 := by subst h0; subst h1; subst h2; subst h3; subst h4; subst h5; subst h6; subst h7; subst h8; subst h9; subst h10; rfl
theorem code_fit2 {g : T26} {cs : List Int} (hg : validG g = true) (hc : LA.VokB g.2.length cs) : Sh.fit s41 (g.1, cs, combS g.2 cs) := by
 have h1 := gen_rows hg
 have hr := (code_row hg hc).1.1
 rw [List.length_append, hc.1] at hr
 exact ⟨trivial, Sh.fit_len rfl (show cs.length ≤ _ by have := hc.1; omega), Sh.fit_len rfl (show (combS g.2 cs).length ≤ _ by omega)⟩
def rcS (g : T26) (i : Nat) : T35 := (g.1, ((List.length g.2 : Nat) : Int), colsOf g.2, [], (i : Int))
theorem newRec_at {g : T26} (hg : validG g = true) : newRec g.1 ((List.length g.2 : Nat) : Int) (colsOf g.2) = rcS g 0 := by
 have h1 := gen_rows hg
 have hv := validG_t hg
 have hf : isFmt g.1 ((List.length g.2 : Nat) : Int) (colsOf g.2) = true := by
  unfold isFmt
  rw [if_pos (show inR g.1 0 1000000000000 = true from inR_true (by omega)), if_pos (show inR ((List.length g.2 : Nat) : Int) 1 8 = true from inR_true (by omega))]
  exact inR_true (by omega)
 unfold newRec
 rw [if_pos hf]; rfl
theorem rcS_valid {g : T26} (hg : validG g = true) {i : Nat} (hi : i ≤ 100) : validR (rcS g i) = true := by
 have h1 := gen_rows hg
 have hv := validG_t hg
 have hf : isFmt g.1 ((List.length g.2 : Nat) : Int) (colsOf g.2) = true := by
  unfold isFmt
  rw [if_pos (show inR g.1 0 1000000000000 = true from inR_true (by omega)), if_pos (show inR ((List.length g.2 : Nat) : Int) 1 8 = true from inR_true (by omega))]
  exact inR_true (by omega)
 unfold validR
 have e : inR (rcS g i).2.2.2.2 0 1000000000000 = true := inR_true (show 0 ≤ (i : Int) ∧ (i : Int) ≤ 1000000000000 by omega)
 have hf' : isFmt (rcS g i).1 (rcS g i).2.1 (rcS g i).2.2.1 = true := hf
 have hl : decide (List.length (rcS g i).2.2.2.1 ≤ 8) = true := decide_eq_true (show 0 ≤ 8 by omega)
 rw [hf', hl, e]; rfl
theorem sys_at {g : T26} (hg : validG g = true) {i : Nat} (hi : i ≤ 100) (s : Int) : sysP g (rcS g i) s = (rcS g (i + 1), (g.1, sysC (rcS g i) s, combS g.2 (sysC (rcS g i) s)), true) ∧ LA.VokB g.2.length (sysC (rcS g i) s) ∧ (i < g.2.length → sysC (rcS g i) s = unitL g.2.length (i : Int)) := by
 have h1 := gen_rows hg
 have hr := rcS_valid hg hi
 have hs : ¬ (rcS g i).2.2.2.2 = 1000000000000 := fun e => by
  have e : (i : Int) = 1000000000000 := e
  omega
 refine ⟨?_, sysC_ok hr rfl, fun hl => ?_⟩
 ·rw [← sysP_y (sysOK_t hg hr rfl rfl rfl), ← sysU_n hs, ← sysD_n hs rfl]
  show ((g.1, ((List.length g.2 : Nat) : Int), colsOf g.2, [], (i : Int) + 1), _) = _
  unfold rcS
  rw [show (((i + 1 : Nat)) : Int) = (i : Int) + 1 by omega]
 ·rw [sysC_2 (fun e => by have e : (i : Int) ≥ ((List.length g.2 : Nat) : Int) := e; omega)]
  show unitV ((List.length g.2 : Nat) : Int) (i : Int) = _
  rw [← unitV_y (inR_true (by omega)) (inR_true (by omega)), Int.toNat_natCast]
def sysSt (x : List Int) (g : T26) : Nat → T30
 | 0 => newDec g.1 ((List.length g.2 : Nat) : Int) (colsOf g.2)
 | i + 1 => (addPk (sysSt x g i) (sysP g (rcS g i) (atF x (i : Int))).2.1).1
theorem span_zero {rows : List LA.V} {k : Nat} (h : ∀ r ∈ rows, r k = 0) {v : LA.V} (hv : LA.Span rows v) : v k = 0 := by
 obtain ⟨c, rfl⟩ := hv
 exact LA.sumN_zero fun i hi => by rw [h _ (LA.row_mem hi)]; grind
theorem uRow_code2 {g : T26} (hg : validG g = true) {i : Nat} (hi : i < g.2.length) : unitL g.2.length (i : Int) ++ combS g.2 (unitL g.2.length (i : Int)) = uRow g.2 i ∧ combS g.2 (unitL g.2.length (i : Int)) = g.2.getD i [] := by
 have h1 := gen_rows hg
 rw [combS_unit h1.2.2.1 rfl hi]; exact ⟨rfl, rfl⟩
structure SysInv (g : T26) (d : T30) (i : Nat) : Prop where
 ok : DecOK g d
 zr : ∀ r ∈ d.2.2.2.2, ∀ k, i ≤ k → k < g.2.length → LA.vec r k = 0
 sp : ∀ k, k < i → k < g.2.length → LA.Span (d.2.2.2.2.map LA.vec) (LA.vec (uRow g.2 k))
theorem SysInv.add {g : T26} {d : T30} {i : Nat} {cs : List Int} (hg : validG g = true) (h : SysInv g d i) (hc : LA.VokB g.2.length cs) (hu : i < g.2.length → cs = unitL g.2.length (i : Int)) :
  (addPk d (g.1, cs, combS g.2 cs)).2 = decide (i < g.2.length) ∧ SysInv g (addPk d (g.1, cs, combS g.2 cs)).1 (i + 1) := by
 have h1 := gen_rows hg
 obtain ⟨a1, a2, a3, a4, a5⟩ := addPk_con hg h.ok hc
 by_cases hi : i < g.2.length
 ·have e : cs ++ combS g.2 cs = uRow g.2 i := by rw [hu hi]; exact (uRow_code2 hg hi).1
  have hns : ¬ LA.Span (d.2.2.2.2.map LA.vec) (LA.vec (uRow g.2 i)) := fun hs => by
   have := span_zero (k := i) (fun r hr => by
    obtain ⟨y, hy, rfl⟩ := List.mem_map.1 hr
    exact h.zr y hy i (Nat.le_refl _) hi) hs
   rw [uRow_at hi hi, if_pos rfl] at this
   exact absurd this (by decide)
  rw [e] at a2 a3
  refine ⟨?_, a1, fun r hr k hk1 hk2 => ?_, fun k hk1 hk2 => ?_⟩
  ·rw [decide_eq_true hi]
   cases hb : (addPk d (g.1, cs, combS g.2 cs)).2 with
   | true => rfl
   | false => exact absurd (a2.1 hb) hns
  ·have hs := (a3 (LA.vec r)).1 (LA.Span.mem (List.mem_map.2 ⟨r, hr, rfl⟩))
   refine span_zero (fun y hy => ?_) hs
   rcases List.mem_append.1 hy with hy | hy
   ·obtain ⟨z, hz, rfl⟩ := List.mem_map.1 hy
    exact h.zr z hz k (by omega) hk2
   ·rw [List.mem_singleton.1 hy, uRow_at hi hk2, if_neg (by omega)]
  ·rw [a3]
   by_cases hki : k = i
   ·subst hki; exact LA.Span.mem (by simp)
   ·exact LA.Span.of_mem (fun r hr => LA.Span.mem (List.mem_append.2 (.inl hr))) (h.sp k (by omega) hk2)
 ·have hl := h.ok.con.len h1.2.2.1 (fun k hk => h.sp k (by omega) hk)
  have hs := h.ok.con.full hl (code_row hg hc).2
  have hf := a2.2 hs
  rw [hf, a5 hf]
  exact ⟨(decide_eq_false hi).symm, h.ok, fun r hr k hk1 hk2 => by omega, fun k hk1 hk2 => h.sp k (by omega) hk2⟩
theorem sysSt_inv (x : List Int) {g : T26} (hg : validG g = true) : ∀ i, i ≤ 50 → SysInv g (sysSt x g i) i
 | 0, _ => by
  have h0 := newDec_ok hg
  refine ⟨h0, fun r hr => ?_, fun k hk => by omega⟩
  have : (newDec g.1 ((List.length g.2 : Nat) : Int) (colsOf g.2)).2.2.2.2 = [] := by
   unfold newDec newBas; (repeat' split) <;> rfl
  rw [show (sysSt x g 0).2.2.2.2 = [] from this] at hr
  cases hr
 | i + 1, hi => by
  have ih := sysSt_inv x hg i (by omega)
  obtain ⟨s1, s2, s3⟩ := sys_at hg (i := i) (by omega) (atF x (i : Int))
  show SysInv g (addPk (sysSt x g i) (sysP g (rcS g i) (atF x (i : Int))).2.1).1 (i + 1)
  rw [s1]
  exact (ih.add hg s2 s3).2
theorem law_sys {x : List Int} {g : T26} {i : Nat} {X : T35 × T41 × Bool} (hg : validG g = true) (hi : i ≤ 49) (hX : X = sysP g (rcS g i) (atF x (i : Int))) :
  X.2.2 = true ∧ consS g X.2.1 = true ∧ X.1 = rcS g (i + 1) ∧ X.1.2.2.2.2 = (i : Int) + 1 ∧ (i < g.2.length → X.2.1.2.2 = g.2.getD i []) ∧ (addPk (sysSt x g i) X.2.1).2 = decide (i < g.2.length) ∧ Sh.fit s41 X.2.1 ∧ Sh.fit s30 (sysSt x g i) := by
 have h1 := gen_rows hg
 obtain ⟨s1, s2, s3⟩ := sys_at hg (i := i) (by omega) (atF x (i : Int))
 have hinv := sysSt_inv x hg i (by omega)
 rw [s1] at hX
 subst hX
 refine ⟨rfl, ?_, rfl, ?_, fun hl => ?_, (hinv.add hg s2 s3).1, code_fit2 hg s2, hinv.ok.fit hg⟩
 ·unfold consS
  have e : codePk g (sysC (rcS g i) (atF x (i : Int))) = _ := codePk_ok hg s2
  simp only [e]
  first | rfl | (simp [Sh.eqB_self])
 ·show (((i + 1 : Nat)) : Int) = _; omega
 ·show combS g.2 (sysC (rcS g i) (atF x (i : Int))) = _
  rw [s3 hl]; exact (uRow_code2 hg hl).2
theorem law_sys_end {x : List Int} {g : T26} {i : Nat} (hg : validG g = true) (hi : i ≤ 50) (hn : g.2.length ≤ i) : (validD (sysSt x g i) && complD (sysSt x g i)) = true ∧ Sh.fit s30 (sysSt x g i) := by
 have h1 := gen_rows hg
 have hinv := sysSt_inv x hg i hi
 have hl := hinv.ok.con.len h1.2.2.1 (fun k hk => hinv.sp k (by omega) hk)
 have hsz := hinv.ok.sz
 refine ⟨?_, hinv.ok.fit hg⟩
 rw [hinv.ok.valid hg, Bool.true_and]
 unfold complD; exact decide_eq_true (by omega)
def D_laws_FnSystematic := (fun (_ : List Int) => true)
abbrev Q_laws_FnSystematic := (fun (x0 : List Int) => Sh.i64 s22 x0)
def S_laws_FnSystematic : Sum := { fid := 3, dom := [s22], cod := [(.bool 4)], dp := true, fz := false, pre := fun x => Q_laws_FnSystematic x.1, g := fun x => ((D_laws_FnSystematic x.1), ()) }
def S_laws_FnSystematic_tab : List (Nat × Sum) := [(5, S_laws_big), (6, S_spec_DrawCollected), (8, S_spec_ColumnsOf), (7, S_impl_NewRecoder), (9, S_impl_NewDecoder), (11, S_laws_at), (10, S_impl_SystematicPacket), (12, S_spec_IsConsistent), (13, S_laws_sameInts), (14, S_impl_AddPacket), (15, S_impl_IsComplete)]
theorem S_laws_FnSystematic_ok : FnOK Tryz.prog 3 S_laws_FnSystematic := by
 refine at_enter 100 (fun x => ⟨[(0, aF (.u8 5) x.1)], []⟩) Tryz.func3 rfl (by kernel_rfl) (fun x => rfl) ?_
 rintro w0 Z0 ⟨x0, u⟩ a w
 revert x0
 intro (x0 : (List Int)) hpre hlens h
 replace hpre : Q_laws_FnSystematic x0 := hpre
 have hl1 : List.length x0 ≤ 9223372036854775807 := hlens.1.1
 have hu0 : u8L x0 := hlens.1.2
 have hT : TabOK Tryz.prog S_laws_FnSystematic_tab := (.cons S_laws_big_ok (.cons S_spec_DrawCollected_ok (.cons S_spec_ColumnsOf_ok (.cons S_impl_NewRecoder_ok (.cons S_impl_NewDecoder_ok (.cons S_laws_at_ok (.cons S_impl_SystematicPacket_ok (.cons S_spec_IsConsistent_ok (.cons S_laws_sameInts_ok (.cons S_impl_AddPacket_ok (.cons S_impl_IsComplete_ok .nil)))))))))))
 refine wp_seq ?_
 refine at_regq [] { ts := [0, 2], os := [] } [] gamOK hT h (by kernel_rfl) trivial fun a w h => then_normal (wp_seq (wp_seq ?_))
 refine at_regq [] { ts := [0, 2, 15], os := [] } [True] gamOK hT h (by kernel_rfl) ⟨trivial, trivial⟩ fun a w h => then_normal ?_
 refine at_test ((bigF x0)) h (by kernel_rfl) (fun h1 => ?_) (fun h1 => ?_)
 ·refine wp_seq ?_
  refine at_regq [] { ts := [0, 2], os := [] } [] gamOK hT h (by kernel_rfl) trivial fun a w h => then_normal (wp_ret (then_ret ?_))
  exact at_return (true, ()) [] h (by kernel_rfl) trivial (congrArg (fun z => (z, ())) (show (true) = D_laws_FnSystematic x0 from by unfold D_laws_FnSystematic; rfl))
 ·have hbz : List.length x0 ≤ 1048576 := big_f h1
  obtain ⟨hd1, hd2, hd3, hd4⟩ := drawC_ok x0
  have hnr := newRec_at hd1
  refine wp_skip (then_normal (wp_seq ?_))
  refine at_regq [{}, {}, {}, {}, {}, { ids := [1] }, { ids := [2] }] { ts := [0, 2, 3], os := [1] } [Q_spec_DrawCollected x0] gamOK hT h (by kernel_rfl) ⟨(by exact (Sh.fit_len (t := 22) (s := (.u8 5)) rfl (by omega))), trivial⟩ fun a w h => then_normal (wp_seq ?_)
  refine at_regq [] { ts := [0, 2, 3, 5], os := [1] } [] gamOK hT h (by kernel_rfl) trivial fun a w h => then_normal (wp_seq ?_)
  refine at_anyq [{}, {}, {}, {}, {}, {}, { frz := true }, { ids := [3] }, {}] { ts := [0, 2, 3, 5, 6], os := [1, 3] } [Q_spec_ColumnsOf (drawC x0).1.2, True] gamOK hT mixed h (by kernel_rfl) ⟨(by exact hd3.2), trivial, trivial⟩ fun a w h => then_normal (wp_seq ?_)
  refine at_anyq [{}, {}, {}, {}, {}, {}, { frz := true }, { ids := [4] }, {}] { ts := [0, 2, 3, 5, 6, 7], os := [1, 3, 4] } [Q_spec_ColumnsOf (drawC x0).1.2, True] gamOK hT mixed h (by kernel_rfl) ⟨(by exact hd3.2), trivial, trivial⟩ fun a w h => then_normal (wp_seq (wp_seq ?_))
  refine at_regq [] { ts := [0, 2, 3, 5, 6, 7, 8], os := [1, 3, 4] } [] gamOK hT h (by kernel_rfl) trivial fun a w h => then_normal (wp_block ?_)
  replace h := at_out (σ' := ⟨[(0, aF (.u8 5) x0), (2, aB false), (3, aP 1 0), (5, aI ((List.length (drawC x0).1.2 : Nat) : Int)), (6, aP 3 0), (7, aP 4 0), (8, aI 0)], [(1, oX 26 [cI (drawC x0).1.1, .ro s39 (drawC x0).1.2]), (3, oX 35 [cI (newRec (drawC x0).1.1 ((List.length (drawC x0).1.2 : Nat) : Int) (colsOf (drawC x0).1.2)).1, cI (newRec (drawC x0).1.1 ((List.length (drawC x0).1.2 : Nat) : Int) (colsOf (drawC x0).1.2)).2.1, cI (newRec (drawC x0).1.1 ((List.length (drawC x0).1.2 : Nat) : Int) (colsOf (drawC x0).1.2)).2.2.1, .ro s41 (newRec (drawC x0).1.1 ((List.length (drawC x0).1.2 : Nat) : Int) (colsOf (drawC x0).1.2)).2.2.2.1, cI (newRec (drawC x0).1.1 ((List.length (drawC x0).1.2 : Nat) : Int) (colsOf (drawC x0).1.2)).2.2.2.2]), (4, oX 30 [cI (newDec (drawC x0).1.1 ((List.length (drawC x0).1.2 : Nat) : Int) (colsOf (drawC x0).1.2)).1, cI (newDec (drawC x0).1.1 ((List.length (drawC x0).1.2 : Nat) : Int) (colsOf (drawC x0).1.2)).2.1, cI (newDec (drawC x0).1.1 ((List.length (drawC x0).1.2 : Nat) : Int) (colsOf (drawC x0).1.2)).2.2.1, cI (newDec (drawC x0).1.1 ((List.length (drawC x0).1.2 : Nat) : Int) (colsOf (drawC x0).1.2)).2.2.2.1, .ro s39 (newDec (drawC x0).1.1 ((List.length (drawC x0).1.2 : Nat) : Int) (colsOf (drawC x0).1.2)).2.2.2.2])]⟩) { ts := [0, 2, 3, 5, 6, 7, 8], os := [1, 3, 4] } h (by kernel_rfl)
  refine at_loop (fun i : Nat => (⟨[(0, aF (.u8 5) x0), (2, aB false), (3, aP 1 0), (5, aI ((List.length (drawC x0).1.2 : Nat) : Int)), (6, aP 3 0), (7, aP 4 0), (8, aI ((i : Nat) : Int))], [(1, oX 26 [cI (drawC x0).1.1, .ro s39 (drawC x0).1.2]), (3, oX 35 [cI (rcS (drawC x0).1 i).1, cI (rcS (drawC x0).1 i).2.1, cI (rcS (drawC x0).1 i).2.2.1, .ro s41 (rcS (drawC x0).1 i).2.2.2.1, cI (rcS (drawC x0).1 i).2.2.2.2]), (4, oX 30 [cI (sysSt x0 (drawC x0).1 i).1, cI (sysSt x0 (drawC x0).1 i).2.1, cI (sysSt x0 (drawC x0).1 i).2.2.1, cI (sysSt x0 (drawC x0).1 i).2.2.2.1, .ro s39 (sysSt x0 (drawC x0).1 i).2.2.2.2])]⟩ : St)) (fun i => i ≤ (List.length (drawC x0).1.2) + 2) (fun i => (List.length (drawC x0).1.2) + 2 - i) (0) h (st_congr11 (fun (d0 : Int) (d1 : Int) (d2 : Int) (d3 : Int) (d4 : List (List Int)) (d5 : Int) (d6 : Int) (d7 : Int) (d8 : List T41) (d9 : Int) (d10 : Int) => (⟨[(0, aF (.u8 5) x0), (2, aB false), (3, aP 1 0), (5, aI ((List.length (drawC x0).1.2 : Nat) : Int)), (6, aP 3 0), (7, aP 4 0), (8, aI d10)], [(1, oX 26 [cI (drawC x0).1.1, .ro s39 (drawC x0).1.2]), (3, oX 35 [cI d5, cI d6, cI d7, .ro s41 d8, cI d9]), (4, oX 30 [cI d0, cI d1, cI d2, cI d3, .ro s39 d4])]⟩ : St)) (show ((newDec (drawC x0).1.1 ((List.length (drawC x0).1.2 : Nat) : Int) (colsOf (drawC x0).1.2)).1 : Int) = (sysSt x0 (drawC x0).1 (0)).1 from by first | with_reducible rfl | (first | rfl | (rw [hnr])) | rfl) (show ((newDec (drawC x0).1.1 ((List.length (drawC x0).1.2 : Nat) : Int) (colsOf (drawC x0).1.2)).2.1 : Int) = (sysSt x0 (drawC x0).1 (0)).2.1 from by first | with_reducible rfl | (first | rfl | (rw [hnr])) | rfl) (show ((newDec (drawC x0).1.1 ((List.length (drawC x0).1.2 : Nat) : Int) (colsOf (drawC x0).1.2)).2.2.1 : Int) = (sysSt x0 (drawC x0).1 (0)).2.2.1 from by first | with_reducible rfl | (first | rfl | (rw [hnr])) | rfl) (show ((newDec (drawC x0).1.1 ((List.length (drawC x0).1.2 : Nat) : Int) (colsOf (drawC x0).1.2)).2.2.2.1 : Int) = (sysSt x0 (drawC x0).1 (0)).2.2.2.1 from by first | with_reducible rfl | (first | rfl | (rw [hnr])) | rfl) (show ((newDec (drawC x0).1.1 ((List.length (drawC x0).1.2 : Nat) : Int) (colsOf (drawC x0).1.2)).2.2.2.2 : List (List Int)) = (sysSt x0 (drawC x0).1 (0)).2.2.2.2 from by first | with_reducible rfl | (first | rfl | (rw [hnr])) | rfl) (show ((newRec (drawC x0).1.1 ((List.length (drawC x0).1.2 : Nat) : Int) (colsOf (drawC x0).1.2)).1 : Int) = (rcS (drawC x0).1 (0)).1 from by first | with_reducible rfl | (first | rfl | (rw [hnr])) | rfl) (show ((newRec (drawC x0).1.1 ((List.length (drawC x0).1.2 : Nat) : Int) (colsOf (drawC x0).1.2)).2.1 : Int) = (rcS (drawC x0).1 (0)).2.1 from by first | with_reducible rfl | (first | rfl | (rw [hnr])) | rfl) (show ((newRec (drawC x0).1.1 ((List.length (drawC x0).1.2 : Nat) : Int) (colsOf (drawC x0).1.2)).2.2.1 : Int) = (rcS (drawC x0).1 (0)).2.2.1 from by first | with_reducible rfl | (first | rfl | (rw [hnr])) | rfl) (show ((newRec (drawC x0).1.1 ((List.length (drawC x0).1.2 : Nat) : Int) (colsOf (drawC x0).1.2)).2.2.2.1 : List T41) = (rcS (drawC x0).1 (0)).2.2.2.1 from by first | with_reducible rfl | (first | rfl | (rw [hnr])) | rfl) (show ((newRec (drawC x0).1.1 ((List.length (drawC x0).1.2 : Nat) : Int) (colsOf (drawC x0).1.2)).2.2.2.2 : Int) = (rcS (drawC x0).1 (0)).2.2.2.2 from by first | with_reducible rfl | (first | rfl | (rw [hnr])) | rfl) (show (0 : Int) = (((0) : Nat) : Int) from by first | with_reducible rfl | (first | rfl | (rw [hnr])) | rfl)) (by omega) ?_
  intro i a w hok0 h
  refine wp_seq (wp_seq ?_)
  refine at_regq [{}, {}, { nw := true }] { ts := [0, 2, 3, 5, 6, 7, 8, 41], os := [1, 3, 4] } [I64 (((List.length (drawC x0).1.2 : Nat) : Int) + 2)] gamOK hT h (by kernel_rfl) ⟨⟨by (have hL0 := (show List.length (drawC x0).1.2 ≤ 1073741824 from (hd3.2).1); first | omega | (simp only [lsA]; omega) | (simp <;> omega)), by (have hL0 := (show List.length (drawC x0).1.2 ≤ 1073741824 from (hd3.2).1); first | omega | (simp only [lsA]; omega) | (simp <;> omega))⟩, trivial⟩ fun a w h => then_normal ?_
  refine at_test (decide (((i : Nat) : Int) < ((List.length (drawC x0).1.2 : Nat) : Int) + 2)) h (by kernel_rfl) (fun h2 => ?_) (fun h2 => ?_)
  ·replace h2 : ((i : Nat) : Int) < ((List.length (drawC x0).1.2 : Nat) : Int) + 2 := of_decide_eq_true h2
   obtain ⟨l1, l2, l3, l4, l5, l6, l7, l8⟩ := law_sys (x := x0) (i := i) hd1 (by omega) rfl
   refine wp_skip (then_normal (wp_seq (wp_block (wp_seq ?_))))
   refine at_anyq [{}, {}, {}, {}, {}, { frz := true }, {}, {}, {}, {}, { ids := [5] }, { ids := [6] }, {}, {}, {}] { ts := [0, 2, 3, 5, 6, 7, 8, 9, 10, 11], os := [1, 3, 4, 5, 6] } [Q_laws_at x0 ((i : Nat) : Int), Q_impl_SystematicPacket (drawC x0).1 (rcS (drawC x0).1 i) (atF x0 ((i : Nat) : Int))] gamOK hT mixed h (by kernel_rfl) ⟨(by exact ⟨hbz, by omega, by omega⟩), (by exact ⟨hd3, trivial, trivial, trivial, Sh.fit_nil, trivial⟩), trivial⟩ fun a w h => then_normal (wp_seq (wp_seq ?_))
   rcases Bool.eq_false_or_eq_true (!(sysP (drawC x0).1 (rcS (drawC x0).1 i) (atF x0 ((i : Nat) : Int))).2.2) with h3 | h3
   ·have hzh3 : (sysP (drawC x0).1 (rcS (drawC x0).1 i) (atF x0 ((i : Nat) : Int))).2.2 = false := notT h3
    refine at_anyq [{}, { hint := some (aB true) }, {}, {}, {}, {}, {}, {}, {}, {}, {}, {}, {}, {}, {}, {}, {}, {}, {}, {}, {}, {}, {}, {}, {}, {}, {}, {}, {}, {}, {}] { ts := [0, 2, 3, 5, 6, 7, 8, 9, 10, 57, 58, 59, 60, 63, 64, 65, 66, 67, 70, 71, 72, 73, 74, 75, 76, 77, 78, 79, 80, 81, 82, 83, 84], os := [1, 3, 4, 5, 6] } [(AV.p (.c (.v (.bool (!(sysP (drawC x0).1 (rcS (drawC x0).1 i) (atF x0 ((i : Nat) : Int))).2.2)))) = AV.p (.c (.v (.bool true))))] gamOK hT mixed h (by kernel_rfl) ⟨hint_bool (h3), trivial⟩ fun a w h => then_normal ?_
    refine at_test true h (by kernel_rfl) (fun hh => ?_) (fun hh => nomatch hh)
    refine wp_seq ?_
    refine at_regq [] { ts := [0, 2, 3, 5, 6, 7, 8, 9, 10, 57, 58, 59, 60, 63, 64, 65, 66, 67, 70, 71, 72, 73, 74, 75, 76, 77, 78, 79, 80, 81, 82, 83], os := [1, 3, 4, 5, 6] } [] gamOK hT h (by kernel_rfl) trivial fun a w h => then_normal (wp_ret (then_ret (in_ret (then_ret (then_ret (in_ret (then_ret ?_)))))))
    exact at_return (false, ()) [] h (by kernel_rfl) trivial (congrArg (fun z => (z, ())) (show (false) = D_laws_FnSystematic x0 from by unfold D_laws_FnSystematic; (exfalso; first | contradiction | (simp_all [Sh.eqB_self]; done) | (simp_all [Sh.eqB_self]; omega) | omega)))
   ·have hzh3 : (sysP (drawC x0).1 (rcS (drawC x0).1 i) (atF x0 ((i : Nat) : Int))).2.2 = true := notF h3
    rcases Bool.eq_false_or_eq_true (!(consS (drawC x0).1 (sysP (drawC x0).1 (rcS (drawC x0).1 i) (atF x0 ((i : Nat) : Int))).2.1)) with h4 | h4
    ·have hzh4 : (consS (drawC x0).1 (sysP (drawC x0).1 (rcS (drawC x0).1 i) (atF x0 ((i : Nat) : Int))).2.1) = false := notT h4
     refine at_anyq [{}, { hint := some (aB false) }, {}, {}, {}, {}, { hint := some (aB true) }, {}, {}, {}, {}, {}, {}, {}, {}, {}, {}, {}, {}, {}, {}, {}, {}, {}, {}, {}, {}, {}, {}, {}, {}] { ts := [0, 2, 3, 5, 6, 7, 8, 9, 10, 57, 58, 59, 60, 63, 64, 65, 66, 67, 70, 71, 72, 73, 74, 75, 76, 77, 78, 79, 80, 81, 82, 83, 84], os := [1, 3, 4, 5, 6] } [(AV.p (.c (.v (.bool (!(sysP (drawC x0).1 (rcS (drawC x0).1 i) (atF x0 ((i : Nat) : Int))).2.2)))) = AV.p (.c (.v (.bool false)))), Q_spec_IsConsistent (drawC x0).1 (sysP (drawC x0).1 (rcS (drawC x0).1 i) (atF x0 ((i : Nat) : Int))).2.1, (AV.p (.c (.v (.bool (!(consS (drawC x0).1 (sysP (drawC x0).1 (rcS (drawC x0).1 i) (atF x0 ((i : Nat) : Int))).2.1))))) = AV.p (.c (.v (.bool true))))] gamOK hT mixed h (by kernel_rfl) ⟨hint_bool (h3), (by exact ⟨hd3, l7⟩), hint_bool (h4), trivial⟩ fun a w h => then_normal ?_
     refine at_test true h (by kernel_rfl) (fun hh => ?_) (fun hh => nomatch hh)
     refine wp_seq ?_
     refine at_regq [] { ts := [0, 2, 3, 5, 6, 7, 8, 9, 10, 57, 58, 59, 60, 63, 64, 65, 66, 67, 70, 71, 72, 73, 74, 75, 76, 77, 78, 79, 80, 81, 82, 83], os := [1, 3, 4, 5, 6] } [] gamOK hT h (by kernel_rfl) trivial fun a w h => then_normal (wp_ret (then_ret (in_ret (then_ret (then_ret (in_ret (then_ret ?_)))))))
     exact at_return (false, ()) [] h (by kernel_rfl) trivial (congrArg (fun z => (z, ())) (show (false) = D_laws_FnSystematic x0 from by unfold D_laws_FnSystematic; (exfalso; first | contradiction | (simp_all [Sh.eqB_self]; done) | (simp_all [Sh.eqB_self]; omega) | omega)))
    ·have hzh4 : (consS (drawC x0).1 (sysP (drawC x0).1 (rcS (drawC x0).1 i) (atF x0 ((i : Nat) : Int))).2.1) = true := notF h4
     by_cases h5 : (sysP (drawC x0).1 (rcS (drawC x0).1 i) (atF x0 ((i : Nat) : Int))).1.2.2.2.2 = ((i : Nat) : Int) + 1
     ·by_cases h6 : ((i : Nat) : Int) < ((List.length (drawC x0).1.2 : Nat) : Int)
      ·refine at_anyq [{}, { hint := some (aB false) }, {}, {}, {}, {}, { hint := some (aB false) }, {}, {}, {}, {}, {}, { nw := true }, { hint := some (aB false) }, {}, {}, {}, {}, { hint := some (aB true) }, {}, {}, {}, {}, {}, {}, {}, {}, {}, {}, {}, {}] { ts := [0, 2, 3, 5, 6, 7, 8, 9, 10, 57, 58, 59, 60, 63, 64, 65, 66, 67, 70, 71, 72, 73, 74, 75, 76, 77, 78, 79, 80, 81, 82, 83, 84], os := [1, 3, 4, 5, 6] } [(AV.p (.c (.v (.bool (!(sysP (drawC x0).1 (rcS (drawC x0).1 i) (atF x0 ((i : Nat) : Int))).2.2)))) = AV.p (.c (.v (.bool false)))), Q_spec_IsConsistent (drawC x0).1 (sysP (drawC x0).1 (rcS (drawC x0).1 i) (atF x0 ((i : Nat) : Int))).2.1, (AV.p (.c (.v (.bool (!(consS (drawC x0).1 (sysP (drawC x0).1 (rcS (drawC x0).1 i) (atF x0 ((i : Nat) : Int))).2.1))))) = AV.p (.c (.v (.bool false)))), I64 (((i : Nat) : Int) + 1), (AV.p (.c (.v (.bool (!decide ((sysP (drawC x0).1 (rcS (drawC x0).1 i) (atF x0 ((i : Nat) : Int))).1.2.2.2.2 = ((i : Nat) : Int) + 1))))) = AV.p (.c (.v (.bool false)))), (AV.p (.c (.v (.bool (decide (((i : Nat) : Int) < ((List.length (drawC x0).1.2 : Nat) : Int)))))) = AV.p (.c (.v (.bool true)))), (0 : Int) ≤ ((i : Nat) : Int) ∧ ((i : Nat) : Int) < ((List.length (drawC x0).1.2 : Nat) : Int), True] gamOK hT mixed h (by kernel_rfl) ⟨hint_bool (h3), (by exact ⟨hd3, l7⟩), hint_bool (h4), ⟨by first | omega | (simp only [lsA]; omega) | (simp <;> omega), by first | omega | (simp only [lsA]; omega) | (simp <;> omega)⟩, hint_bool (ndT h5), hint_bool (decide_eq_true h6), (by refine ⟨?_, ?_⟩ <;> ((have hL0 := (show List.length (drawC x0).1.2 ≤ 1073741824 from (hd3.2).1); first | omega | (simp only [lsA]; omega) | (simp <;> omega)))), trivial, trivial⟩ fun a w h => then_normal ?_
       refine at_test (!((Sh.eqB s39) (sysP (drawC x0).1 (rcS (drawC x0).1 i) (atF x0 ((i : Nat) : Int))).2.1.2.2 ((drawC x0).1.2.getD i []))) h (by kernel_rfl) (fun h7 => ?_) (fun h7 => ?_)
       ·replace h7 : ((Sh.eqB s39) (sysP (drawC x0).1 (rcS (drawC x0).1 i) (atF x0 ((i : Nat) : Int))).2.1.2.2 ((drawC x0).1.2.getD i [])) = false := notT h7
        refine wp_seq ?_
        refine at_regq [] { ts := [0, 2, 3, 5, 6, 7, 8, 9, 10, 57, 58, 59, 60, 63, 64, 65, 66, 67, 70, 71, 72, 73, 74, 75, 76, 77, 78, 79, 80, 81, 82, 83], os := [1, 3, 4, 5, 6] } [] gamOK hT h (by kernel_rfl) trivial fun a w h => then_normal (wp_ret (then_ret (in_ret (then_ret (then_ret (in_ret (then_ret ?_)))))))
        exact at_return (false, ()) [] h (by kernel_rfl) trivial (congrArg (fun z => (z, ())) (show (false) = D_laws_FnSystematic x0 from by unfold D_laws_FnSystematic; (exfalso; first | contradiction | (simp_all [Sh.eqB_self]; done) | (simp_all [Sh.eqB_self]; omega) | omega)))
       ·replace h7 : ((Sh.eqB s39) (sysP (drawC x0).1 (rcS (drawC x0).1 i) (atF x0 ((i : Nat) : Int))).2.1.2.2 ((drawC x0).1.2.getD i [])) = true := notF h7
        refine wp_skip (then_normal (wp_seq ?_))
        refine at_regq [{}, {}, { frz := true }, {}, {}, {}, { ids := [7] }] { ts := [0, 2, 3, 5, 6, 7, 8, 9, 12, 13, 57, 58, 59, 60, 63, 64, 65, 66, 67, 70, 71, 72, 73, 74, 75, 76, 77, 78, 79, 80, 81, 82, 83], os := [1, 3, 4, 5, 6, 7] } [Q_impl_AddPacket (sysSt x0 (drawC x0).1 i) (sysP (drawC x0).1 (rcS (drawC x0).1 i) (atF x0 ((i : Nat) : Int))).2.1] gamOK hT h (by kernel_rfl) ⟨(by first | assumption | trivial | (first | omega | (simp only [lsA]; omega) | (simp <;> omega))), trivial⟩ fun a w h => then_normal (wp_seq (wp_seq ?_))
        refine at_regq [{}, {}, {}, { hint := some (aB true) }] { ts := [0, 2, 3, 5, 6, 7, 8, 9, 12, 57, 58, 59, 60, 63, 64, 65, 66, 67, 70, 71, 72, 73, 74, 75, 76, 77, 78, 79, 80, 81, 82, 83, 95], os := [1, 3, 4, 5, 6, 7] } [(AV.p (.c (.v (.bool (decide (((i : Nat) : Int) < ((List.length (drawC x0).1.2 : Nat) : Int)))))) = AV.p (.c (.v (.bool true))))] gamOK hT h (by kernel_rfl) ⟨hint_bool (decide_eq_true h6), trivial⟩ fun a w h => then_normal ?_
        refine at_test (!((addPk (sysSt x0 (drawC x0).1 i) (sysP (drawC x0).1 (rcS (drawC x0).1 i) (atF x0 ((i : Nat) : Int))).2.1).2 == true)) h (by kernel_rfl) (fun h8 => ?_) (fun h8 => ?_)
        ·replace h8 : ((addPk (sysSt x0 (drawC x0).1 i) (sysP (drawC x0).1 (rcS (drawC x0).1 i) (atF x0 ((i : Nat) : Int))).2.1).2 == true) = false := notT h8
         refine wp_seq ?_
         refine at_regq [] { ts := [0, 2, 3, 5, 6, 7, 8, 9, 12, 57, 58, 59, 60, 63, 64, 65, 66, 67, 70, 71, 72, 73, 74, 75, 76, 77, 78, 79, 80, 81, 82, 83], os := [1, 3, 4, 5, 6, 7] } [] gamOK hT h (by kernel_rfl) trivial fun a w h => then_normal (wp_ret (then_ret (in_ret (then_ret (then_ret (in_ret (then_ret ?_)))))))
         exact at_return (false, ()) [] h (by kernel_rfl) trivial (congrArg (fun z => (z, ())) (show (false) = D_laws_FnSystematic x0 from by unfold D_laws_FnSystematic; (exfalso; first | contradiction | (simp_all [Sh.eqB_self]; done) | (simp_all [Sh.eqB_self]; omega) | omega)))
        ·replace h8 : ((addPk (sysSt x0 (drawC x0).1 i) (sysP (drawC x0).1 (rcS (drawC x0).1 i) (atF x0 ((i : Nat) : Int))).2.1).2 == true) = true := notF h8
         refine wp_skip (then_normal (wp_seq ?_))
         refine at_regq [] { ts := [0, 2, 3, 5, 6, 7, 8, 12, 57, 58, 59, 60, 63, 64, 65, 66, 67, 70, 71, 72, 73, 74, 75, 76, 77, 78, 79, 80, 81, 82, 83], os := [1, 3, 4, 5, 6, 7] } [] gamOK hT h (by kernel_rfl) trivial fun a w h => then_normal ?_
         refine at_regq [] { ts := [0, 2, 3, 5, 6, 7, 8, 57, 58, 59, 60, 63, 64, 65, 66, 67, 70, 71, 72, 73, 74, 75, 76, 77, 78, 79, 80, 81, 82, 83], os := [1, 3, 4, 5, 6] } [] gamOK hT h (by kernel_rfl) trivial fun a w h => in_normal (then_normal ?_)
         refine at_regq [{}, { nw := true }] { ts := [0, 2, 3, 5, 6, 7, 8, 57, 58, 59, 60, 63, 64, 65, 66, 67, 70, 71, 72, 73, 74, 75, 76, 77, 78, 79, 80, 81, 82, 83], os := [1, 3, 4, 5, 6] } [I64 (((i : Nat) : Int) + 1)] gamOK hT h (by kernel_rfl) ⟨⟨by first | omega | (simp only [lsA]; omega) | (simp <;> omega), by first | omega | (simp only [lsA]; omega) | (simp <;> omega)⟩, trivial⟩ fun a w h => ?_
         replace h := at_out (σ' := ⟨[(0, aF (.u8 5) x0), (2, aB false), (3, aP 1 0), (5, aI ((List.length (drawC x0).1.2 : Nat) : Int)), (6, aP 3 0), (7, aP 4 0), (8, aI (((i : Nat) : Int) + 1))], [(1, oX 26 [cI (drawC x0).1.1, .ro s39 (drawC x0).1.2]), (3, oX 35 [cI (sysP (drawC x0).1 (rcS (drawC x0).1 i) (atF x0 ((i : Nat) : Int))).1.1, cI (sysP (drawC x0).1 (rcS (drawC x0).1 i) (atF x0 ((i : Nat) : Int))).1.2.1, cI (sysP (drawC x0).1 (rcS (drawC x0).1 i) (atF x0 ((i : Nat) : Int))).1.2.2.1, .ro s41 (sysP (drawC x0).1 (rcS (drawC x0).1 i) (atF x0 ((i : Nat) : Int))).1.2.2.2.1, cI (sysP (drawC x0).1 (rcS (drawC x0).1 i) (atF x0 ((i : Nat) : Int))).1.2.2.2.2]), (4, oX 30 [cI (addPk (sysSt x0 (drawC x0).1 i) (sysP (drawC x0).1 (rcS (drawC x0).1 i) (atF x0 ((i : Nat) : Int))).2.1).1.1, cI (addPk (sysSt x0 (drawC x0).1 i) (sysP (drawC x0).1 (rcS (drawC x0).1 i) (atF x0 ((i : Nat) : Int))).2.1).1.2.1, cI (addPk (sysSt x0 (drawC x0).1 i) (sysP (drawC x0).1 (rcS (drawC x0).1 i) (atF x0 ((i : Nat) : Int))).2.1).1.2.2.1, cI (addPk (sysSt x0 (drawC x0).1 i) (sysP (drawC x0).1 (rcS (drawC x0).1 i) (atF x0 ((i : Nat) : Int))).2.1).1.2.2.2.1, .ro s39 (addPk (sysSt x0 (drawC x0).1 i) (sysP (drawC x0).1 (rcS (drawC x0).1 i) (atF x0 ((i : Nat) : Int))).2.1).1.2.2.2.2])]⟩) { ts := [0, 2, 3, 5, 6, 7, 8], os := [1, 3, 4] } h (by kernel_rfl)
         exact ⟨i + 1, at_eq h (st_congr11 (fun (d0 : Int) (d1 : Int) (d2 : Int) (d3 : Int) (d4 : List (List Int)) (d5 : Int) (d6 : Int) (d7 : Int) (d8 : List T41) (d9 : Int) (d10 : Int) => (⟨[(0, aF (.u8 5) x0), (2, aB false), (3, aP 1 0), (5, aI ((List.length (drawC x0).1.2 : Nat) : Int)), (6, aP 3 0), (7, aP 4 0), (8, aI d10)], [(1, oX 26 [cI (drawC x0).1.1, .ro s39 (drawC x0).1.2]), (3, oX 35 [cI d5, cI d6, cI d7, .ro s41 d8, cI d9]), (4, oX 30 [cI d0, cI d1, cI d2, cI d3, .ro s39 d4])]⟩ : St)) (show ((addPk (sysSt x0 (drawC x0).1 i) (sysP (drawC x0).1 (rcS (drawC x0).1 i) (atF x0 ((i : Nat) : Int))).2.1).1.1 : Int) = (sysSt x0 (drawC x0).1 (i + 1)).1 from by first | with_reducible rfl | (rfl) | rfl) (show ((addPk (sysSt x0 (drawC x0).1 i) (sysP (drawC x0).1 (rcS (drawC x0).1 i) (atF x0 ((i : Nat) : Int))).2.1).1.2.1 : Int) = (sysSt x0 (drawC x0).1 (i + 1)).2.1 from by first | with_reducible rfl | (rfl) | rfl) (show ((addPk (sysSt x0 (drawC x0).1 i) (sysP (drawC x0).1 (rcS (drawC x0).1 i) (atF x0 ((i : Nat) : Int))).2.1).1.2.2.1 : Int) = (sysSt x0 (drawC x0).1 (i + 1)).2.2.1 from by first | with_reducible rfl | (rfl) | rfl) (show ((addPk (sysSt x0 (drawC x0).1 i) (sysP (drawC x0).1 (rcS (drawC x0).1 i) (atF x0 ((i : Nat) : Int))).2.1).1.2.2.2.1 : Int) = (sysSt x0 (drawC x0).1 (i + 1)).2.2.2.1 from by first | with_reducible rfl | (rfl) | rfl) (show ((addPk (sysSt x0 (drawC x0).1 i) (sysP (drawC x0).1 (rcS (drawC x0).1 i) (atF x0 ((i : Nat) : Int))).2.1).1.2.2.2.2 : List (List Int)) = (sysSt x0 (drawC x0).1 (i + 1)).2.2.2.2 from by first | with_reducible rfl | (rfl) | rfl) (show ((sysP (drawC x0).1 (rcS (drawC x0).1 i) (atF x0 ((i : Nat) : Int))).1.1 : Int) = (rcS (drawC x0).1 (i + 1)).1 from by first | with_reducible rfl | ((rw [l3])) | rfl) (show ((sysP (drawC x0).1 (rcS (drawC x0).1 i) (atF x0 ((i : Nat) : Int))).1.2.1 : Int) = (rcS (drawC x0).1 (i + 1)).2.1 from by first | with_reducible rfl | ((rw [l3])) | rfl) (show ((sysP (drawC x0).1 (rcS (drawC x0).1 i) (atF x0 ((i : Nat) : Int))).1.2.2.1 : Int) = (rcS (drawC x0).1 (i + 1)).2.2.1 from by first | with_reducible rfl | ((rw [l3])) | rfl) (show ((sysP (drawC x0).1 (rcS (drawC x0).1 i) (atF x0 ((i : Nat) : Int))).1.2.2.2.1 : List T41) = (rcS (drawC x0).1 (i + 1)).2.2.2.1 from by first | with_reducible rfl | ((rw [l3])) | rfl) (show ((sysP (drawC x0).1 (rcS (drawC x0).1 i) (atF x0 ((i : Nat) : Int))).1.2.2.2.2 : Int) = (rcS (drawC x0).1 (i + 1)).2.2.2.2 from by first | with_reducible rfl | ((rw [l3])) | rfl) (show (((i : Nat) : Int) + 1 : Int) = (((i + 1) : Nat) : Int) from by first | with_reducible rfl | (omega) | rfl)), (by omega), (by omega)⟩
      ·refine at_anyq [{}, { hint := some (aB false) }, {}, {}, {}, {}, { hint := some (aB false) }, {}, {}, {}, {}, {}, { nw := true }, { hint := some (aB false) }, {}, {}, {}, {}, { hint := some (aB false) }, {}, {}, {}, {}, {}, {}, {}, {}, {}, {}, {}, {}] { ts := [0, 2, 3, 5, 6, 7, 8, 9, 10, 57, 58, 59, 60, 63, 64, 65, 66, 67, 70, 71, 72, 73, 74, 75, 76, 77, 78, 79, 80, 81, 82, 83, 84], os := [1, 3, 4, 5, 6] } [(AV.p (.c (.v (.bool (!(sysP (drawC x0).1 (rcS (drawC x0).1 i) (atF x0 ((i : Nat) : Int))).2.2)))) = AV.p (.c (.v (.bool false)))), Q_spec_IsConsistent (drawC x0).1 (sysP (drawC x0).1 (rcS (drawC x0).1 i) (atF x0 ((i : Nat) : Int))).2.1, (AV.p (.c (.v (.bool (!(consS (drawC x0).1 (sysP (drawC x0).1 (rcS (drawC x0).1 i) (atF x0 ((i : Nat) : Int))).2.1))))) = AV.p (.c (.v (.bool false)))), I64 (((i : Nat) : Int) + 1), (AV.p (.c (.v (.bool (!decide ((sysP (drawC x0).1 (rcS (drawC x0).1 i) (atF x0 ((i : Nat) : Int))).1.2.2.2.2 = ((i : Nat) : Int) + 1))))) = AV.p (.c (.v (.bool false)))), (AV.p (.c (.v (.bool (decide (((i : Nat) : Int) < ((List.length (drawC x0).1.2 : Nat) : Int)))))) = AV.p (.c (.v (.bool false))))] gamOK hT mixed h (by kernel_rfl) ⟨hint_bool (h3), (by exact ⟨hd3, l7⟩), hint_bool (h4), ⟨by first | omega | (simp only [lsA]; omega) | (simp <;> omega), by first | omega | (simp only [lsA]; omega) | (simp <;> omega)⟩, hint_bool (ndT h5), hint_bool (decide_eq_false h6), trivial⟩ fun a w h => then_normal ?_
       refine at_test false h (by kernel_rfl) (fun hh => nomatch hh) (fun hh => ?_)
       refine wp_skip (then_normal (wp_seq ?_))
       refine at_regq [{}, {}, { frz := true }, {}, {}, {}, { ids := [7] }] { ts := [0, 2, 3, 5, 6, 7, 8, 9, 12, 13, 57, 58, 59, 60, 63, 64, 65, 66, 67, 70, 71, 72, 73, 74, 75, 76, 77, 78, 79, 80, 81, 82, 83], os := [1, 3, 4, 5, 7] } [Q_impl_AddPacket (sysSt x0 (drawC x0).1 i) (sysP (drawC x0).1 (rcS (drawC x0).1 i) (atF x0 ((i : Nat) : Int))).2.1] gamOK hT h (by kernel_rfl) ⟨(by first | assumption | trivial | (first | omega | (simp only [lsA]; omega) | (simp <;> omega))), trivial⟩ fun a w h => then_normal (wp_seq (wp_seq ?_))
       refine at_regq [{}, {}, {}, { hint := some (aB false) }] { ts := [0, 2, 3, 5, 6, 7, 8, 9, 12, 57, 58, 59, 60, 63, 64, 65, 66, 67, 70, 71, 72, 73, 74, 75, 76, 77, 78, 79, 80, 81, 82, 83, 95], os := [1, 3, 4, 5, 7] } [(AV.p (.c (.v (.bool (decide (((i : Nat) : Int) < ((List.length (drawC x0).1.2 : Nat) : Int)))))) = AV.p (.c (.v (.bool false))))] gamOK hT h (by kernel_rfl) ⟨hint_bool (decide_eq_false h6), trivial⟩ fun a w h => then_normal ?_
       refine at_test (!((addPk (sysSt x0 (drawC x0).1 i) (sysP (drawC x0).1 (rcS (drawC x0).1 i) (atF x0 ((i : Nat) : Int))).2.1).2 == false)) h (by kernel_rfl) (fun h9 => ?_) (fun h9 => ?_)
       ·replace h9 : ((addPk (sysSt x0 (drawC x0).1 i) (sysP (drawC x0).1 (rcS (drawC x0).1 i) (atF x0 ((i : Nat) : Int))).2.1).2 == false) = false := notT h9
        refine wp_seq ?_
        refine at_regq [] { ts := [0, 2, 3, 5, 6, 7, 8, 9, 12, 57, 58, 59, 60, 63, 64, 65, 66, 67, 70, 71, 72, 73, 74, 75, 76, 77, 78, 79, 80, 81, 82, 83], os := [1, 3, 4, 5, 7] } [] gamOK hT h (by kernel_rfl) trivial fun a w h => then_normal (wp_ret (then_ret (in_ret (then_ret (then_ret (in_ret (then_ret ?_)))))))
        exact at_return (false, ()) [] h (by kernel_rfl) trivial (congrArg (fun z => (z, ())) (show (false) = D_laws_FnSystematic x0 from by unfold D_laws_FnSystematic; (exfalso; first | contradiction | (simp_all [Sh.eqB_self]; done) | (simp_all [Sh.eqB_self]; omega) | omega)))
       ·replace h9 : ((addPk (sysSt x0 (drawC x0).1 i) (sysP (drawC x0).1 (rcS (drawC x0).1 i) (atF x0 ((i : Nat) : Int))).2.1).2 == false) = true := notF h9
        refine wp_skip (then_normal (wp_seq ?_))
        refine at_regq [] { ts := [0, 2, 3, 5, 6, 7, 8, 12, 57, 58, 59, 60, 63, 64, 65, 66, 67, 70, 71, 72, 73, 74, 75, 76, 77, 78, 79, 80, 81, 82, 83], os := [1, 3, 4, 5, 7] } [] gamOK hT h (by kernel_rfl) trivial fun a w h => then_normal ?_
        refine at_regq [] { ts := [0, 2, 3, 5, 6, 7, 8, 57, 58, 59, 60, 63, 64, 65, 66, 67, 70, 71, 72, 73, 74, 75, 76, 77, 78, 79, 80, 81, 82, 83], os := [1, 3, 4, 5] } [] gamOK hT h (by kernel_rfl) trivial fun a w h => in_normal (then_normal ?_)
        refine at_regq [{}, { nw := true }] { ts := [0, 2, 3, 5, 6, 7, 8, 57, 58, 59, 60, 63, 64, 65, 66, 67, 70, 71, 72, 73, 74, 75, 76, 77, 78, 79, 80, 81, 82, 83], os := [1, 3, 4, 5] } [I64 (((i : Nat) : Int) + 1)] gamOK hT h (by kernel_rfl) ⟨⟨by first | omega | (simp only [lsA]; omega) | (simp <;> omega), by first | omega | (simp only [lsA]; omega) | (simp <;> omega)⟩, trivial⟩ fun a w h => ?_
        replace h := at_out (σ' := ⟨[(0, aF (.u8 5) x0), (2, aB false), (3, aP 1 0), (5, aI ((List.length (drawC x0).1.2 : Nat) : Int)), (6, aP 3 0), (7, aP 4 0), (8, aI (((i : Nat) : Int) + 1))], [(1, oX 26 [cI (drawC x0).1.1, .ro s39 (drawC x0).1.2]), (3, oX 35 [cI (sysP (drawC x0).1 (rcS (drawC x0).1 i) (atF x0 ((i : Nat) : Int))).1.1, cI (sysP (drawC x0).1 (rcS (drawC x0).1 i) (atF x0 ((i : Nat) : Int))).1.2.1, cI (sysP (drawC x0).1 (rcS (drawC x0).1 i) (atF x0 ((i : Nat) : Int))).1.2.2.1, .ro s41 (sysP (drawC x0).1 (rcS (drawC x0).1 i) (atF x0 ((i : Nat) : Int))).1.2.2.2.1, cI (sysP (drawC x0).1 (rcS (drawC x0).1 i) (atF x0 ((i : Nat) : Int))).1.2.2.2.2]), (4, oX 30 [cI (addPk (sysSt x0 (drawC x0).1 i) (sysP (drawC x0).1 (rcS (drawC x0).1 i) (atF x0 ((i : Nat) : Int))).2.1).1.1, cI (addPk (sysSt x0 (drawC x0).1 i) (sysP (drawC x0).1 (rcS (drawC x0).1 i) (atF x0 ((i : Nat) : Int))).2.1).1.2.1, cI (addPk (sysSt x0 (drawC x0).1 i) (sysP (drawC x0).1 (rcS (drawC x0).1 i) (atF x0 ((i : Nat) : Int))).2.1).1.2.2.1, cI (addPk (sysSt x0 (drawC x0).1 i) (sysP (drawC x0).1 (rcS (drawC x0).1 i) (atF x0 ((i : Nat) : Int))).2.1).1.2.2.2.1, .ro s39 (addPk (sysSt x0 (drawC x0).1 i) (sysP (drawC x0).1 (rcS (drawC x0).1 i) (atF x0 ((i : Nat) : Int))).2.1).1.2.2.2.2])]⟩) { ts := [0, 2, 3, 5, 6, 7, 8], os := [1, 3, 4] } h (by kernel_rfl)
        exact ⟨i + 1, at_eq h (st_congr11 (fun (d0 : Int) (d1 : Int) (d2 : Int) (d3 : Int) (d4 : List (List Int)) (d5 : Int) (d6 : Int) (d7 : Int) (d8 : List T41) (d9 : Int) (d10 : Int) => (⟨[(0, aF (.u8 5) x0), (2, aB false), (3, aP 1 0), (5, aI ((List.length (drawC x0).1.2 : Nat) : Int)), (6, aP 3 0), (7, aP 4 0), (8, aI d10)], [(1, oX 26 [cI (drawC x0).1.1, .ro s39 (drawC x0).1.2]), (3, oX 35 [cI d5, cI d6, cI d7, .ro s41 d8, cI d9]), (4, oX 30 [cI d0, cI d1, cI d2, cI d3, .ro s39 d4])]⟩ : St)) (show ((addPk (sysSt x0 (drawC x0).1 i) (sysP (drawC x0).1 (rcS (drawC x0).1 i) (atF x0 ((i : Nat) : Int))).2.1).1.1 : Int) = (sysSt x0 (drawC x0).1 (i + 1)).1 from by first | with_reducible rfl | (rfl) | rfl) (show ((addPk (sysSt x0 (drawC x0).1 i) (sysP (drawC x0).1 (rcS (drawC x0).1 i) (atF x0 ((i : Nat) : Int))).2.1).1.2.1 : Int) = (sysSt x0 (drawC x0).1 (i + 1)).2.1 from by first | with_reducible rfl | (rfl) | rfl) (show ((addPk (sysSt x0 (drawC x0).1 i) (sysP (drawC x0).1 (rcS (drawC x0).1 i) (atF x0 ((i : Nat) : Int))).2.1).1.2.2.1 : Int) = (sysSt x0 (drawC x0).1 (i + 1)).2.2.1 from by first | with_reducible rfl | (rfl) | rfl) (show ((addPk (sysSt x0 (drawC x0).1 i) (sysP (drawC x0).1 (rcS (drawC x0).1 i) (atF x0 ((i : Nat) : Int))).2.1).1.2.2.2.1 : Int) = (sysSt x0 (drawC x0).1 (i + 1)).2.2.2.1 from by first | with_reducible rfl | (rfl) | rfl) (show ((addPk (sysSt x0 (drawC x0).1 i) (sysP (drawC x0).1 (rcS (drawC x0).1 i) (atF x0 ((i : Nat) : Int))).2.1).1.2.2.2.2 : List (List Int)) = (sysSt x0 (drawC x0).1 (i + 1)).2.2.2.2 from by first | with_reducible rfl | (rfl) | rfl) (show ((sysP (drawC x0).1 (rcS (drawC x0).1 i) (atF x0 ((i : Nat) : Int))).1.1 : Int) = (rcS (drawC x0).1 (i + 1)).1 from by first | with_reducible rfl | ((rw [l3])) | rfl) (show ((sysP (drawC x0).1 (rcS (drawC x0).1 i) (atF x0 ((i : Nat) : Int))).1.2.1 : Int) = (rcS (drawC x0).1 (i + 1)).2.1 from by first | with_reducible rfl | ((rw [l3])) | rfl) (show ((sysP (drawC x0).1 (rcS (drawC x0).1 i) (atF x0 ((i : Nat) : Int))).1.2.2.1 : Int) = (rcS (drawC x0).1 (i + 1)).2.2.1 from by first | with_reducible rfl | ((rw [l3])) | rfl) (show ((sysP (drawC x0).1 (rcS (drawC x0).1 i) (atF x0 ((i : Nat) : Int))).1.2.2.2.1 : List T41) = (rcS (drawC x0).1 (i + 1)).2.2.2.1 from by first | with_reducible rfl | ((rw [l3])) | rfl) (show ((sysP (drawC x0).1 (rcS (drawC x0).1 i) (atF x0 ((i : Nat) : Int))).1.2.2.2.2 : Int) = (rcS (drawC x0).1 (i + 1)).2.2.2.2 from by first | with_reducible rfl | ((rw [l3])) | rfl) (show (((i : Nat) : Int) + 1 : Int) = (((i + 1) : Nat) : Int) from by first | with_reducible rfl | (omega) | rfl)), (by omega), (by omega)⟩
     ·refine at_anyq [{}, { hint := some (aB false) }, {}, {}, {}, {}, { hint := some (aB false) }, {}, {}, {}, {}, {}, { nw := true }, { hint := some (aB true) }, {}, {}, {}, {}, {}, {}, {}, {}, {}, {}, {}, {}, {}, {}, {}, {}, {}] { ts := [0, 2, 3, 5, 6, 7, 8, 9, 10, 57, 58, 59, 60, 63, 64, 65, 66, 67, 70, 71, 72, 73, 74, 75, 76, 77, 78, 79, 80, 81, 82, 83, 84], os := [1, 3, 4, 5, 6] } [(AV.p (.c (.v (.bool (!(sysP (drawC x0).1 (rcS (drawC x0).1 i) (atF x0 ((i : Nat) : Int))).2.2)))) = AV.p (.c (.v (.bool false)))), Q_spec_IsConsistent (drawC x0).1 (sysP (drawC x0).1 (rcS (drawC x0).1 i) (atF x0 ((i : Nat) : Int))).2.1, (AV.p (.c (.v (.bool (!(consS (drawC x0).1 (sysP (drawC x0).1 (rcS (drawC x0).1 i) (atF x0 ((i : Nat) : Int))).2.1))))) = AV.p (.c (.v (.bool false)))), I64 (((i : Nat) : Int) + 1), (AV.p (.c (.v (.bool (!decide ((sysP (drawC x0).1 (rcS (drawC x0).1 i) (atF x0 ((i : Nat) : Int))).1.2.2.2.2 = ((i : Nat) : Int) + 1))))) = AV.p (.c (.v (.bool true))))] gamOK hT mixed h (by kernel_rfl) ⟨hint_bool (h3), (by exact ⟨hd3, l7⟩), hint_bool (h4), ⟨by first | omega | (simp only [lsA]; omega) | (simp <;> omega), by first | omega | (simp only [lsA]; omega) | (simp <;> omega)⟩, hint_bool (ndF h5), trivial⟩ fun a w h => then_normal ?_
      refine at_test true h (by kernel_rfl) (fun hh => ?_) (fun hh => nomatch hh)
      refine wp_seq ?_
      refine at_regq [] { ts := [0, 2, 3, 5, 6, 7, 8, 9, 10, 57, 58, 59, 60, 63, 64, 65, 66, 67, 70, 71, 72, 73, 74, 75, 76, 77, 78, 79, 80, 81, 82, 83], os := [1, 3, 4, 5, 6] } [] gamOK hT h (by kernel_rfl) trivial fun a w h => then_normal (wp_ret (then_ret (in_ret (then_ret (then_ret (in_ret (then_ret ?_)))))))
      exact at_return (false, ()) [] h (by kernel_rfl) trivial (congrArg (fun z => (z, ())) (show (false) = D_laws_FnSystematic x0 from by unfold D_laws_FnSystematic; (exfalso; first | contradiction | (simp_all [Sh.eqB_self]; done) | (simp_all [Sh.eqB_self]; omega) | omega)))
  ·replace h2 : ¬ (((i : Nat) : Int) < ((List.length (drawC x0).1.2 : Nat) : Int) + 2) := of_decide_eq_false h2
   obtain ⟨e1, e2⟩ := law_sys_end (x := x0) (i := i) hd1 (by omega) (by omega)
   refine wp_exit (then_exit (then_exit (in_hit (then_normal (wp_seq ?_)))))
   refine at_regq [] { ts := [2], os := [] } [Q_impl_IsComplete (sysSt x0 (drawC x0).1 i)] gamOK hT h (by kernel_rfl) ⟨(by first | assumption | trivial | (first | omega | (simp only [lsA]; omega) | (simp <;> omega))), trivial⟩ fun a w h => then_normal (wp_ret ?_)
   exact at_return ((D_impl_IsComplete (sysSt x0 (drawC x0).1 i)), ()) [] h (by kernel_rfl) trivial (congrArg (fun z => (z, ())) (show ((D_impl_IsComplete (sysSt x0 (drawC x0).1 i))) = D_laws_FnSystematic x0 from by unfold D_laws_FnSystematic; first | exact e1 | (simp_all; done)))

theorem opn5 : OpensS Tryz.prog 5 (.u8 5) := opensS_u8 Tryz.underlying5
theorem co5 : Tryz.prog.cellsOf 5 = 1 := by kernel_rfl
theorem opn22 : OpensS Tryz.prog 22 s22 := opensS_slice (a := (.u8 5)) Tryz.underlying22 co5 opn5
namespace fnSystematic
open Go.ChangeShapes Go.WideShapes Go.ChangeAt Go.RowKit
theorem own : ownKnob Tryz.prog.godebug = none := by kernel_rfl
theorem laidOut : laidOutB Tryz.prog = true := fxLaid
set_option maxRecDepth 100000 in
theorem lifted (os : Os) (started : os.Started) (H : Type) (enc : TypeId × Value → H) :
    ReturnsInHanded {} Tryz.checked os 3 .any (Rows.fnSystematicSpec.pre6 enc Tryz.prog Tryz.f3 Rows.fnSystematicRow.domain false) (Rows.fnSystematicSpec.post enc Tryz.prog Tryz.f3 false true false false) := by
  refine returnsInHanded_of_change (C := Tryz.checked) own started (by kernel_rfl) Tryz.func3
    (ChangeSpec.witness6 (enc := enc) (C := Tryz.checked) false ⟨#[], #[.slice none 0 0], []⟩ 8 (by kernel_rfl) (by kernel_rfl) (by kernel_rfl) (by kernel_rfl)) ?_
  intro W base args ds gs before hval0 hW hcnd _
  have hval : ∀ (j : Nat) t v, Tryz.f3.params[j]? = some t → args[j]? = some v → Value.okWide Tryz.prog W .any base t v := hval0
  have hW' := hW
  obtain ⟨p, q, hA0, hV, rfl, hfz, hnd⟩ := hW
  have hA : DataW.TrodAll enc Tryz.prog W 0 (fun _ => true) true Tryz.f3.params.toList args.toList ds p := hA0
  rw [Tryz.params3] at hA hval
  obtain ⟨v0, vs0, d0, ds0, p0, q0, hargs, rfl, rfl, h0, r0⟩ := trodAll_cons hA
  obtain ⟨rfl, rfl, rfl⟩ := trodAll_nil r0
  obtain rfl : args = #[v0] := by cases args; simp_all
  obtain ⟨rfl, rfl⟩ := trodVars_none hV
  have k0 := h0
  have lt0 : ∀ x ∈ p0, x.block < W.heap.size := by obtain ⟨m, hm⟩ := k0; exact DataW.trod_lt m _ _ _ hm
  obtain ⟨ad0, len0, cap0, rfl⟩ := okWide_slice Tryz.underlying22 (hval 0 22 v0 rfl rfl)
  obtain ⟨x0, hx0, i0⟩ : ∃ x : (s22).D, (s22).rd W (fun b => b < W.heap.size) [.slice ad0 len0 cap0] x ∧ (s22).i64 x := by obtain ⟨fuel, hf⟩ := h0; exact opn22 hf
  clear hA0 hval0
  refine (calls_law S_laws_FnSystematic_ok (by kernel_rfl) W (fun b => b < W.heap.size) [.slice ad0 len0 cap0] (x0, ()) (fun _ h => h) ⟨argRd_sl hx0, trivial⟩ i0).mono fun e W' hr => ?_
  obtain ⟨he, bel⟩ := ret_bool hr
  subst he
  exact ⟨_, rfl, _, _, _, [], _, [], hW', trodAll_mk1 (shut_bool Tryz.underlying4 _), (trodAll_cons_mk (Below.trod laidOut (by kernel_rfl) (of_decide_eq_true (by kernel_rfl)) k0 bel lt0) trodAll_mk0), rfl, bel.frame _, fun h => by cases h⟩
theorem closed : joinedFacts Tryz.prog 3 Tryz.f3 (Rows.fnSystematicSpec) Rows.fnSystematicRow = true := by
  unfold joinedFacts
  exact (and2 (and2 (and2 (and2 (and2 (and2 (and2 (and2 (and2 (and2 (and2 (and2 (and2 (and2 (and2 (and2 (and2 (and2 (and2 (and2 (and2 (and2 (and2 (and2 (and2 (and2 (and2 (and2 (and2 (and2 (and2 (by kernel_rfl) fxLaid) fxMaps) (by kernel_rfl)) (by kernel_rfl)) (by kernel_rfl)) (by kernel_rfl)) (by kernel_rfl)) (by kernel_rfl)) (by kernel_rfl)) (by kernel_rfl)) (by kernel_rfl)) (by kernel_rfl)) (by kernel_rfl)) (by kernel_rfl)) (by kernel_rfl)) (by kernel_rfl)) (by kernel_rfl)) (by kernel_rfl)) (by kernel_rfl)) (by kernel_rfl)) (by kernel_rfl)) (by kernel_rfl)) (by kernel_rfl)) (by kernel_rfl)) fxEnter) (by rw [fxLifts]; kernel_rfl)) (by rw [fxMake]; kernel_rfl)) (by kernel_rfl)) (by kernel_rfl)) (by kernel_rfl)) (by kernel_rfl))
theorem over : Rows.fnSystematicRow.holds Tryz.pinned (OpenSpec.ofChange Rows.fnSystematicSpec) :=
  OpenClaim.holds_of_wide 3 Tryz.f3 rfl rfl rfl rfl rfl rfl rfl ⟨rfl, rfl, rfl, rfl, rfl⟩ rfl rfl rfl rfl rfl (by kernel_rfl) Tryz.func3 closed
    (of_decide_eq_true (by kernel_rfl)) (by unfold Func.isWrapper; first | (rw [if_pos (by decide +kernel)]; kernel_rfl) | (rw [if_neg (by decide +kernel)]; exact ⟨rfl, rfl⟩))
    (fun os started H enc _ => lifted os started H enc)
/-- the statement -/
theorem proved : Rows.FnSystematicSaid := over
end fnSystematic

end Go.Proofs.YtgeonngfipikeaaGreat

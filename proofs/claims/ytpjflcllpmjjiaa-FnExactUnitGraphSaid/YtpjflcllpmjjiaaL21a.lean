/- Contracts of the copy of a graph and of UnitGraph. -/
import Derived.Test.YtpjflcllpmjjiaaClone
import Derived.Test.YtpjflcllpmjjiaaTGraph
import Derived.Test.YtpjflcllpmjjiaaBox
namespace Go.Proofs.Ytpjflcllpmjjiaa
open Go.RowKit
set_option linter.unusedVariables false
set_option linter.unusedSimpArgs false
set_option maxHeartbeats 800000 in
theorem cloneGraph_c (w : World) (cs : List Value) (g : DGraph) (hv : rGraph.rd w w.heap.size cs g) (hz : szGraph g ≤ 1048576) :
    Calls Try.prog 44 #[.agg cs.toArray] w (Ret rGraph w g) := by
  obtain ⟨c0, rfl, i0, k0⟩ := rGraph_rd.1 hv
  obtain ⟨A, c, rfl, _, _⟩ := rd_slice k0
  have hl : g.Edges.length ≤ 1048576 := hz
  clear hv hz
  go_enter Try.func44, Try.ntmps44
  go_wp2_with fail
  refine wp_at fun T hT => ?_
  have bt : Below w.heap.size w T := by rw [hT]; exact ((Below.refl _ _).alloc (Nat.le_refl _) _).alloc (by simp) _
  have hsz : T.heap.size = w.heap.size + 2 := by rw [hT]; simp
  have E0 : ∀ y : Ext (w.heap.size + 1) T, y.val.cell? ⟨w.heap.size, 0, none⟩ = some (.int .i64 g.Size) := fun y => by rw [y.cell (by simp), hT]; simp [go_sem]
  have E1 : ∀ y : Ext (w.heap.size + 1) T, y.val.cell? ⟨w.heap.size, 1, none⟩ = some (.slice A g.Edges.length c) := fun y => by rw [y.cell (by simp), hT]; simp [go_sem]
  have bR : Box T (w.heap.size + 1) 45 [.int .i64 0, .slice none 0 0] := by rw [hT]; exact Box.new' (by simp)
  clear hT
  refine wp_region_seqD (w.heap.size + 1) [([0, 1, 2, 3], 4), ([5], 6)] [] (by kernel_rfl) (by kernel_rfl) (by intro _ _ d _ _ h; cases d <;> exact h) ?_
  intro D hD0
  have hD := Lib.hid hD0
  clear hD0
  simp only [wpSeg, pickOps, List.getD_cons_zero, List.getD_cons_succ]
  try simp only [Act.put, List.setIfInBounds_toArray, List.set_cons_zero, List.set_cons_succ]
  repeat (go_big_quiet_step (fail))
  refine wpQuiet_nil ?_
  go_wp2_with fail
  refine (cloneEdge_c _ _ g.Edges (rd_now k0 (Below.drawn bt hD.out)) (by omega)).mono ?_
  intro e w1 h1
  rw [hD.out] at h1
  obtain ⟨v1, F1, rfl, o1, b1⟩ := (Ret.undrew h1).slice_of
  obtain ⟨A1, c1, rfl, _, _⟩ := rd_slice o1.rd
  have bt1 := below_call bt b1
  have bR1 := bR.call b1
  have S0 := bR1.get 0 rfl
  have S1 := bR1.get 1 rfl
  have S2 := bR1.frozen
  have hs1 := b1.size
  have hq := o1.drop (B' := w.heap.size + 2) (by omega)
  have HQ := Lib.hid hsz
  clear hsz
  go_wp2_with fail
  refine ⟨fun _ => ⟨⟨w1, b1.mono (by have := HQ.out; omega)⟩, rfl⟩, ?_⟩
  try simp only [Act.put, List.setIfInBounds_toArray, List.set_cons_zero, List.set_cons_succ]
  repeat (go_big_quiet_step (fail))
  refine wpQuiet_nil ?_
  go_wp2_with fail
  refine ⟨(fun hh => (absurd_need hh (by kernel_rfl)).elim), ?_⟩
  try simp only [Act.put, List.setIfInBounds_toArray, List.set_cons_zero, List.set_cons_succ]
  repeat (go_big_quiet_step (fail))
  refine wpQuiet_nil ?_
  go_wp2_with fail
  refine bodyPost_ret (v := .agg #[.int .i64 g.Size, .slice A1 g.Edges.length c1]) (by simp [results, Try.results44, go_sem, S0, S1]) rfl ?_
  exact ⟨_, _, rfl, rGraph_own.2 ⟨_, _, rfl, rfl, i0, (hq.high (by repeat (first | exact High.refl _ _ | exact hi1 | exact hi2 | refine High.alloc ?_ _ | refine High.setCell ?_ (by first | omega | (simp; done) | (simp; omega)) _))).drop (by omega)⟩, (by repeat (first | exact Below.refl _ _ | exact bt | exact bt1 | exact bt2 | exact bt3 | exact bt4 | refine Below.alloc ?_ (by first | omega | (simp; done) | (simp; omega)) _ | refine Below.setCell ?_ (by first | omega | (simp; done) | (simp; omega)) _))⟩
end Go.Proofs.Ytpjflcllpmjjiaa

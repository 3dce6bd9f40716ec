/- Contracts of the laws' helpers on Graph. Printed by types.py. -/
import Derived.Test.YtpjflcllpmjjiaaInts
import Derived.Test.YtpjflcllpmjjiaaTEdge
namespace Go.Proofs.Ytpjflcllpmjjiaa
open Go.RowKit
set_option linter.unusedVariables false
set_option linter.unusedSimpArgs false
structure DGraph where
  Size : Int
  Edges : (List DEdge)
def rGraph : Rp DGraph := Rp.as 45 true (Rp.pair 0 rInt rEdgeS) (fun x => (x.Size, x.Edges))
theorem rGraph_rd {w : World} {B : Nat} {cs : List Value} {x : DGraph} : rGraph.rd w B cs x ↔ ∃ c0, cs = [.int .i64 x.Size, c0] ∧ I64 x.Size ∧ rEdgeS.rd w B [c0] x.Edges := by
  constructor
  · rintro ⟨l0, r0, rfl, ⟨rfl, i0⟩, k0⟩
    obtain ⟨c0, rfl⟩ := rd_one_cell (t := 43) k0
    exact ⟨c0, rfl, i0, k0⟩
  · rintro ⟨c0, rfl, i0, k0⟩
    exact ⟨_, _, rfl, ⟨rfl, i0⟩, k0⟩
theorem rGraph_ow {w : World} {cs : List Value} {x : DGraph} {F : List Nat} : rGraph.ow w cs x F ↔ ∃ c0 G0, cs = [.int .i64 x.Size, c0] ∧ F = ([] ++ G0) ∧ I64 x.Size ∧ rEdgeS.ow w [c0] x.Edges G0 := by
  constructor
  · rintro ⟨l0, r0, gl0, gr0, rfl, rfl, ⟨rfl, i0, rfl⟩, k0⟩
    obtain ⟨c0, rfl⟩ := ow_one_cell (t := 43) k0
    exact ⟨c0, _, rfl, rfl, i0, k0⟩
  · rintro ⟨c0, G0, rfl, rfl, i0, k0⟩
    exact ⟨_, _, _, _, rfl, rfl, ⟨rfl, i0, rfl⟩, k0⟩
theorem rGraph_own {B : Nat} {w : World} {cs : List Value} {x : DGraph} {F : List Nat} : Own rGraph B w cs x F ↔ ∃ c0 G0, cs = [.int .i64 x.Size, c0] ∧ F = ([] ++ G0) ∧ I64 x.Size ∧ Own rEdgeS B w [c0] x.Edges G0 := by
  constructor
  · rintro ⟨h, hn, hB⟩
    obtain ⟨c0, G0, rfl, rfl, i0, k0⟩ := rGraph_ow.1 h
    try simp only [List.nodup_append, List.mem_append, List.append_nil, List.nil_append, List.nodup_nil, List.not_mem_nil, or_false, false_or, ne_eq, true_and, and_true, false_imp_iff, implies_true] at hn hB
    exact ⟨c0, _, rfl, rfl, i0, ⟨k0, hn, hB⟩⟩
  · rintro ⟨c0, G0, rfl, rfl, i0, k0⟩
    refine ⟨rGraph_ow.2 ⟨c0, _, rfl, rfl, i0, k0.1⟩, ?_, ?_⟩
    · try simp only [List.nodup_append, List.mem_append, List.append_nil, List.nil_append, List.nodup_nil, List.not_mem_nil, or_false, false_or, ne_eq, true_and, and_true, false_imp_iff, implies_true]
      exact k0.2.1
    · try simp only [List.mem_append, List.append_nil, List.nil_append, List.not_mem_nil, or_false, false_or]
      intro b hb
      exact k0.2.2 b hb
def szGraph (x : DGraph) : Nat := szEdgeS x.Edges
def mkGraph : Mk DGraph := ⟨fun x k => ⟨Mk.int.f x.Size (k), (Mk.list mkEdge).f x.Edges (k + (Mk.int.n x.Size : Int))⟩, fun x => Mk.int.n x.Size + (Mk.list mkEdge).n x.Edges⟩
def mvGraph : Mk DGraph := ⟨fun x k => ⟨Mk.val.f x.Size (k), (Mk.list mkEdge).f x.Edges (k + (Mk.val.n x.Size : Int))⟩, fun x => Mk.val.n x.Size + (Mk.list mkEdge).n x.Edges⟩
theorem mkGraph_le (x : DGraph) : mkGraph.n x ≤ 1 + 8 * szGraph x := by
  have := cntEdgeS_le x.Edges
  simp only [mkGraph, Mk.int, Mk.val, szGraph]
  first | omega | (simp; done) | (simp; omega)
theorem mvGraph_le (x : DGraph) : mvGraph.n x ≤ 8 * szGraph x := by
  have := cntEdgeS_le x.Edges
  simp only [mvGraph, Mk.int, Mk.val, szGraph]
  first | omega | (simp; done) | (simp; omega)

theorem cells_Graph : Try.prog.cellsOf 41 = 2 := by kernel_rfl
theorem cells_Graph_Edges : Try.prog.cellsOf 39 = 1 := by kernel_rfl
theorem opensGraph : Opens Try.prog 41 rGraph := by
  intro H enc w base spare held fuel cs x h
  obtain ⟨xs, n, _, _, hl, hlen, hf⟩ := DataW.trod_struct Try.underlying41 h
  obtain ⟨a0, k0⟩ := opens_field (R := rInt) (i := 0) 0 1 hf hlen rfl rfl rfl cells_int opensInt
  obtain ⟨a1, k1⟩ := opens_field (R := rEdgeS) (i := 1) 1 1 hf hlen rfl rfl rfl cells_Graph_Edges opensEdgeS
  rw [cells_Graph] at hl
  exact ⟨⟨a0, a1⟩, rd_pair (t := 0) (off := 0) k0 (rd_last k1 (by omega))⟩
set_option maxHeartbeats 400000 in
theorem toGraph_c (w : World) (cs : List Value) (x : DGraph) (hv : rGraph.rd w w.heap.size cs x) (hz : szGraph x ≤ 1048576) : Calls Try.prog 24 #[.agg cs.toArray] w (Ret rGraph w x) := by
  obtain ⟨c0, rfl, i0, k0⟩ := rGraph_rd.1 hv
  clear hv
  unfold szGraph at hz
  go_enter Try.func24, Try.ntmps24
  go_wp2_with fail
  refine (toEdgeS_c _ _ _ (rd_now k0 (by repeat (first | exact Below.refl _ _ | exact bt | exact bt1 | exact bt2 | exact bt3 | exact bt4 | refine Below.alloc ?_ (by first | omega | (simp; done) | (simp; omega)) _ | refine Below.setCell ?_ (by first | omega | (simp; done) | (simp; omega)) _))) (by omega)).mono ?_
  intro e w1 h1
  obtain ⟨v1, H1, rfl, o1, b1⟩ := h1.slice_of
  obtain ⟨A1, cp1, rfl, _, _⟩ := rd_slice o1.rd
  clear h1
  have bt1 : Below w.heap.size w w1 := below_call (by repeat (first | exact Below.refl _ _ | exact bt | exact bt1 | exact bt2 | exact bt3 | exact bt4 | refine Below.alloc ?_ (by first | omega | (simp; done) | (simp; omega)) _ | refine Below.setCell ?_ (by first | omega | (simp; done) | (simp; omega)) _)) b1
  have q1 := o1.drop (B' := w.heap.size + 3) (by first | omega | (simp; done) | (simp; omega))
  have s1 : w.heap.size ≤ w1.heap.size := by have := b1.size; first | omega | (simp at this; omega)
  have s0 : w.heap.size + 2 < w1.heap.size := by have := b1.size; simp at this; omega
  obtain ⟨hc1, hf1⟩ := bcell b1
  go_wp2_with fail
  refine bodyPost_ret (v := .agg #[.int .i64 x.Size, .slice A1 x.Edges.length cp1]) (by simp [results, Try.results24, go_sem, hc1]) rfl ?_
  exact ⟨_, _, rfl, (Own.pair (tt := 0) w.heap.size (Own.int i0) ((q1.high (by repeat (first | exact High.refl _ _ | exact hi1 | exact hi2 | exact hi3 | exact hi4 | refine High.alloc ?_ _ | refine High.setCell ?_ (by first | omega | (simp; done) | (simp; omega)) _))).drop (B' := w.heap.size) (by omega)) (by simp) (Nat.le_refl _)), (by repeat (first | exact Below.refl _ _ | exact bt | exact bt1 | exact bt2 | exact bt3 | exact bt4 | refine Below.alloc ?_ (by first | omega | (simp; done) | (simp; omega)) _ | refine Below.setCell ?_ (by first | omega | (simp; done) | (simp; omega)) _))⟩
set_option maxHeartbeats 400000 in
theorem eqGraph_c (w : World) (cs ds : List Value) (x : DGraph) (hv : rGraph.rd w w.heap.size cs x) (hu : rGraph.rd w w.heap.size ds x) : Calls Try.prog 26 #[.agg cs.toArray, .agg ds.toArray] w fun e w' => e = .returned (.bool true) ∧ Below w.heap.size w w' := by
  obtain ⟨c0, rfl, i0, k0⟩ := rGraph_rd.1 hv
  obtain ⟨d0, rfl, _, m0⟩ := rGraph_rd.1 hu
  clear hv hu
  go_enter Try.func26, Try.ntmps26
  go_wp2_with fail
  refine (eqEdgeS_c _ _ _ _ (rd_now k0 (by repeat (first | exact Below.refl _ _ | exact bt | exact bt1 | exact bt2 | exact bt3 | exact bt4 | refine Below.alloc ?_ (by first | omega | (simp; done) | (simp; omega)) _ | refine Below.setCell ?_ (by first | omega | (simp; done) | (simp; omega)) _))) (rd_now m0 (by repeat (first | exact Below.refl _ _ | exact bt | exact bt1 | exact bt2 | exact bt3 | exact bt4 | refine Below.alloc ?_ (by first | omega | (simp; done) | (simp; omega)) _ | refine Below.setCell ?_ (by first | omega | (simp; done) | (simp; omega)) _)))).mono ?_
  rintro e w1 ⟨rfl, b1⟩
  have bt1 : Below w.heap.size w w1 := below_call (by repeat (first | exact Below.refl _ _ | exact bt | exact bt1 | exact bt2 | exact bt3 | exact bt4 | refine Below.alloc ?_ (by first | omega | (simp; done) | (simp; omega)) _ | refine Below.setCell ?_ (by first | omega | (simp; done) | (simp; omega)) _)) b1
  have s1 := b1.size
  simp at s1
  obtain ⟨hc1, hf1⟩ := bcell b1
  go_wp2_with fail
  go_ret
  exact ⟨rfl, (by repeat (first | exact Below.refl _ _ | exact bt | exact bt1 | exact bt2 | exact bt3 | exact bt4 | refine Below.alloc ?_ (by first | omega | (simp; done) | (simp; omega)) _ | refine Below.setCell ?_ (by first | omega | (simp; done) | (simp; omega)) _))⟩
set_option maxHeartbeats 800000 in
theorem szGraph_c (w : World) (cs : List Value) (x : DGraph) (left : Int) (hv : rGraph.rd w w.heap.size cs x) (h0 : 0 ≤ left) (h1 : left ≤ 1048576) : Calls Try.prog 22 #[.agg cs.toArray, .int .i64 left] w fun e w' => e = .returned (.int .i64 (lessBy left (szGraph x))) ∧ Below w.heap.size w w' := by
  obtain ⟨c0, rfl, i0, k0⟩ := rGraph_rd.1 hv
  clear hv
  by_cases a0 : (szEdgeS x.Edges : Int) ≤ left
  case neg =>
    go_enter Try.func22, Try.ntmps22
    go_wp2_with fail
    refine (szEdgeS_c _ _ _ _ (rd_now k0 (by repeat (first | exact Below.refl _ _ | exact bt | exact bt1 | exact bt2 | exact bt3 | exact bt4 | refine Below.alloc ?_ (by first | omega | (simp; done) | (simp; omega)) _ | refine Below.setCell ?_ (by first | omega | (simp; done) | (simp; omega)) _))) (by omega) (by omega)).mono ?_
    rintro e w1 ⟨rfl, b1⟩
    have bt1 : Below w.heap.size w w1 := below_call (by repeat (first | exact Below.refl _ _ | exact bt | exact bt1 | exact bt2 | exact bt3 | exact bt4 | refine Below.alloc ?_ (by first | omega | (simp; done) | (simp; omega)) _ | refine Below.setCell ?_ (by first | omega | (simp; done) | (simp; omega)) _)) b1
    obtain ⟨hc1, hf1⟩ := bcell b1
    have s1 := b1.size
    simp at s1
    rw [lessBy_no (by omega)]
    go_wp2_with fail
    go_ret
    unfold szGraph
    exact ⟨by rw [lessBy_no (by omega)]; rfl, (by repeat (first | exact Below.refl _ _ | exact bt | exact bt1 | exact bt2 | exact bt3 | exact bt4 | refine Below.alloc ?_ (by first | omega | (simp; done) | (simp; omega)) _ | refine Below.setCell ?_ (by first | omega | (simp; done) | (simp; omega)) _))⟩
  go_enter Try.func22, Try.ntmps22
  go_wp2_with fail
  refine (szEdgeS_c _ _ _ _ (rd_now k0 (by repeat (first | exact Below.refl _ _ | exact bt | exact bt1 | exact bt2 | exact bt3 | exact bt4 | refine Below.alloc ?_ (by first | omega | (simp; done) | (simp; omega)) _ | refine Below.setCell ?_ (by first | omega | (simp; done) | (simp; omega)) _))) (by omega) (by omega)).mono ?_
  rintro e w1 ⟨rfl, b1⟩
  have bt1 : Below w.heap.size w w1 := below_call (by repeat (first | exact Below.refl _ _ | exact bt | exact bt1 | exact bt2 | exact bt3 | exact bt4 | refine Below.alloc ?_ (by first | omega | (simp; done) | (simp; omega)) _ | refine Below.setCell ?_ (by first | omega | (simp; done) | (simp; omega)) _)) b1
  obtain ⟨hc1, hf1⟩ := bcell b1
  have s1 := b1.size
  simp at s1
  rw [lessBy_ok (by omega)]
  go_wp2_with fail
  go_ret
  unfold szGraph
  exact ⟨by rw [lessBy_ok (by omega)]; exact ret_int (by first | rfl | (simp; omega) | omega), (by repeat (first | exact Below.refl _ _ | exact bt | exact bt1 | exact bt2 | exact bt3 | exact bt4 | refine Below.alloc ?_ (by first | omega | (simp; done) | (simp; omega)) _ | refine Below.setCell ?_ (by first | omega | (simp; done) | (simp; omega)) _))⟩
set_option maxHeartbeats 800000 in
theorem markGraph_c (w : World) (cs : List Value) (x : DGraph) (B : Nat) (F : List Nat) (m : Int) (ho : Own rGraph B w cs x F) (hn : mvGraph.n x ≤ 1152921504606846976) (hm0 : 0 ≤ m) (hm1 : m + mvGraph.n x ≤ 1152921504606846976) :
    Calls Try.prog 27 #[.agg cs.toArray, .int .i64 m] w fun e w' => e = .returned (.int .i64 (m + mvGraph.n x)) ∧ Own rGraph B w' cs (mvGraph.f x m) F ∧ SameBut F w w' := by
  obtain ⟨c0, G0, rfl, rfl, i0, o0⟩ := rGraph_own.1 ho
  clear ho
  have hsum : mvGraph.n x = (Mk.list mkEdge).n x.Edges := by simp [mvGraph, Mk.val]
  rw [hsum] at hn hm1
  have HS := Lib.hid hsum
  clear hsum
  go_enter Try.func27, Try.ntmps27
  have p0 := o0.alloc (.cells #[.int .i64 x.Size, c0] 45)
  have sb := (SameBut.refl (F) w).alloc (.cells #[.int .i64 x.Size, c0] 45)
  have l0 : ∀ b ∈ F, b < w.heap.size := o0.lt
  go_wp2_with fail
  refine (markEdgeS_c _ _ _ _ _ _ p0 (by omega) (by omega) (by omega)).mono ?_
  rintro e w1 ⟨rfl, p0, e1⟩
  have sb := sb.trans (e1.more (by intro b hb; simp [hb]))
  have hc1 : ∀ o, w1.cell? ⟨w.heap.size, o, none⟩ = (w.alloc (.cells #[.int .i64 x.Size, c0] 45)).cell? ⟨w.heap.size, o, none⟩ := fun o => (World.cell?_of_block (w := (w.alloc (.cells #[.int .i64 x.Size, c0] 45))) (e1.2.2.2.2 w.heap.size (by first | omega | (simp; done) | (simp; omega)) (fun hb => by have := l0 _ hb; omega)))
  have s1 := e1.size
  simp at s1
  go_wp2_with fail
  go_ret
  refine ⟨by rw [HS.out]; exact ret_int (by first | rfl | (simp; done) | (simp; omega) | omega), ?_, sb⟩
  refine rGraph_own.2 ⟨c0, F, rfl, rfl, i0, ?_⟩
  · simpa [mvGraph, Mk.val, Int.add_assoc] using p0
set_option maxHeartbeats 800000 in
theorem heldGraph_c (w : World) (cs : List Value) (x : DGraph) (m : Int) (hv : rGraph.rd w w.heap.size cs (mvGraph.f x m)) (hm0 : 0 ≤ m) (hm1 : m + mvGraph.n x ≤ 1152921504606846976) :
    Calls Try.prog 28 #[.agg cs.toArray, .int .i64 m] w fun e w' => e = .returned (.int .i64 (m + mvGraph.n x)) ∧ Below w.heap.size w w' := by
  obtain ⟨c0, rfl, i0, k0⟩ := rGraph_rd.1 hv
  clear hv
  have hsum : mvGraph.n x = (Mk.list mkEdge).n x.Edges := by simp [mvGraph, Mk.val]
  rw [hsum] at hm1
  have HS := Lib.hid hsum
  clear hsum
  have K0 : rEdgeS.rd w w.heap.size [c0] ((Mk.list mkEdge).f x.Edges (m)) := by simpa [mvGraph, Mk.val, Int.add_assoc] using k0
  simp only [mvGraph, Mk.val]
  clear k0
  go_enter Try.func28, Try.ntmps28
  go_wp2_with fail
  refine (heldEdgeS_c _ _ _ _ (rd_now K0 (by repeat (first | exact Below.refl _ _ | exact bt | exact bt1 | exact bt2 | exact bt3 | exact bt4 | refine Below.alloc ?_ (by first | omega | (simp; done) | (simp; omega)) _ | refine Below.setCell ?_ (by first | omega | (simp; done) | (simp; omega)) _))) (by omega) (by omega)).mono ?_
  rintro e w1 ⟨rfl, b1⟩
  have bt1 : Below w.heap.size w w1 := below_call (by repeat (first | exact Below.refl _ _ | exact bt | exact bt1 | exact bt2 | exact bt3 | exact bt4 | refine Below.alloc ?_ (by first | omega | (simp; done) | (simp; omega)) _ | refine Below.setCell ?_ (by first | omega | (simp; done) | (simp; omega)) _)) b1
  obtain ⟨hc1, hf1⟩ := bcell b1
  have s1 := b1.size
  simp at s1
  go_wp2_with fail
  go_ret
  exact ⟨ret_int (by first | rfl | (simp; done) | (simp; omega) | omega), (by repeat (first | exact Below.refl _ _ | exact bt | exact bt1 | exact bt2 | exact bt3 | exact bt4 | refine Below.alloc ?_ (by first | omega | (simp; done) | (simp; omega)) _ | refine Below.setCell ?_ (by first | omega | (simp; done) | (simp; omega)) _))⟩
end Go.Proofs.Ytpjflcllpmjjiaa

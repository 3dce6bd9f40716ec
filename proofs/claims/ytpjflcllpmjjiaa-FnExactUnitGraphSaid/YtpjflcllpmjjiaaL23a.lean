/- Contracts of UnitGraph. -/
import Derived.Test.YtpjflcllpmjjiaaL21a
namespace Go.Proofs.Ytpjflcllpmjjiaa
open Go.RowKit
set_option linter.unusedVariables false
set_option linter.unusedSimpArgs false
def unitEdge (e : DEdge) : DEdge := ⟨e.From, e.To, 1⟩
def dUnitGraph (g : DGraph) : DGraph := ⟨g.Size, g.Edges.map unitEdge⟩
theorem dUnitGraph_cnt (g : DGraph) (h : szGraph g ≤ 1048576) : mvGraph.n (dUnitGraph g) ≤ 1000000000000 := by
  have := mvGraph_le (dUnitGraph g)
  have e : szGraph (dUnitGraph g) = szGraph g := by simp [szGraph, szEdgeS, dUnitGraph]
  omega
set_option maxHeartbeats 1600000 in
theorem implUnitGraph_c (w : World) (cs : List Value) (g : DGraph) (hv : rGraph.rd w w.heap.size cs g) (hz : szGraph g ≤ 1048576) :
    Calls Try.prog 25 #[.agg cs.toArray] w (Ret rGraph w (dUnitGraph g)) := by
  have hv' := hv
  obtain ⟨c0, rfl, i0, k0⟩ := rGraph_rd.1 hv
  obtain ⟨A, c, rfl, _, _⟩ := rd_slice k0
  have hl : g.Edges.length ≤ 1048576 := hz
  clear hv
  go_enter Try.func25, Try.ntmps25
  go_wp2_with fail
  refine (cloneGraph_c _ _ g (rd_now hv' (by repeat (first | exact Below.refl _ _ | exact bt | exact bt1 | exact bt2 | exact bt3 | exact bt4 | refine Below.alloc ?_ (by first | omega | (simp; done) | (simp; omega)) _ | refine Below.setCell ?_ (by first | omega | (simp; done) | (simp; omega)) _))) hz).mono ?_
  intro e w1 h1
  obtain ⟨cs1, F, rfl, o1, b1⟩ := h1.agg_of rfl
  obtain ⟨v1, rfl, _, k1⟩ := rGraph_rd.1 o1.rd
  obtain ⟨A1, c1, rfl, _, _⟩ := rd_slice k1
  obtain ⟨_, _, e1, rfl, _, q1⟩ := rGraph_own.1 o1
  simp only [List.cons.injEq, true_and, and_true] at e1
  subst e1
  have bt1 : Below w.heap.size w w1 := below_call (by repeat (first | exact Below.refl _ _ | exact bt | exact bt1 | exact bt2 | exact bt3 | exact bt4 | refine Below.alloc ?_ (by first | omega | (simp; done) | (simp; omega)) _ | refine Below.setCell ?_ (by first | omega | (simp; done) | (simp; omega)) _)) b1
  have hs1 : w.heap.size + 2 ≤ w1.heap.size := by have := b1.size; simp at this; omega
  have q2 := q1.drop (B' := w.heap.size + 2) (by simp)
  have bR : Box w1 (w.heap.size + 1) 45 [.int .i64 0, .slice none 0 0] := (Box.new' (w := w.alloc _) (by simp)).call b1
  obtain ⟨hc1, hf1⟩ := bcell b1
  have lt1 := q1.lt
  clear h1 k1 o1 q1 hv' k0
  go_wp2_with fail
  refine wp_at fun T hT => ?_
  have hTs : w1.heap.size < T.heap.size := by rw [hT]; simp
  have bO : Box T w1.heap.size 45 [.int .i64 g.Size, .slice A1 g.Edges.length c1] := by rw [hT]; exact Box.new _ _ _
  have bR' : Box T (w.heap.size + 1) 45 [.int .i64 0, .slice none 0 0] := by rw [hT]; exact bR.alloc _
  have bT : Below w.heap.size w T := by rw [hT]; exact bt1.alloc (by omega) _
  have q3 : Own rEdgeS (w.heap.size + 2) T [.slice A1 g.Edges.length c1] g.Edges F := by rw [hT]; exact q2.alloc _
  have nO : w1.heap.size ∉ F := fun hf => by have := lt1 _ hf; omega
  have nR : w.heap.size + 1 ∉ F := own_not q3 (by omega)
  clear hT hc1 hf1 bt1 b1 q2 bR lt1
  go_loopw [10] (fun i wr => ∃ k : Nat, k ≤ g.Edges.length ∧ i = .int .i64 k ∧ Own rEdgeS (w.heap.size + 2) wr [.slice A1 g.Edges.length c1] (mapTo unitEdge g.Edges k) F ∧ SameBut F T wr) (fun i _ => g.Edges.length - (intOf i).toNat)
  case atStart => exact ⟨0, Nat.zero_le _, rfl, by rw [mapTo_zero]; exact q3, SameBut.refl _ _⟩
  case round =>
    obtain ⟨k, hk, rfl, ho, hsb⟩ := hrel
    have bo := bO.same hsb nO
    have x0 := bo.get 0 rfl
    have x1 := bo.get 1 rfl
    by_cases hlt : k < g.Edges.length
    · obtain ⟨gg, cap, hg, hgF⟩ := ho.row (by rw [mapTo_len _ _ hk]; omega)
      have hA : A1 = some ⟨gg, 0, none⟩ := by injection hg
      subst hA
      have hlt' : k < (mapTo unitEdge g.Edges k).length := by rw [mapTo_len _ _ hk]; exact hlt
      obtain ⟨cc, G, hole, E, hGF, _⟩ := Hole.start ho hlt'
      rw [mapTo_at _ _ hlt] at E
      have HM := Lib.hid (mapTo_set unitEdge g.Edges hlt)
      obtain ⟨rfl, rfl, j0, j1, j2⟩ := rEdge_own.1 E
      have t2 := hole.cell 2 _ rfl
      have tf := hole.frozen
      have h2 := hole.set 2 (.int .i64 1) (by simp)
      simp only [rEdge_size, Nat.add_zero] at t2
      clear hg ho
      go_wp2_with fail
      go_roundw
      case rel =>
        refine ⟨k + 1, by omega, by go_num, ?_, hsb.setCell hgF _⟩
        have := h2.done (y := unitEdge g.Edges[k]) (rEdge_own.2 ⟨rfl, rfl, j0, j1, (show I64 1 from ⟨by decide, by decide⟩)⟩)
        rw [HM.out] at this
        exact this
      case measure => simp [intOf]; omega
    · rw [mapTo_all _ _ hlt] at ho
      have br := bR'.same hsb nR
      have y0 := br.get 0 rfl
      have y1 := br.get 1 rfl
      have yf := br.frozen
      have hss := hsb.size
      go_wp2_with fail
      refine bodyPost_ret (v := .agg #[.int .i64 g.Size, .slice A1 g.Edges.length c1]) (by simp [results, Try.results25, go_sem, y0, y1]) rfl ?_
      have hb : Below w.heap.size w wr := bT.trans (hsb.below (by omega) (fun b hb => by have := q3.2.2 b hb; omega))
      have oo := (ho.high (w' := (wr.setCell ⟨w.heap.size + 1, 0, none⟩ (.int .i64 g.Size)).setCell ⟨w.heap.size + 1, 1, none⟩ (.slice A1 g.Edges.length c1)) (by repeat (first | exact High.refl _ _ | exact hi1 | exact hi2 | refine High.alloc ?_ _ | refine High.setCell ?_ (by first | omega | (simp; done) | (simp; omega)) _))).drop (B' := w.heap.size) (by omega)
      exact ⟨_, _, rfl, rGraph_own.2 ⟨_, _, by simp [dUnitGraph], rfl, i0, oo⟩, (hb.setCell (by simp) _).setCell (by simp) _⟩

set_option maxHeartbeats 1600000 in
theorem specUnitGraph_c (w : World) (cs : List Value) (g : DGraph) (hv : rGraph.rd w w.heap.size cs g) (hz : szGraph g ≤ 1048576) :
    Calls Try.prog 23 #[.agg cs.toArray] w (Ret rGraph w (dUnitGraph g)) := by
  obtain ⟨c0, rfl, i0, k0⟩ := rGraph_rd.1 hv
  obtain ⟨A, c, rfl, _, _⟩ := rd_slice k0
  have hl : g.Edges.length ≤ 1048576 := hz
  have HV := Lib.hid k0
  clear hv k0
  go_enter Try.func23, Try.ntmps23
  go_wp2_with fail
  refine wp_at fun T hT => ?_
  have hTs : T.heap.size = w.heap.size + 3 := by rw [hT]; simp
  have bP : Box T w.heap.size 45 [.int .i64 g.Size, .slice A g.Edges.length c] := by rw [hT]; exact ((Box.new _ _ _).alloc _).alloc _
  have bR : Box T (w.heap.size + 1) 45 [.int .i64 0, .slice none 0 0] := by rw [hT]; exact (Box.new' (by simp)).alloc _
  have bO : Box T (w.heap.size + 1 + 1) 45 [.int .i64 g.Size, .slice none 0 0] := by rw [hT]; exact Box.new' (by simp)
  have bT : Below w.heap.size w T := by rw [hT]; exact (((Below.refl _ _).alloc (Nat.le_refl _) _).alloc (by simp) _).alloc (by simp; omega) _
  clear hT
  go_loopw [4] (fun i wr => ∃ (k : Nat) (v : Value) (F : List Nat), k ≤ g.Edges.length ∧ i = .int .i64 k ∧ Box wr (w.heap.size + 1 + 1) 45 [.int .i64 g.Size, v] ∧ Own rEdgeS (w.heap.size + 3) wr [v] ((g.Edges.take k).map unitEdge) F ∧ Below (w.heap.size + 2) T wr) (fun i _ => g.Edges.length - (intOf i).toNat)
  case atStart => exact ⟨0, _, _, Nat.zero_le _, rfl, bO, Own.none_, Below.refl _ _⟩
  case round =>
    obtain ⟨k, v, F, hk, rfl, bo, ho, hb⟩ := hrel
    have bp := bP.below hb (by omega)
    have p1 := bp.get 1 rfl
    have br := bR.below hb (by omega)
    have hbw : Below w.heap.size w wr := bT.trans (hb.mono (by omega))
    have hws := hb.size
    obtain ⟨Av, cv, rfl, _, _⟩ := rd_slice ho.rd
    have hlk : ((g.Edges.take k).map unitEdge).length = k := by simp; omega
    rw [hlk] at bo ho
    by_cases hlt : k < g.Edges.length
    · obtain ⟨b, off, rfl, hbb, hr, m0, m1, m2⟩ := EdgeS_at HV.out hlt
      have HM := Lib.hid (map_take_succ unitEdge g.Edges hlt)
      obtain ⟨_, j0, j1, j2⟩ := rEdge_rd.1 hr
      obtain ⟨vs, hrow, hrds, hblk⟩ := ho.flat_row flatEdge
      rw [hlk] at hrow
      have P0 : ∀ y : Ext (w.heap.size + 3) wr, y.val.cell? ⟨w.heap.size, 0, none⟩ = some (.int .i64 g.Size) := fun y => (y.cell (by simp)).trans (bp.get 0 rfl)
      have P1 : ∀ y : Ext (w.heap.size + 3) wr, y.val.cell? ⟨w.heap.size, 1, none⟩ = some (.slice (some ⟨b, off, none⟩) g.Edges.length c) := fun y => (y.cell (by simp)).trans (bp.get 1 rfl)
      have P2 : ∀ y : Ext (w.heap.size + 3) wr, y.val.cell? ⟨w.heap.size + 1 + 1, 1, none⟩ = some (.slice Av k cv) := fun y => (y.cell (by simp)).trans (bo.get 1 rfl)
      have P3 := fun y : Ext (w.heap.size + 3) wr => ((y.cell (by simp; omega)).trans (hbw.cell hbb)).trans m0
      have P4 := fun y : Ext (w.heap.size + 3) wr => ((y.cell (by simp; omega)).trans (hbw.cell hbb)).trans m1
      have H0 := Lib.hid hTs
      have H1 := Lib.hid hlk
      have hk3 : w.heap.size + 3 ≤ wr.heap.size := by omega
      clear m0 m1 m2 hTs hlk
      go_wp2_with fail
      refine wp_region_seqD (w.heap.size + 3) [([0, 1, 2, 3, 4, 5, 6, 7, 8, 9, 10, 11, 12, 13, 14], 15), ([], 16), ([17], 18)] [] (by kernel_rfl) (by kernel_rfl) (by intro _ _ d _ _ h; cases d <;> exact h) ?_
      intro D hD0
      have hD := Lib.hid hD0
      clear hD0
      simp only [wpSeg, pickOps, List.getD_cons_zero, List.getD_cons_succ]
      try simp only [Act.put, List.setIfInBounds_toArray, List.set_cons_zero, List.set_cons_succ]
      repeat (go_big_quiet_step (fail))
      refine wpQuiet_nil ?_
      have hbD := Below.drawn hbw hD.out
      have hoD := row_drawn hrow hD.out
      have boD := bo.drawn hD.out
      have brD := br.drawn hD.out
      have hB3 : Below (w.heap.size + 3) wr D := Below.drawn (Below.refl _ _) hD.out
      have hDs : D.heap.size = wr.heap.size := by rw [hD.out]; rfl
      have HD := Lib.hid hDs
      clear hD hDs
      go_wp2_with fail
      refine ⟨fun _ => ⟨⟨_, hB3.alloc (by have := HD.out; omega) _⟩, rfl⟩, ?_⟩
      try simp only [Act.put, List.setIfInBounds_toArray, List.set_cons_zero, List.set_cons_succ]
      repeat (go_big_quiet_step (fail))
      refine wpQuiet_nil ?_
      go_wp2_with (at_builtin; refine wpList_push wr D elEdgeS rfl _ _ rfl (w.heap.size + 3) _ _ _ rfl (by exact hoD) [.int .i64 g.Edges[k].From, .int .i64 g.Edges[k].To, .int .i64 1] (by rfl) rfl (by simp [Value.oneCell']) (by omega) hB3 hk3 ?_; intro v1 w1 ho1 hb1 hsb1 hat1)
      obtain ⟨A1, c1, rfl⟩ := own_form ho1
      refine ⟨fun _ => ⟨⟨w1, hb1⟩, rfl⟩, ?_⟩
      have nO : w.heap.size + 1 + 1 ∉ Value.blk (.slice Av k cv) := fun hf => by have := ho.2.2 _ (hblk _ hf); omega
      have bo1 := boD.same hsb1 nO
      have z1 := bo1.get 1 rfl
      have zf := bo1.frozen
      have bo2 := bo1.set 1 (.slice A1 (k + 1) c1)
      have B2 := Lib.hid bo2
      clear bo2
      try simp only [Act.put, List.setIfInBounds_toArray, List.set_cons_zero, List.set_cons_succ]
      repeat (go_big_quiet_step (fail))
      refine wpQuiet_nil ?_
      go_wp2_with fail
      refine ⟨(fun hh => (absurd_need hh (by kernel_rfl)).elim), ?_⟩
      try simp only [Act.put, List.setIfInBounds_toArray, List.set_cons_zero, List.set_cons_succ]
      repeat (go_big_quiet_step (fail))
      refine wpQuiet_nil ?_
      go_wp2_with fail
      go_roundw
      case rel =>
        have hx : rEdge.rd w w.heap.size [.int .i64 g.Edges[k].From, .int .i64 g.Edges[k].To, .int .i64 1] (unitEdge g.Edges[k]) := rEdge_rd.2 ⟨rfl, j0, j1, (show I64 1 from ⟨by decide, by decide⟩)⟩
        have on := Own.pushed (t := 43) flatEdge ho1 (by rw [H1.out]) hrds hx
        rw [← HM.out] at on
        refine ⟨k + 1, _, _, by omega, by go_num, B2.out, (on.high (w' := w1.setCell ⟨w.heap.size + 1 + 1, 1, none⟩ (.slice A1 (k + 1) c1)) (by repeat (first | exact High.refl _ _ | exact hi1 | exact hi2 | refine High.alloc ?_ _ | refine High.setCell ?_ (by first | omega | (simp; done) | (simp; omega)) _))), ?_⟩
        exact (hb.trans (hb1.mono (by omega))).setCell (by simp) _
      case measure => simp [intOf]; omega
    · rw [List.take_of_length_le (by omega)] at ho
      have hkk : k = g.Edges.length := by omega
      subst hkk
      have y0 := br.get 0 rfl
      have y1 := br.get 1 rfl
      have yf := br.frozen
      have z0 := bo.get 0 rfl
      have z1 := bo.get 1 rfl
      clear hlk
      go_wp2_with fail
      refine bodyPost_ret (v := .agg #[.int .i64 g.Size, .slice Av g.Edges.length cv]) (by simp [results, Try.results23, go_sem, y0, y1]) rfl ?_
      have oo := (ho.high (w' := (wr.setCell ⟨w.heap.size + 1, 0, none⟩ (.int .i64 g.Size)).setCell ⟨w.heap.size + 1, 1, none⟩ (.slice Av g.Edges.length cv)) (by repeat (first | exact High.refl _ _ | exact hi1 | exact hi2 | refine High.alloc ?_ _ | refine High.setCell ?_ (by first | omega | (simp; done) | (simp; omega)) _))).drop (B' := w.heap.size) (by omega)
      exact ⟨_, _, rfl, rGraph_own.2 ⟨_, _, by simp [dUnitGraph], rfl, i0, oo⟩, (hbw.setCell (by simp) _).setCell (by simp) _⟩
end Go.Proofs.Ytpjflcllpmjjiaa

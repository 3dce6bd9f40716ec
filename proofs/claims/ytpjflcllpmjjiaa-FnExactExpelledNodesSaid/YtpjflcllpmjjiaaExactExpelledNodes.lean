/- Proved: FnExactExpelledNodes returns true for every input, and its arguments read afterwards as before. No condition. -/
import Derived.Test.YtpjflcllpmjjiaaL29d
import Derived.Test.YtpjflcllpmjjiaaLawKit
namespace Go.Proofs.Ytpjflcllpmjjiaa
open Go.RowKit
set_option linter.unusedVariables false
set_option linter.unusedSimpArgs false

set_option maxHeartbeats 4000000 in
set_option maxRecDepth 100000 in
theorem fnExactExpelledNodes_walk (w : World) (pL_cs : List Value) (pL : DLedger) (pL_h : rLedger.rd w w.heap.size pL_cs pL) : Calls Try.prog 7 #[.agg pL_cs.toArray] w fun e w' => e = .returned (.bool true) ∧ Below w.heap.size w w' := by
  have pL_g := pL_h
  obtain ⟨pL_v0, rfl, pL_k0⟩ := rLedger_rd.1 pL_g
  obtain ⟨pL_A0, pL_c0, rfl, _, _⟩ := rd_slice pL_k0
  clear pL_k0
  clear pL_g
  have bt : Below w.heap.size w w := Below.refl _ _
  by_cases a0 : (szLedger pL : Int) ≤ 1048576
  case neg =>
    go_enter Try.func7, Try.ntmps7
    go_wp2_with fail
    refine calls_at fun T1 hT => ?_
    have z1 : w.heap.size + 1 ≤ T1.heap.size := by rw [hT]; simp
    replace bt : Below w.heap.size w T1 := by rw [hT]; exact (bt.alloc (by first | omega | exact bt.size | (have := bt.size; simp; omega)) _)
    have pL_b_0 : T1.cell? ⟨w.heap.size, 0, none⟩ = some (.slice pL_A0 pL.Proofs.length pL_c0) := by rw [hT]; simp [go_sem]
    have pL_b_lt : w.heap.size < T1.heap.size := by rw [hT]; simp
    clear hT
    refine (szLedger_c _ _ pL _ (rd_now pL_h bt) (by omega) (by omega)).mono ?_
    rintro e w1 ⟨rfl, b1⟩
    rw [lessBy_no (by omega)]
    replace bt := below_call bt b1
    have s1 := b1.size
    replace pL_b_0 := (b1.cell (p := ⟨w.heap.size, 0, none⟩) pL_b_lt).trans pL_b_0
    replace pL_b_lt : w.heap.size < w1.heap.size := (by omega)
    go_wp2_with fail
    go_ret
    exact ⟨rfl, bt⟩
  go_enter Try.func7, Try.ntmps7
  go_wp2_with fail
  refine calls_at fun T1 hT => ?_
  have z1 : w.heap.size + 1 ≤ T1.heap.size := by rw [hT]; simp
  replace bt : Below w.heap.size w T1 := by rw [hT]; exact (bt.alloc (by first | omega | exact bt.size | (have := bt.size; simp; omega)) _)
  have pL_b_0 : T1.cell? ⟨w.heap.size, 0, none⟩ = some (.slice pL_A0 pL.Proofs.length pL_c0) := by rw [hT]; simp [go_sem]
  have pL_b_lt : w.heap.size < T1.heap.size := by rw [hT]; simp
  clear hT
  refine (szLedger_c _ _ pL _ (rd_now pL_h bt) (by omega) (by omega)).mono ?_
  rintro e w1 ⟨rfl, b1⟩
  rw [lessBy_ok (by omega)]
  replace bt := below_call bt b1
  have s1 := b1.size
  replace pL_b_0 := (b1.cell (p := ⟨w.heap.size, 0, none⟩) pL_b_lt).trans pL_b_0
  replace pL_b_lt : w.heap.size < w1.heap.size := (by omega)
  go_wp2_with fail
  refine calls_at fun T2 hT => ?_
  have z2 : w1.heap.size ≤ T2.heap.size := by rw [hT]; simp
  replace bt : Below w.heap.size w T2 := by rw [hT]; exact bt
  replace pL_b_0 : T2.cell? ⟨w.heap.size, 0, none⟩ = some (.slice pL_A0 pL.Proofs.length pL_c0) := by rw [hT]; first | exact pL_b_0 | simp [go_sem, pL_b_0, pL_b_lt]
  replace pL_b_lt : w.heap.size < T2.heap.size := (by omega)
  clear hT
  refine (toLedger_c _ _ pL (rd_now pL_h bt) (by omega)).mono ?_
  intro e w2 h2
  obtain ⟨t2_cs, t2_F, rfl, t2_o, b2⟩ := h2.agg_of rfl
  obtain ⟨t2_v0, rfl, t2_k0⟩ := rLedger_rd.1 t2_o.rd
  obtain ⟨t2_A0, t2_c0, rfl, _, _⟩ := rd_slice t2_k0
  clear t2_k0
  have t2_lt : ∀ b ∈ t2_F, b < w2.heap.size := t2_o.lt
  have t2_ge : ∀ b ∈ t2_F, T2.heap.size ≤ b := t2_o.2.2
  replace bt := below_call bt b2
  have s2 := b2.size
  replace pL_b_0 := (b2.cell (p := ⟨w.heap.size, 0, none⟩) pL_b_lt).trans pL_b_0
  replace pL_b_lt : w.heap.size < w2.heap.size := (by omega)
  go_wp2_with fail
  refine calls_at fun T3 hT => ?_
  have z3 : w2.heap.size ≤ T3.heap.size := by rw [hT]; simp
  replace bt : Below w.heap.size w T3 := by rw [hT]; exact bt
  replace t2_o := (show Own _ _ T3 _ _ _ by rw [hT]; exact t2_o)
  replace pL_b_0 : T3.cell? ⟨w.heap.size, 0, none⟩ = some (.slice pL_A0 pL.Proofs.length pL_c0) := by rw [hT]; first | exact pL_b_0 | simp [go_sem, pL_b_0, pL_b_lt]
  replace pL_b_lt : w.heap.size < T3.heap.size := (by omega)
  clear hT
  refine (specExpelledNodes_c _ _ pL t2_o.rd (by omega)).mono ?_
  intro e w3 h3
  obtain ⟨w0_v, w0_F, rfl, w0_o, b3⟩ := h3.slice_of
  have w0_lt : ∀ b ∈ w0_F, b < w3.heap.size := w0_o.lt
  have w0_ge : ∀ b ∈ w0_F, T3.heap.size ≤ b := w0_o.2.2
  replace bt := below_call bt b3
  have s3 := b3.size
  replace t2_o := t2_o.below b3
  replace pL_b_0 := (b3.cell (p := ⟨w.heap.size, 0, none⟩) pL_b_lt).trans pL_b_0
  replace pL_b_lt : w.heap.size < w3.heap.size := (by omega)
  go_wp2_with fail
  refine calls_at fun T4 hT => ?_
  have z4 : w3.heap.size ≤ T4.heap.size := by rw [hT]; simp
  replace bt : Below w.heap.size w T4 := by rw [hT]; exact bt
  replace t2_o := (show Own _ _ T4 _ _ _ by rw [hT]; exact t2_o)
  replace w0_o := (show Own _ _ T4 _ _ _ by rw [hT]; exact w0_o)
  replace pL_b_0 : T4.cell? ⟨w.heap.size, 0, none⟩ = some (.slice pL_A0 pL.Proofs.length pL_c0) := by rw [hT]; first | exact pL_b_0 | simp [go_sem, pL_b_0, pL_b_lt]
  replace pL_b_lt : w.heap.size < T4.heap.size := (by omega)
  clear hT
  refine (toLedger_c _ _ pL (rd_now pL_h bt) (by omega)).mono ?_
  intro e w4 h4
  obtain ⟨x0_cs, x0_F, rfl, x0_o, b4⟩ := h4.agg_of rfl
  obtain ⟨x0_v0, rfl, x0_k0⟩ := rLedger_rd.1 x0_o.rd
  obtain ⟨x0_A0, x0_c0, rfl, _, _⟩ := rd_slice x0_k0
  clear x0_k0
  have x0_lt : ∀ b ∈ x0_F, b < w4.heap.size := x0_o.lt
  have x0_ge : ∀ b ∈ x0_F, T4.heap.size ≤ b := x0_o.2.2
  replace bt := below_call bt b4
  have s4 := b4.size
  replace t2_o := t2_o.below b4
  replace w0_o := w0_o.below b4
  replace pL_b_0 := (b4.cell (p := ⟨w.heap.size, 0, none⟩) pL_b_lt).trans pL_b_0
  replace pL_b_lt : w.heap.size < w4.heap.size := (by omega)
  go_wp2_with fail
  refine calls_at fun T5 hT => ?_
  have z5 : w4.heap.size + 1 ≤ T5.heap.size := by rw [hT]; simp
  replace bt : Below w.heap.size w T5 := by rw [hT]; exact (bt.alloc (by first | omega | exact bt.size | (have := bt.size; simp; omega)) _)
  replace t2_o := (show Own _ _ T5 _ _ _ by rw [hT]; exact t2_o.alloc _)
  replace w0_o := (show Own _ _ T5 _ _ _ by rw [hT]; exact w0_o.alloc _)
  replace x0_o := (show Own _ _ T5 _ _ _ by rw [hT]; exact x0_o.alloc _)
  replace pL_b_0 : T5.cell? ⟨w.heap.size, 0, none⟩ = some (.slice pL_A0 pL.Proofs.length pL_c0) := by rw [hT]; first | exact pL_b_0 | simp [go_sem, pL_b_0, pL_b_lt]
  replace pL_b_lt : w.heap.size < T5.heap.size := (by omega)
  have x0_b_0 : T5.cell? ⟨w4.heap.size, 0, none⟩ = some (.slice x0_A0 pL.Proofs.length x0_c0) := by rw [hT]; simp [go_sem]
  have x0_b_lt : w4.heap.size < T5.heap.size := by rw [hT]; simp
  clear hT
  refine (implExpelledNodes_c _ _ pL x0_o.rd (by omega)).mono ?_
  intro e w5 h5
  obtain ⟨g0_v, g0_F, rfl, g0_o, b5⟩ := h5.slice_of
  have g0_lt : ∀ b ∈ g0_F, b < w5.heap.size := g0_o.lt
  have g0_ge : ∀ b ∈ g0_F, T5.heap.size ≤ b := g0_o.2.2
  replace bt := below_call bt b5
  have s5 := b5.size
  replace t2_o := t2_o.below b5
  replace w0_o := w0_o.below b5
  replace x0_o := x0_o.below b5
  replace pL_b_0 := (b5.cell (p := ⟨w.heap.size, 0, none⟩) pL_b_lt).trans pL_b_0
  replace pL_b_lt : w.heap.size < w5.heap.size := (by omega)
  replace x0_b_0 := (b5.cell (p := ⟨w4.heap.size, 0, none⟩) x0_b_lt).trans x0_b_0
  replace x0_b_lt : w4.heap.size < w5.heap.size := (by omega)
  go_wp2_with fail
  refine calls_at fun T6 hT => ?_
  have z6 : w5.heap.size ≤ T6.heap.size := by rw [hT]; simp
  replace bt : Below w.heap.size w T6 := by rw [hT]; exact bt
  replace t2_o := (show Own _ _ T6 _ _ _ by rw [hT]; exact t2_o)
  replace w0_o := (show Own _ _ T6 _ _ _ by rw [hT]; exact w0_o)
  replace x0_o := (show Own _ _ T6 _ _ _ by rw [hT]; exact x0_o)
  replace g0_o := (show Own _ _ T6 _ _ _ by rw [hT]; exact g0_o)
  replace pL_b_0 : T6.cell? ⟨w.heap.size, 0, none⟩ = some (.slice pL_A0 pL.Proofs.length pL_c0) := by rw [hT]; first | exact pL_b_0 | simp [go_sem, pL_b_0, pL_b_lt]
  replace pL_b_lt : w.heap.size < T6.heap.size := (by omega)
  replace x0_b_0 : T6.cell? ⟨w4.heap.size, 0, none⟩ = some (.slice x0_A0 pL.Proofs.length x0_c0) := by rw [hT]; first | exact x0_b_0 | simp [go_sem, x0_b_0, x0_b_lt]
  replace x0_b_lt : w4.heap.size < T6.heap.size := (by omega)
  clear hT
  refine (eqIntS_c _ _ _ _ g0_o.rd w0_o.rd).mono ?_
  rintro e w6 ⟨rfl, b6⟩
  replace bt := below_call bt b6
  have s6 := b6.size
  replace t2_o := t2_o.below b6
  replace w0_o := w0_o.below b6
  replace x0_o := x0_o.below b6
  replace g0_o := g0_o.below b6
  replace pL_b_0 := (b6.cell (p := ⟨w.heap.size, 0, none⟩) pL_b_lt).trans pL_b_0
  replace pL_b_lt : w.heap.size < w6.heap.size := (by omega)
  replace x0_b_0 := (b6.cell (p := ⟨w4.heap.size, 0, none⟩) x0_b_lt).trans x0_b_0
  replace x0_b_lt : w4.heap.size < w6.heap.size := (by omega)
  go_wp2_with fail
  refine wp_at fun T7 hT => ?_
  have z7 : w6.heap.size ≤ T7.heap.size := by rw [hT]; simp
  replace bt : Below w.heap.size w T7 := by rw [hT]; exact bt
  replace t2_o := (show Own _ _ T7 _ _ _ by rw [hT]; exact t2_o)
  replace w0_o := (show Own _ _ T7 _ _ _ by rw [hT]; exact w0_o)
  replace x0_o := (show Own _ _ T7 _ _ _ by rw [hT]; exact x0_o)
  replace g0_o := (show Own _ _ T7 _ _ _ by rw [hT]; exact g0_o)
  replace pL_b_0 : T7.cell? ⟨w.heap.size, 0, none⟩ = some (.slice pL_A0 pL.Proofs.length pL_c0) := by rw [hT]; first | exact pL_b_0 | simp [go_sem, pL_b_0, pL_b_lt]
  replace pL_b_lt : w.heap.size < T7.heap.size := (by omega)
  replace x0_b_0 : T7.cell? ⟨w4.heap.size, 0, none⟩ = some (.slice x0_A0 pL.Proofs.length x0_c0) := by rw [hT]; first | exact x0_b_0 | simp [go_sem, x0_b_0, x0_b_lt]
  replace x0_b_lt : w4.heap.size < T7.heap.size := (by omega)
  clear hT
  go_region_held3 (fun W' => W'.cell? ⟨w.heap.size, 0, none⟩ = some (.slice pL_A0 pL.Proofs.length pL_c0) ∧ W'.cell? ⟨w4.heap.size, 0, none⟩ = some (.slice x0_A0 pL.Proofs.length x0_c0)) (exact ⟨pL_b_0, x0_b_0⟩) (first | (go_at_call_of 19 (Value.agg #[.slice pL_A0 pL.Proofs.length pL_c0]); refine (toLedger_c _ _ pL (rd_drew (rd_now pL_h bt)) (by omega)).mono ?_; intro e w8 h8; replace h8 := h8.undrew; obtain ⟨t8_cs, t8_F, rfl, t8_o, b8⟩ := h8.agg_of rfl; obtain ⟨t8_v0, rfl, t8_k0⟩ := rLedger_rd.1 t8_o.rd; obtain ⟨t8_A0, t8_c0, rfl, _, _⟩ := rd_slice t8_k0; clear t8_k0; have t8_lt : ∀ b ∈ t8_F, b < w8.heap.size := t8_o.lt; have t8_ge : ∀ b ∈ t8_F, T7.heap.size ≤ b := t8_o.2.2; replace bt := below_call bt b8; have s8 := b8.size; replace t2_o := t2_o.below b8; replace w0_o := w0_o.below b8; replace x0_o := x0_o.below b8; replace g0_o := g0_o.below b8; replace pL_b_0 := (b8.cell (p := ⟨w.heap.size, 0, none⟩) pL_b_lt).trans pL_b_0; replace pL_b_lt : w.heap.size < w8.heap.size := (by omega); replace x0_b_0 := (b8.cell (p := ⟨w4.heap.size, 0, none⟩) x0_b_lt).trans x0_b_0; replace x0_b_lt : w4.heap.size < w8.heap.size := (by omega)) | (go_at_call 21; refine (eqLedger_c _ _ _ _ x0_o.rd t8_o.rd).mono ?_; rintro e w9 ⟨rfl, b9⟩; replace bt := below_call bt b9; have s9 := b9.size; replace t2_o := t2_o.below b9; replace w0_o := w0_o.below b9; replace x0_o := x0_o.below b9; replace g0_o := g0_o.below b9; replace t8_o := t8_o.below b9; replace pL_b_0 := (b9.cell (p := ⟨w.heap.size, 0, none⟩) pL_b_lt).trans pL_b_0; replace pL_b_lt : w.heap.size < w9.heap.size := (by omega); replace x0_b_0 := (b9.cell (p := ⟨w4.heap.size, 0, none⟩) x0_b_lt).trans x0_b_0; replace x0_b_lt : w4.heap.size < w9.heap.size := (by omega)))
  have x0_n : mvLedger.n pL ≤ 8388608 := by have := mvLedger_le pL; omega
  go_wp2_with fail
  refine calls_at fun T10 hT => ?_
  have z10 : w9.heap.size ≤ T10.heap.size := by rw [hT]; simp
  replace bt : Below w.heap.size w T10 := by rw [hT]; exact bt
  replace t2_o := (show Own _ _ T10 _ _ _ by rw [hT]; exact t2_o)
  replace w0_o := (show Own _ _ T10 _ _ _ by rw [hT]; exact w0_o)
  replace x0_o := (show Own _ _ T10 _ _ _ by rw [hT]; exact x0_o)
  replace g0_o := (show Own _ _ T10 _ _ _ by rw [hT]; exact g0_o)
  replace t8_o := (show Own _ _ T10 _ _ _ by rw [hT]; exact t8_o)
  replace pL_b_0 : T10.cell? ⟨w.heap.size, 0, none⟩ = some (.slice pL_A0 pL.Proofs.length pL_c0) := by rw [hT]; first | exact pL_b_0 | simp [go_sem, pL_b_0, pL_b_lt]
  replace pL_b_lt : w.heap.size < T10.heap.size := (by omega)
  replace x0_b_0 : T10.cell? ⟨w4.heap.size, 0, none⟩ = some (.slice x0_A0 pL.Proofs.length x0_c0) := by rw [hT]; first | exact x0_b_0 | simp [go_sem, x0_b_0, x0_b_lt]
  replace x0_b_lt : w4.heap.size < T10.heap.size := (by omega)
  clear hT
  refine (markLedger_c _ _ _ _ _ _ x0_o (by omega) (by omega) (by omega)).mono ?_
  rintro e w10 ⟨rfl, x0_o, e10⟩
  replace bt := bt.trans (e10.below bt.size (fun b hb => by have := x0_ge b hb; omega))
  have s10 := e10.size
  replace t2_o := t2_o.same e10 (fun b h1 h2 => by have := t2_lt b h1; have := x0_ge b h2; omega)
  replace w0_o := w0_o.same e10 (fun b h1 h2 => by have := w0_lt b h1; have := x0_ge b h2; omega)
  replace g0_o := g0_o.same e10 (fun b h1 h2 => by have := g0_ge b h1; have := x0_lt b h2; omega)
  replace t8_o := t8_o.same e10 (fun b h1 h2 => by have := t8_ge b h1; have := x0_lt b h2; omega)
  replace pL_b_0 := (World.cell?_of_block (w := T10) (a := ⟨w.heap.size, 0, none⟩) (e10.2.2.2.2 _ pL_b_lt (fun hb => by have : T4.heap.size ≤ w.heap.size := x0_ge _ hb; omega))).trans pL_b_0
  replace pL_b_lt : w.heap.size < w10.heap.size := (by omega)
  replace x0_b_0 := (World.cell?_of_block (w := T10) (a := ⟨w4.heap.size, 0, none⟩) (e10.2.2.2.2 _ x0_b_lt (fun hb => by have : w4.heap.size < w4.heap.size := x0_lt _ hb; omega))).trans x0_b_0
  replace x0_b_lt : w4.heap.size < w10.heap.size := (by omega)
  go_wp2_with fail
  refine calls_at fun T11 hT => ?_
  have z11 : w10.heap.size ≤ T11.heap.size := by rw [hT]; simp
  replace bt : Below w.heap.size w T11 := by rw [hT]; exact bt
  replace t2_o := (show Own _ _ T11 _ _ _ by rw [hT]; exact t2_o)
  replace w0_o := (show Own _ _ T11 _ _ _ by rw [hT]; exact w0_o)
  replace x0_o := (show Own _ _ T11 _ _ _ by rw [hT]; exact x0_o)
  replace g0_o := (show Own _ _ T11 _ _ _ by rw [hT]; exact g0_o)
  replace t8_o := (show Own _ _ T11 _ _ _ by rw [hT]; exact t8_o)
  replace pL_b_0 : T11.cell? ⟨w.heap.size, 0, none⟩ = some (.slice pL_A0 pL.Proofs.length pL_c0) := by rw [hT]; first | exact pL_b_0 | simp [go_sem, pL_b_0, pL_b_lt]
  replace pL_b_lt : w.heap.size < T11.heap.size := (by omega)
  replace x0_b_0 : T11.cell? ⟨w4.heap.size, 0, none⟩ = some (.slice x0_A0 pL.Proofs.length x0_c0) := by rw [hT]; first | exact x0_b_0 | simp [go_sem, x0_b_0, x0_b_lt]
  replace x0_b_lt : w4.heap.size < T11.heap.size := (by omega)
  clear hT
  refine (eqIntS_c _ _ _ _ g0_o.rd w0_o.rd).mono ?_
  rintro e w11 ⟨rfl, b11⟩
  replace bt := below_call bt b11
  have s11 := b11.size
  replace t2_o := t2_o.below b11
  replace w0_o := w0_o.below b11
  replace x0_o := x0_o.below b11
  replace g0_o := g0_o.below b11
  replace t8_o := t8_o.below b11
  replace pL_b_0 := (b11.cell (p := ⟨w.heap.size, 0, none⟩) pL_b_lt).trans pL_b_0
  replace pL_b_lt : w.heap.size < w11.heap.size := (by omega)
  replace x0_b_0 := (b11.cell (p := ⟨w4.heap.size, 0, none⟩) x0_b_lt).trans x0_b_0
  replace x0_b_lt : w4.heap.size < w11.heap.size := (by omega)
  have g0_n : (Mk.list Mk.int).n (dExpelledNodes pL) ≤ 1000000000000 := dExpelledNodes_cnt _ (by omega)
  go_wp2_with fail
  refine calls_at fun T12 hT => ?_
  have z12 : w11.heap.size ≤ T12.heap.size := by rw [hT]; simp
  replace bt : Below w.heap.size w T12 := by rw [hT]; exact bt
  replace t2_o := (show Own _ _ T12 _ _ _ by rw [hT]; exact t2_o)
  replace w0_o := (show Own _ _ T12 _ _ _ by rw [hT]; exact w0_o)
  replace x0_o := (show Own _ _ T12 _ _ _ by rw [hT]; exact x0_o)
  replace g0_o := (show Own _ _ T12 _ _ _ by rw [hT]; exact g0_o)
  replace t8_o := (show Own _ _ T12 _ _ _ by rw [hT]; exact t8_o)
  replace pL_b_0 : T12.cell? ⟨w.heap.size, 0, none⟩ = some (.slice pL_A0 pL.Proofs.length pL_c0) := by rw [hT]; first | exact pL_b_0 | simp [go_sem, pL_b_0, pL_b_lt]
  replace pL_b_lt : w.heap.size < T12.heap.size := (by omega)
  replace x0_b_0 : T12.cell? ⟨w4.heap.size, 0, none⟩ = some (.slice x0_A0 pL.Proofs.length x0_c0) := by rw [hT]; first | exact x0_b_0 | simp [go_sem, x0_b_0, x0_b_lt]
  replace x0_b_lt : w4.heap.size < T12.heap.size := (by omega)
  clear hT
  refine (markIntS_c _ _ _ _ _ _ g0_o (by omega) (by omega) (by omega)).mono ?_
  rintro e w12 ⟨rfl, g0_o, e12⟩
  replace bt := bt.trans (e12.below bt.size (fun b hb => by have := g0_ge b hb; omega))
  have s12 := e12.size
  replace t2_o := t2_o.same e12 (fun b h1 h2 => by have := t2_lt b h1; have := g0_ge b h2; omega)
  replace w0_o := w0_o.same e12 (fun b h1 h2 => by have := w0_lt b h1; have := g0_ge b h2; omega)
  replace x0_o := x0_o.same e12 (fun b h1 h2 => by have := x0_lt b h1; have := g0_ge b h2; omega)
  replace t8_o := t8_o.same e12 (fun b h1 h2 => by have := t8_ge b h1; have := g0_lt b h2; omega)
  replace pL_b_0 := (World.cell?_of_block (w := T12) (a := ⟨w.heap.size, 0, none⟩) (e12.2.2.2.2 _ pL_b_lt (fun hb => by have : T5.heap.size ≤ w.heap.size := g0_ge _ hb; omega))).trans pL_b_0
  replace pL_b_lt : w.heap.size < w12.heap.size := (by omega)
  replace x0_b_0 := (World.cell?_of_block (w := T12) (a := ⟨w4.heap.size, 0, none⟩) (e12.2.2.2.2 _ x0_b_lt (fun hb => by have : T5.heap.size ≤ w4.heap.size := g0_ge _ hb; omega))).trans x0_b_0
  replace x0_b_lt : w4.heap.size < w12.heap.size := (by omega)
  go_wp2_with fail
  refine calls_at fun T13 hT => ?_
  have z13 : w12.heap.size ≤ T13.heap.size := by rw [hT]; simp
  replace bt : Below w.heap.size w T13 := by rw [hT]; exact bt
  replace t2_o := (show Own _ _ T13 _ _ _ by rw [hT]; exact t2_o)
  replace w0_o := (show Own _ _ T13 _ _ _ by rw [hT]; exact w0_o)
  replace x0_o := (show Own _ _ T13 _ _ _ by rw [hT]; exact x0_o)
  replace g0_o := (show Own _ _ T13 _ _ _ by rw [hT]; exact g0_o)
  replace t8_o := (show Own _ _ T13 _ _ _ by rw [hT]; exact t8_o)
  replace pL_b_0 : T13.cell? ⟨w.heap.size, 0, none⟩ = some (.slice pL_A0 pL.Proofs.length pL_c0) := by rw [hT]; first | exact pL_b_0 | simp [go_sem, pL_b_0, pL_b_lt]
  replace pL_b_lt : w.heap.size < T13.heap.size := (by omega)
  replace x0_b_0 : T13.cell? ⟨w4.heap.size, 0, none⟩ = some (.slice x0_A0 pL.Proofs.length x0_c0) := by rw [hT]; first | exact x0_b_0 | simp [go_sem, x0_b_0, x0_b_lt]
  replace x0_b_lt : w4.heap.size < T13.heap.size := (by omega)
  clear hT
  refine (heldIntS_c _ _ _ _ g0_o.rd (by omega) (by omega)).mono ?_
  rintro e w13 ⟨rfl, b13⟩
  replace bt := below_call bt b13
  have s13 := b13.size
  replace t2_o := t2_o.below b13
  replace w0_o := w0_o.below b13
  replace x0_o := x0_o.below b13
  replace g0_o := g0_o.below b13
  replace t8_o := t8_o.below b13
  replace pL_b_0 := (b13.cell (p := ⟨w.heap.size, 0, none⟩) pL_b_lt).trans pL_b_0
  replace pL_b_lt : w.heap.size < w13.heap.size := (by omega)
  replace x0_b_0 := (b13.cell (p := ⟨w4.heap.size, 0, none⟩) x0_b_lt).trans x0_b_0
  replace x0_b_lt : w4.heap.size < w13.heap.size := (by omega)
  go_wp2_with fail
  refine calls_at fun T14 hT => ?_
  have z14 : w13.heap.size ≤ T14.heap.size := by rw [hT]; simp
  replace bt : Below w.heap.size w T14 := by rw [hT]; exact bt
  replace t2_o := (show Own _ _ T14 _ _ _ by rw [hT]; exact t2_o)
  replace w0_o := (show Own _ _ T14 _ _ _ by rw [hT]; exact w0_o)
  replace x0_o := (show Own _ _ T14 _ _ _ by rw [hT]; exact x0_o)
  replace g0_o := (show Own _ _ T14 _ _ _ by rw [hT]; exact g0_o)
  replace t8_o := (show Own _ _ T14 _ _ _ by rw [hT]; exact t8_o)
  replace pL_b_0 : T14.cell? ⟨w.heap.size, 0, none⟩ = some (.slice pL_A0 pL.Proofs.length pL_c0) := by rw [hT]; first | exact pL_b_0 | simp [go_sem, pL_b_0, pL_b_lt]
  replace pL_b_lt : w.heap.size < T14.heap.size := (by omega)
  replace x0_b_0 : T14.cell? ⟨w4.heap.size, 0, none⟩ = some (.slice x0_A0 pL.Proofs.length x0_c0) := by rw [hT]; first | exact x0_b_0 | simp [go_sem, x0_b_0, x0_b_lt]
  replace x0_b_lt : w4.heap.size < T14.heap.size := (by omega)
  clear hT
  refine (toLedger_c _ _ pL (rd_now pL_h bt) (by omega)).mono ?_
  intro e w14 h14
  obtain ⟨t14_cs, t14_F, rfl, t14_o, b14⟩ := h14.agg_of rfl
  obtain ⟨t14_v0, rfl, t14_k0⟩ := rLedger_rd.1 t14_o.rd
  obtain ⟨t14_A0, t14_c0, rfl, _, _⟩ := rd_slice t14_k0
  clear t14_k0
  have t14_lt : ∀ b ∈ t14_F, b < w14.heap.size := t14_o.lt
  have t14_ge : ∀ b ∈ t14_F, T14.heap.size ≤ b := t14_o.2.2
  replace bt := below_call bt b14
  have s14 := b14.size
  replace t2_o := t2_o.below b14
  replace w0_o := w0_o.below b14
  replace x0_o := x0_o.below b14
  replace g0_o := g0_o.below b14
  replace t8_o := t8_o.below b14
  replace pL_b_0 := (b14.cell (p := ⟨w.heap.size, 0, none⟩) pL_b_lt).trans pL_b_0
  replace pL_b_lt : w.heap.size < w14.heap.size := (by omega)
  replace x0_b_0 := (b14.cell (p := ⟨w4.heap.size, 0, none⟩) x0_b_lt).trans x0_b_0
  replace x0_b_lt : w4.heap.size < w14.heap.size := (by omega)
  go_wp2_with fail
  refine calls_at fun T15 hT => ?_
  have z15 : w14.heap.size ≤ T15.heap.size := by rw [hT]; simp
  replace bt : Below w.heap.size w T15 := by rw [hT]; exact bt
  replace t2_o := (show Own _ _ T15 _ _ _ by rw [hT]; exact t2_o)
  replace w0_o := (show Own _ _ T15 _ _ _ by rw [hT]; exact w0_o)
  replace x0_o := (show Own _ _ T15 _ _ _ by rw [hT]; exact x0_o)
  replace g0_o := (show Own _ _ T15 _ _ _ by rw [hT]; exact g0_o)
  replace t8_o := (show Own _ _ T15 _ _ _ by rw [hT]; exact t8_o)
  replace t14_o := (show Own _ _ T15 _ _ _ by rw [hT]; exact t14_o)
  replace pL_b_0 : T15.cell? ⟨w.heap.size, 0, none⟩ = some (.slice pL_A0 pL.Proofs.length pL_c0) := by rw [hT]; first | exact pL_b_0 | simp [go_sem, pL_b_0, pL_b_lt]
  replace pL_b_lt : w.heap.size < T15.heap.size := (by omega)
  replace x0_b_0 : T15.cell? ⟨w4.heap.size, 0, none⟩ = some (.slice x0_A0 pL.Proofs.length x0_c0) := by rw [hT]; first | exact x0_b_0 | simp [go_sem, x0_b_0, x0_b_lt]
  replace x0_b_lt : w4.heap.size < T15.heap.size := (by omega)
  clear hT
  refine (implExpelledNodes_c _ _ pL t14_o.rd (by omega)).mono ?_
  intro e w15 h15
  obtain ⟨h0_v, h0_F, rfl, h0_o, b15⟩ := h15.slice_of
  have h0_lt : ∀ b ∈ h0_F, b < w15.heap.size := h0_o.lt
  have h0_ge : ∀ b ∈ h0_F, T15.heap.size ≤ b := h0_o.2.2
  replace bt := below_call bt b15
  have s15 := b15.size
  replace t2_o := t2_o.below b15
  replace w0_o := w0_o.below b15
  replace x0_o := x0_o.below b15
  replace g0_o := g0_o.below b15
  replace t8_o := t8_o.below b15
  replace t14_o := t14_o.below b15
  replace pL_b_0 := (b15.cell (p := ⟨w.heap.size, 0, none⟩) pL_b_lt).trans pL_b_0
  replace pL_b_lt : w.heap.size < w15.heap.size := (by omega)
  replace x0_b_0 := (b15.cell (p := ⟨w4.heap.size, 0, none⟩) x0_b_lt).trans x0_b_0
  replace x0_b_lt : w4.heap.size < w15.heap.size := (by omega)
  go_wp2_with fail
  refine calls_at fun T16 hT => ?_
  have z16 : w15.heap.size ≤ T16.heap.size := by rw [hT]; simp
  replace bt : Below w.heap.size w T16 := by rw [hT]; exact bt
  replace t2_o := (show Own _ _ T16 _ _ _ by rw [hT]; exact t2_o)
  replace w0_o := (show Own _ _ T16 _ _ _ by rw [hT]; exact w0_o)
  replace x0_o := (show Own _ _ T16 _ _ _ by rw [hT]; exact x0_o)
  replace g0_o := (show Own _ _ T16 _ _ _ by rw [hT]; exact g0_o)
  replace t8_o := (show Own _ _ T16 _ _ _ by rw [hT]; exact t8_o)
  replace t14_o := (show Own _ _ T16 _ _ _ by rw [hT]; exact t14_o)
  replace h0_o := (show Own _ _ T16 _ _ _ by rw [hT]; exact h0_o)
  replace pL_b_0 : T16.cell? ⟨w.heap.size, 0, none⟩ = some (.slice pL_A0 pL.Proofs.length pL_c0) := by rw [hT]; first | exact pL_b_0 | simp [go_sem, pL_b_0, pL_b_lt]
  replace pL_b_lt : w.heap.size < T16.heap.size := (by omega)
  replace x0_b_0 : T16.cell? ⟨w4.heap.size, 0, none⟩ = some (.slice x0_A0 pL.Proofs.length x0_c0) := by rw [hT]; first | exact x0_b_0 | simp [go_sem, x0_b_0, x0_b_lt]
  replace x0_b_lt : w4.heap.size < T16.heap.size := (by omega)
  clear hT
  refine (eqIntS_c _ _ _ _ h0_o.rd w0_o.rd).mono ?_
  rintro e w16 ⟨rfl, b16⟩
  replace bt := below_call bt b16
  have s16 := b16.size
  replace t2_o := t2_o.below b16
  replace w0_o := w0_o.below b16
  replace x0_o := x0_o.below b16
  replace g0_o := g0_o.below b16
  replace t8_o := t8_o.below b16
  replace t14_o := t14_o.below b16
  replace h0_o := h0_o.below b16
  replace pL_b_0 := (b16.cell (p := ⟨w.heap.size, 0, none⟩) pL_b_lt).trans pL_b_0
  replace pL_b_lt : w.heap.size < w16.heap.size := (by omega)
  replace x0_b_0 := (b16.cell (p := ⟨w4.heap.size, 0, none⟩) x0_b_lt).trans x0_b_0
  replace x0_b_lt : w4.heap.size < w16.heap.size := (by omega)
  go_wp2_with fail
  refine calls_at fun T17 hT => ?_
  have z17 : w16.heap.size ≤ T17.heap.size := by rw [hT]; simp
  replace bt : Below w.heap.size w T17 := by rw [hT]; exact bt
  replace t2_o := (show Own _ _ T17 _ _ _ by rw [hT]; exact t2_o)
  replace w0_o := (show Own _ _ T17 _ _ _ by rw [hT]; exact w0_o)
  replace x0_o := (show Own _ _ T17 _ _ _ by rw [hT]; exact x0_o)
  replace g0_o := (show Own _ _ T17 _ _ _ by rw [hT]; exact g0_o)
  replace t8_o := (show Own _ _ T17 _ _ _ by rw [hT]; exact t8_o)
  replace t14_o := (show Own _ _ T17 _ _ _ by rw [hT]; exact t14_o)
  replace h0_o := (show Own _ _ T17 _ _ _ by rw [hT]; exact h0_o)
  replace pL_b_0 : T17.cell? ⟨w.heap.size, 0, none⟩ = some (.slice pL_A0 pL.Proofs.length pL_c0) := by rw [hT]; first | exact pL_b_0 | simp [go_sem, pL_b_0, pL_b_lt]
  replace pL_b_lt : w.heap.size < T17.heap.size := (by omega)
  replace x0_b_0 : T17.cell? ⟨w4.heap.size, 0, none⟩ = some (.slice x0_A0 pL.Proofs.length x0_c0) := by rw [hT]; first | exact x0_b_0 | simp [go_sem, x0_b_0, x0_b_lt]
  replace x0_b_lt : w4.heap.size < T17.heap.size := (by omega)
  clear hT
  refine (heldIntS_c _ _ _ _ g0_o.rd (by omega) (by omega)).mono ?_
  rintro e w17 ⟨rfl, b17⟩
  replace bt := below_call bt b17
  have s17 := b17.size
  replace t2_o := t2_o.below b17
  replace w0_o := w0_o.below b17
  replace x0_o := x0_o.below b17
  replace g0_o := g0_o.below b17
  replace t8_o := t8_o.below b17
  replace t14_o := t14_o.below b17
  replace h0_o := h0_o.below b17
  replace pL_b_0 := (b17.cell (p := ⟨w.heap.size, 0, none⟩) pL_b_lt).trans pL_b_0
  replace pL_b_lt : w.heap.size < w17.heap.size := (by omega)
  replace x0_b_0 := (b17.cell (p := ⟨w4.heap.size, 0, none⟩) x0_b_lt).trans x0_b_0
  replace x0_b_lt : w4.heap.size < w17.heap.size := (by omega)
  go_wp2_with fail
  go_ret
  exact ⟨rfl, bt⟩

namespace fnExactExpelledNodes
open Go.ChangeShapes Go.WideShapes Go.ChangeAt Go.RowKit
theorem own : ownKnob Try.prog.godebug = none := by kernel_rfl
theorem laidOut : laidOutB Try.prog = true := by kernel_rfl
set_option maxRecDepth 100000 in
theorem lifted (os : Os) (started : os.Started) (H : Type) (enc : TypeId × Value → H) :
    ReturnsInHanded {} Try.checked os 7 .any (Rows.fnExactExpelledNodesSpec.pre6 enc Try.prog Try.f7 Rows.fnExactExpelledNodesRow.domain false) (Rows.fnExactExpelledNodesSpec.post enc Try.prog Try.f7 false true false false) := by
  refine returnsInHanded_of_change (C := Try.checked) own started (by kernel_rfl) Try.func7
    (ChangeSpec.witness6 (enc := enc) (C := Try.checked) false ⟨#[], #[.agg #[.slice none 0 0]], []⟩ 8 (by kernel_rfl) (by kernel_rfl) (by kernel_rfl) (by kernel_rfl)) ?_
  intro W base args ds gs before hval0 hW hcnd _
  have hval : ∀ (j : Nat) t v, Try.f7.params[j]? = some t → args[j]? = some v → Value.okWide Try.prog W .any base t v := hval0
  have hW' := hW
  obtain ⟨p, q, hA0, hV, rfl, hfz, hnd⟩ := hW
  have hA : DataW.TrodAll enc Try.prog W 0 (fun _ => true) true Try.f7.params.toList args.toList ds p := hA0
  rw [Try.params7] at hA hval
  obtain ⟨v0, vs0, d0, ds0, p0, q0, hargs, rfl, rfl, h0, r0⟩ := trodAll_cons hA
  obtain ⟨rfl, rfl, rfl⟩ := trodAll_nil r0
  obtain rfl : args = #[v0] := by cases args; simp_all
  obtain ⟨rfl, rfl⟩ := trodVars_none hV
  have k0 := h0
  have lt0 : ∀ x ∈ p0, x.block < W.heap.size := by obtain ⟨m, hm⟩ := k0; exact DataW.trod_lt m _ _ _ hm
  obtain ⟨cs0, rfl, _⟩ := okWide_struct Try.underlying30 (hval 0 30 v0 rfl rfl)
  obtain ⟨cs0⟩ := cs0
  obtain ⟨x0, hx0⟩ : ∃ x, (rLedger).rd W W.heap.size cs0 x := by obtain ⟨fuel, hf⟩ := h0; exact opensLedger hf
  clear hA0 hval0
  refine (fnExactExpelledNodes_walk W cs0 x0 hx0).mono fun e W' ⟨he, bel⟩ => ?_
  subst he
  exact ⟨_, rfl, _, _, _, [], _, [], hW', trodAll_mk1 (shut_bool Try.underlying4 _), (trodAll_cons_mk (Below.trod laidOut (by kernel_rfl) (of_decide_eq_true (by kernel_rfl)) k0 bel lt0) trodAll_mk0), rfl, bel.frame _, fun h => by cases h⟩
theorem over : Rows.fnExactExpelledNodesRow.holds Try.pinned (OpenSpec.ofChange Rows.fnExactExpelledNodesSpec) :=
  OpenClaim.holds_of_wide 7 Try.f7 rfl rfl rfl rfl rfl rfl rfl ⟨rfl, rfl, rfl, rfl, rfl⟩ rfl rfl rfl rfl rfl (by kernel_rfl) Try.func7 (by kernel_rfl)
    (of_decide_eq_true (by kernel_rfl)) (by unfold Func.isWrapper; first | (rw [if_pos (by decide +kernel)]; kernel_rfl) | (rw [if_neg (by decide +kernel)]; exact ⟨rfl, rfl⟩))
    (fun os started H enc _ => lifted os started H enc)
/-- the statement -/
theorem proved : Rows.FnExactExpelledNodesSaid := over
end fnExactExpelledNodes
end Go.Proofs.Ytpjflcllpmjjiaa

/- Proved: FnExactIsValidLedger returns true for every input, and its arguments read afterwards as before. No condition. -/
import Derived.Test.YtpjflcllpmjjiaaL29b
import Derived.Test.YtpjflcllpmjjiaaLawKit
namespace Go.Proofs.Ytpjflcllpmjjiaa
open Go.RowKit
set_option linter.unusedVariables false
set_option linter.unusedSimpArgs false

set_option maxHeartbeats 4000000 in
set_option maxRecDepth 100000 in
theorem fnExactIsValidLedger_walk (w : World) (pL_cs : List Value) (pL : DLedger) (pL_h : rLedger.rd w w.heap.size pL_cs pL) : Calls Try.prog 5 #[.agg pL_cs.toArray] w fun e w' => e = .returned (.bool true) ∧ Below w.heap.size w w' := by
  have pL_g := pL_h
  obtain ⟨pL_v0, rfl, pL_k0⟩ := rLedger_rd.1 pL_g
  obtain ⟨pL_A0, pL_c0, rfl, _, _⟩ := rd_slice pL_k0
  clear pL_k0
  clear pL_g
  have bt : Below w.heap.size w w := Below.refl _ _
  by_cases a0 : (szLedger pL : Int) ≤ 1048576
  case neg =>
    go_enter Try.func5, Try.ntmps5
    go_wp2_with fail
    refine calls_at fun T1 hT => ?_
    have z1 : w.heap.size + 1 ≤ T1.heap.size := by rw [hT]; simp
    replace bt : Below w.heap.size w T1 := by rw [hT]; exact (bt.alloc (by first | omega | exact bt.size | (have := bt.size; simp; omega)) _)
    have pL_b_0 : T1.cell? ⟨w.heap.size, 0, none⟩ = some (.slice pL_A0 pL.Proofs.length pL_c0) := by rw [hT]; simp [go_sem]
    have pL_b_lt : w.heap.size < T1.heap.size := by rw [hT]; simp
    clear hT
    refine (szLedger_c _ _ pL _ (rd_now pL_h bt) (by omega) (by omega)).mono ?_
    rintro e w1 ⟨rfl, b1⟩
    rw [lessBy_no (by omega)]
    replace bt := below_call bt b1
    have s1 := b1.size
    replace pL_b_0 := (b1.cell (p := ⟨w.heap.size, 0, none⟩) pL_b_lt).trans pL_b_0
    replace pL_b_lt : w.heap.size < w1.heap.size := (by omega)
    go_wp2_with fail
    go_ret
    exact ⟨rfl, bt⟩
  go_enter Try.func5, Try.ntmps5
  go_wp2_with fail
  refine calls_at fun T1 hT => ?_
  have z1 : w.heap.size + 1 ≤ T1.heap.size := by rw [hT]; simp
  replace bt : Below w.heap.size w T1 := by rw [hT]; exact (bt.alloc (by first | omega | exact bt.size | (have := bt.size; simp; omega)) _)
  have pL_b_0 : T1.cell? ⟨w.heap.size, 0, none⟩ = some (.slice pL_A0 pL.Proofs.length pL_c0) := by rw [hT]; simp [go_sem]
  have pL_b_lt : w.heap.size < T1.heap.size := by rw [hT]; simp
  clear hT
  refine (szLedger_c _ _ pL _ (rd_now pL_h bt) (by omega) (by omega)).mono ?_
  rintro e w1 ⟨rfl, b1⟩
  rw [lessBy_ok (by omega)]
  replace bt := below_call bt b1
  have s1 := b1.size
  replace pL_b_0 := (b1.cell (p := ⟨w.heap.size, 0, none⟩) pL_b_lt).trans pL_b_0
  replace pL_b_lt : w.heap.size < w1.heap.size := (by omega)
  go_wp2_with fail
  refine calls_at fun T2 hT => ?_
  have z2 : w1.heap.size ≤ T2.heap.size := by rw [hT]; simp
  replace bt : Below w.heap.size w T2 := by rw [hT]; exact bt
  replace pL_b_0 : T2.cell? ⟨w.heap.size, 0, none⟩ = some (.slice pL_A0 pL.Proofs.length pL_c0) := by rw [hT]; first | exact pL_b_0 | simp [go_sem, pL_b_0, pL_b_lt]
  replace pL_b_lt : w.heap.size < T2.heap.size := (by omega)
  clear hT
  refine (toLedger_c _ _ pL (rd_now pL_h bt) (by omega)).mono ?_
  intro e w2 h2
  obtain ⟨t2_cs, t2_F, rfl, t2_o, b2⟩ := h2.agg_of rfl
  obtain ⟨t2_v0, rfl, t2_k0⟩ := rLedger_rd.1 t2_o.rd
  obtain ⟨t2_A0, t2_c0, rfl, _, _⟩ := rd_slice t2_k0
  clear t2_k0
  have t2_lt : ∀ b ∈ t2_F, b < w2.heap.size := t2_o.lt
  have t2_ge : ∀ b ∈ t2_F, T2.heap.size ≤ b := t2_o.2.2
  replace bt := below_call bt b2
  have s2 := b2.size
  replace pL_b_0 := (b2.cell (p := ⟨w.heap.size, 0, none⟩) pL_b_lt).trans pL_b_0
  replace pL_b_lt : w.heap.size < w2.heap.size := (by omega)
  go_wp2_with fail
  refine calls_at fun T3 hT => ?_
  have z3 : w2.heap.size ≤ T3.heap.size := by rw [hT]; simp
  replace bt : Below w.heap.size w T3 := by rw [hT]; exact bt
  replace t2_o := (show Own _ _ T3 _ _ _ by rw [hT]; exact t2_o)
  replace pL_b_0 : T3.cell? ⟨w.heap.size, 0, none⟩ = some (.slice pL_A0 pL.Proofs.length pL_c0) := by rw [hT]; first | exact pL_b_0 | simp [go_sem, pL_b_0, pL_b_lt]
  replace pL_b_lt : w.heap.size < T3.heap.size := (by omega)
  clear hT
  refine (specIsValidLedger_c _ _ pL t2_o.rd (by omega)).mono ?_
  rintro e w3 ⟨rfl, b3⟩
  replace bt := below_call bt b3
  have s3 := b3.size
  replace t2_o := t2_o.below b3
  replace pL_b_0 := (b3.cell (p := ⟨w.heap.size, 0, none⟩) pL_b_lt).trans pL_b_0
  replace pL_b_lt : w.heap.size < w3.heap.size := (by omega)
  go_wp2_with fail
  refine calls_at fun T4 hT => ?_
  have z4 : w3.heap.size ≤ T4.heap.size := by rw [hT]; simp
  replace bt : Below w.heap.size w T4 := by rw [hT]; exact bt
  replace t2_o := (show Own _ _ T4 _ _ _ by rw [hT]; exact t2_o)
  replace pL_b_0 : T4.cell? ⟨w.heap.size, 0, none⟩ = some (.slice pL_A0 pL.Proofs.length pL_c0) := by rw [hT]; first | exact pL_b_0 | simp [go_sem, pL_b_0, pL_b_lt]
  replace pL_b_lt : w.heap.size < T4.heap.size := (by omega)
  clear hT
  refine (toLedger_c _ _ pL (rd_now pL_h bt) (by omega)).mono ?_
  intro e w4 h4
  obtain ⟨x0_cs, x0_F, rfl, x0_o, b4⟩ := h4.agg_of rfl
  obtain ⟨x0_v0, rfl, x0_k0⟩ := rLedger_rd.1 x0_o.rd
  obtain ⟨x0_A0, x0_c0, rfl, _, _⟩ := rd_slice x0_k0
  clear x0_k0
  have x0_lt : ∀ b ∈ x0_F, b < w4.heap.size := x0_o.lt
  have x0_ge : ∀ b ∈ x0_F, T4.heap.size ≤ b := x0_o.2.2
  replace bt := below_call bt b4
  have s4 := b4.size
  replace t2_o := t2_o.below b4
  replace pL_b_0 := (b4.cell (p := ⟨w.heap.size, 0, none⟩) pL_b_lt).trans pL_b_0
  replace pL_b_lt : w.heap.size < w4.heap.size := (by omega)
  go_wp2_with fail
  refine calls_at fun T5 hT => ?_
  have z5 : w4.heap.size + 1 ≤ T5.heap.size := by rw [hT]; simp
  replace bt : Below w.heap.size w T5 := by rw [hT]; exact (bt.alloc (by first | omega | exact bt.size | (have := bt.size; simp; omega)) _)
  replace t2_o := (show Own _ _ T5 _ _ _ by rw [hT]; exact t2_o.alloc _)
  replace x0_o := (show Own _ _ T5 _ _ _ by rw [hT]; exact x0_o.alloc _)
  replace pL_b_0 : T5.cell? ⟨w.heap.size, 0, none⟩ = some (.slice pL_A0 pL.Proofs.length pL_c0) := by rw [hT]; first | exact pL_b_0 | simp [go_sem, pL_b_0, pL_b_lt]
  replace pL_b_lt : w.heap.size < T5.heap.size := (by omega)
  have x0_b_0 : T5.cell? ⟨w4.heap.size, 0, none⟩ = some (.slice x0_A0 pL.Proofs.length x0_c0) := by rw [hT]; simp [go_sem]
  have x0_b_lt : w4.heap.size < T5.heap.size := by rw [hT]; simp
  clear hT
  refine (implIsValidLedger_c _ _ pL x0_o.rd (by omega)).mono ?_
  rintro e w5 ⟨rfl, b5⟩
  replace bt := below_call bt b5
  have s5 := b5.size
  replace t2_o := t2_o.below b5
  replace x0_o := x0_o.below b5
  replace pL_b_0 := (b5.cell (p := ⟨w.heap.size, 0, none⟩) pL_b_lt).trans pL_b_0
  replace pL_b_lt : w.heap.size < w5.heap.size := (by omega)
  replace x0_b_0 := (b5.cell (p := ⟨w4.heap.size, 0, none⟩) x0_b_lt).trans x0_b_0
  replace x0_b_lt : w4.heap.size < w5.heap.size := (by omega)
  go_wp2_with fail
  refine wp_at fun T6 hT => ?_
  have z6 : w5.heap.size ≤ T6.heap.size := by rw [hT]; simp
  replace bt : Below w.heap.size w T6 := by rw [hT]; exact bt
  replace t2_o := (show Own _ _ T6 _ _ _ by rw [hT]; exact t2_o)
  replace x0_o := (show Own _ _ T6 _ _ _ by rw [hT]; exact x0_o)
  replace pL_b_0 : T6.cell? ⟨w.heap.size, 0, none⟩ = some (.slice pL_A0 pL.Proofs.length pL_c0) := by rw [hT]; first | exact pL_b_0 | simp [go_sem, pL_b_0, pL_b_lt]
  replace pL_b_lt : w.heap.size < T6.heap.size := (by omega)
  replace x0_b_0 : T6.cell? ⟨w4.heap.size, 0, none⟩ = some (.slice x0_A0 pL.Proofs.length x0_c0) := by rw [hT]; first | exact x0_b_0 | simp [go_sem, x0_b_0, x0_b_lt]
  replace x0_b_lt : w4.heap.size < T6.heap.size := (by omega)
  clear hT
  go_region_held3 (fun W' => W'.cell? ⟨w.heap.size, 0, none⟩ = some (.slice pL_A0 pL.Proofs.length pL_c0) ∧ W'.cell? ⟨w4.heap.size, 0, none⟩ = some (.slice x0_A0 pL.Proofs.length x0_c0)) (exact ⟨pL_b_0, x0_b_0⟩) (first | (go_at_call_of 19 (Value.agg #[.slice pL_A0 pL.Proofs.length pL_c0]); refine (toLedger_c _ _ pL (rd_drew (rd_now pL_h bt)) (by omega)).mono ?_; intro e w7 h7; replace h7 := h7.undrew; obtain ⟨t7_cs, t7_F, rfl, t7_o, b7⟩ := h7.agg_of rfl; obtain ⟨t7_v0, rfl, t7_k0⟩ := rLedger_rd.1 t7_o.rd; obtain ⟨t7_A0, t7_c0, rfl, _, _⟩ := rd_slice t7_k0; clear t7_k0; have t7_lt : ∀ b ∈ t7_F, b < w7.heap.size := t7_o.lt; have t7_ge : ∀ b ∈ t7_F, T6.heap.size ≤ b := t7_o.2.2; replace bt := below_call bt b7; have s7 := b7.size; replace t2_o := t2_o.below b7; replace x0_o := x0_o.below b7; replace pL_b_0 := (b7.cell (p := ⟨w.heap.size, 0, none⟩) pL_b_lt).trans pL_b_0; replace pL_b_lt : w.heap.size < w7.heap.size := (by omega); replace x0_b_0 := (b7.cell (p := ⟨w4.heap.size, 0, none⟩) x0_b_lt).trans x0_b_0; replace x0_b_lt : w4.heap.size < w7.heap.size := (by omega)) | (go_at_call 21; refine (eqLedger_c _ _ _ _ x0_o.rd t7_o.rd).mono ?_; rintro e w8 ⟨rfl, b8⟩; replace bt := below_call bt b8; have s8 := b8.size; replace t2_o := t2_o.below b8; replace x0_o := x0_o.below b8; replace t7_o := t7_o.below b8; replace pL_b_0 := (b8.cell (p := ⟨w.heap.size, 0, none⟩) pL_b_lt).trans pL_b_0; replace pL_b_lt : w.heap.size < w8.heap.size := (by omega); replace x0_b_0 := (b8.cell (p := ⟨w4.heap.size, 0, none⟩) x0_b_lt).trans x0_b_0; replace x0_b_lt : w4.heap.size < w8.heap.size := (by omega)))
  go_wp2_with fail
  go_ret
  exact ⟨rfl, bt⟩

namespace fnExactIsValidLedger
open Go.ChangeShapes Go.WideShapes Go.ChangeAt Go.RowKit
theorem own : ownKnob Try.prog.godebug = none := by kernel_rfl
theorem laidOut : laidOutB Try.prog = true := by kernel_rfl
set_option maxRecDepth 100000 in
theorem lifted (os : Os) (started : os.Started) (H : Type) (enc : TypeId × Value → H) :
    ReturnsInHanded {} Try.checked os 5 .any (Rows.fnExactIsValidLedgerSpec.pre6 enc Try.prog Try.f5 Rows.fnExactIsValidLedgerRow.domain false) (Rows.fnExactIsValidLedgerSpec.post enc Try.prog Try.f5 false true false false) := by
  refine returnsInHanded_of_change (C := Try.checked) own started (by kernel_rfl) Try.func5
    (ChangeSpec.witness6 (enc := enc) (C := Try.checked) false ⟨#[], #[.agg #[.slice none 0 0]], []⟩ 8 (by kernel_rfl) (by kernel_rfl) (by kernel_rfl) (by kernel_rfl)) ?_
  intro W base args ds gs before hval0 hW hcnd _
  have hval : ∀ (j : Nat) t v, Try.f5.params[j]? = some t → args[j]? = some v → Value.okWide Try.prog W .any base t v := hval0
  have hW' := hW
  obtain ⟨p, q, hA0, hV, rfl, hfz, hnd⟩ := hW
  have hA : DataW.TrodAll enc Try.prog W 0 (fun _ => true) true Try.f5.params.toList args.toList ds p := hA0
  rw [Try.params5] at hA hval
  obtain ⟨v0, vs0, d0, ds0, p0, q0, hargs, rfl, rfl, h0, r0⟩ := trodAll_cons hA
  obtain ⟨rfl, rfl, rfl⟩ := trodAll_nil r0
  obtain rfl : args = #[v0] := by cases args; simp_all
  obtain ⟨rfl, rfl⟩ := trodVars_none hV
  have k0 := h0
  have lt0 : ∀ x ∈ p0, x.block < W.heap.size := by obtain ⟨m, hm⟩ := k0; exact DataW.trod_lt m _ _ _ hm
  obtain ⟨cs0, rfl, _⟩ := okWide_struct Try.underlying30 (hval 0 30 v0 rfl rfl)
  obtain ⟨cs0⟩ := cs0
  obtain ⟨x0, hx0⟩ : ∃ x, (rLedger).rd W W.heap.size cs0 x := by obtain ⟨fuel, hf⟩ := h0; exact opensLedger hf
  clear hA0 hval0
  refine (fnExactIsValidLedger_walk W cs0 x0 hx0).mono fun e W' ⟨he, bel⟩ => ?_
  subst he
  exact ⟨_, rfl, _, _, _, [], _, [], hW', trodAll_mk1 (shut_bool Try.underlying4 _), (trodAll_cons_mk (Below.trod laidOut (by kernel_rfl) (of_decide_eq_true (by kernel_rfl)) k0 bel lt0) trodAll_mk0), rfl, bel.frame _, fun h => by cases h⟩
theorem over : Rows.fnExactIsValidLedgerRow.holds Try.pinned (OpenSpec.ofChange Rows.fnExactIsValidLedgerSpec) :=
  OpenClaim.holds_of_wide 5 Try.f5 rfl rfl rfl rfl rfl rfl rfl ⟨rfl, rfl, rfl, rfl, rfl⟩ rfl rfl rfl rfl rfl (by kernel_rfl) Try.func5 (by kernel_rfl)
    (of_decide_eq_true (by kernel_rfl)) (by unfold Func.isWrapper; first | (rw [if_pos (by decide +kernel)]; kernel_rfl) | (rw [if_neg (by decide +kernel)]; exact ⟨rfl, rfl⟩))
    (fun os started H enc _ => lifted os started H enc)
/-- the statement -/
theorem proved : Rows.FnExactIsValidLedgerSaid := over
end fnExactIsValidLedger
end Go.Proofs.Ytpjflcllpmjjiaa

/- Proved: FnExactHonestNodes returns true for every input, and its arguments read afterwards as before. No condition. -/
import Derived.Test.YtpjflcllpmjjiaaHonestNodes
import Derived.Test.YtpjflcllpmjjiaaOpen
namespace Go.Proofs.Ytpjflcllpmjjiaa
open Go.RowKit
set_option linter.unusedVariables false
set_option linter.unusedSimpArgs false

set_option maxHeartbeats 4000000 in
set_option maxRecDepth 100000 in
theorem fnExactHonestNodes_walk (w : World) (pBehaviors_v : Value) (pBehaviors : (List Int)) (pBehaviors_h : rIntS.rd w w.heap.size [pBehaviors_v] pBehaviors) : Calls Try.prog 4 #[pBehaviors_v] w fun e w' => e = .returned (.bool true) ∧ Below w.heap.size w w' := by
  have pBehaviors_g := pBehaviors_h
  obtain ⟨pBehaviors_A, pBehaviors_c, rfl, pBehaviors_l, pBehaviors_m⟩ := rd_slice pBehaviors_g
  unfold maxLen at pBehaviors_m
  clear pBehaviors_g
  have bt : Below w.heap.size w w := Below.refl _ _
  by_cases a0 : pBehaviors.length ≤ 1048576
  case neg =>
    go_enter Try.func4, Try.ntmps4
    go_wp2_with fail
    go_ret
    exact ⟨rfl, bt⟩
  have a0' : szIntS pBehaviors ≤ 1048576 := a0
  go_enter Try.func4, Try.ntmps4
  go_wp2_with fail
  refine calls_at fun T1 hT => ?_
  have z1 : w.heap.size ≤ T1.heap.size := by rw [hT]; simp
  replace bt : Below w.heap.size w T1 := by rw [hT]; exact bt
  clear hT
  refine (toIntS_c _ _ pBehaviors (rd_now pBehaviors_h bt) (by omega)).mono ?_
  intro e w1 h1
  obtain ⟨t1_v, t1_F, rfl, t1_o, b1⟩ := h1.slice_of
  have t1_lt : ∀ b ∈ t1_F, b < w1.heap.size := t1_o.lt
  have t1_ge : ∀ b ∈ t1_F, T1.heap.size ≤ b := t1_o.2.2
  replace bt := below_call bt b1
  have s1 := b1.size
  go_wp2_with fail
  refine calls_at fun T2 hT => ?_
  have z2 : w1.heap.size ≤ T2.heap.size := by rw [hT]; simp
  replace bt : Below w.heap.size w T2 := by rw [hT]; exact bt
  replace t1_o := (show Own _ _ T2 _ _ _ by rw [hT]; exact t1_o)
  clear hT
  refine (specHonestNodes_c _ _ pBehaviors t1_o.rd (by omega)).mono ?_
  intro e w2 h2
  obtain ⟨w0_v, w0_F, rfl, w0_o, b2⟩ := h2.slice_of
  have w0_lt : ∀ b ∈ w0_F, b < w2.heap.size := w0_o.lt
  have w0_ge : ∀ b ∈ w0_F, T2.heap.size ≤ b := w0_o.2.2
  replace bt := below_call bt b2
  have s2 := b2.size
  replace t1_o := t1_o.below b2
  go_wp2_with fail
  refine calls_at fun T3 hT => ?_
  have z3 : w2.heap.size ≤ T3.heap.size := by rw [hT]; simp
  replace bt : Below w.heap.size w T3 := by rw [hT]; exact bt
  replace t1_o := (show Own _ _ T3 _ _ _ by rw [hT]; exact t1_o)
  replace w0_o := (show Own _ _ T3 _ _ _ by rw [hT]; exact w0_o)
  clear hT
  refine (toIntS_c _ _ pBehaviors (rd_now pBehaviors_h bt) (by omega)).mono ?_
  intro e w3 h3
  obtain ⟨x0_v, x0_F, rfl, x0_o, b3⟩ := h3.slice_of
  have x0_lt : ∀ b ∈ x0_F, b < w3.heap.size := x0_o.lt
  have x0_ge : ∀ b ∈ x0_F, T3.heap.size ≤ b := x0_o.2.2
  replace bt := below_call bt b3
  have s3 := b3.size
  replace t1_o := t1_o.below b3
  replace w0_o := w0_o.below b3
  go_wp2_with fail
  refine calls_at fun T4 hT => ?_
  have z4 : w3.heap.size ≤ T4.heap.size := by rw [hT]; simp
  replace bt : Below w.heap.size w T4 := by rw [hT]; exact bt
  replace t1_o := (show Own _ _ T4 _ _ _ by rw [hT]; exact t1_o)
  replace w0_o := (show Own _ _ T4 _ _ _ by rw [hT]; exact w0_o)
  replace x0_o := (show Own _ _ T4 _ _ _ by rw [hT]; exact x0_o)
  clear hT
  refine (implHonestNodes_c _ _ pBehaviors x0_o.rd (by omega)).mono ?_
  intro e w4 h4
  obtain ⟨g0_v, g0_F, rfl, g0_o, b4⟩ := h4.slice_of
  have g0_lt : ∀ b ∈ g0_F, b < w4.heap.size := g0_o.lt
  have g0_ge : ∀ b ∈ g0_F, T4.heap.size ≤ b := g0_o.2.2
  replace bt := below_call bt b4
  have s4 := b4.size
  replace t1_o := t1_o.below b4
  replace w0_o := w0_o.below b4
  replace x0_o := x0_o.below b4
  go_wp2_with fail
  refine calls_at fun T5 hT => ?_
  have z5 : w4.heap.size ≤ T5.heap.size := by rw [hT]; simp
  replace bt : Below w.heap.size w T5 := by rw [hT]; exact bt
  replace t1_o := (show Own _ _ T5 _ _ _ by rw [hT]; exact t1_o)
  replace w0_o := (show Own _ _ T5 _ _ _ by rw [hT]; exact w0_o)
  replace x0_o := (show Own _ _ T5 _ _ _ by rw [hT]; exact x0_o)
  replace g0_o := (show Own _ _ T5 _ _ _ by rw [hT]; exact g0_o)
  clear hT
  refine (eqIntS_c _ _ _ _ g0_o.rd w0_o.rd).mono ?_
  rintro e w5 ⟨rfl, b5⟩
  replace bt := below_call bt b5
  have s5 := b5.size
  replace t1_o := t1_o.below b5
  replace w0_o := w0_o.below b5
  replace x0_o := x0_o.below b5
  replace g0_o := g0_o.below b5
  go_wp2_with fail
  refine calls_at fun T6 hT => ?_
  have z6 : w5.heap.size ≤ T6.heap.size := by rw [hT]; simp
  replace bt : Below w.heap.size w T6 := by rw [hT]; exact bt
  replace t1_o := (show Own _ _ T6 _ _ _ by rw [hT]; exact t1_o)
  replace w0_o := (show Own _ _ T6 _ _ _ by rw [hT]; exact w0_o)
  replace x0_o := (show Own _ _ T6 _ _ _ by rw [hT]; exact x0_o)
  replace g0_o := (show Own _ _ T6 _ _ _ by rw [hT]; exact g0_o)
  clear hT
  refine (toIntS_c _ _ pBehaviors (rd_now pBehaviors_h bt) (by omega)).mono ?_
  intro e w6 h6
  obtain ⟨t6_v, t6_F, rfl, t6_o, b6⟩ := h6.slice_of
  have t6_lt : ∀ b ∈ t6_F, b < w6.heap.size := t6_o.lt
  have t6_ge : ∀ b ∈ t6_F, T6.heap.size ≤ b := t6_o.2.2
  replace bt := below_call bt b6
  have s6 := b6.size
  replace t1_o := t1_o.below b6
  replace w0_o := w0_o.below b6
  replace x0_o := x0_o.below b6
  replace g0_o := g0_o.below b6
  go_wp2_with fail
  refine calls_at fun T7 hT => ?_
  have z7 : w6.heap.size ≤ T7.heap.size := by rw [hT]; simp
  replace bt : Below w.heap.size w T7 := by rw [hT]; exact bt
  replace t1_o := (show Own _ _ T7 _ _ _ by rw [hT]; exact t1_o)
  replace w0_o := (show Own _ _ T7 _ _ _ by rw [hT]; exact w0_o)
  replace x0_o := (show Own _ _ T7 _ _ _ by rw [hT]; exact x0_o)
  replace g0_o := (show Own _ _ T7 _ _ _ by rw [hT]; exact g0_o)
  replace t6_o := (show Own _ _ T7 _ _ _ by rw [hT]; exact t6_o)
  clear hT
  refine (eqIntS_c _ _ _ _ x0_o.rd t6_o.rd).mono ?_
  rintro e w7 ⟨rfl, b7⟩
  replace bt := below_call bt b7
  have s7 := b7.size
  replace t1_o := t1_o.below b7
  replace w0_o := w0_o.below b7
  replace x0_o := x0_o.below b7
  replace g0_o := g0_o.below b7
  replace t6_o := t6_o.below b7
  have x0_n : (Mk.list Mk.int).n pBehaviors ≤ 8388608 := by have := cntIntS_le pBehaviors; omega
  go_wp2_with fail
  refine calls_at fun T8 hT => ?_
  have z8 : w7.heap.size ≤ T8.heap.size := by rw [hT]; simp
  replace bt : Below w.heap.size w T8 := by rw [hT]; exact bt
  replace t1_o := (show Own _ _ T8 _ _ _ by rw [hT]; exact t1_o)
  replace w0_o := (show Own _ _ T8 _ _ _ by rw [hT]; exact w0_o)
  replace x0_o := (show Own _ _ T8 _ _ _ by rw [hT]; exact x0_o)
  replace g0_o := (show Own _ _ T8 _ _ _ by rw [hT]; exact g0_o)
  replace t6_o := (show Own _ _ T8 _ _ _ by rw [hT]; exact t6_o)
  clear hT
  refine (markIntS_c _ _ _ _ _ _ x0_o (by omega) (by omega) (by omega)).mono ?_
  rintro e w8 ⟨rfl, x0_o, e8⟩
  replace bt := bt.trans (e8.below bt.size (fun b hb => by have := x0_ge b hb; omega))
  have s8 := e8.size
  replace t1_o := t1_o.same e8 (fun b h1 h2 => by have := t1_lt b h1; have := x0_ge b h2; omega)
  replace w0_o := w0_o.same e8 (fun b h1 h2 => by have := w0_lt b h1; have := x0_ge b h2; omega)
  replace g0_o := g0_o.same e8 (fun b h1 h2 => by have := g0_ge b h1; have := x0_lt b h2; omega)
  replace t6_o := t6_o.same e8 (fun b h1 h2 => by have := t6_ge b h1; have := x0_lt b h2; omega)
  go_wp2_with fail
  refine calls_at fun T9 hT => ?_
  have z9 : w8.heap.size ≤ T9.heap.size := by rw [hT]; simp
  replace bt : Below w.heap.size w T9 := by rw [hT]; exact bt
  replace t1_o := (show Own _ _ T9 _ _ _ by rw [hT]; exact t1_o)
  replace w0_o := (show Own _ _ T9 _ _ _ by rw [hT]; exact w0_o)
  replace x0_o := (show Own _ _ T9 _ _ _ by rw [hT]; exact x0_o)
  replace g0_o := (show Own _ _ T9 _ _ _ by rw [hT]; exact g0_o)
  replace t6_o := (show Own _ _ T9 _ _ _ by rw [hT]; exact t6_o)
  clear hT
  refine (eqIntS_c _ _ _ _ g0_o.rd w0_o.rd).mono ?_
  rintro e w9 ⟨rfl, b9⟩
  replace bt := below_call bt b9
  have s9 := b9.size
  replace t1_o := t1_o.below b9
  replace w0_o := w0_o.below b9
  replace x0_o := x0_o.below b9
  replace g0_o := g0_o.below b9
  replace t6_o := t6_o.below b9
  have g0_n : (Mk.list Mk.int).n (dHonestNodes pBehaviors) ≤ 1000000000000 := dHonestNodes_cnt _ (by omega)
  go_wp2_with fail
  refine calls_at fun T10 hT => ?_
  have z10 : w9.heap.size ≤ T10.heap.size := by rw [hT]; simp
  replace bt : Below w.heap.size w T10 := by rw [hT]; exact bt
  replace t1_o := (show Own _ _ T10 _ _ _ by rw [hT]; exact t1_o)
  replace w0_o := (show Own _ _ T10 _ _ _ by rw [hT]; exact w0_o)
  replace x0_o := (show Own _ _ T10 _ _ _ by rw [hT]; exact x0_o)
  replace g0_o := (show Own _ _ T10 _ _ _ by rw [hT]; exact g0_o)
  replace t6_o := (show Own _ _ T10 _ _ _ by rw [hT]; exact t6_o)
  clear hT
  refine (markIntS_c _ _ _ _ _ _ g0_o (by omega) (by omega) (by omega)).mono ?_
  rintro e w10 ⟨rfl, g0_o, e10⟩
  replace bt := bt.trans (e10.below bt.size (fun b hb => by have := g0_ge b hb; omega))
  have s10 := e10.size
  replace t1_o := t1_o.same e10 (fun b h1 h2 => by have := t1_lt b h1; have := g0_ge b h2; omega)
  replace w0_o := w0_o.same e10 (fun b h1 h2 => by have := w0_lt b h1; have := g0_ge b h2; omega)
  replace x0_o := x0_o.same e10 (fun b h1 h2 => by have := x0_lt b h1; have := g0_ge b h2; omega)
  replace t6_o := t6_o.same e10 (fun b h1 h2 => by have := t6_ge b h1; have := g0_lt b h2; omega)
  go_wp2_with fail
  refine calls_at fun T11 hT => ?_
  have z11 : w10.heap.size ≤ T11.heap.size := by rw [hT]; simp
  replace bt : Below w.heap.size w T11 := by rw [hT]; exact bt
  replace t1_o := (show Own _ _ T11 _ _ _ by rw [hT]; exact t1_o)
  replace w0_o := (show Own _ _ T11 _ _ _ by rw [hT]; exact w0_o)
  replace x0_o := (show Own _ _ T11 _ _ _ by rw [hT]; exact x0_o)
  replace g0_o := (show Own _ _ T11 _ _ _ by rw [hT]; exact g0_o)
  replace t6_o := (show Own _ _ T11 _ _ _ by rw [hT]; exact t6_o)
  clear hT
  refine (heldIntS_c _ _ _ _ g0_o.rd (by omega) (by omega)).mono ?_
  rintro e w11 ⟨rfl, b11⟩
  replace bt := below_call bt b11
  have s11 := b11.size
  replace t1_o := t1_o.below b11
  replace w0_o := w0_o.below b11
  replace x0_o := x0_o.below b11
  replace g0_o := g0_o.below b11
  replace t6_o := t6_o.below b11
  go_wp2_with fail
  refine calls_at fun T12 hT => ?_
  have z12 : w11.heap.size ≤ T12.heap.size := by rw [hT]; simp
  replace bt : Below w.heap.size w T12 := by rw [hT]; exact bt
  replace t1_o := (show Own _ _ T12 _ _ _ by rw [hT]; exact t1_o)
  replace w0_o := (show Own _ _ T12 _ _ _ by rw [hT]; exact w0_o)
  replace x0_o := (show Own _ _ T12 _ _ _ by rw [hT]; exact x0_o)
  replace g0_o := (show Own _ _ T12 _ _ _ by rw [hT]; exact g0_o)
  replace t6_o := (show Own _ _ T12 _ _ _ by rw [hT]; exact t6_o)
  clear hT
  refine (toIntS_c _ _ pBehaviors (rd_now pBehaviors_h bt) (by omega)).mono ?_
  intro e w12 h12
  obtain ⟨t12_v, t12_F, rfl, t12_o, b12⟩ := h12.slice_of
  have t12_lt : ∀ b ∈ t12_F, b < w12.heap.size := t12_o.lt
  have t12_ge : ∀ b ∈ t12_F, T12.heap.size ≤ b := t12_o.2.2
  replace bt := below_call bt b12
  have s12 := b12.size
  replace t1_o := t1_o.below b12
  replace w0_o := w0_o.below b12
  replace x0_o := x0_o.below b12
  replace g0_o := g0_o.below b12
  replace t6_o := t6_o.below b12
  go_wp2_with fail
  refine calls_at fun T13 hT => ?_
  have z13 : w12.heap.size ≤ T13.heap.size := by rw [hT]; simp
  replace bt : Below w.heap.size w T13 := by rw [hT]; exact bt
  replace t1_o := (show Own _ _ T13 _ _ _ by rw [hT]; exact t1_o)
  replace w0_o := (show Own _ _ T13 _ _ _ by rw [hT]; exact w0_o)
  replace x0_o := (show Own _ _ T13 _ _ _ by rw [hT]; exact x0_o)
  replace g0_o := (show Own _ _ T13 _ _ _ by rw [hT]; exact g0_o)
  replace t6_o := (show Own _ _ T13 _ _ _ by rw [hT]; exact t6_o)
  replace t12_o := (show Own _ _ T13 _ _ _ by rw [hT]; exact t12_o)
  clear hT
  refine (implHonestNodes_c _ _ pBehaviors t12_o.rd (by omega)).mono ?_
  intro e w13 h13
  obtain ⟨h0_v, h0_F, rfl, h0_o, b13⟩ := h13.slice_of
  have h0_lt : ∀ b ∈ h0_F, b < w13.heap.size := h0_o.lt
  have h0_ge : ∀ b ∈ h0_F, T13.heap.size ≤ b := h0_o.2.2
  replace bt := below_call bt b13
  have s13 := b13.size
  replace t1_o := t1_o.below b13
  replace w0_o := w0_o.below b13
  replace x0_o := x0_o.below b13
  replace g0_o := g0_o.below b13
  replace t6_o := t6_o.below b13
  replace t12_o := t12_o.below b13
  go_wp2_with fail
  refine calls_at fun T14 hT => ?_
  have z14 : w13.heap.size ≤ T14.heap.size := by rw [hT]; simp
  replace bt : Below w.heap.size w T14 := by rw [hT]; exact bt
  replace t1_o := (show Own _ _ T14 _ _ _ by rw [hT]; exact t1_o)
  replace w0_o := (show Own _ _ T14 _ _ _ by rw [hT]; exact w0_o)
  replace x0_o := (show Own _ _ T14 _ _ _ by rw [hT]; exact x0_o)
  replace g0_o := (show Own _ _ T14 _ _ _ by rw [hT]; exact g0_o)
  replace t6_o := (show Own _ _ T14 _ _ _ by rw [hT]; exact t6_o)
  replace t12_o := (show Own _ _ T14 _ _ _ by rw [hT]; exact t12_o)
  replace h0_o := (show Own _ _ T14 _ _ _ by rw [hT]; exact h0_o)
  clear hT
  refine (eqIntS_c _ _ _ _ h0_o.rd w0_o.rd).mono ?_
  rintro e w14 ⟨rfl, b14⟩
  replace bt := below_call bt b14
  have s14 := b14.size
  replace t1_o := t1_o.below b14
  replace w0_o := w0_o.below b14
  replace x0_o := x0_o.below b14
  replace g0_o := g0_o.below b14
  replace t6_o := t6_o.below b14
  replace t12_o := t12_o.below b14
  replace h0_o := h0_o.below b14
  go_wp2_with fail
  refine calls_at fun T15 hT => ?_
  have z15 : w14.heap.size ≤ T15.heap.size := by rw [hT]; simp
  replace bt : Below w.heap.size w T15 := by rw [hT]; exact bt
  replace t1_o := (show Own _ _ T15 _ _ _ by rw [hT]; exact t1_o)
  replace w0_o := (show Own _ _ T15 _ _ _ by rw [hT]; exact w0_o)
  replace x0_o := (show Own _ _ T15 _ _ _ by rw [hT]; exact x0_o)
  replace g0_o := (show Own _ _ T15 _ _ _ by rw [hT]; exact g0_o)
  replace t6_o := (show Own _ _ T15 _ _ _ by rw [hT]; exact t6_o)
  replace t12_o := (show Own _ _ T15 _ _ _ by rw [hT]; exact t12_o)
  replace h0_o := (show Own _ _ T15 _ _ _ by rw [hT]; exact h0_o)
  clear hT
  refine (heldIntS_c _ _ _ _ g0_o.rd (by omega) (by omega)).mono ?_
  rintro e w15 ⟨rfl, b15⟩
  replace bt := below_call bt b15
  have s15 := b15.size
  replace t1_o := t1_o.below b15
  replace w0_o := w0_o.below b15
  replace x0_o := x0_o.below b15
  replace g0_o := g0_o.below b15
  replace t6_o := t6_o.below b15
  replace t12_o := t12_o.below b15
  replace h0_o := h0_o.below b15
  go_wp2_with fail
  go_ret
  exact ⟨rfl, bt⟩

namespace fnExactHonestNodes
open Go.ChangeShapes Go.WideShapes Go.ChangeAt Go.RowKit
theorem own : ownKnob Try.prog.godebug = none := by kernel_rfl
theorem laidOut : laidOutB Try.prog = true := by kernel_rfl
set_option maxRecDepth 100000 in
theorem lifted (os : Os) (started : os.Started) (H : Type) (enc : TypeId × Value → H) :
    ReturnsInHanded {} Try.checked os 4 .any (Rows.fnExactHonestNodesSpec.pre6 enc Try.prog Try.f4 Rows.fnExactHonestNodesRow.domain false) (Rows.fnExactHonestNodesSpec.post enc Try.prog Try.f4 false true false false) := by
  refine returnsInHanded_of_change (C := Try.checked) own started (by kernel_rfl) Try.func4
    (ChangeSpec.witness6 (enc := enc) (C := Try.checked) false ⟨#[], #[.slice none 0 0], []⟩ 8 (by kernel_rfl) (by kernel_rfl) (by kernel_rfl) (by kernel_rfl)) ?_
  intro W base args ds gs before hval0 hW hcnd _
  have hval : ∀ (j : Nat) t v, Try.f4.params[j]? = some t → args[j]? = some v → Value.okWide Try.prog W .any base t v := hval0
  have hW' := hW
  obtain ⟨p, q, hA0, hV, rfl, hfz, hnd⟩ := hW
  have hA : DataW.TrodAll enc Try.prog W 0 (fun _ => true) true Try.f4.params.toList args.toList ds p := hA0
  rw [Try.params4] at hA hval
  obtain ⟨v0, vs0, d0, ds0, p0, q0, hargs, rfl, rfl, h0, r0⟩ := trodAll_cons hA
  obtain ⟨rfl, rfl, rfl⟩ := trodAll_nil r0
  obtain rfl : args = #[v0] := by cases args; simp_all
  obtain ⟨rfl, rfl⟩ := trodVars_none hV
  have k0 := h0
  have lt0 : ∀ x ∈ p0, x.block < W.heap.size := by obtain ⟨m, hm⟩ := k0; exact DataW.trod_lt m _ _ _ hm
  obtain ⟨ad0, len0, cap0, rfl⟩ := okWide_slice Try.underlying23 (hval 0 23 v0 rfl rfl)
  obtain ⟨x0, hx0⟩ : ∃ x, (rIntS).rd W W.heap.size [.slice ad0 len0 cap0] x := by obtain ⟨fuel, hf⟩ := h0; exact opensIntS hf
  clear hA0 hval0
  refine (fnExactHonestNodes_walk W _ x0 hx0).mono fun e W' ⟨he, bel⟩ => ?_
  subst he
  exact ⟨_, rfl, _, _, _, [], _, [], hW', trodAll_mk1 (shut_bool Try.underlying4 _), (trodAll_cons_mk (Below.trod laidOut (by kernel_rfl) (of_decide_eq_true (by kernel_rfl)) k0 bel lt0) trodAll_mk0), rfl, bel.frame _, fun h => by cases h⟩
theorem over : Rows.fnExactHonestNodesRow.holds Try.pinned (OpenSpec.ofChange Rows.fnExactHonestNodesSpec) :=
  OpenClaim.holds_of_wide 4 Try.f4 rfl rfl rfl rfl rfl rfl rfl ⟨rfl, rfl, rfl, rfl, rfl⟩ rfl rfl rfl rfl rfl (by kernel_rfl) Try.func4 (by kernel_rfl)
    (of_decide_eq_true (by kernel_rfl)) (by unfold Func.isWrapper; first | (rw [if_pos (by decide +kernel)]; kernel_rfl) | (rw [if_neg (by decide +kernel)]; exact ⟨rfl, rfl⟩))
    (fun os started H enc _ => lifted os started H enc)
/-- the statement -/
theorem proved : Rows.FnExactHonestNodesSaid := over
end fnExactHonestNodes
end Go.Proofs.Ytpjflcllpmjjiaa

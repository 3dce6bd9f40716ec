/- Regions that draw their order and make memory: one walk, in one order, serves every order. No program is named. -/
import Derived.Test.YtekgoacohhdijaaGreatRow
import Derived.OrdersHeld
import Derived.StillTail
namespace Go.Proofs.YtekgoacohhdijaaGreat
open Go.RowKit
section
variable {P : Program} {ops : Array Oper} {Q : Exit → Act → World → Prop} {md : Region.Mode} {S : World → Prop} {need : Nat → Bool}
def wpAnyN (P : Program) (md : Region.Mode) (ops : Array Oper) (Q : Exit → Act → World → Prop) (S : World → Prop) (need : Nat → Bool) : Nat → Array Bool → Act → World → Prop
 | 0, listed, a, w => Region.ready md ops listed = [] ∧ Q .normal a w
 | fuel + 1, listed, a, w =>
  (Region.ready md ops listed = [] → Q .normal a w) ∧
  ∀ i ∈ Region.ready md ops listed, wpOp P ops Q i (fun a' w' => (need i = true → S w') ∧ wpAnyN P md ops Q S need fuel (listed.setIfInBounds i true) a' w') a w
theorem wpAny_of_need : ∀ (fuel : Nat) (listed : Array Bool) (a : Act) (w : World), wpAnyN P md ops Q S need fuel listed a w → wpAny P md ops Q fuel listed a w
 | 0, _, _, _, h => h
 | fuel + 1, _, _, _, h => ⟨h.1, fun i hi => wpOp_mono (fun a' w' h' => wpAny_of_need fuel _ a' w' h'.2) (h.2 i hi)⟩
def ClosedL (md : Region.Mode) (ops : Array Oper) (listed : Array Bool) : Prop :=
 ∀ (j : Nat) (oj : Oper), ops[j]? = some oj → listed.getD j false = true → ∀ e ∈ oj.after, Region.binds md e = true → listed.getD e.on false = true
theorem ClosedL.set {listed : Array Bool} {i : Nat} (h : ClosedL md ops listed) (hi : i ∈ Region.ready md ops listed) : ClosedL md ops (listed.setIfInBounds i true) := by
 obtain ⟨_, oi, hoi, hall⟩ := mem_ready.1 hi
 intro j oj hj hl e he hb
 by_cases hij : i = j
 ·subst hij
  have : oj = oi := Option.some.inj (hj.symm.trans hoi)
  subst this
  exact getD_set_true (hall e he hb)
 ·rw [getD_set_ne false hij] at hl
  exact getD_set_true (h j oj hj hl e he hb)
def succB (md : Region.Mode) (ops : Array Oper) : Nat → Nat → Nat → Bool
 | 0, _, _ => false
 | n + 1, i, j => match ops[j]? with
  | some oj => oj.after.any fun e => Region.binds md e && (e.on == i || succB md ops n i e.on)
  | none => false
theorem succB_listed {listed : Array Bool} (hc : ClosedL md ops listed) : ∀ (n i j : Nat), succB md ops n i j = true → listed.getD j false = true → listed.getD i false = true
 | 0, _, _, h, _ => by simp [succB] at h
 | n + 1, i, j, h, hl => by
  unfold succB at h
  split at h
  ·rename_i oj hj
   obtain ⟨e, he, hb⟩ := Array.any_eq_true'.1 h
   simp only [Bool.and_eq_true, Bool.or_eq_true, beq_iff_eq] at hb
   have h1 := hc j oj hj hl e he hb.1
   rcases hb.2 with h2 | h2
   ·rw [← h2]; exact h1
   ·exact succB_listed hc n i e.on h2 h1
  ·cases h
theorem succB_ready {listed : Array Bool} (hc : ClosedL md ops listed) {n i j : Nat} (h : succB md ops n i j = true) (hr : j ∈ Region.ready md ops listed) : listed.getD i false = true := by
 obtain ⟨_, oj, hoj, hall⟩ := mem_ready.1 hr
 cases n with
 | zero => simp [succB] at h
 | succ n =>
  unfold succB at h
  simp only [hoj] at h
  obtain ⟨e, he, hb⟩ := Array.any_eq_true'.1 h
  simp only [Bool.and_eq_true, Bool.or_eq_true, beq_iff_eq] at hb
  have h1 := hall e he hb.1
  rcases hb.2 with h2 | h2
  ·rw [← h2]; exact h1
  ·exact succB_listed hc n i e.on h2 h1
theorem not_listed {listed : Array Bool} {i : Nat} (h : listed.getD i true = false) (h' : listed.getD i false = true) : False := by
 rcases Nat.lt_or_ge i listed.size with hl | hl
 ·simp [hl] at h h'; rw [h] at h'; cases h'
 ·simp [Array.getElem?_eq_none hl] at h'
theorem wpAnyN_first {n i : Nat} {oi : Oper} {v : Value} (hi : ops[i]? = some oi) (hsel : ∀ (j : Nat) (o : Oper) cs b, ops[j]? = some o → o.op ≠ .select cs b)
  (hQ : ∀ c a w, Q (.panic c) (a.put oi.dst v) w → Q (.panic c) a w) (hneed : ∀ j, j ≠ i → need j = true ∨ succB md ops n i j = true ∨ j ≥ ops.size) :
  ∀ (fuel : Nat) (listed : Array Bool) (a : Act) (w : World), ClosedL md ops listed →
   (∀ j oj, ops[j]? = some oj → j ≠ i → listed.getD j true = false → (∀ e ∈ oj.after, Region.binds md e = true → e.on ≠ i) → oi.apart ops oj = true) →
   i ∈ Region.ready md ops listed → YieldsIf P ops S oi v a → S w →
   wpAnyN P md ops Q S need fuel (listed.setIfInBounds i true) (a.put oi.dst v) w → wpAnyN P md ops Q S need (fuel + 1) listed a w := by
 intro fuel
 induction fuel with
 | zero =>
  intro listed a w _ _ hr hy hS H
  refine ⟨fun h => (by rw [h] at hr; cases hr), fun j hj => ?_⟩
  by_cases hji : j = i
  ·subst hji; exact hy.wpOp hi hS ⟨fun _ => hS, H⟩
  ·have := ready_mono hj hji
   rw [H.1] at this
   cases this
 | succ fuel ih =>
  intro listed a w hcl hfree hr hy hS H
  refine ⟨fun h => (by rw [h] at hr; cases hr), fun j hj => ?_⟩
  by_cases hji : j = i
  ·subst hji; exact hy.wpOp hi hS ⟨fun _ => hS, H⟩
  ·have h1 := H.2 j (ready_mono hj hji)
   obtain ⟨hjun, oj, hoj, hall⟩ := mem_ready.1 hj
   have hiun := (mem_ready.1 hr).1
   have hnj : need j = true := by
    rcases hneed j hji with h | h | h
    ·exact h
    ·exact (not_listed hiun (succB_ready hcl h hj)).elim
    ·have := (Array.getElem?_eq_some_iff.1 hoj).1; omega
   have hnot : ∀ e ∈ oj.after, Region.binds md e = true → e.on ≠ i := fun e he hb heq => not_listed hiun (heq ▸ hall e he hb)
   have h2 := wpOp_putIf hoj (hfree j oj hoj hji hjun hnot) (fun cs b => hsel i oi cs b hi) (fun cs b => hsel j oj cs b hoj) hQ hy h1
   have hfree' : ∀ k ok, ops[k]? = some ok → k ≠ i → (listed.setIfInBounds j true).getD k true = false →
     (∀ e ∈ ok.after, Region.binds md e = true → e.on ≠ i) → oi.apart ops ok = true := fun k ok hk hki hun hno => by
    refine hfree k ok hk hki ?_ hno
    by_cases hjk : j = k
    ·subst hjk; exact hjun
    ·rw [getD_set_ne true hjk] at hun; exact hun
   refine wpOp_mono (fun a' w' h3 => ⟨h3.2.1, ih (listed.setIfInBounds j true) a' w' (hcl.set hj) hfree' (ready_mono hr (Ne.symm hji)) h3.1 (h3.2.1 hnj) ?_⟩) h2
   rw [Array.setIfInBounds_comm _ _ hji]
   exact h3.2.2
def valueOp : Op → Bool
 | .move _ | .assign _ | .pick _ _ _ | .build _ _ | .load _ _ | .binOp _ _ _ _ _ | .unOp _ _ _ | .convert _ _ _ | .makeFunc _ _ _ | .slice _ _ _ _ _ | .fieldAddr _ _ _ | .field _ _ _ | .indexAddr _ _ _ | .index _ _ _ | .extract _ _ => true
 | .call c => match c.callee with | .builtin .len => true | .builtin .min => true | .builtin .max => true | _ => false
 | _ => false
theorem andThen_value {s : Sem Value} {w : World} {n : Next} {w' : World} (h : (do pure (.value (← s)) : Sem Next).run P w = .ok n w') : ∃ u, n = .value u := by
 simp only [Sem.run_bind, Sem.run_pure] at h
 cases hs : s.run P w with
 | ok a w1 => rw [hs] at h; simp only [Result.andThen_ok, Result.ok.injEq] at h; exact ⟨a, h.1.symm⟩
 | halt x w1 => rw [hs] at h; simp [Result.andThen] at h
theorem valueOp_value {o : Oper} (ho : valueOp o.op = true) {a : Act} {w : World} {n : Next} {w' : World} (h : (execOp a.eval o).run P w = .ok n w') : ∃ u, n = .value u := by
 unfold execOp at h
 cases hop : o.op <;> rw [hop] at ho h <;> simp only [valueOp, Bool.false_eq_true] at ho
 case move => simp only [Sem.run_pure, Result.ok.injEq] at h; exact ⟨_, h.1.symm⟩
 case assign => simp only [Sem.run_pure, Result.ok.injEq] at h; exact ⟨_, h.1.symm⟩
 case pick c x y =>
  simp only [Sem.run_bind, Sem.run_pure] at h
  cases hs : (asBool (a.eval c)).run P w with
  | ok b w1 => rw [hs] at h; simp only [Result.andThen_ok, Result.ok.injEq] at h; exact ⟨_, h.1.symm⟩
  | halt x w1 => rw [hs] at h; simp [Result.andThen] at h
 case call c =>
  obtain ⟨callee, args, ats⟩ := c
  cases callee with
  | builtin b =>
   cases b <;> simp only [Bool.false_eq_true] at ho
   all_goals
    simp only [resolve, invoke, builtin, Sem.run_bind, Sem.run_pure, Result.andThen_ok] at h
    exact andThen_value (by simpa only [Sem.run_bind, Sem.run_pure] using h)
  | _ => simp at ho
 all_goals exact andThen_value h
theorem quiet_yields {o : Oper} (ho : valueOp o.op = true) {a : Act} {next : Act → Prop} (hw : Region.wanted o (yielded ops a.tmps) = true) (h : o.quiet P a S next) : ∃ v, YieldsIf P ops S o v a ∧ next (a.put o.dst v) := by
 obtain ⟨v, h1, h2⟩ := h
 refine ⟨v, .inl ⟨hw, fun w hS => ?_⟩, h2⟩
 have h3 := h1 w hS
 unfold Oper.quietAt at h3
 cases hr : (execOp a.eval o).run P w with
 | ok n w' =>
  obtain ⟨u, rfl⟩ := valueOp_value ho hr
  rw [hr] at h3
  simp only [Oper.quietUpon] at h3
  rw [h3.1, h3.2]
 | halt x w' => rw [hr] at h3; exact h3.elim
def pickOps (l : List Oper) : List Nat → List Oper
 | [] => []
 | i :: is => l.getD i default :: pickOps l is
def wpSeg (P : Program) (l : List Oper) (Q : Exit → Act → World → Prop) (S : World → Prop) (need : Nat → Bool) : List (List Nat × Nat) → List Nat → Act → World → Prop
 | [], last, a, w => wpQuiet P l.toArray S (fun a' => Q .normal a' w) (pickOps l last) a
 | (ls, h) :: rest, last, a, w =>
  wpQuiet P l.toArray S (fun a' => wpList P l.toArray (Exit.then (fun a'' w'' => (need h = true → S w'') ∧ wpSeg P l Q S need rest last a'' w'') Q) [l.getD h default] a' w) (pickOps l ls) a
def lightB (md : Region.Mode) (ops : Array Oper) (need : Nat → Bool) (i : Nat) (listed : Array Bool) : Bool :=
 (Region.ready md ops listed).contains i && Region.free md ops listed i && ((List.range ops.size).all fun j => j == i || need j || succB md ops ops.size i j) && (match ops[i]? with | some o => valueOp o.op | none => false)
def lightsB (md : Region.Mode) (ops : Array Oper) (need : Nat → Bool) : List Nat → Array Bool → Bool
 | [], _ => true
 | i :: is, listed => lightB md ops need i listed && lightsB md ops need is (listed.setIfInBounds i true)
def setAll : List Nat → Array Bool → Array Bool
 | [], listed => listed
 | i :: is, listed => setAll is (listed.setIfInBounds i true)
def noLights (segs : List (List Nat × Nat)) (last : List Nat) : Bool := (segs.all fun s => s.1.isEmpty) && last.isEmpty
def countSeg : List (List Nat × Nat) → List Nat → Nat
 | [], last => last.length
 | (ls, _) :: rest, last => countSeg rest last + 1 + ls.length
def segB (md : Region.Mode) (ops : Array Oper) (need : Nat → Bool) : List (List Nat × Nat) → List Nat → Array Bool → Bool
 | [], last, listed => lightsB md ops need last listed && (Region.ready md ops (setAll last listed)).isEmpty
 | (ls, h) :: rest, last, listed => lightsB md ops need ls listed && (Region.ready md ops (setAll ls listed) == [h]) && (need h || noLights rest last) && segB md ops need rest last ((setAll ls listed).setIfInBounds h true)
def needOf (md : Region.Mode) (ops : Array Oper) (lights : List Nat) (j : Nat) : Bool := lights.any fun i => i != j && !succB md ops ops.size i j
theorem wpQuiet_mono' {K K' : Act → Prop} (hk : ∀ a, K a → K' a) : ∀ {ls : List Oper} {a : Act}, wpQuiet P ops S K ls a → wpQuiet P ops S K' ls a
 | [], a, h => hk a h
 | o :: rest, a, h => by
  unfold wpQuiet at h ⊢
  split
  ·rename_i hw; rw [if_pos hw] at h; exact Oper.quiet_mono (fun a h => wpQuiet_mono' hk h) h
  ·rename_i hw; rw [if_neg hw] at h; exact wpQuiet_mono' hk h
theorem lights_walk {l : List Oper} (hs : Region.noSelect l.toArray = true) (hQ : ∀ c a d v w, Q (.panic c) (a.put d v) w → Q (.panic c) a w) {w : World} (hS : S w) :
  ∀ (ls : List Nat) (fuel : Nat) (listed : Array Bool) (a : Act), ClosedL md l.toArray listed → lightsB md l.toArray need ls listed = true →
   wpQuiet P l.toArray S (fun a' => ∀ listed', listed' = setAll ls listed → ClosedL md l.toArray listed' → wpAnyN P md l.toArray Q S need fuel listed' a' w) (pickOps l ls) a →
   wpAnyN P md l.toArray Q S need (fuel + ls.length) listed a w := by
 intro ls
 induction ls with
 | nil => intro fuel listed a hcl _ h; exact h listed rfl hcl
 | cons i is ih =>
  intro fuel listed a hcl hB h
  simp only [lightsB, lightB, Bool.and_eq_true] at hB
  obtain ⟨⟨⟨⟨hr, hf⟩, hn⟩, hv⟩, hB'⟩ := hB
  have hr' : i ∈ Region.ready md l.toArray listed := by simpa using hr
  obtain ⟨_, oi, hoi, _⟩ := mem_ready.1 hr'
  have hgd : l.getD i default = oi := by
   rw [List.getElem?_toArray] at hoi
   rw [List.getD_eq_getElem?_getD, hoi]; rfl
  rw [hoi] at hv
  simp only at hv
  have hneed : ∀ j, j ≠ i → need j = true ∨ succB md l.toArray l.toArray.size i j = true ∨ j ≥ l.toArray.size := by
   intro j hj
   rcases Nat.lt_or_ge j l.toArray.size with hlt | hge
   ·have := List.all_eq_true.1 hn j (List.mem_range.2 hlt)
    simp only [Bool.or_eq_true, beq_iff_eq] at this
    rcases this with (h | h) | h
    ·exact absurd h hj
    ·exact .inl h
    ·exact .inr (.inl h)
   ·exact .inr (.inr hge)
  rw [pickOps, hgd, wpQuiet] at h
  have hex : ∃ v, YieldsIf P l.toArray S oi v a ∧ wpQuiet P l.toArray S (fun a' => ∀ listed', listed' = setAll (i :: is) listed → ClosedL md l.toArray listed' → wpAnyN P md l.toArray Q S need fuel listed' a' w) (pickOps l is) (a.put oi.dst v) := by
   split at h
   ·rename_i hw
    exact quiet_yields hv hw h
   ·rename_i hw
    exact ⟨undef, .inr ⟨by simpa using hw, rfl⟩, h⟩
  obtain ⟨v, hy, hk⟩ := hex
  rw [List.length_cons, ← Nat.add_assoc]
  exact wpAnyN_first hoi (Region.noSelect_spec hs) (fun c a w h => hQ c a _ _ w h) hneed (fuel + is.length) listed a w hcl (Region.free_spec hoi hf) hr' hy hS
   (ih fuel _ _ (hcl.set hr') hB' hk)
theorem ClosedL.setAll {l : List Oper} : ∀ (ls : List Nat) (listed : Array Bool), ClosedL md l.toArray listed → lightsB md l.toArray need ls listed = true → ClosedL md l.toArray (setAll ls listed)
 | [], _, h, _ => h
 | i :: is, listed, h, hB => by
  simp only [lightsB, lightB, Bool.and_eq_true] at hB
  exact ClosedL.setAll is _ (h.set (by simpa using hB.1.1.1.1)) hB.2
theorem wpOp_of_list {l : List Oper} {h : Nat} {o : Oper} {K : Act → World → Prop} {a : Act} {w : World} (ho : l[h]? = some o) (hh : wpList P l.toArray (Exit.then K Q) [o] a w) : wpOp P l.toArray Q h K a w := by
 have ho' : l.toArray[h]? = some o := by rw [List.getElem?_toArray]; exact ho
 unfold wpOp
 simp only [ho']
 unfold wpList at hh
 split
 ·rename_i hw
  rw [if_pos hw] at hh
  rcases hh with hh | ⟨ha, a1, w1, hl⟩
  ·left
   unfold Oper.wp at *
   generalize (execOp a.eval o).run P w = r at *
   cases r with
   | ok n w' =>
    cases n <;> simp only [Oper.upon] at hh ⊢ <;> exact hh
   | halt x w' =>
    cases x <;> simp only [Oper.upon] at hh ⊢ <;> exact hh
  ·right
   exact ⟨ha, a1, w1, hl⟩
 ·rename_i hw
  rw [if_neg hw] at hh
  exact hh
theorem seg_walk {l : List Oper} (hs : Region.noSelect l.toArray = true) (hQ : ∀ c a d v w, Q (.panic c) (a.put d v) w → Q (.panic c) a w) (last : List Nat) :
  ∀ (segs : List (List Nat × Nat)) (listed : Array Bool) (a : Act) (w : World), ClosedL md l.toArray listed → segB md l.toArray need segs last listed = true → (noLights segs last = false → S w) →
   wpSeg P l Q S need segs last a w → wpAnyN P md l.toArray Q S need (countSeg segs last) listed a w := by
 intro segs
 induction segs with
 | nil =>
  intro listed a w hcl hB hS h
  simp only [segB, Bool.and_eq_true] at hB
  have hr : Region.ready md l.toArray (setAll last listed) = [] := by simpa using hB.2
  cases last with
  | nil => exact ⟨hr, h⟩
  | cons i is =>
   have hSw := hS (by simp [noLights])
   have := lights_walk (need := need) (fuel := 0) hs hQ hSw (i :: is) listed a hcl hB.1 (by
    refine wpQuiet_mono' (fun a' h' => ?_) h
    rintro _ rfl _
    exact ⟨hr, h'⟩)
   rw [Nat.zero_add] at this
   exact this
 | cons s rest ih =>
  intro listed a w hcl hB hS h
  obtain ⟨ls, hh⟩ := s
  simp only [segB, Bool.and_eq_true] at hB
  obtain ⟨⟨⟨hl, hrd⟩, hnd⟩, hB'⟩ := hB
  have hr : Region.ready md l.toArray (setAll ls listed) = [hh] := by simpa using hrd
  have hcl' := ClosedL.setAll ls listed hcl hl
  have hmem : hh ∈ Region.ready md l.toArray (setAll ls listed) := by rw [hr]; simp
  obtain ⟨_, oh, hoh, _⟩ := mem_ready.1 hmem
  rw [List.getElem?_toArray] at hoh
  have hgd : l.getD hh default = oh := by rw [List.getD_eq_getElem?_getD, hoh]; rfl
  have key : ∀ a', wpList P l.toArray (Exit.then (fun a'' w'' => (need hh = true → S w'') ∧ wpSeg P l Q S need rest last a'' w'') Q) [l.getD hh default] a' w →
    wpAnyN P md l.toArray Q S need (countSeg rest last + 1) (setAll ls listed) a' w := by
   intro a' hk
   rw [hgd] at hk
   refine ⟨fun h0 => (by rw [hr] at h0; cases h0), fun i hi => ?_⟩
   rw [hr] at hi
   simp only [List.mem_singleton] at hi
   subst hi
   refine wpOp_mono (fun a'' w'' h3 => ⟨h3.1, ih _ a'' w'' (hcl'.set hmem) hB' (fun hno => ?_) h3.2⟩) (wpOp_of_list hoh hk)
   rcases Bool.or_eq_true _ _ ▸ hnd with h4 | h4
   ·exact h3.1 h4
   ·rw [h4] at hno; cases hno
  cases ls with
  | nil => exact key a h
  | cons i is =>
   have hSw := hS (by simp [noLights])
   exact lights_walk (need := need) (fuel := countSeg rest last + 1) hs hQ hSw (i :: is) listed a hcl hl (by
    refine wpQuiet_mono' (fun a' h' => ?_) h
    rintro _ rfl _
    exact key a' h')
theorem wp_region_seq {id : Nat} {a : Act} {w : World} {l : List Oper} (B : Nat) (segs : List (List Nat × Nat)) (last : List Nat) (hm : P.follows .mixedOrders = true)
  (hB : (Region.noSelect l.toArray && segB .any l.toArray (needOf .any l.toArray ((segs.flatMap (·.1)) ++ last)) segs last (Array.replicate l.length false) && (countSeg segs last == l.length)) = true)
  (hQ : ∀ c a d v w, Q (.panic c) (a.put d v) w → Q (.panic c) a w)
  (h : wpSeg P l Q (fun w' => ∃ x : Ext B w, w' = x.val) (needOf .any l.toArray ((segs.flatMap (·.1)) ++ last)) segs last a w.drew) : (Code.region id l.toArray true).wp P Q a w := by
 simp only [Bool.and_eq_true, beq_iff_eq] at hB
 obtain ⟨⟨h1, h2⟩, h3⟩ := hB
 have hcl : ClosedL .any l.toArray (Array.replicate l.length false) := by
  intro j oj _ hl
  rw [getD_replicate_false] at hl
  cases hl
 have := seg_walk (P := P) (Q := Q) h1 hQ last segs _ a w.drew hcl h2 (fun _ => ⟨⟨w.drew, (Below.refl B w).drew⟩, rfl⟩) h
 rw [h3] at this
 refine wp_region_any hm (wpAny_of_need _ _ _ _ (S := fun w' => ∃ x : Ext B w, w' = x.val) (need := needOf .any l.toArray ((segs.flatMap (·.1)) ++ last)) ?_)
 simpa using this
theorem wp_region_seqD {id : Nat} {a : Act} {w : World} {l : List Oper} (B : Nat) (segs : List (List Nat × Nat)) (last : List Nat) (hm : P.follows .mixedOrders = true)
  (hB : (Region.noSelect l.toArray && segB .any l.toArray (needOf .any l.toArray ((segs.flatMap (·.1)) ++ last)) segs last (Array.replicate l.length false) && (countSeg segs last == l.length)) = true)
  (hQ : ∀ c a d v w, Q (.panic c) (a.put d v) w → Q (.panic c) a w)
  (h : ∀ D, D = w.drew → wpSeg P l Q (fun w' => ∃ x : Ext B w, w' = x.val) (needOf .any l.toArray ((segs.flatMap (·.1)) ++ last)) segs last a D) : (Code.region id l.toArray true).wp P Q a w :=
 wp_region_seq B segs last hm hB hQ (h _ rfl)
theorem Own.drawn {α : Type} {R : Rp α} {B : Nat} {w D : World} {cs : List Value} {a : α} {F : List Nat} (h : Own R B w cs a F) (hD : D = w.drew) : Own R B D cs a F := by rw [hD]; exact h.keep fun _ _ => rfl
theorem Below.drawn {B : Nat} {w T D : World} (h : Below B w T) (hD : D = T.drew) : Below B w D := by rw [hD]; exact h.drew
end
end Go.Proofs.YtekgoacohhdijaaGreat
